import Derived.Test.YtehmcdmjhdlcgaaGreatDoorLTKQp1
set_option maxRecDepth 100000
set_option linter.unusedVariables false
namespace Go.Abs.TKQ
open Go.RowKit Go.Proofs Go.Abs
noncomputable def L91_4 (p0 : (List S94)) (z0 : Int) : Option (Int ⊕ ((Int × Bool) ⊕ Int)) := (bif (ltI z0 (lenL p0)) then ((listAt p0 z0).bind fun x1 => ((((T97 x1.f0).bind fun x2 => (bif (!x2) then (some (.inr 5)) else (bif (!eqS x1.f1 (ByteArray.mk #[])) then ((T97 x1.f1).bind fun x3 => (bif (!x3) then (some (.inr 5)) else (bif (ltI 0 z0) then ((listAt p0 (subI .i64 z0 1)).bind fun x4 => (bif (ltS x1.f0 x4.f0 || eqS x1.f0 x4.f0) then (some (.inr 7)) else ((T123 x1.f2).bind fun x5 => (bif (!x5) then (some (.inr 1)) else ((T70 x1.f4 0 1000000).bind fun x6 => (bif x6 then (some (.inr 1)) else ((T70 x1.f5 0 1000000).bind fun x7 => (bif x7 then (some (.inr 1)) else ((T70 x1.f6 0 1000000000).bind fun x8 => (bif x8 then (some (.inr 1)) else (some (.inl ())))))))))))) else ((T123 x1.f2).bind fun x9 => (bif (!x9) then (some (.inr 1)) else ((T70 x1.f4 0 1000000).bind fun x10 => (bif x10 then (some (.inr 1)) else ((T70 x1.f5 0 1000000).bind fun x11 => (bif x11 then (some (.inr 1)) else ((T70 x1.f6 0 1000000000).bind fun x12 => (bif x12 then (some (.inr 1)) else (some (.inl ()))))))))))))) else (bif (ltI 0 z0) then ((listAt p0 (subI .i64 z0 1)).bind fun x13 => (bif (ltS x1.f0 x13.f0 || eqS x1.f0 x13.f0) then (some (.inr 7)) else ((T123 x1.f2).bind fun x14 => (bif (!x14) then (some (.inr 1)) else ((T70 x1.f4 0 1000000).bind fun x15 => (bif x15 then (some (.inr 1)) else ((T70 x1.f5 0 1000000).bind fun x16 => (bif x16 then (some (.inr 1)) else ((T70 x1.f6 0 1000000000).bind fun x17 => (bif x17 then (some (.inr 1)) else (some (.inl ())))))))))))) else ((T123 x1.f2).bind fun x18 => (bif (!x18) then (some (.inr 1)) else ((T70 x1.f4 0 1000000).bind fun x19 => (bif x19 then (some (.inr 1)) else ((T70 x1.f5 0 1000000).bind fun x20 => (bif x20 then (some (.inr 1)) else ((T70 x1.f6 0 1000000000).bind fun x21 => (bif x21 then (some (.inr 1)) else (some (.inl ())))))))))))))) : Option (Unit ⊕ Int)).bind fun y22 => (Sum.elim (fun y22a => ((T124 x1.f3).bind fun x23 => (bif (neI x23 0) then (some (.inr (.inr x23))) else (some (.inl (addI .i64 z0 1)))))) (fun y22b => (some (.inr (.inr y22b)))) y22))) else (some (.inr (.inl (z0, (ltI z0 (lenL p0)))))))
theorem L91_4_ok (C : Callee) (h123 : ∀ (p0 : S92), C 123 [a92 p0] = (T123 p0).map B) (h124 : ∀ (p0 : (List ByteArray)), C 124 [LL S p0] = (T124 p0).map I) (h70 : ∀ (p0 : Int) (p1 : Int) (p2 : Int), C 70 [I p0, I p1, I p2] = (T70 p0 p1 p2).map B) (h97 : ∀ (p0 : ByteArray), C 97 [S p0] = (T97 p0).map B) (p0 : (List S94)) (z0 : Int) : runs Tryz.prog C (cfg.fn 91) (finLoop ((cfg.fn 91).keep 4) ((cfg.fn 91).al 4)) [] (execA Tryz.prog C (cfg.fn 91) (nr Tryz.f91 [false, false, true, false, true, true]) ((fun z0 : Int => (mkE [(0, LL a94 p0), (9, LL a94 p0), (10, I (lenL p0)), (11, I z0)] [] 73)) z0)) = (L91_4 p0 z0).map (Sum.elim (fun z => .inl ((fun z0 : Int => (mkE [(0, LL a94 p0), (9, LL a94 p0), (10, I (lenL p0)), (11, I z0)] [] 73)) z)) (fun x => .inr ((Sum.elim (fun (x : (Int × Bool)) => (.exit 0, (mkE [(0, LL a94 p0), (9, LL a94 p0), (10, I (lenL p0)), (11, I x.1), (12, B x.2)] [] 73))) (fun (x : Int) => (.ret, (mkE [(2, I x)] [] 73)))) x))) := by
  unfold L91_4
  let d_0 : List (Option Nat × REff) := [(some 33, qe (I z0)), (some 34, qe (B (ltI 0 z0))), (some 35, qe (B false)), (some 36, qe (.und)), (some 37, qe (.und)), (some 38, qe (.und)), (some 39, qe (.und)), (some 40, qe (.und)), (some 41, qe (.und)), (some 42, qe (.und)), (some 43, qe (.und)), (some 44, qe (.und)), (some 45, qe (B false)), (some 32, qe (B false))]
  let d_1 : List (Option Nat × REff) := [(some 33, qe (I z0)), (some 34, qe (B (ltI 0 z0))), (some 35, qe (B true)), (some 36, qe (.ba 32 0))]
  let d_2 : List (Option Nat × REff) := [(some 38, qe (LL a94 p0)), (some 39, qe (I z0)), (some 40, qe (I (subI .i64 z0 1)))]
  let s_0 : List (Nat × AV) := [(0, LL a94 p0), (4, .ba 32 0), (9, LL a94 p0), (10, I (lenL p0)), (11, I z0)]
  let s_1 : List (Nat × AV) := [(0, LL a94 p0), (3, I z0), (4, .ba 32 0), (9, LL a94 p0), (10, I (lenL p0)), (11, I z0)]
  let s_2 : List (Nat × AV) := [(52, .ba 32 5), (51, B false)]
  let s_3 : List (Nat × AV) := [(57, .ba 32 6), (56, B false)]
  let s_4 : List (Nat × AV) := [(47, .ba 32 2)]
  let s_5 : List (Nat × AV) := [(32, B false), (45, B false), (44, .und), (43, .und), (42, .und), (41, .und), (40, .und), (39, .und), (38, .und), (37, .und), (36, .und), (35, B false), (34, B (ltI 0 z0)), (33, I z0)]
  let s_6 : List (Nat × AV) := [(40, I (subI .i64 z0 1)), (39, I z0), (38, LL a94 p0)]
  refine gS 0 ?_
  refine gR 4 (rg Tryz.f91 4) ?_
  refine se (mkE [(0, LL a94 p0), (9, LL a94 p0), (10, I (lenL p0)), (11, I z0), (12, B (ltI z0 (lenL p0)))] [] 73) ?_
  refine pN ?_
  refine pS ?_
  refine gS 5 ?_
  refine gC 12 (ltI z0 (lenL p0)) ?_ ?_
  · refine gK ?_
    refine pN ?_
    refine pS ?_
    refine gS 15 ?_
    refine gB 1 ?_
    refine gS 6 ?_
    refine gR 5 (rg Tryz.f91 5) ?_
    refine sg 1 (mkE [(13, I z0), (0, LL a94 p0), (9, LL a94 p0), (10, I (lenL p0)), (11, I z0), (12, B (ltI z0 (lenL p0)))] [] 73) ?_
    refine vo 14 (addrE 90 95 8 a94 .i64 p0 z0) (fun x1 => ?_)
    refine se (mkE s_1 [(32, .box [S x1.f0, S x1.f1, I x1.f2.f0, I x1.f2.f1, LL S x1.f3, I x1.f4, I x1.f5, I x1.f6] false)] 73) ?_
    refine pN ?_
    refine pS ?_
    refine jS 12 (((T97 x1.f0).bind fun x2 => (bif (!x2) then (some (.inr 5)) else (bif (!eqS x1.f1 (ByteArray.mk #[])) then ((T97 x1.f1).bind fun x3 => (bif (!x3) then (some (.inr 5)) else (bif (ltI 0 z0) then ((listAt p0 (subI .i64 z0 1)).bind fun x4 => (bif (ltS x1.f0 x4.f0 || eqS x1.f0 x4.f0) then (some (.inr 7)) else ((T123 x1.f2).bind fun x5 => (bif (!x5) then (some (.inr 1)) else ((T70 x1.f4 0 1000000).bind fun x6 => (bif x6 then (some (.inr 1)) else ((T70 x1.f5 0 1000000).bind fun x7 => (bif x7 then (some (.inr 1)) else ((T70 x1.f6 0 1000000000).bind fun x8 => (bif x8 then (some (.inr 1)) else (some (.inl ())))))))))))) else ((T123 x1.f2).bind fun x9 => (bif (!x9) then (some (.inr 1)) else ((T70 x1.f4 0 1000000).bind fun x10 => (bif x10 then (some (.inr 1)) else ((T70 x1.f5 0 1000000).bind fun x11 => (bif x11 then (some (.inr 1)) else ((T70 x1.f6 0 1000000000).bind fun x12 => (bif x12 then (some (.inr 1)) else (some (.inl ()))))))))))))) else (bif (ltI 0 z0) then ((listAt p0 (subI .i64 z0 1)).bind fun x13 => (bif (ltS x1.f0 x13.f0 || eqS x1.f0 x13.f0) then (some (.inr 7)) else ((T123 x1.f2).bind fun x14 => (bif (!x14) then (some (.inr 1)) else ((T70 x1.f4 0 1000000).bind fun x15 => (bif x15 then (some (.inr 1)) else ((T70 x1.f5 0 1000000).bind fun x16 => (bif x16 then (some (.inr 1)) else ((T70 x1.f6 0 1000000000).bind fun x17 => (bif x17 then (some (.inr 1)) else (some (.inl ())))))))))))) else ((T123 x1.f2).bind fun x18 => (bif (!x18) then (some (.inr 1)) else ((T70 x1.f4 0 1000000).bind fun x19 => (bif x19 then (some (.inr 1)) else ((T70 x1.f5 0 1000000).bind fun x20 => (bif x20 then (some (.inr 1)) else ((T70 x1.f6 0 1000000000).bind fun x21 => (bif x21 then (some (.inr 1)) else (some (.inl ())))))))))))))) : Option (Unit ⊕ Int)) (Sum.elim (fun (x : Unit) => (.normal, (mkE s_0 [(32, .box [S x1.f0, S x1.f1, I x1.f2.f0, I x1.f2.f1, LL S x1.f3, I x1.f4, I x1.f5, I x1.f6] false)] 73))) (fun (x : Int) => (.ret, (mkE [(2, I x)] [] 73)))) ?_ (fun y22 => ?_)
    · refine gB 2 ?_
      refine gS 0 ?_
      refine gR 6 (rg Tryz.f91 6) ?_
      refine sg 2 (mkE ((18, S x1.f0) :: ((17, .ba 32 0) :: s_1)) [(32, .box [S x1.f0, S x1.f1, I x1.f2.f0, I x1.f2.f1, LL S x1.f3, I x1.f4, I x1.f5, I x1.f6] false)] 73) ?_
      refine co 19 [] (h97 x1.f0) (fun x2 => ?_)
      refine sg 5 (mkE ((21, B (!x2)) :: ((20, B (!x2)) :: ((19, B x2) :: ((18, S x1.f0) :: ((17, .ba 32 0) :: s_1))))) [(32, .box [S x1.f0, S x1.f1, I x1.f2.f0, I x1.f2.f1, LL S x1.f3, I x1.f4, I x1.f5, I x1.f6] false)] 73) ?_
      refine sb 21 (!x2) ?_ ?_
      · refine se (mkE (s_1.append [(16, B true)]) [(32, .box [S x1.f0, S x1.f1, I x1.f2.f0, I x1.f2.f1, LL S x1.f3, I x1.f4, I x1.f5, I x1.f6] false)] 73) ?_
        refine pN ?_
        refine pS ?_
        refine gT (.tmp 16) ?_
        refine gS 0 ?_
        refine gR 7 (rg Tryz.f91 7) ?_
        refine se (mkE [(2, I 5)] [] 73) ?_
        refine pN ?_
        refine pS ?_
        refine gE ?_
        exact pL
      · refine sg 9 (mkE ((25, B (!eqS x1.f1 (ByteArray.mk #[]))) :: ((24, B (!eqS x1.f1 (ByteArray.mk #[]))) :: ((23, S x1.f1) :: ((22, .ba 32 1) :: ((21, B false) :: ((21, B (!x2)) :: ((20, B (!x2)) :: ((19, B x2) :: ((18, S x1.f0) :: ((17, .ba 32 0) :: s_1)))))))))) [(32, .box [S x1.f0, S x1.f1, I x1.f2.f0, I x1.f2.f1, LL S x1.f3, I x1.f4, I x1.f5, I x1.f6] false)] 73) ?_
        refine sb 25 (!eqS x1.f1 (ByteArray.mk #[])) ?_ ?_
        · refine sg 11 (mkE ((27, S x1.f1) :: ((26, .ba 32 1) :: ((25, B true) :: ((25, B (!eqS x1.f1 (ByteArray.mk #[]))) :: ((24, B (!eqS x1.f1 (ByteArray.mk #[]))) :: ((23, S x1.f1) :: ((22, .ba 32 1) :: ((21, B false) :: ((21, B (!x2)) :: ((20, B (!x2)) :: ((19, B x2) :: ((18, S x1.f0) :: ((17, .ba 32 0) :: s_1))))))))))))) [(32, .box [S x1.f0, S x1.f1, I x1.f2.f0, I x1.f2.f1, LL S x1.f3, I x1.f4, I x1.f5, I x1.f6] false)] 73) ?_
          refine co 28 [] (h97 x1.f1) (fun x3 => ?_)
          refine se (mkE (s_1.append [(16, B (!x3))]) [(32, .box [S x1.f0, S x1.f1, I x1.f2.f0, I x1.f2.f1, LL S x1.f3, I x1.f4, I x1.f5, I x1.f6] false)] 73) ?_
          refine pN ?_
          refine pS ?_
          refine gC 16 (!x3) ?_ ?_
          · refine gS 0 ?_
            refine gR 7 (rg Tryz.f91 7) ?_
            refine se (mkE [(2, I 5)] [] 73) ?_
            refine pN ?_
            refine pS ?_
            refine gE ?_
            exact pL
          · refine gS 0 ?_
            refine gD 8 14 (rg Tryz.f91 8) [0, 1, 2, 3, 4, 5, 6, 7, 8, 9, 10, 11, 12, 13] ?_
            refine dg 3 [(some 33, qe (I z0)), (some 34, qe (B (ltI 0 z0))), (some 35, qe (B (ltI 0 z0)))] ?_
            refine db 2 35 (ltI 0 z0) ?_ ?_
            · refine dg 8 (d_1.append ((some 37, qe (S x1.f0)) :: d_2)) ?_
              refine dv 41 (mkE (s_6.append ((35, B true) :: ((34, B (ltI 0 z0)) :: ((33, I z0) :: (s_1.append [(16, B (!x3))]))))) [(32, .box [S x1.f0, S x1.f1, I x1.f2.f0, I x1.f2.f1, LL S x1.f3, I x1.f4, I x1.f5, I x1.f6] false)] 73) (addrE 90 95 8 a94 .i64 p0 (subI .i64 z0 1)) (fun x4 => ?_)
              refine dg 14 (d_1.append ((some 37, qe (S x1.f0)) :: (d_2.append ((some 41, qe (.ia [S x4.f0, S x4.f1, I x4.f2.f0, I x4.f2.f1, LL S x4.f3, I x4.f4, I x4.f5, I x4.f6] 0)) :: ((some 42, qe (.ia [S x4.f0, S x4.f1, I x4.f2.f0, I x4.f2.f1, LL S x4.f3, I x4.f4, I x4.f5, I x4.f6] 0)) :: ((some 43, qe (S x4.f0)) :: ((some 44, qe (B (ltS x1.f0 x4.f0 || eqS x1.f0 x4.f0))) :: ((some 45, qe (B (ltS x1.f0 x4.f0 || eqS x1.f0 x4.f0))) :: [(some 32, qe (B (ltS x1.f0 x4.f0 || eqS x1.f0 x4.f0)))])))))))) ?_
              refine de (mkE ((32, B (ltS x1.f0 x4.f0 || eqS x1.f0 x4.f0)) :: ((45, B (ltS x1.f0 x4.f0 || eqS x1.f0 x4.f0)) :: ((44, B (ltS x1.f0 x4.f0 || eqS x1.f0 x4.f0)) :: ((43, S x4.f0) :: ((42, .ia [S x4.f0, S x4.f1, I x4.f2.f0, I x4.f2.f1, LL S x4.f3, I x4.f4, I x4.f5, I x4.f6] 0) :: ((41, .ia [S x4.f0, S x4.f1, I x4.f2.f0, I x4.f2.f1, LL S x4.f3, I x4.f4, I x4.f5, I x4.f6] 0) :: (s_6.append ((37, S x1.f0) :: ((36, .ba 32 0) :: ((35, B true) :: ((34, B (ltI 0 z0)) :: ((33, I z0) :: (s_1.append [(16, B (!x3))]))))))))))))) [(32, .box [S x1.f0, S x1.f1, I x1.f2.f0, I x1.f2.f1, LL S x1.f3, I x1.f4, I x1.f5, I x1.f6] false)] 73) ?_
              refine se (mkE (s_0.append [(32, B (ltS x1.f0 x4.f0 || eqS x1.f0 x4.f0))]) [(32, .box [S x1.f0, S x1.f1, I x1.f2.f0, I x1.f2.f1, LL S x1.f3, I x1.f4, I x1.f5, I x1.f6] false)] 73) ?_
              refine pN ?_
              refine pS ?_
              refine gC 32 (ltS x1.f0 x4.f0 || eqS x1.f0 x4.f0) ?_ ?_
              · refine gS 0 ?_
                refine gR 9 (rg Tryz.f91 9) ?_
                refine se (mkE [(2, I 7)] [] 73) ?_
                refine pN ?_
                refine pS ?_
                refine gE ?_
                exact pL
              · refine gS 0 ?_
                refine gR 10 (rg Tryz.f91 10) ?_
                refine sg 2 (mkE ((48, a92 x1.f2) :: (s_4.append (s_0.append [(32, B (ltS x1.f0 x4.f0 || eqS x1.f0 x4.f0))]))) [(32, .box [S x1.f0, S x1.f1, I x1.f2.f0, I x1.f2.f1, LL S x1.f3, I x1.f4, I x1.f5, I x1.f6] false)] 73) ?_
                refine co 49 [] (h123 x1.f2) (fun x5 => ?_)
                refine sg 5 (mkE ((51, B (!x5)) :: ((50, B (!x5)) :: ((49, B x5) :: ((48, a92 x1.f2) :: (s_4.append (s_0.append [(32, B (ltS x1.f0 x4.f0 || eqS x1.f0 x4.f0))])))))) [(32, .box [S x1.f0, S x1.f1, I x1.f2.f0, I x1.f2.f1, LL S x1.f3, I x1.f4, I x1.f5, I x1.f6] false)] 73) ?_
                refine sb 51 (!x5) ?_ ?_
                · refine se (mkE (s_0.append [(46, B true)]) [(32, .box [S x1.f0, S x1.f1, I x1.f2.f0, I x1.f2.f1, LL S x1.f3, I x1.f4, I x1.f5, I x1.f6] false)] 73) ?_
                  refine pN ?_
                  refine pS ?_
                  refine gT (.tmp 46) ?_
                  refine gS 0 ?_
                  refine gR 11 (rg Tryz.f91 11) ?_
                  refine se (mkE [(2, I 1)] [] 73) ?_
                  refine pN ?_
                  refine pS ?_
                  refine gE ?_
                  exact pL
                · refine sg 7 (mkE ((53, I x1.f4) :: (s_2.append ((51, B (!x5)) :: ((50, B (!x5)) :: ((49, B x5) :: ((48, a92 x1.f2) :: (s_4.append (s_0.append [(32, B (ltS x1.f0 x4.f0 || eqS x1.f0 x4.f0))])))))))) [(32, .box [S x1.f0, S x1.f1, I x1.f2.f0, I x1.f2.f1, LL S x1.f3, I x1.f4, I x1.f5, I x1.f6] false)] 73) ?_
                  refine co 54 [] (h70 x1.f4 0 1000000) (fun x6 => ?_)
                  refine sg 10 (mkE ((56, B x6) :: ((55, B x6) :: ((54, B x6) :: ((53, I x1.f4) :: (s_2.append ((51, B (!x5)) :: ((50, B (!x5)) :: ((49, B x5) :: ((48, a92 x1.f2) :: (s_4.append (s_0.append [(32, B (ltS x1.f0 x4.f0 || eqS x1.f0 x4.f0))]))))))))))) [(32, .box [S x1.f0, S x1.f1, I x1.f2.f0, I x1.f2.f1, LL S x1.f3, I x1.f4, I x1.f5, I x1.f6] false)] 73) ?_
                  refine sb 56 x6 ?_ ?_
                  · refine se (mkE (s_0.append [(46, B true)]) [(32, .box [S x1.f0, S x1.f1, I x1.f2.f0, I x1.f2.f1, LL S x1.f3, I x1.f4, I x1.f5, I x1.f6] false)] 73) ?_
                    refine pN ?_
                    refine pS ?_
                    refine gT (.tmp 46) ?_
                    refine gS 0 ?_
                    refine gR 11 (rg Tryz.f91 11) ?_
                    refine se (mkE [(2, I 1)] [] 73) ?_
                    refine pN ?_
                    refine pS ?_
                    refine gE ?_
                    exact pL
                  · refine sg 12 (mkE ((58, I x1.f5) :: (s_3.append ((56, B x6) :: ((55, B x6) :: ((54, B x6) :: ((53, I x1.f4) :: (s_2.append ((51, B (!x5)) :: ((50, B (!x5)) :: ((49, B x5) :: ((48, a92 x1.f2) :: (s_4.append (s_0.append [(32, B (ltS x1.f0 x4.f0 || eqS x1.f0 x4.f0))]))))))))))))) [(32, .box [S x1.f0, S x1.f1, I x1.f2.f0, I x1.f2.f1, LL S x1.f3, I x1.f4, I x1.f5, I x1.f6] false)] 73) ?_
                    refine co 59 [] (h70 x1.f5 0 1000000) (fun x7 => ?_)
                    refine sg 15 (mkE ((61, B x7) :: ((60, B x7) :: ((59, B x7) :: ((58, I x1.f5) :: (s_3.append ((56, B x6) :: ((55, B x6) :: ((54, B x6) :: ((53, I x1.f4) :: (s_2.append ((51, B (!x5)) :: ((50, B (!x5)) :: ((49, B x5) :: ((48, a92 x1.f2) :: (s_4.append (s_0.append [(32, B (ltS x1.f0 x4.f0 || eqS x1.f0 x4.f0))])))))))))))))))) [(32, .box [S x1.f0, S x1.f1, I x1.f2.f0, I x1.f2.f1, LL S x1.f3, I x1.f4, I x1.f5, I x1.f6] false)] 73) ?_
                    refine sb 61 x7 ?_ ?_
                    · refine se (mkE (s_0.append [(46, B true)]) [(32, .box [S x1.f0, S x1.f1, I x1.f2.f0, I x1.f2.f1, LL S x1.f3, I x1.f4, I x1.f5, I x1.f6] false)] 73) ?_
                      refine pN ?_
                      refine pS ?_
                      refine gT (.tmp 46) ?_
                      refine gS 0 ?_
                      refine gR 11 (rg Tryz.f91 11) ?_
                      refine se (mkE [(2, I 1)] [] 73) ?_
                      refine pN ?_
                      refine pS ?_
                      refine gE ?_
                      exact pL
                    · refine sg 17 (mkE ((63, I x1.f6) :: ((62, .ba 32 7) :: ((61, B false) :: ((61, B x7) :: ((60, B x7) :: ((59, B x7) :: ((58, I x1.f5) :: (s_3.append ((56, B x6) :: ((55, B x6) :: ((54, B x6) :: ((53, I x1.f4) :: (s_2.append ((51, B (!x5)) :: ((50, B (!x5)) :: ((49, B x5) :: ((48, a92 x1.f2) :: (s_4.append (s_0.append [(32, B (ltS x1.f0 x4.f0 || eqS x1.f0 x4.f0))]))))))))))))))))))) [(32, .box [S x1.f0, S x1.f1, I x1.f2.f0, I x1.f2.f1, LL S x1.f3, I x1.f4, I x1.f5, I x1.f6] false)] 73) ?_
                      refine co 64 [] (h70 x1.f6 0 1000000000) (fun x8 => ?_)
                      refine se (mkE (s_0.append [(46, B x8)]) [(32, .box [S x1.f0, S x1.f1, I x1.f2.f0, I x1.f2.f1, LL S x1.f3, I x1.f4, I x1.f5, I x1.f6] false)] 73) ?_
                      refine pN ?_
                      refine pS ?_
                      refine gC 46 x8 ?_ ?_
                      · refine gS 0 ?_
                        refine gR 11 (rg Tryz.f91 11) ?_
                        refine se (mkE [(2, I 1)] [] 73) ?_
                        refine pN ?_
                        refine pS ?_
                        refine gE ?_
                        exact pL
                      · refine gK ?_
                        refine pB ?_
                        refine pG (mkE s_0 [(32, .box [S x1.f0, S x1.f1, I x1.f2.f0, I x1.f2.f1, LL S x1.f3, I x1.f4, I x1.f5, I x1.f6] false)] 73) ?_
                        exact pL
            · refine dg 14 d_0 ?_
              refine de (mkE (s_5.append (s_1.append [(16, B (!x3))])) [(32, .box [S x1.f0, S x1.f1, I x1.f2.f0, I x1.f2.f1, LL S x1.f3, I x1.f4, I x1.f5, I x1.f6] false)] 73) ?_
              refine se (mkE (s_0.append [(32, B false)]) [(32, .box [S x1.f0, S x1.f1, I x1.f2.f0, I x1.f2.f1, LL S x1.f3, I x1.f4, I x1.f5, I x1.f6] false)] 73) ?_
              refine pN ?_
              refine pS ?_
              refine gF (.tmp 32) ?_
              refine gS 0 ?_
              refine gR 10 (rg Tryz.f91 10) ?_
              refine sg 2 (mkE ((48, a92 x1.f2) :: (s_4.append (s_0.append [(32, B false)]))) [(32, .box [S x1.f0, S x1.f1, I x1.f2.f0, I x1.f2.f1, LL S x1.f3, I x1.f4, I x1.f5, I x1.f6] false)] 73) ?_
              refine co 49 [] (h123 x1.f2) (fun x9 => ?_)
              refine sg 5 (mkE ((51, B (!x9)) :: ((50, B (!x9)) :: ((49, B x9) :: ((48, a92 x1.f2) :: (s_4.append (s_0.append [(32, B false)])))))) [(32, .box [S x1.f0, S x1.f1, I x1.f2.f0, I x1.f2.f1, LL S x1.f3, I x1.f4, I x1.f5, I x1.f6] false)] 73) ?_
              refine sb 51 (!x9) ?_ ?_
              · refine se (mkE (s_0.append [(46, B true)]) [(32, .box [S x1.f0, S x1.f1, I x1.f2.f0, I x1.f2.f1, LL S x1.f3, I x1.f4, I x1.f5, I x1.f6] false)] 73) ?_
                refine pN ?_
                refine pS ?_
                refine gT (.tmp 46) ?_
                refine gS 0 ?_
                refine gR 11 (rg Tryz.f91 11) ?_
                refine se (mkE [(2, I 1)] [] 73) ?_
                refine pN ?_
                refine pS ?_
                refine gE ?_
                exact pL
              · refine sg 7 (mkE ((53, I x1.f4) :: (s_2.append ((51, B (!x9)) :: ((50, B (!x9)) :: ((49, B x9) :: ((48, a92 x1.f2) :: (s_4.append (s_0.append [(32, B false)])))))))) [(32, .box [S x1.f0, S x1.f1, I x1.f2.f0, I x1.f2.f1, LL S x1.f3, I x1.f4, I x1.f5, I x1.f6] false)] 73) ?_
                refine co 54 [] (h70 x1.f4 0 1000000) (fun x10 => ?_)
                refine sg 10 (mkE ((56, B x10) :: ((55, B x10) :: ((54, B x10) :: ((53, I x1.f4) :: (s_2.append ((51, B (!x9)) :: ((50, B (!x9)) :: ((49, B x9) :: ((48, a92 x1.f2) :: (s_4.append (s_0.append [(32, B false)]))))))))))) [(32, .box [S x1.f0, S x1.f1, I x1.f2.f0, I x1.f2.f1, LL S x1.f3, I x1.f4, I x1.f5, I x1.f6] false)] 73) ?_
                refine sb 56 x10 ?_ ?_
                · refine se (mkE (s_0.append [(46, B true)]) [(32, .box [S x1.f0, S x1.f1, I x1.f2.f0, I x1.f2.f1, LL S x1.f3, I x1.f4, I x1.f5, I x1.f6] false)] 73) ?_
                  refine pN ?_
                  refine pS ?_
                  refine gT (.tmp 46) ?_
                  refine gS 0 ?_
                  refine gR 11 (rg Tryz.f91 11) ?_
                  refine se (mkE [(2, I 1)] [] 73) ?_
                  refine pN ?_
                  refine pS ?_
                  refine gE ?_
                  exact pL
                · refine sg 12 (mkE ((58, I x1.f5) :: (s_3.append ((56, B x10) :: ((55, B x10) :: ((54, B x10) :: ((53, I x1.f4) :: (s_2.append ((51, B (!x9)) :: ((50, B (!x9)) :: ((49, B x9) :: ((48, a92 x1.f2) :: (s_4.append (s_0.append [(32, B false)]))))))))))))) [(32, .box [S x1.f0, S x1.f1, I x1.f2.f0, I x1.f2.f1, LL S x1.f3, I x1.f4, I x1.f5, I x1.f6] false)] 73) ?_
                  refine co 59 [] (h70 x1.f5 0 1000000) (fun x11 => ?_)
                  refine sg 15 (mkE ((61, B x11) :: ((60, B x11) :: ((59, B x11) :: ((58, I x1.f5) :: (s_3.append ((56, B x10) :: ((55, B x10) :: ((54, B x10) :: ((53, I x1.f4) :: (s_2.append ((51, B (!x9)) :: ((50, B (!x9)) :: ((49, B x9) :: ((48, a92 x1.f2) :: (s_4.append (s_0.append [(32, B false)])))))))))))))))) [(32, .box [S x1.f0, S x1.f1, I x1.f2.f0, I x1.f2.f1, LL S x1.f3, I x1.f4, I x1.f5, I x1.f6] false)] 73) ?_
                  refine sb 61 x11 ?_ ?_
                  · refine se (mkE (s_0.append [(46, B true)]) [(32, .box [S x1.f0, S x1.f1, I x1.f2.f0, I x1.f2.f1, LL S x1.f3, I x1.f4, I x1.f5, I x1.f6] false)] 73) ?_
                    refine pN ?_
                    refine pS ?_
                    refine gT (.tmp 46) ?_
                    refine gS 0 ?_
                    refine gR 11 (rg Tryz.f91 11) ?_
                    refine se (mkE [(2, I 1)] [] 73) ?_
                    refine pN ?_
                    refine pS ?_
                    refine gE ?_
                    exact pL
                  · refine sg 17 (mkE ((63, I x1.f6) :: ((62, .ba 32 7) :: ((61, B false) :: ((61, B x11) :: ((60, B x11) :: ((59, B x11) :: ((58, I x1.f5) :: (s_3.append ((56, B x10) :: ((55, B x10) :: ((54, B x10) :: ((53, I x1.f4) :: (s_2.append ((51, B (!x9)) :: ((50, B (!x9)) :: ((49, B x9) :: ((48, a92 x1.f2) :: (s_4.append (s_0.append [(32, B false)]))))))))))))))))))) [(32, .box [S x1.f0, S x1.f1, I x1.f2.f0, I x1.f2.f1, LL S x1.f3, I x1.f4, I x1.f5, I x1.f6] false)] 73) ?_
                    refine co 64 [] (h70 x1.f6 0 1000000000) (fun x12 => ?_)
                    refine se (mkE (s_0.append [(46, B x12)]) [(32, .box [S x1.f0, S x1.f1, I x1.f2.f0, I x1.f2.f1, LL S x1.f3, I x1.f4, I x1.f5, I x1.f6] false)] 73) ?_
                    refine pN ?_
                    refine pS ?_
                    refine gC 46 x12 ?_ ?_
                    · refine gS 0 ?_
                      refine gR 11 (rg Tryz.f91 11) ?_
                      refine se (mkE [(2, I 1)] [] 73) ?_
                      refine pN ?_
                      refine pS ?_
                      refine gE ?_
                      exact pL
                    · refine gK ?_
                      refine pB ?_
                      refine pG (mkE s_0 [(32, .box [S x1.f0, S x1.f1, I x1.f2.f0, I x1.f2.f1, LL S x1.f3, I x1.f4, I x1.f5, I x1.f6] false)] 73) ?_
                      exact pL
        · refine se (mkE (s_1.append [(16, B false)]) [(32, .box [S x1.f0, S x1.f1, I x1.f2.f0, I x1.f2.f1, LL S x1.f3, I x1.f4, I x1.f5, I x1.f6] false)] 73) ?_
          refine pN ?_
          refine pS ?_
          refine gF (.tmp 16) ?_
          refine gS 0 ?_
          refine gD 8 14 (rg Tryz.f91 8) [0, 1, 2, 3, 4, 5, 6, 7, 8, 9, 10, 11, 12, 13] ?_
          refine dg 3 [(some 33, qe (I z0)), (some 34, qe (B (ltI 0 z0))), (some 35, qe (B (ltI 0 z0)))] ?_
          refine db 2 35 (ltI 0 z0) ?_ ?_
          · refine dg 8 (d_1.append ((some 37, qe (S x1.f0)) :: d_2)) ?_
            refine dv 41 (mkE (s_6.append ((35, B true) :: ((34, B (ltI 0 z0)) :: ((33, I z0) :: (s_1.append [(16, B false)]))))) [(32, .box [S x1.f0, S x1.f1, I x1.f2.f0, I x1.f2.f1, LL S x1.f3, I x1.f4, I x1.f5, I x1.f6] false)] 73) (addrE 90 95 8 a94 .i64 p0 (subI .i64 z0 1)) (fun x13 => ?_)
            refine dg 14 (d_1.append ((some 37, qe (S x1.f0)) :: (d_2.append ((some 41, qe (.ia [S x13.f0, S x13.f1, I x13.f2.f0, I x13.f2.f1, LL S x13.f3, I x13.f4, I x13.f5, I x13.f6] 0)) :: ((some 42, qe (.ia [S x13.f0, S x13.f1, I x13.f2.f0, I x13.f2.f1, LL S x13.f3, I x13.f4, I x13.f5, I x13.f6] 0)) :: ((some 43, qe (S x13.f0)) :: ((some 44, qe (B (ltS x1.f0 x13.f0 || eqS x1.f0 x13.f0))) :: ((some 45, qe (B (ltS x1.f0 x13.f0 || eqS x1.f0 x13.f0))) :: [(some 32, qe (B (ltS x1.f0 x13.f0 || eqS x1.f0 x13.f0)))])))))))) ?_
            refine de (mkE ((32, B (ltS x1.f0 x13.f0 || eqS x1.f0 x13.f0)) :: ((45, B (ltS x1.f0 x13.f0 || eqS x1.f0 x13.f0)) :: ((44, B (ltS x1.f0 x13.f0 || eqS x1.f0 x13.f0)) :: ((43, S x13.f0) :: ((42, .ia [S x13.f0, S x13.f1, I x13.f2.f0, I x13.f2.f1, LL S x13.f3, I x13.f4, I x13.f5, I x13.f6] 0) :: ((41, .ia [S x13.f0, S x13.f1, I x13.f2.f0, I x13.f2.f1, LL S x13.f3, I x13.f4, I x13.f5, I x13.f6] 0) :: (s_6.append ((37, S x1.f0) :: ((36, .ba 32 0) :: ((35, B true) :: ((34, B (ltI 0 z0)) :: ((33, I z0) :: (s_1.append [(16, B false)]))))))))))))) [(32, .box [S x1.f0, S x1.f1, I x1.f2.f0, I x1.f2.f1, LL S x1.f3, I x1.f4, I x1.f5, I x1.f6] false)] 73) ?_
            refine se (mkE (s_0.append [(32, B (ltS x1.f0 x13.f0 || eqS x1.f0 x13.f0))]) [(32, .box [S x1.f0, S x1.f1, I x1.f2.f0, I x1.f2.f1, LL S x1.f3, I x1.f4, I x1.f5, I x1.f6] false)] 73) ?_
            refine pN ?_
            refine pS ?_
            refine gC 32 (ltS x1.f0 x13.f0 || eqS x1.f0 x13.f0) ?_ ?_
            · refine gS 0 ?_
              refine gR 9 (rg Tryz.f91 9) ?_
              refine se (mkE [(2, I 7)] [] 73) ?_
              refine pN ?_
              refine pS ?_
              refine gE ?_
              exact pL
            · refine gS 0 ?_
              refine gR 10 (rg Tryz.f91 10) ?_
              refine sg 2 (mkE ((48, a92 x1.f2) :: (s_4.append (s_0.append [(32, B (ltS x1.f0 x13.f0 || eqS x1.f0 x13.f0))]))) [(32, .box [S x1.f0, S x1.f1, I x1.f2.f0, I x1.f2.f1, LL S x1.f3, I x1.f4, I x1.f5, I x1.f6] false)] 73) ?_
              refine co 49 [] (h123 x1.f2) (fun x14 => ?_)
              refine sg 5 (mkE ((51, B (!x14)) :: ((50, B (!x14)) :: ((49, B x14) :: ((48, a92 x1.f2) :: (s_4.append (s_0.append [(32, B (ltS x1.f0 x13.f0 || eqS x1.f0 x13.f0))])))))) [(32, .box [S x1.f0, S x1.f1, I x1.f2.f0, I x1.f2.f1, LL S x1.f3, I x1.f4, I x1.f5, I x1.f6] false)] 73) ?_
              refine sb 51 (!x14) ?_ ?_
              · refine se (mkE (s_0.append [(46, B true)]) [(32, .box [S x1.f0, S x1.f1, I x1.f2.f0, I x1.f2.f1, LL S x1.f3, I x1.f4, I x1.f5, I x1.f6] false)] 73) ?_
                refine pN ?_
                refine pS ?_
                refine gT (.tmp 46) ?_
                refine gS 0 ?_
                refine gR 11 (rg Tryz.f91 11) ?_
                refine se (mkE [(2, I 1)] [] 73) ?_
                refine pN ?_
                refine pS ?_
                refine gE ?_
                exact pL
              · refine sg 7 (mkE ((53, I x1.f4) :: (s_2.append ((51, B (!x14)) :: ((50, B (!x14)) :: ((49, B x14) :: ((48, a92 x1.f2) :: (s_4.append (s_0.append [(32, B (ltS x1.f0 x13.f0 || eqS x1.f0 x13.f0))])))))))) [(32, .box [S x1.f0, S x1.f1, I x1.f2.f0, I x1.f2.f1, LL S x1.f3, I x1.f4, I x1.f5, I x1.f6] false)] 73) ?_
                refine co 54 [] (h70 x1.f4 0 1000000) (fun x15 => ?_)
                refine sg 10 (mkE ((56, B x15) :: ((55, B x15) :: ((54, B x15) :: ((53, I x1.f4) :: (s_2.append ((51, B (!x14)) :: ((50, B (!x14)) :: ((49, B x14) :: ((48, a92 x1.f2) :: (s_4.append (s_0.append [(32, B (ltS x1.f0 x13.f0 || eqS x1.f0 x13.f0))]))))))))))) [(32, .box [S x1.f0, S x1.f1, I x1.f2.f0, I x1.f2.f1, LL S x1.f3, I x1.f4, I x1.f5, I x1.f6] false)] 73) ?_
                refine sb 56 x15 ?_ ?_
                · refine se (mkE (s_0.append [(46, B true)]) [(32, .box [S x1.f0, S x1.f1, I x1.f2.f0, I x1.f2.f1, LL S x1.f3, I x1.f4, I x1.f5, I x1.f6] false)] 73) ?_
                  refine pN ?_
                  refine pS ?_
                  refine gT (.tmp 46) ?_
                  refine gS 0 ?_
                  refine gR 11 (rg Tryz.f91 11) ?_
                  refine se (mkE [(2, I 1)] [] 73) ?_
                  refine pN ?_
                  refine pS ?_
                  refine gE ?_
                  exact pL
                · refine sg 12 (mkE ((58, I x1.f5) :: (s_3.append ((56, B x15) :: ((55, B x15) :: ((54, B x15) :: ((53, I x1.f4) :: (s_2.append ((51, B (!x14)) :: ((50, B (!x14)) :: ((49, B x14) :: ((48, a92 x1.f2) :: (s_4.append (s_0.append [(32, B (ltS x1.f0 x13.f0 || eqS x1.f0 x13.f0))]))))))))))))) [(32, .box [S x1.f0, S x1.f1, I x1.f2.f0, I x1.f2.f1, LL S x1.f3, I x1.f4, I x1.f5, I x1.f6] false)] 73) ?_
                  refine co 59 [] (h70 x1.f5 0 1000000) (fun x16 => ?_)
                  refine sg 15 (mkE ((61, B x16) :: ((60, B x16) :: ((59, B x16) :: ((58, I x1.f5) :: (s_3.append ((56, B x15) :: ((55, B x15) :: ((54, B x15) :: ((53, I x1.f4) :: (s_2.append ((51, B (!x14)) :: ((50, B (!x14)) :: ((49, B x14) :: ((48, a92 x1.f2) :: (s_4.append (s_0.append [(32, B (ltS x1.f0 x13.f0 || eqS x1.f0 x13.f0))])))))))))))))))) [(32, .box [S x1.f0, S x1.f1, I x1.f2.f0, I x1.f2.f1, LL S x1.f3, I x1.f4, I x1.f5, I x1.f6] false)] 73) ?_
                  refine sb 61 x16 ?_ ?_
                  · refine se (mkE (s_0.append [(46, B true)]) [(32, .box [S x1.f0, S x1.f1, I x1.f2.f0, I x1.f2.f1, LL S x1.f3, I x1.f4, I x1.f5, I x1.f6] false)] 73) ?_
                    refine pN ?_
                    refine pS ?_
                    refine gT (.tmp 46) ?_
                    refine gS 0 ?_
                    refine gR 11 (rg Tryz.f91 11) ?_
                    refine se (mkE [(2, I 1)] [] 73) ?_
                    refine pN ?_
                    refine pS ?_
                    refine gE ?_
                    exact pL
                  · refine sg 17 (mkE ((63, I x1.f6) :: ((62, .ba 32 7) :: ((61, B false) :: ((61, B x16) :: ((60, B x16) :: ((59, B x16) :: ((58, I x1.f5) :: (s_3.append ((56, B x15) :: ((55, B x15) :: ((54, B x15) :: ((53, I x1.f4) :: (s_2.append ((51, B (!x14)) :: ((50, B (!x14)) :: ((49, B x14) :: ((48, a92 x1.f2) :: (s_4.append (s_0.append [(32, B (ltS x1.f0 x13.f0 || eqS x1.f0 x13.f0))]))))))))))))))))))) [(32, .box [S x1.f0, S x1.f1, I x1.f2.f0, I x1.f2.f1, LL S x1.f3, I x1.f4, I x1.f5, I x1.f6] false)] 73) ?_
                    refine co 64 [] (h70 x1.f6 0 1000000000) (fun x17 => ?_)
                    refine se (mkE (s_0.append [(46, B x17)]) [(32, .box [S x1.f0, S x1.f1, I x1.f2.f0, I x1.f2.f1, LL S x1.f3, I x1.f4, I x1.f5, I x1.f6] false)] 73) ?_
                    refine pN ?_
                    refine pS ?_
                    refine gC 46 x17 ?_ ?_
                    · refine gS 0 ?_
                      refine gR 11 (rg Tryz.f91 11) ?_
                      refine se (mkE [(2, I 1)] [] 73) ?_
                      refine pN ?_
                      refine pS ?_
                      refine gE ?_
                      exact pL
                    · refine gK ?_
                      refine pB ?_
                      refine pG (mkE s_0 [(32, .box [S x1.f0, S x1.f1, I x1.f2.f0, I x1.f2.f1, LL S x1.f3, I x1.f4, I x1.f5, I x1.f6] false)] 73) ?_
                      exact pL
          · refine dg 14 d_0 ?_
            refine de (mkE (s_5.append (s_1.append [(16, B false)])) [(32, .box [S x1.f0, S x1.f1, I x1.f2.f0, I x1.f2.f1, LL S x1.f3, I x1.f4, I x1.f5, I x1.f6] false)] 73) ?_
            refine se (mkE (s_0.append [(32, B false)]) [(32, .box [S x1.f0, S x1.f1, I x1.f2.f0, I x1.f2.f1, LL S x1.f3, I x1.f4, I x1.f5, I x1.f6] false)] 73) ?_
            refine pN ?_
            refine pS ?_
            refine gF (.tmp 32) ?_
            refine gS 0 ?_
            refine gR 10 (rg Tryz.f91 10) ?_
            refine sg 2 (mkE ((48, a92 x1.f2) :: (s_4.append (s_0.append [(32, B false)]))) [(32, .box [S x1.f0, S x1.f1, I x1.f2.f0, I x1.f2.f1, LL S x1.f3, I x1.f4, I x1.f5, I x1.f6] false)] 73) ?_
            refine co 49 [] (h123 x1.f2) (fun x18 => ?_)
            refine sg 5 (mkE ((51, B (!x18)) :: ((50, B (!x18)) :: ((49, B x18) :: ((48, a92 x1.f2) :: (s_4.append (s_0.append [(32, B false)])))))) [(32, .box [S x1.f0, S x1.f1, I x1.f2.f0, I x1.f2.f1, LL S x1.f3, I x1.f4, I x1.f5, I x1.f6] false)] 73) ?_
            refine sb 51 (!x18) ?_ ?_
            · refine se (mkE (s_0.append [(46, B true)]) [(32, .box [S x1.f0, S x1.f1, I x1.f2.f0, I x1.f2.f1, LL S x1.f3, I x1.f4, I x1.f5, I x1.f6] false)] 73) ?_
              refine pN ?_
              refine pS ?_
              refine gT (.tmp 46) ?_
              refine gS 0 ?_
              refine gR 11 (rg Tryz.f91 11) ?_
              refine se (mkE [(2, I 1)] [] 73) ?_
              refine pN ?_
              refine pS ?_
              refine gE ?_
              exact pL
            · refine sg 7 (mkE ((53, I x1.f4) :: (s_2.append ((51, B (!x18)) :: ((50, B (!x18)) :: ((49, B x18) :: ((48, a92 x1.f2) :: (s_4.append (s_0.append [(32, B false)])))))))) [(32, .box [S x1.f0, S x1.f1, I x1.f2.f0, I x1.f2.f1, LL S x1.f3, I x1.f4, I x1.f5, I x1.f6] false)] 73) ?_
              refine co 54 [] (h70 x1.f4 0 1000000) (fun x19 => ?_)
              refine sg 10 (mkE ((56, B x19) :: ((55, B x19) :: ((54, B x19) :: ((53, I x1.f4) :: (s_2.append ((51, B (!x18)) :: ((50, B (!x18)) :: ((49, B x18) :: ((48, a92 x1.f2) :: (s_4.append (s_0.append [(32, B false)]))))))))))) [(32, .box [S x1.f0, S x1.f1, I x1.f2.f0, I x1.f2.f1, LL S x1.f3, I x1.f4, I x1.f5, I x1.f6] false)] 73) ?_
              refine sb 56 x19 ?_ ?_
              · refine se (mkE (s_0.append [(46, B true)]) [(32, .box [S x1.f0, S x1.f1, I x1.f2.f0, I x1.f2.f1, LL S x1.f3, I x1.f4, I x1.f5, I x1.f6] false)] 73) ?_
                refine pN ?_
                refine pS ?_
                refine gT (.tmp 46) ?_
                refine gS 0 ?_
                refine gR 11 (rg Tryz.f91 11) ?_
                refine se (mkE [(2, I 1)] [] 73) ?_
                refine pN ?_
                refine pS ?_
                refine gE ?_
                exact pL
              · refine sg 12 (mkE ((58, I x1.f5) :: (s_3.append ((56, B x19) :: ((55, B x19) :: ((54, B x19) :: ((53, I x1.f4) :: (s_2.append ((51, B (!x18)) :: ((50, B (!x18)) :: ((49, B x18) :: ((48, a92 x1.f2) :: (s_4.append (s_0.append [(32, B false)]))))))))))))) [(32, .box [S x1.f0, S x1.f1, I x1.f2.f0, I x1.f2.f1, LL S x1.f3, I x1.f4, I x1.f5, I x1.f6] false)] 73) ?_
                refine co 59 [] (h70 x1.f5 0 1000000) (fun x20 => ?_)
                refine sg 15 (mkE ((61, B x20) :: ((60, B x20) :: ((59, B x20) :: ((58, I x1.f5) :: (s_3.append ((56, B x19) :: ((55, B x19) :: ((54, B x19) :: ((53, I x1.f4) :: (s_2.append ((51, B (!x18)) :: ((50, B (!x18)) :: ((49, B x18) :: ((48, a92 x1.f2) :: (s_4.append (s_0.append [(32, B false)])))))))))))))))) [(32, .box [S x1.f0, S x1.f1, I x1.f2.f0, I x1.f2.f1, LL S x1.f3, I x1.f4, I x1.f5, I x1.f6] false)] 73) ?_
                refine sb 61 x20 ?_ ?_
                · refine se (mkE (s_0.append [(46, B true)]) [(32, .box [S x1.f0, S x1.f1, I x1.f2.f0, I x1.f2.f1, LL S x1.f3, I x1.f4, I x1.f5, I x1.f6] false)] 73) ?_
                  refine pN ?_
                  refine pS ?_
                  refine gT (.tmp 46) ?_
                  refine gS 0 ?_
                  refine gR 11 (rg Tryz.f91 11) ?_
                  refine se (mkE [(2, I 1)] [] 73) ?_
                  refine pN ?_
                  refine pS ?_
                  refine gE ?_
                  exact pL
                · refine sg 17 (mkE ((63, I x1.f6) :: ((62, .ba 32 7) :: ((61, B false) :: ((61, B x20) :: ((60, B x20) :: ((59, B x20) :: ((58, I x1.f5) :: (s_3.append ((56, B x19) :: ((55, B x19) :: ((54, B x19) :: ((53, I x1.f4) :: (s_2.append ((51, B (!x18)) :: ((50, B (!x18)) :: ((49, B x18) :: ((48, a92 x1.f2) :: (s_4.append (s_0.append [(32, B false)]))))))))))))))))))) [(32, .box [S x1.f0, S x1.f1, I x1.f2.f0, I x1.f2.f1, LL S x1.f3, I x1.f4, I x1.f5, I x1.f6] false)] 73) ?_
                  refine co 64 [] (h70 x1.f6 0 1000000000) (fun x21 => ?_)
                  refine se (mkE (s_0.append [(46, B x21)]) [(32, .box [S x1.f0, S x1.f1, I x1.f2.f0, I x1.f2.f1, LL S x1.f3, I x1.f4, I x1.f5, I x1.f6] false)] 73) ?_
                  refine pN ?_
                  refine pS ?_
                  refine gC 46 x21 ?_ ?_
                  · refine gS 0 ?_
                    refine gR 11 (rg Tryz.f91 11) ?_
                    refine se (mkE [(2, I 1)] [] 73) ?_
                    refine pN ?_
                    refine pS ?_
                    refine gE ?_
                    exact pL
                  · refine gK ?_
                    refine pB ?_
                    refine pG (mkE s_0 [(32, .box [S x1.f0, S x1.f1, I x1.f2.f0, I x1.f2.f1, LL S x1.f3, I x1.f4, I x1.f5, I x1.f6] false)] 73) ?_
                    exact pL
    refine ss y22 (Z := (Sum.elim (fun (x : Unit) => (.normal, (mkE s_0 [(32, .box [S x1.f0, S x1.f1, I x1.f2.f0, I x1.f2.f1, LL S x1.f3, I x1.f4, I x1.f5, I x1.f6] false)] 73))) (fun (x : Int) => (.ret, (mkE [(2, I x)] [] 73))))) (fun y22a => ?_) (fun y22b => ?_)
    · refine pS ?_
      refine gS 13 ?_
      refine gR 12 (rg Tryz.f91 12) ?_
      refine sg 2 (mkE ((67, LL S x1.f3) :: ((66, .ba 32 4) :: s_0)) [(32, .box [S x1.f0, S x1.f1, I x1.f2.f0, I x1.f2.f1, LL S x1.f3, I x1.f4, I x1.f5, I x1.f6] false)] 73) ?_
      refine co 68 [] (h124 x1.f3) (fun x23 => ?_)
      refine se (mkE [(0, LL a94 p0), (5, I x23), (9, LL a94 p0), (10, I (lenL p0)), (11, I z0)] [] 73) ?_
      refine pN ?_
      refine pS ?_
      refine gS 0 ?_
      refine gR 13 (rg Tryz.f91 13) ?_
      refine se (mkE [(0, LL a94 p0), (5, I x23), (9, LL a94 p0), (10, I (lenL p0)), (11, I z0), (70, B (neI x23 0))] [] 73) ?_
      refine pN ?_
      refine pS ?_
      refine gC 70 (neI x23 0) ?_ ?_
      · refine gS 0 ?_
        refine gR 14 (rg Tryz.f91 14) ?_
        refine se (mkE [(2, I x23)] [] 73) ?_
        refine pN ?_
        refine pS ?_
        refine gE ?_
        exact pL
      · refine gK ?_
        refine pB ?_
        refine pN ?_
        refine pS ?_
        refine gR 15 (rg Tryz.f91 15) ?_
        refine se (mkE [(0, LL a94 p0), (9, LL a94 p0), (10, I (lenL p0)), (11, I (addI .i64 z0 1))] [] 73) ?_
        exact pL
    · exact pL
  · refine gX 0 ?_
    exact pL
noncomputable def T91 (p0 : (List S94)) : Option Int := (bif (ltI 30 (lenL p0)) then (some 2) else ((iter (L91_4 p0) 0).bind fun y24 => (Sum.elim (fun y24a => (some 0)) (fun y24b => (some y24b)) y24)))
theorem B91 (C : Callee) (h123 : ∀ (p0 : S92), C 123 [a92 p0] = (T123 p0).map B) (h124 : ∀ (p0 : (List ByteArray)), C 124 [LL S p0] = (T124 p0).map I) (h70 : ∀ (p0 : Int) (p1 : Int) (p2 : Int), C 70 [I p0, I p1, I p2] = (T70 p0 p1 p2).map B) (h97 : ∀ (p0 : ByteArray), C 97 [S p0] = (T97 p0).map B) (p0 : (List S94)) : runs Tryz.prog C (cfg.fn 91) (finFn Tryz.prog (cfg.fn 91).byval Tryz.f91) [] (execA Tryz.prog C (cfg.fn 91) (nr Tryz.f91 []) (frame0 [LL a94 p0] 73 false)) = (T91 p0).map I := by
  unfold T91
  let s_0 : List (Nat × AV) := [(0, LL a94 p0), (9, LL a94 p0), (10, I (lenL p0))]
  refine gS 1 ?_
  refine gR 0 (rg Tryz.f91 0) ?_
  refine se (mkE [(0, LL a94 p0)] [] 73) ?_
  refine pN ?_
  refine pS ?_
  refine gS 3 ?_
  refine gS 0 ?_
  refine gR 1 (rg Tryz.f91 1) ?_
  refine sg 1 (mkE [(6, LL a94 p0), (0, LL a94 p0)] [] 73) ?_
  refine eo 7 (I (lenL p0)) (lenE 90 a94 p0) ?_
  refine se (mkE [(0, LL a94 p0), (8, B (ltI 30 (lenL p0)))] [] 73) ?_
  refine pN ?_
  refine pS ?_
  refine gC 8 (ltI 30 (lenL p0)) ?_ ?_
  · refine gS 0 ?_
    refine gR 2 (rg Tryz.f91 2) ?_
    refine se (mkE [(2, I 2)] [] 73) ?_
    refine pN ?_
    refine pS ?_
    refine gE ?_
    exact pL
  · refine gK ?_
    refine pN ?_
    refine pS ?_
    refine gS 16 ?_
    refine gS 4 ?_
    refine gR 3 (rg Tryz.f91 3) ?_
    refine sg 1 (mkE [(9, LL a94 p0), (0, LL a94 p0), (8, B (ltI 30 (lenL p0)))] [] 73) ?_
    refine eo 10 (I (lenL p0)) (lenE 90 a94 p0) ?_
    refine se (mkE (s_0.append [(11, I 0)]) [] 73) ?_
    refine pN ?_
    refine pS ?_
    refine gB 0 ?_
    refine lo [(0, none), (9, none), (10, none), (11, none)] [] (L91_4 p0) (fun z0 : Int => (mkE (s_0.append [(11, I z0)]) [] 73)) (Sum.elim (fun (x : (Int × Bool)) => (.exit 0, (mkE (s_0.append ((11, I x.1) :: [(12, B x.2)])) [] 73))) (fun (x : Int) => (.ret, (mkE [(2, I x)] [] 73)))) 0 (fun z => L91_4_ok C h123 h124 h70 h97 p0 z) ?_
    intro y24
    refine ss y24 (Z := (Sum.elim (fun (x : (Int × Bool)) => (.exit 0, (mkE (s_0.append ((11, I x.1) :: [(12, B x.2)])) [] 73))) (fun (x : Int) => (.ret, (mkE [(2, I x)] [] 73))))) (fun y24a => ?_) (fun y24b => ?_)
    · refine pH ?_
      refine pN ?_
      refine pS ?_
      refine gS 0 ?_
      refine gR 16 (rg Tryz.f91 16) ?_
      refine se (mkE [(2, I 0)] [] 73) ?_
      refine pN ?_
      refine pS ?_
      refine gE ?_
      exact pL
    · exact pL
theorem F91 (m : Nat) (hm : 4 ≤ m) (p0 : (List S94)) : callA Tryz.prog cfg m 91 [LL a94 p0] = (T91 p0).map I := by
  obtain ⟨q, rfl⟩ : ∃ q, m = q + 1 := ⟨m - 1, by omega⟩
  exact (callA_body (fn := Tryz.f91) (c := body_ Tryz.f91) q _ (by kernel_rfl) (by kernel_rfl) (by kernel_rfl)).trans (B91 _ (fun p0 => F123 q (by omega) p0) (fun p0 => F124 q (by omega) p0) (fun p0 p1 p2 => F70 q (by omega) p0 p1 p2) (fun p0 => F97 q (by omega) p0) p0)

noncomputable def T92 (p0 : Int) : Option Bool := (bif (leI 0 p0) then (some (ltI p0 345686400000)) else (some false))
theorem B92 (C : Callee) (p0 : Int) : runs Tryz.prog C (cfg.fn 92) (finFn Tryz.prog (cfg.fn 92).byval Tryz.f92) [] (execA Tryz.prog C (cfg.fn 92) (nr Tryz.f92 []) (frame0 [I p0] 9 false)) = (T92 p0).map B := by
  unfold T92
  refine gS 1 ?_
  refine gR 0 (rg Tryz.f92 0) ?_
  refine se (mkE [(0, I p0)] [] 9) ?_
  refine pN ?_
  refine pS ?_
  refine gS 0 ?_
  refine gR 1 (rg Tryz.f92 1) ?_
  refine sg 3 (mkE [(5, B (leI 0 p0)), (4, B (leI 0 p0)), (3, I p0), (0, I p0)] [] 9) ?_
  refine sb 5 (leI 0 p0) ?_ ?_
  · refine se (mkE [(2, B (ltI p0 345686400000))] [] 9) ?_
    refine pN ?_
    refine pS ?_
    refine gE ?_
    exact pL
  · refine se (mkE [(2, B false)] [] 9) ?_
    refine pN ?_
    refine pS ?_
    refine gE ?_
    exact pL
theorem F92 (m : Nat) (hm : 1 ≤ m) (p0 : Int) : callA Tryz.prog cfg m 92 [I p0] = (T92 p0).map B := by
  obtain ⟨q, rfl⟩ : ∃ q, m = q + 1 := ⟨m - 1, by omega⟩
  exact (callA_body (fn := Tryz.f92) (c := body_ Tryz.f92) q _ (by kernel_rfl) (by kernel_rfl) (by kernel_rfl)).trans (B92 _ p0)

noncomputable def T93 (p0 : S94) (p1 : Int) : Option Int := (bif (ltI p1 p0.f2.f0) then (some 0) else (bif (leI p0.f2.f1 p1) then (some p0.f4) else ((quoO .i64 (mulI .i64 p0.f4 (subI .i64 p1 p0.f2.f0)) (subI .i64 p0.f2.f1 p0.f2.f0)).bind fun x1 => (some x1))))
theorem B93 (C : Callee) (p0 : S94) (p1 : Int) : runs Tryz.prog C (cfg.fn 93) (finFn Tryz.prog (cfg.fn 93).byval Tryz.f93) [] (execA Tryz.prog C (cfg.fn 93) (nr Tryz.f93 []) (frame0 [a94 p0, I p1] 35 false)) = (T93 p0 p1).map I := by
  unfold T93
  let o_0 : List (Nat × AObj) := [(16, .box [S p0.f0, S p0.f1, I p0.f2.f0, I p0.f2.f1, LL S p0.f3, I p0.f4, I p0.f5, I p0.f6] false)]
  refine gS 1 ?_
  refine gR 0 (rg Tryz.f93 0) ?_
  refine se (mkE [(1, I p1), (2, .ba 16 0)] o_0 35) ?_
  refine pN ?_
  refine pS ?_
  refine gS 5 ?_
  refine gB 0 ?_
  refine gS 0 ?_
  refine gR 1 (rg Tryz.f93 1) ?_
  refine se (mkE [(1, I p1), (2, .ba 16 0), (5, B (ltI p1 p0.f2.f0))] o_0 35) ?_
  refine pN ?_
  refine pS ?_
  refine gC 5 (ltI p1 p0.f2.f0) ?_ ?_
  · refine gS 0 ?_
    refine gR 2 (rg Tryz.f93 2) ?_
    refine se (mkE [(4, I 0)] [] 35) ?_
    refine pN ?_
    refine pS ?_
    refine gE ?_
    exact pL
  · refine gS 0 ?_
    refine gR 3 (rg Tryz.f93 3) ?_
    refine se (mkE [(1, I p1), (2, .ba 16 0), (11, B (leI p0.f2.f1 p1))] o_0 35) ?_
    refine pN ?_
    refine pS ?_
    refine gC 11 (leI p0.f2.f1 p1) ?_ ?_
    · refine gS 0 ?_
      refine gR 4 (rg Tryz.f93 4) ?_
      refine se (mkE [(4, I p0.f4)] [] 35) ?_
      refine pN ?_
      refine pS ?_
      refine gE ?_
      exact pL
    · refine gK ?_
      refine pB ?_
      refine pN ?_
      refine pS ?_
      refine gS 0 ?_
      refine gR 5 (rg Tryz.f93 5) ?_
      refine sg 15 (mkE [(33, I (subI .i64 p0.f2.f1 p0.f2.f0)), (32, I p0.f2.f0), (31, .ba 16 2), (30, .ba 16 2), (29, I p0.f2.f1), (28, .ba 16 3), (27, .ba 16 2), (26, I (mulI .i64 p0.f4 (subI .i64 p1 p0.f2.f0))), (25, I (subI .i64 p1 p0.f2.f0)), (24, I p0.f2.f0), (23, .ba 16 2), (22, .ba 16 2), (21, I p1), (20, I p0.f4), (19, .ba 16 5), (1, I p1), (2, .ba 16 0), (11, B (leI p0.f2.f1 p1))] o_0 35) ?_
      refine vo 34 (quoE 3 .i64 (.tmp 26) (.tmp 33) (mulI .i64 p0.f4 (subI .i64 p1 p0.f2.f0)) (subI .i64 p0.f2.f1 p0.f2.f0)) (fun x1 => ?_)
      refine se (mkE [(4, I x1)] [] 35) ?_
      refine pN ?_
      refine pS ?_
      refine gE ?_
      exact pL
theorem F93 (m : Nat) (hm : 1 ≤ m) (p0 : S94) (p1 : Int) : callA Tryz.prog cfg m 93 [a94 p0, I p1] = (T93 p0 p1).map I := by
  obtain ⟨q, rfl⟩ : ∃ q, m = q + 1 := ⟨m - 1, by omega⟩
  exact (callA_body (fn := Tryz.f93) (c := body_ Tryz.f93) q _ (by kernel_rfl) (by kernel_rfl) (by kernel_rfl)).trans (B93 _ p0 p1)

noncomputable def T45 (p0 : S94) (p1 : Int) : Option (Int × Int) := ((T91 ([p0] : List S94)).bind fun x1 => (bif (neI x1 0) then (some (0, x1)) else ((T92 p1).bind fun x2 => (bif (!x2) then (some (0, 1)) else ((T93 p0 p1).bind fun x3 => (some (x3, 0)))))))
theorem B45 (C : Callee) (h91 : ∀ (p0 : (List S94)), C 91 [LL a94 p0] = (T91 p0).map I) (h92 : ∀ (p0 : Int), C 92 [I p0] = (T92 p0).map B) (h93 : ∀ (p0 : S94) (p1 : Int), C 93 [a94 p0, I p1] = (T93 p0 p1).map I) (p0 : S94) (p1 : Int) : runs Tryz.prog C (cfg.fn 45) (finFn Tryz.prog (cfg.fn 45).byval Tryz.f45) [] (execA Tryz.prog C (cfg.fn 45) (nr Tryz.f45 []) (frame0 [a94 p0, I p1] 19 false)) = (T45 p0 p1).map (fun r => AV.tup [I r.1, I r.2]) := by
  unfold T45
  let o_0 : List (Nat × AObj) := [(16, .box [S p0.f0, S p0.f1, I p0.f2.f0, I p0.f2.f1, LL S p0.f3, I p0.f4, I p0.f5, I p0.f6] false)]
  refine gS 1 ?_
  refine gR 0 (rg Tryz.f45 0) ?_
  refine se (mkE [(1, I p1), (2, .ba 16 0)] o_0 19) ?_
  refine pN ?_
  refine pS ?_
  refine gS 4 ?_
  refine gS 2 ?_
  refine gR 1 (rg Tryz.f45 1) ?_
  refine sg 2 (mkE [(8, .own 64 0), (7, a94 p0), (1, I p1), (2, .ba 16 0)] ((64, RR 95 8 a94 ([p0] : List S94) 0 false) :: o_0) 19) ?_
  refine co 9 [64] (h91 ([p0] : List S94)) (fun x1 => ?_)
  refine se (mkE [(1, I p1), (2, .ba 16 0), (6, I x1)] o_0 19) ?_
  refine pN ?_
  refine pS ?_
  refine gS 0 ?_
  refine gR 2 (rg Tryz.f45 2) ?_
  refine se (mkE [(1, I p1), (2, .ba 16 0), (6, I x1), (11, B (neI x1 0))] o_0 19) ?_
  refine pN ?_
  refine pS ?_
  refine gC 11 (neI x1 0) ?_ ?_
  · refine gS 0 ?_
    refine gR 3 (rg Tryz.f45 3) ?_
    refine se (mkE [(4, I 0), (5, I x1)] [] 19) ?_
    refine pN ?_
    refine pS ?_
    refine gE ?_
    exact pL
  · refine gK ?_
    refine pN ?_
    refine pS ?_
    refine gS 6 ?_
    refine gS 0 ?_
    refine gR 4 (rg Tryz.f45 4) ?_
    refine sg 1 (mkE [(13, I p1), (1, I p1), (2, .ba 16 0), (6, I x1), (11, B (neI x1 0))] o_0 19) ?_
    refine co 14 [] (h92 p1) (fun x2 => ?_)
    refine se (mkE [(1, I p1), (2, .ba 16 0), (15, B (!x2))] o_0 19) ?_
    refine pN ?_
    refine pS ?_
    refine gC 15 (!x2) ?_ ?_
    · refine gS 0 ?_
      refine gR 5 (rg Tryz.f45 5) ?_
      refine se (mkE [(4, I 0), (5, I 1)] [] 19) ?_
      refine pN ?_
      refine pS ?_
      refine gE ?_
      exact pL
    · refine gK ?_
      refine pN ?_
      refine pS ?_
      refine gS 0 ?_
      refine gR 6 (rg Tryz.f45 6) ?_
      refine sg 2 (mkE [(17, I p1), (16, a94 p0), (1, I p1), (2, .ba 16 0), (15, B (!x2))] o_0 19) ?_
      refine co 18 [] (h93 p0 p1) (fun x3 => ?_)
      refine se (mkE [(4, I x3), (5, I 0)] [] 19) ?_
      refine pN ?_
      refine pS ?_
      refine gE ?_
      exact pL
theorem F45 (m : Nat) (hm : 5 ≤ m) (p0 : S94) (p1 : Int) : callA Tryz.prog cfg m 45 [a94 p0, I p1] = (T45 p0 p1).map (fun r => AV.tup [I r.1, I r.2]) := by
  obtain ⟨q, rfl⟩ : ∃ q, m = q + 1 := ⟨m - 1, by omega⟩
  exact (callA_body (fn := Tryz.f45) (c := body_ Tryz.f45) q _ (by kernel_rfl) (by kernel_rfl) (by kernel_rfl)).trans (B45 _ (fun p0 => F91 q (by omega) p0) (fun p0 => F92 q (by omega) p0) (fun p0 p1 => F93 q (by omega) p0 p1) p0 p1)

theorem F161 (m : Nat) (hm : 1 ≤ m) (p0 : ByteArray) (p1 : ByteArray) : callA Tryz.prog cfg m 161 [S p0, S p1] = (some (cmpS p0 p1)).map I := by
  obtain ⟨q, rfl⟩ : ∃ q, m = q + 1 := ⟨m - 1, by omega⟩
  exact (callA_leaf (L := leafCmp) _ _ (by kernel_rfl)).trans (rfl)

noncomputable def T141 (p0 : ByteArray) (p1 : ByteArray) : Option Int := ((some (cmpS p0 p1)).bind fun x1 => (some x1))
theorem B141 (C : Callee) (h161 : ∀ (p0 : ByteArray) (p1 : ByteArray), C 161 [S p0, S p1] = (some (cmpS p0 p1)).map I) (p0 : ByteArray) (p1 : ByteArray) : runs Tryz.prog C (cfg.fn 141) (finFn Tryz.prog (cfg.fn 141).byval Tryz.f141) [] (execA Tryz.prog C (cfg.fn 141) (nr Tryz.f141 []) (frame0 [S p0, S p1] 8 false)) = (T141 p0 p1).map I := by
  unfold T141
  refine gS 1 ?_
  refine gR 0 (rg Tryz.f141 0) ?_
  refine se (mkE [(0, S p0), (1, S p1)] [] 8) ?_
  refine pN ?_
  refine pS ?_
  refine gS 0 ?_
  refine gR 1 (rg Tryz.f141 1) ?_
  refine sg 2 (mkE [(6, S p1), (5, S p0), (0, S p0), (1, S p1)] [] 8) ?_
  refine co 7 [] (h161 p0 p1) (fun x1 => ?_)
  refine se (mkE [(4, I x1)] [] 8) ?_
  refine pN ?_
  refine pS ?_
  refine gE ?_
  exact pL
theorem F141 (m : Nat) (hm : 2 ≤ m) (p0 : ByteArray) (p1 : ByteArray) : callA Tryz.prog cfg m 141 [S p0, S p1] = (T141 p0 p1).map I := by
  obtain ⟨q, rfl⟩ : ∃ q, m = q + 1 := ⟨m - 1, by omega⟩
  exact (callA_body (fn := Tryz.f141) (c := body_ Tryz.f141) q _ (by kernel_rfl) (by kernel_rfl) (by kernel_rfl)).trans (B141 _ (fun p0 p1 => F161 q (by omega) p0 p1) p0 p1)

noncomputable def T142 (p0 : Int) (p1 : Int) : Option Int := ((T162 p0).bind fun x1 => ((T162 p1).bind fun x2 => (bif x1 then (bif x2 then (some 0) else (some (-1))) else (bif x2 then (some 1) else (bif (ltI p0 p1) then (some (-1)) else (bif (ltI p1 p0) then (some 1) else (some 0)))))))
theorem B142 (C : Callee) (h162 : ∀ (p0 : Int), C 162 [I p0] = (T162 p0).map B) (p0 : Int) (p1 : Int) : runs Tryz.prog C (cfg.fn 142) (finFn Tryz.prog (cfg.fn 142).byval Tryz.f142) [] (execA Tryz.prog C (cfg.fn 142) (nr Tryz.f142 []) (frame0 [I p0, I p1] 20 false)) = (T142 p0 p1).map I := by
  unfold T142
  refine gS 1 ?_
  refine gR 0 (rg Tryz.f142 0) ?_
  refine se (mkE [(0, I p0), (1, I p1)] [] 20) ?_
  refine pN ?_
  refine pS ?_
  refine gS 2 ?_
  refine gR 1 (rg Tryz.f142 1) ?_
  refine sg 1 (mkE [(7, I p0), (0, I p0), (1, I p1)] [] 20) ?_
  refine co 8 [] (h162 p0) (fun x1 => ?_)
  refine se (mkE [(0, I p0), (1, I p1), (5, B x1)] [] 20) ?_
  refine pN ?_
  refine pS ?_
  refine gS 3 ?_
  refine gR 2 (rg Tryz.f142 2) ?_
  refine sg 1 (mkE [(9, I p1), (0, I p0), (1, I p1), (5, B x1)] [] 20) ?_
  refine co 10 [] (h162 p1) (fun x2 => ?_)
  refine se (mkE [(0, I p0), (1, I p1), (5, B x1), (6, B x2)] [] 20) ?_
  refine pN ?_
  refine pS ?_
  refine gS 7 ?_
  refine gS 0 ?_
  refine gR 3 (rg Tryz.f142 3) ?_
  refine se (mkE [(0, I p0), (1, I p1), (6, B x2), (11, B x1)] [] 20) ?_
  refine pN ?_
  refine pS ?_
  refine gC 11 x1 ?_ ?_
  · refine gS 6 ?_
    refine gS 0 ?_
    refine gR 4 (rg Tryz.f142 4) ?_
    refine se (mkE [(12, B x2)] [] 20) ?_
    refine pN ?_
    refine pS ?_
    refine gC 12 x2 ?_ ?_
    · refine gS 0 ?_
      refine gR 5 (rg Tryz.f142 5) ?_
      refine se (mkE [(4, I 0)] [] 20) ?_
      refine pN ?_
      refine pS ?_
      refine gE ?_
      exact pL
    · refine gK ?_
      refine pN ?_
      refine pS ?_
      refine gS 0 ?_
      refine gR 6 (rg Tryz.f142 6) ?_
      refine se (mkE [(4, I (-1))] [] 20) ?_
      refine pN ?_
      refine pS ?_
      refine gE ?_
      exact pL
  · refine gK ?_
    refine pN ?_
    refine pS ?_
    refine gS 9 ?_
    refine gS 0 ?_
    refine gR 7 (rg Tryz.f142 7) ?_
    refine se (mkE [(0, I p0), (1, I p1), (13, B x2)] [] 20) ?_
    refine pN ?_
    refine pS ?_
    refine gC 13 x2 ?_ ?_
    · refine gS 0 ?_
      refine gR 8 (rg Tryz.f142 8) ?_
      refine se (mkE [(4, I 1)] [] 20) ?_
      refine pN ?_
      refine pS ?_
      refine gE ?_
      exact pL
    · refine gK ?_
      refine pN ?_
      refine pS ?_
      refine gS 11 ?_
      refine gS 0 ?_
      refine gR 9 (rg Tryz.f142 9) ?_
      refine se (mkE [(0, I p0), (1, I p1), (16, B (ltI p0 p1))] [] 20) ?_
      refine pN ?_
      refine pS ?_
      refine gC 16 (ltI p0 p1) ?_ ?_
      · refine gS 0 ?_
        refine gR 10 (rg Tryz.f142 10) ?_
        refine se (mkE [(4, I (-1))] [] 20) ?_
        refine pN ?_
        refine pS ?_
        refine gE ?_
        exact pL
      · refine gK ?_
        refine pN ?_
        refine pS ?_
        refine gS 13 ?_
        refine gS 0 ?_
        refine gR 11 (rg Tryz.f142 11) ?_
        refine se (mkE [(19, B (ltI p1 p0))] [] 20) ?_
        refine pN ?_
        refine pS ?_
        refine gC 19 (ltI p1 p0) ?_ ?_
        · refine gS 0 ?_
          refine gR 12 (rg Tryz.f142 12) ?_
          refine se (mkE [(4, I 1)] [] 20) ?_
          refine pN ?_
          refine pS ?_
          refine gE ?_
          exact pL
        · refine gK ?_
          refine pN ?_
          refine pS ?_
          refine gS 0 ?_
          refine gR 13 (rg Tryz.f142 13) ?_
          refine se (mkE [(4, I 0)] [] 20) ?_
          refine pN ?_
          refine pS ?_
          refine gE ?_
          exact pL
theorem F142 (m : Nat) (hm : 2 ≤ m) (p0 : Int) (p1 : Int) : callA Tryz.prog cfg m 142 [I p0, I p1] = (T142 p0 p1).map I := by
  obtain ⟨q, rfl⟩ : ∃ q, m = q + 1 := ⟨m - 1, by omega⟩
  exact (callA_body (fn := Tryz.f142) (c := body_ Tryz.f142) q _ (by kernel_rfl) (by kernel_rfl) (by kernel_rfl)).trans (B142 _ (fun p0 => F162 q (by omega) p0) p0 p1)

noncomputable def L140_3 (p0 : (List Int)) (z0 : Int) : Option (Int ⊕ ((Int × Bool) ⊕ Int)) := (bif (ltI z0 (lenL p0)) then ((listAt p0 z0).bind fun x1 => (bif (neI x1 0) then (some (.inr (.inr x1))) else (some (.inl (addI .i64 z0 1))))) else (some (.inr (.inl (z0, (ltI z0 (lenL p0)))))))
theorem L140_3_ok (C : Callee) (p0 : (List Int)) (z0 : Int) : runs Tryz.prog C (cfg.fn 140) (finLoop ((cfg.fn 140).keep 3) ((cfg.fn 140).al 3)) [] (execA Tryz.prog C (cfg.fn 140) (nr Tryz.f140 [false, false, true, false, true, true]) ((fun z0 : Int => (mkE [(3, I 0), (6, LL I p0), (7, I (lenL p0)), (8, I z0)] [] 18)) z0)) = (L140_3 p0 z0).map (Sum.elim (fun z => .inl ((fun z0 : Int => (mkE [(3, I 0), (6, LL I p0), (7, I (lenL p0)), (8, I z0)] [] 18)) z)) (fun x => .inr ((Sum.elim (fun (x : (Int × Bool)) => (.exit 0, (mkE [(3, I 0), (6, LL I p0), (7, I (lenL p0)), (8, I x.1), (9, B x.2)] [] 18))) (fun (x : Int) => (.ret, (mkE [(2, I x)] [] 18)))) x))) := by
  unfold L140_3
  refine gS 0 ?_
  refine gR 3 (rg Tryz.f140 3) ?_
  refine se (mkE [(3, I 0), (6, LL I p0), (7, I (lenL p0)), (8, I z0), (9, B (ltI z0 (lenL p0)))] [] 18) ?_
  refine pN ?_
  refine pS ?_
  refine gS 4 ?_
  refine gC 9 (ltI z0 (lenL p0)) ?_ ?_
  · refine gK ?_
    refine pN ?_
    refine pS ?_
    refine gS 7 ?_
    refine gB 1 ?_
    refine gS 5 ?_
    refine gR 4 (rg Tryz.f140 4) ?_
    refine vo 10 (addrE 22 3 1 I .i64 p0 z0) (fun x1 => ?_)
    refine se (mkE [(3, I 0), (5, I x1), (6, LL I p0), (7, I (lenL p0)), (8, I z0)] [] 18) ?_
    refine pN ?_
    refine pS ?_
    refine gS 0 ?_
    refine gR 5 (rg Tryz.f140 5) ?_
    refine se (mkE [(3, I 0), (5, I x1), (6, LL I p0), (7, I (lenL p0)), (8, I z0), (14, B (neI x1 0))] [] 18) ?_
    refine pN ?_
    refine pS ?_
    refine gC 14 (neI x1 0) ?_ ?_
    · refine gS 0 ?_
      refine gR 6 (rg Tryz.f140 6) ?_
      refine se (mkE [(2, I x1)] [] 18) ?_
      refine pN ?_
      refine pS ?_
      refine gE ?_
      exact pL
    · refine gK ?_
      refine pB ?_
      refine pN ?_
      refine pS ?_
      refine gR 7 (rg Tryz.f140 7) ?_
      refine se (mkE [(3, I 0), (6, LL I p0), (7, I (lenL p0)), (8, I (addI .i64 z0 1))] [] 18) ?_
      exact pL
  · refine gX 0 ?_
    exact pL
noncomputable def T140 (p0 : (List Int)) : Option Int := ((iter (L140_3 p0) 0).bind fun y2 => (Sum.elim (fun y2a => (some 0)) (fun y2b => (some y2b)) y2))
theorem B140 (C : Callee) (p0 : (List Int)) : runs Tryz.prog C (cfg.fn 140) (finFn Tryz.prog (cfg.fn 140).byval Tryz.f140) [] (execA Tryz.prog C (cfg.fn 140) (nr Tryz.f140 []) (frame0 [LL I p0] 18 false)) = (T140 p0).map I := by
  unfold T140
  refine gS 1 ?_
  refine gR 0 (rg Tryz.f140 0) ?_
  refine se (mkE [(0, LL I p0)] [] 18) ?_
  refine pN ?_
  refine pS ?_
  refine gS 2 ?_
  refine gR 1 (rg Tryz.f140 1) ?_
  refine se (mkE [(0, LL I p0), (3, I 0)] [] 18) ?_
  refine pN ?_
  refine pS ?_
  refine gS 8 ?_
  refine gS 3 ?_
  refine gR 2 (rg Tryz.f140 2) ?_
  refine sg 1 (mkE [(6, LL I p0), (0, LL I p0), (3, I 0)] [] 18) ?_
  refine eo 7 (I (lenL p0)) (lenE 22 I p0) ?_
  refine se (mkE [(3, I 0), (6, LL I p0), (7, I (lenL p0)), (8, I 0)] [] 18) ?_
  refine pN ?_
  refine pS ?_
  refine gB 0 ?_
  refine lo [(3, none), (6, none), (7, none), (8, none)] [] (L140_3 p0) (fun z0 : Int => (mkE [(3, I 0), (6, LL I p0), (7, I (lenL p0)), (8, I z0)] [] 18)) (Sum.elim (fun (x : (Int × Bool)) => (.exit 0, (mkE [(3, I 0), (6, LL I p0), (7, I (lenL p0)), (8, I x.1), (9, B x.2)] [] 18))) (fun (x : Int) => (.ret, (mkE [(2, I x)] [] 18)))) 0 (fun z => L140_3_ok C p0 z) ?_
  intro y2
  refine ss y2 (Z := (Sum.elim (fun (x : (Int × Bool)) => (.exit 0, (mkE [(3, I 0), (6, LL I p0), (7, I (lenL p0)), (8, I x.1), (9, B x.2)] [] 18))) (fun (x : Int) => (.ret, (mkE [(2, I x)] [] 18))))) (fun y2a => ?_) (fun y2b => ?_)
  · refine pH ?_
    refine pN ?_
    refine pS ?_
    refine gS 0 ?_
    refine gR 8 (rg Tryz.f140 8) ?_
    refine se (mkE [(2, I 0)] [] 18) ?_
    refine pN ?_
    refine pS ?_
    refine gE ?_
    exact pL
  · exact pL
theorem F140 (m : Nat) (hm : 1 ≤ m) (p0 : (List Int)) : callA Tryz.prog cfg m 140 [LL I p0] = (T140 p0).map I := by
  obtain ⟨q, rfl⟩ : ∃ q, m = q + 1 := ⟨m - 1, by omega⟩
  exact (callA_body (fn := Tryz.f140) (c := body_ Tryz.f140) q _ (by kernel_rfl) (by kernel_rfl) (by kernel_rfl)).trans (B140 _ p0)

noncomputable def T138 (p0 : S87) (p1 : S87) : Option Int := ((T141 p0.f0 p1.f0).bind fun x1 => ((T142 p0.f1 p1.f1).bind fun x2 => ((T140 ([x1, x2] : List Int)).bind fun x3 => (some x3))))
theorem B138 (C : Callee) (h140 : ∀ (p0 : (List Int)), C 140 [LL I p0] = (T140 p0).map I) (h141 : ∀ (p0 : ByteArray) (p1 : ByteArray), C 141 [S p0, S p1] = (T141 p0 p1).map I) (h142 : ∀ (p0 : Int) (p1 : Int), C 142 [I p0, I p1] = (T142 p0 p1).map I) (p0 : S87) (p1 : S87) : runs Tryz.prog C (cfg.fn 138) (finFn Tryz.prog (cfg.fn 138).byval Tryz.f138) [] (execA Tryz.prog C (cfg.fn 138) (nr Tryz.f138 []) (frame0 [a87 p0, a87 p1] 17 false)) = (T138 p0 p1).map I := by
  unfold T138
  let d_0 : List (Option Nat × REff) := [(some 5, qe (.ba 16 0)), (some 6, qe (S p0.f0)), (some 7, qe (.ba 24 0)), (some 8, qe (S p1.f0))]
  let d_1 : List (Option Nat × REff) := [(some 10, qe (.ba 16 1)), (some 11, qe (I p0.f1)), (some 12, qe (.ba 24 1)), (some 13, qe (I p1.f1))]
  let s_0 : List (Nat × AV) := [(8, S p1.f0), (7, .ba 24 0), (6, S p0.f0), (5, .ba 16 0), (2, .ba 16 0), (3, .ba 24 0)]
  let o_0 : List (Nat × AObj) := [(16, .box [S p0.f0, I p0.f1, I p0.f2] false), (24, .box [S p1.f0, I p1.f1, I p1.f2] false)]
  refine gS 1 ?_
  refine gR 0 (rg Tryz.f138 0) ?_
  refine se (mkE [(2, .ba 16 0), (3, .ba 24 0)] o_0 17) ?_
  refine pN ?_
  refine pS ?_
  refine gS 0 ?_
  refine gD 1 13 (rg Tryz.f138 1) [0, 1, 2, 3, 4, 5, 6, 7, 8, 9, 10, 11, 12] ?_
  refine dg 4 d_0 ?_
  refine dc 9 [] (mkE s_0 o_0 17) (h141 p0.f0 p1.f0) (fun x1 => ?_)
  refine dg 9 (d_0.append ((some 9, qe (I x1)) :: d_1)) ?_
  refine dc 14 [] (mkE ((13, I p1.f1) :: ((12, .ba 24 1) :: ((11, I p0.f1) :: ((10, .ba 16 1) :: ((9, I x1) :: s_0))))) o_0 17) (h142 p0.f1 p1.f1) (fun x2 => ?_)
  refine dg 11 (d_0.append ((some 9, qe (I x1)) :: (d_1.append ((some 14, qe (I x2)) :: [(some 15, { e := { val := .own 120 0, news := [(120, RR 3 1 I ([x1, x2] : List Int) 0 false)] } })])))) ?_
  refine dc 16 [120] (mkE ((15, .own 120 0) :: ((14, I x2) :: ((13, I p1.f1) :: ((12, .ba 24 1) :: ((11, I p0.f1) :: ((10, .ba 16 1) :: ((9, I x1) :: s_0))))))) ((120, RR 3 1 I ([x1, x2] : List Int) 0 false) :: o_0) 17) (h140 ([x1, x2] : List Int)) (fun x3 => ?_)
  refine dg 13 (d_0.append ((some 9, qe (I x1)) :: (d_1.append ((some 14, qe (I x2)) :: ((some 15, { e := { val := .own 120 0, news := [(120, RR 3 1 I ([x1, x2] : List Int) 0 false)] } }) :: ((some 16, qe (I x3)) :: [(some 4, qe (I x3))])))))) ?_
  refine de (mkE ((4, I x3) :: ((16, I x3) :: ((15, .own 120 0) :: ((14, I x2) :: ((13, I p1.f1) :: ((12, .ba 24 1) :: ((11, I p0.f1) :: ((10, .ba 16 1) :: ((9, I x1) :: s_0))))))))) ((120, RR 3 1 I ([x1, x2] : List Int) 0 false) :: o_0) 17) ?_
  refine se (mkE [(4, I x3)] [] 17) ?_
  refine pN ?_
  refine pS ?_
  refine gE ?_
  exact pL
theorem F138 (m : Nat) (hm : 3 ≤ m) (p0 : S87) (p1 : S87) : callA Tryz.prog cfg m 138 [a87 p0, a87 p1] = (T138 p0 p1).map I := by
  obtain ⟨q, rfl⟩ : ∃ q, m = q + 1 := ⟨m - 1, by omega⟩
  exact (callA_body (fn := Tryz.f138) (c := body_ Tryz.f138) q _ (by kernel_rfl) (by kernel_rfl) (by kernel_rfl)).trans (B138 _ (fun p0 => F140 q (by omega) p0) (fun p0 p1 => F141 q (by omega) p0 p1) (fun p0 p1 => F142 q (by omega) p0 p1) p0 p1)

noncomputable def L120_4 (p0 : (List S87)) (z0 : Int) : Option (Int ⊕ ((Int × Bool) ⊕ Int)) := (bif (ltI z0 (lenL p0)) then ((listAt p0 z0).bind fun x1 => ((T97 x1.f0).bind fun x2 => (bif (!x2) then (some (.inr (.inr 5))) else ((T92 x1.f1).bind fun x3 => (bif (!x3) then (some (.inr (.inr 1))) else ((T70 x1.f2 0 345686399999).bind fun x4 => (bif x4 then (some (.inr (.inr 1))) else (bif (ltI 0 z0) then ((listAt p0 (subI .i64 z0 1)).bind fun x5 => ((T138 x5 x1).bind fun x6 => (bif (leI 0 x6) then (some (.inr (.inr 7))) else (bif (ltI 0 z0) then ((listAt p0 (subI .i64 z0 1)).bind fun x7 => (bif (eqS x1.f0 x7.f0) then ((listAt p0 (subI .i64 z0 1)).bind fun x8 => (bif (leI x1.f2 x8.f2) then (some (.inr (.inr 16))) else (some (.inl (addI .i64 z0 1))))) else (some (.inl (addI .i64 z0 1))))) else (some (.inl (addI .i64 z0 1))))))) else (bif (ltI 0 z0) then ((listAt p0 (subI .i64 z0 1)).bind fun x9 => (bif (eqS x1.f0 x9.f0) then ((listAt p0 (subI .i64 z0 1)).bind fun x10 => (bif (leI x1.f2 x10.f2) then (some (.inr (.inr 16))) else (some (.inl (addI .i64 z0 1))))) else (some (.inl (addI .i64 z0 1))))) else (some (.inl (addI .i64 z0 1)))))))))))) else (some (.inr (.inl (z0, (ltI z0 (lenL p0)))))))
theorem L120_4_ok (C : Callee) (h138 : ∀ (p0 : S87) (p1 : S87), C 138 [a87 p0, a87 p1] = (T138 p0 p1).map I) (h70 : ∀ (p0 : Int) (p1 : Int) (p2 : Int), C 70 [I p0, I p1, I p2] = (T70 p0 p1 p2).map B) (h92 : ∀ (p0 : Int), C 92 [I p0] = (T92 p0).map B) (h97 : ∀ (p0 : ByteArray), C 97 [S p0] = (T97 p0).map B) (p0 : (List S87)) (z0 : Int) : runs Tryz.prog C (cfg.fn 120) (finLoop ((cfg.fn 120).keep 4) ((cfg.fn 120).al 4)) [] (execA Tryz.prog C (cfg.fn 120) (nr Tryz.f120 [false, false, true, false, true, true]) ((fun z0 : Int => (mkE [(0, LL a87 p0), (8, LL a87 p0), (9, I (lenL p0)), (10, I z0)] [] 69)) z0)) = (L120_4 p0 z0).map (Sum.elim (fun z => .inl ((fun z0 : Int => (mkE [(0, LL a87 p0), (8, LL a87 p0), (9, I (lenL p0)), (10, I z0)] [] 69)) z)) (fun x => .inr ((Sum.elim (fun (x : (Int × Bool)) => (.exit 0, (mkE [(0, LL a87 p0), (8, LL a87 p0), (9, I (lenL p0)), (10, I x.1), (11, B x.2)] [] 69))) (fun (x : Int) => (.ret, (mkE [(2, I x)] [] 69)))) x))) := by
  unfold L120_4
  let d_0 : List (Option Nat × REff) := [(some 44, qe (I z0)), (some 45, qe (B (ltI 0 z0))), (some 46, qe (B true)), (some 47, qe (.ba 32 0))]
  let d_1 : List (Option Nat × REff) := [(some 57, qe (B false)), (some 58, qe (.und)), (some 59, qe (.und)), (some 60, qe (.und)), (some 61, qe (.und)), (some 62, qe (.und)), (some 63, qe (.und)), (some 64, qe (.und)), (some 65, qe (.und)), (some 66, qe (.und)), (some 67, qe (B false)), (some 43, qe (B false))]
  let d_2 : List (Option Nat × REff) := [(some 49, qe (LL a87 p0)), (some 50, qe (I z0)), (some 51, qe (I (subI .i64 z0 1)))]
  let d_3 : List (Option Nat × REff) := [(some 31, qe (I z0)), (some 32, qe (B (ltI 0 z0))), (some 33, qe (B true)), (some 34, qe (LL a87 p0)), (some 35, qe (I z0)), (some 36, qe (I (subI .i64 z0 1)))]
  let d_4 : List (Option Nat × REff) := [(some 44, qe (I z0)), (some 45, qe (B (ltI 0 z0))), (some 46, qe (B false)), (some 47, qe (.und)), (some 48, qe (.und)), (some 49, qe (.und)), (some 50, qe (.und)), (some 51, qe (.und)), (some 52, qe (.und)), (some 53, qe (.und)), (some 54, qe (.und)), (some 55, qe (.und)), (some 56, qe (B false))]
  let d_5 : List (Option Nat × REff) := [(some 60, qe (LL a87 p0)), (some 61, qe (I z0)), (some 62, qe (I (subI .i64 z0 1)))]
  let d_6 : List (Option Nat × REff) := [(some 57, qe (B true)), (some 58, qe (.ba 32 2))]
  let s_0 : List (Nat × AV) := [(0, LL a87 p0), (3, I z0), (4, .ba 32 0), (8, LL a87 p0), (9, I (lenL p0)), (10, I z0)]
  let s_1 : List (Nat × AV) := [(0, LL a87 p0), (8, LL a87 p0), (9, I (lenL p0))]
  let s_2 : List (Nat × AV) := [(43, B false), (67, B false), (66, .und), (65, .und), (64, .und), (63, .und), (62, .und), (61, .und), (60, .und), (59, .und), (58, .und), (57, B false)]
  let s_3 : List (Nat × AV) := [(51, I (subI .i64 z0 1)), (50, I z0), (49, LL a87 p0)]
  let s_4 : List (Nat × AV) := [(47, .ba 32 0), (46, B true), (45, B (ltI 0 z0)), (44, I z0)]
  let s_5 : List (Nat × AV) := [(36, I (subI .i64 z0 1)), (35, I z0), (34, LL a87 p0), (33, B true), (32, B (ltI 0 z0)), (31, I z0)]
  let s_6 : List (Nat × AV) := [(56, B false), (55, .und), (54, .und), (53, .und), (52, .und), (51, .und), (50, .und), (49, .und), (48, .und), (47, .und), (46, B false), (45, B (ltI 0 z0)), (44, I z0)]
  let s_7 : List (Nat × AV) := [(62, I (subI .i64 z0 1)), (61, I z0), (60, LL a87 p0)]
  refine gS 0 ?_
  refine gR 4 (rg Tryz.f120 4) ?_
  refine se (mkE (s_1.append ((10, I z0) :: [(11, B (ltI z0 (lenL p0)))])) [] 69) ?_
  refine pN ?_
  refine pS ?_
  refine gS 5 ?_
  refine gC 11 (ltI z0 (lenL p0)) ?_ ?_
  · refine gK ?_
    refine pN ?_
    refine pS ?_
    refine gS 14 ?_
    refine gB 1 ?_
    refine gS 6 ?_
    refine gR 5 (rg Tryz.f120 5) ?_
    refine sg 1 (mkE ((12, I z0) :: (s_1.append ((10, I z0) :: [(11, B (ltI z0 (lenL p0)))]))) [] 69) ?_
    refine vo 13 (addrE 86 88 3 a87 .i64 p0 z0) (fun x1 => ?_)
    refine se (mkE s_0 [(32, .box [S x1.f0, I x1.f1, I x1.f2] false)] 69) ?_
    refine pN ?_
    refine pS ?_
    refine gB 2 ?_
    refine gS 0 ?_
    refine gR 6 (rg Tryz.f120 6) ?_
    refine sg 2 (mkE ((17, S x1.f0) :: ((16, .ba 32 0) :: s_0)) [(32, .box [S x1.f0, I x1.f1, I x1.f2] false)] 69) ?_
    refine co 18 [] (h97 x1.f0) (fun x2 => ?_)
    refine se (mkE (s_0.append [(15, B (!x2))]) [(32, .box [S x1.f0, I x1.f1, I x1.f2] false)] 69) ?_
    refine pN ?_
    refine pS ?_
    refine gC 15 (!x2) ?_ ?_
    · refine gS 0 ?_
      refine gR 7 (rg Tryz.f120 7) ?_
      refine se (mkE [(2, I 5)] [] 69) ?_
      refine pN ?_
      refine pS ?_
      refine gE ?_
      exact pL
    · refine gS 0 ?_
      refine gR 8 (rg Tryz.f120 8) ?_
      refine sg 2 (mkE ((22, I x1.f1) :: ((21, .ba 32 1) :: (s_0.append [(15, B (!x2))]))) [(32, .box [S x1.f0, I x1.f1, I x1.f2] false)] 69) ?_
      refine co 23 [] (h92 x1.f1) (fun x3 => ?_)
      refine sg 5 (mkE ((25, B (!x3)) :: ((24, B (!x3)) :: ((23, B x3) :: ((22, I x1.f1) :: ((21, .ba 32 1) :: (s_0.append [(15, B (!x2))])))))) [(32, .box [S x1.f0, I x1.f1, I x1.f2] false)] 69) ?_
      refine sb 25 (!x3) ?_ ?_
      · refine se (mkE (s_0.append [(20, B true)]) [(32, .box [S x1.f0, I x1.f1, I x1.f2] false)] 69) ?_
        refine pN ?_
        refine pS ?_
        refine gT (.tmp 20) ?_
        refine gS 0 ?_
        refine gR 9 (rg Tryz.f120 9) ?_
        refine se (mkE [(2, I 1)] [] 69) ?_
        refine pN ?_
        refine pS ?_
        refine gE ?_
        exact pL
      · refine sg 7 (mkE ((27, I x1.f2) :: ((26, .ba 32 2) :: ((25, B false) :: ((25, B (!x3)) :: ((24, B (!x3)) :: ((23, B x3) :: ((22, I x1.f1) :: ((21, .ba 32 1) :: (s_0.append [(15, B (!x2))]))))))))) [(32, .box [S x1.f0, I x1.f1, I x1.f2] false)] 69) ?_
        refine co 28 [] (h70 x1.f2 0 345686399999) (fun x4 => ?_)
        refine se (mkE (s_0.append [(20, B x4)]) [(32, .box [S x1.f0, I x1.f1, I x1.f2] false)] 69) ?_
        refine pN ?_
        refine pS ?_
        refine gC 20 x4 ?_ ?_
        · refine gS 0 ?_
          refine gR 9 (rg Tryz.f120 9) ?_
          refine se (mkE [(2, I 1)] [] 69) ?_
          refine pN ?_
          refine pS ?_
          refine gE ?_
          exact pL
        · refine gS 0 ?_
          refine gD 10 13 (rg Tryz.f120 10) [0, 1, 2, 3, 4, 5, 6, 7, 8, 9, 10, 11, 12] ?_
          refine dg 3 [(some 31, qe (I z0)), (some 32, qe (B (ltI 0 z0))), (some 33, qe (B (ltI 0 z0)))] ?_
          refine db 2 33 (ltI 0 z0) ?_ ?_
          · refine dg 6 d_3 ?_
            refine dv 37 (mkE (s_5.append (s_0.append [(20, B x4)])) [(32, .box [S x1.f0, I x1.f1, I x1.f2] false)] 69) (addrE 86 88 3 a87 .i64 p0 (subI .i64 z0 1)) (fun x5 => ?_)
            refine dg 9 (d_3.append ((some 37, qe (.ia [S x5.f0, I x5.f1, I x5.f2] 0)) :: ((some 38, qe (a87 x5)) :: [(some 39, qe (a87 x1))]))) ?_
            refine dc 40 [] (mkE ((39, a87 x1) :: ((38, a87 x5) :: ((37, .ia [S x5.f0, I x5.f1, I x5.f2] 0) :: (s_5.append (s_0.append [(20, B x4)]))))) [(32, .box [S x1.f0, I x1.f1, I x1.f2] false)] 69) (h138 x5 x1) (fun x6 => ?_)
            refine dg 13 (d_3.append ((some 37, qe (.ia [S x5.f0, I x5.f1, I x5.f2] 0)) :: ((some 38, qe (a87 x5)) :: ((some 39, qe (a87 x1)) :: ((some 40, qe (I x6)) :: ((some 41, qe (B (leI 0 x6))) :: ((some 42, qe (B (leI 0 x6))) :: [(some 30, qe (B (leI 0 x6)))]))))))) ?_
            refine de (mkE ((30, B (leI 0 x6)) :: ((42, B (leI 0 x6)) :: ((41, B (leI 0 x6)) :: ((40, I x6) :: ((39, a87 x1) :: ((38, a87 x5) :: ((37, .ia [S x5.f0, I x5.f1, I x5.f2] 0) :: (s_5.append (s_0.append [(20, B x4)]))))))))) [(32, .box [S x1.f0, I x1.f1, I x1.f2] false)] 69) ?_
            refine se (mkE (s_0.append [(30, B (leI 0 x6))]) [(32, .box [S x1.f0, I x1.f1, I x1.f2] false)] 69) ?_
            refine pN ?_
            refine pS ?_
            refine gC 30 (leI 0 x6) ?_ ?_
            · refine gS 0 ?_
              refine gR 11 (rg Tryz.f120 11) ?_
              refine se (mkE [(2, I 7)] [] 69) ?_
              refine pN ?_
              refine pS ?_
              refine gE ?_
              exact pL
            · refine gS 0 ?_
              refine gD 12 25 (rg Tryz.f120 12) [0, 1, 2, 3, 4, 5, 6, 7, 8, 9, 10, 11, 12, 13, 14, 15, 16, 17, 18, 19, 20, 21, 22, 23, 24] ?_
              refine dg 3 [(some 44, qe (I z0)), (some 45, qe (B (ltI 0 z0))), (some 46, qe (B (ltI 0 z0)))] ?_
              refine db 2 46 (ltI 0 z0) ?_ ?_
              · refine dg 8 (d_0.append ((some 48, qe (S x1.f0)) :: d_2)) ?_
                refine dv 52 (mkE (s_3.append ((46, B true) :: ((45, B (ltI 0 z0)) :: ((44, I z0) :: (s_0.append [(30, B (leI 0 x6))]))))) [(32, .box [S x1.f0, I x1.f1, I x1.f2] false)] 69) (addrE 86 88 3 a87 .i64 p0 (subI .i64 z0 1)) (fun x7 => ?_)
                refine dg 14 (d_0.append ((some 48, qe (S x1.f0)) :: (d_2.append ((some 52, qe (.ia [S x7.f0, I x7.f1, I x7.f2] 0)) :: ((some 53, qe (.ia [S x7.f0, I x7.f1, I x7.f2] 0)) :: ((some 54, qe (S x7.f0)) :: ((some 55, qe (B (eqS x1.f0 x7.f0))) :: ((some 56, qe (B (eqS x1.f0 x7.f0))) :: [(some 57, qe (B (eqS x1.f0 x7.f0)))])))))))) ?_
                refine db 13 57 (eqS x1.f0 x7.f0) ?_ ?_
                · refine dg 19 (d_0.append ((some 48, qe (S x1.f0)) :: (d_2.append ((some 52, qe (.ia [S x7.f0, I x7.f1, I x7.f2] 0)) :: ((some 53, qe (.ia [S x7.f0, I x7.f1, I x7.f2] 0)) :: ((some 54, qe (S x7.f0)) :: ((some 55, qe (B (eqS x1.f0 x7.f0))) :: ((some 56, qe (B (eqS x1.f0 x7.f0))) :: (d_6.append ((some 59, qe (I x1.f2)) :: d_5)))))))))) ?_
                  refine dv 63 (mkE (s_7.append ((57, B true) :: ((56, B (eqS x1.f0 x7.f0)) :: ((55, B (eqS x1.f0 x7.f0)) :: ((54, S x7.f0) :: ((53, .ia [S x7.f0, I x7.f1, I x7.f2] 0) :: ((52, .ia [S x7.f0, I x7.f1, I x7.f2] 0) :: (s_3.append ((48, S x1.f0) :: (s_4.append (s_0.append [(30, B (leI 0 x6))]))))))))))) [(32, .box [S x1.f0, I x1.f1, I x1.f2] false)] 69) (addrE 86 88 3 a87 .i64 p0 (subI .i64 z0 1)) (fun x8 => ?_)
                  refine dg 25 (d_0.append ((some 48, qe (S x1.f0)) :: (d_2.append ((some 52, qe (.ia [S x7.f0, I x7.f1, I x7.f2] 0)) :: ((some 53, qe (.ia [S x7.f0, I x7.f1, I x7.f2] 0)) :: ((some 54, qe (S x7.f0)) :: ((some 55, qe (B (eqS x1.f0 x7.f0))) :: ((some 56, qe (B (eqS x1.f0 x7.f0))) :: (d_6.append ((some 59, qe (I x1.f2)) :: (d_5.append ((some 63, qe (.ia [S x8.f0, I x8.f1, I x8.f2] 0)) :: ((some 64, qe (.ia [S x8.f0, I x8.f1, I x8.f2] 2)) :: ((some 65, qe (I x8.f2)) :: ((some 66, qe (B (leI x1.f2 x8.f2))) :: ((some 67, qe (B (leI x1.f2 x8.f2))) :: [(some 43, qe (B (leI x1.f2 x8.f2)))])))))))))))))))) ?_
                  refine de (mkE ((43, B (leI x1.f2 x8.f2)) :: ((67, B (leI x1.f2 x8.f2)) :: ((66, B (leI x1.f2 x8.f2)) :: ((65, I x8.f2) :: ((64, .ia [S x8.f0, I x8.f1, I x8.f2] 2) :: ((63, .ia [S x8.f0, I x8.f1, I x8.f2] 0) :: (s_7.append ((59, I x1.f2) :: ((58, .ba 32 2) :: ((57, B true) :: ((56, B (eqS x1.f0 x7.f0)) :: ((55, B (eqS x1.f0 x7.f0)) :: ((54, S x7.f0) :: ((53, .ia [S x7.f0, I x7.f1, I x7.f2] 0) :: ((52, .ia [S x7.f0, I x7.f1, I x7.f2] 0) :: (s_3.append ((48, S x1.f0) :: (s_4.append (s_0.append [(30, B (leI 0 x6))]))))))))))))))))))) [(32, .box [S x1.f0, I x1.f1, I x1.f2] false)] 69) ?_
                  refine se (mkE (s_1.append ((10, I z0) :: [(43, B (leI x1.f2 x8.f2))])) [] 69) ?_
                  refine pN ?_
                  refine pS ?_
                  refine gC 43 (leI x1.f2 x8.f2) ?_ ?_
                  · refine gS 0 ?_
                    refine gR 13 (rg Tryz.f120 13) ?_
                    refine se (mkE [(2, I 16)] [] 69) ?_
                    refine pN ?_
                    refine pS ?_
                    refine gE ?_
                    exact pL
                  · refine gK ?_
                    refine pB ?_
                    refine pB ?_
                    refine pN ?_
                    refine pS ?_
                    refine gR 14 (rg Tryz.f120 14) ?_
                    refine se (mkE (s_1.append [(10, I (addI .i64 z0 1))]) [] 69) ?_
                    exact pL
                · refine dg 25 (d_0.append ((some 48, qe (S x1.f0)) :: (d_2.append ((some 52, qe (.ia [S x7.f0, I x7.f1, I x7.f2] 0)) :: ((some 53, qe (.ia [S x7.f0, I x7.f1, I x7.f2] 0)) :: ((some 54, qe (S x7.f0)) :: ((some 55, qe (B (eqS x1.f0 x7.f0))) :: ((some 56, qe (B (eqS x1.f0 x7.f0))) :: d_1)))))))) ?_
                  refine de (mkE (s_2.append ((56, B (eqS x1.f0 x7.f0)) :: ((55, B (eqS x1.f0 x7.f0)) :: ((54, S x7.f0) :: ((53, .ia [S x7.f0, I x7.f1, I x7.f2] 0) :: ((52, .ia [S x7.f0, I x7.f1, I x7.f2] 0) :: (s_3.append ((48, S x1.f0) :: (s_4.append (s_0.append [(30, B (leI 0 x6))])))))))))) [(32, .box [S x1.f0, I x1.f1, I x1.f2] false)] 69) ?_
                  refine se (mkE (s_1.append ((10, I z0) :: [(43, B false)])) [] 69) ?_
                  refine pN ?_
                  refine pS ?_
                  refine gF (.tmp 43) ?_
                  refine gK ?_
                  refine pB ?_
                  refine pB ?_
                  refine pN ?_
                  refine pS ?_
                  refine gR 14 (rg Tryz.f120 14) ?_
                  refine se (mkE (s_1.append [(10, I (addI .i64 z0 1))]) [] 69) ?_
                  exact pL
              · refine dg 25 (d_4.append d_1) ?_
                refine de (mkE (s_2.append (s_6.append (s_0.append [(30, B (leI 0 x6))]))) [(32, .box [S x1.f0, I x1.f1, I x1.f2] false)] 69) ?_
                refine se (mkE (s_1.append ((10, I z0) :: [(43, B false)])) [] 69) ?_
                refine pN ?_
                refine pS ?_
                refine gF (.tmp 43) ?_
                refine gK ?_
                refine pB ?_
                refine pB ?_
                refine pN ?_
                refine pS ?_
                refine gR 14 (rg Tryz.f120 14) ?_
                refine se (mkE (s_1.append [(10, I (addI .i64 z0 1))]) [] 69) ?_
                exact pL
          · refine dg 13 [(some 31, qe (I z0)), (some 32, qe (B (ltI 0 z0))), (some 33, qe (B false)), (some 34, qe (.und)), (some 35, qe (.und)), (some 36, qe (.und)), (some 37, qe (.und)), (some 38, qe (.und)), (some 39, qe (.und)), (some 40, qe (.und)), (some 41, qe (.und)), (some 42, qe (B false)), (some 30, qe (B false))] ?_
            refine de (mkE ((30, B false) :: ((42, B false) :: ((41, .und) :: ((40, .und) :: ((39, .und) :: ((38, .und) :: ((37, .und) :: ((36, .und) :: ((35, .und) :: ((34, .und) :: ((33, B false) :: ((32, B (ltI 0 z0)) :: ((31, I z0) :: (s_0.append [(20, B x4)])))))))))))))) [(32, .box [S x1.f0, I x1.f1, I x1.f2] false)] 69) ?_
            refine se (mkE (s_0.append [(30, B false)]) [(32, .box [S x1.f0, I x1.f1, I x1.f2] false)] 69) ?_
            refine pN ?_
            refine pS ?_
            refine gF (.tmp 30) ?_
            refine gS 0 ?_
            refine gD 12 25 (rg Tryz.f120 12) [0, 1, 2, 3, 4, 5, 6, 7, 8, 9, 10, 11, 12, 13, 14, 15, 16, 17, 18, 19, 20, 21, 22, 23, 24] ?_
            refine dg 3 [(some 44, qe (I z0)), (some 45, qe (B (ltI 0 z0))), (some 46, qe (B (ltI 0 z0)))] ?_
            refine db 2 46 (ltI 0 z0) ?_ ?_
            · refine dg 8 (d_0.append ((some 48, qe (S x1.f0)) :: d_2)) ?_
              refine dv 52 (mkE (s_3.append ((46, B true) :: ((45, B (ltI 0 z0)) :: ((44, I z0) :: (s_0.append [(30, B false)]))))) [(32, .box [S x1.f0, I x1.f1, I x1.f2] false)] 69) (addrE 86 88 3 a87 .i64 p0 (subI .i64 z0 1)) (fun x9 => ?_)
              refine dg 14 (d_0.append ((some 48, qe (S x1.f0)) :: (d_2.append ((some 52, qe (.ia [S x9.f0, I x9.f1, I x9.f2] 0)) :: ((some 53, qe (.ia [S x9.f0, I x9.f1, I x9.f2] 0)) :: ((some 54, qe (S x9.f0)) :: ((some 55, qe (B (eqS x1.f0 x9.f0))) :: ((some 56, qe (B (eqS x1.f0 x9.f0))) :: [(some 57, qe (B (eqS x1.f0 x9.f0)))])))))))) ?_
              refine db 13 57 (eqS x1.f0 x9.f0) ?_ ?_
              · refine dg 19 (d_0.append ((some 48, qe (S x1.f0)) :: (d_2.append ((some 52, qe (.ia [S x9.f0, I x9.f1, I x9.f2] 0)) :: ((some 53, qe (.ia [S x9.f0, I x9.f1, I x9.f2] 0)) :: ((some 54, qe (S x9.f0)) :: ((some 55, qe (B (eqS x1.f0 x9.f0))) :: ((some 56, qe (B (eqS x1.f0 x9.f0))) :: (d_6.append ((some 59, qe (I x1.f2)) :: d_5)))))))))) ?_
                refine dv 63 (mkE (s_7.append ((57, B true) :: ((56, B (eqS x1.f0 x9.f0)) :: ((55, B (eqS x1.f0 x9.f0)) :: ((54, S x9.f0) :: ((53, .ia [S x9.f0, I x9.f1, I x9.f2] 0) :: ((52, .ia [S x9.f0, I x9.f1, I x9.f2] 0) :: (s_3.append ((48, S x1.f0) :: (s_4.append (s_0.append [(30, B false)]))))))))))) [(32, .box [S x1.f0, I x1.f1, I x1.f2] false)] 69) (addrE 86 88 3 a87 .i64 p0 (subI .i64 z0 1)) (fun x10 => ?_)
                refine dg 25 (d_0.append ((some 48, qe (S x1.f0)) :: (d_2.append ((some 52, qe (.ia [S x9.f0, I x9.f1, I x9.f2] 0)) :: ((some 53, qe (.ia [S x9.f0, I x9.f1, I x9.f2] 0)) :: ((some 54, qe (S x9.f0)) :: ((some 55, qe (B (eqS x1.f0 x9.f0))) :: ((some 56, qe (B (eqS x1.f0 x9.f0))) :: (d_6.append ((some 59, qe (I x1.f2)) :: (d_5.append ((some 63, qe (.ia [S x10.f0, I x10.f1, I x10.f2] 0)) :: ((some 64, qe (.ia [S x10.f0, I x10.f1, I x10.f2] 2)) :: ((some 65, qe (I x10.f2)) :: ((some 66, qe (B (leI x1.f2 x10.f2))) :: ((some 67, qe (B (leI x1.f2 x10.f2))) :: [(some 43, qe (B (leI x1.f2 x10.f2)))])))))))))))))))) ?_
                refine de (mkE ((43, B (leI x1.f2 x10.f2)) :: ((67, B (leI x1.f2 x10.f2)) :: ((66, B (leI x1.f2 x10.f2)) :: ((65, I x10.f2) :: ((64, .ia [S x10.f0, I x10.f1, I x10.f2] 2) :: ((63, .ia [S x10.f0, I x10.f1, I x10.f2] 0) :: (s_7.append ((59, I x1.f2) :: ((58, .ba 32 2) :: ((57, B true) :: ((56, B (eqS x1.f0 x9.f0)) :: ((55, B (eqS x1.f0 x9.f0)) :: ((54, S x9.f0) :: ((53, .ia [S x9.f0, I x9.f1, I x9.f2] 0) :: ((52, .ia [S x9.f0, I x9.f1, I x9.f2] 0) :: (s_3.append ((48, S x1.f0) :: (s_4.append (s_0.append [(30, B false)]))))))))))))))))))) [(32, .box [S x1.f0, I x1.f1, I x1.f2] false)] 69) ?_
                refine se (mkE (s_1.append ((10, I z0) :: [(43, B (leI x1.f2 x10.f2))])) [] 69) ?_
                refine pN ?_
                refine pS ?_
                refine gC 43 (leI x1.f2 x10.f2) ?_ ?_
                · refine gS 0 ?_
                  refine gR 13 (rg Tryz.f120 13) ?_
                  refine se (mkE [(2, I 16)] [] 69) ?_
                  refine pN ?_
                  refine pS ?_
                  refine gE ?_
                  exact pL
                · refine gK ?_
                  refine pB ?_
                  refine pB ?_
                  refine pN ?_
                  refine pS ?_
                  refine gR 14 (rg Tryz.f120 14) ?_
                  refine se (mkE (s_1.append [(10, I (addI .i64 z0 1))]) [] 69) ?_
                  exact pL
              · refine dg 25 (d_0.append ((some 48, qe (S x1.f0)) :: (d_2.append ((some 52, qe (.ia [S x9.f0, I x9.f1, I x9.f2] 0)) :: ((some 53, qe (.ia [S x9.f0, I x9.f1, I x9.f2] 0)) :: ((some 54, qe (S x9.f0)) :: ((some 55, qe (B (eqS x1.f0 x9.f0))) :: ((some 56, qe (B (eqS x1.f0 x9.f0))) :: d_1)))))))) ?_
                refine de (mkE (s_2.append ((56, B (eqS x1.f0 x9.f0)) :: ((55, B (eqS x1.f0 x9.f0)) :: ((54, S x9.f0) :: ((53, .ia [S x9.f0, I x9.f1, I x9.f2] 0) :: ((52, .ia [S x9.f0, I x9.f1, I x9.f2] 0) :: (s_3.append ((48, S x1.f0) :: (s_4.append (s_0.append [(30, B false)])))))))))) [(32, .box [S x1.f0, I x1.f1, I x1.f2] false)] 69) ?_
                refine se (mkE (s_1.append ((10, I z0) :: [(43, B false)])) [] 69) ?_
                refine pN ?_
                refine pS ?_
                refine gF (.tmp 43) ?_
                refine gK ?_
                refine pB ?_
                refine pB ?_
                refine pN ?_
                refine pS ?_
                refine gR 14 (rg Tryz.f120 14) ?_
                refine se (mkE (s_1.append [(10, I (addI .i64 z0 1))]) [] 69) ?_
                exact pL
            · refine dg 25 (d_4.append d_1) ?_
              refine de (mkE (s_2.append (s_6.append (s_0.append [(30, B false)]))) [(32, .box [S x1.f0, I x1.f1, I x1.f2] false)] 69) ?_
              refine se (mkE (s_1.append ((10, I z0) :: [(43, B false)])) [] 69) ?_
              refine pN ?_
              refine pS ?_
              refine gF (.tmp 43) ?_
              refine gK ?_
              refine pB ?_
              refine pB ?_
              refine pN ?_
              refine pS ?_
              refine gR 14 (rg Tryz.f120 14) ?_
              refine se (mkE (s_1.append [(10, I (addI .i64 z0 1))]) [] 69) ?_
              exact pL
  · refine gX 0 ?_
    exact pL
noncomputable def T120 (p0 : (List S87)) : Option Int := (bif (ltI 500 (lenL p0)) then (some 2) else ((iter (L120_4 p0) 0).bind fun y11 => (Sum.elim (fun y11a => (some 0)) (fun y11b => (some y11b)) y11)))
theorem B120 (C : Callee) (h138 : ∀ (p0 : S87) (p1 : S87), C 138 [a87 p0, a87 p1] = (T138 p0 p1).map I) (h70 : ∀ (p0 : Int) (p1 : Int) (p2 : Int), C 70 [I p0, I p1, I p2] = (T70 p0 p1 p2).map B) (h92 : ∀ (p0 : Int), C 92 [I p0] = (T92 p0).map B) (h97 : ∀ (p0 : ByteArray), C 97 [S p0] = (T97 p0).map B) (p0 : (List S87)) : runs Tryz.prog C (cfg.fn 120) (finFn Tryz.prog (cfg.fn 120).byval Tryz.f120) [] (execA Tryz.prog C (cfg.fn 120) (nr Tryz.f120 []) (frame0 [LL a87 p0] 69 false)) = (T120 p0).map I := by
  unfold T120
  let s_0 : List (Nat × AV) := [(0, LL a87 p0), (8, LL a87 p0), (9, I (lenL p0))]
  refine gS 1 ?_
  refine gR 0 (rg Tryz.f120 0) ?_
  refine se (mkE [(0, LL a87 p0)] [] 69) ?_
  refine pN ?_
  refine pS ?_
  refine gS 3 ?_
  refine gS 0 ?_
  refine gR 1 (rg Tryz.f120 1) ?_
  refine sg 1 (mkE [(5, LL a87 p0), (0, LL a87 p0)] [] 69) ?_
  refine eo 6 (I (lenL p0)) (lenE 86 a87 p0) ?_
  refine se (mkE [(0, LL a87 p0), (7, B (ltI 500 (lenL p0)))] [] 69) ?_
  refine pN ?_
  refine pS ?_
  refine gC 7 (ltI 500 (lenL p0)) ?_ ?_
  · refine gS 0 ?_
    refine gR 2 (rg Tryz.f120 2) ?_
    refine se (mkE [(2, I 2)] [] 69) ?_
    refine pN ?_
    refine pS ?_
    refine gE ?_
    exact pL
  · refine gK ?_
    refine pN ?_
    refine pS ?_
    refine gS 15 ?_
    refine gS 4 ?_
    refine gR 3 (rg Tryz.f120 3) ?_
    refine sg 1 (mkE [(8, LL a87 p0), (0, LL a87 p0), (7, B (ltI 500 (lenL p0)))] [] 69) ?_
    refine eo 9 (I (lenL p0)) (lenE 86 a87 p0) ?_
    refine se (mkE (s_0.append [(10, I 0)]) [] 69) ?_
    refine pN ?_
    refine pS ?_
    refine gB 0 ?_
    refine lo [(0, none), (8, none), (9, none), (10, none)] [] (L120_4 p0) (fun z0 : Int => (mkE (s_0.append [(10, I z0)]) [] 69)) (Sum.elim (fun (x : (Int × Bool)) => (.exit 0, (mkE (s_0.append ((10, I x.1) :: [(11, B x.2)])) [] 69))) (fun (x : Int) => (.ret, (mkE [(2, I x)] [] 69)))) 0 (fun z => L120_4_ok C h138 h70 h92 h97 p0 z) ?_
    intro y11
    refine ss y11 (Z := (Sum.elim (fun (x : (Int × Bool)) => (.exit 0, (mkE (s_0.append ((10, I x.1) :: [(11, B x.2)])) [] 69))) (fun (x : Int) => (.ret, (mkE [(2, I x)] [] 69))))) (fun y11a => ?_) (fun y11b => ?_)
    · refine pH ?_
      refine pN ?_
      refine pS ?_
      refine gS 0 ?_
      refine gR 15 (rg Tryz.f120 15) ?_
      refine se (mkE [(2, I 0)] [] 69) ?_
      refine pN ?_
      refine pS ?_
      refine gE ?_
      exact pL
    · exact pL
theorem F120 (m : Nat) (hm : 4 ≤ m) (p0 : (List S87)) : callA Tryz.prog cfg m 120 [LL a87 p0] = (T120 p0).map I := by
  obtain ⟨q, rfl⟩ : ∃ q, m = q + 1 := ⟨m - 1, by omega⟩
  exact (callA_body (fn := Tryz.f120) (c := body_ Tryz.f120) q _ (by kernel_rfl) (by kernel_rfl) (by kernel_rfl)).trans (B120 _ (fun p0 p1 => F138 q (by omega) p0 p1) (fun p0 p1 p2 => F70 q (by omega) p0 p1 p2) (fun p0 => F92 q (by omega) p0) (fun p0 => F97 q (by omega) p0) p0)

noncomputable def L122_3 (p0 : (List S87)) (p1 : ByteArray) (p2 : Bool) (z0 : ((List S212) × Int)) : Option (((List S212) × Int) ⊕ (Int × Bool × (List S212))) := (bif (ltI z0.2 (lenL p0)) then ((listAt p0 z0.2).bind fun x1 => (bif (!eqS x1.f0 p1) then (some (.inl (z0.1, (addI .i64 z0.2 1)))) else (bif p2 then ((appO 16 z0.1 ([(S212.mk x1.f1 x1.f2)] : List S212)).bind fun x2 => (some (.inl (x2, (addI .i64 z0.2 1))))) else ((appO 16 z0.1 ([(S212.mk x1.f2 x1.f1)] : List S212)).bind fun x3 => (some (.inl (x3, (addI .i64 z0.2 1)))))))) else (some (.inr (z0.2, (ltI z0.2 (lenL p0)), z0.1))))
theorem L122_3_ok (C : Callee) (p0 : (List S87)) (p1 : ByteArray) (p2 : Bool) (z0 : ((List S212) × Int)) : runs Tryz.prog C (cfg.fn 122) (finLoop ((cfg.fn 122).keep 3) ((cfg.fn 122).al 3)) [] (execA Tryz.prog C (cfg.fn 122) (nr Tryz.f122 [false, false, true, false, true, true]) ((fun z0 : ((List S212) × Int) => (mkE [(1, S p1), (2, B p2), (7, .own 56 0), (10, LL a87 p0), (11, I (lenL p0)), (12, I z0.2)] [(56, RR 213 2 a212 z0.1 0 false)] 41)) z0)) = (L122_3 p0 p1 p2 z0).map (Sum.elim (fun z => .inl ((fun z0 : ((List S212) × Int) => (mkE [(1, S p1), (2, B p2), (7, .own 56 0), (10, LL a87 p0), (11, I (lenL p0)), (12, I z0.2)] [(56, RR 213 2 a212 z0.1 0 false)] 41)) z)) (fun x => .inr ((fun (x : (Int × Bool × (List S212))) => (.exit 0, (mkE [(1, S p1), (2, B p2), (7, .own 56 0), (10, LL a87 p0), (11, I (lenL p0)), (12, I x.1), (13, B x.2.1)] [(56, RR 213 2 a212 x.2.2 0 false)] 41))) x))) := by
  unfold L122_3
  let s_0 : List (Nat × AV) := [(1, S p1), (2, B p2), (7, .own 56 0), (9, .ba 72 0), (10, LL a87 p0), (11, I (lenL p0)), (12, I z0.2)]
  let s_1 : List (Nat × AV) := [(1, S p1), (2, B p2), (7, .own 56 1), (10, LL a87 p0), (11, I (lenL p0))]
  let o_0 : List (Nat × AObj) := [(56, RR 213 2 a212 z0.1 0 false)]
  refine gS 0 ?_
  refine gR 3 (rg Tryz.f122 3) ?_
  refine se (mkE [(1, S p1), (2, B p2), (7, .own 56 0), (10, LL a87 p0), (11, I (lenL p0)), (12, I z0.2), (13, B (ltI z0.2 (lenL p0)))] o_0 41) ?_
  refine pN ?_
  refine pS ?_
  refine gS 4 ?_
  refine gC 13 (ltI z0.2 (lenL p0)) ?_ ?_
  · refine gK ?_
    refine pN ?_
    refine pS ?_
    refine gS 9 ?_
    refine gB 1 ?_
    refine gS 6 ?_
    refine gR 4 (rg Tryz.f122 4) ?_
    refine vo 14 (addrE 86 88 3 a87 .i64 p0 z0.2) (fun x1 => ?_)
    refine se (mkE s_0 (o_0.append [(72, .box [S x1.f0, I x1.f1, I x1.f2] false)]) 41) ?_
    refine pN ?_
    refine pS ?_
    refine gB 2 ?_
    refine gS 0 ?_
    refine gR 6 (rg Tryz.f122 6) ?_
    refine se (mkE (s_0.append [(24, B (!eqS x1.f0 p1))]) (o_0.append [(72, .box [S x1.f0, I x1.f1, I x1.f2] false)]) 41) ?_
    refine pN ?_
    refine pS ?_
    refine gC 24 (!eqS x1.f0 p1) ?_ ?_
    · refine gK ?_
      refine pB ?_
      refine pB ?_
      refine pN ?_
      refine pS ?_
      refine gR 9 (rg Tryz.f122 9) ?_
      refine se (mkE [(1, S p1), (2, B p2), (7, .own 56 0), (10, LL a87 p0), (11, I (lenL p0)), (12, I (addI .i64 z0.2 1))] o_0 41) ?_
      exact pL
    · refine gS 0 ?_
      refine gR 7 (rg Tryz.f122 7) ?_
      refine se (mkE (s_0.append [(29, B p2)]) (o_0.append [(72, .box [S x1.f0, I x1.f1, I x1.f2] false)]) 41) ?_
      refine pN ?_
      refine pS ?_
      refine gC 29 p2 ?_ ?_
      · refine gR 8 (rg Tryz.f122 8) ?_
        refine sg 7 (mkE ((37, .own 296 0) :: ((36, .agg [I x1.f1, I x1.f2]) :: ((35, I x1.f2) :: ((34, .ba 72 2) :: ((33, I x1.f1) :: ((32, .ba 72 1) :: ((31, .own 56 0) :: (s_0.append [(29, B p2)])))))))) ((296, RR 213 2 a212 ([(S212.mk x1.f1 x1.f2)] : List S212) 0 false) :: (o_0.append [(72, .box [S x1.f0, I x1.f1, I x1.f2] false)])) 41) ?_
        refine mo (some 38) (apO 196 213 2 16 56 a212 0 [296] (y := .own 296 0) (l2 := ([(S212.mk x1.f1 x1.f2)] : List S212))) (fun x2 => ?_)
        refine se (mkE (s_1.append [(12, I z0.2)]) [(56, RR 213 2 a212 x2 1 false)] 41) ?_
        refine pB ?_
        refine pB ?_
        refine pN ?_
        refine pS ?_
        refine gR 9 (rg Tryz.f122 9) ?_
        refine se (mkE (s_1.append [(12, I (addI .i64 z0.2 1))]) [(56, RR 213 2 a212 x2 1 false)] 41) ?_
        exact pL
      · refine gR 5 (rg Tryz.f122 5) ?_
        refine sg 7 (mkE ((22, .own 176 0) :: ((21, .agg [I x1.f2, I x1.f1]) :: ((20, I x1.f1) :: ((19, .ba 72 1) :: ((18, I x1.f2) :: ((17, .ba 72 2) :: ((16, .own 56 0) :: (s_0.append [(29, B p2)])))))))) ((176, RR 213 2 a212 ([(S212.mk x1.f2 x1.f1)] : List S212) 0 false) :: (o_0.append [(72, .box [S x1.f0, I x1.f1, I x1.f2] false)])) 41) ?_
        refine mo (some 23) (apO 196 213 2 16 56 a212 0 [176] (y := .own 176 0) (l2 := ([(S212.mk x1.f2 x1.f1)] : List S212))) (fun x3 => ?_)
        refine se (mkE (s_1.append [(12, I z0.2)]) [(56, RR 213 2 a212 x3 1 false)] 41) ?_
        refine pB ?_
        refine pB ?_
        refine pN ?_
        refine pS ?_
        refine gR 9 (rg Tryz.f122 9) ?_
        refine se (mkE (s_1.append [(12, I (addI .i64 z0.2 1))]) [(56, RR 213 2 a212 x3 1 false)] 41) ?_
        exact pL
  · refine gX 0 ?_
    exact pL
noncomputable def T122 (p0 : (List S87)) (p1 : ByteArray) (p2 : Bool) : Option (List S212) := ((iter (L122_3 p0 p1 p2) ([], 0)).bind fun y4 => (some y4.2.2))
theorem B122 (C : Callee) (p0 : (List S87)) (p1 : ByteArray) (p2 : Bool) : runs Tryz.prog C (cfg.fn 122) (finFn Tryz.prog (cfg.fn 122).byval Tryz.f122) [] (execA Tryz.prog C (cfg.fn 122) (nr Tryz.f122 []) (frame0 [LL a87 p0, S p1, B p2] 41 false)) = (T122 p0 p1 p2).map (fun l => AV.fr 213 2 (List.map a212 l)) := by
  unfold T122
  refine gS 1 ?_
  refine gR 0 (rg Tryz.f122 0) ?_
  refine se (mkE [(0, LL a87 p0), (1, S p1), (2, B p2)] [] 41) ?_
  refine pN ?_
  refine pS ?_
  refine gS 2 ?_
  refine gR 1 (rg Tryz.f122 1) ?_
  refine se (mkE [(0, LL a87 p0), (1, S p1), (2, B p2), (7, .nils)] [] 41) ?_
  refine pN ?_
  refine pS ?_
  refine gS 10 ?_
  refine gS 3 ?_
  refine gR 2 (rg Tryz.f122 2) ?_
  refine sg 1 (mkE [(10, LL a87 p0), (0, LL a87 p0), (1, S p1), (2, B p2), (7, .nils)] [] 41) ?_
  refine eo 11 (I (lenL p0)) (lenE 86 a87 p0) ?_
  refine se (mkE [(1, S p1), (2, B p2), (7, .nils), (10, LL a87 p0), (11, I (lenL p0)), (12, I 0)] [] 41) ?_
  refine pN ?_
  refine pS ?_
  refine gB 0 ?_
  refine lo [(1, none), (2, none), (7, some (213, 2)), (10, none), (11, none), (12, none)] [] (L122_3 p0 p1 p2) (fun z0 : ((List S212) × Int) => (mkE [(1, S p1), (2, B p2), (7, .own 56 0), (10, LL a87 p0), (11, I (lenL p0)), (12, I z0.2)] [(56, RR 213 2 a212 z0.1 0 false)] 41)) (fun (x : (Int × Bool × (List S212))) => (.exit 0, (mkE [(1, S p1), (2, B p2), (7, .own 56 0), (10, LL a87 p0), (11, I (lenL p0)), (12, I x.1), (13, B x.2.1)] [(56, RR 213 2 a212 x.2.2 0 false)] 41))) ([], 0) (fun z => L122_3_ok C p0 p1 p2 z) ?_
  intro y4
  refine pH ?_
  refine pN ?_
  refine pS ?_
  refine gS 0 ?_
  refine gR 10 (rg Tryz.f122 10) ?_
  refine se (mkE [(6, .own 56 0)] [(56, RR 213 2 a212 y4.2.2 0 false)] 41) ?_
  refine pN ?_
  refine pS ?_
  refine gE ?_
  exact pL
theorem F122 (m : Nat) (hm : 1 ≤ m) (p0 : (List S87)) (p1 : ByteArray) (p2 : Bool) : callA Tryz.prog cfg m 122 [LL a87 p0, S p1, B p2] = (T122 p0 p1 p2).map (fun l => AV.fr 213 2 (List.map a212 l)) := by
  obtain ⟨q, rfl⟩ : ∃ q, m = q + 1 := ⟨m - 1, by omega⟩
  exact (callA_body (fn := Tryz.f122) (c := body_ Tryz.f122) q _ (by kernel_rfl) (by kernel_rfl) (by kernel_rfl)).trans (B122 _ p0 p1 p2)

noncomputable def L121_4 (p0 : (List S212)) (p1 : Int) (z0 : Int) : Option (Int ⊕ (Int × Bool)) := (bif (ltI z0 (lenL p0)) then ((listAt p0 z0).bind fun x1 => (bif (leI x1.f0 p1) then (some (.inl (addI .i64 z0 1))) else (some (.inr (z0, (leI x1.f0 p1)))))) else (some (.inr (z0, false))))
theorem L121_4_ok (C : Callee) (p0 : (List S212)) (p1 : Int) (z0 : Int) : runs Tryz.prog C (cfg.fn 121) (finLoop ((cfg.fn 121).keep 4) ((cfg.fn 121).al 4)) [] (execA Tryz.prog C (cfg.fn 121) (nr Tryz.f121 [false, false, false, true, true, true]) ((fun z0 : Int => (mkE [(0, LL a212 p0), (1, I p1), (6, I z0)] [] 108)) z0)) = (L121_4 p0 p1 z0).map (Sum.elim (fun z => .inl ((fun z0 : Int => (mkE [(0, LL a212 p0), (1, I p1), (6, I z0)] [] 108)) z)) (fun x => .inr ((fun (x : (Int × Bool)) => (.exit 0, (mkE [(0, LL a212 p0), (1, I p1), (6, I x.1), (25, B x.2)] [] 108))) x))) := by
  unfold L121_4
  let s_0 : List (Nat × AV) := [(17, B (ltI z0 (lenL p0))), (16, B (ltI z0 (lenL p0))), (15, I (lenL p0)), (14, LL a212 p0), (13, I z0), (0, LL a212 p0), (1, I p1), (6, I z0)]
  refine gS 5 ?_
  refine gS 0 ?_
  refine gR 4 (rg Tryz.f121 4) ?_
  refine sg 2 (mkE [(14, LL a212 p0), (13, I z0), (0, LL a212 p0), (1, I p1), (6, I z0)] [] 108) ?_
  refine eo 15 (I (lenL p0)) (lenE 196 a212 p0) ?_
  refine sg 5 (mkE s_0 [] 108) ?_
  refine sb 17 (ltI z0 (lenL p0)) ?_ ?_
  · refine sg 7 (mkE ((19, I z0) :: ((18, LL a212 p0) :: ((17, B true) :: s_0))) [] 108) ?_
    refine vo 20 (addrE 196 213 2 a212 .i64 p0 z0) (fun x1 => ?_)
    refine se (mkE [(0, LL a212 p0), (1, I p1), (6, I z0), (25, B (leI x1.f0 p1))] [] 108) ?_
    refine pN ?_
    refine pS ?_
    refine gC 25 (leI x1.f0 p1) ?_ ?_
    · refine gK ?_
      refine pN ?_
      refine pS ?_
      refine gB 1 ?_
      refine gR 5 (rg Tryz.f121 5) ?_
      refine se (mkE [(0, LL a212 p0), (1, I p1), (6, I (addI .i64 z0 1))] [] 108) ?_
      refine pB ?_
      exact pL
    · refine gX 0 ?_
      exact pL
  · refine se (mkE [(0, LL a212 p0), (1, I p1), (6, I z0), (25, B false)] [] 108) ?_
    refine pN ?_
    refine pS ?_
    refine gF (.tmp 25) ?_
    refine gX 0 ?_
    exact pL
noncomputable def T121 (p0 : (List S212)) (p1 : Int) : Option (Int × Int) := (bif (eqI (lenL p0) 0) then (some (0, 8)) else ((iter (L121_4 p0 p1) 0).bind fun y2 => (((bif (eqI y2.1 0) then ((listAt p0 0).bind fun x3 => ((listAt p0 0).bind fun x4 => (some (.inl (subI .i64 x3.f1 (subI .i64 x4.f0 p1)))))) else (bif (eqI y2.1 (lenL p0)) then ((listAt p0 (subI .i64 y2.1 1)).bind fun x5 => ((listAt p0 (subI .i64 y2.1 1)).bind fun x6 => (some (.inl (subI .i64 (addI .i64 x5.f1 p1) x6.f0))))) else ((listAt p0 (subI .i64 y2.1 1)).bind fun x7 => ((listAt p0 y2.1).bind fun x8 => (bif (ltI 2592000000 (subI .i64 x8.f0 x7.f0)) then (some (.inr ())) else (bif (ltI 2592000000 (subI .i64 x8.f1 x7.f1)) then (some (.inr ())) else ((quoO .i64 (mulI .i64 (subI .i64 p1 x7.f0) (subI .i64 x8.f1 x7.f1)) (subI .i64 x8.f0 x7.f0)).bind fun x9 => (some (.inl (addI .i64 x7.f1 x9)))))))))) : Option (Int ⊕ Unit)).bind fun y10 => (Sum.elim (fun y10a => ((T92 y10a).bind fun x11 => (bif (!x11) then (some (0, 11)) else (some (y10a, 0))))) (fun y10b => (some (0, 2))) y10))))
theorem B121 (C : Callee) (h92 : ∀ (p0 : Int), C 92 [I p0] = (T92 p0).map B) (p0 : (List S212)) (p1 : Int) : runs Tryz.prog C (cfg.fn 121) (finFn Tryz.prog (cfg.fn 121).byval Tryz.f121) [] (execA Tryz.prog C (cfg.fn 121) (nr Tryz.f121 []) (frame0 [LL a212 p0, I p1] 108 false)) = (T121 p0 p1).map (fun r => AV.tup [I r.1, I r.2]) := by
  unfold T121
  let s_0 : List (Nat × AV) := [(0, LL a212 p0), (1, I p1)]
  let s_1 : List (Nat × AV) := [(1, I p1), (8, .ba 64 0), (9, .ba 72 0)]
  refine gS 1 ?_
  refine gR 0 (rg Tryz.f121 0) ?_
  refine se (mkE s_0 [] 108) ?_
  refine pN ?_
  refine pS ?_
  refine gS 3 ?_
  refine gS 0 ?_
  refine gR 1 (rg Tryz.f121 1) ?_
  refine sg 1 (mkE ((10, LL a212 p0) :: s_0) [] 108) ?_
  refine eo 11 (I (lenL p0)) (lenE 196 a212 p0) ?_
  refine se (mkE (s_0.append [(12, B (eqI (lenL p0) 0))]) [] 108) ?_
  refine pN ?_
  refine pS ?_
  refine gC 12 (eqI (lenL p0) 0) ?_ ?_
  · refine gS 0 ?_
    refine gR 2 (rg Tryz.f121 2) ?_
    refine se (mkE [(4, I 0), (5, I 8)] [] 108) ?_
    refine pN ?_
    refine pS ?_
    refine gE ?_
    exact pL
  · refine gK ?_
    refine pN ?_
    refine pS ?_
    refine gS 4 ?_
    refine gR 3 (rg Tryz.f121 3) ?_
    refine se (mkE (s_0.append [(6, I 0)]) [] 108) ?_
    refine pN ?_
    refine pS ?_
    refine gS 6 ?_
    refine gB 0 ?_
    refine lo [(0, none), (1, none), (6, none)] [] (L121_4 p0 p1) (fun z0 : Int => (mkE (s_0.append [(6, I z0)]) [] 108)) (fun (x : (Int × Bool)) => (.exit 0, (mkE (s_0.append ((6, I x.1) :: [(25, B x.2)])) [] 108))) 0 (fun z => L121_4_ok C p0 p1 z) ?_
    intro y2
    refine pH ?_
    refine pN ?_
    refine pS ?_
    refine gS 11 ?_
    refine gR 6 (rg Tryz.f121 6) ?_
    refine se (mkE (s_0.append [(6, I y2.1)]) [] 108) ?_
    refine pN ?_
    refine pS ?_
    refine jS 15 ((bif (eqI y2.1 0) then ((listAt p0 0).bind fun x3 => ((listAt p0 0).bind fun x4 => (some (.inl (subI .i64 x3.f1 (subI .i64 x4.f0 p1)))))) else (bif (eqI y2.1 (lenL p0)) then ((listAt p0 (subI .i64 y2.1 1)).bind fun x5 => ((listAt p0 (subI .i64 y2.1 1)).bind fun x6 => (some (.inl (subI .i64 (addI .i64 x5.f1 p1) x6.f0))))) else ((listAt p0 (subI .i64 y2.1 1)).bind fun x7 => ((listAt p0 y2.1).bind fun x8 => (bif (ltI 2592000000 (subI .i64 x8.f0 x7.f0)) then (some (.inr ())) else (bif (ltI 2592000000 (subI .i64 x8.f1 x7.f1)) then (some (.inr ())) else ((quoO .i64 (mulI .i64 (subI .i64 p1 x7.f0) (subI .i64 x8.f1 x7.f1)) (subI .i64 x8.f0 x7.f0)).bind fun x9 => (some (.inl (addI .i64 x7.f1 x9)))))))))) : Option (Int ⊕ Unit)) (Sum.elim (fun (x : Int) => (.normal, (mkE [(7, I x)] [] 108))) (fun (x : Unit) => (.ret, (mkE [(4, I 0), (5, I 2)] [] 108)))) ?_ (fun y10 => ?_)
    · refine gB 2 ?_
      refine gS 0 ?_
      refine gR 11 (rg Tryz.f121 11) ?_
      refine se (mkE (s_0.append ((6, I y2.1) :: [(70, B (eqI y2.1 0))])) [] 108) ?_
      refine pN ?_
      refine pS ?_
      refine gC 70 (eqI y2.1 0) ?_ ?_
      · refine gD 12 12 (rg Tryz.f121 12) [0, 1, 2, 3, 4, 5, 6, 7, 8, 9, 10, 11] ?_
        refine dg 1 [(some 73, qe (LL a212 p0))] ?_
        refine dv 74 (mkE ((73, LL a212 p0) :: (s_0.append ((6, I y2.1) :: [(70, B (eqI y2.1 0))]))) [] 108) (addrE 196 213 2 a212 .i64 p0 0) (fun x3 => ?_)
        refine dg 5 [(some 73, qe (LL a212 p0)), (some 74, qe (.ia [I x3.f0, I x3.f1] 0)), (some 75, qe (.ia [I x3.f0, I x3.f1] 1)), (some 76, qe (I x3.f1)), (some 77, qe (LL a212 p0))] ?_
        refine dv 78 (mkE ((77, LL a212 p0) :: (s_0.append ((6, I y2.1) :: [(70, B (eqI y2.1 0))]))) [] 108) (addrE 196 213 2 a212 .i64 p0 0) (fun x4 => ?_)
        refine dg 12 [(some 73, qe (LL a212 p0)), (some 74, qe (.ia [I x3.f0, I x3.f1] 0)), (some 75, qe (.ia [I x3.f0, I x3.f1] 1)), (some 76, qe (I x3.f1)), (some 77, qe (LL a212 p0)), (some 78, qe (.ia [I x4.f0, I x4.f1] 0)), (some 79, qe (.ia [I x4.f0, I x4.f1] 0)), (some 80, qe (I x4.f0)), (some 81, qe (I p1)), (some 82, qe (I (subI .i64 x4.f0 p1))), (some 83, qe (I (subI .i64 x3.f1 (subI .i64 x4.f0 p1)))), (some 7, qe (I (subI .i64 x3.f1 (subI .i64 x4.f0 p1))))] ?_
        refine de (mkE ((7, I (subI .i64 x3.f1 (subI .i64 x4.f0 p1))) :: ((83, I (subI .i64 x3.f1 (subI .i64 x4.f0 p1))) :: ((82, I (subI .i64 x4.f0 p1)) :: ((81, I p1) :: ((80, I x4.f0) :: ((79, .ia [I x4.f0, I x4.f1] 0) :: ((78, .ia [I x4.f0, I x4.f1] 0) :: ((77, LL a212 p0) :: ((76, I x3.f1) :: ((75, .ia [I x3.f0, I x3.f1] 1) :: ((74, .ia [I x3.f0, I x3.f1] 0) :: ((73, LL a212 p0) :: (s_0.append ((6, I y2.1) :: [(70, B (eqI y2.1 0))])))))))))))))) [] 108) ?_
        refine se (mkE [(7, I (subI .i64 x3.f1 (subI .i64 x4.f0 p1)))] [] 108) ?_
        refine pB ?_
        refine pG (mkE [(7, I (subI .i64 x3.f1 (subI .i64 x4.f0 p1)))] [] 108) ?_
        exact pL
      · refine gS 0 ?_
        refine gR 13 (rg Tryz.f121 13) ?_
        refine sg 2 (mkE ((86, LL a212 p0) :: ((85, I y2.1) :: (s_0.append ((6, I y2.1) :: [(70, B (eqI y2.1 0))])))) [] 108) ?_
        refine eo 87 (I (lenL p0)) (lenE 196 a212 p0) ?_
        refine se (mkE (s_0.append ((6, I y2.1) :: [(84, B (eqI y2.1 (lenL p0)))])) [] 108) ?_
        refine pN ?_
        refine pS ?_
        refine gC 84 (eqI y2.1 (lenL p0)) ?_ ?_
        · refine gD 14 16 (rg Tryz.f121 14) [0, 1, 2, 3, 4, 5, 6, 7, 8, 9, 10, 11, 12, 13, 14, 15] ?_
          refine dg 3 [(some 89, qe (LL a212 p0)), (some 90, qe (I y2.1)), (some 91, qe (I (subI .i64 y2.1 1)))] ?_
          refine dv 92 (mkE ((91, I (subI .i64 y2.1 1)) :: ((90, I y2.1) :: ((89, LL a212 p0) :: (s_0.append ((6, I y2.1) :: [(84, B (eqI y2.1 (lenL p0)))]))))) [] 108) (addrE 196 213 2 a212 .i64 p0 (subI .i64 y2.1 1)) (fun x5 => ?_)
          refine dg 11 [(some 89, qe (LL a212 p0)), (some 90, qe (I y2.1)), (some 91, qe (I (subI .i64 y2.1 1))), (some 92, qe (.ia [I x5.f0, I x5.f1] 0)), (some 93, qe (.ia [I x5.f0, I x5.f1] 1)), (some 94, qe (I x5.f1)), (some 95, qe (I p1)), (some 96, qe (I (addI .i64 x5.f1 p1))), (some 97, qe (LL a212 p0)), (some 98, qe (I y2.1)), (some 99, qe (I (subI .i64 y2.1 1)))] ?_
          refine dv 100 (mkE ((99, I (subI .i64 y2.1 1)) :: ((98, I y2.1) :: ((97, LL a212 p0) :: (s_0.append ((6, I y2.1) :: [(84, B (eqI y2.1 (lenL p0)))]))))) [] 108) (addrE 196 213 2 a212 .i64 p0 (subI .i64 y2.1 1)) (fun x6 => ?_)
          refine dg 16 [(some 89, qe (LL a212 p0)), (some 90, qe (I y2.1)), (some 91, qe (I (subI .i64 y2.1 1))), (some 92, qe (.ia [I x5.f0, I x5.f1] 0)), (some 93, qe (.ia [I x5.f0, I x5.f1] 1)), (some 94, qe (I x5.f1)), (some 95, qe (I p1)), (some 96, qe (I (addI .i64 x5.f1 p1))), (some 97, qe (LL a212 p0)), (some 98, qe (I y2.1)), (some 99, qe (I (subI .i64 y2.1 1))), (some 100, qe (.ia [I x6.f0, I x6.f1] 0)), (some 101, qe (.ia [I x6.f0, I x6.f1] 0)), (some 102, qe (I x6.f0)), (some 103, qe (I (subI .i64 (addI .i64 x5.f1 p1) x6.f0))), (some 7, qe (I (subI .i64 (addI .i64 x5.f1 p1) x6.f0)))] ?_
          refine de (mkE ((7, I (subI .i64 (addI .i64 x5.f1 p1) x6.f0)) :: ((103, I (subI .i64 (addI .i64 x5.f1 p1) x6.f0)) :: ((102, I x6.f0) :: ((101, .ia [I x6.f0, I x6.f1] 0) :: ((100, .ia [I x6.f0, I x6.f1] 0) :: ((99, I (subI .i64 y2.1 1)) :: ((98, I y2.1) :: ((97, LL a212 p0) :: ((96, I (addI .i64 x5.f1 p1)) :: ((95, I p1) :: ((94, I x5.f1) :: ((93, .ia [I x5.f0, I x5.f1] 1) :: ((92, .ia [I x5.f0, I x5.f1] 0) :: ((91, I (subI .i64 y2.1 1)) :: ((90, I y2.1) :: ((89, LL a212 p0) :: (s_0.append ((6, I y2.1) :: [(84, B (eqI y2.1 (lenL p0)))])))))))))))))))))) [] 108) ?_
          refine se (mkE [(7, I (subI .i64 (addI .i64 x5.f1 p1) x6.f0))] [] 108) ?_
          refine pB ?_
          refine pG (mkE [(7, I (subI .i64 (addI .i64 x5.f1 p1) x6.f0))] [] 108) ?_
          exact pL
        · refine gS 8 ?_
          refine gD 7 12 (rg Tryz.f121 7) [0, 1, 2, 3, 4, 5, 6, 7, 8, 9, 10, 11, 12] ?_
          refine dg 3 [(some 28, qe (LL a212 p0)), (some 29, qe (I y2.1)), (some 30, qe (I (subI .i64 y2.1 1)))] ?_
          refine dv 31 (mkE ((30, I (subI .i64 y2.1 1)) :: ((29, I y2.1) :: ((28, LL a212 p0) :: (s_0.append ((6, I y2.1) :: [(84, B (eqI y2.1 (lenL p0)))]))))) [] 108) (addrE 196 213 2 a212 .i64 p0 (subI .i64 y2.1 1)) (fun x7 => ?_)
          refine dg 7 [(some 28, qe (LL a212 p0)), (some 29, qe (I y2.1)), (some 30, qe (I (subI .i64 y2.1 1))), (some 31, qe (.ia [I x7.f0, I x7.f1] 0)), (some 32, qe (a212 x7)), (some 33, qe (LL a212 p0)), (some 34, qe (I y2.1))] ?_
          refine dv 35 (mkE ((34, I y2.1) :: ((33, LL a212 p0) :: (s_0.append ((6, I y2.1) :: [(84, B (eqI y2.1 (lenL p0)))])))) [] 108) (addrE 196 213 2 a212 .i64 p0 y2.1) (fun x8 => ?_)
          refine dg 12 [(some 28, qe (LL a212 p0)), (some 29, qe (I y2.1)), (some 30, qe (I (subI .i64 y2.1 1))), (some 31, qe (.ia [I x7.f0, I x7.f1] 0)), (some 32, qe (a212 x7)), (some 33, qe (LL a212 p0)), (some 34, qe (I y2.1)), (some 35, qe (.ia [I x8.f0, I x8.f1] 0)), (some 36, qe (a212 x8)), (some 8, { e := { val := .ba 64 0, news := [(64, .box [I 0, I 0] false)] } }), (some 9, { e := { val := .ba 72 0, news := [(72, .box [I 0, I 0] false)] } }), (none, { e := { val := .und }, st := some (64, .box [I x7.f0, I x7.f1] false, 0, 2) })] ?_
          refine de (mkE ((9, .ba 72 0) :: ((8, .ba 64 0) :: ((36, a212 x8) :: ((35, .ia [I x8.f0, I x8.f1] 0) :: ((34, I y2.1) :: ((33, LL a212 p0) :: ((32, a212 x7) :: ((31, .ia [I x7.f0, I x7.f1] 0) :: ((30, I (subI .i64 y2.1 1)) :: ((29, I y2.1) :: ((28, LL a212 p0) :: (s_0.append ((6, I y2.1) :: [(84, B (eqI y2.1 (lenL p0)))]))))))))))))) [(64, .box [I x7.f0, I x7.f1] false), (72, .box [I 0, I 0] false), (64, .box [I 0, I 0] false)] 108) ?_
          refine se (mkE s_1 [(64, .box [I x7.f0, I x7.f1] false), (72, .box [I x8.f0, I x8.f1] false)] 108) ?_
          refine pN ?_
          refine pS ?_
          refine gS 10 ?_
          refine gS 0 ?_
          refine gR 8 (rg Tryz.f121 8) ?_
          refine sg 7 (mkE ((43, B (ltI 2592000000 (subI .i64 x8.f0 x7.f0))) :: ((42, B (ltI 2592000000 (subI .i64 x8.f0 x7.f0))) :: ((41, I (subI .i64 x8.f0 x7.f0)) :: ((40, I x7.f0) :: ((39, .ba 64 0) :: ((38, I x8.f0) :: ((37, .ba 72 0) :: s_1))))))) [(64, .box [I x7.f0, I x7.f1] false), (72, .box [I x8.f0, I x8.f1] false)] 108) ?_
          refine sb 43 (ltI 2592000000 (subI .i64 x8.f0 x7.f0)) ?_ ?_
          · refine se (mkE (s_1.append [(50, B true)]) [(64, .box [I x7.f0, I x7.f1] false), (72, .box [I x8.f0, I x8.f1] false)] 108) ?_
            refine pN ?_
            refine pS ?_
            refine gT (.tmp 50) ?_
            refine gS 0 ?_
            refine gR 9 (rg Tryz.f121 9) ?_
            refine se (mkE [(4, I 0), (5, I 2)] [] 108) ?_
            refine pN ?_
            refine pS ?_
            refine gE ?_
            exact pL
          · refine se (mkE (s_1.append [(50, B (ltI 2592000000 (subI .i64 x8.f1 x7.f1)))]) [(64, .box [I x7.f0, I x7.f1] false), (72, .box [I x8.f0, I x8.f1] false)] 108) ?_
            refine pN ?_
            refine pS ?_
            refine gC 50 (ltI 2592000000 (subI .i64 x8.f1 x7.f1)) ?_ ?_
            · refine gS 0 ?_
              refine gR 9 (rg Tryz.f121 9) ?_
              refine se (mkE [(4, I 0), (5, I 2)] [] 108) ?_
              refine pN ?_
              refine pS ?_
              refine gE ?_
              exact pL
            · refine gK ?_
              refine pN ?_
              refine pS ?_
              refine gD 10 20 (rg Tryz.f121 10) [0, 1, 2, 3, 4, 5, 6, 7, 8, 9, 10, 11, 12, 13, 14, 15, 16, 17, 18, 19] ?_
              refine dg 17 [(some 51, qe (.ba 64 1)), (some 52, qe (I x7.f1)), (some 53, qe (I p1)), (some 54, qe (.ba 64 0)), (some 55, qe (I x7.f0)), (some 56, qe (I (subI .i64 p1 x7.f0))), (some 57, qe (.ba 72 1)), (some 58, qe (I x8.f1)), (some 59, qe (.ba 64 1)), (some 60, qe (I x7.f1)), (some 61, qe (I (subI .i64 x8.f1 x7.f1))), (some 62, qe (I (mulI .i64 (subI .i64 p1 x7.f0) (subI .i64 x8.f1 x7.f1)))), (some 63, qe (.ba 72 0)), (some 64, qe (I x8.f0)), (some 65, qe (.ba 64 0)), (some 66, qe (I x7.f0)), (some 67, qe (I (subI .i64 x8.f0 x7.f0)))] ?_
              refine dv 68 (mkE ((67, I (subI .i64 x8.f0 x7.f0)) :: ((66, I x7.f0) :: ((65, .ba 64 0) :: ((64, I x8.f0) :: ((63, .ba 72 0) :: ((62, I (mulI .i64 (subI .i64 p1 x7.f0) (subI .i64 x8.f1 x7.f1))) :: ((61, I (subI .i64 x8.f1 x7.f1)) :: ((60, I x7.f1) :: ((59, .ba 64 1) :: ((58, I x8.f1) :: ((57, .ba 72 1) :: ((56, I (subI .i64 p1 x7.f0)) :: ((55, I x7.f0) :: ((54, .ba 64 0) :: ((53, I p1) :: (s_1.append [(50, B (ltI 2592000000 (subI .i64 x8.f1 x7.f1)))])))))))))))))))) [(64, .box [I x7.f0, I x7.f1] false), (72, .box [I x8.f0, I x8.f1] false)] 108) (quoE 3 .i64 (.tmp 62) (.tmp 67) (mulI .i64 (subI .i64 p1 x7.f0) (subI .i64 x8.f1 x7.f1)) (subI .i64 x8.f0 x7.f0)) (fun x9 => ?_)
              refine dg 20 [(some 51, qe (.ba 64 1)), (some 52, qe (I x7.f1)), (some 53, qe (I p1)), (some 54, qe (.ba 64 0)), (some 55, qe (I x7.f0)), (some 56, qe (I (subI .i64 p1 x7.f0))), (some 57, qe (.ba 72 1)), (some 58, qe (I x8.f1)), (some 59, qe (.ba 64 1)), (some 60, qe (I x7.f1)), (some 61, qe (I (subI .i64 x8.f1 x7.f1))), (some 62, qe (I (mulI .i64 (subI .i64 p1 x7.f0) (subI .i64 x8.f1 x7.f1)))), (some 63, qe (.ba 72 0)), (some 64, qe (I x8.f0)), (some 65, qe (.ba 64 0)), (some 66, qe (I x7.f0)), (some 67, qe (I (subI .i64 x8.f0 x7.f0))), (some 68, qe (I x9)), (some 69, qe (I (addI .i64 x7.f1 x9))), (some 7, qe (I (addI .i64 x7.f1 x9)))] ?_
              refine de (mkE ((7, I (addI .i64 x7.f1 x9)) :: ((69, I (addI .i64 x7.f1 x9)) :: ((68, I x9) :: ((67, I (subI .i64 x8.f0 x7.f0)) :: ((66, I x7.f0) :: ((65, .ba 64 0) :: ((64, I x8.f0) :: ((63, .ba 72 0) :: ((62, I (mulI .i64 (subI .i64 p1 x7.f0) (subI .i64 x8.f1 x7.f1))) :: ((61, I (subI .i64 x8.f1 x7.f1)) :: ((60, I x7.f1) :: ((59, .ba 64 1) :: ((58, I x8.f1) :: ((57, .ba 72 1) :: ((56, I (subI .i64 p1 x7.f0)) :: ((55, I x7.f0) :: ((54, .ba 64 0) :: ((53, I p1) :: ((52, I x7.f1) :: ((51, .ba 64 1) :: (s_1.append [(50, B (ltI 2592000000 (subI .i64 x8.f1 x7.f1)))]))))))))))))))))))))) [(64, .box [I x7.f0, I x7.f1] false), (72, .box [I x8.f0, I x8.f1] false)] 108) ?_
              refine se (mkE [(7, I (addI .i64 x7.f1 x9))] [] 108) ?_
              refine pB ?_
              refine pG (mkE [(7, I (addI .i64 x7.f1 x9))] [] 108) ?_
              exact pL
    refine ss y10 (Z := (Sum.elim (fun (x : Int) => (.normal, (mkE [(7, I x)] [] 108))) (fun (x : Unit) => (.ret, (mkE [(4, I 0), (5, I 2)] [] 108))))) (fun y10a => ?_) (fun y10b => ?_)
    · refine pS ?_
      refine gS 17 ?_
      refine gS 0 ?_
      refine gR 15 (rg Tryz.f121 15) ?_
      refine sg 1 (mkE [(104, I y10a), (7, I y10a)] [] 108) ?_
      refine co 105 [] (h92 y10a) (fun x11 => ?_)
      refine se (mkE [(7, I y10a), (106, B (!x11))] [] 108) ?_
      refine pN ?_
      refine pS ?_
      refine gC 106 (!x11) ?_ ?_
      · refine gS 0 ?_
        refine gR 16 (rg Tryz.f121 16) ?_
        refine se (mkE [(4, I 0), (5, I 11)] [] 108) ?_
        refine pN ?_
        refine pS ?_
        refine gE ?_
        exact pL
      · refine gK ?_
        refine pN ?_
        refine pS ?_
        refine gS 0 ?_
        refine gR 17 (rg Tryz.f121 17) ?_
        refine se (mkE [(4, I y10a), (5, I 0)] [] 108) ?_
        refine pN ?_
        refine pS ?_
        refine gE ?_
        exact pL
    · exact pL
theorem F121 (m : Nat) (hm : 2 ≤ m) (p0 : (List S212)) (p1 : Int) : callA Tryz.prog cfg m 121 [LL a212 p0, I p1] = (T121 p0 p1).map (fun r => AV.tup [I r.1, I r.2]) := by
  obtain ⟨q, rfl⟩ : ∃ q, m = q + 1 := ⟨m - 1, by omega⟩
  exact (callA_body (fn := Tryz.f121) (c := body_ Tryz.f121) q _ (by kernel_rfl) (by kernel_rfl) (by kernel_rfl)).trans (B121 _ (fun p0 => F92 q (by omega) p0) p0 p1)

noncomputable def T90 (p0 : (List S87)) (p1 : ByteArray) (p2 : Int) (p3 : Bool) : Option (Int × Int) := ((T120 p0).bind fun x1 => (bif (neI x1 0) then (some (0, x1)) else ((T97 p1).bind fun x2 => (bif (!x2) then (some (0, 5)) else ((T92 p2).bind fun x3 => (bif (!x3) then (some (0, 1)) else ((T122 p0 p1 p3).bind fun x4 => ((T121 x4 p2).bind fun x5 => (some (x5.1, x5.2))))))))))
theorem B90 (C : Callee) (h120 : ∀ (p0 : (List S87)), C 120 [LL a87 p0] = (T120 p0).map I) (h121 : ∀ (p0 : (List S212)) (p1 : Int), C 121 [LL a212 p0, I p1] = (T121 p0 p1).map (fun r => AV.tup [I r.1, I r.2])) (h122 : ∀ (p0 : (List S87)) (p1 : ByteArray) (p2 : Bool), C 122 [LL a87 p0, S p1, B p2] = (T122 p0 p1 p2).map (fun l => AV.fr 213 2 (List.map a212 l))) (h92 : ∀ (p0 : Int), C 92 [I p0] = (T92 p0).map B) (h97 : ∀ (p0 : ByteArray), C 97 [S p0] = (T97 p0).map B) (p0 : (List S87)) (p1 : ByteArray) (p2 : Int) (p3 : Bool) : runs Tryz.prog C (cfg.fn 90) (finFn Tryz.prog (cfg.fn 90).byval Tryz.f90) [] (execA Tryz.prog C (cfg.fn 90) (nr Tryz.f90 []) (frame0 [LL a87 p0, S p1, I p2, B p3] 30 false)) = (T90 p0 p1 p2 p3).map (fun r => AV.tup [I r.1, I r.2]) := by
  unfold T90
  let s_0 : List (Nat × AV) := [(0, LL a87 p0), (1, S p1), (2, I p2), (3, B p3)]
  refine gS 1 ?_
  refine gR 0 (rg Tryz.f90 0) ?_
  refine se (mkE s_0 [] 30) ?_
  refine pN ?_
  refine pS ?_
  refine gS 4 ?_
  refine gS 2 ?_
  refine gR 1 (rg Tryz.f90 1) ?_
  refine sg 1 (mkE ((11, LL a87 p0) :: s_0) [] 30) ?_
  refine co 12 [] (h120 p0) (fun x1 => ?_)
  refine se (mkE (s_0.append [(10, I x1)]) [] 30) ?_
  refine pN ?_
  refine pS ?_
  refine gS 0 ?_
  refine gR 2 (rg Tryz.f90 2) ?_
  refine se (mkE (s_0.append ((10, I x1) :: [(14, B (neI x1 0))])) [] 30) ?_
  refine pN ?_
  refine pS ?_
  refine gC 14 (neI x1 0) ?_ ?_
  · refine gS 0 ?_
    refine gR 3 (rg Tryz.f90 3) ?_
    refine se (mkE [(8, I 0), (9, I x1)] [] 30) ?_
    refine pN ?_
    refine pS ?_
    refine gE ?_
    exact pL
  · refine gK ?_
    refine pN ?_
    refine pS ?_
    refine gS 6 ?_
    refine gS 0 ?_
    refine gR 4 (rg Tryz.f90 4) ?_
    refine sg 1 (mkE ((16, S p1) :: (s_0.append ((10, I x1) :: [(14, B (neI x1 0))]))) [] 30) ?_
    refine co 17 [] (h97 p1) (fun x2 => ?_)
    refine se (mkE (s_0.append [(18, B (!x2))]) [] 30) ?_
    refine pN ?_
    refine pS ?_
    refine gC 18 (!x2) ?_ ?_
    · refine gS 0 ?_
      refine gR 5 (rg Tryz.f90 5) ?_
      refine se (mkE [(8, I 0), (9, I 5)] [] 30) ?_
      refine pN ?_
      refine pS ?_
      refine gE ?_
      exact pL
    · refine gK ?_
      refine pN ?_
      refine pS ?_
      refine gS 8 ?_
      refine gS 0 ?_
      refine gR 6 (rg Tryz.f90 6) ?_
      refine sg 1 (mkE ((19, I p2) :: (s_0.append [(18, B (!x2))])) [] 30) ?_
      refine co 20 [] (h92 p2) (fun x3 => ?_)
      refine se (mkE (s_0.append [(21, B (!x3))]) [] 30) ?_
      refine pN ?_
      refine pS ?_
      refine gC 21 (!x3) ?_ ?_
      · refine gS 0 ?_
        refine gR 7 (rg Tryz.f90 7) ?_
        refine se (mkE [(8, I 0), (9, I 1)] [] 30) ?_
        refine pN ?_
        refine pS ?_
        refine gE ?_
        exact pL
      · refine gK ?_
        refine pN ?_
        refine pS ?_
        refine gS 0 ?_
        refine gR 8 (rg Tryz.f90 8) ?_
        refine sg 3 (mkE ((24, B p3) :: ((23, S p1) :: ((22, LL a87 p0) :: (s_0.append [(21, B (!x3))])))) [] 30) ?_
        refine co 25 [] (h122 p0 p1 p3) (fun x4 => ?_)
        refine sg 5 (mkE ((26, I p2) :: ((25, .own 200 0) :: ((24, B p3) :: ((23, S p1) :: ((22, LL a87 p0) :: (s_0.append [(21, B (!x3))])))))) [(200, RR 213 2 a212 x4 0 false)] 30) ?_
        refine co 27 [200] (h121 x4 p2) (fun x5 => ?_)
        refine se (mkE [(8, I x5.1), (9, I x5.2)] [] 30) ?_
        refine pN ?_
        refine pS ?_
        refine gE ?_
        exact pL
theorem F90 (m : Nat) (hm : 5 ≤ m) (p0 : (List S87)) (p1 : ByteArray) (p2 : Int) (p3 : Bool) : callA Tryz.prog cfg m 90 [LL a87 p0, S p1, I p2, B p3] = (T90 p0 p1 p2 p3).map (fun r => AV.tup [I r.1, I r.2]) := by
  obtain ⟨q, rfl⟩ : ∃ q, m = q + 1 := ⟨m - 1, by omega⟩
  exact (callA_body (fn := Tryz.f90) (c := body_ Tryz.f90) q _ (by kernel_rfl) (by kernel_rfl) (by kernel_rfl)).trans (B90 _ (fun p0 => F120 q (by omega) p0) (fun p0 p1 => F121 q (by omega) p0 p1) (fun p0 p1 p2 => F122 q (by omega) p0 p1 p2) (fun p0 => F92 q (by omega) p0) (fun p0 => F97 q (by omega) p0) p0 p1 p2 p3)

noncomputable def T42 (p0 : (List S87)) (p1 : ByteArray) (p2 : Int) : Option (Int × Int) := ((T90 p0 p1 p2 false).bind fun x1 => (some (x1.1, x1.2)))
theorem B42 (C : Callee) (h90 : ∀ (p0 : (List S87)) (p1 : ByteArray) (p2 : Int) (p3 : Bool), C 90 [LL a87 p0, S p1, I p2, B p3] = (T90 p0 p1 p2 p3).map (fun r => AV.tup [I r.1, I r.2])) (p0 : (List S87)) (p1 : ByteArray) (p2 : Int) : runs Tryz.prog C (cfg.fn 42) (finFn Tryz.prog (cfg.fn 42).byval Tryz.f42) [] (execA Tryz.prog C (cfg.fn 42) (nr Tryz.f42 []) (frame0 [LL a87 p0, S p1, I p2] 14 false)) = (T42 p0 p1 p2).map (fun r => AV.tup [I r.1, I r.2]) := by
  unfold T42
  refine gS 1 ?_
  refine gR 0 (rg Tryz.f42 0) ?_
  refine se (mkE [(0, LL a87 p0), (1, S p1), (2, I p2)] [] 14) ?_
  refine pN ?_
  refine pS ?_
  refine gS 0 ?_
  refine gR 1 (rg Tryz.f42 1) ?_
  refine sg 3 (mkE [(10, I p2), (9, S p1), (8, LL a87 p0), (0, LL a87 p0), (1, S p1), (2, I p2)] [] 14) ?_
  refine co 11 [] (h90 p0 p1 p2 false) (fun x1 => ?_)
  refine se (mkE [(6, I x1.1), (7, I x1.2)] [] 14) ?_
  refine pN ?_
  refine pS ?_
  refine gE ?_
  exact pL
theorem F42 (m : Nat) (hm : 6 ≤ m) (p0 : (List S87)) (p1 : ByteArray) (p2 : Int) : callA Tryz.prog cfg m 42 [LL a87 p0, S p1, I p2] = (T42 p0 p1 p2).map (fun r => AV.tup [I r.1, I r.2]) := by
  obtain ⟨q, rfl⟩ : ∃ q, m = q + 1 := ⟨m - 1, by omega⟩
  exact (callA_body (fn := Tryz.f42) (c := body_ Tryz.f42) q _ (by kernel_rfl) (by kernel_rfl) (by kernel_rfl)).trans (B42 _ (fun p0 p1 p2 p3 => F90 q (by omega) p0 p1 p2 p3) p0 p1 p2)

noncomputable def L178_4 (p0 : S138) (z0 : Int) : Option (Int ⊕ ((Int × Bool) ⊕ Int)) := (bif (ltI z0 (lenL p0.f3)) then ((listAt p0.f3 z0).bind fun x1 => ((T97 x1).bind fun x2 => (bif (!x2) then (some (.inr (.inr 5))) else (bif (ltI 0 z0) then ((listAt p0.f3 (subI .i64 z0 1)).bind fun x3 => (bif (ltS x1 x3 || eqS x1 x3) then (some (.inr (.inr 7))) else (bif (eqS x1 p0.f0) then (some (.inr (.inr 14))) else (some (.inl (addI .i64 z0 1)))))) else (bif (eqS x1 p0.f0) then (some (.inr (.inr 14))) else (some (.inl (addI .i64 z0 1)))))))) else (some (.inr (.inl (z0, (ltI z0 (lenL p0.f3)))))))
theorem L178_4_ok (C : Callee) (h97 : ∀ (p0 : ByteArray), C 97 [S p0] = (T97 p0).map B) (p0 : S138) (z0 : Int) : runs Tryz.prog C (cfg.fn 178) (finLoop ((cfg.fn 178).keep 4) ((cfg.fn 178).al 4)) [] (execA Tryz.prog C (cfg.fn 178) (nr Tryz.f178 [false, false, true, false, true, true]) ((fun z0 : Int => (mkE [(1, .ba 8 0), (10, LL S p0.f3), (11, I (lenL p0.f3)), (12, I z0)] [(8, .box [S p0.f0, S p0.f1, I p0.f2, LL S p0.f3, I p0.f4, I p0.f5, I p0.f6, LL a28 p0.f7, S p0.f8] false)] 48)) z0)) = (L178_4 p0 z0).map (Sum.elim (fun z => .inl ((fun z0 : Int => (mkE [(1, .ba 8 0), (10, LL S p0.f3), (11, I (lenL p0.f3)), (12, I z0)] [(8, .box [S p0.f0, S p0.f1, I p0.f2, LL S p0.f3, I p0.f4, I p0.f5, I p0.f6, LL a28 p0.f7, S p0.f8] false)] 48)) z)) (fun x => .inr ((Sum.elim (fun (x : (Int × Bool)) => (.exit 0, (mkE [(1, .ba 8 0), (10, LL S p0.f3), (11, I (lenL p0.f3)), (12, I x.1), (13, B x.2)] [(8, .box [S p0.f0, S p0.f1, I p0.f2, LL S p0.f3, I p0.f4, I p0.f5, I p0.f6, LL a28 p0.f7, S p0.f8] false)] 48))) (fun (x : Int) => (.ret, (mkE [(2, I x)] [] 48)))) x))) := by
  unfold L178_4
  let s_0 : List (Nat × AV) := [(10, LL S p0.f3), (11, I (lenL p0.f3)), (12, I z0)]
  let o_0 : List (Nat × AObj) := [(8, .box [S p0.f0, S p0.f1, I p0.f2, LL S p0.f3, I p0.f4, I p0.f5, I p0.f6, LL a28 p0.f7, S p0.f8] false)]
  refine gS 0 ?_
  refine gR 4 (rg Tryz.f178 4) ?_
  refine se (mkE ((1, .ba 8 0) :: (s_0.append [(13, B (ltI z0 (lenL p0.f3)))])) o_0 48) ?_
  refine pN ?_
  refine pS ?_
  refine gS 5 ?_
  refine gC 13 (ltI z0 (lenL p0.f3)) ?_ ?_
  · refine gK ?_
    refine pN ?_
    refine pS ?_
    refine gS 12 ?_
    refine gB 1 ?_
    refine gS 6 ?_
    refine gR 5 (rg Tryz.f178 5) ?_
    refine sg 1 (mkE ((14, I z0) :: ((1, .ba 8 0) :: (s_0.append [(13, B (ltI z0 (lenL p0.f3)))]))) o_0 48) ?_
    refine vo 15 (addrE 61 9 1 S .i64 p0.f3 z0) (fun x1 => ?_)
    refine se (mkE ((1, .ba 8 0) :: ((3, I z0) :: ((4, S x1) :: s_0))) o_0 48) ?_
    refine pN ?_
    refine pS ?_
    refine gB 2 ?_
    refine gS 0 ?_
    refine gR 6 (rg Tryz.f178 6) ?_
    refine sg 1 (mkE ((18, S x1) :: ((1, .ba 8 0) :: ((3, I z0) :: ((4, S x1) :: s_0)))) o_0 48) ?_
    refine co 19 [] (h97 x1) (fun x2 => ?_)
    refine se (mkE ((1, .ba 8 0) :: ((3, I z0) :: ((4, S x1) :: (s_0.append [(17, B (!x2))])))) o_0 48) ?_
    refine pN ?_
    refine pS ?_
    refine gC 17 (!x2) ?_ ?_
    · refine gS 0 ?_
      refine gR 7 (rg Tryz.f178 7) ?_
      refine se (mkE [(2, I 5)] [] 48) ?_
      refine pN ?_
      refine pS ?_
      refine gE ?_
      exact pL
    · refine gS 0 ?_
      refine gR 8 (rg Tryz.f178 8) ?_
      refine sg 3 (mkE ((24, B (ltI 0 z0)) :: ((23, B (ltI 0 z0)) :: ((22, I z0) :: ((1, .ba 8 0) :: ((3, I z0) :: ((4, S x1) :: (s_0.append [(17, B (!x2))]))))))) o_0 48) ?_
      refine sb 24 (ltI 0 z0) ?_ ?_
      · refine sg 8 (mkE ((29, I (subI .i64 z0 1)) :: ((28, I z0) :: ((27, LL S p0.f3) :: ((26, .ba 8 3) :: ((25, S x1) :: ((24, B true) :: ((24, B (ltI 0 z0)) :: ((23, B (ltI 0 z0)) :: ((22, I z0) :: ((1, .ba 8 0) :: ((3, I z0) :: ((4, S x1) :: (s_0.append [(17, B (!x2))]))))))))))))) o_0 48) ?_
        refine vo 30 (addrE 61 9 1 S .i64 p0.f3 (subI .i64 z0 1)) (fun x3 => ?_)
        refine se (mkE ((1, .ba 8 0) :: ((4, S x1) :: (s_0.append [(21, B (ltS x1 x3 || eqS x1 x3))]))) o_0 48) ?_
        refine pN ?_
        refine pS ?_
        refine gC 21 (ltS x1 x3 || eqS x1 x3) ?_ ?_
        · refine gS 0 ?_
          refine gR 9 (rg Tryz.f178 9) ?_
          refine se (mkE [(2, I 7)] [] 48) ?_
          refine pN ?_
          refine pS ?_
          refine gE ?_
          exact pL
        · refine gS 0 ?_
          refine gR 10 (rg Tryz.f178 10) ?_
          refine se (mkE ((1, .ba 8 0) :: (s_0.append [(34, B (eqS x1 p0.f0))])) o_0 48) ?_
          refine pN ?_
          refine pS ?_
          refine gC 34 (eqS x1 p0.f0) ?_ ?_
          · refine gS 0 ?_
            refine gR 11 (rg Tryz.f178 11) ?_
            refine se (mkE [(2, I 14)] [] 48) ?_
            refine pN ?_
            refine pS ?_
            refine gE ?_
            exact pL
          · refine gK ?_
            refine pB ?_
            refine pB ?_
            refine pN ?_
            refine pS ?_
            refine gR 12 (rg Tryz.f178 12) ?_
            refine se (mkE [(1, .ba 8 0), (10, LL S p0.f3), (11, I (lenL p0.f3)), (12, I (addI .i64 z0 1))] o_0 48) ?_
            exact pL
      · refine se (mkE ((1, .ba 8 0) :: ((4, S x1) :: (s_0.append [(21, B false)]))) o_0 48) ?_
        refine pN ?_
        refine pS ?_
        refine gF (.tmp 21) ?_
        refine gS 0 ?_
        refine gR 10 (rg Tryz.f178 10) ?_
        refine se (mkE ((1, .ba 8 0) :: (s_0.append [(34, B (eqS x1 p0.f0))])) o_0 48) ?_
        refine pN ?_
        refine pS ?_
        refine gC 34 (eqS x1 p0.f0) ?_ ?_
        · refine gS 0 ?_
          refine gR 11 (rg Tryz.f178 11) ?_
          refine se (mkE [(2, I 14)] [] 48) ?_
          refine pN ?_
          refine pS ?_
          refine gE ?_
          exact pL
        · refine gK ?_
          refine pB ?_
          refine pB ?_
          refine pN ?_
          refine pS ?_
          refine gR 12 (rg Tryz.f178 12) ?_
          refine se (mkE [(1, .ba 8 0), (10, LL S p0.f3), (11, I (lenL p0.f3)), (12, I (addI .i64 z0 1))] o_0 48) ?_
          exact pL
  · refine gX 0 ?_
    exact pL
noncomputable def T178 (p0 : S138) : Option Int := (bif (ltI 20 (lenL p0.f3)) then (some 2) else ((iter (L178_4 p0) 0).bind fun y4 => (Sum.elim (fun y4a => (bif ((eqI p0.f2 1) != (eqI (lenL p0.f3) 0)) then (some 3) else (some 0))) (fun y4b => (some y4b)) y4)))
theorem B178 (C : Callee) (h97 : ∀ (p0 : ByteArray), C 97 [S p0] = (T97 p0).map B) (p0 : S138) : runs Tryz.prog C (cfg.fn 178) (finFn Tryz.prog (cfg.fn 178).byval Tryz.f178) [] (execA Tryz.prog C (cfg.fn 178) (nr Tryz.f178 []) (frame0 [a138 p0] 48 false)) = (T178 p0).map I := by
  unfold T178
  let s_0 : List (Nat × AV) := [(1, .ba 8 0), (10, LL S p0.f3), (11, I (lenL p0.f3))]
  let o_0 : List (Nat × AObj) := [(8, .box [S p0.f0, S p0.f1, I p0.f2, LL S p0.f3, I p0.f4, I p0.f5, I p0.f6, LL a28 p0.f7, S p0.f8] false)]
  refine gS 1 ?_
  refine gR 0 (rg Tryz.f178 0) ?_
  refine se (mkE [(1, .ba 8 0)] o_0 48) ?_
  refine pN ?_
  refine pS ?_
  refine gS 3 ?_
  refine gS 0 ?_
  refine gR 1 (rg Tryz.f178 1) ?_
  refine sg 2 (mkE [(6, LL S p0.f3), (5, .ba 8 3), (1, .ba 8 0)] o_0 48) ?_
  refine eo 7 (I (lenL p0.f3)) (lenE 61 S p0.f3) ?_
  refine se (mkE [(1, .ba 8 0), (8, B (ltI 20 (lenL p0.f3)))] o_0 48) ?_
  refine pN ?_
  refine pS ?_
  refine gC 8 (ltI 20 (lenL p0.f3)) ?_ ?_
  · refine gS 0 ?_
    refine gR 2 (rg Tryz.f178 2) ?_
    refine se (mkE [(2, I 2)] [] 48) ?_
    refine pN ?_
    refine pS ?_
    refine gE ?_
    exact pL
  · refine gK ?_
    refine pN ?_
    refine pS ?_
    refine gS 13 ?_
    refine gS 4 ?_
    refine gR 3 (rg Tryz.f178 3) ?_
    refine sg 2 (mkE [(10, LL S p0.f3), (9, .ba 8 3), (1, .ba 8 0), (8, B (ltI 20 (lenL p0.f3)))] o_0 48) ?_
    refine eo 11 (I (lenL p0.f3)) (lenE 61 S p0.f3) ?_
    refine se (mkE (s_0.append [(12, I 0)]) o_0 48) ?_
    refine pN ?_
    refine pS ?_
    refine gB 0 ?_
    refine lo [(1, none), (10, none), (11, none), (12, none)] [] (L178_4 p0) (fun z0 : Int => (mkE (s_0.append [(12, I z0)]) o_0 48)) (Sum.elim (fun (x : (Int × Bool)) => (.exit 0, (mkE (s_0.append ((12, I x.1) :: [(13, B x.2)])) o_0 48))) (fun (x : Int) => (.ret, (mkE [(2, I x)] [] 48)))) 0 (fun z => L178_4_ok C h97 p0 z) ?_
    intro y4
    refine ss y4 (Z := (Sum.elim (fun (x : (Int × Bool)) => (.exit 0, (mkE (s_0.append ((12, I x.1) :: [(13, B x.2)])) o_0 48))) (fun (x : Int) => (.ret, (mkE [(2, I x)] [] 48))))) (fun y4a => ?_) (fun y4b => ?_)
    · refine pH ?_
      refine pN ?_
      refine pS ?_
      refine gS 15 ?_
      refine gS 0 ?_
      refine gR 13 (rg Tryz.f178 13) ?_
      refine sg 5 (mkE ((44, LL S p0.f3) :: ((43, .ba 8 3) :: ((42, B (eqI p0.f2 1)) :: ((41, I p0.f2) :: ((40, .ba 8 2) :: (s_0.append ((12, I y4a.1) :: [(13, B y4a.2)]))))))) o_0 48) ?_
      refine eo 45 (I (lenL p0.f3)) (lenE 61 S p0.f3) ?_
      refine se (mkE [(47, B ((eqI p0.f2 1) != (eqI (lenL p0.f3) 0)))] [] 48) ?_
      refine pN ?_
      refine pS ?_
      refine gC 47 ((eqI p0.f2 1) != (eqI (lenL p0.f3) 0)) ?_ ?_
      · refine gS 0 ?_
        refine gR 14 (rg Tryz.f178 14) ?_
        refine se (mkE [(2, I 3)] [] 48) ?_
        refine pN ?_
        refine pS ?_
        refine gE ?_
        exact pL
      · refine gK ?_
        refine pN ?_
        refine pS ?_
        refine gS 0 ?_
        refine gR 15 (rg Tryz.f178 15) ?_
        refine se (mkE [(2, I 0)] [] 48) ?_
        refine pN ?_
        refine pS ?_
        refine gE ?_
        exact pL
    · exact pL
theorem F178 (m : Nat) (hm : 2 ≤ m) (p0 : S138) : callA Tryz.prog cfg m 178 [a138 p0] = (T178 p0).map I := by
  obtain ⟨q, rfl⟩ : ∃ q, m = q + 1 := ⟨m - 1, by omega⟩
  exact (callA_body (fn := Tryz.f178) (c := body_ Tryz.f178) q _ (by kernel_rfl) (by kernel_rfl) (by kernel_rfl)).trans (B178 _ (fun p0 => F97 q (by omega) p0) p0)

theorem F191 (m : Nat) (hm : 1 ≤ m) (p0 : ByteArray) : callA Tryz.prog cfg m 191 [S p0] = (none : Option Unit).map (fun _ => AV.und) := by
  obtain ⟨q, rfl⟩ : ∃ q, m = q + 1 := ⟨m - 1, by omega⟩
  exact (callA_leaf (L := leafNone) _ _ (by kernel_rfl)).trans (rfl)

noncomputable def L186_1 (z0 : ByteArray) : Option (ByteArray ⊕ (ByteArray × Bool)) := (bif (ltI 0 (lenS z0)) then ((byteAt z0 0).bind fun x1 => (bif (ltI x1 128) then ((cutS z0 (some 1) none).bind fun x2 => (bif (ltI 8 (lenS x2)) then none else (some (.inl x2)))) else none)) else (some (.inr (z0, (ltI 0 (lenS z0))))))
theorem L186_1_ok (C : Callee) (h191 : ∀ (p0 : ByteArray), C 191 [S p0] = (none : Option Unit).map (fun _ => AV.und)) (z0 : ByteArray) : runs Tryz.prog C (cfg.fn 186) (finLoop ((cfg.fn 186).keep 1) ((cfg.fn 186).al 1)) [] (execA Tryz.prog C (cfg.fn 186) (nr Tryz.f186 [false, false, false, true]) ((fun z0 : ByteArray => (mkE [(0, S z0)] [] 169)) z0)) = (L186_1 z0).map (Sum.elim (fun z => .inl ((fun z0 : ByteArray => (mkE [(0, S z0)] [] 169)) z)) (fun x => .inr ((fun (x : (ByteArray × Bool)) => (.exit 0, (mkE [(0, S x.1), (9, B x.2)] [] 169))) x))) := by
  unfold L186_1
  refine gS 2 ?_
  refine gS 0 ?_
  refine gR 1 (rg Tryz.f186 1) ?_
  refine se (mkE [(0, S z0), (9, B (ltI 0 (lenS z0)))] [] 169) ?_
  refine pN ?_
  refine pS ?_
  refine gC 9 (ltI 0 (lenS z0)) ?_ ?_
  · refine gK ?_
    refine pN ?_
    refine pS ?_
    refine gB 1 ?_
    refine gS 3 ?_
    refine gR 2 (rg Tryz.f186 2) ?_
    refine sg 1 (mkE [(10, S z0), (0, S z0), (9, B (ltI 0 (lenS z0)))] [] 169) ?_
    refine vo 11 (byteE 9 .i64 z0 0) (fun x1 => ?_)
    refine se (mkE [(0, S z0), (3, U x1)] [] 169) ?_
    refine pN ?_
    refine pS ?_
    refine gS 11 ?_
    refine gS 0 ?_
    refine gR 3 (rg Tryz.f186 3) ?_
    refine se (mkE [(0, S z0), (3, U x1), (13, B (ltI x1 128))] [] 169) ?_
    refine pN ?_
    refine pS ?_
    refine gC 13 (ltI x1 128) ?_ ?_
    · refine gS 5 ?_
      refine gR 4 (rg Tryz.f186 4) ?_
      refine sg 1 (mkE [(14, S z0), (0, S z0), (3, U x1), (13, B (ltI x1 128))] [] 169) ?_
      refine vo 15 (cutSE 9 .i64 .i64 z0 (some 1) none) (fun x2 => ?_)
      refine se (mkE [(0, S x2)] [] 169) ?_
      refine pN ?_
      refine pS ?_
      refine gS 0 ?_
      refine gS 0 ?_
      refine gR 5 (rg Tryz.f186 5) ?_
      refine sg 4 (mkE [(19, B (ltI 8 (lenS x2))), (18, B (ltI 8 (lenS x2))), (17, I (lenS x2)), (16, S x2), (0, S x2)] [] 169) ?_
      refine sb 19 (ltI 8 (lenS x2)) ?_ ?_
      · refine sg 5 (mkE [(20, S x2), (19, B true), (19, B (ltI 8 (lenS x2))), (18, B (ltI 8 (lenS x2))), (17, I (lenS x2)), (16, S x2), (0, S x2)] [] 169) ?_
        exact nC 21 [] (h191 x2)
      · refine se (mkE [(0, S x2), (24, B false)] [] 169) ?_
        refine pN ?_
        refine pS ?_
        refine gF (.tmp 24) ?_
        refine gK ?_
        refine pN ?_
        refine pS ?_
        refine gX 1 ?_
        refine pF ?_
        refine pO ?_
        refine pH ?_
        exact pL
    · refine gK ?_
      refine pN ?_
      refine pS ?_
      refine gS 12 ?_
      refine gR 11 (rg Tryz.f186 11) ?_
      refine sg 1 (mkE [(65, U x1), (0, S z0), (3, U x1), (13, B (ltI x1 128))] [] 169) ?_
      exact nO
  · refine gX 0 ?_
    exact pL
noncomputable def T186 (p0 : ByteArray) : Option Bool := ((iter (L186_1) p0).bind fun y3 => (some true))
theorem B186 (C : Callee) (h191 : ∀ (p0 : ByteArray), C 191 [S p0] = (none : Option Unit).map (fun _ => AV.und)) (p0 : ByteArray) : runs Tryz.prog C (cfg.fn 186) (finFn Tryz.prog (cfg.fn 186).byval Tryz.f186) [] (execA Tryz.prog C (cfg.fn 186) (nr Tryz.f186 []) (frame0 [S p0] 169 false)) = (T186 p0).map B := by
  unfold T186
  refine gS 1 ?_
  refine gR 0 (rg Tryz.f186 0) ?_
  refine se (mkE [(0, S p0)] [] 169) ?_
  refine pN ?_
  refine pS ?_
  refine gS 28 ?_
  refine gB 0 ?_
  refine lo [(0, none)] [] (L186_1) (fun z0 : ByteArray => (mkE [(0, S z0)] [] 169)) (fun (x : (ByteArray × Bool)) => (.exit 0, (mkE [(0, S x.1), (9, B x.2)] [] 169))) p0 (fun z => L186_1_ok C h191 z) ?_
  intro y3
  refine pH ?_
  refine pN ?_
  refine pS ?_
  refine gS 0 ?_
  refine gR 28 (rg Tryz.f186 28) ?_
  refine se (mkE [(2, B true)] [] 169) ?_
  refine pN ?_
  refine pS ?_
  refine gE ?_
  exact pL
theorem F186 (m : Nat) (hm : 2 ≤ m) (p0 : ByteArray) : callA Tryz.prog cfg m 186 [S p0] = (T186 p0).map B := by
  obtain ⟨q, rfl⟩ : ∃ q, m = q + 1 := ⟨m - 1, by omega⟩
  exact (callA_body (fn := Tryz.f186) (c := body_ Tryz.f186) q _ (by kernel_rfl) (by kernel_rfl) (by kernel_rfl)).trans (B186 _ (fun p0 => F191 q (by omega) p0) p0)

noncomputable def L193_1 (p1 : Int) (z0 : ByteArray) : Option (ByteArray ⊕ (ByteArray × Bool)) := (bif (ltI 0 (lenS z0)) then ((byteAt z0 (subI .i64 (lenS z0) 1)).bind fun x1 => (bif (eqI x1 p1) then ((cutS z0 none (some (subI .i64 (lenS z0) 1))).bind fun x2 => (some (.inl x2))) else (some (.inr (z0, (eqI x1 p1)))))) else (some (.inr (z0, false))))
theorem L193_1_ok (C : Callee) (p1 : Int) (z0 : ByteArray) : runs Tryz.prog C (cfg.fn 193) (finLoop ((cfg.fn 193).keep 1) ((cfg.fn 193).al 1)) [] (execA Tryz.prog C (cfg.fn 193) (nr Tryz.f193 [false, false, false, true]) ((fun z0 : ByteArray => (mkE [(0, S z0), (1, U p1)] [] 23)) z0)) = (L193_1 p1 z0).map (Sum.elim (fun z => .inl ((fun z0 : ByteArray => (mkE [(0, S z0), (1, U p1)] [] 23)) z)) (fun x => .inr ((fun (x : (ByteArray × Bool)) => (.exit 0, (mkE [(0, S x.1), (1, U p1), (16, B x.2)] [] 23))) x))) := by
  unfold L193_1
  refine gS 2 ?_
  refine gS 0 ?_
  refine gR 1 (rg Tryz.f193 1) ?_
  refine sg 4 (mkE [(8, B (ltI 0 (lenS z0))), (7, B (ltI 0 (lenS z0))), (6, I (lenS z0)), (5, S z0), (0, S z0), (1, U p1)] [] 23) ?_
  refine sb 8 (ltI 0 (lenS z0)) ?_ ?_
  · refine sg 8 (mkE [(12, I (subI .i64 (lenS z0) 1)), (11, I (lenS z0)), (10, S z0), (9, S z0), (8, B true), (8, B (ltI 0 (lenS z0))), (7, B (ltI 0 (lenS z0))), (6, I (lenS z0)), (5, S z0), (0, S z0), (1, U p1)] [] 23) ?_
    refine vo 13 (byteE 9 .i64 z0 (subI .i64 (lenS z0) 1)) (fun x1 => ?_)
    refine se (mkE [(0, S z0), (1, U p1), (16, B (eqI x1 p1))] [] 23) ?_
    refine pN ?_
    refine pS ?_
    refine gC 16 (eqI x1 p1) ?_ ?_
    · refine gK ?_
      refine pN ?_
      refine pS ?_
      refine gB 1 ?_
      refine gR 2 (rg Tryz.f193 2) ?_
      refine sg 4 (mkE [(20, I (subI .i64 (lenS z0) 1)), (19, I (lenS z0)), (18, S z0), (17, S z0), (0, S z0), (1, U p1), (16, B (eqI x1 p1))] [] 23) ?_
      refine vo 21 (cutSE 9 .i64 .i64 z0 none (some (subI .i64 (lenS z0) 1))) (fun x2 => ?_)
      refine se (mkE [(0, S x2), (1, U p1)] [] 23) ?_
      refine pB ?_
      exact pL
    · refine gX 0 ?_
      exact pL
  · refine se (mkE [(0, S z0), (1, U p1), (16, B false)] [] 23) ?_
    refine pN ?_
    refine pS ?_
    refine gF (.tmp 16) ?_
    refine gX 0 ?_
    exact pL
noncomputable def T193 (p0 : ByteArray) (p1 : Int) : Option ByteArray := ((iter (L193_1 p1) p0).bind fun y3 => (some y3.1))
theorem B193 (C : Callee) (p0 : ByteArray) (p1 : Int) : runs Tryz.prog C (cfg.fn 193) (finFn Tryz.prog (cfg.fn 193).byval Tryz.f193) [] (execA Tryz.prog C (cfg.fn 193) (nr Tryz.f193 []) (frame0 [S p0, U p1] 23 false)) = (T193 p0 p1).map S := by
  unfold T193
  refine gS 1 ?_
  refine gR 0 (rg Tryz.f193 0) ?_
  refine se (mkE [(0, S p0), (1, U p1)] [] 23) ?_
  refine pN ?_
  refine pS ?_
  refine gS 3 ?_
  refine gB 0 ?_
  refine lo [(0, none), (1, none)] [] (L193_1 p1) (fun z0 : ByteArray => (mkE [(0, S z0), (1, U p1)] [] 23)) (fun (x : (ByteArray × Bool)) => (.exit 0, (mkE [(0, S x.1), (1, U p1), (16, B x.2)] [] 23))) p0 (fun z => L193_1_ok C p1 z) ?_
  intro y3
  refine pH ?_
  refine pN ?_
  refine pS ?_
  refine gS 0 ?_
  refine gR 3 (rg Tryz.f193 3) ?_
  refine se (mkE [(4, S y3.1)] [] 23) ?_
  refine pN ?_
  refine pS ?_
  refine gE ?_
  exact pL
theorem F193 (m : Nat) (hm : 1 ≤ m) (p0 : ByteArray) (p1 : Int) : callA Tryz.prog cfg m 193 [S p0, U p1] = (T193 p0 p1).map S := by
  obtain ⟨q, rfl⟩ : ∃ q, m = q + 1 := ⟨m - 1, by omega⟩
  exact (callA_body (fn := Tryz.f193) (c := body_ Tryz.f193) q _ (by kernel_rfl) (by kernel_rfl) (by kernel_rfl)).trans (B193 _ p0 p1)

noncomputable def L192_1 (p1 : Int) (z0 : ByteArray) : Option (ByteArray ⊕ (ByteArray × Bool)) := (bif (ltI 0 (lenS z0)) then ((byteAt z0 0).bind fun x1 => (bif (eqI x1 p1) then ((cutS z0 (some 1) none).bind fun x2 => (some (.inl x2))) else (some (.inr (z0, (eqI x1 p1)))))) else (some (.inr (z0, false))))
theorem L192_1_ok (C : Callee) (p1 : Int) (z0 : ByteArray) : runs Tryz.prog C (cfg.fn 192) (finLoop ((cfg.fn 192).keep 1) ((cfg.fn 192).al 1)) [] (execA Tryz.prog C (cfg.fn 192) (nr Tryz.f192 [false, false, false, true]) ((fun z0 : ByteArray => (mkE [(0, S z0), (1, U p1)] [] 17)) z0)) = (L192_1 p1 z0).map (Sum.elim (fun z => .inl ((fun z0 : ByteArray => (mkE [(0, S z0), (1, U p1)] [] 17)) z)) (fun x => .inr ((fun (x : (ByteArray × Bool)) => (.exit 0, (mkE [(0, S x.1), (1, U p1), (13, B x.2)] [] 17))) x))) := by
  unfold L192_1
  refine gS 2 ?_
  refine gS 0 ?_
  refine gR 1 (rg Tryz.f192 1) ?_
  refine sg 4 (mkE [(8, B (ltI 0 (lenS z0))), (7, B (ltI 0 (lenS z0))), (6, I (lenS z0)), (5, S z0), (0, S z0), (1, U p1)] [] 17) ?_
  refine sb 8 (ltI 0 (lenS z0)) ?_ ?_
  · refine sg 5 (mkE [(9, S z0), (8, B true), (8, B (ltI 0 (lenS z0))), (7, B (ltI 0 (lenS z0))), (6, I (lenS z0)), (5, S z0), (0, S z0), (1, U p1)] [] 17) ?_
    refine vo 10 (byteE 9 .i64 z0 0) (fun x1 => ?_)
    refine se (mkE [(0, S z0), (1, U p1), (13, B (eqI x1 p1))] [] 17) ?_
    refine pN ?_
    refine pS ?_
    refine gC 13 (eqI x1 p1) ?_ ?_
    · refine gK ?_
      refine pN ?_
      refine pS ?_
      refine gB 1 ?_
      refine gR 2 (rg Tryz.f192 2) ?_
      refine sg 1 (mkE [(14, S z0), (0, S z0), (1, U p1), (13, B (eqI x1 p1))] [] 17) ?_
      refine vo 15 (cutSE 9 .i64 .i64 z0 (some 1) none) (fun x2 => ?_)
      refine se (mkE [(0, S x2), (1, U p1)] [] 17) ?_
      refine pB ?_
      exact pL
    · refine gX 0 ?_
      exact pL
  · refine se (mkE [(0, S z0), (1, U p1), (13, B false)] [] 17) ?_
    refine pN ?_
    refine pS ?_
    refine gF (.tmp 13) ?_
    refine gX 0 ?_
    exact pL
noncomputable def T192 (p0 : ByteArray) (p1 : Int) : Option ByteArray := ((iter (L192_1 p1) p0).bind fun y3 => (some y3.1))
theorem B192 (C : Callee) (p0 : ByteArray) (p1 : Int) : runs Tryz.prog C (cfg.fn 192) (finFn Tryz.prog (cfg.fn 192).byval Tryz.f192) [] (execA Tryz.prog C (cfg.fn 192) (nr Tryz.f192 []) (frame0 [S p0, U p1] 17 false)) = (T192 p0 p1).map S := by
  unfold T192
  refine gS 1 ?_
  refine gR 0 (rg Tryz.f192 0) ?_
  refine se (mkE [(0, S p0), (1, U p1)] [] 17) ?_
  refine pN ?_
  refine pS ?_
  refine gS 3 ?_
  refine gB 0 ?_
  refine lo [(0, none), (1, none)] [] (L192_1 p1) (fun z0 : ByteArray => (mkE [(0, S z0), (1, U p1)] [] 17)) (fun (x : (ByteArray × Bool)) => (.exit 0, (mkE [(0, S x.1), (1, U p1), (13, B x.2)] [] 17))) p0 (fun z => L192_1_ok C p1 z) ?_
  intro y3
  refine pH ?_
  refine pN ?_
  refine pS ?_
  refine gS 0 ?_
  refine gR 3 (rg Tryz.f192 3) ?_
  refine se (mkE [(4, S y3.1)] [] 17) ?_
  refine pN ?_
  refine pS ?_
  refine gE ?_
  exact pL
theorem F192 (m : Nat) (hm : 1 ≤ m) (p0 : ByteArray) (p1 : Int) : callA Tryz.prog cfg m 192 [S p0, U p1] = (T192 p0 p1).map S := by
  obtain ⟨q, rfl⟩ : ∃ q, m = q + 1 := ⟨m - 1, by omega⟩
  exact (callA_body (fn := Tryz.f192) (c := body_ Tryz.f192) q _ (by kernel_rfl) (by kernel_rfl) (by kernel_rfl)).trans (B192 _ p0 p1)

theorem F194 (m : Nat) (hm : 1 ≤ m) (p0 : ByteArray) : callA Tryz.prog cfg m 194 [S p0] = (none : Option Unit).map (fun _ => AV.und) := by
  obtain ⟨q, rfl⟩ : ∃ q, m = q + 1 := ⟨m - 1, by omega⟩
  exact (callA_leaf (L := leafNone) _ _ (by kernel_rfl)).trans (rfl)

noncomputable def T187 (p0 : ByteArray) (p1 : ByteArray) : Option ByteArray := (bif (eqS p0 (ByteArray.mk #[])) then (some p0) else (bif (eqS p1 (ByteArray.mk #[])) then (some p0) else (bif (eqI (lenS p1) 1) then ((byteAt p1 0).bind fun x1 => (bif (ltI x1 128) then ((byteAt p1 0).bind fun x2 => ((T193 p0 x2).bind fun x3 => ((byteAt p1 0).bind fun x4 => ((T192 x3 x4).bind fun x5 => (some x5))))) else none)) else none)))
theorem B187 (C : Callee) (h192 : ∀ (p0 : ByteArray) (p1 : Int), C 192 [S p0, U p1] = (T192 p0 p1).map S) (h193 : ∀ (p0 : ByteArray) (p1 : Int), C 193 [S p0, U p1] = (T193 p0 p1).map S) (h194 : ∀ (p0 : ByteArray), C 194 [S p0] = (none : Option Unit).map (fun _ => AV.und)) (p0 : ByteArray) (p1 : ByteArray) : runs Tryz.prog C (cfg.fn 187) (finFn Tryz.prog (cfg.fn 187).byval Tryz.f187) [] (execA Tryz.prog C (cfg.fn 187) (nr Tryz.f187 []) (frame0 [S p0, S p1] 43 false)) = (T187 p0 p1).map S := by
  unfold T187
  let s_0 : List (Nat × AV) := [(0, S p0), (1, S p1)]
  refine gS 1 ?_
  refine gR 0 (rg Tryz.f187 0) ?_
  refine se (mkE s_0 [] 43) ?_
  refine pN ?_
  refine pS ?_
  refine gS 3 ?_
  refine gS 0 ?_
  refine gR 1 (rg Tryz.f187 1) ?_
  refine sg 3 (mkE ((9, B (eqS p0 (ByteArray.mk #[]))) :: ((8, B (eqS p0 (ByteArray.mk #[]))) :: ((7, S p0) :: s_0))) [] 43) ?_
  refine sb 9 (eqS p0 (ByteArray.mk #[])) ?_ ?_
  · refine se (mkE (s_0.append [(12, B true)]) [] 43) ?_
    refine pN ?_
    refine pS ?_
    refine gT (.tmp 12) ?_
    refine gS 0 ?_
    refine gR 2 (rg Tryz.f187 2) ?_
    refine se (mkE [(4, S p0)] [] 43) ?_
    refine pN ?_
    refine pS ?_
    refine gE ?_
    exact pL
  · refine se (mkE (s_0.append [(12, B (eqS p1 (ByteArray.mk #[])))]) [] 43) ?_
    refine pN ?_
    refine pS ?_
    refine gC 12 (eqS p1 (ByteArray.mk #[])) ?_ ?_
    · refine gS 0 ?_
      refine gR 2 (rg Tryz.f187 2) ?_
      refine se (mkE [(4, S p0)] [] 43) ?_
      refine pN ?_
      refine pS ?_
      refine gE ?_
      exact pL
    · refine gK ?_
      refine pN ?_
      refine pS ?_
      refine gS 5 ?_
      refine gS 0 ?_
      refine gR 3 (rg Tryz.f187 3) ?_
      refine sg 4 (mkE ((17, B (eqI (lenS p1) 1)) :: ((16, B (eqI (lenS p1) 1)) :: ((15, I (lenS p1)) :: ((14, S p1) :: (s_0.append [(12, B (eqS p1 (ByteArray.mk #[])))]))))) [] 43) ?_
      refine sb 17 (eqI (lenS p1) 1) ?_ ?_
      · refine sg 5 (mkE ((18, S p1) :: ((17, B true) :: ((17, B (eqI (lenS p1) 1)) :: ((16, B (eqI (lenS p1) 1)) :: ((15, I (lenS p1)) :: ((14, S p1) :: (s_0.append [(12, B (eqS p1 (ByteArray.mk #[])))]))))))) [] 43) ?_
        refine vo 19 (byteE 9 .i64 p1 0) (fun x1 => ?_)
        refine se (mkE (s_0.append [(21, B (ltI x1 128))]) [] 43) ?_
        refine pN ?_
        refine pS ?_
        refine gC 21 (ltI x1 128) ?_ ?_
        · refine gS 0 ?_
          refine gD 4 8 (rg Tryz.f187 4) [0, 1, 2, 3, 4, 5, 6, 7] ?_
          refine dg 2 [(some 22, qe (S p0)), (some 23, qe (S p1))] ?_
          refine dv 24 (mkE ((23, S p1) :: (s_0.append [(21, B (ltI x1 128))])) [] 43) (byteE 9 .i64 p1 0) (fun x2 => ?_)
          refine dc 25 [] (mkE ((24, U x2) :: ((23, S p1) :: ((22, S p0) :: (s_0.append [(21, B (ltI x1 128))])))) [] 43) (h193 p0 x2) (fun x3 => ?_)
          refine dg 5 [(some 22, qe (S p0)), (some 23, qe (S p1)), (some 24, qe (U x2)), (some 25, qe (S x3)), (some 26, qe (S p1))] ?_
          refine dv 27 (mkE ((26, S p1) :: (s_0.append [(21, B (ltI x1 128))])) [] 43) (byteE 9 .i64 p1 0) (fun x4 => ?_)
          refine dc 28 [] (mkE ((27, U x4) :: ((26, S p1) :: ((25, S x3) :: ((24, U x2) :: ((23, S p1) :: ((22, S p0) :: (s_0.append [(21, B (ltI x1 128))]))))))) [] 43) (h192 x3 x4) (fun x5 => ?_)
          refine dg 8 [(some 22, qe (S p0)), (some 23, qe (S p1)), (some 24, qe (U x2)), (some 25, qe (S x3)), (some 26, qe (S p1)), (some 27, qe (U x4)), (some 28, qe (S x5)), (some 4, qe (S x5))] ?_
          refine de (mkE ((4, S x5) :: ((28, S x5) :: ((27, U x4) :: ((26, S p1) :: ((25, S x3) :: ((24, U x2) :: ((23, S p1) :: ((22, S p0) :: (s_0.append [(21, B (ltI x1 128))]))))))))) [] 43) ?_
          refine se (mkE [(4, S x5)] [] 43) ?_
          refine pN ?_
          refine pS ?_
          refine gE ?_
          exact pL
        · refine gK ?_
          refine pN ?_
          refine pS ?_
          refine gS 8 ?_
          refine gS 6 ?_
          refine gR 5 (rg Tryz.f187 5) ?_
          refine sg 1 (mkE ((30, S p1) :: (s_0.append [(21, B (ltI x1 128))])) [] 43) ?_
          exact nC 31 [] (h194 p1)
      · refine se (mkE (s_0.append [(21, B false)]) [] 43) ?_
        refine pN ?_
        refine pS ?_
        refine gF (.tmp 21) ?_
        refine gK ?_
        refine pN ?_
        refine pS ?_
        refine gS 8 ?_
        refine gS 6 ?_
        refine gR 5 (rg Tryz.f187 5) ?_
        refine sg 1 (mkE ((30, S p1) :: (s_0.append [(21, B false)])) [] 43) ?_
        exact nC 31 [] (h194 p1)
theorem F187 (m : Nat) (hm : 2 ≤ m) (p0 : ByteArray) (p1 : ByteArray) : callA Tryz.prog cfg m 187 [S p0, S p1] = (T187 p0 p1).map S := by
  obtain ⟨q, rfl⟩ : ∃ q, m = q + 1 := ⟨m - 1, by omega⟩
  exact (callA_body (fn := Tryz.f187) (c := body_ Tryz.f187) q _ (by kernel_rfl) (by kernel_rfl) (by kernel_rfl)).trans (B187 _ (fun p0 p1 => F192 q (by omega) p0 p1) (fun p0 p1 => F193 q (by omega) p0 p1) (fun p0 => F194 q (by omega) p0) p0 p1)

theorem F180 (m : Nat) (hm : 1 ≤ m) (p0 : ByteArray) (p1 : Int) : callA Tryz.prog cfg m 180 [S p0, U p1] = (some (idxB p0 p1)).map I := by
  obtain ⟨q, rfl⟩ : ∃ q, m = q + 1 := ⟨m - 1, by omega⟩
  exact (callA_leaf (L := leafIdx) _ _ (by kernel_rfl)).trans (rfl)

noncomputable def T204 (p0 : ByteArray) (p1 : ByteArray) : Option Int := (bif (eqI (lenS p1) 0) then (some 0) else (bif (eqS p1 p0) then (some 0) else (bif (eqI (lenS p1) 1) then ((byteAt p1 0).bind fun x1 => ((some (idxB p0 x1)).bind fun x2 => (some x2))) else (bif (leI (lenS p0) (lenS p1)) then (some (-1)) else none))))
theorem B204 (C : Callee) (h180 : ∀ (p0 : ByteArray) (p1 : Int), C 180 [S p0, U p1] = (some (idxB p0 p1)).map I) (p0 : ByteArray) (p1 : ByteArray) : runs Tryz.prog C (cfg.fn 204) (finFn Tryz.prog (cfg.fn 204).byval Tryz.f204) [] (execA Tryz.prog C (cfg.fn 204) (nr Tryz.f204 []) (frame0 [S p0, S p1] 143 false)) = (T204 p0 p1).map I := by
  unfold T204
  let s_0 : List (Nat × AV) := [(0, S p0), (1, S p1), (5, I (lenS p1))]
  refine gS 1 ?_
  refine gR 0 (rg Tryz.f204 0) ?_
  refine se (mkE [(0, S p0), (1, S p1)] [] 143) ?_
  refine pN ?_
  refine pS ?_
  refine gS 2 ?_
  refine gR 1 (rg Tryz.f204 1) ?_
  refine se (mkE s_0 [] 143) ?_
  refine pN ?_
  refine pS ?_
  refine gS 10 ?_
  refine gB 0 ?_
  refine gS 0 ?_
  refine gR 2 (rg Tryz.f204 2) ?_
  refine sg 3 (mkE ((19, B (eqI (lenS p1) 0)) :: ((18, B (eqI (lenS p1) 0)) :: ((17, I (lenS p1)) :: s_0))) [] 143) ?_
  refine sb 19 (eqI (lenS p1) 0) ?_ ?_
  · refine se (mkE (s_0.append [(16, B true)]) [] 143) ?_
    refine pN ?_
    refine pS ?_
    refine gT (.tmp 16) ?_
    refine gS 0 ?_
    refine gR 3 (rg Tryz.f204 3) ?_
    refine se (mkE [(4, I 0)] [] 143) ?_
    refine pN ?_
    refine pS ?_
    refine gE ?_
    exact pL
  · refine se (mkE (s_0.append [(16, B (eqS p1 p0))]) [] 143) ?_
    refine pN ?_
    refine pS ?_
    refine gC 16 (eqS p1 p0) ?_ ?_
    · refine gS 0 ?_
      refine gR 3 (rg Tryz.f204 3) ?_
      refine se (mkE [(4, I 0)] [] 143) ?_
      refine pN ?_
      refine pS ?_
      refine gE ?_
      exact pL
    · refine gS 0 ?_
      refine gR 4 (rg Tryz.f204 4) ?_
      refine se (mkE (s_0.append [(24, B (eqI (lenS p1) 1))]) [] 143) ?_
      refine pN ?_
      refine pS ?_
      refine gC 24 (eqI (lenS p1) 1) ?_ ?_
      · refine gS 0 ?_
        refine gR 5 (rg Tryz.f204 5) ?_
        refine sg 2 (mkE ((28, S p1) :: ((27, S p0) :: (s_0.append [(24, B (eqI (lenS p1) 1))]))) [] 143) ?_
        refine vo 29 (byteE 9 .i64 p1 0) (fun x1 => ?_)
        refine co 30 [] (h180 p0 x1) (fun x2 => ?_)
        refine se (mkE [(4, I x2)] [] 143) ?_
        refine pN ?_
        refine pS ?_
        refine gE ?_
        exact pL
      · refine gS 0 ?_
        refine gR 6 (rg Tryz.f204 6) ?_
        refine se (mkE (s_0.append [(31, B (leI (lenS p0) (lenS p1)))]) [] 143) ?_
        refine pN ?_
        refine pS ?_
        refine gC 31 (leI (lenS p0) (lenS p1)) ?_ ?_
        · refine gS 0 ?_
          refine gR 7 (rg Tryz.f204 7) ?_
          refine se (mkE [(4, I (-1))] [] 143) ?_
          refine pN ?_
          refine pS ?_
          refine gE ?_
          exact pL
        · refine gS 0 ?_
          refine gR 8 (rg Tryz.f204 8) ?_
          refine sg 1 (mkE ((37, I (lenS p1)) :: (s_0.append [(31, B (leI (lenS p0) (lenS p1)))])) [] 143) ?_
          exact nO
theorem F204 (m : Nat) (hm : 2 ≤ m) (p0 : ByteArray) (p1 : ByteArray) : callA Tryz.prog cfg m 204 [S p0, S p1] = (T204 p0 p1).map I := by
  obtain ⟨q, rfl⟩ : ∃ q, m = q + 1 := ⟨m - 1, by omega⟩
  exact (callA_body (fn := Tryz.f204) (c := body_ Tryz.f204) q _ (by kernel_rfl) (by kernel_rfl) (by kernel_rfl)).trans (B204 _ (fun p0 p1 => F180 q (by omega) p0 p1) p0 p1)

noncomputable def T199 (p0 : ByteArray) (p1 : ByteArray) : Option Int := ((T204 p0 p1).bind fun x1 => (some x1))
theorem B199 (C : Callee) (h204 : ∀ (p0 : ByteArray) (p1 : ByteArray), C 204 [S p0, S p1] = (T204 p0 p1).map I) (p0 : ByteArray) (p1 : ByteArray) : runs Tryz.prog C (cfg.fn 199) (finFn Tryz.prog (cfg.fn 199).byval Tryz.f199) [] (execA Tryz.prog C (cfg.fn 199) (nr Tryz.f199 []) (frame0 [S p0, S p1] 8 false)) = (T199 p0 p1).map I := by
  unfold T199
  refine gS 1 ?_
  refine gR 0 (rg Tryz.f199 0) ?_
  refine se (mkE [(0, S p0), (1, S p1)] [] 8) ?_
  refine pN ?_
  refine pS ?_
  refine gS 0 ?_
  refine gR 1 (rg Tryz.f199 1) ?_
  refine sg 2 (mkE [(6, S p1), (5, S p0), (0, S p0), (1, S p1)] [] 8) ?_
  refine co 7 [] (h204 p0 p1) (fun x1 => ?_)
  refine se (mkE [(4, I x1)] [] 8) ?_
  refine pN ?_
  refine pS ?_
  refine gE ?_
  exact pL
theorem F199 (m : Nat) (hm : 3 ≤ m) (p0 : ByteArray) (p1 : ByteArray) : callA Tryz.prog cfg m 199 [S p0, S p1] = (T199 p0 p1).map I := by
  obtain ⟨q, rfl⟩ : ∃ q, m = q + 1 := ⟨m - 1, by omega⟩
  exact (callA_body (fn := Tryz.f199) (c := body_ Tryz.f199) q _ (by kernel_rfl) (by kernel_rfl) (by kernel_rfl)).trans (B199 _ (fun p0 p1 => F204 q (by omega) p0 p1) p0 p1)

noncomputable def T188 (p0 : ByteArray) (p1 : ByteArray) : Option Bool := ((T199 p0 p1).bind fun x1 => (some (leI 0 x1)))
theorem B188 (C : Callee) (h199 : ∀ (p0 : ByteArray) (p1 : ByteArray), C 199 [S p0, S p1] = (T199 p0 p1).map I) (p0 : ByteArray) (p1 : ByteArray) : runs Tryz.prog C (cfg.fn 188) (finFn Tryz.prog (cfg.fn 188).byval Tryz.f188) [] (execA Tryz.prog C (cfg.fn 188) (nr Tryz.f188 []) (frame0 [S p0, S p1] 9 false)) = (T188 p0 p1).map B := by
  unfold T188
  refine gS 1 ?_
  refine gR 0 (rg Tryz.f188 0) ?_
  refine se (mkE [(0, S p0), (1, S p1)] [] 9) ?_
  refine pN ?_
  refine pS ?_
  refine gS 0 ?_
  refine gR 1 (rg Tryz.f188 1) ?_
  refine sg 2 (mkE [(6, S p1), (5, S p0), (0, S p0), (1, S p1)] [] 9) ?_
  refine co 7 [] (h199 p0 p1) (fun x1 => ?_)
  refine se (mkE [(4, B (leI 0 x1))] [] 9) ?_
  refine pN ?_
  refine pS ?_
  refine gE ?_
  exact pL
theorem F188 (m : Nat) (hm : 4 ≤ m) (p0 : ByteArray) (p1 : ByteArray) : callA Tryz.prog cfg m 188 [S p0, S p1] = (T188 p0 p1).map B := by
  obtain ⟨q, rfl⟩ : ∃ q, m = q + 1 := ⟨m - 1, by omega⟩
  exact (callA_body (fn := Tryz.f188) (c := body_ Tryz.f188) q _ (by kernel_rfl) (by kernel_rfl) (by kernel_rfl)).trans (B188 _ (fun p0 p1 => F199 q (by omega) p0 p1) p0 p1)

noncomputable def L179_2 (p0 : ByteArray) (z0 : Int) : Option (Int ⊕ ((Int × Bool) ⊕ Unit)) := (bif (ltI z0 (lenS p0)) then ((byteAt p0 z0).bind fun x1 => (bif (ltI x1 32) then (some (.inr (.inr ()))) else ((byteAt p0 z0).bind fun x2 => (bif (eqI x2 127) then (some (.inr (.inr ()))) else (some (.inl (addI .i64 z0 1))))))) else (some (.inr (.inl (z0, (ltI z0 (lenS p0)))))))
theorem L179_2_ok (C : Callee) (p0 : ByteArray) (z0 : Int) : runs Tryz.prog C (cfg.fn 179) (finLoop ((cfg.fn 179).keep 2) ((cfg.fn 179).al 2)) [] (execA Tryz.prog C (cfg.fn 179) (nr Tryz.f179 [false, false, true, false, true]) ((fun z0 : Int => (mkE [(0, S p0), (3, I z0)] [] 33)) z0)) = (L179_2 p0 z0).map (Sum.elim (fun z => .inl ((fun z0 : Int => (mkE [(0, S p0), (3, I z0)] [] 33)) z)) (fun x => .inr ((Sum.elim (fun (x : (Int × Bool)) => (.exit 0, (mkE [(0, S p0), (3, I x.1), (7, B x.2)] [] 33))) (fun (x : Unit) => (.ret, (mkE [(2, B false)] [] 33)))) x))) := by
  unfold L179_2
  let s_0 : List (Nat × AV) := [(11, I z0), (10, S p0), (0, S p0), (3, I z0), (7, B (ltI z0 (lenS p0)))]
  refine gS 4 ?_
  refine gS 0 ?_
  refine gR 2 (rg Tryz.f179 2) ?_
  refine se (mkE [(0, S p0), (3, I z0), (7, B (ltI z0 (lenS p0)))] [] 33) ?_
  refine pN ?_
  refine pS ?_
  refine gC 7 (ltI z0 (lenS p0)) ?_ ?_
  · refine gK ?_
    refine pN ?_
    refine pS ?_
    refine gS 3 ?_
    refine gB 1 ?_
    refine gS 0 ?_
    refine gR 4 (rg Tryz.f179 4) ?_
    refine sg 2 (mkE s_0 [] 33) ?_
    refine vo 12 (byteE 9 .i64 p0 z0) (fun x1 => ?_)
    refine sg 5 (mkE ((14, B (ltI x1 32)) :: ((13, B (ltI x1 32)) :: ((12, U x1) :: s_0))) [] 33) ?_
    refine sb 14 (ltI x1 32) ?_ ?_
    · refine se (mkE [(0, S p0), (3, I z0), (19, B true)] [] 33) ?_
      refine pN ?_
      refine pS ?_
      refine gT (.tmp 19) ?_
      refine gS 0 ?_
      refine gR 5 (rg Tryz.f179 5) ?_
      refine se (mkE [(2, B false)] [] 33) ?_
      refine pN ?_
      refine pS ?_
      refine gE ?_
      exact pL
    · refine sg 7 (mkE ((16, I z0) :: ((15, S p0) :: ((14, B false) :: ((14, B (ltI x1 32)) :: ((13, B (ltI x1 32)) :: ((12, U x1) :: s_0)))))) [] 33) ?_
      refine vo 17 (byteE 9 .i64 p0 z0) (fun x2 => ?_)
      refine se (mkE [(0, S p0), (3, I z0), (19, B (eqI x2 127))] [] 33) ?_
      refine pN ?_
      refine pS ?_
      refine gC 19 (eqI x2 127) ?_ ?_
      · refine gS 0 ?_
        refine gR 5 (rg Tryz.f179 5) ?_
        refine se (mkE [(2, B false)] [] 33) ?_
        refine pN ?_
        refine pS ?_
        refine gE ?_
        exact pL
      · refine gK ?_
        refine pB ?_
        refine pN ?_
        refine pS ?_
        refine gR 3 (rg Tryz.f179 3) ?_
        refine se (mkE [(0, S p0), (3, I (addI .i64 z0 1))] [] 33) ?_
        exact pL
  · refine gX 0 ?_
    exact pL
noncomputable def T179 (p0 : ByteArray) : Option Bool := ((iter (L179_2 p0) 0).bind fun y3 => (Sum.elim (fun y3a => ((T186 p0).bind fun x4 => (bif x4 then ((T187 p0 (ByteArray.mk #[32])).bind fun x5 => (bif (eqS x5 p0) then ((T188 p0 (ByteArray.mk #[32, 32])).bind fun x6 => (some (!x6))) else (some false))) else (some false)))) (fun y3b => (some false)) y3))
theorem B179 (C : Callee) (h186 : ∀ (p0 : ByteArray), C 186 [S p0] = (T186 p0).map B) (h187 : ∀ (p0 : ByteArray) (p1 : ByteArray), C 187 [S p0, S p1] = (T187 p0 p1).map S) (h188 : ∀ (p0 : ByteArray) (p1 : ByteArray), C 188 [S p0, S p1] = (T188 p0 p1).map B) (p0 : ByteArray) : runs Tryz.prog C (cfg.fn 179) (finFn Tryz.prog (cfg.fn 179).byval Tryz.f179) [] (execA Tryz.prog C (cfg.fn 179) (nr Tryz.f179 []) (frame0 [S p0] 33 false)) = (T179 p0).map B := by
  unfold T179
  refine gS 1 ?_
  refine gR 0 (rg Tryz.f179 0) ?_
  refine se (mkE [(0, S p0)] [] 33) ?_
  refine pN ?_
  refine pS ?_
  refine gS 6 ?_
  refine gS 2 ?_
  refine gR 1 (rg Tryz.f179 1) ?_
  refine se (mkE [(0, S p0), (3, I 0)] [] 33) ?_
  refine pN ?_
  refine pS ?_
  refine gB 0 ?_
  refine lo [(0, none), (3, none)] [] (L179_2 p0) (fun z0 : Int => (mkE [(0, S p0), (3, I z0)] [] 33)) (Sum.elim (fun (x : (Int × Bool)) => (.exit 0, (mkE [(0, S p0), (3, I x.1), (7, B x.2)] [] 33))) (fun (x : Unit) => (.ret, (mkE [(2, B false)] [] 33)))) 0 (fun z => L179_2_ok C p0 z) ?_
  intro y3
  refine ss y3 (Z := (Sum.elim (fun (x : (Int × Bool)) => (.exit 0, (mkE [(0, S p0), (3, I x.1), (7, B x.2)] [] 33))) (fun (x : Unit) => (.ret, (mkE [(2, B false)] [] 33))))) (fun y3a => ?_) (fun y3b => ?_)
  · refine pH ?_
    refine pN ?_
    refine pS ?_
    refine gS 0 ?_
    refine gR 6 (rg Tryz.f179 6) ?_
    refine sg 1 (mkE [(20, S p0), (0, S p0), (3, I y3a.1), (7, B y3a.2)] [] 33) ?_
    refine co 21 [] (h186 p0) (fun x4 => ?_)
    refine sg 3 (mkE [(22, B x4), (21, B x4), (20, S p0), (0, S p0), (3, I y3a.1), (7, B y3a.2)] [] 33) ?_
    refine sb 22 x4 ?_ ?_
    · refine sg 4 (mkE [(23, S p0), (22, B true), (22, B x4), (21, B x4), (20, S p0), (0, S p0), (3, I y3a.1), (7, B y3a.2)] [] 33) ?_
      refine co 24 [] (h187 p0 (ByteArray.mk #[32])) (fun x5 => ?_)
      refine sg 9 (mkE [(28, B (eqS x5 p0)), (27, B (eqS x5 p0)), (26, B (eqS x5 p0)), (25, S p0), (24, S x5), (23, S p0), (22, B true), (22, B x4), (21, B x4), (20, S p0), (0, S p0), (3, I y3a.1), (7, B y3a.2)] [] 33) ?_
      refine sb 28 (eqS x5 p0) ?_ ?_
      · refine sg 10 (mkE [(29, S p0), (28, B true), (28, B (eqS x5 p0)), (27, B (eqS x5 p0)), (26, B (eqS x5 p0)), (25, S p0), (24, S x5), (23, S p0), (22, B true), (22, B x4), (21, B x4), (20, S p0), (0, S p0), (3, I y3a.1), (7, B y3a.2)] [] 33) ?_
        refine co 30 [] (h188 p0 (ByteArray.mk #[32, 32])) (fun x6 => ?_)
        refine se (mkE [(2, B (!x6))] [] 33) ?_
        refine pN ?_
        refine pS ?_
        refine gE ?_
        exact pL
      · refine se (mkE [(2, B false)] [] 33) ?_
        refine pN ?_
        refine pS ?_
        refine gE ?_
        exact pL
    · refine se (mkE [(2, B false)] [] 33) ?_
      refine pN ?_
      refine pS ?_
      refine gE ?_
      exact pL
  · exact pL
theorem F179 (m : Nat) (hm : 5 ≤ m) (p0 : ByteArray) : callA Tryz.prog cfg m 179 [S p0] = (T179 p0).map B := by
  obtain ⟨q, rfl⟩ : ∃ q, m = q + 1 := ⟨m - 1, by omega⟩
  exact (callA_body (fn := Tryz.f179) (c := body_ Tryz.f179) q _ (by kernel_rfl) (by kernel_rfl) (by kernel_rfl)).trans (B179 _ (fun p0 => F186 q (by omega) p0) (fun p0 p1 => F187 q (by omega) p0 p1) (fun p0 p1 => F188 q (by omega) p0 p1) p0)

noncomputable def L158_13 (p0 : S138) (z0 : Int) : Option (Int ⊕ ((Int × Bool) ⊕ Int)) := (bif (ltI z0 (lenL p0.f7)) then ((listAt p0.f7 z0).bind fun x8 => ((T63 x8).bind fun x9 => (bif (neI x9 0) then (some (.inr (.inr x9))) else (some (.inl (addI .i64 z0 1)))))) else (some (.inr (.inl (z0, (ltI z0 (lenL p0.f7)))))))
theorem L158_13_ok (C : Callee) (h63 : ∀ (p0 : S28), C 63 [a28 p0] = (T63 p0).map I) (p0 : S138) (z0 : Int) : runs Tryz.prog C (cfg.fn 158) (finLoop ((cfg.fn 158).keep 13) ((cfg.fn 158).al 13)) [] (execA Tryz.prog C (cfg.fn 158) (nr Tryz.f158 [false, false, true, false, true, true, true, true, true, true]) ((fun z0 : Int => (mkE [(1, .ba 8 0), (51, LL a28 p0.f7), (52, I (lenL p0.f7)), (53, I z0)] [(8, .box [S p0.f0, S p0.f1, I p0.f2, LL S p0.f3, I p0.f4, I p0.f5, I p0.f6, LL a28 p0.f7, S p0.f8] false)] 92)) z0)) = (L158_13 p0 z0).map (Sum.elim (fun z => .inl ((fun z0 : Int => (mkE [(1, .ba 8 0), (51, LL a28 p0.f7), (52, I (lenL p0.f7)), (53, I z0)] [(8, .box [S p0.f0, S p0.f1, I p0.f2, LL S p0.f3, I p0.f4, I p0.f5, I p0.f6, LL a28 p0.f7, S p0.f8] false)] 92)) z)) (fun x => .inr ((Sum.elim (fun (x : (Int × Bool)) => (.exit 0, (mkE [(1, .ba 8 0), (51, LL a28 p0.f7), (52, I (lenL p0.f7)), (53, I x.1), (54, B x.2)] [(8, .box [S p0.f0, S p0.f1, I p0.f2, LL S p0.f3, I p0.f4, I p0.f5, I p0.f6, LL a28 p0.f7, S p0.f8] false)] 92))) (fun (x : Int) => (.ret, (mkE [(2, I x)] [] 92)))) x))) := by
  unfold L158_13
  let s_0 : List (Nat × AV) := [(51, LL a28 p0.f7), (52, I (lenL p0.f7)), (53, I z0)]
  let o_0 : List (Nat × AObj) := [(8, .box [S p0.f0, S p0.f1, I p0.f2, LL S p0.f3, I p0.f4, I p0.f5, I p0.f6, LL a28 p0.f7, S p0.f8] false)]
  refine gS 0 ?_
  refine gR 13 (rg Tryz.f158 13) ?_
  refine se (mkE ((1, .ba 8 0) :: (s_0.append [(54, B (ltI z0 (lenL p0.f7)))])) o_0 92) ?_
  refine pN ?_
  refine pS ?_
  refine gS 14 ?_
  refine gC 54 (ltI z0 (lenL p0.f7)) ?_ ?_
  · refine gK ?_
    refine pN ?_
    refine pS ?_
    refine gS 18 ?_
    refine gB 1 ?_
    refine gS 15 ?_
    refine gR 14 (rg Tryz.f158 14) ?_
    refine vo 55 (addrE 26 29 4 a28 .i64 p0.f7 z0) (fun x8 => ?_)
    refine se (mkE ((1, .ba 8 0) :: ((5, .ba 40 0) :: s_0)) (o_0.append [(40, .box [I x8.f0, I x8.f1, I x8.f2, I x8.f3] false)]) 92) ?_
    refine pN ?_
    refine pS ?_
    refine gS 16 ?_
    refine gR 15 (rg Tryz.f158 15) ?_
    refine sg 1 (mkE ((57, a28 x8) :: ((1, .ba 8 0) :: ((5, .ba 40 0) :: s_0))) (o_0.append [(40, .box [I x8.f0, I x8.f1, I x8.f2, I x8.f3] false)]) 92) ?_
    refine co 58 [] (h63 x8) (fun x9 => ?_)
    refine se (mkE ((1, .ba 8 0) :: ((6, I x9) :: s_0)) o_0 92) ?_
    refine pN ?_
    refine pS ?_
    refine gS 0 ?_
    refine gR 16 (rg Tryz.f158 16) ?_
    refine se (mkE ((1, .ba 8 0) :: ((6, I x9) :: (s_0.append [(60, B (neI x9 0))]))) o_0 92) ?_
    refine pN ?_
    refine pS ?_
    refine gC 60 (neI x9 0) ?_ ?_
    · refine gS 0 ?_
      refine gR 17 (rg Tryz.f158 17) ?_
      refine se (mkE [(2, I x9)] [] 92) ?_
      refine pN ?_
      refine pS ?_
      refine gE ?_
      exact pL
    · refine gK ?_
      refine pB ?_
      refine pN ?_
      refine pS ?_
      refine gR 18 (rg Tryz.f158 18) ?_
      refine se (mkE [(1, .ba 8 0), (51, LL a28 p0.f7), (52, I (lenL p0.f7)), (53, I (addI .i64 z0 1))] o_0 92) ?_
      exact pL
  · refine gX 0 ?_
    exact pL
noncomputable def T158 (p0 : S138) : Option Int := ((T97 p0.f0).bind fun x1 => (bif (!x1) then (some 5) else ((T97 p0.f1).bind fun x2 => (bif (!x2) then (some 5) else ((T70 p0.f2 1 3).bind fun x3 => (bif x3 then (some 4) else ((T178 p0).bind fun x4 => (bif (neI x4 0) then (some x4) else ((T92 p0.f4).bind fun x5 => (bif (!x5) then (some 1) else ((T70 p0.f5 (addI .i64 p0.f4 1) (addI .i64 p0.f4 2592000000)).bind fun x6 => (bif x6 then (some 1) else ((T70 p0.f6 1 9).bind fun x7 => (bif x7 then (some 1) else (bif (ltI 20 (lenL p0.f7)) then (some 2) else ((iter (L158_13 p0) 0).bind fun y10 => (Sum.elim (fun y10a => (bif ((eqI p0.f2 3) != (eqI (lenL p0.f7) 0)) then (some 3) else (bif (ltI 500 (lenS p0.f8)) then (some 2) else ((T179 p0.f8).bind fun x11 => (bif (!x11) then (some 3) else (bif (eqS p0.f8 (ByteArray.mk #[])) then (bif (!(eqI p0.f2 3)) then (some 3) else (some 0)) else (some 0))))))) (fun y10b => (some y10b)) y10)))))))))))))))))
theorem B158 (C : Callee) (h178 : ∀ (p0 : S138), C 178 [a138 p0] = (T178 p0).map I) (h179 : ∀ (p0 : ByteArray), C 179 [S p0] = (T179 p0).map B) (h63 : ∀ (p0 : S28), C 63 [a28 p0] = (T63 p0).map I) (h70 : ∀ (p0 : Int) (p1 : Int) (p2 : Int), C 70 [I p0, I p1, I p2] = (T70 p0 p1 p2).map B) (h92 : ∀ (p0 : Int), C 92 [I p0] = (T92 p0).map B) (h97 : ∀ (p0 : ByteArray), C 97 [S p0] = (T97 p0).map B) (p0 : S138) : runs Tryz.prog C (cfg.fn 158) (finFn Tryz.prog (cfg.fn 158).byval Tryz.f158) [] (execA Tryz.prog C (cfg.fn 158) (nr Tryz.f158 []) (frame0 [a138 p0] 92 false)) = (T158 p0).map I := by
  unfold T158
  let s_0 : List (Nat × AV) := [(38, I (addI .i64 p0.f4 2592000000)), (37, I p0.f4), (36, .ba 8 4), (35, I (addI .i64 p0.f4 1)), (34, I p0.f4), (33, .ba 8 4), (32, I p0.f5), (31, .ba 8 5), (30, B false)]
  let s_1 : List (Nat × AV) := [(80, S p0.f8), (79, .ba 8 8), (1, .ba 8 0), (7, B (eqI p0.f2 3)), (73, B (ltI 500 (lenS p0.f8)))]
  let s_2 : List (Nat × AV) := [(1, .ba 8 0)]
  let o_0 : List (Nat × AObj) := [(8, .box [S p0.f0, S p0.f1, I p0.f2, LL S p0.f3, I p0.f4, I p0.f5, I p0.f6, LL a28 p0.f7, S p0.f8] false)]
  refine gS 1 ?_
  refine gR 0 (rg Tryz.f158 0) ?_
  refine se (mkE s_2 o_0 92) ?_
  refine pN ?_
  refine pS ?_
  refine gS 3 ?_
  refine gS 0 ?_
  refine gR 1 (rg Tryz.f158 1) ?_
  refine sg 2 (mkE ((9, S p0.f0) :: ((8, .ba 8 0) :: s_2)) o_0 92) ?_
  refine co 10 [] (h97 p0.f0) (fun x1 => ?_)
  refine sg 5 (mkE ((12, B (!x1)) :: ((11, B (!x1)) :: ((10, B x1) :: ((9, S p0.f0) :: ((8, .ba 8 0) :: s_2))))) o_0 92) ?_
  refine sb 12 (!x1) ?_ ?_
  · refine se (mkE (s_2.append [(17, B true)]) o_0 92) ?_
    refine pN ?_
    refine pS ?_
    refine gT (.tmp 17) ?_
    refine gS 0 ?_
    refine gR 2 (rg Tryz.f158 2) ?_
    refine se (mkE [(2, I 5)] [] 92) ?_
    refine pN ?_
    refine pS ?_
    refine gE ?_
    exact pL
  · refine sg 7 (mkE ((14, S p0.f1) :: ((13, .ba 8 1) :: ((12, B false) :: ((12, B (!x1)) :: ((11, B (!x1)) :: ((10, B x1) :: ((9, S p0.f0) :: ((8, .ba 8 0) :: s_2)))))))) o_0 92) ?_
    refine co 15 [] (h97 p0.f1) (fun x2 => ?_)
    refine se (mkE (s_2.append [(17, B (!x2))]) o_0 92) ?_
    refine pN ?_
    refine pS ?_
    refine gC 17 (!x2) ?_ ?_
    · refine gS 0 ?_
      refine gR 2 (rg Tryz.f158 2) ?_
      refine se (mkE [(2, I 5)] [] 92) ?_
      refine pN ?_
      refine pS ?_
      refine gE ?_
      exact pL
    · refine gK ?_
      refine pN ?_
      refine pS ?_
      refine gS 5 ?_
      refine gS 0 ?_
      refine gR 3 (rg Tryz.f158 3) ?_
      refine sg 2 (mkE ((19, I p0.f2) :: ((18, .ba 8 2) :: (s_2.append [(17, B (!x2))]))) o_0 92) ?_
      refine co 20 [] (h70 p0.f2 1 3) (fun x3 => ?_)
      refine se (mkE (s_2.append [(20, B x3)]) o_0 92) ?_
      refine pN ?_
      refine pS ?_
      refine gC 20 x3 ?_ ?_
      · refine gS 0 ?_
        refine gR 4 (rg Tryz.f158 4) ?_
        refine se (mkE [(2, I 4)] [] 92) ?_
        refine pN ?_
        refine pS ?_
        refine gE ?_
        exact pL
      · refine gK ?_
        refine pN ?_
        refine pS ?_
        refine gS 8 ?_
        refine gS 6 ?_
        refine gR 5 (rg Tryz.f158 5) ?_
        refine sg 1 (mkE ((21, a138 p0) :: (s_2.append [(20, B x3)])) o_0 92) ?_
        refine co 22 [] (h178 p0) (fun x4 => ?_)
        refine se (mkE (s_2.append [(3, I x4)]) o_0 92) ?_
        refine pN ?_
        refine pS ?_
        refine gS 0 ?_
        refine gR 6 (rg Tryz.f158 6) ?_
        refine se (mkE (s_2.append ((3, I x4) :: [(24, B (neI x4 0))])) o_0 92) ?_
        refine pN ?_
        refine pS ?_
        refine gC 24 (neI x4 0) ?_ ?_
        · refine gS 0 ?_
          refine gR 7 (rg Tryz.f158 7) ?_
          refine se (mkE [(2, I x4)] [] 92) ?_
          refine pN ?_
          refine pS ?_
          refine gE ?_
          exact pL
        · refine gK ?_
          refine pN ?_
          refine pS ?_
          refine gS 10 ?_
          refine gS 0 ?_
          refine gR 8 (rg Tryz.f158 8) ?_
          refine sg 2 (mkE ((27, I p0.f4) :: ((26, .ba 8 4) :: (s_2.append ((3, I x4) :: [(24, B (neI x4 0))])))) o_0 92) ?_
          refine co 28 [] (h92 p0.f4) (fun x5 => ?_)
          refine sg 5 (mkE ((30, B (!x5)) :: ((29, B (!x5)) :: ((28, B x5) :: ((27, I p0.f4) :: ((26, .ba 8 4) :: (s_2.append ((3, I x4) :: [(24, B (neI x4 0))]))))))) o_0 92) ?_
          refine sb 30 (!x5) ?_ ?_
          · refine se (mkE (s_2.append [(45, B true)]) o_0 92) ?_
            refine pN ?_
            refine pS ?_
            refine gT (.tmp 45) ?_
            refine gS 0 ?_
            refine gR 9 (rg Tryz.f158 9) ?_
            refine se (mkE [(2, I 1)] [] 92) ?_
            refine pN ?_
            refine pS ?_
            refine gE ?_
            exact pL
          · refine sg 13 (mkE (s_0.append ((30, B (!x5)) :: ((29, B (!x5)) :: ((28, B x5) :: ((27, I p0.f4) :: ((26, .ba 8 4) :: (s_2.append ((3, I x4) :: [(24, B (neI x4 0))])))))))) o_0 92) ?_
            refine co 39 [] (h70 p0.f5 (addI .i64 p0.f4 1) (addI .i64 p0.f4 2592000000)) (fun x6 => ?_)
            refine sg 16 (mkE ((41, B x6) :: ((40, B x6) :: ((39, B x6) :: (s_0.append ((30, B (!x5)) :: ((29, B (!x5)) :: ((28, B x5) :: ((27, I p0.f4) :: ((26, .ba 8 4) :: (s_2.append ((3, I x4) :: [(24, B (neI x4 0))]))))))))))) o_0 92) ?_
            refine sb 41 x6 ?_ ?_
            · refine se (mkE (s_2.append [(45, B true)]) o_0 92) ?_
              refine pN ?_
              refine pS ?_
              refine gT (.tmp 45) ?_
              refine gS 0 ?_
              refine gR 9 (rg Tryz.f158 9) ?_
              refine se (mkE [(2, I 1)] [] 92) ?_
              refine pN ?_
              refine pS ?_
              refine gE ?_
              exact pL
            · refine sg 18 (mkE ((43, I p0.f6) :: ((42, .ba 8 6) :: ((41, B false) :: ((41, B x6) :: ((40, B x6) :: ((39, B x6) :: (s_0.append ((30, B (!x5)) :: ((29, B (!x5)) :: ((28, B x5) :: ((27, I p0.f4) :: ((26, .ba 8 4) :: (s_2.append ((3, I x4) :: [(24, B (neI x4 0))])))))))))))))) o_0 92) ?_
              refine co 44 [] (h70 p0.f6 1 9) (fun x7 => ?_)
              refine se (mkE (s_2.append [(45, B x7)]) o_0 92) ?_
              refine pN ?_
              refine pS ?_
              refine gC 45 x7 ?_ ?_
              · refine gS 0 ?_
                refine gR 9 (rg Tryz.f158 9) ?_
                refine se (mkE [(2, I 1)] [] 92) ?_
                refine pN ?_
                refine pS ?_
                refine gE ?_
                exact pL
              · refine gK ?_
                refine pN ?_
                refine pS ?_
                refine gS 12 ?_
                refine gS 0 ?_
                refine gR 10 (rg Tryz.f158 10) ?_
                refine sg 2 (mkE ((47, LL a28 p0.f7) :: ((46, .ba 8 7) :: (s_2.append [(45, B x7)]))) o_0 92) ?_
                refine eo 48 (I (lenL p0.f7)) (lenE 26 a28 p0.f7) ?_
                refine se (mkE (s_2.append [(49, B (ltI 20 (lenL p0.f7)))]) o_0 92) ?_
                refine pN ?_
                refine pS ?_
                refine gC 49 (ltI 20 (lenL p0.f7)) ?_ ?_
                · refine gS 0 ?_
                  refine gR 11 (rg Tryz.f158 11) ?_
                  refine se (mkE [(2, I 2)] [] 92) ?_
                  refine pN ?_
                  refine pS ?_
                  refine gE ?_
                  exact pL
                · refine gK ?_
                  refine pN ?_
                  refine pS ?_
                  refine gS 19 ?_
                  refine gS 13 ?_
                  refine gR 12 (rg Tryz.f158 12) ?_
                  refine sg 2 (mkE ((51, LL a28 p0.f7) :: ((50, .ba 8 7) :: (s_2.append [(49, B (ltI 20 (lenL p0.f7)))]))) o_0 92) ?_
                  refine eo 52 (I (lenL p0.f7)) (lenE 26 a28 p0.f7) ?_
                  refine se (mkE (s_2.append ((51, LL a28 p0.f7) :: ((52, I (lenL p0.f7)) :: [(53, I 0)]))) o_0 92) ?_
                  refine pN ?_
                  refine pS ?_
                  refine gB 0 ?_
                  refine lo [(1, none), (51, none), (52, none), (53, none)] [] (L158_13 p0) (fun z0 : Int => (mkE (s_2.append ((51, LL a28 p0.f7) :: ((52, I (lenL p0.f7)) :: [(53, I z0)]))) o_0 92)) (Sum.elim (fun (x : (Int × Bool)) => (.exit 0, (mkE (s_2.append ((51, LL a28 p0.f7) :: ((52, I (lenL p0.f7)) :: ((53, I x.1) :: [(54, B x.2)])))) o_0 92))) (fun (x : Int) => (.ret, (mkE [(2, I x)] [] 92)))) 0 (fun z => L158_13_ok C h63 p0 z) ?_
                  intro y10
                  refine ss y10 (Z := (Sum.elim (fun (x : (Int × Bool)) => (.exit 0, (mkE (s_2.append ((51, LL a28 p0.f7) :: ((52, I (lenL p0.f7)) :: ((53, I x.1) :: [(54, B x.2)])))) o_0 92))) (fun (x : Int) => (.ret, (mkE [(2, I x)] [] 92))))) (fun y10a => ?_) (fun y10b => ?_)
                  · refine pH ?_
                    refine pN ?_
                    refine pS ?_
                    refine gS 20 ?_
                    refine gR 19 (rg Tryz.f158 19) ?_
                    refine se (mkE (s_2.append [(7, B (eqI p0.f2 3))]) o_0 92) ?_
                    refine pN ?_
                    refine pS ?_
                    refine gS 26 ?_
                    refine gB 2 ?_
                    refine gS 0 ?_
                    refine gR 20 (rg Tryz.f158 20) ?_
                    refine sg 3 (mkE ((69, LL a28 p0.f7) :: ((68, .ba 8 7) :: ((67, B (eqI p0.f2 3)) :: (s_2.append [(7, B (eqI p0.f2 3))])))) o_0 92) ?_
                    refine eo 70 (I (lenL p0.f7)) (lenE 26 a28 p0.f7) ?_
                    refine se (mkE (s_2.append ((7, B (eqI p0.f2 3)) :: [(66, B ((eqI p0.f2 3) != (eqI (lenL p0.f7) 0)))])) o_0 92) ?_
                    refine pN ?_
                    refine pS ?_
                    refine gC 66 ((eqI p0.f2 3) != (eqI (lenL p0.f7) 0)) ?_ ?_
                    · refine gS 0 ?_
                      refine gR 21 (rg Tryz.f158 21) ?_
                      refine se (mkE [(2, I 3)] [] 92) ?_
                      refine pN ?_
                      refine pS ?_
                      refine gE ?_
                      exact pL
                    · refine gS 0 ?_
                      refine gR 22 (rg Tryz.f158 22) ?_
                      refine se (mkE (s_2.append ((7, B (eqI p0.f2 3)) :: [(73, B (ltI 500 (lenS p0.f8)))])) o_0 92) ?_
                      refine pN ?_
                      refine pS ?_
                      refine gC 73 (ltI 500 (lenS p0.f8)) ?_ ?_
                      · refine gS 0 ?_
                        refine gR 23 (rg Tryz.f158 23) ?_
                        refine se (mkE [(2, I 2)] [] 92) ?_
                        refine pN ?_
                        refine pS ?_
                        refine gE ?_
                        exact pL
                      · refine gS 0 ?_
                        refine gR 24 (rg Tryz.f158 24) ?_
                        refine sg 2 (mkE s_1 o_0 92) ?_
                        refine co 81 [] (h179 p0.f8) (fun x11 => ?_)
                        refine sg 5 (mkE ((83, B (!x11)) :: ((82, B (!x11)) :: ((81, B x11) :: s_1))) o_0 92) ?_
                        refine sb 83 (!x11) ?_ ?_
                        · refine se (mkE [(78, B true)] [] 92) ?_
                          refine pN ?_
                          refine pS ?_
                          refine gT (.tmp 78) ?_
                          refine gS 0 ?_
                          refine gR 25 (rg Tryz.f158 25) ?_
                          refine se (mkE [(2, I 3)] [] 92) ?_
                          refine pN ?_
                          refine pS ?_
                          refine gE ?_
                          exact pL
                        · refine sg 9 (mkE ((87, B (eqS p0.f8 (ByteArray.mk #[]))) :: ((86, B (eqS p0.f8 (ByteArray.mk #[]))) :: ((85, S p0.f8) :: ((84, .ba 8 8) :: ((83, B false) :: ((83, B (!x11)) :: ((82, B (!x11)) :: ((81, B x11) :: s_1)))))))) o_0 92) ?_
                          refine sb 87 (eqS p0.f8 (ByteArray.mk #[])) ?_ ?_
                          · refine se (mkE [(78, B (!(eqI p0.f2 3)))] [] 92) ?_
                            refine pN ?_
                            refine pS ?_
                            refine gC 78 (!(eqI p0.f2 3)) ?_ ?_
                            · refine gS 0 ?_
                              refine gR 25 (rg Tryz.f158 25) ?_
                              refine se (mkE [(2, I 3)] [] 92) ?_
                              refine pN ?_
                              refine pS ?_
                              refine gE ?_
                              exact pL
                            · refine gK ?_
                              refine pB ?_
                              refine pN ?_
                              refine pS ?_
                              refine gS 0 ?_
                              refine gR 26 (rg Tryz.f158 26) ?_
                              refine se (mkE [(2, I 0)] [] 92) ?_
                              refine pN ?_
                              refine pS ?_
                              refine gE ?_
                              exact pL
                          · refine se (mkE [(78, B false)] [] 92) ?_
                            refine pN ?_
                            refine pS ?_
                            refine gF (.tmp 78) ?_
                            refine gK ?_
                            refine pB ?_
                            refine pN ?_
                            refine pS ?_
                            refine gS 0 ?_
                            refine gR 26 (rg Tryz.f158 26) ?_
                            refine se (mkE [(2, I 0)] [] 92) ?_
                            refine pN ?_
                            refine pS ?_
                            refine gE ?_
                            exact pL
                  · exact pL
theorem F158 (m : Nat) (hm : 6 ≤ m) (p0 : S138) : callA Tryz.prog cfg m 158 [a138 p0] = (T158 p0).map I := by
  obtain ⟨q, rfl⟩ : ∃ q, m = q + 1 := ⟨m - 1, by omega⟩
  exact (callA_body (fn := Tryz.f158) (c := body_ Tryz.f158) q _ (by kernel_rfl) (by kernel_rfl) (by kernel_rfl)).trans (B158 _ (fun p0 => F178 q (by omega) p0) (fun p0 => F179 q (by omega) p0) (fun p0 => F63 q (by omega) p0) (fun p0 p1 p2 => F70 q (by omega) p0 p1 p2) (fun p0 => F92 q (by omega) p0) (fun p0 => F97 q (by omega) p0) p0)

noncomputable def T159 (p0 : S138) (p1 : S138) : Option Int := ((T142 p0.f4 p1.f4).bind fun x1 => ((T141 p0.f0 p1.f0).bind fun x2 => ((T140 ([x1, x2] : List Int)).bind fun x3 => (some x3))))
theorem B159 (C : Callee) (h140 : ∀ (p0 : (List Int)), C 140 [LL I p0] = (T140 p0).map I) (h141 : ∀ (p0 : ByteArray) (p1 : ByteArray), C 141 [S p0, S p1] = (T141 p0 p1).map I) (h142 : ∀ (p0 : Int) (p1 : Int), C 142 [I p0, I p1] = (T142 p0 p1).map I) (p0 : S138) (p1 : S138) : runs Tryz.prog C (cfg.fn 159) (finFn Tryz.prog (cfg.fn 159).byval Tryz.f159) [] (execA Tryz.prog C (cfg.fn 159) (nr Tryz.f159 []) (frame0 [a138 p0, a138 p1] 17 false)) = (T159 p0 p1).map I := by
  unfold T159
  let d_0 : List (Option Nat × REff) := [(some 5, qe (.ba 16 4)), (some 6, qe (I p0.f4)), (some 7, qe (.ba 24 4)), (some 8, qe (I p1.f4))]
  let d_1 : List (Option Nat × REff) := [(some 10, qe (.ba 16 0)), (some 11, qe (S p0.f0)), (some 12, qe (.ba 24 0)), (some 13, qe (S p1.f0))]
  let s_0 : List (Nat × AV) := [(8, I p1.f4), (7, .ba 24 4), (6, I p0.f4), (5, .ba 16 4), (2, .ba 16 0), (3, .ba 24 0)]
  let o_0 : List (Nat × AObj) := [(16, .box [S p0.f0, S p0.f1, I p0.f2, LL S p0.f3, I p0.f4, I p0.f5, I p0.f6, LL a28 p0.f7, S p0.f8] false), (24, .box [S p1.f0, S p1.f1, I p1.f2, LL S p1.f3, I p1.f4, I p1.f5, I p1.f6, LL a28 p1.f7, S p1.f8] false)]
  refine gS 1 ?_
  refine gR 0 (rg Tryz.f159 0) ?_
  refine se (mkE [(2, .ba 16 0), (3, .ba 24 0)] o_0 17) ?_
  refine pN ?_
  refine pS ?_
  refine gS 0 ?_
  refine gD 1 13 (rg Tryz.f159 1) [0, 1, 2, 3, 4, 5, 6, 7, 8, 9, 10, 11, 12] ?_
  refine dg 4 d_0 ?_
  refine dc 9 [] (mkE s_0 o_0 17) (h142 p0.f4 p1.f4) (fun x1 => ?_)
  refine dg 9 (d_0.append ((some 9, qe (I x1)) :: d_1)) ?_
  refine dc 14 [] (mkE ((13, S p1.f0) :: ((12, .ba 24 0) :: ((11, S p0.f0) :: ((10, .ba 16 0) :: ((9, I x1) :: s_0))))) o_0 17) (h141 p0.f0 p1.f0) (fun x2 => ?_)
  refine dg 11 (d_0.append ((some 9, qe (I x1)) :: (d_1.append ((some 14, qe (I x2)) :: [(some 15, { e := { val := .own 120 0, news := [(120, RR 3 1 I ([x1, x2] : List Int) 0 false)] } })])))) ?_
  refine dc 16 [120] (mkE ((15, .own 120 0) :: ((14, I x2) :: ((13, S p1.f0) :: ((12, .ba 24 0) :: ((11, S p0.f0) :: ((10, .ba 16 0) :: ((9, I x1) :: s_0))))))) ((120, RR 3 1 I ([x1, x2] : List Int) 0 false) :: o_0) 17) (h140 ([x1, x2] : List Int)) (fun x3 => ?_)
  refine dg 13 (d_0.append ((some 9, qe (I x1)) :: (d_1.append ((some 14, qe (I x2)) :: ((some 15, { e := { val := .own 120 0, news := [(120, RR 3 1 I ([x1, x2] : List Int) 0 false)] } }) :: ((some 16, qe (I x3)) :: [(some 4, qe (I x3))])))))) ?_
  refine de (mkE ((4, I x3) :: ((16, I x3) :: ((15, .own 120 0) :: ((14, I x2) :: ((13, S p1.f0) :: ((12, .ba 24 0) :: ((11, S p0.f0) :: ((10, .ba 16 0) :: ((9, I x1) :: s_0))))))))) ((120, RR 3 1 I ([x1, x2] : List Int) 0 false) :: o_0) 17) ?_
  refine se (mkE [(4, I x3)] [] 17) ?_
  refine pN ?_
  refine pS ?_
  refine gE ?_
  exact pL
theorem F159 (m : Nat) (hm : 3 ≤ m) (p0 : S138) (p1 : S138) : callA Tryz.prog cfg m 159 [a138 p0, a138 p1] = (T159 p0 p1).map I := by
  obtain ⟨q, rfl⟩ : ∃ q, m = q + 1 := ⟨m - 1, by omega⟩
  exact (callA_body (fn := Tryz.f159) (c := body_ Tryz.f159) q _ (by kernel_rfl) (by kernel_rfl) (by kernel_rfl)).trans (B159 _ (fun p0 => F140 q (by omega) p0) (fun p0 p1 => F141 q (by omega) p0 p1) (fun p0 p1 => F142 q (by omega) p0 p1) p0 p1)

noncomputable def L133_4 (p0 : (List S138)) (z0 : Int) : Option (Int ⊕ ((Int × Bool) ⊕ Int)) := (bif (ltI z0 (lenL p0)) then ((listAt p0 z0).bind fun x1 => ((T158 x1).bind fun x2 => (bif (neI x2 0) then (some (.inr (.inr x2))) else (bif (ltI 0 z0) then ((listAt p0 (subI .i64 z0 1)).bind fun x3 => ((T159 x3 x1).bind fun x4 => (bif (leI 0 x4) then (some (.inr (.inr 7))) else (some (.inl (addI .i64 z0 1)))))) else (some (.inl (addI .i64 z0 1))))))) else (some (.inr (.inl (z0, (ltI z0 (lenL p0)))))))
theorem L133_4_ok (C : Callee) (h158 : ∀ (p0 : S138), C 158 [a138 p0] = (T158 p0).map I) (h159 : ∀ (p0 : S138) (p1 : S138), C 159 [a138 p0, a138 p1] = (T159 p0 p1).map I) (p0 : (List S138)) (z0 : Int) : runs Tryz.prog C (cfg.fn 133) (finLoop ((cfg.fn 133).keep 4) ((cfg.fn 133).al 4)) [] (execA Tryz.prog C (cfg.fn 133) (nr Tryz.f133 [false, false, true, false, true, true]) ((fun z0 : Int => (mkE [(0, LL a138 p0), (12, LL a138 p0), (13, I (lenL p0)), (14, I z0)] [] 52)) z0)) = (L133_4 p0 z0).map (Sum.elim (fun z => .inl ((fun z0 : Int => (mkE [(0, LL a138 p0), (12, LL a138 p0), (13, I (lenL p0)), (14, I z0)] [] 52)) z)) (fun x => .inr ((Sum.elim (fun (x : (Int × Bool)) => (.exit 0, (mkE [(0, LL a138 p0), (12, LL a138 p0), (13, I (lenL p0)), (14, I x.1), (15, B x.2)] [] 52))) (fun (x : Int) => (.ret, (mkE [(2, I x)] [] 52)))) x))) := by
  unfold L133_4
  let d_0 : List (Option Nat × REff) := [(some 24, qe (I z0)), (some 25, qe (B (ltI 0 z0))), (some 26, qe (B true)), (some 27, qe (LL a138 p0)), (some 28, qe (I z0)), (some 29, qe (I (subI .i64 z0 1)))]
  let s_0 : List (Nat × AV) := [(12, LL a138 p0), (13, I (lenL p0)), (14, I z0)]
  let s_1 : List (Nat × AV) := [(29, I (subI .i64 z0 1)), (28, I z0), (27, LL a138 p0), (26, B true), (25, B (ltI 0 z0)), (24, I z0), (0, LL a138 p0), (3, I z0), (4, .ba 32 0)]
  let s_2 : List (Nat × AV) := [(0, LL a138 p0), (3, I z0), (4, .ba 32 0)]
  refine gS 0 ?_
  refine gR 4 (rg Tryz.f133 4) ?_
  refine se (mkE ((0, LL a138 p0) :: (s_0.append [(15, B (ltI z0 (lenL p0)))])) [] 52) ?_
  refine pN ?_
  refine pS ?_
  refine gS 5 ?_
  refine gC 15 (ltI z0 (lenL p0)) ?_ ?_
  · refine gK ?_
    refine pN ?_
    refine pS ?_
    refine gS 11 ?_
    refine gB 1 ?_
    refine gS 6 ?_
    refine gR 5 (rg Tryz.f133 5) ?_
    refine sg 1 (mkE ((16, I z0) :: ((0, LL a138 p0) :: (s_0.append [(15, B (ltI z0 (lenL p0)))]))) [] 52) ?_
    refine vo 17 (addrE 191 139 9 a138 .i64 p0 z0) (fun x1 => ?_)
    refine se (mkE (s_2.append s_0) [(32, .box [S x1.f0, S x1.f1, I x1.f2, LL S x1.f3, I x1.f4, I x1.f5, I x1.f6, LL a28 x1.f7, S x1.f8] false)] 52) ?_
    refine pN ?_
    refine pS ?_
    refine gS 9 ?_
    refine gS 7 ?_
    refine gR 6 (rg Tryz.f133 6) ?_
    refine sg 1 (mkE ((19, a138 x1) :: (s_2.append s_0)) [(32, .box [S x1.f0, S x1.f1, I x1.f2, LL S x1.f3, I x1.f4, I x1.f5, I x1.f6, LL a28 x1.f7, S x1.f8] false)] 52) ?_
    refine co 20 [] (h158 x1) (fun x2 => ?_)
    refine se (mkE (s_2.append ((5, I x2) :: s_0)) [(32, .box [S x1.f0, S x1.f1, I x1.f2, LL S x1.f3, I x1.f4, I x1.f5, I x1.f6, LL a28 x1.f7, S x1.f8] false)] 52) ?_
    refine pN ?_
    refine pS ?_
    refine gS 0 ?_
    refine gR 7 (rg Tryz.f133 7) ?_
    refine se (mkE (s_2.append ((5, I x2) :: (s_0.append [(22, B (neI x2 0))]))) [(32, .box [S x1.f0, S x1.f1, I x1.f2, LL S x1.f3, I x1.f4, I x1.f5, I x1.f6, LL a28 x1.f7, S x1.f8] false)] 52) ?_
    refine pN ?_
    refine pS ?_
    refine gC 22 (neI x2 0) ?_ ?_
    · refine gS 0 ?_
      refine gR 8 (rg Tryz.f133 8) ?_
      refine se (mkE [(2, I x2)] [] 52) ?_
      refine pN ?_
      refine pS ?_
      refine gE ?_
      exact pL
    · refine gK ?_
      refine pN ?_
      refine pS ?_
      refine gS 0 ?_
      refine gD 9 12 (rg Tryz.f133 9) [0, 1, 2, 3, 4, 5, 6, 7, 8, 9, 10, 11] ?_
      refine dg 3 [(some 24, qe (I z0)), (some 25, qe (B (ltI 0 z0))), (some 26, qe (B (ltI 0 z0)))] ?_
      refine db 2 26 (ltI 0 z0) ?_ ?_
      · refine dg 6 d_0 ?_
        refine dv 30 (mkE (s_1.append ((5, I x2) :: (s_0.append [(22, B (neI x2 0))]))) [(32, .box [S x1.f0, S x1.f1, I x1.f2, LL S x1.f3, I x1.f4, I x1.f5, I x1.f6, LL a28 x1.f7, S x1.f8] false)] 52) (addrE 191 139 9 a138 .i64 p0 (subI .i64 z0 1)) (fun x3 => ?_)
        refine dg 9 (d_0.append ((some 30, qe (.ia [S x3.f0, S x3.f1, I x3.f2, LL S x3.f3, I x3.f4, I x3.f5, I x3.f6, LL a28 x3.f7, S x3.f8] 0)) :: ((some 31, qe (a138 x3)) :: [(some 32, qe (a138 x1))]))) ?_
        refine dc 33 [] (mkE ((32, a138 x1) :: ((31, a138 x3) :: ((30, .ia [S x3.f0, S x3.f1, I x3.f2, LL S x3.f3, I x3.f4, I x3.f5, I x3.f6, LL a28 x3.f7, S x3.f8] 0) :: (s_1.append ((5, I x2) :: (s_0.append [(22, B (neI x2 0))])))))) [(32, .box [S x1.f0, S x1.f1, I x1.f2, LL S x1.f3, I x1.f4, I x1.f5, I x1.f6, LL a28 x1.f7, S x1.f8] false)] 52) (h159 x3 x1) (fun x4 => ?_)
        refine dg 12 (d_0.append ((some 30, qe (.ia [S x3.f0, S x3.f1, I x3.f2, LL S x3.f3, I x3.f4, I x3.f5, I x3.f6, LL a28 x3.f7, S x3.f8] 0)) :: ((some 31, qe (a138 x3)) :: ((some 32, qe (a138 x1)) :: ((some 33, qe (I x4)) :: ((some 34, qe (B (leI 0 x4))) :: [(some 35, qe (B (leI 0 x4)))])))))) ?_
        refine de (mkE ((35, B (leI 0 x4)) :: ((34, B (leI 0 x4)) :: ((33, I x4) :: ((32, a138 x1) :: ((31, a138 x3) :: ((30, .ia [S x3.f0, S x3.f1, I x3.f2, LL S x3.f3, I x3.f4, I x3.f5, I x3.f6, LL a28 x3.f7, S x3.f8] 0) :: (s_1.append ((5, I x2) :: (s_0.append [(22, B (neI x2 0))]))))))))) [(32, .box [S x1.f0, S x1.f1, I x1.f2, LL S x1.f3, I x1.f4, I x1.f5, I x1.f6, LL a28 x1.f7, S x1.f8] false)] 52) ?_
        refine se (mkE ((0, LL a138 p0) :: (s_0.append [(35, B (leI 0 x4))])) [] 52) ?_
        refine pN ?_
        refine pS ?_
        refine gC 35 (leI 0 x4) ?_ ?_
        · refine gS 0 ?_
          refine gR 10 (rg Tryz.f133 10) ?_
          refine se (mkE [(2, I 7)] [] 52) ?_
          refine pN ?_
          refine pS ?_
          refine gE ?_
          exact pL
        · refine gK ?_
          refine pB ?_
          refine pN ?_
          refine pS ?_
          refine gR 11 (rg Tryz.f133 11) ?_
          refine se (mkE [(0, LL a138 p0), (12, LL a138 p0), (13, I (lenL p0)), (14, I (addI .i64 z0 1))] [] 52) ?_
          exact pL
      · refine dg 12 [(some 24, qe (I z0)), (some 25, qe (B (ltI 0 z0))), (some 26, qe (B false)), (some 27, qe (.und)), (some 28, qe (.und)), (some 29, qe (.und)), (some 30, qe (.und)), (some 31, qe (.und)), (some 32, qe (.und)), (some 33, qe (.und)), (some 34, qe (.und)), (some 35, qe (B false))] ?_
        refine de (mkE ((35, B false) :: ((34, .und) :: ((33, .und) :: ((32, .und) :: ((31, .und) :: ((30, .und) :: ((29, .und) :: ((28, .und) :: ((27, .und) :: ((26, B false) :: ((25, B (ltI 0 z0)) :: ((24, I z0) :: (s_2.append ((5, I x2) :: (s_0.append [(22, B (neI x2 0))]))))))))))))))) [(32, .box [S x1.f0, S x1.f1, I x1.f2, LL S x1.f3, I x1.f4, I x1.f5, I x1.f6, LL a28 x1.f7, S x1.f8] false)] 52) ?_
        refine se (mkE ((0, LL a138 p0) :: (s_0.append [(35, B false)])) [] 52) ?_
        refine pN ?_
        refine pS ?_
        refine gF (.tmp 35) ?_
        refine gK ?_
        refine pB ?_
        refine pN ?_
        refine pS ?_
        refine gR 11 (rg Tryz.f133 11) ?_
        refine se (mkE [(0, LL a138 p0), (12, LL a138 p0), (13, I (lenL p0)), (14, I (addI .i64 z0 1))] [] 52) ?_
        exact pL
  · refine gX 0 ?_
    exact pL
noncomputable def L133_14 (p0 : (List S138)) (z1 : ((List (ByteArray × Bool)) × Int)) : Option (((List (ByteArray × Bool)) × Int) ⊕ ((Int × Bool × (List (ByteArray × Bool))) ⊕ Unit)) := (bif (ltI z1.2 (lenL p0)) then ((listAt p0 z1.2).bind fun x6 => (bif ((mgetB eqB z1.1 x6.f0).getD false) then (some (.inr (.inr ()))) else ((some (msetB eqB z1.1 x6.f0 true)).bind fun x7 => (some (.inl (x7, (addI .i64 z1.2 1))))))) else (some (.inr (.inl (z1.2, (ltI z1.2 (lenL p0)), z1.1)))))
theorem L133_14_ok (C : Callee) (p0 : (List S138)) (z1 : ((List (ByteArray × Bool)) × Int)) : runs Tryz.prog C (cfg.fn 133) (finLoop ((cfg.fn 133).keep 14) ((cfg.fn 133).al 14)) [] (execA Tryz.prog C (cfg.fn 133) (nr Tryz.f133 [false, false, true, false, true, true, true, true]) ((fun z1 : ((List (ByteArray × Bool)) × Int) => (mkE [(6, .mr 48), (38, LL a138 p0), (39, I (lenL p0)), (40, I z1.2)] [(48, MP S B z1.1 false)] 52)) z1)) = (L133_14 p0 z1).map (Sum.elim (fun z => .inl ((fun z1 : ((List (ByteArray × Bool)) × Int) => (mkE [(6, .mr 48), (38, LL a138 p0), (39, I (lenL p0)), (40, I z1.2)] [(48, MP S B z1.1 false)] 52)) z)) (fun x => .inr ((Sum.elim (fun (x : (Int × Bool × (List (ByteArray × Bool)))) => (.exit 2, (mkE [(6, .mr 48), (38, LL a138 p0), (39, I (lenL p0)), (40, I x.1), (41, B x.2.1)] [(48, MP S B x.2.2 false)] 52))) (fun (x : Unit) => (.ret, (mkE [(2, I 6)] [] 52)))) x))) := by
  unfold L133_14
  let s_0 : List (Nat × AV) := [(38, LL a138 p0), (39, I (lenL p0)), (40, I z1.2)]
  refine gS 0 ?_
  refine gR 14 (rg Tryz.f133 14) ?_
  refine se (mkE ((6, .mr 48) :: (s_0.append [(41, B (ltI z1.2 (lenL p0)))])) [(48, MP S B z1.1 false)] 52) ?_
  refine pN ?_
  refine pS ?_
  refine gS 15 ?_
  refine gC 41 (ltI z1.2 (lenL p0)) ?_ ?_
  · refine gK ?_
    refine pN ?_
    refine pS ?_
    refine gS 19 ?_
    refine gB 3 ?_
    refine gS 16 ?_
    refine gR 15 (rg Tryz.f133 15) ?_
    refine vo 42 (addrE 191 139 9 a138 .i64 p0 z1.2) (fun x6 => ?_)
    refine se (mkE ((6, .mr 48) :: ((8, .ba 64 0) :: s_0)) [(48, MP S B z1.1 false), (64, .box [S x6.f0, S x6.f1, I x6.f2, LL S x6.f3, I x6.f4, I x6.f5, I x6.f6, LL a28 x6.f7, S x6.f8] false)] 52) ?_
    refine pN ?_
    refine pS ?_
    refine gS 18 ?_
    refine gS 0 ?_
    refine gR 16 (rg Tryz.f133 16) ?_
    refine sg 3 (mkE ((46, S x6.f0) :: ((45, .ba 64 0) :: ((44, .mr 48) :: ((6, .mr 48) :: ((8, .ba 64 0) :: s_0))))) [(48, MP S B z1.1 false), (64, .box [S x6.f0, S x6.f1, I x6.f2, LL S x6.f3, I x6.f4, I x6.f5, I x6.f6, LL a28 x6.f7, S x6.f8] false)] 52) ?_
    refine eo 47 (B ((mgetB eqB z1.1 x6.f0).getD false)) (mapE 233 9 4 48 false S B eqB z1.1 x6.f0 false sameS) ?_
    refine se (mkE ((6, .mr 48) :: ((8, .ba 64 0) :: (s_0.append [(47, B ((mgetB eqB z1.1 x6.f0).getD false))]))) [(48, MP S B z1.1 false), (64, .box [S x6.f0, S x6.f1, I x6.f2, LL S x6.f3, I x6.f4, I x6.f5, I x6.f6, LL a28 x6.f7, S x6.f8] false)] 52) ?_
    refine pN ?_
    refine pS ?_
    refine gC 47 ((mgetB eqB z1.1 x6.f0).getD false) ?_ ?_
    · refine gS 0 ?_
      refine gR 17 (rg Tryz.f133 17) ?_
      refine se (mkE [(2, I 6)] [] 52) ?_
      refine pN ?_
      refine pS ?_
      refine gE ?_
      exact pL
    · refine gK ?_
      refine pN ?_
      refine pS ?_
      refine gR 18 (rg Tryz.f133 18) ?_
      refine sg 3 (mkE ((50, S x6.f0) :: ((49, .ba 64 0) :: ((48, .mr 48) :: ((6, .mr 48) :: ((8, .ba 64 0) :: (s_0.append [(47, B ((mgetB eqB z1.1 x6.f0).getD false))])))))) [(48, MP S B z1.1 false), (64, .box [S x6.f0, S x6.f1, I x6.f2, LL S x6.f3, I x6.f4, I x6.f5, I x6.f6, LL a28 x6.f7, S x6.f8] false)] 52) ?_
      refine mo none (mapO_ 233 9 4 48 S B eqB z1.1 x6.f0 (B true) true [] sameS) (fun x7 => ?_)
      refine se (mkE ((6, .mr 48) :: s_0) [(48, MP S B x7 false)] 52) ?_
      refine pB ?_
      refine pN ?_
      refine pS ?_
      refine gR 19 (rg Tryz.f133 19) ?_
      refine se (mkE [(6, .mr 48), (38, LL a138 p0), (39, I (lenL p0)), (40, I (addI .i64 z1.2 1))] [(48, MP S B x7 false)] 52) ?_
      exact pL
  · refine gX 2 ?_
    exact pL
noncomputable def T133 (p0 : (List S138)) : Option Int := (bif (ltI 300 (lenL p0)) then (some 2) else ((iter (L133_4 p0) 0).bind fun y5 => (Sum.elim (fun y5a => ((iter (L133_14 p0) (([] : (List (ByteArray × Bool))), 0)).bind fun y8 => (Sum.elim (fun y8a => (some 0)) (fun y8b => (some 6)) y8))) (fun y5b => (some y5b)) y5)))
theorem B133 (C : Callee) (h158 : ∀ (p0 : S138), C 158 [a138 p0] = (T158 p0).map I) (h159 : ∀ (p0 : S138) (p1 : S138), C 159 [a138 p0, a138 p1] = (T159 p0 p1).map I) (p0 : (List S138)) : runs Tryz.prog C (cfg.fn 133) (finFn Tryz.prog (cfg.fn 133).byval Tryz.f133) [] (execA Tryz.prog C (cfg.fn 133) (nr Tryz.f133 []) (frame0 [LL a138 p0] 52 false)) = (T133 p0).map I := by
  unfold T133
  let s_0 : List (Nat × AV) := [(0, LL a138 p0), (12, LL a138 p0), (13, I (lenL p0))]
  refine gS 1 ?_
  refine gR 0 (rg Tryz.f133 0) ?_
  refine se (mkE [(0, LL a138 p0)] [] 52) ?_
  refine pN ?_
  refine pS ?_
  refine gS 3 ?_
  refine gS 0 ?_
  refine gR 1 (rg Tryz.f133 1) ?_
  refine sg 1 (mkE [(9, LL a138 p0), (0, LL a138 p0)] [] 52) ?_
  refine eo 10 (I (lenL p0)) (lenE 191 a138 p0) ?_
  refine se (mkE [(0, LL a138 p0), (11, B (ltI 300 (lenL p0)))] [] 52) ?_
  refine pN ?_
  refine pS ?_
  refine gC 11 (ltI 300 (lenL p0)) ?_ ?_
  · refine gS 0 ?_
    refine gR 2 (rg Tryz.f133 2) ?_
    refine se (mkE [(2, I 2)] [] 52) ?_
    refine pN ?_
    refine pS ?_
    refine gE ?_
    exact pL
  · refine gK ?_
    refine pN ?_
    refine pS ?_
    refine gS 12 ?_
    refine gS 4 ?_
    refine gR 3 (rg Tryz.f133 3) ?_
    refine sg 1 (mkE [(12, LL a138 p0), (0, LL a138 p0), (11, B (ltI 300 (lenL p0)))] [] 52) ?_
    refine eo 13 (I (lenL p0)) (lenE 191 a138 p0) ?_
    refine se (mkE (s_0.append [(14, I 0)]) [] 52) ?_
    refine pN ?_
    refine pS ?_
    refine gB 0 ?_
    refine lo [(0, none), (12, none), (13, none), (14, none)] [] (L133_4 p0) (fun z0 : Int => (mkE (s_0.append [(14, I z0)]) [] 52)) (Sum.elim (fun (x : (Int × Bool)) => (.exit 0, (mkE (s_0.append ((14, I x.1) :: [(15, B x.2)])) [] 52))) (fun (x : Int) => (.ret, (mkE [(2, I x)] [] 52)))) 0 (fun z => L133_4_ok C h158 h159 p0 z) ?_
    intro y5
    refine ss y5 (Z := (Sum.elim (fun (x : (Int × Bool)) => (.exit 0, (mkE (s_0.append ((14, I x.1) :: [(15, B x.2)])) [] 52))) (fun (x : Int) => (.ret, (mkE [(2, I x)] [] 52))))) (fun y5a => ?_) (fun y5b => ?_)
    · refine pH ?_
      refine pN ?_
      refine pS ?_
      refine gS 13 ?_
      refine gR 12 (rg Tryz.f133 12) ?_
      refine se (mkE [(0, LL a138 p0), (6, .mr 296)] [(296, MP S B ([] : (List (ByteArray × Bool))) false)] 52) ?_
      refine pN ?_
      refine pS ?_
      refine gS 20 ?_
      refine gS 14 ?_
      refine gR 13 (rg Tryz.f133 13) ?_
      refine sg 1 (mkE [(38, LL a138 p0), (0, LL a138 p0), (6, .mr 296)] [(296, MP S B ([] : (List (ByteArray × Bool))) false)] 52) ?_
      refine eo 39 (I (lenL p0)) (lenE 191 a138 p0) ?_
      refine se (mkE [(6, .mr 296), (38, LL a138 p0), (39, I (lenL p0)), (40, I 0)] [(296, MP S B ([] : (List (ByteArray × Bool))) false)] 52) ?_
      refine pN ?_
      refine pS ?_
      refine gB 2 ?_
      refine lo [(6, none), (38, none), (39, none), (40, none)] [] (L133_14 p0) (fun z1 : ((List (ByteArray × Bool)) × Int) => (mkE [(6, .mr 48), (38, LL a138 p0), (39, I (lenL p0)), (40, I z1.2)] [(48, MP S B z1.1 false)] 52)) (Sum.elim (fun (x : (Int × Bool × (List (ByteArray × Bool)))) => (.exit 2, (mkE [(6, .mr 48), (38, LL a138 p0), (39, I (lenL p0)), (40, I x.1), (41, B x.2.1)] [(48, MP S B x.2.2 false)] 52))) (fun (x : Unit) => (.ret, (mkE [(2, I 6)] [] 52)))) (([] : (List (ByteArray × Bool))), 0) (fun z => L133_14_ok C p0 z) ?_
      intro y8
      refine ss y8 (Z := (Sum.elim (fun (x : (Int × Bool × (List (ByteArray × Bool)))) => (.exit 2, (mkE [(6, .mr 48), (38, LL a138 p0), (39, I (lenL p0)), (40, I x.1), (41, B x.2.1)] [(48, MP S B x.2.2 false)] 52))) (fun (x : Unit) => (.ret, (mkE [(2, I 6)] [] 52))))) (fun y8a => ?_) (fun y8b => ?_)
      · refine pH ?_
        refine pN ?_
        refine pS ?_
        refine gS 0 ?_
        refine gR 20 (rg Tryz.f133 20) ?_
        refine se (mkE [(2, I 0)] [] 52) ?_
        refine pN ?_
        refine pS ?_
        refine gE ?_
        exact pL
      · exact pL
    · exact pL
theorem F133 (m : Nat) (hm : 7 ≤ m) (p0 : (List S138)) : callA Tryz.prog cfg m 133 [LL a138 p0] = (T133 p0).map I := by
  obtain ⟨q, rfl⟩ : ∃ q, m = q + 1 := ⟨m - 1, by omega⟩
  exact (callA_body (fn := Tryz.f133) (c := body_ Tryz.f133) q _ (by kernel_rfl) (by kernel_rfl) (by kernel_rfl)).trans (B133 _ (fun p0 => F158 q (by omega) p0) (fun p0 p1 => F159 q (by omega) p0 p1) p0)

noncomputable def L134_4 (p0 : (List S142)) (z0 : Int) : Option (Int ⊕ ((Int × Bool) ⊕ Int)) := (bif (ltI z0 (lenL p0)) then ((listAt p0 z0).bind fun x1 => ((T97 x1.f0).bind fun x2 => (bif (!x2) then (some (.inr (.inr 5))) else ((T70 x1.f1 (-100000) 100000).bind fun x3 => (bif x3 then (some (.inr (.inr 1))) else ((T70 x1.f2 (-100000) 100000).bind fun x4 => (bif x4 then (some (.inr (.inr 1))) else (bif (ltI 0 z0) then ((listAt p0 (subI .i64 z0 1)).bind fun x5 => (bif (ltS x1.f0 x5.f0 || eqS x1.f0 x5.f0) then (some (.inr (.inr 7))) else (some (.inl (addI .i64 z0 1))))) else (some (.inl (addI .i64 z0 1))))))))))) else (some (.inr (.inl (z0, (ltI z0 (lenL p0)))))))
theorem L134_4_ok (C : Callee) (h70 : ∀ (p0 : Int) (p1 : Int) (p2 : Int), C 70 [I p0, I p1, I p2] = (T70 p0 p1 p2).map B) (h97 : ∀ (p0 : ByteArray), C 97 [S p0] = (T97 p0).map B) (p0 : (List S142)) (z0 : Int) : runs Tryz.prog C (cfg.fn 134) (finLoop ((cfg.fn 134).keep 4) ((cfg.fn 134).al 4)) [] (execA Tryz.prog C (cfg.fn 134) (nr Tryz.f134 [false, false, true, false, true, true]) ((fun z0 : Int => (mkE [(0, LL a142 p0), (8, LL a142 p0), (9, I (lenL p0)), (10, I z0)] [] 44)) z0)) = (L134_4 p0 z0).map (Sum.elim (fun z => .inl ((fun z0 : Int => (mkE [(0, LL a142 p0), (8, LL a142 p0), (9, I (lenL p0)), (10, I z0)] [] 44)) z)) (fun x => .inr ((Sum.elim (fun (x : (Int × Bool)) => (.exit 0, (mkE [(0, LL a142 p0), (8, LL a142 p0), (9, I (lenL p0)), (10, I x.1), (11, B x.2)] [] 44))) (fun (x : Int) => (.ret, (mkE [(2, I x)] [] 44)))) x))) := by
  unfold L134_4
  let d_0 : List (Option Nat × REff) := [(some 30, qe (I z0)), (some 31, qe (B (ltI 0 z0)))]
  let s_0 : List (Nat × AV) := [(0, LL a142 p0), (3, I z0), (4, .ba 32 0), (8, LL a142 p0), (9, I (lenL p0)), (10, I z0)]
  let s_1 : List (Nat × AV) := [(0, LL a142 p0), (8, LL a142 p0), (9, I (lenL p0))]
  refine gS 0 ?_
  refine gR 4 (rg Tryz.f134 4) ?_
  refine se (mkE (s_1.append ((10, I z0) :: [(11, B (ltI z0 (lenL p0)))])) [] 44) ?_
  refine pN ?_
  refine pS ?_
  refine gS 5 ?_
  refine gC 11 (ltI z0 (lenL p0)) ?_ ?_
  · refine gK ?_
    refine pN ?_
    refine pS ?_
    refine gS 12 ?_
    refine gB 1 ?_
    refine gS 6 ?_
    refine gR 5 (rg Tryz.f134 5) ?_
    refine sg 1 (mkE ((12, I z0) :: (s_1.append ((10, I z0) :: [(11, B (ltI z0 (lenL p0)))]))) [] 44) ?_
    refine vo 13 (addrE 192 143 3 a142 .i64 p0 z0) (fun x1 => ?_)
    refine se (mkE s_0 [(32, .box [S x1.f0, I x1.f1, I x1.f2] false)] 44) ?_
    refine pN ?_
    refine pS ?_
    refine gB 2 ?_
    refine gS 0 ?_
    refine gR 6 (rg Tryz.f134 6) ?_
    refine sg 2 (mkE ((17, S x1.f0) :: ((16, .ba 32 0) :: s_0)) [(32, .box [S x1.f0, I x1.f1, I x1.f2] false)] 44) ?_
    refine co 18 [] (h97 x1.f0) (fun x2 => ?_)
    refine se (mkE (s_0.append [(15, B (!x2))]) [(32, .box [S x1.f0, I x1.f1, I x1.f2] false)] 44) ?_
    refine pN ?_
    refine pS ?_
    refine gC 15 (!x2) ?_ ?_
    · refine gS 0 ?_
      refine gR 7 (rg Tryz.f134 7) ?_
      refine se (mkE [(2, I 5)] [] 44) ?_
      refine pN ?_
      refine pS ?_
      refine gE ?_
      exact pL
    · refine gS 0 ?_
      refine gR 8 (rg Tryz.f134 8) ?_
      refine sg 2 (mkE ((22, I x1.f1) :: ((21, .ba 32 1) :: (s_0.append [(15, B (!x2))]))) [(32, .box [S x1.f0, I x1.f1, I x1.f2] false)] 44) ?_
      refine co 23 [] (h70 x1.f1 (-100000) 100000) (fun x3 => ?_)
      refine sg 4 (mkE ((24, B x3) :: ((23, B x3) :: ((22, I x1.f1) :: ((21, .ba 32 1) :: (s_0.append [(15, B (!x2))]))))) [(32, .box [S x1.f0, I x1.f1, I x1.f2] false)] 44) ?_
      refine sb 24 x3 ?_ ?_
      · refine se (mkE (s_0.append [(20, B true)]) [(32, .box [S x1.f0, I x1.f1, I x1.f2] false)] 44) ?_
        refine pN ?_
        refine pS ?_
        refine gT (.tmp 20) ?_
        refine gS 0 ?_
        refine gR 9 (rg Tryz.f134 9) ?_
        refine se (mkE [(2, I 1)] [] 44) ?_
        refine pN ?_
        refine pS ?_
        refine gE ?_
        exact pL
      · refine sg 6 (mkE ((26, I x1.f2) :: ((25, .ba 32 2) :: ((24, B false) :: ((24, B x3) :: ((23, B x3) :: ((22, I x1.f1) :: ((21, .ba 32 1) :: (s_0.append [(15, B (!x2))])))))))) [(32, .box [S x1.f0, I x1.f1, I x1.f2] false)] 44) ?_
        refine co 27 [] (h70 x1.f2 (-100000) 100000) (fun x4 => ?_)
        refine se (mkE (s_0.append [(20, B x4)]) [(32, .box [S x1.f0, I x1.f1, I x1.f2] false)] 44) ?_
        refine pN ?_
        refine pS ?_
        refine gC 20 x4 ?_ ?_
        · refine gS 0 ?_
          refine gR 9 (rg Tryz.f134 9) ?_
          refine se (mkE [(2, I 1)] [] 44) ?_
          refine pN ?_
          refine pS ?_
          refine gE ?_
          exact pL
        · refine gS 0 ?_
          refine gD 10 14 (rg Tryz.f134 10) [0, 1, 2, 3, 4, 5, 6, 7, 8, 9, 10, 11, 12, 13] ?_
          refine dg 3 (d_0.append [(some 32, qe (B (ltI 0 z0)))]) ?_
          refine db 2 32 (ltI 0 z0) ?_ ?_
          · refine dg 8 (d_0.append ((some 32, qe (B true)) :: ((some 33, qe (.ba 32 0)) :: ((some 34, qe (S x1.f0)) :: ((some 35, qe (LL a142 p0)) :: ((some 36, qe (I z0)) :: [(some 37, qe (I (subI .i64 z0 1)))])))))) ?_
            refine dv 38 (mkE ((37, I (subI .i64 z0 1)) :: ((36, I z0) :: ((35, LL a142 p0) :: ((32, B true) :: ((31, B (ltI 0 z0)) :: ((30, I z0) :: (s_0.append [(20, B x4)]))))))) [(32, .box [S x1.f0, I x1.f1, I x1.f2] false)] 44) (addrE 192 143 3 a142 .i64 p0 (subI .i64 z0 1)) (fun x5 => ?_)
            refine dg 14 (d_0.append ((some 32, qe (B true)) :: ((some 33, qe (.ba 32 0)) :: ((some 34, qe (S x1.f0)) :: ((some 35, qe (LL a142 p0)) :: ((some 36, qe (I z0)) :: ((some 37, qe (I (subI .i64 z0 1))) :: ((some 38, qe (.ia [S x5.f0, I x5.f1, I x5.f2] 0)) :: ((some 39, qe (.ia [S x5.f0, I x5.f1, I x5.f2] 0)) :: ((some 40, qe (S x5.f0)) :: ((some 41, qe (B (ltS x1.f0 x5.f0 || eqS x1.f0 x5.f0))) :: ((some 42, qe (B (ltS x1.f0 x5.f0 || eqS x1.f0 x5.f0))) :: [(some 29, qe (B (ltS x1.f0 x5.f0 || eqS x1.f0 x5.f0)))])))))))))))) ?_
            refine de (mkE ((29, B (ltS x1.f0 x5.f0 || eqS x1.f0 x5.f0)) :: ((42, B (ltS x1.f0 x5.f0 || eqS x1.f0 x5.f0)) :: ((41, B (ltS x1.f0 x5.f0 || eqS x1.f0 x5.f0)) :: ((40, S x5.f0) :: ((39, .ia [S x5.f0, I x5.f1, I x5.f2] 0) :: ((38, .ia [S x5.f0, I x5.f1, I x5.f2] 0) :: ((37, I (subI .i64 z0 1)) :: ((36, I z0) :: ((35, LL a142 p0) :: ((34, S x1.f0) :: ((33, .ba 32 0) :: ((32, B true) :: ((31, B (ltI 0 z0)) :: ((30, I z0) :: (s_0.append [(20, B x4)]))))))))))))))) [(32, .box [S x1.f0, I x1.f1, I x1.f2] false)] 44) ?_
            refine se (mkE (s_1.append ((10, I z0) :: [(29, B (ltS x1.f0 x5.f0 || eqS x1.f0 x5.f0))])) [] 44) ?_
            refine pN ?_
            refine pS ?_
            refine gC 29 (ltS x1.f0 x5.f0 || eqS x1.f0 x5.f0) ?_ ?_
            · refine gS 0 ?_
              refine gR 11 (rg Tryz.f134 11) ?_
              refine se (mkE [(2, I 7)] [] 44) ?_
              refine pN ?_
              refine pS ?_
              refine gE ?_
              exact pL
            · refine gK ?_
              refine pB ?_
              refine pB ?_
              refine pN ?_
              refine pS ?_
              refine gR 12 (rg Tryz.f134 12) ?_
              refine se (mkE (s_1.append [(10, I (addI .i64 z0 1))]) [] 44) ?_
              exact pL
          · refine dg 14 (d_0.append ((some 32, qe (B false)) :: ((some 33, qe (.und)) :: ((some 34, qe (.und)) :: ((some 35, qe (.und)) :: ((some 36, qe (.und)) :: ((some 37, qe (.und)) :: ((some 38, qe (.und)) :: ((some 39, qe (.und)) :: ((some 40, qe (.und)) :: ((some 41, qe (.und)) :: ((some 42, qe (B false)) :: [(some 29, qe (B false))])))))))))))) ?_
            refine de (mkE ((29, B false) :: ((42, B false) :: ((41, .und) :: ((40, .und) :: ((39, .und) :: ((38, .und) :: ((37, .und) :: ((36, .und) :: ((35, .und) :: ((34, .und) :: ((33, .und) :: ((32, B false) :: ((31, B (ltI 0 z0)) :: ((30, I z0) :: (s_0.append [(20, B x4)]))))))))))))))) [(32, .box [S x1.f0, I x1.f1, I x1.f2] false)] 44) ?_
            refine se (mkE (s_1.append ((10, I z0) :: [(29, B false)])) [] 44) ?_
            refine pN ?_
            refine pS ?_
            refine gF (.tmp 29) ?_
            refine gK ?_
            refine pB ?_
            refine pB ?_
            refine pN ?_
            refine pS ?_
            refine gR 12 (rg Tryz.f134 12) ?_
            refine se (mkE (s_1.append [(10, I (addI .i64 z0 1))]) [] 44) ?_
            exact pL
  · refine gX 0 ?_
    exact pL
noncomputable def T134 (p0 : (List S142)) : Option Int := (bif (ltI 500 (lenL p0)) then (some 2) else ((iter (L134_4 p0) 0).bind fun y6 => (Sum.elim (fun y6a => (some 0)) (fun y6b => (some y6b)) y6)))
theorem B134 (C : Callee) (h70 : ∀ (p0 : Int) (p1 : Int) (p2 : Int), C 70 [I p0, I p1, I p2] = (T70 p0 p1 p2).map B) (h97 : ∀ (p0 : ByteArray), C 97 [S p0] = (T97 p0).map B) (p0 : (List S142)) : runs Tryz.prog C (cfg.fn 134) (finFn Tryz.prog (cfg.fn 134).byval Tryz.f134) [] (execA Tryz.prog C (cfg.fn 134) (nr Tryz.f134 []) (frame0 [LL a142 p0] 44 false)) = (T134 p0).map I := by
  unfold T134
  let s_0 : List (Nat × AV) := [(0, LL a142 p0), (8, LL a142 p0), (9, I (lenL p0))]
  refine gS 1 ?_
  refine gR 0 (rg Tryz.f134 0) ?_
  refine se (mkE [(0, LL a142 p0)] [] 44) ?_
  refine pN ?_
  refine pS ?_
  refine gS 3 ?_
  refine gS 0 ?_
  refine gR 1 (rg Tryz.f134 1) ?_
  refine sg 1 (mkE [(5, LL a142 p0), (0, LL a142 p0)] [] 44) ?_
  refine eo 6 (I (lenL p0)) (lenE 192 a142 p0) ?_
  refine se (mkE [(0, LL a142 p0), (7, B (ltI 500 (lenL p0)))] [] 44) ?_
  refine pN ?_
  refine pS ?_
  refine gC 7 (ltI 500 (lenL p0)) ?_ ?_
  · refine gS 0 ?_
    refine gR 2 (rg Tryz.f134 2) ?_
    refine se (mkE [(2, I 2)] [] 44) ?_
    refine pN ?_
    refine pS ?_
    refine gE ?_
    exact pL
  · refine gK ?_
    refine pN ?_
    refine pS ?_
    refine gS 13 ?_
    refine gS 4 ?_
    refine gR 3 (rg Tryz.f134 3) ?_
    refine sg 1 (mkE [(8, LL a142 p0), (0, LL a142 p0), (7, B (ltI 500 (lenL p0)))] [] 44) ?_
    refine eo 9 (I (lenL p0)) (lenE 192 a142 p0) ?_
    refine se (mkE (s_0.append [(10, I 0)]) [] 44) ?_
    refine pN ?_
    refine pS ?_
    refine gB 0 ?_
    refine lo [(0, none), (8, none), (9, none), (10, none)] [] (L134_4 p0) (fun z0 : Int => (mkE (s_0.append [(10, I z0)]) [] 44)) (Sum.elim (fun (x : (Int × Bool)) => (.exit 0, (mkE (s_0.append ((10, I x.1) :: [(11, B x.2)])) [] 44))) (fun (x : Int) => (.ret, (mkE [(2, I x)] [] 44)))) 0 (fun z => L134_4_ok C h70 h97 p0 z) ?_
    intro y6
    refine ss y6 (Z := (Sum.elim (fun (x : (Int × Bool)) => (.exit 0, (mkE (s_0.append ((10, I x.1) :: [(11, B x.2)])) [] 44))) (fun (x : Int) => (.ret, (mkE [(2, I x)] [] 44))))) (fun y6a => ?_) (fun y6b => ?_)
    · refine pH ?_
      refine pN ?_
      refine pS ?_
      refine gS 0 ?_
      refine gR 13 (rg Tryz.f134 13) ?_
      refine se (mkE [(2, I 0)] [] 44) ?_
      refine pN ?_
      refine pS ?_
      refine gE ?_
      exact pL
    · exact pL
theorem F134 (m : Nat) (hm : 2 ≤ m) (p0 : (List S142)) : callA Tryz.prog cfg m 134 [LL a142 p0] = (T134 p0).map I := by
  obtain ⟨q, rfl⟩ : ∃ q, m = q + 1 := ⟨m - 1, by omega⟩
  exact (callA_body (fn := Tryz.f134) (c := body_ Tryz.f134) q _ (by kernel_rfl) (by kernel_rfl) (by kernel_rfl)).trans (B134 _ (fun p0 p1 p2 => F70 q (by omega) p0 p1 p2) (fun p0 => F97 q (by omega) p0) p0)

noncomputable def T113 (p0 : (List S138)) (p1 : (List S142)) : Option Int := ((T133 p0).bind fun x1 => (bif (neI x1 0) then (some x1) else ((T134 p1).bind fun x2 => (some x2))))
theorem B113 (C : Callee) (h133 : ∀ (p0 : (List S138)), C 133 [LL a138 p0] = (T133 p0).map I) (h134 : ∀ (p0 : (List S142)), C 134 [LL a142 p0] = (T134 p0).map I) (p0 : (List S138)) (p1 : (List S142)) : runs Tryz.prog C (cfg.fn 113) (finFn Tryz.prog (cfg.fn 113).byval Tryz.f113) [] (execA Tryz.prog C (cfg.fn 113) (nr Tryz.f113 []) (frame0 [LL a138 p0, LL a142 p1] 13 false)) = (T113 p0 p1).map I := by
  unfold T113
  refine gS 1 ?_
  refine gR 0 (rg Tryz.f113 0) ?_
  refine se (mkE [(0, LL a138 p0), (1, LL a142 p1)] [] 13) ?_
  refine pN ?_
  refine pS ?_
  refine gS 4 ?_
  refine gS 2 ?_
  refine gR 1 (rg Tryz.f113 1) ?_
  refine sg 1 (mkE [(6, LL a138 p0), (0, LL a138 p0), (1, LL a142 p1)] [] 13) ?_
  refine co 7 [] (h133 p0) (fun x1 => ?_)
  refine se (mkE [(1, LL a142 p1), (5, I x1)] [] 13) ?_
  refine pN ?_
  refine pS ?_
  refine gS 0 ?_
  refine gR 2 (rg Tryz.f113 2) ?_
  refine se (mkE [(1, LL a142 p1), (5, I x1), (9, B (neI x1 0))] [] 13) ?_
  refine pN ?_
  refine pS ?_
  refine gC 9 (neI x1 0) ?_ ?_
  · refine gS 0 ?_
    refine gR 3 (rg Tryz.f113 3) ?_
    refine se (mkE [(4, I x1)] [] 13) ?_
    refine pN ?_
    refine pS ?_
    refine gE ?_
    exact pL
  · refine gK ?_
    refine pN ?_
    refine pS ?_
    refine gS 0 ?_
    refine gR 4 (rg Tryz.f113 4) ?_
    refine sg 1 (mkE [(11, LL a142 p1), (1, LL a142 p1), (5, I x1), (9, B (neI x1 0))] [] 13) ?_
    refine co 12 [] (h134 p1) (fun x2 => ?_)
    refine se (mkE [(4, I x2)] [] 13) ?_
    refine pN ?_
    refine pS ?_
    refine gE ?_
    exact pL
theorem F113 (m : Nat) (hm : 8 ≤ m) (p0 : (List S138)) (p1 : (List S142)) : callA Tryz.prog cfg m 113 [LL a138 p0, LL a142 p1] = (T113 p0 p1).map I := by
  obtain ⟨q, rfl⟩ : ∃ q, m = q + 1 := ⟨m - 1, by omega⟩
  exact (callA_body (fn := Tryz.f113) (c := body_ Tryz.f113) q _ (by kernel_rfl) (by kernel_rfl) (by kernel_rfl)).trans (B113 _ (fun p0 => F133 q (by omega) p0) (fun p0 => F134 q (by omega) p0) p0 p1)

noncomputable def T135 (p0 : S28) (p1_c0 : ByteArray) (p1_c1 : Int) (p1_c2 : Int) : Option Bool := (bif (leI p0.f0 p1_c1) then (bif (ltI p1_c1 (addI .i64 p0.f0 p0.f2)) then (bif (leI p0.f1 p1_c2) then (some (ltI p1_c2 (addI .i64 p0.f1 p0.f3))) else (some false)) else (some false)) else (some false))
theorem B135 (C : Callee) (p0 : S28) (p1_c0 : ByteArray) (p1_c1 : Int) (p1_c2 : Int) : runs Tryz.prog C (cfg.fn 135) (finFn Tryz.prog (cfg.fn 135).byval Tryz.f135) [] (execA Tryz.prog C (cfg.fn 135) (nr Tryz.f135 []) (frame0 [a28 p0, .ia [S p1_c0, I p1_c1, I p1_c2] 0] 36 false)) = (T135 p0 p1_c0 p1_c1 p1_c2).map B := by
  unfold T135
  let s_0 : List (Nat × AV) := [(19, B (ltI p1_c1 (addI .i64 p0.f0 p0.f2))), (18, B (ltI p1_c1 (addI .i64 p0.f0 p0.f2))), (17, B (ltI p1_c1 (addI .i64 p0.f0 p0.f2))), (16, I (addI .i64 p0.f0 p0.f2)), (15, I p0.f2), (14, .ba 16 2), (13, I p0.f0), (12, .ba 16 0), (11, I p1_c1), (10, .ia [S p1_c0, I p1_c1, I p1_c2] 1), (9, B true), (9, B (leI p0.f0 p1_c1)), (8, B (leI p0.f0 p1_c1)), (7, I p1_c1), (6, .ia [S p1_c0, I p1_c1, I p1_c2] 1), (5, I p0.f0), (4, .ba 16 0), (1, .ia [S p1_c0, I p1_c1, I p1_c2] 0), (2, .ba 16 0)]
  let o_0 : List (Nat × AObj) := [(16, .box [I p0.f0, I p0.f1, I p0.f2, I p0.f3] false)]
  refine gS 1 ?_
  refine gR 0 (rg Tryz.f135 0) ?_
  refine se (mkE [(1, .ia [S p1_c0, I p1_c1, I p1_c2] 0), (2, .ba 16 0)] o_0 36) ?_
  refine pN ?_
  refine pS ?_
  refine gS 0 ?_
  refine gR 1 (rg Tryz.f135 1) ?_
  refine sg 6 (mkE [(9, B (leI p0.f0 p1_c1)), (8, B (leI p0.f0 p1_c1)), (7, I p1_c1), (6, .ia [S p1_c0, I p1_c1, I p1_c2] 1), (5, I p0.f0), (4, .ba 16 0), (1, .ia [S p1_c0, I p1_c1, I p1_c2] 0), (2, .ba 16 0)] o_0 36) ?_
  refine sb 9 (leI p0.f0 p1_c1) ?_ ?_
  · refine sg 16 (mkE s_0 o_0 36) ?_
    refine sb 19 (ltI p1_c1 (addI .i64 p0.f0 p0.f2)) ?_ ?_
    · refine sg 23 (mkE ((26, B (leI p0.f1 p1_c2)) :: ((25, B (leI p0.f1 p1_c2)) :: ((24, B (leI p0.f1 p1_c2)) :: ((23, I p1_c2) :: ((22, .ia [S p1_c0, I p1_c1, I p1_c2] 2) :: ((21, I p0.f1) :: ((20, .ba 16 1) :: ((19, B true) :: s_0)))))))) o_0 36) ?_
      refine sb 26 (leI p0.f1 p1_c2) ?_ ?_
      · refine se (mkE [(3, B (ltI p1_c2 (addI .i64 p0.f1 p0.f3)))] [] 36) ?_
        refine pN ?_
        refine pS ?_
        refine gE ?_
        exact pL
      · refine se (mkE [(3, B false)] [] 36) ?_
        refine pN ?_
        refine pS ?_
        refine gE ?_
        exact pL
    · refine se (mkE [(3, B false)] [] 36) ?_
      refine pN ?_
      refine pS ?_
      refine gE ?_
      exact pL
  · refine se (mkE [(3, B false)] [] 36) ?_
    refine pN ?_
    refine pS ?_
    refine gE ?_
    exact pL
theorem F135 (m : Nat) (hm : 1 ≤ m) (p0 : S28) (p1_c0 : ByteArray) (p1_c1 : Int) (p1_c2 : Int) : callA Tryz.prog cfg m 135 [a28 p0, .ia [S p1_c0, I p1_c1, I p1_c2] 0] = (T135 p0 p1_c0 p1_c1 p1_c2).map B := by
  obtain ⟨q, rfl⟩ : ∃ q, m = q + 1 := ⟨m - 1, by omega⟩
  exact (callA_body (fn := Tryz.f135) (c := body_ Tryz.f135) q _ (by kernel_rfl) (by kernel_rfl) (by kernel_rfl)).trans (B135 _ p0 p1_c0 p1_c1 p1_c2)

noncomputable def L108_2 (p0 : (List S28)) (p1_c0 : ByteArray) (p1_c1 : Int) (p1_c2 : Int) (z0 : Int) : Option (Int ⊕ ((Int × Bool) ⊕ Int)) := (bif (ltI z0 (lenL p0)) then ((listAt p0 z0).bind fun x1 => ((T135 x1 p1_c0 p1_c1 p1_c2).bind fun x2 => (bif x2 then (some (.inr (.inr z0))) else (some (.inl (addI .i64 z0 1)))))) else (some (.inr (.inl (z0, (ltI z0 (lenL p0)))))))
theorem L108_2_ok (C : Callee) (h135 : ∀ (p0 : S28) (p1_c0 : ByteArray) (p1_c1 : Int) (p1_c2 : Int), C 135 [a28 p0, .ia [S p1_c0, I p1_c1, I p1_c2] 0] = (T135 p0 p1_c0 p1_c1 p1_c2).map B) (p0 : (List S28)) (p1_c0 : ByteArray) (p1_c1 : Int) (p1_c2 : Int) (z0 : Int) : runs Tryz.prog C (cfg.fn 108) (finLoop ((cfg.fn 108).keep 2) ((cfg.fn 108).al 2)) [] (execA Tryz.prog C (cfg.fn 108) (nr Tryz.f108 [false, false, true, false, true]) ((fun z0 : Int => (mkE [(0, LL a28 p0), (1, .fn 135 [.ia [S p1_c0, I p1_c1, I p1_c2] 0]), (7, I (lenL p0)), (8, I z0)] [] 19)) z0)) = (L108_2 p0 p1_c0 p1_c1 p1_c2 z0).map (Sum.elim (fun z => .inl ((fun z0 : Int => (mkE [(0, LL a28 p0), (1, .fn 135 [.ia [S p1_c0, I p1_c1, I p1_c2] 0]), (7, I (lenL p0)), (8, I z0)] [] 19)) z)) (fun x => .inr ((Sum.elim (fun (x : (Int × Bool)) => (.exit 0, (mkE [(0, LL a28 p0), (1, .fn 135 [.ia [S p1_c0, I p1_c1, I p1_c2] 0]), (7, I (lenL p0)), (8, I x.1), (9, B x.2)] [] 19))) (fun (x : Int) => (.ret, (mkE [(4, I x)] [] 19)))) x))) := by
  unfold L108_2
  let s_0 : List (Nat × AV) := [(0, LL a28 p0), (1, .fn 135 [.ia [S p1_c0, I p1_c1, I p1_c2] 0]), (5, I z0), (7, I (lenL p0)), (8, I z0)]
  refine gS 0 ?_
  refine gR 2 (rg Tryz.f108 2) ?_
  refine se (mkE [(0, LL a28 p0), (1, .fn 135 [.ia [S p1_c0, I p1_c1, I p1_c2] 0]), (7, I (lenL p0)), (8, I z0), (9, B (ltI z0 (lenL p0)))] [] 19) ?_
  refine pN ?_
  refine pS ?_
  refine gS 3 ?_
  refine gC 9 (ltI z0 (lenL p0)) ?_ ?_
  · refine gK ?_
    refine pN ?_
    refine pS ?_
    refine gS 6 ?_
    refine gB 1 ?_
    refine gS 4 ?_
    refine gR 3 (rg Tryz.f108 3) ?_
    refine se (mkE s_0 [] 19) ?_
    refine pN ?_
    refine pS ?_
    refine gS 0 ?_
    refine gR 4 (rg Tryz.f108 4) ?_
    refine sg 3 (mkE ((13, I z0) :: ((12, LL a28 p0) :: ((11, .fn 135 [.ia [S p1_c0, I p1_c1, I p1_c2] 0]) :: s_0))) [] 19) ?_
    refine vo 14 (addrE 26 29 4 a28 .i64 p0 z0) (fun x1 => ?_)
    refine sg 5 (mkE ((15, a28 x1) :: ((14, .ia [I x1.f0, I x1.f1, I x1.f2, I x1.f3] 0) :: ((13, I z0) :: ((12, LL a28 p0) :: ((11, .fn 135 [.ia [S p1_c0, I p1_c1, I p1_c2] 0]) :: s_0))))) [] 19) ?_
    refine co 16 [] (h135 x1 p1_c0 p1_c1 p1_c2) (fun x2 => ?_)
    refine se (mkE (s_0.append [(16, B x2)]) [] 19) ?_
    refine pN ?_
    refine pS ?_
    refine gC 16 x2 ?_ ?_
    · refine gS 0 ?_
      refine gR 5 (rg Tryz.f108 5) ?_
      refine se (mkE [(4, I z0)] [] 19) ?_
      refine pN ?_
      refine pS ?_
      refine gE ?_
      exact pL
    · refine gK ?_
      refine pB ?_
      refine pN ?_
      refine pS ?_
      refine gR 6 (rg Tryz.f108 6) ?_
      refine se (mkE [(0, LL a28 p0), (1, .fn 135 [.ia [S p1_c0, I p1_c1, I p1_c2] 0]), (7, I (lenL p0)), (8, I (addI .i64 z0 1))] [] 19) ?_
      exact pL
  · refine gX 0 ?_
    exact pL
noncomputable def T108 (p0 : (List S28)) (p1_c0 : ByteArray) (p1_c1 : Int) (p1_c2 : Int) : Option Int := ((iter (L108_2 p0 p1_c0 p1_c1 p1_c2) 0).bind fun y3 => (Sum.elim (fun y3a => (some (-1))) (fun y3b => (some y3b)) y3))
theorem B108 (C : Callee) (h135 : ∀ (p0 : S28) (p1_c0 : ByteArray) (p1_c1 : Int) (p1_c2 : Int), C 135 [a28 p0, .ia [S p1_c0, I p1_c1, I p1_c2] 0] = (T135 p0 p1_c0 p1_c1 p1_c2).map B) (p0 : (List S28)) (p1_c0 : ByteArray) (p1_c1 : Int) (p1_c2 : Int) : runs Tryz.prog C (cfg.fn 108) (finFn Tryz.prog (cfg.fn 108).byval Tryz.f108) [] (execA Tryz.prog C (cfg.fn 108) (nr Tryz.f108 []) (frame0 [LL a28 p0, .fn 135 [.ia [S p1_c0, I p1_c1, I p1_c2] 0]] 19 false)) = (T108 p0 p1_c0 p1_c1 p1_c2).map I := by
  unfold T108
  let s_0 : List (Nat × AV) := [(0, LL a28 p0), (1, .fn 135 [.ia [S p1_c0, I p1_c1, I p1_c2] 0])]
  refine gS 1 ?_
  refine gR 0 (rg Tryz.f108 0) ?_
  refine se (mkE s_0 [] 19) ?_
  refine pN ?_
  refine pS ?_
  refine gS 7 ?_
  refine gS 2 ?_
  refine gR 1 (rg Tryz.f108 1) ?_
  refine sg 1 (mkE ((6, LL a28 p0) :: s_0) [] 19) ?_
  refine eo 7 (I (lenL p0)) (lenE 26 a28 p0) ?_
  refine se (mkE (s_0.append ((7, I (lenL p0)) :: [(8, I 0)])) [] 19) ?_
  refine pN ?_
  refine pS ?_
  refine gB 0 ?_
  refine lo [(0, none), (1, none), (7, none), (8, none)] [] (L108_2 p0 p1_c0 p1_c1 p1_c2) (fun z0 : Int => (mkE (s_0.append ((7, I (lenL p0)) :: [(8, I z0)])) [] 19)) (Sum.elim (fun (x : (Int × Bool)) => (.exit 0, (mkE (s_0.append ((7, I (lenL p0)) :: ((8, I x.1) :: [(9, B x.2)]))) [] 19))) (fun (x : Int) => (.ret, (mkE [(4, I x)] [] 19)))) 0 (fun z => L108_2_ok C h135 p0 p1_c0 p1_c1 p1_c2 z) ?_
  intro y3
  refine ss y3 (Z := (Sum.elim (fun (x : (Int × Bool)) => (.exit 0, (mkE (s_0.append ((7, I (lenL p0)) :: ((8, I x.1) :: [(9, B x.2)]))) [] 19))) (fun (x : Int) => (.ret, (mkE [(4, I x)] [] 19))))) (fun y3a => ?_) (fun y3b => ?_)
  · refine pH ?_
    refine pN ?_
    refine pS ?_
    refine gS 0 ?_
    refine gR 7 (rg Tryz.f108 7) ?_
    refine se (mkE [(4, I (-1))] [] 19) ?_
    refine pN ?_
    refine pS ?_
    refine gE ?_
    exact pL
  · exact pL
theorem F108 (m : Nat) (hm : 2 ≤ m) (p0 : (List S28)) (p1_c0 : ByteArray) (p1_c1 : Int) (p1_c2 : Int) : callA Tryz.prog cfg m 108 [LL a28 p0, .fn 135 [.ia [S p1_c0, I p1_c1, I p1_c2] 0]] = (T108 p0 p1_c0 p1_c1 p1_c2).map I := by
  obtain ⟨q, rfl⟩ : ∃ q, m = q + 1 := ⟨m - 1, by omega⟩
  exact (callA_body (fn := Tryz.f108) (c := body_ Tryz.f108) q _ (by kernel_rfl) (by kernel_rfl) (by kernel_rfl)).trans (B108 _ (fun p0 p1_c0 p1_c1 p1_c2 => F135 q (by omega) p0 p1_c0 p1_c1 p1_c2) p0 p1_c0 p1_c1 p1_c2)

noncomputable def T65 (p0 : (List S28)) (p1_c0 : ByteArray) (p1_c1 : Int) (p1_c2 : Int) : Option Bool := ((T108 p0 p1_c0 p1_c1 p1_c2).bind fun x1 => (some (leI 0 x1)))
theorem B65 (C : Callee) (h108 : ∀ (p0 : (List S28)) (p1_c0 : ByteArray) (p1_c1 : Int) (p1_c2 : Int), C 108 [LL a28 p0, .fn 135 [.ia [S p1_c0, I p1_c1, I p1_c2] 0]] = (T108 p0 p1_c0 p1_c1 p1_c2).map I) (p0 : (List S28)) (p1_c0 : ByteArray) (p1_c1 : Int) (p1_c2 : Int) : runs Tryz.prog C (cfg.fn 65) (finFn Tryz.prog (cfg.fn 65).byval Tryz.f65) [] (execA Tryz.prog C (cfg.fn 65) (nr Tryz.f65 []) (frame0 [LL a28 p0, .fn 135 [.ia [S p1_c0, I p1_c1, I p1_c2] 0]] 9 false)) = (T65 p0 p1_c0 p1_c1 p1_c2).map B := by
  unfold T65
  refine gS 1 ?_
  refine gR 0 (rg Tryz.f65 0) ?_
  refine se (mkE [(0, LL a28 p0), (1, .fn 135 [.ia [S p1_c0, I p1_c1, I p1_c2] 0])] [] 9) ?_
  refine pN ?_
  refine pS ?_
  refine gS 0 ?_
  refine gR 1 (rg Tryz.f65 1) ?_
  refine sg 2 (mkE [(6, .fn 135 [.ia [S p1_c0, I p1_c1, I p1_c2] 0]), (5, LL a28 p0), (0, LL a28 p0), (1, .fn 135 [.ia [S p1_c0, I p1_c1, I p1_c2] 0])] [] 9) ?_
  refine co 7 [] (h108 p0 p1_c0 p1_c1 p1_c2) (fun x1 => ?_)
  refine se (mkE [(4, B (leI 0 x1))] [] 9) ?_
  refine pN ?_
  refine pS ?_
  refine gE ?_
  exact pL
theorem F65 (m : Nat) (hm : 3 ≤ m) (p0 : (List S28)) (p1_c0 : ByteArray) (p1_c1 : Int) (p1_c2 : Int) : callA Tryz.prog cfg m 65 [LL a28 p0, .fn 135 [.ia [S p1_c0, I p1_c1, I p1_c2] 0]] = (T65 p0 p1_c0 p1_c1 p1_c2).map B := by
  obtain ⟨q, rfl⟩ : ∃ q, m = q + 1 := ⟨m - 1, by omega⟩
  exact (callA_body (fn := Tryz.f65) (c := body_ Tryz.f65) q _ (by kernel_rfl) (by kernel_rfl) (by kernel_rfl)).trans (B65 _ (fun p0 p1_c0 p1_c1 p1_c2 => F108 q (by omega) p0 p1_c0 p1_c1 p1_c2) p0 p1_c0 p1_c1 p1_c2)

noncomputable def T114 (p0 : S138) (p1 : S142) : Option Bool := ((T65 p0.f7 p1.f0 p1.f1 p1.f2).bind fun x1 => (some x1))
theorem B114 (C : Callee) (h65 : ∀ (p0 : (List S28)) (p1_c0 : ByteArray) (p1_c1 : Int) (p1_c2 : Int), C 65 [LL a28 p0, .fn 135 [.ia [S p1_c0, I p1_c1, I p1_c2] 0]] = (T65 p0 p1_c0 p1_c1 p1_c2).map B) (p0 : S138) (p1 : S142) : runs Tryz.prog C (cfg.fn 114) (finFn Tryz.prog (cfg.fn 114).byval Tryz.f114) [] (execA Tryz.prog C (cfg.fn 114) (nr Tryz.f114 []) (frame0 [a138 p0, a142 p1] 9 false)) = (T114 p0 p1).map B := by
  unfold T114
  let o_0 : List (Nat × AObj) := [(16, .box [S p0.f0, S p0.f1, I p0.f2, LL S p0.f3, I p0.f4, I p0.f5, I p0.f6, LL a28 p0.f7, S p0.f8] false), (24, .box [S p1.f0, I p1.f1, I p1.f2] false)]
  refine gS 1 ?_
  refine gR 0 (rg Tryz.f114 0) ?_
  refine se (mkE [(2, .ba 16 0), (3, .ba 24 0)] o_0 9) ?_
  refine pN ?_
  refine pS ?_
  refine gS 0 ?_
  refine gR 1 (rg Tryz.f114 1) ?_
  refine sg 3 (mkE [(7, .fn 135 [.ba 24 0]), (6, LL a28 p0.f7), (5, .ba 16 7), (2, .ba 16 0), (3, .ba 24 0)] o_0 9) ?_
  refine co 8 [24] (h65 p0.f7 p1.f0 p1.f1 p1.f2) (fun x1 => ?_)
  refine se (mkE [(4, B x1)] [] 9) ?_
  refine pN ?_
  refine pS ?_
  refine gE ?_
  exact pL
theorem F114 (m : Nat) (hm : 4 ≤ m) (p0 : S138) (p1 : S142) : callA Tryz.prog cfg m 114 [a138 p0, a142 p1] = (T114 p0 p1).map B := by
  obtain ⟨q, rfl⟩ : ∃ q, m = q + 1 := ⟨m - 1, by omega⟩
  exact (callA_body (fn := Tryz.f114) (c := body_ Tryz.f114) q _ (by kernel_rfl) (by kernel_rfl) (by kernel_rfl)).trans (B114 _ (fun p0 p1_c0 p1_c1 p1_c2 => F65 q (by omega) p0 p1_c0 p1_c1 p1_c2) p0 p1)

noncomputable def T68 (p0 : S138) (p1 : S142) : Option (Bool × Int) := ((T113 ([p0] : List S138) ([p1] : List S142)).bind fun x1 => (bif (neI x1 0) then (some (false, x1)) else ((T114 p0 p1).bind fun x2 => (some (x2, 0)))))
theorem B68 (C : Callee) (h113 : ∀ (p0 : (List S138)) (p1 : (List S142)), C 113 [LL a138 p0, LL a142 p1] = (T113 p0 p1).map I) (h114 : ∀ (p0 : S138) (p1 : S142), C 114 [a138 p0, a142 p1] = (T114 p0 p1).map B) (p0 : S138) (p1 : S142) : runs Tryz.prog C (cfg.fn 68) (finFn Tryz.prog (cfg.fn 68).byval Tryz.f68) [] (execA Tryz.prog C (cfg.fn 68) (nr Tryz.f68 []) (frame0 [a138 p0, a142 p1] 18 false)) = (T68 p0 p1).map (fun r => AV.tup [B r.1, I r.2]) := by
  unfold T68
  let o_0 : List (Nat × AObj) := [(16, .box [S p0.f0, S p0.f1, I p0.f2, LL S p0.f3, I p0.f4, I p0.f5, I p0.f6, LL a28 p0.f7, S p0.f8] false), (24, .box [S p1.f0, I p1.f1, I p1.f2] false)]
  refine gS 1 ?_
  refine gR 0 (rg Tryz.f68 0) ?_
  refine se (mkE [(2, .ba 16 0), (3, .ba 24 0)] o_0 18) ?_
  refine pN ?_
  refine pS ?_
  refine gS 4 ?_
  refine gS 2 ?_
  refine gR 1 (rg Tryz.f68 1) ?_
  refine sg 4 (mkE [(10, .own 80 0), (9, a142 p1), (8, .own 64 0), (7, a138 p0), (2, .ba 16 0), (3, .ba 24 0)] ((80, RR 143 3 a142 ([p1] : List S142) 0 false) :: ((64, RR 139 9 a138 ([p0] : List S138) 0 false) :: o_0)) 18) ?_
  refine co 11 [64, 80] (h113 ([p0] : List S138) ([p1] : List S142)) (fun x1 => ?_)
  refine se (mkE [(2, .ba 16 0), (3, .ba 24 0), (6, I x1)] o_0 18) ?_
  refine pN ?_
  refine pS ?_
  refine gS 0 ?_
  refine gR 2 (rg Tryz.f68 2) ?_
  refine se (mkE [(2, .ba 16 0), (3, .ba 24 0), (6, I x1), (13, B (neI x1 0))] o_0 18) ?_
  refine pN ?_
  refine pS ?_
  refine gC 13 (neI x1 0) ?_ ?_
  · refine gS 0 ?_
    refine gR 3 (rg Tryz.f68 3) ?_
    refine se (mkE [(4, B false), (5, I x1)] [] 18) ?_
    refine pN ?_
    refine pS ?_
    refine gE ?_
    exact pL
  · refine gK ?_
    refine pN ?_
    refine pS ?_
    refine gS 0 ?_
    refine gR 4 (rg Tryz.f68 4) ?_
    refine sg 2 (mkE [(16, a142 p1), (15, a138 p0), (2, .ba 16 0), (3, .ba 24 0), (6, I x1), (13, B (neI x1 0))] o_0 18) ?_
    refine co 17 [] (h114 p0 p1) (fun x2 => ?_)
    refine se (mkE [(4, B x2), (5, I 0)] [] 18) ?_
    refine pN ?_
    refine pS ?_
    refine gE ?_
    exact pL
theorem F68 (m : Nat) (hm : 9 ≤ m) (p0 : S138) (p1 : S142) : callA Tryz.prog cfg m 68 [a138 p0, a142 p1] = (T68 p0 p1).map (fun r => AV.tup [B r.1, I r.2]) := by
  obtain ⟨q, rfl⟩ : ∃ q, m = q + 1 := ⟨m - 1, by omega⟩
  exact (callA_body (fn := Tryz.f68) (c := body_ Tryz.f68) q _ (by kernel_rfl) (by kernel_rfl) (by kernel_rfl)).trans (B68 _ (fun p0 p1 => F113 q (by omega) p0 p1) (fun p0 p1 => F114 q (by omega) p0 p1) p0 p1)

noncomputable def L22_2 (p0 : (List Int)) (z0 : Int) : Option (Int ⊕ ((Int × Bool) ⊕ Int)) := (bif (ltI z0 (lenL p0)) then ((listAt p0 z0).bind fun x1 => (bif (neI x1 0) then (some (.inr (.inr x1))) else (some (.inl (addI .i64 z0 1))))) else (some (.inr (.inl (z0, (ltI z0 (lenL p0)))))))
theorem L22_2_ok (C : Callee) (p0 : (List Int)) (z0 : Int) : runs Tryz.prog C (cfg.fn 22) (finLoop ((cfg.fn 22).keep 2) ((cfg.fn 22).al 2)) [] (execA Tryz.prog C (cfg.fn 22) (nr Tryz.f22 [false, false, true, false, true]) ((fun z0 : Int => (mkE [(5, LL I p0), (6, I (lenL p0)), (7, I z0)] [] 15)) z0)) = (L22_2 p0 z0).map (Sum.elim (fun z => .inl ((fun z0 : Int => (mkE [(5, LL I p0), (6, I (lenL p0)), (7, I z0)] [] 15)) z)) (fun x => .inr ((Sum.elim (fun (x : (Int × Bool)) => (.exit 0, (mkE [(5, LL I p0), (6, I (lenL p0)), (7, I x.1), (8, B x.2)] [] 15))) (fun (x : Int) => (.ret, (mkE [(2, I x)] [] 15)))) x))) := by
  unfold L22_2
  refine gS 0 ?_
  refine gR 2 (rg Tryz.f22 2) ?_
  refine se (mkE [(5, LL I p0), (6, I (lenL p0)), (7, I z0), (8, B (ltI z0 (lenL p0)))] [] 15) ?_
  refine pN ?_
  refine pS ?_
  refine gS 3 ?_
  refine gC 8 (ltI z0 (lenL p0)) ?_ ?_
  · refine gK ?_
    refine pN ?_
    refine pS ?_
    refine gS 6 ?_
    refine gB 1 ?_
    refine gS 4 ?_
    refine gR 3 (rg Tryz.f22 3) ?_
    refine vo 9 (addrE 128 31 1 I .i64 p0 z0) (fun x1 => ?_)
    refine se (mkE [(4, I x1), (5, LL I p0), (6, I (lenL p0)), (7, I z0)] [] 15) ?_
    refine pN ?_
    refine pS ?_
    refine gS 0 ?_
    refine gR 4 (rg Tryz.f22 4) ?_
    refine se (mkE [(4, I x1), (5, LL I p0), (6, I (lenL p0)), (7, I z0), (12, B (neI x1 0))] [] 15) ?_
    refine pN ?_
    refine pS ?_
    refine gC 12 (neI x1 0) ?_ ?_
    · refine gS 0 ?_
      refine gR 5 (rg Tryz.f22 5) ?_
      refine se (mkE [(2, I x1)] [] 15) ?_
      refine pN ?_
      refine pS ?_
      refine gE ?_
      exact pL
    · refine gK ?_
      refine pB ?_
      refine pN ?_
      refine pS ?_
      refine gR 6 (rg Tryz.f22 6) ?_
      refine se (mkE [(5, LL I p0), (6, I (lenL p0)), (7, I (addI .i64 z0 1))] [] 15) ?_
      exact pL
  · refine gX 0 ?_
    exact pL
noncomputable def T22 (p0 : (List Int)) : Option Int := ((iter (L22_2 p0) 0).bind fun y2 => (Sum.elim (fun y2a => (some 0)) (fun y2b => (some y2b)) y2))
theorem B22 (C : Callee) (p0 : (List Int)) : runs Tryz.prog C (cfg.fn 22) (finFn Tryz.prog (cfg.fn 22).byval Tryz.f22) [] (execA Tryz.prog C (cfg.fn 22) (nr Tryz.f22 []) (frame0 [LL I p0] 15 false)) = (T22 p0).map I := by
  unfold T22
  refine gS 1 ?_
  refine gR 0 (rg Tryz.f22 0) ?_
  refine se (mkE [(0, LL I p0)] [] 15) ?_
  refine pN ?_
  refine pS ?_
  refine gS 7 ?_
  refine gS 2 ?_
  refine gR 1 (rg Tryz.f22 1) ?_
  refine sg 1 (mkE [(5, LL I p0), (0, LL I p0)] [] 15) ?_
  refine eo 6 (I (lenL p0)) (lenE 128 I p0) ?_
  refine se (mkE [(5, LL I p0), (6, I (lenL p0)), (7, I 0)] [] 15) ?_
  refine pN ?_
  refine pS ?_
  refine gB 0 ?_
  refine lo [(5, none), (6, none), (7, none)] [] (L22_2 p0) (fun z0 : Int => (mkE [(5, LL I p0), (6, I (lenL p0)), (7, I z0)] [] 15)) (Sum.elim (fun (x : (Int × Bool)) => (.exit 0, (mkE [(5, LL I p0), (6, I (lenL p0)), (7, I x.1), (8, B x.2)] [] 15))) (fun (x : Int) => (.ret, (mkE [(2, I x)] [] 15)))) 0 (fun z => L22_2_ok C p0 z) ?_
  intro y2
  refine ss y2 (Z := (Sum.elim (fun (x : (Int × Bool)) => (.exit 0, (mkE [(5, LL I p0), (6, I (lenL p0)), (7, I x.1), (8, B x.2)] [] 15))) (fun (x : Int) => (.ret, (mkE [(2, I x)] [] 15))))) (fun y2a => ?_) (fun y2b => ?_)
  · refine pH ?_
    refine pN ?_
    refine pS ?_
    refine gS 0 ?_
    refine gR 7 (rg Tryz.f22 7) ?_
    refine se (mkE [(2, I 0)] [] 15) ?_
    refine pN ?_
    refine pS ?_
    refine gE ?_
    exact pL
  · exact pL
theorem F22 (m : Nat) (hm : 1 ≤ m) (p0 : (List Int)) : callA Tryz.prog cfg m 22 [LL I p0] = (T22 p0).map I := by
  obtain ⟨q, rfl⟩ : ∃ q, m = q + 1 := ⟨m - 1, by omega⟩
  exact (callA_body (fn := Tryz.f22) (c := body_ Tryz.f22) q _ (by kernel_rfl) (by kernel_rfl) (by kernel_rfl)).trans (B22 _ p0)

noncomputable def T26 : Option Bool := ((T20 ([(S28.mk 0 0 2 2), (S28.mk 1 1 2 2)] : List S28)).bind fun x1 => ((T67 (S136.mk (ByteArray.mk #[97]) (ByteArray.mk #[98]) 0 0 0 1 127 [] 1 2 0 [] false) 0 (S92.mk 0 86400000)).bind fun x2 => ((T45 (S94.mk (ByteArray.mk #[97]) (ByteArray.mk #[]) (S92.mk 0 100) [] 10 0 0) 50).bind fun x3 => ((T42 ([(S87.mk (ByteArray.mk #[112]) 0 100), (S87.mk (ByteArray.mk #[112]) 1000 1300)] : List S87) (ByteArray.mk #[112]) 700).bind fun x4 => ((T68 (S138.mk (ByteArray.mk #[97]) (ByteArray.mk #[115]) 1 [] 0 5 1 ([(S28.mk 0 0 2 2)] : List S28) (ByteArray.mk #[120])) (S142.mk (ByteArray.mk #[112]) 1 1)).bind fun x5 => ((T22 ([x1.2, x2.2, x3.2, x4.2, x5.2] : List Int)).bind fun x6 => (bif (eqI x6 0) then (bif (eqI x1.1 7) then (bif (eqI (lenL x2.1) 1) then (bif (eqI x3.1 5) then (bif (eqI x4.1 500) then (some x5.1) else (some false)) else (some false)) else (some false)) else (some false)) else (some false))))))))
theorem B26 (C : Callee) (h20 : ∀ (p0 : (List S28)), C 20 [LL a28 p0] = (T20 p0).map (fun r => AV.tup [I r.1, I r.2])) (h22 : ∀ (p0 : (List Int)), C 22 [LL I p0] = (T22 p0).map I) (h42 : ∀ (p0 : (List S87)) (p1 : ByteArray) (p2 : Int), C 42 [LL a87 p0, S p1, I p2] = (T42 p0 p1 p2).map (fun r => AV.tup [I r.1, I r.2])) (h45 : ∀ (p0 : S94) (p1 : Int), C 45 [a94 p0, I p1] = (T45 p0 p1).map (fun r => AV.tup [I r.1, I r.2])) (h67 : ∀ (p0 : S136) (p1 : Int) (p2 : S92), C 67 [a136 p0, I p1, a92 p2] = (T67 p0 p1 p2).map (fun r => AV.tup [(fun l => AV.fr 93 2 (List.map a92 l)) r.1, I r.2])) (h68 : ∀ (p0 : S138) (p1 : S142), C 68 [a138 p0, a142 p1] = (T68 p0 p1).map (fun r => AV.tup [B r.1, I r.2])) : runs Tryz.prog C (cfg.fn 26) (finFn Tryz.prog (cfg.fn 26).byval Tryz.f26) [] (execA Tryz.prog C (cfg.fn 26) (nr Tryz.f26 []) (frame0 [] 75 false)) = (T26).map B := by
  unfold T26
  let o_0 : List (Nat × AObj) := [(72, .box [S (ByteArray.mk #[97]), S (ByteArray.mk #[115]), I 1, .nils, I 0, I 5, I 1, .own 312 0, S (ByteArray.mk #[120])] false)]
  refine gS 1 ?_
  refine gR 0 (rg Tryz.f26 0) ?_
  refine se (mkE [] [] 75) ?_
  refine pN ?_
  refine pS ?_
  refine gS 2 ?_
  refine gR 1 (rg Tryz.f26 1) ?_
  refine sg 3 (mkE [(15, .own 120 0), (14, .agg [I 1, I 1, I 2, I 2]), (13, .agg [I 0, I 0, I 2, I 2])] [(120, RR 29 4 a28 ([(S28.mk 0 0 2 2), (S28.mk 1 1 2 2)] : List S28) 0 false)] 75) ?_
  refine co 16 [120] (h20 ([(S28.mk 0 0 2 2), (S28.mk 1 1 2 2)] : List S28)) (fun x1 => ?_)
  refine se (mkE [(1, I x1.1), (2, I x1.2)] [] 75) ?_
  refine pN ?_
  refine pS ?_
  refine gS 3 ?_
  refine gR 2 (rg Tryz.f26 2) ?_
  refine sg 2 (mkE [(21, .agg [I 0, I 86400000]), (20, .agg [S (ByteArray.mk #[97]), S (ByteArray.mk #[98]), I 0, I 0, I 0, I 1, I 127, .nils, I 1, I 2, I 0, .nils, B false]), (1, I x1.1), (2, I x1.2)] [] 75) ?_
  refine co 22 [] (h67 (S136.mk (ByteArray.mk #[97]) (ByteArray.mk #[98]) 0 0 0 1 127 [] 1 2 0 [] false) 0 (S92.mk 0 86400000)) (fun x2 => ?_)
  refine se (mkE [(1, I x1.1), (2, I x1.2), (3, .own 176 0), (4, I x2.2)] [(176, RR 93 2 a92 x2.1 0 false)] 75) ?_
  refine pN ?_
  refine pS ?_
  refine gS 4 ?_
  refine gR 3 (rg Tryz.f26 3) ?_
  refine sg 2 (mkE [(27, .agg [S (ByteArray.mk #[97]), S (ByteArray.mk #[]), I 0, I 100, .nils, I 10, I 0, I 0]), (26, .agg [I 0, I 100]), (1, I x1.1), (2, I x1.2), (3, .own 176 0), (4, I x2.2)] [(176, RR 93 2 a92 x2.1 0 false)] 75) ?_
  refine co 28 [] (h45 (S94.mk (ByteArray.mk #[97]) (ByteArray.mk #[]) (S92.mk 0 100) [] 10 0 0) 50) (fun x3 => ?_)
  refine se (mkE [(1, I x1.1), (2, I x1.2), (3, .own 176 0), (4, I x2.2), (5, I x3.1), (6, I x3.2)] [(176, RR 93 2 a92 x2.1 0 false)] 75) ?_
  refine pN ?_
  refine pS ?_
  refine gS 5 ?_
  refine gR 4 (rg Tryz.f26 4) ?_
  refine sg 3 (mkE [(34, .own 272 0), (33, .agg [S (ByteArray.mk #[112]), I 1000, I 1300]), (32, .agg [S (ByteArray.mk #[112]), I 0, I 100]), (1, I x1.1), (2, I x1.2), (3, .own 176 0), (4, I x2.2), (5, I x3.1), (6, I x3.2)] [(272, RR 88 3 a87 ([(S87.mk (ByteArray.mk #[112]) 0 100), (S87.mk (ByteArray.mk #[112]) 1000 1300)] : List S87) 0 false), (176, RR 93 2 a92 x2.1 0 false)] 75) ?_
  refine co 35 [272] (h42 ([(S87.mk (ByteArray.mk #[112]) 0 100), (S87.mk (ByteArray.mk #[112]) 1000 1300)] : List S87) (ByteArray.mk #[112]) 700) (fun x4 => ?_)
  refine se (mkE [(1, I x1.1), (2, I x1.2), (3, .own 176 0), (4, I x2.2), (5, I x3.1), (6, I x3.2), (7, I x4.1), (8, I x4.2)] [(176, RR 93 2 a92 x2.1 0 false)] 75) ?_
  refine pN ?_
  refine pS ?_
  refine gS 6 ?_
  refine gR 5 (rg Tryz.f26 5) ?_
  refine se (mkE [(1, I x1.1), (2, I x1.2), (3, .own 176 0), (4, I x2.2), (5, I x3.1), (6, I x3.2), (7, I x4.1), (8, I x4.2), (9, .ba 72 0)] (o_0.append ((176, RR 93 2 a92 x2.1 0 false) :: [(312, RR 29 4 a28 ([(S28.mk 0 0 2 2)] : List S28) 0 false)])) 75) ?_
  refine pN ?_
  refine pS ?_
  refine gS 7 ?_
  refine gR 6 (rg Tryz.f26 6) ?_
  refine sg 2 (mkE [(43, .agg [S (ByteArray.mk #[112]), I 1, I 1]), (42, .agg [S (ByteArray.mk #[97]), S (ByteArray.mk #[115]), I 1, .nils, I 0, I 5, I 1, .own 312 0, S (ByteArray.mk #[120])]), (1, I x1.1), (2, I x1.2), (3, .own 176 0), (4, I x2.2), (5, I x3.1), (6, I x3.2), (7, I x4.1), (8, I x4.2), (9, .ba 72 0)] (o_0.append ((176, RR 93 2 a92 x2.1 0 false) :: [(312, RR 29 4 a28 ([(S28.mk 0 0 2 2)] : List S28) 0 false)])) 75) ?_
  refine co 44 [312] (h68 (S138.mk (ByteArray.mk #[97]) (ByteArray.mk #[115]) 1 [] 0 5 1 ([(S28.mk 0 0 2 2)] : List S28) (ByteArray.mk #[120])) (S142.mk (ByteArray.mk #[112]) 1 1)) (fun x5 => ?_)
  refine se (mkE [(1, I x1.1), (2, I x1.2), (3, .own 176 0), (4, I x2.2), (5, I x3.1), (6, I x3.2), (7, I x4.1), (8, I x4.2), (10, B x5.1), (11, I x5.2)] [(176, RR 93 2 a92 x2.1 0 false)] 75) ?_
  refine pN ?_
  refine pS ?_
  refine gS 0 ?_
  refine gR 7 (rg Tryz.f26 7) ?_
  refine sg 6 (mkE [(52, .own 416 0), (51, I x5.2), (50, I x4.2), (49, I x3.2), (48, I x2.2), (47, I x1.2), (1, I x1.1), (2, I x1.2), (3, .own 176 0), (4, I x2.2), (5, I x3.1), (6, I x3.2), (7, I x4.1), (8, I x4.2), (10, B x5.1), (11, I x5.2)] [(416, RR 31 1 I ([x1.2, x2.2, x3.2, x4.2, x5.2] : List Int) 0 false), (176, RR 93 2 a92 x2.1 0 false)] 75) ?_
  refine co 53 [416] (h22 ([x1.2, x2.2, x3.2, x4.2, x5.2] : List Int)) (fun x6 => ?_)
  refine sg 9 (mkE [(55, B (eqI x6 0)), (54, B (eqI x6 0)), (53, I x6), (52, .own 416 0), (51, I x5.2), (50, I x4.2), (49, I x3.2), (48, I x2.2), (47, I x1.2), (1, I x1.1), (2, I x1.2), (3, .own 176 0), (4, I x2.2), (5, I x3.1), (6, I x3.2), (7, I x4.1), (8, I x4.2), (10, B x5.1), (11, I x5.2)] [(416, RR 31 1 I ([x1.2, x2.2, x3.2, x4.2, x5.2] : List Int) 0 false), (176, RR 93 2 a92 x2.1 0 false)] 75) ?_
  refine sb 55 (eqI x6 0) ?_ ?_
  · refine sg 13 (mkE [(59, B (eqI x1.1 7)), (58, B (eqI x1.1 7)), (57, B (eqI x1.1 7)), (56, I x1.1), (55, B true), (55, B (eqI x6 0)), (54, B (eqI x6 0)), (53, I x6), (52, .own 416 0), (51, I x5.2), (50, I x4.2), (49, I x3.2), (48, I x2.2), (47, I x1.2), (1, I x1.1), (2, I x1.2), (3, .own 176 0), (4, I x2.2), (5, I x3.1), (6, I x3.2), (7, I x4.1), (8, I x4.2), (10, B x5.1), (11, I x5.2)] [(416, RR 31 1 I ([x1.2, x2.2, x3.2, x4.2, x5.2] : List Int) 0 false), (176, RR 93 2 a92 x2.1 0 false)] 75) ?_
    refine sb 59 (eqI x1.1 7) ?_ ?_
    · refine sg 14 (mkE [(60, .own 176 0), (59, B true), (59, B (eqI x1.1 7)), (58, B (eqI x1.1 7)), (57, B (eqI x1.1 7)), (56, I x1.1), (55, B true), (55, B (eqI x6 0)), (54, B (eqI x6 0)), (53, I x6), (52, .own 416 0), (51, I x5.2), (50, I x4.2), (49, I x3.2), (48, I x2.2), (47, I x1.2), (1, I x1.1), (2, I x1.2), (3, .own 176 0), (4, I x2.2), (5, I x3.1), (6, I x3.2), (7, I x4.1), (8, I x4.2), (10, B x5.1), (11, I x5.2)] [(416, RR 31 1 I ([x1.2, x2.2, x3.2, x4.2, x5.2] : List Int) 0 false), (176, RR 93 2 a92 x2.1 0 false)] 75) ?_
      refine eo 61 (I (lenL x2.1)) (lenOE 108 93 2 a92 x2.1) ?_
      refine sg 18 (mkE [(64, B (eqI (lenL x2.1) 1)), (63, B (eqI (lenL x2.1) 1)), (62, B (eqI (lenL x2.1) 1)), (61, I (lenL x2.1)), (60, .own 176 0), (59, B true), (59, B (eqI x1.1 7)), (58, B (eqI x1.1 7)), (57, B (eqI x1.1 7)), (56, I x1.1), (55, B true), (55, B (eqI x6 0)), (54, B (eqI x6 0)), (53, I x6), (52, .own 416 0), (51, I x5.2), (50, I x4.2), (49, I x3.2), (48, I x2.2), (47, I x1.2), (1, I x1.1), (2, I x1.2), (3, .own 176 0), (4, I x2.2), (5, I x3.1), (6, I x3.2), (7, I x4.1), (8, I x4.2), (10, B x5.1), (11, I x5.2)] [(416, RR 31 1 I ([x1.2, x2.2, x3.2, x4.2, x5.2] : List Int) 0 false), (176, RR 93 2 a92 x2.1 0 false)] 75) ?_
      refine sb 64 (eqI (lenL x2.1) 1) ?_ ?_
      · refine sg 22 (mkE [(68, B (eqI x3.1 5)), (67, B (eqI x3.1 5)), (66, B (eqI x3.1 5)), (65, I x3.1), (64, B true), (64, B (eqI (lenL x2.1) 1)), (63, B (eqI (lenL x2.1) 1)), (62, B (eqI (lenL x2.1) 1)), (61, I (lenL x2.1)), (60, .own 176 0), (59, B true), (59, B (eqI x1.1 7)), (58, B (eqI x1.1 7)), (57, B (eqI x1.1 7)), (56, I x1.1), (55, B true), (55, B (eqI x6 0)), (54, B (eqI x6 0)), (53, I x6), (52, .own 416 0), (51, I x5.2), (50, I x4.2), (49, I x3.2), (48, I x2.2), (47, I x1.2), (1, I x1.1), (2, I x1.2), (3, .own 176 0), (4, I x2.2), (5, I x3.1), (6, I x3.2), (7, I x4.1), (8, I x4.2), (10, B x5.1), (11, I x5.2)] [(416, RR 31 1 I ([x1.2, x2.2, x3.2, x4.2, x5.2] : List Int) 0 false), (176, RR 93 2 a92 x2.1 0 false)] 75) ?_
        refine sb 68 (eqI x3.1 5) ?_ ?_
        · refine sg 26 (mkE [(72, B (eqI x4.1 500)), (71, B (eqI x4.1 500)), (70, B (eqI x4.1 500)), (69, I x4.1), (68, B true), (68, B (eqI x3.1 5)), (67, B (eqI x3.1 5)), (66, B (eqI x3.1 5)), (65, I x3.1), (64, B true), (64, B (eqI (lenL x2.1) 1)), (63, B (eqI (lenL x2.1) 1)), (62, B (eqI (lenL x2.1) 1)), (61, I (lenL x2.1)), (60, .own 176 0), (59, B true), (59, B (eqI x1.1 7)), (58, B (eqI x1.1 7)), (57, B (eqI x1.1 7)), (56, I x1.1), (55, B true), (55, B (eqI x6 0)), (54, B (eqI x6 0)), (53, I x6), (52, .own 416 0), (51, I x5.2), (50, I x4.2), (49, I x3.2), (48, I x2.2), (47, I x1.2), (1, I x1.1), (2, I x1.2), (3, .own 176 0), (4, I x2.2), (5, I x3.1), (6, I x3.2), (7, I x4.1), (8, I x4.2), (10, B x5.1), (11, I x5.2)] [(416, RR 31 1 I ([x1.2, x2.2, x3.2, x4.2, x5.2] : List Int) 0 false), (176, RR 93 2 a92 x2.1 0 false)] 75) ?_
          refine sb 72 (eqI x4.1 500) ?_ ?_
          · refine se (mkE [(0, B x5.1)] [] 75) ?_
            refine pN ?_
            refine pS ?_
            refine gE ?_
            exact pL
          · refine se (mkE [(0, B false)] [] 75) ?_
            refine pN ?_
            refine pS ?_
            refine gE ?_
            exact pL
        · refine se (mkE [(0, B false)] [] 75) ?_
          refine pN ?_
          refine pS ?_
          refine gE ?_
          exact pL
      · refine se (mkE [(0, B false)] [] 75) ?_
        refine pN ?_
        refine pS ?_
        refine gE ?_
        exact pL
    · refine se (mkE [(0, B false)] [] 75) ?_
      refine pN ?_
      refine pS ?_
      refine gE ?_
      exact pL
  · refine se (mkE [(0, B false)] [] 75) ?_
    refine pN ?_
    refine pS ?_
    refine gE ?_
    exact pL
theorem F26 (m : Nat) (hm : 10 ≤ m) : callA Tryz.prog cfg m 26 [] = (T26).map B := by
  obtain ⟨q, rfl⟩ : ∃ q, m = q + 1 := ⟨m - 1, by omega⟩
  exact (callA_body (fn := Tryz.f26) (c := body_ Tryz.f26) q _ (by kernel_rfl) (by kernel_rfl) (by kernel_rfl)).trans (B26 _ (fun p0 => F20 q (by omega) p0) (fun p0 => F22 q (by omega) p0) (fun p0 p1 p2 => F42 q (by omega) p0 p1 p2) (fun p0 p1 => F45 q (by omega) p0 p1) (fun p0 p1 p2 => F67 q (by omega) p0 p1 p2) (fun p0 p1 => F68 q (by omega) p0 p1))

noncomputable def T102 (p0 : Int) (p1 : Int) : Option Int := (bif (ltI p1 1) then (some 0) else ((remO .i64 p0 p1).bind fun x1 => (bif (ltI x1 0) then (some (addI .i64 x1 p1)) else (some x1))))
theorem B102 (C : Callee) (p0 : Int) (p1 : Int) : runs Tryz.prog C (cfg.fn 102) (finFn Tryz.prog (cfg.fn 102).byval Tryz.f102) [] (execA Tryz.prog C (cfg.fn 102) (nr Tryz.f102 []) (frame0 [I p0, I p1] 16 false)) = (T102 p0 p1).map I := by
  unfold T102
  refine gS 1 ?_
  refine gR 0 (rg Tryz.f102 0) ?_
  refine se (mkE [(0, I p0), (1, I p1)] [] 16) ?_
  refine pN ?_
  refine pS ?_
  refine gS 3 ?_
  refine gS 0 ?_
  refine gR 1 (rg Tryz.f102 1) ?_
  refine se (mkE [(0, I p0), (1, I p1), (6, B (ltI p1 1))] [] 16) ?_
  refine pN ?_
  refine pS ?_
  refine gC 6 (ltI p1 1) ?_ ?_
  · refine gS 0 ?_
    refine gR 2 (rg Tryz.f102 2) ?_
    refine se (mkE [(4, I 0)] [] 16) ?_
    refine pN ?_
    refine pS ?_
    refine gE ?_
    exact pL
  · refine gK ?_
    refine pN ?_
    refine pS ?_
    refine gS 4 ?_
    refine gR 3 (rg Tryz.f102 3) ?_
    refine sg 2 (mkE [(8, I p1), (7, I p0), (0, I p0), (1, I p1), (6, B (ltI p1 1))] [] 16) ?_
    refine vo 9 (remE 3 .i64 (.tmp 7) (.tmp 8) p0 p1) (fun x1 => ?_)
    refine se (mkE [(0, I x1), (1, I p1)] [] 16) ?_
    refine pN ?_
    refine pS ?_
    refine gS 6 ?_
    refine gS 0 ?_
    refine gR 4 (rg Tryz.f102 4) ?_
    refine se (mkE [(0, I x1), (1, I p1), (11, B (ltI x1 0))] [] 16) ?_
    refine pN ?_
    refine pS ?_
    refine gC 11 (ltI x1 0) ?_ ?_
    · refine gR 5 (rg Tryz.f102 5) ?_
      refine se (mkE [(0, I (addI .i64 x1 p1))] [] 16) ?_
      refine pN ?_
      refine pS ?_
      refine gS 0 ?_
      refine gR 6 (rg Tryz.f102 6) ?_
      refine se (mkE [(4, I (addI .i64 x1 p1))] [] 16) ?_
      refine pN ?_
      refine pS ?_
      refine gE ?_
      exact pL
    · refine gK ?_
      refine pN ?_
      refine pS ?_
      refine gS 0 ?_
      refine gR 6 (rg Tryz.f102 6) ?_
      refine se (mkE [(4, I x1)] [] 16) ?_
      refine pN ?_
      refine pS ?_
      refine gE ?_
      exact pL
theorem F102 (m : Nat) (hm : 1 ≤ m) (p0 : Int) (p1 : Int) : callA Tryz.prog cfg m 102 [I p0, I p1] = (T102 p0 p1).map I := by
  obtain ⟨q, rfl⟩ : ∃ q, m = q + 1 := ⟨m - 1, by omega⟩
  exact (callA_body (fn := Tryz.f102) (c := body_ Tryz.f102) q _ (by kernel_rfl) (by kernel_rfl) (by kernel_rfl)).trans (B102 _ p0 p1)

noncomputable def T57 (p0_c0 : (List Int)) (p0_c1 : Int) (p1 : Int) : Option (Int × (List Int) × Int) := (bif (eqI (lenL p0_c0) 0) then ((T102 (mulI .i64 (addI .i64 p0_c1 1) 7919) p1).bind fun x1 => (some (x1, p0_c0, (addI .i64 p0_c1 1)))) else ((remO .i64 (subI .i64 (addI .i64 p0_c1 1) 1) (lenL p0_c0)).bind fun x2 => ((quoO .i64 (subI .i64 (addI .i64 p0_c1 1) 1) (lenL p0_c0)).bind fun x3 => ((listAt p0_c0 x2).bind fun x4 => ((T102 x4 1073741824).bind fun x5 => ((T102 (addI .i64 x5 (mulI .i64 x3 (addI .i64 7919 x2))) p1).bind fun x6 => (some (x6, p0_c0, (addI .i64 p0_c1 1)))))))))
theorem B57 (C : Callee) (h102 : ∀ (p0 : Int) (p1 : Int), C 102 [I p0, I p1] = (T102 p0 p1).map I) (p0_c0 : (List Int)) (p0_c1 : Int) (p1 : Int) : runs Tryz.prog C (cfg.fn 57) (finFnI Tryz.prog Tryz.f57) [] (execA Tryz.prog C (cfg.fn 57) (nr Tryz.f57 []) (frame0 [.fb [LL I p0_c0, I p0_c1], I p1] 64 true)) = (T57 p0_c0 p0_c1 p1).map (fun (r : (Int × (List Int) × Int)) => AV.inp (I r.1) (.fb [LL I r.2.1, I r.2.2])) := by
  unfold T57
  let d_0 : List (Option Nat × REff) := [(some 27, qe (.ba 0 0)), (some 28, qe (.ba 0 0)), (some 29, qe (.ba 0 1)), (some 30, qe (I (addI .i64 p0_c1 1))), (some 31, qe (I (subI .i64 (addI .i64 p0_c1 1) 1))), (some 32, qe (.ba 0 0)), (some 33, qe (.ba 0 0)), (some 34, qe (.ba 0 0)), (some 35, qe (LL I p0_c0))]
  let d_1 : List (Option Nat × REff) := [(some 38, qe (.ba 0 0)), (some 39, qe (.ba 0 0)), (some 40, qe (.ba 0 1)), (some 41, qe (I (addI .i64 p0_c1 1))), (some 42, qe (I (subI .i64 (addI .i64 p0_c1 1) 1))), (some 43, qe (.ba 0 0)), (some 44, qe (.ba 0 0)), (some 45, qe (.ba 0 0)), (some 46, qe (LL I p0_c0))]
  let s_0 : List (Nat × AV) := [(36, I (lenL p0_c0)), (35, LL I p0_c0), (34, .ba 0 0), (33, .ba 0 0), (32, .ba 0 0), (31, I (subI .i64 (addI .i64 p0_c1 1) 1)), (30, I (addI .i64 p0_c1 1)), (29, .ba 0 1), (28, .ba 0 0), (27, .ba 0 0), (0, .ba 0 0), (1, I p1), (19, B (eqI (lenL p0_c0) 0))]
  let s_1 : List (Nat × AV) := [(47, I (lenL p0_c0)), (46, LL I p0_c0), (45, .ba 0 0), (44, .ba 0 0), (43, .ba 0 0), (42, I (subI .i64 (addI .i64 p0_c1 1) 1)), (41, I (addI .i64 p0_c1 1)), (40, .ba 0 1), (39, .ba 0 0), (38, .ba 0 0), (0, .ba 0 0), (1, I p1)]
  let s_2 : List (Nat × AV) := [(0, .ba 0 0), (1, I p1)]
  let o_0 : List (Nat × AObj) := [(0, .box [LL I p0_c0, I (addI .i64 p0_c1 1)] false)]
  refine gS 1 ?_
  refine gR 0 (rg Tryz.f57 0) ?_
  refine se (mkE s_2 [(0, .box [LL I p0_c0, I p0_c1] false)] ⟨64, true⟩) ?_
  refine pN ?_
  refine pS ?_
  refine gS 2 ?_
  refine gR 1 (rg Tryz.f57 1) ?_
  refine se (mkE s_2 o_0 ⟨64, true⟩) ?_
  refine pN ?_
  refine pS ?_
  refine gS 4 ?_
  refine gS 0 ?_
  refine gR 2 (rg Tryz.f57 2) ?_
  refine sg 4 (mkE ((17, LL I p0_c0) :: ((16, .ba 0 0) :: ((15, .ba 0 0) :: ((14, .ba 0 0) :: s_2)))) o_0 ⟨64, true⟩) ?_
  refine eo 18 (I (lenL p0_c0)) (lenE 22 I p0_c0) ?_
  refine se (mkE (s_2.append [(19, B (eqI (lenL p0_c0) 0))]) o_0 ⟨64, true⟩) ?_
  refine pN ?_
  refine pS ?_
  refine gC 19 (eqI (lenL p0_c0) 0) ?_ ?_
  · refine gS 0 ?_
    refine gR 3 (rg Tryz.f57 3) ?_
    refine sg 6 (mkE ((25, I p1) :: ((24, I (mulI .i64 (addI .i64 p0_c1 1) 7919)) :: ((23, I (addI .i64 p0_c1 1)) :: ((22, .ba 0 1) :: ((21, .ba 0 0) :: ((20, .ba 0 0) :: (s_2.append [(19, B (eqI (lenL p0_c0) 0))]))))))) o_0 ⟨64, true⟩) ?_
    refine co 26 [] (h102 (mulI .i64 (addI .i64 p0_c1 1) 7919) p1) (fun x1 => ?_)
    refine se (mkE [(0, .ba 0 0), (4, I x1)] o_0 ⟨64, true⟩) ?_
    refine pN ?_
    refine pS ?_
    refine gE ?_
    exact pL
  · refine gK ?_
    refine pN ?_
    refine pS ?_
    refine gS 5 ?_
    refine gD 4 12 (rg Tryz.f57 4) [0, 1, 2, 3, 4, 5, 6, 7, 8, 9, 10, 11] ?_
    refine dg 9 d_0 ?_
    refine df 36 (I (lenL p0_c0)) (mkE ((35, LL I p0_c0) :: ((34, .ba 0 0) :: ((33, .ba 0 0) :: ((32, .ba 0 0) :: (s_2.append [(19, B (eqI (lenL p0_c0) 0))]))))) o_0 ⟨64, true⟩) (lenE 22 I p0_c0) ?_
    refine dv 37 (mkE s_0 o_0 ⟨64, true⟩) (remE 3 .i64 (.tmp 31) (.tmp 36) (subI .i64 (addI .i64 p0_c1 1) 1) (lenL p0_c0)) (fun x2 => ?_)
    refine dg 12 (d_0.append ((some 36, qe (I (lenL p0_c0))) :: ((some 37, qe (I x2)) :: [(some 5, qe (I x2))]))) ?_
    refine de (mkE ((5, I x2) :: ((37, I x2) :: s_0)) o_0 ⟨64, true⟩) ?_
    refine se (mkE (s_2.append [(5, I x2)]) o_0 ⟨64, true⟩) ?_
    refine pN ?_
    refine pS ?_
    refine gS 6 ?_
    refine gD 5 12 (rg Tryz.f57 5) [0, 1, 2, 3, 4, 5, 6, 7, 8, 9, 10, 11] ?_
    refine dg 9 d_1 ?_
    refine df 47 (I (lenL p0_c0)) (mkE ((46, LL I p0_c0) :: ((45, .ba 0 0) :: ((44, .ba 0 0) :: ((43, .ba 0 0) :: (s_2.append [(5, I x2)]))))) o_0 ⟨64, true⟩) (lenE 22 I p0_c0) ?_
    refine dv 48 (mkE (s_1.append [(5, I x2)]) o_0 ⟨64, true⟩) (quoE 3 .i64 (.tmp 42) (.tmp 47) (subI .i64 (addI .i64 p0_c1 1) 1) (lenL p0_c0)) (fun x3 => ?_)
    refine dg 12 (d_1.append ((some 47, qe (I (lenL p0_c0))) :: ((some 48, qe (I x3)) :: [(some 6, qe (I x3))]))) ?_
    refine de (mkE ((6, I x3) :: ((48, I x3) :: (s_1.append [(5, I x2)]))) o_0 ⟨64, true⟩) ?_
    refine se (mkE (s_2.append ((5, I x2) :: [(6, I x3)])) o_0 ⟨64, true⟩) ?_
    refine pN ?_
    refine pS ?_
    refine gS 0 ?_
    refine gR 6 (rg Tryz.f57 6) ?_
    refine sg 5 (mkE ((53, I x2) :: ((52, LL I p0_c0) :: ((51, .ba 0 0) :: ((50, .ba 0 0) :: ((49, .ba 0 0) :: (s_2.append ((5, I x2) :: [(6, I x3)]))))))) o_0 ⟨64, true⟩) ?_
    refine vo 54 (addrE 22 3 1 I .i64 p0_c0 x2) (fun x4 => ?_)
    refine sg 7 (mkE ((55, I x4) :: ((54, .ia [I x4] 0) :: ((53, I x2) :: ((52, LL I p0_c0) :: ((51, .ba 0 0) :: ((50, .ba 0 0) :: ((49, .ba 0 0) :: (s_2.append ((5, I x2) :: [(6, I x3)]))))))))) o_0 ⟨64, true⟩) ?_
    refine co 56 [] (h102 x4 1073741824) (fun x5 => ?_)
    refine sg 14 (mkE ((62, I p1) :: ((61, I (addI .i64 x5 (mulI .i64 x3 (addI .i64 7919 x2)))) :: ((60, I (mulI .i64 x3 (addI .i64 7919 x2))) :: ((59, I (addI .i64 7919 x2)) :: ((58, I x2) :: ((57, I x3) :: ((56, I x5) :: ((55, I x4) :: ((54, .ia [I x4] 0) :: ((53, I x2) :: ((52, LL I p0_c0) :: ((51, .ba 0 0) :: ((50, .ba 0 0) :: ((49, .ba 0 0) :: (s_2.append ((5, I x2) :: [(6, I x3)])))))))))))))))) o_0 ⟨64, true⟩) ?_
    refine co 63 [] (h102 (addI .i64 x5 (mulI .i64 x3 (addI .i64 7919 x2))) p1) (fun x6 => ?_)
    refine se (mkE [(0, .ba 0 0), (4, I x6)] o_0 ⟨64, true⟩) ?_
    refine pN ?_
    refine pS ?_
    refine gE ?_
    exact pL
theorem F57 (m : Nat) (hm : 2 ≤ m) (p0_c0 : (List Int)) (p0_c1 : Int) (p1 : Int) : callA Tryz.prog cfg m 57 [.fb [LL I p0_c0, I p0_c1], I p1] = (T57 p0_c0 p0_c1 p1).map (fun (r : (Int × (List Int) × Int)) => AV.inp (I r.1) (.fb [LL I r.2.1, I r.2.2])) := by
  obtain ⟨q, rfl⟩ : ∃ q, m = q + 1 := ⟨m - 1, by omega⟩
  exact (callA_bodyI (fn := Tryz.f57) (c := body_ Tryz.f57) q _ (by kernel_rfl) (by kernel_rfl) (by kernel_rfl)).trans (B57 _ (fun p0 p1 => F102 q (by omega) p0 p1) p0_c0 p0_c1 p1)

end Go.Abs.TKQ
