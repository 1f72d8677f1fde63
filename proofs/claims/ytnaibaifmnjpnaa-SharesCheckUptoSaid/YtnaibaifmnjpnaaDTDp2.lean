import Derived.Test.YtnaibaifmnjpnaaDTDp1
set_option maxRecDepth 100000
set_option linter.unusedVariables false
namespace Go.Abs.TD
open Go.RowKit Go.Proofs Go.Abs
noncomputable def L60_4 (p0 : (List S53)) (z0 : Int) : Option (Int ⊕ ((Int × Bool) ⊕ Int)) := (bif (ltI z0 (lenL p0)) then ((listAt p0 z0).bind fun x1 => ((((T137 x1.f0).bind fun x2 => (bif (!x2) then (some (.inr 5)) else (bif (!eqS x1.f1 (ByteArray.mk #[])) then ((T137 x1.f1).bind fun x3 => (bif (!x3) then (some (.inr 5)) else (bif (ltI 0 z0) then ((listAt p0 (subI .i64 z0 1)).bind fun x4 => (bif (ltS x1.f0 x4.f0 || eqS x1.f0 x4.f0) then (some (.inr 7)) else ((T147 x1.f2).bind fun x5 => (bif (!x5) then (some (.inr 1)) else ((T126 x1.f4 0 1000000).bind fun x6 => (bif x6 then (some (.inr 1)) else ((T126 x1.f5 0 1000000).bind fun x7 => (bif x7 then (some (.inr 1)) else ((T126 x1.f6 0 1000000000).bind fun x8 => (bif x8 then (some (.inr 1)) else (some (.inl ())))))))))))) else ((T147 x1.f2).bind fun x9 => (bif (!x9) then (some (.inr 1)) else ((T126 x1.f4 0 1000000).bind fun x10 => (bif x10 then (some (.inr 1)) else ((T126 x1.f5 0 1000000).bind fun x11 => (bif x11 then (some (.inr 1)) else ((T126 x1.f6 0 1000000000).bind fun x12 => (bif x12 then (some (.inr 1)) else (some (.inl ()))))))))))))) else (bif (ltI 0 z0) then ((listAt p0 (subI .i64 z0 1)).bind fun x13 => (bif (ltS x1.f0 x13.f0 || eqS x1.f0 x13.f0) then (some (.inr 7)) else ((T147 x1.f2).bind fun x14 => (bif (!x14) then (some (.inr 1)) else ((T126 x1.f4 0 1000000).bind fun x15 => (bif x15 then (some (.inr 1)) else ((T126 x1.f5 0 1000000).bind fun x16 => (bif x16 then (some (.inr 1)) else ((T126 x1.f6 0 1000000000).bind fun x17 => (bif x17 then (some (.inr 1)) else (some (.inl ())))))))))))) else ((T147 x1.f2).bind fun x18 => (bif (!x18) then (some (.inr 1)) else ((T126 x1.f4 0 1000000).bind fun x19 => (bif x19 then (some (.inr 1)) else ((T126 x1.f5 0 1000000).bind fun x20 => (bif x20 then (some (.inr 1)) else ((T126 x1.f6 0 1000000000).bind fun x21 => (bif x21 then (some (.inr 1)) else (some (.inl ())))))))))))))) : Option (Unit ⊕ Int)).bind fun y22 => (Sum.elim (fun y22a => ((T148 x1.f3).bind fun x23 => (bif (neI x23 0) then (some (.inr (.inr x23))) else (some (.inl (addI .i64 z0 1)))))) (fun y22b => (some (.inr (.inr y22b)))) y22))) else (some (.inr (.inl (z0, (ltI z0 (lenL p0)))))))
theorem L60_4_ok (C : Callee) (h126 : ∀ (p0 : Int) (p1 : Int) (p2 : Int), C 126 [I p0, I p1, I p2] = (T126 p0 p1 p2).map B) (h137 : ∀ (p0 : ByteArray), C 137 [S p0] = (T137 p0).map B) (h147 : ∀ (p0 : S38), C 147 [a38 p0] = (T147 p0).map B) (h148 : ∀ (p0 : (List ByteArray)), C 148 [LL S p0] = (T148 p0).map I) (p0 : (List S53)) (z0 : Int) : runs Try.prog C (cfg.fn 60) (finLoop ((cfg.fn 60).keep 4) ((cfg.fn 60).al 4)) [] (execA Try.prog C (cfg.fn 60) (nr Try.f60 [false, false, true, false, true, true]) ((fun z0 : Int => (mkE [(0, LL a53 p0), (9, LL a53 p0), (10, I (lenL p0)), (11, I z0)] [] 73)) z0)) = (L60_4 p0 z0).map (Sum.elim (fun z => .inl ((fun z0 : Int => (mkE [(0, LL a53 p0), (9, LL a53 p0), (10, I (lenL p0)), (11, I z0)] [] 73)) z)) (fun x => .inr ((Sum.elim (fun (x : (Int × Bool)) => (.exit 0, (mkE [(0, LL a53 p0), (9, LL a53 p0), (10, I (lenL p0)), (11, I x.1), (12, B x.2)] [] 73))) (fun (x : Int) => (.ret, (mkE [(2, I x)] [] 73)))) x))) := by
  unfold L60_4
  let d_0 : List (Option Nat × REff) := [(some 33, qe (I z0)), (some 34, qe (B (ltI 0 z0))), (some 35, qe (B false)), (some 36, qe (.und)), (some 37, qe (.und)), (some 38, qe (.und)), (some 39, qe (.und)), (some 40, qe (.und)), (some 41, qe (.und)), (some 42, qe (.und)), (some 43, qe (.und)), (some 44, qe (.und)), (some 45, qe (B false)), (some 32, qe (B false))]
  let d_1 : List (Option Nat × REff) := [(some 33, qe (I z0)), (some 34, qe (B (ltI 0 z0))), (some 35, qe (B true)), (some 36, qe (.ba 32 0))]
  let d_2 : List (Option Nat × REff) := [(some 38, qe (LL a53 p0)), (some 39, qe (I z0)), (some 40, qe (I (subI .i64 z0 1)))]
  let s_0 : List (Nat × AV) := [(0, LL a53 p0), (4, .ba 32 0), (9, LL a53 p0), (10, I (lenL p0)), (11, I z0)]
  let s_1 : List (Nat × AV) := [(0, LL a53 p0), (3, I z0), (4, .ba 32 0), (9, LL a53 p0), (10, I (lenL p0)), (11, I z0)]
  let s_2 : List (Nat × AV) := [(52, .ba 32 5), (51, B false)]
  let s_3 : List (Nat × AV) := [(57, .ba 32 6), (56, B false)]
  let s_4 : List (Nat × AV) := [(47, .ba 32 2)]
  let s_5 : List (Nat × AV) := [(32, B false), (45, B false), (44, .und), (43, .und), (42, .und), (41, .und), (40, .und), (39, .und), (38, .und), (37, .und), (36, .und), (35, B false), (34, B (ltI 0 z0)), (33, I z0)]
  let s_6 : List (Nat × AV) := [(40, I (subI .i64 z0 1)), (39, I z0), (38, LL a53 p0)]
  refine gS 0 ?_
  refine gR 4 (rg Try.f60 4) ?_
  refine se (mkE [(0, LL a53 p0), (9, LL a53 p0), (10, I (lenL p0)), (11, I z0), (12, B (ltI z0 (lenL p0)))] [] 73) ?_
  refine pN ?_
  refine pS ?_
  refine gS 5 ?_
  refine gC 12 (ltI z0 (lenL p0)) ?_ ?_
  · refine gK ?_
    refine pN ?_
    refine pS ?_
    refine gS 15 ?_
    refine gB 1 ?_
    refine gS 6 ?_
    refine gR 5 (rg Try.f60 5) ?_
    refine sg 1 (mkE [(13, I z0), (0, LL a53 p0), (9, LL a53 p0), (10, I (lenL p0)), (11, I z0), (12, B (ltI z0 (lenL p0)))] [] 73) ?_
    refine vo 14 (addrE 29 54 8 a53 .i64 p0 z0) (fun x1 => ?_)
    refine se (mkE s_1 [(32, .box [S x1.f0, S x1.f1, I x1.f2.f0, I x1.f2.f1, LL S x1.f3, I x1.f4, I x1.f5, I x1.f6] false)] 73) ?_
    refine pN ?_
    refine pS ?_
    refine jS 12 (((T137 x1.f0).bind fun x2 => (bif (!x2) then (some (.inr 5)) else (bif (!eqS x1.f1 (ByteArray.mk #[])) then ((T137 x1.f1).bind fun x3 => (bif (!x3) then (some (.inr 5)) else (bif (ltI 0 z0) then ((listAt p0 (subI .i64 z0 1)).bind fun x4 => (bif (ltS x1.f0 x4.f0 || eqS x1.f0 x4.f0) then (some (.inr 7)) else ((T147 x1.f2).bind fun x5 => (bif (!x5) then (some (.inr 1)) else ((T126 x1.f4 0 1000000).bind fun x6 => (bif x6 then (some (.inr 1)) else ((T126 x1.f5 0 1000000).bind fun x7 => (bif x7 then (some (.inr 1)) else ((T126 x1.f6 0 1000000000).bind fun x8 => (bif x8 then (some (.inr 1)) else (some (.inl ())))))))))))) else ((T147 x1.f2).bind fun x9 => (bif (!x9) then (some (.inr 1)) else ((T126 x1.f4 0 1000000).bind fun x10 => (bif x10 then (some (.inr 1)) else ((T126 x1.f5 0 1000000).bind fun x11 => (bif x11 then (some (.inr 1)) else ((T126 x1.f6 0 1000000000).bind fun x12 => (bif x12 then (some (.inr 1)) else (some (.inl ()))))))))))))) else (bif (ltI 0 z0) then ((listAt p0 (subI .i64 z0 1)).bind fun x13 => (bif (ltS x1.f0 x13.f0 || eqS x1.f0 x13.f0) then (some (.inr 7)) else ((T147 x1.f2).bind fun x14 => (bif (!x14) then (some (.inr 1)) else ((T126 x1.f4 0 1000000).bind fun x15 => (bif x15 then (some (.inr 1)) else ((T126 x1.f5 0 1000000).bind fun x16 => (bif x16 then (some (.inr 1)) else ((T126 x1.f6 0 1000000000).bind fun x17 => (bif x17 then (some (.inr 1)) else (some (.inl ())))))))))))) else ((T147 x1.f2).bind fun x18 => (bif (!x18) then (some (.inr 1)) else ((T126 x1.f4 0 1000000).bind fun x19 => (bif x19 then (some (.inr 1)) else ((T126 x1.f5 0 1000000).bind fun x20 => (bif x20 then (some (.inr 1)) else ((T126 x1.f6 0 1000000000).bind fun x21 => (bif x21 then (some (.inr 1)) else (some (.inl ())))))))))))))) : Option (Unit ⊕ Int)) (Sum.elim (fun (x : Unit) => (.normal, (mkE s_0 [(32, .box [S x1.f0, S x1.f1, I x1.f2.f0, I x1.f2.f1, LL S x1.f3, I x1.f4, I x1.f5, I x1.f6] false)] 73))) (fun (x : Int) => (.ret, (mkE [(2, I x)] [] 73)))) ?_ (fun y22 => ?_)
    · refine gB 2 ?_
      refine gS 0 ?_
      refine gR 6 (rg Try.f60 6) ?_
      refine sg 2 (mkE ((18, S x1.f0) :: ((17, .ba 32 0) :: s_1)) [(32, .box [S x1.f0, S x1.f1, I x1.f2.f0, I x1.f2.f1, LL S x1.f3, I x1.f4, I x1.f5, I x1.f6] false)] 73) ?_
      refine co 19 [] (h137 x1.f0) (fun x2 => ?_)
      refine sg 5 (mkE ((21, B (!x2)) :: ((20, B (!x2)) :: ((19, B x2) :: ((18, S x1.f0) :: ((17, .ba 32 0) :: s_1))))) [(32, .box [S x1.f0, S x1.f1, I x1.f2.f0, I x1.f2.f1, LL S x1.f3, I x1.f4, I x1.f5, I x1.f6] false)] 73) ?_
      refine sb 21 (!x2) ?_ ?_
      · refine se (mkE (s_1.append [(16, B true)]) [(32, .box [S x1.f0, S x1.f1, I x1.f2.f0, I x1.f2.f1, LL S x1.f3, I x1.f4, I x1.f5, I x1.f6] false)] 73) ?_
        refine pN ?_
        refine pS ?_
        refine gT (.tmp 16) ?_
        refine gS 0 ?_
        refine gR 7 (rg Try.f60 7) ?_
        refine se (mkE [(2, I 5)] [] 73) ?_
        refine pN ?_
        refine pS ?_
        refine gE ?_
        exact pL
      · refine sg 9 (mkE ((25, B (!eqS x1.f1 (ByteArray.mk #[]))) :: ((24, B (!eqS x1.f1 (ByteArray.mk #[]))) :: ((23, S x1.f1) :: ((22, .ba 32 1) :: ((21, B false) :: ((21, B (!x2)) :: ((20, B (!x2)) :: ((19, B x2) :: ((18, S x1.f0) :: ((17, .ba 32 0) :: s_1)))))))))) [(32, .box [S x1.f0, S x1.f1, I x1.f2.f0, I x1.f2.f1, LL S x1.f3, I x1.f4, I x1.f5, I x1.f6] false)] 73) ?_
        refine sb 25 (!eqS x1.f1 (ByteArray.mk #[])) ?_ ?_
        · refine sg 11 (mkE ((27, S x1.f1) :: ((26, .ba 32 1) :: ((25, B true) :: ((25, B (!eqS x1.f1 (ByteArray.mk #[]))) :: ((24, B (!eqS x1.f1 (ByteArray.mk #[]))) :: ((23, S x1.f1) :: ((22, .ba 32 1) :: ((21, B false) :: ((21, B (!x2)) :: ((20, B (!x2)) :: ((19, B x2) :: ((18, S x1.f0) :: ((17, .ba 32 0) :: s_1))))))))))))) [(32, .box [S x1.f0, S x1.f1, I x1.f2.f0, I x1.f2.f1, LL S x1.f3, I x1.f4, I x1.f5, I x1.f6] false)] 73) ?_
          refine co 28 [] (h137 x1.f1) (fun x3 => ?_)
          refine se (mkE (s_1.append [(16, B (!x3))]) [(32, .box [S x1.f0, S x1.f1, I x1.f2.f0, I x1.f2.f1, LL S x1.f3, I x1.f4, I x1.f5, I x1.f6] false)] 73) ?_
          refine pN ?_
          refine pS ?_
          refine gC 16 (!x3) ?_ ?_
          · refine gS 0 ?_
            refine gR 7 (rg Try.f60 7) ?_
            refine se (mkE [(2, I 5)] [] 73) ?_
            refine pN ?_
            refine pS ?_
            refine gE ?_
            exact pL
          · refine gS 0 ?_
            refine gD 8 14 (rg Try.f60 8) [0, 1, 2, 3, 4, 5, 6, 7, 8, 9, 10, 11, 12, 13] ?_
            refine dg 3 [(some 33, qe (I z0)), (some 34, qe (B (ltI 0 z0))), (some 35, qe (B (ltI 0 z0)))] ?_
            refine db 2 35 (ltI 0 z0) ?_ ?_
            · refine dg 8 (d_1.append ((some 37, qe (S x1.f0)) :: d_2)) ?_
              refine dv 41 (mkE (s_6.append ((35, B true) :: ((34, B (ltI 0 z0)) :: ((33, I z0) :: (s_1.append [(16, B (!x3))]))))) [(32, .box [S x1.f0, S x1.f1, I x1.f2.f0, I x1.f2.f1, LL S x1.f3, I x1.f4, I x1.f5, I x1.f6] false)] 73) (addrE 29 54 8 a53 .i64 p0 (subI .i64 z0 1)) (fun x4 => ?_)
              refine dg 14 (d_1.append ((some 37, qe (S x1.f0)) :: (d_2.append ((some 41, qe (.ia [S x4.f0, S x4.f1, I x4.f2.f0, I x4.f2.f1, LL S x4.f3, I x4.f4, I x4.f5, I x4.f6] 0)) :: ((some 42, qe (.ia [S x4.f0, S x4.f1, I x4.f2.f0, I x4.f2.f1, LL S x4.f3, I x4.f4, I x4.f5, I x4.f6] 0)) :: ((some 43, qe (S x4.f0)) :: ((some 44, qe (B (ltS x1.f0 x4.f0 || eqS x1.f0 x4.f0))) :: ((some 45, qe (B (ltS x1.f0 x4.f0 || eqS x1.f0 x4.f0))) :: [(some 32, qe (B (ltS x1.f0 x4.f0 || eqS x1.f0 x4.f0)))])))))))) ?_
              refine de (mkE ((32, B (ltS x1.f0 x4.f0 || eqS x1.f0 x4.f0)) :: ((45, B (ltS x1.f0 x4.f0 || eqS x1.f0 x4.f0)) :: ((44, B (ltS x1.f0 x4.f0 || eqS x1.f0 x4.f0)) :: ((43, S x4.f0) :: ((42, .ia [S x4.f0, S x4.f1, I x4.f2.f0, I x4.f2.f1, LL S x4.f3, I x4.f4, I x4.f5, I x4.f6] 0) :: ((41, .ia [S x4.f0, S x4.f1, I x4.f2.f0, I x4.f2.f1, LL S x4.f3, I x4.f4, I x4.f5, I x4.f6] 0) :: (s_6.append ((37, S x1.f0) :: ((36, .ba 32 0) :: ((35, B true) :: ((34, B (ltI 0 z0)) :: ((33, I z0) :: (s_1.append [(16, B (!x3))]))))))))))))) [(32, .box [S x1.f0, S x1.f1, I x1.f2.f0, I x1.f2.f1, LL S x1.f3, I x1.f4, I x1.f5, I x1.f6] false)] 73) ?_
              refine se (mkE (s_0.append [(32, B (ltS x1.f0 x4.f0 || eqS x1.f0 x4.f0))]) [(32, .box [S x1.f0, S x1.f1, I x1.f2.f0, I x1.f2.f1, LL S x1.f3, I x1.f4, I x1.f5, I x1.f6] false)] 73) ?_
              refine pN ?_
              refine pS ?_
              refine gC 32 (ltS x1.f0 x4.f0 || eqS x1.f0 x4.f0) ?_ ?_
              · refine gS 0 ?_
                refine gR 9 (rg Try.f60 9) ?_
                refine se (mkE [(2, I 7)] [] 73) ?_
                refine pN ?_
                refine pS ?_
                refine gE ?_
                exact pL
              · refine gS 0 ?_
                refine gR 10 (rg Try.f60 10) ?_
                refine sg 2 (mkE ((48, a38 x1.f2) :: (s_4.append (s_0.append [(32, B (ltS x1.f0 x4.f0 || eqS x1.f0 x4.f0))]))) [(32, .box [S x1.f0, S x1.f1, I x1.f2.f0, I x1.f2.f1, LL S x1.f3, I x1.f4, I x1.f5, I x1.f6] false)] 73) ?_
                refine co 49 [] (h147 x1.f2) (fun x5 => ?_)
                refine sg 5 (mkE ((51, B (!x5)) :: ((50, B (!x5)) :: ((49, B x5) :: ((48, a38 x1.f2) :: (s_4.append (s_0.append [(32, B (ltS x1.f0 x4.f0 || eqS x1.f0 x4.f0))])))))) [(32, .box [S x1.f0, S x1.f1, I x1.f2.f0, I x1.f2.f1, LL S x1.f3, I x1.f4, I x1.f5, I x1.f6] false)] 73) ?_
                refine sb 51 (!x5) ?_ ?_
                · refine se (mkE (s_0.append [(46, B true)]) [(32, .box [S x1.f0, S x1.f1, I x1.f2.f0, I x1.f2.f1, LL S x1.f3, I x1.f4, I x1.f5, I x1.f6] false)] 73) ?_
                  refine pN ?_
                  refine pS ?_
                  refine gT (.tmp 46) ?_
                  refine gS 0 ?_
                  refine gR 11 (rg Try.f60 11) ?_
                  refine se (mkE [(2, I 1)] [] 73) ?_
                  refine pN ?_
                  refine pS ?_
                  refine gE ?_
                  exact pL
                · refine sg 7 (mkE ((53, I x1.f4) :: (s_2.append ((51, B (!x5)) :: ((50, B (!x5)) :: ((49, B x5) :: ((48, a38 x1.f2) :: (s_4.append (s_0.append [(32, B (ltS x1.f0 x4.f0 || eqS x1.f0 x4.f0))])))))))) [(32, .box [S x1.f0, S x1.f1, I x1.f2.f0, I x1.f2.f1, LL S x1.f3, I x1.f4, I x1.f5, I x1.f6] false)] 73) ?_
                  refine co 54 [] (h126 x1.f4 0 1000000) (fun x6 => ?_)
                  refine sg 10 (mkE ((56, B x6) :: ((55, B x6) :: ((54, B x6) :: ((53, I x1.f4) :: (s_2.append ((51, B (!x5)) :: ((50, B (!x5)) :: ((49, B x5) :: ((48, a38 x1.f2) :: (s_4.append (s_0.append [(32, B (ltS x1.f0 x4.f0 || eqS x1.f0 x4.f0))]))))))))))) [(32, .box [S x1.f0, S x1.f1, I x1.f2.f0, I x1.f2.f1, LL S x1.f3, I x1.f4, I x1.f5, I x1.f6] false)] 73) ?_
                  refine sb 56 x6 ?_ ?_
                  · refine se (mkE (s_0.append [(46, B true)]) [(32, .box [S x1.f0, S x1.f1, I x1.f2.f0, I x1.f2.f1, LL S x1.f3, I x1.f4, I x1.f5, I x1.f6] false)] 73) ?_
                    refine pN ?_
                    refine pS ?_
                    refine gT (.tmp 46) ?_
                    refine gS 0 ?_
                    refine gR 11 (rg Try.f60 11) ?_
                    refine se (mkE [(2, I 1)] [] 73) ?_
                    refine pN ?_
                    refine pS ?_
                    refine gE ?_
                    exact pL
                  · refine sg 12 (mkE ((58, I x1.f5) :: (s_3.append ((56, B x6) :: ((55, B x6) :: ((54, B x6) :: ((53, I x1.f4) :: (s_2.append ((51, B (!x5)) :: ((50, B (!x5)) :: ((49, B x5) :: ((48, a38 x1.f2) :: (s_4.append (s_0.append [(32, B (ltS x1.f0 x4.f0 || eqS x1.f0 x4.f0))]))))))))))))) [(32, .box [S x1.f0, S x1.f1, I x1.f2.f0, I x1.f2.f1, LL S x1.f3, I x1.f4, I x1.f5, I x1.f6] false)] 73) ?_
                    refine co 59 [] (h126 x1.f5 0 1000000) (fun x7 => ?_)
                    refine sg 15 (mkE ((61, B x7) :: ((60, B x7) :: ((59, B x7) :: ((58, I x1.f5) :: (s_3.append ((56, B x6) :: ((55, B x6) :: ((54, B x6) :: ((53, I x1.f4) :: (s_2.append ((51, B (!x5)) :: ((50, B (!x5)) :: ((49, B x5) :: ((48, a38 x1.f2) :: (s_4.append (s_0.append [(32, B (ltS x1.f0 x4.f0 || eqS x1.f0 x4.f0))])))))))))))))))) [(32, .box [S x1.f0, S x1.f1, I x1.f2.f0, I x1.f2.f1, LL S x1.f3, I x1.f4, I x1.f5, I x1.f6] false)] 73) ?_
                    refine sb 61 x7 ?_ ?_
                    · refine se (mkE (s_0.append [(46, B true)]) [(32, .box [S x1.f0, S x1.f1, I x1.f2.f0, I x1.f2.f1, LL S x1.f3, I x1.f4, I x1.f5, I x1.f6] false)] 73) ?_
                      refine pN ?_
                      refine pS ?_
                      refine gT (.tmp 46) ?_
                      refine gS 0 ?_
                      refine gR 11 (rg Try.f60 11) ?_
                      refine se (mkE [(2, I 1)] [] 73) ?_
                      refine pN ?_
                      refine pS ?_
                      refine gE ?_
                      exact pL
                    · refine sg 17 (mkE ((63, I x1.f6) :: ((62, .ba 32 7) :: ((61, B false) :: ((61, B x7) :: ((60, B x7) :: ((59, B x7) :: ((58, I x1.f5) :: (s_3.append ((56, B x6) :: ((55, B x6) :: ((54, B x6) :: ((53, I x1.f4) :: (s_2.append ((51, B (!x5)) :: ((50, B (!x5)) :: ((49, B x5) :: ((48, a38 x1.f2) :: (s_4.append (s_0.append [(32, B (ltS x1.f0 x4.f0 || eqS x1.f0 x4.f0))]))))))))))))))))))) [(32, .box [S x1.f0, S x1.f1, I x1.f2.f0, I x1.f2.f1, LL S x1.f3, I x1.f4, I x1.f5, I x1.f6] false)] 73) ?_
                      refine co 64 [] (h126 x1.f6 0 1000000000) (fun x8 => ?_)
                      refine se (mkE (s_0.append [(46, B x8)]) [(32, .box [S x1.f0, S x1.f1, I x1.f2.f0, I x1.f2.f1, LL S x1.f3, I x1.f4, I x1.f5, I x1.f6] false)] 73) ?_
                      refine pN ?_
                      refine pS ?_
                      refine gC 46 x8 ?_ ?_
                      · refine gS 0 ?_
                        refine gR 11 (rg Try.f60 11) ?_
                        refine se (mkE [(2, I 1)] [] 73) ?_
                        refine pN ?_
                        refine pS ?_
                        refine gE ?_
                        exact pL
                      · refine gK ?_
                        refine pB ?_
                        refine pG (mkE s_0 [(32, .box [S x1.f0, S x1.f1, I x1.f2.f0, I x1.f2.f1, LL S x1.f3, I x1.f4, I x1.f5, I x1.f6] false)] 73) ?_
                        exact pL
            · refine dg 14 d_0 ?_
              refine de (mkE (s_5.append (s_1.append [(16, B (!x3))])) [(32, .box [S x1.f0, S x1.f1, I x1.f2.f0, I x1.f2.f1, LL S x1.f3, I x1.f4, I x1.f5, I x1.f6] false)] 73) ?_
              refine se (mkE (s_0.append [(32, B false)]) [(32, .box [S x1.f0, S x1.f1, I x1.f2.f0, I x1.f2.f1, LL S x1.f3, I x1.f4, I x1.f5, I x1.f6] false)] 73) ?_
              refine pN ?_
              refine pS ?_
              refine gF (.tmp 32) ?_
              refine gS 0 ?_
              refine gR 10 (rg Try.f60 10) ?_
              refine sg 2 (mkE ((48, a38 x1.f2) :: (s_4.append (s_0.append [(32, B false)]))) [(32, .box [S x1.f0, S x1.f1, I x1.f2.f0, I x1.f2.f1, LL S x1.f3, I x1.f4, I x1.f5, I x1.f6] false)] 73) ?_
              refine co 49 [] (h147 x1.f2) (fun x9 => ?_)
              refine sg 5 (mkE ((51, B (!x9)) :: ((50, B (!x9)) :: ((49, B x9) :: ((48, a38 x1.f2) :: (s_4.append (s_0.append [(32, B false)])))))) [(32, .box [S x1.f0, S x1.f1, I x1.f2.f0, I x1.f2.f1, LL S x1.f3, I x1.f4, I x1.f5, I x1.f6] false)] 73) ?_
              refine sb 51 (!x9) ?_ ?_
              · refine se (mkE (s_0.append [(46, B true)]) [(32, .box [S x1.f0, S x1.f1, I x1.f2.f0, I x1.f2.f1, LL S x1.f3, I x1.f4, I x1.f5, I x1.f6] false)] 73) ?_
                refine pN ?_
                refine pS ?_
                refine gT (.tmp 46) ?_
                refine gS 0 ?_
                refine gR 11 (rg Try.f60 11) ?_
                refine se (mkE [(2, I 1)] [] 73) ?_
                refine pN ?_
                refine pS ?_
                refine gE ?_
                exact pL
              · refine sg 7 (mkE ((53, I x1.f4) :: (s_2.append ((51, B (!x9)) :: ((50, B (!x9)) :: ((49, B x9) :: ((48, a38 x1.f2) :: (s_4.append (s_0.append [(32, B false)])))))))) [(32, .box [S x1.f0, S x1.f1, I x1.f2.f0, I x1.f2.f1, LL S x1.f3, I x1.f4, I x1.f5, I x1.f6] false)] 73) ?_
                refine co 54 [] (h126 x1.f4 0 1000000) (fun x10 => ?_)
                refine sg 10 (mkE ((56, B x10) :: ((55, B x10) :: ((54, B x10) :: ((53, I x1.f4) :: (s_2.append ((51, B (!x9)) :: ((50, B (!x9)) :: ((49, B x9) :: ((48, a38 x1.f2) :: (s_4.append (s_0.append [(32, B false)]))))))))))) [(32, .box [S x1.f0, S x1.f1, I x1.f2.f0, I x1.f2.f1, LL S x1.f3, I x1.f4, I x1.f5, I x1.f6] false)] 73) ?_
                refine sb 56 x10 ?_ ?_
                · refine se (mkE (s_0.append [(46, B true)]) [(32, .box [S x1.f0, S x1.f1, I x1.f2.f0, I x1.f2.f1, LL S x1.f3, I x1.f4, I x1.f5, I x1.f6] false)] 73) ?_
                  refine pN ?_
                  refine pS ?_
                  refine gT (.tmp 46) ?_
                  refine gS 0 ?_
                  refine gR 11 (rg Try.f60 11) ?_
                  refine se (mkE [(2, I 1)] [] 73) ?_
                  refine pN ?_
                  refine pS ?_
                  refine gE ?_
                  exact pL
                · refine sg 12 (mkE ((58, I x1.f5) :: (s_3.append ((56, B x10) :: ((55, B x10) :: ((54, B x10) :: ((53, I x1.f4) :: (s_2.append ((51, B (!x9)) :: ((50, B (!x9)) :: ((49, B x9) :: ((48, a38 x1.f2) :: (s_4.append (s_0.append [(32, B false)]))))))))))))) [(32, .box [S x1.f0, S x1.f1, I x1.f2.f0, I x1.f2.f1, LL S x1.f3, I x1.f4, I x1.f5, I x1.f6] false)] 73) ?_
                  refine co 59 [] (h126 x1.f5 0 1000000) (fun x11 => ?_)
                  refine sg 15 (mkE ((61, B x11) :: ((60, B x11) :: ((59, B x11) :: ((58, I x1.f5) :: (s_3.append ((56, B x10) :: ((55, B x10) :: ((54, B x10) :: ((53, I x1.f4) :: (s_2.append ((51, B (!x9)) :: ((50, B (!x9)) :: ((49, B x9) :: ((48, a38 x1.f2) :: (s_4.append (s_0.append [(32, B false)])))))))))))))))) [(32, .box [S x1.f0, S x1.f1, I x1.f2.f0, I x1.f2.f1, LL S x1.f3, I x1.f4, I x1.f5, I x1.f6] false)] 73) ?_
                  refine sb 61 x11 ?_ ?_
                  · refine se (mkE (s_0.append [(46, B true)]) [(32, .box [S x1.f0, S x1.f1, I x1.f2.f0, I x1.f2.f1, LL S x1.f3, I x1.f4, I x1.f5, I x1.f6] false)] 73) ?_
                    refine pN ?_
                    refine pS ?_
                    refine gT (.tmp 46) ?_
                    refine gS 0 ?_
                    refine gR 11 (rg Try.f60 11) ?_
                    refine se (mkE [(2, I 1)] [] 73) ?_
                    refine pN ?_
                    refine pS ?_
                    refine gE ?_
                    exact pL
                  · refine sg 17 (mkE ((63, I x1.f6) :: ((62, .ba 32 7) :: ((61, B false) :: ((61, B x11) :: ((60, B x11) :: ((59, B x11) :: ((58, I x1.f5) :: (s_3.append ((56, B x10) :: ((55, B x10) :: ((54, B x10) :: ((53, I x1.f4) :: (s_2.append ((51, B (!x9)) :: ((50, B (!x9)) :: ((49, B x9) :: ((48, a38 x1.f2) :: (s_4.append (s_0.append [(32, B false)]))))))))))))))))))) [(32, .box [S x1.f0, S x1.f1, I x1.f2.f0, I x1.f2.f1, LL S x1.f3, I x1.f4, I x1.f5, I x1.f6] false)] 73) ?_
                    refine co 64 [] (h126 x1.f6 0 1000000000) (fun x12 => ?_)
                    refine se (mkE (s_0.append [(46, B x12)]) [(32, .box [S x1.f0, S x1.f1, I x1.f2.f0, I x1.f2.f1, LL S x1.f3, I x1.f4, I x1.f5, I x1.f6] false)] 73) ?_
                    refine pN ?_
                    refine pS ?_
                    refine gC 46 x12 ?_ ?_
                    · refine gS 0 ?_
                      refine gR 11 (rg Try.f60 11) ?_
                      refine se (mkE [(2, I 1)] [] 73) ?_
                      refine pN ?_
                      refine pS ?_
                      refine gE ?_
                      exact pL
                    · refine gK ?_
                      refine pB ?_
                      refine pG (mkE s_0 [(32, .box [S x1.f0, S x1.f1, I x1.f2.f0, I x1.f2.f1, LL S x1.f3, I x1.f4, I x1.f5, I x1.f6] false)] 73) ?_
                      exact pL
        · refine se (mkE (s_1.append [(16, B false)]) [(32, .box [S x1.f0, S x1.f1, I x1.f2.f0, I x1.f2.f1, LL S x1.f3, I x1.f4, I x1.f5, I x1.f6] false)] 73) ?_
          refine pN ?_
          refine pS ?_
          refine gF (.tmp 16) ?_
          refine gS 0 ?_
          refine gD 8 14 (rg Try.f60 8) [0, 1, 2, 3, 4, 5, 6, 7, 8, 9, 10, 11, 12, 13] ?_
          refine dg 3 [(some 33, qe (I z0)), (some 34, qe (B (ltI 0 z0))), (some 35, qe (B (ltI 0 z0)))] ?_
          refine db 2 35 (ltI 0 z0) ?_ ?_
          · refine dg 8 (d_1.append ((some 37, qe (S x1.f0)) :: d_2)) ?_
            refine dv 41 (mkE (s_6.append ((35, B true) :: ((34, B (ltI 0 z0)) :: ((33, I z0) :: (s_1.append [(16, B false)]))))) [(32, .box [S x1.f0, S x1.f1, I x1.f2.f0, I x1.f2.f1, LL S x1.f3, I x1.f4, I x1.f5, I x1.f6] false)] 73) (addrE 29 54 8 a53 .i64 p0 (subI .i64 z0 1)) (fun x13 => ?_)
            refine dg 14 (d_1.append ((some 37, qe (S x1.f0)) :: (d_2.append ((some 41, qe (.ia [S x13.f0, S x13.f1, I x13.f2.f0, I x13.f2.f1, LL S x13.f3, I x13.f4, I x13.f5, I x13.f6] 0)) :: ((some 42, qe (.ia [S x13.f0, S x13.f1, I x13.f2.f0, I x13.f2.f1, LL S x13.f3, I x13.f4, I x13.f5, I x13.f6] 0)) :: ((some 43, qe (S x13.f0)) :: ((some 44, qe (B (ltS x1.f0 x13.f0 || eqS x1.f0 x13.f0))) :: ((some 45, qe (B (ltS x1.f0 x13.f0 || eqS x1.f0 x13.f0))) :: [(some 32, qe (B (ltS x1.f0 x13.f0 || eqS x1.f0 x13.f0)))])))))))) ?_
            refine de (mkE ((32, B (ltS x1.f0 x13.f0 || eqS x1.f0 x13.f0)) :: ((45, B (ltS x1.f0 x13.f0 || eqS x1.f0 x13.f0)) :: ((44, B (ltS x1.f0 x13.f0 || eqS x1.f0 x13.f0)) :: ((43, S x13.f0) :: ((42, .ia [S x13.f0, S x13.f1, I x13.f2.f0, I x13.f2.f1, LL S x13.f3, I x13.f4, I x13.f5, I x13.f6] 0) :: ((41, .ia [S x13.f0, S x13.f1, I x13.f2.f0, I x13.f2.f1, LL S x13.f3, I x13.f4, I x13.f5, I x13.f6] 0) :: (s_6.append ((37, S x1.f0) :: ((36, .ba 32 0) :: ((35, B true) :: ((34, B (ltI 0 z0)) :: ((33, I z0) :: (s_1.append [(16, B false)]))))))))))))) [(32, .box [S x1.f0, S x1.f1, I x1.f2.f0, I x1.f2.f1, LL S x1.f3, I x1.f4, I x1.f5, I x1.f6] false)] 73) ?_
            refine se (mkE (s_0.append [(32, B (ltS x1.f0 x13.f0 || eqS x1.f0 x13.f0))]) [(32, .box [S x1.f0, S x1.f1, I x1.f2.f0, I x1.f2.f1, LL S x1.f3, I x1.f4, I x1.f5, I x1.f6] false)] 73) ?_
            refine pN ?_
            refine pS ?_
            refine gC 32 (ltS x1.f0 x13.f0 || eqS x1.f0 x13.f0) ?_ ?_
            · refine gS 0 ?_
              refine gR 9 (rg Try.f60 9) ?_
              refine se (mkE [(2, I 7)] [] 73) ?_
              refine pN ?_
              refine pS ?_
              refine gE ?_
              exact pL
            · refine gS 0 ?_
              refine gR 10 (rg Try.f60 10) ?_
              refine sg 2 (mkE ((48, a38 x1.f2) :: (s_4.append (s_0.append [(32, B (ltS x1.f0 x13.f0 || eqS x1.f0 x13.f0))]))) [(32, .box [S x1.f0, S x1.f1, I x1.f2.f0, I x1.f2.f1, LL S x1.f3, I x1.f4, I x1.f5, I x1.f6] false)] 73) ?_
              refine co 49 [] (h147 x1.f2) (fun x14 => ?_)
              refine sg 5 (mkE ((51, B (!x14)) :: ((50, B (!x14)) :: ((49, B x14) :: ((48, a38 x1.f2) :: (s_4.append (s_0.append [(32, B (ltS x1.f0 x13.f0 || eqS x1.f0 x13.f0))])))))) [(32, .box [S x1.f0, S x1.f1, I x1.f2.f0, I x1.f2.f1, LL S x1.f3, I x1.f4, I x1.f5, I x1.f6] false)] 73) ?_
              refine sb 51 (!x14) ?_ ?_
              · refine se (mkE (s_0.append [(46, B true)]) [(32, .box [S x1.f0, S x1.f1, I x1.f2.f0, I x1.f2.f1, LL S x1.f3, I x1.f4, I x1.f5, I x1.f6] false)] 73) ?_
                refine pN ?_
                refine pS ?_
                refine gT (.tmp 46) ?_
                refine gS 0 ?_
                refine gR 11 (rg Try.f60 11) ?_
                refine se (mkE [(2, I 1)] [] 73) ?_
                refine pN ?_
                refine pS ?_
                refine gE ?_
                exact pL
              · refine sg 7 (mkE ((53, I x1.f4) :: (s_2.append ((51, B (!x14)) :: ((50, B (!x14)) :: ((49, B x14) :: ((48, a38 x1.f2) :: (s_4.append (s_0.append [(32, B (ltS x1.f0 x13.f0 || eqS x1.f0 x13.f0))])))))))) [(32, .box [S x1.f0, S x1.f1, I x1.f2.f0, I x1.f2.f1, LL S x1.f3, I x1.f4, I x1.f5, I x1.f6] false)] 73) ?_
                refine co 54 [] (h126 x1.f4 0 1000000) (fun x15 => ?_)
                refine sg 10 (mkE ((56, B x15) :: ((55, B x15) :: ((54, B x15) :: ((53, I x1.f4) :: (s_2.append ((51, B (!x14)) :: ((50, B (!x14)) :: ((49, B x14) :: ((48, a38 x1.f2) :: (s_4.append (s_0.append [(32, B (ltS x1.f0 x13.f0 || eqS x1.f0 x13.f0))]))))))))))) [(32, .box [S x1.f0, S x1.f1, I x1.f2.f0, I x1.f2.f1, LL S x1.f3, I x1.f4, I x1.f5, I x1.f6] false)] 73) ?_
                refine sb 56 x15 ?_ ?_
                · refine se (mkE (s_0.append [(46, B true)]) [(32, .box [S x1.f0, S x1.f1, I x1.f2.f0, I x1.f2.f1, LL S x1.f3, I x1.f4, I x1.f5, I x1.f6] false)] 73) ?_
                  refine pN ?_
                  refine pS ?_
                  refine gT (.tmp 46) ?_
                  refine gS 0 ?_
                  refine gR 11 (rg Try.f60 11) ?_
                  refine se (mkE [(2, I 1)] [] 73) ?_
                  refine pN ?_
                  refine pS ?_
                  refine gE ?_
                  exact pL
                · refine sg 12 (mkE ((58, I x1.f5) :: (s_3.append ((56, B x15) :: ((55, B x15) :: ((54, B x15) :: ((53, I x1.f4) :: (s_2.append ((51, B (!x14)) :: ((50, B (!x14)) :: ((49, B x14) :: ((48, a38 x1.f2) :: (s_4.append (s_0.append [(32, B (ltS x1.f0 x13.f0 || eqS x1.f0 x13.f0))]))))))))))))) [(32, .box [S x1.f0, S x1.f1, I x1.f2.f0, I x1.f2.f1, LL S x1.f3, I x1.f4, I x1.f5, I x1.f6] false)] 73) ?_
                  refine co 59 [] (h126 x1.f5 0 1000000) (fun x16 => ?_)
                  refine sg 15 (mkE ((61, B x16) :: ((60, B x16) :: ((59, B x16) :: ((58, I x1.f5) :: (s_3.append ((56, B x15) :: ((55, B x15) :: ((54, B x15) :: ((53, I x1.f4) :: (s_2.append ((51, B (!x14)) :: ((50, B (!x14)) :: ((49, B x14) :: ((48, a38 x1.f2) :: (s_4.append (s_0.append [(32, B (ltS x1.f0 x13.f0 || eqS x1.f0 x13.f0))])))))))))))))))) [(32, .box [S x1.f0, S x1.f1, I x1.f2.f0, I x1.f2.f1, LL S x1.f3, I x1.f4, I x1.f5, I x1.f6] false)] 73) ?_
                  refine sb 61 x16 ?_ ?_
                  · refine se (mkE (s_0.append [(46, B true)]) [(32, .box [S x1.f0, S x1.f1, I x1.f2.f0, I x1.f2.f1, LL S x1.f3, I x1.f4, I x1.f5, I x1.f6] false)] 73) ?_
                    refine pN ?_
                    refine pS ?_
                    refine gT (.tmp 46) ?_
                    refine gS 0 ?_
                    refine gR 11 (rg Try.f60 11) ?_
                    refine se (mkE [(2, I 1)] [] 73) ?_
                    refine pN ?_
                    refine pS ?_
                    refine gE ?_
                    exact pL
                  · refine sg 17 (mkE ((63, I x1.f6) :: ((62, .ba 32 7) :: ((61, B false) :: ((61, B x16) :: ((60, B x16) :: ((59, B x16) :: ((58, I x1.f5) :: (s_3.append ((56, B x15) :: ((55, B x15) :: ((54, B x15) :: ((53, I x1.f4) :: (s_2.append ((51, B (!x14)) :: ((50, B (!x14)) :: ((49, B x14) :: ((48, a38 x1.f2) :: (s_4.append (s_0.append [(32, B (ltS x1.f0 x13.f0 || eqS x1.f0 x13.f0))]))))))))))))))))))) [(32, .box [S x1.f0, S x1.f1, I x1.f2.f0, I x1.f2.f1, LL S x1.f3, I x1.f4, I x1.f5, I x1.f6] false)] 73) ?_
                    refine co 64 [] (h126 x1.f6 0 1000000000) (fun x17 => ?_)
                    refine se (mkE (s_0.append [(46, B x17)]) [(32, .box [S x1.f0, S x1.f1, I x1.f2.f0, I x1.f2.f1, LL S x1.f3, I x1.f4, I x1.f5, I x1.f6] false)] 73) ?_
                    refine pN ?_
                    refine pS ?_
                    refine gC 46 x17 ?_ ?_
                    · refine gS 0 ?_
                      refine gR 11 (rg Try.f60 11) ?_
                      refine se (mkE [(2, I 1)] [] 73) ?_
                      refine pN ?_
                      refine pS ?_
                      refine gE ?_
                      exact pL
                    · refine gK ?_
                      refine pB ?_
                      refine pG (mkE s_0 [(32, .box [S x1.f0, S x1.f1, I x1.f2.f0, I x1.f2.f1, LL S x1.f3, I x1.f4, I x1.f5, I x1.f6] false)] 73) ?_
                      exact pL
          · refine dg 14 d_0 ?_
            refine de (mkE (s_5.append (s_1.append [(16, B false)])) [(32, .box [S x1.f0, S x1.f1, I x1.f2.f0, I x1.f2.f1, LL S x1.f3, I x1.f4, I x1.f5, I x1.f6] false)] 73) ?_
            refine se (mkE (s_0.append [(32, B false)]) [(32, .box [S x1.f0, S x1.f1, I x1.f2.f0, I x1.f2.f1, LL S x1.f3, I x1.f4, I x1.f5, I x1.f6] false)] 73) ?_
            refine pN ?_
            refine pS ?_
            refine gF (.tmp 32) ?_
            refine gS 0 ?_
            refine gR 10 (rg Try.f60 10) ?_
            refine sg 2 (mkE ((48, a38 x1.f2) :: (s_4.append (s_0.append [(32, B false)]))) [(32, .box [S x1.f0, S x1.f1, I x1.f2.f0, I x1.f2.f1, LL S x1.f3, I x1.f4, I x1.f5, I x1.f6] false)] 73) ?_
            refine co 49 [] (h147 x1.f2) (fun x18 => ?_)
            refine sg 5 (mkE ((51, B (!x18)) :: ((50, B (!x18)) :: ((49, B x18) :: ((48, a38 x1.f2) :: (s_4.append (s_0.append [(32, B false)])))))) [(32, .box [S x1.f0, S x1.f1, I x1.f2.f0, I x1.f2.f1, LL S x1.f3, I x1.f4, I x1.f5, I x1.f6] false)] 73) ?_
            refine sb 51 (!x18) ?_ ?_
            · refine se (mkE (s_0.append [(46, B true)]) [(32, .box [S x1.f0, S x1.f1, I x1.f2.f0, I x1.f2.f1, LL S x1.f3, I x1.f4, I x1.f5, I x1.f6] false)] 73) ?_
              refine pN ?_
              refine pS ?_
              refine gT (.tmp 46) ?_
              refine gS 0 ?_
              refine gR 11 (rg Try.f60 11) ?_
              refine se (mkE [(2, I 1)] [] 73) ?_
              refine pN ?_
              refine pS ?_
              refine gE ?_
              exact pL
            · refine sg 7 (mkE ((53, I x1.f4) :: (s_2.append ((51, B (!x18)) :: ((50, B (!x18)) :: ((49, B x18) :: ((48, a38 x1.f2) :: (s_4.append (s_0.append [(32, B false)])))))))) [(32, .box [S x1.f0, S x1.f1, I x1.f2.f0, I x1.f2.f1, LL S x1.f3, I x1.f4, I x1.f5, I x1.f6] false)] 73) ?_
              refine co 54 [] (h126 x1.f4 0 1000000) (fun x19 => ?_)
              refine sg 10 (mkE ((56, B x19) :: ((55, B x19) :: ((54, B x19) :: ((53, I x1.f4) :: (s_2.append ((51, B (!x18)) :: ((50, B (!x18)) :: ((49, B x18) :: ((48, a38 x1.f2) :: (s_4.append (s_0.append [(32, B false)]))))))))))) [(32, .box [S x1.f0, S x1.f1, I x1.f2.f0, I x1.f2.f1, LL S x1.f3, I x1.f4, I x1.f5, I x1.f6] false)] 73) ?_
              refine sb 56 x19 ?_ ?_
              · refine se (mkE (s_0.append [(46, B true)]) [(32, .box [S x1.f0, S x1.f1, I x1.f2.f0, I x1.f2.f1, LL S x1.f3, I x1.f4, I x1.f5, I x1.f6] false)] 73) ?_
                refine pN ?_
                refine pS ?_
                refine gT (.tmp 46) ?_
                refine gS 0 ?_
                refine gR 11 (rg Try.f60 11) ?_
                refine se (mkE [(2, I 1)] [] 73) ?_
                refine pN ?_
                refine pS ?_
                refine gE ?_
                exact pL
              · refine sg 12 (mkE ((58, I x1.f5) :: (s_3.append ((56, B x19) :: ((55, B x19) :: ((54, B x19) :: ((53, I x1.f4) :: (s_2.append ((51, B (!x18)) :: ((50, B (!x18)) :: ((49, B x18) :: ((48, a38 x1.f2) :: (s_4.append (s_0.append [(32, B false)]))))))))))))) [(32, .box [S x1.f0, S x1.f1, I x1.f2.f0, I x1.f2.f1, LL S x1.f3, I x1.f4, I x1.f5, I x1.f6] false)] 73) ?_
                refine co 59 [] (h126 x1.f5 0 1000000) (fun x20 => ?_)
                refine sg 15 (mkE ((61, B x20) :: ((60, B x20) :: ((59, B x20) :: ((58, I x1.f5) :: (s_3.append ((56, B x19) :: ((55, B x19) :: ((54, B x19) :: ((53, I x1.f4) :: (s_2.append ((51, B (!x18)) :: ((50, B (!x18)) :: ((49, B x18) :: ((48, a38 x1.f2) :: (s_4.append (s_0.append [(32, B false)])))))))))))))))) [(32, .box [S x1.f0, S x1.f1, I x1.f2.f0, I x1.f2.f1, LL S x1.f3, I x1.f4, I x1.f5, I x1.f6] false)] 73) ?_
                refine sb 61 x20 ?_ ?_
                · refine se (mkE (s_0.append [(46, B true)]) [(32, .box [S x1.f0, S x1.f1, I x1.f2.f0, I x1.f2.f1, LL S x1.f3, I x1.f4, I x1.f5, I x1.f6] false)] 73) ?_
                  refine pN ?_
                  refine pS ?_
                  refine gT (.tmp 46) ?_
                  refine gS 0 ?_
                  refine gR 11 (rg Try.f60 11) ?_
                  refine se (mkE [(2, I 1)] [] 73) ?_
                  refine pN ?_
                  refine pS ?_
                  refine gE ?_
                  exact pL
                · refine sg 17 (mkE ((63, I x1.f6) :: ((62, .ba 32 7) :: ((61, B false) :: ((61, B x20) :: ((60, B x20) :: ((59, B x20) :: ((58, I x1.f5) :: (s_3.append ((56, B x19) :: ((55, B x19) :: ((54, B x19) :: ((53, I x1.f4) :: (s_2.append ((51, B (!x18)) :: ((50, B (!x18)) :: ((49, B x18) :: ((48, a38 x1.f2) :: (s_4.append (s_0.append [(32, B false)]))))))))))))))))))) [(32, .box [S x1.f0, S x1.f1, I x1.f2.f0, I x1.f2.f1, LL S x1.f3, I x1.f4, I x1.f5, I x1.f6] false)] 73) ?_
                  refine co 64 [] (h126 x1.f6 0 1000000000) (fun x21 => ?_)
                  refine se (mkE (s_0.append [(46, B x21)]) [(32, .box [S x1.f0, S x1.f1, I x1.f2.f0, I x1.f2.f1, LL S x1.f3, I x1.f4, I x1.f5, I x1.f6] false)] 73) ?_
                  refine pN ?_
                  refine pS ?_
                  refine gC 46 x21 ?_ ?_
                  · refine gS 0 ?_
                    refine gR 11 (rg Try.f60 11) ?_
                    refine se (mkE [(2, I 1)] [] 73) ?_
                    refine pN ?_
                    refine pS ?_
                    refine gE ?_
                    exact pL
                  · refine gK ?_
                    refine pB ?_
                    refine pG (mkE s_0 [(32, .box [S x1.f0, S x1.f1, I x1.f2.f0, I x1.f2.f1, LL S x1.f3, I x1.f4, I x1.f5, I x1.f6] false)] 73) ?_
                    exact pL
    refine ss y22 (Z := (Sum.elim (fun (x : Unit) => (.normal, (mkE s_0 [(32, .box [S x1.f0, S x1.f1, I x1.f2.f0, I x1.f2.f1, LL S x1.f3, I x1.f4, I x1.f5, I x1.f6] false)] 73))) (fun (x : Int) => (.ret, (mkE [(2, I x)] [] 73))))) (fun y22a => ?_) (fun y22b => ?_)
    · refine pS ?_
      refine gS 13 ?_
      refine gR 12 (rg Try.f60 12) ?_
      refine sg 2 (mkE ((67, LL S x1.f3) :: ((66, .ba 32 4) :: s_0)) [(32, .box [S x1.f0, S x1.f1, I x1.f2.f0, I x1.f2.f1, LL S x1.f3, I x1.f4, I x1.f5, I x1.f6] false)] 73) ?_
      refine co 68 [] (h148 x1.f3) (fun x23 => ?_)
      refine se (mkE [(0, LL a53 p0), (5, I x23), (9, LL a53 p0), (10, I (lenL p0)), (11, I z0)] [] 73) ?_
      refine pN ?_
      refine pS ?_
      refine gS 0 ?_
      refine gR 13 (rg Try.f60 13) ?_
      refine se (mkE [(0, LL a53 p0), (5, I x23), (9, LL a53 p0), (10, I (lenL p0)), (11, I z0), (70, B (neI x23 0))] [] 73) ?_
      refine pN ?_
      refine pS ?_
      refine gC 70 (neI x23 0) ?_ ?_
      · refine gS 0 ?_
        refine gR 14 (rg Try.f60 14) ?_
        refine se (mkE [(2, I x23)] [] 73) ?_
        refine pN ?_
        refine pS ?_
        refine gE ?_
        exact pL
      · refine gK ?_
        refine pB ?_
        refine pN ?_
        refine pS ?_
        refine gR 15 (rg Try.f60 15) ?_
        refine se (mkE [(0, LL a53 p0), (9, LL a53 p0), (10, I (lenL p0)), (11, I (addI .i64 z0 1))] [] 73) ?_
        exact pL
    · exact pL
  · refine gX 0 ?_
    exact pL
noncomputable def T60 (p0 : (List S53)) : Option Int := (bif (ltI 30 (lenL p0)) then (some 2) else ((iter (L60_4 p0) 0).bind fun y24 => (Sum.elim (fun y24a => (some 0)) (fun y24b => (some y24b)) y24)))
theorem B60 (C : Callee) (h126 : ∀ (p0 : Int) (p1 : Int) (p2 : Int), C 126 [I p0, I p1, I p2] = (T126 p0 p1 p2).map B) (h137 : ∀ (p0 : ByteArray), C 137 [S p0] = (T137 p0).map B) (h147 : ∀ (p0 : S38), C 147 [a38 p0] = (T147 p0).map B) (h148 : ∀ (p0 : (List ByteArray)), C 148 [LL S p0] = (T148 p0).map I) (p0 : (List S53)) : runs Try.prog C (cfg.fn 60) (finFn Try.prog (cfg.fn 60).byval Try.f60) [] (execA Try.prog C (cfg.fn 60) (nr Try.f60 []) (frame0 [LL a53 p0] 73 false)) = (T60 p0).map I := by
  unfold T60
  let s_0 : List (Nat × AV) := [(0, LL a53 p0), (9, LL a53 p0), (10, I (lenL p0))]
  refine gS 1 ?_
  refine gR 0 (rg Try.f60 0) ?_
  refine se (mkE [(0, LL a53 p0)] [] 73) ?_
  refine pN ?_
  refine pS ?_
  refine gS 3 ?_
  refine gS 0 ?_
  refine gR 1 (rg Try.f60 1) ?_
  refine sg 1 (mkE [(6, LL a53 p0), (0, LL a53 p0)] [] 73) ?_
  refine eo 7 (I (lenL p0)) (lenE 29 a53 p0) ?_
  refine se (mkE [(0, LL a53 p0), (8, B (ltI 30 (lenL p0)))] [] 73) ?_
  refine pN ?_
  refine pS ?_
  refine gC 8 (ltI 30 (lenL p0)) ?_ ?_
  · refine gS 0 ?_
    refine gR 2 (rg Try.f60 2) ?_
    refine se (mkE [(2, I 2)] [] 73) ?_
    refine pN ?_
    refine pS ?_
    refine gE ?_
    exact pL
  · refine gK ?_
    refine pN ?_
    refine pS ?_
    refine gS 16 ?_
    refine gS 4 ?_
    refine gR 3 (rg Try.f60 3) ?_
    refine sg 1 (mkE [(9, LL a53 p0), (0, LL a53 p0), (8, B (ltI 30 (lenL p0)))] [] 73) ?_
    refine eo 10 (I (lenL p0)) (lenE 29 a53 p0) ?_
    refine se (mkE (s_0.append [(11, I 0)]) [] 73) ?_
    refine pN ?_
    refine pS ?_
    refine gB 0 ?_
    refine lo [(0, none), (9, none), (10, none), (11, none)] [] (L60_4 p0) (fun z0 : Int => (mkE (s_0.append [(11, I z0)]) [] 73)) (Sum.elim (fun (x : (Int × Bool)) => (.exit 0, (mkE (s_0.append ((11, I x.1) :: [(12, B x.2)])) [] 73))) (fun (x : Int) => (.ret, (mkE [(2, I x)] [] 73)))) 0 (fun z => L60_4_ok C h126 h137 h147 h148 p0 z) ?_
    intro y24
    refine ss y24 (Z := (Sum.elim (fun (x : (Int × Bool)) => (.exit 0, (mkE (s_0.append ((11, I x.1) :: [(12, B x.2)])) [] 73))) (fun (x : Int) => (.ret, (mkE [(2, I x)] [] 73))))) (fun y24a => ?_) (fun y24b => ?_)
    · refine pH ?_
      refine pN ?_
      refine pS ?_
      refine gS 0 ?_
      refine gR 16 (rg Try.f60 16) ?_
      refine se (mkE [(2, I 0)] [] 73) ?_
      refine pN ?_
      refine pS ?_
      refine gE ?_
      exact pL
    · exact pL
theorem F60 (m : Nat) (hm : 4 ≤ m) (p0 : (List S53)) : callA Try.prog cfg m 60 [LL a53 p0] = (T60 p0).map I := by
  obtain ⟨q, rfl⟩ : ∃ q, m = q + 1 := ⟨m - 1, by omega⟩
  exact (callA_body (fn := Try.f60) (c := body_ Try.f60) q _ (by kernel_rfl) (by kernel_rfl) (by kernel_rfl)).trans (B60 _ (fun p0 p1 p2 => F126 q (by omega) p0 p1 p2) (fun p0 => F137 q (by omega) p0) (fun p0 => F147 q (by omega) p0) (fun p0 => F148 q (by omega) p0) p0)

noncomputable def T150 (p0 : (List S90)) (p1 : (List S53)) : Option Int := ((T58 p0).bind fun x1 => (bif (neI x1 0) then (some x1) else ((T60 p1).bind fun x2 => (some x2))))
theorem B150 (C : Callee) (h58 : ∀ (p0 : (List S90)), C 58 [LL a90 p0] = (T58 p0).map I) (h60 : ∀ (p0 : (List S53)), C 60 [LL a53 p0] = (T60 p0).map I) (p0 : (List S90)) (p1 : (List S53)) : runs Try.prog C (cfg.fn 150) (finFn Try.prog (cfg.fn 150).byval Try.f150) [] (execA Try.prog C (cfg.fn 150) (nr Try.f150 []) (frame0 [LL a90 p0, LL a53 p1] 13 false)) = (T150 p0 p1).map I := by
  unfold T150
  refine gS 1 ?_
  refine gR 0 (rg Try.f150 0) ?_
  refine se (mkE [(0, LL a90 p0), (1, LL a53 p1)] [] 13) ?_
  refine pN ?_
  refine pS ?_
  refine gS 4 ?_
  refine gS 2 ?_
  refine gR 1 (rg Try.f150 1) ?_
  refine sg 1 (mkE [(6, LL a90 p0), (0, LL a90 p0), (1, LL a53 p1)] [] 13) ?_
  refine co 7 [] (h58 p0) (fun x1 => ?_)
  refine se (mkE [(1, LL a53 p1), (5, I x1)] [] 13) ?_
  refine pN ?_
  refine pS ?_
  refine gS 0 ?_
  refine gR 2 (rg Try.f150 2) ?_
  refine se (mkE [(1, LL a53 p1), (5, I x1), (9, B (neI x1 0))] [] 13) ?_
  refine pN ?_
  refine pS ?_
  refine gC 9 (neI x1 0) ?_ ?_
  · refine gS 0 ?_
    refine gR 3 (rg Try.f150 3) ?_
    refine se (mkE [(4, I x1)] [] 13) ?_
    refine pN ?_
    refine pS ?_
    refine gE ?_
    exact pL
  · refine gK ?_
    refine pN ?_
    refine pS ?_
    refine gS 0 ?_
    refine gR 4 (rg Try.f150 4) ?_
    refine sg 1 (mkE [(11, LL a53 p1), (1, LL a53 p1), (5, I x1), (9, B (neI x1 0))] [] 13) ?_
    refine co 12 [] (h60 p1) (fun x2 => ?_)
    refine se (mkE [(4, I x2)] [] 13) ?_
    refine pN ?_
    refine pS ?_
    refine gE ?_
    exact pL
theorem F150 (m : Nat) (hm : 5 ≤ m) (p0 : (List S90)) (p1 : (List S53)) : callA Try.prog cfg m 150 [LL a90 p0, LL a53 p1] = (T150 p0 p1).map I := by
  obtain ⟨q, rfl⟩ : ∃ q, m = q + 1 := ⟨m - 1, by omega⟩
  exact (callA_body (fn := Try.f150) (c := body_ Try.f150) q _ (by kernel_rfl) (by kernel_rfl) (by kernel_rfl)).trans (B150 _ (fun p0 => F58 q (by omega) p0) (fun p0 => F60 q (by omega) p0) p0 p1)

theorem F246 (m : Nat) (hm : 1 ≤ m) (p0 : ByteArray) (p1 : ByteArray) : callA Try.prog cfg m 246 [S p0, S p1] = (some (cmpS p0 p1)).map I := by
  obtain ⟨q, rfl⟩ : ∃ q, m = q + 1 := ⟨m - 1, by omega⟩
  exact (callA_leaf (L := leafCmp) _ _ (by kernel_rfl)).trans (rfl)

noncomputable def T195 (p0 : ByteArray) (p1 : ByteArray) : Option Int := ((some (cmpS p0 p1)).bind fun x1 => (some x1))
theorem B195 (C : Callee) (h246 : ∀ (p0 : ByteArray) (p1 : ByteArray), C 246 [S p0, S p1] = (some (cmpS p0 p1)).map I) (p0 : ByteArray) (p1 : ByteArray) : runs Try.prog C (cfg.fn 195) (finFn Try.prog (cfg.fn 195).byval Try.f195) [] (execA Try.prog C (cfg.fn 195) (nr Try.f195 []) (frame0 [S p0, S p1] 8 false)) = (T195 p0 p1).map I := by
  unfold T195
  refine gS 1 ?_
  refine gR 0 (rg Try.f195 0) ?_
  refine se (mkE [(0, S p0), (1, S p1)] [] 8) ?_
  refine pN ?_
  refine pS ?_
  refine gS 0 ?_
  refine gR 1 (rg Try.f195 1) ?_
  refine sg 2 (mkE [(6, S p1), (5, S p0), (0, S p0), (1, S p1)] [] 8) ?_
  refine co 7 [] (h246 p0 p1) (fun x1 => ?_)
  refine se (mkE [(4, I x1)] [] 8) ?_
  refine pN ?_
  refine pS ?_
  refine gE ?_
  exact pL
theorem F195 (m : Nat) (hm : 2 ≤ m) (p0 : ByteArray) (p1 : ByteArray) : callA Try.prog cfg m 195 [S p0, S p1] = (T195 p0 p1).map I := by
  obtain ⟨q, rfl⟩ : ∃ q, m = q + 1 := ⟨m - 1, by omega⟩
  exact (callA_body (fn := Try.f195) (c := body_ Try.f195) q _ (by kernel_rfl) (by kernel_rfl) (by kernel_rfl)).trans (B195 _ (fun p0 p1 => F246 q (by omega) p0 p1) p0 p1)

noncomputable def T272 (p0 : S53) (p1 : ByteArray) : Option Int := ((T195 p0.f0 p1).bind fun x1 => (some x1))
theorem B272 (C : Callee) (h195 : ∀ (p0 : ByteArray) (p1 : ByteArray), C 195 [S p0, S p1] = (T195 p0 p1).map I) (p0 : S53) (p1 : ByteArray) : runs Try.prog C (cfg.fn 272) (finFn Try.prog (cfg.fn 272).byval Try.f272) [] (execA Try.prog C (cfg.fn 272) (nr Try.f272 []) (frame0 [a53 p0, S p1] 9 false)) = (T272 p0 p1).map I := by
  unfold T272
  refine gS 1 ?_
  refine gR 0 (rg Try.f272 0) ?_
  refine se (mkE [(1, S p1), (2, .ba 16 0)] [(16, .box [S p0.f0, S p0.f1, I p0.f2.f0, I p0.f2.f1, LL S p0.f3, I p0.f4, I p0.f5, I p0.f6] false)] 9) ?_
  refine pN ?_
  refine pS ?_
  refine gS 0 ?_
  refine gR 1 (rg Try.f272 1) ?_
  refine sg 3 (mkE [(7, S p1), (6, S p0.f0), (5, .ba 16 0), (1, S p1), (2, .ba 16 0)] [(16, .box [S p0.f0, S p0.f1, I p0.f2.f0, I p0.f2.f1, LL S p0.f3, I p0.f4, I p0.f5, I p0.f6] false)] 9) ?_
  refine co 8 [] (h195 p0.f0 p1) (fun x1 => ?_)
  refine se (mkE [(4, I x1)] [] 9) ?_
  refine pN ?_
  refine pS ?_
  refine gE ?_
  exact pL
theorem F272 (m : Nat) (hm : 3 ≤ m) (p0 : S53) (p1 : ByteArray) : callA Try.prog cfg m 272 [a53 p0, S p1] = (T272 p0 p1).map I := by
  obtain ⟨q, rfl⟩ : ∃ q, m = q + 1 := ⟨m - 1, by omega⟩
  exact (callA_body (fn := Try.f272) (c := body_ Try.f272) q _ (by kernel_rfl) (by kernel_rfl) (by kernel_rfl)).trans (B272 _ (fun p0 p1 => F195 q (by omega) p0 p1) p0 p1)

noncomputable def L271_3 (p0 : (List S53)) (p1 : ByteArray) (z0 : (Int × Int)) : Option ((Int × Int) ⊕ (Int × Int × Bool)) := (bif (ltI z0.1 z0.2) then ((listAt p0 (cvI .i64 (shrI (cvI .u64 (addI .i64 z0.1 z0.2)) 1))).bind fun x1 => ((T272 x1 p1).bind fun x2 => (bif (ltI x2 0) then (some (.inl ((addI .i64 (cvI .i64 (shrI (cvI .u64 (addI .i64 z0.1 z0.2)) 1)) 1), z0.2))) else (some (.inl (z0.1, (cvI .i64 (shrI (cvI .u64 (addI .i64 z0.1 z0.2)) 1)))))))) else (some (.inr (z0.1, z0.2, (ltI z0.1 z0.2)))))
theorem L271_3_ok (C : Callee) (h272 : ∀ (p0 : S53) (p1 : ByteArray), C 272 [a53 p0, S p1] = (T272 p0 p1).map I) (p0 : (List S53)) (p1 : ByteArray) (z0 : (Int × Int)) : runs Try.prog C (cfg.fn 271) (finLoop ((cfg.fn 271).keep 3) ((cfg.fn 271).al 3)) [] (execA Try.prog C (cfg.fn 271) (nr Try.f271 [false, false, false, true, true, true]) ((fun z0 : (Int × Int) => (mkE [(0, LL a53 p0), (1, S p1), (2, .fn 272 []), (8, I (lenL p0)), (9, I z0.1), (10, I z0.2)] [] 49)) z0)) = (L271_3 p0 p1 z0).map (Sum.elim (fun z => .inl ((fun z0 : (Int × Int) => (mkE [(0, LL a53 p0), (1, S p1), (2, .fn 272 []), (8, I (lenL p0)), (9, I z0.1), (10, I z0.2)] [] 49)) z)) (fun x => .inr ((fun (x : (Int × Int × Bool)) => (.exit 0, (mkE [(0, LL a53 p0), (1, S p1), (2, .fn 272 []), (8, I (lenL p0)), (9, I x.1), (10, I x.2.1), (17, B x.2.2)] [] 49))) x))) := by
  unfold L271_3
  let s_0 : List (Nat × AV) := [(0, LL a53 p0), (1, S p1), (2, .fn 272 []), (8, I (lenL p0)), (9, I z0.1), (10, I z0.2), (11, I (cvI .i64 (shrI (cvI .u64 (addI .i64 z0.1 z0.2)) 1)))]
  refine gS 4 ?_
  refine gS 0 ?_
  refine gR 3 (rg Try.f271 3) ?_
  refine se (mkE [(0, LL a53 p0), (1, S p1), (2, .fn 272 []), (8, I (lenL p0)), (9, I z0.1), (10, I z0.2), (17, B (ltI z0.1 z0.2))] [] 49) ?_
  refine pN ?_
  refine pS ?_
  refine gC 17 (ltI z0.1 z0.2) ?_ ?_
  · refine gK ?_
    refine pN ?_
    refine pS ?_
    refine gB 1 ?_
    refine gS 5 ?_
    refine gR 4 (rg Try.f271 4) ?_
    refine se (mkE s_0 [] 49) ?_
    refine pN ?_
    refine pS ?_
    refine gS 0 ?_
    refine gR 5 (rg Try.f271 5) ?_
    refine sg 3 (mkE ((26, I (cvI .i64 (shrI (cvI .u64 (addI .i64 z0.1 z0.2)) 1))) :: ((25, LL a53 p0) :: ((24, .fn 272 []) :: s_0))) [] 49) ?_
    refine vo 27 (addrE 29 54 8 a53 .i64 p0 (cvI .i64 (shrI (cvI .u64 (addI .i64 z0.1 z0.2)) 1))) (fun x1 => ?_)
    refine sg 6 (mkE ((29, S p1) :: ((28, a53 x1) :: ((27, .ia [S x1.f0, S x1.f1, I x1.f2.f0, I x1.f2.f1, LL S x1.f3, I x1.f4, I x1.f5, I x1.f6] 0) :: ((26, I (cvI .i64 (shrI (cvI .u64 (addI .i64 z0.1 z0.2)) 1))) :: ((25, LL a53 p0) :: ((24, .fn 272 []) :: s_0)))))) [] 49) ?_
    refine co 30 [] (h272 x1 p1) (fun x2 => ?_)
    refine se (mkE (s_0.append [(31, B (ltI x2 0))]) [] 49) ?_
    refine pN ?_
    refine pS ?_
    refine gC 31 (ltI x2 0) ?_ ?_
    · refine gR 6 (rg Try.f271 6) ?_
      refine se (mkE [(0, LL a53 p0), (1, S p1), (2, .fn 272 []), (8, I (lenL p0)), (9, I (addI .i64 (cvI .i64 (shrI (cvI .u64 (addI .i64 z0.1 z0.2)) 1)) 1)), (10, I z0.2)] [] 49) ?_
      refine pB ?_
      exact pL
    · refine gR 7 (rg Try.f271 7) ?_
      refine se (mkE [(0, LL a53 p0), (1, S p1), (2, .fn 272 []), (8, I (lenL p0)), (9, I z0.1), (10, I (cvI .i64 (shrI (cvI .u64 (addI .i64 z0.1 z0.2)) 1)))] [] 49) ?_
      refine pB ?_
      exact pL
  · refine gX 0 ?_
    exact pL
noncomputable def T271 (p0 : (List S53)) (p1 : ByteArray) : Option (Int × Bool) := ((iter (L271_3 p0 p1) (0, (lenL p0))).bind fun y3 => (bif (ltI y3.1 (lenL p0)) then ((listAt p0 y3.1).bind fun x4 => ((T272 x4 p1).bind fun x5 => (some (y3.1, (eqI x5 0))))) else (some (y3.1, false))))
theorem B271 (C : Callee) (h272 : ∀ (p0 : S53) (p1 : ByteArray), C 272 [a53 p0, S p1] = (T272 p0 p1).map I) (p0 : (List S53)) (p1 : ByteArray) : runs Try.prog C (cfg.fn 271) (finFn Try.prog (cfg.fn 271).byval Try.f271) [] (execA Try.prog C (cfg.fn 271) (nr Try.f271 []) (frame0 [LL a53 p0, S p1, .fn 272 []] 49 false)) = (T271 p0 p1).map (fun r => AV.tup [I r.1, B r.2]) := by
  unfold T271
  let s_0 : List (Nat × AV) := [(0, LL a53 p0), (1, S p1), (2, .fn 272 []), (8, I (lenL p0))]
  refine gS 1 ?_
  refine gR 0 (rg Try.f271 0) ?_
  refine se (mkE [(0, LL a53 p0), (1, S p1), (2, .fn 272 [])] [] 49) ?_
  refine pN ?_
  refine pS ?_
  refine gS 2 ?_
  refine gR 1 (rg Try.f271 1) ?_
  refine sg 1 (mkE [(12, LL a53 p0), (0, LL a53 p0), (1, S p1), (2, .fn 272 [])] [] 49) ?_
  refine eo 13 (I (lenL p0)) (lenE 29 a53 p0) ?_
  refine se (mkE s_0 [] 49) ?_
  refine pN ?_
  refine pS ?_
  refine gS 3 ?_
  refine gR 2 (rg Try.f271 2) ?_
  refine se (mkE (s_0.append ((9, I 0) :: [(10, I (lenL p0))])) [] 49) ?_
  refine pN ?_
  refine pS ?_
  refine gS 8 ?_
  refine gB 0 ?_
  refine lo [(0, none), (1, none), (2, none), (8, none), (9, none), (10, none)] [] (L271_3 p0 p1) (fun z0 : (Int × Int) => (mkE (s_0.append ((9, I z0.1) :: [(10, I z0.2)])) [] 49)) (fun (x : (Int × Int × Bool)) => (.exit 0, (mkE (s_0.append ((9, I x.1) :: ((10, I x.2.1) :: [(17, B x.2.2)]))) [] 49))) (0, (lenL p0)) (fun z => L271_3_ok C h272 p0 p1 z) ?_
  intro y3
  refine pH ?_
  refine pN ?_
  refine pS ?_
  refine gS 0 ?_
  refine gR 8 (rg Try.f271 8) ?_
  refine sg 5 (mkE ((39, B (ltI y3.1 (lenL p0))) :: ((38, B (ltI y3.1 (lenL p0))) :: ((37, I (lenL p0)) :: ((36, I y3.1) :: ((35, I y3.1) :: (s_0.append ((9, I y3.1) :: ((10, I y3.2.1) :: [(17, B y3.2.2)])))))))) [] 49) ?_
  refine sb 39 (ltI y3.1 (lenL p0)) ?_ ?_
  · refine sg 8 (mkE ((42, I y3.1) :: ((41, LL a53 p0) :: ((40, .fn 272 []) :: ((39, B true) :: ((39, B (ltI y3.1 (lenL p0))) :: ((38, B (ltI y3.1 (lenL p0))) :: ((37, I (lenL p0)) :: ((36, I y3.1) :: ((35, I y3.1) :: (s_0.append ((9, I y3.1) :: ((10, I y3.2.1) :: [(17, B y3.2.2)])))))))))))) [] 49) ?_
    refine vo 43 (addrE 29 54 8 a53 .i64 p0 y3.1) (fun x4 => ?_)
    refine sg 11 (mkE ((45, S p1) :: ((44, a53 x4) :: ((43, .ia [S x4.f0, S x4.f1, I x4.f2.f0, I x4.f2.f1, LL S x4.f3, I x4.f4, I x4.f5, I x4.f6] 0) :: ((42, I y3.1) :: ((41, LL a53 p0) :: ((40, .fn 272 []) :: ((39, B true) :: ((39, B (ltI y3.1 (lenL p0))) :: ((38, B (ltI y3.1 (lenL p0))) :: ((37, I (lenL p0)) :: ((36, I y3.1) :: ((35, I y3.1) :: (s_0.append ((9, I y3.1) :: ((10, I y3.2.1) :: [(17, B y3.2.2)]))))))))))))))) [] 49) ?_
    refine co 46 [] (h272 x4 p1) (fun x5 => ?_)
    refine se (mkE [(6, I y3.1), (7, B (eqI x5 0))] [] 49) ?_
    refine pN ?_
    refine pS ?_
    refine gE ?_
    exact pL
  · refine se (mkE [(6, I y3.1), (7, B false)] [] 49) ?_
    refine pN ?_
    refine pS ?_
    refine gE ?_
    exact pL
theorem F271 (m : Nat) (hm : 4 ≤ m) (p0 : (List S53)) (p1 : ByteArray) : callA Try.prog cfg m 271 [LL a53 p0, S p1, .fn 272 []] = (T271 p0 p1).map (fun r => AV.tup [I r.1, B r.2]) := by
  obtain ⟨q, rfl⟩ : ∃ q, m = q + 1 := ⟨m - 1, by omega⟩
  exact (callA_body (fn := Try.f271) (c := body_ Try.f271) q _ (by kernel_rfl) (by kernel_rfl) (by kernel_rfl)).trans (B271 _ (fun p0 p1 => F272 q (by omega) p0 p1) p0 p1)

noncomputable def T236 (p0 : (List S53)) (p1 : ByteArray) : Option (Int × Bool) := ((T271 p0 p1).bind fun x1 => (some (x1.1, x1.2)))
theorem B236 (C : Callee) (h271 : ∀ (p0 : (List S53)) (p1 : ByteArray), C 271 [LL a53 p0, S p1, .fn 272 []] = (T271 p0 p1).map (fun r => AV.tup [I r.1, B r.2])) (p0 : (List S53)) (p1 : ByteArray) : runs Try.prog C (cfg.fn 236) (finFn Try.prog (cfg.fn 236).byval Try.f236) [] (execA Try.prog C (cfg.fn 236) (nr Try.f236 []) (frame0 [LL a53 p0, S p1] 11 false)) = (T236 p0 p1).map (fun r => AV.tup [I r.1, B r.2]) := by
  unfold T236
  refine gS 1 ?_
  refine gR 0 (rg Try.f236 0) ?_
  refine se (mkE [(0, LL a53 p0), (1, S p1)] [] 11) ?_
  refine pN ?_
  refine pS ?_
  refine gS 0 ?_
  refine gR 1 (rg Try.f236 1) ?_
  refine sg 2 (mkE [(7, S p1), (6, LL a53 p0), (0, LL a53 p0), (1, S p1)] [] 11) ?_
  refine co 8 [] (h271 p0 p1) (fun x1 => ?_)
  refine se (mkE [(4, I x1.1), (5, B x1.2)] [] 11) ?_
  refine pN ?_
  refine pS ?_
  refine gE ?_
  exact pL
theorem F236 (m : Nat) (hm : 5 ≤ m) (p0 : (List S53)) (p1 : ByteArray) : callA Try.prog cfg m 236 [LL a53 p0, S p1] = (T236 p0 p1).map (fun r => AV.tup [I r.1, B r.2]) := by
  obtain ⟨q, rfl⟩ : ∃ q, m = q + 1 := ⟨m - 1, by omega⟩
  exact (callA_body (fn := Try.f236) (c := body_ Try.f236) q _ (by kernel_rfl) (by kernel_rfl) (by kernel_rfl)).trans (B236 _ (fun p0 p1 => F271 q (by omega) p0 p1) p0 p1)

noncomputable def T274 (p0 : S90) (p1 : ByteArray) : Option Int := ((T195 p0.f0 p1).bind fun x1 => (some x1))
theorem B274 (C : Callee) (h195 : ∀ (p0 : ByteArray) (p1 : ByteArray), C 195 [S p0, S p1] = (T195 p0 p1).map I) (p0 : S90) (p1 : ByteArray) : runs Try.prog C (cfg.fn 274) (finFn Try.prog (cfg.fn 274).byval Try.f274) [] (execA Try.prog C (cfg.fn 274) (nr Try.f274 []) (frame0 [a90 p0, S p1] 9 false)) = (T274 p0 p1).map I := by
  unfold T274
  refine gS 1 ?_
  refine gR 0 (rg Try.f274 0) ?_
  refine se (mkE [(1, S p1), (2, .ba 16 0)] [(16, .box [S p0.f0, I p0.f1.f0, I p0.f1.f1, I p0.f2, LL S p0.f3] false)] 9) ?_
  refine pN ?_
  refine pS ?_
  refine gS 0 ?_
  refine gR 1 (rg Try.f274 1) ?_
  refine sg 3 (mkE [(7, S p1), (6, S p0.f0), (5, .ba 16 0), (1, S p1), (2, .ba 16 0)] [(16, .box [S p0.f0, I p0.f1.f0, I p0.f1.f1, I p0.f2, LL S p0.f3] false)] 9) ?_
  refine co 8 [] (h195 p0.f0 p1) (fun x1 => ?_)
  refine se (mkE [(4, I x1)] [] 9) ?_
  refine pN ?_
  refine pS ?_
  refine gE ?_
  exact pL
theorem F274 (m : Nat) (hm : 3 ≤ m) (p0 : S90) (p1 : ByteArray) : callA Try.prog cfg m 274 [a90 p0, S p1] = (T274 p0 p1).map I := by
  obtain ⟨q, rfl⟩ : ∃ q, m = q + 1 := ⟨m - 1, by omega⟩
  exact (callA_body (fn := Try.f274) (c := body_ Try.f274) q _ (by kernel_rfl) (by kernel_rfl) (by kernel_rfl)).trans (B274 _ (fun p0 p1 => F195 q (by omega) p0 p1) p0 p1)

noncomputable def L273_3 (p0 : (List S90)) (p1 : ByteArray) (z0 : (Int × Int)) : Option ((Int × Int) ⊕ (Int × Int × Bool)) := (bif (ltI z0.1 z0.2) then ((listAt p0 (cvI .i64 (shrI (cvI .u64 (addI .i64 z0.1 z0.2)) 1))).bind fun x1 => ((T274 x1 p1).bind fun x2 => (bif (ltI x2 0) then (some (.inl ((addI .i64 (cvI .i64 (shrI (cvI .u64 (addI .i64 z0.1 z0.2)) 1)) 1), z0.2))) else (some (.inl (z0.1, (cvI .i64 (shrI (cvI .u64 (addI .i64 z0.1 z0.2)) 1)))))))) else (some (.inr (z0.1, z0.2, (ltI z0.1 z0.2)))))
theorem L273_3_ok (C : Callee) (h274 : ∀ (p0 : S90) (p1 : ByteArray), C 274 [a90 p0, S p1] = (T274 p0 p1).map I) (p0 : (List S90)) (p1 : ByteArray) (z0 : (Int × Int)) : runs Try.prog C (cfg.fn 273) (finLoop ((cfg.fn 273).keep 3) ((cfg.fn 273).al 3)) [] (execA Try.prog C (cfg.fn 273) (nr Try.f273 [false, false, false, true, true, true]) ((fun z0 : (Int × Int) => (mkE [(0, LL a90 p0), (1, S p1), (2, .fn 274 []), (8, I (lenL p0)), (9, I z0.1), (10, I z0.2)] [] 49)) z0)) = (L273_3 p0 p1 z0).map (Sum.elim (fun z => .inl ((fun z0 : (Int × Int) => (mkE [(0, LL a90 p0), (1, S p1), (2, .fn 274 []), (8, I (lenL p0)), (9, I z0.1), (10, I z0.2)] [] 49)) z)) (fun x => .inr ((fun (x : (Int × Int × Bool)) => (.exit 0, (mkE [(0, LL a90 p0), (1, S p1), (2, .fn 274 []), (8, I (lenL p0)), (9, I x.1), (10, I x.2.1), (17, B x.2.2)] [] 49))) x))) := by
  unfold L273_3
  let s_0 : List (Nat × AV) := [(0, LL a90 p0), (1, S p1), (2, .fn 274 []), (8, I (lenL p0)), (9, I z0.1), (10, I z0.2), (11, I (cvI .i64 (shrI (cvI .u64 (addI .i64 z0.1 z0.2)) 1)))]
  refine gS 4 ?_
  refine gS 0 ?_
  refine gR 3 (rg Try.f273 3) ?_
  refine se (mkE [(0, LL a90 p0), (1, S p1), (2, .fn 274 []), (8, I (lenL p0)), (9, I z0.1), (10, I z0.2), (17, B (ltI z0.1 z0.2))] [] 49) ?_
  refine pN ?_
  refine pS ?_
  refine gC 17 (ltI z0.1 z0.2) ?_ ?_
  · refine gK ?_
    refine pN ?_
    refine pS ?_
    refine gB 1 ?_
    refine gS 5 ?_
    refine gR 4 (rg Try.f273 4) ?_
    refine se (mkE s_0 [] 49) ?_
    refine pN ?_
    refine pS ?_
    refine gS 0 ?_
    refine gR 5 (rg Try.f273 5) ?_
    refine sg 3 (mkE ((26, I (cvI .i64 (shrI (cvI .u64 (addI .i64 z0.1 z0.2)) 1))) :: ((25, LL a90 p0) :: ((24, .fn 274 []) :: s_0))) [] 49) ?_
    refine vo 27 (addrE 28 91 5 a90 .i64 p0 (cvI .i64 (shrI (cvI .u64 (addI .i64 z0.1 z0.2)) 1))) (fun x1 => ?_)
    refine sg 6 (mkE ((29, S p1) :: ((28, a90 x1) :: ((27, .ia [S x1.f0, I x1.f1.f0, I x1.f1.f1, I x1.f2, LL S x1.f3] 0) :: ((26, I (cvI .i64 (shrI (cvI .u64 (addI .i64 z0.1 z0.2)) 1))) :: ((25, LL a90 p0) :: ((24, .fn 274 []) :: s_0)))))) [] 49) ?_
    refine co 30 [] (h274 x1 p1) (fun x2 => ?_)
    refine se (mkE (s_0.append [(31, B (ltI x2 0))]) [] 49) ?_
    refine pN ?_
    refine pS ?_
    refine gC 31 (ltI x2 0) ?_ ?_
    · refine gR 6 (rg Try.f273 6) ?_
      refine se (mkE [(0, LL a90 p0), (1, S p1), (2, .fn 274 []), (8, I (lenL p0)), (9, I (addI .i64 (cvI .i64 (shrI (cvI .u64 (addI .i64 z0.1 z0.2)) 1)) 1)), (10, I z0.2)] [] 49) ?_
      refine pB ?_
      exact pL
    · refine gR 7 (rg Try.f273 7) ?_
      refine se (mkE [(0, LL a90 p0), (1, S p1), (2, .fn 274 []), (8, I (lenL p0)), (9, I z0.1), (10, I (cvI .i64 (shrI (cvI .u64 (addI .i64 z0.1 z0.2)) 1)))] [] 49) ?_
      refine pB ?_
      exact pL
  · refine gX 0 ?_
    exact pL
noncomputable def T273 (p0 : (List S90)) (p1 : ByteArray) : Option (Int × Bool) := ((iter (L273_3 p0 p1) (0, (lenL p0))).bind fun y3 => (bif (ltI y3.1 (lenL p0)) then ((listAt p0 y3.1).bind fun x4 => ((T274 x4 p1).bind fun x5 => (some (y3.1, (eqI x5 0))))) else (some (y3.1, false))))
theorem B273 (C : Callee) (h274 : ∀ (p0 : S90) (p1 : ByteArray), C 274 [a90 p0, S p1] = (T274 p0 p1).map I) (p0 : (List S90)) (p1 : ByteArray) : runs Try.prog C (cfg.fn 273) (finFn Try.prog (cfg.fn 273).byval Try.f273) [] (execA Try.prog C (cfg.fn 273) (nr Try.f273 []) (frame0 [LL a90 p0, S p1, .fn 274 []] 49 false)) = (T273 p0 p1).map (fun r => AV.tup [I r.1, B r.2]) := by
  unfold T273
  let s_0 : List (Nat × AV) := [(0, LL a90 p0), (1, S p1), (2, .fn 274 []), (8, I (lenL p0))]
  refine gS 1 ?_
  refine gR 0 (rg Try.f273 0) ?_
  refine se (mkE [(0, LL a90 p0), (1, S p1), (2, .fn 274 [])] [] 49) ?_
  refine pN ?_
  refine pS ?_
  refine gS 2 ?_
  refine gR 1 (rg Try.f273 1) ?_
  refine sg 1 (mkE [(12, LL a90 p0), (0, LL a90 p0), (1, S p1), (2, .fn 274 [])] [] 49) ?_
  refine eo 13 (I (lenL p0)) (lenE 28 a90 p0) ?_
  refine se (mkE s_0 [] 49) ?_
  refine pN ?_
  refine pS ?_
  refine gS 3 ?_
  refine gR 2 (rg Try.f273 2) ?_
  refine se (mkE (s_0.append ((9, I 0) :: [(10, I (lenL p0))])) [] 49) ?_
  refine pN ?_
  refine pS ?_
  refine gS 8 ?_
  refine gB 0 ?_
  refine lo [(0, none), (1, none), (2, none), (8, none), (9, none), (10, none)] [] (L273_3 p0 p1) (fun z0 : (Int × Int) => (mkE (s_0.append ((9, I z0.1) :: [(10, I z0.2)])) [] 49)) (fun (x : (Int × Int × Bool)) => (.exit 0, (mkE (s_0.append ((9, I x.1) :: ((10, I x.2.1) :: [(17, B x.2.2)]))) [] 49))) (0, (lenL p0)) (fun z => L273_3_ok C h274 p0 p1 z) ?_
  intro y3
  refine pH ?_
  refine pN ?_
  refine pS ?_
  refine gS 0 ?_
  refine gR 8 (rg Try.f273 8) ?_
  refine sg 5 (mkE ((39, B (ltI y3.1 (lenL p0))) :: ((38, B (ltI y3.1 (lenL p0))) :: ((37, I (lenL p0)) :: ((36, I y3.1) :: ((35, I y3.1) :: (s_0.append ((9, I y3.1) :: ((10, I y3.2.1) :: [(17, B y3.2.2)])))))))) [] 49) ?_
  refine sb 39 (ltI y3.1 (lenL p0)) ?_ ?_
  · refine sg 8 (mkE ((42, I y3.1) :: ((41, LL a90 p0) :: ((40, .fn 274 []) :: ((39, B true) :: ((39, B (ltI y3.1 (lenL p0))) :: ((38, B (ltI y3.1 (lenL p0))) :: ((37, I (lenL p0)) :: ((36, I y3.1) :: ((35, I y3.1) :: (s_0.append ((9, I y3.1) :: ((10, I y3.2.1) :: [(17, B y3.2.2)])))))))))))) [] 49) ?_
    refine vo 43 (addrE 28 91 5 a90 .i64 p0 y3.1) (fun x4 => ?_)
    refine sg 11 (mkE ((45, S p1) :: ((44, a90 x4) :: ((43, .ia [S x4.f0, I x4.f1.f0, I x4.f1.f1, I x4.f2, LL S x4.f3] 0) :: ((42, I y3.1) :: ((41, LL a90 p0) :: ((40, .fn 274 []) :: ((39, B true) :: ((39, B (ltI y3.1 (lenL p0))) :: ((38, B (ltI y3.1 (lenL p0))) :: ((37, I (lenL p0)) :: ((36, I y3.1) :: ((35, I y3.1) :: (s_0.append ((9, I y3.1) :: ((10, I y3.2.1) :: [(17, B y3.2.2)]))))))))))))))) [] 49) ?_
    refine co 46 [] (h274 x4 p1) (fun x5 => ?_)
    refine se (mkE [(6, I y3.1), (7, B (eqI x5 0))] [] 49) ?_
    refine pN ?_
    refine pS ?_
    refine gE ?_
    exact pL
  · refine se (mkE [(6, I y3.1), (7, B false)] [] 49) ?_
    refine pN ?_
    refine pS ?_
    refine gE ?_
    exact pL
theorem F273 (m : Nat) (hm : 4 ≤ m) (p0 : (List S90)) (p1 : ByteArray) : callA Try.prog cfg m 273 [LL a90 p0, S p1, .fn 274 []] = (T273 p0 p1).map (fun r => AV.tup [I r.1, B r.2]) := by
  obtain ⟨q, rfl⟩ : ∃ q, m = q + 1 := ⟨m - 1, by omega⟩
  exact (callA_body (fn := Try.f273) (c := body_ Try.f273) q _ (by kernel_rfl) (by kernel_rfl) (by kernel_rfl)).trans (B273 _ (fun p0 p1 => F274 q (by omega) p0 p1) p0 p1)

noncomputable def T237 (p0 : (List S90)) (p1 : ByteArray) : Option (Int × Bool) := ((T273 p0 p1).bind fun x1 => (some (x1.1, x1.2)))
theorem B237 (C : Callee) (h273 : ∀ (p0 : (List S90)) (p1 : ByteArray), C 273 [LL a90 p0, S p1, .fn 274 []] = (T273 p0 p1).map (fun r => AV.tup [I r.1, B r.2])) (p0 : (List S90)) (p1 : ByteArray) : runs Try.prog C (cfg.fn 237) (finFn Try.prog (cfg.fn 237).byval Try.f237) [] (execA Try.prog C (cfg.fn 237) (nr Try.f237 []) (frame0 [LL a90 p0, S p1] 11 false)) = (T237 p0 p1).map (fun r => AV.tup [I r.1, B r.2]) := by
  unfold T237
  refine gS 1 ?_
  refine gR 0 (rg Try.f237 0) ?_
  refine se (mkE [(0, LL a90 p0), (1, S p1)] [] 11) ?_
  refine pN ?_
  refine pS ?_
  refine gS 0 ?_
  refine gR 1 (rg Try.f237 1) ?_
  refine sg 2 (mkE [(7, S p1), (6, LL a90 p0), (0, LL a90 p0), (1, S p1)] [] 11) ?_
  refine co 8 [] (h273 p0 p1) (fun x1 => ?_)
  refine se (mkE [(4, I x1.1), (5, B x1.2)] [] 11) ?_
  refine pN ?_
  refine pS ?_
  refine gE ?_
  exact pL
theorem F237 (m : Nat) (hm : 5 ≤ m) (p0 : (List S90)) (p1 : ByteArray) : callA Try.prog cfg m 237 [LL a90 p0, S p1] = (T237 p0 p1).map (fun r => AV.tup [I r.1, B r.2]) := by
  obtain ⟨q, rfl⟩ : ∃ q, m = q + 1 := ⟨m - 1, by omega⟩
  exact (callA_body (fn := Try.f237) (c := body_ Try.f237) q _ (by kernel_rfl) (by kernel_rfl) (by kernel_rfl)).trans (B237 _ (fun p0 p1 => F273 q (by omega) p0 p1) p0 p1)

noncomputable def T266 (p0 : ByteArray) (p1 : ByteArray) : Option Bool := ((T270 p0).bind fun x1 => (bif x1 then ((T270 p1).bind fun x2 => (bif (!x2) then (some true) else (some (ltS p0 p1)))) else (some (ltS p0 p1))))
theorem B266 (C : Callee) (h270 : ∀ (p0 : ByteArray), C 270 [S p0] = (T270 p0).map B) (p0 : ByteArray) (p1 : ByteArray) : runs Try.prog C (cfg.fn 266) (finFn Try.prog (cfg.fn 266).byval Try.f266) [] (execA Try.prog C (cfg.fn 266) (nr Try.f266 []) (frame0 [S p0, S p1] 17 false)) = (T266 p0 p1).map B := by
  unfold T266
  refine gS 1 ?_
  refine gR 0 (rg Try.f266 0) ?_
  refine se (mkE [(0, S p0), (1, S p1)] [] 17) ?_
  refine pN ?_
  refine pS ?_
  refine gS 0 ?_
  refine gR 1 (rg Try.f266 1) ?_
  refine sg 1 (mkE [(5, S p0), (0, S p0), (1, S p1)] [] 17) ?_
  refine co 6 [] (h270 p0) (fun x1 => ?_)
  refine sg 3 (mkE [(7, B x1), (6, B x1), (5, S p0), (0, S p0), (1, S p1)] [] 17) ?_
  refine sb 7 x1 ?_ ?_
  · refine sg 4 (mkE [(8, S p1), (7, B true), (7, B x1), (6, B x1), (5, S p0), (0, S p0), (1, S p1)] [] 17) ?_
    refine co 9 [] (h270 p1) (fun x2 => ?_)
    refine sg 8 (mkE [(12, B (!x2)), (11, B (!x2)), (10, B (!x2)), (9, B x2), (8, S p1), (7, B true), (7, B x1), (6, B x1), (5, S p0), (0, S p0), (1, S p1)] [] 17) ?_
    refine sb 12 (!x2) ?_ ?_
    · refine se (mkE [(4, B true)] [] 17) ?_
      refine pN ?_
      refine pS ?_
      refine gE ?_
      exact pL
    · refine se (mkE [(4, B (ltS p0 p1))] [] 17) ?_
      refine pN ?_
      refine pS ?_
      refine gE ?_
      exact pL
  · refine se (mkE [(4, B (ltS p0 p1))] [] 17) ?_
    refine pN ?_
    refine pS ?_
    refine gE ?_
    exact pL
theorem F266 (m : Nat) (hm : 2 ≤ m) (p0 : ByteArray) (p1 : ByteArray) : callA Try.prog cfg m 266 [S p0, S p1] = (T266 p0 p1).map B := by
  obtain ⟨q, rfl⟩ : ∃ q, m = q + 1 := ⟨m - 1, by omega⟩
  exact (callA_body (fn := Try.f266) (c := body_ Try.f266) q _ (by kernel_rfl) (by kernel_rfl) (by kernel_rfl)).trans (B266 _ (fun p0 => F270 q (by omega) p0) p0 p1)

noncomputable def T267 (p0 : ByteArray) : Option Bool := (some (!eqS p0 p0))
theorem B267 (C : Callee) (p0 : ByteArray) : runs Try.prog C (cfg.fn 267) (finFn Try.prog (cfg.fn 267).byval Try.f267) [] (execA Try.prog C (cfg.fn 267) (nr Try.f267 []) (frame0 [S p0] 6 false)) = (T267 p0).map B := by
  unfold T267
  refine gS 1 ?_
  refine gR 0 (rg Try.f267 0) ?_
  refine se (mkE [(0, S p0)] [] 6) ?_
  refine pN ?_
  refine pS ?_
  refine gS 0 ?_
  refine gR 1 (rg Try.f267 1) ?_
  refine se (mkE [(2, B (!eqS p0 p0))] [] 6) ?_
  refine pN ?_
  refine pS ?_
  refine gE ?_
  exact pL
theorem F267 (m : Nat) (hm : 1 ≤ m) (p0 : ByteArray) : callA Try.prog cfg m 267 [S p0] = (T267 p0).map B := by
  obtain ⟨q, rfl⟩ : ∃ q, m = q + 1 := ⟨m - 1, by omega⟩
  exact (callA_body (fn := Try.f267) (c := body_ Try.f267) q _ (by kernel_rfl) (by kernel_rfl) (by kernel_rfl)).trans (B267 _ p0)

noncomputable def L227_3 (p0 : (List ByteArray)) (p1 : ByteArray) (z0 : (Int × Int)) : Option ((Int × Int) ⊕ (Int × Int × Bool)) := (bif (ltI z0.1 z0.2) then ((listAt p0 (cvI .i64 (shrI (cvI .u64 (addI .i64 z0.1 z0.2)) 1))).bind fun x1 => ((T266 x1 p1).bind fun x2 => (bif x2 then (some (.inl ((addI .i64 (cvI .i64 (shrI (cvI .u64 (addI .i64 z0.1 z0.2)) 1)) 1), z0.2))) else (some (.inl (z0.1, (cvI .i64 (shrI (cvI .u64 (addI .i64 z0.1 z0.2)) 1)))))))) else (some (.inr (z0.1, z0.2, (ltI z0.1 z0.2)))))
theorem L227_3_ok (C : Callee) (h266 : ∀ (p0 : ByteArray) (p1 : ByteArray), C 266 [S p0, S p1] = (T266 p0 p1).map B) (p0 : (List ByteArray)) (p1 : ByteArray) (z0 : (Int × Int)) : runs Try.prog C (cfg.fn 227) (finLoop ((cfg.fn 227).keep 3) ((cfg.fn 227).al 3)) [] (execA Try.prog C (cfg.fn 227) (nr Try.f227 [false, false, false, true, true, true]) ((fun z0 : (Int × Int) => (mkE [(0, LL S p0), (1, S p1), (6, I (lenL p0)), (7, I z0.1), (8, I z0.2)] [] 54)) z0)) = (L227_3 p0 p1 z0).map (Sum.elim (fun z => .inl ((fun z0 : (Int × Int) => (mkE [(0, LL S p0), (1, S p1), (6, I (lenL p0)), (7, I z0.1), (8, I z0.2)] [] 54)) z)) (fun x => .inr ((fun (x : (Int × Int × Bool)) => (.exit 0, (mkE [(0, LL S p0), (1, S p1), (6, I (lenL p0)), (7, I x.1), (8, I x.2.1), (15, B x.2.2)] [] 54))) x))) := by
  unfold L227_3
  let s_0 : List (Nat × AV) := [(0, LL S p0), (1, S p1), (6, I (lenL p0)), (7, I z0.1), (8, I z0.2), (9, I (cvI .i64 (shrI (cvI .u64 (addI .i64 z0.1 z0.2)) 1)))]
  refine gS 4 ?_
  refine gS 0 ?_
  refine gR 3 (rg Try.f227 3) ?_
  refine se (mkE [(0, LL S p0), (1, S p1), (6, I (lenL p0)), (7, I z0.1), (8, I z0.2), (15, B (ltI z0.1 z0.2))] [] 54) ?_
  refine pN ?_
  refine pS ?_
  refine gC 15 (ltI z0.1 z0.2) ?_ ?_
  · refine gK ?_
    refine pN ?_
    refine pS ?_
    refine gB 1 ?_
    refine gS 5 ?_
    refine gR 4 (rg Try.f227 4) ?_
    refine se (mkE s_0 [] 54) ?_
    refine pN ?_
    refine pS ?_
    refine gS 0 ?_
    refine gR 5 (rg Try.f227 5) ?_
    refine sg 2 (mkE ((23, I (cvI .i64 (shrI (cvI .u64 (addI .i64 z0.1 z0.2)) 1))) :: ((22, LL S p0) :: s_0)) [] 54) ?_
    refine vo 24 (addrE 35 9 1 S .i64 p0 (cvI .i64 (shrI (cvI .u64 (addI .i64 z0.1 z0.2)) 1))) (fun x1 => ?_)
    refine sg 5 (mkE ((26, S p1) :: ((25, S x1) :: ((24, .ia [S x1] 0) :: ((23, I (cvI .i64 (shrI (cvI .u64 (addI .i64 z0.1 z0.2)) 1))) :: ((22, LL S p0) :: s_0))))) [] 54) ?_
    refine co 27 [] (h266 x1 p1) (fun x2 => ?_)
    refine se (mkE (s_0.append [(27, B x2)]) [] 54) ?_
    refine pN ?_
    refine pS ?_
    refine gC 27 x2 ?_ ?_
    · refine gR 6 (rg Try.f227 6) ?_
      refine se (mkE [(0, LL S p0), (1, S p1), (6, I (lenL p0)), (7, I (addI .i64 (cvI .i64 (shrI (cvI .u64 (addI .i64 z0.1 z0.2)) 1)) 1)), (8, I z0.2)] [] 54) ?_
      refine pB ?_
      exact pL
    · refine gR 7 (rg Try.f227 7) ?_
      refine se (mkE [(0, LL S p0), (1, S p1), (6, I (lenL p0)), (7, I z0.1), (8, I (cvI .i64 (shrI (cvI .u64 (addI .i64 z0.1 z0.2)) 1)))] [] 54) ?_
      refine pB ?_
      exact pL
  · refine gX 0 ?_
    exact pL
noncomputable def T227 (p0 : (List ByteArray)) (p1 : ByteArray) : Option (Int × Bool) := ((iter (L227_3 p0 p1) (0, (lenL p0))).bind fun y3 => (bif (ltI y3.1 (lenL p0)) then ((listAt p0 y3.1).bind fun x4 => (bif (eqS x4 p1) then (some (y3.1, true)) else ((listAt p0 y3.1).bind fun x5 => ((T267 x5).bind fun x6 => (bif x6 then ((T267 p1).bind fun x7 => (some (y3.1, x7))) else (some (y3.1, false))))))) else (some (y3.1, false))))
theorem B227 (C : Callee) (h266 : ∀ (p0 : ByteArray) (p1 : ByteArray), C 266 [S p0, S p1] = (T266 p0 p1).map B) (h267 : ∀ (p0 : ByteArray), C 267 [S p0] = (T267 p0).map B) (p0 : (List ByteArray)) (p1 : ByteArray) : runs Try.prog C (cfg.fn 227) (finFn Try.prog (cfg.fn 227).byval Try.f227) [] (execA Try.prog C (cfg.fn 227) (nr Try.f227 []) (frame0 [LL S p0, S p1] 54 false)) = (T227 p0 p1).map (fun r => AV.tup [I r.1, B r.2]) := by
  unfold T227
  let s_0 : List (Nat × AV) := [(0, LL S p0), (1, S p1), (6, I (lenL p0))]
  refine gS 1 ?_
  refine gR 0 (rg Try.f227 0) ?_
  refine se (mkE [(0, LL S p0), (1, S p1)] [] 54) ?_
  refine pN ?_
  refine pS ?_
  refine gS 2 ?_
  refine gR 1 (rg Try.f227 1) ?_
  refine sg 1 (mkE [(10, LL S p0), (0, LL S p0), (1, S p1)] [] 54) ?_
  refine eo 11 (I (lenL p0)) (lenE 35 S p0) ?_
  refine se (mkE s_0 [] 54) ?_
  refine pN ?_
  refine pS ?_
  refine gS 3 ?_
  refine gR 2 (rg Try.f227 2) ?_
  refine se (mkE (s_0.append ((7, I 0) :: [(8, I (lenL p0))])) [] 54) ?_
  refine pN ?_
  refine pS ?_
  refine gS 8 ?_
  refine gB 0 ?_
  refine lo [(0, none), (1, none), (6, none), (7, none), (8, none)] [] (L227_3 p0 p1) (fun z0 : (Int × Int) => (mkE (s_0.append ((7, I z0.1) :: [(8, I z0.2)])) [] 54)) (fun (x : (Int × Int × Bool)) => (.exit 0, (mkE (s_0.append ((7, I x.1) :: ((8, I x.2.1) :: [(15, B x.2.2)]))) [] 54))) (0, (lenL p0)) (fun z => L227_3_ok C h266 p0 p1 z) ?_
  intro y3
  refine pH ?_
  refine pN ?_
  refine pS ?_
  refine gS 0 ?_
  refine gR 8 (rg Try.f227 8) ?_
  refine sg 5 (mkE ((35, B (ltI y3.1 (lenL p0))) :: ((34, B (ltI y3.1 (lenL p0))) :: ((33, I (lenL p0)) :: ((32, I y3.1) :: ((31, I y3.1) :: (s_0.append ((7, I y3.1) :: ((8, I y3.2.1) :: [(15, B y3.2.2)])))))))) [] 54) ?_
  refine sb 35 (ltI y3.1 (lenL p0)) ?_ ?_
  · refine sg 7 (mkE ((37, I y3.1) :: ((36, LL S p0) :: ((35, B true) :: ((35, B (ltI y3.1 (lenL p0))) :: ((34, B (ltI y3.1 (lenL p0))) :: ((33, I (lenL p0)) :: ((32, I y3.1) :: ((31, I y3.1) :: (s_0.append ((7, I y3.1) :: ((8, I y3.2.1) :: [(15, B y3.2.2)]))))))))))) [] 54) ?_
    refine vo 38 (addrE 35 9 1 S .i64 p0 y3.1) (fun x4 => ?_)
    refine sg 12 (mkE ((42, B (eqS x4 p1)) :: ((41, B (eqS x4 p1)) :: ((40, S p1) :: ((39, S x4) :: ((38, .ia [S x4] 0) :: ((37, I y3.1) :: ((36, LL S p0) :: ((35, B true) :: ((35, B (ltI y3.1 (lenL p0))) :: ((34, B (ltI y3.1 (lenL p0))) :: ((33, I (lenL p0)) :: ((32, I y3.1) :: ((31, I y3.1) :: (s_0.append ((7, I y3.1) :: ((8, I y3.2.1) :: [(15, B y3.2.2)])))))))))))))))) [] 54) ?_
    refine sb 42 (eqS x4 p1) ?_ ?_
    · refine se (mkE [(4, I y3.1), (5, B true)] [] 54) ?_
      refine pN ?_
      refine pS ?_
      refine gE ?_
      exact pL
    · refine sg 14 (mkE ((44, I y3.1) :: ((43, LL S p0) :: ((42, B false) :: ((42, B (eqS x4 p1)) :: ((41, B (eqS x4 p1)) :: ((40, S p1) :: ((39, S x4) :: ((38, .ia [S x4] 0) :: ((37, I y3.1) :: ((36, LL S p0) :: ((35, B true) :: ((35, B (ltI y3.1 (lenL p0))) :: ((34, B (ltI y3.1 (lenL p0))) :: ((33, I (lenL p0)) :: ((32, I y3.1) :: ((31, I y3.1) :: (s_0.append ((7, I y3.1) :: ((8, I y3.2.1) :: [(15, B y3.2.2)]))))))))))))))))))) [] 54) ?_
      refine vo 45 (addrE 35 9 1 S .i64 p0 y3.1) (fun x5 => ?_)
      refine sg 16 (mkE ((46, S x5) :: ((45, .ia [S x5] 0) :: ((44, I y3.1) :: ((43, LL S p0) :: ((42, B false) :: ((42, B (eqS x4 p1)) :: ((41, B (eqS x4 p1)) :: ((40, S p1) :: ((39, S x4) :: ((38, .ia [S x4] 0) :: ((37, I y3.1) :: ((36, LL S p0) :: ((35, B true) :: ((35, B (ltI y3.1 (lenL p0))) :: ((34, B (ltI y3.1 (lenL p0))) :: ((33, I (lenL p0)) :: ((32, I y3.1) :: ((31, I y3.1) :: (s_0.append ((7, I y3.1) :: ((8, I y3.2.1) :: [(15, B y3.2.2)]))))))))))))))))))))) [] 54) ?_
      refine co 47 [] (h267 x5) (fun x6 => ?_)
      refine sg 18 (mkE ((48, B x6) :: ((47, B x6) :: ((46, S x5) :: ((45, .ia [S x5] 0) :: ((44, I y3.1) :: ((43, LL S p0) :: ((42, B false) :: ((42, B (eqS x4 p1)) :: ((41, B (eqS x4 p1)) :: ((40, S p1) :: ((39, S x4) :: ((38, .ia [S x4] 0) :: ((37, I y3.1) :: ((36, LL S p0) :: ((35, B true) :: ((35, B (ltI y3.1 (lenL p0))) :: ((34, B (ltI y3.1 (lenL p0))) :: ((33, I (lenL p0)) :: ((32, I y3.1) :: ((31, I y3.1) :: (s_0.append ((7, I y3.1) :: ((8, I y3.2.1) :: [(15, B y3.2.2)]))))))))))))))))))))))) [] 54) ?_
      refine sb 48 x6 ?_ ?_
      · refine sg 19 (mkE ((49, S p1) :: ((48, B true) :: ((48, B x6) :: ((47, B x6) :: ((46, S x5) :: ((45, .ia [S x5] 0) :: ((44, I y3.1) :: ((43, LL S p0) :: ((42, B false) :: ((42, B (eqS x4 p1)) :: ((41, B (eqS x4 p1)) :: ((40, S p1) :: ((39, S x4) :: ((38, .ia [S x4] 0) :: ((37, I y3.1) :: ((36, LL S p0) :: ((35, B true) :: ((35, B (ltI y3.1 (lenL p0))) :: ((34, B (ltI y3.1 (lenL p0))) :: ((33, I (lenL p0)) :: ((32, I y3.1) :: ((31, I y3.1) :: (s_0.append ((7, I y3.1) :: ((8, I y3.2.1) :: [(15, B y3.2.2)]))))))))))))))))))))))))) [] 54) ?_
        refine co 50 [] (h267 p1) (fun x7 => ?_)
        refine se (mkE [(4, I y3.1), (5, B x7)] [] 54) ?_
        refine pN ?_
        refine pS ?_
        refine gE ?_
        exact pL
      · refine se (mkE [(4, I y3.1), (5, B false)] [] 54) ?_
        refine pN ?_
        refine pS ?_
        refine gE ?_
        exact pL
  · refine se (mkE [(4, I y3.1), (5, B false)] [] 54) ?_
    refine pN ?_
    refine pS ?_
    refine gE ?_
    exact pL
theorem F227 (m : Nat) (hm : 3 ≤ m) (p0 : (List ByteArray)) (p1 : ByteArray) : callA Try.prog cfg m 227 [LL S p0, S p1] = (T227 p0 p1).map (fun r => AV.tup [I r.1, B r.2]) := by
  obtain ⟨q, rfl⟩ : ∃ q, m = q + 1 := ⟨m - 1, by omega⟩
  exact (callA_body (fn := Try.f227) (c := body_ Try.f227) q _ (by kernel_rfl) (by kernel_rfl) (by kernel_rfl)).trans (B227 _ (fun p0 p1 => F266 q (by omega) p0 p1) (fun p0 => F267 q (by omega) p0) p0 p1)

noncomputable def L151_4 (p0 : S53) (p1 : S90) (z0 : Int) : Option (Int ⊕ ((Int × Bool) ⊕ Unit)) := (bif (ltI z0 (lenL p0.f3)) then ((listAt p0.f3 z0).bind fun x1 => ((T227 p1.f3 x1).bind fun x2 => (bif (!x2.2) then (some (.inr (.inr ()))) else (some (.inl (addI .i64 z0 1)))))) else (some (.inr (.inl (z0, (ltI z0 (lenL p0.f3)))))))
theorem L151_4_ok (C : Callee) (h227 : ∀ (p0 : (List ByteArray)) (p1 : ByteArray), C 227 [LL S p0, S p1] = (T227 p0 p1).map (fun r => AV.tup [I r.1, B r.2])) (p0 : S53) (p1 : S90) (z0 : Int) : runs Try.prog C (cfg.fn 151) (finLoop ((cfg.fn 151).keep 4) ((cfg.fn 151).al 4)) [] (execA Try.prog C (cfg.fn 151) (nr Try.f151 [false, false, true, false, true, true]) ((fun z0 : Int => (mkE [(3, .ba 24 0), (26, LL S p0.f3), (27, I (lenL p0.f3)), (28, I z0)] [(24, .box [S p1.f0, I p1.f1.f0, I p1.f1.f1, I p1.f2, LL S p1.f3] false)] 42)) z0)) = (L151_4 p0 p1 z0).map (Sum.elim (fun z => .inl ((fun z0 : Int => (mkE [(3, .ba 24 0), (26, LL S p0.f3), (27, I (lenL p0.f3)), (28, I z0)] [(24, .box [S p1.f0, I p1.f1.f0, I p1.f1.f1, I p1.f2, LL S p1.f3] false)] 42)) z)) (fun x => .inr ((Sum.elim (fun (x : (Int × Bool)) => (.exit 0, (mkE [(3, .ba 24 0), (26, LL S p0.f3), (27, I (lenL p0.f3)), (28, I x.1), (29, B x.2)] [(24, .box [S p1.f0, I p1.f1.f0, I p1.f1.f1, I p1.f2, LL S p1.f3] false)] 42))) (fun (x : Unit) => (.ret, (mkE [(4, B false)] [] 42)))) x))) := by
  unfold L151_4
  let s_0 : List (Nat × AV) := [(26, LL S p0.f3), (27, I (lenL p0.f3)), (28, I z0)]
  let o_0 : List (Nat × AObj) := [(24, .box [S p1.f0, I p1.f1.f0, I p1.f1.f1, I p1.f2, LL S p1.f3] false)]
  refine gS 0 ?_
  refine gR 4 (rg Try.f151 4) ?_
  refine se (mkE ((3, .ba 24 0) :: (s_0.append [(29, B (ltI z0 (lenL p0.f3)))])) o_0 42) ?_
  refine pN ?_
  refine pS ?_
  refine gS 5 ?_
  refine gC 29 (ltI z0 (lenL p0.f3)) ?_ ?_
  · refine gK ?_
    refine pN ?_
    refine pS ?_
    refine gS 9 ?_
    refine gB 1 ?_
    refine gS 6 ?_
    refine gR 5 (rg Try.f151 5) ?_
    refine vo 30 (addrE 35 9 1 S .i64 p0.f3 z0) (fun x1 => ?_)
    refine se (mkE ((3, .ba 24 0) :: ((6, S x1) :: s_0)) o_0 42) ?_
    refine pN ?_
    refine pS ?_
    refine gS 7 ?_
    refine gR 6 (rg Try.f151 6) ?_
    refine sg 3 (mkE ((35, S x1) :: ((34, LL S p1.f3) :: ((33, .ba 24 4) :: ((3, .ba 24 0) :: ((6, S x1) :: s_0))))) o_0 42) ?_
    refine co 36 [] (h227 p1.f3 x1) (fun x2 => ?_)
    refine se (mkE ((3, .ba 24 0) :: ((8, B x2.2) :: s_0)) o_0 42) ?_
    refine pN ?_
    refine pS ?_
    refine gS 0 ?_
    refine gR 7 (rg Try.f151 7) ?_
    refine se (mkE ((3, .ba 24 0) :: (s_0.append [(40, B (!x2.2))])) o_0 42) ?_
    refine pN ?_
    refine pS ?_
    refine gC 40 (!x2.2) ?_ ?_
    · refine gS 0 ?_
      refine gR 8 (rg Try.f151 8) ?_
      refine se (mkE [(4, B false)] [] 42) ?_
      refine pN ?_
      refine pS ?_
      refine gE ?_
      exact pL
    · refine gK ?_
      refine pB ?_
      refine pN ?_
      refine pS ?_
      refine gR 9 (rg Try.f151 9) ?_
      refine se (mkE [(3, .ba 24 0), (26, LL S p0.f3), (27, I (lenL p0.f3)), (28, I (addI .i64 z0 1))] o_0 42) ?_
      exact pL
  · refine gX 0 ?_
    exact pL
noncomputable def T151 (p0 : S53) (p1 : S90) : Option Bool := (bif (ltI p1.f1.f0 p0.f2.f0) then (some false) else (bif (ltI p0.f2.f1 p1.f1.f1) then (some false) else ((iter (L151_4 p0 p1) 0).bind fun y3 => (Sum.elim (fun y3a => (some true)) (fun y3b => (some false)) y3))))
theorem B151 (C : Callee) (h227 : ∀ (p0 : (List ByteArray)) (p1 : ByteArray), C 227 [LL S p0, S p1] = (T227 p0 p1).map (fun r => AV.tup [I r.1, B r.2])) (p0 : S53) (p1 : S90) : runs Try.prog C (cfg.fn 151) (finFn Try.prog (cfg.fn 151).byval Try.f151) [] (execA Try.prog C (cfg.fn 151) (nr Try.f151 []) (frame0 [a53 p0, a90 p1] 42 false)) = (T151 p0 p1).map B := by
  unfold T151
  let s_0 : List (Nat × AV) := [(3, .ba 24 0), (26, LL S p0.f3), (27, I (lenL p0.f3))]
  let o_0 : List (Nat × AObj) := [(16, .box [S p0.f0, S p0.f1, I p0.f2.f0, I p0.f2.f1, LL S p0.f3, I p0.f4, I p0.f5, I p0.f6] false), (24, .box [S p1.f0, I p1.f1.f0, I p1.f1.f1, I p1.f2, LL S p1.f3] false)]
  let o_1 : List (Nat × AObj) := [(24, .box [S p1.f0, I p1.f1.f0, I p1.f1.f1, I p1.f2, LL S p1.f3] false)]
  refine gS 1 ?_
  refine gR 0 (rg Try.f151 0) ?_
  refine se (mkE [(2, .ba 16 0), (3, .ba 24 0)] o_0 42) ?_
  refine pN ?_
  refine pS ?_
  refine gS 3 ?_
  refine gS 0 ?_
  refine gR 1 (rg Try.f151 1) ?_
  refine sg 8 (mkE [(16, B (ltI p1.f1.f0 p0.f2.f0)), (15, B (ltI p1.f1.f0 p0.f2.f0)), (14, I p0.f2.f0), (13, .ba 16 2), (12, .ba 16 2), (11, I p1.f1.f0), (10, .ba 24 1), (9, .ba 24 1), (2, .ba 16 0), (3, .ba 24 0)] o_0 42) ?_
  refine sb 16 (ltI p1.f1.f0 p0.f2.f0) ?_ ?_
  · refine se (mkE [(2, .ba 16 0), (3, .ba 24 0), (24, B true)] o_0 42) ?_
    refine pN ?_
    refine pS ?_
    refine gT (.tmp 24) ?_
    refine gS 0 ?_
    refine gR 2 (rg Try.f151 2) ?_
    refine se (mkE [(4, B false)] [] 42) ?_
    refine pN ?_
    refine pS ?_
    refine gE ?_
    exact pL
  · refine se (mkE [(2, .ba 16 0), (3, .ba 24 0), (24, B (ltI p0.f2.f1 p1.f1.f1))] o_0 42) ?_
    refine pN ?_
    refine pS ?_
    refine gC 24 (ltI p0.f2.f1 p1.f1.f1) ?_ ?_
    · refine gS 0 ?_
      refine gR 2 (rg Try.f151 2) ?_
      refine se (mkE [(4, B false)] [] 42) ?_
      refine pN ?_
      refine pS ?_
      refine gE ?_
      exact pL
    · refine gK ?_
      refine pN ?_
      refine pS ?_
      refine gS 10 ?_
      refine gS 4 ?_
      refine gR 3 (rg Try.f151 3) ?_
      refine sg 2 (mkE [(26, LL S p0.f3), (25, .ba 16 4), (2, .ba 16 0), (3, .ba 24 0), (24, B (ltI p0.f2.f1 p1.f1.f1))] o_0 42) ?_
      refine eo 27 (I (lenL p0.f3)) (lenE 35 S p0.f3) ?_
      refine se (mkE (s_0.append [(28, I 0)]) o_1 42) ?_
      refine pN ?_
      refine pS ?_
      refine gB 0 ?_
      refine lo [(3, none), (26, none), (27, none), (28, none)] [] (L151_4 p0 p1) (fun z0 : Int => (mkE (s_0.append [(28, I z0)]) o_1 42)) (Sum.elim (fun (x : (Int × Bool)) => (.exit 0, (mkE (s_0.append ((28, I x.1) :: [(29, B x.2)])) o_1 42))) (fun (x : Unit) => (.ret, (mkE [(4, B false)] [] 42)))) 0 (fun z => L151_4_ok C h227 p0 p1 z) ?_
      intro y3
      refine ss y3 (Z := (Sum.elim (fun (x : (Int × Bool)) => (.exit 0, (mkE (s_0.append ((28, I x.1) :: [(29, B x.2)])) o_1 42))) (fun (x : Unit) => (.ret, (mkE [(4, B false)] [] 42))))) (fun y3a => ?_) (fun y3b => ?_)
      · refine pH ?_
        refine pN ?_
        refine pS ?_
        refine gS 0 ?_
        refine gR 10 (rg Try.f151 10) ?_
        refine se (mkE [(4, B true)] [] 42) ?_
        refine pN ?_
        refine pS ?_
        refine gE ?_
        exact pL
      · exact pL
theorem F151 (m : Nat) (hm : 4 ≤ m) (p0 : S53) (p1 : S90) : callA Try.prog cfg m 151 [a53 p0, a90 p1] = (T151 p0 p1).map B := by
  obtain ⟨q, rfl⟩ : ∃ q, m = q + 1 := ⟨m - 1, by omega⟩
  exact (callA_body (fn := Try.f151) (c := body_ Try.f151) q _ (by kernel_rfl) (by kernel_rfl) (by kernel_rfl)).trans (B151 _ (fun p0 p1 => F227 q (by omega) p0 p1) p0 p1)

noncomputable def T171 (p0 : (List S90)) (p1 : (List S53)) (p2 : (List S49)) (p3 : Int) : Option Int := ((listAt p2 p3).bind fun x1 => ((T236 p1 x1.f0).bind fun x2 => ((T237 p0 x1.f1).bind fun x3 => (bif (!x2.2) then (some 8) else (bif (!x3.2) then (some 8) else ((listAt p1 x2.1).bind fun x4 => ((listAt p0 x3.1).bind fun x5 => ((T151 x4 x5).bind fun x6 => (bif (!x6) then (some 16) else ((listAt p1 x2.1).bind fun x7 => ((T126 x1.f2 1 x7.f5).bind fun x8 => (bif x8 then (some 1) else (bif (ltI 0 p3) then ((listAt p2 (subI .i64 p3 1)).bind fun x9 => (bif (ltS x1.f0 x9.f0) then (some 7) else ((listAt p2 (subI .i64 p3 1)).bind fun x10 => (bif (eqS x1.f0 x10.f0) then ((listAt p2 (subI .i64 p3 1)).bind fun x11 => (bif (ltS x1.f1 x11.f1 || eqS x1.f1 x11.f1) then (some 7) else (some 0))) else (some 0))))) else (some 0))))))))))))))
theorem B171 (C : Callee) (h126 : ∀ (p0 : Int) (p1 : Int) (p2 : Int), C 126 [I p0, I p1, I p2] = (T126 p0 p1 p2).map B) (h151 : ∀ (p0 : S53) (p1 : S90), C 151 [a53 p0, a90 p1] = (T151 p0 p1).map B) (h236 : ∀ (p0 : (List S53)) (p1 : ByteArray), C 236 [LL a53 p0, S p1] = (T236 p0 p1).map (fun r => AV.tup [I r.1, B r.2])) (h237 : ∀ (p0 : (List S90)) (p1 : ByteArray), C 237 [LL a90 p0, S p1] = (T237 p0 p1).map (fun r => AV.tup [I r.1, B r.2])) (p0 : (List S90)) (p1 : (List S53)) (p2 : (List S49)) (p3 : Int) : runs Try.prog C (cfg.fn 171) (finFn Try.prog (cfg.fn 171).byval Try.f171) [] (execA Try.prog C (cfg.fn 171) (nr Try.f171 []) (frame0 [LL a90 p0, LL a53 p1, LL a49 p2, I p3] 95 false)) = (T171 p0 p1 p2 p3).map I := by
  unfold T171
  let d_0 : List (Option Nat × REff) := [(some 60, qe (I p3)), (some 61, qe (B (ltI 0 p3))), (some 62, qe (B true)), (some 63, qe (.ba 72 0))]
  let d_1 : List (Option Nat × REff) := [(some 65, qe (LL a49 p2)), (some 66, qe (I p3)), (some 67, qe (I (subI .i64 p3 1)))]
  let d_2 : List (Option Nat × REff) := [(some 73, qe (.und)), (some 74, qe (.und)), (some 75, qe (.und)), (some 76, qe (.und)), (some 77, qe (.und)), (some 78, qe (.und)), (some 79, qe (.und)), (some 80, qe (.und)), (some 81, qe (.und)), (some 82, qe (.und)), (some 83, qe (.und)), (some 84, qe (.und)), (some 85, qe (.und)), (some 86, qe (.und)), (some 87, qe (.und)), (some 88, qe (.und)), (some 89, qe (.und)), (some 90, qe (.und)), (some 91, qe (.und)), (some 92, qe (.und))]
  let d_3 : List (Option Nat × REff) := [(some 75, qe (LL a49 p2)), (some 76, qe (I p3)), (some 77, qe (I (subI .i64 p3 1)))]
  let d_4 : List (Option Nat × REff) := [(some 72, qe (B false)), (some 73, qe (.ba 72 0))]
  let s_0 : List (Nat × AV) := [(2, LL a49 p2), (3, I p3), (9, .ba 72 0)]
  let s_1 : List (Nat × AV) := [(0, LL a90 p0), (1, LL a53 p1)]
  let s_2 : List (Nat × AV) := [(92, .und), (91, .und), (90, .und), (89, .und), (88, .und), (87, .und), (86, .und), (85, .und), (84, .und), (83, .und), (82, .und), (81, .und), (80, .und), (79, .und), (78, .und), (77, .und), (76, .und), (75, .und), (74, .und), (73, .und)]
  let s_3 : List (Nat × AV) := [(67, I (subI .i64 p3 1)), (66, I p3), (65, LL a49 p2)]
  let s_4 : List (Nat × AV) := [(63, .ba 72 0), (62, B true), (61, B (ltI 0 p3)), (60, I p3)]
  let s_5 : List (Nat × AV) := [(77, I (subI .i64 p3 1)), (76, I p3), (75, LL a49 p2)]
  refine gS 1 ?_
  refine gR 0 (rg Try.f171 0) ?_
  refine se (mkE (s_1.append ((2, LL a49 p2) :: [(3, I p3)])) [] 95) ?_
  refine pN ?_
  refine pS ?_
  refine gS 2 ?_
  refine gR 1 (rg Try.f171 1) ?_
  refine sg 2 (mkE ((15, I p3) :: ((14, LL a49 p2) :: (s_1.append ((2, LL a49 p2) :: [(3, I p3)])))) [] 95) ?_
  refine vo 16 (addrE 47 50 3 a49 .i64 p2 p3) (fun x1 => ?_)
  refine se (mkE (s_1.append s_0) [(72, .box [S x1.f0, S x1.f1, I x1.f2] false)] 95) ?_
  refine pN ?_
  refine pS ?_
  refine gS 3 ?_
  refine gR 2 (rg Try.f171 2) ?_
  refine sg 3 (mkE ((21, S x1.f0) :: ((20, .ba 72 0) :: ((19, LL a53 p1) :: (s_1.append s_0)))) [(72, .box [S x1.f0, S x1.f1, I x1.f2] false)] 95) ?_
  refine co 22 [] (h236 p1 x1.f0) (fun x2 => ?_)
  refine se (mkE (s_1.append (s_0.append ((10, I x2.1) :: [(11, B x2.2)]))) [(72, .box [S x1.f0, S x1.f1, I x1.f2] false)] 95) ?_
  refine pN ?_
  refine pS ?_
  refine gS 4 ?_
  refine gR 3 (rg Try.f171 3) ?_
  refine sg 3 (mkE ((28, S x1.f1) :: ((27, .ba 72 1) :: ((26, LL a90 p0) :: (s_1.append (s_0.append ((10, I x2.1) :: [(11, B x2.2)])))))) [(72, .box [S x1.f0, S x1.f1, I x1.f2] false)] 95) ?_
  refine co 29 [] (h237 p0 x1.f1) (fun x3 => ?_)
  refine se (mkE (s_1.append (s_0.append ((10, I x2.1) :: ((11, B x2.2) :: ((12, I x3.1) :: [(13, B x3.2)]))))) [(72, .box [S x1.f0, S x1.f1, I x1.f2] false)] 95) ?_
  refine pN ?_
  refine pS ?_
  refine gS 12 ?_
  refine gB 0 ?_
  refine gS 0 ?_
  refine gR 4 (rg Try.f171 4) ?_
  refine sg 3 (mkE ((35, B (!x2.2)) :: ((34, B (!x2.2)) :: ((33, B x2.2) :: (s_1.append (s_0.append ((10, I x2.1) :: ((11, B x2.2) :: ((12, I x3.1) :: [(13, B x3.2)])))))))) [(72, .box [S x1.f0, S x1.f1, I x1.f2] false)] 95) ?_
  refine sb 35 (!x2.2) ?_ ?_
  · refine se (mkE (s_1.append (s_0.append ((10, I x2.1) :: ((12, I x3.1) :: [(32, B true)])))) [(72, .box [S x1.f0, S x1.f1, I x1.f2] false)] 95) ?_
    refine pN ?_
    refine pS ?_
    refine gT (.tmp 32) ?_
    refine gS 0 ?_
    refine gR 5 (rg Try.f171 5) ?_
    refine se (mkE [(8, I 8)] [] 95) ?_
    refine pN ?_
    refine pS ?_
    refine gE ?_
    exact pL
  · refine se (mkE (s_1.append (s_0.append ((10, I x2.1) :: ((12, I x3.1) :: [(32, B (!x3.2))])))) [(72, .box [S x1.f0, S x1.f1, I x1.f2] false)] 95) ?_
    refine pN ?_
    refine pS ?_
    refine gC 32 (!x3.2) ?_ ?_
    · refine gS 0 ?_
      refine gR 5 (rg Try.f171 5) ?_
      refine se (mkE [(8, I 8)] [] 95) ?_
      refine pN ?_
      refine pS ?_
      refine gE ?_
      exact pL
    · refine gS 0 ?_
      refine gD 6 11 (rg Try.f171 6) [0, 1, 2, 3, 4, 5, 6, 7, 8, 9, 10] ?_
      refine dg 2 [(some 40, qe (LL a53 p1)), (some 41, qe (I x2.1))] ?_
      refine dv 42 (mkE ((41, I x2.1) :: ((40, LL a53 p1) :: (s_1.append (s_0.append ((10, I x2.1) :: ((12, I x3.1) :: [(32, B (!x3.2))])))))) [(72, .box [S x1.f0, S x1.f1, I x1.f2] false)] 95) (addrE 29 54 8 a53 .i64 p1 x2.1) (fun x4 => ?_)
      refine dg 6 [(some 40, qe (LL a53 p1)), (some 41, qe (I x2.1)), (some 42, qe (.ia [S x4.f0, S x4.f1, I x4.f2.f0, I x4.f2.f1, LL S x4.f3, I x4.f4, I x4.f5, I x4.f6] 0)), (some 43, qe (a53 x4)), (some 44, qe (LL a90 p0)), (some 45, qe (I x3.1))] ?_
      refine dv 46 (mkE ((45, I x3.1) :: ((44, LL a90 p0) :: (s_1.append (s_0.append ((10, I x2.1) :: ((12, I x3.1) :: [(32, B (!x3.2))])))))) [(72, .box [S x1.f0, S x1.f1, I x1.f2] false)] 95) (addrE 28 91 5 a90 .i64 p0 x3.1) (fun x5 => ?_)
      refine dg 8 [(some 40, qe (LL a53 p1)), (some 41, qe (I x2.1)), (some 42, qe (.ia [S x4.f0, S x4.f1, I x4.f2.f0, I x4.f2.f1, LL S x4.f3, I x4.f4, I x4.f5, I x4.f6] 0)), (some 43, qe (a53 x4)), (some 44, qe (LL a90 p0)), (some 45, qe (I x3.1)), (some 46, qe (.ia [S x5.f0, I x5.f1.f0, I x5.f1.f1, I x5.f2, LL S x5.f3] 0)), (some 47, qe (a90 x5))] ?_
      refine dc 48 [] (mkE ((47, a90 x5) :: ((46, .ia [S x5.f0, I x5.f1.f0, I x5.f1.f1, I x5.f2, LL S x5.f3] 0) :: ((45, I x3.1) :: ((44, LL a90 p0) :: ((43, a53 x4) :: ((42, .ia [S x4.f0, S x4.f1, I x4.f2.f0, I x4.f2.f1, LL S x4.f3, I x4.f4, I x4.f5, I x4.f6] 0) :: ((41, I x2.1) :: ((40, LL a53 p1) :: (s_1.append (s_0.append ((10, I x2.1) :: ((12, I x3.1) :: [(32, B (!x3.2))])))))))))))) [(72, .box [S x1.f0, S x1.f1, I x1.f2] false)] 95) (h151 x4 x5) (fun x6 => ?_)
      refine dg 11 [(some 40, qe (LL a53 p1)), (some 41, qe (I x2.1)), (some 42, qe (.ia [S x4.f0, S x4.f1, I x4.f2.f0, I x4.f2.f1, LL S x4.f3, I x4.f4, I x4.f5, I x4.f6] 0)), (some 43, qe (a53 x4)), (some 44, qe (LL a90 p0)), (some 45, qe (I x3.1)), (some 46, qe (.ia [S x5.f0, I x5.f1.f0, I x5.f1.f1, I x5.f2, LL S x5.f3] 0)), (some 47, qe (a90 x5)), (some 48, qe (B x6)), (some 49, qe (B (!x6))), (some 39, qe (B (!x6)))] ?_
      refine de (mkE ((39, B (!x6)) :: ((49, B (!x6)) :: ((48, B x6) :: ((47, a90 x5) :: ((46, .ia [S x5.f0, I x5.f1.f0, I x5.f1.f1, I x5.f2, LL S x5.f3] 0) :: ((45, I x3.1) :: ((44, LL a90 p0) :: ((43, a53 x4) :: ((42, .ia [S x4.f0, S x4.f1, I x4.f2.f0, I x4.f2.f1, LL S x4.f3, I x4.f4, I x4.f5, I x4.f6] 0) :: ((41, I x2.1) :: ((40, LL a53 p1) :: (s_1.append (s_0.append ((10, I x2.1) :: ((12, I x3.1) :: [(32, B (!x3.2))]))))))))))))))) [(72, .box [S x1.f0, S x1.f1, I x1.f2] false)] 95) ?_
      refine se (mkE ((1, LL a53 p1) :: (s_0.append ((10, I x2.1) :: [(39, B (!x6))]))) [(72, .box [S x1.f0, S x1.f1, I x1.f2] false)] 95) ?_
      refine pN ?_
      refine pS ?_
      refine gC 39 (!x6) ?_ ?_
      · refine gS 0 ?_
        refine gR 7 (rg Try.f171 7) ?_
        refine se (mkE [(8, I 16)] [] 95) ?_
        refine pN ?_
        refine pS ?_
        refine gE ?_
        exact pL
      · refine gS 0 ?_
        refine gD 8 9 (rg Try.f171 8) [0, 1, 2, 3, 4, 5, 6, 7, 8] ?_
        refine dg 4 [(some 51, qe (.ba 72 2)), (some 52, qe (I x1.f2)), (some 53, qe (LL a53 p1)), (some 54, qe (I x2.1))] ?_
        refine dv 55 (mkE ((54, I x2.1) :: ((53, LL a53 p1) :: ((1, LL a53 p1) :: (s_0.append ((10, I x2.1) :: [(39, B (!x6))]))))) [(72, .box [S x1.f0, S x1.f1, I x1.f2] false)] 95) (addrE 29 54 8 a53 .i64 p1 x2.1) (fun x7 => ?_)
        refine dg 7 [(some 51, qe (.ba 72 2)), (some 52, qe (I x1.f2)), (some 53, qe (LL a53 p1)), (some 54, qe (I x2.1)), (some 55, qe (.ia [S x7.f0, S x7.f1, I x7.f2.f0, I x7.f2.f1, LL S x7.f3, I x7.f4, I x7.f5, I x7.f6] 0)), (some 56, qe (.ia [S x7.f0, S x7.f1, I x7.f2.f0, I x7.f2.f1, LL S x7.f3, I x7.f4, I x7.f5, I x7.f6] 6)), (some 57, qe (I x7.f5))] ?_
        refine dc 58 [] (mkE ((57, I x7.f5) :: ((56, .ia [S x7.f0, S x7.f1, I x7.f2.f0, I x7.f2.f1, LL S x7.f3, I x7.f4, I x7.f5, I x7.f6] 6) :: ((55, .ia [S x7.f0, S x7.f1, I x7.f2.f0, I x7.f2.f1, LL S x7.f3, I x7.f4, I x7.f5, I x7.f6] 0) :: ((54, I x2.1) :: ((53, LL a53 p1) :: ((52, I x1.f2) :: ((51, .ba 72 2) :: ((1, LL a53 p1) :: (s_0.append ((10, I x2.1) :: [(39, B (!x6))])))))))))) [(72, .box [S x1.f0, S x1.f1, I x1.f2] false)] 95) (h126 x1.f2 1 x7.f5) (fun x8 => ?_)
        refine dg 9 [(some 51, qe (.ba 72 2)), (some 52, qe (I x1.f2)), (some 53, qe (LL a53 p1)), (some 54, qe (I x2.1)), (some 55, qe (.ia [S x7.f0, S x7.f1, I x7.f2.f0, I x7.f2.f1, LL S x7.f3, I x7.f4, I x7.f5, I x7.f6] 0)), (some 56, qe (.ia [S x7.f0, S x7.f1, I x7.f2.f0, I x7.f2.f1, LL S x7.f3, I x7.f4, I x7.f5, I x7.f6] 6)), (some 57, qe (I x7.f5)), (some 58, qe (B x8)), (some 50, qe (B x8))] ?_
        refine de (mkE ((50, B x8) :: ((58, B x8) :: ((57, I x7.f5) :: ((56, .ia [S x7.f0, S x7.f1, I x7.f2.f0, I x7.f2.f1, LL S x7.f3, I x7.f4, I x7.f5, I x7.f6] 6) :: ((55, .ia [S x7.f0, S x7.f1, I x7.f2.f0, I x7.f2.f1, LL S x7.f3, I x7.f4, I x7.f5, I x7.f6] 0) :: ((54, I x2.1) :: ((53, LL a53 p1) :: ((52, I x1.f2) :: ((51, .ba 72 2) :: ((1, LL a53 p1) :: (s_0.append ((10, I x2.1) :: [(39, B (!x6))])))))))))))) [(72, .box [S x1.f0, S x1.f1, I x1.f2] false)] 95) ?_
        refine se (mkE (s_0.append [(50, B x8)]) [(72, .box [S x1.f0, S x1.f1, I x1.f2] false)] 95) ?_
        refine pN ?_
        refine pS ?_
        refine gC 50 x8 ?_ ?_
        · refine gS 0 ?_
          refine gR 9 (rg Try.f171 9) ?_
          refine se (mkE [(8, I 1)] [] 95) ?_
          refine pN ?_
          refine pS ?_
          refine gE ?_
          exact pL
        · refine gS 0 ?_
          refine gD 10 36 (rg Try.f171 10) [0, 1, 2, 3, 4, 5, 6, 7, 8, 9, 10, 11, 12, 13, 14, 15, 16, 17, 18, 19, 20, 21, 22, 23, 24, 25, 26, 27, 28, 29, 30, 31, 32, 33, 34, 35] ?_
          refine dg 3 [(some 60, qe (I p3)), (some 61, qe (B (ltI 0 p3))), (some 62, qe (B (ltI 0 p3)))] ?_
          refine db 2 62 (ltI 0 p3) ?_ ?_
          · refine dg 8 (d_0.append ((some 64, qe (S x1.f0)) :: d_1)) ?_
            refine dv 68 (mkE (s_3.append ((62, B true) :: ((61, B (ltI 0 p3)) :: ((60, I p3) :: (s_0.append [(50, B x8)]))))) [(72, .box [S x1.f0, S x1.f1, I x1.f2] false)] 95) (addrE 47 50 3 a49 .i64 p2 (subI .i64 p3 1)) (fun x9 => ?_)
            refine dg 13 (d_0.append ((some 64, qe (S x1.f0)) :: (d_1.append ((some 68, qe (.ia [S x9.f0, S x9.f1, I x9.f2] 0)) :: ((some 69, qe (.ia [S x9.f0, S x9.f1, I x9.f2] 0)) :: ((some 70, qe (S x9.f0)) :: ((some 71, qe (B (ltS x1.f0 x9.f0))) :: [(some 72, qe (B (ltS x1.f0 x9.f0)))]))))))) ?_
            refine db 12 72 (ltS x1.f0 x9.f0) ?_ ?_
            · refine dg 36 (d_0.append ((some 64, qe (S x1.f0)) :: (d_1.append ((some 68, qe (.ia [S x9.f0, S x9.f1, I x9.f2] 0)) :: ((some 69, qe (.ia [S x9.f0, S x9.f1, I x9.f2] 0)) :: ((some 70, qe (S x9.f0)) :: ((some 71, qe (B (ltS x1.f0 x9.f0))) :: ((some 72, qe (B true)) :: (d_2.append ((some 93, qe (B true)) :: ((some 94, qe (B true)) :: [(some 59, qe (B true))]))))))))))) ?_
              refine de (mkE ((59, B true) :: ((94, B true) :: ((93, B true) :: (s_2.append ((72, B true) :: ((71, B (ltS x1.f0 x9.f0)) :: ((70, S x9.f0) :: ((69, .ia [S x9.f0, S x9.f1, I x9.f2] 0) :: ((68, .ia [S x9.f0, S x9.f1, I x9.f2] 0) :: (s_3.append ((64, S x1.f0) :: (s_4.append (s_0.append [(50, B x8)]))))))))))))) [(72, .box [S x1.f0, S x1.f1, I x1.f2] false)] 95) ?_
              refine se (mkE [(59, B true)] [] 95) ?_
              refine pN ?_
              refine pS ?_
              refine gT (.tmp 59) ?_
              refine gS 0 ?_
              refine gR 11 (rg Try.f171 11) ?_
              refine se (mkE [(8, I 7)] [] 95) ?_
              refine pN ?_
              refine pS ?_
              refine gE ?_
              exact pL
            · refine dg 18 (d_0.append ((some 64, qe (S x1.f0)) :: (d_1.append ((some 68, qe (.ia [S x9.f0, S x9.f1, I x9.f2] 0)) :: ((some 69, qe (.ia [S x9.f0, S x9.f1, I x9.f2] 0)) :: ((some 70, qe (S x9.f0)) :: ((some 71, qe (B (ltS x1.f0 x9.f0))) :: (d_4.append ((some 74, qe (S x1.f0)) :: d_3))))))))) ?_
              refine dv 78 (mkE (s_5.append ((72, B false) :: ((71, B (ltS x1.f0 x9.f0)) :: ((70, S x9.f0) :: ((69, .ia [S x9.f0, S x9.f1, I x9.f2] 0) :: ((68, .ia [S x9.f0, S x9.f1, I x9.f2] 0) :: (s_3.append ((64, S x1.f0) :: (s_4.append (s_0.append [(50, B x8)])))))))))) [(72, .box [S x1.f0, S x1.f1, I x1.f2] false)] 95) (addrE 47 50 3 a49 .i64 p2 (subI .i64 p3 1)) (fun x10 => ?_)
              refine dg 23 (d_0.append ((some 64, qe (S x1.f0)) :: (d_1.append ((some 68, qe (.ia [S x9.f0, S x9.f1, I x9.f2] 0)) :: ((some 69, qe (.ia [S x9.f0, S x9.f1, I x9.f2] 0)) :: ((some 70, qe (S x9.f0)) :: ((some 71, qe (B (ltS x1.f0 x9.f0))) :: (d_4.append ((some 74, qe (S x1.f0)) :: (d_3.append ((some 78, qe (.ia [S x10.f0, S x10.f1, I x10.f2] 0)) :: ((some 79, qe (.ia [S x10.f0, S x10.f1, I x10.f2] 0)) :: ((some 80, qe (S x10.f0)) :: ((some 81, qe (B (eqS x1.f0 x10.f0))) :: [(some 82, qe (B (eqS x1.f0 x10.f0)))])))))))))))))) ?_
              refine db 22 82 (eqS x1.f0 x10.f0) ?_ ?_
              · refine dg 28 (d_0.append ((some 64, qe (S x1.f0)) :: (d_1.append ((some 68, qe (.ia [S x9.f0, S x9.f1, I x9.f2] 0)) :: ((some 69, qe (.ia [S x9.f0, S x9.f1, I x9.f2] 0)) :: ((some 70, qe (S x9.f0)) :: ((some 71, qe (B (ltS x1.f0 x9.f0))) :: (d_4.append ((some 74, qe (S x1.f0)) :: (d_3.append ((some 78, qe (.ia [S x10.f0, S x10.f1, I x10.f2] 0)) :: ((some 79, qe (.ia [S x10.f0, S x10.f1, I x10.f2] 0)) :: ((some 80, qe (S x10.f0)) :: ((some 81, qe (B (eqS x1.f0 x10.f0))) :: ((some 82, qe (B true)) :: ((some 83, qe (.ba 72 1)) :: ((some 84, qe (S x1.f1)) :: ((some 85, qe (LL a49 p2)) :: ((some 86, qe (I p3)) :: [(some 87, qe (I (subI .i64 p3 1)))]))))))))))))))))))) ?_
                refine dv 88 (mkE ((87, I (subI .i64 p3 1)) :: ((86, I p3) :: ((85, LL a49 p2) :: ((82, B true) :: ((81, B (eqS x1.f0 x10.f0)) :: ((80, S x10.f0) :: ((79, .ia [S x10.f0, S x10.f1, I x10.f2] 0) :: ((78, .ia [S x10.f0, S x10.f1, I x10.f2] 0) :: (s_5.append ((74, S x1.f0) :: ((73, .ba 72 0) :: ((72, B false) :: ((71, B (ltS x1.f0 x9.f0)) :: ((70, S x9.f0) :: ((69, .ia [S x9.f0, S x9.f1, I x9.f2] 0) :: ((68, .ia [S x9.f0, S x9.f1, I x9.f2] 0) :: (s_3.append ((64, S x1.f0) :: (s_4.append (s_0.append [(50, B x8)])))))))))))))))))))) [(72, .box [S x1.f0, S x1.f1, I x1.f2] false)] 95) (addrE 47 50 3 a49 .i64 p2 (subI .i64 p3 1)) (fun x11 => ?_)
                refine dg 36 (d_0.append ((some 64, qe (S x1.f0)) :: (d_1.append ((some 68, qe (.ia [S x9.f0, S x9.f1, I x9.f2] 0)) :: ((some 69, qe (.ia [S x9.f0, S x9.f1, I x9.f2] 0)) :: ((some 70, qe (S x9.f0)) :: ((some 71, qe (B (ltS x1.f0 x9.f0))) :: (d_4.append ((some 74, qe (S x1.f0)) :: (d_3.append ((some 78, qe (.ia [S x10.f0, S x10.f1, I x10.f2] 0)) :: ((some 79, qe (.ia [S x10.f0, S x10.f1, I x10.f2] 0)) :: ((some 80, qe (S x10.f0)) :: ((some 81, qe (B (eqS x1.f0 x10.f0))) :: ((some 82, qe (B true)) :: ((some 83, qe (.ba 72 1)) :: ((some 84, qe (S x1.f1)) :: ((some 85, qe (LL a49 p2)) :: ((some 86, qe (I p3)) :: ((some 87, qe (I (subI .i64 p3 1))) :: ((some 88, qe (.ia [S x11.f0, S x11.f1, I x11.f2] 0)) :: ((some 89, qe (.ia [S x11.f0, S x11.f1, I x11.f2] 1)) :: ((some 90, qe (S x11.f1)) :: ((some 91, qe (B (ltS x1.f1 x11.f1 || eqS x1.f1 x11.f1))) :: ((some 92, qe (B (ltS x1.f1 x11.f1 || eqS x1.f1 x11.f1))) :: ((some 93, qe (B (ltS x1.f1 x11.f1 || eqS x1.f1 x11.f1))) :: ((some 94, qe (B (ltS x1.f1 x11.f1 || eqS x1.f1 x11.f1))) :: [(some 59, qe (B (ltS x1.f1 x11.f1 || eqS x1.f1 x11.f1)))]))))))))))))))))))))))))))) ?_
                refine de (mkE ((59, B (ltS x1.f1 x11.f1 || eqS x1.f1 x11.f1)) :: ((94, B (ltS x1.f1 x11.f1 || eqS x1.f1 x11.f1)) :: ((93, B (ltS x1.f1 x11.f1 || eqS x1.f1 x11.f1)) :: ((92, B (ltS x1.f1 x11.f1 || eqS x1.f1 x11.f1)) :: ((91, B (ltS x1.f1 x11.f1 || eqS x1.f1 x11.f1)) :: ((90, S x11.f1) :: ((89, .ia [S x11.f0, S x11.f1, I x11.f2] 1) :: ((88, .ia [S x11.f0, S x11.f1, I x11.f2] 0) :: ((87, I (subI .i64 p3 1)) :: ((86, I p3) :: ((85, LL a49 p2) :: ((84, S x1.f1) :: ((83, .ba 72 1) :: ((82, B true) :: ((81, B (eqS x1.f0 x10.f0)) :: ((80, S x10.f0) :: ((79, .ia [S x10.f0, S x10.f1, I x10.f2] 0) :: ((78, .ia [S x10.f0, S x10.f1, I x10.f2] 0) :: (s_5.append ((74, S x1.f0) :: ((73, .ba 72 0) :: ((72, B false) :: ((71, B (ltS x1.f0 x9.f0)) :: ((70, S x9.f0) :: ((69, .ia [S x9.f0, S x9.f1, I x9.f2] 0) :: ((68, .ia [S x9.f0, S x9.f1, I x9.f2] 0) :: (s_3.append ((64, S x1.f0) :: (s_4.append (s_0.append [(50, B x8)])))))))))))))))))))))))))))))) [(72, .box [S x1.f0, S x1.f1, I x1.f2] false)] 95) ?_
                refine se (mkE [(59, B (ltS x1.f1 x11.f1 || eqS x1.f1 x11.f1))] [] 95) ?_
                refine pN ?_
                refine pS ?_
                refine gC 59 (ltS x1.f1 x11.f1 || eqS x1.f1 x11.f1) ?_ ?_
                · refine gS 0 ?_
                  refine gR 11 (rg Try.f171 11) ?_
                  refine se (mkE [(8, I 7)] [] 95) ?_
                  refine pN ?_
                  refine pS ?_
                  refine gE ?_
                  exact pL
                · refine gK ?_
                  refine pB ?_
                  refine pN ?_
                  refine pS ?_
                  refine gS 0 ?_
                  refine gR 12 (rg Try.f171 12) ?_
                  refine se (mkE [(8, I 0)] [] 95) ?_
                  refine pN ?_
                  refine pS ?_
                  refine gE ?_
                  exact pL
              · refine dg 36 (d_0.append ((some 64, qe (S x1.f0)) :: (d_1.append ((some 68, qe (.ia [S x9.f0, S x9.f1, I x9.f2] 0)) :: ((some 69, qe (.ia [S x9.f0, S x9.f1, I x9.f2] 0)) :: ((some 70, qe (S x9.f0)) :: ((some 71, qe (B (ltS x1.f0 x9.f0))) :: (d_4.append ((some 74, qe (S x1.f0)) :: (d_3.append ((some 78, qe (.ia [S x10.f0, S x10.f1, I x10.f2] 0)) :: ((some 79, qe (.ia [S x10.f0, S x10.f1, I x10.f2] 0)) :: ((some 80, qe (S x10.f0)) :: ((some 81, qe (B (eqS x1.f0 x10.f0))) :: ((some 82, qe (B false)) :: ((some 83, qe (.und)) :: ((some 84, qe (.und)) :: ((some 85, qe (.und)) :: ((some 86, qe (.und)) :: ((some 87, qe (.und)) :: ((some 88, qe (.und)) :: ((some 89, qe (.und)) :: ((some 90, qe (.und)) :: ((some 91, qe (.und)) :: ((some 92, qe (B false)) :: ((some 93, qe (B false)) :: ((some 94, qe (B false)) :: [(some 59, qe (B false))]))))))))))))))))))))))))))) ?_
                refine de (mkE ((59, B false) :: ((94, B false) :: ((93, B false) :: ((92, B false) :: ((91, .und) :: ((90, .und) :: ((89, .und) :: ((88, .und) :: ((87, .und) :: ((86, .und) :: ((85, .und) :: ((84, .und) :: ((83, .und) :: ((82, B false) :: ((81, B (eqS x1.f0 x10.f0)) :: ((80, S x10.f0) :: ((79, .ia [S x10.f0, S x10.f1, I x10.f2] 0) :: ((78, .ia [S x10.f0, S x10.f1, I x10.f2] 0) :: (s_5.append ((74, S x1.f0) :: ((73, .ba 72 0) :: ((72, B false) :: ((71, B (ltS x1.f0 x9.f0)) :: ((70, S x9.f0) :: ((69, .ia [S x9.f0, S x9.f1, I x9.f2] 0) :: ((68, .ia [S x9.f0, S x9.f1, I x9.f2] 0) :: (s_3.append ((64, S x1.f0) :: (s_4.append (s_0.append [(50, B x8)])))))))))))))))))))))))))))))) [(72, .box [S x1.f0, S x1.f1, I x1.f2] false)] 95) ?_
                refine se (mkE [(59, B false)] [] 95) ?_
                refine pN ?_
                refine pS ?_
                refine gF (.tmp 59) ?_
                refine gK ?_
                refine pB ?_
                refine pN ?_
                refine pS ?_
                refine gS 0 ?_
                refine gR 12 (rg Try.f171 12) ?_
                refine se (mkE [(8, I 0)] [] 95) ?_
                refine pN ?_
                refine pS ?_
                refine gE ?_
                exact pL
          · refine dg 36 ((some 60, qe (I p3)) :: ((some 61, qe (B (ltI 0 p3))) :: ((some 62, qe (B false)) :: ((some 63, qe (.und)) :: ((some 64, qe (.und)) :: ((some 65, qe (.und)) :: ((some 66, qe (.und)) :: ((some 67, qe (.und)) :: ((some 68, qe (.und)) :: ((some 69, qe (.und)) :: ((some 70, qe (.und)) :: ((some 71, qe (.und)) :: ((some 72, qe (.und)) :: (d_2.append ((some 93, qe (.und)) :: ((some 94, qe (B false)) :: [(some 59, qe (B false))])))))))))))))))) ?_
            refine de (mkE ((59, B false) :: ((94, B false) :: ((93, .und) :: (s_2.append ((72, .und) :: ((71, .und) :: ((70, .und) :: ((69, .und) :: ((68, .und) :: ((67, .und) :: ((66, .und) :: ((65, .und) :: ((64, .und) :: ((63, .und) :: ((62, B false) :: ((61, B (ltI 0 p3)) :: ((60, I p3) :: (s_0.append [(50, B x8)])))))))))))))))))) [(72, .box [S x1.f0, S x1.f1, I x1.f2] false)] 95) ?_
            refine se (mkE [(59, B false)] [] 95) ?_
            refine pN ?_
            refine pS ?_
            refine gF (.tmp 59) ?_
            refine gK ?_
            refine pB ?_
            refine pN ?_
            refine pS ?_
            refine gS 0 ?_
            refine gR 12 (rg Try.f171 12) ?_
            refine se (mkE [(8, I 0)] [] 95) ?_
            refine pN ?_
            refine pS ?_
            refine gE ?_
            exact pL
theorem F171 (m : Nat) (hm : 6 ≤ m) (p0 : (List S90)) (p1 : (List S53)) (p2 : (List S49)) (p3 : Int) : callA Try.prog cfg m 171 [LL a90 p0, LL a53 p1, LL a49 p2, I p3] = (T171 p0 p1 p2 p3).map I := by
  obtain ⟨q, rfl⟩ : ∃ q, m = q + 1 := ⟨m - 1, by omega⟩
  exact (callA_body (fn := Try.f171) (c := body_ Try.f171) q _ (by kernel_rfl) (by kernel_rfl) (by kernel_rfl)).trans (B171 _ (fun p0 p1 p2 => F126 q (by omega) p0 p1 p2) (fun p0 p1 => F151 q (by omega) p0 p1) (fun p0 p1 => F236 q (by omega) p0 p1) (fun p0 p1 => F237 q (by omega) p0 p1) p0 p1 p2 p3)

noncomputable def T173 (p0 : S90) (p1_c0 : (List (ByteArray × Int))) : Option Bool := (some (ltI p0.f2 ((mgetB eqB p1_c0 p0.f0).getD 0)))
theorem B173 (C : Callee) (p0 : S90) (p1_c0 : (List (ByteArray × Int))) : runs Try.prog C (cfg.fn 173) (finFn Try.prog (cfg.fn 173).byval Try.f173) [] (execA Try.prog C (cfg.fn 173) (nr Try.f173 []) (frame0 [a90 p0, .ia [MV S I p1_c0] 0] 11 false)) = (T173 p0 p1_c0).map B := by
  unfold T173
  refine gS 1 ?_
  refine gR 0 (rg Try.f173 0) ?_
  refine se (mkE [(1, .ia [MV S I p1_c0] 0), (2, .ba 16 0)] [(16, .box [S p0.f0, I p0.f1.f0, I p0.f1.f1, I p0.f2, LL S p0.f3] false)] 11) ?_
  refine pN ?_
  refine pS ?_
  refine gS 0 ?_
  refine gR 1 (rg Try.f173 1) ?_
  refine sg 3 (mkE [(6, S p0.f0), (5, .ba 16 0), (4, MV S I p1_c0), (1, .ia [MV S I p1_c0] 0), (2, .ba 16 0)] [(16, .box [S p0.f0, I p0.f1.f0, I p0.f1.f1, I p0.f2, LL S p0.f3] false)] 11) ?_
  refine eo 7 (I ((mgetB eqB p1_c0 p0.f0).getD 0)) (mapV 202 9 3 S I eqB p1_c0 p0.f0 0 sameS) ?_
  refine se (mkE [(3, B (ltI p0.f2 ((mgetB eqB p1_c0 p0.f0).getD 0)))] [] 11) ?_
  refine pN ?_
  refine pS ?_
  refine gE ?_
  exact pL
theorem F173 (m : Nat) (hm : 1 ≤ m) (p0 : S90) (p1_c0 : (List (ByteArray × Int))) : callA Try.prog cfg m 173 [a90 p0, .ia [MV S I p1_c0] 0] = (T173 p0 p1_c0).map B := by
  obtain ⟨q, rfl⟩ : ∃ q, m = q + 1 := ⟨m - 1, by omega⟩
  exact (callA_body (fn := Try.f173) (c := body_ Try.f173) q _ (by kernel_rfl) (by kernel_rfl) (by kernel_rfl)).trans (B173 _ p0 p1_c0)

noncomputable def L168_1_2 (p0 : (List S90)) (p1_c0 : (List (ByteArray × Int))) (z0 : Int) : Option (Int ⊕ ((Int × Bool) ⊕ Int)) := (bif (ltI z0 (lenL p0)) then ((listAt p0 z0).bind fun x1 => ((T173 x1 p1_c0).bind fun x2 => (bif x2 then (some (.inr (.inr z0))) else (some (.inl (addI .i64 z0 1)))))) else (some (.inr (.inl (z0, (ltI z0 (lenL p0)))))))
theorem L168_1_2_ok (C : Callee) (h173 : ∀ (p0 : S90) (p1_c0 : (List (ByteArray × Int))), C 173 [a90 p0, .ia [MV S I p1_c0] 0] = (T173 p0 p1_c0).map B) (p0 : (List S90)) (p1_c0 : (List (ByteArray × Int))) (z0 : Int) : runs Try.prog C (cfg.fn 168) (finLoop ((cfg.fn 168).keep 2) ((cfg.fn 168).al 2)) [] (execA Try.prog C (cfg.fn 168) (nr Try.f168 [false, false, true, false, true]) ((fun z0 : Int => (mkE [(0, LL a90 p0), (1, .fn 173 [.ia [MV S I p1_c0] 0]), (7, I (lenL p0)), (8, I z0)] [] 19)) z0)) = (L168_1_2 p0 p1_c0 z0).map (Sum.elim (fun z => .inl ((fun z0 : Int => (mkE [(0, LL a90 p0), (1, .fn 173 [.ia [MV S I p1_c0] 0]), (7, I (lenL p0)), (8, I z0)] [] 19)) z)) (fun x => .inr ((Sum.elim (fun (x : (Int × Bool)) => (.exit 0, (mkE [(0, LL a90 p0), (1, .fn 173 [.ia [MV S I p1_c0] 0]), (7, I (lenL p0)), (8, I x.1), (9, B x.2)] [] 19))) (fun (x : Int) => (.ret, (mkE [(4, I x)] [] 19)))) x))) := by
  unfold L168_1_2
  let s_0 : List (Nat × AV) := [(0, LL a90 p0), (1, .fn 173 [.ia [MV S I p1_c0] 0]), (5, I z0), (7, I (lenL p0)), (8, I z0)]
  refine gS 0 ?_
  refine gR 2 (rg Try.f168 2) ?_
  refine se (mkE [(0, LL a90 p0), (1, .fn 173 [.ia [MV S I p1_c0] 0]), (7, I (lenL p0)), (8, I z0), (9, B (ltI z0 (lenL p0)))] [] 19) ?_
  refine pN ?_
  refine pS ?_
  refine gS 3 ?_
  refine gC 9 (ltI z0 (lenL p0)) ?_ ?_
  · refine gK ?_
    refine pN ?_
    refine pS ?_
    refine gS 6 ?_
    refine gB 1 ?_
    refine gS 4 ?_
    refine gR 3 (rg Try.f168 3) ?_
    refine se (mkE s_0 [] 19) ?_
    refine pN ?_
    refine pS ?_
    refine gS 0 ?_
    refine gR 4 (rg Try.f168 4) ?_
    refine sg 3 (mkE ((13, I z0) :: ((12, LL a90 p0) :: ((11, .fn 173 [.ia [MV S I p1_c0] 0]) :: s_0))) [] 19) ?_
    refine vo 14 (addrE 28 91 5 a90 .i64 p0 z0) (fun x1 => ?_)
    refine sg 5 (mkE ((15, a90 x1) :: ((14, .ia [S x1.f0, I x1.f1.f0, I x1.f1.f1, I x1.f2, LL S x1.f3] 0) :: ((13, I z0) :: ((12, LL a90 p0) :: ((11, .fn 173 [.ia [MV S I p1_c0] 0]) :: s_0))))) [] 19) ?_
    refine co 16 [] (h173 x1 p1_c0) (fun x2 => ?_)
    refine se (mkE (s_0.append [(16, B x2)]) [] 19) ?_
    refine pN ?_
    refine pS ?_
    refine gC 16 x2 ?_ ?_
    · refine gS 0 ?_
      refine gR 5 (rg Try.f168 5) ?_
      refine se (mkE [(4, I z0)] [] 19) ?_
      refine pN ?_
      refine pS ?_
      refine gE ?_
      exact pL
    · refine gK ?_
      refine pB ?_
      refine pN ?_
      refine pS ?_
      refine gR 6 (rg Try.f168 6) ?_
      refine se (mkE [(0, LL a90 p0), (1, .fn 173 [.ia [MV S I p1_c0] 0]), (7, I (lenL p0)), (8, I (addI .i64 z0 1))] [] 19) ?_
      exact pL
  · refine gX 0 ?_
    exact pL
noncomputable def T168_1 (p0 : (List S90)) (p1_c0 : (List (ByteArray × Int))) : Option Int := ((iter (L168_1_2 p0 p1_c0) 0).bind fun y3 => (Sum.elim (fun y3a => (some (-1))) (fun y3b => (some y3b)) y3))
theorem B168_1 (C : Callee) (h173 : ∀ (p0 : S90) (p1_c0 : (List (ByteArray × Int))), C 173 [a90 p0, .ia [MV S I p1_c0] 0] = (T173 p0 p1_c0).map B) (p0 : (List S90)) (p1_c0 : (List (ByteArray × Int))) : runs Try.prog C (cfg.fn 168) (finFn Try.prog (cfg.fn 168).byval Try.f168) [] (execA Try.prog C (cfg.fn 168) (nr Try.f168 []) (frame0 [LL a90 p0, .fn 173 [.ia [MV S I p1_c0] 0]] 19 false)) = (T168_1 p0 p1_c0).map I := by
  unfold T168_1
  let s_0 : List (Nat × AV) := [(0, LL a90 p0), (1, .fn 173 [.ia [MV S I p1_c0] 0])]
  refine gS 1 ?_
  refine gR 0 (rg Try.f168 0) ?_
  refine se (mkE s_0 [] 19) ?_
  refine pN ?_
  refine pS ?_
  refine gS 7 ?_
  refine gS 2 ?_
  refine gR 1 (rg Try.f168 1) ?_
  refine sg 1 (mkE ((6, LL a90 p0) :: s_0) [] 19) ?_
  refine eo 7 (I (lenL p0)) (lenE 28 a90 p0) ?_
  refine se (mkE (s_0.append ((7, I (lenL p0)) :: [(8, I 0)])) [] 19) ?_
  refine pN ?_
  refine pS ?_
  refine gB 0 ?_
  refine lo [(0, none), (1, none), (7, none), (8, none)] [] (L168_1_2 p0 p1_c0) (fun z0 : Int => (mkE (s_0.append ((7, I (lenL p0)) :: [(8, I z0)])) [] 19)) (Sum.elim (fun (x : (Int × Bool)) => (.exit 0, (mkE (s_0.append ((7, I (lenL p0)) :: ((8, I x.1) :: [(9, B x.2)]))) [] 19))) (fun (x : Int) => (.ret, (mkE [(4, I x)] [] 19)))) 0 (fun z => L168_1_2_ok C h173 p0 p1_c0 z) ?_
  intro y3
  refine ss y3 (Z := (Sum.elim (fun (x : (Int × Bool)) => (.exit 0, (mkE (s_0.append ((7, I (lenL p0)) :: ((8, I x.1) :: [(9, B x.2)]))) [] 19))) (fun (x : Int) => (.ret, (mkE [(4, I x)] [] 19))))) (fun y3a => ?_) (fun y3b => ?_)
  · refine pH ?_
    refine pN ?_
    refine pS ?_
    refine gS 0 ?_
    refine gR 7 (rg Try.f168 7) ?_
    refine se (mkE [(4, I (-1))] [] 19) ?_
    refine pN ?_
    refine pS ?_
    refine gE ?_
    exact pL
  · exact pL
theorem F168_1 (m : Nat) (hm : 2 ≤ m) (p0 : (List S90)) (p1_c0 : (List (ByteArray × Int))) : callA Try.prog cfg m 168 [LL a90 p0, .fn 173 [.ia [MV S I p1_c0] 0]] = (T168_1 p0 p1_c0).map I := by
  obtain ⟨q, rfl⟩ : ∃ q, m = q + 1 := ⟨m - 1, by omega⟩
  exact (callA_body (fn := Try.f168) (c := body_ Try.f168) q _ (by kernel_rfl) (by kernel_rfl) (by kernel_rfl)).trans (B168_1 _ (fun p0 p1_c0 => F173 q (by omega) p0 p1_c0) p0 p1_c0)

noncomputable def T172 (p0 : (List S90)) (p1_c0 : (List (ByteArray × Int))) : Option Bool := ((T168_1 p0 p1_c0).bind fun x1 => (some (leI 0 x1)))
theorem B172 (C : Callee) (h168_1 : ∀ (p0 : (List S90)) (p1_c0 : (List (ByteArray × Int))), C 168 [LL a90 p0, .fn 173 [.ia [MV S I p1_c0] 0]] = (T168_1 p0 p1_c0).map I) (p0 : (List S90)) (p1_c0 : (List (ByteArray × Int))) : runs Try.prog C (cfg.fn 172) (finFn Try.prog (cfg.fn 172).byval Try.f172) [] (execA Try.prog C (cfg.fn 172) (nr Try.f172 []) (frame0 [LL a90 p0, .fn 173 [.ia [MV S I p1_c0] 0]] 9 false)) = (T172 p0 p1_c0).map B := by
  unfold T172
  refine gS 1 ?_
  refine gR 0 (rg Try.f172 0) ?_
  refine se (mkE [(0, LL a90 p0), (1, .fn 173 [.ia [MV S I p1_c0] 0])] [] 9) ?_
  refine pN ?_
  refine pS ?_
  refine gS 0 ?_
  refine gR 1 (rg Try.f172 1) ?_
  refine sg 2 (mkE [(6, .fn 173 [.ia [MV S I p1_c0] 0]), (5, LL a90 p0), (0, LL a90 p0), (1, .fn 173 [.ia [MV S I p1_c0] 0])] [] 9) ?_
  refine co 7 [] (h168_1 p0 p1_c0) (fun x1 => ?_)
  refine se (mkE [(4, B (leI 0 x1))] [] 9) ?_
  refine pN ?_
  refine pS ?_
  refine gE ?_
  exact pL
theorem F172 (m : Nat) (hm : 3 ≤ m) (p0 : (List S90)) (p1_c0 : (List (ByteArray × Int))) : callA Try.prog cfg m 172 [LL a90 p0, .fn 173 [.ia [MV S I p1_c0] 0]] = (T172 p0 p1_c0).map B := by
  obtain ⟨q, rfl⟩ : ∃ q, m = q + 1 := ⟨m - 1, by omega⟩
  exact (callA_body (fn := Try.f172) (c := body_ Try.f172) q _ (by kernel_rfl) (by kernel_rfl) (by kernel_rfl)).trans (B172 _ (fun p0 p1_c0 => F168_1 q (by omega) p0 p1_c0) p0 p1_c0)

noncomputable def T174 (p0 : S53) (p1_c0 : (List (ByteArray × Int))) : Option Bool := (some (ltI p0.f4 ((mgetB eqB p1_c0 p0.f0).getD 0)))
theorem B174 (C : Callee) (p0 : S53) (p1_c0 : (List (ByteArray × Int))) : runs Try.prog C (cfg.fn 174) (finFn Try.prog (cfg.fn 174).byval Try.f174) [] (execA Try.prog C (cfg.fn 174) (nr Try.f174 []) (frame0 [a53 p0, .ia [MV S I p1_c0] 0] 11 false)) = (T174 p0 p1_c0).map B := by
  unfold T174
  refine gS 1 ?_
  refine gR 0 (rg Try.f174 0) ?_
  refine se (mkE [(1, .ia [MV S I p1_c0] 0), (2, .ba 16 0)] [(16, .box [S p0.f0, S p0.f1, I p0.f2.f0, I p0.f2.f1, LL S p0.f3, I p0.f4, I p0.f5, I p0.f6] false)] 11) ?_
  refine pN ?_
  refine pS ?_
  refine gS 0 ?_
  refine gR 1 (rg Try.f174 1) ?_
  refine sg 3 (mkE [(6, S p0.f0), (5, .ba 16 0), (4, MV S I p1_c0), (1, .ia [MV S I p1_c0] 0), (2, .ba 16 0)] [(16, .box [S p0.f0, S p0.f1, I p0.f2.f0, I p0.f2.f1, LL S p0.f3, I p0.f4, I p0.f5, I p0.f6] false)] 11) ?_
  refine eo 7 (I ((mgetB eqB p1_c0 p0.f0).getD 0)) (mapV 202 9 3 S I eqB p1_c0 p0.f0 0 sameS) ?_
  refine se (mkE [(3, B (ltI p0.f4 ((mgetB eqB p1_c0 p0.f0).getD 0)))] [] 11) ?_
  refine pN ?_
  refine pS ?_
  refine gE ?_
  exact pL
theorem F174 (m : Nat) (hm : 1 ≤ m) (p0 : S53) (p1_c0 : (List (ByteArray × Int))) : callA Try.prog cfg m 174 [a53 p0, .ia [MV S I p1_c0] 0] = (T174 p0 p1_c0).map B := by
  obtain ⟨q, rfl⟩ : ∃ q, m = q + 1 := ⟨m - 1, by omega⟩
  exact (callA_body (fn := Try.f174) (c := body_ Try.f174) q _ (by kernel_rfl) (by kernel_rfl) (by kernel_rfl)).trans (B174 _ p0 p1_c0)

noncomputable def L166_1_2 (p0 : (List S53)) (p1_c0 : (List (ByteArray × Int))) (z0 : Int) : Option (Int ⊕ ((Int × Bool) ⊕ Int)) := (bif (ltI z0 (lenL p0)) then ((listAt p0 z0).bind fun x1 => ((T174 x1 p1_c0).bind fun x2 => (bif x2 then (some (.inr (.inr z0))) else (some (.inl (addI .i64 z0 1)))))) else (some (.inr (.inl (z0, (ltI z0 (lenL p0)))))))
theorem L166_1_2_ok (C : Callee) (h174 : ∀ (p0 : S53) (p1_c0 : (List (ByteArray × Int))), C 174 [a53 p0, .ia [MV S I p1_c0] 0] = (T174 p0 p1_c0).map B) (p0 : (List S53)) (p1_c0 : (List (ByteArray × Int))) (z0 : Int) : runs Try.prog C (cfg.fn 166) (finLoop ((cfg.fn 166).keep 2) ((cfg.fn 166).al 2)) [] (execA Try.prog C (cfg.fn 166) (nr Try.f166 [false, false, true, false, true]) ((fun z0 : Int => (mkE [(0, LL a53 p0), (1, .fn 174 [.ia [MV S I p1_c0] 0]), (7, I (lenL p0)), (8, I z0)] [] 19)) z0)) = (L166_1_2 p0 p1_c0 z0).map (Sum.elim (fun z => .inl ((fun z0 : Int => (mkE [(0, LL a53 p0), (1, .fn 174 [.ia [MV S I p1_c0] 0]), (7, I (lenL p0)), (8, I z0)] [] 19)) z)) (fun x => .inr ((Sum.elim (fun (x : (Int × Bool)) => (.exit 0, (mkE [(0, LL a53 p0), (1, .fn 174 [.ia [MV S I p1_c0] 0]), (7, I (lenL p0)), (8, I x.1), (9, B x.2)] [] 19))) (fun (x : Int) => (.ret, (mkE [(4, I x)] [] 19)))) x))) := by
  unfold L166_1_2
  let s_0 : List (Nat × AV) := [(0, LL a53 p0), (1, .fn 174 [.ia [MV S I p1_c0] 0]), (5, I z0), (7, I (lenL p0)), (8, I z0)]
  refine gS 0 ?_
  refine gR 2 (rg Try.f166 2) ?_
  refine se (mkE [(0, LL a53 p0), (1, .fn 174 [.ia [MV S I p1_c0] 0]), (7, I (lenL p0)), (8, I z0), (9, B (ltI z0 (lenL p0)))] [] 19) ?_
  refine pN ?_
  refine pS ?_
  refine gS 3 ?_
  refine gC 9 (ltI z0 (lenL p0)) ?_ ?_
  · refine gK ?_
    refine pN ?_
    refine pS ?_
    refine gS 6 ?_
    refine gB 1 ?_
    refine gS 4 ?_
    refine gR 3 (rg Try.f166 3) ?_
    refine se (mkE s_0 [] 19) ?_
    refine pN ?_
    refine pS ?_
    refine gS 0 ?_
    refine gR 4 (rg Try.f166 4) ?_
    refine sg 3 (mkE ((13, I z0) :: ((12, LL a53 p0) :: ((11, .fn 174 [.ia [MV S I p1_c0] 0]) :: s_0))) [] 19) ?_
    refine vo 14 (addrE 29 54 8 a53 .i64 p0 z0) (fun x1 => ?_)
    refine sg 5 (mkE ((15, a53 x1) :: ((14, .ia [S x1.f0, S x1.f1, I x1.f2.f0, I x1.f2.f1, LL S x1.f3, I x1.f4, I x1.f5, I x1.f6] 0) :: ((13, I z0) :: ((12, LL a53 p0) :: ((11, .fn 174 [.ia [MV S I p1_c0] 0]) :: s_0))))) [] 19) ?_
    refine co 16 [] (h174 x1 p1_c0) (fun x2 => ?_)
    refine se (mkE (s_0.append [(16, B x2)]) [] 19) ?_
    refine pN ?_
    refine pS ?_
    refine gC 16 x2 ?_ ?_
    · refine gS 0 ?_
      refine gR 5 (rg Try.f166 5) ?_
      refine se (mkE [(4, I z0)] [] 19) ?_
      refine pN ?_
      refine pS ?_
      refine gE ?_
      exact pL
    · refine gK ?_
      refine pB ?_
      refine pN ?_
      refine pS ?_
      refine gR 6 (rg Try.f166 6) ?_
      refine se (mkE [(0, LL a53 p0), (1, .fn 174 [.ia [MV S I p1_c0] 0]), (7, I (lenL p0)), (8, I (addI .i64 z0 1))] [] 19) ?_
      exact pL
  · refine gX 0 ?_
    exact pL
noncomputable def T166_1 (p0 : (List S53)) (p1_c0 : (List (ByteArray × Int))) : Option Int := ((iter (L166_1_2 p0 p1_c0) 0).bind fun y3 => (Sum.elim (fun y3a => (some (-1))) (fun y3b => (some y3b)) y3))
theorem B166_1 (C : Callee) (h174 : ∀ (p0 : S53) (p1_c0 : (List (ByteArray × Int))), C 174 [a53 p0, .ia [MV S I p1_c0] 0] = (T174 p0 p1_c0).map B) (p0 : (List S53)) (p1_c0 : (List (ByteArray × Int))) : runs Try.prog C (cfg.fn 166) (finFn Try.prog (cfg.fn 166).byval Try.f166) [] (execA Try.prog C (cfg.fn 166) (nr Try.f166 []) (frame0 [LL a53 p0, .fn 174 [.ia [MV S I p1_c0] 0]] 19 false)) = (T166_1 p0 p1_c0).map I := by
  unfold T166_1
  let s_0 : List (Nat × AV) := [(0, LL a53 p0), (1, .fn 174 [.ia [MV S I p1_c0] 0])]
  refine gS 1 ?_
  refine gR 0 (rg Try.f166 0) ?_
  refine se (mkE s_0 [] 19) ?_
  refine pN ?_
  refine pS ?_
  refine gS 7 ?_
  refine gS 2 ?_
  refine gR 1 (rg Try.f166 1) ?_
  refine sg 1 (mkE ((6, LL a53 p0) :: s_0) [] 19) ?_
  refine eo 7 (I (lenL p0)) (lenE 29 a53 p0) ?_
  refine se (mkE (s_0.append ((7, I (lenL p0)) :: [(8, I 0)])) [] 19) ?_
  refine pN ?_
  refine pS ?_
  refine gB 0 ?_
  refine lo [(0, none), (1, none), (7, none), (8, none)] [] (L166_1_2 p0 p1_c0) (fun z0 : Int => (mkE (s_0.append ((7, I (lenL p0)) :: [(8, I z0)])) [] 19)) (Sum.elim (fun (x : (Int × Bool)) => (.exit 0, (mkE (s_0.append ((7, I (lenL p0)) :: ((8, I x.1) :: [(9, B x.2)]))) [] 19))) (fun (x : Int) => (.ret, (mkE [(4, I x)] [] 19)))) 0 (fun z => L166_1_2_ok C h174 p0 p1_c0 z) ?_
  intro y3
  refine ss y3 (Z := (Sum.elim (fun (x : (Int × Bool)) => (.exit 0, (mkE (s_0.append ((7, I (lenL p0)) :: ((8, I x.1) :: [(9, B x.2)]))) [] 19))) (fun (x : Int) => (.ret, (mkE [(4, I x)] [] 19))))) (fun y3a => ?_) (fun y3b => ?_)
  · refine pH ?_
    refine pN ?_
    refine pS ?_
    refine gS 0 ?_
    refine gR 7 (rg Try.f166 7) ?_
    refine se (mkE [(4, I (-1))] [] 19) ?_
    refine pN ?_
    refine pS ?_
    refine gE ?_
    exact pL
  · exact pL
theorem F166_1 (m : Nat) (hm : 2 ≤ m) (p0 : (List S53)) (p1_c0 : (List (ByteArray × Int))) : callA Try.prog cfg m 166 [LL a53 p0, .fn 174 [.ia [MV S I p1_c0] 0]] = (T166_1 p0 p1_c0).map I := by
  obtain ⟨q, rfl⟩ : ∃ q, m = q + 1 := ⟨m - 1, by omega⟩
  exact (callA_body (fn := Try.f166) (c := body_ Try.f166) q _ (by kernel_rfl) (by kernel_rfl) (by kernel_rfl)).trans (B166_1 _ (fun p0 p1_c0 => F174 q (by omega) p0 p1_c0) p0 p1_c0)

noncomputable def T95 (p0 : (List S53)) (p1_c0 : (List (ByteArray × Int))) : Option Bool := ((T166_1 p0 p1_c0).bind fun x1 => (some (leI 0 x1)))
theorem B95 (C : Callee) (h166_1 : ∀ (p0 : (List S53)) (p1_c0 : (List (ByteArray × Int))), C 166 [LL a53 p0, .fn 174 [.ia [MV S I p1_c0] 0]] = (T166_1 p0 p1_c0).map I) (p0 : (List S53)) (p1_c0 : (List (ByteArray × Int))) : runs Try.prog C (cfg.fn 95) (finFn Try.prog (cfg.fn 95).byval Try.f95) [] (execA Try.prog C (cfg.fn 95) (nr Try.f95 []) (frame0 [LL a53 p0, .fn 174 [.ia [MV S I p1_c0] 0]] 9 false)) = (T95 p0 p1_c0).map B := by
  unfold T95
  refine gS 1 ?_
  refine gR 0 (rg Try.f95 0) ?_
  refine se (mkE [(0, LL a53 p0), (1, .fn 174 [.ia [MV S I p1_c0] 0])] [] 9) ?_
  refine pN ?_
  refine pS ?_
  refine gS 0 ?_
  refine gR 1 (rg Try.f95 1) ?_
  refine sg 2 (mkE [(6, .fn 174 [.ia [MV S I p1_c0] 0]), (5, LL a53 p0), (0, LL a53 p0), (1, .fn 174 [.ia [MV S I p1_c0] 0])] [] 9) ?_
  refine co 7 [] (h166_1 p0 p1_c0) (fun x1 => ?_)
  refine se (mkE [(4, B (leI 0 x1))] [] 9) ?_
  refine pN ?_
  refine pS ?_
  refine gE ?_
  exact pL
theorem F95 (m : Nat) (hm : 3 ≤ m) (p0 : (List S53)) (p1_c0 : (List (ByteArray × Int))) : callA Try.prog cfg m 95 [LL a53 p0, .fn 174 [.ia [MV S I p1_c0] 0]] = (T95 p0 p1_c0).map B := by
  obtain ⟨q, rfl⟩ : ∃ q, m = q + 1 := ⟨m - 1, by omega⟩
  exact (callA_body (fn := Try.f95) (c := body_ Try.f95) q _ (by kernel_rfl) (by kernel_rfl) (by kernel_rfl)).trans (B95 _ (fun p0 p1_c0 => F166_1 q (by omega) p0 p1_c0) p0 p1_c0)

noncomputable def L86_8 (p0 : (List S90)) (p1 : (List S53)) (p2 : (List S49)) (z0 : ((List (ByteArray × Int)) × (List (ByteArray × Int)) × Int)) : Option (((List (ByteArray × Int)) × (List (ByteArray × Int)) × Int) ⊕ ((Int × Bool × (List (ByteArray × Int)) × (List (ByteArray × Int))) ⊕ Int)) := (bif (ltI z0.2.2 (lenL p2)) then ((listAt p2 z0.2.2).bind fun x2 => ((T171 p0 p1 p2 z0.2.2).bind fun x3 => (bif (neI x3 0) then (some (.inr (.inr x3))) else ((some (msetB eqB z0.1 x2.f1 (addI .i64 ((mgetB eqB z0.1 x2.f1).getD 0) x2.f2))).bind fun x4 => ((some (msetB eqB z0.2.1 x2.f0 (addI .i64 ((mgetB eqB z0.2.1 x2.f0).getD 0) x2.f2))).bind fun x5 => (some (.inl (x4, x5, (addI .i64 z0.2.2 1))))))))) else (some (.inr (.inl (z0.2.2, (ltI z0.2.2 (lenL p2)), z0.1, z0.2.1)))))
theorem L86_8_ok (C : Callee) (h171 : ∀ (p0 : (List S90)) (p1 : (List S53)) (p2 : (List S49)) (p3 : Int), C 171 [LL a90 p0, LL a53 p1, LL a49 p2, I p3] = (T171 p0 p1 p2 p3).map I) (p0 : (List S90)) (p1 : (List S53)) (p2 : (List S49)) (z0 : ((List (ByteArray × Int)) × (List (ByteArray × Int)) × Int)) : runs Try.prog C (cfg.fn 86) (finLoop ((cfg.fn 86).keep 8) ((cfg.fn 86).al 8)) [] (execA Try.prog C (cfg.fn 86) (nr Try.f86 [false, false, true, false, true, true, true, true]) ((fun z0 : ((List (ByteArray × Int)) × (List (ByteArray × Int)) × Int) => (mkE [(0, LL a90 p0), (1, LL a53 p1), (2, LL a49 p2), (8, .ba 64 0), (9, .ba 72 0), (22, .mr 176), (23, .mr 184), (24, LL a49 p2), (25, I (lenL p2)), (26, I z0.2.2)] [(64, .box [.mr 176] false), (72, .box [.mr 184] false), (176, MP S I z0.1 false), (184, MP S I z0.2.1 false)] 62)) z0)) = (L86_8 p0 p1 p2 z0).map (Sum.elim (fun z => .inl ((fun z0 : ((List (ByteArray × Int)) × (List (ByteArray × Int)) × Int) => (mkE [(0, LL a90 p0), (1, LL a53 p1), (2, LL a49 p2), (8, .ba 64 0), (9, .ba 72 0), (22, .mr 176), (23, .mr 184), (24, LL a49 p2), (25, I (lenL p2)), (26, I z0.2.2)] [(64, .box [.mr 176] false), (72, .box [.mr 184] false), (176, MP S I z0.1 false), (184, MP S I z0.2.1 false)] 62)) z)) (fun x => .inr ((Sum.elim (fun (x : (Int × Bool × (List (ByteArray × Int)) × (List (ByteArray × Int)))) => (.exit 0, (mkE [(0, LL a90 p0), (1, LL a53 p1), (2, LL a49 p2), (8, .ba 64 0), (9, .ba 72 0), (22, .mr 176), (23, .mr 184), (24, LL a49 p2), (25, I (lenL p2)), (26, I x.1), (27, B x.2.1)] [(64, .box [.mr 176] false), (72, .box [.mr 184] false), (176, MP S I x.2.2.1 false), (184, MP S I x.2.2.2 false)] 62))) (fun (x : Int) => (.ret, (mkE [(6, I x)] [] 62)))) x))) := by
  unfold L86_8
  let s_0 : List (Nat × AV) := [(0, LL a90 p0), (1, LL a53 p1), (2, LL a49 p2), (8, .ba 64 0), (9, .ba 72 0)]
  let s_1 : List (Nat × AV) := [(22, .mr 176), (23, .mr 184), (24, LL a49 p2), (25, I (lenL p2)), (26, I z0.2.2)]
  let o_0 : List (Nat × AObj) := [(64, .box [.mr 176] false), (72, .box [.mr 184] false)]
  let o_1 : List (Nat × AObj) := [(176, MP S I z0.1 false), (184, MP S I z0.2.1 false)]
  refine gS 0 ?_
  refine gR 8 (rg Try.f86 8) ?_
  refine se (mkE (s_0.append (s_1.append [(27, B (ltI z0.2.2 (lenL p2)))])) (o_0.append o_1) 62) ?_
  refine pN ?_
  refine pS ?_
  refine gS 9 ?_
  refine gC 27 (ltI z0.2.2 (lenL p2)) ?_ ?_
  · refine gK ?_
    refine pN ?_
    refine pS ?_
    refine gS 15 ?_
    refine gB 1 ?_
    refine gS 10 ?_
    refine gR 9 (rg Try.f86 9) ?_
    refine sg 1 (mkE ((28, I z0.2.2) :: (s_0.append (s_1.append [(27, B (ltI z0.2.2 (lenL p2)))]))) (o_0.append o_1) 62) ?_
    refine vo 29 (addrE 47 50 3 a49 .i64 p2 z0.2.2) (fun x2 => ?_)
    refine se (mkE (s_0.append ((10, I z0.2.2) :: ((11, .ba 88 0) :: s_1))) (o_0.append ((88, .box [S x2.f0, S x2.f1, I x2.f2] false) :: o_1)) 62) ?_
    refine pN ?_
    refine pS ?_
    refine gS 13 ?_
    refine gS 11 ?_
    refine gR 10 (rg Try.f86 10) ?_
    refine sg 4 (mkE ((34, I z0.2.2) :: ((33, LL a49 p2) :: ((32, LL a53 p1) :: ((31, LL a90 p0) :: (s_0.append ((10, I z0.2.2) :: ((11, .ba 88 0) :: s_1))))))) (o_0.append ((88, .box [S x2.f0, S x2.f1, I x2.f2] false) :: o_1)) 62) ?_
    refine co 35 [] (h171 p0 p1 p2 z0.2.2) (fun x3 => ?_)
    refine se (mkE (s_0.append ((11, .ba 88 0) :: ((12, I x3) :: s_1))) (o_0.append ((88, .box [S x2.f0, S x2.f1, I x2.f2] false) :: o_1)) 62) ?_
    refine pN ?_
    refine pS ?_
    refine gS 0 ?_
    refine gR 11 (rg Try.f86 11) ?_
    refine se (mkE (s_0.append ((11, .ba 88 0) :: ((12, I x3) :: (s_1.append [(37, B (neI x3 0))])))) (o_0.append ((88, .box [S x2.f0, S x2.f1, I x2.f2] false) :: o_1)) 62) ?_
    refine pN ?_
    refine pS ?_
    refine gC 37 (neI x3 0) ?_ ?_
    · refine gS 0 ?_
      refine gR 12 (rg Try.f86 12) ?_
      refine se (mkE [(6, I x3)] [] 62) ?_
      refine pN ?_
      refine pS ?_
      refine gE ?_
      exact pL
    · refine gK ?_
      refine pN ?_
      refine pS ?_
      refine gS 14 ?_
      refine gR 13 (rg Try.f86 13) ?_
      refine sg 3 (mkE ((41, S x2.f1) :: ((40, .ba 88 1) :: ((39, .mr 176) :: (s_0.append ((11, .ba 88 0) :: ((12, I x3) :: (s_1.append [(37, B (neI x3 0))]))))))) (o_0.append ((88, .box [S x2.f0, S x2.f1, I x2.f2] false) :: o_1)) 62) ?_
      refine eo 42 (I ((mgetB eqB z0.1 x2.f1).getD 0)) (mapE 202 9 3 176 false S I eqB z0.1 x2.f1 0 sameS) ?_
      refine sg 7 (mkE ((45, I (addI .i64 ((mgetB eqB z0.1 x2.f1).getD 0) x2.f2)) :: ((44, I x2.f2) :: ((43, .ba 88 2) :: ((42, I ((mgetB eqB z0.1 x2.f1).getD 0)) :: ((41, S x2.f1) :: ((40, .ba 88 1) :: ((39, .mr 176) :: (s_0.append ((11, .ba 88 0) :: ((12, I x3) :: (s_1.append [(37, B (neI x3 0))]))))))))))) (o_0.append ((88, .box [S x2.f0, S x2.f1, I x2.f2] false) :: o_1)) 62) ?_
      refine mo none (mapO_ 202 9 3 176 S I eqB z0.1 x2.f1 (I (addI .i64 ((mgetB eqB z0.1 x2.f1).getD 0) x2.f2)) (addI .i64 ((mgetB eqB z0.1 x2.f1).getD 0) x2.f2) [] sameS) (fun x4 => ?_)
      refine se (mkE (s_0.append ((11, .ba 88 0) :: s_1)) (o_0.append ((88, .box [S x2.f0, S x2.f1, I x2.f2] false) :: ((176, MP S I x4 false) :: [(184, MP S I z0.2.1 false)]))) 62) ?_
      refine pN ?_
      refine pS ?_
      refine gR 14 (rg Try.f86 14) ?_
      refine sg 3 (mkE ((48, S x2.f0) :: ((47, .ba 88 0) :: ((46, .mr 184) :: (s_0.append ((11, .ba 88 0) :: s_1))))) (o_0.append ((88, .box [S x2.f0, S x2.f1, I x2.f2] false) :: ((176, MP S I x4 false) :: [(184, MP S I z0.2.1 false)]))) 62) ?_
      refine eo 49 (I ((mgetB eqB z0.2.1 x2.f0).getD 0)) (mapE 202 9 3 184 false S I eqB z0.2.1 x2.f0 0 sameS) ?_
      refine sg 7 (mkE ((52, I (addI .i64 ((mgetB eqB z0.2.1 x2.f0).getD 0) x2.f2)) :: ((51, I x2.f2) :: ((50, .ba 88 2) :: ((49, I ((mgetB eqB z0.2.1 x2.f0).getD 0)) :: ((48, S x2.f0) :: ((47, .ba 88 0) :: ((46, .mr 184) :: (s_0.append ((11, .ba 88 0) :: s_1))))))))) (o_0.append ((88, .box [S x2.f0, S x2.f1, I x2.f2] false) :: ((176, MP S I x4 false) :: [(184, MP S I z0.2.1 false)]))) 62) ?_
      refine mo none (mapO_ 202 9 3 184 S I eqB z0.2.1 x2.f0 (I (addI .i64 ((mgetB eqB z0.2.1 x2.f0).getD 0) x2.f2)) (addI .i64 ((mgetB eqB z0.2.1 x2.f0).getD 0) x2.f2) [] sameS) (fun x5 => ?_)
      refine se (mkE (s_0.append s_1) (o_0.append ((176, MP S I x4 false) :: [(184, MP S I x5 false)])) 62) ?_
      refine pB ?_
      refine pN ?_
      refine pS ?_
      refine gR 15 (rg Try.f86 15) ?_
      refine se (mkE (s_0.append ((22, .mr 176) :: ((23, .mr 184) :: ((24, LL a49 p2) :: ((25, I (lenL p2)) :: [(26, I (addI .i64 z0.2.2 1))]))))) (o_0.append ((176, MP S I x4 false) :: [(184, MP S I x5 false)])) 62) ?_
      exact pL
  · refine gX 0 ?_
    exact pL
noncomputable def T86 (p0 : (List S90)) (p1 : (List S53)) (p2 : (List S49)) : Option Int := ((T150 p0 p1).bind fun x1 => (bif (neI x1 0) then (some x1) else (bif (ltI 1800 (lenL p2)) then (some 2) else ((iter (L86_8 p0 p1 p2) (([] : (List (ByteArray × Int))), ([] : (List (ByteArray × Int))), 0)).bind fun y6 => (Sum.elim (fun y6a => ((T172 p0 y6a.2.2.1).bind fun x7 => (bif x7 then (some 12) else ((T95 p1 y6a.2.2.2).bind fun x8 => (bif x8 then (some 12) else (some 0)))))) (fun y6b => (some y6b)) y6)))))
theorem B86 (C : Callee) (h150 : ∀ (p0 : (List S90)) (p1 : (List S53)), C 150 [LL a90 p0, LL a53 p1] = (T150 p0 p1).map I) (h171 : ∀ (p0 : (List S90)) (p1 : (List S53)) (p2 : (List S49)) (p3 : Int), C 171 [LL a90 p0, LL a53 p1, LL a49 p2, I p3] = (T171 p0 p1 p2 p3).map I) (h172 : ∀ (p0 : (List S90)) (p1_c0 : (List (ByteArray × Int))), C 172 [LL a90 p0, .fn 173 [.ia [MV S I p1_c0] 0]] = (T172 p0 p1_c0).map B) (h95 : ∀ (p0 : (List S53)) (p1_c0 : (List (ByteArray × Int))), C 95 [LL a53 p0, .fn 174 [.ia [MV S I p1_c0] 0]] = (T95 p0 p1_c0).map B) (p0 : (List S90)) (p1 : (List S53)) (p2 : (List S49)) : runs Try.prog C (cfg.fn 86) (finFn Try.prog (cfg.fn 86).byval Try.f86) [] (execA Try.prog C (cfg.fn 86) (nr Try.f86 []) (frame0 [LL a90 p0, LL a53 p1, LL a49 p2] 62 false)) = (T86 p0 p1 p2).map I := by
  unfold T86
  let s_0 : List (Nat × AV) := [(0, LL a90 p0), (1, LL a53 p1), (2, LL a49 p2), (8, .ba 64 0), (9, .ba 72 0), (22, .mr 176), (23, .mr 184), (24, LL a49 p2), (25, I (lenL p2))]
  let s_1 : List (Nat × AV) := [(0, LL a90 p0), (1, LL a53 p1), (2, LL a49 p2)]
  let o_0 : List (Nat × AObj) := [(64, .box [.mr 176] false), (72, .box [.mr 184] false)]
  let o_1 : List (Nat × AObj) := [(176, MP S I ([] : (List (ByteArray × Int))) false), (184, MP S I ([] : (List (ByteArray × Int))) false)]
  refine gS 1 ?_
  refine gR 0 (rg Try.f86 0) ?_
  refine se (mkE s_1 [] 62) ?_
  refine pN ?_
  refine pS ?_
  refine gS 4 ?_
  refine gS 2 ?_
  refine gR 1 (rg Try.f86 1) ?_
  refine sg 2 (mkE ((14, LL a53 p1) :: ((13, LL a90 p0) :: s_1)) [] 62) ?_
  refine co 15 [] (h150 p0 p1) (fun x1 => ?_)
  refine se (mkE (s_1.append [(7, I x1)]) [] 62) ?_
  refine pN ?_
  refine pS ?_
  refine gS 0 ?_
  refine gR 2 (rg Try.f86 2) ?_
  refine se (mkE (s_1.append ((7, I x1) :: [(17, B (neI x1 0))])) [] 62) ?_
  refine pN ?_
  refine pS ?_
  refine gC 17 (neI x1 0) ?_ ?_
  · refine gS 0 ?_
    refine gR 3 (rg Try.f86 3) ?_
    refine se (mkE [(6, I x1)] [] 62) ?_
    refine pN ?_
    refine pS ?_
    refine gE ?_
    exact pL
  · refine gK ?_
    refine pN ?_
    refine pS ?_
    refine gS 6 ?_
    refine gS 0 ?_
    refine gR 4 (rg Try.f86 4) ?_
    refine sg 1 (mkE ((19, LL a49 p2) :: (s_1.append ((7, I x1) :: [(17, B (neI x1 0))]))) [] 62) ?_
    refine eo 20 (I (lenL p2)) (lenE 47 a49 p2) ?_
    refine se (mkE (s_1.append [(21, B (ltI 1800 (lenL p2)))]) [] 62) ?_
    refine pN ?_
    refine pS ?_
    refine gC 21 (ltI 1800 (lenL p2)) ?_ ?_
    · refine gS 0 ?_
      refine gR 5 (rg Try.f86 5) ?_
      refine se (mkE [(6, I 2)] [] 62) ?_
      refine pN ?_
      refine pS ?_
      refine gE ?_
      exact pL
    · refine gK ?_
      refine pN ?_
      refine pS ?_
      refine gS 7 ?_
      refine gR 6 (rg Try.f86 6) ?_
      refine se (mkE (s_1.append ((8, .ba 64 0) :: ((9, .ba 72 0) :: ((22, .mr 176) :: [(23, .mr 184)])))) (o_0.append o_1) 62) ?_
      refine pN ?_
      refine pS ?_
      refine gS 16 ?_
      refine gS 8 ?_
      refine gR 7 (rg Try.f86 7) ?_
      refine sg 1 (mkE ((24, LL a49 p2) :: (s_1.append ((8, .ba 64 0) :: ((9, .ba 72 0) :: ((22, .mr 176) :: [(23, .mr 184)]))))) (o_0.append o_1) 62) ?_
      refine eo 25 (I (lenL p2)) (lenE 47 a49 p2) ?_
      refine se (mkE (s_0.append [(26, I 0)]) (o_0.append o_1) 62) ?_
      refine pN ?_
      refine pS ?_
      refine gB 0 ?_
      refine lo [(0, none), (1, none), (2, none), (8, none), (9, none), (22, none), (23, none), (24, none), (25, none), (26, none)] [] (L86_8 p0 p1 p2) (fun z0 : ((List (ByteArray × Int)) × (List (ByteArray × Int)) × Int) => (mkE (s_0.append [(26, I z0.2.2)]) (o_0.append ((176, MP S I z0.1 false) :: [(184, MP S I z0.2.1 false)])) 62)) (Sum.elim (fun (x : (Int × Bool × (List (ByteArray × Int)) × (List (ByteArray × Int)))) => (.exit 0, (mkE (s_0.append ((26, I x.1) :: [(27, B x.2.1)])) (o_0.append ((176, MP S I x.2.2.1 false) :: [(184, MP S I x.2.2.2 false)])) 62))) (fun (x : Int) => (.ret, (mkE [(6, I x)] [] 62)))) (([] : (List (ByteArray × Int))), ([] : (List (ByteArray × Int))), 0) (fun z => L86_8_ok C h171 p0 p1 p2 z) ?_
      intro y6
      refine ss y6 (Z := (Sum.elim (fun (x : (Int × Bool × (List (ByteArray × Int)) × (List (ByteArray × Int)))) => (.exit 0, (mkE (s_0.append ((26, I x.1) :: [(27, B x.2.1)])) (o_0.append ((176, MP S I x.2.2.1 false) :: [(184, MP S I x.2.2.2 false)])) 62))) (fun (x : Int) => (.ret, (mkE [(6, I x)] [] 62))))) (fun y6a => ?_) (fun y6b => ?_)
      · refine pH ?_
        refine pN ?_
        refine pS ?_
        refine gS 18 ?_
        refine gS 0 ?_
        refine gR 16 (rg Try.f86 16) ?_
        refine sg 2 (mkE ((55, .fn 173 [.ba 64 0]) :: ((54, LL a90 p0) :: (s_0.append ((26, I y6a.1) :: [(27, B y6a.2.1)])))) (o_0.append ((176, MP S I y6a.2.2.1 false) :: [(184, MP S I y6a.2.2.2 false)])) 62) ?_
        refine co 56 [64, 176] (h172 p0 y6a.2.2.1) (fun x7 => ?_)
        refine sg 4 (mkE ((57, B x7) :: ((56, B x7) :: ((55, .fn 173 [.ba 64 0]) :: ((54, LL a90 p0) :: (s_0.append ((26, I y6a.1) :: [(27, B y6a.2.1)])))))) (o_0.append ((176, MP S I y6a.2.2.1 false) :: [(184, MP S I y6a.2.2.2 false)])) 62) ?_
        refine sb 57 x7 ?_ ?_
        · refine se (mkE [(61, B true)] [] 62) ?_
          refine pN ?_
          refine pS ?_
          refine gT (.tmp 61) ?_
          refine gS 0 ?_
          refine gR 17 (rg Try.f86 17) ?_
          refine se (mkE [(6, I 12)] [] 62) ?_
          refine pN ?_
          refine pS ?_
          refine gE ?_
          exact pL
        · refine sg 6 (mkE ((59, .fn 174 [.ba 72 0]) :: ((58, LL a53 p1) :: ((57, B false) :: ((57, B x7) :: ((56, B x7) :: ((55, .fn 173 [.ba 64 0]) :: ((54, LL a90 p0) :: (s_0.append ((26, I y6a.1) :: [(27, B y6a.2.1)]))))))))) (o_0.append ((176, MP S I y6a.2.2.1 false) :: [(184, MP S I y6a.2.2.2 false)])) 62) ?_
          refine co 60 [72, 184] (h95 p1 y6a.2.2.2) (fun x8 => ?_)
          refine se (mkE [(61, B x8)] [] 62) ?_
          refine pN ?_
          refine pS ?_
          refine gC 61 x8 ?_ ?_
          · refine gS 0 ?_
            refine gR 17 (rg Try.f86 17) ?_
            refine se (mkE [(6, I 12)] [] 62) ?_
            refine pN ?_
            refine pS ?_
            refine gE ?_
            exact pL
          · refine gK ?_
            refine pN ?_
            refine pS ?_
            refine gS 0 ?_
            refine gR 18 (rg Try.f86 18) ?_
            refine se (mkE [(6, I 0)] [] 62) ?_
            refine pN ?_
            refine pS ?_
            refine gE ?_
            exact pL
      · exact pL
theorem F86 (m : Nat) (hm : 7 ≤ m) (p0 : (List S90)) (p1 : (List S53)) (p2 : (List S49)) : callA Try.prog cfg m 86 [LL a90 p0, LL a53 p1, LL a49 p2] = (T86 p0 p1 p2).map I := by
  obtain ⟨q, rfl⟩ : ∃ q, m = q + 1 := ⟨m - 1, by omega⟩
  exact (callA_body (fn := Try.f86) (c := body_ Try.f86) q _ (by kernel_rfl) (by kernel_rfl) (by kernel_rfl)).trans (B86 _ (fun p0 p1 => F150 q (by omega) p0 p1) (fun p0 p1 p2 p3 => F171 q (by omega) p0 p1 p2 p3) (fun p0 p1_c0 => F172 q (by omega) p0 p1_c0) (fun p0 p1_c0 => F95 q (by omega) p0 p1_c0) p0 p1 p2)

noncomputable def T141 (p0 : Int) : Option Bool := (bif (leI 0 p0) then (some (ltI p0 345686400000)) else (some false))
theorem B141 (C : Callee) (p0 : Int) : runs Try.prog C (cfg.fn 141) (finFn Try.prog (cfg.fn 141).byval Try.f141) [] (execA Try.prog C (cfg.fn 141) (nr Try.f141 []) (frame0 [I p0] 9 false)) = (T141 p0).map B := by
  unfold T141
  refine gS 1 ?_
  refine gR 0 (rg Try.f141 0) ?_
  refine se (mkE [(0, I p0)] [] 9) ?_
  refine pN ?_
  refine pS ?_
  refine gS 0 ?_
  refine gR 1 (rg Try.f141 1) ?_
  refine sg 3 (mkE [(5, B (leI 0 p0)), (4, B (leI 0 p0)), (3, I p0), (0, I p0)] [] 9) ?_
  refine sb 5 (leI 0 p0) ?_ ?_
  · refine se (mkE [(2, B (ltI p0 345686400000))] [] 9) ?_
    refine pN ?_
    refine pS ?_
    refine gE ?_
    exact pL
  · refine se (mkE [(2, B false)] [] 9) ?_
    refine pN ?_
    refine pS ?_
    refine gE ?_
    exact pL
theorem F141 (m : Nat) (hm : 1 ≤ m) (p0 : Int) : callA Try.prog cfg m 141 [I p0] = (T141 p0).map B := by
  obtain ⟨q, rfl⟩ : ∃ q, m = q + 1 := ⟨m - 1, by omega⟩
  exact (callA_body (fn := Try.f141) (c := body_ Try.f141) q _ (by kernel_rfl) (by kernel_rfl) (by kernel_rfl)).trans (B141 _ p0)

noncomputable def T230 (p0 : S53) (p1 : Int) : Option Int := (bif (ltI p1 p0.f2.f0) then (some 0) else (bif (leI p0.f2.f1 p1) then (some p0.f4) else ((quoO .i64 (mulI .i64 p0.f4 (subI .i64 p1 p0.f2.f0)) (subI .i64 p0.f2.f1 p0.f2.f0)).bind fun x1 => (some x1))))
theorem B230 (C : Callee) (p0 : S53) (p1 : Int) : runs Try.prog C (cfg.fn 230) (finFn Try.prog (cfg.fn 230).byval Try.f230) [] (execA Try.prog C (cfg.fn 230) (nr Try.f230 []) (frame0 [a53 p0, I p1] 35 false)) = (T230 p0 p1).map I := by
  unfold T230
  let o_0 : List (Nat × AObj) := [(16, .box [S p0.f0, S p0.f1, I p0.f2.f0, I p0.f2.f1, LL S p0.f3, I p0.f4, I p0.f5, I p0.f6] false)]
  refine gS 1 ?_
  refine gR 0 (rg Try.f230 0) ?_
  refine se (mkE [(1, I p1), (2, .ba 16 0)] o_0 35) ?_
  refine pN ?_
  refine pS ?_
  refine gS 5 ?_
  refine gB 0 ?_
  refine gS 0 ?_
  refine gR 1 (rg Try.f230 1) ?_
  refine se (mkE [(1, I p1), (2, .ba 16 0), (5, B (ltI p1 p0.f2.f0))] o_0 35) ?_
  refine pN ?_
  refine pS ?_
  refine gC 5 (ltI p1 p0.f2.f0) ?_ ?_
  · refine gS 0 ?_
    refine gR 2 (rg Try.f230 2) ?_
    refine se (mkE [(4, I 0)] [] 35) ?_
    refine pN ?_
    refine pS ?_
    refine gE ?_
    exact pL
  · refine gS 0 ?_
    refine gR 3 (rg Try.f230 3) ?_
    refine se (mkE [(1, I p1), (2, .ba 16 0), (11, B (leI p0.f2.f1 p1))] o_0 35) ?_
    refine pN ?_
    refine pS ?_
    refine gC 11 (leI p0.f2.f1 p1) ?_ ?_
    · refine gS 0 ?_
      refine gR 4 (rg Try.f230 4) ?_
      refine se (mkE [(4, I p0.f4)] [] 35) ?_
      refine pN ?_
      refine pS ?_
      refine gE ?_
      exact pL
    · refine gK ?_
      refine pB ?_
      refine pN ?_
      refine pS ?_
      refine gS 0 ?_
      refine gR 5 (rg Try.f230 5) ?_
      refine sg 15 (mkE [(33, I (subI .i64 p0.f2.f1 p0.f2.f0)), (32, I p0.f2.f0), (31, .ba 16 2), (30, .ba 16 2), (29, I p0.f2.f1), (28, .ba 16 3), (27, .ba 16 2), (26, I (mulI .i64 p0.f4 (subI .i64 p1 p0.f2.f0))), (25, I (subI .i64 p1 p0.f2.f0)), (24, I p0.f2.f0), (23, .ba 16 2), (22, .ba 16 2), (21, I p1), (20, I p0.f4), (19, .ba 16 5), (1, I p1), (2, .ba 16 0), (11, B (leI p0.f2.f1 p1))] o_0 35) ?_
      refine vo 34 (quoE 3 .i64 (.tmp 26) (.tmp 33) (mulI .i64 p0.f4 (subI .i64 p1 p0.f2.f0)) (subI .i64 p0.f2.f1 p0.f2.f0)) (fun x1 => ?_)
      refine se (mkE [(4, I x1)] [] 35) ?_
      refine pN ?_
      refine pS ?_
      refine gE ?_
      exact pL
theorem F230 (m : Nat) (hm : 1 ≤ m) (p0 : S53) (p1 : Int) : callA Try.prog cfg m 230 [a53 p0, I p1] = (T230 p0 p1).map I := by
  obtain ⟨q, rfl⟩ : ∃ q, m = q + 1 := ⟨m - 1, by omega⟩
  exact (callA_body (fn := Try.f230) (c := body_ Try.f230) q _ (by kernel_rfl) (by kernel_rfl) (by kernel_rfl)).trans (B230 _ p0 p1)

noncomputable def T155 (p0 : S53) (p1 : Int) : Option (Int × Int) := ((T60 ([p0] : List S53)).bind fun x1 => (bif (neI x1 0) then (some (0, x1)) else ((T141 p1).bind fun x2 => (bif (!x2) then (some (0, 1)) else ((T230 p0 p1).bind fun x3 => (some (x3, 0)))))))
theorem B155 (C : Callee) (h141 : ∀ (p0 : Int), C 141 [I p0] = (T141 p0).map B) (h230 : ∀ (p0 : S53) (p1 : Int), C 230 [a53 p0, I p1] = (T230 p0 p1).map I) (h60 : ∀ (p0 : (List S53)), C 60 [LL a53 p0] = (T60 p0).map I) (p0 : S53) (p1 : Int) : runs Try.prog C (cfg.fn 155) (finFn Try.prog (cfg.fn 155).byval Try.f155) [] (execA Try.prog C (cfg.fn 155) (nr Try.f155 []) (frame0 [a53 p0, I p1] 19 false)) = (T155 p0 p1).map (fun r => AV.tup [I r.1, I r.2]) := by
  unfold T155
  let o_0 : List (Nat × AObj) := [(16, .box [S p0.f0, S p0.f1, I p0.f2.f0, I p0.f2.f1, LL S p0.f3, I p0.f4, I p0.f5, I p0.f6] false)]
  refine gS 1 ?_
  refine gR 0 (rg Try.f155 0) ?_
  refine se (mkE [(1, I p1), (2, .ba 16 0)] o_0 19) ?_
  refine pN ?_
  refine pS ?_
  refine gS 4 ?_
  refine gS 2 ?_
  refine gR 1 (rg Try.f155 1) ?_
  refine sg 2 (mkE [(8, .own 64 0), (7, a53 p0), (1, I p1), (2, .ba 16 0)] ((64, RR 54 8 a53 ([p0] : List S53) 0 false) :: o_0) 19) ?_
  refine co 9 [64] (h60 ([p0] : List S53)) (fun x1 => ?_)
  refine se (mkE [(1, I p1), (2, .ba 16 0), (6, I x1)] o_0 19) ?_
  refine pN ?_
  refine pS ?_
  refine gS 0 ?_
  refine gR 2 (rg Try.f155 2) ?_
  refine se (mkE [(1, I p1), (2, .ba 16 0), (6, I x1), (11, B (neI x1 0))] o_0 19) ?_
  refine pN ?_
  refine pS ?_
  refine gC 11 (neI x1 0) ?_ ?_
  · refine gS 0 ?_
    refine gR 3 (rg Try.f155 3) ?_
    refine se (mkE [(4, I 0), (5, I x1)] [] 19) ?_
    refine pN ?_
    refine pS ?_
    refine gE ?_
    exact pL
  · refine gK ?_
    refine pN ?_
    refine pS ?_
    refine gS 6 ?_
    refine gS 0 ?_
    refine gR 4 (rg Try.f155 4) ?_
    refine sg 1 (mkE [(13, I p1), (1, I p1), (2, .ba 16 0), (6, I x1), (11, B (neI x1 0))] o_0 19) ?_
    refine co 14 [] (h141 p1) (fun x2 => ?_)
    refine se (mkE [(1, I p1), (2, .ba 16 0), (15, B (!x2))] o_0 19) ?_
    refine pN ?_
    refine pS ?_
    refine gC 15 (!x2) ?_ ?_
    · refine gS 0 ?_
      refine gR 5 (rg Try.f155 5) ?_
      refine se (mkE [(4, I 0), (5, I 1)] [] 19) ?_
      refine pN ?_
      refine pS ?_
      refine gE ?_
      exact pL
    · refine gK ?_
      refine pN ?_
      refine pS ?_
      refine gS 0 ?_
      refine gR 6 (rg Try.f155 6) ?_
      refine sg 2 (mkE [(17, I p1), (16, a53 p0), (1, I p1), (2, .ba 16 0), (15, B (!x2))] o_0 19) ?_
      refine co 18 [] (h230 p0 p1) (fun x3 => ?_)
      refine se (mkE [(4, I x3), (5, I 0)] [] 19) ?_
      refine pN ?_
      refine pS ?_
      refine gE ?_
      exact pL
theorem F155 (m : Nat) (hm : 5 ≤ m) (p0 : S53) (p1 : Int) : callA Try.prog cfg m 155 [a53 p0, I p1] = (T155 p0 p1).map (fun r => AV.tup [I r.1, I r.2]) := by
  obtain ⟨q, rfl⟩ : ∃ q, m = q + 1 := ⟨m - 1, by omega⟩
  exact (callA_body (fn := Try.f155) (c := body_ Try.f155) q _ (by kernel_rfl) (by kernel_rfl) (by kernel_rfl)).trans (B155 _ (fun p0 => F141 q (by omega) p0) (fun p0 p1 => F230 q (by omega) p0 p1) (fun p0 => F60 q (by omega) p0) p0 p1)

noncomputable def T66 : Option Bool := ((T155 (S53.mk (ByteArray.mk #[97]) (ByteArray.mk #[]) (S38.mk 0 100) [] 10 0 0) 50).bind fun x1 => (bif (eqI x1.2 0) then (some (eqI x1.1 5)) else (some false)))
theorem B66 (C : Callee) (h155 : ∀ (p0 : S53) (p1 : Int), C 155 [a53 p0, I p1] = (T155 p0 p1).map (fun r => AV.tup [I r.1, I r.2])) : runs Try.prog C (cfg.fn 66) (finFn Try.prog (cfg.fn 66).byval Try.f66) [] (execA Try.prog C (cfg.fn 66) (nr Try.f66 []) (frame0 [] 15 false)) = (T66).map B := by
  unfold T66
  refine gS 1 ?_
  refine gR 0 (rg Try.f66 0) ?_
  refine se (mkE [] [] 15) ?_
  refine pN ?_
  refine pS ?_
  refine gS 2 ?_
  refine gR 1 (rg Try.f66 1) ?_
  refine sg 2 (mkE [(5, .agg [S (ByteArray.mk #[97]), S (ByteArray.mk #[]), I 0, I 100, .nils, I 10, I 0, I 0]), (4, .agg [I 0, I 100])] [] 15) ?_
  refine co 6 [] (h155 (S53.mk (ByteArray.mk #[97]) (ByteArray.mk #[]) (S38.mk 0 100) [] 10 0 0) 50) (fun x1 => ?_)
  refine se (mkE [(1, I x1.1), (2, I x1.2)] [] 15) ?_
  refine pN ?_
  refine pS ?_
  refine gS 0 ?_
  refine gR 2 (rg Try.f66 2) ?_
  refine sg 3 (mkE [(11, B (eqI x1.2 0)), (10, B (eqI x1.2 0)), (9, I x1.2), (1, I x1.1), (2, I x1.2)] [] 15) ?_
  refine sb 11 (eqI x1.2 0) ?_ ?_
  · refine se (mkE [(0, B (eqI x1.1 5))] [] 15) ?_
    refine pN ?_
    refine pS ?_
    refine gE ?_
    exact pL
  · refine se (mkE [(0, B false)] [] 15) ?_
    refine pN ?_
    refine pS ?_
    refine gE ?_
    exact pL
theorem F66 (m : Nat) (hm : 6 ≤ m) : callA Try.prog cfg m 66 [] = (T66).map B := by
  obtain ⟨q, rfl⟩ : ∃ q, m = q + 1 := ⟨m - 1, by omega⟩
  exact (callA_body (fn := Try.f66) (c := body_ Try.f66) q _ (by kernel_rfl) (by kernel_rfl) (by kernel_rfl)).trans (B66 _ (fun p0 p1 => F155 q (by omega) p0 p1))

noncomputable def T26 (p0 : (List S90)) (p1 : (List S53)) (p2 : (List S49)) : Option Bool := ((T59 p0).bind fun x1 => ((T61 p1).bind fun x2 => ((T49 ([x1, x2] : List Int)).bind fun x3 => (bif (eqI x3 0) then ((T85 p0 p1 p2).bind fun x4 => ((T86 p0 p1 p2).bind fun x5 => (bif (eqI x5 x4) then ((T66).bind fun x6 => (some x6)) else (some false)))) else ((T86 p0 p1 p2).bind fun x7 => (bif (eqI x7 x3) then ((T66).bind fun x8 => (some x8)) else (some false)))))))
theorem B26 (C : Callee) (h49 : ∀ (p0 : (List Int)), C 49 [LL I p0] = (T49 p0).map I) (h59 : ∀ (p0 : (List S90)), C 59 [LL a90 p0] = (T59 p0).map I) (h61 : ∀ (p0 : (List S53)), C 61 [LL a53 p0] = (T61 p0).map I) (h66 : C 66 [] = (T66).map B) (h85 : ∀ (p0 : (List S90)) (p1 : (List S53)) (p2 : (List S49)), C 85 [LL a90 p0, LL a53 p1, LL a49 p2] = (T85 p0 p1 p2).map I) (h86 : ∀ (p0 : (List S90)) (p1 : (List S53)) (p2 : (List S49)), C 86 [LL a90 p0, LL a53 p1, LL a49 p2] = (T86 p0 p1 p2).map I) (p0 : (List S90)) (p1 : (List S53)) (p2 : (List S49)) : runs Try.prog C (cfg.fn 26) (finFn Try.prog (cfg.fn 26).byval Try.f26) [] (execA Try.prog C (cfg.fn 26) (nr Try.f26 []) (frame0 [LL a90 p0, LL a53 p1, LL a49 p2] 29 false)) = (T26 p0 p1 p2).map B := by
  unfold T26
  let s_0 : List (Nat × AV) := [(0, LL a90 p0), (1, LL a53 p1), (2, LL a49 p2)]
  let s_1 : List (Nat × AV) := [(22, LL a49 p2), (21, LL a53 p1), (20, LL a90 p0)]
  refine gS 1 ?_
  refine gR 0 (rg Try.f26 0) ?_
  refine se (mkE s_0 [] 29) ?_
  refine pN ?_
  refine pS ?_
  refine gS 2 ?_
  refine gR 1 (rg Try.f26 1) ?_
  refine sg 1 (mkE ((8, LL a90 p0) :: s_0) [] 29) ?_
  refine co 9 [] (h59 p0) (fun x1 => ?_)
  refine sg 3 (mkE ((10, LL a53 p1) :: ((9, I x1) :: ((8, LL a90 p0) :: s_0))) [] 29) ?_
  refine co 11 [] (h61 p1) (fun x2 => ?_)
  refine sg 5 (mkE ((12, .own 96 0) :: ((11, I x2) :: ((10, LL a53 p1) :: ((9, I x1) :: ((8, LL a90 p0) :: s_0))))) [(96, RR 69 1 I ([x1, x2] : List Int) 0 false)] 29) ?_
  refine co 13 [96] (h49 ([x1, x2] : List Int)) (fun x3 => ?_)
  refine se (mkE (s_0.append [(7, I x3)]) [] 29) ?_
  refine pN ?_
  refine pS ?_
  refine gS 4 ?_
  refine gS 0 ?_
  refine gR 2 (rg Try.f26 2) ?_
  refine se (mkE (s_0.append ((7, I x3) :: [(15, B (eqI x3 0))])) [] 29) ?_
  refine pN ?_
  refine pS ?_
  refine gC 15 (eqI x3 0) ?_ ?_
  · refine gR 3 (rg Try.f26 3) ?_
    refine sg 3 (mkE ((18, LL a49 p2) :: ((17, LL a53 p1) :: ((16, LL a90 p0) :: (s_0.append ((7, I x3) :: [(15, B (eqI x3 0))]))))) [] 29) ?_
    refine co 19 [] (h85 p0 p1 p2) (fun x4 => ?_)
    refine se (mkE (s_0.append [(7, I x4)]) [] 29) ?_
    refine pN ?_
    refine pS ?_
    refine gS 0 ?_
    refine gR 4 (rg Try.f26 4) ?_
    refine sg 3 (mkE (s_1.append (s_0.append [(7, I x4)])) [] 29) ?_
    refine co 23 [] (h86 p0 p1 p2) (fun x5 => ?_)
    refine sg 7 (mkE ((26, B (eqI x5 x4)) :: ((25, B (eqI x5 x4)) :: ((24, I x4) :: ((23, I x5) :: (s_1.append (s_0.append [(7, I x4)])))))) [] 29) ?_
    refine sb 26 (eqI x5 x4) ?_ ?_
    · refine co 27 [] (h66) (fun x6 => ?_)
      refine se (mkE [(6, B x6)] [] 29) ?_
      refine pN ?_
      refine pS ?_
      refine gE ?_
      exact pL
    · refine se (mkE [(6, B false)] [] 29) ?_
      refine pN ?_
      refine pS ?_
      refine gE ?_
      exact pL
  · refine gK ?_
    refine pN ?_
    refine pS ?_
    refine gS 0 ?_
    refine gR 4 (rg Try.f26 4) ?_
    refine sg 3 (mkE (s_1.append (s_0.append ((7, I x3) :: [(15, B (eqI x3 0))]))) [] 29) ?_
    refine co 23 [] (h86 p0 p1 p2) (fun x7 => ?_)
    refine sg 7 (mkE ((26, B (eqI x7 x3)) :: ((25, B (eqI x7 x3)) :: ((24, I x3) :: ((23, I x7) :: (s_1.append (s_0.append ((7, I x3) :: [(15, B (eqI x3 0))]))))))) [] 29) ?_
    refine sb 26 (eqI x7 x3) ?_ ?_
    · refine co 27 [] (h66) (fun x8 => ?_)
      refine se (mkE [(6, B x8)] [] 29) ?_
      refine pN ?_
      refine pS ?_
      refine gE ?_
      exact pL
    · refine se (mkE [(6, B false)] [] 29) ?_
      refine pN ?_
      refine pS ?_
      refine gE ?_
      exact pL
theorem F26 (m : Nat) (hm : 8 ≤ m) (p0 : (List S90)) (p1 : (List S53)) (p2 : (List S49)) : callA Try.prog cfg m 26 [LL a90 p0, LL a53 p1, LL a49 p2] = (T26 p0 p1 p2).map B := by
  obtain ⟨q, rfl⟩ : ∃ q, m = q + 1 := ⟨m - 1, by omega⟩
  exact (callA_body (fn := Try.f26) (c := body_ Try.f26) q _ (by kernel_rfl) (by kernel_rfl) (by kernel_rfl)).trans (B26 _ (fun p0 => F49 q (by omega) p0) (fun p0 => F59 q (by omega) p0) (fun p0 => F61 q (by omega) p0) (F66 q (by omega)) (fun p0 p1 p2 => F85 q (by omega) p0 p1 p2) (fun p0 p1 p2 => F86 q (by omega) p0 p1 p2) p0 p1 p2)

noncomputable def L69_4 (p0 : (List ByteArray)) (p1 : (List ByteArray)) (z0 : Int) : Option (Int ⊕ ((Int × Bool) ⊕ Unit)) := (bif (ltI z0 (lenL p0)) then ((listAt p0 z0).bind fun x1 => ((listAt p1 z0).bind fun x2 => (bif (!eqS x1 x2) then (some (.inr (.inr ()))) else (some (.inl (addI .i64 z0 1)))))) else (some (.inr (.inl (z0, (ltI z0 (lenL p0)))))))
theorem L69_4_ok (C : Callee) (p0 : (List ByteArray)) (p1 : (List ByteArray)) (z0 : Int) : runs Try.prog C (cfg.fn 69) (finLoop ((cfg.fn 69).keep 4) ((cfg.fn 69).al 4)) [] (execA Try.prog C (cfg.fn 69) (nr Try.f69 [false, false, true, false, true, true]) ((fun z0 : Int => (mkE [(0, LL S p0), (1, LL S p1), (12, I (lenL p0)), (13, I z0)] [] 26)) z0)) = (L69_4 p0 p1 z0).map (Sum.elim (fun z => .inl ((fun z0 : Int => (mkE [(0, LL S p0), (1, LL S p1), (12, I (lenL p0)), (13, I z0)] [] 26)) z)) (fun x => .inr ((Sum.elim (fun (x : (Int × Bool)) => (.exit 0, (mkE [(0, LL S p0), (1, LL S p1), (12, I (lenL p0)), (13, I x.1), (14, B x.2)] [] 26))) (fun (x : Unit) => (.ret, (mkE [(4, B false)] [] 26)))) x))) := by
  unfold L69_4
  let s_0 : List (Nat × AV) := [(0, LL S p0), (1, LL S p1), (5, I z0), (12, I (lenL p0)), (13, I z0)]
  refine gS 0 ?_
  refine gR 4 (rg Try.f69 4) ?_
  refine se (mkE [(0, LL S p0), (1, LL S p1), (12, I (lenL p0)), (13, I z0), (14, B (ltI z0 (lenL p0)))] [] 26) ?_
  refine pN ?_
  refine pS ?_
  refine gS 5 ?_
  refine gC 14 (ltI z0 (lenL p0)) ?_ ?_
  · refine gK ?_
    refine pN ?_
    refine pS ?_
    refine gS 8 ?_
    refine gB 1 ?_
    refine gS 6 ?_
    refine gR 5 (rg Try.f69 5) ?_
    refine se (mkE s_0 [] 26) ?_
    refine pN ?_
    refine pS ?_
    refine gS 0 ?_
    refine gD 6 9 (rg Try.f69 6) [0, 1, 2, 3, 4, 5, 6, 7, 8] ?_
    refine dg 2 [(some 16, qe (LL S p0)), (some 17, qe (I z0))] ?_
    refine dv 18 (mkE ((17, I z0) :: ((16, LL S p0) :: s_0)) [] 26) (addrE 35 9 1 S .i64 p0 z0) (fun x1 => ?_)
    refine dg 6 [(some 16, qe (LL S p0)), (some 17, qe (I z0)), (some 18, qe (.ia [S x1] 0)), (some 19, qe (S x1)), (some 20, qe (LL S p1)), (some 21, qe (I z0))] ?_
    refine dv 22 (mkE ((21, I z0) :: ((20, LL S p1) :: s_0)) [] 26) (addrE 35 9 1 S .i64 p1 z0) (fun x2 => ?_)
    refine dg 9 [(some 16, qe (LL S p0)), (some 17, qe (I z0)), (some 18, qe (.ia [S x1] 0)), (some 19, qe (S x1)), (some 20, qe (LL S p1)), (some 21, qe (I z0)), (some 22, qe (.ia [S x2] 0)), (some 23, qe (S x2)), (some 24, qe (B (!eqS x1 x2)))] ?_
    refine de (mkE ((24, B (!eqS x1 x2)) :: ((23, S x2) :: ((22, .ia [S x2] 0) :: ((21, I z0) :: ((20, LL S p1) :: ((19, S x1) :: ((18, .ia [S x1] 0) :: ((17, I z0) :: ((16, LL S p0) :: s_0))))))))) [] 26) ?_
    refine se (mkE [(0, LL S p0), (1, LL S p1), (12, I (lenL p0)), (13, I z0), (24, B (!eqS x1 x2))] [] 26) ?_
    refine pN ?_
    refine pS ?_
    refine gC 24 (!eqS x1 x2) ?_ ?_
    · refine gS 0 ?_
      refine gR 7 (rg Try.f69 7) ?_
      refine se (mkE [(4, B false)] [] 26) ?_
      refine pN ?_
      refine pS ?_
      refine gE ?_
      exact pL
    · refine gK ?_
      refine pB ?_
      refine pN ?_
      refine pS ?_
      refine gR 8 (rg Try.f69 8) ?_
      refine se (mkE [(0, LL S p0), (1, LL S p1), (12, I (lenL p0)), (13, I (addI .i64 z0 1))] [] 26) ?_
      exact pL
  · refine gX 0 ?_
    exact pL
noncomputable def T69 (p0 : (List ByteArray)) (p1 : (List ByteArray)) : Option Bool := (bif (neI (lenL p0) (lenL p1)) then (some false) else ((iter (L69_4 p0 p1) 0).bind fun y3 => (Sum.elim (fun y3a => (some true)) (fun y3b => (some false)) y3)))
theorem B69 (C : Callee) (p0 : (List ByteArray)) (p1 : (List ByteArray)) : runs Try.prog C (cfg.fn 69) (finFn Try.prog (cfg.fn 69).byval Try.f69) [] (execA Try.prog C (cfg.fn 69) (nr Try.f69 []) (frame0 [LL S p0, LL S p1] 26 false)) = (T69 p0 p1).map B := by
  unfold T69
  let s_0 : List (Nat × AV) := [(0, LL S p0), (1, LL S p1)]
  refine gS 1 ?_
  refine gR 0 (rg Try.f69 0) ?_
  refine se (mkE s_0 [] 26) ?_
  refine pN ?_
  refine pS ?_
  refine gS 3 ?_
  refine gS 0 ?_
  refine gR 1 (rg Try.f69 1) ?_
  refine sg 1 (mkE ((6, LL S p0) :: s_0) [] 26) ?_
  refine eo 7 (I (lenL p0)) (lenE 35 S p0) ?_
  refine sg 3 (mkE ((8, LL S p1) :: ((7, I (lenL p0)) :: ((6, LL S p0) :: s_0))) [] 26) ?_
  refine eo 9 (I (lenL p1)) (lenE 35 S p1) ?_
  refine se (mkE (s_0.append [(10, B (neI (lenL p0) (lenL p1)))]) [] 26) ?_
  refine pN ?_
  refine pS ?_
  refine gC 10 (neI (lenL p0) (lenL p1)) ?_ ?_
  · refine gS 0 ?_
    refine gR 2 (rg Try.f69 2) ?_
    refine se (mkE [(4, B false)] [] 26) ?_
    refine pN ?_
    refine pS ?_
    refine gE ?_
    exact pL
  · refine gK ?_
    refine pN ?_
    refine pS ?_
    refine gS 9 ?_
    refine gS 4 ?_
    refine gR 3 (rg Try.f69 3) ?_
    refine sg 1 (mkE ((11, LL S p0) :: (s_0.append [(10, B (neI (lenL p0) (lenL p1)))])) [] 26) ?_
    refine eo 12 (I (lenL p0)) (lenE 35 S p0) ?_
    refine se (mkE (s_0.append ((12, I (lenL p0)) :: [(13, I 0)])) [] 26) ?_
    refine pN ?_
    refine pS ?_
    refine gB 0 ?_
    refine lo [(0, none), (1, none), (12, none), (13, none)] [] (L69_4 p0 p1) (fun z0 : Int => (mkE (s_0.append ((12, I (lenL p0)) :: [(13, I z0)])) [] 26)) (Sum.elim (fun (x : (Int × Bool)) => (.exit 0, (mkE (s_0.append ((12, I (lenL p0)) :: ((13, I x.1) :: [(14, B x.2)]))) [] 26))) (fun (x : Unit) => (.ret, (mkE [(4, B false)] [] 26)))) 0 (fun z => L69_4_ok C p0 p1 z) ?_
    intro y3
    refine ss y3 (Z := (Sum.elim (fun (x : (Int × Bool)) => (.exit 0, (mkE (s_0.append ((12, I (lenL p0)) :: ((13, I x.1) :: [(14, B x.2)]))) [] 26))) (fun (x : Unit) => (.ret, (mkE [(4, B false)] [] 26))))) (fun y3a => ?_) (fun y3b => ?_)
    · refine pH ?_
      refine pN ?_
      refine pS ?_
      refine gS 0 ?_
      refine gR 9 (rg Try.f69 9) ?_
      refine se (mkE [(4, B true)] [] 26) ?_
      refine pN ?_
      refine pS ?_
      refine gE ?_
      exact pL
    · exact pL
theorem F69 (m : Nat) (hm : 1 ≤ m) (p0 : (List ByteArray)) (p1 : (List ByteArray)) : callA Try.prog cfg m 69 [LL S p0, LL S p1] = (T69 p0 p1).map B := by
  obtain ⟨q, rfl⟩ : ∃ q, m = q + 1 := ⟨m - 1, by omega⟩
  exact (callA_body (fn := Try.f69) (c := body_ Try.f69) q _ (by kernel_rfl) (by kernel_rfl) (by kernel_rfl)).trans (B69 _ p0 p1)

noncomputable def T68 (p0 : S90) (p1 : S90) : Option Bool := (bif (eqS p0.f0 p1.f0) then (bif (allB [eqI p0.f1.f0 p1.f1.f0, eqI p0.f1.f1 p1.f1.f1]) then (bif (eqI p0.f2 p1.f2) then ((T69 p0.f3 p1.f3).bind fun x1 => (some x1)) else (some false)) else (some false)) else (some false))
theorem B68 (C : Callee) (h69 : ∀ (p0 : (List ByteArray)) (p1 : (List ByteArray)), C 69 [LL S p0, LL S p1] = (T69 p0 p1).map B) (p0 : S90) (p1 : S90) : runs Try.prog C (cfg.fn 68) (finFn Try.prog (cfg.fn 68).byval Try.f68) [] (execA Try.prog C (cfg.fn 68) (nr Try.f68 []) (frame0 [a90 p0, a90 p1] 31 false)) = (T68 p0 p1).map B := by
  unfold T68
  let s_0 : List (Nat × AV) := [(17, B (allB [eqI p0.f1.f0 p1.f1.f0, eqI p0.f1.f1 p1.f1.f1])), (16, B (allB [eqI p0.f1.f0 p1.f1.f0, eqI p0.f1.f1 p1.f1.f1])), (15, B (allB [eqI p0.f1.f0 p1.f1.f0, eqI p0.f1.f1 p1.f1.f1])), (14, a38 p1.f1), (13, .ba 24 1), (12, a38 p0.f1), (11, .ba 16 1), (10, B true), (10, B (eqS p0.f0 p1.f0)), (9, B (eqS p0.f0 p1.f0)), (8, S p1.f0), (7, .ba 24 0), (6, S p0.f0), (5, .ba 16 0), (2, .ba 16 0), (3, .ba 24 0)]
  let s_1 : List (Nat × AV) := [(24, B (eqI p0.f2 p1.f2)), (23, B (eqI p0.f2 p1.f2)), (22, B (eqI p0.f2 p1.f2)), (21, I p1.f2), (20, .ba 24 3), (19, I p0.f2), (18, .ba 16 3), (17, B true)]
  let s_2 : List (Nat × AV) := [(10, B (eqS p0.f0 p1.f0)), (9, B (eqS p0.f0 p1.f0)), (8, S p1.f0), (7, .ba 24 0), (6, S p0.f0), (5, .ba 16 0), (2, .ba 16 0), (3, .ba 24 0)]
  let o_0 : List (Nat × AObj) := [(16, .box [S p0.f0, I p0.f1.f0, I p0.f1.f1, I p0.f2, LL S p0.f3] false), (24, .box [S p1.f0, I p1.f1.f0, I p1.f1.f1, I p1.f2, LL S p1.f3] false)]
  refine gS 1 ?_
  refine gR 0 (rg Try.f68 0) ?_
  refine se (mkE [(2, .ba 16 0), (3, .ba 24 0)] o_0 31) ?_
  refine pN ?_
  refine pS ?_
  refine gS 0 ?_
  refine gR 1 (rg Try.f68 1) ?_
  refine sg 6 (mkE s_2 o_0 31) ?_
  refine sb 10 (eqS p0.f0 p1.f0) ?_ ?_
  · refine sg 10 (mkE ((14, a38 p1.f1) :: ((13, .ba 24 1) :: ((12, a38 p0.f1) :: ((11, .ba 16 1) :: ((10, B true) :: s_2))))) o_0 31) ?_
    refine eo 15 (B (allB [eqI p0.f1.f0 p1.f1.f0, eqI p0.f1.f1 p1.f1.f1])) (eqlE 39 (.tmp 12) (.tmp 14) [I p0.f1.f0, I p0.f1.f1] [I p1.f1.f0, I p1.f1.f1] [.int .i64 p0.f1.f0, .int .i64 p0.f1.f1] [.int .i64 p1.f1.f0, .int .i64 p1.f1.f1] [eqI p0.f1.f0 p1.f1.f0, eqI p0.f1.f1 p1.f1.f1]) ?_
    refine sg 13 (mkE s_0 o_0 31) ?_
    refine sb 17 (allB [eqI p0.f1.f0 p1.f1.f0, eqI p0.f1.f1 p1.f1.f1]) ?_ ?_
    · refine sg 20 (mkE (s_1.append s_0) o_0 31) ?_
      refine sb 24 (eqI p0.f2 p1.f2) ?_ ?_
      · refine sg 24 (mkE ((28, LL S p1.f3) :: ((27, .ba 24 4) :: ((26, LL S p0.f3) :: ((25, .ba 16 4) :: ((24, B true) :: (s_1.append s_0)))))) o_0 31) ?_
        refine co 29 [] (h69 p0.f3 p1.f3) (fun x1 => ?_)
        refine se (mkE [(4, B x1)] [] 31) ?_
        refine pN ?_
        refine pS ?_
        refine gE ?_
        exact pL
      · refine se (mkE [(4, B false)] [] 31) ?_
        refine pN ?_
        refine pS ?_
        refine gE ?_
        exact pL
    · refine se (mkE [(4, B false)] [] 31) ?_
      refine pN ?_
      refine pS ?_
      refine gE ?_
      exact pL
  · refine se (mkE [(4, B false)] [] 31) ?_
    refine pN ?_
    refine pS ?_
    refine gE ?_
    exact pL
theorem F68 (m : Nat) (hm : 2 ≤ m) (p0 : S90) (p1 : S90) : callA Try.prog cfg m 68 [a90 p0, a90 p1] = (T68 p0 p1).map B := by
  obtain ⟨q, rfl⟩ : ∃ q, m = q + 1 := ⟨m - 1, by omega⟩
  exact (callA_body (fn := Try.f68) (c := body_ Try.f68) q _ (by kernel_rfl) (by kernel_rfl) (by kernel_rfl)).trans (B68 _ (fun p0 p1 => F69 q (by omega) p0 p1) p0 p1)

noncomputable def L67_4 (p0 : (List S90)) (p1 : (List S90)) (z0 : Int) : Option (Int ⊕ ((Int × Bool) ⊕ Unit)) := (bif (ltI z0 (lenL p0)) then ((listAt p0 z0).bind fun x1 => ((listAt p1 z0).bind fun x2 => ((T68 x1 x2).bind fun x3 => (bif (!x3) then (some (.inr (.inr ()))) else (some (.inl (addI .i64 z0 1))))))) else (some (.inr (.inl (z0, (ltI z0 (lenL p0)))))))
theorem L67_4_ok (C : Callee) (h68 : ∀ (p0 : S90) (p1 : S90), C 68 [a90 p0, a90 p1] = (T68 p0 p1).map B) (p0 : (List S90)) (p1 : (List S90)) (z0 : Int) : runs Try.prog C (cfg.fn 67) (finLoop ((cfg.fn 67).keep 4) ((cfg.fn 67).al 4)) [] (execA Try.prog C (cfg.fn 67) (nr Try.f67 [false, false, true, false, true, true]) ((fun z0 : Int => (mkE [(1, LL a90 p1), (2, .fn 68 []), (15, LL a90 p0), (16, I (lenL p0)), (17, I z0)] [] 32)) z0)) = (L67_4 p0 p1 z0).map (Sum.elim (fun z => .inl ((fun z0 : Int => (mkE [(1, LL a90 p1), (2, .fn 68 []), (15, LL a90 p0), (16, I (lenL p0)), (17, I z0)] [] 32)) z)) (fun x => .inr ((Sum.elim (fun (x : (Int × Bool)) => (.exit 0, (mkE [(1, LL a90 p1), (2, .fn 68 []), (15, LL a90 p0), (16, I (lenL p0)), (17, I x.1), (18, B x.2)] [] 32))) (fun (x : Unit) => (.ret, (mkE [(6, B false)] [] 32)))) x))) := by
  unfold L67_4
  let s_0 : List (Nat × AV) := [(15, LL a90 p0), (16, I (lenL p0)), (17, I z0)]
  let s_1 : List (Nat × AV) := [(1, LL a90 p1), (2, .fn 68 [])]
  refine gS 0 ?_
  refine gR 4 (rg Try.f67 4) ?_
  refine se (mkE (s_1.append (s_0.append [(18, B (ltI z0 (lenL p0)))])) [] 32) ?_
  refine pN ?_
  refine pS ?_
  refine gS 5 ?_
  refine gC 18 (ltI z0 (lenL p0)) ?_ ?_
  · refine gK ?_
    refine pN ?_
    refine pS ?_
    refine gS 9 ?_
    refine gB 1 ?_
    refine gS 6 ?_
    refine gR 5 (rg Try.f67 5) ?_
    refine sg 1 (mkE ((19, I z0) :: (s_1.append (s_0.append [(18, B (ltI z0 (lenL p0)))]))) [] 32) ?_
    refine vo 20 (addrE 28 91 5 a90 .i64 p0 z0) (fun x1 => ?_)
    refine se (mkE (s_1.append ((7, I z0) :: ((8, .ba 64 0) :: s_0))) [(64, .box [S x1.f0, I x1.f1.f0, I x1.f1.f1, I x1.f2, LL S x1.f3] false)] 32) ?_
    refine pN ?_
    refine pS ?_
    refine gS 7 ?_
    refine gR 6 (rg Try.f67 6) ?_
    refine sg 2 (mkE ((23, I z0) :: ((22, LL a90 p1) :: (s_1.append ((7, I z0) :: ((8, .ba 64 0) :: s_0))))) [(64, .box [S x1.f0, I x1.f1.f0, I x1.f1.f1, I x1.f2, LL S x1.f3] false)] 32) ?_
    refine vo 24 (addrE 28 91 5 a90 .i64 p1 z0) (fun x2 => ?_)
    refine se (mkE (s_1.append ((8, .ba 64 0) :: ((9, .ba 72 0) :: s_0))) [(64, .box [S x1.f0, I x1.f1.f0, I x1.f1.f1, I x1.f2, LL S x1.f3] false), (72, .box [S x2.f0, I x2.f1.f0, I x2.f1.f1, I x2.f2, LL S x2.f3] false)] 32) ?_
    refine pN ?_
    refine pS ?_
    refine gS 0 ?_
    refine gR 7 (rg Try.f67 7) ?_
    refine sg 3 (mkE ((28, a90 x2) :: ((27, a90 x1) :: ((26, .fn 68 []) :: (s_1.append ((8, .ba 64 0) :: ((9, .ba 72 0) :: s_0)))))) [(64, .box [S x1.f0, I x1.f1.f0, I x1.f1.f1, I x1.f2, LL S x1.f3] false), (72, .box [S x2.f0, I x2.f1.f0, I x2.f1.f1, I x2.f2, LL S x2.f3] false)] 32) ?_
    refine co 29 [] (h68 x1 x2) (fun x3 => ?_)
    refine se (mkE (s_1.append (s_0.append [(30, B (!x3))])) [] 32) ?_
    refine pN ?_
    refine pS ?_
    refine gC 30 (!x3) ?_ ?_
    · refine gS 0 ?_
      refine gR 8 (rg Try.f67 8) ?_
      refine se (mkE [(6, B false)] [] 32) ?_
      refine pN ?_
      refine pS ?_
      refine gE ?_
      exact pL
    · refine gK ?_
      refine pB ?_
      refine pN ?_
      refine pS ?_
      refine gR 9 (rg Try.f67 9) ?_
      refine se (mkE (s_1.append ((15, LL a90 p0) :: ((16, I (lenL p0)) :: [(17, I (addI .i64 z0 1))]))) [] 32) ?_
      exact pL
  · refine gX 0 ?_
    exact pL
noncomputable def T67 (p0 : (List S90)) (p1 : (List S90)) : Option Bool := (bif (neI (lenL p0) (lenL p1)) then (some false) else ((iter (L67_4 p0 p1) 0).bind fun y4 => (Sum.elim (fun y4a => (some true)) (fun y4b => (some false)) y4)))
theorem B67 (C : Callee) (h68 : ∀ (p0 : S90) (p1 : S90), C 68 [a90 p0, a90 p1] = (T68 p0 p1).map B) (p0 : (List S90)) (p1 : (List S90)) : runs Try.prog C (cfg.fn 67) (finFn Try.prog (cfg.fn 67).byval Try.f67) [] (execA Try.prog C (cfg.fn 67) (nr Try.f67 []) (frame0 [LL a90 p0, LL a90 p1, .fn 68 []] 32 false)) = (T67 p0 p1).map B := by
  unfold T67
  let s_0 : List (Nat × AV) := [(1, LL a90 p1), (2, .fn 68 [])]
  refine gS 1 ?_
  refine gR 0 (rg Try.f67 0) ?_
  refine se (mkE ((0, LL a90 p0) :: s_0) [] 32) ?_
  refine pN ?_
  refine pS ?_
  refine gS 3 ?_
  refine gS 0 ?_
  refine gR 1 (rg Try.f67 1) ?_
  refine sg 1 (mkE ((10, LL a90 p0) :: ((0, LL a90 p0) :: s_0)) [] 32) ?_
  refine eo 11 (I (lenL p0)) (lenE 28 a90 p0) ?_
  refine sg 3 (mkE ((12, LL a90 p1) :: ((11, I (lenL p0)) :: ((10, LL a90 p0) :: ((0, LL a90 p0) :: s_0)))) [] 32) ?_
  refine eo 13 (I (lenL p1)) (lenE 28 a90 p1) ?_
  refine se (mkE ((0, LL a90 p0) :: (s_0.append [(14, B (neI (lenL p0) (lenL p1)))])) [] 32) ?_
  refine pN ?_
  refine pS ?_
  refine gC 14 (neI (lenL p0) (lenL p1)) ?_ ?_
  · refine gS 0 ?_
    refine gR 2 (rg Try.f67 2) ?_
    refine se (mkE [(6, B false)] [] 32) ?_
    refine pN ?_
    refine pS ?_
    refine gE ?_
    exact pL
  · refine gK ?_
    refine pN ?_
    refine pS ?_
    refine gS 10 ?_
    refine gS 4 ?_
    refine gR 3 (rg Try.f67 3) ?_
    refine sg 1 (mkE ((15, LL a90 p0) :: ((0, LL a90 p0) :: (s_0.append [(14, B (neI (lenL p0) (lenL p1)))]))) [] 32) ?_
    refine eo 16 (I (lenL p0)) (lenE 28 a90 p0) ?_
    refine se (mkE (s_0.append ((15, LL a90 p0) :: ((16, I (lenL p0)) :: [(17, I 0)]))) [] 32) ?_
    refine pN ?_
    refine pS ?_
    refine gB 0 ?_
    refine lo [(1, none), (2, none), (15, none), (16, none), (17, none)] [] (L67_4 p0 p1) (fun z0 : Int => (mkE (s_0.append ((15, LL a90 p0) :: ((16, I (lenL p0)) :: [(17, I z0)]))) [] 32)) (Sum.elim (fun (x : (Int × Bool)) => (.exit 0, (mkE (s_0.append ((15, LL a90 p0) :: ((16, I (lenL p0)) :: ((17, I x.1) :: [(18, B x.2)])))) [] 32))) (fun (x : Unit) => (.ret, (mkE [(6, B false)] [] 32)))) 0 (fun z => L67_4_ok C h68 p0 p1 z) ?_
    intro y4
    refine ss y4 (Z := (Sum.elim (fun (x : (Int × Bool)) => (.exit 0, (mkE (s_0.append ((15, LL a90 p0) :: ((16, I (lenL p0)) :: ((17, I x.1) :: [(18, B x.2)])))) [] 32))) (fun (x : Unit) => (.ret, (mkE [(6, B false)] [] 32))))) (fun y4a => ?_) (fun y4b => ?_)
    · refine pH ?_
      refine pN ?_
      refine pS ?_
      refine gS 0 ?_
      refine gR 10 (rg Try.f67 10) ?_
      refine se (mkE [(6, B true)] [] 32) ?_
      refine pN ?_
      refine pS ?_
      refine gE ?_
      exact pL
    · exact pL
theorem F67 (m : Nat) (hm : 3 ≤ m) (p0 : (List S90)) (p1 : (List S90)) : callA Try.prog cfg m 67 [LL a90 p0, LL a90 p1, .fn 68 []] = (T67 p0 p1).map B := by
  obtain ⟨q, rfl⟩ : ∃ q, m = q + 1 := ⟨m - 1, by omega⟩
  exact (callA_body (fn := Try.f67) (c := body_ Try.f67) q _ (by kernel_rfl) (by kernel_rfl) (by kernel_rfl)).trans (B67 _ (fun p0 p1 => F68 q (by omega) p0 p1) p0 p1)

noncomputable def T18 (p0 : (List S90)) (p1 : (List S90)) : Option Bool := ((T67 p0 p1).bind fun x1 => (some x1))
theorem B18 (C : Callee) (h67 : ∀ (p0 : (List S90)) (p1 : (List S90)), C 67 [LL a90 p0, LL a90 p1, .fn 68 []] = (T67 p0 p1).map B) (p0 : (List S90)) (p1 : (List S90)) : runs Try.prog C (cfg.fn 18) (finFn Try.prog (cfg.fn 18).byval Try.f18) [] (execA Try.prog C (cfg.fn 18) (nr Try.f18 []) (frame0 [LL a90 p0, LL a90 p1] 8 false)) = (T18 p0 p1).map B := by
  unfold T18
  refine gS 1 ?_
  refine gR 0 (rg Try.f18 0) ?_
  refine se (mkE [(0, LL a90 p0), (1, LL a90 p1)] [] 8) ?_
  refine pN ?_
  refine pS ?_
  refine gS 0 ?_
  refine gR 1 (rg Try.f18 1) ?_
  refine sg 2 (mkE [(6, LL a90 p1), (5, LL a90 p0), (0, LL a90 p0), (1, LL a90 p1)] [] 8) ?_
  refine co 7 [] (h67 p0 p1) (fun x1 => ?_)
  refine se (mkE [(4, B x1)] [] 8) ?_
  refine pN ?_
  refine pS ?_
  refine gE ?_
  exact pL
theorem F18 (m : Nat) (hm : 4 ≤ m) (p0 : (List S90)) (p1 : (List S90)) : callA Try.prog cfg m 18 [LL a90 p0, LL a90 p1] = (T18 p0 p1).map B := by
  obtain ⟨q, rfl⟩ : ∃ q, m = q + 1 := ⟨m - 1, by omega⟩
  exact (callA_body (fn := Try.f18) (c := body_ Try.f18) q _ (by kernel_rfl) (by kernel_rfl) (by kernel_rfl)).trans (B18 _ (fun p0 p1 => F67 q (by omega) p0 p1) p0 p1)

noncomputable def T30 (p0 : S53) (p1 : S53) : Option Bool := (bif (eqS p0.f0 p1.f0) then (bif (eqS p0.f1 p1.f1) then (bif (allB [eqI p0.f2.f0 p1.f2.f0, eqI p0.f2.f1 p1.f2.f1]) then (bif (eqI p0.f4 p1.f4) then (bif (eqI p0.f5 p1.f5) then (bif (eqI p0.f6 p1.f6) then ((T69 p0.f3 p1.f3).bind fun x1 => (some x1)) else (some false)) else (some false)) else (some false)) else (some false)) else (some false)) else (some false))
theorem B30 (C : Callee) (h69 : ∀ (p0 : (List ByteArray)) (p1 : (List ByteArray)), C 69 [LL S p0, LL S p1] = (T69 p0 p1).map B) (p0 : S53) (p1 : S53) : runs Try.prog C (cfg.fn 30) (finFn Try.prog (cfg.fn 30).byval Try.f30) [] (execA Try.prog C (cfg.fn 30) (nr Try.f30 []) (frame0 [a53 p0, a53 p1] 52 false)) = (T30 p0 p1).map B := by
  unfold T30
  let s_0 : List (Nat × AV) := [(24, B (allB [eqI p0.f2.f0 p1.f2.f0, eqI p0.f2.f1 p1.f2.f1])), (23, B (allB [eqI p0.f2.f0 p1.f2.f0, eqI p0.f2.f1 p1.f2.f1])), (22, B (allB [eqI p0.f2.f0 p1.f2.f0, eqI p0.f2.f1 p1.f2.f1])), (21, a38 p1.f2), (20, .ba 24 2), (19, a38 p0.f2), (18, .ba 16 2), (17, B true), (17, B (eqS p0.f1 p1.f1)), (16, B (eqS p0.f1 p1.f1)), (15, B (eqS p0.f1 p1.f1)), (14, S p1.f1), (13, .ba 24 1), (12, S p0.f1), (11, .ba 16 1), (10, B true), (10, B (eqS p0.f0 p1.f0)), (9, B (eqS p0.f0 p1.f0)), (8, S p1.f0), (7, .ba 24 0), (6, S p0.f0), (5, .ba 16 0), (2, .ba 16 0), (3, .ba 24 0)]
  let s_1 : List (Nat × AV) := [(38, B (eqI p0.f5 p1.f5)), (37, B (eqI p0.f5 p1.f5)), (36, B (eqI p0.f5 p1.f5)), (35, I p1.f5), (34, .ba 24 6), (33, I p0.f5), (32, .ba 16 6), (31, B true), (31, B (eqI p0.f4 p1.f4)), (30, B (eqI p0.f4 p1.f4)), (29, B (eqI p0.f4 p1.f4)), (28, I p1.f4), (27, .ba 24 5), (26, I p0.f4), (25, .ba 16 5), (24, B true)]
  let s_2 : List (Nat × AV) := [(17, B (eqS p0.f1 p1.f1)), (16, B (eqS p0.f1 p1.f1)), (15, B (eqS p0.f1 p1.f1)), (14, S p1.f1), (13, .ba 24 1), (12, S p0.f1), (11, .ba 16 1), (10, B true), (10, B (eqS p0.f0 p1.f0)), (9, B (eqS p0.f0 p1.f0)), (8, S p1.f0), (7, .ba 24 0), (6, S p0.f0), (5, .ba 16 0), (2, .ba 16 0), (3, .ba 24 0)]
  let s_3 : List (Nat × AV) := [(45, B (eqI p0.f6 p1.f6)), (44, B (eqI p0.f6 p1.f6)), (43, B (eqI p0.f6 p1.f6)), (42, I p1.f6), (41, .ba 24 7), (40, I p0.f6), (39, .ba 16 7), (38, B true)]
  let o_0 : List (Nat × AObj) := [(16, .box [S p0.f0, S p0.f1, I p0.f2.f0, I p0.f2.f1, LL S p0.f3, I p0.f4, I p0.f5, I p0.f6] false), (24, .box [S p1.f0, S p1.f1, I p1.f2.f0, I p1.f2.f1, LL S p1.f3, I p1.f4, I p1.f5, I p1.f6] false)]
  refine gS 1 ?_
  refine gR 0 (rg Try.f30 0) ?_
  refine se (mkE [(2, .ba 16 0), (3, .ba 24 0)] o_0 52) ?_
  refine pN ?_
  refine pS ?_
  refine gS 0 ?_
  refine gR 1 (rg Try.f30 1) ?_
  refine sg 6 (mkE [(10, B (eqS p0.f0 p1.f0)), (9, B (eqS p0.f0 p1.f0)), (8, S p1.f0), (7, .ba 24 0), (6, S p0.f0), (5, .ba 16 0), (2, .ba 16 0), (3, .ba 24 0)] o_0 52) ?_
  refine sb 10 (eqS p0.f0 p1.f0) ?_ ?_
  · refine sg 13 (mkE s_2 o_0 52) ?_
    refine sb 17 (eqS p0.f1 p1.f1) ?_ ?_
    · refine sg 17 (mkE ((21, a38 p1.f2) :: ((20, .ba 24 2) :: ((19, a38 p0.f2) :: ((18, .ba 16 2) :: ((17, B true) :: s_2))))) o_0 52) ?_
      refine eo 22 (B (allB [eqI p0.f2.f0 p1.f2.f0, eqI p0.f2.f1 p1.f2.f1])) (eqlE 39 (.tmp 19) (.tmp 21) [I p0.f2.f0, I p0.f2.f1] [I p1.f2.f0, I p1.f2.f1] [.int .i64 p0.f2.f0, .int .i64 p0.f2.f1] [.int .i64 p1.f2.f0, .int .i64 p1.f2.f1] [eqI p0.f2.f0 p1.f2.f0, eqI p0.f2.f1 p1.f2.f1]) ?_
      refine sg 20 (mkE s_0 o_0 52) ?_
      refine sb 24 (allB [eqI p0.f2.f0 p1.f2.f0, eqI p0.f2.f1 p1.f2.f1]) ?_ ?_
      · refine sg 27 (mkE ((31, B (eqI p0.f4 p1.f4)) :: ((30, B (eqI p0.f4 p1.f4)) :: ((29, B (eqI p0.f4 p1.f4)) :: ((28, I p1.f4) :: ((27, .ba 24 5) :: ((26, I p0.f4) :: ((25, .ba 16 5) :: ((24, B true) :: s_0)))))))) o_0 52) ?_
        refine sb 31 (eqI p0.f4 p1.f4) ?_ ?_
        · refine sg 34 (mkE (s_1.append s_0) o_0 52) ?_
          refine sb 38 (eqI p0.f5 p1.f5) ?_ ?_
          · refine sg 41 (mkE (s_3.append (s_1.append s_0)) o_0 52) ?_
            refine sb 45 (eqI p0.f6 p1.f6) ?_ ?_
            · refine sg 45 (mkE ((49, LL S p1.f3) :: ((48, .ba 24 4) :: ((47, LL S p0.f3) :: ((46, .ba 16 4) :: ((45, B true) :: (s_3.append (s_1.append s_0))))))) o_0 52) ?_
              refine co 50 [] (h69 p0.f3 p1.f3) (fun x1 => ?_)
              refine se (mkE [(4, B x1)] [] 52) ?_
              refine pN ?_
              refine pS ?_
              refine gE ?_
              exact pL
            · refine se (mkE [(4, B false)] [] 52) ?_
              refine pN ?_
              refine pS ?_
              refine gE ?_
              exact pL
          · refine se (mkE [(4, B false)] [] 52) ?_
            refine pN ?_
            refine pS ?_
            refine gE ?_
            exact pL
        · refine se (mkE [(4, B false)] [] 52) ?_
          refine pN ?_
          refine pS ?_
          refine gE ?_
          exact pL
      · refine se (mkE [(4, B false)] [] 52) ?_
        refine pN ?_
        refine pS ?_
        refine gE ?_
        exact pL
    · refine se (mkE [(4, B false)] [] 52) ?_
      refine pN ?_
      refine pS ?_
      refine gE ?_
      exact pL
  · refine se (mkE [(4, B false)] [] 52) ?_
    refine pN ?_
    refine pS ?_
    refine gE ?_
    exact pL
theorem F30 (m : Nat) (hm : 2 ≤ m) (p0 : S53) (p1 : S53) : callA Try.prog cfg m 30 [a53 p0, a53 p1] = (T30 p0 p1).map B := by
  obtain ⟨q, rfl⟩ : ∃ q, m = q + 1 := ⟨m - 1, by omega⟩
  exact (callA_body (fn := Try.f30) (c := body_ Try.f30) q _ (by kernel_rfl) (by kernel_rfl) (by kernel_rfl)).trans (B30 _ (fun p0 p1 => F69 q (by omega) p0 p1) p0 p1)

noncomputable def L70_4 (p0 : (List S53)) (p1 : (List S53)) (z0 : Int) : Option (Int ⊕ ((Int × Bool) ⊕ Unit)) := (bif (ltI z0 (lenL p0)) then ((listAt p0 z0).bind fun x1 => ((listAt p1 z0).bind fun x2 => ((T30 x1 x2).bind fun x3 => (bif (!x3) then (some (.inr (.inr ()))) else (some (.inl (addI .i64 z0 1))))))) else (some (.inr (.inl (z0, (ltI z0 (lenL p0)))))))
theorem L70_4_ok (C : Callee) (h30 : ∀ (p0 : S53) (p1 : S53), C 30 [a53 p0, a53 p1] = (T30 p0 p1).map B) (p0 : (List S53)) (p1 : (List S53)) (z0 : Int) : runs Try.prog C (cfg.fn 70) (finLoop ((cfg.fn 70).keep 4) ((cfg.fn 70).al 4)) [] (execA Try.prog C (cfg.fn 70) (nr Try.f70 [false, false, true, false, true, true]) ((fun z0 : Int => (mkE [(1, LL a53 p1), (2, .fn 30 []), (15, LL a53 p0), (16, I (lenL p0)), (17, I z0)] [] 32)) z0)) = (L70_4 p0 p1 z0).map (Sum.elim (fun z => .inl ((fun z0 : Int => (mkE [(1, LL a53 p1), (2, .fn 30 []), (15, LL a53 p0), (16, I (lenL p0)), (17, I z0)] [] 32)) z)) (fun x => .inr ((Sum.elim (fun (x : (Int × Bool)) => (.exit 0, (mkE [(1, LL a53 p1), (2, .fn 30 []), (15, LL a53 p0), (16, I (lenL p0)), (17, I x.1), (18, B x.2)] [] 32))) (fun (x : Unit) => (.ret, (mkE [(6, B false)] [] 32)))) x))) := by
  unfold L70_4
  let s_0 : List (Nat × AV) := [(15, LL a53 p0), (16, I (lenL p0)), (17, I z0)]
  let s_1 : List (Nat × AV) := [(1, LL a53 p1), (2, .fn 30 [])]
  refine gS 0 ?_
  refine gR 4 (rg Try.f70 4) ?_
  refine se (mkE (s_1.append (s_0.append [(18, B (ltI z0 (lenL p0)))])) [] 32) ?_
  refine pN ?_
  refine pS ?_
  refine gS 5 ?_
  refine gC 18 (ltI z0 (lenL p0)) ?_ ?_
  · refine gK ?_
    refine pN ?_
    refine pS ?_
    refine gS 9 ?_
    refine gB 1 ?_
    refine gS 6 ?_
    refine gR 5 (rg Try.f70 5) ?_
    refine sg 1 (mkE ((19, I z0) :: (s_1.append (s_0.append [(18, B (ltI z0 (lenL p0)))]))) [] 32) ?_
    refine vo 20 (addrE 29 54 8 a53 .i64 p0 z0) (fun x1 => ?_)
    refine se (mkE (s_1.append ((7, I z0) :: ((8, .ba 64 0) :: s_0))) [(64, .box [S x1.f0, S x1.f1, I x1.f2.f0, I x1.f2.f1, LL S x1.f3, I x1.f4, I x1.f5, I x1.f6] false)] 32) ?_
    refine pN ?_
    refine pS ?_
    refine gS 7 ?_
    refine gR 6 (rg Try.f70 6) ?_
    refine sg 2 (mkE ((23, I z0) :: ((22, LL a53 p1) :: (s_1.append ((7, I z0) :: ((8, .ba 64 0) :: s_0))))) [(64, .box [S x1.f0, S x1.f1, I x1.f2.f0, I x1.f2.f1, LL S x1.f3, I x1.f4, I x1.f5, I x1.f6] false)] 32) ?_
    refine vo 24 (addrE 29 54 8 a53 .i64 p1 z0) (fun x2 => ?_)
    refine se (mkE (s_1.append ((8, .ba 64 0) :: ((9, .ba 72 0) :: s_0))) [(64, .box [S x1.f0, S x1.f1, I x1.f2.f0, I x1.f2.f1, LL S x1.f3, I x1.f4, I x1.f5, I x1.f6] false), (72, .box [S x2.f0, S x2.f1, I x2.f2.f0, I x2.f2.f1, LL S x2.f3, I x2.f4, I x2.f5, I x2.f6] false)] 32) ?_
    refine pN ?_
    refine pS ?_
    refine gS 0 ?_
    refine gR 7 (rg Try.f70 7) ?_
    refine sg 3 (mkE ((28, a53 x2) :: ((27, a53 x1) :: ((26, .fn 30 []) :: (s_1.append ((8, .ba 64 0) :: ((9, .ba 72 0) :: s_0)))))) [(64, .box [S x1.f0, S x1.f1, I x1.f2.f0, I x1.f2.f1, LL S x1.f3, I x1.f4, I x1.f5, I x1.f6] false), (72, .box [S x2.f0, S x2.f1, I x2.f2.f0, I x2.f2.f1, LL S x2.f3, I x2.f4, I x2.f5, I x2.f6] false)] 32) ?_
    refine co 29 [] (h30 x1 x2) (fun x3 => ?_)
    refine se (mkE (s_1.append (s_0.append [(30, B (!x3))])) [] 32) ?_
    refine pN ?_
    refine pS ?_
    refine gC 30 (!x3) ?_ ?_
    · refine gS 0 ?_
      refine gR 8 (rg Try.f70 8) ?_
      refine se (mkE [(6, B false)] [] 32) ?_
      refine pN ?_
      refine pS ?_
      refine gE ?_
      exact pL
    · refine gK ?_
      refine pB ?_
      refine pN ?_
      refine pS ?_
      refine gR 9 (rg Try.f70 9) ?_
      refine se (mkE (s_1.append ((15, LL a53 p0) :: ((16, I (lenL p0)) :: [(17, I (addI .i64 z0 1))]))) [] 32) ?_
      exact pL
  · refine gX 0 ?_
    exact pL
noncomputable def T70 (p0 : (List S53)) (p1 : (List S53)) : Option Bool := (bif (neI (lenL p0) (lenL p1)) then (some false) else ((iter (L70_4 p0 p1) 0).bind fun y4 => (Sum.elim (fun y4a => (some true)) (fun y4b => (some false)) y4)))
theorem B70 (C : Callee) (h30 : ∀ (p0 : S53) (p1 : S53), C 30 [a53 p0, a53 p1] = (T30 p0 p1).map B) (p0 : (List S53)) (p1 : (List S53)) : runs Try.prog C (cfg.fn 70) (finFn Try.prog (cfg.fn 70).byval Try.f70) [] (execA Try.prog C (cfg.fn 70) (nr Try.f70 []) (frame0 [LL a53 p0, LL a53 p1, .fn 30 []] 32 false)) = (T70 p0 p1).map B := by
  unfold T70
  let s_0 : List (Nat × AV) := [(1, LL a53 p1), (2, .fn 30 [])]
  refine gS 1 ?_
  refine gR 0 (rg Try.f70 0) ?_
  refine se (mkE ((0, LL a53 p0) :: s_0) [] 32) ?_
  refine pN ?_
  refine pS ?_
  refine gS 3 ?_
  refine gS 0 ?_
  refine gR 1 (rg Try.f70 1) ?_
  refine sg 1 (mkE ((10, LL a53 p0) :: ((0, LL a53 p0) :: s_0)) [] 32) ?_
  refine eo 11 (I (lenL p0)) (lenE 29 a53 p0) ?_
  refine sg 3 (mkE ((12, LL a53 p1) :: ((11, I (lenL p0)) :: ((10, LL a53 p0) :: ((0, LL a53 p0) :: s_0)))) [] 32) ?_
  refine eo 13 (I (lenL p1)) (lenE 29 a53 p1) ?_
  refine se (mkE ((0, LL a53 p0) :: (s_0.append [(14, B (neI (lenL p0) (lenL p1)))])) [] 32) ?_
  refine pN ?_
  refine pS ?_
  refine gC 14 (neI (lenL p0) (lenL p1)) ?_ ?_
  · refine gS 0 ?_
    refine gR 2 (rg Try.f70 2) ?_
    refine se (mkE [(6, B false)] [] 32) ?_
    refine pN ?_
    refine pS ?_
    refine gE ?_
    exact pL
  · refine gK ?_
    refine pN ?_
    refine pS ?_
    refine gS 10 ?_
    refine gS 4 ?_
    refine gR 3 (rg Try.f70 3) ?_
    refine sg 1 (mkE ((15, LL a53 p0) :: ((0, LL a53 p0) :: (s_0.append [(14, B (neI (lenL p0) (lenL p1)))]))) [] 32) ?_
    refine eo 16 (I (lenL p0)) (lenE 29 a53 p0) ?_
    refine se (mkE (s_0.append ((15, LL a53 p0) :: ((16, I (lenL p0)) :: [(17, I 0)]))) [] 32) ?_
    refine pN ?_
    refine pS ?_
    refine gB 0 ?_
    refine lo [(1, none), (2, none), (15, none), (16, none), (17, none)] [] (L70_4 p0 p1) (fun z0 : Int => (mkE (s_0.append ((15, LL a53 p0) :: ((16, I (lenL p0)) :: [(17, I z0)]))) [] 32)) (Sum.elim (fun (x : (Int × Bool)) => (.exit 0, (mkE (s_0.append ((15, LL a53 p0) :: ((16, I (lenL p0)) :: ((17, I x.1) :: [(18, B x.2)])))) [] 32))) (fun (x : Unit) => (.ret, (mkE [(6, B false)] [] 32)))) 0 (fun z => L70_4_ok C h30 p0 p1 z) ?_
    intro y4
    refine ss y4 (Z := (Sum.elim (fun (x : (Int × Bool)) => (.exit 0, (mkE (s_0.append ((15, LL a53 p0) :: ((16, I (lenL p0)) :: ((17, I x.1) :: [(18, B x.2)])))) [] 32))) (fun (x : Unit) => (.ret, (mkE [(6, B false)] [] 32))))) (fun y4a => ?_) (fun y4b => ?_)
    · refine pH ?_
      refine pN ?_
      refine pS ?_
      refine gS 0 ?_
      refine gR 10 (rg Try.f70 10) ?_
      refine se (mkE [(6, B true)] [] 32) ?_
      refine pN ?_
      refine pS ?_
      refine gE ?_
      exact pL
    · exact pL
theorem F70 (m : Nat) (hm : 3 ≤ m) (p0 : (List S53)) (p1 : (List S53)) : callA Try.prog cfg m 70 [LL a53 p0, LL a53 p1, .fn 30 []] = (T70 p0 p1).map B := by
  obtain ⟨q, rfl⟩ : ∃ q, m = q + 1 := ⟨m - 1, by omega⟩
  exact (callA_body (fn := Try.f70) (c := body_ Try.f70) q _ (by kernel_rfl) (by kernel_rfl) (by kernel_rfl)).trans (B70 _ (fun p0 p1 => F30 q (by omega) p0 p1) p0 p1)

noncomputable def T19 (p0 : (List S53)) (p1 : (List S53)) : Option Bool := ((T70 p0 p1).bind fun x1 => (some x1))
theorem B19 (C : Callee) (h70 : ∀ (p0 : (List S53)) (p1 : (List S53)), C 70 [LL a53 p0, LL a53 p1, .fn 30 []] = (T70 p0 p1).map B) (p0 : (List S53)) (p1 : (List S53)) : runs Try.prog C (cfg.fn 19) (finFn Try.prog (cfg.fn 19).byval Try.f19) [] (execA Try.prog C (cfg.fn 19) (nr Try.f19 []) (frame0 [LL a53 p0, LL a53 p1] 8 false)) = (T19 p0 p1).map B := by
  unfold T19
  refine gS 1 ?_
  refine gR 0 (rg Try.f19 0) ?_
  refine se (mkE [(0, LL a53 p0), (1, LL a53 p1)] [] 8) ?_
  refine pN ?_
  refine pS ?_
  refine gS 0 ?_
  refine gR 1 (rg Try.f19 1) ?_
  refine sg 2 (mkE [(6, LL a53 p1), (5, LL a53 p0), (0, LL a53 p0), (1, LL a53 p1)] [] 8) ?_
  refine co 7 [] (h70 p0 p1) (fun x1 => ?_)
  refine se (mkE [(4, B x1)] [] 8) ?_
  refine pN ?_
  refine pS ?_
  refine gE ?_
  exact pL
theorem F19 (m : Nat) (hm : 4 ≤ m) (p0 : (List S53)) (p1 : (List S53)) : callA Try.prog cfg m 19 [LL a53 p0, LL a53 p1] = (T19 p0 p1).map B := by
  obtain ⟨q, rfl⟩ : ∃ q, m = q + 1 := ⟨m - 1, by omega⟩
  exact (callA_body (fn := Try.f19) (c := body_ Try.f19) q _ (by kernel_rfl) (by kernel_rfl) (by kernel_rfl)).trans (B19 _ (fun p0 p1 => F70 q (by omega) p0 p1) p0 p1)

noncomputable def L27_4 (p0 : (List S49)) (p1 : (List S49)) (z0 : Int) : Option (Int ⊕ ((Int × Bool) ⊕ Unit)) := (bif (ltI z0 (lenL p0)) then ((listAt p0 z0).bind fun x1 => ((listAt p1 z0).bind fun x2 => (bif (!allB [eqB x1.f0 x2.f0, eqB x1.f1 x2.f1, eqI x1.f2 x2.f2]) then (some (.inr (.inr ()))) else (some (.inl (addI .i64 z0 1)))))) else (some (.inr (.inl (z0, (ltI z0 (lenL p0)))))))
theorem L27_4_ok (C : Callee) (p0 : (List S49)) (p1 : (List S49)) (z0 : Int) : runs Try.prog C (cfg.fn 27) (finLoop ((cfg.fn 27).keep 4) ((cfg.fn 27).al 4)) [] (execA Try.prog C (cfg.fn 27) (nr Try.f27 [false, false, true, false, true, true]) ((fun z0 : Int => (mkE [(0, LL a49 p0), (1, LL a49 p1), (12, I (lenL p0)), (13, I z0)] [] 26)) z0)) = (L27_4 p0 p1 z0).map (Sum.elim (fun z => .inl ((fun z0 : Int => (mkE [(0, LL a49 p0), (1, LL a49 p1), (12, I (lenL p0)), (13, I z0)] [] 26)) z)) (fun x => .inr ((Sum.elim (fun (x : (Int × Bool)) => (.exit 0, (mkE [(0, LL a49 p0), (1, LL a49 p1), (12, I (lenL p0)), (13, I x.1), (14, B x.2)] [] 26))) (fun (x : Unit) => (.ret, (mkE [(4, B false)] [] 26)))) x))) := by
  unfold L27_4
  let s_0 : List (Nat × AV) := [(0, LL a49 p0), (1, LL a49 p1), (5, I z0), (12, I (lenL p0)), (13, I z0)]
  refine gS 0 ?_
  refine gR 4 (rg Try.f27 4) ?_
  refine se (mkE [(0, LL a49 p0), (1, LL a49 p1), (12, I (lenL p0)), (13, I z0), (14, B (ltI z0 (lenL p0)))] [] 26) ?_
  refine pN ?_
  refine pS ?_
  refine gS 5 ?_
  refine gC 14 (ltI z0 (lenL p0)) ?_ ?_
  · refine gK ?_
    refine pN ?_
    refine pS ?_
    refine gS 8 ?_
    refine gB 1 ?_
    refine gS 6 ?_
    refine gR 5 (rg Try.f27 5) ?_
    refine se (mkE s_0 [] 26) ?_
    refine pN ?_
    refine pS ?_
    refine gS 0 ?_
    refine gD 6 9 (rg Try.f27 6) [0, 1, 2, 3, 4, 5, 6, 7, 8] ?_
    refine dg 2 [(some 16, qe (LL a49 p0)), (some 17, qe (I z0))] ?_
    refine dv 18 (mkE ((17, I z0) :: ((16, LL a49 p0) :: s_0)) [] 26) (addrE 47 50 3 a49 .i64 p0 z0) (fun x1 => ?_)
    refine dg 6 [(some 16, qe (LL a49 p0)), (some 17, qe (I z0)), (some 18, qe (.ia [S x1.f0, S x1.f1, I x1.f2] 0)), (some 19, qe (a49 x1)), (some 20, qe (LL a49 p1)), (some 21, qe (I z0))] ?_
    refine dv 22 (mkE ((21, I z0) :: ((20, LL a49 p1) :: s_0)) [] 26) (addrE 47 50 3 a49 .i64 p1 z0) (fun x2 => ?_)
    refine dg 8 [(some 16, qe (LL a49 p0)), (some 17, qe (I z0)), (some 18, qe (.ia [S x1.f0, S x1.f1, I x1.f2] 0)), (some 19, qe (a49 x1)), (some 20, qe (LL a49 p1)), (some 21, qe (I z0)), (some 22, qe (.ia [S x2.f0, S x2.f1, I x2.f2] 0)), (some 23, qe (a49 x2))] ?_
    refine df 24 (B (!allB [eqB x1.f0 x2.f0, eqB x1.f1 x2.f1, eqI x1.f2 x2.f2])) (mkE ((23, a49 x2) :: ((22, .ia [S x2.f0, S x2.f1, I x2.f2] 0) :: ((21, I z0) :: ((20, LL a49 p1) :: ((19, a49 x1) :: ((18, .ia [S x1.f0, S x1.f1, I x1.f2] 0) :: ((17, I z0) :: ((16, LL a49 p0) :: s_0)))))))) [] 26) (neqE 50 (.tmp 19) (.tmp 23) [S x1.f0, S x1.f1, I x1.f2] [S x2.f0, S x2.f1, I x2.f2] [.string x1.f0, .string x1.f1, .int .i64 x1.f2] [.string x2.f0, .string x2.f1, .int .i64 x2.f2] [eqB x1.f0 x2.f0, eqB x1.f1 x2.f1, eqI x1.f2 x2.f2]) ?_
    refine de (mkE ((24, B (!allB [eqB x1.f0 x2.f0, eqB x1.f1 x2.f1, eqI x1.f2 x2.f2])) :: ((23, a49 x2) :: ((22, .ia [S x2.f0, S x2.f1, I x2.f2] 0) :: ((21, I z0) :: ((20, LL a49 p1) :: ((19, a49 x1) :: ((18, .ia [S x1.f0, S x1.f1, I x1.f2] 0) :: ((17, I z0) :: ((16, LL a49 p0) :: s_0))))))))) [] 26) ?_
    refine se (mkE [(0, LL a49 p0), (1, LL a49 p1), (12, I (lenL p0)), (13, I z0), (24, B (!allB [eqB x1.f0 x2.f0, eqB x1.f1 x2.f1, eqI x1.f2 x2.f2]))] [] 26) ?_
    refine pN ?_
    refine pS ?_
    refine gC 24 (!allB [eqB x1.f0 x2.f0, eqB x1.f1 x2.f1, eqI x1.f2 x2.f2]) ?_ ?_
    · refine gS 0 ?_
      refine gR 7 (rg Try.f27 7) ?_
      refine se (mkE [(4, B false)] [] 26) ?_
      refine pN ?_
      refine pS ?_
      refine gE ?_
      exact pL
    · refine gK ?_
      refine pB ?_
      refine pN ?_
      refine pS ?_
      refine gR 8 (rg Try.f27 8) ?_
      refine se (mkE [(0, LL a49 p0), (1, LL a49 p1), (12, I (lenL p0)), (13, I (addI .i64 z0 1))] [] 26) ?_
      exact pL
  · refine gX 0 ?_
    exact pL
noncomputable def T27 (p0 : (List S49)) (p1 : (List S49)) : Option Bool := (bif (neI (lenL p0) (lenL p1)) then (some false) else ((iter (L27_4 p0 p1) 0).bind fun y3 => (Sum.elim (fun y3a => (some true)) (fun y3b => (some false)) y3)))
theorem B27 (C : Callee) (p0 : (List S49)) (p1 : (List S49)) : runs Try.prog C (cfg.fn 27) (finFn Try.prog (cfg.fn 27).byval Try.f27) [] (execA Try.prog C (cfg.fn 27) (nr Try.f27 []) (frame0 [LL a49 p0, LL a49 p1] 26 false)) = (T27 p0 p1).map B := by
  unfold T27
  let s_0 : List (Nat × AV) := [(0, LL a49 p0), (1, LL a49 p1)]
  refine gS 1 ?_
  refine gR 0 (rg Try.f27 0) ?_
  refine se (mkE s_0 [] 26) ?_
  refine pN ?_
  refine pS ?_
  refine gS 3 ?_
  refine gS 0 ?_
  refine gR 1 (rg Try.f27 1) ?_
  refine sg 1 (mkE ((6, LL a49 p0) :: s_0) [] 26) ?_
  refine eo 7 (I (lenL p0)) (lenE 47 a49 p0) ?_
  refine sg 3 (mkE ((8, LL a49 p1) :: ((7, I (lenL p0)) :: ((6, LL a49 p0) :: s_0))) [] 26) ?_
  refine eo 9 (I (lenL p1)) (lenE 47 a49 p1) ?_
  refine se (mkE (s_0.append [(10, B (neI (lenL p0) (lenL p1)))]) [] 26) ?_
  refine pN ?_
  refine pS ?_
  refine gC 10 (neI (lenL p0) (lenL p1)) ?_ ?_
  · refine gS 0 ?_
    refine gR 2 (rg Try.f27 2) ?_
    refine se (mkE [(4, B false)] [] 26) ?_
    refine pN ?_
    refine pS ?_
    refine gE ?_
    exact pL
  · refine gK ?_
    refine pN ?_
    refine pS ?_
    refine gS 9 ?_
    refine gS 4 ?_
    refine gR 3 (rg Try.f27 3) ?_
    refine sg 1 (mkE ((11, LL a49 p0) :: (s_0.append [(10, B (neI (lenL p0) (lenL p1)))])) [] 26) ?_
    refine eo 12 (I (lenL p0)) (lenE 47 a49 p0) ?_
    refine se (mkE (s_0.append ((12, I (lenL p0)) :: [(13, I 0)])) [] 26) ?_
    refine pN ?_
    refine pS ?_
    refine gB 0 ?_
    refine lo [(0, none), (1, none), (12, none), (13, none)] [] (L27_4 p0 p1) (fun z0 : Int => (mkE (s_0.append ((12, I (lenL p0)) :: [(13, I z0)])) [] 26)) (Sum.elim (fun (x : (Int × Bool)) => (.exit 0, (mkE (s_0.append ((12, I (lenL p0)) :: ((13, I x.1) :: [(14, B x.2)]))) [] 26))) (fun (x : Unit) => (.ret, (mkE [(4, B false)] [] 26)))) 0 (fun z => L27_4_ok C p0 p1 z) ?_
    intro y3
    refine ss y3 (Z := (Sum.elim (fun (x : (Int × Bool)) => (.exit 0, (mkE (s_0.append ((12, I (lenL p0)) :: ((13, I x.1) :: [(14, B x.2)]))) [] 26))) (fun (x : Unit) => (.ret, (mkE [(4, B false)] [] 26))))) (fun y3a => ?_) (fun y3b => ?_)
    · refine pH ?_
      refine pN ?_
      refine pS ?_
      refine gS 0 ?_
      refine gR 9 (rg Try.f27 9) ?_
      refine se (mkE [(4, B true)] [] 26) ?_
      refine pN ?_
      refine pS ?_
      refine gE ?_
      exact pL
    · exact pL
theorem F27 (m : Nat) (hm : 1 ≤ m) (p0 : (List S49)) (p1 : (List S49)) : callA Try.prog cfg m 27 [LL a49 p0, LL a49 p1] = (T27 p0 p1).map B := by
  obtain ⟨q, rfl⟩ : ∃ q, m = q + 1 := ⟨m - 1, by omega⟩
  exact (callA_body (fn := Try.f27) (c := body_ Try.f27) q _ (by kernel_rfl) (by kernel_rfl) (by kernel_rfl)).trans (B27 _ p0 p1)

noncomputable def T6 (p0 : (List S90)) (p1 : (List S53)) (p2 : (List S49)) : Option Bool := ((T15 p0).bind fun x1 => ((T16 p1).bind fun x2 => ((appO 40 ([] : List S49) p2).bind fun x3 => ((T26 p0 p1 p2).bind fun x4 => (bif x4 then ((T18 p0 x1).bind fun x5 => (bif x5 then ((T19 p1 x2).bind fun x6 => (bif x6 then ((T27 p2 x3).bind fun x7 => (some x7)) else (some false))) else (some false))) else (some false))))))
theorem B6 (C : Callee) (h15 : ∀ (p0 : (List S90)), C 15 [LL a90 p0] = (T15 p0).map (fun l => AV.fr 91 5 (List.map a90 l))) (h16 : ∀ (p0 : (List S53)), C 16 [LL a53 p0] = (T16 p0).map (fun l => AV.fr 54 8 (List.map a53 l))) (h18 : ∀ (p0 : (List S90)) (p1 : (List S90)), C 18 [LL a90 p0, LL a90 p1] = (T18 p0 p1).map B) (h19 : ∀ (p0 : (List S53)) (p1 : (List S53)), C 19 [LL a53 p0, LL a53 p1] = (T19 p0 p1).map B) (h25 : ∀ (p0 : (List S49)), C 25 [LL a49 p0] = (appO 40 ([] : List S49) p0).map (fun l => AV.fr 50 3 (List.map a49 l))) (h26 : ∀ (p0 : (List S90)) (p1 : (List S53)) (p2 : (List S49)), C 26 [LL a90 p0, LL a53 p1, LL a49 p2] = (T26 p0 p1 p2).map B) (h27 : ∀ (p0 : (List S49)) (p1 : (List S49)), C 27 [LL a49 p0, LL a49 p1] = (T27 p0 p1).map B) (p0 : (List S90)) (p1 : (List S53)) (p2 : (List S49)) : runs Try.prog C (cfg.fn 6) (finFn Try.prog (cfg.fn 6).byval Try.f6) [] (execA Try.prog C (cfg.fn 6) (nr Try.f6 []) (frame0 [LL a90 p0, LL a53 p1, LL a49 p2] 35 false)) = (T6 p0 p1 p2).map B := by
  unfold T6
  let s_0 : List (Nat × AV) := [(18, LL a49 p2), (17, LL a53 p1), (16, LL a90 p0), (0, LL a90 p0), (1, LL a53 p1), (2, LL a49 p2), (7, .own 88 0), (8, .own 104 0), (9, .own 120 0)]
  let s_1 : List (Nat × AV) := [(0, LL a90 p0), (1, LL a53 p1), (2, LL a49 p2)]
  let s_2 : List (Nat × AV) := [(22, .own 88 0), (21, LL a90 p0), (20, B true)]
  refine gS 1 ?_
  refine gR 0 (rg Try.f6 0) ?_
  refine se (mkE s_1 [] 35) ?_
  refine pN ?_
  refine pS ?_
  refine gS 2 ?_
  refine gR 1 (rg Try.f6 1) ?_
  refine sg 1 (mkE ((10, LL a90 p0) :: s_1) [] 35) ?_
  refine co 11 [] (h15 p0) (fun x1 => ?_)
  refine sg 3 (mkE ((12, LL a53 p1) :: ((11, .own 88 0) :: ((10, LL a90 p0) :: s_1))) [(88, RR 91 5 a90 x1 0 false)] 35) ?_
  refine co 13 [] (h16 p1) (fun x2 => ?_)
  refine sg 5 (mkE ((14, LL a49 p2) :: ((13, .own 104 0) :: ((12, LL a53 p1) :: ((11, .own 88 0) :: ((10, LL a90 p0) :: s_1))))) [(104, RR 54 8 a53 x2 0 false), (88, RR 91 5 a90 x1 0 false)] 35) ?_
  refine co 15 [] (h25 p2) (fun x3 => ?_)
  refine se (mkE (s_1.append ((7, .own 88 0) :: ((8, .own 104 0) :: [(9, .own 120 0)]))) [(88, RR 91 5 a90 x1 0 false), (104, RR 54 8 a53 x2 0 false), (120, RR 50 3 a49 x3 0 false)] 35) ?_
  refine pN ?_
  refine pS ?_
  refine gS 0 ?_
  refine gR 2 (rg Try.f6 2) ?_
  refine sg 3 (mkE s_0 [(88, RR 91 5 a90 x1 0 false), (104, RR 54 8 a53 x2 0 false), (120, RR 50 3 a49 x3 0 false)] 35) ?_
  refine co 19 [] (h26 p0 p1 p2) (fun x4 => ?_)
  refine sg 5 (mkE ((20, B x4) :: ((19, B x4) :: s_0)) [(88, RR 91 5 a90 x1 0 false), (104, RR 54 8 a53 x2 0 false), (120, RR 50 3 a49 x3 0 false)] 35) ?_
  refine sb 20 x4 ?_ ?_
  · refine sg 7 (mkE (s_2.append ((20, B x4) :: ((19, B x4) :: s_0))) [(88, RR 91 5 a90 x1 0 false), (104, RR 54 8 a53 x2 0 false), (120, RR 50 3 a49 x3 0 false)] 35) ?_
    refine co 23 [88] (h18 p0 x1) (fun x5 => ?_)
    refine sg 10 (mkE ((25, B x5) :: ((24, B x5) :: ((23, B x5) :: (s_2.append ((20, B x4) :: ((19, B x4) :: s_0)))))) [(88, RR 91 5 a90 x1 0 false), (104, RR 54 8 a53 x2 0 false), (120, RR 50 3 a49 x3 0 false)] 35) ?_
    refine sb 25 x5 ?_ ?_
    · refine sg 12 (mkE ((27, .own 104 0) :: ((26, LL a53 p1) :: ((25, B true) :: ((25, B x5) :: ((24, B x5) :: ((23, B x5) :: (s_2.append ((20, B x4) :: ((19, B x4) :: s_0))))))))) [(88, RR 91 5 a90 x1 0 false), (104, RR 54 8 a53 x2 0 false), (120, RR 50 3 a49 x3 0 false)] 35) ?_
      refine co 28 [104] (h19 p1 x2) (fun x6 => ?_)
      refine sg 15 (mkE ((30, B x6) :: ((29, B x6) :: ((28, B x6) :: ((27, .own 104 0) :: ((26, LL a53 p1) :: ((25, B true) :: ((25, B x5) :: ((24, B x5) :: ((23, B x5) :: (s_2.append ((20, B x4) :: ((19, B x4) :: s_0)))))))))))) [(88, RR 91 5 a90 x1 0 false), (104, RR 54 8 a53 x2 0 false), (120, RR 50 3 a49 x3 0 false)] 35) ?_
      refine sb 30 x6 ?_ ?_
      · refine sg 17 (mkE ((32, .own 120 0) :: ((31, LL a49 p2) :: ((30, B true) :: ((30, B x6) :: ((29, B x6) :: ((28, B x6) :: ((27, .own 104 0) :: ((26, LL a53 p1) :: ((25, B true) :: ((25, B x5) :: ((24, B x5) :: ((23, B x5) :: (s_2.append ((20, B x4) :: ((19, B x4) :: s_0))))))))))))))) [(88, RR 91 5 a90 x1 0 false), (104, RR 54 8 a53 x2 0 false), (120, RR 50 3 a49 x3 0 false)] 35) ?_
        refine co 33 [120] (h27 p2 x3) (fun x7 => ?_)
        refine se (mkE [(6, B x7)] [] 35) ?_
        refine pN ?_
        refine pS ?_
        refine gE ?_
        exact pL
      · refine se (mkE [(6, B false)] [] 35) ?_
        refine pN ?_
        refine pS ?_
        refine gE ?_
        exact pL
    · refine se (mkE [(6, B false)] [] 35) ?_
      refine pN ?_
      refine pS ?_
      refine gE ?_
      exact pL
  · refine se (mkE [(6, B false)] [] 35) ?_
    refine pN ?_
    refine pS ?_
    refine gE ?_
    exact pL
theorem F6 (m : Nat) (hm : 9 ≤ m) (p0 : (List S90)) (p1 : (List S53)) (p2 : (List S49)) : callA Try.prog cfg m 6 [LL a90 p0, LL a53 p1, LL a49 p2] = (T6 p0 p1 p2).map B := by
  obtain ⟨q, rfl⟩ : ∃ q, m = q + 1 := ⟨m - 1, by omega⟩
  exact (callA_body (fn := Try.f6) (c := body_ Try.f6) q _ (by kernel_rfl) (by kernel_rfl) (by kernel_rfl)).trans (B6 _ (fun p0 => F15 q (by omega) p0) (fun p0 => F16 q (by omega) p0) (fun p0 p1 => F18 q (by omega) p0 p1) (fun p0 p1 => F19 q (by omega) p0 p1) (fun p0 => F25 q (by omega) p0) (fun p0 p1 p2 => F26 q (by omega) p0 p1 p2) (fun p0 p1 => F27 q (by omega) p0 p1) p0 p1 p2)

end Go.Abs.TD
