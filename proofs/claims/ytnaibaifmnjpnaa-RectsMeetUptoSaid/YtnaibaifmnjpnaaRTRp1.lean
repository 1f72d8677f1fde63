import Derived.Test.YtnaibaifmnjpnaaRTR0
set_option maxRecDepth 100000
set_option linter.unusedVariables false
namespace Go.Abs.TR
open Go.RowKit Go.Proofs Go.Abs
theorem F34 (m : Nat) (hm : 1 ≤ m) (p0 : (List S63)) : callA Try.prog cfg m 34 [LL a63 p0] = (appO 32 ([] : List S63) p0).map (fun l => AV.fr 64 4 (List.map a63 l)) := by
  obtain ⟨q, rfl⟩ : ∃ q, m = q + 1 := ⟨m - 1, by omega⟩
  exact (callA_leaf (L := (leafClone Try.prog 64 4 32)) _ _ (by kernel_rfl)).trans (clone_leaf a63 _ _ (fun _ => by kernel_rfl))

noncomputable def T126 (p0 : Int) (p1 : Int) (p2 : Int) : Option Bool := (bif (ltI p0 p1) then (some true) else (some (ltI p2 p0)))
theorem B126 (C : Callee) (p0 : Int) (p1 : Int) (p2 : Int) : runs Try.prog C (cfg.fn 126) (finFn Try.prog (cfg.fn 126).byval Try.f126) [] (execA Try.prog C (cfg.fn 126) (nr Try.f126 []) (frame0 [I p0, I p1, I p2] 15 false)) = (T126 p0 p1 p2).map B := by
  unfold T126
  refine gS 1 ?_
  refine gR 0 (rg Try.f126 0) ?_
  refine se (mkE [(0, I p0), (1, I p1), (2, I p2)] [] 15) ?_
  refine pN ?_
  refine pS ?_
  refine gS 0 ?_
  refine gR 1 (rg Try.f126 1) ?_
  refine sg 4 (mkE [(10, B (ltI p0 p1)), (9, B (ltI p0 p1)), (8, I p1), (7, I p0), (0, I p0), (1, I p1), (2, I p2)] [] 15) ?_
  refine sb 10 (ltI p0 p1) ?_ ?_
  · refine se (mkE [(6, B true)] [] 15) ?_
    refine pN ?_
    refine pS ?_
    refine gE ?_
    exact pL
  · refine se (mkE [(6, B (ltI p2 p0))] [] 15) ?_
    refine pN ?_
    refine pS ?_
    refine gE ?_
    exact pL
theorem F126 (m : Nat) (hm : 1 ≤ m) (p0 : Int) (p1 : Int) (p2 : Int) : callA Try.prog cfg m 126 [I p0, I p1, I p2] = (T126 p0 p1 p2).map B := by
  obtain ⟨q, rfl⟩ : ∃ q, m = q + 1 := ⟨m - 1, by omega⟩
  exact (callA_body (fn := Try.f126) (c := body_ Try.f126) q _ (by kernel_rfl) (by kernel_rfl) (by kernel_rfl)).trans (B126 _ p0 p1 p2)

noncomputable def T117 (p0 : S63) : Option Int := ((T126 p0.f0 (-100000) 100000).bind fun x1 => (bif x1 then (some 1) else ((T126 p0.f1 (-100000) 100000).bind fun x2 => (bif x2 then (some 1) else ((T126 p0.f2 1 (subI .i64 100000 p0.f0)).bind fun x3 => (bif x3 then (some 1) else ((T126 p0.f3 1 (subI .i64 100000 p0.f1)).bind fun x4 => (bif x4 then (some 1) else (some 0)))))))))
theorem B117 (C : Callee) (h126 : ∀ (p0 : Int) (p1 : Int) (p2 : Int), C 126 [I p0, I p1, I p2] = (T126 p0 p1 p2).map B) (p0 : S63) : runs Try.prog C (cfg.fn 117) (finFn Try.prog (cfg.fn 117).byval Try.f117) [] (execA Try.prog C (cfg.fn 117) (nr Try.f117 []) (frame0 [a63 p0] 25 false)) = (T117 p0).map I := by
  unfold T117
  refine gS 1 ?_
  refine gR 0 (rg Try.f117 0) ?_
  refine se (mkE [(1, .ba 8 0)] [(8, .box [I p0.f0, I p0.f1, I p0.f2, I p0.f3] false)] 25) ?_
  refine pN ?_
  refine pS ?_
  refine gS 3 ?_
  refine gS 0 ?_
  refine gR 1 (rg Try.f117 1) ?_
  refine sg 2 (mkE [(4, I p0.f0), (3, .ba 8 0), (1, .ba 8 0)] [(8, .box [I p0.f0, I p0.f1, I p0.f2, I p0.f3] false)] 25) ?_
  refine co 5 [] (h126 p0.f0 (-100000) 100000) (fun x1 => ?_)
  refine sg 4 (mkE [(6, B x1), (5, B x1), (4, I p0.f0), (3, .ba 8 0), (1, .ba 8 0)] [(8, .box [I p0.f0, I p0.f1, I p0.f2, I p0.f3] false)] 25) ?_
  refine sb 6 x1 ?_ ?_
  · refine se (mkE [(1, .ba 8 0), (10, B true)] [(8, .box [I p0.f0, I p0.f1, I p0.f2, I p0.f3] false)] 25) ?_
    refine pN ?_
    refine pS ?_
    refine gT (.tmp 10) ?_
    refine gS 0 ?_
    refine gR 2 (rg Try.f117 2) ?_
    refine se (mkE [(2, I 1)] [] 25) ?_
    refine pN ?_
    refine pS ?_
    refine gE ?_
    exact pL
  · refine sg 6 (mkE [(8, I p0.f1), (7, .ba 8 1), (6, B false), (6, B x1), (5, B x1), (4, I p0.f0), (3, .ba 8 0), (1, .ba 8 0)] [(8, .box [I p0.f0, I p0.f1, I p0.f2, I p0.f3] false)] 25) ?_
    refine co 9 [] (h126 p0.f1 (-100000) 100000) (fun x2 => ?_)
    refine se (mkE [(1, .ba 8 0), (10, B x2)] [(8, .box [I p0.f0, I p0.f1, I p0.f2, I p0.f3] false)] 25) ?_
    refine pN ?_
    refine pS ?_
    refine gC 10 x2 ?_ ?_
    · refine gS 0 ?_
      refine gR 2 (rg Try.f117 2) ?_
      refine se (mkE [(2, I 1)] [] 25) ?_
      refine pN ?_
      refine pS ?_
      refine gE ?_
      exact pL
    · refine gK ?_
      refine pN ?_
      refine pS ?_
      refine gS 5 ?_
      refine gS 0 ?_
      refine gR 3 (rg Try.f117 3) ?_
      refine sg 5 (mkE [(15, I (subI .i64 100000 p0.f0)), (14, I p0.f0), (13, .ba 8 0), (12, I p0.f2), (11, .ba 8 2), (1, .ba 8 0), (10, B x2)] [(8, .box [I p0.f0, I p0.f1, I p0.f2, I p0.f3] false)] 25) ?_
      refine co 16 [] (h126 p0.f2 1 (subI .i64 100000 p0.f0)) (fun x3 => ?_)
      refine sg 7 (mkE [(17, B x3), (16, B x3), (15, I (subI .i64 100000 p0.f0)), (14, I p0.f0), (13, .ba 8 0), (12, I p0.f2), (11, .ba 8 2), (1, .ba 8 0), (10, B x2)] [(8, .box [I p0.f0, I p0.f1, I p0.f2, I p0.f3] false)] 25) ?_
      refine sb 17 x3 ?_ ?_
      · refine se (mkE [(24, B true)] [] 25) ?_
        refine pN ?_
        refine pS ?_
        refine gT (.tmp 24) ?_
        refine gS 0 ?_
        refine gR 4 (rg Try.f117 4) ?_
        refine se (mkE [(2, I 1)] [] 25) ?_
        refine pN ?_
        refine pS ?_
        refine gE ?_
        exact pL
      · refine sg 12 (mkE [(22, I (subI .i64 100000 p0.f1)), (21, I p0.f1), (20, .ba 8 1), (19, I p0.f3), (18, .ba 8 3), (17, B false), (17, B x3), (16, B x3), (15, I (subI .i64 100000 p0.f0)), (14, I p0.f0), (13, .ba 8 0), (12, I p0.f2), (11, .ba 8 2), (1, .ba 8 0), (10, B x2)] [(8, .box [I p0.f0, I p0.f1, I p0.f2, I p0.f3] false)] 25) ?_
        refine co 23 [] (h126 p0.f3 1 (subI .i64 100000 p0.f1)) (fun x4 => ?_)
        refine se (mkE [(24, B x4)] [] 25) ?_
        refine pN ?_
        refine pS ?_
        refine gC 24 x4 ?_ ?_
        · refine gS 0 ?_
          refine gR 4 (rg Try.f117 4) ?_
          refine se (mkE [(2, I 1)] [] 25) ?_
          refine pN ?_
          refine pS ?_
          refine gE ?_
          exact pL
        · refine gK ?_
          refine pN ?_
          refine pS ?_
          refine gS 0 ?_
          refine gR 5 (rg Try.f117 5) ?_
          refine se (mkE [(2, I 0)] [] 25) ?_
          refine pN ?_
          refine pS ?_
          refine gE ?_
          exact pL
theorem F117 (m : Nat) (hm : 2 ≤ m) (p0 : S63) : callA Try.prog cfg m 117 [a63 p0] = (T117 p0).map I := by
  obtain ⟨q, rfl⟩ : ∃ q, m = q + 1 := ⟨m - 1, by omega⟩
  exact (callA_body (fn := Try.f117) (c := body_ Try.f117) q _ (by kernel_rfl) (by kernel_rfl) (by kernel_rfl)).trans (B117 _ (fun p0 p1 p2 => F126 q (by omega) p0 p1 p2) p0)

noncomputable def T210 (p0 : S63) (p1 : S63) : Option (S63 × Bool) := (bif (leI (subI .i64 (minI (addI .i64 p0.f0 p0.f2) (addI .i64 p1.f0 p1.f2)) (maxI p0.f0 p1.f0)) 0) then (some ((S63.mk 0 0 0 0), false)) else (bif (leI (subI .i64 (minI (addI .i64 p0.f1 p0.f3) (addI .i64 p1.f1 p1.f3)) (maxI p0.f1 p1.f1)) 0) then (some ((S63.mk 0 0 0 0), false)) else (some ((S63.mk (maxI p0.f0 p1.f0) (maxI p0.f1 p1.f1) (subI .i64 (minI (addI .i64 p0.f0 p0.f2) (addI .i64 p1.f0 p1.f2)) (maxI p0.f0 p1.f0)) (subI .i64 (minI (addI .i64 p0.f1 p0.f3) (addI .i64 p1.f1 p1.f3)) (maxI p0.f1 p1.f1))), true))))
theorem B210 (C : Callee) (p0 : S63) (p1 : S63) : runs Try.prog C (cfg.fn 210) (finFn Try.prog (cfg.fn 210).byval Try.f210) [] (execA Try.prog C (cfg.fn 210) (nr Try.f210 []) (frame0 [a63 p0, a63 p1] 58 false)) = (T210 p0 p1).map (fun r => AV.tup [a63 r.1, B r.2]) := by
  unfold T210
  refine gS 1 ?_
  refine gR 0 (rg Try.f210 0) ?_
  refine se (mkE [(2, .ba 16 0), (3, .ba 24 0), (4, .ba 32 0)] [(16, .box [I p0.f0, I p0.f1, I p0.f2, I p0.f3] false), (24, .box [I p1.f0, I p1.f1, I p1.f2, I p1.f3] false), (32, .box [I 0, I 0, I 0, I 0] false)] 58) ?_
  refine pN ?_
  refine pS ?_
  refine gS 2 ?_
  refine dq 1 (rg Try.f210 1) (mkE [(2, .ba 16 0), (3, .ba 24 0), (4, .ba 32 0), (6, I (maxI p0.f0 p1.f0)), (7, I (maxI p0.f1 p1.f1))] [(16, .box [I p0.f0, I p0.f1, I p0.f2, I p0.f3] false), (24, .box [I p1.f0, I p1.f1, I p1.f2, I p1.f3] false), (32, .box [I 0, I 0, I 0, I 0] false)] 58) ?_
  refine pN ?_
  refine pS ?_
  refine gS 3 ?_
  refine dq 2 (rg Try.f210 2) (mkE [(4, .ba 32 0), (6, I (maxI p0.f0 p1.f0)), (7, I (maxI p0.f1 p1.f1)), (8, I (subI .i64 (minI (addI .i64 p0.f0 p0.f2) (addI .i64 p1.f0 p1.f2)) (maxI p0.f0 p1.f0))), (9, I (subI .i64 (minI (addI .i64 p0.f1 p0.f3) (addI .i64 p1.f1 p1.f3)) (maxI p0.f1 p1.f1)))] [(32, .box [I 0, I 0, I 0, I 0] false)] 58) ?_
  refine pN ?_
  refine pS ?_
  refine gS 5 ?_
  refine gS 0 ?_
  refine gR 3 (rg Try.f210 3) ?_
  refine sg 3 (mkE [(48, B (leI (subI .i64 (minI (addI .i64 p0.f0 p0.f2) (addI .i64 p1.f0 p1.f2)) (maxI p0.f0 p1.f0)) 0)), (47, B (leI (subI .i64 (minI (addI .i64 p0.f0 p0.f2) (addI .i64 p1.f0 p1.f2)) (maxI p0.f0 p1.f0)) 0)), (46, I (subI .i64 (minI (addI .i64 p0.f0 p0.f2) (addI .i64 p1.f0 p1.f2)) (maxI p0.f0 p1.f0))), (4, .ba 32 0), (6, I (maxI p0.f0 p1.f0)), (7, I (maxI p0.f1 p1.f1)), (8, I (subI .i64 (minI (addI .i64 p0.f0 p0.f2) (addI .i64 p1.f0 p1.f2)) (maxI p0.f0 p1.f0))), (9, I (subI .i64 (minI (addI .i64 p0.f1 p0.f3) (addI .i64 p1.f1 p1.f3)) (maxI p0.f1 p1.f1)))] [(32, .box [I 0, I 0, I 0, I 0] false)] 58) ?_
  refine sb 48 (leI (subI .i64 (minI (addI .i64 p0.f0 p0.f2) (addI .i64 p1.f0 p1.f2)) (maxI p0.f0 p1.f0)) 0) ?_ ?_
  · refine se (mkE [(4, .ba 32 0), (6, I (maxI p0.f0 p1.f0)), (7, I (maxI p0.f1 p1.f1)), (8, I (subI .i64 (minI (addI .i64 p0.f0 p0.f2) (addI .i64 p1.f0 p1.f2)) (maxI p0.f0 p1.f0))), (9, I (subI .i64 (minI (addI .i64 p0.f1 p0.f3) (addI .i64 p1.f1 p1.f3)) (maxI p0.f1 p1.f1))), (51, B true)] [(32, .box [I 0, I 0, I 0, I 0] false)] 58) ?_
    refine pN ?_
    refine pS ?_
    refine gT (.tmp 51) ?_
    refine gS 0 ?_
    refine gR 4 (rg Try.f210 4) ?_
    refine se (mkE [(4, .ba 32 0), (5, B false)] [(32, .box [I 0, I 0, I 0, I 0] false)] 58) ?_
    refine pN ?_
    refine pS ?_
    refine gE ?_
    exact pL
  · refine se (mkE [(4, .ba 32 0), (6, I (maxI p0.f0 p1.f0)), (7, I (maxI p0.f1 p1.f1)), (8, I (subI .i64 (minI (addI .i64 p0.f0 p0.f2) (addI .i64 p1.f0 p1.f2)) (maxI p0.f0 p1.f0))), (9, I (subI .i64 (minI (addI .i64 p0.f1 p0.f3) (addI .i64 p1.f1 p1.f3)) (maxI p0.f1 p1.f1))), (51, B (leI (subI .i64 (minI (addI .i64 p0.f1 p0.f3) (addI .i64 p1.f1 p1.f3)) (maxI p0.f1 p1.f1)) 0))] [(32, .box [I 0, I 0, I 0, I 0] false)] 58) ?_
    refine pN ?_
    refine pS ?_
    refine gC 51 (leI (subI .i64 (minI (addI .i64 p0.f1 p0.f3) (addI .i64 p1.f1 p1.f3)) (maxI p0.f1 p1.f1)) 0) ?_ ?_
    · refine gS 0 ?_
      refine gR 4 (rg Try.f210 4) ?_
      refine se (mkE [(4, .ba 32 0), (5, B false)] [(32, .box [I 0, I 0, I 0, I 0] false)] 58) ?_
      refine pN ?_
      refine pS ?_
      refine gE ?_
      exact pL
    · refine gK ?_
      refine pN ?_
      refine pS ?_
      refine gS 0 ?_
      refine gR 5 (rg Try.f210 5) ?_
      refine se (mkE [(4, .ba 32 0), (5, B true)] [(32, .box [I (maxI p0.f0 p1.f0), I (maxI p0.f1 p1.f1), I (subI .i64 (minI (addI .i64 p0.f0 p0.f2) (addI .i64 p1.f0 p1.f2)) (maxI p0.f0 p1.f0)), I (subI .i64 (minI (addI .i64 p0.f1 p0.f3) (addI .i64 p1.f1 p1.f3)) (maxI p0.f1 p1.f1))] false)] 58) ?_
      refine pN ?_
      refine pS ?_
      refine gE ?_
      exact pL
theorem F210 (m : Nat) (hm : 1 ≤ m) (p0 : S63) (p1 : S63) : callA Try.prog cfg m 210 [a63 p0, a63 p1] = (T210 p0 p1).map (fun r => AV.tup [a63 r.1, B r.2]) := by
  obtain ⟨q, rfl⟩ : ∃ q, m = q + 1 := ⟨m - 1, by omega⟩
  exact (callA_body (fn := Try.f210) (c := body_ Try.f210) q _ (by kernel_rfl) (by kernel_rfl) (by kernel_rfl)).trans (B210 _ p0 p1)

noncomputable def L113_2 (p0 : S63) (p1 : S63) (z0 : Int) : Option (Int ⊕ ((Int × Bool) ⊕ Int)) := (bif (ltI z0 2) then ((listAt [p0, p1] z0).bind fun x1 => ((T117 x1).bind fun x2 => (bif (neI x2 0) then (some (.inr (.inr x2))) else (some (.inl (addI .i64 z0 1)))))) else (some (.inr (.inl (z0, (ltI z0 2))))))
theorem L113_2_ok (C : Callee) (h117 : ∀ (p0 : S63), C 117 [a63 p0] = (T117 p0).map I) (p0 : S63) (p1 : S63) (z0 : Int) : runs Try.prog C (cfg.fn 113) (finLoop ((cfg.fn 113).keep 2) ((cfg.fn 113).al 2)) [] (execA Try.prog C (cfg.fn 113) (nr Try.f113 [false, false, true, false, true]) ((fun z0 : Int => (mkE [(2, .ba 16 0), (3, .ba 24 0), (4, .ba 32 0), (14, .agg [I p0.f0, I p0.f1, I p0.f2, I p0.f3, I p1.f0, I p1.f1, I p1.f2, I p1.f3]), (15, I z0)] [(16, .box [I p0.f0, I p0.f1, I p0.f2, I p0.f3] false), (24, .box [I p1.f0, I p1.f1, I p1.f2, I p1.f3] false), (32, .box [I 0, I 0, I 0, I 0] false)] 33)) z0)) = (L113_2 p0 p1 z0).map (Sum.elim (fun z => .inl ((fun z0 : Int => (mkE [(2, .ba 16 0), (3, .ba 24 0), (4, .ba 32 0), (14, .agg [I p0.f0, I p0.f1, I p0.f2, I p0.f3, I p1.f0, I p1.f1, I p1.f2, I p1.f3]), (15, I z0)] [(16, .box [I p0.f0, I p0.f1, I p0.f2, I p0.f3] false), (24, .box [I p1.f0, I p1.f1, I p1.f2, I p1.f3] false), (32, .box [I 0, I 0, I 0, I 0] false)] 33)) z)) (fun x => .inr ((Sum.elim (fun (x : (Int × Bool)) => (.exit 0, (mkE [(2, .ba 16 0), (3, .ba 24 0), (4, .ba 32 0), (14, .agg [I p0.f0, I p0.f1, I p0.f2, I p0.f3, I p1.f0, I p1.f1, I p1.f2, I p1.f3]), (15, I x.1), (16, B x.2)] [(16, .box [I p0.f0, I p0.f1, I p0.f2, I p0.f3] false), (24, .box [I p1.f0, I p1.f1, I p1.f2, I p1.f3] false), (32, .box [I 0, I 0, I 0, I 0] false)] 33))) (fun (x : Int) => (.ret, (mkE [(4, .ba 32 0), (5, B false), (6, I x)] [(32, .box [I 0, I 0, I 0, I 0] false)] 33)))) x))) := by
  unfold L113_2
  refine gS 0 ?_
  refine gR 2 (rg Try.f113 2) ?_
  refine se (mkE [(2, .ba 16 0), (3, .ba 24 0), (4, .ba 32 0), (14, .agg [I p0.f0, I p0.f1, I p0.f2, I p0.f3, I p1.f0, I p1.f1, I p1.f2, I p1.f3]), (15, I z0), (16, B (ltI z0 2))] [(16, .box [I p0.f0, I p0.f1, I p0.f2, I p0.f3] false), (24, .box [I p1.f0, I p1.f1, I p1.f2, I p1.f3] false), (32, .box [I 0, I 0, I 0, I 0] false)] 33) ?_
  refine pN ?_
  refine pS ?_
  refine gS 3 ?_
  refine gC 16 (ltI z0 2) ?_ ?_
  · refine gK ?_
    refine pN ?_
    refine pS ?_
    refine gS 7 ?_
    refine gB 1 ?_
    refine gS 4 ?_
    refine gR 3 (rg Try.f113 3) ?_
    refine vo 17 (arrE 233 64 4 2 true a63 .i64 z0 (.tmp 14) (.tmp 15) [I p0.f0, I p0.f1, I p0.f2, I p0.f3, I p1.f0, I p1.f1, I p1.f2, I p1.f3] [p0, p1]) (fun x1 => ?_)
    refine se (mkE [(2, .ba 16 0), (3, .ba 24 0), (4, .ba 32 0), (8, .ba 64 0), (14, .agg [I p0.f0, I p0.f1, I p0.f2, I p0.f3, I p1.f0, I p1.f1, I p1.f2, I p1.f3]), (15, I z0)] [(16, .box [I p0.f0, I p0.f1, I p0.f2, I p0.f3] false), (24, .box [I p1.f0, I p1.f1, I p1.f2, I p1.f3] false), (32, .box [I 0, I 0, I 0, I 0] false), (64, .box [I x1.f0, I x1.f1, I x1.f2, I x1.f3] false)] 33) ?_
    refine pN ?_
    refine pS ?_
    refine gS 5 ?_
    refine gR 4 (rg Try.f113 4) ?_
    refine sg 1 (mkE [(18, a63 x1), (2, .ba 16 0), (3, .ba 24 0), (4, .ba 32 0), (8, .ba 64 0), (14, .agg [I p0.f0, I p0.f1, I p0.f2, I p0.f3, I p1.f0, I p1.f1, I p1.f2, I p1.f3]), (15, I z0)] [(16, .box [I p0.f0, I p0.f1, I p0.f2, I p0.f3] false), (24, .box [I p1.f0, I p1.f1, I p1.f2, I p1.f3] false), (32, .box [I 0, I 0, I 0, I 0] false), (64, .box [I x1.f0, I x1.f1, I x1.f2, I x1.f3] false)] 33) ?_
    refine co 19 [] (h117 x1) (fun x2 => ?_)
    refine se (mkE [(2, .ba 16 0), (3, .ba 24 0), (4, .ba 32 0), (9, I x2), (14, .agg [I p0.f0, I p0.f1, I p0.f2, I p0.f3, I p1.f0, I p1.f1, I p1.f2, I p1.f3]), (15, I z0)] [(16, .box [I p0.f0, I p0.f1, I p0.f2, I p0.f3] false), (24, .box [I p1.f0, I p1.f1, I p1.f2, I p1.f3] false), (32, .box [I 0, I 0, I 0, I 0] false)] 33) ?_
    refine pN ?_
    refine pS ?_
    refine gS 0 ?_
    refine gR 5 (rg Try.f113 5) ?_
    refine se (mkE [(2, .ba 16 0), (3, .ba 24 0), (4, .ba 32 0), (9, I x2), (14, .agg [I p0.f0, I p0.f1, I p0.f2, I p0.f3, I p1.f0, I p1.f1, I p1.f2, I p1.f3]), (15, I z0), (21, B (neI x2 0))] [(16, .box [I p0.f0, I p0.f1, I p0.f2, I p0.f3] false), (24, .box [I p1.f0, I p1.f1, I p1.f2, I p1.f3] false), (32, .box [I 0, I 0, I 0, I 0] false)] 33) ?_
    refine pN ?_
    refine pS ?_
    refine gC 21 (neI x2 0) ?_ ?_
    · refine gS 0 ?_
      refine gR 6 (rg Try.f113 6) ?_
      refine se (mkE [(4, .ba 32 0), (5, B false), (6, I x2)] [(32, .box [I 0, I 0, I 0, I 0] false)] 33) ?_
      refine pN ?_
      refine pS ?_
      refine gE ?_
      exact pL
    · refine gK ?_
      refine pB ?_
      refine pN ?_
      refine pS ?_
      refine gR 7 (rg Try.f113 7) ?_
      refine se (mkE [(2, .ba 16 0), (3, .ba 24 0), (4, .ba 32 0), (14, .agg [I p0.f0, I p0.f1, I p0.f2, I p0.f3, I p1.f0, I p1.f1, I p1.f2, I p1.f3]), (15, I (addI .i64 z0 1))] [(16, .box [I p0.f0, I p0.f1, I p0.f2, I p0.f3] false), (24, .box [I p1.f0, I p1.f1, I p1.f2, I p1.f3] false), (32, .box [I 0, I 0, I 0, I 0] false)] 33) ?_
      exact pL
  · refine gX 0 ?_
    exact pL
noncomputable def T113 (p0 : S63) (p1 : S63) : Option (S63 × Bool × Int) := ((iter (L113_2 p0 p1) 0).bind fun y3 => (Sum.elim (fun y3a => ((T210 p0 p1).bind fun x4 => (some (x4.1, x4.2, 0)))) (fun y3b => (some ((S63.mk 0 0 0 0), false, y3b))) y3))
theorem B113 (C : Callee) (h117 : ∀ (p0 : S63), C 117 [a63 p0] = (T117 p0).map I) (h210 : ∀ (p0 : S63) (p1 : S63), C 210 [a63 p0, a63 p1] = (T210 p0 p1).map (fun r => AV.tup [a63 r.1, B r.2])) (p0 : S63) (p1 : S63) : runs Try.prog C (cfg.fn 113) (finFn Try.prog (cfg.fn 113).byval Try.f113) [] (execA Try.prog C (cfg.fn 113) (nr Try.f113 []) (frame0 [a63 p0, a63 p1] 33 false)) = (T113 p0 p1).map (fun r => AV.tup [a63 r.1, B r.2.1, I r.2.2]) := by
  unfold T113
  refine gS 1 ?_
  refine gR 0 (rg Try.f113 0) ?_
  refine se (mkE [(2, .ba 16 0), (3, .ba 24 0), (4, .ba 32 0)] [(16, .box [I p0.f0, I p0.f1, I p0.f2, I p0.f3] false), (24, .box [I p1.f0, I p1.f1, I p1.f2, I p1.f3] false), (32, .box [I 0, I 0, I 0, I 0] false)] 33) ?_
  refine pN ?_
  refine pS ?_
  refine gS 8 ?_
  refine gS 2 ?_
  refine gR 1 (rg Try.f113 1) ?_
  refine se (mkE [(2, .ba 16 0), (3, .ba 24 0), (4, .ba 32 0), (14, .agg [I p0.f0, I p0.f1, I p0.f2, I p0.f3, I p1.f0, I p1.f1, I p1.f2, I p1.f3]), (15, I 0)] [(16, .box [I p0.f0, I p0.f1, I p0.f2, I p0.f3] false), (24, .box [I p1.f0, I p1.f1, I p1.f2, I p1.f3] false), (32, .box [I 0, I 0, I 0, I 0] false)] 33) ?_
  refine pN ?_
  refine pS ?_
  refine gB 0 ?_
  refine lo [(2, none), (3, none), (4, none), (14, none), (15, none)] [] (L113_2 p0 p1) (fun z0 : Int => (mkE [(2, .ba 16 0), (3, .ba 24 0), (4, .ba 32 0), (14, .agg [I p0.f0, I p0.f1, I p0.f2, I p0.f3, I p1.f0, I p1.f1, I p1.f2, I p1.f3]), (15, I z0)] [(16, .box [I p0.f0, I p0.f1, I p0.f2, I p0.f3] false), (24, .box [I p1.f0, I p1.f1, I p1.f2, I p1.f3] false), (32, .box [I 0, I 0, I 0, I 0] false)] 33)) (Sum.elim (fun (x : (Int × Bool)) => (.exit 0, (mkE [(2, .ba 16 0), (3, .ba 24 0), (4, .ba 32 0), (14, .agg [I p0.f0, I p0.f1, I p0.f2, I p0.f3, I p1.f0, I p1.f1, I p1.f2, I p1.f3]), (15, I x.1), (16, B x.2)] [(16, .box [I p0.f0, I p0.f1, I p0.f2, I p0.f3] false), (24, .box [I p1.f0, I p1.f1, I p1.f2, I p1.f3] false), (32, .box [I 0, I 0, I 0, I 0] false)] 33))) (fun (x : Int) => (.ret, (mkE [(4, .ba 32 0), (5, B false), (6, I x)] [(32, .box [I 0, I 0, I 0, I 0] false)] 33)))) 0 (fun z => L113_2_ok C h117 p0 p1 z) ?_
  intro y3
  refine ss y3 (Z := (Sum.elim (fun (x : (Int × Bool)) => (.exit 0, (mkE [(2, .ba 16 0), (3, .ba 24 0), (4, .ba 32 0), (14, .agg [I p0.f0, I p0.f1, I p0.f2, I p0.f3, I p1.f0, I p1.f1, I p1.f2, I p1.f3]), (15, I x.1), (16, B x.2)] [(16, .box [I p0.f0, I p0.f1, I p0.f2, I p0.f3] false), (24, .box [I p1.f0, I p1.f1, I p1.f2, I p1.f3] false), (32, .box [I 0, I 0, I 0, I 0] false)] 33))) (fun (x : Int) => (.ret, (mkE [(4, .ba 32 0), (5, B false), (6, I x)] [(32, .box [I 0, I 0, I 0, I 0] false)] 33))))) (fun y3a => ?_) (fun y3b => ?_)
  · refine pH ?_
    refine pN ?_
    refine pS ?_
    refine gS 9 ?_
    refine gR 8 (rg Try.f113 8) ?_
    refine sg 2 (mkE [(27, a63 p1), (26, a63 p0), (2, .ba 16 0), (3, .ba 24 0), (4, .ba 32 0), (14, .agg [I p0.f0, I p0.f1, I p0.f2, I p0.f3, I p1.f0, I p1.f1, I p1.f2, I p1.f3]), (15, I y3a.1), (16, B y3a.2)] [(16, .box [I p0.f0, I p0.f1, I p0.f2, I p0.f3] false), (24, .box [I p1.f0, I p1.f1, I p1.f2, I p1.f3] false), (32, .box [I 0, I 0, I 0, I 0] false)] 33) ?_
    refine co 28 [] (h210 p0 p1) (fun x4 => ?_)
    refine se (mkE [(4, .ba 32 0), (10, .ba 80 0), (11, B x4.2)] [(32, .box [I 0, I 0, I 0, I 0] false), (80, .box [I x4.1.f0, I x4.1.f1, I x4.1.f2, I x4.1.f3] false)] 33) ?_
    refine pN ?_
    refine pS ?_
    refine gS 0 ?_
    refine gR 9 (rg Try.f113 9) ?_
    refine se (mkE [(4, .ba 32 0), (5, B x4.2), (6, I 0)] [(32, .box [I x4.1.f0, I x4.1.f1, I x4.1.f2, I x4.1.f3] false)] 33) ?_
    refine pN ?_
    refine pS ?_
    refine gE ?_
    exact pL
  · exact pL
theorem F113 (m : Nat) (hm : 3 ≤ m) (p0 : S63) (p1 : S63) : callA Try.prog cfg m 113 [a63 p0, a63 p1] = (T113 p0 p1).map (fun r => AV.tup [a63 r.1, B r.2.1, I r.2.2]) := by
  obtain ⟨q, rfl⟩ : ∃ q, m = q + 1 := ⟨m - 1, by omega⟩
  exact (callA_body (fn := Try.f113) (c := body_ Try.f113) q _ (by kernel_rfl) (by kernel_rfl) (by kernel_rfl)).trans (B113 _ (fun p0 => F117 q (by omega) p0) (fun p0 p1 => F210 q (by omega) p0 p1) p0 p1)

noncomputable def L211_4 (p0 : (List S63)) (z0 : Int) : Option (Int ⊕ ((Int × Bool) ⊕ Int)) := (bif (ltI z0 (lenL p0)) then ((listAt p0 z0).bind fun x1 => ((T117 x1).bind fun x2 => (bif (neI x2 0) then (some (.inr (.inr x2))) else (some (.inl (addI .i64 z0 1)))))) else (some (.inr (.inl (z0, (ltI z0 (lenL p0)))))))
theorem L211_4_ok (C : Callee) (h117 : ∀ (p0 : S63), C 117 [a63 p0] = (T117 p0).map I) (p0 : (List S63)) (z0 : Int) : runs Try.prog C (cfg.fn 211) (finLoop ((cfg.fn 211).keep 4) ((cfg.fn 211).al 4)) [] (execA Try.prog C (cfg.fn 211) (nr Try.f211 [false, false, true, false, true, true]) ((fun z0 : Int => (mkE [(9, LL a63 p0), (10, I (lenL p0)), (11, I z0)] [] 21)) z0)) = (L211_4 p0 z0).map (Sum.elim (fun z => .inl ((fun z0 : Int => (mkE [(9, LL a63 p0), (10, I (lenL p0)), (11, I z0)] [] 21)) z)) (fun x => .inr ((Sum.elim (fun (x : (Int × Bool)) => (.exit 0, (mkE [(9, LL a63 p0), (10, I (lenL p0)), (11, I x.1), (12, B x.2)] [] 21))) (fun (x : Int) => (.ret, (mkE [(2, I x)] [] 21)))) x))) := by
  unfold L211_4
  refine gS 0 ?_
  refine gR 4 (rg Try.f211 4) ?_
  refine se (mkE [(9, LL a63 p0), (10, I (lenL p0)), (11, I z0), (12, B (ltI z0 (lenL p0)))] [] 21) ?_
  refine pN ?_
  refine pS ?_
  refine gS 5 ?_
  refine gC 12 (ltI z0 (lenL p0)) ?_ ?_
  · refine gK ?_
    refine pN ?_
    refine pS ?_
    refine gS 9 ?_
    refine gB 1 ?_
    refine gS 6 ?_
    refine gR 5 (rg Try.f211 5) ?_
    refine vo 13 (addrE 65 64 4 a63 .i64 p0 z0) (fun x1 => ?_)
    refine se (mkE [(4, .ba 32 0), (9, LL a63 p0), (10, I (lenL p0)), (11, I z0)] [(32, .box [I x1.f0, I x1.f1, I x1.f2, I x1.f3] false)] 21) ?_
    refine pN ?_
    refine pS ?_
    refine gS 7 ?_
    refine gR 6 (rg Try.f211 6) ?_
    refine sg 1 (mkE [(15, a63 x1), (4, .ba 32 0), (9, LL a63 p0), (10, I (lenL p0)), (11, I z0)] [(32, .box [I x1.f0, I x1.f1, I x1.f2, I x1.f3] false)] 21) ?_
    refine co 16 [] (h117 x1) (fun x2 => ?_)
    refine se (mkE [(5, I x2), (9, LL a63 p0), (10, I (lenL p0)), (11, I z0)] [] 21) ?_
    refine pN ?_
    refine pS ?_
    refine gS 0 ?_
    refine gR 7 (rg Try.f211 7) ?_
    refine se (mkE [(5, I x2), (9, LL a63 p0), (10, I (lenL p0)), (11, I z0), (18, B (neI x2 0))] [] 21) ?_
    refine pN ?_
    refine pS ?_
    refine gC 18 (neI x2 0) ?_ ?_
    · refine gS 0 ?_
      refine gR 8 (rg Try.f211 8) ?_
      refine se (mkE [(2, I x2)] [] 21) ?_
      refine pN ?_
      refine pS ?_
      refine gE ?_
      exact pL
    · refine gK ?_
      refine pB ?_
      refine pN ?_
      refine pS ?_
      refine gR 9 (rg Try.f211 9) ?_
      refine se (mkE [(9, LL a63 p0), (10, I (lenL p0)), (11, I (addI .i64 z0 1))] [] 21) ?_
      exact pL
  · refine gX 0 ?_
    exact pL
noncomputable def T211 (p0 : (List S63)) : Option Int := (bif (ltI 2000 (lenL p0)) then (some 2) else ((iter (L211_4 p0) 0).bind fun y3 => (Sum.elim (fun y3a => (some 0)) (fun y3b => (some y3b)) y3)))
theorem B211 (C : Callee) (h117 : ∀ (p0 : S63), C 117 [a63 p0] = (T117 p0).map I) (p0 : (List S63)) : runs Try.prog C (cfg.fn 211) (finFn Try.prog (cfg.fn 211).byval Try.f211) [] (execA Try.prog C (cfg.fn 211) (nr Try.f211 []) (frame0 [LL a63 p0] 21 false)) = (T211 p0).map I := by
  unfold T211
  refine gS 1 ?_
  refine gR 0 (rg Try.f211 0) ?_
  refine se (mkE [(0, LL a63 p0)] [] 21) ?_
  refine pN ?_
  refine pS ?_
  refine gS 3 ?_
  refine gS 0 ?_
  refine gR 1 (rg Try.f211 1) ?_
  refine sg 1 (mkE [(6, LL a63 p0), (0, LL a63 p0)] [] 21) ?_
  refine eo 7 (I (lenL p0)) (lenE 65 a63 p0) ?_
  refine se (mkE [(0, LL a63 p0), (8, B (ltI 2000 (lenL p0)))] [] 21) ?_
  refine pN ?_
  refine pS ?_
  refine gC 8 (ltI 2000 (lenL p0)) ?_ ?_
  · refine gS 0 ?_
    refine gR 2 (rg Try.f211 2) ?_
    refine se (mkE [(2, I 2)] [] 21) ?_
    refine pN ?_
    refine pS ?_
    refine gE ?_
    exact pL
  · refine gK ?_
    refine pN ?_
    refine pS ?_
    refine gS 10 ?_
    refine gS 4 ?_
    refine gR 3 (rg Try.f211 3) ?_
    refine sg 1 (mkE [(9, LL a63 p0), (0, LL a63 p0), (8, B (ltI 2000 (lenL p0)))] [] 21) ?_
    refine eo 10 (I (lenL p0)) (lenE 65 a63 p0) ?_
    refine se (mkE [(9, LL a63 p0), (10, I (lenL p0)), (11, I 0)] [] 21) ?_
    refine pN ?_
    refine pS ?_
    refine gB 0 ?_
    refine lo [(9, none), (10, none), (11, none)] [] (L211_4 p0) (fun z0 : Int => (mkE [(9, LL a63 p0), (10, I (lenL p0)), (11, I z0)] [] 21)) (Sum.elim (fun (x : (Int × Bool)) => (.exit 0, (mkE [(9, LL a63 p0), (10, I (lenL p0)), (11, I x.1), (12, B x.2)] [] 21))) (fun (x : Int) => (.ret, (mkE [(2, I x)] [] 21)))) 0 (fun z => L211_4_ok C h117 p0 z) ?_
    intro y3
    refine ss y3 (Z := (Sum.elim (fun (x : (Int × Bool)) => (.exit 0, (mkE [(9, LL a63 p0), (10, I (lenL p0)), (11, I x.1), (12, B x.2)] [] 21))) (fun (x : Int) => (.ret, (mkE [(2, I x)] [] 21))))) (fun y3a => ?_) (fun y3b => ?_)
    · refine pH ?_
      refine pN ?_
      refine pS ?_
      refine gS 0 ?_
      refine gR 10 (rg Try.f211 10) ?_
      refine se (mkE [(2, I 0)] [] 21) ?_
      refine pN ?_
      refine pS ?_
      refine gE ?_
      exact pL
    · exact pL
theorem F211 (m : Nat) (hm : 3 ≤ m) (p0 : (List S63)) : callA Try.prog cfg m 211 [LL a63 p0] = (T211 p0).map I := by
  obtain ⟨q, rfl⟩ : ∃ q, m = q + 1 := ⟨m - 1, by omega⟩
  exact (callA_body (fn := Try.f211) (c := body_ Try.f211) q _ (by kernel_rfl) (by kernel_rfl) (by kernel_rfl)).trans (B211 _ (fun p0 => F117 q (by omega) p0) p0)

theorem F263 (m : Nat) (hm : 1 ≤ m) (p1 : Int) : callA Try.prog cfg m 263 [.nils, I p1] = (growO S63 32 p1).map (fun l => AV.fr 64 4 (List.map a63 l)) := by
  obtain ⟨q, rfl⟩ : ∃ q, m = q + 1 := ⟨m - 1, by omega⟩
  exact (callA_leaf (L := (leafGrow Try.prog 64 4 32)) _ _ (by kernel_rfl)).trans (grow_leaf 64 4 32 a63 _ p1 (by kernel_rfl))

noncomputable def L218_3 (p0 : (List (List S63))) (z0 : (Int × Int)) : Option ((Int × Int) ⊕ (Int × Int × Bool)) := (bif (ltI z0.2 (lenL p0)) then ((listAt p0 z0.2).bind fun x1 => (bif (ltI (addI .i64 z0.1 (lenL x1)) 0) then none else (some (.inl ((addI .i64 z0.1 (lenL x1)), (addI .i64 z0.2 1)))))) else (some (.inr (z0.1, z0.2, (ltI z0.2 (lenL p0))))))
theorem L218_3_ok (C : Callee) (p0 : (List (List S63))) (z0 : (Int × Int)) : runs Try.prog C (cfg.fn 218) (finLoop ((cfg.fn 218).keep 3) ((cfg.fn 218).al 3)) [] (execA Try.prog C (cfg.fn 218) (nr Try.f218 [false, false, true, false, true, true]) ((fun z0 : (Int × Int) => (mkE [(0, LL (LL a63) p0), (3, I z0.1), (9, LL (LL a63) p0), (10, I (lenL p0)), (11, I z0.2)] [] 36)) z0)) = (L218_3 p0 z0).map (Sum.elim (fun z => .inl ((fun z0 : (Int × Int) => (mkE [(0, LL (LL a63) p0), (3, I z0.1), (9, LL (LL a63) p0), (10, I (lenL p0)), (11, I z0.2)] [] 36)) z)) (fun x => .inr ((fun (x : (Int × Int × Bool)) => (.exit 0, (mkE [(0, LL (LL a63) p0), (3, I x.1), (9, LL (LL a63) p0), (10, I (lenL p0)), (11, I x.2.1), (12, B x.2.2)] [] 36))) x))) := by
  unfold L218_3
  refine gS 0 ?_
  refine gR 3 (rg Try.f218 3) ?_
  refine se (mkE [(0, LL (LL a63) p0), (3, I z0.1), (9, LL (LL a63) p0), (10, I (lenL p0)), (11, I z0.2), (12, B (ltI z0.2 (lenL p0)))] [] 36) ?_
  refine pN ?_
  refine pS ?_
  refine gS 4 ?_
  refine gC 12 (ltI z0.2 (lenL p0)) ?_ ?_
  · refine gK ?_
    refine pN ?_
    refine pS ?_
    refine gS 8 ?_
    refine gB 1 ?_
    refine gS 5 ?_
    refine gR 4 (rg Try.f218 4) ?_
    refine vo 13 (addrE 274 65 1 (LL a63) .i64 p0 z0.2) (fun x1 => ?_)
    refine se (mkE [(0, LL (LL a63) p0), (3, I z0.1), (5, LL a63 x1), (9, LL (LL a63) p0), (10, I (lenL p0)), (11, I z0.2)] [] 36) ?_
    refine pN ?_
    refine pS ?_
    refine gS 6 ?_
    refine gR 5 (rg Try.f218 5) ?_
    refine sg 2 (mkE [(16, LL a63 x1), (15, I z0.1), (0, LL (LL a63) p0), (3, I z0.1), (5, LL a63 x1), (9, LL (LL a63) p0), (10, I (lenL p0)), (11, I z0.2)] [] 36) ?_
    refine eo 17 (I (lenL x1)) (lenE 65 a63 x1) ?_
    refine se (mkE [(0, LL (LL a63) p0), (3, I (addI .i64 z0.1 (lenL x1))), (9, LL (LL a63) p0), (10, I (lenL p0)), (11, I z0.2)] [] 36) ?_
    refine pN ?_
    refine pS ?_
    refine gS 0 ?_
    refine gR 6 (rg Try.f218 6) ?_
    refine se (mkE [(0, LL (LL a63) p0), (3, I (addI .i64 z0.1 (lenL x1))), (9, LL (LL a63) p0), (10, I (lenL p0)), (11, I z0.2), (20, B (ltI (addI .i64 z0.1 (lenL x1)) 0))] [] 36) ?_
    refine pN ?_
    refine pS ?_
    refine gC 20 (ltI (addI .i64 z0.1 (lenL x1)) 0) ?_ ?_
    · refine gR 7 (rg Try.f218 7) ?_
      exact nO
    · refine gK ?_
      refine pB ?_
      refine pN ?_
      refine pS ?_
      refine gR 8 (rg Try.f218 8) ?_
      refine se (mkE [(0, LL (LL a63) p0), (3, I (addI .i64 z0.1 (lenL x1))), (9, LL (LL a63) p0), (10, I (lenL p0)), (11, I (addI .i64 z0.2 1))] [] 36) ?_
      exact pL
  · refine gX 0 ?_
    exact pL
noncomputable def L218_11 (p0 : (List (List S63))) (z1 : ((List S63) × Int)) : Option (((List S63) × Int) ⊕ (Int × Bool × (List S63))) := (bif (ltI z1.2 (lenL p0)) then ((listAt p0 z1.2).bind fun x4 => ((appO 32 z1.1 x4).bind fun x5 => (some (.inl (x5, (addI .i64 z1.2 1)))))) else (some (.inr (z1.2, (ltI z1.2 (lenL p0)), z1.1))))
theorem L218_11_ok (C : Callee) (p0 : (List (List S63))) (z1 : ((List S63) × Int)) : runs Try.prog C (cfg.fn 218) (finLoop ((cfg.fn 218).keep 11) ((cfg.fn 218).al 11)) [] (execA Try.prog C (cfg.fn 218) (nr Try.f218 [false, false, true, false, true, true, true, true]) ((fun z1 : ((List S63) × Int) => (mkE [(6, .own 48 0), (25, LL (LL a63) p0), (26, I (lenL p0)), (27, I z1.2)] [(48, RR 64 4 a63 z1.1 0 false)] 36)) z1)) = (L218_11 p0 z1).map (Sum.elim (fun z => .inl ((fun z1 : ((List S63) × Int) => (mkE [(6, .own 48 0), (25, LL (LL a63) p0), (26, I (lenL p0)), (27, I z1.2)] [(48, RR 64 4 a63 z1.1 0 false)] 36)) z)) (fun x => .inr ((fun (x : (Int × Bool × (List S63))) => (.exit 2, (mkE [(6, .own 48 0), (25, LL (LL a63) p0), (26, I (lenL p0)), (27, I x.1), (28, B x.2.1)] [(48, RR 64 4 a63 x.2.2 0 false)] 36))) x))) := by
  unfold L218_11
  refine gS 0 ?_
  refine gR 11 (rg Try.f218 11) ?_
  refine se (mkE [(6, .own 48 0), (25, LL (LL a63) p0), (26, I (lenL p0)), (27, I z1.2), (28, B (ltI z1.2 (lenL p0)))] [(48, RR 64 4 a63 z1.1 0 false)] 36) ?_
  refine pN ?_
  refine pS ?_
  refine gS 12 ?_
  refine gC 28 (ltI z1.2 (lenL p0)) ?_ ?_
  · refine gK ?_
    refine pN ?_
    refine pS ?_
    refine gS 14 ?_
    refine gB 3 ?_
    refine gS 13 ?_
    refine gR 12 (rg Try.f218 12) ?_
    refine vo 29 (addrE 274 65 1 (LL a63) .i64 p0 z1.2) (fun x4 => ?_)
    refine se (mkE [(6, .own 48 0), (8, LL a63 x4), (25, LL (LL a63) p0), (26, I (lenL p0)), (27, I z1.2)] [(48, RR 64 4 a63 z1.1 0 false)] 36) ?_
    refine pN ?_
    refine pS ?_
    refine gR 13 (rg Try.f218 13) ?_
    refine sg 2 (mkE [(32, LL a63 x4), (31, .own 48 0), (6, .own 48 0), (8, LL a63 x4), (25, LL (LL a63) p0), (26, I (lenL p0)), (27, I z1.2)] [(48, RR 64 4 a63 z1.1 0 false)] 36) ?_
    refine mo (some 33) (apO 65 64 4 32 48 a63 0 [] (y := LL a63 x4) (l2 := x4)) (fun x5 => ?_)
    refine se (mkE [(6, .own 48 1), (25, LL (LL a63) p0), (26, I (lenL p0)), (27, I z1.2)] [(48, RR 64 4 a63 x5 1 false)] 36) ?_
    refine pB ?_
    refine pN ?_
    refine pS ?_
    refine gR 14 (rg Try.f218 14) ?_
    refine se (mkE [(6, .own 48 1), (25, LL (LL a63) p0), (26, I (lenL p0)), (27, I (addI .i64 z1.2 1))] [(48, RR 64 4 a63 x5 1 false)] 36) ?_
    exact pL
  · refine gX 2 ?_
    exact pL
noncomputable def T218 (p0 : (List (List S63))) : Option (List S63) := ((iter (L218_3 p0) (0, 0)).bind fun y2 => ((growO S63 32 y2.1).bind fun x3 => ((iter (L218_11 p0) (x3, 0)).bind fun y6 => (some y6.2.2))))
theorem B218 (C : Callee) (h263 : ∀ (p1 : Int), C 263 [.nils, I p1] = (growO S63 32 p1).map (fun l => AV.fr 64 4 (List.map a63 l))) (p0 : (List (List S63))) : runs Try.prog C (cfg.fn 218) (finFn Try.prog (cfg.fn 218).byval Try.f218) [] (execA Try.prog C (cfg.fn 218) (nr Try.f218 []) (frame0 [LL (LL a63) p0] 36 false)) = (T218 p0).map (fun l => AV.fr 64 4 (List.map a63 l)) := by
  unfold T218
  refine gS 1 ?_
  refine gR 0 (rg Try.f218 0) ?_
  refine se (mkE [(0, LL (LL a63) p0)] [] 36) ?_
  refine pN ?_
  refine pS ?_
  refine gS 2 ?_
  refine gR 1 (rg Try.f218 1) ?_
  refine se (mkE [(0, LL (LL a63) p0), (3, I 0)] [] 36) ?_
  refine pN ?_
  refine pS ?_
  refine gS 9 ?_
  refine gS 3 ?_
  refine gR 2 (rg Try.f218 2) ?_
  refine sg 1 (mkE [(9, LL (LL a63) p0), (0, LL (LL a63) p0), (3, I 0)] [] 36) ?_
  refine eo 10 (I (lenL p0)) (lenE 274 (LL a63) p0) ?_
  refine se (mkE [(0, LL (LL a63) p0), (3, I 0), (9, LL (LL a63) p0), (10, I (lenL p0)), (11, I 0)] [] 36) ?_
  refine pN ?_
  refine pS ?_
  refine gB 0 ?_
  refine lo [(0, none), (3, none), (9, none), (10, none), (11, none)] [] (L218_3 p0) (fun z0 : (Int × Int) => (mkE [(0, LL (LL a63) p0), (3, I z0.1), (9, LL (LL a63) p0), (10, I (lenL p0)), (11, I z0.2)] [] 36)) (fun (x : (Int × Int × Bool)) => (.exit 0, (mkE [(0, LL (LL a63) p0), (3, I x.1), (9, LL (LL a63) p0), (10, I (lenL p0)), (11, I x.2.1), (12, B x.2.2)] [] 36))) (0, 0) (fun z => L218_3_ok C p0 z) ?_
  intro y2
  refine pH ?_
  refine pN ?_
  refine pS ?_
  refine gS 10 ?_
  refine gR 9 (rg Try.f218 9) ?_
  refine sg 1 (mkE [(23, I y2.1), (0, LL (LL a63) p0), (3, I y2.1), (9, LL (LL a63) p0), (10, I (lenL p0)), (11, I y2.2.1), (12, B y2.2.2)] [] 36) ?_
  refine co 24 [] (h263 y2.1) (fun x3 => ?_)
  refine se (mkE [(0, LL (LL a63) p0), (6, .own 192 0)] [(192, RR 64 4 a63 x3 0 false)] 36) ?_
  refine pN ?_
  refine pS ?_
  refine gS 15 ?_
  refine gS 11 ?_
  refine gR 10 (rg Try.f218 10) ?_
  refine sg 1 (mkE [(25, LL (LL a63) p0), (0, LL (LL a63) p0), (6, .own 192 0)] [(192, RR 64 4 a63 x3 0 false)] 36) ?_
  refine eo 26 (I (lenL p0)) (lenE 274 (LL a63) p0) ?_
  refine se (mkE [(6, .own 192 0), (25, LL (LL a63) p0), (26, I (lenL p0)), (27, I 0)] [(192, RR 64 4 a63 x3 0 false)] 36) ?_
  refine pN ?_
  refine pS ?_
  refine gB 2 ?_
  refine lo [(6, some (64, 4)), (25, none), (26, none), (27, none)] [] (L218_11 p0) (fun z1 : ((List S63) × Int) => (mkE [(6, .own 48 0), (25, LL (LL a63) p0), (26, I (lenL p0)), (27, I z1.2)] [(48, RR 64 4 a63 z1.1 0 false)] 36)) (fun (x : (Int × Bool × (List S63))) => (.exit 2, (mkE [(6, .own 48 0), (25, LL (LL a63) p0), (26, I (lenL p0)), (27, I x.1), (28, B x.2.1)] [(48, RR 64 4 a63 x.2.2 0 false)] 36))) (x3, 0) (fun z => L218_11_ok C p0 z) ?_
  intro y6
  refine pH ?_
  refine pN ?_
  refine pS ?_
  refine gS 0 ?_
  refine gR 15 (rg Try.f218 15) ?_
  refine se (mkE [(2, .own 48 0)] [(48, RR 64 4 a63 y6.2.2 0 false)] 36) ?_
  refine pN ?_
  refine pS ?_
  refine gE ?_
  exact pL
theorem F218 (m : Nat) (hm : 2 ≤ m) (p0 : (List (List S63))) : callA Try.prog cfg m 218 [LL (LL a63) p0] = (T218 p0).map (fun l => AV.fr 64 4 (List.map a63 l)) := by
  obtain ⟨q, rfl⟩ : ∃ q, m = q + 1 := ⟨m - 1, by omega⟩
  exact (callA_body (fn := Try.f218) (c := body_ Try.f218) q _ (by kernel_rfl) (by kernel_rfl) (by kernel_rfl)).trans (B218 _ (fun p1 => F263 q (by omega) p1) p0)

theorem F250 (m : Nat) (hm : 1 ≤ m) (p0 : (List Int)) : callA Try.prog cfg m 250 [.fr 3 1 (List.map I p0)] = (sortIO p0).map (fun (r : (List Int)) => AV.inp (.tup []) (.fr 3 1 (List.map I r))) := by
  obtain ⟨q, rfl⟩ : ∃ q, m = q + 1 := ⟨m - 1, by omega⟩
  exact (callA_leaf (L := (leafSortI 3)) _ _ (by kernel_rfl)).trans (sortI_leaf 3 _ p0)

theorem F251 (m : Nat) (hm : 1 ≤ m) (p0 : (List Int)) : callA Try.prog cfg m 251 [.fr 3 1 (List.map I p0)] = (compIO p0).map (fun l => AV.fr 3 1 (List.map I l)) := by
  obtain ⟨q, rfl⟩ : ∃ q, m = q + 1 := ⟨m - 1, by omega⟩
  exact (callA_leaf (L := (leafCompI 3)) _ _ (by kernel_rfl)).trans (compI_leaf 3 _ p0)

noncomputable def T289 (p0 : S266) (p1 : S266) : Option Int := (some (subI .i64 p0.f0 p1.f0))
theorem B289 (C : Callee) (p0 : S266) (p1 : S266) : runs Try.prog C (cfg.fn 289) (finFn Try.prog (cfg.fn 289).byval Try.f289) [] (execA Try.prog C (cfg.fn 289) (nr Try.f289 []) (frame0 [a266 p0, a266 p1] 10 false)) = (T289 p0 p1).map I := by
  unfold T289
  refine gS 1 ?_
  refine gR 0 (rg Try.f289 0) ?_
  refine se (mkE [(2, .ba 16 0), (3, .ba 24 0)] [(16, .box [I p0.f0, I p0.f1] false), (24, .box [I p1.f0, I p1.f1] false)] 10) ?_
  refine pN ?_
  refine pS ?_
  refine gS 0 ?_
  refine gR 1 (rg Try.f289 1) ?_
  refine se (mkE [(4, I (subI .i64 p0.f0 p1.f0))] [] 10) ?_
  refine pN ?_
  refine pS ?_
  refine gE ?_
  exact pL
theorem F289 (m : Nat) (hm : 1 ≤ m) (p0 : S266) (p1 : S266) : callA Try.prog cfg m 289 [a266 p0, a266 p1] = (T289 p0 p1).map I := by
  obtain ⟨q, rfl⟩ : ∃ q, m = q + 1 := ⟨m - 1, by omega⟩
  exact (callA_body (fn := Try.f289) (c := body_ Try.f289) q _ (by kernel_rfl) (by kernel_rfl) (by kernel_rfl)).trans (B289 _ p0 p1)

theorem F288 (m : Nat) (hm : 2 ≤ m) (p0 : (List S266)) : callA Try.prog cfg m 288 [.fr 267 2 (List.map a266 p0), .fn 289 []] = (sortO (fun x y => T289 x y) p0).map (fun (r : (List S266)) => AV.inp (.tup []) (.fr 267 2 (List.map a266 r))) := by
  obtain ⟨q, rfl⟩ : ∃ q, m = q + 1 := ⟨m - 1, by omega⟩
  exact (callA_leaf (L := (leafSortF Try.prog 267 2)) _ _ (by kernel_rfl)).trans (sortF_leaf 267 2 289 [] a266 (fun x y => T289 x y) _ p0 (fun x y => F289 q (by omega) x y) (fun _ => by kernel_rfl) (by kernel_rfl))

noncomputable def L253_3 (p0 : (List S63)) (p1 : Int) (z0 : ((List S266) × Int)) : Option (((List S266) × Int) ⊕ (Int × Bool × (List S266))) := (bif (ltI z0.2 (lenL p0)) then ((listAt p0 z0.2).bind fun x1 => (bif (leI x1.f1 p1) then (bif (ltI p1 (addI .i64 x1.f1 x1.f3)) then ((appO 16 z0.1 ([(S266.mk x1.f0 (addI .i64 x1.f0 x1.f2))] : List S266)).bind fun x2 => (some (.inl (x2, (addI .i64 z0.2 1))))) else (some (.inl (z0.1, (addI .i64 z0.2 1))))) else (some (.inl (z0.1, (addI .i64 z0.2 1)))))) else (some (.inr (z0.2, (ltI z0.2 (lenL p0)), z0.1))))
theorem L253_3_ok (C : Callee) (p0 : (List S63)) (p1 : Int) (z0 : ((List S266) × Int)) : runs Try.prog C (cfg.fn 253) (finLoop ((cfg.fn 253).keep 3) ((cfg.fn 253).al 3)) [] (execA Try.prog C (cfg.fn 253) (nr Try.f253 [false, false, true, false, true, true]) ((fun z0 : ((List S266) × Int) => (mkE [(1, I p1), (5, .own 40 0), (12, LL a63 p0), (13, I (lenL p0)), (14, I z0.2)] [(40, RR 267 2 a266 z0.1 0 false)] 84)) z0)) = (L253_3 p0 p1 z0).map (Sum.elim (fun z => .inl ((fun z0 : ((List S266) × Int) => (mkE [(1, I p1), (5, .own 40 0), (12, LL a63 p0), (13, I (lenL p0)), (14, I z0.2)] [(40, RR 267 2 a266 z0.1 0 false)] 84)) z)) (fun x => .inr ((fun (x : (Int × Bool × (List S266))) => (.exit 0, (mkE [(1, I p1), (5, .own 40 0), (12, LL a63 p0), (13, I (lenL p0)), (14, I x.1), (15, B x.2.1)] [(40, RR 267 2 a266 x.2.2 0 false)] 84))) x))) := by
  unfold L253_3
  refine gS 0 ?_
  refine gR 3 (rg Try.f253 3) ?_
  refine se (mkE [(1, I p1), (5, .own 40 0), (12, LL a63 p0), (13, I (lenL p0)), (14, I z0.2), (15, B (ltI z0.2 (lenL p0)))] [(40, RR 267 2 a266 z0.1 0 false)] 84) ?_
  refine pN ?_
  refine pS ?_
  refine gS 4 ?_
  refine gC 15 (ltI z0.2 (lenL p0)) ?_ ?_
  · refine gK ?_
    refine pN ?_
    refine pS ?_
    refine gS 7 ?_
    refine gB 1 ?_
    refine gS 5 ?_
    refine gR 4 (rg Try.f253 4) ?_
    refine vo 16 (addrE 65 64 4 a63 .i64 p0 z0.2) (fun x1 => ?_)
    refine se (mkE [(1, I p1), (5, .own 40 0), (7, .ba 56 0), (12, LL a63 p0), (13, I (lenL p0)), (14, I z0.2)] [(40, RR 267 2 a266 z0.1 0 false), (56, .box [I x1.f0, I x1.f1, I x1.f2, I x1.f3] false)] 84) ?_
    refine pN ?_
    refine pS ?_
    refine gS 0 ?_
    refine gR 5 (rg Try.f253 5) ?_
    refine sg 5 (mkE [(22, B (leI x1.f1 p1)), (21, B (leI x1.f1 p1)), (20, I p1), (19, I x1.f1), (18, .ba 56 1), (1, I p1), (5, .own 40 0), (7, .ba 56 0), (12, LL a63 p0), (13, I (lenL p0)), (14, I z0.2)] [(40, RR 267 2 a266 z0.1 0 false), (56, .box [I x1.f0, I x1.f1, I x1.f2, I x1.f3] false)] 84) ?_
    refine sb 22 (leI x1.f1 p1) ?_ ?_
    · refine se (mkE [(1, I p1), (5, .own 40 0), (7, .ba 56 0), (12, LL a63 p0), (13, I (lenL p0)), (14, I z0.2), (30, B (ltI p1 (addI .i64 x1.f1 x1.f3)))] [(40, RR 267 2 a266 z0.1 0 false), (56, .box [I x1.f0, I x1.f1, I x1.f2, I x1.f3] false)] 84) ?_
      refine pN ?_
      refine pS ?_
      refine gC 30 (ltI p1 (addI .i64 x1.f1 x1.f3)) ?_ ?_
      · refine gR 6 (rg Try.f253 6) ?_
        refine sg 10 (mkE [(40, .own 320 0), (39, .agg [I x1.f0, I (addI .i64 x1.f0 x1.f2)]), (38, I (addI .i64 x1.f0 x1.f2)), (37, I x1.f2), (36, .ba 56 2), (35, I x1.f0), (34, .ba 56 0), (33, I x1.f0), (32, .ba 56 0), (31, .own 40 0), (1, I p1), (5, .own 40 0), (7, .ba 56 0), (12, LL a63 p0), (13, I (lenL p0)), (14, I z0.2), (30, B (ltI p1 (addI .i64 x1.f1 x1.f3)))] [(320, RR 267 2 a266 ([(S266.mk x1.f0 (addI .i64 x1.f0 x1.f2))] : List S266) 0 false), (40, RR 267 2 a266 z0.1 0 false), (56, .box [I x1.f0, I x1.f1, I x1.f2, I x1.f3] false)] 84) ?_
        refine mo (some 41) (apO 262 267 2 16 40 a266 0 [320] (y := .own 320 0) (l2 := ([(S266.mk x1.f0 (addI .i64 x1.f0 x1.f2))] : List S266))) (fun x2 => ?_)
        refine se (mkE [(1, I p1), (5, .own 40 1), (12, LL a63 p0), (13, I (lenL p0)), (14, I z0.2)] [(40, RR 267 2 a266 x2 1 false)] 84) ?_
        refine pB ?_
        refine pN ?_
        refine pS ?_
        refine gR 7 (rg Try.f253 7) ?_
        refine se (mkE [(1, I p1), (5, .own 40 1), (12, LL a63 p0), (13, I (lenL p0)), (14, I (addI .i64 z0.2 1))] [(40, RR 267 2 a266 x2 1 false)] 84) ?_
        exact pL
      · refine gK ?_
        refine pB ?_
        refine pN ?_
        refine pS ?_
        refine gR 7 (rg Try.f253 7) ?_
        refine se (mkE [(1, I p1), (5, .own 40 0), (12, LL a63 p0), (13, I (lenL p0)), (14, I (addI .i64 z0.2 1))] [(40, RR 267 2 a266 z0.1 0 false)] 84) ?_
        exact pL
    · refine se (mkE [(1, I p1), (5, .own 40 0), (7, .ba 56 0), (12, LL a63 p0), (13, I (lenL p0)), (14, I z0.2), (30, B false)] [(40, RR 267 2 a266 z0.1 0 false), (56, .box [I x1.f0, I x1.f1, I x1.f2, I x1.f3] false)] 84) ?_
      refine pN ?_
      refine pS ?_
      refine gF (.tmp 30) ?_
      refine gK ?_
      refine pB ?_
      refine pN ?_
      refine pS ?_
      refine gR 7 (rg Try.f253 7) ?_
      refine se (mkE [(1, I p1), (5, .own 40 0), (12, LL a63 p0), (13, I (lenL p0)), (14, I (addI .i64 z0.2 1))] [(40, RR 267 2 a266 z0.1 0 false)] 84) ?_
      exact pL
  · refine gX 0 ?_
    exact pL
noncomputable def L253_11 (x4 : (List S266)) (z1 : ((List S266) × (List S266) × Int)) : Option (((List S266) × (List S266) × Int) ⊕ (Int × Bool × (List S266) × (List S266))) := (bif (ltI z1.2.2 (lenL x4)) then ((idxO (List.length z1.2.1) z1.2.2).bind fun x5 => ((getN z1.2.1 x5).bind fun x6 => (bif (leI 0 (subI .i64 (lenL z1.1) 1)) then ((idxO (List.length z1.1) (subI .i64 (lenL z1.1) 1)).bind fun x7 => ((getN z1.1 x7).bind fun x8 => (bif (leI x6.f0 x8.f1) then ((idxO (List.length z1.1) (subI .i64 (lenL z1.1) 1)).bind fun x9 => ((getN z1.1 x9).bind fun x10 => ((idxO (List.length z1.1) (subI .i64 (lenL z1.1) 1)).bind fun x11 => ((getN z1.1 x11).bind fun x12 => (some (.inl ((List.set z1.1 x11 (S266.mk x12.f0 (maxI x10.f1 x6.f1))), z1.2.1, (addI .i64 z1.2.2 1)))))))) else ((appO 16 z1.1 ([x6] : List S266)).bind fun x13 => (some (.inl (x13, z1.2.1, (addI .i64 z1.2.2 1)))))))) else ((appO 16 z1.1 ([x6] : List S266)).bind fun x14 => (some (.inl (x14, z1.2.1, (addI .i64 z1.2.2 1)))))))) else (some (.inr (z1.2.2, (ltI z1.2.2 (lenL x4)), z1.1, z1.2.1))))
theorem L253_11_ok (C : Callee) (x4 : (List S266)) (z1 : ((List S266) × (List S266) × Int)) : runs Try.prog C (cfg.fn 253) (finLoop ((cfg.fn 253).keep 11) ((cfg.fn 253).al 11)) [] (execA Try.prog C (cfg.fn 253) (nr Try.f253 [false, false, true, false, true, true, true, true, true]) ((fun z1 : ((List S266) × (List S266) × Int) => (mkE [(8, .own 64 0), (45, .own 360 0), (46, I (lenL x4)), (47, I z1.2.2)] [(64, RR 267 2 a266 z1.1 0 false), (360, RR 267 2 a266 z1.2.1 0 false)] 84)) z1)) = (L253_11 x4 z1).map (Sum.elim (fun z => .inl ((fun z1 : ((List S266) × (List S266) × Int) => (mkE [(8, .own 64 0), (45, .own 360 0), (46, I (lenL x4)), (47, I z1.2.2)] [(64, RR 267 2 a266 z1.1 0 false), (360, RR 267 2 a266 z1.2.1 0 false)] 84)) z)) (fun x => .inr ((fun (x : (Int × Bool × (List S266) × (List S266))) => (.exit 2, (mkE [(8, .own 64 0), (45, .own 360 0), (46, I (lenL x4)), (47, I x.1), (48, B x.2.1)] [(64, RR 267 2 a266 x.2.2.1 0 false), (360, RR 267 2 a266 x.2.2.2 0 false)] 84))) x))) := by
  unfold L253_11
  refine gS 0 ?_
  refine gR 11 (rg Try.f253 11) ?_
  refine se (mkE [(8, .own 64 0), (45, .own 360 0), (46, I (lenL x4)), (47, I z1.2.2), (48, B (ltI z1.2.2 (lenL x4)))] [(64, RR 267 2 a266 z1.1 0 false), (360, RR 267 2 a266 z1.2.1 0 false)] 84) ?_
  refine pN ?_
  refine pS ?_
  refine gS 12 ?_
  refine gC 48 (ltI z1.2.2 (lenL x4)) ?_ ?_
  · refine gK ?_
    refine pN ?_
    refine pS ?_
    refine gS 17 ?_
    refine gB 3 ?_
    refine gS 13 ?_
    refine gR 12 (rg Try.f253 12) ?_
    refine vo 49 (addrOE 262 267 2 360 0 false a266 .i64 z1.2.1 z1.2.2) (fun x5 => ?_)
    refine vo 50 (loadOE 267 360 0 x5 0 267 2 2 true false a266 (fun q : S266 => a266 q) z1.2.1) (fun x6 => ?_)
    refine se (mkE [(8, .own 64 0), (10, .ba 80 0), (45, .own 360 0), (46, I (lenL x4)), (47, I z1.2.2)] [(64, RR 267 2 a266 z1.1 0 false), (80, .box [I x6.f0, I x6.f1] false), (360, RR 267 2 a266 z1.2.1 0 false)] 84) ?_
    refine pN ?_
    refine pS ?_
    refine gS 14 ?_
    refine gR 13 (rg Try.f253 13) ?_
    refine sg 1 (mkE [(51, .own 64 0), (8, .own 64 0), (10, .ba 80 0), (45, .own 360 0), (46, I (lenL x4)), (47, I z1.2.2)] [(64, RR 267 2 a266 z1.1 0 false), (80, .box [I x6.f0, I x6.f1] false), (360, RR 267 2 a266 z1.2.1 0 false)] 84) ?_
    refine eo 52 (I (lenL z1.1)) (lenOE 262 267 2 a266 z1.1) ?_
    refine se (mkE [(8, .own 64 0), (10, .ba 80 0), (11, I (subI .i64 (lenL z1.1) 1)), (45, .own 360 0), (46, I (lenL x4)), (47, I z1.2.2)] [(64, RR 267 2 a266 z1.1 0 false), (80, .box [I x6.f0, I x6.f1] false), (360, RR 267 2 a266 z1.2.1 0 false)] 84) ?_
    refine pN ?_
    refine pS ?_
    refine gS 0 ?_
    refine gD 14 12 (rg Try.f253 14) [0, 1, 2, 3, 4, 5, 6, 7, 8, 9, 10, 11] ?_
    refine dg 3 [(some 54, qe (I (subI .i64 (lenL z1.1) 1))), (some 55, qe (B (leI 0 (subI .i64 (lenL z1.1) 1)))), (some 56, qe (B (leI 0 (subI .i64 (lenL z1.1) 1))))] ?_
    refine db 2 56 (leI 0 (subI .i64 (lenL z1.1) 1)) ?_ ?_
    · refine dg 7 [(some 54, qe (I (subI .i64 (lenL z1.1) 1))), (some 55, qe (B (leI 0 (subI .i64 (lenL z1.1) 1)))), (some 56, qe (B true)), (some 57, qe (.ba 80 0)), (some 58, qe (I x6.f0)), (some 59, qe (.own 64 0)), (some 60, qe (I (subI .i64 (lenL z1.1) 1)))] ?_
      refine dv 61 (mkE [(60, I (subI .i64 (lenL z1.1) 1)), (59, .own 64 0), (56, B true), (55, B (leI 0 (subI .i64 (lenL z1.1) 1))), (54, I (subI .i64 (lenL z1.1) 1)), (8, .own 64 0), (10, .ba 80 0), (11, I (subI .i64 (lenL z1.1) 1)), (45, .own 360 0), (46, I (lenL x4)), (47, I z1.2.2)] [(64, RR 267 2 a266 z1.1 0 false), (80, .box [I x6.f0, I x6.f1] false), (360, RR 267 2 a266 z1.2.1 0 false)] 84) (addrOE 262 267 2 64 0 false a266 .i64 z1.1 (subI .i64 (lenL z1.1) 1)) (fun x7 => ?_)
      refine dg 9 [(some 54, qe (I (subI .i64 (lenL z1.1) 1))), (some 55, qe (B (leI 0 (subI .i64 (lenL z1.1) 1)))), (some 56, qe (B true)), (some 57, qe (.ba 80 0)), (some 58, qe (I x6.f0)), (some 59, qe (.own 64 0)), (some 60, qe (I (subI .i64 (lenL z1.1) 1))), (some 61, qe (.oa 64 0 x7 0)), (some 62, qe (.oa 64 0 x7 1))] ?_
      refine dv 63 (mkE [(62, .oa 64 0 x7 1), (61, .oa 64 0 x7 0), (60, I (subI .i64 (lenL z1.1) 1)), (59, .own 64 0), (56, B true), (55, B (leI 0 (subI .i64 (lenL z1.1) 1))), (54, I (subI .i64 (lenL z1.1) 1)), (8, .own 64 0), (10, .ba 80 0), (11, I (subI .i64 (lenL z1.1) 1)), (45, .own 360 0), (46, I (lenL x4)), (47, I z1.2.2)] [(64, RR 267 2 a266 z1.1 0 false), (80, .box [I x6.f0, I x6.f1] false), (360, RR 267 2 a266 z1.2.1 0 false)] 84) (loadOE 3 64 0 x7 1 267 2 1 false false a266 (fun q : S266 => I q.f1) z1.1) (fun x8 => ?_)
      refine dg 12 [(some 54, qe (I (subI .i64 (lenL z1.1) 1))), (some 55, qe (B (leI 0 (subI .i64 (lenL z1.1) 1)))), (some 56, qe (B true)), (some 57, qe (.ba 80 0)), (some 58, qe (I x6.f0)), (some 59, qe (.own 64 0)), (some 60, qe (I (subI .i64 (lenL z1.1) 1))), (some 61, qe (.oa 64 0 x7 0)), (some 62, qe (.oa 64 0 x7 1)), (some 63, qe (I x8.f1)), (some 64, qe (B (leI x6.f0 x8.f1))), (some 65, qe (B (leI x6.f0 x8.f1)))] ?_
      refine de (mkE [(65, B (leI x6.f0 x8.f1)), (64, B (leI x6.f0 x8.f1)), (63, I x8.f1), (62, .oa 64 0 x7 1), (61, .oa 64 0 x7 0), (60, I (subI .i64 (lenL z1.1) 1)), (59, .own 64 0), (58, I x6.f0), (57, .ba 80 0), (56, B true), (55, B (leI 0 (subI .i64 (lenL z1.1) 1))), (54, I (subI .i64 (lenL z1.1) 1)), (8, .own 64 0), (10, .ba 80 0), (11, I (subI .i64 (lenL z1.1) 1)), (45, .own 360 0), (46, I (lenL x4)), (47, I z1.2.2)] [(64, RR 267 2 a266 z1.1 0 false), (80, .box [I x6.f0, I x6.f1] false), (360, RR 267 2 a266 z1.2.1 0 false)] 84) ?_
      refine se (mkE [(8, .own 64 0), (10, .ba 80 0), (11, I (subI .i64 (lenL z1.1) 1)), (45, .own 360 0), (46, I (lenL x4)), (47, I z1.2.2), (65, B (leI x6.f0 x8.f1))] [(64, RR 267 2 a266 z1.1 0 false), (80, .box [I x6.f0, I x6.f1] false), (360, RR 267 2 a266 z1.2.1 0 false)] 84) ?_
      refine pN ?_
      refine pS ?_
      refine gC 65 (leI x6.f0 x8.f1) ?_ ?_
      · refine gD 15 12 (rg Try.f253 15) [0, 1, 2, 3, 4, 5, 6, 7, 8, 9, 10, 11, 12] ?_
        refine dg 4 [(some 66, qe (.own 64 0)), (some 67, qe (I (subI .i64 (lenL z1.1) 1))), (some 68, qe (.own 64 0)), (some 69, qe (I (subI .i64 (lenL z1.1) 1)))] ?_
        refine dv 70 (mkE [(69, I (subI .i64 (lenL z1.1) 1)), (68, .own 64 0), (8, .own 64 0), (10, .ba 80 0), (11, I (subI .i64 (lenL z1.1) 1)), (45, .own 360 0), (46, I (lenL x4)), (47, I z1.2.2), (65, B (leI x6.f0 x8.f1))] [(64, RR 267 2 a266 z1.1 0 false), (80, .box [I x6.f0, I x6.f1] false), (360, RR 267 2 a266 z1.2.1 0 false)] 84) (addrOE 262 267 2 64 0 false a266 .i64 z1.1 (subI .i64 (lenL z1.1) 1)) (fun x9 => ?_)
        refine dg 6 [(some 66, qe (.own 64 0)), (some 67, qe (I (subI .i64 (lenL z1.1) 1))), (some 68, qe (.own 64 0)), (some 69, qe (I (subI .i64 (lenL z1.1) 1))), (some 70, qe (.oa 64 0 x9 0)), (some 71, qe (.oa 64 0 x9 1))] ?_
        refine dv 72 (mkE [(71, .oa 64 0 x9 1), (70, .oa 64 0 x9 0), (69, I (subI .i64 (lenL z1.1) 1)), (68, .own 64 0), (8, .own 64 0), (10, .ba 80 0), (11, I (subI .i64 (lenL z1.1) 1)), (45, .own 360 0), (46, I (lenL x4)), (47, I z1.2.2), (65, B (leI x6.f0 x8.f1))] [(64, RR 267 2 a266 z1.1 0 false), (80, .box [I x6.f0, I x6.f1] false), (360, RR 267 2 a266 z1.2.1 0 false)] 84) (loadOE 3 64 0 x9 1 267 2 1 false false a266 (fun q : S266 => I q.f1) z1.1) (fun x10 => ?_)
        refine dg 10 [(some 66, qe (.own 64 0)), (some 67, qe (I (subI .i64 (lenL z1.1) 1))), (some 68, qe (.own 64 0)), (some 69, qe (I (subI .i64 (lenL z1.1) 1))), (some 70, qe (.oa 64 0 x9 0)), (some 71, qe (.oa 64 0 x9 1)), (some 72, qe (I x10.f1)), (some 73, qe (.ba 80 1)), (some 74, qe (I x6.f1)), (some 75, qe (I (maxI x10.f1 x6.f1)))] ?_
        refine dv 76 (mkE [(75, I (maxI x10.f1 x6.f1)), (74, I x6.f1), (73, .ba 80 1), (72, I x10.f1), (71, .oa 64 0 x9 1), (70, .oa 64 0 x9 0), (69, I (subI .i64 (lenL z1.1) 1)), (68, .own 64 0), (67, I (subI .i64 (lenL z1.1) 1)), (66, .own 64 0), (8, .own 64 0), (10, .ba 80 0), (11, I (subI .i64 (lenL z1.1) 1)), (45, .own 360 0), (46, I (lenL x4)), (47, I z1.2.2), (65, B (leI x6.f0 x8.f1))] [(64, RR 267 2 a266 z1.1 0 false), (80, .box [I x6.f0, I x6.f1] false), (360, RR 267 2 a266 z1.2.1 0 false)] 84) (addrOE 262 267 2 64 0 false a266 .i64 z1.1 (subI .i64 (lenL z1.1) 1)) (fun x11 => ?_)
        refine dg 12 [(some 66, qe (.own 64 0)), (some 67, qe (I (subI .i64 (lenL z1.1) 1))), (some 68, qe (.own 64 0)), (some 69, qe (I (subI .i64 (lenL z1.1) 1))), (some 70, qe (.oa 64 0 x9 0)), (some 71, qe (.oa 64 0 x9 1)), (some 72, qe (I x10.f1)), (some 73, qe (.ba 80 1)), (some 74, qe (I x6.f1)), (some 75, qe (I (maxI x10.f1 x6.f1))), (some 76, qe (.oa 64 0 x11 0)), (some 77, qe (.oa 64 0 x11 1))] ?_
        refine de (mkE [(77, .oa 64 0 x11 1), (76, .oa 64 0 x11 0), (75, I (maxI x10.f1 x6.f1)), (74, I x6.f1), (73, .ba 80 1), (72, I x10.f1), (71, .oa 64 0 x9 1), (70, .oa 64 0 x9 0), (69, I (subI .i64 (lenL z1.1) 1)), (68, .own 64 0), (67, I (subI .i64 (lenL z1.1) 1)), (66, .own 64 0), (8, .own 64 0), (10, .ba 80 0), (11, I (subI .i64 (lenL z1.1) 1)), (45, .own 360 0), (46, I (lenL x4)), (47, I z1.2.2), (65, B (leI x6.f0 x8.f1))] [(64, RR 267 2 a266 z1.1 0 false), (80, .box [I x6.f0, I x6.f1] false), (360, RR 267 2 a266 z1.2.1 0 false)] 84) ?_
        refine mo none (stO 267 2 64 0 x11 1 a266 z1.1 [] [I (maxI x10.f1 x6.f1)] (I (maxI x10.f1 x6.f1)) (fun q : S266 => (S266.mk q.f0 (maxI x10.f1 x6.f1))) 3 (.tmp 77) (.tmp 75) 1) (fun x12 => ?_)
        refine se (mkE [(8, .own 64 0), (45, .own 360 0), (46, I (lenL x4)), (47, I z1.2.2)] [(64, RR 267 2 a266 (List.set z1.1 x11 (S266.mk x12.f0 (maxI x10.f1 x6.f1))) 0 false), (360, RR 267 2 a266 z1.2.1 0 false)] 84) ?_
        refine pB ?_
        refine pN ?_
        refine pS ?_
        refine gR 17 (rg Try.f253 17) ?_
        refine se (mkE [(8, .own 64 0), (45, .own 360 0), (46, I (lenL x4)), (47, I (addI .i64 z1.2.2 1))] [(64, RR 267 2 a266 (List.set z1.1 x11 (S266.mk x12.f0 (maxI x10.f1 x6.f1))) 0 false), (360, RR 267 2 a266 z1.2.1 0 false)] 84) ?_
        exact pL
      · refine gR 16 (rg Try.f253 16) ?_
        refine sg 3 (mkE [(80, .own 640 0), (79, a266 x6), (78, .own 64 0), (8, .own 64 0), (10, .ba 80 0), (11, I (subI .i64 (lenL z1.1) 1)), (45, .own 360 0), (46, I (lenL x4)), (47, I z1.2.2), (65, B (leI x6.f0 x8.f1))] [(640, RR 267 2 a266 ([x6] : List S266) 0 false), (64, RR 267 2 a266 z1.1 0 false), (80, .box [I x6.f0, I x6.f1] false), (360, RR 267 2 a266 z1.2.1 0 false)] 84) ?_
        refine mo (some 81) (apO 262 267 2 16 64 a266 0 [640] (y := .own 640 0) (l2 := ([x6] : List S266))) (fun x13 => ?_)
        refine se (mkE [(8, .own 64 1), (45, .own 360 0), (46, I (lenL x4)), (47, I z1.2.2)] [(64, RR 267 2 a266 x13 1 false), (360, RR 267 2 a266 z1.2.1 0 false)] 84) ?_
        refine pB ?_
        refine pN ?_
        refine pS ?_
        refine gR 17 (rg Try.f253 17) ?_
        refine se (mkE [(8, .own 64 1), (45, .own 360 0), (46, I (lenL x4)), (47, I (addI .i64 z1.2.2 1))] [(64, RR 267 2 a266 x13 1 false), (360, RR 267 2 a266 z1.2.1 0 false)] 84) ?_
        exact pL
    · refine dg 12 [(some 54, qe (I (subI .i64 (lenL z1.1) 1))), (some 55, qe (B (leI 0 (subI .i64 (lenL z1.1) 1)))), (some 56, qe (B false)), (some 57, qe (.und)), (some 58, qe (.und)), (some 59, qe (.und)), (some 60, qe (.und)), (some 61, qe (.und)), (some 62, qe (.und)), (some 63, qe (.und)), (some 64, qe (.und)), (some 65, qe (B false))] ?_
      refine de (mkE [(65, B false), (64, .und), (63, .und), (62, .und), (61, .und), (60, .und), (59, .und), (58, .und), (57, .und), (56, B false), (55, B (leI 0 (subI .i64 (lenL z1.1) 1))), (54, I (subI .i64 (lenL z1.1) 1)), (8, .own 64 0), (10, .ba 80 0), (11, I (subI .i64 (lenL z1.1) 1)), (45, .own 360 0), (46, I (lenL x4)), (47, I z1.2.2)] [(64, RR 267 2 a266 z1.1 0 false), (80, .box [I x6.f0, I x6.f1] false), (360, RR 267 2 a266 z1.2.1 0 false)] 84) ?_
      refine se (mkE [(8, .own 64 0), (10, .ba 80 0), (11, I (subI .i64 (lenL z1.1) 1)), (45, .own 360 0), (46, I (lenL x4)), (47, I z1.2.2), (65, B false)] [(64, RR 267 2 a266 z1.1 0 false), (80, .box [I x6.f0, I x6.f1] false), (360, RR 267 2 a266 z1.2.1 0 false)] 84) ?_
      refine pN ?_
      refine pS ?_
      refine gF (.tmp 65) ?_
      refine gR 16 (rg Try.f253 16) ?_
      refine sg 3 (mkE [(80, .own 640 0), (79, a266 x6), (78, .own 64 0), (8, .own 64 0), (10, .ba 80 0), (11, I (subI .i64 (lenL z1.1) 1)), (45, .own 360 0), (46, I (lenL x4)), (47, I z1.2.2), (65, B false)] [(640, RR 267 2 a266 ([x6] : List S266) 0 false), (64, RR 267 2 a266 z1.1 0 false), (80, .box [I x6.f0, I x6.f1] false), (360, RR 267 2 a266 z1.2.1 0 false)] 84) ?_
      refine mo (some 81) (apO 262 267 2 16 64 a266 0 [640] (y := .own 640 0) (l2 := ([x6] : List S266))) (fun x14 => ?_)
      refine se (mkE [(8, .own 64 1), (45, .own 360 0), (46, I (lenL x4)), (47, I z1.2.2)] [(64, RR 267 2 a266 x14 1 false), (360, RR 267 2 a266 z1.2.1 0 false)] 84) ?_
      refine pB ?_
      refine pN ?_
      refine pS ?_
      refine gR 17 (rg Try.f253 17) ?_
      refine se (mkE [(8, .own 64 1), (45, .own 360 0), (46, I (lenL x4)), (47, I (addI .i64 z1.2.2 1))] [(64, RR 267 2 a266 x14 1 false), (360, RR 267 2 a266 z1.2.1 0 false)] 84) ?_
      exact pL
  · refine gX 2 ?_
    exact pL
noncomputable def T253 (p0 : (List S63)) (p1 : Int) : Option (List S266) := ((iter (L253_3 p0 p1) ([], 0)).bind fun y3 => ((sortO (fun x y => T289 x y) y3.2.2).bind fun x4 => ((iter (L253_11 x4) ([], x4, 0)).bind fun y15 => (some y15.2.2.1))))
theorem B253 (C : Callee) (h288 : ∀ (p0 : (List S266)), C 288 [.fr 267 2 (List.map a266 p0), .fn 289 []] = (sortO (fun x y => T289 x y) p0).map (fun (r : (List S266)) => AV.inp (.tup []) (.fr 267 2 (List.map a266 r)))) (p0 : (List S63)) (p1 : Int) : runs Try.prog C (cfg.fn 253) (finFn Try.prog (cfg.fn 253).byval Try.f253) [] (execA Try.prog C (cfg.fn 253) (nr Try.f253 []) (frame0 [LL a63 p0, I p1] 84 false)) = (T253 p0 p1).map (fun l => AV.fr 267 2 (List.map a266 l)) := by
  unfold T253
  refine gS 1 ?_
  refine gR 0 (rg Try.f253 0) ?_
  refine se (mkE [(0, LL a63 p0), (1, I p1)] [] 84) ?_
  refine pN ?_
  refine pS ?_
  refine gS 2 ?_
  refine gR 1 (rg Try.f253 1) ?_
  refine se (mkE [(0, LL a63 p0), (1, I p1), (5, .nils)] [] 84) ?_
  refine pN ?_
  refine pS ?_
  refine gS 8 ?_
  refine gS 3 ?_
  refine gR 2 (rg Try.f253 2) ?_
  refine sg 1 (mkE [(12, LL a63 p0), (0, LL a63 p0), (1, I p1), (5, .nils)] [] 84) ?_
  refine eo 13 (I (lenL p0)) (lenE 65 a63 p0) ?_
  refine se (mkE [(1, I p1), (5, .nils), (12, LL a63 p0), (13, I (lenL p0)), (14, I 0)] [] 84) ?_
  refine pN ?_
  refine pS ?_
  refine gB 0 ?_
  refine lo [(1, none), (5, some (267, 2)), (12, none), (13, none), (14, none)] [] (L253_3 p0 p1) (fun z0 : ((List S266) × Int) => (mkE [(1, I p1), (5, .own 40 0), (12, LL a63 p0), (13, I (lenL p0)), (14, I z0.2)] [(40, RR 267 2 a266 z0.1 0 false)] 84)) (fun (x : (Int × Bool × (List S266))) => (.exit 0, (mkE [(1, I p1), (5, .own 40 0), (12, LL a63 p0), (13, I (lenL p0)), (14, I x.1), (15, B x.2.1)] [(40, RR 267 2 a266 x.2.2 0 false)] 84))) ([], 0) (fun z => L253_3_ok C p0 p1 z) ?_
  intro y3
  refine pH ?_
  refine pN ?_
  refine pS ?_
  refine gS 9 ?_
  refine gR 8 (rg Try.f253 8) ?_
  refine sg 1 (mkE [(43, .own 40 0), (1, I p1), (5, .own 40 0), (12, LL a63 p0), (13, I (lenL p0)), (14, I y3.1), (15, B y3.2.1)] [(40, RR 267 2 a266 y3.2.2 0 false)] 84) ?_
  refine mo (some 44) (ipR 288 267 2 40 0 a266 y3.2.2 [.fn 289 []] [.fn 289 []] [] (fun x : (List S266) => .tup []) (fun x : (List S266) => x) (h288 y3.2.2)) (fun x4 => ?_)
  refine se (mkE [(5, .own 40 0)] [(40, RR 267 2 a266 x4 0 false)] 84) ?_
  refine pN ?_
  refine pS ?_
  refine gS 10 ?_
  refine gR 9 (rg Try.f253 9) ?_
  refine se (mkE [(5, .own 40 0), (8, .nils)] [(40, RR 267 2 a266 x4 0 false)] 84) ?_
  refine pN ?_
  refine pS ?_
  refine gS 18 ?_
  refine gS 11 ?_
  refine gR 10 (rg Try.f253 10) ?_
  refine sg 1 (mkE [(45, .own 40 0), (5, .own 40 0), (8, .nils)] [(40, RR 267 2 a266 x4 0 false)] 84) ?_
  refine eo 46 (I (lenL x4)) (lenOE 262 267 2 a266 x4) ?_
  refine se (mkE [(8, .nils), (45, .own 40 0), (46, I (lenL x4)), (47, I 0)] [(40, RR 267 2 a266 x4 0 false)] 84) ?_
  refine pN ?_
  refine pS ?_
  refine gB 2 ?_
  refine lo [(8, some (267, 2)), (45, some (267, 2)), (46, none), (47, none)] [] (L253_11 x4) (fun z1 : ((List S266) × (List S266) × Int) => (mkE [(8, .own 64 0), (45, .own 360 0), (46, I (lenL x4)), (47, I z1.2.2)] [(64, RR 267 2 a266 z1.1 0 false), (360, RR 267 2 a266 z1.2.1 0 false)] 84)) (fun (x : (Int × Bool × (List S266) × (List S266))) => (.exit 2, (mkE [(8, .own 64 0), (45, .own 360 0), (46, I (lenL x4)), (47, I x.1), (48, B x.2.1)] [(64, RR 267 2 a266 x.2.2.1 0 false), (360, RR 267 2 a266 x.2.2.2 0 false)] 84))) ([], x4, 0) (fun z => L253_11_ok C x4 z) ?_
  intro y15
  refine pH ?_
  refine pN ?_
  refine pS ?_
  refine gS 0 ?_
  refine gR 18 (rg Try.f253 18) ?_
  refine se (mkE [(4, .own 64 0)] [(64, RR 267 2 a266 y15.2.2.1 0 false)] 84) ?_
  refine pN ?_
  refine pS ?_
  refine gE ?_
  exact pL
theorem F253 (m : Nat) (hm : 3 ≤ m) (p0 : (List S63)) (p1 : Int) : callA Try.prog cfg m 253 [LL a63 p0, I p1] = (T253 p0 p1).map (fun l => AV.fr 267 2 (List.map a266 l)) := by
  obtain ⟨q, rfl⟩ : ∃ q, m = q + 1 := ⟨m - 1, by omega⟩
  exact (callA_body (fn := Try.f253) (c := body_ Try.f253) q _ (by kernel_rfl) (by kernel_rfl) (by kernel_rfl)).trans (B253 _ (fun p0 => F288 q (by omega) p0) p0 p1)

noncomputable def L252_6 (p0 : (List S266)) (p1 : (List S266)) (z0 : ((List S266) × Int × Int)) (x1 : S266) (z1 : Int) : Option (Int ⊕ (Int × Bool)) := (bif (ltI z1 (lenL p1)) then ((listAt p1 z1).bind fun x2 => (bif (leI x2.f1 x1.f0) then (some (.inl (addI .i64 z1 1))) else (some (.inr (z1, (leI x2.f1 x1.f0)))))) else (some (.inr (z1, false))))
theorem L252_6_ok (C : Callee) (p0 : (List S266)) (p1 : (List S266)) (z0 : ((List S266) × Int × Int)) (x1 : S266) (z1 : Int) : runs Try.prog C (cfg.fn 252) (finLoop ((cfg.fn 252).keep 6) ((cfg.fn 252).al 6)) [] (execA Try.prog C (cfg.fn 252) (nr Try.f252 [false, false, false, true, false, false, true, true, false, false, true, false, true, true, true]) ((fun z1 : Int => (mkE [(1, LL a266 p1), (5, .own 40 0), (6, I z1), (8, .ba 64 0), (10, LL a266 p0), (11, I (lenL p0)), (12, I z0.2.2)] [(40, RR 267 2 a266 z0.1 0 false), (64, .box [I x1.f0, I x1.f1] false)] 88)) z1)) = (L252_6 p0 p1 z0 x1 z1).map (Sum.elim (fun z => .inl ((fun z1 : Int => (mkE [(1, LL a266 p1), (5, .own 40 0), (6, I z1), (8, .ba 64 0), (10, LL a266 p0), (11, I (lenL p0)), (12, I z0.2.2)] [(40, RR 267 2 a266 z0.1 0 false), (64, .box [I x1.f0, I x1.f1] false)] 88)) z)) (fun x => .inr ((fun (x : (Int × Bool)) => (.exit 2, (mkE [(1, LL a266 p1), (5, .own 40 0), (6, I x.1), (8, .ba 64 0), (10, LL a266 p0), (11, I (lenL p0)), (12, I z0.2.2), (29, B x.2)] [(40, RR 267 2 a266 z0.1 0 false), (64, .box [I x1.f0, I x1.f1] false)] 88))) x))) := by
  unfold L252_6
  refine gS 7 ?_
  refine gS 0 ?_
  refine gD 6 14 (rg Try.f252 6) [0, 1, 2, 3, 4, 5, 6, 7, 8, 9, 10, 11, 12, 13] ?_
  refine dg 2 [(some 16, qe (I z1)), (some 17, qe (LL a266 p1))] ?_
  refine df 18 (I (lenL p1)) (mkE [(17, LL a266 p1), (1, LL a266 p1), (5, .own 40 0), (6, I z1), (8, .ba 64 0), (10, LL a266 p0), (11, I (lenL p0)), (12, I z0.2.2)] [(40, RR 267 2 a266 z0.1 0 false), (64, .box [I x1.f0, I x1.f1] false)] 88) (lenE 262 a266 p1) ?_
  refine dg 5 [(some 16, qe (I z1)), (some 17, qe (LL a266 p1)), (some 18, qe (I (lenL p1))), (some 19, qe (B (ltI z1 (lenL p1)))), (some 20, qe (B (ltI z1 (lenL p1))))] ?_
  refine db 4 20 (ltI z1 (lenL p1)) ?_ ?_
  · refine dg 7 [(some 16, qe (I z1)), (some 17, qe (LL a266 p1)), (some 18, qe (I (lenL p1))), (some 19, qe (B (ltI z1 (lenL p1)))), (some 20, qe (B true)), (some 21, qe (LL a266 p1)), (some 22, qe (I z1))] ?_
    refine dv 23 (mkE [(22, I z1), (21, LL a266 p1), (20, B true), (19, B (ltI z1 (lenL p1))), (18, I (lenL p1)), (17, LL a266 p1), (16, I z1), (1, LL a266 p1), (5, .own 40 0), (6, I z1), (8, .ba 64 0), (10, LL a266 p0), (11, I (lenL p0)), (12, I z0.2.2)] [(40, RR 267 2 a266 z0.1 0 false), (64, .box [I x1.f0, I x1.f1] false)] 88) (addrE 262 267 2 a266 .i64 p1 z1) (fun x2 => ?_)
    refine dg 14 [(some 16, qe (I z1)), (some 17, qe (LL a266 p1)), (some 18, qe (I (lenL p1))), (some 19, qe (B (ltI z1 (lenL p1)))), (some 20, qe (B true)), (some 21, qe (LL a266 p1)), (some 22, qe (I z1)), (some 23, qe (.ia [I x2.f0, I x2.f1] 0)), (some 24, qe (.ia [I x2.f0, I x2.f1] 1)), (some 25, qe (I x2.f1)), (some 26, qe (.ba 64 0)), (some 27, qe (I x1.f0)), (some 28, qe (B (leI x2.f1 x1.f0))), (some 29, qe (B (leI x2.f1 x1.f0)))] ?_
    refine de (mkE [(29, B (leI x2.f1 x1.f0)), (28, B (leI x2.f1 x1.f0)), (27, I x1.f0), (26, .ba 64 0), (25, I x2.f1), (24, .ia [I x2.f0, I x2.f1] 1), (23, .ia [I x2.f0, I x2.f1] 0), (22, I z1), (21, LL a266 p1), (20, B true), (19, B (ltI z1 (lenL p1))), (18, I (lenL p1)), (17, LL a266 p1), (16, I z1), (1, LL a266 p1), (5, .own 40 0), (6, I z1), (8, .ba 64 0), (10, LL a266 p0), (11, I (lenL p0)), (12, I z0.2.2)] [(40, RR 267 2 a266 z0.1 0 false), (64, .box [I x1.f0, I x1.f1] false)] 88) ?_
    refine se (mkE [(1, LL a266 p1), (5, .own 40 0), (6, I z1), (8, .ba 64 0), (10, LL a266 p0), (11, I (lenL p0)), (12, I z0.2.2), (29, B (leI x2.f1 x1.f0))] [(40, RR 267 2 a266 z0.1 0 false), (64, .box [I x1.f0, I x1.f1] false)] 88) ?_
    refine pN ?_
    refine pS ?_
    refine gC 29 (leI x2.f1 x1.f0) ?_ ?_
    · refine gK ?_
      refine pN ?_
      refine pS ?_
      refine gB 3 ?_
      refine gR 7 (rg Try.f252 7) ?_
      refine se (mkE [(1, LL a266 p1), (5, .own 40 0), (6, I (addI .i64 z1 1)), (8, .ba 64 0), (10, LL a266 p0), (11, I (lenL p0)), (12, I z0.2.2)] [(40, RR 267 2 a266 z0.1 0 false), (64, .box [I x1.f0, I x1.f1] false)] 88) ?_
      refine pB ?_
      exact pL
    · refine gX 2 ?_
      exact pL
  · refine dg 14 [(some 16, qe (I z1)), (some 17, qe (LL a266 p1)), (some 18, qe (I (lenL p1))), (some 19, qe (B (ltI z1 (lenL p1)))), (some 20, qe (B false)), (some 21, qe (.und)), (some 22, qe (.und)), (some 23, qe (.und)), (some 24, qe (.und)), (some 25, qe (.und)), (some 26, qe (.und)), (some 27, qe (.und)), (some 28, qe (.und)), (some 29, qe (B false))] ?_
    refine de (mkE [(29, B false), (28, .und), (27, .und), (26, .und), (25, .und), (24, .und), (23, .und), (22, .und), (21, .und), (20, B false), (19, B (ltI z1 (lenL p1))), (18, I (lenL p1)), (17, LL a266 p1), (16, I z1), (1, LL a266 p1), (5, .own 40 0), (6, I z1), (8, .ba 64 0), (10, LL a266 p0), (11, I (lenL p0)), (12, I z0.2.2)] [(40, RR 267 2 a266 z0.1 0 false), (64, .box [I x1.f0, I x1.f1] false)] 88) ?_
    refine se (mkE [(1, LL a266 p1), (5, .own 40 0), (6, I z1), (8, .ba 64 0), (10, LL a266 p0), (11, I (lenL p0)), (12, I z0.2.2), (29, B false)] [(40, RR 267 2 a266 z0.1 0 false), (64, .box [I x1.f0, I x1.f1] false)] 88) ?_
    refine pN ?_
    refine pS ?_
    refine gF (.tmp 29) ?_
    refine gX 2 ?_
    exact pL
noncomputable def L252_9 (p0 : (List S266)) (p1 : (List S266)) (z0 : ((List S266) × Int × Int)) (x1 : S266) (y3 : (Int × Bool)) (z2 : ((List S266) × Int × Int)) : Option (((List S266) × Int × Int) ⊕ (Int × Bool × (List S266) × Int)) := (bif (ltI z2.2.2 (lenL p1)) then ((listAt p1 z2.2.2).bind fun x4 => (bif (ltI x4.f0 x1.f1) then ((listAt p1 z2.2.2).bind fun x5 => (bif (ltI z2.2.1 x5.f0) then ((listAt p1 z2.2.2).bind fun x6 => ((appO 16 z2.1 ([(S266.mk z2.2.1 x6.f0)] : List S266)).bind fun x7 => ((listAt p1 z2.2.2).bind fun x8 => (some (.inl (x7, (maxI z2.2.1 x8.f1), (addI .i64 z2.2.2 1))))))) else ((listAt p1 z2.2.2).bind fun x9 => (some (.inl (z2.1, (maxI z2.2.1 x9.f1), (addI .i64 z2.2.2 1))))))) else (some (.inr (z2.2.2, (ltI x4.f0 x1.f1), z2.1, z2.2.1))))) else (some (.inr (z2.2.2, false, z2.1, z2.2.1))))
theorem L252_9_ok (C : Callee) (p0 : (List S266)) (p1 : (List S266)) (z0 : ((List S266) × Int × Int)) (x1 : S266) (y3 : (Int × Bool)) (z2 : ((List S266) × Int × Int)) : runs Try.prog C (cfg.fn 252) (finLoop ((cfg.fn 252).keep 9) ((cfg.fn 252).al 9)) [] (execA Try.prog C (cfg.fn 252) (nr Try.f252 [false, false, true, false, true, true, false, false, true, true, false, false, true, false, true, true, true]) ((fun z2 : ((List S266) × Int × Int) => (mkE [(1, LL a266 p1), (5, .own 40 0), (6, I y3.1), (8, .ba 64 0), (9, I z2.2.2), (10, LL a266 p0), (11, I (lenL p0)), (12, I z0.2.2)] [(40, RR 267 2 a266 z2.1 0 false), (64, .box [I z2.2.1, I x1.f1] false)] 88)) z2)) = (L252_9 p0 p1 z0 x1 y3 z2).map (Sum.elim (fun z => .inl ((fun z2 : ((List S266) × Int × Int) => (mkE [(1, LL a266 p1), (5, .own 40 0), (6, I y3.1), (8, .ba 64 0), (9, I z2.2.2), (10, LL a266 p0), (11, I (lenL p0)), (12, I z0.2.2)] [(40, RR 267 2 a266 z2.1 0 false), (64, .box [I z2.2.1, I x1.f1] false)] 88)) z)) (fun x => .inr ((fun (x : (Int × Bool × (List S266) × Int)) => (.exit 4, (mkE [(1, LL a266 p1), (5, .own 40 0), (6, I y3.1), (8, .ba 64 0), (9, I x.1), (10, LL a266 p0), (11, I (lenL p0)), (12, I z0.2.2), (46, B x.2.1)] [(40, RR 267 2 a266 x.2.2.1 0 false), (64, .box [I x.2.2.2, I x1.f1] false)] 88))) x))) := by
  unfold L252_9
  refine gS 11 ?_
  refine gS 0 ?_
  refine gD 9 14 (rg Try.f252 9) [0, 1, 2, 3, 4, 5, 6, 7, 8, 9, 10, 11, 12, 13] ?_
  refine dg 2 [(some 33, qe (I z2.2.2)), (some 34, qe (LL a266 p1))] ?_
  refine df 35 (I (lenL p1)) (mkE [(34, LL a266 p1), (1, LL a266 p1), (5, .own 40 0), (6, I y3.1), (8, .ba 64 0), (9, I z2.2.2), (10, LL a266 p0), (11, I (lenL p0)), (12, I z0.2.2)] [(40, RR 267 2 a266 z2.1 0 false), (64, .box [I z2.2.1, I x1.f1] false)] 88) (lenE 262 a266 p1) ?_
  refine dg 5 [(some 33, qe (I z2.2.2)), (some 34, qe (LL a266 p1)), (some 35, qe (I (lenL p1))), (some 36, qe (B (ltI z2.2.2 (lenL p1)))), (some 37, qe (B (ltI z2.2.2 (lenL p1))))] ?_
  refine db 4 37 (ltI z2.2.2 (lenL p1)) ?_ ?_
  · refine dg 7 [(some 33, qe (I z2.2.2)), (some 34, qe (LL a266 p1)), (some 35, qe (I (lenL p1))), (some 36, qe (B (ltI z2.2.2 (lenL p1)))), (some 37, qe (B true)), (some 38, qe (LL a266 p1)), (some 39, qe (I z2.2.2))] ?_
    refine dv 40 (mkE [(39, I z2.2.2), (38, LL a266 p1), (37, B true), (36, B (ltI z2.2.2 (lenL p1))), (35, I (lenL p1)), (34, LL a266 p1), (33, I z2.2.2), (1, LL a266 p1), (5, .own 40 0), (6, I y3.1), (8, .ba 64 0), (9, I z2.2.2), (10, LL a266 p0), (11, I (lenL p0)), (12, I z0.2.2)] [(40, RR 267 2 a266 z2.1 0 false), (64, .box [I z2.2.1, I x1.f1] false)] 88) (addrE 262 267 2 a266 .i64 p1 z2.2.2) (fun x4 => ?_)
    refine dg 14 [(some 33, qe (I z2.2.2)), (some 34, qe (LL a266 p1)), (some 35, qe (I (lenL p1))), (some 36, qe (B (ltI z2.2.2 (lenL p1)))), (some 37, qe (B true)), (some 38, qe (LL a266 p1)), (some 39, qe (I z2.2.2)), (some 40, qe (.ia [I x4.f0, I x4.f1] 0)), (some 41, qe (.ia [I x4.f0, I x4.f1] 0)), (some 42, qe (I x4.f0)), (some 43, qe (.ba 64 1)), (some 44, qe (I x1.f1)), (some 45, qe (B (ltI x4.f0 x1.f1))), (some 46, qe (B (ltI x4.f0 x1.f1)))] ?_
    refine de (mkE [(46, B (ltI x4.f0 x1.f1)), (45, B (ltI x4.f0 x1.f1)), (44, I x1.f1), (43, .ba 64 1), (42, I x4.f0), (41, .ia [I x4.f0, I x4.f1] 0), (40, .ia [I x4.f0, I x4.f1] 0), (39, I z2.2.2), (38, LL a266 p1), (37, B true), (36, B (ltI z2.2.2 (lenL p1))), (35, I (lenL p1)), (34, LL a266 p1), (33, I z2.2.2), (1, LL a266 p1), (5, .own 40 0), (6, I y3.1), (8, .ba 64 0), (9, I z2.2.2), (10, LL a266 p0), (11, I (lenL p0)), (12, I z0.2.2)] [(40, RR 267 2 a266 z2.1 0 false), (64, .box [I z2.2.1, I x1.f1] false)] 88) ?_
    refine se (mkE [(1, LL a266 p1), (5, .own 40 0), (6, I y3.1), (8, .ba 64 0), (9, I z2.2.2), (10, LL a266 p0), (11, I (lenL p0)), (12, I z0.2.2), (46, B (ltI x4.f0 x1.f1))] [(40, RR 267 2 a266 z2.1 0 false), (64, .box [I z2.2.1, I x1.f1] false)] 88) ?_
    refine pN ?_
    refine pS ?_
    refine gC 46 (ltI x4.f0 x1.f1) ?_ ?_
    · refine gK ?_
      refine pN ?_
      refine pS ?_
      refine gS 10 ?_
      refine gB 5 ?_
      refine gS 13 ?_
      refine gS 0 ?_
      refine gD 11 8 (rg Try.f252 11) [0, 1, 2, 3, 4, 5, 6, 7] ?_
      refine dg 2 [(some 49, qe (LL a266 p1)), (some 50, qe (I z2.2.2))] ?_
      refine dv 51 (mkE [(50, I z2.2.2), (49, LL a266 p1), (1, LL a266 p1), (5, .own 40 0), (6, I y3.1), (8, .ba 64 0), (9, I z2.2.2), (10, LL a266 p0), (11, I (lenL p0)), (12, I z0.2.2), (46, B (ltI x4.f0 x1.f1))] [(40, RR 267 2 a266 z2.1 0 false), (64, .box [I z2.2.1, I x1.f1] false)] 88) (addrE 262 267 2 a266 .i64 p1 z2.2.2) (fun x5 => ?_)
      refine dg 8 [(some 49, qe (LL a266 p1)), (some 50, qe (I z2.2.2)), (some 51, qe (.ia [I x5.f0, I x5.f1] 0)), (some 52, qe (.ia [I x5.f0, I x5.f1] 0)), (some 53, qe (I x5.f0)), (some 54, qe (.ba 64 0)), (some 55, qe (I z2.2.1)), (some 56, qe (B (ltI z2.2.1 x5.f0)))] ?_
      refine de (mkE [(56, B (ltI z2.2.1 x5.f0)), (55, I z2.2.1), (54, .ba 64 0), (53, I x5.f0), (52, .ia [I x5.f0, I x5.f1] 0), (51, .ia [I x5.f0, I x5.f1] 0), (50, I z2.2.2), (49, LL a266 p1), (1, LL a266 p1), (5, .own 40 0), (6, I y3.1), (8, .ba 64 0), (9, I z2.2.2), (10, LL a266 p0), (11, I (lenL p0)), (12, I z0.2.2), (46, B (ltI x4.f0 x1.f1))] [(40, RR 267 2 a266 z2.1 0 false), (64, .box [I z2.2.1, I x1.f1] false)] 88) ?_
      refine se (mkE [(1, LL a266 p1), (5, .own 40 0), (6, I y3.1), (8, .ba 64 0), (9, I z2.2.2), (10, LL a266 p0), (11, I (lenL p0)), (12, I z0.2.2), (56, B (ltI z2.2.1 x5.f0))] [(40, RR 267 2 a266 z2.1 0 false), (64, .box [I z2.2.1, I x1.f1] false)] 88) ?_
      refine pN ?_
      refine pS ?_
      refine gC 56 (ltI z2.2.1 x5.f0) ?_ ?_
      · refine gD 12 10 (rg Try.f252 12) [0, 1, 2, 3, 4, 5, 6, 7, 8, 9, 10, 11] ?_
        refine dg 5 [(some 57, qe (.own 40 0)), (some 58, qe (.ba 64 0)), (some 59, qe (I z2.2.1)), (some 60, qe (LL a266 p1)), (some 61, qe (I z2.2.2))] ?_
        refine dv 62 (mkE [(61, I z2.2.2), (60, LL a266 p1), (1, LL a266 p1), (5, .own 40 0), (6, I y3.1), (8, .ba 64 0), (9, I z2.2.2), (10, LL a266 p0), (11, I (lenL p0)), (12, I z0.2.2), (56, B (ltI z2.2.1 x5.f0))] [(40, RR 267 2 a266 z2.1 0 false), (64, .box [I z2.2.1, I x1.f1] false)] 88) (addrE 262 267 2 a266 .i64 p1 z2.2.2) (fun x6 => ?_)
        refine dg 10 [(some 57, qe (.own 40 0)), (some 58, qe (.ba 64 0)), (some 59, qe (I z2.2.1)), (some 60, qe (LL a266 p1)), (some 61, qe (I z2.2.2)), (some 62, qe (.ia [I x6.f0, I x6.f1] 0)), (some 63, qe (.ia [I x6.f0, I x6.f1] 0)), (some 64, qe (I x6.f0)), (some 65, qe (.agg [I z2.2.1, I x6.f0])), (some 66, { e := { val := .own 528 0, news := [(528, RR 267 2 a266 ([(S266.mk z2.2.1 x6.f0)] : List S266) 0 false)] } })] ?_
        refine de (mkE [(66, .own 528 0), (65, .agg [I z2.2.1, I x6.f0]), (64, I x6.f0), (63, .ia [I x6.f0, I x6.f1] 0), (62, .ia [I x6.f0, I x6.f1] 0), (61, I z2.2.2), (60, LL a266 p1), (59, I z2.2.1), (58, .ba 64 0), (57, .own 40 0), (1, LL a266 p1), (5, .own 40 0), (6, I y3.1), (8, .ba 64 0), (9, I z2.2.2), (10, LL a266 p0), (11, I (lenL p0)), (12, I z0.2.2), (56, B (ltI z2.2.1 x5.f0))] [(528, RR 267 2 a266 ([(S266.mk z2.2.1 x6.f0)] : List S266) 0 false), (40, RR 267 2 a266 z2.1 0 false), (64, .box [I z2.2.1, I x1.f1] false)] 88) ?_
        refine mo (some 67) (apO 262 267 2 16 40 a266 0 [528] (y := .own 528 0) (l2 := ([(S266.mk z2.2.1 x6.f0)] : List S266))) (fun x7 => ?_)
        refine se (mkE [(1, LL a266 p1), (5, .own 40 1), (6, I y3.1), (8, .ba 64 0), (9, I z2.2.2), (10, LL a266 p0), (11, I (lenL p0)), (12, I z0.2.2)] [(40, RR 267 2 a266 x7 1 false), (64, .box [I z2.2.1, I x1.f1] false)] 88) ?_
        refine pN ?_
        refine pS ?_
        refine gD 13 9 (rg Try.f252 13) [0, 1, 2, 3, 4, 5, 6, 7, 8, 9] ?_
        refine dg 4 [(some 68, qe (.ba 64 0)), (some 69, qe (I z2.2.1)), (some 70, qe (LL a266 p1)), (some 71, qe (I z2.2.2))] ?_
        refine dv 72 (mkE [(71, I z2.2.2), (70, LL a266 p1), (1, LL a266 p1), (5, .own 40 1), (6, I y3.1), (8, .ba 64 0), (9, I z2.2.2), (10, LL a266 p0), (11, I (lenL p0)), (12, I z0.2.2)] [(40, RR 267 2 a266 x7 1 false), (64, .box [I z2.2.1, I x1.f1] false)] 88) (addrE 262 267 2 a266 .i64 p1 z2.2.2) (fun x8 => ?_)
        refine dg 9 [(some 68, qe (.ba 64 0)), (some 69, qe (I z2.2.1)), (some 70, qe (LL a266 p1)), (some 71, qe (I z2.2.2)), (some 72, qe (.ia [I x8.f0, I x8.f1] 0)), (some 73, qe (.ia [I x8.f0, I x8.f1] 1)), (some 74, qe (I x8.f1)), (some 75, qe (I (maxI z2.2.1 x8.f1))), (some 76, qe (.ba 64 0))] ?_
        refine de (mkE [(76, .ba 64 0), (75, I (maxI z2.2.1 x8.f1)), (74, I x8.f1), (73, .ia [I x8.f0, I x8.f1] 1), (72, .ia [I x8.f0, I x8.f1] 0), (71, I z2.2.2), (70, LL a266 p1), (69, I z2.2.1), (68, .ba 64 0), (1, LL a266 p1), (5, .own 40 1), (6, I y3.1), (8, .ba 64 0), (9, I z2.2.2), (10, LL a266 p0), (11, I (lenL p0)), (12, I z0.2.2)] [(40, RR 267 2 a266 x7 1 false), (64, .box [I z2.2.1, I x1.f1] false)] 88) ?_
        refine se (mkE [(1, LL a266 p1), (5, .own 40 1), (6, I y3.1), (8, .ba 64 0), (9, I z2.2.2), (10, LL a266 p0), (11, I (lenL p0)), (12, I z0.2.2)] [(40, RR 267 2 a266 x7 1 false), (64, .box [I (maxI z2.2.1 x8.f1), I x1.f1] false)] 88) ?_
        refine pB ?_
        refine pN ?_
        refine pS ?_
        refine gR 10 (rg Try.f252 10) ?_
        refine se (mkE [(1, LL a266 p1), (5, .own 40 1), (6, I y3.1), (8, .ba 64 0), (9, I (addI .i64 z2.2.2 1)), (10, LL a266 p0), (11, I (lenL p0)), (12, I z0.2.2)] [(40, RR 267 2 a266 x7 1 false), (64, .box [I (maxI z2.2.1 x8.f1), I x1.f1] false)] 88) ?_
        exact pL
      · refine gK ?_
        refine pN ?_
        refine pS ?_
        refine gD 13 9 (rg Try.f252 13) [0, 1, 2, 3, 4, 5, 6, 7, 8, 9] ?_
        refine dg 4 [(some 68, qe (.ba 64 0)), (some 69, qe (I z2.2.1)), (some 70, qe (LL a266 p1)), (some 71, qe (I z2.2.2))] ?_
        refine dv 72 (mkE [(71, I z2.2.2), (70, LL a266 p1), (1, LL a266 p1), (5, .own 40 0), (6, I y3.1), (8, .ba 64 0), (9, I z2.2.2), (10, LL a266 p0), (11, I (lenL p0)), (12, I z0.2.2), (56, B (ltI z2.2.1 x5.f0))] [(40, RR 267 2 a266 z2.1 0 false), (64, .box [I z2.2.1, I x1.f1] false)] 88) (addrE 262 267 2 a266 .i64 p1 z2.2.2) (fun x9 => ?_)
        refine dg 9 [(some 68, qe (.ba 64 0)), (some 69, qe (I z2.2.1)), (some 70, qe (LL a266 p1)), (some 71, qe (I z2.2.2)), (some 72, qe (.ia [I x9.f0, I x9.f1] 0)), (some 73, qe (.ia [I x9.f0, I x9.f1] 1)), (some 74, qe (I x9.f1)), (some 75, qe (I (maxI z2.2.1 x9.f1))), (some 76, qe (.ba 64 0))] ?_
        refine de (mkE [(76, .ba 64 0), (75, I (maxI z2.2.1 x9.f1)), (74, I x9.f1), (73, .ia [I x9.f0, I x9.f1] 1), (72, .ia [I x9.f0, I x9.f1] 0), (71, I z2.2.2), (70, LL a266 p1), (69, I z2.2.1), (68, .ba 64 0), (1, LL a266 p1), (5, .own 40 0), (6, I y3.1), (8, .ba 64 0), (9, I z2.2.2), (10, LL a266 p0), (11, I (lenL p0)), (12, I z0.2.2), (56, B (ltI z2.2.1 x5.f0))] [(40, RR 267 2 a266 z2.1 0 false), (64, .box [I z2.2.1, I x1.f1] false)] 88) ?_
        refine se (mkE [(1, LL a266 p1), (5, .own 40 0), (6, I y3.1), (8, .ba 64 0), (9, I z2.2.2), (10, LL a266 p0), (11, I (lenL p0)), (12, I z0.2.2)] [(40, RR 267 2 a266 z2.1 0 false), (64, .box [I (maxI z2.2.1 x9.f1), I x1.f1] false)] 88) ?_
        refine pB ?_
        refine pN ?_
        refine pS ?_
        refine gR 10 (rg Try.f252 10) ?_
        refine se (mkE [(1, LL a266 p1), (5, .own 40 0), (6, I y3.1), (8, .ba 64 0), (9, I (addI .i64 z2.2.2 1)), (10, LL a266 p0), (11, I (lenL p0)), (12, I z0.2.2)] [(40, RR 267 2 a266 z2.1 0 false), (64, .box [I (maxI z2.2.1 x9.f1), I x1.f1] false)] 88) ?_
        exact pL
    · refine gX 4 ?_
      exact pL
  · refine dg 14 [(some 33, qe (I z2.2.2)), (some 34, qe (LL a266 p1)), (some 35, qe (I (lenL p1))), (some 36, qe (B (ltI z2.2.2 (lenL p1)))), (some 37, qe (B false)), (some 38, qe (.und)), (some 39, qe (.und)), (some 40, qe (.und)), (some 41, qe (.und)), (some 42, qe (.und)), (some 43, qe (.und)), (some 44, qe (.und)), (some 45, qe (.und)), (some 46, qe (B false))] ?_
    refine de (mkE [(46, B false), (45, .und), (44, .und), (43, .und), (42, .und), (41, .und), (40, .und), (39, .und), (38, .und), (37, B false), (36, B (ltI z2.2.2 (lenL p1))), (35, I (lenL p1)), (34, LL a266 p1), (33, I z2.2.2), (1, LL a266 p1), (5, .own 40 0), (6, I y3.1), (8, .ba 64 0), (9, I z2.2.2), (10, LL a266 p0), (11, I (lenL p0)), (12, I z0.2.2)] [(40, RR 267 2 a266 z2.1 0 false), (64, .box [I z2.2.1, I x1.f1] false)] 88) ?_
    refine se (mkE [(1, LL a266 p1), (5, .own 40 0), (6, I y3.1), (8, .ba 64 0), (9, I z2.2.2), (10, LL a266 p0), (11, I (lenL p0)), (12, I z0.2.2), (46, B false)] [(40, RR 267 2 a266 z2.1 0 false), (64, .box [I z2.2.1, I x1.f1] false)] 88) ?_
    refine pN ?_
    refine pS ?_
    refine gF (.tmp 46) ?_
    refine gX 4 ?_
    exact pL
noncomputable def L252_4 (p0 : (List S266)) (p1 : (List S266)) (z0 : ((List S266) × Int × Int)) : Option (((List S266) × Int × Int) ⊕ (Int × Int × Bool × (List S266))) := (bif (ltI z0.2.2 (lenL p0)) then ((listAt p0 z0.2.2).bind fun x1 => ((iter (L252_6 p0 p1 z0 x1) z0.2.1).bind fun y3 => ((iter (L252_9 p0 p1 z0 x1 y3) (z0.1, x1.f0, y3.1)).bind fun y10 => (bif (ltI y10.2.2.2 x1.f1) then ((appO 16 y10.2.2.1 ([(S266.mk y10.2.2.2 x1.f1)] : List S266)).bind fun x11 => (some (.inl (x11, y3.1, (addI .i64 z0.2.2 1))))) else (some (.inl (y10.2.2.1, y3.1, (addI .i64 z0.2.2 1)))))))) else (some (.inr (z0.2.1, z0.2.2, (ltI z0.2.2 (lenL p0)), z0.1))))
theorem L252_4_ok (C : Callee) (p0 : (List S266)) (p1 : (List S266)) (z0 : ((List S266) × Int × Int)) : runs Try.prog C (cfg.fn 252) (finLoop ((cfg.fn 252).keep 4) ((cfg.fn 252).al 4)) [] (execA Try.prog C (cfg.fn 252) (nr Try.f252 [false, false, true, false, true, true, true]) ((fun z0 : ((List S266) × Int × Int) => (mkE [(1, LL a266 p1), (5, .own 40 0), (6, I z0.2.1), (10, LL a266 p0), (11, I (lenL p0)), (12, I z0.2.2)] [(40, RR 267 2 a266 z0.1 0 false)] 88)) z0)) = (L252_4 p0 p1 z0).map (Sum.elim (fun z => .inl ((fun z0 : ((List S266) × Int × Int) => (mkE [(1, LL a266 p1), (5, .own 40 0), (6, I z0.2.1), (10, LL a266 p0), (11, I (lenL p0)), (12, I z0.2.2)] [(40, RR 267 2 a266 z0.1 0 false)] 88)) z)) (fun x => .inr ((fun (x : (Int × Int × Bool × (List S266))) => (.exit 0, (mkE [(1, LL a266 p1), (5, .own 40 0), (6, I x.1), (10, LL a266 p0), (11, I (lenL p0)), (12, I x.2.1), (13, B x.2.2.1)] [(40, RR 267 2 a266 x.2.2.2 0 false)] 88))) x))) := by
  unfold L252_4
  refine gS 0 ?_
  refine gR 4 (rg Try.f252 4) ?_
  refine se (mkE [(1, LL a266 p1), (5, .own 40 0), (6, I z0.2.1), (10, LL a266 p0), (11, I (lenL p0)), (12, I z0.2.2), (13, B (ltI z0.2.2 (lenL p0)))] [(40, RR 267 2 a266 z0.1 0 false)] 88) ?_
  refine pN ?_
  refine pS ?_
  refine gS 5 ?_
  refine gC 13 (ltI z0.2.2 (lenL p0)) ?_ ?_
  · refine gK ?_
    refine pN ?_
    refine pS ?_
    refine gS 16 ?_
    refine gB 1 ?_
    refine gS 6 ?_
    refine gR 5 (rg Try.f252 5) ?_
    refine vo 14 (addrE 262 267 2 a266 .i64 p0 z0.2.2) (fun x1 => ?_)
    refine se (mkE [(1, LL a266 p1), (5, .own 40 0), (6, I z0.2.1), (8, .ba 64 0), (10, LL a266 p0), (11, I (lenL p0)), (12, I z0.2.2)] [(40, RR 267 2 a266 z0.1 0 false), (64, .box [I x1.f0, I x1.f1] false)] 88) ?_
    refine pN ?_
    refine pS ?_
    refine gS 8 ?_
    refine gB 2 ?_
    refine lo [(1, none), (5, some (267, 2)), (6, none), (8, none), (10, none), (11, none), (12, none)] [] (L252_6 p0 p1 z0 x1) (fun z1 : Int => (mkE [(1, LL a266 p1), (5, .own 40 0), (6, I z1), (8, .ba 64 0), (10, LL a266 p0), (11, I (lenL p0)), (12, I z0.2.2)] [(40, RR 267 2 a266 z0.1 0 false), (64, .box [I x1.f0, I x1.f1] false)] 88)) (fun (x : (Int × Bool)) => (.exit 2, (mkE [(1, LL a266 p1), (5, .own 40 0), (6, I x.1), (8, .ba 64 0), (10, LL a266 p0), (11, I (lenL p0)), (12, I z0.2.2), (29, B x.2)] [(40, RR 267 2 a266 z0.1 0 false), (64, .box [I x1.f0, I x1.f1] false)] 88))) z0.2.1 (fun z => L252_6_ok C p0 p1 z0 x1 z) ?_
    intro y3
    refine pH ?_
    refine pN ?_
    refine pS ?_
    refine gS 14 ?_
    refine gS 9 ?_
    refine gR 8 (rg Try.f252 8) ?_
    refine se (mkE [(1, LL a266 p1), (5, .own 40 0), (6, I y3.1), (8, .ba 64 0), (9, I y3.1), (10, LL a266 p0), (11, I (lenL p0)), (12, I z0.2.2)] [(40, RR 267 2 a266 z0.1 0 false), (64, .box [I x1.f0, I x1.f1] false)] 88) ?_
    refine pN ?_
    refine pS ?_
    refine gB 4 ?_
    refine lo [(1, none), (5, some (267, 2)), (6, none), (8, none), (9, none), (10, none), (11, none), (12, none)] [] (L252_9 p0 p1 z0 x1 y3) (fun z2 : ((List S266) × Int × Int) => (mkE [(1, LL a266 p1), (5, .own 40 0), (6, I y3.1), (8, .ba 64 0), (9, I z2.2.2), (10, LL a266 p0), (11, I (lenL p0)), (12, I z0.2.2)] [(40, RR 267 2 a266 z2.1 0 false), (64, .box [I z2.2.1, I x1.f1] false)] 88)) (fun (x : (Int × Bool × (List S266) × Int)) => (.exit 4, (mkE [(1, LL a266 p1), (5, .own 40 0), (6, I y3.1), (8, .ba 64 0), (9, I x.1), (10, LL a266 p0), (11, I (lenL p0)), (12, I z0.2.2), (46, B x.2.1)] [(40, RR 267 2 a266 x.2.2.1 0 false), (64, .box [I x.2.2.2, I x1.f1] false)] 88))) (z0.1, x1.f0, y3.1) (fun z => L252_9_ok C p0 p1 z0 x1 y3 z) ?_
    intro y10
    refine pH ?_
    refine pN ?_
    refine pS ?_
    refine gS 0 ?_
    refine gR 14 (rg Try.f252 14) ?_
    refine se (mkE [(1, LL a266 p1), (5, .own 40 0), (6, I y3.1), (8, .ba 64 0), (10, LL a266 p0), (11, I (lenL p0)), (12, I z0.2.2), (81, B (ltI y10.2.2.2 x1.f1))] [(40, RR 267 2 a266 y10.2.2.1 0 false), (64, .box [I y10.2.2.2, I x1.f1] false)] 88) ?_
    refine pN ?_
    refine pS ?_
    refine gC 81 (ltI y10.2.2.2 x1.f1) ?_ ?_
    · refine gR 15 (rg Try.f252 15) ?_
      refine sg 3 (mkE [(84, .own 672 0), (83, .agg [I y10.2.2.2, I x1.f1]), (82, .own 40 0), (1, LL a266 p1), (5, .own 40 0), (6, I y3.1), (8, .ba 64 0), (10, LL a266 p0), (11, I (lenL p0)), (12, I z0.2.2), (81, B (ltI y10.2.2.2 x1.f1))] [(672, RR 267 2 a266 ([(S266.mk y10.2.2.2 x1.f1)] : List S266) 0 false), (40, RR 267 2 a266 y10.2.2.1 0 false), (64, .box [I y10.2.2.2, I x1.f1] false)] 88) ?_
      refine mo (some 85) (apO 262 267 2 16 40 a266 0 [672] (y := .own 672 0) (l2 := ([(S266.mk y10.2.2.2 x1.f1)] : List S266))) (fun x11 => ?_)
      refine se (mkE [(1, LL a266 p1), (5, .own 40 1), (6, I y3.1), (10, LL a266 p0), (11, I (lenL p0)), (12, I z0.2.2)] [(40, RR 267 2 a266 x11 1 false)] 88) ?_
      refine pB ?_
      refine pN ?_
      refine pS ?_
      refine gR 16 (rg Try.f252 16) ?_
      refine se (mkE [(1, LL a266 p1), (5, .own 40 1), (6, I y3.1), (10, LL a266 p0), (11, I (lenL p0)), (12, I (addI .i64 z0.2.2 1))] [(40, RR 267 2 a266 x11 1 false)] 88) ?_
      exact pL
    · refine gK ?_
      refine pB ?_
      refine pN ?_
      refine pS ?_
      refine gR 16 (rg Try.f252 16) ?_
      refine se (mkE [(1, LL a266 p1), (5, .own 40 0), (6, I y3.1), (10, LL a266 p0), (11, I (lenL p0)), (12, I (addI .i64 z0.2.2 1))] [(40, RR 267 2 a266 y10.2.2.1 0 false)] 88) ?_
      exact pL
  · refine gX 0 ?_
    exact pL
noncomputable def T252 (p0 : (List S266)) (p1 : (List S266)) : Option (List S266) := ((iter (L252_4 p0 p1) ([], 0, 0)).bind fun y12 => (some y12.2.2.2))
theorem B252 (C : Callee) (p0 : (List S266)) (p1 : (List S266)) : runs Try.prog C (cfg.fn 252) (finFn Try.prog (cfg.fn 252).byval Try.f252) [] (execA Try.prog C (cfg.fn 252) (nr Try.f252 []) (frame0 [LL a266 p0, LL a266 p1] 88 false)) = (T252 p0 p1).map (fun l => AV.fr 267 2 (List.map a266 l)) := by
  unfold T252
  refine gS 1 ?_
  refine gR 0 (rg Try.f252 0) ?_
  refine se (mkE [(0, LL a266 p0), (1, LL a266 p1)] [] 88) ?_
  refine pN ?_
  refine pS ?_
  refine gS 2 ?_
  refine gR 1 (rg Try.f252 1) ?_
  refine se (mkE [(0, LL a266 p0), (1, LL a266 p1), (5, .nils)] [] 88) ?_
  refine pN ?_
  refine pS ?_
  refine gS 3 ?_
  refine gR 2 (rg Try.f252 2) ?_
  refine se (mkE [(0, LL a266 p0), (1, LL a266 p1), (5, .nils), (6, I 0)] [] 88) ?_
  refine pN ?_
  refine pS ?_
  refine gS 17 ?_
  refine gS 4 ?_
  refine gR 3 (rg Try.f252 3) ?_
  refine sg 1 (mkE [(10, LL a266 p0), (0, LL a266 p0), (1, LL a266 p1), (5, .nils), (6, I 0)] [] 88) ?_
  refine eo 11 (I (lenL p0)) (lenE 262 a266 p0) ?_
  refine se (mkE [(1, LL a266 p1), (5, .nils), (6, I 0), (10, LL a266 p0), (11, I (lenL p0)), (12, I 0)] [] 88) ?_
  refine pN ?_
  refine pS ?_
  refine gB 0 ?_
  refine lo [(1, none), (5, some (267, 2)), (6, none), (10, none), (11, none), (12, none)] [] (L252_4 p0 p1) (fun z0 : ((List S266) × Int × Int) => (mkE [(1, LL a266 p1), (5, .own 40 0), (6, I z0.2.1), (10, LL a266 p0), (11, I (lenL p0)), (12, I z0.2.2)] [(40, RR 267 2 a266 z0.1 0 false)] 88)) (fun (x : (Int × Int × Bool × (List S266))) => (.exit 0, (mkE [(1, LL a266 p1), (5, .own 40 0), (6, I x.1), (10, LL a266 p0), (11, I (lenL p0)), (12, I x.2.1), (13, B x.2.2.1)] [(40, RR 267 2 a266 x.2.2.2 0 false)] 88))) ([], 0, 0) (fun z => L252_4_ok C p0 p1 z) ?_
  intro y12
  refine pH ?_
  refine pN ?_
  refine pS ?_
  refine gS 0 ?_
  refine gR 17 (rg Try.f252 17) ?_
  refine se (mkE [(4, .own 40 0)] [(40, RR 267 2 a266 y12.2.2.2 0 false)] 88) ?_
  refine pN ?_
  refine pS ?_
  refine gE ?_
  exact pL
theorem F252 (m : Nat) (hm : 1 ≤ m) (p0 : (List S266)) (p1 : (List S266)) : callA Try.prog cfg m 252 [LL a266 p0, LL a266 p1] = (T252 p0 p1).map (fun l => AV.fr 267 2 (List.map a266 l)) := by
  obtain ⟨q, rfl⟩ : ∃ q, m = q + 1 := ⟨m - 1, by omega⟩
  exact (callA_body (fn := Try.f252) (c := body_ Try.f252) q _ (by kernel_rfl) (by kernel_rfl) (by kernel_rfl)).trans (B252 _ p0 p1)

noncomputable def L254_4 (p0 : (List S266)) (p1 : (List S266)) (z0 : Int) : Option (Int ⊕ ((Int × Bool) ⊕ Unit)) := (bif (ltI z0 (lenL p0)) then ((listAt p0 z0).bind fun x1 => ((listAt p1 z0).bind fun x2 => (bif (!allB [eqI x1.f0 x2.f0, eqI x1.f1 x2.f1]) then (some (.inr (.inr ()))) else (some (.inl (addI .i64 z0 1)))))) else (some (.inr (.inl (z0, (ltI z0 (lenL p0)))))))
theorem L254_4_ok (C : Callee) (p0 : (List S266)) (p1 : (List S266)) (z0 : Int) : runs Try.prog C (cfg.fn 254) (finLoop ((cfg.fn 254).keep 4) ((cfg.fn 254).al 4)) [] (execA Try.prog C (cfg.fn 254) (nr Try.f254 [false, false, true, false, true, true]) ((fun z0 : Int => (mkE [(0, LL a266 p0), (1, LL a266 p1), (12, I (lenL p0)), (13, I z0)] [] 26)) z0)) = (L254_4 p0 p1 z0).map (Sum.elim (fun z => .inl ((fun z0 : Int => (mkE [(0, LL a266 p0), (1, LL a266 p1), (12, I (lenL p0)), (13, I z0)] [] 26)) z)) (fun x => .inr ((Sum.elim (fun (x : (Int × Bool)) => (.exit 0, (mkE [(0, LL a266 p0), (1, LL a266 p1), (12, I (lenL p0)), (13, I x.1), (14, B x.2)] [] 26))) (fun (x : Unit) => (.ret, (mkE [(4, B false)] [] 26)))) x))) := by
  unfold L254_4
  refine gS 0 ?_
  refine gR 4 (rg Try.f254 4) ?_
  refine se (mkE [(0, LL a266 p0), (1, LL a266 p1), (12, I (lenL p0)), (13, I z0), (14, B (ltI z0 (lenL p0)))] [] 26) ?_
  refine pN ?_
  refine pS ?_
  refine gS 5 ?_
  refine gC 14 (ltI z0 (lenL p0)) ?_ ?_
  · refine gK ?_
    refine pN ?_
    refine pS ?_
    refine gS 8 ?_
    refine gB 1 ?_
    refine gS 6 ?_
    refine gR 5 (rg Try.f254 5) ?_
    refine se (mkE [(0, LL a266 p0), (1, LL a266 p1), (5, I z0), (12, I (lenL p0)), (13, I z0)] [] 26) ?_
    refine pN ?_
    refine pS ?_
    refine gS 0 ?_
    refine gD 6 9 (rg Try.f254 6) [0, 1, 2, 3, 4, 5, 6, 7, 8] ?_
    refine dg 2 [(some 16, qe (LL a266 p0)), (some 17, qe (I z0))] ?_
    refine dv 18 (mkE [(17, I z0), (16, LL a266 p0), (0, LL a266 p0), (1, LL a266 p1), (5, I z0), (12, I (lenL p0)), (13, I z0)] [] 26) (addrE 262 267 2 a266 .i64 p0 z0) (fun x1 => ?_)
    refine dg 6 [(some 16, qe (LL a266 p0)), (some 17, qe (I z0)), (some 18, qe (.ia [I x1.f0, I x1.f1] 0)), (some 19, qe (a266 x1)), (some 20, qe (LL a266 p1)), (some 21, qe (I z0))] ?_
    refine dv 22 (mkE [(21, I z0), (20, LL a266 p1), (0, LL a266 p0), (1, LL a266 p1), (5, I z0), (12, I (lenL p0)), (13, I z0)] [] 26) (addrE 262 267 2 a266 .i64 p1 z0) (fun x2 => ?_)
    refine dg 8 [(some 16, qe (LL a266 p0)), (some 17, qe (I z0)), (some 18, qe (.ia [I x1.f0, I x1.f1] 0)), (some 19, qe (a266 x1)), (some 20, qe (LL a266 p1)), (some 21, qe (I z0)), (some 22, qe (.ia [I x2.f0, I x2.f1] 0)), (some 23, qe (a266 x2))] ?_
    refine df 24 (B (!allB [eqI x1.f0 x2.f0, eqI x1.f1 x2.f1])) (mkE [(23, a266 x2), (22, .ia [I x2.f0, I x2.f1] 0), (21, I z0), (20, LL a266 p1), (19, a266 x1), (18, .ia [I x1.f0, I x1.f1] 0), (17, I z0), (16, LL a266 p0), (0, LL a266 p0), (1, LL a266 p1), (5, I z0), (12, I (lenL p0)), (13, I z0)] [] 26) (neqE 267 (.tmp 19) (.tmp 23) [I x1.f0, I x1.f1] [I x2.f0, I x2.f1] [.int .i64 x1.f0, .int .i64 x1.f1] [.int .i64 x2.f0, .int .i64 x2.f1] [eqI x1.f0 x2.f0, eqI x1.f1 x2.f1]) ?_
    refine de (mkE [(24, B (!allB [eqI x1.f0 x2.f0, eqI x1.f1 x2.f1])), (23, a266 x2), (22, .ia [I x2.f0, I x2.f1] 0), (21, I z0), (20, LL a266 p1), (19, a266 x1), (18, .ia [I x1.f0, I x1.f1] 0), (17, I z0), (16, LL a266 p0), (0, LL a266 p0), (1, LL a266 p1), (5, I z0), (12, I (lenL p0)), (13, I z0)] [] 26) ?_
    refine se (mkE [(0, LL a266 p0), (1, LL a266 p1), (12, I (lenL p0)), (13, I z0), (24, B (!allB [eqI x1.f0 x2.f0, eqI x1.f1 x2.f1]))] [] 26) ?_
    refine pN ?_
    refine pS ?_
    refine gC 24 (!allB [eqI x1.f0 x2.f0, eqI x1.f1 x2.f1]) ?_ ?_
    · refine gS 0 ?_
      refine gR 7 (rg Try.f254 7) ?_
      refine se (mkE [(4, B false)] [] 26) ?_
      refine pN ?_
      refine pS ?_
      refine gE ?_
      exact pL
    · refine gK ?_
      refine pB ?_
      refine pN ?_
      refine pS ?_
      refine gR 8 (rg Try.f254 8) ?_
      refine se (mkE [(0, LL a266 p0), (1, LL a266 p1), (12, I (lenL p0)), (13, I (addI .i64 z0 1))] [] 26) ?_
      exact pL
  · refine gX 0 ?_
    exact pL
noncomputable def T254 (p0 : (List S266)) (p1 : (List S266)) : Option Bool := (bif (neI (lenL p0) (lenL p1)) then (some false) else ((iter (L254_4 p0 p1) 0).bind fun y3 => (Sum.elim (fun y3a => (some true)) (fun y3b => (some false)) y3)))
theorem B254 (C : Callee) (p0 : (List S266)) (p1 : (List S266)) : runs Try.prog C (cfg.fn 254) (finFn Try.prog (cfg.fn 254).byval Try.f254) [] (execA Try.prog C (cfg.fn 254) (nr Try.f254 []) (frame0 [LL a266 p0, LL a266 p1] 26 false)) = (T254 p0 p1).map B := by
  unfold T254
  refine gS 1 ?_
  refine gR 0 (rg Try.f254 0) ?_
  refine se (mkE [(0, LL a266 p0), (1, LL a266 p1)] [] 26) ?_
  refine pN ?_
  refine pS ?_
  refine gS 3 ?_
  refine gS 0 ?_
  refine gR 1 (rg Try.f254 1) ?_
  refine sg 1 (mkE [(6, LL a266 p0), (0, LL a266 p0), (1, LL a266 p1)] [] 26) ?_
  refine eo 7 (I (lenL p0)) (lenE 262 a266 p0) ?_
  refine sg 3 (mkE [(8, LL a266 p1), (7, I (lenL p0)), (6, LL a266 p0), (0, LL a266 p0), (1, LL a266 p1)] [] 26) ?_
  refine eo 9 (I (lenL p1)) (lenE 262 a266 p1) ?_
  refine se (mkE [(0, LL a266 p0), (1, LL a266 p1), (10, B (neI (lenL p0) (lenL p1)))] [] 26) ?_
  refine pN ?_
  refine pS ?_
  refine gC 10 (neI (lenL p0) (lenL p1)) ?_ ?_
  · refine gS 0 ?_
    refine gR 2 (rg Try.f254 2) ?_
    refine se (mkE [(4, B false)] [] 26) ?_
    refine pN ?_
    refine pS ?_
    refine gE ?_
    exact pL
  · refine gK ?_
    refine pN ?_
    refine pS ?_
    refine gS 9 ?_
    refine gS 4 ?_
    refine gR 3 (rg Try.f254 3) ?_
    refine sg 1 (mkE [(11, LL a266 p0), (0, LL a266 p0), (1, LL a266 p1), (10, B (neI (lenL p0) (lenL p1)))] [] 26) ?_
    refine eo 12 (I (lenL p0)) (lenE 262 a266 p0) ?_
    refine se (mkE [(0, LL a266 p0), (1, LL a266 p1), (12, I (lenL p0)), (13, I 0)] [] 26) ?_
    refine pN ?_
    refine pS ?_
    refine gB 0 ?_
    refine lo [(0, none), (1, none), (12, none), (13, none)] [] (L254_4 p0 p1) (fun z0 : Int => (mkE [(0, LL a266 p0), (1, LL a266 p1), (12, I (lenL p0)), (13, I z0)] [] 26)) (Sum.elim (fun (x : (Int × Bool)) => (.exit 0, (mkE [(0, LL a266 p0), (1, LL a266 p1), (12, I (lenL p0)), (13, I x.1), (14, B x.2)] [] 26))) (fun (x : Unit) => (.ret, (mkE [(4, B false)] [] 26)))) 0 (fun z => L254_4_ok C p0 p1 z) ?_
    intro y3
    refine ss y3 (Z := (Sum.elim (fun (x : (Int × Bool)) => (.exit 0, (mkE [(0, LL a266 p0), (1, LL a266 p1), (12, I (lenL p0)), (13, I x.1), (14, B x.2)] [] 26))) (fun (x : Unit) => (.ret, (mkE [(4, B false)] [] 26))))) (fun y3a => ?_) (fun y3b => ?_)
    · refine pH ?_
      refine pN ?_
      refine pS ?_
      refine gS 0 ?_
      refine gR 9 (rg Try.f254 9) ?_
      refine se (mkE [(4, B true)] [] 26) ?_
      refine pN ?_
      refine pS ?_
      refine gE ?_
      exact pL
    · exact pL
theorem F254 (m : Nat) (hm : 1 ≤ m) (p0 : (List S266)) (p1 : (List S266)) : callA Try.prog cfg m 254 [LL a266 p0, LL a266 p1] = (T254 p0 p1).map B := by
  obtain ⟨q, rfl⟩ : ∃ q, m = q + 1 := ⟨m - 1, by omega⟩
  exact (callA_body (fn := Try.f254) (c := body_ Try.f254) q _ (by kernel_rfl) (by kernel_rfl) (by kernel_rfl)).trans (B254 _ p0 p1)

noncomputable def L213_3 (p0 : (List S63)) (p1 : (List S63)) (x1 : (List S63)) (z0 : ((List Int) × (List S63) × Int)) : Option (((List Int) × (List S63) × Int) ⊕ (Int × Bool × (List Int) × (List S63))) := (bif (ltI z0.2.2 (lenL x1)) then ((idxO (List.length z0.2.1) z0.2.2).bind fun x2 => ((getN z0.2.1 x2).bind fun x3 => ((appO 8 z0.1 ([x3.f1, (addI .i64 x3.f1 x3.f3)] : List Int)).bind fun x4 => (some (.inl (x4, z0.2.1, (addI .i64 z0.2.2 1))))))) else (some (.inr (z0.2.2, (ltI z0.2.2 (lenL x1)), z0.1, z0.2.1))))
theorem L213_3_ok (C : Callee) (p0 : (List S63)) (p1 : (List S63)) (x1 : (List S63)) (z0 : ((List Int) × (List S63) × Int)) : runs Try.prog C (cfg.fn 213) (finLoop ((cfg.fn 213).keep 3) ((cfg.fn 213).al 3)) [] (execA Try.prog C (cfg.fn 213) (nr Try.f213 [false, false, true, false, true, true]) ((fun z0 : ((List Int) × (List S63) × Int) => (mkE [(0, LL a63 p0), (1, LL a63 p1), (5, .own 40 0), (19, .own 152 0), (20, I (lenL x1)), (21, I z0.2.2)] [(40, RR 3 1 I z0.1 0 false), (152, RR 64 4 a63 z0.2.1 0 false)] 88)) z0)) = (L213_3 p0 p1 x1 z0).map (Sum.elim (fun z => .inl ((fun z0 : ((List Int) × (List S63) × Int) => (mkE [(0, LL a63 p0), (1, LL a63 p1), (5, .own 40 0), (19, .own 152 0), (20, I (lenL x1)), (21, I z0.2.2)] [(40, RR 3 1 I z0.1 0 false), (152, RR 64 4 a63 z0.2.1 0 false)] 88)) z)) (fun x => .inr ((fun (x : (Int × Bool × (List Int) × (List S63))) => (.exit 0, (mkE [(0, LL a63 p0), (1, LL a63 p1), (5, .own 40 0), (19, .own 152 0), (20, I (lenL x1)), (21, I x.1), (22, B x.2.1)] [(40, RR 3 1 I x.2.2.1 0 false), (152, RR 64 4 a63 x.2.2.2 0 false)] 88))) x))) := by
  unfold L213_3
  refine gS 0 ?_
  refine gR 3 (rg Try.f213 3) ?_
  refine se (mkE [(0, LL a63 p0), (1, LL a63 p1), (5, .own 40 0), (19, .own 152 0), (20, I (lenL x1)), (21, I z0.2.2), (22, B (ltI z0.2.2 (lenL x1)))] [(40, RR 3 1 I z0.1 0 false), (152, RR 64 4 a63 z0.2.1 0 false)] 88) ?_
  refine pN ?_
  refine pS ?_
  refine gS 4 ?_
  refine gC 22 (ltI z0.2.2 (lenL x1)) ?_ ?_
  · refine gK ?_
    refine pN ?_
    refine pS ?_
    refine gS 6 ?_
    refine gB 1 ?_
    refine gS 5 ?_
    refine gR 4 (rg Try.f213 4) ?_
    refine vo 23 (addrOE 65 64 4 152 0 false a63 .i64 z0.2.1 z0.2.2) (fun x2 => ?_)
    refine vo 24 (loadOE 64 152 0 x2 0 64 4 4 true false a63 (fun q : S63 => a63 q) z0.2.1) (fun x3 => ?_)
    refine se (mkE [(0, LL a63 p0), (1, LL a63 p1), (5, .own 40 0), (7, .ba 56 0), (19, .own 152 0), (20, I (lenL x1)), (21, I z0.2.2)] [(40, RR 3 1 I z0.1 0 false), (56, .box [I x3.f0, I x3.f1, I x3.f2, I x3.f3] false), (152, RR 64 4 a63 z0.2.1 0 false)] 88) ?_
    refine pN ?_
    refine pS ?_
    refine gR 5 (rg Try.f213 5) ?_
    refine sg 9 (mkE [(33, .own 264 0), (32, I (addI .i64 x3.f1 x3.f3)), (31, I x3.f3), (30, .ba 56 3), (29, I x3.f1), (28, .ba 56 1), (27, I x3.f1), (26, .ba 56 1), (25, .own 40 0), (0, LL a63 p0), (1, LL a63 p1), (5, .own 40 0), (7, .ba 56 0), (19, .own 152 0), (20, I (lenL x1)), (21, I z0.2.2)] [(264, RR 3 1 I ([x3.f1, (addI .i64 x3.f1 x3.f3)] : List Int) 0 false), (40, RR 3 1 I z0.1 0 false), (56, .box [I x3.f0, I x3.f1, I x3.f2, I x3.f3] false), (152, RR 64 4 a63 z0.2.1 0 false)] 88) ?_
    refine mo (some 34) (apO 104 3 1 8 40 I 0 [264] (y := .own 264 0) (l2 := ([x3.f1, (addI .i64 x3.f1 x3.f3)] : List Int))) (fun x4 => ?_)
    refine se (mkE [(0, LL a63 p0), (1, LL a63 p1), (5, .own 40 1), (19, .own 152 0), (20, I (lenL x1)), (21, I z0.2.2)] [(40, RR 3 1 I x4 1 false), (152, RR 64 4 a63 z0.2.1 0 false)] 88) ?_
    refine pB ?_
    refine pN ?_
    refine pS ?_
    refine gR 6 (rg Try.f213 6) ?_
    refine se (mkE [(0, LL a63 p0), (1, LL a63 p1), (5, .own 40 1), (19, .own 152 0), (20, I (lenL x1)), (21, I (addI .i64 z0.2.2 1))] [(40, RR 3 1 I x4 1 false), (152, RR 64 4 a63 z0.2.1 0 false)] 88) ?_
    exact pL
  · refine gX 0 ?_
    exact pL
noncomputable def L213_20 (p0 : (List S63)) (p1 : (List S63)) (x7 : (List Int)) (z1 : ((List Int) × (List S63) × (List S266) × Int × Int)) (x9 : Int) (x12 : (List S266)) (z2 : ((List Int) × (List S63) × Int)) : Option (((List Int) × (List S63) × Int) ⊕ (Int × Bool × (List Int) × (List S63))) := (bif (ltI z2.2.2 (lenL z1.2.2.1)) then ((listAt z1.2.2.1 z2.2.2).bind fun x14 => ((appO 32 z2.2.1 ([(S63.mk x14.f0 z1.2.2.2.1 (subI .i64 x14.f1 x14.f0) (subI .i64 x9 z1.2.2.2.1))] : List S63)).bind fun x15 => (some (.inl (z2.1, x15, (addI .i64 z2.2.2 1)))))) else (some (.inr (z2.2.2, (ltI z2.2.2 (lenL z1.2.2.1)), z2.1, z2.2.1))))
theorem L213_20_ok (C : Callee) (p0 : (List S63)) (p1 : (List S63)) (x7 : (List Int)) (z1 : ((List Int) × (List S63) × (List S266) × Int × Int)) (x9 : Int) (x12 : (List S266)) (z2 : ((List Int) × (List S63) × Int)) : runs Try.prog C (cfg.fn 213) (finLoop ((cfg.fn 213).keep 20) ((cfg.fn 213).al 20)) [] (execA Try.prog C (cfg.fn 213) (nr Try.f213 [false, false, true, false, true, true, true, true, false, false, true, true, false, false, true, false, true, true, true, true, true, true, true, true]) ((fun z2 : ((List Int) × (List S63) × Int) => (mkE [(40, .own 40 0), (0, LL a63 p0), (1, LL a63 p1), (5, .own 40 0), (8, .own 64 0), (10, I z1.2.2.2.1), (12, I x9), (13, LL a266 x12), (41, I (lenL x7)), (42, I z1.2.2.2.2), (62, LL a266 z1.2.2.1), (63, I (lenL z1.2.2.1)), (64, I z2.2.2)] [(40, RR 3 1 I z2.1 0 false), (64, RR 64 4 a63 z2.2.1 0 false)] 88)) z2)) = (L213_20 p0 p1 x7 z1 x9 x12 z2).map (Sum.elim (fun z => .inl ((fun z2 : ((List Int) × (List S63) × Int) => (mkE [(40, .own 40 0), (0, LL a63 p0), (1, LL a63 p1), (5, .own 40 0), (8, .own 64 0), (10, I z1.2.2.2.1), (12, I x9), (13, LL a266 x12), (41, I (lenL x7)), (42, I z1.2.2.2.2), (62, LL a266 z1.2.2.1), (63, I (lenL z1.2.2.1)), (64, I z2.2.2)] [(40, RR 3 1 I z2.1 0 false), (64, RR 64 4 a63 z2.2.1 0 false)] 88)) z)) (fun x => .inr ((fun (x : (Int × Bool × (List Int) × (List S63))) => (.exit 4, (mkE [(0, LL a63 p0), (1, LL a63 p1), (5, .own 40 0), (8, .own 64 0), (10, I z1.2.2.2.1), (12, I x9), (13, LL a266 x12), (40, .own 40 0), (41, I (lenL x7)), (42, I z1.2.2.2.2), (62, LL a266 z1.2.2.1), (63, I (lenL z1.2.2.1)), (64, I x.1), (65, B x.2.1)] [(40, RR 3 1 I x.2.2.1 0 false), (64, RR 64 4 a63 x.2.2.2 0 false)] 88))) x))) := by
  unfold L213_20
  refine gS 0 ?_
  refine gR 20 (rg Try.f213 20) ?_
  refine se (mkE [(0, LL a63 p0), (1, LL a63 p1), (5, .own 40 0), (8, .own 64 0), (10, I z1.2.2.2.1), (12, I x9), (13, LL a266 x12), (40, .own 40 0), (41, I (lenL x7)), (42, I z1.2.2.2.2), (62, LL a266 z1.2.2.1), (63, I (lenL z1.2.2.1)), (64, I z2.2.2), (65, B (ltI z2.2.2 (lenL z1.2.2.1)))] [(40, RR 3 1 I z2.1 0 false), (64, RR 64 4 a63 z2.2.1 0 false)] 88) ?_
  refine pN ?_
  refine pS ?_
  refine gS 21 ?_
  refine gC 65 (ltI z2.2.2 (lenL z1.2.2.1)) ?_ ?_
  · refine gK ?_
    refine pN ?_
    refine pS ?_
    refine gS 23 ?_
    refine gB 5 ?_
    refine gS 22 ?_
    refine gR 21 (rg Try.f213 21) ?_
    refine vo 66 (addrE 262 267 2 a266 .i64 z1.2.2.1 z2.2.2) (fun x14 => ?_)
    refine se (mkE [(0, LL a63 p0), (1, LL a63 p1), (5, .own 40 0), (8, .own 64 0), (10, I z1.2.2.2.1), (12, I x9), (13, LL a266 x12), (15, .ba 120 0), (40, .own 40 0), (41, I (lenL x7)), (42, I z1.2.2.2.2), (62, LL a266 z1.2.2.1), (63, I (lenL z1.2.2.1)), (64, I z2.2.2)] [(40, RR 3 1 I z2.1 0 false), (64, RR 64 4 a63 z2.2.1 0 false), (120, .box [I x14.f0, I x14.f1] false)] 88) ?_
    refine pN ?_
    refine pS ?_
    refine gR 22 (rg Try.f213 22) ?_
    refine sg 14 (mkE [(81, .own 648 0), (80, .agg [I x14.f0, I z1.2.2.2.1, I (subI .i64 x14.f1 x14.f0), I (subI .i64 x9 z1.2.2.2.1)]), (79, I (subI .i64 x9 z1.2.2.2.1)), (78, I z1.2.2.2.1), (77, I x9), (76, I (subI .i64 x14.f1 x14.f0)), (75, I x14.f0), (74, .ba 120 0), (73, I x14.f1), (72, .ba 120 1), (71, I z1.2.2.2.1), (70, I x14.f0), (69, .ba 120 0), (68, .own 64 0), (0, LL a63 p0), (1, LL a63 p1), (5, .own 40 0), (8, .own 64 0), (10, I z1.2.2.2.1), (12, I x9), (13, LL a266 x12), (15, .ba 120 0), (40, .own 40 0), (41, I (lenL x7)), (42, I z1.2.2.2.2), (62, LL a266 z1.2.2.1), (63, I (lenL z1.2.2.1)), (64, I z2.2.2)] [(648, RR 64 4 a63 ([(S63.mk x14.f0 z1.2.2.2.1 (subI .i64 x14.f1 x14.f0) (subI .i64 x9 z1.2.2.2.1))] : List S63) 0 false), (40, RR 3 1 I z2.1 0 false), (64, RR 64 4 a63 z2.2.1 0 false), (120, .box [I x14.f0, I x14.f1] false)] 88) ?_
    refine mo (some 82) (apO 65 64 4 32 64 a63 0 [648] (y := .own 648 0) (l2 := ([(S63.mk x14.f0 z1.2.2.2.1 (subI .i64 x14.f1 x14.f0) (subI .i64 x9 z1.2.2.2.1))] : List S63))) (fun x15 => ?_)
    refine se (mkE [(0, LL a63 p0), (1, LL a63 p1), (5, .own 40 0), (8, .own 64 1), (10, I z1.2.2.2.1), (12, I x9), (13, LL a266 x12), (40, .own 40 0), (41, I (lenL x7)), (42, I z1.2.2.2.2), (62, LL a266 z1.2.2.1), (63, I (lenL z1.2.2.1)), (64, I z2.2.2)] [(40, RR 3 1 I z2.1 0 false), (64, RR 64 4 a63 x15 1 false)] 88) ?_
    refine pB ?_
    refine pN ?_
    refine pS ?_
    refine gR 23 (rg Try.f213 23) ?_
    refine se (mkE [(0, LL a63 p0), (1, LL a63 p1), (5, .own 40 0), (8, .own 64 1), (10, I z1.2.2.2.1), (12, I x9), (13, LL a266 x12), (40, .own 40 0), (41, I (lenL x7)), (42, I z1.2.2.2.2), (62, LL a266 z1.2.2.1), (63, I (lenL z1.2.2.1)), (64, I (addI .i64 z2.2.2 1))] [(40, RR 3 1 I z2.1 0 false), (64, RR 64 4 a63 x15 1 false)] 88) ?_
    exact pL
  · refine gX 4 ?_
    exact pL
noncomputable def L213_20_v1 (p0 : (List S63)) (p1 : (List S63)) (x7 : (List Int)) (z1 : ((List Int) × (List S63) × (List S266) × Int × Int)) (x9 : Int) (z2 : ((List Int) × (List S63) × Int)) : Option (((List Int) × (List S63) × Int) ⊕ (Int × Bool × (List Int) × (List S63))) := (bif (ltI z2.2.2 (lenL z1.2.2.1)) then ((listAt z1.2.2.1 z2.2.2).bind fun x18 => ((appO 32 z2.2.1 ([(S63.mk x18.f0 z1.2.2.2.1 (subI .i64 x18.f1 x18.f0) (subI .i64 x9 z1.2.2.2.1))] : List S63)).bind fun x19 => (some (.inl (z2.1, x19, (addI .i64 z2.2.2 1)))))) else (some (.inr (z2.2.2, (ltI z2.2.2 (lenL z1.2.2.1)), z2.1, z2.2.1))))
theorem L213_20_v1_ok (C : Callee) (p0 : (List S63)) (p1 : (List S63)) (x7 : (List Int)) (z1 : ((List Int) × (List S63) × (List S266) × Int × Int)) (x9 : Int) (z2 : ((List Int) × (List S63) × Int)) : runs Try.prog C (cfg.fn 213) (finLoop ((cfg.fn 213).keep 20) ((cfg.fn 213).al 20)) [] (execA Try.prog C (cfg.fn 213) (nr Try.f213 [false, false, true, false, true, true, true, true, false, false, true, true, false, false, true, false, true, true, true, true, true, true, true, true]) ((fun z2 : ((List Int) × (List S63) × Int) => (mkE [(40, .own 40 0), (0, LL a63 p0), (1, LL a63 p1), (5, .own 40 0), (8, .own 64 0), (10, I z1.2.2.2.1), (12, I x9), (13, LL a266 ([] : List S266)), (41, I (lenL x7)), (42, I z1.2.2.2.2), (62, LL a266 z1.2.2.1), (63, I (lenL z1.2.2.1)), (64, I z2.2.2)] [(40, RR 3 1 I z2.1 0 false), (64, RR 64 4 a63 z2.2.1 0 false)] 88)) z2)) = (L213_20_v1 p0 p1 x7 z1 x9 z2).map (Sum.elim (fun z => .inl ((fun z2 : ((List Int) × (List S63) × Int) => (mkE [(40, .own 40 0), (0, LL a63 p0), (1, LL a63 p1), (5, .own 40 0), (8, .own 64 0), (10, I z1.2.2.2.1), (12, I x9), (13, LL a266 ([] : List S266)), (41, I (lenL x7)), (42, I z1.2.2.2.2), (62, LL a266 z1.2.2.1), (63, I (lenL z1.2.2.1)), (64, I z2.2.2)] [(40, RR 3 1 I z2.1 0 false), (64, RR 64 4 a63 z2.2.1 0 false)] 88)) z)) (fun x => .inr ((fun (x : (Int × Bool × (List Int) × (List S63))) => (.exit 4, (mkE [(0, LL a63 p0), (1, LL a63 p1), (5, .own 40 0), (8, .own 64 0), (10, I z1.2.2.2.1), (12, I x9), (13, LL a266 ([] : List S266)), (40, .own 40 0), (41, I (lenL x7)), (42, I z1.2.2.2.2), (62, LL a266 z1.2.2.1), (63, I (lenL z1.2.2.1)), (64, I x.1), (65, B x.2.1)] [(40, RR 3 1 I x.2.2.1 0 false), (64, RR 64 4 a63 x.2.2.2 0 false)] 88))) x))) := by
  unfold L213_20_v1
  refine gS 0 ?_
  refine gR 20 (rg Try.f213 20) ?_
  refine se (mkE [(0, LL a63 p0), (1, LL a63 p1), (5, .own 40 0), (8, .own 64 0), (10, I z1.2.2.2.1), (12, I x9), (13, LL a266 ([] : List S266)), (40, .own 40 0), (41, I (lenL x7)), (42, I z1.2.2.2.2), (62, LL a266 z1.2.2.1), (63, I (lenL z1.2.2.1)), (64, I z2.2.2), (65, B (ltI z2.2.2 (lenL z1.2.2.1)))] [(40, RR 3 1 I z2.1 0 false), (64, RR 64 4 a63 z2.2.1 0 false)] 88) ?_
  refine pN ?_
  refine pS ?_
  refine gS 21 ?_
  refine gC 65 (ltI z2.2.2 (lenL z1.2.2.1)) ?_ ?_
  · refine gK ?_
    refine pN ?_
    refine pS ?_
    refine gS 23 ?_
    refine gB 5 ?_
    refine gS 22 ?_
    refine gR 21 (rg Try.f213 21) ?_
    refine vo 66 (addrE 262 267 2 a266 .i64 z1.2.2.1 z2.2.2) (fun x18 => ?_)
    refine se (mkE [(0, LL a63 p0), (1, LL a63 p1), (5, .own 40 0), (8, .own 64 0), (10, I z1.2.2.2.1), (12, I x9), (13, LL a266 ([] : List S266)), (15, .ba 120 0), (40, .own 40 0), (41, I (lenL x7)), (42, I z1.2.2.2.2), (62, LL a266 z1.2.2.1), (63, I (lenL z1.2.2.1)), (64, I z2.2.2)] [(40, RR 3 1 I z2.1 0 false), (64, RR 64 4 a63 z2.2.1 0 false), (120, .box [I x18.f0, I x18.f1] false)] 88) ?_
    refine pN ?_
    refine pS ?_
    refine gR 22 (rg Try.f213 22) ?_
    refine sg 14 (mkE [(81, .own 648 0), (80, .agg [I x18.f0, I z1.2.2.2.1, I (subI .i64 x18.f1 x18.f0), I (subI .i64 x9 z1.2.2.2.1)]), (79, I (subI .i64 x9 z1.2.2.2.1)), (78, I z1.2.2.2.1), (77, I x9), (76, I (subI .i64 x18.f1 x18.f0)), (75, I x18.f0), (74, .ba 120 0), (73, I x18.f1), (72, .ba 120 1), (71, I z1.2.2.2.1), (70, I x18.f0), (69, .ba 120 0), (68, .own 64 0), (0, LL a63 p0), (1, LL a63 p1), (5, .own 40 0), (8, .own 64 0), (10, I z1.2.2.2.1), (12, I x9), (13, LL a266 ([] : List S266)), (15, .ba 120 0), (40, .own 40 0), (41, I (lenL x7)), (42, I z1.2.2.2.2), (62, LL a266 z1.2.2.1), (63, I (lenL z1.2.2.1)), (64, I z2.2.2)] [(648, RR 64 4 a63 ([(S63.mk x18.f0 z1.2.2.2.1 (subI .i64 x18.f1 x18.f0) (subI .i64 x9 z1.2.2.2.1))] : List S63) 0 false), (40, RR 3 1 I z2.1 0 false), (64, RR 64 4 a63 z2.2.1 0 false), (120, .box [I x18.f0, I x18.f1] false)] 88) ?_
    refine mo (some 82) (apO 65 64 4 32 64 a63 0 [648] (y := .own 648 0) (l2 := ([(S63.mk x18.f0 z1.2.2.2.1 (subI .i64 x18.f1 x18.f0) (subI .i64 x9 z1.2.2.2.1))] : List S63))) (fun x19 => ?_)
    refine se (mkE [(0, LL a63 p0), (1, LL a63 p1), (5, .own 40 0), (8, .own 64 1), (10, I z1.2.2.2.1), (12, I x9), (13, LL a266 ([] : List S266)), (40, .own 40 0), (41, I (lenL x7)), (42, I z1.2.2.2.2), (62, LL a266 z1.2.2.1), (63, I (lenL z1.2.2.1)), (64, I z2.2.2)] [(40, RR 3 1 I z2.1 0 false), (64, RR 64 4 a63 x19 1 false)] 88) ?_
    refine pB ?_
    refine pN ?_
    refine pS ?_
    refine gR 23 (rg Try.f213 23) ?_
    refine se (mkE [(0, LL a63 p0), (1, LL a63 p1), (5, .own 40 0), (8, .own 64 1), (10, I z1.2.2.2.1), (12, I x9), (13, LL a266 ([] : List S266)), (40, .own 40 0), (41, I (lenL x7)), (42, I z1.2.2.2.2), (62, LL a266 z1.2.2.1), (63, I (lenL z1.2.2.1)), (64, I (addI .i64 z2.2.2 1))] [(40, RR 3 1 I z2.1 0 false), (64, RR 64 4 a63 x19 1 false)] 88) ?_
    exact pL
  · refine gX 4 ?_
    exact pL
noncomputable def L213_13 (p0 : (List S63)) (p1 : (List S63)) (x7 : (List Int)) (z1 : ((List Int) × (List S63) × (List S266) × Int × Int)) : Option (((List Int) × (List S63) × (List S266) × Int × Int) ⊕ ((List S266) × Int × Int × Bool × (List Int) × (List S63))) := (bif (ltI z1.2.2.2.2 (lenL x7)) then ((idxO (List.length z1.1) z1.2.2.2.2).bind fun x8 => ((getN z1.1 x8).bind fun x9 => (bif (ltI (addI .i64 z1.2.2.2.2 1) (lenL z1.1)) then ((T253 p0 x9).bind fun x10 => ((T253 p1 x9).bind fun x11 => ((T252 x10 x11).bind fun x12 => ((T254 z1.2.2.1 x12).bind fun x13 => (bif x13 then (some (.inl (z1.1, z1.2.1, z1.2.2.1, z1.2.2.2.1, (addI .i64 z1.2.2.2.2 1)))) else ((iter (L213_20 p0 p1 x7 z1 x9 x12) (z1.1, z1.2.1, 0)).bind fun y16 => (some (.inl (y16.2.2.1, y16.2.2.2, x12, x9, (addI .i64 z1.2.2.2.2 1)))))))))) else ((T254 z1.2.2.1 []).bind fun x17 => (bif x17 then (some (.inl (z1.1, z1.2.1, z1.2.2.1, z1.2.2.2.1, (addI .i64 z1.2.2.2.2 1)))) else ((iter (L213_20_v1 p0 p1 x7 z1 x9) (z1.1, z1.2.1, 0)).bind fun y20 => (some (.inl (y20.2.2.1, y20.2.2.2, ([] : List S266), x9, (addI .i64 z1.2.2.2.2 1)))))))))) else (some (.inr (z1.2.2.1, z1.2.2.2.1, z1.2.2.2.2, (ltI z1.2.2.2.2 (lenL x7)), z1.1, z1.2.1))))
theorem L213_13_ok (C : Callee) (h252 : ∀ (p0 : (List S266)) (p1 : (List S266)), C 252 [LL a266 p0, LL a266 p1] = (T252 p0 p1).map (fun l => AV.fr 267 2 (List.map a266 l))) (h253 : ∀ (p0 : (List S63)) (p1 : Int), C 253 [LL a63 p0, I p1] = (T253 p0 p1).map (fun l => AV.fr 267 2 (List.map a266 l))) (h254 : ∀ (p0 : (List S266)) (p1 : (List S266)), C 254 [LL a266 p0, LL a266 p1] = (T254 p0 p1).map B) (p0 : (List S63)) (p1 : (List S63)) (x7 : (List Int)) (z1 : ((List Int) × (List S63) × (List S266) × Int × Int)) : runs Try.prog C (cfg.fn 213) (finLoop ((cfg.fn 213).keep 13) ((cfg.fn 213).al 13)) [] (execA Try.prog C (cfg.fn 213) (nr Try.f213 [false, false, true, false, true, true, true, true, true, true, true, true]) ((fun z1 : ((List Int) × (List S63) × (List S266) × Int × Int) => (mkE [(40, .own 40 0), (0, LL a63 p0), (1, LL a63 p1), (5, .own 40 0), (8, .own 64 0), (9, LL a266 z1.2.2.1), (10, I z1.2.2.2.1), (41, I (lenL x7)), (42, I z1.2.2.2.2)] [(40, RR 3 1 I z1.1 0 false), (64, RR 64 4 a63 z1.2.1 0 false)] 88)) z1)) = (L213_13 p0 p1 x7 z1).map (Sum.elim (fun z => .inl ((fun z1 : ((List Int) × (List S63) × (List S266) × Int × Int) => (mkE [(40, .own 40 0), (0, LL a63 p0), (1, LL a63 p1), (5, .own 40 0), (8, .own 64 0), (9, LL a266 z1.2.2.1), (10, I z1.2.2.2.1), (41, I (lenL x7)), (42, I z1.2.2.2.2)] [(40, RR 3 1 I z1.1 0 false), (64, RR 64 4 a63 z1.2.1 0 false)] 88)) z)) (fun x => .inr ((fun (x : ((List S266) × Int × Int × Bool × (List Int) × (List S63))) => (.exit 2, (mkE [(0, LL a63 p0), (1, LL a63 p1), (5, .own 40 0), (8, .own 64 0), (9, LL a266 x.1), (10, I x.2.1), (40, .own 40 0), (41, I (lenL x7)), (42, I x.2.2.1), (43, B x.2.2.2.1)] [(40, RR 3 1 I x.2.2.2.2.1 0 false), (64, RR 64 4 a63 x.2.2.2.2.2 0 false)] 88))) x))) := by
  unfold L213_13
  refine gS 0 ?_
  refine gR 13 (rg Try.f213 13) ?_
  refine se (mkE [(0, LL a63 p0), (1, LL a63 p1), (5, .own 40 0), (8, .own 64 0), (9, LL a266 z1.2.2.1), (10, I z1.2.2.2.1), (40, .own 40 0), (41, I (lenL x7)), (42, I z1.2.2.2.2), (43, B (ltI z1.2.2.2.2 (lenL x7)))] [(40, RR 3 1 I z1.1 0 false), (64, RR 64 4 a63 z1.2.1 0 false)] 88) ?_
  refine pN ?_
  refine pS ?_
  refine gS 14 ?_
  refine gC 43 (ltI z1.2.2.2.2 (lenL x7)) ?_ ?_
  · refine gK ?_
    refine pN ?_
    refine pS ?_
    refine gS 25 ?_
    refine gB 3 ?_
    refine gS 15 ?_
    refine gR 14 (rg Try.f213 14) ?_
    refine sg 1 (mkE [(44, I z1.2.2.2.2), (0, LL a63 p0), (1, LL a63 p1), (5, .own 40 0), (8, .own 64 0), (9, LL a266 z1.2.2.1), (10, I z1.2.2.2.1), (40, .own 40 0), (41, I (lenL x7)), (42, I z1.2.2.2.2), (43, B (ltI z1.2.2.2.2 (lenL x7)))] [(40, RR 3 1 I z1.1 0 false), (64, RR 64 4 a63 z1.2.1 0 false)] 88) ?_
    refine vo 45 (addrOE 104 3 1 40 0 false I .i64 z1.1 z1.2.2.2.2) (fun x8 => ?_)
    refine vo 46 (loadOE 3 40 0 x8 0 3 1 1 false false I (fun q : Int => I q) z1.1) (fun x9 => ?_)
    refine se (mkE [(0, LL a63 p0), (1, LL a63 p1), (5, .own 40 0), (8, .own 64 0), (9, LL a266 z1.2.2.1), (10, I z1.2.2.2.1), (11, I z1.2.2.2.2), (12, I x9), (40, .own 40 0), (41, I (lenL x7)), (42, I z1.2.2.2.2)] [(40, RR 3 1 I z1.1 0 false), (64, RR 64 4 a63 z1.2.1 0 false)] 88) ?_
    refine pN ?_
    refine pS ?_
    refine gS 16 ?_
    refine gR 15 (rg Try.f213 15) ?_
    refine se (mkE [(0, LL a63 p0), (1, LL a63 p1), (5, .own 40 0), (8, .own 64 0), (9, LL a266 z1.2.2.1), (10, I z1.2.2.2.1), (11, I z1.2.2.2.2), (12, I x9), (13, .nils), (40, .own 40 0), (41, I (lenL x7)), (42, I z1.2.2.2.2)] [(40, RR 3 1 I z1.1 0 false), (64, RR 64 4 a63 z1.2.1 0 false)] 88) ?_
    refine pN ?_
    refine pS ?_
    refine gS 18 ?_
    refine gS 0 ?_
    refine gR 16 (rg Try.f213 16) ?_
    refine sg 3 (mkE [(49, .own 40 0), (48, I (addI .i64 z1.2.2.2.2 1)), (47, I z1.2.2.2.2), (0, LL a63 p0), (1, LL a63 p1), (5, .own 40 0), (8, .own 64 0), (9, LL a266 z1.2.2.1), (10, I z1.2.2.2.1), (11, I z1.2.2.2.2), (12, I x9), (13, .nils), (40, .own 40 0), (41, I (lenL x7)), (42, I z1.2.2.2.2)] [(40, RR 3 1 I z1.1 0 false), (64, RR 64 4 a63 z1.2.1 0 false)] 88) ?_
    refine eo 50 (I (lenL z1.1)) (lenOE 104 3 1 I z1.1) ?_
    refine se (mkE [(0, LL a63 p0), (1, LL a63 p1), (5, .own 40 0), (8, .own 64 0), (9, LL a266 z1.2.2.1), (10, I z1.2.2.2.1), (12, I x9), (13, .nils), (40, .own 40 0), (41, I (lenL x7)), (42, I z1.2.2.2.2), (51, B (ltI (addI .i64 z1.2.2.2.2 1) (lenL z1.1)))] [(40, RR 3 1 I z1.1 0 false), (64, RR 64 4 a63 z1.2.1 0 false)] 88) ?_
    refine pN ?_
    refine pS ?_
    refine gC 51 (ltI (addI .i64 z1.2.2.2.2 1) (lenL z1.1)) ?_ ?_
    · refine gR 17 (rg Try.f213 17) ?_
      refine sg 2 (mkE [(53, I x9), (52, LL a63 p0), (0, LL a63 p0), (1, LL a63 p1), (5, .own 40 0), (8, .own 64 0), (9, LL a266 z1.2.2.1), (10, I z1.2.2.2.1), (12, I x9), (13, .nils), (40, .own 40 0), (41, I (lenL x7)), (42, I z1.2.2.2.2), (51, B (ltI (addI .i64 z1.2.2.2.2 1) (lenL z1.1)))] [(40, RR 3 1 I z1.1 0 false), (64, RR 64 4 a63 z1.2.1 0 false)] 88) ?_
      refine co 54 [] (h253 p0 x9) (fun x10 => ?_)
      refine sg 5 (mkE [(56, I x9), (55, LL a63 p1), (54, .own 432 0), (53, I x9), (52, LL a63 p0), (0, LL a63 p0), (1, LL a63 p1), (5, .own 40 0), (8, .own 64 0), (9, LL a266 z1.2.2.1), (10, I z1.2.2.2.1), (12, I x9), (13, .nils), (40, .own 40 0), (41, I (lenL x7)), (42, I z1.2.2.2.2), (51, B (ltI (addI .i64 z1.2.2.2.2 1) (lenL z1.1)))] [(432, RR 267 2 a266 x10 0 false), (40, RR 3 1 I z1.1 0 false), (64, RR 64 4 a63 z1.2.1 0 false)] 88) ?_
      refine co 57 [] (h253 p1 x9) (fun x11 => ?_)
      refine co 58 [432, 456] (h252 x10 x11) (fun x12 => ?_)
      refine se (mkE [(0, LL a63 p0), (1, LL a63 p1), (5, .own 40 0), (8, .own 64 0), (9, LL a266 z1.2.2.1), (10, I z1.2.2.2.1), (12, I x9), (13, .own 464 0), (40, .own 40 0), (41, I (lenL x7)), (42, I z1.2.2.2.2)] [(40, RR 3 1 I z1.1 0 false), (64, RR 64 4 a63 z1.2.1 0 false), (464, RR 267 2 a266 x12 0 false)] 88) ?_
      refine pN ?_
      refine pS ?_
      refine gS 19 ?_
      refine gS 0 ?_
      refine gR 18 (rg Try.f213 18) ?_
      refine sg 2 (mkE [(60, .own 464 0), (59, LL a266 z1.2.2.1), (0, LL a63 p0), (1, LL a63 p1), (5, .own 40 0), (8, .own 64 0), (9, LL a266 z1.2.2.1), (10, I z1.2.2.2.1), (12, I x9), (13, .own 464 0), (40, .own 40 0), (41, I (lenL x7)), (42, I z1.2.2.2.2)] [(40, RR 3 1 I z1.1 0 false), (64, RR 64 4 a63 z1.2.1 0 false), (464, RR 267 2 a266 x12 0 false)] 88) ?_
      refine co 61 [464] (h254 z1.2.2.1 x12) (fun x13 => ?_)
      refine se (mkE [(0, LL a63 p0), (1, LL a63 p1), (5, .own 40 0), (8, .own 64 0), (9, LL a266 z1.2.2.1), (10, I z1.2.2.2.1), (12, I x9), (13, .own 464 0), (40, .own 40 0), (41, I (lenL x7)), (42, I z1.2.2.2.2), (61, B x13)] [(40, RR 3 1 I z1.1 0 false), (64, RR 64 4 a63 z1.2.1 0 false), (464, RR 267 2 a266 x12 0 false)] 88) ?_
      refine pN ?_
      refine pS ?_
      refine gC 61 x13 ?_ ?_
      · refine gX 3 ?_
        refine pF ?_
        refine pO ?_
        refine pH ?_
        refine pN ?_
        refine pS ?_
        refine gR 25 (rg Try.f213 25) ?_
        refine se (mkE [(0, LL a63 p0), (1, LL a63 p1), (5, .own 40 0), (8, .own 64 0), (9, LL a266 z1.2.2.1), (10, I z1.2.2.2.1), (40, .own 40 0), (41, I (lenL x7)), (42, I (addI .i64 z1.2.2.2.2 1))] [(40, RR 3 1 I z1.1 0 false), (64, RR 64 4 a63 z1.2.1 0 false)] 88) ?_
        exact pL
      · refine gK ?_
        refine pN ?_
        refine pS ?_
        refine gS 24 ?_
        refine gS 20 ?_
        refine gR 19 (rg Try.f213 19) ?_
        refine sg 1 (mkE [(62, LL a266 z1.2.2.1), (0, LL a63 p0), (1, LL a63 p1), (5, .own 40 0), (8, .own 64 0), (9, LL a266 z1.2.2.1), (10, I z1.2.2.2.1), (12, I x9), (13, .own 464 0), (40, .own 40 0), (41, I (lenL x7)), (42, I z1.2.2.2.2), (61, B x13)] [(40, RR 3 1 I z1.1 0 false), (64, RR 64 4 a63 z1.2.1 0 false), (464, RR 267 2 a266 x12 0 false)] 88) ?_
        refine eo 63 (I (lenL z1.2.2.1)) (lenE 262 a266 z1.2.2.1) ?_
        refine se (mkE [(0, LL a63 p0), (1, LL a63 p1), (5, .own 40 0), (8, .own 64 0), (10, I z1.2.2.2.1), (12, I x9), (13, .own 464 0), (40, .own 40 0), (41, I (lenL x7)), (42, I z1.2.2.2.2), (62, LL a266 z1.2.2.1), (63, I (lenL z1.2.2.1)), (64, I 0)] [(40, RR 3 1 I z1.1 0 false), (64, RR 64 4 a63 z1.2.1 0 false), (464, RR 267 2 a266 x12 0 false)] 88) ?_
        refine pN ?_
        refine pS ?_
        refine gB 4 ?_
        refine lo [(0, none), (1, none), (5, some (3, 1)), (8, some (64, 4)), (10, none), (12, none), (13, none), (41, none), (42, none), (62, none), (63, none), (64, none)] [(40, 5)] (L213_20 p0 p1 x7 z1 x9 x12) (fun z2 : ((List Int) × (List S63) × Int) => (mkE [(40, .own 40 0), (0, LL a63 p0), (1, LL a63 p1), (5, .own 40 0), (8, .own 64 0), (10, I z1.2.2.2.1), (12, I x9), (13, LL a266 x12), (41, I (lenL x7)), (42, I z1.2.2.2.2), (62, LL a266 z1.2.2.1), (63, I (lenL z1.2.2.1)), (64, I z2.2.2)] [(40, RR 3 1 I z2.1 0 false), (64, RR 64 4 a63 z2.2.1 0 false)] 88)) (fun (x : (Int × Bool × (List Int) × (List S63))) => (.exit 4, (mkE [(0, LL a63 p0), (1, LL a63 p1), (5, .own 40 0), (8, .own 64 0), (10, I z1.2.2.2.1), (12, I x9), (13, LL a266 x12), (40, .own 40 0), (41, I (lenL x7)), (42, I z1.2.2.2.2), (62, LL a266 z1.2.2.1), (63, I (lenL z1.2.2.1)), (64, I x.1), (65, B x.2.1)] [(40, RR 3 1 I x.2.2.1 0 false), (64, RR 64 4 a63 x.2.2.2 0 false)] 88))) (z1.1, z1.2.1, 0) (fun z => L213_20_ok C p0 p1 x7 z1 x9 x12 z) ?_
        intro y16
        refine pH ?_
        refine pN ?_
        refine pS ?_
        refine gR 24 (rg Try.f213 24) ?_
        refine se (mkE [(0, LL a63 p0), (1, LL a63 p1), (5, .own 40 0), (8, .own 64 0), (9, LL a266 x12), (10, I x9), (40, .own 40 0), (41, I (lenL x7)), (42, I z1.2.2.2.2)] [(40, RR 3 1 I y16.2.2.1 0 false), (64, RR 64 4 a63 y16.2.2.2 0 false)] 88) ?_
        refine pB ?_
        refine pN ?_
        refine pS ?_
        refine gR 25 (rg Try.f213 25) ?_
        refine se (mkE [(0, LL a63 p0), (1, LL a63 p1), (5, .own 40 0), (8, .own 64 0), (9, LL a266 x12), (10, I x9), (40, .own 40 0), (41, I (lenL x7)), (42, I (addI .i64 z1.2.2.2.2 1))] [(40, RR 3 1 I y16.2.2.1 0 false), (64, RR 64 4 a63 y16.2.2.2 0 false)] 88) ?_
        exact pL
    · refine gK ?_
      refine pN ?_
      refine pS ?_
      refine gS 19 ?_
      refine gS 0 ?_
      refine gR 18 (rg Try.f213 18) ?_
      refine sg 2 (mkE [(60, .nils), (59, LL a266 z1.2.2.1), (0, LL a63 p0), (1, LL a63 p1), (5, .own 40 0), (8, .own 64 0), (9, LL a266 z1.2.2.1), (10, I z1.2.2.2.1), (12, I x9), (13, .nils), (40, .own 40 0), (41, I (lenL x7)), (42, I z1.2.2.2.2), (51, B (ltI (addI .i64 z1.2.2.2.2 1) (lenL z1.1)))] [(40, RR 3 1 I z1.1 0 false), (64, RR 64 4 a63 z1.2.1 0 false)] 88) ?_
      refine co 61 [] (h254 z1.2.2.1 []) (fun x17 => ?_)
      refine se (mkE [(0, LL a63 p0), (1, LL a63 p1), (5, .own 40 0), (8, .own 64 0), (9, LL a266 z1.2.2.1), (10, I z1.2.2.2.1), (12, I x9), (13, .nils), (40, .own 40 0), (41, I (lenL x7)), (42, I z1.2.2.2.2), (61, B x17)] [(40, RR 3 1 I z1.1 0 false), (64, RR 64 4 a63 z1.2.1 0 false)] 88) ?_
      refine pN ?_
      refine pS ?_
      refine gC 61 x17 ?_ ?_
      · refine gX 3 ?_
        refine pF ?_
        refine pO ?_
        refine pH ?_
        refine pN ?_
        refine pS ?_
        refine gR 25 (rg Try.f213 25) ?_
        refine se (mkE [(0, LL a63 p0), (1, LL a63 p1), (5, .own 40 0), (8, .own 64 0), (9, LL a266 z1.2.2.1), (10, I z1.2.2.2.1), (40, .own 40 0), (41, I (lenL x7)), (42, I (addI .i64 z1.2.2.2.2 1))] [(40, RR 3 1 I z1.1 0 false), (64, RR 64 4 a63 z1.2.1 0 false)] 88) ?_
        exact pL
      · refine gK ?_
        refine pN ?_
        refine pS ?_
        refine gS 24 ?_
        refine gS 20 ?_
        refine gR 19 (rg Try.f213 19) ?_
        refine sg 1 (mkE [(62, LL a266 z1.2.2.1), (0, LL a63 p0), (1, LL a63 p1), (5, .own 40 0), (8, .own 64 0), (9, LL a266 z1.2.2.1), (10, I z1.2.2.2.1), (12, I x9), (13, .nils), (40, .own 40 0), (41, I (lenL x7)), (42, I z1.2.2.2.2), (61, B x17)] [(40, RR 3 1 I z1.1 0 false), (64, RR 64 4 a63 z1.2.1 0 false)] 88) ?_
        refine eo 63 (I (lenL z1.2.2.1)) (lenE 262 a266 z1.2.2.1) ?_
        refine se (mkE [(0, LL a63 p0), (1, LL a63 p1), (5, .own 40 0), (8, .own 64 0), (10, I z1.2.2.2.1), (12, I x9), (13, .nils), (40, .own 40 0), (41, I (lenL x7)), (42, I z1.2.2.2.2), (62, LL a266 z1.2.2.1), (63, I (lenL z1.2.2.1)), (64, I 0)] [(40, RR 3 1 I z1.1 0 false), (64, RR 64 4 a63 z1.2.1 0 false)] 88) ?_
        refine pN ?_
        refine pS ?_
        refine gB 4 ?_
        refine lo [(0, none), (1, none), (5, some (3, 1)), (8, some (64, 4)), (10, none), (12, none), (13, none), (41, none), (42, none), (62, none), (63, none), (64, none)] [(40, 5)] (L213_20_v1 p0 p1 x7 z1 x9) (fun z2 : ((List Int) × (List S63) × Int) => (mkE [(40, .own 40 0), (0, LL a63 p0), (1, LL a63 p1), (5, .own 40 0), (8, .own 64 0), (10, I z1.2.2.2.1), (12, I x9), (13, LL a266 ([] : List S266)), (41, I (lenL x7)), (42, I z1.2.2.2.2), (62, LL a266 z1.2.2.1), (63, I (lenL z1.2.2.1)), (64, I z2.2.2)] [(40, RR 3 1 I z2.1 0 false), (64, RR 64 4 a63 z2.2.1 0 false)] 88)) (fun (x : (Int × Bool × (List Int) × (List S63))) => (.exit 4, (mkE [(0, LL a63 p0), (1, LL a63 p1), (5, .own 40 0), (8, .own 64 0), (10, I z1.2.2.2.1), (12, I x9), (13, LL a266 ([] : List S266)), (40, .own 40 0), (41, I (lenL x7)), (42, I z1.2.2.2.2), (62, LL a266 z1.2.2.1), (63, I (lenL z1.2.2.1)), (64, I x.1), (65, B x.2.1)] [(40, RR 3 1 I x.2.2.1 0 false), (64, RR 64 4 a63 x.2.2.2 0 false)] 88))) (z1.1, z1.2.1, 0) (fun z => L213_20_v1_ok C p0 p1 x7 z1 x9 z) ?_
        intro y20
        refine pH ?_
        refine pN ?_
        refine pS ?_
        refine gR 24 (rg Try.f213 24) ?_
        refine se (mkE [(0, LL a63 p0), (1, LL a63 p1), (5, .own 40 0), (8, .own 64 0), (9, LL a266 ([] : List S266)), (10, I x9), (40, .own 40 0), (41, I (lenL x7)), (42, I z1.2.2.2.2)] [(40, RR 3 1 I y20.2.2.1 0 false), (64, RR 64 4 a63 y20.2.2.2 0 false)] 88) ?_
        refine pB ?_
        refine pN ?_
        refine pS ?_
        refine gR 25 (rg Try.f213 25) ?_
        refine se (mkE [(0, LL a63 p0), (1, LL a63 p1), (5, .own 40 0), (8, .own 64 0), (9, LL a266 ([] : List S266)), (10, I x9), (40, .own 40 0), (41, I (lenL x7)), (42, I (addI .i64 z1.2.2.2.2 1))] [(40, RR 3 1 I y20.2.2.1 0 false), (64, RR 64 4 a63 y20.2.2.2 0 false)] 88) ?_
        exact pL
  · refine gX 2 ?_
    exact pL
noncomputable def T213 (p0 : (List S63)) (p1 : (List S63)) : Option (List S63) := ((T218 ([p0, p1] : List (List S63))).bind fun x1 => ((iter (L213_3 p0 p1 x1) ([], x1, 0)).bind fun y5 => ((sortIO y5.2.2.1).bind fun x6 => ((compIO x6).bind fun x7 => ((iter (L213_13 p0 p1 x7) (x7, [], ([] : List S266), 0, 0)).bind fun y21 => (some y21.2.2.2.2.2))))))
theorem B213 (C : Callee) (h218 : ∀ (p0 : (List (List S63))), C 218 [LL (LL a63) p0] = (T218 p0).map (fun l => AV.fr 64 4 (List.map a63 l))) (h250 : ∀ (p0 : (List Int)), C 250 [.fr 3 1 (List.map I p0)] = (sortIO p0).map (fun (r : (List Int)) => AV.inp (.tup []) (.fr 3 1 (List.map I r)))) (h251 : ∀ (p0 : (List Int)), C 251 [.fr 3 1 (List.map I p0)] = (compIO p0).map (fun l => AV.fr 3 1 (List.map I l))) (h252 : ∀ (p0 : (List S266)) (p1 : (List S266)), C 252 [LL a266 p0, LL a266 p1] = (T252 p0 p1).map (fun l => AV.fr 267 2 (List.map a266 l))) (h253 : ∀ (p0 : (List S63)) (p1 : Int), C 253 [LL a63 p0, I p1] = (T253 p0 p1).map (fun l => AV.fr 267 2 (List.map a266 l))) (h254 : ∀ (p0 : (List S266)) (p1 : (List S266)), C 254 [LL a266 p0, LL a266 p1] = (T254 p0 p1).map B) (p0 : (List S63)) (p1 : (List S63)) : runs Try.prog C (cfg.fn 213) (finFn Try.prog (cfg.fn 213).byval Try.f213) [] (execA Try.prog C (cfg.fn 213) (nr Try.f213 []) (frame0 [LL a63 p0, LL a63 p1] 88 false)) = (T213 p0 p1).map (fun l => AV.fr 64 4 (List.map a63 l)) := by
  unfold T213
  refine gS 1 ?_
  refine gR 0 (rg Try.f213 0) ?_
  refine se (mkE [(0, LL a63 p0), (1, LL a63 p1)] [] 88) ?_
  refine pN ?_
  refine pS ?_
  refine gS 2 ?_
  refine gR 1 (rg Try.f213 1) ?_
  refine se (mkE [(0, LL a63 p0), (1, LL a63 p1), (5, .nils)] [] 88) ?_
  refine pN ?_
  refine pS ?_
  refine gS 7 ?_
  refine gS 3 ?_
  refine gR 2 (rg Try.f213 2) ?_
  refine sg 3 (mkE [(18, .own 144 0), (17, LL a63 p1), (16, LL a63 p0), (0, LL a63 p0), (1, LL a63 p1), (5, .nils)] [(144, RR 65 1 (LL a63) ([p0, p1] : List (List S63)) 0 false)] 88) ?_
  refine co 19 [144] (h218 ([p0, p1] : List (List S63))) (fun x1 => ?_)
  refine eo 20 (I (lenL x1)) (lenOE 65 64 4 a63 x1) ?_
  refine se (mkE [(0, LL a63 p0), (1, LL a63 p1), (5, .nils), (19, .own 152 0), (20, I (lenL x1)), (21, I 0)] [(152, RR 64 4 a63 x1 0 false)] 88) ?_
  refine pN ?_
  refine pS ?_
  refine gB 0 ?_
  refine lo [(0, none), (1, none), (5, some (3, 1)), (19, some (64, 4)), (20, none), (21, none)] [] (L213_3 p0 p1 x1) (fun z0 : ((List Int) × (List S63) × Int) => (mkE [(0, LL a63 p0), (1, LL a63 p1), (5, .own 40 0), (19, .own 152 0), (20, I (lenL x1)), (21, I z0.2.2)] [(40, RR 3 1 I z0.1 0 false), (152, RR 64 4 a63 z0.2.1 0 false)] 88)) (fun (x : (Int × Bool × (List Int) × (List S63))) => (.exit 0, (mkE [(0, LL a63 p0), (1, LL a63 p1), (5, .own 40 0), (19, .own 152 0), (20, I (lenL x1)), (21, I x.1), (22, B x.2.1)] [(40, RR 3 1 I x.2.2.1 0 false), (152, RR 64 4 a63 x.2.2.2 0 false)] 88))) ([], x1, 0) (fun z => L213_3_ok C p0 p1 x1 z) ?_
  intro y5
  refine pH ?_
  refine pN ?_
  refine pS ?_
  refine gS 8 ?_
  refine gR 7 (rg Try.f213 7) ?_
  refine sg 1 (mkE [(36, .own 40 0), (0, LL a63 p0), (1, LL a63 p1), (5, .own 40 0), (19, .own 152 0), (20, I (lenL x1)), (21, I y5.1), (22, B y5.2.1)] [(40, RR 3 1 I y5.2.2.1 0 false), (152, RR 64 4 a63 y5.2.2.2 0 false)] 88) ?_
  refine mo (some 37) (ipR 250 3 1 40 0 I y5.2.2.1 [] [] [] (fun x : (List Int) => .tup []) (fun x : (List Int) => x) (h250 y5.2.2.1)) (fun x6 => ?_)
  refine se (mkE [(0, LL a63 p0), (1, LL a63 p1), (5, .own 40 0)] [(40, RR 3 1 I x6 0 false)] 88) ?_
  refine pN ?_
  refine pS ?_
  refine gS 9 ?_
  refine gR 8 (rg Try.f213 8) ?_
  refine sg 1 (mkE [(38, .own 40 0), (0, LL a63 p0), (1, LL a63 p1), (5, .own 40 0)] [(40, RR 3 1 I x6 0 false)] 88) ?_
  refine mo (some 39) (gvO 251 3 1 40 0 I x6 [] [] [] (h251 x6)) (fun x7 => ?_)
  refine se (mkE [(0, LL a63 p0), (1, LL a63 p1), (5, .own 40 1)] [(40, RR 3 1 I x7 1 false)] 88) ?_
  refine pN ?_
  refine pS ?_
  refine gS 10 ?_
  refine gR 9 (rg Try.f213 9) ?_
  refine se (mkE [(0, LL a63 p0), (1, LL a63 p1), (5, .own 40 1), (8, .nils)] [(40, RR 3 1 I x7 1 false)] 88) ?_
  refine pN ?_
  refine pS ?_
  refine gS 11 ?_
  refine gR 10 (rg Try.f213 10) ?_
  refine se (mkE [(0, LL a63 p0), (1, LL a63 p1), (5, .own 40 1), (8, .nils), (9, .nils)] [(40, RR 3 1 I x7 1 false)] 88) ?_
  refine pN ?_
  refine pS ?_
  refine gS 12 ?_
  refine gR 11 (rg Try.f213 11) ?_
  refine se (mkE [(0, LL a63 p0), (1, LL a63 p1), (5, .own 40 1), (8, .nils), (9, .nils), (10, I 0)] [(40, RR 3 1 I x7 1 false)] 88) ?_
  refine pN ?_
  refine pS ?_
  refine gS 26 ?_
  refine gS 13 ?_
  refine gR 12 (rg Try.f213 12) ?_
  refine sg 1 (mkE [(40, .own 40 1), (0, LL a63 p0), (1, LL a63 p1), (5, .own 40 1), (8, .nils), (9, .nils), (10, I 0)] [(40, RR 3 1 I x7 1 false)] 88) ?_
  refine eo 41 (I (lenL x7)) (lenOE 104 3 1 I x7) ?_
  refine se (mkE [(0, LL a63 p0), (1, LL a63 p1), (5, .own 40 1), (8, .nils), (9, .nils), (10, I 0), (40, .own 40 1), (41, I (lenL x7)), (42, I 0)] [(40, RR 3 1 I x7 1 false)] 88) ?_
  refine pN ?_
  refine pS ?_
  refine gB 2 ?_
  refine lo [(0, none), (1, none), (5, some (3, 1)), (8, some (64, 4)), (9, none), (10, none), (41, none), (42, none)] [(40, 5)] (L213_13 p0 p1 x7) (fun z1 : ((List Int) × (List S63) × (List S266) × Int × Int) => (mkE [(40, .own 40 0), (0, LL a63 p0), (1, LL a63 p1), (5, .own 40 0), (8, .own 64 0), (9, LL a266 z1.2.2.1), (10, I z1.2.2.2.1), (41, I (lenL x7)), (42, I z1.2.2.2.2)] [(40, RR 3 1 I z1.1 0 false), (64, RR 64 4 a63 z1.2.1 0 false)] 88)) (fun (x : ((List S266) × Int × Int × Bool × (List Int) × (List S63))) => (.exit 2, (mkE [(0, LL a63 p0), (1, LL a63 p1), (5, .own 40 0), (8, .own 64 0), (9, LL a266 x.1), (10, I x.2.1), (40, .own 40 0), (41, I (lenL x7)), (42, I x.2.2.1), (43, B x.2.2.2.1)] [(40, RR 3 1 I x.2.2.2.2.1 0 false), (64, RR 64 4 a63 x.2.2.2.2.2 0 false)] 88))) (x7, [], ([] : List S266), 0, 0) (fun z => L213_13_ok C h252 h253 h254 p0 p1 x7 z) ?_
  intro y21
  refine pH ?_
  refine pN ?_
  refine pS ?_
  refine gS 0 ?_
  refine gR 26 (rg Try.f213 26) ?_
  refine se (mkE [(4, .own 64 0)] [(64, RR 64 4 a63 y21.2.2.2.2.2 0 false)] 88) ?_
  refine pN ?_
  refine pS ?_
  refine gE ?_
  exact pL
theorem F213 (m : Nat) (hm : 4 ≤ m) (p0 : (List S63)) (p1 : (List S63)) : callA Try.prog cfg m 213 [LL a63 p0, LL a63 p1] = (T213 p0 p1).map (fun l => AV.fr 64 4 (List.map a63 l)) := by
  obtain ⟨q, rfl⟩ : ∃ q, m = q + 1 := ⟨m - 1, by omega⟩
  exact (callA_body (fn := Try.f213) (c := body_ Try.f213) q _ (by kernel_rfl) (by kernel_rfl) (by kernel_rfl)).trans (B213 _ (fun p0 => F218 q (by omega) p0) (fun p0 => F250 q (by omega) p0) (fun p0 => F251 q (by omega) p0) (fun p0 p1 => F252 q (by omega) p0 p1) (fun p0 p1 => F253 q (by omega) p0 p1) (fun p0 p1 => F254 q (by omega) p0 p1) p0 p1)

noncomputable def T212 (p0 : (List S63)) : Option ((List S63) × Int) := (bif (ltI 2000 (lenL p0)) then (some ([], 2)) else (some (p0, 0)))
theorem B212 (C : Callee) (p0 : (List S63)) : runs Try.prog C (cfg.fn 212) (finFn Try.prog (cfg.fn 212).byval Try.f212) [] (execA Try.prog C (cfg.fn 212) (nr Try.f212 []) (frame0 [LL a63 p0] 8 false)) = (T212 p0).map (fun r => AV.tup [(LL a63) r.1, I r.2]) := by
  unfold T212
  refine gS 1 ?_
  refine gR 0 (rg Try.f212 0) ?_
  refine se (mkE [(0, LL a63 p0)] [] 8) ?_
  refine pN ?_
  refine pS ?_
  refine gS 3 ?_
  refine gS 0 ?_
  refine gR 1 (rg Try.f212 1) ?_
  refine sg 1 (mkE [(4, LL a63 p0), (0, LL a63 p0)] [] 8) ?_
  refine eo 5 (I (lenL p0)) (lenE 65 a63 p0) ?_
  refine se (mkE [(0, LL a63 p0), (6, B (ltI 2000 (lenL p0)))] [] 8) ?_
  refine pN ?_
  refine pS ?_
  refine gC 6 (ltI 2000 (lenL p0)) ?_ ?_
  · refine gS 0 ?_
    refine gR 2 (rg Try.f212 2) ?_
    refine se (mkE [(2, .nils), (3, I 2)] [] 8) ?_
    refine pN ?_
    refine pS ?_
    refine gE ?_
    exact pL
  · refine gK ?_
    refine pN ?_
    refine pS ?_
    refine gS 0 ?_
    refine gR 3 (rg Try.f212 3) ?_
    refine se (mkE [(2, LL a63 p0), (3, I 0)] [] 8) ?_
    refine pN ?_
    refine pS ?_
    refine gE ?_
    exact pL
theorem F212 (m : Nat) (hm : 1 ≤ m) (p0 : (List S63)) : callA Try.prog cfg m 212 [LL a63 p0] = (T212 p0).map (fun r => AV.tup [(LL a63) r.1, I r.2]) := by
  obtain ⟨q, rfl⟩ : ∃ q, m = q + 1 := ⟨m - 1, by omega⟩
  exact (callA_body (fn := Try.f212) (c := body_ Try.f212) q _ (by kernel_rfl) (by kernel_rfl) (by kernel_rfl)).trans (B212 _ p0)

noncomputable def T114 (p0 : (List S63)) : Option ((List S63) × Int) := ((T211 p0).bind fun x1 => (bif (neI x1 0) then (some ([], x1)) else ((T213 p0 []).bind fun x2 => ((T212 x2).bind fun x3 => (some (x3.1, x3.2))))))
theorem B114 (C : Callee) (h211 : ∀ (p0 : (List S63)), C 211 [LL a63 p0] = (T211 p0).map I) (h212 : ∀ (p0 : (List S63)), C 212 [LL a63 p0] = (T212 p0).map (fun r => AV.tup [(LL a63) r.1, I r.2])) (h213 : ∀ (p0 : (List S63)) (p1 : (List S63)), C 213 [LL a63 p0, LL a63 p1] = (T213 p0 p1).map (fun l => AV.fr 64 4 (List.map a63 l))) (p0 : (List S63)) : runs Try.prog C (cfg.fn 114) (finFn Try.prog (cfg.fn 114).byval Try.f114) [] (execA Try.prog C (cfg.fn 114) (nr Try.f114 []) (frame0 [LL a63 p0] 15 false)) = (T114 p0).map (fun r => AV.tup [(LL a63) r.1, I r.2]) := by
  unfold T114
  refine gS 1 ?_
  refine gR 0 (rg Try.f114 0) ?_
  refine se (mkE [(0, LL a63 p0)] [] 15) ?_
  refine pN ?_
  refine pS ?_
  refine gS 4 ?_
  refine gS 2 ?_
  refine gR 1 (rg Try.f114 1) ?_
  refine sg 1 (mkE [(5, LL a63 p0), (0, LL a63 p0)] [] 15) ?_
  refine co 6 [] (h211 p0) (fun x1 => ?_)
  refine se (mkE [(0, LL a63 p0), (4, I x1)] [] 15) ?_
  refine pN ?_
  refine pS ?_
  refine gS 0 ?_
  refine gR 2 (rg Try.f114 2) ?_
  refine se (mkE [(0, LL a63 p0), (4, I x1), (8, B (neI x1 0))] [] 15) ?_
  refine pN ?_
  refine pS ?_
  refine gC 8 (neI x1 0) ?_ ?_
  · refine gS 0 ?_
    refine gR 3 (rg Try.f114 3) ?_
    refine se (mkE [(2, .nils), (3, I x1)] [] 15) ?_
    refine pN ?_
    refine pS ?_
    refine gE ?_
    exact pL
  · refine gK ?_
    refine pN ?_
    refine pS ?_
    refine gS 0 ?_
    refine gR 4 (rg Try.f114 4) ?_
    refine sg 1 (mkE [(10, LL a63 p0), (0, LL a63 p0), (4, I x1), (8, B (neI x1 0))] [] 15) ?_
    refine co 11 [] (h213 p0 []) (fun x2 => ?_)
    refine co 12 [88] (h212 x2) (fun x3 => ?_)
    refine se (mkE [(2, LL a63 x3.1), (3, I x3.2)] [] 15) ?_
    refine pN ?_
    refine pS ?_
    refine gE ?_
    exact pL
theorem F114 (m : Nat) (hm : 5 ≤ m) (p0 : (List S63)) : callA Try.prog cfg m 114 [LL a63 p0] = (T114 p0).map (fun r => AV.tup [(LL a63) r.1, I r.2]) := by
  obtain ⟨q, rfl⟩ : ∃ q, m = q + 1 := ⟨m - 1, by omega⟩
  exact (callA_body (fn := Try.f114) (c := body_ Try.f114) q _ (by kernel_rfl) (by kernel_rfl) (by kernel_rfl)).trans (B114 _ (fun p0 => F211 q (by omega) p0) (fun p0 => F212 q (by omega) p0) (fun p0 p1 => F213 q (by omega) p0 p1) p0)

noncomputable def L115_2 (p0 : (List S63)) (p1 : (List S63)) (z0 : Int) : Option (Int ⊕ ((Int × Bool) ⊕ Int)) := (bif (ltI z0 2) then ((listAt [p0, p1] z0).bind fun x1 => ((T211 x1).bind fun x2 => (bif (neI x2 0) then (some (.inr (.inr x2))) else (some (.inl (addI .i64 z0 1)))))) else (some (.inr (.inl (z0, (ltI z0 2))))))
theorem L115_2_ok (C : Callee) (h211 : ∀ (p0 : (List S63)), C 211 [LL a63 p0] = (T211 p0).map I) (p0 : (List S63)) (p1 : (List S63)) (z0 : Int) : runs Try.prog C (cfg.fn 115) (finLoop ((cfg.fn 115).keep 2) ((cfg.fn 115).al 2)) [] (execA Try.prog C (cfg.fn 115) (nr Try.f115 [false, false, true, false, true]) ((fun z0 : Int => (mkE [(0, LL a63 p0), (1, LL a63 p1), (11, .agg [LL a63 p0, LL a63 p1]), (12, I z0)] [] 27)) z0)) = (L115_2 p0 p1 z0).map (Sum.elim (fun z => .inl ((fun z0 : Int => (mkE [(0, LL a63 p0), (1, LL a63 p1), (11, .agg [LL a63 p0, LL a63 p1]), (12, I z0)] [] 27)) z)) (fun x => .inr ((Sum.elim (fun (x : (Int × Bool)) => (.exit 0, (mkE [(0, LL a63 p0), (1, LL a63 p1), (11, .agg [LL a63 p0, LL a63 p1]), (12, I x.1), (13, B x.2)] [] 27))) (fun (x : Int) => (.ret, (mkE [(4, .nils), (5, I x)] [] 27)))) x))) := by
  unfold L115_2
  refine gS 0 ?_
  refine gR 2 (rg Try.f115 2) ?_
  refine se (mkE [(0, LL a63 p0), (1, LL a63 p1), (11, .agg [LL a63 p0, LL a63 p1]), (12, I z0), (13, B (ltI z0 2))] [] 27) ?_
  refine pN ?_
  refine pS ?_
  refine gS 3 ?_
  refine gC 13 (ltI z0 2) ?_ ?_
  · refine gK ?_
    refine pN ?_
    refine pS ?_
    refine gS 7 ?_
    refine gB 1 ?_
    refine gS 4 ?_
    refine gR 3 (rg Try.f115 3) ?_
    refine vo 14 (arrE 234 65 1 2 false (LL a63) .i64 z0 (.tmp 11) (.tmp 12) [LL a63 p0, LL a63 p1] [p0, p1]) (fun x1 => ?_)
    refine se (mkE [(0, LL a63 p0), (1, LL a63 p1), (7, LL a63 x1), (11, .agg [LL a63 p0, LL a63 p1]), (12, I z0)] [] 27) ?_
    refine pN ?_
    refine pS ?_
    refine gS 5 ?_
    refine gR 4 (rg Try.f115 4) ?_
    refine sg 1 (mkE [(15, LL a63 x1), (0, LL a63 p0), (1, LL a63 p1), (7, LL a63 x1), (11, .agg [LL a63 p0, LL a63 p1]), (12, I z0)] [] 27) ?_
    refine co 16 [] (h211 x1) (fun x2 => ?_)
    refine se (mkE [(0, LL a63 p0), (1, LL a63 p1), (8, I x2), (11, .agg [LL a63 p0, LL a63 p1]), (12, I z0)] [] 27) ?_
    refine pN ?_
    refine pS ?_
    refine gS 0 ?_
    refine gR 5 (rg Try.f115 5) ?_
    refine se (mkE [(0, LL a63 p0), (1, LL a63 p1), (8, I x2), (11, .agg [LL a63 p0, LL a63 p1]), (12, I z0), (18, B (neI x2 0))] [] 27) ?_
    refine pN ?_
    refine pS ?_
    refine gC 18 (neI x2 0) ?_ ?_
    · refine gS 0 ?_
      refine gR 6 (rg Try.f115 6) ?_
      refine se (mkE [(4, .nils), (5, I x2)] [] 27) ?_
      refine pN ?_
      refine pS ?_
      refine gE ?_
      exact pL
    · refine gK ?_
      refine pB ?_
      refine pN ?_
      refine pS ?_
      refine gR 7 (rg Try.f115 7) ?_
      refine se (mkE [(0, LL a63 p0), (1, LL a63 p1), (11, .agg [LL a63 p0, LL a63 p1]), (12, I (addI .i64 z0 1))] [] 27) ?_
      exact pL
  · refine gX 0 ?_
    exact pL
noncomputable def T115 (p0 : (List S63)) (p1 : (List S63)) : Option ((List S63) × Int) := ((iter (L115_2 p0 p1) 0).bind fun y3 => (Sum.elim (fun y3a => ((T213 p0 p1).bind fun x4 => ((T212 x4).bind fun x5 => (some (x5.1, x5.2))))) (fun y3b => (some ([], y3b))) y3))
theorem B115 (C : Callee) (h211 : ∀ (p0 : (List S63)), C 211 [LL a63 p0] = (T211 p0).map I) (h212 : ∀ (p0 : (List S63)), C 212 [LL a63 p0] = (T212 p0).map (fun r => AV.tup [(LL a63) r.1, I r.2])) (h213 : ∀ (p0 : (List S63)) (p1 : (List S63)), C 213 [LL a63 p0, LL a63 p1] = (T213 p0 p1).map (fun l => AV.fr 64 4 (List.map a63 l))) (p0 : (List S63)) (p1 : (List S63)) : runs Try.prog C (cfg.fn 115) (finFn Try.prog (cfg.fn 115).byval Try.f115) [] (execA Try.prog C (cfg.fn 115) (nr Try.f115 []) (frame0 [LL a63 p0, LL a63 p1] 27 false)) = (T115 p0 p1).map (fun r => AV.tup [(LL a63) r.1, I r.2]) := by
  unfold T115
  refine gS 1 ?_
  refine gR 0 (rg Try.f115 0) ?_
  refine se (mkE [(0, LL a63 p0), (1, LL a63 p1)] [] 27) ?_
  refine pN ?_
  refine pS ?_
  refine gS 8 ?_
  refine gS 2 ?_
  refine gR 1 (rg Try.f115 1) ?_
  refine se (mkE [(0, LL a63 p0), (1, LL a63 p1), (11, .agg [LL a63 p0, LL a63 p1]), (12, I 0)] [] 27) ?_
  refine pN ?_
  refine pS ?_
  refine gB 0 ?_
  refine lo [(0, none), (1, none), (11, none), (12, none)] [] (L115_2 p0 p1) (fun z0 : Int => (mkE [(0, LL a63 p0), (1, LL a63 p1), (11, .agg [LL a63 p0, LL a63 p1]), (12, I z0)] [] 27)) (Sum.elim (fun (x : (Int × Bool)) => (.exit 0, (mkE [(0, LL a63 p0), (1, LL a63 p1), (11, .agg [LL a63 p0, LL a63 p1]), (12, I x.1), (13, B x.2)] [] 27))) (fun (x : Int) => (.ret, (mkE [(4, .nils), (5, I x)] [] 27)))) 0 (fun z => L115_2_ok C h211 p0 p1 z) ?_
  intro y3
  refine ss y3 (Z := (Sum.elim (fun (x : (Int × Bool)) => (.exit 0, (mkE [(0, LL a63 p0), (1, LL a63 p1), (11, .agg [LL a63 p0, LL a63 p1]), (12, I x.1), (13, B x.2)] [] 27))) (fun (x : Int) => (.ret, (mkE [(4, .nils), (5, I x)] [] 27))))) (fun y3a => ?_) (fun y3b => ?_)
  · refine pH ?_
    refine pN ?_
    refine pS ?_
    refine gS 0 ?_
    refine gR 8 (rg Try.f115 8) ?_
    refine sg 2 (mkE [(22, LL a63 p1), (21, LL a63 p0), (0, LL a63 p0), (1, LL a63 p1), (11, .agg [LL a63 p0, LL a63 p1]), (12, I y3a.1), (13, B y3a.2)] [] 27) ?_
    refine co 23 [] (h213 p0 p1) (fun x4 => ?_)
    refine co 24 [184] (h212 x4) (fun x5 => ?_)
    refine se (mkE [(4, LL a63 x5.1), (5, I x5.2)] [] 27) ?_
    refine pN ?_
    refine pS ?_
    refine gE ?_
    exact pL
  · exact pL
theorem F115 (m : Nat) (hm : 5 ≤ m) (p0 : (List S63)) (p1 : (List S63)) : callA Try.prog cfg m 115 [LL a63 p0, LL a63 p1] = (T115 p0 p1).map (fun r => AV.tup [(LL a63) r.1, I r.2]) := by
  obtain ⟨q, rfl⟩ : ∃ q, m = q + 1 := ⟨m - 1, by omega⟩
  exact (callA_body (fn := Try.f115) (c := body_ Try.f115) q _ (by kernel_rfl) (by kernel_rfl) (by kernel_rfl)).trans (B115 _ (fun p0 => F211 q (by omega) p0) (fun p0 => F212 q (by omega) p0) (fun p0 p1 => F213 q (by omega) p0 p1) p0 p1)

noncomputable def L214_3 (p0 : (List S63)) (z0 : (Int × Int)) : Option ((Int × Int) ⊕ (Int × Int × Bool)) := (bif (ltI z0.2 (lenL p0)) then ((listAt p0 z0.2).bind fun x1 => (some (.inl ((addI .i64 z0.1 (mulI .i64 x1.f2 x1.f3)), (addI .i64 z0.2 1))))) else (some (.inr (z0.1, z0.2, (ltI z0.2 (lenL p0))))))
theorem L214_3_ok (C : Callee) (p0 : (List S63)) (z0 : (Int × Int)) : runs Try.prog C (cfg.fn 214) (finLoop ((cfg.fn 214).keep 3) ((cfg.fn 214).al 3)) [] (execA Try.prog C (cfg.fn 214) (nr Try.f214 [false, false, true, false, true, true]) ((fun z0 : (Int × Int) => (mkE [(3, I z0.1), (6, LL a63 p0), (7, I (lenL p0)), (8, I z0.2)] [] 21)) z0)) = (L214_3 p0 z0).map (Sum.elim (fun z => .inl ((fun z0 : (Int × Int) => (mkE [(3, I z0.1), (6, LL a63 p0), (7, I (lenL p0)), (8, I z0.2)] [] 21)) z)) (fun x => .inr ((fun (x : (Int × Int × Bool)) => (.exit 0, (mkE [(3, I x.1), (6, LL a63 p0), (7, I (lenL p0)), (8, I x.2.1), (9, B x.2.2)] [] 21))) x))) := by
  unfold L214_3
  refine gS 0 ?_
  refine gR 3 (rg Try.f214 3) ?_
  refine se (mkE [(3, I z0.1), (6, LL a63 p0), (7, I (lenL p0)), (8, I z0.2), (9, B (ltI z0.2 (lenL p0)))] [] 21) ?_
  refine pN ?_
  refine pS ?_
  refine gS 4 ?_
  refine gC 9 (ltI z0.2 (lenL p0)) ?_ ?_
  · refine gK ?_
    refine pN ?_
    refine pS ?_
    refine gS 6 ?_
    refine gB 1 ?_
    refine gS 5 ?_
    refine gR 4 (rg Try.f214 4) ?_
    refine vo 10 (addrE 65 64 4 a63 .i64 p0 z0.2) (fun x1 => ?_)
    refine se (mkE [(3, I z0.1), (5, .ba 40 0), (6, LL a63 p0), (7, I (lenL p0)), (8, I z0.2)] [(40, .box [I x1.f0, I x1.f1, I x1.f2, I x1.f3] false)] 21) ?_
    refine pN ?_
    refine pS ?_
    refine gR 5 (rg Try.f214 5) ?_
    refine se (mkE [(3, I (addI .i64 z0.1 (mulI .i64 x1.f2 x1.f3))), (6, LL a63 p0), (7, I (lenL p0)), (8, I z0.2)] [] 21) ?_
    refine pB ?_
    refine pN ?_
    refine pS ?_
    refine gR 6 (rg Try.f214 6) ?_
    refine se (mkE [(3, I (addI .i64 z0.1 (mulI .i64 x1.f2 x1.f3))), (6, LL a63 p0), (7, I (lenL p0)), (8, I (addI .i64 z0.2 1))] [] 21) ?_
    exact pL
  · refine gX 0 ?_
    exact pL
noncomputable def T214 (p0 : (List S63)) : Option Int := ((iter (L214_3 p0) (0, 0)).bind fun y2 => (some y2.1))
theorem B214 (C : Callee) (p0 : (List S63)) : runs Try.prog C (cfg.fn 214) (finFn Try.prog (cfg.fn 214).byval Try.f214) [] (execA Try.prog C (cfg.fn 214) (nr Try.f214 []) (frame0 [LL a63 p0] 21 false)) = (T214 p0).map I := by
  unfold T214
  refine gS 1 ?_
  refine gR 0 (rg Try.f214 0) ?_
  refine se (mkE [(0, LL a63 p0)] [] 21) ?_
  refine pN ?_
  refine pS ?_
  refine gS 2 ?_
  refine gR 1 (rg Try.f214 1) ?_
  refine se (mkE [(0, LL a63 p0), (3, I 0)] [] 21) ?_
  refine pN ?_
  refine pS ?_
  refine gS 7 ?_
  refine gS 3 ?_
  refine gR 2 (rg Try.f214 2) ?_
  refine sg 1 (mkE [(6, LL a63 p0), (0, LL a63 p0), (3, I 0)] [] 21) ?_
  refine eo 7 (I (lenL p0)) (lenE 65 a63 p0) ?_
  refine se (mkE [(3, I 0), (6, LL a63 p0), (7, I (lenL p0)), (8, I 0)] [] 21) ?_
  refine pN ?_
  refine pS ?_
  refine gB 0 ?_
  refine lo [(3, none), (6, none), (7, none), (8, none)] [] (L214_3 p0) (fun z0 : (Int × Int) => (mkE [(3, I z0.1), (6, LL a63 p0), (7, I (lenL p0)), (8, I z0.2)] [] 21)) (fun (x : (Int × Int × Bool)) => (.exit 0, (mkE [(3, I x.1), (6, LL a63 p0), (7, I (lenL p0)), (8, I x.2.1), (9, B x.2.2)] [] 21))) (0, 0) (fun z => L214_3_ok C p0 z) ?_
  intro y2
  refine pH ?_
  refine pN ?_
  refine pS ?_
  refine gS 0 ?_
  refine gR 7 (rg Try.f214 7) ?_
  refine se (mkE [(2, I y2.1)] [] 21) ?_
  refine pN ?_
  refine pS ?_
  refine gE ?_
  exact pL
theorem F214 (m : Nat) (hm : 1 ≤ m) (p0 : (List S63)) : callA Try.prog cfg m 214 [LL a63 p0] = (T214 p0).map I := by
  obtain ⟨q, rfl⟩ : ∃ q, m = q + 1 := ⟨m - 1, by omega⟩
  exact (callA_body (fn := Try.f214) (c := body_ Try.f214) q _ (by kernel_rfl) (by kernel_rfl) (by kernel_rfl)).trans (B214 _ p0)

noncomputable def T116 (p0 : (List S63)) : Option (Int × Int) := ((T211 p0).bind fun x1 => (bif (neI x1 0) then (some (0, x1)) else ((T213 p0 []).bind fun x2 => ((T214 x2).bind fun x3 => (some (x3, 0))))))
theorem B116 (C : Callee) (h211 : ∀ (p0 : (List S63)), C 211 [LL a63 p0] = (T211 p0).map I) (h213 : ∀ (p0 : (List S63)) (p1 : (List S63)), C 213 [LL a63 p0, LL a63 p1] = (T213 p0 p1).map (fun l => AV.fr 64 4 (List.map a63 l))) (h214 : ∀ (p0 : (List S63)), C 214 [LL a63 p0] = (T214 p0).map I) (p0 : (List S63)) : runs Try.prog C (cfg.fn 116) (finFn Try.prog (cfg.fn 116).byval Try.f116) [] (execA Try.prog C (cfg.fn 116) (nr Try.f116 []) (frame0 [LL a63 p0] 13 false)) = (T116 p0).map (fun r => AV.tup [I r.1, I r.2]) := by
  unfold T116
  refine gS 1 ?_
  refine gR 0 (rg Try.f116 0) ?_
  refine se (mkE [(0, LL a63 p0)] [] 13) ?_
  refine pN ?_
  refine pS ?_
  refine gS 4 ?_
  refine gS 2 ?_
  refine gR 1 (rg Try.f116 1) ?_
  refine sg 1 (mkE [(5, LL a63 p0), (0, LL a63 p0)] [] 13) ?_
  refine co 6 [] (h211 p0) (fun x1 => ?_)
  refine se (mkE [(0, LL a63 p0), (4, I x1)] [] 13) ?_
  refine pN ?_
  refine pS ?_
  refine gS 0 ?_
  refine gR 2 (rg Try.f116 2) ?_
  refine se (mkE [(0, LL a63 p0), (4, I x1), (8, B (neI x1 0))] [] 13) ?_
  refine pN ?_
  refine pS ?_
  refine gC 8 (neI x1 0) ?_ ?_
  · refine gS 0 ?_
    refine gR 3 (rg Try.f116 3) ?_
    refine se (mkE [(2, I 0), (3, I x1)] [] 13) ?_
    refine pN ?_
    refine pS ?_
    refine gE ?_
    exact pL
  · refine gK ?_
    refine pN ?_
    refine pS ?_
    refine gS 0 ?_
    refine gR 4 (rg Try.f116 4) ?_
    refine sg 1 (mkE [(10, LL a63 p0), (0, LL a63 p0), (4, I x1), (8, B (neI x1 0))] [] 13) ?_
    refine co 11 [] (h213 p0 []) (fun x2 => ?_)
    refine co 12 [88] (h214 x2) (fun x3 => ?_)
    refine se (mkE [(2, I x3), (3, I 0)] [] 13) ?_
    refine pN ?_
    refine pS ?_
    refine gE ?_
    exact pL
theorem F116 (m : Nat) (hm : 5 ≤ m) (p0 : (List S63)) : callA Try.prog cfg m 116 [LL a63 p0] = (T116 p0).map (fun r => AV.tup [I r.1, I r.2]) := by
  obtain ⟨q, rfl⟩ : ∃ q, m = q + 1 := ⟨m - 1, by omega⟩
  exact (callA_body (fn := Try.f116) (c := body_ Try.f116) q _ (by kernel_rfl) (by kernel_rfl) (by kernel_rfl)).trans (B116 _ (fun p0 => F211 q (by omega) p0) (fun p0 p1 => F213 q (by omega) p0 p1) (fun p0 => F214 q (by omega) p0) p0)

noncomputable def T132 (p0 : Int) (p1 : Int) (p2 : Int) : Option Bool := (bif (leI p1 p0) then (some (leI p0 p2)) else (some false))
theorem B132 (C : Callee) (p0 : Int) (p1 : Int) (p2 : Int) : runs Try.prog C (cfg.fn 132) (finFn Try.prog (cfg.fn 132).byval Try.f132) [] (execA Try.prog C (cfg.fn 132) (nr Try.f132 []) (frame0 [I p0, I p1, I p2] 15 false)) = (T132 p0 p1 p2).map B := by
  unfold T132
  refine gS 1 ?_
  refine gR 0 (rg Try.f132 0) ?_
  refine se (mkE [(0, I p0), (1, I p1), (2, I p2)] [] 15) ?_
  refine pN ?_
  refine pS ?_
  refine gS 0 ?_
  refine gR 1 (rg Try.f132 1) ?_
  refine sg 4 (mkE [(10, B (leI p1 p0)), (9, B (leI p1 p0)), (8, I p0), (7, I p1), (0, I p0), (1, I p1), (2, I p2)] [] 15) ?_
  refine sb 10 (leI p1 p0) ?_ ?_
  · refine se (mkE [(6, B (leI p0 p2))] [] 15) ?_
    refine pN ?_
    refine pS ?_
    refine gE ?_
    exact pL
  · refine se (mkE [(6, B false)] [] 15) ?_
    refine pN ?_
    refine pS ?_
    refine gE ?_
    exact pL
theorem F132 (m : Nat) (hm : 1 ≤ m) (p0 : Int) (p1 : Int) (p2 : Int) : callA Try.prog cfg m 132 [I p0, I p1, I p2] = (T132 p0 p1 p2).map B := by
  obtain ⟨q, rfl⟩ : ∃ q, m = q + 1 := ⟨m - 1, by omega⟩
  exact (callA_body (fn := Try.f132) (c := body_ Try.f132) q _ (by kernel_rfl) (by kernel_rfl) (by kernel_rfl)).trans (B132 _ p0 p1 p2)

noncomputable def T118 (p0 : S63) : Option Int := ((T132 p0.f0 (-100000) 100000).bind fun x1 => (bif (!x1) then (some 1) else ((T132 p0.f1 (-100000) 100000).bind fun x2 => (bif (!x2) then (some 1) else ((T132 p0.f2 1 (subI .i64 100000 p0.f0)).bind fun x3 => (bif (!x3) then (some 1) else ((T132 p0.f3 1 (subI .i64 100000 p0.f1)).bind fun x4 => (bif (!x4) then (some 1) else (some 0)))))))))
theorem B118 (C : Callee) (h132 : ∀ (p0 : Int) (p1 : Int) (p2 : Int), C 132 [I p0, I p1, I p2] = (T132 p0 p1 p2).map B) (p0 : S63) : runs Try.prog C (cfg.fn 118) (finFn Try.prog (cfg.fn 118).byval Try.f118) [] (execA Try.prog C (cfg.fn 118) (nr Try.f118 []) (frame0 [a63 p0] 31 false)) = (T118 p0).map I := by
  unfold T118
  refine gS 1 ?_
  refine gR 0 (rg Try.f118 0) ?_
  refine se (mkE [(1, .ba 8 0)] [(8, .box [I p0.f0, I p0.f1, I p0.f2, I p0.f3] false)] 31) ?_
  refine pN ?_
  refine pS ?_
  refine gS 3 ?_
  refine gS 0 ?_
  refine gR 1 (rg Try.f118 1) ?_
  refine sg 2 (mkE [(4, I p0.f0), (3, .ba 8 0), (1, .ba 8 0)] [(8, .box [I p0.f0, I p0.f1, I p0.f2, I p0.f3] false)] 31) ?_
  refine co 5 [] (h132 p0.f0 (-100000) 100000) (fun x1 => ?_)
  refine sg 5 (mkE [(7, B (!x1)), (6, B (!x1)), (5, B x1), (4, I p0.f0), (3, .ba 8 0), (1, .ba 8 0)] [(8, .box [I p0.f0, I p0.f1, I p0.f2, I p0.f3] false)] 31) ?_
  refine sb 7 (!x1) ?_ ?_
  · refine se (mkE [(30, B true)] [] 31) ?_
    refine pN ?_
    refine pS ?_
    refine gT (.tmp 30) ?_
    refine gS 0 ?_
    refine gR 2 (rg Try.f118 2) ?_
    refine se (mkE [(2, I 1)] [] 31) ?_
    refine pN ?_
    refine pS ?_
    refine gE ?_
    exact pL
  · refine sg 7 (mkE [(9, I p0.f1), (8, .ba 8 1), (7, B false), (7, B (!x1)), (6, B (!x1)), (5, B x1), (4, I p0.f0), (3, .ba 8 0), (1, .ba 8 0)] [(8, .box [I p0.f0, I p0.f1, I p0.f2, I p0.f3] false)] 31) ?_
    refine co 10 [] (h132 p0.f1 (-100000) 100000) (fun x2 => ?_)
    refine sg 11 (mkE [(13, B (!x2)), (12, B (!x2)), (11, B (!x2)), (10, B x2), (9, I p0.f1), (8, .ba 8 1), (7, B false), (7, B (!x1)), (6, B (!x1)), (5, B x1), (4, I p0.f0), (3, .ba 8 0), (1, .ba 8 0)] [(8, .box [I p0.f0, I p0.f1, I p0.f2, I p0.f3] false)] 31) ?_
    refine sb 13 (!x2) ?_ ?_
    · refine se (mkE [(30, B true)] [] 31) ?_
      refine pN ?_
      refine pS ?_
      refine gT (.tmp 30) ?_
      refine gS 0 ?_
      refine gR 2 (rg Try.f118 2) ?_
      refine se (mkE [(2, I 1)] [] 31) ?_
      refine pN ?_
      refine pS ?_
      refine gE ?_
      exact pL
    · refine sg 16 (mkE [(18, I (subI .i64 100000 p0.f0)), (17, I p0.f0), (16, .ba 8 0), (15, I p0.f2), (14, .ba 8 2), (13, B false), (13, B (!x2)), (12, B (!x2)), (11, B (!x2)), (10, B x2), (9, I p0.f1), (8, .ba 8 1), (7, B false), (7, B (!x1)), (6, B (!x1)), (5, B x1), (4, I p0.f0), (3, .ba 8 0), (1, .ba 8 0)] [(8, .box [I p0.f0, I p0.f1, I p0.f2, I p0.f3] false)] 31) ?_
      refine co 19 [] (h132 p0.f2 1 (subI .i64 100000 p0.f0)) (fun x3 => ?_)
      refine sg 20 (mkE [(22, B (!x3)), (21, B (!x3)), (20, B (!x3)), (19, B x3), (18, I (subI .i64 100000 p0.f0)), (17, I p0.f0), (16, .ba 8 0), (15, I p0.f2), (14, .ba 8 2), (13, B false), (13, B (!x2)), (12, B (!x2)), (11, B (!x2)), (10, B x2), (9, I p0.f1), (8, .ba 8 1), (7, B false), (7, B (!x1)), (6, B (!x1)), (5, B x1), (4, I p0.f0), (3, .ba 8 0), (1, .ba 8 0)] [(8, .box [I p0.f0, I p0.f1, I p0.f2, I p0.f3] false)] 31) ?_
      refine sb 22 (!x3) ?_ ?_
      · refine se (mkE [(30, B true)] [] 31) ?_
        refine pN ?_
        refine pS ?_
        refine gT (.tmp 30) ?_
        refine gS 0 ?_
        refine gR 2 (rg Try.f118 2) ?_
        refine se (mkE [(2, I 1)] [] 31) ?_
        refine pN ?_
        refine pS ?_
        refine gE ?_
        exact pL
      · refine sg 25 (mkE [(27, I (subI .i64 100000 p0.f1)), (26, I p0.f1), (25, .ba 8 1), (24, I p0.f3), (23, .ba 8 3), (22, B false), (22, B (!x3)), (21, B (!x3)), (20, B (!x3)), (19, B x3), (18, I (subI .i64 100000 p0.f0)), (17, I p0.f0), (16, .ba 8 0), (15, I p0.f2), (14, .ba 8 2), (13, B false), (13, B (!x2)), (12, B (!x2)), (11, B (!x2)), (10, B x2), (9, I p0.f1), (8, .ba 8 1), (7, B false), (7, B (!x1)), (6, B (!x1)), (5, B x1), (4, I p0.f0), (3, .ba 8 0), (1, .ba 8 0)] [(8, .box [I p0.f0, I p0.f1, I p0.f2, I p0.f3] false)] 31) ?_
        refine co 28 [] (h132 p0.f3 1 (subI .i64 100000 p0.f1)) (fun x4 => ?_)
        refine se (mkE [(30, B (!x4))] [] 31) ?_
        refine pN ?_
        refine pS ?_
        refine gC 30 (!x4) ?_ ?_
        · refine gS 0 ?_
          refine gR 2 (rg Try.f118 2) ?_
          refine se (mkE [(2, I 1)] [] 31) ?_
          refine pN ?_
          refine pS ?_
          refine gE ?_
          exact pL
        · refine gK ?_
          refine pN ?_
          refine pS ?_
          refine gS 0 ?_
          refine gR 3 (rg Try.f118 3) ?_
          refine se (mkE [(2, I 0)] [] 31) ?_
          refine pN ?_
          refine pS ?_
          refine gE ?_
          exact pL
theorem F118 (m : Nat) (hm : 2 ≤ m) (p0 : S63) : callA Try.prog cfg m 118 [a63 p0] = (T118 p0).map I := by
  obtain ⟨q, rfl⟩ : ∃ q, m = q + 1 := ⟨m - 1, by omega⟩
  exact (callA_body (fn := Try.f118) (c := body_ Try.f118) q _ (by kernel_rfl) (by kernel_rfl) (by kernel_rfl)).trans (B118 _ (fun p0 p1 p2 => F132 q (by omega) p0 p1 p2) p0)

noncomputable def L49_2 (p0 : (List Int)) (z0 : Int) : Option (Int ⊕ ((Int × Bool) ⊕ Int)) := (bif (ltI z0 (lenL p0)) then ((listAt p0 z0).bind fun x1 => (bif (neI x1 0) then (some (.inr (.inr x1))) else (some (.inl (addI .i64 z0 1))))) else (some (.inr (.inl (z0, (ltI z0 (lenL p0)))))))
theorem L49_2_ok (C : Callee) (p0 : (List Int)) (z0 : Int) : runs Try.prog C (cfg.fn 49) (finLoop ((cfg.fn 49).keep 2) ((cfg.fn 49).al 2)) [] (execA Try.prog C (cfg.fn 49) (nr Try.f49 [false, false, true, false, true]) ((fun z0 : Int => (mkE [(5, LL I p0), (6, I (lenL p0)), (7, I z0)] [] 15)) z0)) = (L49_2 p0 z0).map (Sum.elim (fun z => .inl ((fun z0 : Int => (mkE [(5, LL I p0), (6, I (lenL p0)), (7, I z0)] [] 15)) z)) (fun x => .inr ((Sum.elim (fun (x : (Int × Bool)) => (.exit 0, (mkE [(5, LL I p0), (6, I (lenL p0)), (7, I x.1), (8, B x.2)] [] 15))) (fun (x : Int) => (.ret, (mkE [(2, I x)] [] 15)))) x))) := by
  unfold L49_2
  refine gS 0 ?_
  refine gR 2 (rg Try.f49 2) ?_
  refine se (mkE [(5, LL I p0), (6, I (lenL p0)), (7, I z0), (8, B (ltI z0 (lenL p0)))] [] 15) ?_
  refine pN ?_
  refine pS ?_
  refine gS 3 ?_
  refine gC 8 (ltI z0 (lenL p0)) ?_ ?_
  · refine gK ?_
    refine pN ?_
    refine pS ?_
    refine gS 6 ?_
    refine gB 1 ?_
    refine gS 4 ?_
    refine gR 3 (rg Try.f49 3) ?_
    refine vo 9 (addrE 189 69 1 I .i64 p0 z0) (fun x1 => ?_)
    refine se (mkE [(4, I x1), (5, LL I p0), (6, I (lenL p0)), (7, I z0)] [] 15) ?_
    refine pN ?_
    refine pS ?_
    refine gS 0 ?_
    refine gR 4 (rg Try.f49 4) ?_
    refine se (mkE [(4, I x1), (5, LL I p0), (6, I (lenL p0)), (7, I z0), (12, B (neI x1 0))] [] 15) ?_
    refine pN ?_
    refine pS ?_
    refine gC 12 (neI x1 0) ?_ ?_
    · refine gS 0 ?_
      refine gR 5 (rg Try.f49 5) ?_
      refine se (mkE [(2, I x1)] [] 15) ?_
      refine pN ?_
      refine pS ?_
      refine gE ?_
      exact pL
    · refine gK ?_
      refine pB ?_
      refine pN ?_
      refine pS ?_
      refine gR 6 (rg Try.f49 6) ?_
      refine se (mkE [(5, LL I p0), (6, I (lenL p0)), (7, I (addI .i64 z0 1))] [] 15) ?_
      exact pL
  · refine gX 0 ?_
    exact pL
noncomputable def T49 (p0 : (List Int)) : Option Int := ((iter (L49_2 p0) 0).bind fun y2 => (Sum.elim (fun y2a => (some 0)) (fun y2b => (some y2b)) y2))
theorem B49 (C : Callee) (p0 : (List Int)) : runs Try.prog C (cfg.fn 49) (finFn Try.prog (cfg.fn 49).byval Try.f49) [] (execA Try.prog C (cfg.fn 49) (nr Try.f49 []) (frame0 [LL I p0] 15 false)) = (T49 p0).map I := by
  unfold T49
  refine gS 1 ?_
  refine gR 0 (rg Try.f49 0) ?_
  refine se (mkE [(0, LL I p0)] [] 15) ?_
  refine pN ?_
  refine pS ?_
  refine gS 7 ?_
  refine gS 2 ?_
  refine gR 1 (rg Try.f49 1) ?_
  refine sg 1 (mkE [(5, LL I p0), (0, LL I p0)] [] 15) ?_
  refine eo 6 (I (lenL p0)) (lenE 189 I p0) ?_
  refine se (mkE [(5, LL I p0), (6, I (lenL p0)), (7, I 0)] [] 15) ?_
  refine pN ?_
  refine pS ?_
  refine gB 0 ?_
  refine lo [(5, none), (6, none), (7, none)] [] (L49_2 p0) (fun z0 : Int => (mkE [(5, LL I p0), (6, I (lenL p0)), (7, I z0)] [] 15)) (Sum.elim (fun (x : (Int × Bool)) => (.exit 0, (mkE [(5, LL I p0), (6, I (lenL p0)), (7, I x.1), (8, B x.2)] [] 15))) (fun (x : Int) => (.ret, (mkE [(2, I x)] [] 15)))) 0 (fun z => L49_2_ok C p0 z) ?_
  intro y2
  refine ss y2 (Z := (Sum.elim (fun (x : (Int × Bool)) => (.exit 0, (mkE [(5, LL I p0), (6, I (lenL p0)), (7, I x.1), (8, B x.2)] [] 15))) (fun (x : Int) => (.ret, (mkE [(2, I x)] [] 15))))) (fun y2a => ?_) (fun y2b => ?_)
  · refine pH ?_
    refine pN ?_
    refine pS ?_
    refine gS 0 ?_
    refine gR 7 (rg Try.f49 7) ?_
    refine se (mkE [(2, I 0)] [] 15) ?_
    refine pN ?_
    refine pS ?_
    refine gE ?_
    exact pL
  · exact pL
theorem F49 (m : Nat) (hm : 1 ≤ m) (p0 : (List Int)) : callA Try.prog cfg m 49 [LL I p0] = (T49 p0).map I := by
  obtain ⟨q, rfl⟩ : ∃ q, m = q + 1 := ⟨m - 1, by omega⟩
  exact (callA_body (fn := Try.f49) (c := body_ Try.f49) q _ (by kernel_rfl) (by kernel_rfl) (by kernel_rfl)).trans (B49 _ p0)

noncomputable def L119_4 (p0 : (List S63)) (z0 : Int) : Option (Int ⊕ ((Int × Bool) ⊕ Int)) := (bif (ltI z0 (lenL p0)) then ((listAt p0 z0).bind fun x1 => ((T118 x1).bind fun x2 => (bif (neI x2 0) then (some (.inr (.inr x2))) else (some (.inl (addI .i64 z0 1)))))) else (some (.inr (.inl (z0, (ltI z0 (lenL p0)))))))
theorem L119_4_ok (C : Callee) (h118 : ∀ (p0 : S63), C 118 [a63 p0] = (T118 p0).map I) (p0 : (List S63)) (z0 : Int) : runs Try.prog C (cfg.fn 119) (finLoop ((cfg.fn 119).keep 4) ((cfg.fn 119).al 4)) [] (execA Try.prog C (cfg.fn 119) (nr Try.f119 [false, false, true, false, true, true]) ((fun z0 : Int => (mkE [(9, LL a63 p0), (10, I (lenL p0)), (11, I z0)] [] 21)) z0)) = (L119_4 p0 z0).map (Sum.elim (fun z => .inl ((fun z0 : Int => (mkE [(9, LL a63 p0), (10, I (lenL p0)), (11, I z0)] [] 21)) z)) (fun x => .inr ((Sum.elim (fun (x : (Int × Bool)) => (.exit 0, (mkE [(9, LL a63 p0), (10, I (lenL p0)), (11, I x.1), (12, B x.2)] [] 21))) (fun (x : Int) => (.ret, (mkE [(2, I x)] [] 21)))) x))) := by
  unfold L119_4
  refine gS 0 ?_
  refine gR 4 (rg Try.f119 4) ?_
  refine se (mkE [(9, LL a63 p0), (10, I (lenL p0)), (11, I z0), (12, B (ltI z0 (lenL p0)))] [] 21) ?_
  refine pN ?_
  refine pS ?_
  refine gS 5 ?_
  refine gC 12 (ltI z0 (lenL p0)) ?_ ?_
  · refine gK ?_
    refine pN ?_
    refine pS ?_
    refine gS 9 ?_
    refine gB 1 ?_
    refine gS 6 ?_
    refine gR 5 (rg Try.f119 5) ?_
    refine vo 13 (addrE 65 64 4 a63 .i64 p0 z0) (fun x1 => ?_)
    refine se (mkE [(4, .ba 32 0), (9, LL a63 p0), (10, I (lenL p0)), (11, I z0)] [(32, .box [I x1.f0, I x1.f1, I x1.f2, I x1.f3] false)] 21) ?_
    refine pN ?_
    refine pS ?_
    refine gS 7 ?_
    refine gR 6 (rg Try.f119 6) ?_
    refine sg 1 (mkE [(15, a63 x1), (4, .ba 32 0), (9, LL a63 p0), (10, I (lenL p0)), (11, I z0)] [(32, .box [I x1.f0, I x1.f1, I x1.f2, I x1.f3] false)] 21) ?_
    refine co 16 [] (h118 x1) (fun x2 => ?_)
    refine se (mkE [(5, I x2), (9, LL a63 p0), (10, I (lenL p0)), (11, I z0)] [] 21) ?_
    refine pN ?_
    refine pS ?_
    refine gS 0 ?_
    refine gR 7 (rg Try.f119 7) ?_
    refine se (mkE [(5, I x2), (9, LL a63 p0), (10, I (lenL p0)), (11, I z0), (18, B (neI x2 0))] [] 21) ?_
    refine pN ?_
    refine pS ?_
    refine gC 18 (neI x2 0) ?_ ?_
    · refine gS 0 ?_
      refine gR 8 (rg Try.f119 8) ?_
      refine se (mkE [(2, I x2)] [] 21) ?_
      refine pN ?_
      refine pS ?_
      refine gE ?_
      exact pL
    · refine gK ?_
      refine pB ?_
      refine pN ?_
      refine pS ?_
      refine gR 9 (rg Try.f119 9) ?_
      refine se (mkE [(9, LL a63 p0), (10, I (lenL p0)), (11, I (addI .i64 z0 1))] [] 21) ?_
      exact pL
  · refine gX 0 ?_
    exact pL
noncomputable def T119 (p0 : (List S63)) : Option Int := (bif (ltI 2000 (lenL p0)) then (some 2) else ((iter (L119_4 p0) 0).bind fun y3 => (Sum.elim (fun y3a => (some 0)) (fun y3b => (some y3b)) y3)))
theorem B119 (C : Callee) (h118 : ∀ (p0 : S63), C 118 [a63 p0] = (T118 p0).map I) (p0 : (List S63)) : runs Try.prog C (cfg.fn 119) (finFn Try.prog (cfg.fn 119).byval Try.f119) [] (execA Try.prog C (cfg.fn 119) (nr Try.f119 []) (frame0 [LL a63 p0] 21 false)) = (T119 p0).map I := by
  unfold T119
  refine gS 1 ?_
  refine gR 0 (rg Try.f119 0) ?_
  refine se (mkE [(0, LL a63 p0)] [] 21) ?_
  refine pN ?_
  refine pS ?_
  refine gS 3 ?_
  refine gS 0 ?_
  refine gR 1 (rg Try.f119 1) ?_
  refine sg 1 (mkE [(6, LL a63 p0), (0, LL a63 p0)] [] 21) ?_
  refine eo 7 (I (lenL p0)) (lenE 65 a63 p0) ?_
  refine se (mkE [(0, LL a63 p0), (8, B (ltI 2000 (lenL p0)))] [] 21) ?_
  refine pN ?_
  refine pS ?_
  refine gC 8 (ltI 2000 (lenL p0)) ?_ ?_
  · refine gS 0 ?_
    refine gR 2 (rg Try.f119 2) ?_
    refine se (mkE [(2, I 2)] [] 21) ?_
    refine pN ?_
    refine pS ?_
    refine gE ?_
    exact pL
  · refine gK ?_
    refine pN ?_
    refine pS ?_
    refine gS 10 ?_
    refine gS 4 ?_
    refine gR 3 (rg Try.f119 3) ?_
    refine sg 1 (mkE [(9, LL a63 p0), (0, LL a63 p0), (8, B (ltI 2000 (lenL p0)))] [] 21) ?_
    refine eo 10 (I (lenL p0)) (lenE 65 a63 p0) ?_
    refine se (mkE [(9, LL a63 p0), (10, I (lenL p0)), (11, I 0)] [] 21) ?_
    refine pN ?_
    refine pS ?_
    refine gB 0 ?_
    refine lo [(9, none), (10, none), (11, none)] [] (L119_4 p0) (fun z0 : Int => (mkE [(9, LL a63 p0), (10, I (lenL p0)), (11, I z0)] [] 21)) (Sum.elim (fun (x : (Int × Bool)) => (.exit 0, (mkE [(9, LL a63 p0), (10, I (lenL p0)), (11, I x.1), (12, B x.2)] [] 21))) (fun (x : Int) => (.ret, (mkE [(2, I x)] [] 21)))) 0 (fun z => L119_4_ok C h118 p0 z) ?_
    intro y3
    refine ss y3 (Z := (Sum.elim (fun (x : (Int × Bool)) => (.exit 0, (mkE [(9, LL a63 p0), (10, I (lenL p0)), (11, I x.1), (12, B x.2)] [] 21))) (fun (x : Int) => (.ret, (mkE [(2, I x)] [] 21))))) (fun y3a => ?_) (fun y3b => ?_)
    · refine pH ?_
      refine pN ?_
      refine pS ?_
      refine gS 0 ?_
      refine gR 10 (rg Try.f119 10) ?_
      refine se (mkE [(2, I 0)] [] 21) ?_
      refine pN ?_
      refine pS ?_
      refine gE ?_
      exact pL
    · exact pL
theorem F119 (m : Nat) (hm : 3 ≤ m) (p0 : (List S63)) : callA Try.prog cfg m 119 [LL a63 p0] = (T119 p0).map I := by
  obtain ⟨q, rfl⟩ : ∃ q, m = q + 1 := ⟨m - 1, by omega⟩
  exact (callA_body (fn := Try.f119) (c := body_ Try.f119) q _ (by kernel_rfl) (by kernel_rfl) (by kernel_rfl)).trans (B119 _ (fun p0 => F118 q (by omega) p0) p0)

noncomputable def T120 (p0 : S63) (p1 : S63) : Option (S63 × Bool) := (bif (leI (subI .i64 (minI (addI .i64 p0.f0 p0.f2) (addI .i64 p1.f0 p1.f2)) (maxI p0.f0 p1.f0)) 0) then (some ((S63.mk 0 0 0 0), false)) else (bif (leI (subI .i64 (minI (addI .i64 p0.f1 p0.f3) (addI .i64 p1.f1 p1.f3)) (maxI p0.f1 p1.f1)) 0) then (some ((S63.mk 0 0 0 0), false)) else (some ((S63.mk (maxI p0.f0 p1.f0) (maxI p0.f1 p1.f1) (subI .i64 (minI (addI .i64 p0.f0 p0.f2) (addI .i64 p1.f0 p1.f2)) (maxI p0.f0 p1.f0)) (subI .i64 (minI (addI .i64 p0.f1 p0.f3) (addI .i64 p1.f1 p1.f3)) (maxI p0.f1 p1.f1))), true))))
theorem B120 (C : Callee) (p0 : S63) (p1 : S63) : runs Try.prog C (cfg.fn 120) (finFn Try.prog (cfg.fn 120).byval Try.f120) [] (execA Try.prog C (cfg.fn 120) (nr Try.f120 []) (frame0 [a63 p0, a63 p1] 58 false)) = (T120 p0 p1).map (fun r => AV.tup [a63 r.1, B r.2]) := by
  unfold T120
  refine gS 1 ?_
  refine gR 0 (rg Try.f120 0) ?_
  refine se (mkE [(2, .ba 16 0), (3, .ba 24 0), (4, .ba 32 0)] [(16, .box [I p0.f0, I p0.f1, I p0.f2, I p0.f3] false), (24, .box [I p1.f0, I p1.f1, I p1.f2, I p1.f3] false), (32, .box [I 0, I 0, I 0, I 0] false)] 58) ?_
  refine pN ?_
  refine pS ?_
  refine gS 2 ?_
  refine dq 1 (rg Try.f120 1) (mkE [(2, .ba 16 0), (3, .ba 24 0), (4, .ba 32 0), (6, I (maxI p0.f0 p1.f0)), (7, I (maxI p0.f1 p1.f1))] [(16, .box [I p0.f0, I p0.f1, I p0.f2, I p0.f3] false), (24, .box [I p1.f0, I p1.f1, I p1.f2, I p1.f3] false), (32, .box [I 0, I 0, I 0, I 0] false)] 58) ?_
  refine pN ?_
  refine pS ?_
  refine gS 3 ?_
  refine dq 2 (rg Try.f120 2) (mkE [(4, .ba 32 0), (6, I (maxI p0.f0 p1.f0)), (7, I (maxI p0.f1 p1.f1)), (8, I (subI .i64 (minI (addI .i64 p0.f0 p0.f2) (addI .i64 p1.f0 p1.f2)) (maxI p0.f0 p1.f0))), (9, I (subI .i64 (minI (addI .i64 p0.f1 p0.f3) (addI .i64 p1.f1 p1.f3)) (maxI p0.f1 p1.f1)))] [(32, .box [I 0, I 0, I 0, I 0] false)] 58) ?_
  refine pN ?_
  refine pS ?_
  refine gS 5 ?_
  refine gS 0 ?_
  refine gR 3 (rg Try.f120 3) ?_
  refine sg 3 (mkE [(48, B (leI (subI .i64 (minI (addI .i64 p0.f0 p0.f2) (addI .i64 p1.f0 p1.f2)) (maxI p0.f0 p1.f0)) 0)), (47, B (leI (subI .i64 (minI (addI .i64 p0.f0 p0.f2) (addI .i64 p1.f0 p1.f2)) (maxI p0.f0 p1.f0)) 0)), (46, I (subI .i64 (minI (addI .i64 p0.f0 p0.f2) (addI .i64 p1.f0 p1.f2)) (maxI p0.f0 p1.f0))), (4, .ba 32 0), (6, I (maxI p0.f0 p1.f0)), (7, I (maxI p0.f1 p1.f1)), (8, I (subI .i64 (minI (addI .i64 p0.f0 p0.f2) (addI .i64 p1.f0 p1.f2)) (maxI p0.f0 p1.f0))), (9, I (subI .i64 (minI (addI .i64 p0.f1 p0.f3) (addI .i64 p1.f1 p1.f3)) (maxI p0.f1 p1.f1)))] [(32, .box [I 0, I 0, I 0, I 0] false)] 58) ?_
  refine sb 48 (leI (subI .i64 (minI (addI .i64 p0.f0 p0.f2) (addI .i64 p1.f0 p1.f2)) (maxI p0.f0 p1.f0)) 0) ?_ ?_
  · refine se (mkE [(4, .ba 32 0), (6, I (maxI p0.f0 p1.f0)), (7, I (maxI p0.f1 p1.f1)), (8, I (subI .i64 (minI (addI .i64 p0.f0 p0.f2) (addI .i64 p1.f0 p1.f2)) (maxI p0.f0 p1.f0))), (9, I (subI .i64 (minI (addI .i64 p0.f1 p0.f3) (addI .i64 p1.f1 p1.f3)) (maxI p0.f1 p1.f1))), (51, B true)] [(32, .box [I 0, I 0, I 0, I 0] false)] 58) ?_
    refine pN ?_
    refine pS ?_
    refine gT (.tmp 51) ?_
    refine gS 0 ?_
    refine gR 4 (rg Try.f120 4) ?_
    refine se (mkE [(4, .ba 32 0), (5, B false)] [(32, .box [I 0, I 0, I 0, I 0] false)] 58) ?_
    refine pN ?_
    refine pS ?_
    refine gE ?_
    exact pL
  · refine se (mkE [(4, .ba 32 0), (6, I (maxI p0.f0 p1.f0)), (7, I (maxI p0.f1 p1.f1)), (8, I (subI .i64 (minI (addI .i64 p0.f0 p0.f2) (addI .i64 p1.f0 p1.f2)) (maxI p0.f0 p1.f0))), (9, I (subI .i64 (minI (addI .i64 p0.f1 p0.f3) (addI .i64 p1.f1 p1.f3)) (maxI p0.f1 p1.f1))), (51, B (leI (subI .i64 (minI (addI .i64 p0.f1 p0.f3) (addI .i64 p1.f1 p1.f3)) (maxI p0.f1 p1.f1)) 0))] [(32, .box [I 0, I 0, I 0, I 0] false)] 58) ?_
    refine pN ?_
    refine pS ?_
    refine gC 51 (leI (subI .i64 (minI (addI .i64 p0.f1 p0.f3) (addI .i64 p1.f1 p1.f3)) (maxI p0.f1 p1.f1)) 0) ?_ ?_
    · refine gS 0 ?_
      refine gR 4 (rg Try.f120 4) ?_
      refine se (mkE [(4, .ba 32 0), (5, B false)] [(32, .box [I 0, I 0, I 0, I 0] false)] 58) ?_
      refine pN ?_
      refine pS ?_
      refine gE ?_
      exact pL
    · refine gK ?_
      refine pN ?_
      refine pS ?_
      refine gS 0 ?_
      refine gR 5 (rg Try.f120 5) ?_
      refine se (mkE [(4, .ba 32 0), (5, B true)] [(32, .box [I (maxI p0.f0 p1.f0), I (maxI p0.f1 p1.f1), I (subI .i64 (minI (addI .i64 p0.f0 p0.f2) (addI .i64 p1.f0 p1.f2)) (maxI p0.f0 p1.f0)), I (subI .i64 (minI (addI .i64 p0.f1 p0.f3) (addI .i64 p1.f1 p1.f3)) (maxI p0.f1 p1.f1))] false)] 58) ?_
      refine pN ?_
      refine pS ?_
      refine gE ?_
      exact pL
theorem F120 (m : Nat) (hm : 1 ≤ m) (p0 : S63) (p1 : S63) : callA Try.prog cfg m 120 [a63 p0, a63 p1] = (T120 p0 p1).map (fun r => AV.tup [a63 r.1, B r.2]) := by
  obtain ⟨q, rfl⟩ : ∃ q, m = q + 1 := ⟨m - 1, by omega⟩
  exact (callA_body (fn := Try.f120) (c := body_ Try.f120) q _ (by kernel_rfl) (by kernel_rfl) (by kernel_rfl)).trans (B120 _ p0 p1)

noncomputable def T256 (p0 : S63) : Option (Int × Int) := (some (p0.f0, (addI .i64 p0.f0 p0.f2)))
theorem B256 (C : Callee) (p0 : S63) : runs Try.prog C (cfg.fn 256) (finFn Try.prog (cfg.fn 256).byval Try.f256) [] (execA Try.prog C (cfg.fn 256) (nr Try.f256 []) (frame0 [a63 p0] 11 false)) = (T256 p0).map (fun r => AV.tup [I r.1, I r.2]) := by
  unfold T256
  refine gS 1 ?_
  refine gR 0 (rg Try.f256 0) ?_
  refine se (mkE [(1, .ba 8 0)] [(8, .box [I p0.f0, I p0.f1, I p0.f2, I p0.f3] false)] 11) ?_
  refine pN ?_
  refine pS ?_
  refine gS 0 ?_
  refine dq 1 (rg Try.f256 1) (mkE [(2, I p0.f0), (3, I (addI .i64 p0.f0 p0.f2))] [] 11) ?_
  refine pN ?_
  refine pS ?_
  refine gE ?_
  exact pL
theorem F256 (m : Nat) (hm : 1 ≤ m) (p0 : S63) : callA Try.prog cfg m 256 [a63 p0] = (T256 p0).map (fun r => AV.tup [I r.1, I r.2]) := by
  obtain ⟨q, rfl⟩ : ∃ q, m = q + 1 := ⟨m - 1, by omega⟩
  exact (callA_body (fn := Try.f256) (c := body_ Try.f256) q _ (by kernel_rfl) (by kernel_rfl) (by kernel_rfl)).trans (B256 _ p0)

noncomputable def L255_3 (p0 : (List S63)) (z0 : ((List Int) × Int)) : Option (((List Int) × Int) ⊕ (Int × Bool × (List Int))) := (bif (ltI z0.2 (lenL p0)) then ((listAt p0 z0.2).bind fun x1 => ((T256 x1).bind fun x2 => ((appO 8 z0.1 ([x2.1, x2.2] : List Int)).bind fun x3 => (some (.inl (x3, (addI .i64 z0.2 1))))))) else (some (.inr (z0.2, (ltI z0.2 (lenL p0)), z0.1))))
theorem L255_3_ok (C : Callee) (h256 : ∀ (p0 : S63), C 256 [a63 p0] = (T256 p0).map (fun r => AV.tup [I r.1, I r.2])) (p0 : (List S63)) (z0 : ((List Int) × Int)) : runs Try.prog C (cfg.fn 255) (finLoop ((cfg.fn 255).keep 3) ((cfg.fn 255).al 3)) [] (execA Try.prog C (cfg.fn 255) (nr Try.f255 [false, false, true, false, true, true]) ((fun z0 : ((List Int) × Int) => (mkE [(1, .fn 256 []), (5, .own 40 0), (10, LL a63 p0), (11, I (lenL p0)), (12, I z0.2)] [(40, RR 3 1 I z0.1 0 false)] 32)) z0)) = (L255_3 p0 z0).map (Sum.elim (fun z => .inl ((fun z0 : ((List Int) × Int) => (mkE [(1, .fn 256 []), (5, .own 40 0), (10, LL a63 p0), (11, I (lenL p0)), (12, I z0.2)] [(40, RR 3 1 I z0.1 0 false)] 32)) z)) (fun x => .inr ((fun (x : (Int × Bool × (List Int))) => (.exit 0, (mkE [(1, .fn 256 []), (5, .own 40 0), (10, LL a63 p0), (11, I (lenL p0)), (12, I x.1), (13, B x.2.1)] [(40, RR 3 1 I x.2.2 0 false)] 32))) x))) := by
  unfold L255_3
  refine gS 0 ?_
  refine gR 3 (rg Try.f255 3) ?_
  refine se (mkE [(1, .fn 256 []), (5, .own 40 0), (10, LL a63 p0), (11, I (lenL p0)), (12, I z0.2), (13, B (ltI z0.2 (lenL p0)))] [(40, RR 3 1 I z0.1 0 false)] 32) ?_
  refine pN ?_
  refine pS ?_
  refine gS 4 ?_
  refine gC 13 (ltI z0.2 (lenL p0)) ?_ ?_
  · refine gK ?_
    refine pN ?_
    refine pS ?_
    refine gS 7 ?_
    refine gB 1 ?_
    refine gS 5 ?_
    refine gR 4 (rg Try.f255 4) ?_
    refine vo 14 (addrE 65 64 4 a63 .i64 p0 z0.2) (fun x1 => ?_)
    refine se (mkE [(1, .fn 256 []), (5, .own 40 0), (7, .ba 56 0), (10, LL a63 p0), (11, I (lenL p0)), (12, I z0.2)] [(40, RR 3 1 I z0.1 0 false), (56, .box [I x1.f0, I x1.f1, I x1.f2, I x1.f3] false)] 32) ?_
    refine pN ?_
    refine pS ?_
    refine gS 6 ?_
    refine gR 5 (rg Try.f255 5) ?_
    refine sg 2 (mkE [(18, a63 x1), (17, .fn 256 []), (1, .fn 256 []), (5, .own 40 0), (7, .ba 56 0), (10, LL a63 p0), (11, I (lenL p0)), (12, I z0.2)] [(40, RR 3 1 I z0.1 0 false), (56, .box [I x1.f0, I x1.f1, I x1.f2, I x1.f3] false)] 32) ?_
    refine co 19 [] (h256 x1) (fun x2 => ?_)
    refine se (mkE [(1, .fn 256 []), (5, .own 40 0), (8, I x2.1), (9, I x2.2), (10, LL a63 p0), (11, I (lenL p0)), (12, I z0.2)] [(40, RR 3 1 I z0.1 0 false)] 32) ?_
    refine pN ?_
    refine pS ?_
    refine gR 6 (rg Try.f255 6) ?_
    refine sg 4 (mkE [(25, .own 200 0), (24, I x2.2), (23, I x2.1), (22, .own 40 0), (1, .fn 256 []), (5, .own 40 0), (8, I x2.1), (9, I x2.2), (10, LL a63 p0), (11, I (lenL p0)), (12, I z0.2)] [(200, RR 3 1 I ([x2.1, x2.2] : List Int) 0 false), (40, RR 3 1 I z0.1 0 false)] 32) ?_
    refine mo (some 26) (apO 104 3 1 8 40 I 0 [200] (y := .own 200 0) (l2 := ([x2.1, x2.2] : List Int))) (fun x3 => ?_)
    refine se (mkE [(1, .fn 256 []), (5, .own 40 1), (10, LL a63 p0), (11, I (lenL p0)), (12, I z0.2)] [(40, RR 3 1 I x3 1 false)] 32) ?_
    refine pB ?_
    refine pN ?_
    refine pS ?_
    refine gR 7 (rg Try.f255 7) ?_
    refine se (mkE [(1, .fn 256 []), (5, .own 40 1), (10, LL a63 p0), (11, I (lenL p0)), (12, I (addI .i64 z0.2 1))] [(40, RR 3 1 I x3 1 false)] 32) ?_
    exact pL
  · refine gX 0 ?_
    exact pL
noncomputable def T255 (p0 : (List S63)) : Option (List Int) := ((iter (L255_3 p0) ([], 0)).bind fun y4 => ((sortIO y4.2.2).bind fun x5 => ((compIO x5).bind fun x6 => (some x6))))
theorem B255 (C : Callee) (h250 : ∀ (p0 : (List Int)), C 250 [.fr 3 1 (List.map I p0)] = (sortIO p0).map (fun (r : (List Int)) => AV.inp (.tup []) (.fr 3 1 (List.map I r)))) (h251 : ∀ (p0 : (List Int)), C 251 [.fr 3 1 (List.map I p0)] = (compIO p0).map (fun l => AV.fr 3 1 (List.map I l))) (h256 : ∀ (p0 : S63), C 256 [a63 p0] = (T256 p0).map (fun r => AV.tup [I r.1, I r.2])) (p0 : (List S63)) : runs Try.prog C (cfg.fn 255) (finFn Try.prog (cfg.fn 255).byval Try.f255) [] (execA Try.prog C (cfg.fn 255) (nr Try.f255 []) (frame0 [LL a63 p0, .fn 256 []] 32 false)) = (T255 p0).map (fun l => AV.fr 3 1 (List.map I l)) := by
  unfold T255
  refine gS 1 ?_
  refine gR 0 (rg Try.f255 0) ?_
  refine se (mkE [(0, LL a63 p0), (1, .fn 256 [])] [] 32) ?_
  refine pN ?_
  refine pS ?_
  refine gS 2 ?_
  refine gR 1 (rg Try.f255 1) ?_
  refine se (mkE [(0, LL a63 p0), (1, .fn 256 []), (5, .nils)] [] 32) ?_
  refine pN ?_
  refine pS ?_
  refine gS 8 ?_
  refine gS 3 ?_
  refine gR 2 (rg Try.f255 2) ?_
  refine sg 1 (mkE [(10, LL a63 p0), (0, LL a63 p0), (1, .fn 256 []), (5, .nils)] [] 32) ?_
  refine eo 11 (I (lenL p0)) (lenE 65 a63 p0) ?_
  refine se (mkE [(1, .fn 256 []), (5, .nils), (10, LL a63 p0), (11, I (lenL p0)), (12, I 0)] [] 32) ?_
  refine pN ?_
  refine pS ?_
  refine gB 0 ?_
  refine lo [(1, none), (5, some (3, 1)), (10, none), (11, none), (12, none)] [] (L255_3 p0) (fun z0 : ((List Int) × Int) => (mkE [(1, .fn 256 []), (5, .own 40 0), (10, LL a63 p0), (11, I (lenL p0)), (12, I z0.2)] [(40, RR 3 1 I z0.1 0 false)] 32)) (fun (x : (Int × Bool × (List Int))) => (.exit 0, (mkE [(1, .fn 256 []), (5, .own 40 0), (10, LL a63 p0), (11, I (lenL p0)), (12, I x.1), (13, B x.2.1)] [(40, RR 3 1 I x.2.2 0 false)] 32))) ([], 0) (fun z => L255_3_ok C h256 p0 z) ?_
  intro y4
  refine pH ?_
  refine pN ?_
  refine pS ?_
  refine gS 9 ?_
  refine gR 8 (rg Try.f255 8) ?_
  refine sg 1 (mkE [(28, .own 40 0), (1, .fn 256 []), (5, .own 40 0), (10, LL a63 p0), (11, I (lenL p0)), (12, I y4.1), (13, B y4.2.1)] [(40, RR 3 1 I y4.2.2 0 false)] 32) ?_
  refine mo (some 29) (ipR 250 3 1 40 0 I y4.2.2 [] [] [] (fun x : (List Int) => .tup []) (fun x : (List Int) => x) (h250 y4.2.2)) (fun x5 => ?_)
  refine se (mkE [(5, .own 40 0)] [(40, RR 3 1 I x5 0 false)] 32) ?_
  refine pN ?_
  refine pS ?_
  refine gS 0 ?_
  refine gR 9 (rg Try.f255 9) ?_
  refine sg 1 (mkE [(30, .own 40 0), (5, .own 40 0)] [(40, RR 3 1 I x5 0 false)] 32) ?_
  refine mo (some 31) (gvO 251 3 1 40 0 I x5 [] [] [] (h251 x5)) (fun x6 => ?_)
  refine se (mkE [(4, .own 40 1)] [(40, RR 3 1 I x6 1 false)] 32) ?_
  refine pN ?_
  refine pS ?_
  refine gE ?_
  exact pL
theorem F255 (m : Nat) (hm : 2 ≤ m) (p0 : (List S63)) : callA Try.prog cfg m 255 [LL a63 p0, .fn 256 []] = (T255 p0).map (fun l => AV.fr 3 1 (List.map I l)) := by
  obtain ⟨q, rfl⟩ : ∃ q, m = q + 1 := ⟨m - 1, by omega⟩
  exact (callA_body (fn := Try.f255) (c := body_ Try.f255) q _ (by kernel_rfl) (by kernel_rfl) (by kernel_rfl)).trans (B255 _ (fun p0 => F250 q (by omega) p0) (fun p0 => F251 q (by omega) p0) (fun p0 => F256 q (by omega) p0) p0)

noncomputable def T257 (p0 : S63) : Option (Int × Int) := (some (p0.f1, (addI .i64 p0.f1 p0.f3)))
theorem B257 (C : Callee) (p0 : S63) : runs Try.prog C (cfg.fn 257) (finFn Try.prog (cfg.fn 257).byval Try.f257) [] (execA Try.prog C (cfg.fn 257) (nr Try.f257 []) (frame0 [a63 p0] 11 false)) = (T257 p0).map (fun r => AV.tup [I r.1, I r.2]) := by
  unfold T257
  refine gS 1 ?_
  refine gR 0 (rg Try.f257 0) ?_
  refine se (mkE [(1, .ba 8 0)] [(8, .box [I p0.f0, I p0.f1, I p0.f2, I p0.f3] false)] 11) ?_
  refine pN ?_
  refine pS ?_
  refine gS 0 ?_
  refine dq 1 (rg Try.f257 1) (mkE [(2, I p0.f1), (3, I (addI .i64 p0.f1 p0.f3))] [] 11) ?_
  refine pN ?_
  refine pS ?_
  refine gE ?_
  exact pL
theorem F257 (m : Nat) (hm : 1 ≤ m) (p0 : S63) : callA Try.prog cfg m 257 [a63 p0] = (T257 p0).map (fun r => AV.tup [I r.1, I r.2]) := by
  obtain ⟨q, rfl⟩ : ∃ q, m = q + 1 := ⟨m - 1, by omega⟩
  exact (callA_body (fn := Try.f257) (c := body_ Try.f257) q _ (by kernel_rfl) (by kernel_rfl) (by kernel_rfl)).trans (B257 _ p0)

noncomputable def L255_1_3 (p0 : (List S63)) (z0 : ((List Int) × Int)) : Option (((List Int) × Int) ⊕ (Int × Bool × (List Int))) := (bif (ltI z0.2 (lenL p0)) then ((listAt p0 z0.2).bind fun x1 => ((T257 x1).bind fun x2 => ((appO 8 z0.1 ([x2.1, x2.2] : List Int)).bind fun x3 => (some (.inl (x3, (addI .i64 z0.2 1))))))) else (some (.inr (z0.2, (ltI z0.2 (lenL p0)), z0.1))))
theorem L255_1_3_ok (C : Callee) (h257 : ∀ (p0 : S63), C 257 [a63 p0] = (T257 p0).map (fun r => AV.tup [I r.1, I r.2])) (p0 : (List S63)) (z0 : ((List Int) × Int)) : runs Try.prog C (cfg.fn 255) (finLoop ((cfg.fn 255).keep 3) ((cfg.fn 255).al 3)) [] (execA Try.prog C (cfg.fn 255) (nr Try.f255 [false, false, true, false, true, true]) ((fun z0 : ((List Int) × Int) => (mkE [(1, .fn 257 []), (5, .own 40 0), (10, LL a63 p0), (11, I (lenL p0)), (12, I z0.2)] [(40, RR 3 1 I z0.1 0 false)] 32)) z0)) = (L255_1_3 p0 z0).map (Sum.elim (fun z => .inl ((fun z0 : ((List Int) × Int) => (mkE [(1, .fn 257 []), (5, .own 40 0), (10, LL a63 p0), (11, I (lenL p0)), (12, I z0.2)] [(40, RR 3 1 I z0.1 0 false)] 32)) z)) (fun x => .inr ((fun (x : (Int × Bool × (List Int))) => (.exit 0, (mkE [(1, .fn 257 []), (5, .own 40 0), (10, LL a63 p0), (11, I (lenL p0)), (12, I x.1), (13, B x.2.1)] [(40, RR 3 1 I x.2.2 0 false)] 32))) x))) := by
  unfold L255_1_3
  refine gS 0 ?_
  refine gR 3 (rg Try.f255 3) ?_
  refine se (mkE [(1, .fn 257 []), (5, .own 40 0), (10, LL a63 p0), (11, I (lenL p0)), (12, I z0.2), (13, B (ltI z0.2 (lenL p0)))] [(40, RR 3 1 I z0.1 0 false)] 32) ?_
  refine pN ?_
  refine pS ?_
  refine gS 4 ?_
  refine gC 13 (ltI z0.2 (lenL p0)) ?_ ?_
  · refine gK ?_
    refine pN ?_
    refine pS ?_
    refine gS 7 ?_
    refine gB 1 ?_
    refine gS 5 ?_
    refine gR 4 (rg Try.f255 4) ?_
    refine vo 14 (addrE 65 64 4 a63 .i64 p0 z0.2) (fun x1 => ?_)
    refine se (mkE [(1, .fn 257 []), (5, .own 40 0), (7, .ba 56 0), (10, LL a63 p0), (11, I (lenL p0)), (12, I z0.2)] [(40, RR 3 1 I z0.1 0 false), (56, .box [I x1.f0, I x1.f1, I x1.f2, I x1.f3] false)] 32) ?_
    refine pN ?_
    refine pS ?_
    refine gS 6 ?_
    refine gR 5 (rg Try.f255 5) ?_
    refine sg 2 (mkE [(18, a63 x1), (17, .fn 257 []), (1, .fn 257 []), (5, .own 40 0), (7, .ba 56 0), (10, LL a63 p0), (11, I (lenL p0)), (12, I z0.2)] [(40, RR 3 1 I z0.1 0 false), (56, .box [I x1.f0, I x1.f1, I x1.f2, I x1.f3] false)] 32) ?_
    refine co 19 [] (h257 x1) (fun x2 => ?_)
    refine se (mkE [(1, .fn 257 []), (5, .own 40 0), (8, I x2.1), (9, I x2.2), (10, LL a63 p0), (11, I (lenL p0)), (12, I z0.2)] [(40, RR 3 1 I z0.1 0 false)] 32) ?_
    refine pN ?_
    refine pS ?_
    refine gR 6 (rg Try.f255 6) ?_
    refine sg 4 (mkE [(25, .own 200 0), (24, I x2.2), (23, I x2.1), (22, .own 40 0), (1, .fn 257 []), (5, .own 40 0), (8, I x2.1), (9, I x2.2), (10, LL a63 p0), (11, I (lenL p0)), (12, I z0.2)] [(200, RR 3 1 I ([x2.1, x2.2] : List Int) 0 false), (40, RR 3 1 I z0.1 0 false)] 32) ?_
    refine mo (some 26) (apO 104 3 1 8 40 I 0 [200] (y := .own 200 0) (l2 := ([x2.1, x2.2] : List Int))) (fun x3 => ?_)
    refine se (mkE [(1, .fn 257 []), (5, .own 40 1), (10, LL a63 p0), (11, I (lenL p0)), (12, I z0.2)] [(40, RR 3 1 I x3 1 false)] 32) ?_
    refine pB ?_
    refine pN ?_
    refine pS ?_
    refine gR 7 (rg Try.f255 7) ?_
    refine se (mkE [(1, .fn 257 []), (5, .own 40 1), (10, LL a63 p0), (11, I (lenL p0)), (12, I (addI .i64 z0.2 1))] [(40, RR 3 1 I x3 1 false)] 32) ?_
    exact pL
  · refine gX 0 ?_
    exact pL
noncomputable def T255_1 (p0 : (List S63)) : Option (List Int) := ((iter (L255_1_3 p0) ([], 0)).bind fun y4 => ((sortIO y4.2.2).bind fun x5 => ((compIO x5).bind fun x6 => (some x6))))
theorem B255_1 (C : Callee) (h250 : ∀ (p0 : (List Int)), C 250 [.fr 3 1 (List.map I p0)] = (sortIO p0).map (fun (r : (List Int)) => AV.inp (.tup []) (.fr 3 1 (List.map I r)))) (h251 : ∀ (p0 : (List Int)), C 251 [.fr 3 1 (List.map I p0)] = (compIO p0).map (fun l => AV.fr 3 1 (List.map I l))) (h257 : ∀ (p0 : S63), C 257 [a63 p0] = (T257 p0).map (fun r => AV.tup [I r.1, I r.2])) (p0 : (List S63)) : runs Try.prog C (cfg.fn 255) (finFn Try.prog (cfg.fn 255).byval Try.f255) [] (execA Try.prog C (cfg.fn 255) (nr Try.f255 []) (frame0 [LL a63 p0, .fn 257 []] 32 false)) = (T255_1 p0).map (fun l => AV.fr 3 1 (List.map I l)) := by
  unfold T255_1
  refine gS 1 ?_
  refine gR 0 (rg Try.f255 0) ?_
  refine se (mkE [(0, LL a63 p0), (1, .fn 257 [])] [] 32) ?_
  refine pN ?_
  refine pS ?_
  refine gS 2 ?_
  refine gR 1 (rg Try.f255 1) ?_
  refine se (mkE [(0, LL a63 p0), (1, .fn 257 []), (5, .nils)] [] 32) ?_
  refine pN ?_
  refine pS ?_
  refine gS 8 ?_
  refine gS 3 ?_
  refine gR 2 (rg Try.f255 2) ?_
  refine sg 1 (mkE [(10, LL a63 p0), (0, LL a63 p0), (1, .fn 257 []), (5, .nils)] [] 32) ?_
  refine eo 11 (I (lenL p0)) (lenE 65 a63 p0) ?_
  refine se (mkE [(1, .fn 257 []), (5, .nils), (10, LL a63 p0), (11, I (lenL p0)), (12, I 0)] [] 32) ?_
  refine pN ?_
  refine pS ?_
  refine gB 0 ?_
  refine lo [(1, none), (5, some (3, 1)), (10, none), (11, none), (12, none)] [] (L255_1_3 p0) (fun z0 : ((List Int) × Int) => (mkE [(1, .fn 257 []), (5, .own 40 0), (10, LL a63 p0), (11, I (lenL p0)), (12, I z0.2)] [(40, RR 3 1 I z0.1 0 false)] 32)) (fun (x : (Int × Bool × (List Int))) => (.exit 0, (mkE [(1, .fn 257 []), (5, .own 40 0), (10, LL a63 p0), (11, I (lenL p0)), (12, I x.1), (13, B x.2.1)] [(40, RR 3 1 I x.2.2 0 false)] 32))) ([], 0) (fun z => L255_1_3_ok C h257 p0 z) ?_
  intro y4
  refine pH ?_
  refine pN ?_
  refine pS ?_
  refine gS 9 ?_
  refine gR 8 (rg Try.f255 8) ?_
  refine sg 1 (mkE [(28, .own 40 0), (1, .fn 257 []), (5, .own 40 0), (10, LL a63 p0), (11, I (lenL p0)), (12, I y4.1), (13, B y4.2.1)] [(40, RR 3 1 I y4.2.2 0 false)] 32) ?_
  refine mo (some 29) (ipR 250 3 1 40 0 I y4.2.2 [] [] [] (fun x : (List Int) => .tup []) (fun x : (List Int) => x) (h250 y4.2.2)) (fun x5 => ?_)
  refine se (mkE [(5, .own 40 0)] [(40, RR 3 1 I x5 0 false)] 32) ?_
  refine pN ?_
  refine pS ?_
  refine gS 0 ?_
  refine gR 9 (rg Try.f255 9) ?_
  refine sg 1 (mkE [(30, .own 40 0), (5, .own 40 0)] [(40, RR 3 1 I x5 0 false)] 32) ?_
  refine mo (some 31) (gvO 251 3 1 40 0 I x5 [] [] [] (h251 x5)) (fun x6 => ?_)
  refine se (mkE [(4, .own 40 1)] [(40, RR 3 1 I x6 1 false)] 32) ?_
  refine pN ?_
  refine pS ?_
  refine gE ?_
  exact pL
theorem F255_1 (m : Nat) (hm : 2 ≤ m) (p0 : (List S63)) : callA Try.prog cfg m 255 [LL a63 p0, .fn 257 []] = (T255_1 p0).map (fun l => AV.fr 3 1 (List.map I l)) := by
  obtain ⟨q, rfl⟩ : ∃ q, m = q + 1 := ⟨m - 1, by omega⟩
  exact (callA_body (fn := Try.f255) (c := body_ Try.f255) q _ (by kernel_rfl) (by kernel_rfl) (by kernel_rfl)).trans (B255_1 _ (fun p0 => F250 q (by omega) p0) (fun p0 => F251 q (by omega) p0) (fun p0 => F257 q (by omega) p0) p0)

noncomputable def T262 (p0 : S63) (p1 : Int) (p2 : Int) : Option Bool := ((T132 p1 p0.f0 (subI .i64 (addI .i64 p0.f0 p0.f2) 1)).bind fun x1 => (bif x1 then ((T132 p2 p0.f1 (subI .i64 (addI .i64 p0.f1 p0.f3) 1)).bind fun x2 => (some x2)) else (some false)))
theorem B262 (C : Callee) (h132 : ∀ (p0 : Int) (p1 : Int) (p2 : Int), C 132 [I p0, I p1, I p2] = (T132 p0 p1 p2).map B) (p0 : S63) (p1 : Int) (p2 : Int) : runs Try.prog C (cfg.fn 262) (finFn Try.prog (cfg.fn 262).byval Try.f262) [] (execA Try.prog C (cfg.fn 262) (nr Try.f262 []) (frame0 [a63 p0, I p1, I p2] 29 false)) = (T262 p0 p1 p2).map B := by
  unfold T262
  refine gS 1 ?_
  refine gR 0 (rg Try.f262 0) ?_
  refine se (mkE [(1, I p1), (2, I p2), (3, .ba 24 0)] [(24, .box [I p0.f0, I p0.f1, I p0.f2, I p0.f3] false)] 29) ?_
  refine pN ?_
  refine pS ?_
  refine gS 0 ?_
  refine gR 1 (rg Try.f262 1) ?_
  refine sg 9 (mkE [(15, I (subI .i64 (addI .i64 p0.f0 p0.f2) 1)), (14, I (addI .i64 p0.f0 p0.f2)), (13, I p0.f2), (12, .ba 24 2), (11, I p0.f0), (10, .ba 24 0), (9, I p0.f0), (8, .ba 24 0), (7, I p1), (1, I p1), (2, I p2), (3, .ba 24 0)] [(24, .box [I p0.f0, I p0.f1, I p0.f2, I p0.f3] false)] 29) ?_
  refine co 16 [] (h132 p1 p0.f0 (subI .i64 (addI .i64 p0.f0 p0.f2) 1)) (fun x1 => ?_)
  refine sg 11 (mkE [(17, B x1), (16, B x1), (15, I (subI .i64 (addI .i64 p0.f0 p0.f2) 1)), (14, I (addI .i64 p0.f0 p0.f2)), (13, I p0.f2), (12, .ba 24 2), (11, I p0.f0), (10, .ba 24 0), (9, I p0.f0), (8, .ba 24 0), (7, I p1), (1, I p1), (2, I p2), (3, .ba 24 0)] [(24, .box [I p0.f0, I p0.f1, I p0.f2, I p0.f3] false)] 29) ?_
  refine sb 17 x1 ?_ ?_
  · refine sg 20 (mkE [(26, I (subI .i64 (addI .i64 p0.f1 p0.f3) 1)), (25, I (addI .i64 p0.f1 p0.f3)), (24, I p0.f3), (23, .ba 24 3), (22, I p0.f1), (21, .ba 24 1), (20, I p0.f1), (19, .ba 24 1), (18, I p2), (17, B true), (17, B x1), (16, B x1), (15, I (subI .i64 (addI .i64 p0.f0 p0.f2) 1)), (14, I (addI .i64 p0.f0 p0.f2)), (13, I p0.f2), (12, .ba 24 2), (11, I p0.f0), (10, .ba 24 0), (9, I p0.f0), (8, .ba 24 0), (7, I p1), (1, I p1), (2, I p2), (3, .ba 24 0)] [(24, .box [I p0.f0, I p0.f1, I p0.f2, I p0.f3] false)] 29) ?_
    refine co 27 [] (h132 p2 p0.f1 (subI .i64 (addI .i64 p0.f1 p0.f3) 1)) (fun x2 => ?_)
    refine se (mkE [(6, B x2)] [] 29) ?_
    refine pN ?_
    refine pS ?_
    refine gE ?_
    exact pL
  · refine se (mkE [(6, B false)] [] 29) ?_
    refine pN ?_
    refine pS ?_
    refine gE ?_
    exact pL
theorem F262 (m : Nat) (hm : 2 ≤ m) (p0 : S63) (p1 : Int) (p2 : Int) : callA Try.prog cfg m 262 [a63 p0, I p1, I p2] = (T262 p0 p1 p2).map B := by
  obtain ⟨q, rfl⟩ : ∃ q, m = q + 1 := ⟨m - 1, by omega⟩
  exact (callA_body (fn := Try.f262) (c := body_ Try.f262) q _ (by kernel_rfl) (by kernel_rfl) (by kernel_rfl)).trans (B262 _ (fun p0 p1 p2 => F132 q (by omega) p0 p1 p2) p0 p1 p2)

noncomputable def T261 (p0 : S63) (p1_c0 : Int) (p2_c0 : Int) : Option Bool := ((T262 p0 p1_c0 p2_c0).bind fun x1 => (some x1))
theorem B261 (C : Callee) (h262 : ∀ (p0 : S63) (p1 : Int) (p2 : Int), C 262 [a63 p0, I p1, I p2] = (T262 p0 p1 p2).map B) (p0 : S63) (p1_c0 : Int) (p2_c0 : Int) : runs Try.prog C (cfg.fn 261) (finFn Try.prog (cfg.fn 261).byval Try.f261) [] (execA Try.prog C (cfg.fn 261) (nr Try.f261 []) (frame0 [a63 p0, .ia [I p1_c0] 0, .ia [I p2_c0] 0] 9 false)) = (T261 p0 p1_c0 p2_c0).map B := by
  unfold T261
  refine gS 1 ?_
  refine gR 0 (rg Try.f261 0) ?_
  refine se (mkE [(1, .ia [I p1_c0] 0), (2, .ia [I p2_c0] 0), (3, .ba 24 0)] [(24, .box [I p0.f0, I p0.f1, I p0.f2, I p0.f3] false)] 9) ?_
  refine pN ?_
  refine pS ?_
  refine gS 0 ?_
  refine gR 1 (rg Try.f261 1) ?_
  refine sg 3 (mkE [(7, I p2_c0), (6, I p1_c0), (5, a63 p0), (1, .ia [I p1_c0] 0), (2, .ia [I p2_c0] 0), (3, .ba 24 0)] [(24, .box [I p0.f0, I p0.f1, I p0.f2, I p0.f3] false)] 9) ?_
  refine co 8 [] (h262 p0 p1_c0 p2_c0) (fun x1 => ?_)
  refine se (mkE [(4, B x1)] [] 9) ?_
  refine pN ?_
  refine pS ?_
  refine gE ?_
  exact pL
theorem F261 (m : Nat) (hm : 3 ≤ m) (p0 : S63) (p1_c0 : Int) (p2_c0 : Int) : callA Try.prog cfg m 261 [a63 p0, .ia [I p1_c0] 0, .ia [I p2_c0] 0] = (T261 p0 p1_c0 p2_c0).map B := by
  obtain ⟨q, rfl⟩ : ∃ q, m = q + 1 := ⟨m - 1, by omega⟩
  exact (callA_body (fn := Try.f261) (c := body_ Try.f261) q _ (by kernel_rfl) (by kernel_rfl) (by kernel_rfl)).trans (B261 _ (fun p0 p1 p2 => F262 q (by omega) p0 p1 p2) p0 p1_c0 p2_c0)

noncomputable def L290_2 (p0 : (List S63)) (p1_c0 : Int) (p1_c1 : Int) (z0 : Int) : Option (Int ⊕ ((Int × Bool) ⊕ Int)) := (bif (ltI z0 (lenL p0)) then ((listAt p0 z0).bind fun x1 => ((T261 x1 p1_c0 p1_c1).bind fun x2 => (bif x2 then (some (.inr (.inr z0))) else (some (.inl (addI .i64 z0 1)))))) else (some (.inr (.inl (z0, (ltI z0 (lenL p0)))))))
theorem L290_2_ok (C : Callee) (h261 : ∀ (p0 : S63) (p1_c0 : Int) (p2_c0 : Int), C 261 [a63 p0, .ia [I p1_c0] 0, .ia [I p2_c0] 0] = (T261 p0 p1_c0 p2_c0).map B) (p0 : (List S63)) (p1_c0 : Int) (p1_c1 : Int) (z0 : Int) : runs Try.prog C (cfg.fn 290) (finLoop ((cfg.fn 290).keep 2) ((cfg.fn 290).al 2)) [] (execA Try.prog C (cfg.fn 290) (nr Try.f290 [false, false, true, false, true]) ((fun z0 : Int => (mkE [(0, LL a63 p0), (1, .fn 261 [.ia [I p1_c0] 0, .ia [I p1_c1] 0]), (7, I (lenL p0)), (8, I z0)] [] 19)) z0)) = (L290_2 p0 p1_c0 p1_c1 z0).map (Sum.elim (fun z => .inl ((fun z0 : Int => (mkE [(0, LL a63 p0), (1, .fn 261 [.ia [I p1_c0] 0, .ia [I p1_c1] 0]), (7, I (lenL p0)), (8, I z0)] [] 19)) z)) (fun x => .inr ((Sum.elim (fun (x : (Int × Bool)) => (.exit 0, (mkE [(0, LL a63 p0), (1, .fn 261 [.ia [I p1_c0] 0, .ia [I p1_c1] 0]), (7, I (lenL p0)), (8, I x.1), (9, B x.2)] [] 19))) (fun (x : Int) => (.ret, (mkE [(4, I x)] [] 19)))) x))) := by
  unfold L290_2
  refine gS 0 ?_
  refine gR 2 (rg Try.f290 2) ?_
  refine se (mkE [(0, LL a63 p0), (1, .fn 261 [.ia [I p1_c0] 0, .ia [I p1_c1] 0]), (7, I (lenL p0)), (8, I z0), (9, B (ltI z0 (lenL p0)))] [] 19) ?_
  refine pN ?_
  refine pS ?_
  refine gS 3 ?_
  refine gC 9 (ltI z0 (lenL p0)) ?_ ?_
  · refine gK ?_
    refine pN ?_
    refine pS ?_
    refine gS 6 ?_
    refine gB 1 ?_
    refine gS 4 ?_
    refine gR 3 (rg Try.f290 3) ?_
    refine se (mkE [(0, LL a63 p0), (1, .fn 261 [.ia [I p1_c0] 0, .ia [I p1_c1] 0]), (5, I z0), (7, I (lenL p0)), (8, I z0)] [] 19) ?_
    refine pN ?_
    refine pS ?_
    refine gS 0 ?_
    refine gR 4 (rg Try.f290 4) ?_
    refine sg 3 (mkE [(13, I z0), (12, LL a63 p0), (11, .fn 261 [.ia [I p1_c0] 0, .ia [I p1_c1] 0]), (0, LL a63 p0), (1, .fn 261 [.ia [I p1_c0] 0, .ia [I p1_c1] 0]), (5, I z0), (7, I (lenL p0)), (8, I z0)] [] 19) ?_
    refine vo 14 (addrE 65 64 4 a63 .i64 p0 z0) (fun x1 => ?_)
    refine sg 5 (mkE [(15, a63 x1), (14, .ia [I x1.f0, I x1.f1, I x1.f2, I x1.f3] 0), (13, I z0), (12, LL a63 p0), (11, .fn 261 [.ia [I p1_c0] 0, .ia [I p1_c1] 0]), (0, LL a63 p0), (1, .fn 261 [.ia [I p1_c0] 0, .ia [I p1_c1] 0]), (5, I z0), (7, I (lenL p0)), (8, I z0)] [] 19) ?_
    refine co 16 [] (h261 x1 p1_c0 p1_c1) (fun x2 => ?_)
    refine se (mkE [(0, LL a63 p0), (1, .fn 261 [.ia [I p1_c0] 0, .ia [I p1_c1] 0]), (5, I z0), (7, I (lenL p0)), (8, I z0), (16, B x2)] [] 19) ?_
    refine pN ?_
    refine pS ?_
    refine gC 16 x2 ?_ ?_
    · refine gS 0 ?_
      refine gR 5 (rg Try.f290 5) ?_
      refine se (mkE [(4, I z0)] [] 19) ?_
      refine pN ?_
      refine pS ?_
      refine gE ?_
      exact pL
    · refine gK ?_
      refine pB ?_
      refine pN ?_
      refine pS ?_
      refine gR 6 (rg Try.f290 6) ?_
      refine se (mkE [(0, LL a63 p0), (1, .fn 261 [.ia [I p1_c0] 0, .ia [I p1_c1] 0]), (7, I (lenL p0)), (8, I (addI .i64 z0 1))] [] 19) ?_
      exact pL
  · refine gX 0 ?_
    exact pL
noncomputable def T290 (p0 : (List S63)) (p1_c0 : Int) (p1_c1 : Int) : Option Int := ((iter (L290_2 p0 p1_c0 p1_c1) 0).bind fun y3 => (Sum.elim (fun y3a => (some (-1))) (fun y3b => (some y3b)) y3))
theorem B290 (C : Callee) (h261 : ∀ (p0 : S63) (p1_c0 : Int) (p2_c0 : Int), C 261 [a63 p0, .ia [I p1_c0] 0, .ia [I p2_c0] 0] = (T261 p0 p1_c0 p2_c0).map B) (p0 : (List S63)) (p1_c0 : Int) (p1_c1 : Int) : runs Try.prog C (cfg.fn 290) (finFn Try.prog (cfg.fn 290).byval Try.f290) [] (execA Try.prog C (cfg.fn 290) (nr Try.f290 []) (frame0 [LL a63 p0, .fn 261 [.ia [I p1_c0] 0, .ia [I p1_c1] 0]] 19 false)) = (T290 p0 p1_c0 p1_c1).map I := by
  unfold T290
  refine gS 1 ?_
  refine gR 0 (rg Try.f290 0) ?_
  refine se (mkE [(0, LL a63 p0), (1, .fn 261 [.ia [I p1_c0] 0, .ia [I p1_c1] 0])] [] 19) ?_
  refine pN ?_
  refine pS ?_
  refine gS 7 ?_
  refine gS 2 ?_
  refine gR 1 (rg Try.f290 1) ?_
  refine sg 1 (mkE [(6, LL a63 p0), (0, LL a63 p0), (1, .fn 261 [.ia [I p1_c0] 0, .ia [I p1_c1] 0])] [] 19) ?_
  refine eo 7 (I (lenL p0)) (lenE 65 a63 p0) ?_
  refine se (mkE [(0, LL a63 p0), (1, .fn 261 [.ia [I p1_c0] 0, .ia [I p1_c1] 0]), (7, I (lenL p0)), (8, I 0)] [] 19) ?_
  refine pN ?_
  refine pS ?_
  refine gB 0 ?_
  refine lo [(0, none), (1, none), (7, none), (8, none)] [] (L290_2 p0 p1_c0 p1_c1) (fun z0 : Int => (mkE [(0, LL a63 p0), (1, .fn 261 [.ia [I p1_c0] 0, .ia [I p1_c1] 0]), (7, I (lenL p0)), (8, I z0)] [] 19)) (Sum.elim (fun (x : (Int × Bool)) => (.exit 0, (mkE [(0, LL a63 p0), (1, .fn 261 [.ia [I p1_c0] 0, .ia [I p1_c1] 0]), (7, I (lenL p0)), (8, I x.1), (9, B x.2)] [] 19))) (fun (x : Int) => (.ret, (mkE [(4, I x)] [] 19)))) 0 (fun z => L290_2_ok C h261 p0 p1_c0 p1_c1 z) ?_
  intro y3
  refine ss y3 (Z := (Sum.elim (fun (x : (Int × Bool)) => (.exit 0, (mkE [(0, LL a63 p0), (1, .fn 261 [.ia [I p1_c0] 0, .ia [I p1_c1] 0]), (7, I (lenL p0)), (8, I x.1), (9, B x.2)] [] 19))) (fun (x : Int) => (.ret, (mkE [(4, I x)] [] 19))))) (fun y3a => ?_) (fun y3b => ?_)
  · refine pH ?_
    refine pN ?_
    refine pS ?_
    refine gS 0 ?_
    refine gR 7 (rg Try.f290 7) ?_
    refine se (mkE [(4, I (-1))] [] 19) ?_
    refine pN ?_
    refine pS ?_
    refine gE ?_
    exact pL
  · exact pL
theorem F290 (m : Nat) (hm : 4 ≤ m) (p0 : (List S63)) (p1_c0 : Int) (p1_c1 : Int) : callA Try.prog cfg m 290 [LL a63 p0, .fn 261 [.ia [I p1_c0] 0, .ia [I p1_c1] 0]] = (T290 p0 p1_c0 p1_c1).map I := by
  obtain ⟨q, rfl⟩ : ∃ q, m = q + 1 := ⟨m - 1, by omega⟩
  exact (callA_body (fn := Try.f290) (c := body_ Try.f290) q _ (by kernel_rfl) (by kernel_rfl) (by kernel_rfl)).trans (B290 _ (fun p0 p1_c0 p2_c0 => F261 q (by omega) p0 p1_c0 p2_c0) p0 p1_c0 p1_c1)

noncomputable def T260 (p0 : (List S63)) (p1_c0 : Int) (p1_c1 : Int) : Option Bool := ((T290 p0 p1_c0 p1_c1).bind fun x1 => (some (leI 0 x1)))
theorem B260 (C : Callee) (h290 : ∀ (p0 : (List S63)) (p1_c0 : Int) (p1_c1 : Int), C 290 [LL a63 p0, .fn 261 [.ia [I p1_c0] 0, .ia [I p1_c1] 0]] = (T290 p0 p1_c0 p1_c1).map I) (p0 : (List S63)) (p1_c0 : Int) (p1_c1 : Int) : runs Try.prog C (cfg.fn 260) (finFn Try.prog (cfg.fn 260).byval Try.f260) [] (execA Try.prog C (cfg.fn 260) (nr Try.f260 []) (frame0 [LL a63 p0, .fn 261 [.ia [I p1_c0] 0, .ia [I p1_c1] 0]] 9 false)) = (T260 p0 p1_c0 p1_c1).map B := by
  unfold T260
  refine gS 1 ?_
  refine gR 0 (rg Try.f260 0) ?_
  refine se (mkE [(0, LL a63 p0), (1, .fn 261 [.ia [I p1_c0] 0, .ia [I p1_c1] 0])] [] 9) ?_
  refine pN ?_
  refine pS ?_
  refine gS 0 ?_
  refine gR 1 (rg Try.f260 1) ?_
  refine sg 2 (mkE [(6, .fn 261 [.ia [I p1_c0] 0, .ia [I p1_c1] 0]), (5, LL a63 p0), (0, LL a63 p0), (1, .fn 261 [.ia [I p1_c0] 0, .ia [I p1_c1] 0])] [] 9) ?_
  refine co 7 [] (h290 p0 p1_c0 p1_c1) (fun x1 => ?_)
  refine se (mkE [(4, B (leI 0 x1))] [] 9) ?_
  refine pN ?_
  refine pS ?_
  refine gE ?_
  exact pL
theorem F260 (m : Nat) (hm : 5 ≤ m) (p0 : (List S63)) (p1_c0 : Int) (p1_c1 : Int) : callA Try.prog cfg m 260 [LL a63 p0, .fn 261 [.ia [I p1_c0] 0, .ia [I p1_c1] 0]] = (T260 p0 p1_c0 p1_c1).map B := by
  obtain ⟨q, rfl⟩ : ∃ q, m = q + 1 := ⟨m - 1, by omega⟩
  exact (callA_body (fn := Try.f260) (c := body_ Try.f260) q _ (by kernel_rfl) (by kernel_rfl) (by kernel_rfl)).trans (B260 _ (fun p0 p1_c0 p1_c1 => F290 q (by omega) p0 p1_c0 p1_c1) p0 p1_c0 p1_c1)

noncomputable def T217 (p0 : (List S63)) (p1 : Int) (p2 : Int) : Option Bool := ((T260 p0 p1 p2).bind fun x1 => (some x1))
theorem B217 (C : Callee) (h260 : ∀ (p0 : (List S63)) (p1_c0 : Int) (p1_c1 : Int), C 260 [LL a63 p0, .fn 261 [.ia [I p1_c0] 0, .ia [I p1_c1] 0]] = (T260 p0 p1_c0 p1_c1).map B) (p0 : (List S63)) (p1 : Int) (p2 : Int) : runs Try.prog C (cfg.fn 217) (finFn Try.prog (cfg.fn 217).byval Try.f217) [] (execA Try.prog C (cfg.fn 217) (nr Try.f217 []) (frame0 [LL a63 p0, I p1, I p2] 10 false)) = (T217 p0 p1 p2).map B := by
  unfold T217
  refine gS 1 ?_
  refine gR 0 (rg Try.f217 0) ?_
  refine se (mkE [(0, LL a63 p0), (4, .ba 32 0), (5, .ba 40 0)] [(32, .box [I p1] false), (40, .box [I p2] false)] 10) ?_
  refine pN ?_
  refine pS ?_
  refine gS 0 ?_
  refine gR 1 (rg Try.f217 1) ?_
  refine sg 2 (mkE [(8, .fn 261 [.ba 32 0, .ba 40 0]), (7, LL a63 p0), (0, LL a63 p0), (4, .ba 32 0), (5, .ba 40 0)] [(32, .box [I p1] false), (40, .box [I p2] false)] 10) ?_
  refine co 9 [32, 40] (h260 p0 p1 p2) (fun x1 => ?_)
  refine se (mkE [(6, B x1)] [] 10) ?_
  refine pN ?_
  refine pS ?_
  refine gE ?_
  exact pL
theorem F217 (m : Nat) (hm : 6 ≤ m) (p0 : (List S63)) (p1 : Int) (p2 : Int) : callA Try.prog cfg m 217 [LL a63 p0, I p1, I p2] = (T217 p0 p1 p2).map B := by
  obtain ⟨q, rfl⟩ : ∃ q, m = q + 1 := ⟨m - 1, by omega⟩
  exact (callA_body (fn := Try.f217) (c := body_ Try.f217) q _ (by kernel_rfl) (by kernel_rfl) (by kernel_rfl)).trans (B217 _ (fun p0 p1_c0 p1_c1 => F260 q (by omega) p0 p1_c0 p1_c1) p0 p1 p2)

noncomputable def T216 (p0 : Int) (p1 : Int) (p2_c0 : (List S63)) : Option Bool := ((T217 p2_c0 p0 p1).bind fun x1 => (some x1))
theorem B216 (C : Callee) (h217 : ∀ (p0 : (List S63)) (p1 : Int) (p2 : Int), C 217 [LL a63 p0, I p1, I p2] = (T217 p0 p1 p2).map B) (p0 : Int) (p1 : Int) (p2_c0 : (List S63)) : runs Try.prog C (cfg.fn 216) (finFn Try.prog (cfg.fn 216).byval Try.f216) [] (execA Try.prog C (cfg.fn 216) (nr Try.f216 []) (frame0 [I p0, I p1, .ia [LL a63 p2_c0] 0] 10 false)) = (T216 p0 p1 p2_c0).map B := by
  unfold T216
  refine gS 1 ?_
  refine gR 0 (rg Try.f216 0) ?_
  refine se (mkE [(0, I p0), (1, I p1), (2, .ia [LL a63 p2_c0] 0)] [] 10) ?_
  refine pN ?_
  refine pS ?_
  refine gS 0 ?_
  refine gR 1 (rg Try.f216 1) ?_
  refine sg 3 (mkE [(8, I p1), (7, I p0), (6, LL a63 p2_c0), (0, I p0), (1, I p1), (2, .ia [LL a63 p2_c0] 0)] [] 10) ?_
  refine co 9 [] (h217 p2_c0 p0 p1) (fun x1 => ?_)
  refine se (mkE [(5, B x1)] [] 10) ?_
  refine pN ?_
  refine pS ?_
  refine gE ?_
  exact pL
theorem F216 (m : Nat) (hm : 7 ≤ m) (p0 : Int) (p1 : Int) (p2_c0 : (List S63)) : callA Try.prog cfg m 216 [I p0, I p1, .ia [LL a63 p2_c0] 0] = (T216 p0 p1 p2_c0).map B := by
  obtain ⟨q, rfl⟩ : ∃ q, m = q + 1 := ⟨m - 1, by omega⟩
  exact (callA_body (fn := Try.f216) (c := body_ Try.f216) q _ (by kernel_rfl) (by kernel_rfl) (by kernel_rfl)).trans (B216 _ (fun p0 p1 p2 => F217 q (by omega) p0 p1 p2) p0 p1 p2_c0)

noncomputable def T259 (p0 : S63) (p1 : S63) : Option Bool := (bif (eqI p0.f0 p1.f0) then (bif (eqI p0.f2 p1.f2) then (some (eqI p0.f1 (addI .i64 p1.f1 p1.f3))) else (some false)) else (some false))
theorem B259 (C : Callee) (p0 : S63) (p1 : S63) : runs Try.prog C (cfg.fn 259) (finFn Try.prog (cfg.fn 259).byval Try.f259) [] (execA Try.prog C (cfg.fn 259) (nr Try.f259 []) (frame0 [a63 p0, a63 p1] 27 false)) = (T259 p0 p1).map B := by
  unfold T259
  refine gS 1 ?_
  refine gR 0 (rg Try.f259 0) ?_
  refine se (mkE [(2, .ba 16 0), (3, .ba 24 0)] [(16, .box [I p0.f0, I p0.f1, I p0.f2, I p0.f3] false), (24, .box [I p1.f0, I p1.f1, I p1.f2, I p1.f3] false)] 27) ?_
  refine pN ?_
  refine pS ?_
  refine gS 0 ?_
  refine gR 1 (rg Try.f259 1) ?_
  refine sg 6 (mkE [(10, B (eqI p0.f0 p1.f0)), (9, B (eqI p0.f0 p1.f0)), (8, I p1.f0), (7, .ba 24 0), (6, I p0.f0), (5, .ba 16 0), (2, .ba 16 0), (3, .ba 24 0)] [(16, .box [I p0.f0, I p0.f1, I p0.f2, I p0.f3] false), (24, .box [I p1.f0, I p1.f1, I p1.f2, I p1.f3] false)] 27) ?_
  refine sb 10 (eqI p0.f0 p1.f0) ?_ ?_
  · refine sg 13 (mkE [(17, B (eqI p0.f2 p1.f2)), (16, B (eqI p0.f2 p1.f2)), (15, B (eqI p0.f2 p1.f2)), (14, I p1.f2), (13, .ba 24 2), (12, I p0.f2), (11, .ba 16 2), (10, B true), (10, B (eqI p0.f0 p1.f0)), (9, B (eqI p0.f0 p1.f0)), (8, I p1.f0), (7, .ba 24 0), (6, I p0.f0), (5, .ba 16 0), (2, .ba 16 0), (3, .ba 24 0)] [(16, .box [I p0.f0, I p0.f1, I p0.f2, I p0.f3] false), (24, .box [I p1.f0, I p1.f1, I p1.f2, I p1.f3] false)] 27) ?_
    refine sb 17 (eqI p0.f2 p1.f2) ?_ ?_
    · refine se (mkE [(4, B (eqI p0.f1 (addI .i64 p1.f1 p1.f3)))] [] 27) ?_
      refine pN ?_
      refine pS ?_
      refine gE ?_
      exact pL
    · refine se (mkE [(4, B false)] [] 27) ?_
      refine pN ?_
      refine pS ?_
      refine gE ?_
      exact pL
  · refine se (mkE [(4, B false)] [] 27) ?_
    refine pN ?_
    refine pS ?_
    refine gE ?_
    exact pL
theorem F259 (m : Nat) (hm : 1 ≤ m) (p0 : S63) (p1 : S63) : callA Try.prog cfg m 259 [a63 p0, a63 p1] = (T259 p0 p1).map B := by
  obtain ⟨q, rfl⟩ : ∃ q, m = q + 1 := ⟨m - 1, by omega⟩
  exact (callA_body (fn := Try.f259) (c := body_ Try.f259) q _ (by kernel_rfl) (by kernel_rfl) (by kernel_rfl)).trans (B259 _ p0 p1)

noncomputable def L258_4 (p0 : (List S63)) (p1 : (List S63)) (z0 : Int) : Option (Int ⊕ ((Int × Bool) ⊕ Unit)) := (bif (ltI z0 (lenL p0)) then ((listAt p0 z0).bind fun x1 => ((listAt p1 z0).bind fun x2 => ((T259 x1 x2).bind fun x3 => (bif (!x3) then (some (.inr (.inr ()))) else (some (.inl (addI .i64 z0 1))))))) else (some (.inr (.inl (z0, (ltI z0 (lenL p0)))))))
theorem L258_4_ok (C : Callee) (h259 : ∀ (p0 : S63) (p1 : S63), C 259 [a63 p0, a63 p1] = (T259 p0 p1).map B) (p0 : (List S63)) (p1 : (List S63)) (z0 : Int) : runs Try.prog C (cfg.fn 258) (finLoop ((cfg.fn 258).keep 4) ((cfg.fn 258).al 4)) [] (execA Try.prog C (cfg.fn 258) (nr Try.f258 [false, false, true, false, true, true]) ((fun z0 : Int => (mkE [(1, LL a63 p1), (2, .fn 259 []), (15, LL a63 p0), (16, I (lenL p0)), (17, I z0)] [] 32)) z0)) = (L258_4 p0 p1 z0).map (Sum.elim (fun z => .inl ((fun z0 : Int => (mkE [(1, LL a63 p1), (2, .fn 259 []), (15, LL a63 p0), (16, I (lenL p0)), (17, I z0)] [] 32)) z)) (fun x => .inr ((Sum.elim (fun (x : (Int × Bool)) => (.exit 0, (mkE [(1, LL a63 p1), (2, .fn 259 []), (15, LL a63 p0), (16, I (lenL p0)), (17, I x.1), (18, B x.2)] [] 32))) (fun (x : Unit) => (.ret, (mkE [(6, B false)] [] 32)))) x))) := by
  unfold L258_4
  refine gS 0 ?_
  refine gR 4 (rg Try.f258 4) ?_
  refine se (mkE [(1, LL a63 p1), (2, .fn 259 []), (15, LL a63 p0), (16, I (lenL p0)), (17, I z0), (18, B (ltI z0 (lenL p0)))] [] 32) ?_
  refine pN ?_
  refine pS ?_
  refine gS 5 ?_
  refine gC 18 (ltI z0 (lenL p0)) ?_ ?_
  · refine gK ?_
    refine pN ?_
    refine pS ?_
    refine gS 9 ?_
    refine gB 1 ?_
    refine gS 6 ?_
    refine gR 5 (rg Try.f258 5) ?_
    refine sg 1 (mkE [(19, I z0), (1, LL a63 p1), (2, .fn 259 []), (15, LL a63 p0), (16, I (lenL p0)), (17, I z0), (18, B (ltI z0 (lenL p0)))] [] 32) ?_
    refine vo 20 (addrE 65 64 4 a63 .i64 p0 z0) (fun x1 => ?_)
    refine se (mkE [(1, LL a63 p1), (2, .fn 259 []), (7, I z0), (8, .ba 64 0), (15, LL a63 p0), (16, I (lenL p0)), (17, I z0)] [(64, .box [I x1.f0, I x1.f1, I x1.f2, I x1.f3] false)] 32) ?_
    refine pN ?_
    refine pS ?_
    refine gS 7 ?_
    refine gR 6 (rg Try.f258 6) ?_
    refine sg 2 (mkE [(23, I z0), (22, LL a63 p1), (1, LL a63 p1), (2, .fn 259 []), (7, I z0), (8, .ba 64 0), (15, LL a63 p0), (16, I (lenL p0)), (17, I z0)] [(64, .box [I x1.f0, I x1.f1, I x1.f2, I x1.f3] false)] 32) ?_
    refine vo 24 (addrE 65 64 4 a63 .i64 p1 z0) (fun x2 => ?_)
    refine se (mkE [(1, LL a63 p1), (2, .fn 259 []), (8, .ba 64 0), (9, .ba 72 0), (15, LL a63 p0), (16, I (lenL p0)), (17, I z0)] [(64, .box [I x1.f0, I x1.f1, I x1.f2, I x1.f3] false), (72, .box [I x2.f0, I x2.f1, I x2.f2, I x2.f3] false)] 32) ?_
    refine pN ?_
    refine pS ?_
    refine gS 0 ?_
    refine gR 7 (rg Try.f258 7) ?_
    refine sg 3 (mkE [(28, a63 x2), (27, a63 x1), (26, .fn 259 []), (1, LL a63 p1), (2, .fn 259 []), (8, .ba 64 0), (9, .ba 72 0), (15, LL a63 p0), (16, I (lenL p0)), (17, I z0)] [(64, .box [I x1.f0, I x1.f1, I x1.f2, I x1.f3] false), (72, .box [I x2.f0, I x2.f1, I x2.f2, I x2.f3] false)] 32) ?_
    refine co 29 [] (h259 x1 x2) (fun x3 => ?_)
    refine se (mkE [(1, LL a63 p1), (2, .fn 259 []), (15, LL a63 p0), (16, I (lenL p0)), (17, I z0), (30, B (!x3))] [] 32) ?_
    refine pN ?_
    refine pS ?_
    refine gC 30 (!x3) ?_ ?_
    · refine gS 0 ?_
      refine gR 8 (rg Try.f258 8) ?_
      refine se (mkE [(6, B false)] [] 32) ?_
      refine pN ?_
      refine pS ?_
      refine gE ?_
      exact pL
    · refine gK ?_
      refine pB ?_
      refine pN ?_
      refine pS ?_
      refine gR 9 (rg Try.f258 9) ?_
      refine se (mkE [(1, LL a63 p1), (2, .fn 259 []), (15, LL a63 p0), (16, I (lenL p0)), (17, I (addI .i64 z0 1))] [] 32) ?_
      exact pL
  · refine gX 0 ?_
    exact pL
noncomputable def T258 (p0 : (List S63)) (p1 : (List S63)) : Option Bool := (bif (neI (lenL p0) (lenL p1)) then (some false) else ((iter (L258_4 p0 p1) 0).bind fun y4 => (Sum.elim (fun y4a => (some true)) (fun y4b => (some false)) y4)))
theorem B258 (C : Callee) (h259 : ∀ (p0 : S63) (p1 : S63), C 259 [a63 p0, a63 p1] = (T259 p0 p1).map B) (p0 : (List S63)) (p1 : (List S63)) : runs Try.prog C (cfg.fn 258) (finFn Try.prog (cfg.fn 258).byval Try.f258) [] (execA Try.prog C (cfg.fn 258) (nr Try.f258 []) (frame0 [LL a63 p0, LL a63 p1, .fn 259 []] 32 false)) = (T258 p0 p1).map B := by
  unfold T258
  refine gS 1 ?_
  refine gR 0 (rg Try.f258 0) ?_
  refine se (mkE [(0, LL a63 p0), (1, LL a63 p1), (2, .fn 259 [])] [] 32) ?_
  refine pN ?_
  refine pS ?_
  refine gS 3 ?_
  refine gS 0 ?_
  refine gR 1 (rg Try.f258 1) ?_
  refine sg 1 (mkE [(10, LL a63 p0), (0, LL a63 p0), (1, LL a63 p1), (2, .fn 259 [])] [] 32) ?_
  refine eo 11 (I (lenL p0)) (lenE 65 a63 p0) ?_
  refine sg 3 (mkE [(12, LL a63 p1), (11, I (lenL p0)), (10, LL a63 p0), (0, LL a63 p0), (1, LL a63 p1), (2, .fn 259 [])] [] 32) ?_
  refine eo 13 (I (lenL p1)) (lenE 65 a63 p1) ?_
  refine se (mkE [(0, LL a63 p0), (1, LL a63 p1), (2, .fn 259 []), (14, B (neI (lenL p0) (lenL p1)))] [] 32) ?_
  refine pN ?_
  refine pS ?_
  refine gC 14 (neI (lenL p0) (lenL p1)) ?_ ?_
  · refine gS 0 ?_
    refine gR 2 (rg Try.f258 2) ?_
    refine se (mkE [(6, B false)] [] 32) ?_
    refine pN ?_
    refine pS ?_
    refine gE ?_
    exact pL
  · refine gK ?_
    refine pN ?_
    refine pS ?_
    refine gS 10 ?_
    refine gS 4 ?_
    refine gR 3 (rg Try.f258 3) ?_
    refine sg 1 (mkE [(15, LL a63 p0), (0, LL a63 p0), (1, LL a63 p1), (2, .fn 259 []), (14, B (neI (lenL p0) (lenL p1)))] [] 32) ?_
    refine eo 16 (I (lenL p0)) (lenE 65 a63 p0) ?_
    refine se (mkE [(1, LL a63 p1), (2, .fn 259 []), (15, LL a63 p0), (16, I (lenL p0)), (17, I 0)] [] 32) ?_
    refine pN ?_
    refine pS ?_
    refine gB 0 ?_
    refine lo [(1, none), (2, none), (15, none), (16, none), (17, none)] [] (L258_4 p0 p1) (fun z0 : Int => (mkE [(1, LL a63 p1), (2, .fn 259 []), (15, LL a63 p0), (16, I (lenL p0)), (17, I z0)] [] 32)) (Sum.elim (fun (x : (Int × Bool)) => (.exit 0, (mkE [(1, LL a63 p1), (2, .fn 259 []), (15, LL a63 p0), (16, I (lenL p0)), (17, I x.1), (18, B x.2)] [] 32))) (fun (x : Unit) => (.ret, (mkE [(6, B false)] [] 32)))) 0 (fun z => L258_4_ok C h259 p0 p1 z) ?_
    intro y4
    refine ss y4 (Z := (Sum.elim (fun (x : (Int × Bool)) => (.exit 0, (mkE [(1, LL a63 p1), (2, .fn 259 []), (15, LL a63 p0), (16, I (lenL p0)), (17, I x.1), (18, B x.2)] [] 32))) (fun (x : Unit) => (.ret, (mkE [(6, B false)] [] 32))))) (fun y4a => ?_) (fun y4b => ?_)
    · refine pH ?_
      refine pN ?_
      refine pS ?_
      refine gS 0 ?_
      refine gR 10 (rg Try.f258 10) ?_
      refine se (mkE [(6, B true)] [] 32) ?_
      refine pN ?_
      refine pS ?_
      refine gE ?_
      exact pL
    · exact pL
theorem F258 (m : Nat) (hm : 2 ≤ m) (p0 : (List S63)) (p1 : (List S63)) : callA Try.prog cfg m 258 [LL a63 p0, LL a63 p1, .fn 259 []] = (T258 p0 p1).map B := by
  obtain ⟨q, rfl⟩ : ∃ q, m = q + 1 := ⟨m - 1, by omega⟩
  exact (callA_body (fn := Try.f258) (c := body_ Try.f258) q _ (by kernel_rfl) (by kernel_rfl) (by kernel_rfl)).trans (B258 _ (fun p0 p1 => F259 q (by omega) p0 p1) p0 p1)

end Go.Abs.TR
