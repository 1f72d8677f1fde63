import Derived.Test.YtnaibaifmnjpnaaPTP0
set_option maxRecDepth 100000
set_option linter.unusedVariables false
namespace Go.Abs.TP
open Go.RowKit Go.Proofs Go.Abs
noncomputable def T126 (p0 : Int) (p1 : Int) (p2 : Int) : Option Bool := (bif (ltI p0 p1) then (some true) else (some (ltI p2 p0)))
theorem B126 (C : Callee) (p0 : Int) (p1 : Int) (p2 : Int) : runs Try.prog C (cfg.fn 126) (finFn Try.prog (cfg.fn 126).byval Try.f126) [] (execA Try.prog C (cfg.fn 126) (nr Try.f126 []) (frame0 [I p0, I p1, I p2] 15 false)) = (T126 p0 p1 p2).map B := by
  unfold T126
  refine gS 1 ?_
  refine gR 0 (rg Try.f126 0) ?_
  refine se (mkE [(0, I p0), (1, I p1), (2, I p2)] [] 15) ?_
  refine pN ?_
  refine pS ?_
  refine gS 0 ?_
  refine gR 1 (rg Try.f126 1) ?_
  refine sg 4 (mkE [(10, B (ltI p0 p1)), (9, B (ltI p0 p1)), (8, I p1), (7, I p0), (0, I p0), (1, I p1), (2, I p2)] [] 15) ?_
  refine sb 10 (ltI p0 p1) ?_ ?_
  · refine se (mkE [(6, B true)] [] 15) ?_
    refine pN ?_
    refine pS ?_
    refine gE ?_
    exact pL
  · refine se (mkE [(6, B (ltI p2 p0))] [] 15) ?_
    refine pN ?_
    refine pS ?_
    refine gE ?_
    exact pL
theorem F126 (m : Nat) (hm : 1 ≤ m) (p0 : Int) (p1 : Int) (p2 : Int) : callA Try.prog cfg m 126 [I p0, I p1, I p2] = (T126 p0 p1 p2).map B := by
  obtain ⟨q, rfl⟩ : ∃ q, m = q + 1 := ⟨m - 1, by omega⟩
  exact (callA_body (fn := Try.f126) (c := body_ Try.f126) q _ (by kernel_rfl) (by kernel_rfl) (by kernel_rfl)).trans (B126 _ p0 p1 p2)

noncomputable def T117 (p0 : S63) : Option Int := ((T126 p0.f0 (-100000) 100000).bind fun x1 => (bif x1 then (some 1) else ((T126 p0.f1 (-100000) 100000).bind fun x2 => (bif x2 then (some 1) else ((T126 p0.f2 1 (subI .i64 100000 p0.f0)).bind fun x3 => (bif x3 then (some 1) else ((T126 p0.f3 1 (subI .i64 100000 p0.f1)).bind fun x4 => (bif x4 then (some 1) else (some 0)))))))))
theorem B117 (C : Callee) (h126 : ∀ (p0 : Int) (p1 : Int) (p2 : Int), C 126 [I p0, I p1, I p2] = (T126 p0 p1 p2).map B) (p0 : S63) : runs Try.prog C (cfg.fn 117) (finFn Try.prog (cfg.fn 117).byval Try.f117) [] (execA Try.prog C (cfg.fn 117) (nr Try.f117 []) (frame0 [a63 p0] 25 false)) = (T117 p0).map I := by
  unfold T117
  refine gS 1 ?_
  refine gR 0 (rg Try.f117 0) ?_
  refine se (mkE [(1, .ba 8 0)] [(8, .box [I p0.f0, I p0.f1, I p0.f2, I p0.f3] false)] 25) ?_
  refine pN ?_
  refine pS ?_
  refine gS 3 ?_
  refine gS 0 ?_
  refine gR 1 (rg Try.f117 1) ?_
  refine sg 2 (mkE [(4, I p0.f0), (3, .ba 8 0), (1, .ba 8 0)] [(8, .box [I p0.f0, I p0.f1, I p0.f2, I p0.f3] false)] 25) ?_
  refine co 5 [] (h126 p0.f0 (-100000) 100000) (fun x1 => ?_)
  refine sg 4 (mkE [(6, B x1), (5, B x1), (4, I p0.f0), (3, .ba 8 0), (1, .ba 8 0)] [(8, .box [I p0.f0, I p0.f1, I p0.f2, I p0.f3] false)] 25) ?_
  refine sb 6 x1 ?_ ?_
  · refine se (mkE [(1, .ba 8 0), (10, B true)] [(8, .box [I p0.f0, I p0.f1, I p0.f2, I p0.f3] false)] 25) ?_
    refine pN ?_
    refine pS ?_
    refine gT (.tmp 10) ?_
    refine gS 0 ?_
    refine gR 2 (rg Try.f117 2) ?_
    refine se (mkE [(2, I 1)] [] 25) ?_
    refine pN ?_
    refine pS ?_
    refine gE ?_
    exact pL
  · refine sg 6 (mkE [(8, I p0.f1), (7, .ba 8 1), (6, B false), (6, B x1), (5, B x1), (4, I p0.f0), (3, .ba 8 0), (1, .ba 8 0)] [(8, .box [I p0.f0, I p0.f1, I p0.f2, I p0.f3] false)] 25) ?_
    refine co 9 [] (h126 p0.f1 (-100000) 100000) (fun x2 => ?_)
    refine se (mkE [(1, .ba 8 0), (10, B x2)] [(8, .box [I p0.f0, I p0.f1, I p0.f2, I p0.f3] false)] 25) ?_
    refine pN ?_
    refine pS ?_
    refine gC 10 x2 ?_ ?_
    · refine gS 0 ?_
      refine gR 2 (rg Try.f117 2) ?_
      refine se (mkE [(2, I 1)] [] 25) ?_
      refine pN ?_
      refine pS ?_
      refine gE ?_
      exact pL
    · refine gK ?_
      refine pN ?_
      refine pS ?_
      refine gS 5 ?_
      refine gS 0 ?_
      refine gR 3 (rg Try.f117 3) ?_
      refine sg 5 (mkE [(15, I (subI .i64 100000 p0.f0)), (14, I p0.f0), (13, .ba 8 0), (12, I p0.f2), (11, .ba 8 2), (1, .ba 8 0), (10, B x2)] [(8, .box [I p0.f0, I p0.f1, I p0.f2, I p0.f3] false)] 25) ?_
      refine co 16 [] (h126 p0.f2 1 (subI .i64 100000 p0.f0)) (fun x3 => ?_)
      refine sg 7 (mkE [(17, B x3), (16, B x3), (15, I (subI .i64 100000 p0.f0)), (14, I p0.f0), (13, .ba 8 0), (12, I p0.f2), (11, .ba 8 2), (1, .ba 8 0), (10, B x2)] [(8, .box [I p0.f0, I p0.f1, I p0.f2, I p0.f3] false)] 25) ?_
      refine sb 17 x3 ?_ ?_
      · refine se (mkE [(24, B true)] [] 25) ?_
        refine pN ?_
        refine pS ?_
        refine gT (.tmp 24) ?_
        refine gS 0 ?_
        refine gR 4 (rg Try.f117 4) ?_
        refine se (mkE [(2, I 1)] [] 25) ?_
        refine pN ?_
        refine pS ?_
        refine gE ?_
        exact pL
      · refine sg 12 (mkE [(22, I (subI .i64 100000 p0.f1)), (21, I p0.f1), (20, .ba 8 1), (19, I p0.f3), (18, .ba 8 3), (17, B false), (17, B x3), (16, B x3), (15, I (subI .i64 100000 p0.f0)), (14, I p0.f0), (13, .ba 8 0), (12, I p0.f2), (11, .ba 8 2), (1, .ba 8 0), (10, B x2)] [(8, .box [I p0.f0, I p0.f1, I p0.f2, I p0.f3] false)] 25) ?_
        refine co 23 [] (h126 p0.f3 1 (subI .i64 100000 p0.f1)) (fun x4 => ?_)
        refine se (mkE [(24, B x4)] [] 25) ?_
        refine pN ?_
        refine pS ?_
        refine gC 24 x4 ?_ ?_
        · refine gS 0 ?_
          refine gR 4 (rg Try.f117 4) ?_
          refine se (mkE [(2, I 1)] [] 25) ?_
          refine pN ?_
          refine pS ?_
          refine gE ?_
          exact pL
        · refine gK ?_
          refine pN ?_
          refine pS ?_
          refine gS 0 ?_
          refine gR 5 (rg Try.f117 5) ?_
          refine se (mkE [(2, I 0)] [] 25) ?_
          refine pN ?_
          refine pS ?_
          refine gE ?_
          exact pL
theorem F117 (m : Nat) (hm : 2 ≤ m) (p0 : S63) : callA Try.prog cfg m 117 [a63 p0] = (T117 p0).map I := by
  obtain ⟨q, rfl⟩ : ∃ q, m = q + 1 := ⟨m - 1, by omega⟩
  exact (callA_body (fn := Try.f117) (c := body_ Try.f117) q _ (by kernel_rfl) (by kernel_rfl) (by kernel_rfl)).trans (B117 _ (fun p0 p1 p2 => F126 q (by omega) p0 p1 p2) p0)

noncomputable def T125 (p0 : Int) : Option Bool := ((T126 p0 1 20000).bind fun x1 => (some (!x1)))
theorem B125 (C : Callee) (h126 : ∀ (p0 : Int) (p1 : Int) (p2 : Int), C 126 [I p0, I p1, I p2] = (T126 p0 p1 p2).map B) (p0 : Int) : runs Try.prog C (cfg.fn 125) (finFn Try.prog (cfg.fn 125).byval Try.f125) [] (execA Try.prog C (cfg.fn 125) (nr Try.f125 []) (frame0 [I p0] 6 false)) = (T125 p0).map B := by
  unfold T125
  refine gS 1 ?_
  refine gR 0 (rg Try.f125 0) ?_
  refine se (mkE [(0, I p0)] [] 6) ?_
  refine pN ?_
  refine pS ?_
  refine gS 0 ?_
  refine gR 1 (rg Try.f125 1) ?_
  refine sg 1 (mkE [(3, I p0), (0, I p0)] [] 6) ?_
  refine co 4 [] (h126 p0 1 20000) (fun x1 => ?_)
  refine se (mkE [(2, B (!x1))] [] 6) ?_
  refine pN ?_
  refine pS ?_
  refine gE ?_
  exact pL
theorem F125 (m : Nat) (hm : 2 ≤ m) (p0 : Int) : callA Try.prog cfg m 125 [I p0] = (T125 p0).map B := by
  obtain ⟨q, rfl⟩ : ∃ q, m = q + 1 := ⟨m - 1, by omega⟩
  exact (callA_body (fn := Try.f125) (c := body_ Try.f125) q _ (by kernel_rfl) (by kernel_rfl) (by kernel_rfl)).trans (B125 _ (fun p0 p1 p2 => F126 q (by omega) p0 p1 p2) p0)

noncomputable def T127 (p0 : S63) (p1 : Int) (p2 : Int) : Option Bool := (bif (leI 0 p0.f0) then (bif (leI 0 p0.f1) then (bif (leI (addI .i64 p0.f0 p0.f2) p1) then (some (leI (addI .i64 p0.f1 p0.f3) p2)) else (some false)) else (some false)) else (some false))
theorem B127 (C : Callee) (p0 : S63) (p1 : Int) (p2 : Int) : runs Try.prog C (cfg.fn 127) (finFn Try.prog (cfg.fn 127).byval Try.f127) [] (execA Try.prog C (cfg.fn 127) (nr Try.f127 []) (frame0 [a63 p0, I p1, I p2] 33 false)) = (T127 p0 p1 p2).map B := by
  unfold T127
  refine gS 1 ?_
  refine gR 0 (rg Try.f127 0) ?_
  refine se (mkE [(1, I p1), (2, I p2), (3, .ba 24 0)] [(24, .box [I p0.f0, I p0.f1, I p0.f2, I p0.f3] false)] 33) ?_
  refine pN ?_
  refine pS ?_
  refine gS 0 ?_
  refine gR 1 (rg Try.f127 1) ?_
  refine sg 4 (mkE [(10, B (leI 0 p0.f0)), (9, B (leI 0 p0.f0)), (8, I p0.f0), (7, .ba 24 0), (1, I p1), (2, I p2), (3, .ba 24 0)] [(24, .box [I p0.f0, I p0.f1, I p0.f2, I p0.f3] false)] 33) ?_
  refine sb 10 (leI 0 p0.f0) ?_ ?_
  · refine sg 9 (mkE [(15, B (leI 0 p0.f1)), (14, B (leI 0 p0.f1)), (13, B (leI 0 p0.f1)), (12, I p0.f1), (11, .ba 24 1), (10, B true), (10, B (leI 0 p0.f0)), (9, B (leI 0 p0.f0)), (8, I p0.f0), (7, .ba 24 0), (1, I p1), (2, I p2), (3, .ba 24 0)] [(24, .box [I p0.f0, I p0.f1, I p0.f2, I p0.f3] false)] 33) ?_
    refine sb 15 (leI 0 p0.f1) ?_ ?_
    · refine sg 18 (mkE [(24, B (leI (addI .i64 p0.f0 p0.f2) p1)), (23, B (leI (addI .i64 p0.f0 p0.f2) p1)), (22, B (leI (addI .i64 p0.f0 p0.f2) p1)), (21, I p1), (20, I (addI .i64 p0.f0 p0.f2)), (19, I p0.f2), (18, .ba 24 2), (17, I p0.f0), (16, .ba 24 0), (15, B true), (15, B (leI 0 p0.f1)), (14, B (leI 0 p0.f1)), (13, B (leI 0 p0.f1)), (12, I p0.f1), (11, .ba 24 1), (10, B true), (10, B (leI 0 p0.f0)), (9, B (leI 0 p0.f0)), (8, I p0.f0), (7, .ba 24 0), (1, I p1), (2, I p2), (3, .ba 24 0)] [(24, .box [I p0.f0, I p0.f1, I p0.f2, I p0.f3] false)] 33) ?_
      refine sb 24 (leI (addI .i64 p0.f0 p0.f2) p1) ?_ ?_
      · refine se (mkE [(6, B (leI (addI .i64 p0.f1 p0.f3) p2))] [] 33) ?_
        refine pN ?_
        refine pS ?_
        refine gE ?_
        exact pL
      · refine se (mkE [(6, B false)] [] 33) ?_
        refine pN ?_
        refine pS ?_
        refine gE ?_
        exact pL
    · refine se (mkE [(6, B false)] [] 33) ?_
      refine pN ?_
      refine pS ?_
      refine gE ?_
      exact pL
  · refine se (mkE [(6, B false)] [] 33) ?_
    refine pN ?_
    refine pS ?_
    refine gE ?_
    exact pL
theorem F127 (m : Nat) (hm : 1 ≤ m) (p0 : S63) (p1 : Int) (p2 : Int) : callA Try.prog cfg m 127 [a63 p0, I p1, I p2] = (T127 p0 p1 p2).map B := by
  obtain ⟨q, rfl⟩ : ∃ q, m = q + 1 := ⟨m - 1, by omega⟩
  exact (callA_body (fn := Try.f127) (c := body_ Try.f127) q _ (by kernel_rfl) (by kernel_rfl) (by kernel_rfl)).trans (B127 _ p0 p1 p2)

noncomputable def L37_9 (p3 : Int) (z0 : (Int × Int × Int × Int × Int × Int × Int)) : Option ((Int × Int × Int × Int × Int × Int × Int) ⊕ (Int × Int × Int × Bool × Int × Int × Int × Int)) := (bif (ltI z0.2.2.2.2.2.2 p3) then (some (.inl (z0.2.1, z0.1, (subI .i64 (subI .i64 z0.2.1 z0.2.2.2.1) z0.2.2.2.2.2.1), z0.2.2.1, z0.2.2.2.2.2.1, z0.2.2.2.2.1, (addI .i64 z0.2.2.2.2.2.2 1)))) else (some (.inr (z0.1, z0.2.1, z0.2.2.2.2.2.2, (ltI z0.2.2.2.2.2.2 p3), z0.2.2.1, z0.2.2.2.1, z0.2.2.2.2.1, z0.2.2.2.2.2.1))))
theorem L37_9_ok (C : Callee) (p3 : Int) (z0 : (Int × Int × Int × Int × Int × Int × Int)) : runs Try.prog C (cfg.fn 37) (finLoop ((cfg.fn 37).keep 9) ((cfg.fn 37).al 9)) [] (execA Try.prog C (cfg.fn 37) (nr Try.f37 [false, false, true, false, true, true, true, true]) ((fun z0 : (Int × Int × Int × Int × Int × Int × Int) => (mkE [(1, I z0.1), (2, I z0.2.1), (4, .ba 32 0), (8, .ba 64 0), (36, I p3), (37, I z0.2.2.2.2.2.2)] [(32, .box [I z0.2.2.1, I z0.2.2.2.1, I z0.2.2.2.2.1, I z0.2.2.2.2.2.1] false), (64, .box [I 0, I 0, I 0, I 0] false)] 57)) z0)) = (L37_9 p3 z0).map (Sum.elim (fun z => .inl ((fun z0 : (Int × Int × Int × Int × Int × Int × Int) => (mkE [(1, I z0.1), (2, I z0.2.1), (4, .ba 32 0), (8, .ba 64 0), (36, I p3), (37, I z0.2.2.2.2.2.2)] [(32, .box [I z0.2.2.1, I z0.2.2.2.1, I z0.2.2.2.2.1, I z0.2.2.2.2.2.1] false), (64, .box [I 0, I 0, I 0, I 0] false)] 57)) z)) (fun x => .inr ((fun (x : (Int × Int × Int × Bool × Int × Int × Int × Int)) => (.exit 0, (mkE [(1, I x.1), (2, I x.2.1), (4, .ba 32 0), (8, .ba 64 0), (36, I p3), (37, I x.2.2.1), (38, B x.2.2.2.1)] [(32, .box [I x.2.2.2.2.1, I x.2.2.2.2.2.1, I x.2.2.2.2.2.2.1, I x.2.2.2.2.2.2.2] false), (64, .box [I 0, I 0, I 0, I 0] false)] 57))) x))) := by
  unfold L37_9
  refine gS 0 ?_
  refine gR 9 (rg Try.f37 9) ?_
  refine se (mkE [(1, I z0.1), (2, I z0.2.1), (4, .ba 32 0), (8, .ba 64 0), (36, I p3), (37, I z0.2.2.2.2.2.2), (38, B (ltI z0.2.2.2.2.2.2 p3))] [(32, .box [I z0.2.2.1, I z0.2.2.2.1, I z0.2.2.2.2.1, I z0.2.2.2.2.2.1] false), (64, .box [I 0, I 0, I 0, I 0] false)] 57) ?_
  refine pN ?_
  refine pS ?_
  refine gS 10 ?_
  refine gC 38 (ltI z0.2.2.2.2.2.2 p3) ?_ ?_
  · refine gK ?_
    refine pN ?_
    refine pS ?_
    refine gS 12 ?_
    refine gB 1 ?_
    refine gS 11 ?_
    refine gR 10 (rg Try.f37 10) ?_
    refine se (mkE [(1, I z0.1), (2, I z0.2.1), (4, .ba 32 0), (8, .ba 64 0), (36, I p3), (37, I z0.2.2.2.2.2.2)] [(32, .box [I (subI .i64 (subI .i64 z0.2.1 z0.2.2.2.1) z0.2.2.2.2.2.1), I z0.2.2.1, I z0.2.2.2.2.2.1, I z0.2.2.2.2.1] false), (64, .box [I 0, I 0, I 0, I 0] false)] 57) ?_
    refine pN ?_
    refine pS ?_
    refine gR 11 (rg Try.f37 11) ?_
    refine se (mkE [(1, I z0.2.1), (2, I z0.1), (4, .ba 32 0), (8, .ba 64 0), (36, I p3), (37, I z0.2.2.2.2.2.2)] [(32, .box [I (subI .i64 (subI .i64 z0.2.1 z0.2.2.2.1) z0.2.2.2.2.2.1), I z0.2.2.1, I z0.2.2.2.2.2.1, I z0.2.2.2.2.1] false), (64, .box [I 0, I 0, I 0, I 0] false)] 57) ?_
    refine pB ?_
    refine pN ?_
    refine pS ?_
    refine gR 12 (rg Try.f37 12) ?_
    refine se (mkE [(1, I z0.2.1), (2, I z0.1), (4, .ba 32 0), (8, .ba 64 0), (36, I p3), (37, I (addI .i64 z0.2.2.2.2.2.2 1))] [(32, .box [I (subI .i64 (subI .i64 z0.2.1 z0.2.2.2.1) z0.2.2.2.2.2.1), I z0.2.2.1, I z0.2.2.2.2.2.1, I z0.2.2.2.2.1] false), (64, .box [I 0, I 0, I 0, I 0] false)] 57) ?_
    exact pL
  · refine gX 0 ?_
    exact pL
noncomputable def T37 (p0 : S63) (p1 : Int) (p2 : Int) (p3 : Int) : Option (S63 × Int) := ((T117 p0).bind fun x1 => (bif (neI x1 0) then (some ((S63.mk 0 0 0 0), x1)) else ((T125 p1).bind fun x2 => (bif (!x2) then (some ((S63.mk 0 0 0 0), 1)) else ((T125 p2).bind fun x3 => (bif (!x3) then (some ((S63.mk 0 0 0 0), 1)) else ((T126 p3 0 3).bind fun x4 => (bif x4 then (some ((S63.mk 0 0 0 0), 1)) else ((T127 p0 p1 p2).bind fun x5 => (bif (!x5) then (some ((S63.mk 0 0 0 0), 3)) else ((iter (L37_9 p3) (p1, p2, p0.f0, p0.f1, p0.f2, p0.f3, 0)).bind fun y6 => (some ((S63.mk y6.2.2.2.2.1 y6.2.2.2.2.2.1 y6.2.2.2.2.2.2.1 y6.2.2.2.2.2.2.2), 0)))))))))))))
theorem B37 (C : Callee) (h117 : ∀ (p0 : S63), C 117 [a63 p0] = (T117 p0).map I) (h125 : ∀ (p0 : Int), C 125 [I p0] = (T125 p0).map B) (h126 : ∀ (p0 : Int) (p1 : Int) (p2 : Int), C 126 [I p0, I p1, I p2] = (T126 p0 p1 p2).map B) (h127 : ∀ (p0 : S63) (p1 : Int) (p2 : Int), C 127 [a63 p0, I p1, I p2] = (T127 p0 p1 p2).map B) (p0 : S63) (p1 : Int) (p2 : Int) (p3 : Int) : runs Try.prog C (cfg.fn 37) (finFn Try.prog (cfg.fn 37).byval Try.f37) [] (execA Try.prog C (cfg.fn 37) (nr Try.f37 []) (frame0 [a63 p0, I p1, I p2, I p3] 57 false)) = (T37 p0 p1 p2 p3).map (fun r => AV.tup [a63 r.1, I r.2]) := by
  unfold T37
  refine gS 1 ?_
  refine gR 0 (rg Try.f37 0) ?_
  refine se (mkE [(1, I p1), (2, I p2), (3, I p3), (4, .ba 32 0), (8, .ba 64 0)] [(32, .box [I p0.f0, I p0.f1, I p0.f2, I p0.f3] false), (64, .box [I 0, I 0, I 0, I 0] false)] 57) ?_
  refine pN ?_
  refine pS ?_
  refine gS 4 ?_
  refine gS 2 ?_
  refine gR 1 (rg Try.f37 1) ?_
  refine sg 1 (mkE [(11, a63 p0), (1, I p1), (2, I p2), (3, I p3), (4, .ba 32 0), (8, .ba 64 0)] [(32, .box [I p0.f0, I p0.f1, I p0.f2, I p0.f3] false), (64, .box [I 0, I 0, I 0, I 0] false)] 57) ?_
  refine co 12 [] (h117 p0) (fun x1 => ?_)
  refine se (mkE [(1, I p1), (2, I p2), (3, I p3), (4, .ba 32 0), (8, .ba 64 0), (10, I x1)] [(32, .box [I p0.f0, I p0.f1, I p0.f2, I p0.f3] false), (64, .box [I 0, I 0, I 0, I 0] false)] 57) ?_
  refine pN ?_
  refine pS ?_
  refine gS 0 ?_
  refine gR 2 (rg Try.f37 2) ?_
  refine se (mkE [(1, I p1), (2, I p2), (3, I p3), (4, .ba 32 0), (8, .ba 64 0), (10, I x1), (14, B (neI x1 0))] [(32, .box [I p0.f0, I p0.f1, I p0.f2, I p0.f3] false), (64, .box [I 0, I 0, I 0, I 0] false)] 57) ?_
  refine pN ?_
  refine pS ?_
  refine gC 14 (neI x1 0) ?_ ?_
  · refine gS 0 ?_
    refine gR 3 (rg Try.f37 3) ?_
    refine se (mkE [(8, .ba 64 0), (9, I x1)] [(64, .box [I 0, I 0, I 0, I 0] false)] 57) ?_
    refine pN ?_
    refine pS ?_
    refine gE ?_
    exact pL
  · refine gK ?_
    refine pN ?_
    refine pS ?_
    refine gS 6 ?_
    refine gS 0 ?_
    refine gR 4 (rg Try.f37 4) ?_
    refine sg 1 (mkE [(17, I p1), (1, I p1), (2, I p2), (3, I p3), (4, .ba 32 0), (8, .ba 64 0), (10, I x1), (14, B (neI x1 0))] [(32, .box [I p0.f0, I p0.f1, I p0.f2, I p0.f3] false), (64, .box [I 0, I 0, I 0, I 0] false)] 57) ?_
    refine co 18 [] (h125 p1) (fun x2 => ?_)
    refine sg 4 (mkE [(20, B (!x2)), (19, B (!x2)), (18, B x2), (17, I p1), (1, I p1), (2, I p2), (3, I p3), (4, .ba 32 0), (8, .ba 64 0), (10, I x1), (14, B (neI x1 0))] [(32, .box [I p0.f0, I p0.f1, I p0.f2, I p0.f3] false), (64, .box [I 0, I 0, I 0, I 0] false)] 57) ?_
    refine sb 20 (!x2) ?_ ?_
    · refine se (mkE [(1, I p1), (2, I p2), (3, I p3), (4, .ba 32 0), (8, .ba 64 0), (28, B true)] [(32, .box [I p0.f0, I p0.f1, I p0.f2, I p0.f3] false), (64, .box [I 0, I 0, I 0, I 0] false)] 57) ?_
      refine pN ?_
      refine pS ?_
      refine gT (.tmp 28) ?_
      refine gS 0 ?_
      refine gR 5 (rg Try.f37 5) ?_
      refine se (mkE [(8, .ba 64 0), (9, I 1)] [(64, .box [I 0, I 0, I 0, I 0] false)] 57) ?_
      refine pN ?_
      refine pS ?_
      refine gE ?_
      exact pL
    · refine sg 5 (mkE [(21, I p2), (20, B false), (20, B (!x2)), (19, B (!x2)), (18, B x2), (17, I p1), (1, I p1), (2, I p2), (3, I p3), (4, .ba 32 0), (8, .ba 64 0), (10, I x1), (14, B (neI x1 0))] [(32, .box [I p0.f0, I p0.f1, I p0.f2, I p0.f3] false), (64, .box [I 0, I 0, I 0, I 0] false)] 57) ?_
      refine co 22 [] (h125 p2) (fun x3 => ?_)
      refine sg 9 (mkE [(25, B (!x3)), (24, B (!x3)), (23, B (!x3)), (22, B x3), (21, I p2), (20, B false), (20, B (!x2)), (19, B (!x2)), (18, B x2), (17, I p1), (1, I p1), (2, I p2), (3, I p3), (4, .ba 32 0), (8, .ba 64 0), (10, I x1), (14, B (neI x1 0))] [(32, .box [I p0.f0, I p0.f1, I p0.f2, I p0.f3] false), (64, .box [I 0, I 0, I 0, I 0] false)] 57) ?_
      refine sb 25 (!x3) ?_ ?_
      · refine se (mkE [(1, I p1), (2, I p2), (3, I p3), (4, .ba 32 0), (8, .ba 64 0), (28, B true)] [(32, .box [I p0.f0, I p0.f1, I p0.f2, I p0.f3] false), (64, .box [I 0, I 0, I 0, I 0] false)] 57) ?_
        refine pN ?_
        refine pS ?_
        refine gT (.tmp 28) ?_
        refine gS 0 ?_
        refine gR 5 (rg Try.f37 5) ?_
        refine se (mkE [(8, .ba 64 0), (9, I 1)] [(64, .box [I 0, I 0, I 0, I 0] false)] 57) ?_
        refine pN ?_
        refine pS ?_
        refine gE ?_
        exact pL
      · refine sg 10 (mkE [(26, I p3), (25, B false), (25, B (!x3)), (24, B (!x3)), (23, B (!x3)), (22, B x3), (21, I p2), (20, B false), (20, B (!x2)), (19, B (!x2)), (18, B x2), (17, I p1), (1, I p1), (2, I p2), (3, I p3), (4, .ba 32 0), (8, .ba 64 0), (10, I x1), (14, B (neI x1 0))] [(32, .box [I p0.f0, I p0.f1, I p0.f2, I p0.f3] false), (64, .box [I 0, I 0, I 0, I 0] false)] 57) ?_
        refine co 27 [] (h126 p3 0 3) (fun x4 => ?_)
        refine se (mkE [(1, I p1), (2, I p2), (3, I p3), (4, .ba 32 0), (8, .ba 64 0), (28, B x4)] [(32, .box [I p0.f0, I p0.f1, I p0.f2, I p0.f3] false), (64, .box [I 0, I 0, I 0, I 0] false)] 57) ?_
        refine pN ?_
        refine pS ?_
        refine gC 28 x4 ?_ ?_
        · refine gS 0 ?_
          refine gR 5 (rg Try.f37 5) ?_
          refine se (mkE [(8, .ba 64 0), (9, I 1)] [(64, .box [I 0, I 0, I 0, I 0] false)] 57) ?_
          refine pN ?_
          refine pS ?_
          refine gE ?_
          exact pL
        · refine gK ?_
          refine pN ?_
          refine pS ?_
          refine gS 8 ?_
          refine gS 0 ?_
          refine gR 6 (rg Try.f37 6) ?_
          refine sg 3 (mkE [(32, I p2), (31, I p1), (30, a63 p0), (1, I p1), (2, I p2), (3, I p3), (4, .ba 32 0), (8, .ba 64 0), (28, B x4)] [(32, .box [I p0.f0, I p0.f1, I p0.f2, I p0.f3] false), (64, .box [I 0, I 0, I 0, I 0] false)] 57) ?_
          refine co 33 [] (h127 p0 p1 p2) (fun x5 => ?_)
          refine se (mkE [(1, I p1), (2, I p2), (3, I p3), (4, .ba 32 0), (8, .ba 64 0), (34, B (!x5))] [(32, .box [I p0.f0, I p0.f1, I p0.f2, I p0.f3] false), (64, .box [I 0, I 0, I 0, I 0] false)] 57) ?_
          refine pN ?_
          refine pS ?_
          refine gC 34 (!x5) ?_ ?_
          · refine gS 0 ?_
            refine gR 7 (rg Try.f37 7) ?_
            refine se (mkE [(8, .ba 64 0), (9, I 3)] [(64, .box [I 0, I 0, I 0, I 0] false)] 57) ?_
            refine pN ?_
            refine pS ?_
            refine gE ?_
            exact pL
          · refine gK ?_
            refine pN ?_
            refine pS ?_
            refine gS 13 ?_
            refine gS 9 ?_
            refine gR 8 (rg Try.f37 8) ?_
            refine se (mkE [(1, I p1), (2, I p2), (4, .ba 32 0), (8, .ba 64 0), (36, I p3), (37, I 0)] [(32, .box [I p0.f0, I p0.f1, I p0.f2, I p0.f3] false), (64, .box [I 0, I 0, I 0, I 0] false)] 57) ?_
            refine pN ?_
            refine pS ?_
            refine gB 0 ?_
            refine lo [(1, none), (2, none), (4, none), (8, none), (36, none), (37, none)] [] (L37_9 p3) (fun z0 : (Int × Int × Int × Int × Int × Int × Int) => (mkE [(1, I z0.1), (2, I z0.2.1), (4, .ba 32 0), (8, .ba 64 0), (36, I p3), (37, I z0.2.2.2.2.2.2)] [(32, .box [I z0.2.2.1, I z0.2.2.2.1, I z0.2.2.2.2.1, I z0.2.2.2.2.2.1] false), (64, .box [I 0, I 0, I 0, I 0] false)] 57)) (fun (x : (Int × Int × Int × Bool × Int × Int × Int × Int)) => (.exit 0, (mkE [(1, I x.1), (2, I x.2.1), (4, .ba 32 0), (8, .ba 64 0), (36, I p3), (37, I x.2.2.1), (38, B x.2.2.2.1)] [(32, .box [I x.2.2.2.2.1, I x.2.2.2.2.2.1, I x.2.2.2.2.2.2.1, I x.2.2.2.2.2.2.2] false), (64, .box [I 0, I 0, I 0, I 0] false)] 57))) (p1, p2, p0.f0, p0.f1, p0.f2, p0.f3, 0) (fun z => L37_9_ok C p3 z) ?_
            intro y6
            refine pH ?_
            refine pN ?_
            refine pS ?_
            refine gS 0 ?_
            refine gR 13 (rg Try.f37 13) ?_
            refine se (mkE [(8, .ba 64 0), (9, I 0)] [(64, .box [I y6.2.2.2.2.1, I y6.2.2.2.2.2.1, I y6.2.2.2.2.2.2.1, I y6.2.2.2.2.2.2.2] false)] 57) ?_
            refine pN ?_
            refine pS ?_
            refine gE ?_
            exact pL
theorem F37 (m : Nat) (hm : 3 ≤ m) (p0 : S63) (p1 : Int) (p2 : Int) (p3 : Int) : callA Try.prog cfg m 37 [a63 p0, I p1, I p2, I p3] = (T37 p0 p1 p2 p3).map (fun r => AV.tup [a63 r.1, I r.2]) := by
  obtain ⟨q, rfl⟩ : ∃ q, m = q + 1 := ⟨m - 1, by omega⟩
  exact (callA_body (fn := Try.f37) (c := body_ Try.f37) q _ (by kernel_rfl) (by kernel_rfl) (by kernel_rfl)).trans (B37 _ (fun p0 => F117 q (by omega) p0) (fun p0 => F125 q (by omega) p0) (fun p0 p1 p2 => F126 q (by omega) p0 p1 p2) (fun p0 p1 p2 => F127 q (by omega) p0 p1 p2) p0 p1 p2 p3)

noncomputable def L128_2 (p0 : (List Int)) (z0 : Int) : Option (Int ⊕ ((Int × Bool) ⊕ Unit)) := (bif (ltI z0 (lenL p0)) then ((listAt p0 z0).bind fun x1 => ((T125 x1).bind fun x2 => (bif (!x2) then (some (.inr (.inr ()))) else (some (.inl (addI .i64 z0 1)))))) else (some (.inr (.inl (z0, (ltI z0 (lenL p0)))))))
theorem L128_2_ok (C : Callee) (h125 : ∀ (p0 : Int), C 125 [I p0] = (T125 p0).map B) (p0 : (List Int)) (z0 : Int) : runs Try.prog C (cfg.fn 128) (finLoop ((cfg.fn 128).keep 2) ((cfg.fn 128).al 2)) [] (execA Try.prog C (cfg.fn 128) (nr Try.f128 [false, false, true, false, true]) ((fun z0 : Int => (mkE [(5, LL I p0), (6, I (lenL p0)), (7, I z0)] [] 15)) z0)) = (L128_2 p0 z0).map (Sum.elim (fun z => .inl ((fun z0 : Int => (mkE [(5, LL I p0), (6, I (lenL p0)), (7, I z0)] [] 15)) z)) (fun x => .inr ((Sum.elim (fun (x : (Int × Bool)) => (.exit 0, (mkE [(5, LL I p0), (6, I (lenL p0)), (7, I x.1), (8, B x.2)] [] 15))) (fun (x : Unit) => (.ret, (mkE [(2, I 1)] [] 15)))) x))) := by
  unfold L128_2
  refine gS 0 ?_
  refine gR 2 (rg Try.f128 2) ?_
  refine se (mkE [(5, LL I p0), (6, I (lenL p0)), (7, I z0), (8, B (ltI z0 (lenL p0)))] [] 15) ?_
  refine pN ?_
  refine pS ?_
  refine gS 3 ?_
  refine gC 8 (ltI z0 (lenL p0)) ?_ ?_
  · refine gK ?_
    refine pN ?_
    refine pS ?_
    refine gS 6 ?_
    refine gB 1 ?_
    refine gS 4 ?_
    refine gR 3 (rg Try.f128 3) ?_
    refine vo 9 (addrE 104 3 1 I .i64 p0 z0) (fun x1 => ?_)
    refine se (mkE [(4, I x1), (5, LL I p0), (6, I (lenL p0)), (7, I z0)] [] 15) ?_
    refine pN ?_
    refine pS ?_
    refine gS 0 ?_
    refine gR 4 (rg Try.f128 4) ?_
    refine sg 1 (mkE [(11, I x1), (4, I x1), (5, LL I p0), (6, I (lenL p0)), (7, I z0)] [] 15) ?_
    refine co 12 [] (h125 x1) (fun x2 => ?_)
    refine se (mkE [(5, LL I p0), (6, I (lenL p0)), (7, I z0), (13, B (!x2))] [] 15) ?_
    refine pN ?_
    refine pS ?_
    refine gC 13 (!x2) ?_ ?_
    · refine gS 0 ?_
      refine gR 5 (rg Try.f128 5) ?_
      refine se (mkE [(2, I 1)] [] 15) ?_
      refine pN ?_
      refine pS ?_
      refine gE ?_
      exact pL
    · refine gK ?_
      refine pB ?_
      refine pN ?_
      refine pS ?_
      refine gR 6 (rg Try.f128 6) ?_
      refine se (mkE [(5, LL I p0), (6, I (lenL p0)), (7, I (addI .i64 z0 1))] [] 15) ?_
      exact pL
  · refine gX 0 ?_
    exact pL
noncomputable def T128 (p0 : (List Int)) : Option Int := ((iter (L128_2 p0) 0).bind fun y3 => (Sum.elim (fun y3a => (some 0)) (fun y3b => (some 1)) y3))
theorem B128 (C : Callee) (h125 : ∀ (p0 : Int), C 125 [I p0] = (T125 p0).map B) (p0 : (List Int)) : runs Try.prog C (cfg.fn 128) (finFn Try.prog (cfg.fn 128).byval Try.f128) [] (execA Try.prog C (cfg.fn 128) (nr Try.f128 []) (frame0 [LL I p0] 15 false)) = (T128 p0).map I := by
  unfold T128
  refine gS 1 ?_
  refine gR 0 (rg Try.f128 0) ?_
  refine se (mkE [(0, LL I p0)] [] 15) ?_
  refine pN ?_
  refine pS ?_
  refine gS 7 ?_
  refine gS 2 ?_
  refine gR 1 (rg Try.f128 1) ?_
  refine sg 1 (mkE [(5, LL I p0), (0, LL I p0)] [] 15) ?_
  refine eo 6 (I (lenL p0)) (lenE 104 I p0) ?_
  refine se (mkE [(5, LL I p0), (6, I (lenL p0)), (7, I 0)] [] 15) ?_
  refine pN ?_
  refine pS ?_
  refine gB 0 ?_
  refine lo [(5, none), (6, none), (7, none)] [] (L128_2 p0) (fun z0 : Int => (mkE [(5, LL I p0), (6, I (lenL p0)), (7, I z0)] [] 15)) (Sum.elim (fun (x : (Int × Bool)) => (.exit 0, (mkE [(5, LL I p0), (6, I (lenL p0)), (7, I x.1), (8, B x.2)] [] 15))) (fun (x : Unit) => (.ret, (mkE [(2, I 1)] [] 15)))) 0 (fun z => L128_2_ok C h125 p0 z) ?_
  intro y3
  refine ss y3 (Z := (Sum.elim (fun (x : (Int × Bool)) => (.exit 0, (mkE [(5, LL I p0), (6, I (lenL p0)), (7, I x.1), (8, B x.2)] [] 15))) (fun (x : Unit) => (.ret, (mkE [(2, I 1)] [] 15))))) (fun y3a => ?_) (fun y3b => ?_)
  · refine pH ?_
    refine pN ?_
    refine pS ?_
    refine gS 0 ?_
    refine gR 7 (rg Try.f128 7) ?_
    refine se (mkE [(2, I 0)] [] 15) ?_
    refine pN ?_
    refine pS ?_
    refine gE ?_
    exact pL
  · exact pL
theorem F128 (m : Nat) (hm : 3 ≤ m) (p0 : (List Int)) : callA Try.prog cfg m 128 [LL I p0] = (T128 p0).map I := by
  obtain ⟨q, rfl⟩ : ∃ q, m = q + 1 := ⟨m - 1, by omega⟩
  exact (callA_body (fn := Try.f128) (c := body_ Try.f128) q _ (by kernel_rfl) (by kernel_rfl) (by kernel_rfl)).trans (B128 _ (fun p0 => F125 q (by omega) p0) p0)

noncomputable def T129 (p0 : S63) (p1 : Int) (p2 : Int) (p3 : Int) (p4 : Int) : Option S63 := ((quoO .i64 (mulI .i64 p0.f0 p3) p1).bind fun x1 => ((quoO .i64 (mulI .i64 p0.f1 p4) p2).bind fun x2 => ((quoO .i64 (mulI .i64 (addI .i64 p0.f0 p0.f2) p3) p1).bind fun x3 => ((quoO .i64 (mulI .i64 (addI .i64 p0.f1 p0.f3) p4) p2).bind fun x4 => (bif (eqI (subI .i64 x3 x1) 0) then (some (S63.mk 0 0 0 0)) else (bif (eqI (subI .i64 x4 x2) 0) then (some (S63.mk 0 0 0 0)) else (some (S63.mk x1 x2 (subI .i64 x3 x1) (subI .i64 x4 x2)))))))))
theorem B129 (C : Callee) (p0 : S63) (p1 : Int) (p2 : Int) (p3 : Int) (p4 : Int) : runs Try.prog C (cfg.fn 129) (finFn Try.prog (cfg.fn 129).byval Try.f129) [] (execA Try.prog C (cfg.fn 129) (nr Try.f129 []) (frame0 [a63 p0, I p1, I p2, I p3, I p4] 61 false)) = (T129 p0 p1 p2 p3 p4).map a63 := by
  unfold T129
  refine gS 1 ?_
  refine gR 0 (rg Try.f129 0) ?_
  refine se (mkE [(1, I p1), (2, I p2), (3, I p3), (4, I p4), (5, .ba 40 0), (10, .ba 80 0)] [(40, .box [I p0.f0, I p0.f1, I p0.f2, I p0.f3] false), (80, .box [I 0, I 0, I 0, I 0] false)] 61) ?_
  refine pN ?_
  refine pS ?_
  refine gS 2 ?_
  refine gD 1 14 (rg Try.f129 1) [0, 1, 2, 3, 4, 5, 6, 7, 8, 9, 10, 11, 12, 13] ?_
  refine dg 5 [(some 14, qe (.ba 40 0)), (some 15, qe (I p0.f0)), (some 16, qe (I p3)), (some 17, qe (I (mulI .i64 p0.f0 p3))), (some 18, qe (I p1))] ?_
  refine dv 19 (mkE [(18, I p1), (17, I (mulI .i64 p0.f0 p3)), (16, I p3), (15, I p0.f0), (14, .ba 40 0), (1, I p1), (2, I p2), (3, I p3), (4, I p4), (5, .ba 40 0), (10, .ba 80 0)] [(40, .box [I p0.f0, I p0.f1, I p0.f2, I p0.f3] false), (80, .box [I 0, I 0, I 0, I 0] false)] 61) (quoE 3 .i64 (.tmp 17) (.tmp 18) (mulI .i64 p0.f0 p3) p1) (fun x1 => ?_)
  refine dg 11 [(some 14, qe (.ba 40 0)), (some 15, qe (I p0.f0)), (some 16, qe (I p3)), (some 17, qe (I (mulI .i64 p0.f0 p3))), (some 18, qe (I p1)), (some 19, qe (I x1)), (some 20, qe (.ba 40 1)), (some 21, qe (I p0.f1)), (some 22, qe (I p4)), (some 23, qe (I (mulI .i64 p0.f1 p4))), (some 24, qe (I p2))] ?_
  refine dv 25 (mkE [(24, I p2), (23, I (mulI .i64 p0.f1 p4)), (22, I p4), (21, I p0.f1), (20, .ba 40 1), (1, I p1), (2, I p2), (3, I p3), (4, I p4), (5, .ba 40 0), (10, .ba 80 0)] [(40, .box [I p0.f0, I p0.f1, I p0.f2, I p0.f3] false), (80, .box [I 0, I 0, I 0, I 0] false)] 61) (quoE 3 .i64 (.tmp 23) (.tmp 24) (mulI .i64 p0.f1 p4) p2) (fun x2 => ?_)
  refine dg 14 [(some 14, qe (.ba 40 0)), (some 15, qe (I p0.f0)), (some 16, qe (I p3)), (some 17, qe (I (mulI .i64 p0.f0 p3))), (some 18, qe (I p1)), (some 19, qe (I x1)), (some 20, qe (.ba 40 1)), (some 21, qe (I p0.f1)), (some 22, qe (I p4)), (some 23, qe (I (mulI .i64 p0.f1 p4))), (some 24, qe (I p2)), (some 25, qe (I x2)), (some 11, qe (I x1)), (some 12, qe (I x2))] ?_
  refine de (mkE [(12, I x2), (11, I x1), (25, I x2), (24, I p2), (23, I (mulI .i64 p0.f1 p4)), (22, I p4), (21, I p0.f1), (20, .ba 40 1), (19, I x1), (18, I p1), (17, I (mulI .i64 p0.f0 p3)), (16, I p3), (15, I p0.f0), (14, .ba 40 0), (1, I p1), (2, I p2), (3, I p3), (4, I p4), (5, .ba 40 0), (10, .ba 80 0)] [(40, .box [I p0.f0, I p0.f1, I p0.f2, I p0.f3] false), (80, .box [I 0, I 0, I 0, I 0] false)] 61) ?_
  refine se (mkE [(1, I p1), (2, I p2), (3, I p3), (4, I p4), (5, .ba 40 0), (10, .ba 80 0), (11, I x1), (12, I x2)] [(40, .box [I p0.f0, I p0.f1, I p0.f2, I p0.f3] false), (80, .box [I 0, I 0, I 0, I 0] false)] 61) ?_
  refine pN ?_
  refine pS ?_
  refine gS 3 ?_
  refine gD 2 26 (rg Try.f129 2) [0, 1, 2, 3, 4, 5, 6, 7, 8, 9, 10, 11, 12, 13, 14, 15, 16, 17, 18, 19, 20, 21, 22, 23, 24, 25, 26] ?_
  refine dg 10 [(some 26, qe (I x1)), (some 27, qe (I x2)), (some 28, qe (.ba 40 0)), (some 29, qe (I p0.f0)), (some 30, qe (.ba 40 2)), (some 31, qe (I p0.f2)), (some 32, qe (I (addI .i64 p0.f0 p0.f2))), (some 33, qe (I p3)), (some 34, qe (I (mulI .i64 (addI .i64 p0.f0 p0.f2) p3))), (some 35, qe (I p1))] ?_
  refine dv 36 (mkE [(35, I p1), (34, I (mulI .i64 (addI .i64 p0.f0 p0.f2) p3)), (33, I p3), (32, I (addI .i64 p0.f0 p0.f2)), (31, I p0.f2), (30, .ba 40 2), (29, I p0.f0), (28, .ba 40 0), (1, I p1), (2, I p2), (3, I p3), (4, I p4), (5, .ba 40 0), (10, .ba 80 0), (11, I x1), (12, I x2)] [(40, .box [I p0.f0, I p0.f1, I p0.f2, I p0.f3] false), (80, .box [I 0, I 0, I 0, I 0] false)] 61) (quoE 3 .i64 (.tmp 34) (.tmp 35) (mulI .i64 (addI .i64 p0.f0 p0.f2) p3) p1) (fun x3 => ?_)
  refine dg 21 [(some 26, qe (I x1)), (some 27, qe (I x2)), (some 28, qe (.ba 40 0)), (some 29, qe (I p0.f0)), (some 30, qe (.ba 40 2)), (some 31, qe (I p0.f2)), (some 32, qe (I (addI .i64 p0.f0 p0.f2))), (some 33, qe (I p3)), (some 34, qe (I (mulI .i64 (addI .i64 p0.f0 p0.f2) p3))), (some 35, qe (I p1)), (some 36, qe (I x3)), (some 37, qe (I x1)), (some 38, qe (I (subI .i64 x3 x1))), (some 39, qe (.ba 40 1)), (some 40, qe (I p0.f1)), (some 41, qe (.ba 40 3)), (some 42, qe (I p0.f3)), (some 43, qe (I (addI .i64 p0.f1 p0.f3))), (some 44, qe (I p4)), (some 45, qe (I (mulI .i64 (addI .i64 p0.f1 p0.f3) p4))), (some 46, qe (I p2))] ?_
  refine dv 47 (mkE [(46, I p2), (45, I (mulI .i64 (addI .i64 p0.f1 p0.f3) p4)), (44, I p4), (43, I (addI .i64 p0.f1 p0.f3)), (42, I p0.f3), (41, .ba 40 3), (40, I p0.f1), (39, .ba 40 1), (1, I p1), (2, I p2), (3, I p3), (4, I p4), (5, .ba 40 0), (10, .ba 80 0), (11, I x1), (12, I x2)] [(40, .box [I p0.f0, I p0.f1, I p0.f2, I p0.f3] false), (80, .box [I 0, I 0, I 0, I 0] false)] 61) (quoE 3 .i64 (.tmp 45) (.tmp 46) (mulI .i64 (addI .i64 p0.f1 p0.f3) p4) p2) (fun x4 => ?_)
  refine dg 26 [(some 26, qe (I x1)), (some 27, qe (I x2)), (some 28, qe (.ba 40 0)), (some 29, qe (I p0.f0)), (some 30, qe (.ba 40 2)), (some 31, qe (I p0.f2)), (some 32, qe (I (addI .i64 p0.f0 p0.f2))), (some 33, qe (I p3)), (some 34, qe (I (mulI .i64 (addI .i64 p0.f0 p0.f2) p3))), (some 35, qe (I p1)), (some 36, qe (I x3)), (some 37, qe (I x1)), (some 38, qe (I (subI .i64 x3 x1))), (some 39, qe (.ba 40 1)), (some 40, qe (I p0.f1)), (some 41, qe (.ba 40 3)), (some 42, qe (I p0.f3)), (some 43, qe (I (addI .i64 p0.f1 p0.f3))), (some 44, qe (I p4)), (some 45, qe (I (mulI .i64 (addI .i64 p0.f1 p0.f3) p4))), (some 46, qe (I p2)), (some 47, qe (I x4)), (some 48, qe (I x2)), (some 49, qe (I (subI .i64 x4 x2))), (some 50, qe (.agg [I x1, I x2, I (subI .i64 x3 x1), I (subI .i64 x4 x2)])), (some 13, { e := { val := .ba 104 0, news := [(104, .box [I 0, I 0, I 0, I 0] false)] } })] ?_
  refine de (mkE [(13, .ba 104 0), (50, .agg [I x1, I x2, I (subI .i64 x3 x1), I (subI .i64 x4 x2)]), (49, I (subI .i64 x4 x2)), (48, I x2), (47, I x4), (46, I p2), (45, I (mulI .i64 (addI .i64 p0.f1 p0.f3) p4)), (44, I p4), (43, I (addI .i64 p0.f1 p0.f3)), (42, I p0.f3), (41, .ba 40 3), (40, I p0.f1), (39, .ba 40 1), (38, I (subI .i64 x3 x1)), (37, I x1), (36, I x3), (35, I p1), (34, I (mulI .i64 (addI .i64 p0.f0 p0.f2) p3)), (33, I p3), (32, I (addI .i64 p0.f0 p0.f2)), (31, I p0.f2), (30, .ba 40 2), (29, I p0.f0), (28, .ba 40 0), (27, I x2), (26, I x1), (1, I p1), (2, I p2), (3, I p3), (4, I p4), (5, .ba 40 0), (10, .ba 80 0), (11, I x1), (12, I x2)] [(104, .box [I 0, I 0, I 0, I 0] false), (40, .box [I p0.f0, I p0.f1, I p0.f2, I p0.f3] false), (80, .box [I 0, I 0, I 0, I 0] false)] 61) ?_
  refine se (mkE [(10, .ba 80 0), (13, .ba 104 0)] [(80, .box [I 0, I 0, I 0, I 0] false), (104, .box [I x1, I x2, I (subI .i64 x3 x1), I (subI .i64 x4 x2)] false)] 61) ?_
  refine pN ?_
  refine pS ?_
  refine gS 5 ?_
  refine gS 0 ?_
  refine gR 3 (rg Try.f129 3) ?_
  refine sg 4 (mkE [(54, B (eqI (subI .i64 x3 x1) 0)), (53, B (eqI (subI .i64 x3 x1) 0)), (52, I (subI .i64 x3 x1)), (51, .ba 104 2), (10, .ba 80 0), (13, .ba 104 0)] [(80, .box [I 0, I 0, I 0, I 0] false), (104, .box [I x1, I x2, I (subI .i64 x3 x1), I (subI .i64 x4 x2)] false)] 61) ?_
  refine sb 54 (eqI (subI .i64 x3 x1) 0) ?_ ?_
  · refine se (mkE [(10, .ba 80 0), (13, .ba 104 0), (58, B true)] [(80, .box [I 0, I 0, I 0, I 0] false), (104, .box [I x1, I x2, I (subI .i64 x3 x1), I (subI .i64 x4 x2)] false)] 61) ?_
    refine pN ?_
    refine pS ?_
    refine gT (.tmp 58) ?_
    refine gS 0 ?_
    refine gR 4 (rg Try.f129 4) ?_
    refine se (mkE [(10, .ba 80 0)] [(80, .box [I 0, I 0, I 0, I 0] false)] 61) ?_
    refine pN ?_
    refine pS ?_
    refine gE ?_
    exact pL
  · refine se (mkE [(10, .ba 80 0), (13, .ba 104 0), (58, B (eqI (subI .i64 x4 x2) 0))] [(80, .box [I 0, I 0, I 0, I 0] false), (104, .box [I x1, I x2, I (subI .i64 x3 x1), I (subI .i64 x4 x2)] false)] 61) ?_
    refine pN ?_
    refine pS ?_
    refine gC 58 (eqI (subI .i64 x4 x2) 0) ?_ ?_
    · refine gS 0 ?_
      refine gR 4 (rg Try.f129 4) ?_
      refine se (mkE [(10, .ba 80 0)] [(80, .box [I 0, I 0, I 0, I 0] false)] 61) ?_
      refine pN ?_
      refine pS ?_
      refine gE ?_
      exact pL
    · refine gK ?_
      refine pN ?_
      refine pS ?_
      refine gS 0 ?_
      refine gR 5 (rg Try.f129 5) ?_
      refine se (mkE [(10, .ba 80 0)] [(80, .box [I x1, I x2, I (subI .i64 x3 x1), I (subI .i64 x4 x2)] false)] 61) ?_
      refine pN ?_
      refine pS ?_
      refine gE ?_
      exact pL
theorem F129 (m : Nat) (hm : 1 ≤ m) (p0 : S63) (p1 : Int) (p2 : Int) (p3 : Int) (p4 : Int) : callA Try.prog cfg m 129 [a63 p0, I p1, I p2, I p3, I p4] = (T129 p0 p1 p2 p3 p4).map a63 := by
  obtain ⟨q, rfl⟩ : ∃ q, m = q + 1 := ⟨m - 1, by omega⟩
  exact (callA_body (fn := Try.f129) (c := body_ Try.f129) q _ (by kernel_rfl) (by kernel_rfl) (by kernel_rfl)).trans (B129 _ p0 p1 p2 p3 p4)

noncomputable def T38 (p0 : S63) (p1 : Int) (p2 : Int) (p3 : Int) (p4 : Int) : Option (S63 × Int) := ((T117 p0).bind fun x1 => (bif (neI x1 0) then (some ((S63.mk 0 0 0 0), x1)) else ((T128 ([p1, p2, p3, p4] : List Int)).bind fun x2 => (bif (neI x2 0) then (some ((S63.mk 0 0 0 0), x2)) else ((T127 p0 p1 p2).bind fun x3 => (bif (!x3) then (some ((S63.mk 0 0 0 0), 3)) else ((T129 p0 p1 p2 p3 p4).bind fun x4 => (some (x4, 0)))))))))
theorem B38 (C : Callee) (h117 : ∀ (p0 : S63), C 117 [a63 p0] = (T117 p0).map I) (h127 : ∀ (p0 : S63) (p1 : Int) (p2 : Int), C 127 [a63 p0, I p1, I p2] = (T127 p0 p1 p2).map B) (h128 : ∀ (p0 : (List Int)), C 128 [LL I p0] = (T128 p0).map I) (h129 : ∀ (p0 : S63) (p1 : Int) (p2 : Int) (p3 : Int) (p4 : Int), C 129 [a63 p0, I p1, I p2, I p3, I p4] = (T129 p0 p1 p2 p3 p4).map a63) (p0 : S63) (p1 : Int) (p2 : Int) (p3 : Int) (p4 : Int) : runs Try.prog C (cfg.fn 38) (finFn Try.prog (cfg.fn 38).byval Try.f38) [] (execA Try.prog C (cfg.fn 38) (nr Try.f38 []) (frame0 [a63 p0, I p1, I p2, I p3, I p4] 42 false)) = (T38 p0 p1 p2 p3 p4).map (fun r => AV.tup [a63 r.1, I r.2]) := by
  unfold T38
  refine gS 1 ?_
  refine gR 0 (rg Try.f38 0) ?_
  refine se (mkE [(1, I p1), (2, I p2), (3, I p3), (4, I p4), (5, .ba 40 0), (10, .ba 80 0)] [(40, .box [I p0.f0, I p0.f1, I p0.f2, I p0.f3] false), (80, .box [I 0, I 0, I 0, I 0] false)] 42) ?_
  refine pN ?_
  refine pS ?_
  refine gS 4 ?_
  refine gS 2 ?_
  refine gR 1 (rg Try.f38 1) ?_
  refine sg 1 (mkE [(14, a63 p0), (1, I p1), (2, I p2), (3, I p3), (4, I p4), (5, .ba 40 0), (10, .ba 80 0)] [(40, .box [I p0.f0, I p0.f1, I p0.f2, I p0.f3] false), (80, .box [I 0, I 0, I 0, I 0] false)] 42) ?_
  refine co 15 [] (h117 p0) (fun x1 => ?_)
  refine se (mkE [(1, I p1), (2, I p2), (3, I p3), (4, I p4), (5, .ba 40 0), (10, .ba 80 0), (12, I x1)] [(40, .box [I p0.f0, I p0.f1, I p0.f2, I p0.f3] false), (80, .box [I 0, I 0, I 0, I 0] false)] 42) ?_
  refine pN ?_
  refine pS ?_
  refine gS 0 ?_
  refine gR 2 (rg Try.f38 2) ?_
  refine se (mkE [(1, I p1), (2, I p2), (3, I p3), (4, I p4), (5, .ba 40 0), (10, .ba 80 0), (12, I x1), (17, B (neI x1 0))] [(40, .box [I p0.f0, I p0.f1, I p0.f2, I p0.f3] false), (80, .box [I 0, I 0, I 0, I 0] false)] 42) ?_
  refine pN ?_
  refine pS ?_
  refine gC 17 (neI x1 0) ?_ ?_
  · refine gS 0 ?_
    refine gR 3 (rg Try.f38 3) ?_
    refine se (mkE [(10, .ba 80 0), (11, I x1)] [(80, .box [I 0, I 0, I 0, I 0] false)] 42) ?_
    refine pN ?_
    refine pS ?_
    refine gE ?_
    exact pL
  · refine gK ?_
    refine pN ?_
    refine pS ?_
    refine gS 7 ?_
    refine gS 5 ?_
    refine gR 4 (rg Try.f38 4) ?_
    refine sg 5 (mkE [(24, .own 192 0), (23, I p4), (22, I p3), (21, I p2), (20, I p1), (1, I p1), (2, I p2), (3, I p3), (4, I p4), (5, .ba 40 0), (10, .ba 80 0), (12, I x1), (17, B (neI x1 0))] [(192, RR 3 1 I ([p1, p2, p3, p4] : List Int) 0 false), (40, .box [I p0.f0, I p0.f1, I p0.f2, I p0.f3] false), (80, .box [I 0, I 0, I 0, I 0] false)] 42) ?_
    refine co 25 [192] (h128 ([p1, p2, p3, p4] : List Int)) (fun x2 => ?_)
    refine se (mkE [(1, I p1), (2, I p2), (3, I p3), (4, I p4), (5, .ba 40 0), (10, .ba 80 0), (13, I x2)] [(40, .box [I p0.f0, I p0.f1, I p0.f2, I p0.f3] false), (80, .box [I 0, I 0, I 0, I 0] false)] 42) ?_
    refine pN ?_
    refine pS ?_
    refine gS 0 ?_
    refine gR 5 (rg Try.f38 5) ?_
    refine se (mkE [(1, I p1), (2, I p2), (3, I p3), (4, I p4), (5, .ba 40 0), (10, .ba 80 0), (13, I x2), (27, B (neI x2 0))] [(40, .box [I p0.f0, I p0.f1, I p0.f2, I p0.f3] false), (80, .box [I 0, I 0, I 0, I 0] false)] 42) ?_
    refine pN ?_
    refine pS ?_
    refine gC 27 (neI x2 0) ?_ ?_
    · refine gS 0 ?_
      refine gR 6 (rg Try.f38 6) ?_
      refine se (mkE [(10, .ba 80 0), (11, I x2)] [(80, .box [I 0, I 0, I 0, I 0] false)] 42) ?_
      refine pN ?_
      refine pS ?_
      refine gE ?_
      exact pL
    · refine gK ?_
      refine pN ?_
      refine pS ?_
      refine gS 9 ?_
      refine gS 0 ?_
      refine gR 7 (rg Try.f38 7) ?_
      refine sg 3 (mkE [(32, I p2), (31, I p1), (30, a63 p0), (1, I p1), (2, I p2), (3, I p3), (4, I p4), (5, .ba 40 0), (10, .ba 80 0), (13, I x2), (27, B (neI x2 0))] [(40, .box [I p0.f0, I p0.f1, I p0.f2, I p0.f3] false), (80, .box [I 0, I 0, I 0, I 0] false)] 42) ?_
      refine co 33 [] (h127 p0 p1 p2) (fun x3 => ?_)
      refine se (mkE [(1, I p1), (2, I p2), (3, I p3), (4, I p4), (5, .ba 40 0), (10, .ba 80 0), (34, B (!x3))] [(40, .box [I p0.f0, I p0.f1, I p0.f2, I p0.f3] false), (80, .box [I 0, I 0, I 0, I 0] false)] 42) ?_
      refine pN ?_
      refine pS ?_
      refine gC 34 (!x3) ?_ ?_
      · refine gS 0 ?_
        refine gR 8 (rg Try.f38 8) ?_
        refine se (mkE [(10, .ba 80 0), (11, I 3)] [(80, .box [I 0, I 0, I 0, I 0] false)] 42) ?_
        refine pN ?_
        refine pS ?_
        refine gE ?_
        exact pL
      · refine gK ?_
        refine pN ?_
        refine pS ?_
        refine gS 0 ?_
        refine gR 9 (rg Try.f38 9) ?_
        refine sg 5 (mkE [(40, I p4), (39, I p3), (38, I p2), (37, I p1), (36, a63 p0), (1, I p1), (2, I p2), (3, I p3), (4, I p4), (5, .ba 40 0), (10, .ba 80 0), (34, B (!x3))] [(40, .box [I p0.f0, I p0.f1, I p0.f2, I p0.f3] false), (80, .box [I 0, I 0, I 0, I 0] false)] 42) ?_
        refine co 41 [] (h129 p0 p1 p2 p3 p4) (fun x4 => ?_)
        refine se (mkE [(10, .ba 80 0), (11, I 0)] [(80, .box [I x4.f0, I x4.f1, I x4.f2, I x4.f3] false)] 42) ?_
        refine pN ?_
        refine pS ?_
        refine gE ?_
        exact pL
theorem F38 (m : Nat) (hm : 4 ≤ m) (p0 : S63) (p1 : Int) (p2 : Int) (p3 : Int) (p4 : Int) : callA Try.prog cfg m 38 [a63 p0, I p1, I p2, I p3, I p4] = (T38 p0 p1 p2 p3 p4).map (fun r => AV.tup [a63 r.1, I r.2]) := by
  obtain ⟨q, rfl⟩ : ∃ q, m = q + 1 := ⟨m - 1, by omega⟩
  exact (callA_body (fn := Try.f38) (c := body_ Try.f38) q _ (by kernel_rfl) (by kernel_rfl) (by kernel_rfl)).trans (B38 _ (fun p0 => F117 q (by omega) p0) (fun p0 p1 p2 => F127 q (by omega) p0 p1 p2) (fun p0 => F128 q (by omega) p0) (fun p0 p1 p2 p3 p4 => F129 q (by omega) p0 p1 p2 p3 p4) p0 p1 p2 p3 p4)

noncomputable def T130 (p0 : Int) (p1 : Int) (p2 : Int) (p3 : Int) : Option S63 := (some (S63.mk (quoI .i64 (subI .i64 p2 p0) 2) (quoI .i64 (subI .i64 p3 p1) 2) p0 p1))
theorem B130 (C : Callee) (p0 : Int) (p1 : Int) (p2 : Int) (p3 : Int) : runs Try.prog C (cfg.fn 130) (finFn Try.prog (cfg.fn 130).byval Try.f130) [] (execA Try.prog C (cfg.fn 130) (nr Try.f130 []) (frame0 [I p0, I p1, I p2, I p3] 20 false)) = (T130 p0 p1 p2 p3).map a63 := by
  unfold T130
  refine gS 1 ?_
  refine gR 0 (rg Try.f130 0) ?_
  refine se (mkE [(0, I p0), (1, I p1), (2, I p2), (3, I p3), (8, .ba 64 0)] [(64, .box [I 0, I 0, I 0, I 0] false)] 20) ?_
  refine pN ?_
  refine pS ?_
  refine gS 0 ?_
  refine gR 1 (rg Try.f130 1) ?_
  refine se (mkE [(8, .ba 64 0)] [(64, .box [I (quoI .i64 (subI .i64 p2 p0) 2), I (quoI .i64 (subI .i64 p3 p1) 2), I p0, I p1] false)] 20) ?_
  refine pN ?_
  refine pS ?_
  refine gE ?_
  exact pL
theorem F130 (m : Nat) (hm : 1 ≤ m) (p0 : Int) (p1 : Int) (p2 : Int) (p3 : Int) : callA Try.prog cfg m 130 [I p0, I p1, I p2, I p3] = (T130 p0 p1 p2 p3).map a63 := by
  obtain ⟨q, rfl⟩ : ∃ q, m = q + 1 := ⟨m - 1, by omega⟩
  exact (callA_body (fn := Try.f130) (c := body_ Try.f130) q _ (by kernel_rfl) (by kernel_rfl) (by kernel_rfl)).trans (B130 _ p0 p1 p2 p3)

noncomputable def T39 (p0 : Int) (p1 : Int) (p2 : Int) (p3 : Int) (p4 : Int) : Option (S63 × S63 × Int) := ((T128 ([p0, p1, p2, p3] : List Int)).bind fun x1 => (bif (neI x1 0) then (some ((S63.mk 0 0 0 0), (S63.mk 0 0 0 0), x1)) else (((bif (eqI p4 1) then (some (.inl (0, 0, p0, p1, 0, 0, p2, p3))) else (bif (eqI p4 2) then (bif (leI (mulI .i64 p1 p2) (mulI .i64 p0 p3)) then ((quoO .i64 (mulI .i64 p1 p2) p0).bind fun x2 => ((T130 p2 (maxI 1 x2) p2 p3).bind fun x3 => (some (.inl (0, 0, p0, p1, x3.f0, x3.f1, x3.f2, x3.f3))))) else (bif (eqI p4 2) then ((quoO .i64 (mulI .i64 p0 p3) p1).bind fun x4 => ((T130 (maxI 1 x4) p3 p2 p3).bind fun x5 => (some (.inl (0, 0, p0, p1, x5.f0, x5.f1, x5.f2, x5.f3))))) else (bif (eqI p4 3) then (bif (leI (mulI .i64 p1 p2) (mulI .i64 p0 p3)) then ((quoO .i64 (mulI .i64 p1 p2) p3).bind fun x6 => ((T130 (maxI 1 x6) p1 p0 p1).bind fun x7 => (some (.inl (x7.f0, x7.f1, x7.f2, x7.f3, 0, 0, p2, p3))))) else (bif (eqI p4 3) then ((quoO .i64 (mulI .i64 p0 p3) p2).bind fun x8 => ((T130 p0 (maxI 1 x8) p0 p1).bind fun x9 => (some (.inl (x9.f0, x9.f1, x9.f2, x9.f3, 0, 0, p2, p3))))) else (some (.inr ())))) else (bif (eqI p4 3) then ((quoO .i64 (mulI .i64 p0 p3) p2).bind fun x10 => ((T130 p0 (maxI 1 x10) p0 p1).bind fun x11 => (some (.inl (x11.f0, x11.f1, x11.f2, x11.f3, 0, 0, p2, p3))))) else (some (.inr ())))))) else (bif (eqI p4 2) then ((quoO .i64 (mulI .i64 p0 p3) p1).bind fun x12 => ((T130 (maxI 1 x12) p3 p2 p3).bind fun x13 => (some (.inl (0, 0, p0, p1, x13.f0, x13.f1, x13.f2, x13.f3))))) else (bif (eqI p4 3) then (bif (leI (mulI .i64 p1 p2) (mulI .i64 p0 p3)) then ((quoO .i64 (mulI .i64 p1 p2) p3).bind fun x14 => ((T130 (maxI 1 x14) p1 p0 p1).bind fun x15 => (some (.inl (x15.f0, x15.f1, x15.f2, x15.f3, 0, 0, p2, p3))))) else (bif (eqI p4 3) then ((quoO .i64 (mulI .i64 p0 p3) p2).bind fun x16 => ((T130 p0 (maxI 1 x16) p0 p1).bind fun x17 => (some (.inl (x17.f0, x17.f1, x17.f2, x17.f3, 0, 0, p2, p3))))) else (some (.inr ())))) else (bif (eqI p4 3) then ((quoO .i64 (mulI .i64 p0 p3) p2).bind fun x18 => ((T130 p0 (maxI 1 x18) p0 p1).bind fun x19 => (some (.inl (x19.f0, x19.f1, x19.f2, x19.f3, 0, 0, p2, p3))))) else (some (.inr ()))))))) : Option ((Int × Int × Int × Int × Int × Int × Int × Int) ⊕ Unit)).bind fun y20 => (Sum.elim (fun y20a => (some ((S63.mk y20a.1 y20a.2.1 y20a.2.2.1 y20a.2.2.2.1), (S63.mk y20a.2.2.2.2.1 y20a.2.2.2.2.2.1 y20a.2.2.2.2.2.2.1 y20a.2.2.2.2.2.2.2), 0))) (fun y20b => (some ((S63.mk 0 0 0 0), (S63.mk 0 0 0 0), 4))) y20))))
theorem B39 (C : Callee) (h128 : ∀ (p0 : (List Int)), C 128 [LL I p0] = (T128 p0).map I) (h130 : ∀ (p0 : Int) (p1 : Int) (p2 : Int) (p3 : Int), C 130 [I p0, I p1, I p2, I p3] = (T130 p0 p1 p2 p3).map a63) (p0 : Int) (p1 : Int) (p2 : Int) (p3 : Int) (p4 : Int) : runs Try.prog C (cfg.fn 39) (finFn Try.prog (cfg.fn 39).byval Try.f39) [] (execA Try.prog C (cfg.fn 39) (nr Try.f39 []) (frame0 [I p0, I p1, I p2, I p3, I p4] 104 false)) = (T39 p0 p1 p2 p3 p4).map (fun r => AV.tup [a63 r.1, a63 r.2.1, I r.2.2]) := by
  unfold T39
  refine gS 1 ?_
  refine gR 0 (rg Try.f39 0) ?_
  refine se (mkE [(0, I p0), (1, I p1), (2, I p2), (3, I p3), (4, I p4), (10, .ba 80 0), (11, .ba 88 0)] [(80, .box [I 0, I 0, I 0, I 0] false), (88, .box [I 0, I 0, I 0, I 0] false)] 104) ?_
  refine pN ?_
  refine pS ?_
  refine gS 4 ?_
  refine gS 2 ?_
  refine gR 1 (rg Try.f39 1) ?_
  refine sg 5 (mkE [(19, .own 152 0), (18, I p3), (17, I p2), (16, I p1), (15, I p0), (0, I p0), (1, I p1), (2, I p2), (3, I p3), (4, I p4), (10, .ba 80 0), (11, .ba 88 0)] [(152, RR 3 1 I ([p0, p1, p2, p3] : List Int) 0 false), (80, .box [I 0, I 0, I 0, I 0] false), (88, .box [I 0, I 0, I 0, I 0] false)] 104) ?_
  refine co 20 [152] (h128 ([p0, p1, p2, p3] : List Int)) (fun x1 => ?_)
  refine se (mkE [(0, I p0), (1, I p1), (2, I p2), (3, I p3), (4, I p4), (10, .ba 80 0), (11, .ba 88 0), (13, I x1)] [(80, .box [I 0, I 0, I 0, I 0] false), (88, .box [I 0, I 0, I 0, I 0] false)] 104) ?_
  refine pN ?_
  refine pS ?_
  refine gS 0 ?_
  refine gR 2 (rg Try.f39 2) ?_
  refine se (mkE [(0, I p0), (1, I p1), (2, I p2), (3, I p3), (4, I p4), (10, .ba 80 0), (11, .ba 88 0), (13, I x1), (22, B (neI x1 0))] [(80, .box [I 0, I 0, I 0, I 0] false), (88, .box [I 0, I 0, I 0, I 0] false)] 104) ?_
  refine pN ?_
  refine pS ?_
  refine gC 22 (neI x1 0) ?_ ?_
  · refine gS 0 ?_
    refine gR 3 (rg Try.f39 3) ?_
    refine se (mkE [(10, .ba 80 0), (11, .ba 88 0), (12, I x1)] [(80, .box [I 0, I 0, I 0, I 0] false), (88, .box [I 0, I 0, I 0, I 0] false)] 104) ?_
    refine pN ?_
    refine pS ?_
    refine gE ?_
    exact pL
  · refine gK ?_
    refine pN ?_
    refine pS ?_
    refine gS 5 ?_
    refine gR 4 (rg Try.f39 4) ?_
    refine se (mkE [(0, I p0), (1, I p1), (2, I p2), (3, I p3), (4, I p4), (10, .ba 80 0), (11, .ba 88 0)] [(80, .box [I 0, I 0, I p0, I p1] false), (88, .box [I 0, I 0, I p2, I p3] false)] 104) ?_
    refine pN ?_
    refine pS ?_
    refine gS 7 ?_
    refine gR 5 (rg Try.f39 5) ?_
    refine se (mkE [(0, I p0), (1, I p1), (2, I p2), (3, I p3), (4, I p4), (10, .ba 80 0), (11, .ba 88 0), (14, B (leI (mulI .i64 p1 p2) (mulI .i64 p0 p3)))] [(80, .box [I 0, I 0, I p0, I p1] false), (88, .box [I 0, I 0, I p2, I p3] false)] 104) ?_
    refine pN ?_
    refine pS ?_
    refine jS 16 ((bif (eqI p4 1) then (some (.inl (0, 0, p0, p1, 0, 0, p2, p3))) else (bif (eqI p4 2) then (bif (leI (mulI .i64 p1 p2) (mulI .i64 p0 p3)) then ((quoO .i64 (mulI .i64 p1 p2) p0).bind fun x2 => ((T130 p2 (maxI 1 x2) p2 p3).bind fun x3 => (some (.inl (0, 0, p0, p1, x3.f0, x3.f1, x3.f2, x3.f3))))) else (bif (eqI p4 2) then ((quoO .i64 (mulI .i64 p0 p3) p1).bind fun x4 => ((T130 (maxI 1 x4) p3 p2 p3).bind fun x5 => (some (.inl (0, 0, p0, p1, x5.f0, x5.f1, x5.f2, x5.f3))))) else (bif (eqI p4 3) then (bif (leI (mulI .i64 p1 p2) (mulI .i64 p0 p3)) then ((quoO .i64 (mulI .i64 p1 p2) p3).bind fun x6 => ((T130 (maxI 1 x6) p1 p0 p1).bind fun x7 => (some (.inl (x7.f0, x7.f1, x7.f2, x7.f3, 0, 0, p2, p3))))) else (bif (eqI p4 3) then ((quoO .i64 (mulI .i64 p0 p3) p2).bind fun x8 => ((T130 p0 (maxI 1 x8) p0 p1).bind fun x9 => (some (.inl (x9.f0, x9.f1, x9.f2, x9.f3, 0, 0, p2, p3))))) else (some (.inr ())))) else (bif (eqI p4 3) then ((quoO .i64 (mulI .i64 p0 p3) p2).bind fun x10 => ((T130 p0 (maxI 1 x10) p0 p1).bind fun x11 => (some (.inl (x11.f0, x11.f1, x11.f2, x11.f3, 0, 0, p2, p3))))) else (some (.inr ())))))) else (bif (eqI p4 2) then ((quoO .i64 (mulI .i64 p0 p3) p1).bind fun x12 => ((T130 (maxI 1 x12) p3 p2 p3).bind fun x13 => (some (.inl (0, 0, p0, p1, x13.f0, x13.f1, x13.f2, x13.f3))))) else (bif (eqI p4 3) then (bif (leI (mulI .i64 p1 p2) (mulI .i64 p0 p3)) then ((quoO .i64 (mulI .i64 p1 p2) p3).bind fun x14 => ((T130 (maxI 1 x14) p1 p0 p1).bind fun x15 => (some (.inl (x15.f0, x15.f1, x15.f2, x15.f3, 0, 0, p2, p3))))) else (bif (eqI p4 3) then ((quoO .i64 (mulI .i64 p0 p3) p2).bind fun x16 => ((T130 p0 (maxI 1 x16) p0 p1).bind fun x17 => (some (.inl (x17.f0, x17.f1, x17.f2, x17.f3, 0, 0, p2, p3))))) else (some (.inr ())))) else (bif (eqI p4 3) then ((quoO .i64 (mulI .i64 p0 p3) p2).bind fun x18 => ((T130 p0 (maxI 1 x18) p0 p1).bind fun x19 => (some (.inl (x19.f0, x19.f1, x19.f2, x19.f3, 0, 0, p2, p3))))) else (some (.inr ()))))))) : Option ((Int × Int × Int × Int × Int × Int × Int × Int) ⊕ Unit)) (Sum.elim (fun (x : (Int × Int × Int × Int × Int × Int × Int × Int)) => (.normal, (mkE [(10, .ba 80 0), (11, .ba 88 0)] [(80, .box [I x.1, I x.2.1, I x.2.2.1, I x.2.2.2.1] false), (88, .box [I x.2.2.2.2.1, I x.2.2.2.2.2.1, I x.2.2.2.2.2.2.1, I x.2.2.2.2.2.2.2] false)] 104))) (fun (x : Unit) => (.ret, (mkE [(10, .ba 80 0), (11, .ba 88 0), (12, I 4)] [(80, .box [I 0, I 0, I 0, I 0] false), (88, .box [I 0, I 0, I 0, I 0] false)] 104)))) ?_ (fun y20 => ?_)
    · refine gB 0 ?_
      refine gS 0 ?_
      refine gR 7 (rg Try.f39 7) ?_
      refine se (mkE [(0, I p0), (1, I p1), (2, I p2), (3, I p3), (4, I p4), (10, .ba 80 0), (11, .ba 88 0), (14, B (leI (mulI .i64 p1 p2) (mulI .i64 p0 p3))), (41, B (eqI p4 1))] [(80, .box [I 0, I 0, I p0, I p1] false), (88, .box [I 0, I 0, I p2, I p3] false)] 104) ?_
      refine pN ?_
      refine pS ?_
      refine gC 41 (eqI p4 1) ?_ ?_
      · refine gK ?_
        refine pB ?_
        refine pG (mkE [(10, .ba 80 0), (11, .ba 88 0)] [(80, .box [I 0, I 0, I p0, I p1] false), (88, .box [I 0, I 0, I p2, I p3] false)] 104) ?_
        exact pL
      · refine gS 0 ?_
        refine gR 8 (rg Try.f39 8) ?_
        refine sg 3 (mkE [(47, B (eqI p4 2)), (46, B (eqI p4 2)), (45, I p4), (0, I p0), (1, I p1), (2, I p2), (3, I p3), (4, I p4), (10, .ba 80 0), (11, .ba 88 0), (14, B (leI (mulI .i64 p1 p2) (mulI .i64 p0 p3))), (41, B (eqI p4 1))] [(80, .box [I 0, I 0, I p0, I p1] false), (88, .box [I 0, I 0, I p2, I p3] false)] 104) ?_
        refine sb 47 (eqI p4 2) ?_ ?_
        · refine se (mkE [(0, I p0), (1, I p1), (2, I p2), (3, I p3), (4, I p4), (10, .ba 80 0), (11, .ba 88 0), (14, B (leI (mulI .i64 p1 p2) (mulI .i64 p0 p3))), (44, B (leI (mulI .i64 p1 p2) (mulI .i64 p0 p3)))] [(80, .box [I 0, I 0, I p0, I p1] false), (88, .box [I 0, I 0, I p2, I p3] false)] 104) ?_
          refine pN ?_
          refine pS ?_
          refine gC 44 (leI (mulI .i64 p1 p2) (mulI .i64 p0 p3)) ?_ ?_
          · refine gR 9 (rg Try.f39 9) ?_
            refine sg 5 (mkE [(54, I p0), (53, I (mulI .i64 p1 p2)), (52, I p2), (51, I p1), (50, I p2), (0, I p0), (1, I p1), (2, I p2), (3, I p3), (4, I p4), (10, .ba 80 0), (11, .ba 88 0), (14, B (leI (mulI .i64 p1 p2) (mulI .i64 p0 p3))), (44, B (leI (mulI .i64 p1 p2) (mulI .i64 p0 p3)))] [(80, .box [I 0, I 0, I p0, I p1] false), (88, .box [I 0, I 0, I p2, I p3] false)] 104) ?_
            refine vo 55 (quoE 3 .i64 (.tmp 53) (.tmp 54) (mulI .i64 p1 p2) p0) (fun x2 => ?_)
            refine sg 9 (mkE [(58, I p3), (57, I p2), (56, I (maxI 1 x2)), (55, I x2), (54, I p0), (53, I (mulI .i64 p1 p2)), (52, I p2), (51, I p1), (50, I p2), (0, I p0), (1, I p1), (2, I p2), (3, I p3), (4, I p4), (10, .ba 80 0), (11, .ba 88 0), (14, B (leI (mulI .i64 p1 p2) (mulI .i64 p0 p3))), (44, B (leI (mulI .i64 p1 p2) (mulI .i64 p0 p3)))] [(80, .box [I 0, I 0, I p0, I p1] false), (88, .box [I 0, I 0, I p2, I p3] false)] 104) ?_
            refine co 59 [] (h130 p2 (maxI 1 x2) p2 p3) (fun x3 => ?_)
            refine se (mkE [(10, .ba 80 0), (11, .ba 88 0)] [(80, .box [I 0, I 0, I p0, I p1] false), (88, .box [I x3.f0, I x3.f1, I x3.f2, I x3.f3] false)] 104) ?_
            refine pB ?_
            refine pG (mkE [(10, .ba 80 0), (11, .ba 88 0)] [(80, .box [I 0, I 0, I p0, I p1] false), (88, .box [I x3.f0, I x3.f1, I x3.f2, I x3.f3] false)] 104) ?_
            exact pL
          · refine gS 0 ?_
            refine gR 10 (rg Try.f39 10) ?_
            refine se (mkE [(0, I p0), (1, I p1), (2, I p2), (3, I p3), (4, I p4), (10, .ba 80 0), (11, .ba 88 0), (14, B (leI (mulI .i64 p1 p2) (mulI .i64 p0 p3))), (60, B (eqI p4 2))] [(80, .box [I 0, I 0, I p0, I p1] false), (88, .box [I 0, I 0, I p2, I p3] false)] 104) ?_
            refine pN ?_
            refine pS ?_
            refine gC 60 (eqI p4 2) ?_ ?_
            · refine gR 11 (rg Try.f39 11) ?_
              refine sg 4 (mkE [(66, I p1), (65, I (mulI .i64 p0 p3)), (64, I p3), (63, I p0), (0, I p0), (1, I p1), (2, I p2), (3, I p3), (4, I p4), (10, .ba 80 0), (11, .ba 88 0), (14, B (leI (mulI .i64 p1 p2) (mulI .i64 p0 p3))), (60, B (eqI p4 2))] [(80, .box [I 0, I 0, I p0, I p1] false), (88, .box [I 0, I 0, I p2, I p3] false)] 104) ?_
              refine vo 67 (quoE 3 .i64 (.tmp 65) (.tmp 66) (mulI .i64 p0 p3) p1) (fun x4 => ?_)
              refine sg 9 (mkE [(71, I p3), (70, I p2), (69, I p3), (68, I (maxI 1 x4)), (67, I x4), (66, I p1), (65, I (mulI .i64 p0 p3)), (64, I p3), (63, I p0), (0, I p0), (1, I p1), (2, I p2), (3, I p3), (4, I p4), (10, .ba 80 0), (11, .ba 88 0), (14, B (leI (mulI .i64 p1 p2) (mulI .i64 p0 p3))), (60, B (eqI p4 2))] [(80, .box [I 0, I 0, I p0, I p1] false), (88, .box [I 0, I 0, I p2, I p3] false)] 104) ?_
              refine co 72 [] (h130 (maxI 1 x4) p3 p2 p3) (fun x5 => ?_)
              refine se (mkE [(10, .ba 80 0), (11, .ba 88 0)] [(80, .box [I 0, I 0, I p0, I p1] false), (88, .box [I x5.f0, I x5.f1, I x5.f2, I x5.f3] false)] 104) ?_
              refine pB ?_
              refine pG (mkE [(10, .ba 80 0), (11, .ba 88 0)] [(80, .box [I 0, I 0, I p0, I p1] false), (88, .box [I x5.f0, I x5.f1, I x5.f2, I x5.f3] false)] 104) ?_
              exact pL
            · refine gS 0 ?_
              refine gR 12 (rg Try.f39 12) ?_
              refine sg 3 (mkE [(76, B (eqI p4 3)), (75, B (eqI p4 3)), (74, I p4), (0, I p0), (1, I p1), (2, I p2), (3, I p3), (4, I p4), (10, .ba 80 0), (11, .ba 88 0), (14, B (leI (mulI .i64 p1 p2) (mulI .i64 p0 p3))), (60, B (eqI p4 2))] [(80, .box [I 0, I 0, I p0, I p1] false), (88, .box [I 0, I 0, I p2, I p3] false)] 104) ?_
              refine sb 76 (eqI p4 3) ?_ ?_
              · refine se (mkE [(0, I p0), (1, I p1), (2, I p2), (3, I p3), (4, I p4), (10, .ba 80 0), (11, .ba 88 0), (73, B (leI (mulI .i64 p1 p2) (mulI .i64 p0 p3)))] [(80, .box [I 0, I 0, I p0, I p1] false), (88, .box [I 0, I 0, I p2, I p3] false)] 104) ?_
                refine pN ?_
                refine pS ?_
                refine gC 73 (leI (mulI .i64 p1 p2) (mulI .i64 p0 p3)) ?_ ?_
                · refine gR 13 (rg Try.f39 13) ?_
                  refine sg 4 (mkE [(82, I p3), (81, I (mulI .i64 p1 p2)), (80, I p2), (79, I p1), (0, I p0), (1, I p1), (2, I p2), (3, I p3), (4, I p4), (10, .ba 80 0), (11, .ba 88 0), (73, B (leI (mulI .i64 p1 p2) (mulI .i64 p0 p3)))] [(80, .box [I 0, I 0, I p0, I p1] false), (88, .box [I 0, I 0, I p2, I p3] false)] 104) ?_
                  refine vo 83 (quoE 3 .i64 (.tmp 81) (.tmp 82) (mulI .i64 p1 p2) p3) (fun x6 => ?_)
                  refine sg 9 (mkE [(87, I p1), (86, I p0), (85, I p1), (84, I (maxI 1 x6)), (83, I x6), (82, I p3), (81, I (mulI .i64 p1 p2)), (80, I p2), (79, I p1), (0, I p0), (1, I p1), (2, I p2), (3, I p3), (4, I p4), (10, .ba 80 0), (11, .ba 88 0), (73, B (leI (mulI .i64 p1 p2) (mulI .i64 p0 p3)))] [(80, .box [I 0, I 0, I p0, I p1] false), (88, .box [I 0, I 0, I p2, I p3] false)] 104) ?_
                  refine co 88 [] (h130 (maxI 1 x6) p1 p0 p1) (fun x7 => ?_)
                  refine se (mkE [(10, .ba 80 0), (11, .ba 88 0)] [(80, .box [I x7.f0, I x7.f1, I x7.f2, I x7.f3] false), (88, .box [I 0, I 0, I p2, I p3] false)] 104) ?_
                  refine pB ?_
                  refine pG (mkE [(10, .ba 80 0), (11, .ba 88 0)] [(80, .box [I x7.f0, I x7.f1, I x7.f2, I x7.f3] false), (88, .box [I 0, I 0, I p2, I p3] false)] 104) ?_
                  exact pL
                · refine gS 0 ?_
                  refine gR 14 (rg Try.f39 14) ?_
                  refine se (mkE [(0, I p0), (1, I p1), (2, I p2), (3, I p3), (10, .ba 80 0), (11, .ba 88 0), (89, B (eqI p4 3))] [(80, .box [I 0, I 0, I p0, I p1] false), (88, .box [I 0, I 0, I p2, I p3] false)] 104) ?_
                  refine pN ?_
                  refine pS ?_
                  refine gC 89 (eqI p4 3) ?_ ?_
                  · refine gR 15 (rg Try.f39 15) ?_
                    refine sg 5 (mkE [(96, I p2), (95, I (mulI .i64 p0 p3)), (94, I p3), (93, I p0), (92, I p0), (0, I p0), (1, I p1), (2, I p2), (3, I p3), (10, .ba 80 0), (11, .ba 88 0), (89, B (eqI p4 3))] [(80, .box [I 0, I 0, I p0, I p1] false), (88, .box [I 0, I 0, I p2, I p3] false)] 104) ?_
                    refine vo 97 (quoE 3 .i64 (.tmp 95) (.tmp 96) (mulI .i64 p0 p3) p2) (fun x8 => ?_)
                    refine sg 9 (mkE [(100, I p1), (99, I p0), (98, I (maxI 1 x8)), (97, I x8), (96, I p2), (95, I (mulI .i64 p0 p3)), (94, I p3), (93, I p0), (92, I p0), (0, I p0), (1, I p1), (2, I p2), (3, I p3), (10, .ba 80 0), (11, .ba 88 0), (89, B (eqI p4 3))] [(80, .box [I 0, I 0, I p0, I p1] false), (88, .box [I 0, I 0, I p2, I p3] false)] 104) ?_
                    refine co 101 [] (h130 p0 (maxI 1 x8) p0 p1) (fun x9 => ?_)
                    refine se (mkE [(10, .ba 80 0), (11, .ba 88 0)] [(80, .box [I x9.f0, I x9.f1, I x9.f2, I x9.f3] false), (88, .box [I 0, I 0, I p2, I p3] false)] 104) ?_
                    refine pB ?_
                    refine pG (mkE [(10, .ba 80 0), (11, .ba 88 0)] [(80, .box [I x9.f0, I x9.f1, I x9.f2, I x9.f3] false), (88, .box [I 0, I 0, I p2, I p3] false)] 104) ?_
                    exact pL
                  · refine gS 0 ?_
                    refine gR 6 (rg Try.f39 6) ?_
                    refine se (mkE [(10, .ba 80 0), (11, .ba 88 0), (12, I 4)] [(80, .box [I 0, I 0, I 0, I 0] false), (88, .box [I 0, I 0, I 0, I 0] false)] 104) ?_
                    refine pN ?_
                    refine pS ?_
                    refine gE ?_
                    exact pL
              · refine se (mkE [(0, I p0), (1, I p1), (2, I p2), (3, I p3), (4, I p4), (10, .ba 80 0), (11, .ba 88 0), (73, B false)] [(80, .box [I 0, I 0, I p0, I p1] false), (88, .box [I 0, I 0, I p2, I p3] false)] 104) ?_
                refine pN ?_
                refine pS ?_
                refine gF (.tmp 73) ?_
                refine gS 0 ?_
                refine gR 14 (rg Try.f39 14) ?_
                refine se (mkE [(0, I p0), (1, I p1), (2, I p2), (3, I p3), (10, .ba 80 0), (11, .ba 88 0), (89, B (eqI p4 3))] [(80, .box [I 0, I 0, I p0, I p1] false), (88, .box [I 0, I 0, I p2, I p3] false)] 104) ?_
                refine pN ?_
                refine pS ?_
                refine gC 89 (eqI p4 3) ?_ ?_
                · refine gR 15 (rg Try.f39 15) ?_
                  refine sg 5 (mkE [(96, I p2), (95, I (mulI .i64 p0 p3)), (94, I p3), (93, I p0), (92, I p0), (0, I p0), (1, I p1), (2, I p2), (3, I p3), (10, .ba 80 0), (11, .ba 88 0), (89, B (eqI p4 3))] [(80, .box [I 0, I 0, I p0, I p1] false), (88, .box [I 0, I 0, I p2, I p3] false)] 104) ?_
                  refine vo 97 (quoE 3 .i64 (.tmp 95) (.tmp 96) (mulI .i64 p0 p3) p2) (fun x10 => ?_)
                  refine sg 9 (mkE [(100, I p1), (99, I p0), (98, I (maxI 1 x10)), (97, I x10), (96, I p2), (95, I (mulI .i64 p0 p3)), (94, I p3), (93, I p0), (92, I p0), (0, I p0), (1, I p1), (2, I p2), (3, I p3), (10, .ba 80 0), (11, .ba 88 0), (89, B (eqI p4 3))] [(80, .box [I 0, I 0, I p0, I p1] false), (88, .box [I 0, I 0, I p2, I p3] false)] 104) ?_
                  refine co 101 [] (h130 p0 (maxI 1 x10) p0 p1) (fun x11 => ?_)
                  refine se (mkE [(10, .ba 80 0), (11, .ba 88 0)] [(80, .box [I x11.f0, I x11.f1, I x11.f2, I x11.f3] false), (88, .box [I 0, I 0, I p2, I p3] false)] 104) ?_
                  refine pB ?_
                  refine pG (mkE [(10, .ba 80 0), (11, .ba 88 0)] [(80, .box [I x11.f0, I x11.f1, I x11.f2, I x11.f3] false), (88, .box [I 0, I 0, I p2, I p3] false)] 104) ?_
                  exact pL
                · refine gS 0 ?_
                  refine gR 6 (rg Try.f39 6) ?_
                  refine se (mkE [(10, .ba 80 0), (11, .ba 88 0), (12, I 4)] [(80, .box [I 0, I 0, I 0, I 0] false), (88, .box [I 0, I 0, I 0, I 0] false)] 104) ?_
                  refine pN ?_
                  refine pS ?_
                  refine gE ?_
                  exact pL
        · refine se (mkE [(0, I p0), (1, I p1), (2, I p2), (3, I p3), (4, I p4), (10, .ba 80 0), (11, .ba 88 0), (14, B (leI (mulI .i64 p1 p2) (mulI .i64 p0 p3))), (44, B false)] [(80, .box [I 0, I 0, I p0, I p1] false), (88, .box [I 0, I 0, I p2, I p3] false)] 104) ?_
          refine pN ?_
          refine pS ?_
          refine gF (.tmp 44) ?_
          refine gS 0 ?_
          refine gR 10 (rg Try.f39 10) ?_
          refine se (mkE [(0, I p0), (1, I p1), (2, I p2), (3, I p3), (4, I p4), (10, .ba 80 0), (11, .ba 88 0), (14, B (leI (mulI .i64 p1 p2) (mulI .i64 p0 p3))), (60, B (eqI p4 2))] [(80, .box [I 0, I 0, I p0, I p1] false), (88, .box [I 0, I 0, I p2, I p3] false)] 104) ?_
          refine pN ?_
          refine pS ?_
          refine gC 60 (eqI p4 2) ?_ ?_
          · refine gR 11 (rg Try.f39 11) ?_
            refine sg 4 (mkE [(66, I p1), (65, I (mulI .i64 p0 p3)), (64, I p3), (63, I p0), (0, I p0), (1, I p1), (2, I p2), (3, I p3), (4, I p4), (10, .ba 80 0), (11, .ba 88 0), (14, B (leI (mulI .i64 p1 p2) (mulI .i64 p0 p3))), (60, B (eqI p4 2))] [(80, .box [I 0, I 0, I p0, I p1] false), (88, .box [I 0, I 0, I p2, I p3] false)] 104) ?_
            refine vo 67 (quoE 3 .i64 (.tmp 65) (.tmp 66) (mulI .i64 p0 p3) p1) (fun x12 => ?_)
            refine sg 9 (mkE [(71, I p3), (70, I p2), (69, I p3), (68, I (maxI 1 x12)), (67, I x12), (66, I p1), (65, I (mulI .i64 p0 p3)), (64, I p3), (63, I p0), (0, I p0), (1, I p1), (2, I p2), (3, I p3), (4, I p4), (10, .ba 80 0), (11, .ba 88 0), (14, B (leI (mulI .i64 p1 p2) (mulI .i64 p0 p3))), (60, B (eqI p4 2))] [(80, .box [I 0, I 0, I p0, I p1] false), (88, .box [I 0, I 0, I p2, I p3] false)] 104) ?_
            refine co 72 [] (h130 (maxI 1 x12) p3 p2 p3) (fun x13 => ?_)
            refine se (mkE [(10, .ba 80 0), (11, .ba 88 0)] [(80, .box [I 0, I 0, I p0, I p1] false), (88, .box [I x13.f0, I x13.f1, I x13.f2, I x13.f3] false)] 104) ?_
            refine pB ?_
            refine pG (mkE [(10, .ba 80 0), (11, .ba 88 0)] [(80, .box [I 0, I 0, I p0, I p1] false), (88, .box [I x13.f0, I x13.f1, I x13.f2, I x13.f3] false)] 104) ?_
            exact pL
          · refine gS 0 ?_
            refine gR 12 (rg Try.f39 12) ?_
            refine sg 3 (mkE [(76, B (eqI p4 3)), (75, B (eqI p4 3)), (74, I p4), (0, I p0), (1, I p1), (2, I p2), (3, I p3), (4, I p4), (10, .ba 80 0), (11, .ba 88 0), (14, B (leI (mulI .i64 p1 p2) (mulI .i64 p0 p3))), (60, B (eqI p4 2))] [(80, .box [I 0, I 0, I p0, I p1] false), (88, .box [I 0, I 0, I p2, I p3] false)] 104) ?_
            refine sb 76 (eqI p4 3) ?_ ?_
            · refine se (mkE [(0, I p0), (1, I p1), (2, I p2), (3, I p3), (4, I p4), (10, .ba 80 0), (11, .ba 88 0), (73, B (leI (mulI .i64 p1 p2) (mulI .i64 p0 p3)))] [(80, .box [I 0, I 0, I p0, I p1] false), (88, .box [I 0, I 0, I p2, I p3] false)] 104) ?_
              refine pN ?_
              refine pS ?_
              refine gC 73 (leI (mulI .i64 p1 p2) (mulI .i64 p0 p3)) ?_ ?_
              · refine gR 13 (rg Try.f39 13) ?_
                refine sg 4 (mkE [(82, I p3), (81, I (mulI .i64 p1 p2)), (80, I p2), (79, I p1), (0, I p0), (1, I p1), (2, I p2), (3, I p3), (4, I p4), (10, .ba 80 0), (11, .ba 88 0), (73, B (leI (mulI .i64 p1 p2) (mulI .i64 p0 p3)))] [(80, .box [I 0, I 0, I p0, I p1] false), (88, .box [I 0, I 0, I p2, I p3] false)] 104) ?_
                refine vo 83 (quoE 3 .i64 (.tmp 81) (.tmp 82) (mulI .i64 p1 p2) p3) (fun x14 => ?_)
                refine sg 9 (mkE [(87, I p1), (86, I p0), (85, I p1), (84, I (maxI 1 x14)), (83, I x14), (82, I p3), (81, I (mulI .i64 p1 p2)), (80, I p2), (79, I p1), (0, I p0), (1, I p1), (2, I p2), (3, I p3), (4, I p4), (10, .ba 80 0), (11, .ba 88 0), (73, B (leI (mulI .i64 p1 p2) (mulI .i64 p0 p3)))] [(80, .box [I 0, I 0, I p0, I p1] false), (88, .box [I 0, I 0, I p2, I p3] false)] 104) ?_
                refine co 88 [] (h130 (maxI 1 x14) p1 p0 p1) (fun x15 => ?_)
                refine se (mkE [(10, .ba 80 0), (11, .ba 88 0)] [(80, .box [I x15.f0, I x15.f1, I x15.f2, I x15.f3] false), (88, .box [I 0, I 0, I p2, I p3] false)] 104) ?_
                refine pB ?_
                refine pG (mkE [(10, .ba 80 0), (11, .ba 88 0)] [(80, .box [I x15.f0, I x15.f1, I x15.f2, I x15.f3] false), (88, .box [I 0, I 0, I p2, I p3] false)] 104) ?_
                exact pL
              · refine gS 0 ?_
                refine gR 14 (rg Try.f39 14) ?_
                refine se (mkE [(0, I p0), (1, I p1), (2, I p2), (3, I p3), (10, .ba 80 0), (11, .ba 88 0), (89, B (eqI p4 3))] [(80, .box [I 0, I 0, I p0, I p1] false), (88, .box [I 0, I 0, I p2, I p3] false)] 104) ?_
                refine pN ?_
                refine pS ?_
                refine gC 89 (eqI p4 3) ?_ ?_
                · refine gR 15 (rg Try.f39 15) ?_
                  refine sg 5 (mkE [(96, I p2), (95, I (mulI .i64 p0 p3)), (94, I p3), (93, I p0), (92, I p0), (0, I p0), (1, I p1), (2, I p2), (3, I p3), (10, .ba 80 0), (11, .ba 88 0), (89, B (eqI p4 3))] [(80, .box [I 0, I 0, I p0, I p1] false), (88, .box [I 0, I 0, I p2, I p3] false)] 104) ?_
                  refine vo 97 (quoE 3 .i64 (.tmp 95) (.tmp 96) (mulI .i64 p0 p3) p2) (fun x16 => ?_)
                  refine sg 9 (mkE [(100, I p1), (99, I p0), (98, I (maxI 1 x16)), (97, I x16), (96, I p2), (95, I (mulI .i64 p0 p3)), (94, I p3), (93, I p0), (92, I p0), (0, I p0), (1, I p1), (2, I p2), (3, I p3), (10, .ba 80 0), (11, .ba 88 0), (89, B (eqI p4 3))] [(80, .box [I 0, I 0, I p0, I p1] false), (88, .box [I 0, I 0, I p2, I p3] false)] 104) ?_
                  refine co 101 [] (h130 p0 (maxI 1 x16) p0 p1) (fun x17 => ?_)
                  refine se (mkE [(10, .ba 80 0), (11, .ba 88 0)] [(80, .box [I x17.f0, I x17.f1, I x17.f2, I x17.f3] false), (88, .box [I 0, I 0, I p2, I p3] false)] 104) ?_
                  refine pB ?_
                  refine pG (mkE [(10, .ba 80 0), (11, .ba 88 0)] [(80, .box [I x17.f0, I x17.f1, I x17.f2, I x17.f3] false), (88, .box [I 0, I 0, I p2, I p3] false)] 104) ?_
                  exact pL
                · refine gS 0 ?_
                  refine gR 6 (rg Try.f39 6) ?_
                  refine se (mkE [(10, .ba 80 0), (11, .ba 88 0), (12, I 4)] [(80, .box [I 0, I 0, I 0, I 0] false), (88, .box [I 0, I 0, I 0, I 0] false)] 104) ?_
                  refine pN ?_
                  refine pS ?_
                  refine gE ?_
                  exact pL
            · refine se (mkE [(0, I p0), (1, I p1), (2, I p2), (3, I p3), (4, I p4), (10, .ba 80 0), (11, .ba 88 0), (73, B false)] [(80, .box [I 0, I 0, I p0, I p1] false), (88, .box [I 0, I 0, I p2, I p3] false)] 104) ?_
              refine pN ?_
              refine pS ?_
              refine gF (.tmp 73) ?_
              refine gS 0 ?_
              refine gR 14 (rg Try.f39 14) ?_
              refine se (mkE [(0, I p0), (1, I p1), (2, I p2), (3, I p3), (10, .ba 80 0), (11, .ba 88 0), (89, B (eqI p4 3))] [(80, .box [I 0, I 0, I p0, I p1] false), (88, .box [I 0, I 0, I p2, I p3] false)] 104) ?_
              refine pN ?_
              refine pS ?_
              refine gC 89 (eqI p4 3) ?_ ?_
              · refine gR 15 (rg Try.f39 15) ?_
                refine sg 5 (mkE [(96, I p2), (95, I (mulI .i64 p0 p3)), (94, I p3), (93, I p0), (92, I p0), (0, I p0), (1, I p1), (2, I p2), (3, I p3), (10, .ba 80 0), (11, .ba 88 0), (89, B (eqI p4 3))] [(80, .box [I 0, I 0, I p0, I p1] false), (88, .box [I 0, I 0, I p2, I p3] false)] 104) ?_
                refine vo 97 (quoE 3 .i64 (.tmp 95) (.tmp 96) (mulI .i64 p0 p3) p2) (fun x18 => ?_)
                refine sg 9 (mkE [(100, I p1), (99, I p0), (98, I (maxI 1 x18)), (97, I x18), (96, I p2), (95, I (mulI .i64 p0 p3)), (94, I p3), (93, I p0), (92, I p0), (0, I p0), (1, I p1), (2, I p2), (3, I p3), (10, .ba 80 0), (11, .ba 88 0), (89, B (eqI p4 3))] [(80, .box [I 0, I 0, I p0, I p1] false), (88, .box [I 0, I 0, I p2, I p3] false)] 104) ?_
                refine co 101 [] (h130 p0 (maxI 1 x18) p0 p1) (fun x19 => ?_)
                refine se (mkE [(10, .ba 80 0), (11, .ba 88 0)] [(80, .box [I x19.f0, I x19.f1, I x19.f2, I x19.f3] false), (88, .box [I 0, I 0, I p2, I p3] false)] 104) ?_
                refine pB ?_
                refine pG (mkE [(10, .ba 80 0), (11, .ba 88 0)] [(80, .box [I x19.f0, I x19.f1, I x19.f2, I x19.f3] false), (88, .box [I 0, I 0, I p2, I p3] false)] 104) ?_
                exact pL
              · refine gS 0 ?_
                refine gR 6 (rg Try.f39 6) ?_
                refine se (mkE [(10, .ba 80 0), (11, .ba 88 0), (12, I 4)] [(80, .box [I 0, I 0, I 0, I 0] false), (88, .box [I 0, I 0, I 0, I 0] false)] 104) ?_
                refine pN ?_
                refine pS ?_
                refine gE ?_
                exact pL
    refine ss y20 (Z := (Sum.elim (fun (x : (Int × Int × Int × Int × Int × Int × Int × Int)) => (.normal, (mkE [(10, .ba 80 0), (11, .ba 88 0)] [(80, .box [I x.1, I x.2.1, I x.2.2.1, I x.2.2.2.1] false), (88, .box [I x.2.2.2.2.1, I x.2.2.2.2.2.1, I x.2.2.2.2.2.2.1, I x.2.2.2.2.2.2.2] false)] 104))) (fun (x : Unit) => (.ret, (mkE [(10, .ba 80 0), (11, .ba 88 0), (12, I 4)] [(80, .box [I 0, I 0, I 0, I 0] false), (88, .box [I 0, I 0, I 0, I 0] false)] 104))))) (fun y20a => ?_) (fun y20b => ?_)
    · refine pS ?_
      refine gS 0 ?_
      refine gD 16 3 (rg Try.f39 16) [0, 1, 2, 3, 4] ?_
      refine dg 3 [(some 102, qe (.agg [I y20a.1, I y20a.2.1, I y20a.2.2.1, I y20a.2.2.2.1])), (some 103, qe (.agg [I y20a.2.2.2.2.1, I y20a.2.2.2.2.2.1, I y20a.2.2.2.2.2.2.1, I y20a.2.2.2.2.2.2.2])), (none, { e := { val := .und }, st := some (80, .box [I y20a.1, I y20a.2.1, I y20a.2.2.1, I y20a.2.2.2.1] false, 0, 4) })] ?_
      refine de (mkE [(103, .agg [I y20a.2.2.2.2.1, I y20a.2.2.2.2.2.1, I y20a.2.2.2.2.2.2.1, I y20a.2.2.2.2.2.2.2]), (102, .agg [I y20a.1, I y20a.2.1, I y20a.2.2.1, I y20a.2.2.2.1]), (10, .ba 80 0), (11, .ba 88 0)] [(80, .box [I y20a.1, I y20a.2.1, I y20a.2.2.1, I y20a.2.2.2.1] false), (80, .box [I y20a.1, I y20a.2.1, I y20a.2.2.1, I y20a.2.2.2.1] false), (88, .box [I y20a.2.2.2.2.1, I y20a.2.2.2.2.2.1, I y20a.2.2.2.2.2.2.1, I y20a.2.2.2.2.2.2.2] false)] 104) ?_
      refine se (mkE [(10, .ba 80 0), (11, .ba 88 0), (12, I 0)] [(80, .box [I y20a.1, I y20a.2.1, I y20a.2.2.1, I y20a.2.2.2.1] false), (88, .box [I y20a.2.2.2.2.1, I y20a.2.2.2.2.2.1, I y20a.2.2.2.2.2.2.1, I y20a.2.2.2.2.2.2.2] false)] 104) ?_
      refine pN ?_
      refine pS ?_
      refine gE ?_
      exact pL
    · exact pL
theorem F39 (m : Nat) (hm : 4 ≤ m) (p0 : Int) (p1 : Int) (p2 : Int) (p3 : Int) (p4 : Int) : callA Try.prog cfg m 39 [I p0, I p1, I p2, I p3, I p4] = (T39 p0 p1 p2 p3 p4).map (fun r => AV.tup [a63 r.1, a63 r.2.1, I r.2.2]) := by
  obtain ⟨q, rfl⟩ : ∃ q, m = q + 1 := ⟨m - 1, by omega⟩
  exact (callA_body (fn := Try.f39) (c := body_ Try.f39) q _ (by kernel_rfl) (by kernel_rfl) (by kernel_rfl)).trans (B39 _ (fun p0 => F128 q (by omega) p0) (fun p0 p1 p2 p3 => F130 q (by omega) p0 p1 p2 p3) p0 p1 p2 p3 p4)

noncomputable def T132 (p0 : Int) (p1 : Int) (p2 : Int) : Option Bool := (bif (leI p1 p0) then (some (leI p0 p2)) else (some false))
theorem B132 (C : Callee) (p0 : Int) (p1 : Int) (p2 : Int) : runs Try.prog C (cfg.fn 132) (finFn Try.prog (cfg.fn 132).byval Try.f132) [] (execA Try.prog C (cfg.fn 132) (nr Try.f132 []) (frame0 [I p0, I p1, I p2] 15 false)) = (T132 p0 p1 p2).map B := by
  unfold T132
  refine gS 1 ?_
  refine gR 0 (rg Try.f132 0) ?_
  refine se (mkE [(0, I p0), (1, I p1), (2, I p2)] [] 15) ?_
  refine pN ?_
  refine pS ?_
  refine gS 0 ?_
  refine gR 1 (rg Try.f132 1) ?_
  refine sg 4 (mkE [(10, B (leI p1 p0)), (9, B (leI p1 p0)), (8, I p0), (7, I p1), (0, I p0), (1, I p1), (2, I p2)] [] 15) ?_
  refine sb 10 (leI p1 p0) ?_ ?_
  · refine se (mkE [(6, B (leI p0 p2))] [] 15) ?_
    refine pN ?_
    refine pS ?_
    refine gE ?_
    exact pL
  · refine se (mkE [(6, B false)] [] 15) ?_
    refine pN ?_
    refine pS ?_
    refine gE ?_
    exact pL
theorem F132 (m : Nat) (hm : 1 ≤ m) (p0 : Int) (p1 : Int) (p2 : Int) : callA Try.prog cfg m 132 [I p0, I p1, I p2] = (T132 p0 p1 p2).map B := by
  obtain ⟨q, rfl⟩ : ∃ q, m = q + 1 := ⟨m - 1, by omega⟩
  exact (callA_body (fn := Try.f132) (c := body_ Try.f132) q _ (by kernel_rfl) (by kernel_rfl) (by kernel_rfl)).trans (B132 _ p0 p1 p2)

noncomputable def T118 (p0 : S63) : Option Int := ((T132 p0.f0 (-100000) 100000).bind fun x1 => (bif (!x1) then (some 1) else ((T132 p0.f1 (-100000) 100000).bind fun x2 => (bif (!x2) then (some 1) else ((T132 p0.f2 1 (subI .i64 100000 p0.f0)).bind fun x3 => (bif (!x3) then (some 1) else ((T132 p0.f3 1 (subI .i64 100000 p0.f1)).bind fun x4 => (bif (!x4) then (some 1) else (some 0)))))))))
theorem B118 (C : Callee) (h132 : ∀ (p0 : Int) (p1 : Int) (p2 : Int), C 132 [I p0, I p1, I p2] = (T132 p0 p1 p2).map B) (p0 : S63) : runs Try.prog C (cfg.fn 118) (finFn Try.prog (cfg.fn 118).byval Try.f118) [] (execA Try.prog C (cfg.fn 118) (nr Try.f118 []) (frame0 [a63 p0] 31 false)) = (T118 p0).map I := by
  unfold T118
  refine gS 1 ?_
  refine gR 0 (rg Try.f118 0) ?_
  refine se (mkE [(1, .ba 8 0)] [(8, .box [I p0.f0, I p0.f1, I p0.f2, I p0.f3] false)] 31) ?_
  refine pN ?_
  refine pS ?_
  refine gS 3 ?_
  refine gS 0 ?_
  refine gR 1 (rg Try.f118 1) ?_
  refine sg 2 (mkE [(4, I p0.f0), (3, .ba 8 0), (1, .ba 8 0)] [(8, .box [I p0.f0, I p0.f1, I p0.f2, I p0.f3] false)] 31) ?_
  refine co 5 [] (h132 p0.f0 (-100000) 100000) (fun x1 => ?_)
  refine sg 5 (mkE [(7, B (!x1)), (6, B (!x1)), (5, B x1), (4, I p0.f0), (3, .ba 8 0), (1, .ba 8 0)] [(8, .box [I p0.f0, I p0.f1, I p0.f2, I p0.f3] false)] 31) ?_
  refine sb 7 (!x1) ?_ ?_
  · refine se (mkE [(30, B true)] [] 31) ?_
    refine pN ?_
    refine pS ?_
    refine gT (.tmp 30) ?_
    refine gS 0 ?_
    refine gR 2 (rg Try.f118 2) ?_
    refine se (mkE [(2, I 1)] [] 31) ?_
    refine pN ?_
    refine pS ?_
    refine gE ?_
    exact pL
  · refine sg 7 (mkE [(9, I p0.f1), (8, .ba 8 1), (7, B false), (7, B (!x1)), (6, B (!x1)), (5, B x1), (4, I p0.f0), (3, .ba 8 0), (1, .ba 8 0)] [(8, .box [I p0.f0, I p0.f1, I p0.f2, I p0.f3] false)] 31) ?_
    refine co 10 [] (h132 p0.f1 (-100000) 100000) (fun x2 => ?_)
    refine sg 11 (mkE [(13, B (!x2)), (12, B (!x2)), (11, B (!x2)), (10, B x2), (9, I p0.f1), (8, .ba 8 1), (7, B false), (7, B (!x1)), (6, B (!x1)), (5, B x1), (4, I p0.f0), (3, .ba 8 0), (1, .ba 8 0)] [(8, .box [I p0.f0, I p0.f1, I p0.f2, I p0.f3] false)] 31) ?_
    refine sb 13 (!x2) ?_ ?_
    · refine se (mkE [(30, B true)] [] 31) ?_
      refine pN ?_
      refine pS ?_
      refine gT (.tmp 30) ?_
      refine gS 0 ?_
      refine gR 2 (rg Try.f118 2) ?_
      refine se (mkE [(2, I 1)] [] 31) ?_
      refine pN ?_
      refine pS ?_
      refine gE ?_
      exact pL
    · refine sg 16 (mkE [(18, I (subI .i64 100000 p0.f0)), (17, I p0.f0), (16, .ba 8 0), (15, I p0.f2), (14, .ba 8 2), (13, B false), (13, B (!x2)), (12, B (!x2)), (11, B (!x2)), (10, B x2), (9, I p0.f1), (8, .ba 8 1), (7, B false), (7, B (!x1)), (6, B (!x1)), (5, B x1), (4, I p0.f0), (3, .ba 8 0), (1, .ba 8 0)] [(8, .box [I p0.f0, I p0.f1, I p0.f2, I p0.f3] false)] 31) ?_
      refine co 19 [] (h132 p0.f2 1 (subI .i64 100000 p0.f0)) (fun x3 => ?_)
      refine sg 20 (mkE [(22, B (!x3)), (21, B (!x3)), (20, B (!x3)), (19, B x3), (18, I (subI .i64 100000 p0.f0)), (17, I p0.f0), (16, .ba 8 0), (15, I p0.f2), (14, .ba 8 2), (13, B false), (13, B (!x2)), (12, B (!x2)), (11, B (!x2)), (10, B x2), (9, I p0.f1), (8, .ba 8 1), (7, B false), (7, B (!x1)), (6, B (!x1)), (5, B x1), (4, I p0.f0), (3, .ba 8 0), (1, .ba 8 0)] [(8, .box [I p0.f0, I p0.f1, I p0.f2, I p0.f3] false)] 31) ?_
      refine sb 22 (!x3) ?_ ?_
      · refine se (mkE [(30, B true)] [] 31) ?_
        refine pN ?_
        refine pS ?_
        refine gT (.tmp 30) ?_
        refine gS 0 ?_
        refine gR 2 (rg Try.f118 2) ?_
        refine se (mkE [(2, I 1)] [] 31) ?_
        refine pN ?_
        refine pS ?_
        refine gE ?_
        exact pL
      · refine sg 25 (mkE [(27, I (subI .i64 100000 p0.f1)), (26, I p0.f1), (25, .ba 8 1), (24, I p0.f3), (23, .ba 8 3), (22, B false), (22, B (!x3)), (21, B (!x3)), (20, B (!x3)), (19, B x3), (18, I (subI .i64 100000 p0.f0)), (17, I p0.f0), (16, .ba 8 0), (15, I p0.f2), (14, .ba 8 2), (13, B false), (13, B (!x2)), (12, B (!x2)), (11, B (!x2)), (10, B x2), (9, I p0.f1), (8, .ba 8 1), (7, B false), (7, B (!x1)), (6, B (!x1)), (5, B x1), (4, I p0.f0), (3, .ba 8 0), (1, .ba 8 0)] [(8, .box [I p0.f0, I p0.f1, I p0.f2, I p0.f3] false)] 31) ?_
        refine co 28 [] (h132 p0.f3 1 (subI .i64 100000 p0.f1)) (fun x4 => ?_)
        refine se (mkE [(30, B (!x4))] [] 31) ?_
        refine pN ?_
        refine pS ?_
        refine gC 30 (!x4) ?_ ?_
        · refine gS 0 ?_
          refine gR 2 (rg Try.f118 2) ?_
          refine se (mkE [(2, I 1)] [] 31) ?_
          refine pN ?_
          refine pS ?_
          refine gE ?_
          exact pL
        · refine gK ?_
          refine pN ?_
          refine pS ?_
          refine gS 0 ?_
          refine gR 3 (rg Try.f118 3) ?_
          refine se (mkE [(2, I 0)] [] 31) ?_
          refine pN ?_
          refine pS ?_
          refine gE ?_
          exact pL
theorem F118 (m : Nat) (hm : 2 ≤ m) (p0 : S63) : callA Try.prog cfg m 118 [a63 p0] = (T118 p0).map I := by
  obtain ⟨q, rfl⟩ : ∃ q, m = q + 1 := ⟨m - 1, by omega⟩
  exact (callA_body (fn := Try.f118) (c := body_ Try.f118) q _ (by kernel_rfl) (by kernel_rfl) (by kernel_rfl)).trans (B118 _ (fun p0 p1 p2 => F132 q (by omega) p0 p1 p2) p0)

noncomputable def T131 (p0 : Int) : Option Bool := ((T132 p0 1 20000).bind fun x1 => (some x1))
theorem B131 (C : Callee) (h132 : ∀ (p0 : Int) (p1 : Int) (p2 : Int), C 132 [I p0, I p1, I p2] = (T132 p0 p1 p2).map B) (p0 : Int) : runs Try.prog C (cfg.fn 131) (finFn Try.prog (cfg.fn 131).byval Try.f131) [] (execA Try.prog C (cfg.fn 131) (nr Try.f131 []) (frame0 [I p0] 5 false)) = (T131 p0).map B := by
  unfold T131
  refine gS 1 ?_
  refine gR 0 (rg Try.f131 0) ?_
  refine se (mkE [(0, I p0)] [] 5) ?_
  refine pN ?_
  refine pS ?_
  refine gS 0 ?_
  refine gR 1 (rg Try.f131 1) ?_
  refine sg 1 (mkE [(3, I p0), (0, I p0)] [] 5) ?_
  refine co 4 [] (h132 p0 1 20000) (fun x1 => ?_)
  refine se (mkE [(2, B x1)] [] 5) ?_
  refine pN ?_
  refine pS ?_
  refine gE ?_
  exact pL
theorem F131 (m : Nat) (hm : 2 ≤ m) (p0 : Int) : callA Try.prog cfg m 131 [I p0] = (T131 p0).map B := by
  obtain ⟨q, rfl⟩ : ∃ q, m = q + 1 := ⟨m - 1, by omega⟩
  exact (callA_body (fn := Try.f131) (c := body_ Try.f131) q _ (by kernel_rfl) (by kernel_rfl) (by kernel_rfl)).trans (B131 _ (fun p0 p1 p2 => F132 q (by omega) p0 p1 p2) p0)

noncomputable def T133 (p0 : S63) (p1 : Int) (p2 : Int) : Option Bool := (bif (leI 0 p0.f0) then (bif (leI 0 p0.f1) then (bif (leI (addI .i64 p0.f0 p0.f2) p1) then (some (leI (addI .i64 p0.f1 p0.f3) p2)) else (some false)) else (some false)) else (some false))
theorem B133 (C : Callee) (p0 : S63) (p1 : Int) (p2 : Int) : runs Try.prog C (cfg.fn 133) (finFn Try.prog (cfg.fn 133).byval Try.f133) [] (execA Try.prog C (cfg.fn 133) (nr Try.f133 []) (frame0 [a63 p0, I p1, I p2] 33 false)) = (T133 p0 p1 p2).map B := by
  unfold T133
  refine gS 1 ?_
  refine gR 0 (rg Try.f133 0) ?_
  refine se (mkE [(1, I p1), (2, I p2), (3, .ba 24 0)] [(24, .box [I p0.f0, I p0.f1, I p0.f2, I p0.f3] false)] 33) ?_
  refine pN ?_
  refine pS ?_
  refine gS 0 ?_
  refine gR 1 (rg Try.f133 1) ?_
  refine sg 4 (mkE [(10, B (leI 0 p0.f0)), (9, B (leI 0 p0.f0)), (8, I p0.f0), (7, .ba 24 0), (1, I p1), (2, I p2), (3, .ba 24 0)] [(24, .box [I p0.f0, I p0.f1, I p0.f2, I p0.f3] false)] 33) ?_
  refine sb 10 (leI 0 p0.f0) ?_ ?_
  · refine sg 9 (mkE [(15, B (leI 0 p0.f1)), (14, B (leI 0 p0.f1)), (13, B (leI 0 p0.f1)), (12, I p0.f1), (11, .ba 24 1), (10, B true), (10, B (leI 0 p0.f0)), (9, B (leI 0 p0.f0)), (8, I p0.f0), (7, .ba 24 0), (1, I p1), (2, I p2), (3, .ba 24 0)] [(24, .box [I p0.f0, I p0.f1, I p0.f2, I p0.f3] false)] 33) ?_
    refine sb 15 (leI 0 p0.f1) ?_ ?_
    · refine sg 18 (mkE [(24, B (leI (addI .i64 p0.f0 p0.f2) p1)), (23, B (leI (addI .i64 p0.f0 p0.f2) p1)), (22, B (leI (addI .i64 p0.f0 p0.f2) p1)), (21, I p1), (20, I (addI .i64 p0.f0 p0.f2)), (19, I p0.f2), (18, .ba 24 2), (17, I p0.f0), (16, .ba 24 0), (15, B true), (15, B (leI 0 p0.f1)), (14, B (leI 0 p0.f1)), (13, B (leI 0 p0.f1)), (12, I p0.f1), (11, .ba 24 1), (10, B true), (10, B (leI 0 p0.f0)), (9, B (leI 0 p0.f0)), (8, I p0.f0), (7, .ba 24 0), (1, I p1), (2, I p2), (3, .ba 24 0)] [(24, .box [I p0.f0, I p0.f1, I p0.f2, I p0.f3] false)] 33) ?_
      refine sb 24 (leI (addI .i64 p0.f0 p0.f2) p1) ?_ ?_
      · refine se (mkE [(6, B (leI (addI .i64 p0.f1 p0.f3) p2))] [] 33) ?_
        refine pN ?_
        refine pS ?_
        refine gE ?_
        exact pL
      · refine se (mkE [(6, B false)] [] 33) ?_
        refine pN ?_
        refine pS ?_
        refine gE ?_
        exact pL
    · refine se (mkE [(6, B false)] [] 33) ?_
      refine pN ?_
      refine pS ?_
      refine gE ?_
      exact pL
  · refine se (mkE [(6, B false)] [] 33) ?_
    refine pN ?_
    refine pS ?_
    refine gE ?_
    exact pL
theorem F133 (m : Nat) (hm : 1 ≤ m) (p0 : S63) (p1 : Int) (p2 : Int) : callA Try.prog cfg m 133 [a63 p0, I p1, I p2] = (T133 p0 p1 p2).map B := by
  obtain ⟨q, rfl⟩ : ∃ q, m = q + 1 := ⟨m - 1, by omega⟩
  exact (callA_body (fn := Try.f133) (c := body_ Try.f133) q _ (by kernel_rfl) (by kernel_rfl) (by kernel_rfl)).trans (B133 _ p0 p1 p2)

noncomputable def L40_6 (p3 : Int) (z0 : (Int × Int × Int × Int × Int × Int × Int)) : Option ((Int × Int × Int × Int × Int × Int × Int) ⊕ (Int × Int × Int × Bool × Int × Int × Int × Int)) := (bif (ltI z0.2.2.2.2.2.2 p3) then (some (.inl (z0.2.1, z0.1, (subI .i64 (subI .i64 z0.2.1 1) (subI .i64 (addI .i64 z0.2.2.2.1 z0.2.2.2.2.2.1) 1)), z0.2.2.1, z0.2.2.2.2.2.1, z0.2.2.2.2.1, (addI .i64 z0.2.2.2.2.2.2 1)))) else (some (.inr (z0.1, z0.2.1, z0.2.2.2.2.2.2, (ltI z0.2.2.2.2.2.2 p3), z0.2.2.1, z0.2.2.2.1, z0.2.2.2.2.1, z0.2.2.2.2.2.1))))
theorem L40_6_ok (C : Callee) (p3 : Int) (z0 : (Int × Int × Int × Int × Int × Int × Int)) : runs Try.prog C (cfg.fn 40) (finLoop ((cfg.fn 40).keep 6) ((cfg.fn 40).al 6)) [] (execA Try.prog C (cfg.fn 40) (nr Try.f40 [false, false, true, false, true, true]) ((fun z0 : (Int × Int × Int × Int × Int × Int × Int) => (mkE [(1, I z0.1), (2, I z0.2.1), (4, .ba 32 0), (8, .ba 64 0), (39, I p3), (40, I z0.2.2.2.2.2.2)] [(32, .box [I z0.2.2.1, I z0.2.2.2.1, I z0.2.2.2.2.1, I z0.2.2.2.2.2.1] false), (64, .box [I 0, I 0, I 0, I 0] false)] 64)) z0)) = (L40_6 p3 z0).map (Sum.elim (fun z => .inl ((fun z0 : (Int × Int × Int × Int × Int × Int × Int) => (mkE [(1, I z0.1), (2, I z0.2.1), (4, .ba 32 0), (8, .ba 64 0), (39, I p3), (40, I z0.2.2.2.2.2.2)] [(32, .box [I z0.2.2.1, I z0.2.2.2.1, I z0.2.2.2.2.1, I z0.2.2.2.2.2.1] false), (64, .box [I 0, I 0, I 0, I 0] false)] 64)) z)) (fun x => .inr ((fun (x : (Int × Int × Int × Bool × Int × Int × Int × Int)) => (.exit 1, (mkE [(1, I x.1), (2, I x.2.1), (4, .ba 32 0), (8, .ba 64 0), (39, I p3), (40, I x.2.2.1), (41, B x.2.2.2.1)] [(32, .box [I x.2.2.2.2.1, I x.2.2.2.2.2.1, I x.2.2.2.2.2.2.1, I x.2.2.2.2.2.2.2] false), (64, .box [I 0, I 0, I 0, I 0] false)] 64))) x))) := by
  unfold L40_6
  refine gS 0 ?_
  refine gR 6 (rg Try.f40 6) ?_
  refine se (mkE [(1, I z0.1), (2, I z0.2.1), (4, .ba 32 0), (8, .ba 64 0), (39, I p3), (40, I z0.2.2.2.2.2.2), (41, B (ltI z0.2.2.2.2.2.2 p3))] [(32, .box [I z0.2.2.1, I z0.2.2.2.1, I z0.2.2.2.2.1, I z0.2.2.2.2.2.1] false), (64, .box [I 0, I 0, I 0, I 0] false)] 64) ?_
  refine pN ?_
  refine pS ?_
  refine gS 7 ?_
  refine gC 41 (ltI z0.2.2.2.2.2.2 p3) ?_ ?_
  · refine gK ?_
    refine pN ?_
    refine pS ?_
    refine gS 10 ?_
    refine gB 2 ?_
    refine gS 8 ?_
    refine dq 7 (rg Try.f40 7) (mkE [(1, I z0.1), (2, I z0.2.1), (4, .ba 32 0), (8, .ba 64 0), (10, I (subI .i64 (subI .i64 z0.2.1 1) (subI .i64 (addI .i64 z0.2.2.2.1 z0.2.2.2.2.2.1) 1))), (11, I z0.2.2.1), (39, I p3), (40, I z0.2.2.2.2.2.2)] [(32, .box [I z0.2.2.1, I z0.2.2.2.1, I z0.2.2.2.2.1, I z0.2.2.2.2.2.1] false), (64, .box [I 0, I 0, I 0, I 0] false)] 64) ?_
    refine pN ?_
    refine pS ?_
    refine gS 9 ?_
    refine gR 8 (rg Try.f40 8) ?_
    refine se (mkE [(1, I z0.1), (2, I z0.2.1), (4, .ba 32 0), (8, .ba 64 0), (39, I p3), (40, I z0.2.2.2.2.2.2)] [(32, .box [I (subI .i64 (subI .i64 z0.2.1 1) (subI .i64 (addI .i64 z0.2.2.2.1 z0.2.2.2.2.2.1) 1)), I z0.2.2.1, I z0.2.2.2.2.2.1, I z0.2.2.2.2.1] false), (64, .box [I 0, I 0, I 0, I 0] false)] 64) ?_
    refine pN ?_
    refine pS ?_
    refine gR 9 (rg Try.f40 9) ?_
    refine se (mkE [(1, I z0.2.1), (2, I z0.1), (4, .ba 32 0), (8, .ba 64 0), (39, I p3), (40, I z0.2.2.2.2.2.2)] [(32, .box [I (subI .i64 (subI .i64 z0.2.1 1) (subI .i64 (addI .i64 z0.2.2.2.1 z0.2.2.2.2.2.1) 1)), I z0.2.2.1, I z0.2.2.2.2.2.1, I z0.2.2.2.2.1] false), (64, .box [I 0, I 0, I 0, I 0] false)] 64) ?_
    refine pB ?_
    refine pN ?_
    refine pS ?_
    refine gR 10 (rg Try.f40 10) ?_
    refine se (mkE [(1, I z0.2.1), (2, I z0.1), (4, .ba 32 0), (8, .ba 64 0), (39, I p3), (40, I (addI .i64 z0.2.2.2.2.2.2 1))] [(32, .box [I (subI .i64 (subI .i64 z0.2.1 1) (subI .i64 (addI .i64 z0.2.2.2.1 z0.2.2.2.2.2.1) 1)), I z0.2.2.1, I z0.2.2.2.2.2.1, I z0.2.2.2.2.1] false), (64, .box [I 0, I 0, I 0, I 0] false)] 64) ?_
    exact pL
  · refine gX 1 ?_
    exact pL
noncomputable def T40 (p0 : S63) (p1 : Int) (p2 : Int) (p3 : Int) : Option (S63 × Int) := ((T118 p0).bind fun x1 => (bif (neI x1 0) then (some ((S63.mk 0 0 0 0), 1)) else ((T131 p1).bind fun x2 => (bif (!x2) then (some ((S63.mk 0 0 0 0), 1)) else ((T131 p2).bind fun x3 => (bif (!x3) then (some ((S63.mk 0 0 0 0), 1)) else ((T132 p3 0 3).bind fun x4 => (bif (!x4) then (some ((S63.mk 0 0 0 0), 1)) else ((T133 p0 p1 p2).bind fun x5 => (bif (!x5) then (some ((S63.mk 0 0 0 0), 3)) else ((iter (L40_6 p3) (p1, p2, p0.f0, p0.f1, p0.f2, p0.f3, 0)).bind fun y6 => (some ((S63.mk y6.2.2.2.2.1 y6.2.2.2.2.2.1 y6.2.2.2.2.2.2.1 y6.2.2.2.2.2.2.2), 0)))))))))))))
theorem B40 (C : Callee) (h118 : ∀ (p0 : S63), C 118 [a63 p0] = (T118 p0).map I) (h131 : ∀ (p0 : Int), C 131 [I p0] = (T131 p0).map B) (h132 : ∀ (p0 : Int) (p1 : Int) (p2 : Int), C 132 [I p0, I p1, I p2] = (T132 p0 p1 p2).map B) (h133 : ∀ (p0 : S63) (p1 : Int) (p2 : Int), C 133 [a63 p0, I p1, I p2] = (T133 p0 p1 p2).map B) (p0 : S63) (p1 : Int) (p2 : Int) (p3 : Int) : runs Try.prog C (cfg.fn 40) (finFn Try.prog (cfg.fn 40).byval Try.f40) [] (execA Try.prog C (cfg.fn 40) (nr Try.f40 []) (frame0 [a63 p0, I p1, I p2, I p3] 64 false)) = (T40 p0 p1 p2 p3).map (fun r => AV.tup [a63 r.1, I r.2]) := by
  unfold T40
  refine gS 1 ?_
  refine gR 0 (rg Try.f40 0) ?_
  refine se (mkE [(1, I p1), (2, I p2), (3, I p3), (4, .ba 32 0), (8, .ba 64 0)] [(32, .box [I p0.f0, I p0.f1, I p0.f2, I p0.f3] false), (64, .box [I 0, I 0, I 0, I 0] false)] 64) ?_
  refine pN ?_
  refine pS ?_
  refine gS 5 ?_
  refine gB 0 ?_
  refine gS 0 ?_
  refine gR 1 (rg Try.f40 1) ?_
  refine sg 1 (mkE [(13, a63 p0), (1, I p1), (2, I p2), (3, I p3), (4, .ba 32 0), (8, .ba 64 0)] [(32, .box [I p0.f0, I p0.f1, I p0.f2, I p0.f3] false), (64, .box [I 0, I 0, I 0, I 0] false)] 64) ?_
  refine co 14 [] (h118 p0) (fun x1 => ?_)
  refine sg 4 (mkE [(16, B (neI x1 0)), (15, B (neI x1 0)), (14, I x1), (13, a63 p0), (1, I p1), (2, I p2), (3, I p3), (4, .ba 32 0), (8, .ba 64 0)] [(32, .box [I p0.f0, I p0.f1, I p0.f2, I p0.f3] false), (64, .box [I 0, I 0, I 0, I 0] false)] 64) ?_
  refine sb 16 (neI x1 0) ?_ ?_
  · refine se (mkE [(1, I p1), (2, I p2), (3, I p3), (4, .ba 32 0), (8, .ba 64 0), (12, B true)] [(32, .box [I p0.f0, I p0.f1, I p0.f2, I p0.f3] false), (64, .box [I 0, I 0, I 0, I 0] false)] 64) ?_
    refine pN ?_
    refine pS ?_
    refine gT (.tmp 12) ?_
    refine gS 0 ?_
    refine gR 2 (rg Try.f40 2) ?_
    refine se (mkE [(8, .ba 64 0), (9, I 1)] [(64, .box [I 0, I 0, I 0, I 0] false)] 64) ?_
    refine pN ?_
    refine pS ?_
    refine gE ?_
    exact pL
  · refine sg 5 (mkE [(17, I p1), (16, B false), (16, B (neI x1 0)), (15, B (neI x1 0)), (14, I x1), (13, a63 p0), (1, I p1), (2, I p2), (3, I p3), (4, .ba 32 0), (8, .ba 64 0)] [(32, .box [I p0.f0, I p0.f1, I p0.f2, I p0.f3] false), (64, .box [I 0, I 0, I 0, I 0] false)] 64) ?_
    refine co 18 [] (h131 p1) (fun x2 => ?_)
    refine sg 9 (mkE [(21, B (!x2)), (20, B (!x2)), (19, B (!x2)), (18, B x2), (17, I p1), (16, B false), (16, B (neI x1 0)), (15, B (neI x1 0)), (14, I x1), (13, a63 p0), (1, I p1), (2, I p2), (3, I p3), (4, .ba 32 0), (8, .ba 64 0)] [(32, .box [I p0.f0, I p0.f1, I p0.f2, I p0.f3] false), (64, .box [I 0, I 0, I 0, I 0] false)] 64) ?_
    refine sb 21 (!x2) ?_ ?_
    · refine se (mkE [(1, I p1), (2, I p2), (3, I p3), (4, .ba 32 0), (8, .ba 64 0), (12, B true)] [(32, .box [I p0.f0, I p0.f1, I p0.f2, I p0.f3] false), (64, .box [I 0, I 0, I 0, I 0] false)] 64) ?_
      refine pN ?_
      refine pS ?_
      refine gT (.tmp 12) ?_
      refine gS 0 ?_
      refine gR 2 (rg Try.f40 2) ?_
      refine se (mkE [(8, .ba 64 0), (9, I 1)] [(64, .box [I 0, I 0, I 0, I 0] false)] 64) ?_
      refine pN ?_
      refine pS ?_
      refine gE ?_
      exact pL
    · refine sg 10 (mkE [(22, I p2), (21, B false), (21, B (!x2)), (20, B (!x2)), (19, B (!x2)), (18, B x2), (17, I p1), (16, B false), (16, B (neI x1 0)), (15, B (neI x1 0)), (14, I x1), (13, a63 p0), (1, I p1), (2, I p2), (3, I p3), (4, .ba 32 0), (8, .ba 64 0)] [(32, .box [I p0.f0, I p0.f1, I p0.f2, I p0.f3] false), (64, .box [I 0, I 0, I 0, I 0] false)] 64) ?_
      refine co 23 [] (h131 p2) (fun x3 => ?_)
      refine sg 14 (mkE [(26, B (!x3)), (25, B (!x3)), (24, B (!x3)), (23, B x3), (22, I p2), (21, B false), (21, B (!x2)), (20, B (!x2)), (19, B (!x2)), (18, B x2), (17, I p1), (16, B false), (16, B (neI x1 0)), (15, B (neI x1 0)), (14, I x1), (13, a63 p0), (1, I p1), (2, I p2), (3, I p3), (4, .ba 32 0), (8, .ba 64 0)] [(32, .box [I p0.f0, I p0.f1, I p0.f2, I p0.f3] false), (64, .box [I 0, I 0, I 0, I 0] false)] 64) ?_
      refine sb 26 (!x3) ?_ ?_
      · refine se (mkE [(1, I p1), (2, I p2), (3, I p3), (4, .ba 32 0), (8, .ba 64 0), (12, B true)] [(32, .box [I p0.f0, I p0.f1, I p0.f2, I p0.f3] false), (64, .box [I 0, I 0, I 0, I 0] false)] 64) ?_
        refine pN ?_
        refine pS ?_
        refine gT (.tmp 12) ?_
        refine gS 0 ?_
        refine gR 2 (rg Try.f40 2) ?_
        refine se (mkE [(8, .ba 64 0), (9, I 1)] [(64, .box [I 0, I 0, I 0, I 0] false)] 64) ?_
        refine pN ?_
        refine pS ?_
        refine gE ?_
        exact pL
      · refine sg 15 (mkE [(27, I p3), (26, B false), (26, B (!x3)), (25, B (!x3)), (24, B (!x3)), (23, B x3), (22, I p2), (21, B false), (21, B (!x2)), (20, B (!x2)), (19, B (!x2)), (18, B x2), (17, I p1), (16, B false), (16, B (neI x1 0)), (15, B (neI x1 0)), (14, I x1), (13, a63 p0), (1, I p1), (2, I p2), (3, I p3), (4, .ba 32 0), (8, .ba 64 0)] [(32, .box [I p0.f0, I p0.f1, I p0.f2, I p0.f3] false), (64, .box [I 0, I 0, I 0, I 0] false)] 64) ?_
        refine co 28 [] (h132 p3 0 3) (fun x4 => ?_)
        refine se (mkE [(1, I p1), (2, I p2), (3, I p3), (4, .ba 32 0), (8, .ba 64 0), (12, B (!x4))] [(32, .box [I p0.f0, I p0.f1, I p0.f2, I p0.f3] false), (64, .box [I 0, I 0, I 0, I 0] false)] 64) ?_
        refine pN ?_
        refine pS ?_
        refine gC 12 (!x4) ?_ ?_
        · refine gS 0 ?_
          refine gR 2 (rg Try.f40 2) ?_
          refine se (mkE [(8, .ba 64 0), (9, I 1)] [(64, .box [I 0, I 0, I 0, I 0] false)] 64) ?_
          refine pN ?_
          refine pS ?_
          refine gE ?_
          exact pL
        · refine gS 0 ?_
          refine gR 3 (rg Try.f40 3) ?_
          refine sg 3 (mkE [(35, I p2), (34, I p1), (33, a63 p0), (1, I p1), (2, I p2), (3, I p3), (4, .ba 32 0), (8, .ba 64 0), (12, B (!x4))] [(32, .box [I p0.f0, I p0.f1, I p0.f2, I p0.f3] false), (64, .box [I 0, I 0, I 0, I 0] false)] 64) ?_
          refine co 36 [] (h133 p0 p1 p2) (fun x5 => ?_)
          refine se (mkE [(1, I p1), (2, I p2), (3, I p3), (4, .ba 32 0), (8, .ba 64 0), (32, B (!x5))] [(32, .box [I p0.f0, I p0.f1, I p0.f2, I p0.f3] false), (64, .box [I 0, I 0, I 0, I 0] false)] 64) ?_
          refine pN ?_
          refine pS ?_
          refine gC 32 (!x5) ?_ ?_
          · refine gS 0 ?_
            refine gR 4 (rg Try.f40 4) ?_
            refine se (mkE [(8, .ba 64 0), (9, I 3)] [(64, .box [I 0, I 0, I 0, I 0] false)] 64) ?_
            refine pN ?_
            refine pS ?_
            refine gE ?_
            exact pL
          · refine gK ?_
            refine pB ?_
            refine pN ?_
            refine pS ?_
            refine gS 11 ?_
            refine gS 6 ?_
            refine gR 5 (rg Try.f40 5) ?_
            refine se (mkE [(1, I p1), (2, I p2), (4, .ba 32 0), (8, .ba 64 0), (39, I p3), (40, I 0)] [(32, .box [I p0.f0, I p0.f1, I p0.f2, I p0.f3] false), (64, .box [I 0, I 0, I 0, I 0] false)] 64) ?_
            refine pN ?_
            refine pS ?_
            refine gB 1 ?_
            refine lo [(1, none), (2, none), (4, none), (8, none), (39, none), (40, none)] [] (L40_6 p3) (fun z0 : (Int × Int × Int × Int × Int × Int × Int) => (mkE [(1, I z0.1), (2, I z0.2.1), (4, .ba 32 0), (8, .ba 64 0), (39, I p3), (40, I z0.2.2.2.2.2.2)] [(32, .box [I z0.2.2.1, I z0.2.2.2.1, I z0.2.2.2.2.1, I z0.2.2.2.2.2.1] false), (64, .box [I 0, I 0, I 0, I 0] false)] 64)) (fun (x : (Int × Int × Int × Bool × Int × Int × Int × Int)) => (.exit 1, (mkE [(1, I x.1), (2, I x.2.1), (4, .ba 32 0), (8, .ba 64 0), (39, I p3), (40, I x.2.2.1), (41, B x.2.2.2.1)] [(32, .box [I x.2.2.2.2.1, I x.2.2.2.2.2.1, I x.2.2.2.2.2.2.1, I x.2.2.2.2.2.2.2] false), (64, .box [I 0, I 0, I 0, I 0] false)] 64))) (p1, p2, p0.f0, p0.f1, p0.f2, p0.f3, 0) (fun z => L40_6_ok C p3 z) ?_
            intro y6
            refine pH ?_
            refine pN ?_
            refine pS ?_
            refine gS 0 ?_
            refine gR 11 (rg Try.f40 11) ?_
            refine se (mkE [(8, .ba 64 0), (9, I 0)] [(64, .box [I y6.2.2.2.2.1, I y6.2.2.2.2.2.1, I y6.2.2.2.2.2.2.1, I y6.2.2.2.2.2.2.2] false)] 64) ?_
            refine pN ?_
            refine pS ?_
            refine gE ?_
            exact pL
theorem F40 (m : Nat) (hm : 3 ≤ m) (p0 : S63) (p1 : Int) (p2 : Int) (p3 : Int) : callA Try.prog cfg m 40 [a63 p0, I p1, I p2, I p3] = (T40 p0 p1 p2 p3).map (fun r => AV.tup [a63 r.1, I r.2]) := by
  obtain ⟨q, rfl⟩ : ∃ q, m = q + 1 := ⟨m - 1, by omega⟩
  exact (callA_body (fn := Try.f40) (c := body_ Try.f40) q _ (by kernel_rfl) (by kernel_rfl) (by kernel_rfl)).trans (B40 _ (fun p0 => F118 q (by omega) p0) (fun p0 => F131 q (by omega) p0) (fun p0 p1 p2 => F132 q (by omega) p0 p1 p2) (fun p0 p1 p2 => F133 q (by omega) p0 p1 p2) p0 p1 p2 p3)

noncomputable def T134 (p0 : S63) (p1 : Int) (p2 : Int) (p3 : Int) (p4 : Int) : Option S63 := ((quoO .i64 (mulI .i64 p0.f0 p3) p1).bind fun x1 => ((quoO .i64 (mulI .i64 p0.f1 p4) p2).bind fun x2 => ((quoO .i64 (mulI .i64 (addI .i64 p0.f0 p0.f2) p3) p1).bind fun x3 => ((quoO .i64 (mulI .i64 (addI .i64 p0.f1 p0.f3) p4) p2).bind fun x4 => (bif (eqI (subI .i64 x3 x1) 0) then (some (S63.mk 0 0 0 0)) else (bif (eqI (subI .i64 x4 x2) 0) then (some (S63.mk 0 0 0 0)) else (some (S63.mk x1 x2 (subI .i64 x3 x1) (subI .i64 x4 x2)))))))))
theorem B134 (C : Callee) (p0 : S63) (p1 : Int) (p2 : Int) (p3 : Int) (p4 : Int) : runs Try.prog C (cfg.fn 134) (finFn Try.prog (cfg.fn 134).byval Try.f134) [] (execA Try.prog C (cfg.fn 134) (nr Try.f134 []) (frame0 [a63 p0, I p1, I p2, I p3, I p4] 61 false)) = (T134 p0 p1 p2 p3 p4).map a63 := by
  unfold T134
  refine gS 1 ?_
  refine gR 0 (rg Try.f134 0) ?_
  refine se (mkE [(1, I p1), (2, I p2), (3, I p3), (4, I p4), (5, .ba 40 0), (10, .ba 80 0)] [(40, .box [I p0.f0, I p0.f1, I p0.f2, I p0.f3] false), (80, .box [I 0, I 0, I 0, I 0] false)] 61) ?_
  refine pN ?_
  refine pS ?_
  refine gS 2 ?_
  refine gD 1 14 (rg Try.f134 1) [0, 1, 2, 3, 4, 5, 6, 7, 8, 9, 10, 11, 12, 13] ?_
  refine dg 5 [(some 14, qe (.ba 40 0)), (some 15, qe (I p0.f0)), (some 16, qe (I p3)), (some 17, qe (I (mulI .i64 p0.f0 p3))), (some 18, qe (I p1))] ?_
  refine dv 19 (mkE [(18, I p1), (17, I (mulI .i64 p0.f0 p3)), (16, I p3), (15, I p0.f0), (14, .ba 40 0), (1, I p1), (2, I p2), (3, I p3), (4, I p4), (5, .ba 40 0), (10, .ba 80 0)] [(40, .box [I p0.f0, I p0.f1, I p0.f2, I p0.f3] false), (80, .box [I 0, I 0, I 0, I 0] false)] 61) (quoE 3 .i64 (.tmp 17) (.tmp 18) (mulI .i64 p0.f0 p3) p1) (fun x1 => ?_)
  refine dg 11 [(some 14, qe (.ba 40 0)), (some 15, qe (I p0.f0)), (some 16, qe (I p3)), (some 17, qe (I (mulI .i64 p0.f0 p3))), (some 18, qe (I p1)), (some 19, qe (I x1)), (some 20, qe (.ba 40 1)), (some 21, qe (I p0.f1)), (some 22, qe (I p4)), (some 23, qe (I (mulI .i64 p0.f1 p4))), (some 24, qe (I p2))] ?_
  refine dv 25 (mkE [(24, I p2), (23, I (mulI .i64 p0.f1 p4)), (22, I p4), (21, I p0.f1), (20, .ba 40 1), (1, I p1), (2, I p2), (3, I p3), (4, I p4), (5, .ba 40 0), (10, .ba 80 0)] [(40, .box [I p0.f0, I p0.f1, I p0.f2, I p0.f3] false), (80, .box [I 0, I 0, I 0, I 0] false)] 61) (quoE 3 .i64 (.tmp 23) (.tmp 24) (mulI .i64 p0.f1 p4) p2) (fun x2 => ?_)
  refine dg 14 [(some 14, qe (.ba 40 0)), (some 15, qe (I p0.f0)), (some 16, qe (I p3)), (some 17, qe (I (mulI .i64 p0.f0 p3))), (some 18, qe (I p1)), (some 19, qe (I x1)), (some 20, qe (.ba 40 1)), (some 21, qe (I p0.f1)), (some 22, qe (I p4)), (some 23, qe (I (mulI .i64 p0.f1 p4))), (some 24, qe (I p2)), (some 25, qe (I x2)), (some 11, qe (I x1)), (some 12, qe (I x2))] ?_
  refine de (mkE [(12, I x2), (11, I x1), (25, I x2), (24, I p2), (23, I (mulI .i64 p0.f1 p4)), (22, I p4), (21, I p0.f1), (20, .ba 40 1), (19, I x1), (18, I p1), (17, I (mulI .i64 p0.f0 p3)), (16, I p3), (15, I p0.f0), (14, .ba 40 0), (1, I p1), (2, I p2), (3, I p3), (4, I p4), (5, .ba 40 0), (10, .ba 80 0)] [(40, .box [I p0.f0, I p0.f1, I p0.f2, I p0.f3] false), (80, .box [I 0, I 0, I 0, I 0] false)] 61) ?_
  refine se (mkE [(1, I p1), (2, I p2), (3, I p3), (4, I p4), (5, .ba 40 0), (10, .ba 80 0), (11, I x1), (12, I x2)] [(40, .box [I p0.f0, I p0.f1, I p0.f2, I p0.f3] false), (80, .box [I 0, I 0, I 0, I 0] false)] 61) ?_
  refine pN ?_
  refine pS ?_
  refine gS 3 ?_
  refine gD 2 26 (rg Try.f134 2) [0, 1, 2, 3, 4, 5, 6, 7, 8, 9, 10, 11, 12, 13, 14, 15, 16, 17, 18, 19, 20, 21, 22, 23, 24, 25, 26] ?_
  refine dg 10 [(some 26, qe (I x1)), (some 27, qe (I x2)), (some 28, qe (.ba 40 0)), (some 29, qe (I p0.f0)), (some 30, qe (.ba 40 2)), (some 31, qe (I p0.f2)), (some 32, qe (I (addI .i64 p0.f0 p0.f2))), (some 33, qe (I p3)), (some 34, qe (I (mulI .i64 (addI .i64 p0.f0 p0.f2) p3))), (some 35, qe (I p1))] ?_
  refine dv 36 (mkE [(35, I p1), (34, I (mulI .i64 (addI .i64 p0.f0 p0.f2) p3)), (33, I p3), (32, I (addI .i64 p0.f0 p0.f2)), (31, I p0.f2), (30, .ba 40 2), (29, I p0.f0), (28, .ba 40 0), (1, I p1), (2, I p2), (3, I p3), (4, I p4), (5, .ba 40 0), (10, .ba 80 0), (11, I x1), (12, I x2)] [(40, .box [I p0.f0, I p0.f1, I p0.f2, I p0.f3] false), (80, .box [I 0, I 0, I 0, I 0] false)] 61) (quoE 3 .i64 (.tmp 34) (.tmp 35) (mulI .i64 (addI .i64 p0.f0 p0.f2) p3) p1) (fun x3 => ?_)
  refine dg 21 [(some 26, qe (I x1)), (some 27, qe (I x2)), (some 28, qe (.ba 40 0)), (some 29, qe (I p0.f0)), (some 30, qe (.ba 40 2)), (some 31, qe (I p0.f2)), (some 32, qe (I (addI .i64 p0.f0 p0.f2))), (some 33, qe (I p3)), (some 34, qe (I (mulI .i64 (addI .i64 p0.f0 p0.f2) p3))), (some 35, qe (I p1)), (some 36, qe (I x3)), (some 37, qe (I x1)), (some 38, qe (I (subI .i64 x3 x1))), (some 39, qe (.ba 40 1)), (some 40, qe (I p0.f1)), (some 41, qe (.ba 40 3)), (some 42, qe (I p0.f3)), (some 43, qe (I (addI .i64 p0.f1 p0.f3))), (some 44, qe (I p4)), (some 45, qe (I (mulI .i64 (addI .i64 p0.f1 p0.f3) p4))), (some 46, qe (I p2))] ?_
  refine dv 47 (mkE [(46, I p2), (45, I (mulI .i64 (addI .i64 p0.f1 p0.f3) p4)), (44, I p4), (43, I (addI .i64 p0.f1 p0.f3)), (42, I p0.f3), (41, .ba 40 3), (40, I p0.f1), (39, .ba 40 1), (1, I p1), (2, I p2), (3, I p3), (4, I p4), (5, .ba 40 0), (10, .ba 80 0), (11, I x1), (12, I x2)] [(40, .box [I p0.f0, I p0.f1, I p0.f2, I p0.f3] false), (80, .box [I 0, I 0, I 0, I 0] false)] 61) (quoE 3 .i64 (.tmp 45) (.tmp 46) (mulI .i64 (addI .i64 p0.f1 p0.f3) p4) p2) (fun x4 => ?_)
  refine dg 26 [(some 26, qe (I x1)), (some 27, qe (I x2)), (some 28, qe (.ba 40 0)), (some 29, qe (I p0.f0)), (some 30, qe (.ba 40 2)), (some 31, qe (I p0.f2)), (some 32, qe (I (addI .i64 p0.f0 p0.f2))), (some 33, qe (I p3)), (some 34, qe (I (mulI .i64 (addI .i64 p0.f0 p0.f2) p3))), (some 35, qe (I p1)), (some 36, qe (I x3)), (some 37, qe (I x1)), (some 38, qe (I (subI .i64 x3 x1))), (some 39, qe (.ba 40 1)), (some 40, qe (I p0.f1)), (some 41, qe (.ba 40 3)), (some 42, qe (I p0.f3)), (some 43, qe (I (addI .i64 p0.f1 p0.f3))), (some 44, qe (I p4)), (some 45, qe (I (mulI .i64 (addI .i64 p0.f1 p0.f3) p4))), (some 46, qe (I p2)), (some 47, qe (I x4)), (some 48, qe (I x2)), (some 49, qe (I (subI .i64 x4 x2))), (some 50, qe (.agg [I x1, I x2, I (subI .i64 x3 x1), I (subI .i64 x4 x2)])), (some 13, { e := { val := .ba 104 0, news := [(104, .box [I 0, I 0, I 0, I 0] false)] } })] ?_
  refine de (mkE [(13, .ba 104 0), (50, .agg [I x1, I x2, I (subI .i64 x3 x1), I (subI .i64 x4 x2)]), (49, I (subI .i64 x4 x2)), (48, I x2), (47, I x4), (46, I p2), (45, I (mulI .i64 (addI .i64 p0.f1 p0.f3) p4)), (44, I p4), (43, I (addI .i64 p0.f1 p0.f3)), (42, I p0.f3), (41, .ba 40 3), (40, I p0.f1), (39, .ba 40 1), (38, I (subI .i64 x3 x1)), (37, I x1), (36, I x3), (35, I p1), (34, I (mulI .i64 (addI .i64 p0.f0 p0.f2) p3)), (33, I p3), (32, I (addI .i64 p0.f0 p0.f2)), (31, I p0.f2), (30, .ba 40 2), (29, I p0.f0), (28, .ba 40 0), (27, I x2), (26, I x1), (1, I p1), (2, I p2), (3, I p3), (4, I p4), (5, .ba 40 0), (10, .ba 80 0), (11, I x1), (12, I x2)] [(104, .box [I 0, I 0, I 0, I 0] false), (40, .box [I p0.f0, I p0.f1, I p0.f2, I p0.f3] false), (80, .box [I 0, I 0, I 0, I 0] false)] 61) ?_
  refine se (mkE [(10, .ba 80 0), (13, .ba 104 0)] [(80, .box [I 0, I 0, I 0, I 0] false), (104, .box [I x1, I x2, I (subI .i64 x3 x1), I (subI .i64 x4 x2)] false)] 61) ?_
  refine pN ?_
  refine pS ?_
  refine gS 5 ?_
  refine gS 0 ?_
  refine gR 3 (rg Try.f134 3) ?_
  refine sg 4 (mkE [(54, B (eqI (subI .i64 x3 x1) 0)), (53, B (eqI (subI .i64 x3 x1) 0)), (52, I (subI .i64 x3 x1)), (51, .ba 104 2), (10, .ba 80 0), (13, .ba 104 0)] [(80, .box [I 0, I 0, I 0, I 0] false), (104, .box [I x1, I x2, I (subI .i64 x3 x1), I (subI .i64 x4 x2)] false)] 61) ?_
  refine sb 54 (eqI (subI .i64 x3 x1) 0) ?_ ?_
  · refine se (mkE [(10, .ba 80 0), (13, .ba 104 0), (58, B true)] [(80, .box [I 0, I 0, I 0, I 0] false), (104, .box [I x1, I x2, I (subI .i64 x3 x1), I (subI .i64 x4 x2)] false)] 61) ?_
    refine pN ?_
    refine pS ?_
    refine gT (.tmp 58) ?_
    refine gS 0 ?_
    refine gR 4 (rg Try.f134 4) ?_
    refine se (mkE [(10, .ba 80 0)] [(80, .box [I 0, I 0, I 0, I 0] false)] 61) ?_
    refine pN ?_
    refine pS ?_
    refine gE ?_
    exact pL
  · refine se (mkE [(10, .ba 80 0), (13, .ba 104 0), (58, B (eqI (subI .i64 x4 x2) 0))] [(80, .box [I 0, I 0, I 0, I 0] false), (104, .box [I x1, I x2, I (subI .i64 x3 x1), I (subI .i64 x4 x2)] false)] 61) ?_
    refine pN ?_
    refine pS ?_
    refine gC 58 (eqI (subI .i64 x4 x2) 0) ?_ ?_
    · refine gS 0 ?_
      refine gR 4 (rg Try.f134 4) ?_
      refine se (mkE [(10, .ba 80 0)] [(80, .box [I 0, I 0, I 0, I 0] false)] 61) ?_
      refine pN ?_
      refine pS ?_
      refine gE ?_
      exact pL
    · refine gK ?_
      refine pN ?_
      refine pS ?_
      refine gS 0 ?_
      refine gR 5 (rg Try.f134 5) ?_
      refine se (mkE [(10, .ba 80 0)] [(80, .box [I x1, I x2, I (subI .i64 x3 x1), I (subI .i64 x4 x2)] false)] 61) ?_
      refine pN ?_
      refine pS ?_
      refine gE ?_
      exact pL
theorem F134 (m : Nat) (hm : 1 ≤ m) (p0 : S63) (p1 : Int) (p2 : Int) (p3 : Int) (p4 : Int) : callA Try.prog cfg m 134 [a63 p0, I p1, I p2, I p3, I p4] = (T134 p0 p1 p2 p3 p4).map a63 := by
  obtain ⟨q, rfl⟩ : ∃ q, m = q + 1 := ⟨m - 1, by omega⟩
  exact (callA_body (fn := Try.f134) (c := body_ Try.f134) q _ (by kernel_rfl) (by kernel_rfl) (by kernel_rfl)).trans (B134 _ p0 p1 p2 p3 p4)

noncomputable def T41 (p0 : S63) (p1 : Int) (p2 : Int) (p3 : Int) (p4 : Int) : Option (S63 × Int) := ((T118 p0).bind fun x1 => (bif (neI x1 0) then (some ((S63.mk 0 0 0 0), 1)) else ((T131 p1).bind fun x2 => (bif (!x2) then (some ((S63.mk 0 0 0 0), 1)) else ((T131 p2).bind fun x3 => (bif (!x3) then (some ((S63.mk 0 0 0 0), 1)) else ((T131 p3).bind fun x4 => (bif (!x4) then (some ((S63.mk 0 0 0 0), 1)) else ((T131 p4).bind fun x5 => (bif (!x5) then (some ((S63.mk 0 0 0 0), 1)) else ((T133 p0 p1 p2).bind fun x6 => (bif (!x6) then (some ((S63.mk 0 0 0 0), 3)) else ((T134 p0 p1 p2 p3 p4).bind fun x7 => (some (x7, 0)))))))))))))))
theorem B41 (C : Callee) (h118 : ∀ (p0 : S63), C 118 [a63 p0] = (T118 p0).map I) (h131 : ∀ (p0 : Int), C 131 [I p0] = (T131 p0).map B) (h133 : ∀ (p0 : S63) (p1 : Int) (p2 : Int), C 133 [a63 p0, I p1, I p2] = (T133 p0 p1 p2).map B) (h134 : ∀ (p0 : S63) (p1 : Int) (p2 : Int) (p3 : Int) (p4 : Int), C 134 [a63 p0, I p1, I p2, I p3, I p4] = (T134 p0 p1 p2 p3 p4).map a63) (p0 : S63) (p1 : Int) (p2 : Int) (p3 : Int) (p4 : Int) : runs Try.prog C (cfg.fn 41) (finFn Try.prog (cfg.fn 41).byval Try.f41) [] (execA Try.prog C (cfg.fn 41) (nr Try.f41 []) (frame0 [a63 p0, I p1, I p2, I p3, I p4] 50 false)) = (T41 p0 p1 p2 p3 p4).map (fun r => AV.tup [a63 r.1, I r.2]) := by
  unfold T41
  refine gS 1 ?_
  refine gR 0 (rg Try.f41 0) ?_
  refine se (mkE [(1, I p1), (2, I p2), (3, I p3), (4, I p4), (5, .ba 40 0), (10, .ba 80 0)] [(40, .box [I p0.f0, I p0.f1, I p0.f2, I p0.f3] false), (80, .box [I 0, I 0, I 0, I 0] false)] 50) ?_
  refine pN ?_
  refine pS ?_
  refine gS 5 ?_
  refine gB 0 ?_
  refine gS 0 ?_
  refine gR 1 (rg Try.f41 1) ?_
  refine sg 1 (mkE [(13, a63 p0), (1, I p1), (2, I p2), (3, I p3), (4, I p4), (5, .ba 40 0), (10, .ba 80 0)] [(40, .box [I p0.f0, I p0.f1, I p0.f2, I p0.f3] false), (80, .box [I 0, I 0, I 0, I 0] false)] 50) ?_
  refine co 14 [] (h118 p0) (fun x1 => ?_)
  refine sg 4 (mkE [(16, B (neI x1 0)), (15, B (neI x1 0)), (14, I x1), (13, a63 p0), (1, I p1), (2, I p2), (3, I p3), (4, I p4), (5, .ba 40 0), (10, .ba 80 0)] [(40, .box [I p0.f0, I p0.f1, I p0.f2, I p0.f3] false), (80, .box [I 0, I 0, I 0, I 0] false)] 50) ?_
  refine sb 16 (neI x1 0) ?_ ?_
  · refine se (mkE [(1, I p1), (2, I p2), (3, I p3), (4, I p4), (5, .ba 40 0), (10, .ba 80 0), (12, B true)] [(40, .box [I p0.f0, I p0.f1, I p0.f2, I p0.f3] false), (80, .box [I 0, I 0, I 0, I 0] false)] 50) ?_
    refine pN ?_
    refine pS ?_
    refine gT (.tmp 12) ?_
    refine gS 0 ?_
    refine gR 2 (rg Try.f41 2) ?_
    refine se (mkE [(10, .ba 80 0), (11, I 1)] [(80, .box [I 0, I 0, I 0, I 0] false)] 50) ?_
    refine pN ?_
    refine pS ?_
    refine gE ?_
    exact pL
  · refine sg 5 (mkE [(17, I p1), (16, B false), (16, B (neI x1 0)), (15, B (neI x1 0)), (14, I x1), (13, a63 p0), (1, I p1), (2, I p2), (3, I p3), (4, I p4), (5, .ba 40 0), (10, .ba 80 0)] [(40, .box [I p0.f0, I p0.f1, I p0.f2, I p0.f3] false), (80, .box [I 0, I 0, I 0, I 0] false)] 50) ?_
    refine co 18 [] (h131 p1) (fun x2 => ?_)
    refine sg 9 (mkE [(21, B (!x2)), (20, B (!x2)), (19, B (!x2)), (18, B x2), (17, I p1), (16, B false), (16, B (neI x1 0)), (15, B (neI x1 0)), (14, I x1), (13, a63 p0), (1, I p1), (2, I p2), (3, I p3), (4, I p4), (5, .ba 40 0), (10, .ba 80 0)] [(40, .box [I p0.f0, I p0.f1, I p0.f2, I p0.f3] false), (80, .box [I 0, I 0, I 0, I 0] false)] 50) ?_
    refine sb 21 (!x2) ?_ ?_
    · refine se (mkE [(1, I p1), (2, I p2), (3, I p3), (4, I p4), (5, .ba 40 0), (10, .ba 80 0), (12, B true)] [(40, .box [I p0.f0, I p0.f1, I p0.f2, I p0.f3] false), (80, .box [I 0, I 0, I 0, I 0] false)] 50) ?_
      refine pN ?_
      refine pS ?_
      refine gT (.tmp 12) ?_
      refine gS 0 ?_
      refine gR 2 (rg Try.f41 2) ?_
      refine se (mkE [(10, .ba 80 0), (11, I 1)] [(80, .box [I 0, I 0, I 0, I 0] false)] 50) ?_
      refine pN ?_
      refine pS ?_
      refine gE ?_
      exact pL
    · refine sg 10 (mkE [(22, I p2), (21, B false), (21, B (!x2)), (20, B (!x2)), (19, B (!x2)), (18, B x2), (17, I p1), (16, B false), (16, B (neI x1 0)), (15, B (neI x1 0)), (14, I x1), (13, a63 p0), (1, I p1), (2, I p2), (3, I p3), (4, I p4), (5, .ba 40 0), (10, .ba 80 0)] [(40, .box [I p0.f0, I p0.f1, I p0.f2, I p0.f3] false), (80, .box [I 0, I 0, I 0, I 0] false)] 50) ?_
      refine co 23 [] (h131 p2) (fun x3 => ?_)
      refine sg 14 (mkE [(26, B (!x3)), (25, B (!x3)), (24, B (!x3)), (23, B x3), (22, I p2), (21, B false), (21, B (!x2)), (20, B (!x2)), (19, B (!x2)), (18, B x2), (17, I p1), (16, B false), (16, B (neI x1 0)), (15, B (neI x1 0)), (14, I x1), (13, a63 p0), (1, I p1), (2, I p2), (3, I p3), (4, I p4), (5, .ba 40 0), (10, .ba 80 0)] [(40, .box [I p0.f0, I p0.f1, I p0.f2, I p0.f3] false), (80, .box [I 0, I 0, I 0, I 0] false)] 50) ?_
      refine sb 26 (!x3) ?_ ?_
      · refine se (mkE [(1, I p1), (2, I p2), (3, I p3), (4, I p4), (5, .ba 40 0), (10, .ba 80 0), (12, B true)] [(40, .box [I p0.f0, I p0.f1, I p0.f2, I p0.f3] false), (80, .box [I 0, I 0, I 0, I 0] false)] 50) ?_
        refine pN ?_
        refine pS ?_
        refine gT (.tmp 12) ?_
        refine gS 0 ?_
        refine gR 2 (rg Try.f41 2) ?_
        refine se (mkE [(10, .ba 80 0), (11, I 1)] [(80, .box [I 0, I 0, I 0, I 0] false)] 50) ?_
        refine pN ?_
        refine pS ?_
        refine gE ?_
        exact pL
      · refine sg 15 (mkE [(27, I p3), (26, B false), (26, B (!x3)), (25, B (!x3)), (24, B (!x3)), (23, B x3), (22, I p2), (21, B false), (21, B (!x2)), (20, B (!x2)), (19, B (!x2)), (18, B x2), (17, I p1), (16, B false), (16, B (neI x1 0)), (15, B (neI x1 0)), (14, I x1), (13, a63 p0), (1, I p1), (2, I p2), (3, I p3), (4, I p4), (5, .ba 40 0), (10, .ba 80 0)] [(40, .box [I p0.f0, I p0.f1, I p0.f2, I p0.f3] false), (80, .box [I 0, I 0, I 0, I 0] false)] 50) ?_
        refine co 28 [] (h131 p3) (fun x4 => ?_)
        refine sg 19 (mkE [(31, B (!x4)), (30, B (!x4)), (29, B (!x4)), (28, B x4), (27, I p3), (26, B false), (26, B (!x3)), (25, B (!x3)), (24, B (!x3)), (23, B x3), (22, I p2), (21, B false), (21, B (!x2)), (20, B (!x2)), (19, B (!x2)), (18, B x2), (17, I p1), (16, B false), (16, B (neI x1 0)), (15, B (neI x1 0)), (14, I x1), (13, a63 p0), (1, I p1), (2, I p2), (3, I p3), (4, I p4), (5, .ba 40 0), (10, .ba 80 0)] [(40, .box [I p0.f0, I p0.f1, I p0.f2, I p0.f3] false), (80, .box [I 0, I 0, I 0, I 0] false)] 50) ?_
        refine sb 31 (!x4) ?_ ?_
        · refine se (mkE [(1, I p1), (2, I p2), (3, I p3), (4, I p4), (5, .ba 40 0), (10, .ba 80 0), (12, B true)] [(40, .box [I p0.f0, I p0.f1, I p0.f2, I p0.f3] false), (80, .box [I 0, I 0, I 0, I 0] false)] 50) ?_
          refine pN ?_
          refine pS ?_
          refine gT (.tmp 12) ?_
          refine gS 0 ?_
          refine gR 2 (rg Try.f41 2) ?_
          refine se (mkE [(10, .ba 80 0), (11, I 1)] [(80, .box [I 0, I 0, I 0, I 0] false)] 50) ?_
          refine pN ?_
          refine pS ?_
          refine gE ?_
          exact pL
        · refine sg 20 (mkE [(32, I p4), (31, B false), (31, B (!x4)), (30, B (!x4)), (29, B (!x4)), (28, B x4), (27, I p3), (26, B false), (26, B (!x3)), (25, B (!x3)), (24, B (!x3)), (23, B x3), (22, I p2), (21, B false), (21, B (!x2)), (20, B (!x2)), (19, B (!x2)), (18, B x2), (17, I p1), (16, B false), (16, B (neI x1 0)), (15, B (neI x1 0)), (14, I x1), (13, a63 p0), (1, I p1), (2, I p2), (3, I p3), (4, I p4), (5, .ba 40 0), (10, .ba 80 0)] [(40, .box [I p0.f0, I p0.f1, I p0.f2, I p0.f3] false), (80, .box [I 0, I 0, I 0, I 0] false)] 50) ?_
          refine co 33 [] (h131 p4) (fun x5 => ?_)
          refine se (mkE [(1, I p1), (2, I p2), (3, I p3), (4, I p4), (5, .ba 40 0), (10, .ba 80 0), (12, B (!x5))] [(40, .box [I p0.f0, I p0.f1, I p0.f2, I p0.f3] false), (80, .box [I 0, I 0, I 0, I 0] false)] 50) ?_
          refine pN ?_
          refine pS ?_
          refine gC 12 (!x5) ?_ ?_
          · refine gS 0 ?_
            refine gR 2 (rg Try.f41 2) ?_
            refine se (mkE [(10, .ba 80 0), (11, I 1)] [(80, .box [I 0, I 0, I 0, I 0] false)] 50) ?_
            refine pN ?_
            refine pS ?_
            refine gE ?_
            exact pL
          · refine gS 0 ?_
            refine gR 3 (rg Try.f41 3) ?_
            refine sg 3 (mkE [(40, I p2), (39, I p1), (38, a63 p0), (1, I p1), (2, I p2), (3, I p3), (4, I p4), (5, .ba 40 0), (10, .ba 80 0), (12, B (!x5))] [(40, .box [I p0.f0, I p0.f1, I p0.f2, I p0.f3] false), (80, .box [I 0, I 0, I 0, I 0] false)] 50) ?_
            refine co 41 [] (h133 p0 p1 p2) (fun x6 => ?_)
            refine se (mkE [(1, I p1), (2, I p2), (3, I p3), (4, I p4), (5, .ba 40 0), (10, .ba 80 0), (37, B (!x6))] [(40, .box [I p0.f0, I p0.f1, I p0.f2, I p0.f3] false), (80, .box [I 0, I 0, I 0, I 0] false)] 50) ?_
            refine pN ?_
            refine pS ?_
            refine gC 37 (!x6) ?_ ?_
            · refine gS 0 ?_
              refine gR 4 (rg Try.f41 4) ?_
              refine se (mkE [(10, .ba 80 0), (11, I 3)] [(80, .box [I 0, I 0, I 0, I 0] false)] 50) ?_
              refine pN ?_
              refine pS ?_
              refine gE ?_
              exact pL
            · refine gK ?_
              refine pB ?_
              refine pN ?_
              refine pS ?_
              refine gS 0 ?_
              refine gR 5 (rg Try.f41 5) ?_
              refine sg 5 (mkE [(48, I p4), (47, I p3), (46, I p2), (45, I p1), (44, a63 p0), (1, I p1), (2, I p2), (3, I p3), (4, I p4), (5, .ba 40 0), (10, .ba 80 0), (37, B (!x6))] [(40, .box [I p0.f0, I p0.f1, I p0.f2, I p0.f3] false), (80, .box [I 0, I 0, I 0, I 0] false)] 50) ?_
              refine co 49 [] (h134 p0 p1 p2 p3 p4) (fun x7 => ?_)
              refine se (mkE [(10, .ba 80 0), (11, I 0)] [(80, .box [I x7.f0, I x7.f1, I x7.f2, I x7.f3] false)] 50) ?_
              refine pN ?_
              refine pS ?_
              refine gE ?_
              exact pL
theorem F41 (m : Nat) (hm : 3 ≤ m) (p0 : S63) (p1 : Int) (p2 : Int) (p3 : Int) (p4 : Int) : callA Try.prog cfg m 41 [a63 p0, I p1, I p2, I p3, I p4] = (T41 p0 p1 p2 p3 p4).map (fun r => AV.tup [a63 r.1, I r.2]) := by
  obtain ⟨q, rfl⟩ : ∃ q, m = q + 1 := ⟨m - 1, by omega⟩
  exact (callA_body (fn := Try.f41) (c := body_ Try.f41) q _ (by kernel_rfl) (by kernel_rfl) (by kernel_rfl)).trans (B41 _ (fun p0 => F118 q (by omega) p0) (fun p0 => F131 q (by omega) p0) (fun p0 p1 p2 => F133 q (by omega) p0 p1 p2) (fun p0 p1 p2 p3 p4 => F134 q (by omega) p0 p1 p2 p3 p4) p0 p1 p2 p3 p4)

noncomputable def T135 (p0 : Int) (p1 : Int) (p2 : Int) (p3 : Int) : Option S63 := (some (S63.mk (quoI .i64 (subI .i64 p2 p0) 2) (quoI .i64 (subI .i64 p3 p1) 2) p0 p1))
theorem B135 (C : Callee) (p0 : Int) (p1 : Int) (p2 : Int) (p3 : Int) : runs Try.prog C (cfg.fn 135) (finFn Try.prog (cfg.fn 135).byval Try.f135) [] (execA Try.prog C (cfg.fn 135) (nr Try.f135 []) (frame0 [I p0, I p1, I p2, I p3] 20 false)) = (T135 p0 p1 p2 p3).map a63 := by
  unfold T135
  refine gS 1 ?_
  refine gR 0 (rg Try.f135 0) ?_
  refine se (mkE [(0, I p0), (1, I p1), (2, I p2), (3, I p3), (8, .ba 64 0)] [(64, .box [I 0, I 0, I 0, I 0] false)] 20) ?_
  refine pN ?_
  refine pS ?_
  refine gS 0 ?_
  refine gR 1 (rg Try.f135 1) ?_
  refine se (mkE [(8, .ba 64 0)] [(64, .box [I (quoI .i64 (subI .i64 p2 p0) 2), I (quoI .i64 (subI .i64 p3 p1) 2), I p0, I p1] false)] 20) ?_
  refine pN ?_
  refine pS ?_
  refine gE ?_
  exact pL
theorem F135 (m : Nat) (hm : 1 ≤ m) (p0 : Int) (p1 : Int) (p2 : Int) (p3 : Int) : callA Try.prog cfg m 135 [I p0, I p1, I p2, I p3] = (T135 p0 p1 p2 p3).map a63 := by
  obtain ⟨q, rfl⟩ : ∃ q, m = q + 1 := ⟨m - 1, by omega⟩
  exact (callA_body (fn := Try.f135) (c := body_ Try.f135) q _ (by kernel_rfl) (by kernel_rfl) (by kernel_rfl)).trans (B135 _ p0 p1 p2 p3)

noncomputable def T42 (p0 : Int) (p1 : Int) (p2 : Int) (p3 : Int) (p4 : Int) : Option (S63 × S63 × Int) := ((T131 p0).bind fun x1 => (bif (!x1) then (some ((S63.mk 0 0 0 0), (S63.mk 0 0 0 0), 1)) else ((T131 p1).bind fun x2 => (bif (!x2) then (some ((S63.mk 0 0 0 0), (S63.mk 0 0 0 0), 1)) else ((T131 p2).bind fun x3 => (bif (!x3) then (some ((S63.mk 0 0 0 0), (S63.mk 0 0 0 0), 1)) else ((T131 p3).bind fun x4 => (bif (!x4) then (some ((S63.mk 0 0 0 0), (S63.mk 0 0 0 0), 1)) else ((T135 p0 p1 p0 p1).bind fun x5 => ((T135 p2 p3 p2 p3).bind fun x6 => (((bif (eqI p4 2) then (bif (leI (mulI .i64 p1 p2) (mulI .i64 p0 p3)) then ((quoO .i64 (mulI .i64 p1 p2) p0).bind fun x7 => ((T135 p2 (maxI 1 x7) p2 p3).bind fun x8 => (some (.inl (x5.f0, x5.f1, x5.f2, x5.f3, x8.f0, x8.f1, x8.f2, x8.f3))))) else (bif (eqI p4 2) then ((quoO .i64 (mulI .i64 p0 p3) p1).bind fun x9 => ((T135 (maxI 1 x9) p3 p2 p3).bind fun x10 => (some (.inl (x5.f0, x5.f1, x5.f2, x5.f3, x10.f0, x10.f1, x10.f2, x10.f3))))) else (bif (eqI p4 3) then (bif (leI (mulI .i64 p1 p2) (mulI .i64 p0 p3)) then ((quoO .i64 (mulI .i64 p1 p2) p3).bind fun x11 => ((T135 (maxI 1 x11) p1 p0 p1).bind fun x12 => (some (.inl (x12.f0, x12.f1, x12.f2, x12.f3, x6.f0, x6.f1, x6.f2, x6.f3))))) else (bif (eqI p4 3) then ((quoO .i64 (mulI .i64 p0 p3) p2).bind fun x13 => ((T135 p0 (maxI 1 x13) p0 p1).bind fun x14 => (some (.inl (x14.f0, x14.f1, x14.f2, x14.f3, x6.f0, x6.f1, x6.f2, x6.f3))))) else (bif (neI p4 1) then (some (.inr ())) else (some (.inl (x5.f0, x5.f1, x5.f2, x5.f3, x6.f0, x6.f1, x6.f2, x6.f3)))))) else (bif (eqI p4 3) then ((quoO .i64 (mulI .i64 p0 p3) p2).bind fun x15 => ((T135 p0 (maxI 1 x15) p0 p1).bind fun x16 => (some (.inl (x16.f0, x16.f1, x16.f2, x16.f3, x6.f0, x6.f1, x6.f2, x6.f3))))) else (bif (neI p4 1) then (some (.inr ())) else (some (.inl (x5.f0, x5.f1, x5.f2, x5.f3, x6.f0, x6.f1, x6.f2, x6.f3)))))))) else (bif (eqI p4 2) then ((quoO .i64 (mulI .i64 p0 p3) p1).bind fun x17 => ((T135 (maxI 1 x17) p3 p2 p3).bind fun x18 => (some (.inl (x5.f0, x5.f1, x5.f2, x5.f3, x18.f0, x18.f1, x18.f2, x18.f3))))) else (bif (eqI p4 3) then (bif (leI (mulI .i64 p1 p2) (mulI .i64 p0 p3)) then ((quoO .i64 (mulI .i64 p1 p2) p3).bind fun x19 => ((T135 (maxI 1 x19) p1 p0 p1).bind fun x20 => (some (.inl (x20.f0, x20.f1, x20.f2, x20.f3, x6.f0, x6.f1, x6.f2, x6.f3))))) else (bif (eqI p4 3) then ((quoO .i64 (mulI .i64 p0 p3) p2).bind fun x21 => ((T135 p0 (maxI 1 x21) p0 p1).bind fun x22 => (some (.inl (x22.f0, x22.f1, x22.f2, x22.f3, x6.f0, x6.f1, x6.f2, x6.f3))))) else (bif (neI p4 1) then (some (.inr ())) else (some (.inl (x5.f0, x5.f1, x5.f2, x5.f3, x6.f0, x6.f1, x6.f2, x6.f3)))))) else (bif (eqI p4 3) then ((quoO .i64 (mulI .i64 p0 p3) p2).bind fun x23 => ((T135 p0 (maxI 1 x23) p0 p1).bind fun x24 => (some (.inl (x24.f0, x24.f1, x24.f2, x24.f3, x6.f0, x6.f1, x6.f2, x6.f3))))) else (bif (neI p4 1) then (some (.inr ())) else (some (.inl (x5.f0, x5.f1, x5.f2, x5.f3, x6.f0, x6.f1, x6.f2, x6.f3)))))))) : Option ((Int × Int × Int × Int × Int × Int × Int × Int) ⊕ Unit)).bind fun y25 => (Sum.elim (fun y25a => (some ((S63.mk y25a.1 y25a.2.1 y25a.2.2.1 y25a.2.2.2.1), (S63.mk y25a.2.2.2.2.1 y25a.2.2.2.2.2.1 y25a.2.2.2.2.2.2.1 y25a.2.2.2.2.2.2.2), 0))) (fun y25b => (some ((S63.mk 0 0 0 0), (S63.mk 0 0 0 0), 4))) y25))))))))))))
theorem B42 (C : Callee) (h131 : ∀ (p0 : Int), C 131 [I p0] = (T131 p0).map B) (h135 : ∀ (p0 : Int) (p1 : Int) (p2 : Int) (p3 : Int), C 135 [I p0, I p1, I p2, I p3] = (T135 p0 p1 p2 p3).map a63) (p0 : Int) (p1 : Int) (p2 : Int) (p3 : Int) (p4 : Int) : runs Try.prog C (cfg.fn 42) (finFn Try.prog (cfg.fn 42).byval Try.f42) [] (execA Try.prog C (cfg.fn 42) (nr Try.f42 []) (frame0 [I p0, I p1, I p2, I p3, I p4] 118 false)) = (T42 p0 p1 p2 p3 p4).map (fun r => AV.tup [a63 r.1, a63 r.2.1, I r.2.2]) := by
  unfold T42
  refine gS 1 ?_
  refine gR 0 (rg Try.f42 0) ?_
  refine se (mkE [(0, I p0), (1, I p1), (2, I p2), (3, I p3), (4, I p4), (10, .ba 80 0), (11, .ba 88 0)] [(80, .box [I 0, I 0, I 0, I 0] false), (88, .box [I 0, I 0, I 0, I 0] false)] 118) ?_
  refine pN ?_
  refine pS ?_
  refine gS 3 ?_
  refine gS 0 ?_
  refine gR 1 (rg Try.f42 1) ?_
  refine sg 1 (mkE [(16, I p0), (0, I p0), (1, I p1), (2, I p2), (3, I p3), (4, I p4), (10, .ba 80 0), (11, .ba 88 0)] [(80, .box [I 0, I 0, I 0, I 0] false), (88, .box [I 0, I 0, I 0, I 0] false)] 118) ?_
  refine co 17 [] (h131 p0) (fun x1 => ?_)
  refine sg 4 (mkE [(19, B (!x1)), (18, B (!x1)), (17, B x1), (16, I p0), (0, I p0), (1, I p1), (2, I p2), (3, I p3), (4, I p4), (10, .ba 80 0), (11, .ba 88 0)] [(80, .box [I 0, I 0, I 0, I 0] false), (88, .box [I 0, I 0, I 0, I 0] false)] 118) ?_
  refine sb 19 (!x1) ?_ ?_
  · refine se (mkE [(0, I p0), (1, I p1), (2, I p2), (3, I p3), (4, I p4), (10, .ba 80 0), (11, .ba 88 0), (33, B true)] [(80, .box [I 0, I 0, I 0, I 0] false), (88, .box [I 0, I 0, I 0, I 0] false)] 118) ?_
    refine pN ?_
    refine pS ?_
    refine gT (.tmp 33) ?_
    refine gS 0 ?_
    refine gR 2 (rg Try.f42 2) ?_
    refine se (mkE [(10, .ba 80 0), (11, .ba 88 0), (12, I 1)] [(80, .box [I 0, I 0, I 0, I 0] false), (88, .box [I 0, I 0, I 0, I 0] false)] 118) ?_
    refine pN ?_
    refine pS ?_
    refine gE ?_
    exact pL
  · refine sg 5 (mkE [(20, I p1), (19, B false), (19, B (!x1)), (18, B (!x1)), (17, B x1), (16, I p0), (0, I p0), (1, I p1), (2, I p2), (3, I p3), (4, I p4), (10, .ba 80 0), (11, .ba 88 0)] [(80, .box [I 0, I 0, I 0, I 0] false), (88, .box [I 0, I 0, I 0, I 0] false)] 118) ?_
    refine co 21 [] (h131 p1) (fun x2 => ?_)
    refine sg 9 (mkE [(24, B (!x2)), (23, B (!x2)), (22, B (!x2)), (21, B x2), (20, I p1), (19, B false), (19, B (!x1)), (18, B (!x1)), (17, B x1), (16, I p0), (0, I p0), (1, I p1), (2, I p2), (3, I p3), (4, I p4), (10, .ba 80 0), (11, .ba 88 0)] [(80, .box [I 0, I 0, I 0, I 0] false), (88, .box [I 0, I 0, I 0, I 0] false)] 118) ?_
    refine sb 24 (!x2) ?_ ?_
    · refine se (mkE [(0, I p0), (1, I p1), (2, I p2), (3, I p3), (4, I p4), (10, .ba 80 0), (11, .ba 88 0), (33, B true)] [(80, .box [I 0, I 0, I 0, I 0] false), (88, .box [I 0, I 0, I 0, I 0] false)] 118) ?_
      refine pN ?_
      refine pS ?_
      refine gT (.tmp 33) ?_
      refine gS 0 ?_
      refine gR 2 (rg Try.f42 2) ?_
      refine se (mkE [(10, .ba 80 0), (11, .ba 88 0), (12, I 1)] [(80, .box [I 0, I 0, I 0, I 0] false), (88, .box [I 0, I 0, I 0, I 0] false)] 118) ?_
      refine pN ?_
      refine pS ?_
      refine gE ?_
      exact pL
    · refine sg 10 (mkE [(25, I p2), (24, B false), (24, B (!x2)), (23, B (!x2)), (22, B (!x2)), (21, B x2), (20, I p1), (19, B false), (19, B (!x1)), (18, B (!x1)), (17, B x1), (16, I p0), (0, I p0), (1, I p1), (2, I p2), (3, I p3), (4, I p4), (10, .ba 80 0), (11, .ba 88 0)] [(80, .box [I 0, I 0, I 0, I 0] false), (88, .box [I 0, I 0, I 0, I 0] false)] 118) ?_
      refine co 26 [] (h131 p2) (fun x3 => ?_)
      refine sg 14 (mkE [(29, B (!x3)), (28, B (!x3)), (27, B (!x3)), (26, B x3), (25, I p2), (24, B false), (24, B (!x2)), (23, B (!x2)), (22, B (!x2)), (21, B x2), (20, I p1), (19, B false), (19, B (!x1)), (18, B (!x1)), (17, B x1), (16, I p0), (0, I p0), (1, I p1), (2, I p2), (3, I p3), (4, I p4), (10, .ba 80 0), (11, .ba 88 0)] [(80, .box [I 0, I 0, I 0, I 0] false), (88, .box [I 0, I 0, I 0, I 0] false)] 118) ?_
      refine sb 29 (!x3) ?_ ?_
      · refine se (mkE [(0, I p0), (1, I p1), (2, I p2), (3, I p3), (4, I p4), (10, .ba 80 0), (11, .ba 88 0), (33, B true)] [(80, .box [I 0, I 0, I 0, I 0] false), (88, .box [I 0, I 0, I 0, I 0] false)] 118) ?_
        refine pN ?_
        refine pS ?_
        refine gT (.tmp 33) ?_
        refine gS 0 ?_
        refine gR 2 (rg Try.f42 2) ?_
        refine se (mkE [(10, .ba 80 0), (11, .ba 88 0), (12, I 1)] [(80, .box [I 0, I 0, I 0, I 0] false), (88, .box [I 0, I 0, I 0, I 0] false)] 118) ?_
        refine pN ?_
        refine pS ?_
        refine gE ?_
        exact pL
      · refine sg 15 (mkE [(30, I p3), (29, B false), (29, B (!x3)), (28, B (!x3)), (27, B (!x3)), (26, B x3), (25, I p2), (24, B false), (24, B (!x2)), (23, B (!x2)), (22, B (!x2)), (21, B x2), (20, I p1), (19, B false), (19, B (!x1)), (18, B (!x1)), (17, B x1), (16, I p0), (0, I p0), (1, I p1), (2, I p2), (3, I p3), (4, I p4), (10, .ba 80 0), (11, .ba 88 0)] [(80, .box [I 0, I 0, I 0, I 0] false), (88, .box [I 0, I 0, I 0, I 0] false)] 118) ?_
        refine co 31 [] (h131 p3) (fun x4 => ?_)
        refine se (mkE [(0, I p0), (1, I p1), (2, I p2), (3, I p3), (4, I p4), (10, .ba 80 0), (11, .ba 88 0), (33, B (!x4))] [(80, .box [I 0, I 0, I 0, I 0] false), (88, .box [I 0, I 0, I 0, I 0] false)] 118) ?_
        refine pN ?_
        refine pS ?_
        refine gC 33 (!x4) ?_ ?_
        · refine gS 0 ?_
          refine gR 2 (rg Try.f42 2) ?_
          refine se (mkE [(10, .ba 80 0), (11, .ba 88 0), (12, I 1)] [(80, .box [I 0, I 0, I 0, I 0] false), (88, .box [I 0, I 0, I 0, I 0] false)] 118) ?_
          refine pN ?_
          refine pS ?_
          refine gE ?_
          exact pL
        · refine gK ?_
          refine pN ?_
          refine pS ?_
          refine gS 4 ?_
          refine gR 3 (rg Try.f42 3) ?_
          refine sg 4 (mkE [(39, I p1), (38, I p0), (37, I p1), (36, I p0), (0, I p0), (1, I p1), (2, I p2), (3, I p3), (4, I p4), (10, .ba 80 0), (11, .ba 88 0), (33, B (!x4))] [(80, .box [I 0, I 0, I 0, I 0] false), (88, .box [I 0, I 0, I 0, I 0] false)] 118) ?_
          refine co 40 [] (h135 p0 p1 p0 p1) (fun x5 => ?_)
          refine sg 9 (mkE [(44, I p3), (43, I p2), (42, I p3), (41, I p2), (40, a63 x5), (39, I p1), (38, I p0), (37, I p1), (36, I p0), (0, I p0), (1, I p1), (2, I p2), (3, I p3), (4, I p4), (10, .ba 80 0), (11, .ba 88 0), (33, B (!x4))] [(80, .box [I 0, I 0, I 0, I 0] false), (88, .box [I 0, I 0, I 0, I 0] false)] 118) ?_
          refine co 45 [] (h135 p2 p3 p2 p3) (fun x6 => ?_)
          refine se (mkE [(0, I p0), (1, I p1), (2, I p2), (3, I p3), (4, I p4), (10, .ba 80 0), (11, .ba 88 0), (13, .ba 104 0), (14, .ba 112 0)] [(80, .box [I 0, I 0, I 0, I 0] false), (88, .box [I 0, I 0, I 0, I 0] false), (104, .box [I x5.f0, I x5.f1, I x5.f2, I x5.f3] false), (112, .box [I x6.f0, I x6.f1, I x6.f2, I x6.f3] false)] 118) ?_
          refine pN ?_
          refine pS ?_
          refine gS 5 ?_
          refine gR 4 (rg Try.f42 4) ?_
          refine se (mkE [(0, I p0), (1, I p1), (2, I p2), (3, I p3), (4, I p4), (10, .ba 80 0), (11, .ba 88 0), (13, .ba 104 0), (14, .ba 112 0), (15, B (leI (mulI .i64 p1 p2) (mulI .i64 p0 p3)))] [(80, .box [I 0, I 0, I 0, I 0] false), (88, .box [I 0, I 0, I 0, I 0] false), (104, .box [I x5.f0, I x5.f1, I x5.f2, I x5.f3] false), (112, .box [I x6.f0, I x6.f1, I x6.f2, I x6.f3] false)] 118) ?_
          refine pN ?_
          refine pS ?_
          refine jS 15 ((bif (eqI p4 2) then (bif (leI (mulI .i64 p1 p2) (mulI .i64 p0 p3)) then ((quoO .i64 (mulI .i64 p1 p2) p0).bind fun x7 => ((T135 p2 (maxI 1 x7) p2 p3).bind fun x8 => (some (.inl (x5.f0, x5.f1, x5.f2, x5.f3, x8.f0, x8.f1, x8.f2, x8.f3))))) else (bif (eqI p4 2) then ((quoO .i64 (mulI .i64 p0 p3) p1).bind fun x9 => ((T135 (maxI 1 x9) p3 p2 p3).bind fun x10 => (some (.inl (x5.f0, x5.f1, x5.f2, x5.f3, x10.f0, x10.f1, x10.f2, x10.f3))))) else (bif (eqI p4 3) then (bif (leI (mulI .i64 p1 p2) (mulI .i64 p0 p3)) then ((quoO .i64 (mulI .i64 p1 p2) p3).bind fun x11 => ((T135 (maxI 1 x11) p1 p0 p1).bind fun x12 => (some (.inl (x12.f0, x12.f1, x12.f2, x12.f3, x6.f0, x6.f1, x6.f2, x6.f3))))) else (bif (eqI p4 3) then ((quoO .i64 (mulI .i64 p0 p3) p2).bind fun x13 => ((T135 p0 (maxI 1 x13) p0 p1).bind fun x14 => (some (.inl (x14.f0, x14.f1, x14.f2, x14.f3, x6.f0, x6.f1, x6.f2, x6.f3))))) else (bif (neI p4 1) then (some (.inr ())) else (some (.inl (x5.f0, x5.f1, x5.f2, x5.f3, x6.f0, x6.f1, x6.f2, x6.f3)))))) else (bif (eqI p4 3) then ((quoO .i64 (mulI .i64 p0 p3) p2).bind fun x15 => ((T135 p0 (maxI 1 x15) p0 p1).bind fun x16 => (some (.inl (x16.f0, x16.f1, x16.f2, x16.f3, x6.f0, x6.f1, x6.f2, x6.f3))))) else (bif (neI p4 1) then (some (.inr ())) else (some (.inl (x5.f0, x5.f1, x5.f2, x5.f3, x6.f0, x6.f1, x6.f2, x6.f3)))))))) else (bif (eqI p4 2) then ((quoO .i64 (mulI .i64 p0 p3) p1).bind fun x17 => ((T135 (maxI 1 x17) p3 p2 p3).bind fun x18 => (some (.inl (x5.f0, x5.f1, x5.f2, x5.f3, x18.f0, x18.f1, x18.f2, x18.f3))))) else (bif (eqI p4 3) then (bif (leI (mulI .i64 p1 p2) (mulI .i64 p0 p3)) then ((quoO .i64 (mulI .i64 p1 p2) p3).bind fun x19 => ((T135 (maxI 1 x19) p1 p0 p1).bind fun x20 => (some (.inl (x20.f0, x20.f1, x20.f2, x20.f3, x6.f0, x6.f1, x6.f2, x6.f3))))) else (bif (eqI p4 3) then ((quoO .i64 (mulI .i64 p0 p3) p2).bind fun x21 => ((T135 p0 (maxI 1 x21) p0 p1).bind fun x22 => (some (.inl (x22.f0, x22.f1, x22.f2, x22.f3, x6.f0, x6.f1, x6.f2, x6.f3))))) else (bif (neI p4 1) then (some (.inr ())) else (some (.inl (x5.f0, x5.f1, x5.f2, x5.f3, x6.f0, x6.f1, x6.f2, x6.f3)))))) else (bif (eqI p4 3) then ((quoO .i64 (mulI .i64 p0 p3) p2).bind fun x23 => ((T135 p0 (maxI 1 x23) p0 p1).bind fun x24 => (some (.inl (x24.f0, x24.f1, x24.f2, x24.f3, x6.f0, x6.f1, x6.f2, x6.f3))))) else (bif (neI p4 1) then (some (.inr ())) else (some (.inl (x5.f0, x5.f1, x5.f2, x5.f3, x6.f0, x6.f1, x6.f2, x6.f3)))))))) : Option ((Int × Int × Int × Int × Int × Int × Int × Int) ⊕ Unit)) (Sum.elim (fun (x : (Int × Int × Int × Int × Int × Int × Int × Int)) => (.normal, (mkE [(10, .ba 80 0), (11, .ba 88 0), (13, .ba 104 0), (14, .ba 112 0)] [(80, .box [I 0, I 0, I 0, I 0] false), (88, .box [I 0, I 0, I 0, I 0] false), (104, .box [I x.1, I x.2.1, I x.2.2.1, I x.2.2.2.1] false), (112, .box [I x.2.2.2.2.1, I x.2.2.2.2.2.1, I x.2.2.2.2.2.2.1, I x.2.2.2.2.2.2.2] false)] 118))) (fun (x : Unit) => (.ret, (mkE [(10, .ba 80 0), (11, .ba 88 0), (12, I 4)] [(80, .box [I 0, I 0, I 0, I 0] false), (88, .box [I 0, I 0, I 0, I 0] false)] 118)))) ?_ (fun y25 => ?_)
          · refine gB 0 ?_
            refine gS 0 ?_
            refine gR 5 (rg Try.f42 5) ?_
            refine sg 3 (mkE [(56, B (eqI p4 2)), (55, B (eqI p4 2)), (54, I p4), (0, I p0), (1, I p1), (2, I p2), (3, I p3), (4, I p4), (10, .ba 80 0), (11, .ba 88 0), (13, .ba 104 0), (14, .ba 112 0), (15, B (leI (mulI .i64 p1 p2) (mulI .i64 p0 p3)))] [(80, .box [I 0, I 0, I 0, I 0] false), (88, .box [I 0, I 0, I 0, I 0] false), (104, .box [I x5.f0, I x5.f1, I x5.f2, I x5.f3] false), (112, .box [I x6.f0, I x6.f1, I x6.f2, I x6.f3] false)] 118) ?_
            refine sb 56 (eqI p4 2) ?_ ?_
            · refine se (mkE [(0, I p0), (1, I p1), (2, I p2), (3, I p3), (4, I p4), (10, .ba 80 0), (11, .ba 88 0), (13, .ba 104 0), (14, .ba 112 0), (15, B (leI (mulI .i64 p1 p2) (mulI .i64 p0 p3))), (53, B (leI (mulI .i64 p1 p2) (mulI .i64 p0 p3)))] [(80, .box [I 0, I 0, I 0, I 0] false), (88, .box [I 0, I 0, I 0, I 0] false), (104, .box [I x5.f0, I x5.f1, I x5.f2, I x5.f3] false), (112, .box [I x6.f0, I x6.f1, I x6.f2, I x6.f3] false)] 118) ?_
              refine pN ?_
              refine pS ?_
              refine gC 53 (leI (mulI .i64 p1 p2) (mulI .i64 p0 p3)) ?_ ?_
              · refine gR 6 (rg Try.f42 6) ?_
                refine sg 5 (mkE [(63, I p0), (62, I (mulI .i64 p1 p2)), (61, I p2), (60, I p1), (59, I p2), (0, I p0), (1, I p1), (2, I p2), (3, I p3), (4, I p4), (10, .ba 80 0), (11, .ba 88 0), (13, .ba 104 0), (14, .ba 112 0), (15, B (leI (mulI .i64 p1 p2) (mulI .i64 p0 p3))), (53, B (leI (mulI .i64 p1 p2) (mulI .i64 p0 p3)))] [(80, .box [I 0, I 0, I 0, I 0] false), (88, .box [I 0, I 0, I 0, I 0] false), (104, .box [I x5.f0, I x5.f1, I x5.f2, I x5.f3] false), (112, .box [I x6.f0, I x6.f1, I x6.f2, I x6.f3] false)] 118) ?_
                refine vo 64 (quoE 3 .i64 (.tmp 62) (.tmp 63) (mulI .i64 p1 p2) p0) (fun x7 => ?_)
                refine sg 9 (mkE [(67, I p3), (66, I p2), (65, I (maxI 1 x7)), (64, I x7), (63, I p0), (62, I (mulI .i64 p1 p2)), (61, I p2), (60, I p1), (59, I p2), (0, I p0), (1, I p1), (2, I p2), (3, I p3), (4, I p4), (10, .ba 80 0), (11, .ba 88 0), (13, .ba 104 0), (14, .ba 112 0), (15, B (leI (mulI .i64 p1 p2) (mulI .i64 p0 p3))), (53, B (leI (mulI .i64 p1 p2) (mulI .i64 p0 p3)))] [(80, .box [I 0, I 0, I 0, I 0] false), (88, .box [I 0, I 0, I 0, I 0] false), (104, .box [I x5.f0, I x5.f1, I x5.f2, I x5.f3] false), (112, .box [I x6.f0, I x6.f1, I x6.f2, I x6.f3] false)] 118) ?_
                refine co 68 [] (h135 p2 (maxI 1 x7) p2 p3) (fun x8 => ?_)
                refine se (mkE [(10, .ba 80 0), (11, .ba 88 0), (13, .ba 104 0), (14, .ba 112 0)] [(80, .box [I 0, I 0, I 0, I 0] false), (88, .box [I 0, I 0, I 0, I 0] false), (104, .box [I x5.f0, I x5.f1, I x5.f2, I x5.f3] false), (112, .box [I x8.f0, I x8.f1, I x8.f2, I x8.f3] false)] 118) ?_
                refine pB ?_
                refine pG (mkE [(10, .ba 80 0), (11, .ba 88 0), (13, .ba 104 0), (14, .ba 112 0)] [(80, .box [I 0, I 0, I 0, I 0] false), (88, .box [I 0, I 0, I 0, I 0] false), (104, .box [I x5.f0, I x5.f1, I x5.f2, I x5.f3] false), (112, .box [I x8.f0, I x8.f1, I x8.f2, I x8.f3] false)] 118) ?_
                exact pL
              · refine gS 0 ?_
                refine gR 7 (rg Try.f42 7) ?_
                refine se (mkE [(0, I p0), (1, I p1), (2, I p2), (3, I p3), (4, I p4), (10, .ba 80 0), (11, .ba 88 0), (13, .ba 104 0), (14, .ba 112 0), (15, B (leI (mulI .i64 p1 p2) (mulI .i64 p0 p3))), (69, B (eqI p4 2))] [(80, .box [I 0, I 0, I 0, I 0] false), (88, .box [I 0, I 0, I 0, I 0] false), (104, .box [I x5.f0, I x5.f1, I x5.f2, I x5.f3] false), (112, .box [I x6.f0, I x6.f1, I x6.f2, I x6.f3] false)] 118) ?_
                refine pN ?_
                refine pS ?_
                refine gC 69 (eqI p4 2) ?_ ?_
                · refine gR 8 (rg Try.f42 8) ?_
                  refine sg 4 (mkE [(75, I p1), (74, I (mulI .i64 p0 p3)), (73, I p3), (72, I p0), (0, I p0), (1, I p1), (2, I p2), (3, I p3), (4, I p4), (10, .ba 80 0), (11, .ba 88 0), (13, .ba 104 0), (14, .ba 112 0), (15, B (leI (mulI .i64 p1 p2) (mulI .i64 p0 p3))), (69, B (eqI p4 2))] [(80, .box [I 0, I 0, I 0, I 0] false), (88, .box [I 0, I 0, I 0, I 0] false), (104, .box [I x5.f0, I x5.f1, I x5.f2, I x5.f3] false), (112, .box [I x6.f0, I x6.f1, I x6.f2, I x6.f3] false)] 118) ?_
                  refine vo 76 (quoE 3 .i64 (.tmp 74) (.tmp 75) (mulI .i64 p0 p3) p1) (fun x9 => ?_)
                  refine sg 9 (mkE [(80, I p3), (79, I p2), (78, I p3), (77, I (maxI 1 x9)), (76, I x9), (75, I p1), (74, I (mulI .i64 p0 p3)), (73, I p3), (72, I p0), (0, I p0), (1, I p1), (2, I p2), (3, I p3), (4, I p4), (10, .ba 80 0), (11, .ba 88 0), (13, .ba 104 0), (14, .ba 112 0), (15, B (leI (mulI .i64 p1 p2) (mulI .i64 p0 p3))), (69, B (eqI p4 2))] [(80, .box [I 0, I 0, I 0, I 0] false), (88, .box [I 0, I 0, I 0, I 0] false), (104, .box [I x5.f0, I x5.f1, I x5.f2, I x5.f3] false), (112, .box [I x6.f0, I x6.f1, I x6.f2, I x6.f3] false)] 118) ?_
                  refine co 81 [] (h135 (maxI 1 x9) p3 p2 p3) (fun x10 => ?_)
                  refine se (mkE [(10, .ba 80 0), (11, .ba 88 0), (13, .ba 104 0), (14, .ba 112 0)] [(80, .box [I 0, I 0, I 0, I 0] false), (88, .box [I 0, I 0, I 0, I 0] false), (104, .box [I x5.f0, I x5.f1, I x5.f2, I x5.f3] false), (112, .box [I x10.f0, I x10.f1, I x10.f2, I x10.f3] false)] 118) ?_
                  refine pB ?_
                  refine pG (mkE [(10, .ba 80 0), (11, .ba 88 0), (13, .ba 104 0), (14, .ba 112 0)] [(80, .box [I 0, I 0, I 0, I 0] false), (88, .box [I 0, I 0, I 0, I 0] false), (104, .box [I x5.f0, I x5.f1, I x5.f2, I x5.f3] false), (112, .box [I x10.f0, I x10.f1, I x10.f2, I x10.f3] false)] 118) ?_
                  exact pL
                · refine gS 0 ?_
                  refine gR 9 (rg Try.f42 9) ?_
                  refine sg 3 (mkE [(85, B (eqI p4 3)), (84, B (eqI p4 3)), (83, I p4), (0, I p0), (1, I p1), (2, I p2), (3, I p3), (4, I p4), (10, .ba 80 0), (11, .ba 88 0), (13, .ba 104 0), (14, .ba 112 0), (15, B (leI (mulI .i64 p1 p2) (mulI .i64 p0 p3))), (69, B (eqI p4 2))] [(80, .box [I 0, I 0, I 0, I 0] false), (88, .box [I 0, I 0, I 0, I 0] false), (104, .box [I x5.f0, I x5.f1, I x5.f2, I x5.f3] false), (112, .box [I x6.f0, I x6.f1, I x6.f2, I x6.f3] false)] 118) ?_
                  refine sb 85 (eqI p4 3) ?_ ?_
                  · refine se (mkE [(0, I p0), (1, I p1), (2, I p2), (3, I p3), (4, I p4), (10, .ba 80 0), (11, .ba 88 0), (13, .ba 104 0), (14, .ba 112 0), (82, B (leI (mulI .i64 p1 p2) (mulI .i64 p0 p3)))] [(80, .box [I 0, I 0, I 0, I 0] false), (88, .box [I 0, I 0, I 0, I 0] false), (104, .box [I x5.f0, I x5.f1, I x5.f2, I x5.f3] false), (112, .box [I x6.f0, I x6.f1, I x6.f2, I x6.f3] false)] 118) ?_
                    refine pN ?_
                    refine pS ?_
                    refine gC 82 (leI (mulI .i64 p1 p2) (mulI .i64 p0 p3)) ?_ ?_
                    · refine gR 10 (rg Try.f42 10) ?_
                      refine sg 4 (mkE [(91, I p3), (90, I (mulI .i64 p1 p2)), (89, I p2), (88, I p1), (0, I p0), (1, I p1), (2, I p2), (3, I p3), (4, I p4), (10, .ba 80 0), (11, .ba 88 0), (13, .ba 104 0), (14, .ba 112 0), (82, B (leI (mulI .i64 p1 p2) (mulI .i64 p0 p3)))] [(80, .box [I 0, I 0, I 0, I 0] false), (88, .box [I 0, I 0, I 0, I 0] false), (104, .box [I x5.f0, I x5.f1, I x5.f2, I x5.f3] false), (112, .box [I x6.f0, I x6.f1, I x6.f2, I x6.f3] false)] 118) ?_
                      refine vo 92 (quoE 3 .i64 (.tmp 90) (.tmp 91) (mulI .i64 p1 p2) p3) (fun x11 => ?_)
                      refine sg 9 (mkE [(96, I p1), (95, I p0), (94, I p1), (93, I (maxI 1 x11)), (92, I x11), (91, I p3), (90, I (mulI .i64 p1 p2)), (89, I p2), (88, I p1), (0, I p0), (1, I p1), (2, I p2), (3, I p3), (4, I p4), (10, .ba 80 0), (11, .ba 88 0), (13, .ba 104 0), (14, .ba 112 0), (82, B (leI (mulI .i64 p1 p2) (mulI .i64 p0 p3)))] [(80, .box [I 0, I 0, I 0, I 0] false), (88, .box [I 0, I 0, I 0, I 0] false), (104, .box [I x5.f0, I x5.f1, I x5.f2, I x5.f3] false), (112, .box [I x6.f0, I x6.f1, I x6.f2, I x6.f3] false)] 118) ?_
                      refine co 97 [] (h135 (maxI 1 x11) p1 p0 p1) (fun x12 => ?_)
                      refine se (mkE [(10, .ba 80 0), (11, .ba 88 0), (13, .ba 104 0), (14, .ba 112 0)] [(80, .box [I 0, I 0, I 0, I 0] false), (88, .box [I 0, I 0, I 0, I 0] false), (104, .box [I x12.f0, I x12.f1, I x12.f2, I x12.f3] false), (112, .box [I x6.f0, I x6.f1, I x6.f2, I x6.f3] false)] 118) ?_
                      refine pB ?_
                      refine pG (mkE [(10, .ba 80 0), (11, .ba 88 0), (13, .ba 104 0), (14, .ba 112 0)] [(80, .box [I 0, I 0, I 0, I 0] false), (88, .box [I 0, I 0, I 0, I 0] false), (104, .box [I x12.f0, I x12.f1, I x12.f2, I x12.f3] false), (112, .box [I x6.f0, I x6.f1, I x6.f2, I x6.f3] false)] 118) ?_
                      exact pL
                    · refine gS 0 ?_
                      refine gR 11 (rg Try.f42 11) ?_
                      refine se (mkE [(0, I p0), (1, I p1), (2, I p2), (3, I p3), (4, I p4), (10, .ba 80 0), (11, .ba 88 0), (13, .ba 104 0), (14, .ba 112 0), (98, B (eqI p4 3))] [(80, .box [I 0, I 0, I 0, I 0] false), (88, .box [I 0, I 0, I 0, I 0] false), (104, .box [I x5.f0, I x5.f1, I x5.f2, I x5.f3] false), (112, .box [I x6.f0, I x6.f1, I x6.f2, I x6.f3] false)] 118) ?_
                      refine pN ?_
                      refine pS ?_
                      refine gC 98 (eqI p4 3) ?_ ?_
                      · refine gR 12 (rg Try.f42 12) ?_
                        refine sg 5 (mkE [(105, I p2), (104, I (mulI .i64 p0 p3)), (103, I p3), (102, I p0), (101, I p0), (0, I p0), (1, I p1), (2, I p2), (3, I p3), (4, I p4), (10, .ba 80 0), (11, .ba 88 0), (13, .ba 104 0), (14, .ba 112 0), (98, B (eqI p4 3))] [(80, .box [I 0, I 0, I 0, I 0] false), (88, .box [I 0, I 0, I 0, I 0] false), (104, .box [I x5.f0, I x5.f1, I x5.f2, I x5.f3] false), (112, .box [I x6.f0, I x6.f1, I x6.f2, I x6.f3] false)] 118) ?_
                        refine vo 106 (quoE 3 .i64 (.tmp 104) (.tmp 105) (mulI .i64 p0 p3) p2) (fun x13 => ?_)
                        refine sg 9 (mkE [(109, I p1), (108, I p0), (107, I (maxI 1 x13)), (106, I x13), (105, I p2), (104, I (mulI .i64 p0 p3)), (103, I p3), (102, I p0), (101, I p0), (0, I p0), (1, I p1), (2, I p2), (3, I p3), (4, I p4), (10, .ba 80 0), (11, .ba 88 0), (13, .ba 104 0), (14, .ba 112 0), (98, B (eqI p4 3))] [(80, .box [I 0, I 0, I 0, I 0] false), (88, .box [I 0, I 0, I 0, I 0] false), (104, .box [I x5.f0, I x5.f1, I x5.f2, I x5.f3] false), (112, .box [I x6.f0, I x6.f1, I x6.f2, I x6.f3] false)] 118) ?_
                        refine co 110 [] (h135 p0 (maxI 1 x13) p0 p1) (fun x14 => ?_)
                        refine se (mkE [(10, .ba 80 0), (11, .ba 88 0), (13, .ba 104 0), (14, .ba 112 0)] [(80, .box [I 0, I 0, I 0, I 0] false), (88, .box [I 0, I 0, I 0, I 0] false), (104, .box [I x14.f0, I x14.f1, I x14.f2, I x14.f3] false), (112, .box [I x6.f0, I x6.f1, I x6.f2, I x6.f3] false)] 118) ?_
                        refine pB ?_
                        refine pG (mkE [(10, .ba 80 0), (11, .ba 88 0), (13, .ba 104 0), (14, .ba 112 0)] [(80, .box [I 0, I 0, I 0, I 0] false), (88, .box [I 0, I 0, I 0, I 0] false), (104, .box [I x14.f0, I x14.f1, I x14.f2, I x14.f3] false), (112, .box [I x6.f0, I x6.f1, I x6.f2, I x6.f3] false)] 118) ?_
                        exact pL
                      · refine gS 0 ?_
                        refine gR 13 (rg Try.f42 13) ?_
                        refine se (mkE [(10, .ba 80 0), (11, .ba 88 0), (13, .ba 104 0), (14, .ba 112 0), (111, B (neI p4 1))] [(80, .box [I 0, I 0, I 0, I 0] false), (88, .box [I 0, I 0, I 0, I 0] false), (104, .box [I x5.f0, I x5.f1, I x5.f2, I x5.f3] false), (112, .box [I x6.f0, I x6.f1, I x6.f2, I x6.f3] false)] 118) ?_
                        refine pN ?_
                        refine pS ?_
                        refine gC 111 (neI p4 1) ?_ ?_
                        · refine gS 0 ?_
                          refine gR 14 (rg Try.f42 14) ?_
                          refine se (mkE [(10, .ba 80 0), (11, .ba 88 0), (12, I 4)] [(80, .box [I 0, I 0, I 0, I 0] false), (88, .box [I 0, I 0, I 0, I 0] false)] 118) ?_
                          refine pN ?_
                          refine pS ?_
                          refine gE ?_
                          exact pL
                        · refine gK ?_
                          refine pB ?_
                          refine pG (mkE [(10, .ba 80 0), (11, .ba 88 0), (13, .ba 104 0), (14, .ba 112 0)] [(80, .box [I 0, I 0, I 0, I 0] false), (88, .box [I 0, I 0, I 0, I 0] false), (104, .box [I x5.f0, I x5.f1, I x5.f2, I x5.f3] false), (112, .box [I x6.f0, I x6.f1, I x6.f2, I x6.f3] false)] 118) ?_
                          exact pL
                  · refine se (mkE [(0, I p0), (1, I p1), (2, I p2), (3, I p3), (4, I p4), (10, .ba 80 0), (11, .ba 88 0), (13, .ba 104 0), (14, .ba 112 0), (82, B false)] [(80, .box [I 0, I 0, I 0, I 0] false), (88, .box [I 0, I 0, I 0, I 0] false), (104, .box [I x5.f0, I x5.f1, I x5.f2, I x5.f3] false), (112, .box [I x6.f0, I x6.f1, I x6.f2, I x6.f3] false)] 118) ?_
                    refine pN ?_
                    refine pS ?_
                    refine gF (.tmp 82) ?_
                    refine gS 0 ?_
                    refine gR 11 (rg Try.f42 11) ?_
                    refine se (mkE [(0, I p0), (1, I p1), (2, I p2), (3, I p3), (4, I p4), (10, .ba 80 0), (11, .ba 88 0), (13, .ba 104 0), (14, .ba 112 0), (98, B (eqI p4 3))] [(80, .box [I 0, I 0, I 0, I 0] false), (88, .box [I 0, I 0, I 0, I 0] false), (104, .box [I x5.f0, I x5.f1, I x5.f2, I x5.f3] false), (112, .box [I x6.f0, I x6.f1, I x6.f2, I x6.f3] false)] 118) ?_
                    refine pN ?_
                    refine pS ?_
                    refine gC 98 (eqI p4 3) ?_ ?_
                    · refine gR 12 (rg Try.f42 12) ?_
                      refine sg 5 (mkE [(105, I p2), (104, I (mulI .i64 p0 p3)), (103, I p3), (102, I p0), (101, I p0), (0, I p0), (1, I p1), (2, I p2), (3, I p3), (4, I p4), (10, .ba 80 0), (11, .ba 88 0), (13, .ba 104 0), (14, .ba 112 0), (98, B (eqI p4 3))] [(80, .box [I 0, I 0, I 0, I 0] false), (88, .box [I 0, I 0, I 0, I 0] false), (104, .box [I x5.f0, I x5.f1, I x5.f2, I x5.f3] false), (112, .box [I x6.f0, I x6.f1, I x6.f2, I x6.f3] false)] 118) ?_
                      refine vo 106 (quoE 3 .i64 (.tmp 104) (.tmp 105) (mulI .i64 p0 p3) p2) (fun x15 => ?_)
                      refine sg 9 (mkE [(109, I p1), (108, I p0), (107, I (maxI 1 x15)), (106, I x15), (105, I p2), (104, I (mulI .i64 p0 p3)), (103, I p3), (102, I p0), (101, I p0), (0, I p0), (1, I p1), (2, I p2), (3, I p3), (4, I p4), (10, .ba 80 0), (11, .ba 88 0), (13, .ba 104 0), (14, .ba 112 0), (98, B (eqI p4 3))] [(80, .box [I 0, I 0, I 0, I 0] false), (88, .box [I 0, I 0, I 0, I 0] false), (104, .box [I x5.f0, I x5.f1, I x5.f2, I x5.f3] false), (112, .box [I x6.f0, I x6.f1, I x6.f2, I x6.f3] false)] 118) ?_
                      refine co 110 [] (h135 p0 (maxI 1 x15) p0 p1) (fun x16 => ?_)
                      refine se (mkE [(10, .ba 80 0), (11, .ba 88 0), (13, .ba 104 0), (14, .ba 112 0)] [(80, .box [I 0, I 0, I 0, I 0] false), (88, .box [I 0, I 0, I 0, I 0] false), (104, .box [I x16.f0, I x16.f1, I x16.f2, I x16.f3] false), (112, .box [I x6.f0, I x6.f1, I x6.f2, I x6.f3] false)] 118) ?_
                      refine pB ?_
                      refine pG (mkE [(10, .ba 80 0), (11, .ba 88 0), (13, .ba 104 0), (14, .ba 112 0)] [(80, .box [I 0, I 0, I 0, I 0] false), (88, .box [I 0, I 0, I 0, I 0] false), (104, .box [I x16.f0, I x16.f1, I x16.f2, I x16.f3] false), (112, .box [I x6.f0, I x6.f1, I x6.f2, I x6.f3] false)] 118) ?_
                      exact pL
                    · refine gS 0 ?_
                      refine gR 13 (rg Try.f42 13) ?_
                      refine se (mkE [(10, .ba 80 0), (11, .ba 88 0), (13, .ba 104 0), (14, .ba 112 0), (111, B (neI p4 1))] [(80, .box [I 0, I 0, I 0, I 0] false), (88, .box [I 0, I 0, I 0, I 0] false), (104, .box [I x5.f0, I x5.f1, I x5.f2, I x5.f3] false), (112, .box [I x6.f0, I x6.f1, I x6.f2, I x6.f3] false)] 118) ?_
                      refine pN ?_
                      refine pS ?_
                      refine gC 111 (neI p4 1) ?_ ?_
                      · refine gS 0 ?_
                        refine gR 14 (rg Try.f42 14) ?_
                        refine se (mkE [(10, .ba 80 0), (11, .ba 88 0), (12, I 4)] [(80, .box [I 0, I 0, I 0, I 0] false), (88, .box [I 0, I 0, I 0, I 0] false)] 118) ?_
                        refine pN ?_
                        refine pS ?_
                        refine gE ?_
                        exact pL
                      · refine gK ?_
                        refine pB ?_
                        refine pG (mkE [(10, .ba 80 0), (11, .ba 88 0), (13, .ba 104 0), (14, .ba 112 0)] [(80, .box [I 0, I 0, I 0, I 0] false), (88, .box [I 0, I 0, I 0, I 0] false), (104, .box [I x5.f0, I x5.f1, I x5.f2, I x5.f3] false), (112, .box [I x6.f0, I x6.f1, I x6.f2, I x6.f3] false)] 118) ?_
                        exact pL
            · refine se (mkE [(0, I p0), (1, I p1), (2, I p2), (3, I p3), (4, I p4), (10, .ba 80 0), (11, .ba 88 0), (13, .ba 104 0), (14, .ba 112 0), (15, B (leI (mulI .i64 p1 p2) (mulI .i64 p0 p3))), (53, B false)] [(80, .box [I 0, I 0, I 0, I 0] false), (88, .box [I 0, I 0, I 0, I 0] false), (104, .box [I x5.f0, I x5.f1, I x5.f2, I x5.f3] false), (112, .box [I x6.f0, I x6.f1, I x6.f2, I x6.f3] false)] 118) ?_
              refine pN ?_
              refine pS ?_
              refine gF (.tmp 53) ?_
              refine gS 0 ?_
              refine gR 7 (rg Try.f42 7) ?_
              refine se (mkE [(0, I p0), (1, I p1), (2, I p2), (3, I p3), (4, I p4), (10, .ba 80 0), (11, .ba 88 0), (13, .ba 104 0), (14, .ba 112 0), (15, B (leI (mulI .i64 p1 p2) (mulI .i64 p0 p3))), (69, B (eqI p4 2))] [(80, .box [I 0, I 0, I 0, I 0] false), (88, .box [I 0, I 0, I 0, I 0] false), (104, .box [I x5.f0, I x5.f1, I x5.f2, I x5.f3] false), (112, .box [I x6.f0, I x6.f1, I x6.f2, I x6.f3] false)] 118) ?_
              refine pN ?_
              refine pS ?_
              refine gC 69 (eqI p4 2) ?_ ?_
              · refine gR 8 (rg Try.f42 8) ?_
                refine sg 4 (mkE [(75, I p1), (74, I (mulI .i64 p0 p3)), (73, I p3), (72, I p0), (0, I p0), (1, I p1), (2, I p2), (3, I p3), (4, I p4), (10, .ba 80 0), (11, .ba 88 0), (13, .ba 104 0), (14, .ba 112 0), (15, B (leI (mulI .i64 p1 p2) (mulI .i64 p0 p3))), (69, B (eqI p4 2))] [(80, .box [I 0, I 0, I 0, I 0] false), (88, .box [I 0, I 0, I 0, I 0] false), (104, .box [I x5.f0, I x5.f1, I x5.f2, I x5.f3] false), (112, .box [I x6.f0, I x6.f1, I x6.f2, I x6.f3] false)] 118) ?_
                refine vo 76 (quoE 3 .i64 (.tmp 74) (.tmp 75) (mulI .i64 p0 p3) p1) (fun x17 => ?_)
                refine sg 9 (mkE [(80, I p3), (79, I p2), (78, I p3), (77, I (maxI 1 x17)), (76, I x17), (75, I p1), (74, I (mulI .i64 p0 p3)), (73, I p3), (72, I p0), (0, I p0), (1, I p1), (2, I p2), (3, I p3), (4, I p4), (10, .ba 80 0), (11, .ba 88 0), (13, .ba 104 0), (14, .ba 112 0), (15, B (leI (mulI .i64 p1 p2) (mulI .i64 p0 p3))), (69, B (eqI p4 2))] [(80, .box [I 0, I 0, I 0, I 0] false), (88, .box [I 0, I 0, I 0, I 0] false), (104, .box [I x5.f0, I x5.f1, I x5.f2, I x5.f3] false), (112, .box [I x6.f0, I x6.f1, I x6.f2, I x6.f3] false)] 118) ?_
                refine co 81 [] (h135 (maxI 1 x17) p3 p2 p3) (fun x18 => ?_)
                refine se (mkE [(10, .ba 80 0), (11, .ba 88 0), (13, .ba 104 0), (14, .ba 112 0)] [(80, .box [I 0, I 0, I 0, I 0] false), (88, .box [I 0, I 0, I 0, I 0] false), (104, .box [I x5.f0, I x5.f1, I x5.f2, I x5.f3] false), (112, .box [I x18.f0, I x18.f1, I x18.f2, I x18.f3] false)] 118) ?_
                refine pB ?_
                refine pG (mkE [(10, .ba 80 0), (11, .ba 88 0), (13, .ba 104 0), (14, .ba 112 0)] [(80, .box [I 0, I 0, I 0, I 0] false), (88, .box [I 0, I 0, I 0, I 0] false), (104, .box [I x5.f0, I x5.f1, I x5.f2, I x5.f3] false), (112, .box [I x18.f0, I x18.f1, I x18.f2, I x18.f3] false)] 118) ?_
                exact pL
              · refine gS 0 ?_
                refine gR 9 (rg Try.f42 9) ?_
                refine sg 3 (mkE [(85, B (eqI p4 3)), (84, B (eqI p4 3)), (83, I p4), (0, I p0), (1, I p1), (2, I p2), (3, I p3), (4, I p4), (10, .ba 80 0), (11, .ba 88 0), (13, .ba 104 0), (14, .ba 112 0), (15, B (leI (mulI .i64 p1 p2) (mulI .i64 p0 p3))), (69, B (eqI p4 2))] [(80, .box [I 0, I 0, I 0, I 0] false), (88, .box [I 0, I 0, I 0, I 0] false), (104, .box [I x5.f0, I x5.f1, I x5.f2, I x5.f3] false), (112, .box [I x6.f0, I x6.f1, I x6.f2, I x6.f3] false)] 118) ?_
                refine sb 85 (eqI p4 3) ?_ ?_
                · refine se (mkE [(0, I p0), (1, I p1), (2, I p2), (3, I p3), (4, I p4), (10, .ba 80 0), (11, .ba 88 0), (13, .ba 104 0), (14, .ba 112 0), (82, B (leI (mulI .i64 p1 p2) (mulI .i64 p0 p3)))] [(80, .box [I 0, I 0, I 0, I 0] false), (88, .box [I 0, I 0, I 0, I 0] false), (104, .box [I x5.f0, I x5.f1, I x5.f2, I x5.f3] false), (112, .box [I x6.f0, I x6.f1, I x6.f2, I x6.f3] false)] 118) ?_
                  refine pN ?_
                  refine pS ?_
                  refine gC 82 (leI (mulI .i64 p1 p2) (mulI .i64 p0 p3)) ?_ ?_
                  · refine gR 10 (rg Try.f42 10) ?_
                    refine sg 4 (mkE [(91, I p3), (90, I (mulI .i64 p1 p2)), (89, I p2), (88, I p1), (0, I p0), (1, I p1), (2, I p2), (3, I p3), (4, I p4), (10, .ba 80 0), (11, .ba 88 0), (13, .ba 104 0), (14, .ba 112 0), (82, B (leI (mulI .i64 p1 p2) (mulI .i64 p0 p3)))] [(80, .box [I 0, I 0, I 0, I 0] false), (88, .box [I 0, I 0, I 0, I 0] false), (104, .box [I x5.f0, I x5.f1, I x5.f2, I x5.f3] false), (112, .box [I x6.f0, I x6.f1, I x6.f2, I x6.f3] false)] 118) ?_
                    refine vo 92 (quoE 3 .i64 (.tmp 90) (.tmp 91) (mulI .i64 p1 p2) p3) (fun x19 => ?_)
                    refine sg 9 (mkE [(96, I p1), (95, I p0), (94, I p1), (93, I (maxI 1 x19)), (92, I x19), (91, I p3), (90, I (mulI .i64 p1 p2)), (89, I p2), (88, I p1), (0, I p0), (1, I p1), (2, I p2), (3, I p3), (4, I p4), (10, .ba 80 0), (11, .ba 88 0), (13, .ba 104 0), (14, .ba 112 0), (82, B (leI (mulI .i64 p1 p2) (mulI .i64 p0 p3)))] [(80, .box [I 0, I 0, I 0, I 0] false), (88, .box [I 0, I 0, I 0, I 0] false), (104, .box [I x5.f0, I x5.f1, I x5.f2, I x5.f3] false), (112, .box [I x6.f0, I x6.f1, I x6.f2, I x6.f3] false)] 118) ?_
                    refine co 97 [] (h135 (maxI 1 x19) p1 p0 p1) (fun x20 => ?_)
                    refine se (mkE [(10, .ba 80 0), (11, .ba 88 0), (13, .ba 104 0), (14, .ba 112 0)] [(80, .box [I 0, I 0, I 0, I 0] false), (88, .box [I 0, I 0, I 0, I 0] false), (104, .box [I x20.f0, I x20.f1, I x20.f2, I x20.f3] false), (112, .box [I x6.f0, I x6.f1, I x6.f2, I x6.f3] false)] 118) ?_
                    refine pB ?_
                    refine pG (mkE [(10, .ba 80 0), (11, .ba 88 0), (13, .ba 104 0), (14, .ba 112 0)] [(80, .box [I 0, I 0, I 0, I 0] false), (88, .box [I 0, I 0, I 0, I 0] false), (104, .box [I x20.f0, I x20.f1, I x20.f2, I x20.f3] false), (112, .box [I x6.f0, I x6.f1, I x6.f2, I x6.f3] false)] 118) ?_
                    exact pL
                  · refine gS 0 ?_
                    refine gR 11 (rg Try.f42 11) ?_
                    refine se (mkE [(0, I p0), (1, I p1), (2, I p2), (3, I p3), (4, I p4), (10, .ba 80 0), (11, .ba 88 0), (13, .ba 104 0), (14, .ba 112 0), (98, B (eqI p4 3))] [(80, .box [I 0, I 0, I 0, I 0] false), (88, .box [I 0, I 0, I 0, I 0] false), (104, .box [I x5.f0, I x5.f1, I x5.f2, I x5.f3] false), (112, .box [I x6.f0, I x6.f1, I x6.f2, I x6.f3] false)] 118) ?_
                    refine pN ?_
                    refine pS ?_
                    refine gC 98 (eqI p4 3) ?_ ?_
                    · refine gR 12 (rg Try.f42 12) ?_
                      refine sg 5 (mkE [(105, I p2), (104, I (mulI .i64 p0 p3)), (103, I p3), (102, I p0), (101, I p0), (0, I p0), (1, I p1), (2, I p2), (3, I p3), (4, I p4), (10, .ba 80 0), (11, .ba 88 0), (13, .ba 104 0), (14, .ba 112 0), (98, B (eqI p4 3))] [(80, .box [I 0, I 0, I 0, I 0] false), (88, .box [I 0, I 0, I 0, I 0] false), (104, .box [I x5.f0, I x5.f1, I x5.f2, I x5.f3] false), (112, .box [I x6.f0, I x6.f1, I x6.f2, I x6.f3] false)] 118) ?_
                      refine vo 106 (quoE 3 .i64 (.tmp 104) (.tmp 105) (mulI .i64 p0 p3) p2) (fun x21 => ?_)
                      refine sg 9 (mkE [(109, I p1), (108, I p0), (107, I (maxI 1 x21)), (106, I x21), (105, I p2), (104, I (mulI .i64 p0 p3)), (103, I p3), (102, I p0), (101, I p0), (0, I p0), (1, I p1), (2, I p2), (3, I p3), (4, I p4), (10, .ba 80 0), (11, .ba 88 0), (13, .ba 104 0), (14, .ba 112 0), (98, B (eqI p4 3))] [(80, .box [I 0, I 0, I 0, I 0] false), (88, .box [I 0, I 0, I 0, I 0] false), (104, .box [I x5.f0, I x5.f1, I x5.f2, I x5.f3] false), (112, .box [I x6.f0, I x6.f1, I x6.f2, I x6.f3] false)] 118) ?_
                      refine co 110 [] (h135 p0 (maxI 1 x21) p0 p1) (fun x22 => ?_)
                      refine se (mkE [(10, .ba 80 0), (11, .ba 88 0), (13, .ba 104 0), (14, .ba 112 0)] [(80, .box [I 0, I 0, I 0, I 0] false), (88, .box [I 0, I 0, I 0, I 0] false), (104, .box [I x22.f0, I x22.f1, I x22.f2, I x22.f3] false), (112, .box [I x6.f0, I x6.f1, I x6.f2, I x6.f3] false)] 118) ?_
                      refine pB ?_
                      refine pG (mkE [(10, .ba 80 0), (11, .ba 88 0), (13, .ba 104 0), (14, .ba 112 0)] [(80, .box [I 0, I 0, I 0, I 0] false), (88, .box [I 0, I 0, I 0, I 0] false), (104, .box [I x22.f0, I x22.f1, I x22.f2, I x22.f3] false), (112, .box [I x6.f0, I x6.f1, I x6.f2, I x6.f3] false)] 118) ?_
                      exact pL
                    · refine gS 0 ?_
                      refine gR 13 (rg Try.f42 13) ?_
                      refine se (mkE [(10, .ba 80 0), (11, .ba 88 0), (13, .ba 104 0), (14, .ba 112 0), (111, B (neI p4 1))] [(80, .box [I 0, I 0, I 0, I 0] false), (88, .box [I 0, I 0, I 0, I 0] false), (104, .box [I x5.f0, I x5.f1, I x5.f2, I x5.f3] false), (112, .box [I x6.f0, I x6.f1, I x6.f2, I x6.f3] false)] 118) ?_
                      refine pN ?_
                      refine pS ?_
                      refine gC 111 (neI p4 1) ?_ ?_
                      · refine gS 0 ?_
                        refine gR 14 (rg Try.f42 14) ?_
                        refine se (mkE [(10, .ba 80 0), (11, .ba 88 0), (12, I 4)] [(80, .box [I 0, I 0, I 0, I 0] false), (88, .box [I 0, I 0, I 0, I 0] false)] 118) ?_
                        refine pN ?_
                        refine pS ?_
                        refine gE ?_
                        exact pL
                      · refine gK ?_
                        refine pB ?_
                        refine pG (mkE [(10, .ba 80 0), (11, .ba 88 0), (13, .ba 104 0), (14, .ba 112 0)] [(80, .box [I 0, I 0, I 0, I 0] false), (88, .box [I 0, I 0, I 0, I 0] false), (104, .box [I x5.f0, I x5.f1, I x5.f2, I x5.f3] false), (112, .box [I x6.f0, I x6.f1, I x6.f2, I x6.f3] false)] 118) ?_
                        exact pL
                · refine se (mkE [(0, I p0), (1, I p1), (2, I p2), (3, I p3), (4, I p4), (10, .ba 80 0), (11, .ba 88 0), (13, .ba 104 0), (14, .ba 112 0), (82, B false)] [(80, .box [I 0, I 0, I 0, I 0] false), (88, .box [I 0, I 0, I 0, I 0] false), (104, .box [I x5.f0, I x5.f1, I x5.f2, I x5.f3] false), (112, .box [I x6.f0, I x6.f1, I x6.f2, I x6.f3] false)] 118) ?_
                  refine pN ?_
                  refine pS ?_
                  refine gF (.tmp 82) ?_
                  refine gS 0 ?_
                  refine gR 11 (rg Try.f42 11) ?_
                  refine se (mkE [(0, I p0), (1, I p1), (2, I p2), (3, I p3), (4, I p4), (10, .ba 80 0), (11, .ba 88 0), (13, .ba 104 0), (14, .ba 112 0), (98, B (eqI p4 3))] [(80, .box [I 0, I 0, I 0, I 0] false), (88, .box [I 0, I 0, I 0, I 0] false), (104, .box [I x5.f0, I x5.f1, I x5.f2, I x5.f3] false), (112, .box [I x6.f0, I x6.f1, I x6.f2, I x6.f3] false)] 118) ?_
                  refine pN ?_
                  refine pS ?_
                  refine gC 98 (eqI p4 3) ?_ ?_
                  · refine gR 12 (rg Try.f42 12) ?_
                    refine sg 5 (mkE [(105, I p2), (104, I (mulI .i64 p0 p3)), (103, I p3), (102, I p0), (101, I p0), (0, I p0), (1, I p1), (2, I p2), (3, I p3), (4, I p4), (10, .ba 80 0), (11, .ba 88 0), (13, .ba 104 0), (14, .ba 112 0), (98, B (eqI p4 3))] [(80, .box [I 0, I 0, I 0, I 0] false), (88, .box [I 0, I 0, I 0, I 0] false), (104, .box [I x5.f0, I x5.f1, I x5.f2, I x5.f3] false), (112, .box [I x6.f0, I x6.f1, I x6.f2, I x6.f3] false)] 118) ?_
                    refine vo 106 (quoE 3 .i64 (.tmp 104) (.tmp 105) (mulI .i64 p0 p3) p2) (fun x23 => ?_)
                    refine sg 9 (mkE [(109, I p1), (108, I p0), (107, I (maxI 1 x23)), (106, I x23), (105, I p2), (104, I (mulI .i64 p0 p3)), (103, I p3), (102, I p0), (101, I p0), (0, I p0), (1, I p1), (2, I p2), (3, I p3), (4, I p4), (10, .ba 80 0), (11, .ba 88 0), (13, .ba 104 0), (14, .ba 112 0), (98, B (eqI p4 3))] [(80, .box [I 0, I 0, I 0, I 0] false), (88, .box [I 0, I 0, I 0, I 0] false), (104, .box [I x5.f0, I x5.f1, I x5.f2, I x5.f3] false), (112, .box [I x6.f0, I x6.f1, I x6.f2, I x6.f3] false)] 118) ?_
                    refine co 110 [] (h135 p0 (maxI 1 x23) p0 p1) (fun x24 => ?_)
                    refine se (mkE [(10, .ba 80 0), (11, .ba 88 0), (13, .ba 104 0), (14, .ba 112 0)] [(80, .box [I 0, I 0, I 0, I 0] false), (88, .box [I 0, I 0, I 0, I 0] false), (104, .box [I x24.f0, I x24.f1, I x24.f2, I x24.f3] false), (112, .box [I x6.f0, I x6.f1, I x6.f2, I x6.f3] false)] 118) ?_
                    refine pB ?_
                    refine pG (mkE [(10, .ba 80 0), (11, .ba 88 0), (13, .ba 104 0), (14, .ba 112 0)] [(80, .box [I 0, I 0, I 0, I 0] false), (88, .box [I 0, I 0, I 0, I 0] false), (104, .box [I x24.f0, I x24.f1, I x24.f2, I x24.f3] false), (112, .box [I x6.f0, I x6.f1, I x6.f2, I x6.f3] false)] 118) ?_
                    exact pL
                  · refine gS 0 ?_
                    refine gR 13 (rg Try.f42 13) ?_
                    refine se (mkE [(10, .ba 80 0), (11, .ba 88 0), (13, .ba 104 0), (14, .ba 112 0), (111, B (neI p4 1))] [(80, .box [I 0, I 0, I 0, I 0] false), (88, .box [I 0, I 0, I 0, I 0] false), (104, .box [I x5.f0, I x5.f1, I x5.f2, I x5.f3] false), (112, .box [I x6.f0, I x6.f1, I x6.f2, I x6.f3] false)] 118) ?_
                    refine pN ?_
                    refine pS ?_
                    refine gC 111 (neI p4 1) ?_ ?_
                    · refine gS 0 ?_
                      refine gR 14 (rg Try.f42 14) ?_
                      refine se (mkE [(10, .ba 80 0), (11, .ba 88 0), (12, I 4)] [(80, .box [I 0, I 0, I 0, I 0] false), (88, .box [I 0, I 0, I 0, I 0] false)] 118) ?_
                      refine pN ?_
                      refine pS ?_
                      refine gE ?_
                      exact pL
                    · refine gK ?_
                      refine pB ?_
                      refine pG (mkE [(10, .ba 80 0), (11, .ba 88 0), (13, .ba 104 0), (14, .ba 112 0)] [(80, .box [I 0, I 0, I 0, I 0] false), (88, .box [I 0, I 0, I 0, I 0] false), (104, .box [I x5.f0, I x5.f1, I x5.f2, I x5.f3] false), (112, .box [I x6.f0, I x6.f1, I x6.f2, I x6.f3] false)] 118) ?_
                      exact pL
          refine ss y25 (Z := (Sum.elim (fun (x : (Int × Int × Int × Int × Int × Int × Int × Int)) => (.normal, (mkE [(10, .ba 80 0), (11, .ba 88 0), (13, .ba 104 0), (14, .ba 112 0)] [(80, .box [I 0, I 0, I 0, I 0] false), (88, .box [I 0, I 0, I 0, I 0] false), (104, .box [I x.1, I x.2.1, I x.2.2.1, I x.2.2.2.1] false), (112, .box [I x.2.2.2.2.1, I x.2.2.2.2.2.1, I x.2.2.2.2.2.2.1, I x.2.2.2.2.2.2.2] false)] 118))) (fun (x : Unit) => (.ret, (mkE [(10, .ba 80 0), (11, .ba 88 0), (12, I 4)] [(80, .box [I 0, I 0, I 0, I 0] false), (88, .box [I 0, I 0, I 0, I 0] false)] 118))))) (fun y25a => ?_) (fun y25b => ?_)
          · refine pS ?_
            refine gS 0 ?_
            refine gD 15 3 (rg Try.f42 15) [0, 1, 2, 3, 4] ?_
            refine dg 3 [(some 116, qe (.agg [I y25a.1, I y25a.2.1, I y25a.2.2.1, I y25a.2.2.2.1])), (some 117, qe (.agg [I y25a.2.2.2.2.1, I y25a.2.2.2.2.2.1, I y25a.2.2.2.2.2.2.1, I y25a.2.2.2.2.2.2.2])), (none, { e := { val := .und }, st := some (80, .box [I y25a.1, I y25a.2.1, I y25a.2.2.1, I y25a.2.2.2.1] false, 0, 4) })] ?_
            refine de (mkE [(117, .agg [I y25a.2.2.2.2.1, I y25a.2.2.2.2.2.1, I y25a.2.2.2.2.2.2.1, I y25a.2.2.2.2.2.2.2]), (116, .agg [I y25a.1, I y25a.2.1, I y25a.2.2.1, I y25a.2.2.2.1]), (10, .ba 80 0), (11, .ba 88 0), (13, .ba 104 0), (14, .ba 112 0)] [(80, .box [I y25a.1, I y25a.2.1, I y25a.2.2.1, I y25a.2.2.2.1] false), (80, .box [I 0, I 0, I 0, I 0] false), (88, .box [I 0, I 0, I 0, I 0] false), (104, .box [I y25a.1, I y25a.2.1, I y25a.2.2.1, I y25a.2.2.2.1] false), (112, .box [I y25a.2.2.2.2.1, I y25a.2.2.2.2.2.1, I y25a.2.2.2.2.2.2.1, I y25a.2.2.2.2.2.2.2] false)] 118) ?_
            refine se (mkE [(10, .ba 80 0), (11, .ba 88 0), (12, I 0)] [(80, .box [I y25a.1, I y25a.2.1, I y25a.2.2.1, I y25a.2.2.2.1] false), (88, .box [I y25a.2.2.2.2.1, I y25a.2.2.2.2.2.1, I y25a.2.2.2.2.2.2.1, I y25a.2.2.2.2.2.2.2] false)] 118) ?_
            refine pN ?_
            refine pS ?_
            refine gE ?_
            exact pL
          · exact pL
theorem F42 (m : Nat) (hm : 3 ≤ m) (p0 : Int) (p1 : Int) (p2 : Int) (p3 : Int) (p4 : Int) : callA Try.prog cfg m 42 [I p0, I p1, I p2, I p3, I p4] = (T42 p0 p1 p2 p3 p4).map (fun r => AV.tup [a63 r.1, a63 r.2.1, I r.2.2]) := by
  obtain ⟨q, rfl⟩ : ∃ q, m = q + 1 := ⟨m - 1, by omega⟩
  exact (callA_body (fn := Try.f42) (c := body_ Try.f42) q _ (by kernel_rfl) (by kernel_rfl) (by kernel_rfl)).trans (B42 _ (fun p0 => F131 q (by omega) p0) (fun p0 p1 p2 p3 => F135 q (by omega) p0 p1 p2 p3) p0 p1 p2 p3 p4)

noncomputable def L211_4 (p0 : (List S63)) (z0 : Int) : Option (Int ⊕ ((Int × Bool) ⊕ Int)) := (bif (ltI z0 (lenL p0)) then ((listAt p0 z0).bind fun x1 => ((T117 x1).bind fun x2 => (bif (neI x2 0) then (some (.inr (.inr x2))) else (some (.inl (addI .i64 z0 1)))))) else (some (.inr (.inl (z0, (ltI z0 (lenL p0)))))))
theorem L211_4_ok (C : Callee) (h117 : ∀ (p0 : S63), C 117 [a63 p0] = (T117 p0).map I) (p0 : (List S63)) (z0 : Int) : runs Try.prog C (cfg.fn 211) (finLoop ((cfg.fn 211).keep 4) ((cfg.fn 211).al 4)) [] (execA Try.prog C (cfg.fn 211) (nr Try.f211 [false, false, true, false, true, true]) ((fun z0 : Int => (mkE [(9, LL a63 p0), (10, I (lenL p0)), (11, I z0)] [] 21)) z0)) = (L211_4 p0 z0).map (Sum.elim (fun z => .inl ((fun z0 : Int => (mkE [(9, LL a63 p0), (10, I (lenL p0)), (11, I z0)] [] 21)) z)) (fun x => .inr ((Sum.elim (fun (x : (Int × Bool)) => (.exit 0, (mkE [(9, LL a63 p0), (10, I (lenL p0)), (11, I x.1), (12, B x.2)] [] 21))) (fun (x : Int) => (.ret, (mkE [(2, I x)] [] 21)))) x))) := by
  unfold L211_4
  refine gS 0 ?_
  refine gR 4 (rg Try.f211 4) ?_
  refine se (mkE [(9, LL a63 p0), (10, I (lenL p0)), (11, I z0), (12, B (ltI z0 (lenL p0)))] [] 21) ?_
  refine pN ?_
  refine pS ?_
  refine gS 5 ?_
  refine gC 12 (ltI z0 (lenL p0)) ?_ ?_
  · refine gK ?_
    refine pN ?_
    refine pS ?_
    refine gS 9 ?_
    refine gB 1 ?_
    refine gS 6 ?_
    refine gR 5 (rg Try.f211 5) ?_
    refine vo 13 (addrE 65 64 4 a63 .i64 p0 z0) (fun x1 => ?_)
    refine se (mkE [(4, .ba 32 0), (9, LL a63 p0), (10, I (lenL p0)), (11, I z0)] [(32, .box [I x1.f0, I x1.f1, I x1.f2, I x1.f3] false)] 21) ?_
    refine pN ?_
    refine pS ?_
    refine gS 7 ?_
    refine gR 6 (rg Try.f211 6) ?_
    refine sg 1 (mkE [(15, a63 x1), (4, .ba 32 0), (9, LL a63 p0), (10, I (lenL p0)), (11, I z0)] [(32, .box [I x1.f0, I x1.f1, I x1.f2, I x1.f3] false)] 21) ?_
    refine co 16 [] (h117 x1) (fun x2 => ?_)
    refine se (mkE [(5, I x2), (9, LL a63 p0), (10, I (lenL p0)), (11, I z0)] [] 21) ?_
    refine pN ?_
    refine pS ?_
    refine gS 0 ?_
    refine gR 7 (rg Try.f211 7) ?_
    refine se (mkE [(5, I x2), (9, LL a63 p0), (10, I (lenL p0)), (11, I z0), (18, B (neI x2 0))] [] 21) ?_
    refine pN ?_
    refine pS ?_
    refine gC 18 (neI x2 0) ?_ ?_
    · refine gS 0 ?_
      refine gR 8 (rg Try.f211 8) ?_
      refine se (mkE [(2, I x2)] [] 21) ?_
      refine pN ?_
      refine pS ?_
      refine gE ?_
      exact pL
    · refine gK ?_
      refine pB ?_
      refine pN ?_
      refine pS ?_
      refine gR 9 (rg Try.f211 9) ?_
      refine se (mkE [(9, LL a63 p0), (10, I (lenL p0)), (11, I (addI .i64 z0 1))] [] 21) ?_
      exact pL
  · refine gX 0 ?_
    exact pL
noncomputable def T211 (p0 : (List S63)) : Option Int := (bif (ltI 2000 (lenL p0)) then (some 2) else ((iter (L211_4 p0) 0).bind fun y3 => (Sum.elim (fun y3a => (some 0)) (fun y3b => (some y3b)) y3)))
theorem B211 (C : Callee) (h117 : ∀ (p0 : S63), C 117 [a63 p0] = (T117 p0).map I) (p0 : (List S63)) : runs Try.prog C (cfg.fn 211) (finFn Try.prog (cfg.fn 211).byval Try.f211) [] (execA Try.prog C (cfg.fn 211) (nr Try.f211 []) (frame0 [LL a63 p0] 21 false)) = (T211 p0).map I := by
  unfold T211
  refine gS 1 ?_
  refine gR 0 (rg Try.f211 0) ?_
  refine se (mkE [(0, LL a63 p0)] [] 21) ?_
  refine pN ?_
  refine pS ?_
  refine gS 3 ?_
  refine gS 0 ?_
  refine gR 1 (rg Try.f211 1) ?_
  refine sg 1 (mkE [(6, LL a63 p0), (0, LL a63 p0)] [] 21) ?_
  refine eo 7 (I (lenL p0)) (lenE 65 a63 p0) ?_
  refine se (mkE [(0, LL a63 p0), (8, B (ltI 2000 (lenL p0)))] [] 21) ?_
  refine pN ?_
  refine pS ?_
  refine gC 8 (ltI 2000 (lenL p0)) ?_ ?_
  · refine gS 0 ?_
    refine gR 2 (rg Try.f211 2) ?_
    refine se (mkE [(2, I 2)] [] 21) ?_
    refine pN ?_
    refine pS ?_
    refine gE ?_
    exact pL
  · refine gK ?_
    refine pN ?_
    refine pS ?_
    refine gS 10 ?_
    refine gS 4 ?_
    refine gR 3 (rg Try.f211 3) ?_
    refine sg 1 (mkE [(9, LL a63 p0), (0, LL a63 p0), (8, B (ltI 2000 (lenL p0)))] [] 21) ?_
    refine eo 10 (I (lenL p0)) (lenE 65 a63 p0) ?_
    refine se (mkE [(9, LL a63 p0), (10, I (lenL p0)), (11, I 0)] [] 21) ?_
    refine pN ?_
    refine pS ?_
    refine gB 0 ?_
    refine lo [(9, none), (10, none), (11, none)] [] (L211_4 p0) (fun z0 : Int => (mkE [(9, LL a63 p0), (10, I (lenL p0)), (11, I z0)] [] 21)) (Sum.elim (fun (x : (Int × Bool)) => (.exit 0, (mkE [(9, LL a63 p0), (10, I (lenL p0)), (11, I x.1), (12, B x.2)] [] 21))) (fun (x : Int) => (.ret, (mkE [(2, I x)] [] 21)))) 0 (fun z => L211_4_ok C h117 p0 z) ?_
    intro y3
    refine ss y3 (Z := (Sum.elim (fun (x : (Int × Bool)) => (.exit 0, (mkE [(9, LL a63 p0), (10, I (lenL p0)), (11, I x.1), (12, B x.2)] [] 21))) (fun (x : Int) => (.ret, (mkE [(2, I x)] [] 21))))) (fun y3a => ?_) (fun y3b => ?_)
    · refine pH ?_
      refine pN ?_
      refine pS ?_
      refine gS 0 ?_
      refine gR 10 (rg Try.f211 10) ?_
      refine se (mkE [(2, I 0)] [] 21) ?_
      refine pN ?_
      refine pS ?_
      refine gE ?_
      exact pL
    · exact pL
theorem F211 (m : Nat) (hm : 3 ≤ m) (p0 : (List S63)) : callA Try.prog cfg m 211 [LL a63 p0] = (T211 p0).map I := by
  obtain ⟨q, rfl⟩ : ∃ q, m = q + 1 := ⟨m - 1, by omega⟩
  exact (callA_body (fn := Try.f211) (c := body_ Try.f211) q _ (by kernel_rfl) (by kernel_rfl) (by kernel_rfl)).trans (B211 _ (fun p0 => F117 q (by omega) p0) p0)

theorem F263 (m : Nat) (hm : 1 ≤ m) (p1 : Int) : callA Try.prog cfg m 263 [.nils, I p1] = (growO S63 32 p1).map (fun l => AV.fr 64 4 (List.map a63 l)) := by
  obtain ⟨q, rfl⟩ : ∃ q, m = q + 1 := ⟨m - 1, by omega⟩
  exact (callA_leaf (L := (leafGrow Try.prog 64 4 32)) _ _ (by kernel_rfl)).trans (grow_leaf 64 4 32 a63 _ p1 (by kernel_rfl))

noncomputable def L218_3 (p0 : (List (List S63))) (z0 : (Int × Int)) : Option ((Int × Int) ⊕ (Int × Int × Bool)) := (bif (ltI z0.2 (lenL p0)) then ((listAt p0 z0.2).bind fun x1 => (bif (ltI (addI .i64 z0.1 (lenL x1)) 0) then none else (some (.inl ((addI .i64 z0.1 (lenL x1)), (addI .i64 z0.2 1)))))) else (some (.inr (z0.1, z0.2, (ltI z0.2 (lenL p0))))))
theorem L218_3_ok (C : Callee) (p0 : (List (List S63))) (z0 : (Int × Int)) : runs Try.prog C (cfg.fn 218) (finLoop ((cfg.fn 218).keep 3) ((cfg.fn 218).al 3)) [] (execA Try.prog C (cfg.fn 218) (nr Try.f218 [false, false, true, false, true, true]) ((fun z0 : (Int × Int) => (mkE [(0, LL (LL a63) p0), (3, I z0.1), (9, LL (LL a63) p0), (10, I (lenL p0)), (11, I z0.2)] [] 36)) z0)) = (L218_3 p0 z0).map (Sum.elim (fun z => .inl ((fun z0 : (Int × Int) => (mkE [(0, LL (LL a63) p0), (3, I z0.1), (9, LL (LL a63) p0), (10, I (lenL p0)), (11, I z0.2)] [] 36)) z)) (fun x => .inr ((fun (x : (Int × Int × Bool)) => (.exit 0, (mkE [(0, LL (LL a63) p0), (3, I x.1), (9, LL (LL a63) p0), (10, I (lenL p0)), (11, I x.2.1), (12, B x.2.2)] [] 36))) x))) := by
  unfold L218_3
  refine gS 0 ?_
  refine gR 3 (rg Try.f218 3) ?_
  refine se (mkE [(0, LL (LL a63) p0), (3, I z0.1), (9, LL (LL a63) p0), (10, I (lenL p0)), (11, I z0.2), (12, B (ltI z0.2 (lenL p0)))] [] 36) ?_
  refine pN ?_
  refine pS ?_
  refine gS 4 ?_
  refine gC 12 (ltI z0.2 (lenL p0)) ?_ ?_
  · refine gK ?_
    refine pN ?_
    refine pS ?_
    refine gS 8 ?_
    refine gB 1 ?_
    refine gS 5 ?_
    refine gR 4 (rg Try.f218 4) ?_
    refine vo 13 (addrE 274 65 1 (LL a63) .i64 p0 z0.2) (fun x1 => ?_)
    refine se (mkE [(0, LL (LL a63) p0), (3, I z0.1), (5, LL a63 x1), (9, LL (LL a63) p0), (10, I (lenL p0)), (11, I z0.2)] [] 36) ?_
    refine pN ?_
    refine pS ?_
    refine gS 6 ?_
    refine gR 5 (rg Try.f218 5) ?_
    refine sg 2 (mkE [(16, LL a63 x1), (15, I z0.1), (0, LL (LL a63) p0), (3, I z0.1), (5, LL a63 x1), (9, LL (LL a63) p0), (10, I (lenL p0)), (11, I z0.2)] [] 36) ?_
    refine eo 17 (I (lenL x1)) (lenE 65 a63 x1) ?_
    refine se (mkE [(0, LL (LL a63) p0), (3, I (addI .i64 z0.1 (lenL x1))), (9, LL (LL a63) p0), (10, I (lenL p0)), (11, I z0.2)] [] 36) ?_
    refine pN ?_
    refine pS ?_
    refine gS 0 ?_
    refine gR 6 (rg Try.f218 6) ?_
    refine se (mkE [(0, LL (LL a63) p0), (3, I (addI .i64 z0.1 (lenL x1))), (9, LL (LL a63) p0), (10, I (lenL p0)), (11, I z0.2), (20, B (ltI (addI .i64 z0.1 (lenL x1)) 0))] [] 36) ?_
    refine pN ?_
    refine pS ?_
    refine gC 20 (ltI (addI .i64 z0.1 (lenL x1)) 0) ?_ ?_
    · refine gR 7 (rg Try.f218 7) ?_
      exact nO
    · refine gK ?_
      refine pB ?_
      refine pN ?_
      refine pS ?_
      refine gR 8 (rg Try.f218 8) ?_
      refine se (mkE [(0, LL (LL a63) p0), (3, I (addI .i64 z0.1 (lenL x1))), (9, LL (LL a63) p0), (10, I (lenL p0)), (11, I (addI .i64 z0.2 1))] [] 36) ?_
      exact pL
  · refine gX 0 ?_
    exact pL
noncomputable def L218_11 (p0 : (List (List S63))) (z1 : ((List S63) × Int)) : Option (((List S63) × Int) ⊕ (Int × Bool × (List S63))) := (bif (ltI z1.2 (lenL p0)) then ((listAt p0 z1.2).bind fun x4 => ((appO 32 z1.1 x4).bind fun x5 => (some (.inl (x5, (addI .i64 z1.2 1)))))) else (some (.inr (z1.2, (ltI z1.2 (lenL p0)), z1.1))))
theorem L218_11_ok (C : Callee) (p0 : (List (List S63))) (z1 : ((List S63) × Int)) : runs Try.prog C (cfg.fn 218) (finLoop ((cfg.fn 218).keep 11) ((cfg.fn 218).al 11)) [] (execA Try.prog C (cfg.fn 218) (nr Try.f218 [false, false, true, false, true, true, true, true]) ((fun z1 : ((List S63) × Int) => (mkE [(6, .own 48 0), (25, LL (LL a63) p0), (26, I (lenL p0)), (27, I z1.2)] [(48, RR 64 4 a63 z1.1 0 false)] 36)) z1)) = (L218_11 p0 z1).map (Sum.elim (fun z => .inl ((fun z1 : ((List S63) × Int) => (mkE [(6, .own 48 0), (25, LL (LL a63) p0), (26, I (lenL p0)), (27, I z1.2)] [(48, RR 64 4 a63 z1.1 0 false)] 36)) z)) (fun x => .inr ((fun (x : (Int × Bool × (List S63))) => (.exit 2, (mkE [(6, .own 48 0), (25, LL (LL a63) p0), (26, I (lenL p0)), (27, I x.1), (28, B x.2.1)] [(48, RR 64 4 a63 x.2.2 0 false)] 36))) x))) := by
  unfold L218_11
  refine gS 0 ?_
  refine gR 11 (rg Try.f218 11) ?_
  refine se (mkE [(6, .own 48 0), (25, LL (LL a63) p0), (26, I (lenL p0)), (27, I z1.2), (28, B (ltI z1.2 (lenL p0)))] [(48, RR 64 4 a63 z1.1 0 false)] 36) ?_
  refine pN ?_
  refine pS ?_
  refine gS 12 ?_
  refine gC 28 (ltI z1.2 (lenL p0)) ?_ ?_
  · refine gK ?_
    refine pN ?_
    refine pS ?_
    refine gS 14 ?_
    refine gB 3 ?_
    refine gS 13 ?_
    refine gR 12 (rg Try.f218 12) ?_
    refine vo 29 (addrE 274 65 1 (LL a63) .i64 p0 z1.2) (fun x4 => ?_)
    refine se (mkE [(6, .own 48 0), (8, LL a63 x4), (25, LL (LL a63) p0), (26, I (lenL p0)), (27, I z1.2)] [(48, RR 64 4 a63 z1.1 0 false)] 36) ?_
    refine pN ?_
    refine pS ?_
    refine gR 13 (rg Try.f218 13) ?_
    refine sg 2 (mkE [(32, LL a63 x4), (31, .own 48 0), (6, .own 48 0), (8, LL a63 x4), (25, LL (LL a63) p0), (26, I (lenL p0)), (27, I z1.2)] [(48, RR 64 4 a63 z1.1 0 false)] 36) ?_
    refine mo (some 33) (apO 65 64 4 32 48 a63 0 [] (y := LL a63 x4) (l2 := x4)) (fun x5 => ?_)
    refine se (mkE [(6, .own 48 1), (25, LL (LL a63) p0), (26, I (lenL p0)), (27, I z1.2)] [(48, RR 64 4 a63 x5 1 false)] 36) ?_
    refine pB ?_
    refine pN ?_
    refine pS ?_
    refine gR 14 (rg Try.f218 14) ?_
    refine se (mkE [(6, .own 48 1), (25, LL (LL a63) p0), (26, I (lenL p0)), (27, I (addI .i64 z1.2 1))] [(48, RR 64 4 a63 x5 1 false)] 36) ?_
    exact pL
  · refine gX 2 ?_
    exact pL
noncomputable def T218 (p0 : (List (List S63))) : Option (List S63) := ((iter (L218_3 p0) (0, 0)).bind fun y2 => ((growO S63 32 y2.1).bind fun x3 => ((iter (L218_11 p0) (x3, 0)).bind fun y6 => (some y6.2.2))))
theorem B218 (C : Callee) (h263 : ∀ (p1 : Int), C 263 [.nils, I p1] = (growO S63 32 p1).map (fun l => AV.fr 64 4 (List.map a63 l))) (p0 : (List (List S63))) : runs Try.prog C (cfg.fn 218) (finFn Try.prog (cfg.fn 218).byval Try.f218) [] (execA Try.prog C (cfg.fn 218) (nr Try.f218 []) (frame0 [LL (LL a63) p0] 36 false)) = (T218 p0).map (fun l => AV.fr 64 4 (List.map a63 l)) := by
  unfold T218
  refine gS 1 ?_
  refine gR 0 (rg Try.f218 0) ?_
  refine se (mkE [(0, LL (LL a63) p0)] [] 36) ?_
  refine pN ?_
  refine pS ?_
  refine gS 2 ?_
  refine gR 1 (rg Try.f218 1) ?_
  refine se (mkE [(0, LL (LL a63) p0), (3, I 0)] [] 36) ?_
  refine pN ?_
  refine pS ?_
  refine gS 9 ?_
  refine gS 3 ?_
  refine gR 2 (rg Try.f218 2) ?_
  refine sg 1 (mkE [(9, LL (LL a63) p0), (0, LL (LL a63) p0), (3, I 0)] [] 36) ?_
  refine eo 10 (I (lenL p0)) (lenE 274 (LL a63) p0) ?_
  refine se (mkE [(0, LL (LL a63) p0), (3, I 0), (9, LL (LL a63) p0), (10, I (lenL p0)), (11, I 0)] [] 36) ?_
  refine pN ?_
  refine pS ?_
  refine gB 0 ?_
  refine lo [(0, none), (3, none), (9, none), (10, none), (11, none)] [] (L218_3 p0) (fun z0 : (Int × Int) => (mkE [(0, LL (LL a63) p0), (3, I z0.1), (9, LL (LL a63) p0), (10, I (lenL p0)), (11, I z0.2)] [] 36)) (fun (x : (Int × Int × Bool)) => (.exit 0, (mkE [(0, LL (LL a63) p0), (3, I x.1), (9, LL (LL a63) p0), (10, I (lenL p0)), (11, I x.2.1), (12, B x.2.2)] [] 36))) (0, 0) (fun z => L218_3_ok C p0 z) ?_
  intro y2
  refine pH ?_
  refine pN ?_
  refine pS ?_
  refine gS 10 ?_
  refine gR 9 (rg Try.f218 9) ?_
  refine sg 1 (mkE [(23, I y2.1), (0, LL (LL a63) p0), (3, I y2.1), (9, LL (LL a63) p0), (10, I (lenL p0)), (11, I y2.2.1), (12, B y2.2.2)] [] 36) ?_
  refine co 24 [] (h263 y2.1) (fun x3 => ?_)
  refine se (mkE [(0, LL (LL a63) p0), (6, .own 192 0)] [(192, RR 64 4 a63 x3 0 false)] 36) ?_
  refine pN ?_
  refine pS ?_
  refine gS 15 ?_
  refine gS 11 ?_
  refine gR 10 (rg Try.f218 10) ?_
  refine sg 1 (mkE [(25, LL (LL a63) p0), (0, LL (LL a63) p0), (6, .own 192 0)] [(192, RR 64 4 a63 x3 0 false)] 36) ?_
  refine eo 26 (I (lenL p0)) (lenE 274 (LL a63) p0) ?_
  refine se (mkE [(6, .own 192 0), (25, LL (LL a63) p0), (26, I (lenL p0)), (27, I 0)] [(192, RR 64 4 a63 x3 0 false)] 36) ?_
  refine pN ?_
  refine pS ?_
  refine gB 2 ?_
  refine lo [(6, some (64, 4)), (25, none), (26, none), (27, none)] [] (L218_11 p0) (fun z1 : ((List S63) × Int) => (mkE [(6, .own 48 0), (25, LL (LL a63) p0), (26, I (lenL p0)), (27, I z1.2)] [(48, RR 64 4 a63 z1.1 0 false)] 36)) (fun (x : (Int × Bool × (List S63))) => (.exit 2, (mkE [(6, .own 48 0), (25, LL (LL a63) p0), (26, I (lenL p0)), (27, I x.1), (28, B x.2.1)] [(48, RR 64 4 a63 x.2.2 0 false)] 36))) (x3, 0) (fun z => L218_11_ok C p0 z) ?_
  intro y6
  refine pH ?_
  refine pN ?_
  refine pS ?_
  refine gS 0 ?_
  refine gR 15 (rg Try.f218 15) ?_
  refine se (mkE [(2, .own 48 0)] [(48, RR 64 4 a63 y6.2.2 0 false)] 36) ?_
  refine pN ?_
  refine pS ?_
  refine gE ?_
  exact pL
theorem F218 (m : Nat) (hm : 2 ≤ m) (p0 : (List (List S63))) : callA Try.prog cfg m 218 [LL (LL a63) p0] = (T218 p0).map (fun l => AV.fr 64 4 (List.map a63 l)) := by
  obtain ⟨q, rfl⟩ : ∃ q, m = q + 1 := ⟨m - 1, by omega⟩
  exact (callA_body (fn := Try.f218) (c := body_ Try.f218) q _ (by kernel_rfl) (by kernel_rfl) (by kernel_rfl)).trans (B218 _ (fun p1 => F263 q (by omega) p1) p0)

theorem F250 (m : Nat) (hm : 1 ≤ m) (p0 : (List Int)) : callA Try.prog cfg m 250 [.fr 3 1 (List.map I p0)] = (sortIO p0).map (fun (r : (List Int)) => AV.inp (.tup []) (.fr 3 1 (List.map I r))) := by
  obtain ⟨q, rfl⟩ : ∃ q, m = q + 1 := ⟨m - 1, by omega⟩
  exact (callA_leaf (L := (leafSortI 3)) _ _ (by kernel_rfl)).trans (sortI_leaf 3 _ p0)

theorem F251 (m : Nat) (hm : 1 ≤ m) (p0 : (List Int)) : callA Try.prog cfg m 251 [.fr 3 1 (List.map I p0)] = (compIO p0).map (fun l => AV.fr 3 1 (List.map I l)) := by
  obtain ⟨q, rfl⟩ : ∃ q, m = q + 1 := ⟨m - 1, by omega⟩
  exact (callA_leaf (L := (leafCompI 3)) _ _ (by kernel_rfl)).trans (compI_leaf 3 _ p0)

noncomputable def T289 (p0 : S266) (p1 : S266) : Option Int := (some (subI .i64 p0.f0 p1.f0))
theorem B289 (C : Callee) (p0 : S266) (p1 : S266) : runs Try.prog C (cfg.fn 289) (finFn Try.prog (cfg.fn 289).byval Try.f289) [] (execA Try.prog C (cfg.fn 289) (nr Try.f289 []) (frame0 [a266 p0, a266 p1] 10 false)) = (T289 p0 p1).map I := by
  unfold T289
  refine gS 1 ?_
  refine gR 0 (rg Try.f289 0) ?_
  refine se (mkE [(2, .ba 16 0), (3, .ba 24 0)] [(16, .box [I p0.f0, I p0.f1] false), (24, .box [I p1.f0, I p1.f1] false)] 10) ?_
  refine pN ?_
  refine pS ?_
  refine gS 0 ?_
  refine gR 1 (rg Try.f289 1) ?_
  refine se (mkE [(4, I (subI .i64 p0.f0 p1.f0))] [] 10) ?_
  refine pN ?_
  refine pS ?_
  refine gE ?_
  exact pL
theorem F289 (m : Nat) (hm : 1 ≤ m) (p0 : S266) (p1 : S266) : callA Try.prog cfg m 289 [a266 p0, a266 p1] = (T289 p0 p1).map I := by
  obtain ⟨q, rfl⟩ : ∃ q, m = q + 1 := ⟨m - 1, by omega⟩
  exact (callA_body (fn := Try.f289) (c := body_ Try.f289) q _ (by kernel_rfl) (by kernel_rfl) (by kernel_rfl)).trans (B289 _ p0 p1)

theorem F288 (m : Nat) (hm : 2 ≤ m) (p0 : (List S266)) : callA Try.prog cfg m 288 [.fr 267 2 (List.map a266 p0), .fn 289 []] = (sortO (fun x y => T289 x y) p0).map (fun (r : (List S266)) => AV.inp (.tup []) (.fr 267 2 (List.map a266 r))) := by
  obtain ⟨q, rfl⟩ : ∃ q, m = q + 1 := ⟨m - 1, by omega⟩
  exact (callA_leaf (L := (leafSortF Try.prog 267 2)) _ _ (by kernel_rfl)).trans (sortF_leaf 267 2 289 [] a266 (fun x y => T289 x y) _ p0 (fun x y => F289 q (by omega) x y) (fun _ => by kernel_rfl) (by kernel_rfl))

noncomputable def L253_3 (p0 : (List S63)) (p1 : Int) (z0 : ((List S266) × Int)) : Option (((List S266) × Int) ⊕ (Int × Bool × (List S266))) := (bif (ltI z0.2 (lenL p0)) then ((listAt p0 z0.2).bind fun x1 => (bif (leI x1.f1 p1) then (bif (ltI p1 (addI .i64 x1.f1 x1.f3)) then ((appO 16 z0.1 ([(S266.mk x1.f0 (addI .i64 x1.f0 x1.f2))] : List S266)).bind fun x2 => (some (.inl (x2, (addI .i64 z0.2 1))))) else (some (.inl (z0.1, (addI .i64 z0.2 1))))) else (some (.inl (z0.1, (addI .i64 z0.2 1)))))) else (some (.inr (z0.2, (ltI z0.2 (lenL p0)), z0.1))))
theorem L253_3_ok (C : Callee) (p0 : (List S63)) (p1 : Int) (z0 : ((List S266) × Int)) : runs Try.prog C (cfg.fn 253) (finLoop ((cfg.fn 253).keep 3) ((cfg.fn 253).al 3)) [] (execA Try.prog C (cfg.fn 253) (nr Try.f253 [false, false, true, false, true, true]) ((fun z0 : ((List S266) × Int) => (mkE [(1, I p1), (5, .own 40 0), (12, LL a63 p0), (13, I (lenL p0)), (14, I z0.2)] [(40, RR 267 2 a266 z0.1 0 false)] 84)) z0)) = (L253_3 p0 p1 z0).map (Sum.elim (fun z => .inl ((fun z0 : ((List S266) × Int) => (mkE [(1, I p1), (5, .own 40 0), (12, LL a63 p0), (13, I (lenL p0)), (14, I z0.2)] [(40, RR 267 2 a266 z0.1 0 false)] 84)) z)) (fun x => .inr ((fun (x : (Int × Bool × (List S266))) => (.exit 0, (mkE [(1, I p1), (5, .own 40 0), (12, LL a63 p0), (13, I (lenL p0)), (14, I x.1), (15, B x.2.1)] [(40, RR 267 2 a266 x.2.2 0 false)] 84))) x))) := by
  unfold L253_3
  refine gS 0 ?_
  refine gR 3 (rg Try.f253 3) ?_
  refine se (mkE [(1, I p1), (5, .own 40 0), (12, LL a63 p0), (13, I (lenL p0)), (14, I z0.2), (15, B (ltI z0.2 (lenL p0)))] [(40, RR 267 2 a266 z0.1 0 false)] 84) ?_
  refine pN ?_
  refine pS ?_
  refine gS 4 ?_
  refine gC 15 (ltI z0.2 (lenL p0)) ?_ ?_
  · refine gK ?_
    refine pN ?_
    refine pS ?_
    refine gS 7 ?_
    refine gB 1 ?_
    refine gS 5 ?_
    refine gR 4 (rg Try.f253 4) ?_
    refine vo 16 (addrE 65 64 4 a63 .i64 p0 z0.2) (fun x1 => ?_)
    refine se (mkE [(1, I p1), (5, .own 40 0), (7, .ba 56 0), (12, LL a63 p0), (13, I (lenL p0)), (14, I z0.2)] [(40, RR 267 2 a266 z0.1 0 false), (56, .box [I x1.f0, I x1.f1, I x1.f2, I x1.f3] false)] 84) ?_
    refine pN ?_
    refine pS ?_
    refine gS 0 ?_
    refine gR 5 (rg Try.f253 5) ?_
    refine sg 5 (mkE [(22, B (leI x1.f1 p1)), (21, B (leI x1.f1 p1)), (20, I p1), (19, I x1.f1), (18, .ba 56 1), (1, I p1), (5, .own 40 0), (7, .ba 56 0), (12, LL a63 p0), (13, I (lenL p0)), (14, I z0.2)] [(40, RR 267 2 a266 z0.1 0 false), (56, .box [I x1.f0, I x1.f1, I x1.f2, I x1.f3] false)] 84) ?_
    refine sb 22 (leI x1.f1 p1) ?_ ?_
    · refine se (mkE [(1, I p1), (5, .own 40 0), (7, .ba 56 0), (12, LL a63 p0), (13, I (lenL p0)), (14, I z0.2), (30, B (ltI p1 (addI .i64 x1.f1 x1.f3)))] [(40, RR 267 2 a266 z0.1 0 false), (56, .box [I x1.f0, I x1.f1, I x1.f2, I x1.f3] false)] 84) ?_
      refine pN ?_
      refine pS ?_
      refine gC 30 (ltI p1 (addI .i64 x1.f1 x1.f3)) ?_ ?_
      · refine gR 6 (rg Try.f253 6) ?_
        refine sg 10 (mkE [(40, .own 320 0), (39, .agg [I x1.f0, I (addI .i64 x1.f0 x1.f2)]), (38, I (addI .i64 x1.f0 x1.f2)), (37, I x1.f2), (36, .ba 56 2), (35, I x1.f0), (34, .ba 56 0), (33, I x1.f0), (32, .ba 56 0), (31, .own 40 0), (1, I p1), (5, .own 40 0), (7, .ba 56 0), (12, LL a63 p0), (13, I (lenL p0)), (14, I z0.2), (30, B (ltI p1 (addI .i64 x1.f1 x1.f3)))] [(320, RR 267 2 a266 ([(S266.mk x1.f0 (addI .i64 x1.f0 x1.f2))] : List S266) 0 false), (40, RR 267 2 a266 z0.1 0 false), (56, .box [I x1.f0, I x1.f1, I x1.f2, I x1.f3] false)] 84) ?_
        refine mo (some 41) (apO 262 267 2 16 40 a266 0 [320] (y := .own 320 0) (l2 := ([(S266.mk x1.f0 (addI .i64 x1.f0 x1.f2))] : List S266))) (fun x2 => ?_)
        refine se (mkE [(1, I p1), (5, .own 40 1), (12, LL a63 p0), (13, I (lenL p0)), (14, I z0.2)] [(40, RR 267 2 a266 x2 1 false)] 84) ?_
        refine pB ?_
        refine pN ?_
        refine pS ?_
        refine gR 7 (rg Try.f253 7) ?_
        refine se (mkE [(1, I p1), (5, .own 40 1), (12, LL a63 p0), (13, I (lenL p0)), (14, I (addI .i64 z0.2 1))] [(40, RR 267 2 a266 x2 1 false)] 84) ?_
        exact pL
      · refine gK ?_
        refine pB ?_
        refine pN ?_
        refine pS ?_
        refine gR 7 (rg Try.f253 7) ?_
        refine se (mkE [(1, I p1), (5, .own 40 0), (12, LL a63 p0), (13, I (lenL p0)), (14, I (addI .i64 z0.2 1))] [(40, RR 267 2 a266 z0.1 0 false)] 84) ?_
        exact pL
    · refine se (mkE [(1, I p1), (5, .own 40 0), (7, .ba 56 0), (12, LL a63 p0), (13, I (lenL p0)), (14, I z0.2), (30, B false)] [(40, RR 267 2 a266 z0.1 0 false), (56, .box [I x1.f0, I x1.f1, I x1.f2, I x1.f3] false)] 84) ?_
      refine pN ?_
      refine pS ?_
      refine gF (.tmp 30) ?_
      refine gK ?_
      refine pB ?_
      refine pN ?_
      refine pS ?_
      refine gR 7 (rg Try.f253 7) ?_
      refine se (mkE [(1, I p1), (5, .own 40 0), (12, LL a63 p0), (13, I (lenL p0)), (14, I (addI .i64 z0.2 1))] [(40, RR 267 2 a266 z0.1 0 false)] 84) ?_
      exact pL
  · refine gX 0 ?_
    exact pL
noncomputable def L253_11 (x4 : (List S266)) (z1 : ((List S266) × (List S266) × Int)) : Option (((List S266) × (List S266) × Int) ⊕ (Int × Bool × (List S266) × (List S266))) := (bif (ltI z1.2.2 (lenL x4)) then ((idxO (List.length z1.2.1) z1.2.2).bind fun x5 => ((getN z1.2.1 x5).bind fun x6 => (bif (leI 0 (subI .i64 (lenL z1.1) 1)) then ((idxO (List.length z1.1) (subI .i64 (lenL z1.1) 1)).bind fun x7 => ((getN z1.1 x7).bind fun x8 => (bif (leI x6.f0 x8.f1) then ((idxO (List.length z1.1) (subI .i64 (lenL z1.1) 1)).bind fun x9 => ((getN z1.1 x9).bind fun x10 => ((idxO (List.length z1.1) (subI .i64 (lenL z1.1) 1)).bind fun x11 => ((getN z1.1 x11).bind fun x12 => (some (.inl ((List.set z1.1 x11 (S266.mk x12.f0 (maxI x10.f1 x6.f1))), z1.2.1, (addI .i64 z1.2.2 1)))))))) else ((appO 16 z1.1 ([x6] : List S266)).bind fun x13 => (some (.inl (x13, z1.2.1, (addI .i64 z1.2.2 1)))))))) else ((appO 16 z1.1 ([x6] : List S266)).bind fun x14 => (some (.inl (x14, z1.2.1, (addI .i64 z1.2.2 1)))))))) else (some (.inr (z1.2.2, (ltI z1.2.2 (lenL x4)), z1.1, z1.2.1))))
theorem L253_11_ok (C : Callee) (x4 : (List S266)) (z1 : ((List S266) × (List S266) × Int)) : runs Try.prog C (cfg.fn 253) (finLoop ((cfg.fn 253).keep 11) ((cfg.fn 253).al 11)) [] (execA Try.prog C (cfg.fn 253) (nr Try.f253 [false, false, true, false, true, true, true, true, true]) ((fun z1 : ((List S266) × (List S266) × Int) => (mkE [(8, .own 64 0), (45, .own 360 0), (46, I (lenL x4)), (47, I z1.2.2)] [(64, RR 267 2 a266 z1.1 0 false), (360, RR 267 2 a266 z1.2.1 0 false)] 84)) z1)) = (L253_11 x4 z1).map (Sum.elim (fun z => .inl ((fun z1 : ((List S266) × (List S266) × Int) => (mkE [(8, .own 64 0), (45, .own 360 0), (46, I (lenL x4)), (47, I z1.2.2)] [(64, RR 267 2 a266 z1.1 0 false), (360, RR 267 2 a266 z1.2.1 0 false)] 84)) z)) (fun x => .inr ((fun (x : (Int × Bool × (List S266) × (List S266))) => (.exit 2, (mkE [(8, .own 64 0), (45, .own 360 0), (46, I (lenL x4)), (47, I x.1), (48, B x.2.1)] [(64, RR 267 2 a266 x.2.2.1 0 false), (360, RR 267 2 a266 x.2.2.2 0 false)] 84))) x))) := by
  unfold L253_11
  refine gS 0 ?_
  refine gR 11 (rg Try.f253 11) ?_
  refine se (mkE [(8, .own 64 0), (45, .own 360 0), (46, I (lenL x4)), (47, I z1.2.2), (48, B (ltI z1.2.2 (lenL x4)))] [(64, RR 267 2 a266 z1.1 0 false), (360, RR 267 2 a266 z1.2.1 0 false)] 84) ?_
  refine pN ?_
  refine pS ?_
  refine gS 12 ?_
  refine gC 48 (ltI z1.2.2 (lenL x4)) ?_ ?_
  · refine gK ?_
    refine pN ?_
    refine pS ?_
    refine gS 17 ?_
    refine gB 3 ?_
    refine gS 13 ?_
    refine gR 12 (rg Try.f253 12) ?_
    refine vo 49 (addrOE 262 267 2 360 0 false a266 .i64 z1.2.1 z1.2.2) (fun x5 => ?_)
    refine vo 50 (loadOE 267 360 0 x5 0 267 2 2 true false a266 (fun q : S266 => a266 q) z1.2.1) (fun x6 => ?_)
    refine se (mkE [(8, .own 64 0), (10, .ba 80 0), (45, .own 360 0), (46, I (lenL x4)), (47, I z1.2.2)] [(64, RR 267 2 a266 z1.1 0 false), (80, .box [I x6.f0, I x6.f1] false), (360, RR 267 2 a266 z1.2.1 0 false)] 84) ?_
    refine pN ?_
    refine pS ?_
    refine gS 14 ?_
    refine gR 13 (rg Try.f253 13) ?_
    refine sg 1 (mkE [(51, .own 64 0), (8, .own 64 0), (10, .ba 80 0), (45, .own 360 0), (46, I (lenL x4)), (47, I z1.2.2)] [(64, RR 267 2 a266 z1.1 0 false), (80, .box [I x6.f0, I x6.f1] false), (360, RR 267 2 a266 z1.2.1 0 false)] 84) ?_
    refine eo 52 (I (lenL z1.1)) (lenOE 262 267 2 a266 z1.1) ?_
    refine se (mkE [(8, .own 64 0), (10, .ba 80 0), (11, I (subI .i64 (lenL z1.1) 1)), (45, .own 360 0), (46, I (lenL x4)), (47, I z1.2.2)] [(64, RR 267 2 a266 z1.1 0 false), (80, .box [I x6.f0, I x6.f1] false), (360, RR 267 2 a266 z1.2.1 0 false)] 84) ?_
    refine pN ?_
    refine pS ?_
    refine gS 0 ?_
    refine gD 14 12 (rg Try.f253 14) [0, 1, 2, 3, 4, 5, 6, 7, 8, 9, 10, 11] ?_
    refine dg 3 [(some 54, qe (I (subI .i64 (lenL z1.1) 1))), (some 55, qe (B (leI 0 (subI .i64 (lenL z1.1) 1)))), (some 56, qe (B (leI 0 (subI .i64 (lenL z1.1) 1))))] ?_
    refine db 2 56 (leI 0 (subI .i64 (lenL z1.1) 1)) ?_ ?_
    · refine dg 7 [(some 54, qe (I (subI .i64 (lenL z1.1) 1))), (some 55, qe (B (leI 0 (subI .i64 (lenL z1.1) 1)))), (some 56, qe (B true)), (some 57, qe (.ba 80 0)), (some 58, qe (I x6.f0)), (some 59, qe (.own 64 0)), (some 60, qe (I (subI .i64 (lenL z1.1) 1)))] ?_
      refine dv 61 (mkE [(60, I (subI .i64 (lenL z1.1) 1)), (59, .own 64 0), (56, B true), (55, B (leI 0 (subI .i64 (lenL z1.1) 1))), (54, I (subI .i64 (lenL z1.1) 1)), (8, .own 64 0), (10, .ba 80 0), (11, I (subI .i64 (lenL z1.1) 1)), (45, .own 360 0), (46, I (lenL x4)), (47, I z1.2.2)] [(64, RR 267 2 a266 z1.1 0 false), (80, .box [I x6.f0, I x6.f1] false), (360, RR 267 2 a266 z1.2.1 0 false)] 84) (addrOE 262 267 2 64 0 false a266 .i64 z1.1 (subI .i64 (lenL z1.1) 1)) (fun x7 => ?_)
      refine dg 9 [(some 54, qe (I (subI .i64 (lenL z1.1) 1))), (some 55, qe (B (leI 0 (subI .i64 (lenL z1.1) 1)))), (some 56, qe (B true)), (some 57, qe (.ba 80 0)), (some 58, qe (I x6.f0)), (some 59, qe (.own 64 0)), (some 60, qe (I (subI .i64 (lenL z1.1) 1))), (some 61, qe (.oa 64 0 x7 0)), (some 62, qe (.oa 64 0 x7 1))] ?_
      refine dv 63 (mkE [(62, .oa 64 0 x7 1), (61, .oa 64 0 x7 0), (60, I (subI .i64 (lenL z1.1) 1)), (59, .own 64 0), (56, B true), (55, B (leI 0 (subI .i64 (lenL z1.1) 1))), (54, I (subI .i64 (lenL z1.1) 1)), (8, .own 64 0), (10, .ba 80 0), (11, I (subI .i64 (lenL z1.1) 1)), (45, .own 360 0), (46, I (lenL x4)), (47, I z1.2.2)] [(64, RR 267 2 a266 z1.1 0 false), (80, .box [I x6.f0, I x6.f1] false), (360, RR 267 2 a266 z1.2.1 0 false)] 84) (loadOE 3 64 0 x7 1 267 2 1 false false a266 (fun q : S266 => I q.f1) z1.1) (fun x8 => ?_)
      refine dg 12 [(some 54, qe (I (subI .i64 (lenL z1.1) 1))), (some 55, qe (B (leI 0 (subI .i64 (lenL z1.1) 1)))), (some 56, qe (B true)), (some 57, qe (.ba 80 0)), (some 58, qe (I x6.f0)), (some 59, qe (.own 64 0)), (some 60, qe (I (subI .i64 (lenL z1.1) 1))), (some 61, qe (.oa 64 0 x7 0)), (some 62, qe (.oa 64 0 x7 1)), (some 63, qe (I x8.f1)), (some 64, qe (B (leI x6.f0 x8.f1))), (some 65, qe (B (leI x6.f0 x8.f1)))] ?_
      refine de (mkE [(65, B (leI x6.f0 x8.f1)), (64, B (leI x6.f0 x8.f1)), (63, I x8.f1), (62, .oa 64 0 x7 1), (61, .oa 64 0 x7 0), (60, I (subI .i64 (lenL z1.1) 1)), (59, .own 64 0), (58, I x6.f0), (57, .ba 80 0), (56, B true), (55, B (leI 0 (subI .i64 (lenL z1.1) 1))), (54, I (subI .i64 (lenL z1.1) 1)), (8, .own 64 0), (10, .ba 80 0), (11, I (subI .i64 (lenL z1.1) 1)), (45, .own 360 0), (46, I (lenL x4)), (47, I z1.2.2)] [(64, RR 267 2 a266 z1.1 0 false), (80, .box [I x6.f0, I x6.f1] false), (360, RR 267 2 a266 z1.2.1 0 false)] 84) ?_
      refine se (mkE [(8, .own 64 0), (10, .ba 80 0), (11, I (subI .i64 (lenL z1.1) 1)), (45, .own 360 0), (46, I (lenL x4)), (47, I z1.2.2), (65, B (leI x6.f0 x8.f1))] [(64, RR 267 2 a266 z1.1 0 false), (80, .box [I x6.f0, I x6.f1] false), (360, RR 267 2 a266 z1.2.1 0 false)] 84) ?_
      refine pN ?_
      refine pS ?_
      refine gC 65 (leI x6.f0 x8.f1) ?_ ?_
      · refine gD 15 12 (rg Try.f253 15) [0, 1, 2, 3, 4, 5, 6, 7, 8, 9, 10, 11, 12] ?_
        refine dg 4 [(some 66, qe (.own 64 0)), (some 67, qe (I (subI .i64 (lenL z1.1) 1))), (some 68, qe (.own 64 0)), (some 69, qe (I (subI .i64 (lenL z1.1) 1)))] ?_
        refine dv 70 (mkE [(69, I (subI .i64 (lenL z1.1) 1)), (68, .own 64 0), (8, .own 64 0), (10, .ba 80 0), (11, I (subI .i64 (lenL z1.1) 1)), (45, .own 360 0), (46, I (lenL x4)), (47, I z1.2.2), (65, B (leI x6.f0 x8.f1))] [(64, RR 267 2 a266 z1.1 0 false), (80, .box [I x6.f0, I x6.f1] false), (360, RR 267 2 a266 z1.2.1 0 false)] 84) (addrOE 262 267 2 64 0 false a266 .i64 z1.1 (subI .i64 (lenL z1.1) 1)) (fun x9 => ?_)
        refine dg 6 [(some 66, qe (.own 64 0)), (some 67, qe (I (subI .i64 (lenL z1.1) 1))), (some 68, qe (.own 64 0)), (some 69, qe (I (subI .i64 (lenL z1.1) 1))), (some 70, qe (.oa 64 0 x9 0)), (some 71, qe (.oa 64 0 x9 1))] ?_
        refine dv 72 (mkE [(71, .oa 64 0 x9 1), (70, .oa 64 0 x9 0), (69, I (subI .i64 (lenL z1.1) 1)), (68, .own 64 0), (8, .own 64 0), (10, .ba 80 0), (11, I (subI .i64 (lenL z1.1) 1)), (45, .own 360 0), (46, I (lenL x4)), (47, I z1.2.2), (65, B (leI x6.f0 x8.f1))] [(64, RR 267 2 a266 z1.1 0 false), (80, .box [I x6.f0, I x6.f1] false), (360, RR 267 2 a266 z1.2.1 0 false)] 84) (loadOE 3 64 0 x9 1 267 2 1 false false a266 (fun q : S266 => I q.f1) z1.1) (fun x10 => ?_)
        refine dg 10 [(some 66, qe (.own 64 0)), (some 67, qe (I (subI .i64 (lenL z1.1) 1))), (some 68, qe (.own 64 0)), (some 69, qe (I (subI .i64 (lenL z1.1) 1))), (some 70, qe (.oa 64 0 x9 0)), (some 71, qe (.oa 64 0 x9 1)), (some 72, qe (I x10.f1)), (some 73, qe (.ba 80 1)), (some 74, qe (I x6.f1)), (some 75, qe (I (maxI x10.f1 x6.f1)))] ?_
        refine dv 76 (mkE [(75, I (maxI x10.f1 x6.f1)), (74, I x6.f1), (73, .ba 80 1), (72, I x10.f1), (71, .oa 64 0 x9 1), (70, .oa 64 0 x9 0), (69, I (subI .i64 (lenL z1.1) 1)), (68, .own 64 0), (67, I (subI .i64 (lenL z1.1) 1)), (66, .own 64 0), (8, .own 64 0), (10, .ba 80 0), (11, I (subI .i64 (lenL z1.1) 1)), (45, .own 360 0), (46, I (lenL x4)), (47, I z1.2.2), (65, B (leI x6.f0 x8.f1))] [(64, RR 267 2 a266 z1.1 0 false), (80, .box [I x6.f0, I x6.f1] false), (360, RR 267 2 a266 z1.2.1 0 false)] 84) (addrOE 262 267 2 64 0 false a266 .i64 z1.1 (subI .i64 (lenL z1.1) 1)) (fun x11 => ?_)
        refine dg 12 [(some 66, qe (.own 64 0)), (some 67, qe (I (subI .i64 (lenL z1.1) 1))), (some 68, qe (.own 64 0)), (some 69, qe (I (subI .i64 (lenL z1.1) 1))), (some 70, qe (.oa 64 0 x9 0)), (some 71, qe (.oa 64 0 x9 1)), (some 72, qe (I x10.f1)), (some 73, qe (.ba 80 1)), (some 74, qe (I x6.f1)), (some 75, qe (I (maxI x10.f1 x6.f1))), (some 76, qe (.oa 64 0 x11 0)), (some 77, qe (.oa 64 0 x11 1))] ?_
        refine de (mkE [(77, .oa 64 0 x11 1), (76, .oa 64 0 x11 0), (75, I (maxI x10.f1 x6.f1)), (74, I x6.f1), (73, .ba 80 1), (72, I x10.f1), (71, .oa 64 0 x9 1), (70, .oa 64 0 x9 0), (69, I (subI .i64 (lenL z1.1) 1)), (68, .own 64 0), (67, I (subI .i64 (lenL z1.1) 1)), (66, .own 64 0), (8, .own 64 0), (10, .ba 80 0), (11, I (subI .i64 (lenL z1.1) 1)), (45, .own 360 0), (46, I (lenL x4)), (47, I z1.2.2), (65, B (leI x6.f0 x8.f1))] [(64, RR 267 2 a266 z1.1 0 false), (80, .box [I x6.f0, I x6.f1] false), (360, RR 267 2 a266 z1.2.1 0 false)] 84) ?_
        refine mo none (stO 267 2 64 0 x11 1 a266 z1.1 [] [I (maxI x10.f1 x6.f1)] (I (maxI x10.f1 x6.f1)) (fun q : S266 => (S266.mk q.f0 (maxI x10.f1 x6.f1))) 3 (.tmp 77) (.tmp 75) 1) (fun x12 => ?_)
        refine se (mkE [(8, .own 64 0), (45, .own 360 0), (46, I (lenL x4)), (47, I z1.2.2)] [(64, RR 267 2 a266 (List.set z1.1 x11 (S266.mk x12.f0 (maxI x10.f1 x6.f1))) 0 false), (360, RR 267 2 a266 z1.2.1 0 false)] 84) ?_
        refine pB ?_
        refine pN ?_
        refine pS ?_
        refine gR 17 (rg Try.f253 17) ?_
        refine se (mkE [(8, .own 64 0), (45, .own 360 0), (46, I (lenL x4)), (47, I (addI .i64 z1.2.2 1))] [(64, RR 267 2 a266 (List.set z1.1 x11 (S266.mk x12.f0 (maxI x10.f1 x6.f1))) 0 false), (360, RR 267 2 a266 z1.2.1 0 false)] 84) ?_
        exact pL
      · refine gR 16 (rg Try.f253 16) ?_
        refine sg 3 (mkE [(80, .own 640 0), (79, a266 x6), (78, .own 64 0), (8, .own 64 0), (10, .ba 80 0), (11, I (subI .i64 (lenL z1.1) 1)), (45, .own 360 0), (46, I (lenL x4)), (47, I z1.2.2), (65, B (leI x6.f0 x8.f1))] [(640, RR 267 2 a266 ([x6] : List S266) 0 false), (64, RR 267 2 a266 z1.1 0 false), (80, .box [I x6.f0, I x6.f1] false), (360, RR 267 2 a266 z1.2.1 0 false)] 84) ?_
        refine mo (some 81) (apO 262 267 2 16 64 a266 0 [640] (y := .own 640 0) (l2 := ([x6] : List S266))) (fun x13 => ?_)
        refine se (mkE [(8, .own 64 1), (45, .own 360 0), (46, I (lenL x4)), (47, I z1.2.2)] [(64, RR 267 2 a266 x13 1 false), (360, RR 267 2 a266 z1.2.1 0 false)] 84) ?_
        refine pB ?_
        refine pN ?_
        refine pS ?_
        refine gR 17 (rg Try.f253 17) ?_
        refine se (mkE [(8, .own 64 1), (45, .own 360 0), (46, I (lenL x4)), (47, I (addI .i64 z1.2.2 1))] [(64, RR 267 2 a266 x13 1 false), (360, RR 267 2 a266 z1.2.1 0 false)] 84) ?_
        exact pL
    · refine dg 12 [(some 54, qe (I (subI .i64 (lenL z1.1) 1))), (some 55, qe (B (leI 0 (subI .i64 (lenL z1.1) 1)))), (some 56, qe (B false)), (some 57, qe (.und)), (some 58, qe (.und)), (some 59, qe (.und)), (some 60, qe (.und)), (some 61, qe (.und)), (some 62, qe (.und)), (some 63, qe (.und)), (some 64, qe (.und)), (some 65, qe (B false))] ?_
      refine de (mkE [(65, B false), (64, .und), (63, .und), (62, .und), (61, .und), (60, .und), (59, .und), (58, .und), (57, .und), (56, B false), (55, B (leI 0 (subI .i64 (lenL z1.1) 1))), (54, I (subI .i64 (lenL z1.1) 1)), (8, .own 64 0), (10, .ba 80 0), (11, I (subI .i64 (lenL z1.1) 1)), (45, .own 360 0), (46, I (lenL x4)), (47, I z1.2.2)] [(64, RR 267 2 a266 z1.1 0 false), (80, .box [I x6.f0, I x6.f1] false), (360, RR 267 2 a266 z1.2.1 0 false)] 84) ?_
      refine se (mkE [(8, .own 64 0), (10, .ba 80 0), (11, I (subI .i64 (lenL z1.1) 1)), (45, .own 360 0), (46, I (lenL x4)), (47, I z1.2.2), (65, B false)] [(64, RR 267 2 a266 z1.1 0 false), (80, .box [I x6.f0, I x6.f1] false), (360, RR 267 2 a266 z1.2.1 0 false)] 84) ?_
      refine pN ?_
      refine pS ?_
      refine gF (.tmp 65) ?_
      refine gR 16 (rg Try.f253 16) ?_
      refine sg 3 (mkE [(80, .own 640 0), (79, a266 x6), (78, .own 64 0), (8, .own 64 0), (10, .ba 80 0), (11, I (subI .i64 (lenL z1.1) 1)), (45, .own 360 0), (46, I (lenL x4)), (47, I z1.2.2), (65, B false)] [(640, RR 267 2 a266 ([x6] : List S266) 0 false), (64, RR 267 2 a266 z1.1 0 false), (80, .box [I x6.f0, I x6.f1] false), (360, RR 267 2 a266 z1.2.1 0 false)] 84) ?_
      refine mo (some 81) (apO 262 267 2 16 64 a266 0 [640] (y := .own 640 0) (l2 := ([x6] : List S266))) (fun x14 => ?_)
      refine se (mkE [(8, .own 64 1), (45, .own 360 0), (46, I (lenL x4)), (47, I z1.2.2)] [(64, RR 267 2 a266 x14 1 false), (360, RR 267 2 a266 z1.2.1 0 false)] 84) ?_
      refine pB ?_
      refine pN ?_
      refine pS ?_
      refine gR 17 (rg Try.f253 17) ?_
      refine se (mkE [(8, .own 64 1), (45, .own 360 0), (46, I (lenL x4)), (47, I (addI .i64 z1.2.2 1))] [(64, RR 267 2 a266 x14 1 false), (360, RR 267 2 a266 z1.2.1 0 false)] 84) ?_
      exact pL
  · refine gX 2 ?_
    exact pL
noncomputable def T253 (p0 : (List S63)) (p1 : Int) : Option (List S266) := ((iter (L253_3 p0 p1) ([], 0)).bind fun y3 => ((sortO (fun x y => T289 x y) y3.2.2).bind fun x4 => ((iter (L253_11 x4) ([], x4, 0)).bind fun y15 => (some y15.2.2.1))))
theorem B253 (C : Callee) (h288 : ∀ (p0 : (List S266)), C 288 [.fr 267 2 (List.map a266 p0), .fn 289 []] = (sortO (fun x y => T289 x y) p0).map (fun (r : (List S266)) => AV.inp (.tup []) (.fr 267 2 (List.map a266 r)))) (p0 : (List S63)) (p1 : Int) : runs Try.prog C (cfg.fn 253) (finFn Try.prog (cfg.fn 253).byval Try.f253) [] (execA Try.prog C (cfg.fn 253) (nr Try.f253 []) (frame0 [LL a63 p0, I p1] 84 false)) = (T253 p0 p1).map (fun l => AV.fr 267 2 (List.map a266 l)) := by
  unfold T253
  refine gS 1 ?_
  refine gR 0 (rg Try.f253 0) ?_
  refine se (mkE [(0, LL a63 p0), (1, I p1)] [] 84) ?_
  refine pN ?_
  refine pS ?_
  refine gS 2 ?_
  refine gR 1 (rg Try.f253 1) ?_
  refine se (mkE [(0, LL a63 p0), (1, I p1), (5, .nils)] [] 84) ?_
  refine pN ?_
  refine pS ?_
  refine gS 8 ?_
  refine gS 3 ?_
  refine gR 2 (rg Try.f253 2) ?_
  refine sg 1 (mkE [(12, LL a63 p0), (0, LL a63 p0), (1, I p1), (5, .nils)] [] 84) ?_
  refine eo 13 (I (lenL p0)) (lenE 65 a63 p0) ?_
  refine se (mkE [(1, I p1), (5, .nils), (12, LL a63 p0), (13, I (lenL p0)), (14, I 0)] [] 84) ?_
  refine pN ?_
  refine pS ?_
  refine gB 0 ?_
  refine lo [(1, none), (5, some (267, 2)), (12, none), (13, none), (14, none)] [] (L253_3 p0 p1) (fun z0 : ((List S266) × Int) => (mkE [(1, I p1), (5, .own 40 0), (12, LL a63 p0), (13, I (lenL p0)), (14, I z0.2)] [(40, RR 267 2 a266 z0.1 0 false)] 84)) (fun (x : (Int × Bool × (List S266))) => (.exit 0, (mkE [(1, I p1), (5, .own 40 0), (12, LL a63 p0), (13, I (lenL p0)), (14, I x.1), (15, B x.2.1)] [(40, RR 267 2 a266 x.2.2 0 false)] 84))) ([], 0) (fun z => L253_3_ok C p0 p1 z) ?_
  intro y3
  refine pH ?_
  refine pN ?_
  refine pS ?_
  refine gS 9 ?_
  refine gR 8 (rg Try.f253 8) ?_
  refine sg 1 (mkE [(43, .own 40 0), (1, I p1), (5, .own 40 0), (12, LL a63 p0), (13, I (lenL p0)), (14, I y3.1), (15, B y3.2.1)] [(40, RR 267 2 a266 y3.2.2 0 false)] 84) ?_
  refine mo (some 44) (ipR 288 267 2 40 0 a266 y3.2.2 [.fn 289 []] [.fn 289 []] [] (fun x : (List S266) => .tup []) (fun x : (List S266) => x) (h288 y3.2.2)) (fun x4 => ?_)
  refine se (mkE [(5, .own 40 0)] [(40, RR 267 2 a266 x4 0 false)] 84) ?_
  refine pN ?_
  refine pS ?_
  refine gS 10 ?_
  refine gR 9 (rg Try.f253 9) ?_
  refine se (mkE [(5, .own 40 0), (8, .nils)] [(40, RR 267 2 a266 x4 0 false)] 84) ?_
  refine pN ?_
  refine pS ?_
  refine gS 18 ?_
  refine gS 11 ?_
  refine gR 10 (rg Try.f253 10) ?_
  refine sg 1 (mkE [(45, .own 40 0), (5, .own 40 0), (8, .nils)] [(40, RR 267 2 a266 x4 0 false)] 84) ?_
  refine eo 46 (I (lenL x4)) (lenOE 262 267 2 a266 x4) ?_
  refine se (mkE [(8, .nils), (45, .own 40 0), (46, I (lenL x4)), (47, I 0)] [(40, RR 267 2 a266 x4 0 false)] 84) ?_
  refine pN ?_
  refine pS ?_
  refine gB 2 ?_
  refine lo [(8, some (267, 2)), (45, some (267, 2)), (46, none), (47, none)] [] (L253_11 x4) (fun z1 : ((List S266) × (List S266) × Int) => (mkE [(8, .own 64 0), (45, .own 360 0), (46, I (lenL x4)), (47, I z1.2.2)] [(64, RR 267 2 a266 z1.1 0 false), (360, RR 267 2 a266 z1.2.1 0 false)] 84)) (fun (x : (Int × Bool × (List S266) × (List S266))) => (.exit 2, (mkE [(8, .own 64 0), (45, .own 360 0), (46, I (lenL x4)), (47, I x.1), (48, B x.2.1)] [(64, RR 267 2 a266 x.2.2.1 0 false), (360, RR 267 2 a266 x.2.2.2 0 false)] 84))) ([], x4, 0) (fun z => L253_11_ok C x4 z) ?_
  intro y15
  refine pH ?_
  refine pN ?_
  refine pS ?_
  refine gS 0 ?_
  refine gR 18 (rg Try.f253 18) ?_
  refine se (mkE [(4, .own 64 0)] [(64, RR 267 2 a266 y15.2.2.1 0 false)] 84) ?_
  refine pN ?_
  refine pS ?_
  refine gE ?_
  exact pL
theorem F253 (m : Nat) (hm : 3 ≤ m) (p0 : (List S63)) (p1 : Int) : callA Try.prog cfg m 253 [LL a63 p0, I p1] = (T253 p0 p1).map (fun l => AV.fr 267 2 (List.map a266 l)) := by
  obtain ⟨q, rfl⟩ : ∃ q, m = q + 1 := ⟨m - 1, by omega⟩
  exact (callA_body (fn := Try.f253) (c := body_ Try.f253) q _ (by kernel_rfl) (by kernel_rfl) (by kernel_rfl)).trans (B253 _ (fun p0 => F288 q (by omega) p0) p0 p1)

noncomputable def L252_6 (p0 : (List S266)) (p1 : (List S266)) (z0 : ((List S266) × Int × Int)) (x1 : S266) (z1 : Int) : Option (Int ⊕ (Int × Bool)) := (bif (ltI z1 (lenL p1)) then ((listAt p1 z1).bind fun x2 => (bif (leI x2.f1 x1.f0) then (some (.inl (addI .i64 z1 1))) else (some (.inr (z1, (leI x2.f1 x1.f0)))))) else (some (.inr (z1, false))))
theorem L252_6_ok (C : Callee) (p0 : (List S266)) (p1 : (List S266)) (z0 : ((List S266) × Int × Int)) (x1 : S266) (z1 : Int) : runs Try.prog C (cfg.fn 252) (finLoop ((cfg.fn 252).keep 6) ((cfg.fn 252).al 6)) [] (execA Try.prog C (cfg.fn 252) (nr Try.f252 [false, false, false, true, false, false, true, true, false, false, true, false, true, true, true]) ((fun z1 : Int => (mkE [(1, LL a266 p1), (5, .own 40 0), (6, I z1), (8, .ba 64 0), (10, LL a266 p0), (11, I (lenL p0)), (12, I z0.2.2)] [(40, RR 267 2 a266 z0.1 0 false), (64, .box [I x1.f0, I x1.f1] false)] 88)) z1)) = (L252_6 p0 p1 z0 x1 z1).map (Sum.elim (fun z => .inl ((fun z1 : Int => (mkE [(1, LL a266 p1), (5, .own 40 0), (6, I z1), (8, .ba 64 0), (10, LL a266 p0), (11, I (lenL p0)), (12, I z0.2.2)] [(40, RR 267 2 a266 z0.1 0 false), (64, .box [I x1.f0, I x1.f1] false)] 88)) z)) (fun x => .inr ((fun (x : (Int × Bool)) => (.exit 2, (mkE [(1, LL a266 p1), (5, .own 40 0), (6, I x.1), (8, .ba 64 0), (10, LL a266 p0), (11, I (lenL p0)), (12, I z0.2.2), (29, B x.2)] [(40, RR 267 2 a266 z0.1 0 false), (64, .box [I x1.f0, I x1.f1] false)] 88))) x))) := by
  unfold L252_6
  refine gS 7 ?_
  refine gS 0 ?_
  refine gD 6 14 (rg Try.f252 6) [0, 1, 2, 3, 4, 5, 6, 7, 8, 9, 10, 11, 12, 13] ?_
  refine dg 2 [(some 16, qe (I z1)), (some 17, qe (LL a266 p1))] ?_
  refine df 18 (I (lenL p1)) (mkE [(17, LL a266 p1), (1, LL a266 p1), (5, .own 40 0), (6, I z1), (8, .ba 64 0), (10, LL a266 p0), (11, I (lenL p0)), (12, I z0.2.2)] [(40, RR 267 2 a266 z0.1 0 false), (64, .box [I x1.f0, I x1.f1] false)] 88) (lenE 262 a266 p1) ?_
  refine dg 5 [(some 16, qe (I z1)), (some 17, qe (LL a266 p1)), (some 18, qe (I (lenL p1))), (some 19, qe (B (ltI z1 (lenL p1)))), (some 20, qe (B (ltI z1 (lenL p1))))] ?_
  refine db 4 20 (ltI z1 (lenL p1)) ?_ ?_
  · refine dg 7 [(some 16, qe (I z1)), (some 17, qe (LL a266 p1)), (some 18, qe (I (lenL p1))), (some 19, qe (B (ltI z1 (lenL p1)))), (some 20, qe (B true)), (some 21, qe (LL a266 p1)), (some 22, qe (I z1))] ?_
    refine dv 23 (mkE [(22, I z1), (21, LL a266 p1), (20, B true), (19, B (ltI z1 (lenL p1))), (18, I (lenL p1)), (17, LL a266 p1), (16, I z1), (1, LL a266 p1), (5, .own 40 0), (6, I z1), (8, .ba 64 0), (10, LL a266 p0), (11, I (lenL p0)), (12, I z0.2.2)] [(40, RR 267 2 a266 z0.1 0 false), (64, .box [I x1.f0, I x1.f1] false)] 88) (addrE 262 267 2 a266 .i64 p1 z1) (fun x2 => ?_)
    refine dg 14 [(some 16, qe (I z1)), (some 17, qe (LL a266 p1)), (some 18, qe (I (lenL p1))), (some 19, qe (B (ltI z1 (lenL p1)))), (some 20, qe (B true)), (some 21, qe (LL a266 p1)), (some 22, qe (I z1)), (some 23, qe (.ia [I x2.f0, I x2.f1] 0)), (some 24, qe (.ia [I x2.f0, I x2.f1] 1)), (some 25, qe (I x2.f1)), (some 26, qe (.ba 64 0)), (some 27, qe (I x1.f0)), (some 28, qe (B (leI x2.f1 x1.f0))), (some 29, qe (B (leI x2.f1 x1.f0)))] ?_
    refine de (mkE [(29, B (leI x2.f1 x1.f0)), (28, B (leI x2.f1 x1.f0)), (27, I x1.f0), (26, .ba 64 0), (25, I x2.f1), (24, .ia [I x2.f0, I x2.f1] 1), (23, .ia [I x2.f0, I x2.f1] 0), (22, I z1), (21, LL a266 p1), (20, B true), (19, B (ltI z1 (lenL p1))), (18, I (lenL p1)), (17, LL a266 p1), (16, I z1), (1, LL a266 p1), (5, .own 40 0), (6, I z1), (8, .ba 64 0), (10, LL a266 p0), (11, I (lenL p0)), (12, I z0.2.2)] [(40, RR 267 2 a266 z0.1 0 false), (64, .box [I x1.f0, I x1.f1] false)] 88) ?_
    refine se (mkE [(1, LL a266 p1), (5, .own 40 0), (6, I z1), (8, .ba 64 0), (10, LL a266 p0), (11, I (lenL p0)), (12, I z0.2.2), (29, B (leI x2.f1 x1.f0))] [(40, RR 267 2 a266 z0.1 0 false), (64, .box [I x1.f0, I x1.f1] false)] 88) ?_
    refine pN ?_
    refine pS ?_
    refine gC 29 (leI x2.f1 x1.f0) ?_ ?_
    · refine gK ?_
      refine pN ?_
      refine pS ?_
      refine gB 3 ?_
      refine gR 7 (rg Try.f252 7) ?_
      refine se (mkE [(1, LL a266 p1), (5, .own 40 0), (6, I (addI .i64 z1 1)), (8, .ba 64 0), (10, LL a266 p0), (11, I (lenL p0)), (12, I z0.2.2)] [(40, RR 267 2 a266 z0.1 0 false), (64, .box [I x1.f0, I x1.f1] false)] 88) ?_
      refine pB ?_
      exact pL
    · refine gX 2 ?_
      exact pL
  · refine dg 14 [(some 16, qe (I z1)), (some 17, qe (LL a266 p1)), (some 18, qe (I (lenL p1))), (some 19, qe (B (ltI z1 (lenL p1)))), (some 20, qe (B false)), (some 21, qe (.und)), (some 22, qe (.und)), (some 23, qe (.und)), (some 24, qe (.und)), (some 25, qe (.und)), (some 26, qe (.und)), (some 27, qe (.und)), (some 28, qe (.und)), (some 29, qe (B false))] ?_
    refine de (mkE [(29, B false), (28, .und), (27, .und), (26, .und), (25, .und), (24, .und), (23, .und), (22, .und), (21, .und), (20, B false), (19, B (ltI z1 (lenL p1))), (18, I (lenL p1)), (17, LL a266 p1), (16, I z1), (1, LL a266 p1), (5, .own 40 0), (6, I z1), (8, .ba 64 0), (10, LL a266 p0), (11, I (lenL p0)), (12, I z0.2.2)] [(40, RR 267 2 a266 z0.1 0 false), (64, .box [I x1.f0, I x1.f1] false)] 88) ?_
    refine se (mkE [(1, LL a266 p1), (5, .own 40 0), (6, I z1), (8, .ba 64 0), (10, LL a266 p0), (11, I (lenL p0)), (12, I z0.2.2), (29, B false)] [(40, RR 267 2 a266 z0.1 0 false), (64, .box [I x1.f0, I x1.f1] false)] 88) ?_
    refine pN ?_
    refine pS ?_
    refine gF (.tmp 29) ?_
    refine gX 2 ?_
    exact pL
noncomputable def L252_9 (p0 : (List S266)) (p1 : (List S266)) (z0 : ((List S266) × Int × Int)) (x1 : S266) (y3 : (Int × Bool)) (z2 : ((List S266) × Int × Int)) : Option (((List S266) × Int × Int) ⊕ (Int × Bool × (List S266) × Int)) := (bif (ltI z2.2.2 (lenL p1)) then ((listAt p1 z2.2.2).bind fun x4 => (bif (ltI x4.f0 x1.f1) then ((listAt p1 z2.2.2).bind fun x5 => (bif (ltI z2.2.1 x5.f0) then ((listAt p1 z2.2.2).bind fun x6 => ((appO 16 z2.1 ([(S266.mk z2.2.1 x6.f0)] : List S266)).bind fun x7 => ((listAt p1 z2.2.2).bind fun x8 => (some (.inl (x7, (maxI z2.2.1 x8.f1), (addI .i64 z2.2.2 1))))))) else ((listAt p1 z2.2.2).bind fun x9 => (some (.inl (z2.1, (maxI z2.2.1 x9.f1), (addI .i64 z2.2.2 1))))))) else (some (.inr (z2.2.2, (ltI x4.f0 x1.f1), z2.1, z2.2.1))))) else (some (.inr (z2.2.2, false, z2.1, z2.2.1))))
theorem L252_9_ok (C : Callee) (p0 : (List S266)) (p1 : (List S266)) (z0 : ((List S266) × Int × Int)) (x1 : S266) (y3 : (Int × Bool)) (z2 : ((List S266) × Int × Int)) : runs Try.prog C (cfg.fn 252) (finLoop ((cfg.fn 252).keep 9) ((cfg.fn 252).al 9)) [] (execA Try.prog C (cfg.fn 252) (nr Try.f252 [false, false, true, false, true, true, false, false, true, true, false, false, true, false, true, true, true]) ((fun z2 : ((List S266) × Int × Int) => (mkE [(1, LL a266 p1), (5, .own 40 0), (6, I y3.1), (8, .ba 64 0), (9, I z2.2.2), (10, LL a266 p0), (11, I (lenL p0)), (12, I z0.2.2)] [(40, RR 267 2 a266 z2.1 0 false), (64, .box [I z2.2.1, I x1.f1] false)] 88)) z2)) = (L252_9 p0 p1 z0 x1 y3 z2).map (Sum.elim (fun z => .inl ((fun z2 : ((List S266) × Int × Int) => (mkE [(1, LL a266 p1), (5, .own 40 0), (6, I y3.1), (8, .ba 64 0), (9, I z2.2.2), (10, LL a266 p0), (11, I (lenL p0)), (12, I z0.2.2)] [(40, RR 267 2 a266 z2.1 0 false), (64, .box [I z2.2.1, I x1.f1] false)] 88)) z)) (fun x => .inr ((fun (x : (Int × Bool × (List S266) × Int)) => (.exit 4, (mkE [(1, LL a266 p1), (5, .own 40 0), (6, I y3.1), (8, .ba 64 0), (9, I x.1), (10, LL a266 p0), (11, I (lenL p0)), (12, I z0.2.2), (46, B x.2.1)] [(40, RR 267 2 a266 x.2.2.1 0 false), (64, .box [I x.2.2.2, I x1.f1] false)] 88))) x))) := by
  unfold L252_9
  refine gS 11 ?_
  refine gS 0 ?_
  refine gD 9 14 (rg Try.f252 9) [0, 1, 2, 3, 4, 5, 6, 7, 8, 9, 10, 11, 12, 13] ?_
  refine dg 2 [(some 33, qe (I z2.2.2)), (some 34, qe (LL a266 p1))] ?_
  refine df 35 (I (lenL p1)) (mkE [(34, LL a266 p1), (1, LL a266 p1), (5, .own 40 0), (6, I y3.1), (8, .ba 64 0), (9, I z2.2.2), (10, LL a266 p0), (11, I (lenL p0)), (12, I z0.2.2)] [(40, RR 267 2 a266 z2.1 0 false), (64, .box [I z2.2.1, I x1.f1] false)] 88) (lenE 262 a266 p1) ?_
  refine dg 5 [(some 33, qe (I z2.2.2)), (some 34, qe (LL a266 p1)), (some 35, qe (I (lenL p1))), (some 36, qe (B (ltI z2.2.2 (lenL p1)))), (some 37, qe (B (ltI z2.2.2 (lenL p1))))] ?_
  refine db 4 37 (ltI z2.2.2 (lenL p1)) ?_ ?_
  · refine dg 7 [(some 33, qe (I z2.2.2)), (some 34, qe (LL a266 p1)), (some 35, qe (I (lenL p1))), (some 36, qe (B (ltI z2.2.2 (lenL p1)))), (some 37, qe (B true)), (some 38, qe (LL a266 p1)), (some 39, qe (I z2.2.2))] ?_
    refine dv 40 (mkE [(39, I z2.2.2), (38, LL a266 p1), (37, B true), (36, B (ltI z2.2.2 (lenL p1))), (35, I (lenL p1)), (34, LL a266 p1), (33, I z2.2.2), (1, LL a266 p1), (5, .own 40 0), (6, I y3.1), (8, .ba 64 0), (9, I z2.2.2), (10, LL a266 p0), (11, I (lenL p0)), (12, I z0.2.2)] [(40, RR 267 2 a266 z2.1 0 false), (64, .box [I z2.2.1, I x1.f1] false)] 88) (addrE 262 267 2 a266 .i64 p1 z2.2.2) (fun x4 => ?_)
    refine dg 14 [(some 33, qe (I z2.2.2)), (some 34, qe (LL a266 p1)), (some 35, qe (I (lenL p1))), (some 36, qe (B (ltI z2.2.2 (lenL p1)))), (some 37, qe (B true)), (some 38, qe (LL a266 p1)), (some 39, qe (I z2.2.2)), (some 40, qe (.ia [I x4.f0, I x4.f1] 0)), (some 41, qe (.ia [I x4.f0, I x4.f1] 0)), (some 42, qe (I x4.f0)), (some 43, qe (.ba 64 1)), (some 44, qe (I x1.f1)), (some 45, qe (B (ltI x4.f0 x1.f1))), (some 46, qe (B (ltI x4.f0 x1.f1)))] ?_
    refine de (mkE [(46, B (ltI x4.f0 x1.f1)), (45, B (ltI x4.f0 x1.f1)), (44, I x1.f1), (43, .ba 64 1), (42, I x4.f0), (41, .ia [I x4.f0, I x4.f1] 0), (40, .ia [I x4.f0, I x4.f1] 0), (39, I z2.2.2), (38, LL a266 p1), (37, B true), (36, B (ltI z2.2.2 (lenL p1))), (35, I (lenL p1)), (34, LL a266 p1), (33, I z2.2.2), (1, LL a266 p1), (5, .own 40 0), (6, I y3.1), (8, .ba 64 0), (9, I z2.2.2), (10, LL a266 p0), (11, I (lenL p0)), (12, I z0.2.2)] [(40, RR 267 2 a266 z2.1 0 false), (64, .box [I z2.2.1, I x1.f1] false)] 88) ?_
    refine se (mkE [(1, LL a266 p1), (5, .own 40 0), (6, I y3.1), (8, .ba 64 0), (9, I z2.2.2), (10, LL a266 p0), (11, I (lenL p0)), (12, I z0.2.2), (46, B (ltI x4.f0 x1.f1))] [(40, RR 267 2 a266 z2.1 0 false), (64, .box [I z2.2.1, I x1.f1] false)] 88) ?_
    refine pN ?_
    refine pS ?_
    refine gC 46 (ltI x4.f0 x1.f1) ?_ ?_
    · refine gK ?_
      refine pN ?_
      refine pS ?_
      refine gS 10 ?_
      refine gB 5 ?_
      refine gS 13 ?_
      refine gS 0 ?_
      refine gD 11 8 (rg Try.f252 11) [0, 1, 2, 3, 4, 5, 6, 7] ?_
      refine dg 2 [(some 49, qe (LL a266 p1)), (some 50, qe (I z2.2.2))] ?_
      refine dv 51 (mkE [(50, I z2.2.2), (49, LL a266 p1), (1, LL a266 p1), (5, .own 40 0), (6, I y3.1), (8, .ba 64 0), (9, I z2.2.2), (10, LL a266 p0), (11, I (lenL p0)), (12, I z0.2.2), (46, B (ltI x4.f0 x1.f1))] [(40, RR 267 2 a266 z2.1 0 false), (64, .box [I z2.2.1, I x1.f1] false)] 88) (addrE 262 267 2 a266 .i64 p1 z2.2.2) (fun x5 => ?_)
      refine dg 8 [(some 49, qe (LL a266 p1)), (some 50, qe (I z2.2.2)), (some 51, qe (.ia [I x5.f0, I x5.f1] 0)), (some 52, qe (.ia [I x5.f0, I x5.f1] 0)), (some 53, qe (I x5.f0)), (some 54, qe (.ba 64 0)), (some 55, qe (I z2.2.1)), (some 56, qe (B (ltI z2.2.1 x5.f0)))] ?_
      refine de (mkE [(56, B (ltI z2.2.1 x5.f0)), (55, I z2.2.1), (54, .ba 64 0), (53, I x5.f0), (52, .ia [I x5.f0, I x5.f1] 0), (51, .ia [I x5.f0, I x5.f1] 0), (50, I z2.2.2), (49, LL a266 p1), (1, LL a266 p1), (5, .own 40 0), (6, I y3.1), (8, .ba 64 0), (9, I z2.2.2), (10, LL a266 p0), (11, I (lenL p0)), (12, I z0.2.2), (46, B (ltI x4.f0 x1.f1))] [(40, RR 267 2 a266 z2.1 0 false), (64, .box [I z2.2.1, I x1.f1] false)] 88) ?_
      refine se (mkE [(1, LL a266 p1), (5, .own 40 0), (6, I y3.1), (8, .ba 64 0), (9, I z2.2.2), (10, LL a266 p0), (11, I (lenL p0)), (12, I z0.2.2), (56, B (ltI z2.2.1 x5.f0))] [(40, RR 267 2 a266 z2.1 0 false), (64, .box [I z2.2.1, I x1.f1] false)] 88) ?_
      refine pN ?_
      refine pS ?_
      refine gC 56 (ltI z2.2.1 x5.f0) ?_ ?_
      · refine gD 12 10 (rg Try.f252 12) [0, 1, 2, 3, 4, 5, 6, 7, 8, 9, 10, 11] ?_
        refine dg 5 [(some 57, qe (.own 40 0)), (some 58, qe (.ba 64 0)), (some 59, qe (I z2.2.1)), (some 60, qe (LL a266 p1)), (some 61, qe (I z2.2.2))] ?_
        refine dv 62 (mkE [(61, I z2.2.2), (60, LL a266 p1), (1, LL a266 p1), (5, .own 40 0), (6, I y3.1), (8, .ba 64 0), (9, I z2.2.2), (10, LL a266 p0), (11, I (lenL p0)), (12, I z0.2.2), (56, B (ltI z2.2.1 x5.f0))] [(40, RR 267 2 a266 z2.1 0 false), (64, .box [I z2.2.1, I x1.f1] false)] 88) (addrE 262 267 2 a266 .i64 p1 z2.2.2) (fun x6 => ?_)
        refine dg 10 [(some 57, qe (.own 40 0)), (some 58, qe (.ba 64 0)), (some 59, qe (I z2.2.1)), (some 60, qe (LL a266 p1)), (some 61, qe (I z2.2.2)), (some 62, qe (.ia [I x6.f0, I x6.f1] 0)), (some 63, qe (.ia [I x6.f0, I x6.f1] 0)), (some 64, qe (I x6.f0)), (some 65, qe (.agg [I z2.2.1, I x6.f0])), (some 66, { e := { val := .own 528 0, news := [(528, RR 267 2 a266 ([(S266.mk z2.2.1 x6.f0)] : List S266) 0 false)] } })] ?_
        refine de (mkE [(66, .own 528 0), (65, .agg [I z2.2.1, I x6.f0]), (64, I x6.f0), (63, .ia [I x6.f0, I x6.f1] 0), (62, .ia [I x6.f0, I x6.f1] 0), (61, I z2.2.2), (60, LL a266 p1), (59, I z2.2.1), (58, .ba 64 0), (57, .own 40 0), (1, LL a266 p1), (5, .own 40 0), (6, I y3.1), (8, .ba 64 0), (9, I z2.2.2), (10, LL a266 p0), (11, I (lenL p0)), (12, I z0.2.2), (56, B (ltI z2.2.1 x5.f0))] [(528, RR 267 2 a266 ([(S266.mk z2.2.1 x6.f0)] : List S266) 0 false), (40, RR 267 2 a266 z2.1 0 false), (64, .box [I z2.2.1, I x1.f1] false)] 88) ?_
        refine mo (some 67) (apO 262 267 2 16 40 a266 0 [528] (y := .own 528 0) (l2 := ([(S266.mk z2.2.1 x6.f0)] : List S266))) (fun x7 => ?_)
        refine se (mkE [(1, LL a266 p1), (5, .own 40 1), (6, I y3.1), (8, .ba 64 0), (9, I z2.2.2), (10, LL a266 p0), (11, I (lenL p0)), (12, I z0.2.2)] [(40, RR 267 2 a266 x7 1 false), (64, .box [I z2.2.1, I x1.f1] false)] 88) ?_
        refine pN ?_
        refine pS ?_
        refine gD 13 9 (rg Try.f252 13) [0, 1, 2, 3, 4, 5, 6, 7, 8, 9] ?_
        refine dg 4 [(some 68, qe (.ba 64 0)), (some 69, qe (I z2.2.1)), (some 70, qe (LL a266 p1)), (some 71, qe (I z2.2.2))] ?_
        refine dv 72 (mkE [(71, I z2.2.2), (70, LL a266 p1), (1, LL a266 p1), (5, .own 40 1), (6, I y3.1), (8, .ba 64 0), (9, I z2.2.2), (10, LL a266 p0), (11, I (lenL p0)), (12, I z0.2.2)] [(40, RR 267 2 a266 x7 1 false), (64, .box [I z2.2.1, I x1.f1] false)] 88) (addrE 262 267 2 a266 .i64 p1 z2.2.2) (fun x8 => ?_)
        refine dg 9 [(some 68, qe (.ba 64 0)), (some 69, qe (I z2.2.1)), (some 70, qe (LL a266 p1)), (some 71, qe (I z2.2.2)), (some 72, qe (.ia [I x8.f0, I x8.f1] 0)), (some 73, qe (.ia [I x8.f0, I x8.f1] 1)), (some 74, qe (I x8.f1)), (some 75, qe (I (maxI z2.2.1 x8.f1))), (some 76, qe (.ba 64 0))] ?_
        refine de (mkE [(76, .ba 64 0), (75, I (maxI z2.2.1 x8.f1)), (74, I x8.f1), (73, .ia [I x8.f0, I x8.f1] 1), (72, .ia [I x8.f0, I x8.f1] 0), (71, I z2.2.2), (70, LL a266 p1), (69, I z2.2.1), (68, .ba 64 0), (1, LL a266 p1), (5, .own 40 1), (6, I y3.1), (8, .ba 64 0), (9, I z2.2.2), (10, LL a266 p0), (11, I (lenL p0)), (12, I z0.2.2)] [(40, RR 267 2 a266 x7 1 false), (64, .box [I z2.2.1, I x1.f1] false)] 88) ?_
        refine se (mkE [(1, LL a266 p1), (5, .own 40 1), (6, I y3.1), (8, .ba 64 0), (9, I z2.2.2), (10, LL a266 p0), (11, I (lenL p0)), (12, I z0.2.2)] [(40, RR 267 2 a266 x7 1 false), (64, .box [I (maxI z2.2.1 x8.f1), I x1.f1] false)] 88) ?_
        refine pB ?_
        refine pN ?_
        refine pS ?_
        refine gR 10 (rg Try.f252 10) ?_
        refine se (mkE [(1, LL a266 p1), (5, .own 40 1), (6, I y3.1), (8, .ba 64 0), (9, I (addI .i64 z2.2.2 1)), (10, LL a266 p0), (11, I (lenL p0)), (12, I z0.2.2)] [(40, RR 267 2 a266 x7 1 false), (64, .box [I (maxI z2.2.1 x8.f1), I x1.f1] false)] 88) ?_
        exact pL
      · refine gK ?_
        refine pN ?_
        refine pS ?_
        refine gD 13 9 (rg Try.f252 13) [0, 1, 2, 3, 4, 5, 6, 7, 8, 9] ?_
        refine dg 4 [(some 68, qe (.ba 64 0)), (some 69, qe (I z2.2.1)), (some 70, qe (LL a266 p1)), (some 71, qe (I z2.2.2))] ?_
        refine dv 72 (mkE [(71, I z2.2.2), (70, LL a266 p1), (1, LL a266 p1), (5, .own 40 0), (6, I y3.1), (8, .ba 64 0), (9, I z2.2.2), (10, LL a266 p0), (11, I (lenL p0)), (12, I z0.2.2), (56, B (ltI z2.2.1 x5.f0))] [(40, RR 267 2 a266 z2.1 0 false), (64, .box [I z2.2.1, I x1.f1] false)] 88) (addrE 262 267 2 a266 .i64 p1 z2.2.2) (fun x9 => ?_)
        refine dg 9 [(some 68, qe (.ba 64 0)), (some 69, qe (I z2.2.1)), (some 70, qe (LL a266 p1)), (some 71, qe (I z2.2.2)), (some 72, qe (.ia [I x9.f0, I x9.f1] 0)), (some 73, qe (.ia [I x9.f0, I x9.f1] 1)), (some 74, qe (I x9.f1)), (some 75, qe (I (maxI z2.2.1 x9.f1))), (some 76, qe (.ba 64 0))] ?_
        refine de (mkE [(76, .ba 64 0), (75, I (maxI z2.2.1 x9.f1)), (74, I x9.f1), (73, .ia [I x9.f0, I x9.f1] 1), (72, .ia [I x9.f0, I x9.f1] 0), (71, I z2.2.2), (70, LL a266 p1), (69, I z2.2.1), (68, .ba 64 0), (1, LL a266 p1), (5, .own 40 0), (6, I y3.1), (8, .ba 64 0), (9, I z2.2.2), (10, LL a266 p0), (11, I (lenL p0)), (12, I z0.2.2), (56, B (ltI z2.2.1 x5.f0))] [(40, RR 267 2 a266 z2.1 0 false), (64, .box [I z2.2.1, I x1.f1] false)] 88) ?_
        refine se (mkE [(1, LL a266 p1), (5, .own 40 0), (6, I y3.1), (8, .ba 64 0), (9, I z2.2.2), (10, LL a266 p0), (11, I (lenL p0)), (12, I z0.2.2)] [(40, RR 267 2 a266 z2.1 0 false), (64, .box [I (maxI z2.2.1 x9.f1), I x1.f1] false)] 88) ?_
        refine pB ?_
        refine pN ?_
        refine pS ?_
        refine gR 10 (rg Try.f252 10) ?_
        refine se (mkE [(1, LL a266 p1), (5, .own 40 0), (6, I y3.1), (8, .ba 64 0), (9, I (addI .i64 z2.2.2 1)), (10, LL a266 p0), (11, I (lenL p0)), (12, I z0.2.2)] [(40, RR 267 2 a266 z2.1 0 false), (64, .box [I (maxI z2.2.1 x9.f1), I x1.f1] false)] 88) ?_
        exact pL
    · refine gX 4 ?_
      exact pL
  · refine dg 14 [(some 33, qe (I z2.2.2)), (some 34, qe (LL a266 p1)), (some 35, qe (I (lenL p1))), (some 36, qe (B (ltI z2.2.2 (lenL p1)))), (some 37, qe (B false)), (some 38, qe (.und)), (some 39, qe (.und)), (some 40, qe (.und)), (some 41, qe (.und)), (some 42, qe (.und)), (some 43, qe (.und)), (some 44, qe (.und)), (some 45, qe (.und)), (some 46, qe (B false))] ?_
    refine de (mkE [(46, B false), (45, .und), (44, .und), (43, .und), (42, .und), (41, .und), (40, .und), (39, .und), (38, .und), (37, B false), (36, B (ltI z2.2.2 (lenL p1))), (35, I (lenL p1)), (34, LL a266 p1), (33, I z2.2.2), (1, LL a266 p1), (5, .own 40 0), (6, I y3.1), (8, .ba 64 0), (9, I z2.2.2), (10, LL a266 p0), (11, I (lenL p0)), (12, I z0.2.2)] [(40, RR 267 2 a266 z2.1 0 false), (64, .box [I z2.2.1, I x1.f1] false)] 88) ?_
    refine se (mkE [(1, LL a266 p1), (5, .own 40 0), (6, I y3.1), (8, .ba 64 0), (9, I z2.2.2), (10, LL a266 p0), (11, I (lenL p0)), (12, I z0.2.2), (46, B false)] [(40, RR 267 2 a266 z2.1 0 false), (64, .box [I z2.2.1, I x1.f1] false)] 88) ?_
    refine pN ?_
    refine pS ?_
    refine gF (.tmp 46) ?_
    refine gX 4 ?_
    exact pL
noncomputable def L252_4 (p0 : (List S266)) (p1 : (List S266)) (z0 : ((List S266) × Int × Int)) : Option (((List S266) × Int × Int) ⊕ (Int × Int × Bool × (List S266))) := (bif (ltI z0.2.2 (lenL p0)) then ((listAt p0 z0.2.2).bind fun x1 => ((iter (L252_6 p0 p1 z0 x1) z0.2.1).bind fun y3 => ((iter (L252_9 p0 p1 z0 x1 y3) (z0.1, x1.f0, y3.1)).bind fun y10 => (bif (ltI y10.2.2.2 x1.f1) then ((appO 16 y10.2.2.1 ([(S266.mk y10.2.2.2 x1.f1)] : List S266)).bind fun x11 => (some (.inl (x11, y3.1, (addI .i64 z0.2.2 1))))) else (some (.inl (y10.2.2.1, y3.1, (addI .i64 z0.2.2 1)))))))) else (some (.inr (z0.2.1, z0.2.2, (ltI z0.2.2 (lenL p0)), z0.1))))
theorem L252_4_ok (C : Callee) (p0 : (List S266)) (p1 : (List S266)) (z0 : ((List S266) × Int × Int)) : runs Try.prog C (cfg.fn 252) (finLoop ((cfg.fn 252).keep 4) ((cfg.fn 252).al 4)) [] (execA Try.prog C (cfg.fn 252) (nr Try.f252 [false, false, true, false, true, true, true]) ((fun z0 : ((List S266) × Int × Int) => (mkE [(1, LL a266 p1), (5, .own 40 0), (6, I z0.2.1), (10, LL a266 p0), (11, I (lenL p0)), (12, I z0.2.2)] [(40, RR 267 2 a266 z0.1 0 false)] 88)) z0)) = (L252_4 p0 p1 z0).map (Sum.elim (fun z => .inl ((fun z0 : ((List S266) × Int × Int) => (mkE [(1, LL a266 p1), (5, .own 40 0), (6, I z0.2.1), (10, LL a266 p0), (11, I (lenL p0)), (12, I z0.2.2)] [(40, RR 267 2 a266 z0.1 0 false)] 88)) z)) (fun x => .inr ((fun (x : (Int × Int × Bool × (List S266))) => (.exit 0, (mkE [(1, LL a266 p1), (5, .own 40 0), (6, I x.1), (10, LL a266 p0), (11, I (lenL p0)), (12, I x.2.1), (13, B x.2.2.1)] [(40, RR 267 2 a266 x.2.2.2 0 false)] 88))) x))) := by
  unfold L252_4
  refine gS 0 ?_
  refine gR 4 (rg Try.f252 4) ?_
  refine se (mkE [(1, LL a266 p1), (5, .own 40 0), (6, I z0.2.1), (10, LL a266 p0), (11, I (lenL p0)), (12, I z0.2.2), (13, B (ltI z0.2.2 (lenL p0)))] [(40, RR 267 2 a266 z0.1 0 false)] 88) ?_
  refine pN ?_
  refine pS ?_
  refine gS 5 ?_
  refine gC 13 (ltI z0.2.2 (lenL p0)) ?_ ?_
  · refine gK ?_
    refine pN ?_
    refine pS ?_
    refine gS 16 ?_
    refine gB 1 ?_
    refine gS 6 ?_
    refine gR 5 (rg Try.f252 5) ?_
    refine vo 14 (addrE 262 267 2 a266 .i64 p0 z0.2.2) (fun x1 => ?_)
    refine se (mkE [(1, LL a266 p1), (5, .own 40 0), (6, I z0.2.1), (8, .ba 64 0), (10, LL a266 p0), (11, I (lenL p0)), (12, I z0.2.2)] [(40, RR 267 2 a266 z0.1 0 false), (64, .box [I x1.f0, I x1.f1] false)] 88) ?_
    refine pN ?_
    refine pS ?_
    refine gS 8 ?_
    refine gB 2 ?_
    refine lo [(1, none), (5, some (267, 2)), (6, none), (8, none), (10, none), (11, none), (12, none)] [] (L252_6 p0 p1 z0 x1) (fun z1 : Int => (mkE [(1, LL a266 p1), (5, .own 40 0), (6, I z1), (8, .ba 64 0), (10, LL a266 p0), (11, I (lenL p0)), (12, I z0.2.2)] [(40, RR 267 2 a266 z0.1 0 false), (64, .box [I x1.f0, I x1.f1] false)] 88)) (fun (x : (Int × Bool)) => (.exit 2, (mkE [(1, LL a266 p1), (5, .own 40 0), (6, I x.1), (8, .ba 64 0), (10, LL a266 p0), (11, I (lenL p0)), (12, I z0.2.2), (29, B x.2)] [(40, RR 267 2 a266 z0.1 0 false), (64, .box [I x1.f0, I x1.f1] false)] 88))) z0.2.1 (fun z => L252_6_ok C p0 p1 z0 x1 z) ?_
    intro y3
    refine pH ?_
    refine pN ?_
    refine pS ?_
    refine gS 14 ?_
    refine gS 9 ?_
    refine gR 8 (rg Try.f252 8) ?_
    refine se (mkE [(1, LL a266 p1), (5, .own 40 0), (6, I y3.1), (8, .ba 64 0), (9, I y3.1), (10, LL a266 p0), (11, I (lenL p0)), (12, I z0.2.2)] [(40, RR 267 2 a266 z0.1 0 false), (64, .box [I x1.f0, I x1.f1] false)] 88) ?_
    refine pN ?_
    refine pS ?_
    refine gB 4 ?_
    refine lo [(1, none), (5, some (267, 2)), (6, none), (8, none), (9, none), (10, none), (11, none), (12, none)] [] (L252_9 p0 p1 z0 x1 y3) (fun z2 : ((List S266) × Int × Int) => (mkE [(1, LL a266 p1), (5, .own 40 0), (6, I y3.1), (8, .ba 64 0), (9, I z2.2.2), (10, LL a266 p0), (11, I (lenL p0)), (12, I z0.2.2)] [(40, RR 267 2 a266 z2.1 0 false), (64, .box [I z2.2.1, I x1.f1] false)] 88)) (fun (x : (Int × Bool × (List S266) × Int)) => (.exit 4, (mkE [(1, LL a266 p1), (5, .own 40 0), (6, I y3.1), (8, .ba 64 0), (9, I x.1), (10, LL a266 p0), (11, I (lenL p0)), (12, I z0.2.2), (46, B x.2.1)] [(40, RR 267 2 a266 x.2.2.1 0 false), (64, .box [I x.2.2.2, I x1.f1] false)] 88))) (z0.1, x1.f0, y3.1) (fun z => L252_9_ok C p0 p1 z0 x1 y3 z) ?_
    intro y10
    refine pH ?_
    refine pN ?_
    refine pS ?_
    refine gS 0 ?_
    refine gR 14 (rg Try.f252 14) ?_
    refine se (mkE [(1, LL a266 p1), (5, .own 40 0), (6, I y3.1), (8, .ba 64 0), (10, LL a266 p0), (11, I (lenL p0)), (12, I z0.2.2), (81, B (ltI y10.2.2.2 x1.f1))] [(40, RR 267 2 a266 y10.2.2.1 0 false), (64, .box [I y10.2.2.2, I x1.f1] false)] 88) ?_
    refine pN ?_
    refine pS ?_
    refine gC 81 (ltI y10.2.2.2 x1.f1) ?_ ?_
    · refine gR 15 (rg Try.f252 15) ?_
      refine sg 3 (mkE [(84, .own 672 0), (83, .agg [I y10.2.2.2, I x1.f1]), (82, .own 40 0), (1, LL a266 p1), (5, .own 40 0), (6, I y3.1), (8, .ba 64 0), (10, LL a266 p0), (11, I (lenL p0)), (12, I z0.2.2), (81, B (ltI y10.2.2.2 x1.f1))] [(672, RR 267 2 a266 ([(S266.mk y10.2.2.2 x1.f1)] : List S266) 0 false), (40, RR 267 2 a266 y10.2.2.1 0 false), (64, .box [I y10.2.2.2, I x1.f1] false)] 88) ?_
      refine mo (some 85) (apO 262 267 2 16 40 a266 0 [672] (y := .own 672 0) (l2 := ([(S266.mk y10.2.2.2 x1.f1)] : List S266))) (fun x11 => ?_)
      refine se (mkE [(1, LL a266 p1), (5, .own 40 1), (6, I y3.1), (10, LL a266 p0), (11, I (lenL p0)), (12, I z0.2.2)] [(40, RR 267 2 a266 x11 1 false)] 88) ?_
      refine pB ?_
      refine pN ?_
      refine pS ?_
      refine gR 16 (rg Try.f252 16) ?_
      refine se (mkE [(1, LL a266 p1), (5, .own 40 1), (6, I y3.1), (10, LL a266 p0), (11, I (lenL p0)), (12, I (addI .i64 z0.2.2 1))] [(40, RR 267 2 a266 x11 1 false)] 88) ?_
      exact pL
    · refine gK ?_
      refine pB ?_
      refine pN ?_
      refine pS ?_
      refine gR 16 (rg Try.f252 16) ?_
      refine se (mkE [(1, LL a266 p1), (5, .own 40 0), (6, I y3.1), (10, LL a266 p0), (11, I (lenL p0)), (12, I (addI .i64 z0.2.2 1))] [(40, RR 267 2 a266 y10.2.2.1 0 false)] 88) ?_
      exact pL
  · refine gX 0 ?_
    exact pL
noncomputable def T252 (p0 : (List S266)) (p1 : (List S266)) : Option (List S266) := ((iter (L252_4 p0 p1) ([], 0, 0)).bind fun y12 => (some y12.2.2.2))
theorem B252 (C : Callee) (p0 : (List S266)) (p1 : (List S266)) : runs Try.prog C (cfg.fn 252) (finFn Try.prog (cfg.fn 252).byval Try.f252) [] (execA Try.prog C (cfg.fn 252) (nr Try.f252 []) (frame0 [LL a266 p0, LL a266 p1] 88 false)) = (T252 p0 p1).map (fun l => AV.fr 267 2 (List.map a266 l)) := by
  unfold T252
  refine gS 1 ?_
  refine gR 0 (rg Try.f252 0) ?_
  refine se (mkE [(0, LL a266 p0), (1, LL a266 p1)] [] 88) ?_
  refine pN ?_
  refine pS ?_
  refine gS 2 ?_
  refine gR 1 (rg Try.f252 1) ?_
  refine se (mkE [(0, LL a266 p0), (1, LL a266 p1), (5, .nils)] [] 88) ?_
  refine pN ?_
  refine pS ?_
  refine gS 3 ?_
  refine gR 2 (rg Try.f252 2) ?_
  refine se (mkE [(0, LL a266 p0), (1, LL a266 p1), (5, .nils), (6, I 0)] [] 88) ?_
  refine pN ?_
  refine pS ?_
  refine gS 17 ?_
  refine gS 4 ?_
  refine gR 3 (rg Try.f252 3) ?_
  refine sg 1 (mkE [(10, LL a266 p0), (0, LL a266 p0), (1, LL a266 p1), (5, .nils), (6, I 0)] [] 88) ?_
  refine eo 11 (I (lenL p0)) (lenE 262 a266 p0) ?_
  refine se (mkE [(1, LL a266 p1), (5, .nils), (6, I 0), (10, LL a266 p0), (11, I (lenL p0)), (12, I 0)] [] 88) ?_
  refine pN ?_
  refine pS ?_
  refine gB 0 ?_
  refine lo [(1, none), (5, some (267, 2)), (6, none), (10, none), (11, none), (12, none)] [] (L252_4 p0 p1) (fun z0 : ((List S266) × Int × Int) => (mkE [(1, LL a266 p1), (5, .own 40 0), (6, I z0.2.1), (10, LL a266 p0), (11, I (lenL p0)), (12, I z0.2.2)] [(40, RR 267 2 a266 z0.1 0 false)] 88)) (fun (x : (Int × Int × Bool × (List S266))) => (.exit 0, (mkE [(1, LL a266 p1), (5, .own 40 0), (6, I x.1), (10, LL a266 p0), (11, I (lenL p0)), (12, I x.2.1), (13, B x.2.2.1)] [(40, RR 267 2 a266 x.2.2.2 0 false)] 88))) ([], 0, 0) (fun z => L252_4_ok C p0 p1 z) ?_
  intro y12
  refine pH ?_
  refine pN ?_
  refine pS ?_
  refine gS 0 ?_
  refine gR 17 (rg Try.f252 17) ?_
  refine se (mkE [(4, .own 40 0)] [(40, RR 267 2 a266 y12.2.2.2 0 false)] 88) ?_
  refine pN ?_
  refine pS ?_
  refine gE ?_
  exact pL
theorem F252 (m : Nat) (hm : 1 ≤ m) (p0 : (List S266)) (p1 : (List S266)) : callA Try.prog cfg m 252 [LL a266 p0, LL a266 p1] = (T252 p0 p1).map (fun l => AV.fr 267 2 (List.map a266 l)) := by
  obtain ⟨q, rfl⟩ : ∃ q, m = q + 1 := ⟨m - 1, by omega⟩
  exact (callA_body (fn := Try.f252) (c := body_ Try.f252) q _ (by kernel_rfl) (by kernel_rfl) (by kernel_rfl)).trans (B252 _ p0 p1)

noncomputable def L254_4 (p0 : (List S266)) (p1 : (List S266)) (z0 : Int) : Option (Int ⊕ ((Int × Bool) ⊕ Unit)) := (bif (ltI z0 (lenL p0)) then ((listAt p0 z0).bind fun x1 => ((listAt p1 z0).bind fun x2 => (bif (!allB [eqI x1.f0 x2.f0, eqI x1.f1 x2.f1]) then (some (.inr (.inr ()))) else (some (.inl (addI .i64 z0 1)))))) else (some (.inr (.inl (z0, (ltI z0 (lenL p0)))))))
theorem L254_4_ok (C : Callee) (p0 : (List S266)) (p1 : (List S266)) (z0 : Int) : runs Try.prog C (cfg.fn 254) (finLoop ((cfg.fn 254).keep 4) ((cfg.fn 254).al 4)) [] (execA Try.prog C (cfg.fn 254) (nr Try.f254 [false, false, true, false, true, true]) ((fun z0 : Int => (mkE [(0, LL a266 p0), (1, LL a266 p1), (12, I (lenL p0)), (13, I z0)] [] 26)) z0)) = (L254_4 p0 p1 z0).map (Sum.elim (fun z => .inl ((fun z0 : Int => (mkE [(0, LL a266 p0), (1, LL a266 p1), (12, I (lenL p0)), (13, I z0)] [] 26)) z)) (fun x => .inr ((Sum.elim (fun (x : (Int × Bool)) => (.exit 0, (mkE [(0, LL a266 p0), (1, LL a266 p1), (12, I (lenL p0)), (13, I x.1), (14, B x.2)] [] 26))) (fun (x : Unit) => (.ret, (mkE [(4, B false)] [] 26)))) x))) := by
  unfold L254_4
  refine gS 0 ?_
  refine gR 4 (rg Try.f254 4) ?_
  refine se (mkE [(0, LL a266 p0), (1, LL a266 p1), (12, I (lenL p0)), (13, I z0), (14, B (ltI z0 (lenL p0)))] [] 26) ?_
  refine pN ?_
  refine pS ?_
  refine gS 5 ?_
  refine gC 14 (ltI z0 (lenL p0)) ?_ ?_
  · refine gK ?_
    refine pN ?_
    refine pS ?_
    refine gS 8 ?_
    refine gB 1 ?_
    refine gS 6 ?_
    refine gR 5 (rg Try.f254 5) ?_
    refine se (mkE [(0, LL a266 p0), (1, LL a266 p1), (5, I z0), (12, I (lenL p0)), (13, I z0)] [] 26) ?_
    refine pN ?_
    refine pS ?_
    refine gS 0 ?_
    refine gD 6 9 (rg Try.f254 6) [0, 1, 2, 3, 4, 5, 6, 7, 8] ?_
    refine dg 2 [(some 16, qe (LL a266 p0)), (some 17, qe (I z0))] ?_
    refine dv 18 (mkE [(17, I z0), (16, LL a266 p0), (0, LL a266 p0), (1, LL a266 p1), (5, I z0), (12, I (lenL p0)), (13, I z0)] [] 26) (addrE 262 267 2 a266 .i64 p0 z0) (fun x1 => ?_)
    refine dg 6 [(some 16, qe (LL a266 p0)), (some 17, qe (I z0)), (some 18, qe (.ia [I x1.f0, I x1.f1] 0)), (some 19, qe (a266 x1)), (some 20, qe (LL a266 p1)), (some 21, qe (I z0))] ?_
    refine dv 22 (mkE [(21, I z0), (20, LL a266 p1), (0, LL a266 p0), (1, LL a266 p1), (5, I z0), (12, I (lenL p0)), (13, I z0)] [] 26) (addrE 262 267 2 a266 .i64 p1 z0) (fun x2 => ?_)
    refine dg 8 [(some 16, qe (LL a266 p0)), (some 17, qe (I z0)), (some 18, qe (.ia [I x1.f0, I x1.f1] 0)), (some 19, qe (a266 x1)), (some 20, qe (LL a266 p1)), (some 21, qe (I z0)), (some 22, qe (.ia [I x2.f0, I x2.f1] 0)), (some 23, qe (a266 x2))] ?_
    refine df 24 (B (!allB [eqI x1.f0 x2.f0, eqI x1.f1 x2.f1])) (mkE [(23, a266 x2), (22, .ia [I x2.f0, I x2.f1] 0), (21, I z0), (20, LL a266 p1), (19, a266 x1), (18, .ia [I x1.f0, I x1.f1] 0), (17, I z0), (16, LL a266 p0), (0, LL a266 p0), (1, LL a266 p1), (5, I z0), (12, I (lenL p0)), (13, I z0)] [] 26) (neqE 267 (.tmp 19) (.tmp 23) [I x1.f0, I x1.f1] [I x2.f0, I x2.f1] [.int .i64 x1.f0, .int .i64 x1.f1] [.int .i64 x2.f0, .int .i64 x2.f1] [eqI x1.f0 x2.f0, eqI x1.f1 x2.f1]) ?_
    refine de (mkE [(24, B (!allB [eqI x1.f0 x2.f0, eqI x1.f1 x2.f1])), (23, a266 x2), (22, .ia [I x2.f0, I x2.f1] 0), (21, I z0), (20, LL a266 p1), (19, a266 x1), (18, .ia [I x1.f0, I x1.f1] 0), (17, I z0), (16, LL a266 p0), (0, LL a266 p0), (1, LL a266 p1), (5, I z0), (12, I (lenL p0)), (13, I z0)] [] 26) ?_
    refine se (mkE [(0, LL a266 p0), (1, LL a266 p1), (12, I (lenL p0)), (13, I z0), (24, B (!allB [eqI x1.f0 x2.f0, eqI x1.f1 x2.f1]))] [] 26) ?_
    refine pN ?_
    refine pS ?_
    refine gC 24 (!allB [eqI x1.f0 x2.f0, eqI x1.f1 x2.f1]) ?_ ?_
    · refine gS 0 ?_
      refine gR 7 (rg Try.f254 7) ?_
      refine se (mkE [(4, B false)] [] 26) ?_
      refine pN ?_
      refine pS ?_
      refine gE ?_
      exact pL
    · refine gK ?_
      refine pB ?_
      refine pN ?_
      refine pS ?_
      refine gR 8 (rg Try.f254 8) ?_
      refine se (mkE [(0, LL a266 p0), (1, LL a266 p1), (12, I (lenL p0)), (13, I (addI .i64 z0 1))] [] 26) ?_
      exact pL
  · refine gX 0 ?_
    exact pL
noncomputable def T254 (p0 : (List S266)) (p1 : (List S266)) : Option Bool := (bif (neI (lenL p0) (lenL p1)) then (some false) else ((iter (L254_4 p0 p1) 0).bind fun y3 => (Sum.elim (fun y3a => (some true)) (fun y3b => (some false)) y3)))
theorem B254 (C : Callee) (p0 : (List S266)) (p1 : (List S266)) : runs Try.prog C (cfg.fn 254) (finFn Try.prog (cfg.fn 254).byval Try.f254) [] (execA Try.prog C (cfg.fn 254) (nr Try.f254 []) (frame0 [LL a266 p0, LL a266 p1] 26 false)) = (T254 p0 p1).map B := by
  unfold T254
  refine gS 1 ?_
  refine gR 0 (rg Try.f254 0) ?_
  refine se (mkE [(0, LL a266 p0), (1, LL a266 p1)] [] 26) ?_
  refine pN ?_
  refine pS ?_
  refine gS 3 ?_
  refine gS 0 ?_
  refine gR 1 (rg Try.f254 1) ?_
  refine sg 1 (mkE [(6, LL a266 p0), (0, LL a266 p0), (1, LL a266 p1)] [] 26) ?_
  refine eo 7 (I (lenL p0)) (lenE 262 a266 p0) ?_
  refine sg 3 (mkE [(8, LL a266 p1), (7, I (lenL p0)), (6, LL a266 p0), (0, LL a266 p0), (1, LL a266 p1)] [] 26) ?_
  refine eo 9 (I (lenL p1)) (lenE 262 a266 p1) ?_
  refine se (mkE [(0, LL a266 p0), (1, LL a266 p1), (10, B (neI (lenL p0) (lenL p1)))] [] 26) ?_
  refine pN ?_
  refine pS ?_
  refine gC 10 (neI (lenL p0) (lenL p1)) ?_ ?_
  · refine gS 0 ?_
    refine gR 2 (rg Try.f254 2) ?_
    refine se (mkE [(4, B false)] [] 26) ?_
    refine pN ?_
    refine pS ?_
    refine gE ?_
    exact pL
  · refine gK ?_
    refine pN ?_
    refine pS ?_
    refine gS 9 ?_
    refine gS 4 ?_
    refine gR 3 (rg Try.f254 3) ?_
    refine sg 1 (mkE [(11, LL a266 p0), (0, LL a266 p0), (1, LL a266 p1), (10, B (neI (lenL p0) (lenL p1)))] [] 26) ?_
    refine eo 12 (I (lenL p0)) (lenE 262 a266 p0) ?_
    refine se (mkE [(0, LL a266 p0), (1, LL a266 p1), (12, I (lenL p0)), (13, I 0)] [] 26) ?_
    refine pN ?_
    refine pS ?_
    refine gB 0 ?_
    refine lo [(0, none), (1, none), (12, none), (13, none)] [] (L254_4 p0 p1) (fun z0 : Int => (mkE [(0, LL a266 p0), (1, LL a266 p1), (12, I (lenL p0)), (13, I z0)] [] 26)) (Sum.elim (fun (x : (Int × Bool)) => (.exit 0, (mkE [(0, LL a266 p0), (1, LL a266 p1), (12, I (lenL p0)), (13, I x.1), (14, B x.2)] [] 26))) (fun (x : Unit) => (.ret, (mkE [(4, B false)] [] 26)))) 0 (fun z => L254_4_ok C p0 p1 z) ?_
    intro y3
    refine ss y3 (Z := (Sum.elim (fun (x : (Int × Bool)) => (.exit 0, (mkE [(0, LL a266 p0), (1, LL a266 p1), (12, I (lenL p0)), (13, I x.1), (14, B x.2)] [] 26))) (fun (x : Unit) => (.ret, (mkE [(4, B false)] [] 26))))) (fun y3a => ?_) (fun y3b => ?_)
    · refine pH ?_
      refine pN ?_
      refine pS ?_
      refine gS 0 ?_
      refine gR 9 (rg Try.f254 9) ?_
      refine se (mkE [(4, B true)] [] 26) ?_
      refine pN ?_
      refine pS ?_
      refine gE ?_
      exact pL
    · exact pL
theorem F254 (m : Nat) (hm : 1 ≤ m) (p0 : (List S266)) (p1 : (List S266)) : callA Try.prog cfg m 254 [LL a266 p0, LL a266 p1] = (T254 p0 p1).map B := by
  obtain ⟨q, rfl⟩ : ∃ q, m = q + 1 := ⟨m - 1, by omega⟩
  exact (callA_body (fn := Try.f254) (c := body_ Try.f254) q _ (by kernel_rfl) (by kernel_rfl) (by kernel_rfl)).trans (B254 _ p0 p1)

end Go.Abs.TP
