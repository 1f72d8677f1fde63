import Derived.Test.YtehmcdmjhdlcgaaGreatDoorKTKSp2
set_option maxRecDepth 100000
set_option linter.unusedVariables false
namespace Go.Abs.TKS
open Go.RowKit Go.Proofs Go.Abs
noncomputable def T14 (p0_c0 : (List Int)) (p0_c1 : Int) (p1 : Int) (p2 : Int) : Option (Int × (List Int) × Int) := (bif (ltI p2 p1) then (some (p1, p0_c0, p0_c1)) else ((T57 p0_c0 p0_c1 (addI .i64 (subI .i64 p2 p1) 1)).bind fun x1 => (some ((addI .i64 p1 x1.1), x1.2.1, x1.2.2))))
theorem B14 (C : Callee) (h57 : ∀ (p0_c0 : (List Int)) (p0_c1 : Int) (p1 : Int), C 57 [.fb [LL I p0_c0, I p0_c1], I p1] = (T57 p0_c0 p0_c1 p1).map (fun (r : (Int × (List Int) × Int)) => AV.inp (I r.1) (.fb [LL I r.2.1, I r.2.2]))) (p0_c0 : (List Int)) (p0_c1 : Int) (p1 : Int) (p2 : Int) : runs Tryz.prog C (cfg.fn 14) (finFnI Tryz.prog Tryz.f14) [] (execA Tryz.prog C (cfg.fn 14) (nr Tryz.f14 []) (frame0 [.fb [LL I p0_c0, I p0_c1], I p1, I p2] 19 true)) = (T14 p0_c0 p0_c1 p1 p2).map (fun (r : (Int × (List Int) × Int)) => AV.inp (I r.1) (.fb [LL I r.2.1, I r.2.2])) := by
  unfold T14
  refine gS 1 ?_
  refine gR 0 (rg Tryz.f14 0) ?_
  refine se (mkE [(0, .ba 0 0), (1, I p1), (2, I p2)] [(0, .box [LL I p0_c0, I p0_c1] false)] ⟨19, true⟩) ?_
  refine pN ?_
  refine pS ?_
  refine gS 3 ?_
  refine gS 0 ?_
  refine gR 1 (rg Tryz.f14 1) ?_
  refine se (mkE [(0, .ba 0 0), (1, I p1), (2, I p2), (9, B (ltI p2 p1))] [(0, .box [LL I p0_c0, I p0_c1] false)] ⟨19, true⟩) ?_
  refine pN ?_
  refine pS ?_
  refine gC 9 (ltI p2 p1) ?_ ?_
  · refine gS 0 ?_
    refine gR 2 (rg Tryz.f14 2) ?_
    refine se (mkE [(0, .ba 0 0), (6, I p1)] [(0, .box [LL I p0_c0, I p0_c1] false)] ⟨19, true⟩) ?_
    refine pN ?_
    refine pS ?_
    refine gE ?_
    exact pL
  · refine gK ?_
    refine pN ?_
    refine pS ?_
    refine gS 0 ?_
    refine gR 3 (rg Tryz.f14 3) ?_
    refine sg 6 (mkE [(16, I (addI .i64 (subI .i64 p2 p1) 1)), (15, I (subI .i64 p2 p1)), (14, I p1), (13, I p2), (12, .ba 0 0), (11, I p1), (0, .ba 0 0), (1, I p1), (2, I p2), (9, B (ltI p2 p1))] [(0, .box [LL I p0_c0, I p0_c1] false)] ⟨19, true⟩) ?_
    refine mo (some 17) (ipB 57 0 [LL I p0_c0, I p0_c1] [LL I p0_c0, I p0_c1] [I (addI .i64 (subI .i64 p2 p1) 1)] [I (addI .i64 (subI .i64 p2 p1) 1)] [] (fun x : (Int × (List Int) × Int) => I x.1) (fun x : (Int × (List Int) × Int) => [LL I x.2.1, I x.2.2]) (h57 p0_c0 p0_c1 (addI .i64 (subI .i64 p2 p1) 1))) (fun x1 => ?_)
    refine se (mkE [(0, .ba 0 0), (6, I (addI .i64 p1 x1.1))] [(0, .box [LL I x1.2.1, I x1.2.2] false)] ⟨19, true⟩) ?_
    refine pN ?_
    refine pS ?_
    refine gE ?_
    exact pL
theorem F14 (m : Nat) (hm : 3 ≤ m) (p0_c0 : (List Int)) (p0_c1 : Int) (p1 : Int) (p2 : Int) : callA Tryz.prog cfg m 14 [.fb [LL I p0_c0, I p0_c1], I p1, I p2] = (T14 p0_c0 p0_c1 p1 p2).map (fun (r : (Int × (List Int) × Int)) => AV.inp (I r.1) (.fb [LL I r.2.1, I r.2.2])) := by
  obtain ⟨q, rfl⟩ : ∃ q, m = q + 1 := ⟨m - 1, by omega⟩
  exact (callA_bodyI (fn := Tryz.f14) (c := body_ Tryz.f14) q _ (by kernel_rfl) (by kernel_rfl) (by kernel_rfl)).trans (B14 _ (fun p0_c0 p0_c1 p1 => F57 q (by omega) p0_c0 p0_c1 p1) p0_c0 p0_c1 p1 p2)

noncomputable def T69 (p0 : Int) : Option Bool := ((T70 p0 1 20000).bind fun x1 => (some (!x1)))
theorem B69 (C : Callee) (h70 : ∀ (p0 : Int) (p1 : Int) (p2 : Int), C 70 [I p0, I p1, I p2] = (T70 p0 p1 p2).map B) (p0 : Int) : runs Tryz.prog C (cfg.fn 69) (finFn Tryz.prog (cfg.fn 69).byval Tryz.f69) [] (execA Tryz.prog C (cfg.fn 69) (nr Tryz.f69 []) (frame0 [I p0] 6 false)) = (T69 p0).map B := by
  unfold T69
  refine gS 1 ?_
  refine gR 0 (rg Tryz.f69 0) ?_
  refine se (mkE [(0, I p0)] [] 6) ?_
  refine pN ?_
  refine pS ?_
  refine gS 0 ?_
  refine gR 1 (rg Tryz.f69 1) ?_
  refine sg 1 (mkE [(3, I p0), (0, I p0)] [] 6) ?_
  refine co 4 [] (h70 p0 1 20000) (fun x1 => ?_)
  refine se (mkE [(2, B (!x1))] [] 6) ?_
  refine pN ?_
  refine pS ?_
  refine gE ?_
  exact pL
theorem F69 (m : Nat) (hm : 2 ≤ m) (p0 : Int) : callA Tryz.prog cfg m 69 [I p0] = (T69 p0).map B := by
  obtain ⟨q, rfl⟩ : ∃ q, m = q + 1 := ⟨m - 1, by omega⟩
  exact (callA_body (fn := Tryz.f69) (c := body_ Tryz.f69) q _ (by kernel_rfl) (by kernel_rfl) (by kernel_rfl)).trans (B69 _ (fun p0 p1 p2 => F70 q (by omega) p0 p1 p2) p0)

noncomputable def L72_2 (p0 : (List Int)) (z0 : Int) : Option (Int ⊕ ((Int × Bool) ⊕ Unit)) := (bif (ltI z0 (lenL p0)) then ((listAt p0 z0).bind fun x1 => ((T69 x1).bind fun x2 => (bif (!x2) then (some (.inr (.inr ()))) else (some (.inl (addI .i64 z0 1)))))) else (some (.inr (.inl (z0, (ltI z0 (lenL p0)))))))
theorem L72_2_ok (C : Callee) (h69 : ∀ (p0 : Int), C 69 [I p0] = (T69 p0).map B) (p0 : (List Int)) (z0 : Int) : runs Tryz.prog C (cfg.fn 72) (finLoop ((cfg.fn 72).keep 2) ((cfg.fn 72).al 2)) [] (execA Tryz.prog C (cfg.fn 72) (nr Tryz.f72 [false, false, true, false, true]) ((fun z0 : Int => (mkE [(5, LL I p0), (6, I (lenL p0)), (7, I z0)] [] 15)) z0)) = (L72_2 p0 z0).map (Sum.elim (fun z => .inl ((fun z0 : Int => (mkE [(5, LL I p0), (6, I (lenL p0)), (7, I z0)] [] 15)) z)) (fun x => .inr ((Sum.elim (fun (x : (Int × Bool)) => (.exit 0, (mkE [(5, LL I p0), (6, I (lenL p0)), (7, I x.1), (8, B x.2)] [] 15))) (fun (x : Unit) => (.ret, (mkE [(2, I 1)] [] 15)))) x))) := by
  unfold L72_2
  refine gS 0 ?_
  refine gR 2 (rg Tryz.f72 2) ?_
  refine se (mkE [(5, LL I p0), (6, I (lenL p0)), (7, I z0), (8, B (ltI z0 (lenL p0)))] [] 15) ?_
  refine pN ?_
  refine pS ?_
  refine gS 3 ?_
  refine gC 8 (ltI z0 (lenL p0)) ?_ ?_
  · refine gK ?_
    refine pN ?_
    refine pS ?_
    refine gS 6 ?_
    refine gB 1 ?_
    refine gS 4 ?_
    refine gR 3 (rg Tryz.f72 3) ?_
    refine vo 9 (addrE 22 3 1 I .i64 p0 z0) (fun x1 => ?_)
    refine se (mkE [(4, I x1), (5, LL I p0), (6, I (lenL p0)), (7, I z0)] [] 15) ?_
    refine pN ?_
    refine pS ?_
    refine gS 0 ?_
    refine gR 4 (rg Tryz.f72 4) ?_
    refine sg 1 (mkE [(11, I x1), (4, I x1), (5, LL I p0), (6, I (lenL p0)), (7, I z0)] [] 15) ?_
    refine co 12 [] (h69 x1) (fun x2 => ?_)
    refine se (mkE [(5, LL I p0), (6, I (lenL p0)), (7, I z0), (13, B (!x2))] [] 15) ?_
    refine pN ?_
    refine pS ?_
    refine gC 13 (!x2) ?_ ?_
    · refine gS 0 ?_
      refine gR 5 (rg Tryz.f72 5) ?_
      refine se (mkE [(2, I 1)] [] 15) ?_
      refine pN ?_
      refine pS ?_
      refine gE ?_
      exact pL
    · refine gK ?_
      refine pB ?_
      refine pN ?_
      refine pS ?_
      refine gR 6 (rg Tryz.f72 6) ?_
      refine se (mkE [(5, LL I p0), (6, I (lenL p0)), (7, I (addI .i64 z0 1))] [] 15) ?_
      exact pL
  · refine gX 0 ?_
    exact pL
noncomputable def T72 (p0 : (List Int)) : Option Int := ((iter (L72_2 p0) 0).bind fun y3 => (Sum.elim (fun y3a => (some 0)) (fun y3b => (some 1)) y3))
theorem B72 (C : Callee) (h69 : ∀ (p0 : Int), C 69 [I p0] = (T69 p0).map B) (p0 : (List Int)) : runs Tryz.prog C (cfg.fn 72) (finFn Tryz.prog (cfg.fn 72).byval Tryz.f72) [] (execA Tryz.prog C (cfg.fn 72) (nr Tryz.f72 []) (frame0 [LL I p0] 15 false)) = (T72 p0).map I := by
  unfold T72
  refine gS 1 ?_
  refine gR 0 (rg Tryz.f72 0) ?_
  refine se (mkE [(0, LL I p0)] [] 15) ?_
  refine pN ?_
  refine pS ?_
  refine gS 7 ?_
  refine gS 2 ?_
  refine gR 1 (rg Tryz.f72 1) ?_
  refine sg 1 (mkE [(5, LL I p0), (0, LL I p0)] [] 15) ?_
  refine eo 6 (I (lenL p0)) (lenE 22 I p0) ?_
  refine se (mkE [(5, LL I p0), (6, I (lenL p0)), (7, I 0)] [] 15) ?_
  refine pN ?_
  refine pS ?_
  refine gB 0 ?_
  refine lo [(5, none), (6, none), (7, none)] [] (L72_2 p0) (fun z0 : Int => (mkE [(5, LL I p0), (6, I (lenL p0)), (7, I z0)] [] 15)) (Sum.elim (fun (x : (Int × Bool)) => (.exit 0, (mkE [(5, LL I p0), (6, I (lenL p0)), (7, I x.1), (8, B x.2)] [] 15))) (fun (x : Unit) => (.ret, (mkE [(2, I 1)] [] 15)))) 0 (fun z => L72_2_ok C h69 p0 z) ?_
  intro y3
  refine ss y3 (Z := (Sum.elim (fun (x : (Int × Bool)) => (.exit 0, (mkE [(5, LL I p0), (6, I (lenL p0)), (7, I x.1), (8, B x.2)] [] 15))) (fun (x : Unit) => (.ret, (mkE [(2, I 1)] [] 15))))) (fun y3a => ?_) (fun y3b => ?_)
  · refine pH ?_
    refine pN ?_
    refine pS ?_
    refine gS 0 ?_
    refine gR 7 (rg Tryz.f72 7) ?_
    refine se (mkE [(2, I 0)] [] 15) ?_
    refine pN ?_
    refine pS ?_
    refine gE ?_
    exact pL
  · exact pL
theorem F72 (m : Nat) (hm : 3 ≤ m) (p0 : (List Int)) : callA Tryz.prog cfg m 72 [LL I p0] = (T72 p0).map I := by
  obtain ⟨q, rfl⟩ : ∃ q, m = q + 1 := ⟨m - 1, by omega⟩
  exact (callA_body (fn := Tryz.f72) (c := body_ Tryz.f72) q _ (by kernel_rfl) (by kernel_rfl) (by kernel_rfl)).trans (B72 _ (fun p0 => F69 q (by omega) p0) p0)

noncomputable def T71 (p0 : S28) (p1 : Int) (p2 : Int) : Option Bool := (bif (leI 0 p0.f0) then (bif (leI 0 p0.f1) then (bif (leI (addI .i64 p0.f0 p0.f2) p1) then (some (leI (addI .i64 p0.f1 p0.f3) p2)) else (some false)) else (some false)) else (some false))
theorem B71 (C : Callee) (p0 : S28) (p1 : Int) (p2 : Int) : runs Tryz.prog C (cfg.fn 71) (finFn Tryz.prog (cfg.fn 71).byval Tryz.f71) [] (execA Tryz.prog C (cfg.fn 71) (nr Tryz.f71 []) (frame0 [a28 p0, I p1, I p2] 33 false)) = (T71 p0 p1 p2).map B := by
  unfold T71
  let s_0 : List (Nat × AV) := [(15, B (leI 0 p0.f1)), (14, B (leI 0 p0.f1)), (13, B (leI 0 p0.f1)), (12, I p0.f1), (11, .ba 24 1), (10, B true), (10, B (leI 0 p0.f0)), (9, B (leI 0 p0.f0)), (8, I p0.f0), (7, .ba 24 0), (1, I p1), (2, I p2), (3, .ba 24 0)]
  let o_0 : List (Nat × AObj) := [(24, .box [I p0.f0, I p0.f1, I p0.f2, I p0.f3] false)]
  refine gS 1 ?_
  refine gR 0 (rg Tryz.f71 0) ?_
  refine se (mkE [(1, I p1), (2, I p2), (3, .ba 24 0)] o_0 33) ?_
  refine pN ?_
  refine pS ?_
  refine gS 0 ?_
  refine gR 1 (rg Tryz.f71 1) ?_
  refine sg 4 (mkE [(10, B (leI 0 p0.f0)), (9, B (leI 0 p0.f0)), (8, I p0.f0), (7, .ba 24 0), (1, I p1), (2, I p2), (3, .ba 24 0)] o_0 33) ?_
  refine sb 10 (leI 0 p0.f0) ?_ ?_
  · refine sg 9 (mkE s_0 o_0 33) ?_
    refine sb 15 (leI 0 p0.f1) ?_ ?_
    · refine sg 18 (mkE ((24, B (leI (addI .i64 p0.f0 p0.f2) p1)) :: ((23, B (leI (addI .i64 p0.f0 p0.f2) p1)) :: ((22, B (leI (addI .i64 p0.f0 p0.f2) p1)) :: ((21, I p1) :: ((20, I (addI .i64 p0.f0 p0.f2)) :: ((19, I p0.f2) :: ((18, .ba 24 2) :: ((17, I p0.f0) :: ((16, .ba 24 0) :: ((15, B true) :: s_0)))))))))) o_0 33) ?_
      refine sb 24 (leI (addI .i64 p0.f0 p0.f2) p1) ?_ ?_
      · refine se (mkE [(6, B (leI (addI .i64 p0.f1 p0.f3) p2))] [] 33) ?_
        refine pN ?_
        refine pS ?_
        refine gE ?_
        exact pL
      · refine se (mkE [(6, B false)] [] 33) ?_
        refine pN ?_
        refine pS ?_
        refine gE ?_
        exact pL
    · refine se (mkE [(6, B false)] [] 33) ?_
      refine pN ?_
      refine pS ?_
      refine gE ?_
      exact pL
  · refine se (mkE [(6, B false)] [] 33) ?_
    refine pN ?_
    refine pS ?_
    refine gE ?_
    exact pL
theorem F71 (m : Nat) (hm : 1 ≤ m) (p0 : S28) (p1 : Int) (p2 : Int) : callA Tryz.prog cfg m 71 [a28 p0, I p1, I p2] = (T71 p0 p1 p2).map B := by
  obtain ⟨q, rfl⟩ : ∃ q, m = q + 1 := ⟨m - 1, by omega⟩
  exact (callA_body (fn := Tryz.f71) (c := body_ Tryz.f71) q _ (by kernel_rfl) (by kernel_rfl) (by kernel_rfl)).trans (B71 _ p0 p1 p2)

noncomputable def T73 (p0 : S28) (p1 : Int) (p2 : Int) (p3 : Int) (p4 : Int) : Option S28 := ((quoO .i64 (mulI .i64 p0.f0 p3) p1).bind fun x1 => ((quoO .i64 (mulI .i64 p0.f1 p4) p2).bind fun x2 => ((quoO .i64 (mulI .i64 (addI .i64 p0.f0 p0.f2) p3) p1).bind fun x3 => ((quoO .i64 (mulI .i64 (addI .i64 p0.f1 p0.f3) p4) p2).bind fun x4 => (bif (eqI (subI .i64 x3 x1) 0) then (some (S28.mk 0 0 0 0)) else (bif (eqI (subI .i64 x4 x2) 0) then (some (S28.mk 0 0 0 0)) else (some (S28.mk x1 x2 (subI .i64 x3 x1) (subI .i64 x4 x2)))))))))
theorem B73 (C : Callee) (p0 : S28) (p1 : Int) (p2 : Int) (p3 : Int) (p4 : Int) : runs Tryz.prog C (cfg.fn 73) (finFn Tryz.prog (cfg.fn 73).byval Tryz.f73) [] (execA Tryz.prog C (cfg.fn 73) (nr Tryz.f73 []) (frame0 [a28 p0, I p1, I p2, I p3, I p4] 61 false)) = (T73 p0 p1 p2 p3 p4).map a28 := by
  unfold T73
  let d_0 : List (Option Nat × REff) := [(some 28, qe (.ba 40 0)), (some 29, qe (I p0.f0)), (some 30, qe (.ba 40 2)), (some 31, qe (I p0.f2)), (some 32, qe (I (addI .i64 p0.f0 p0.f2))), (some 33, qe (I p3)), (some 34, qe (I (mulI .i64 (addI .i64 p0.f0 p0.f2) p3))), (some 35, qe (I p1))]
  let d_1 : List (Option Nat × REff) := [(some 14, qe (.ba 40 0)), (some 15, qe (I p0.f0)), (some 16, qe (I p3)), (some 17, qe (I (mulI .i64 p0.f0 p3))), (some 18, qe (I p1))]
  let d_2 : List (Option Nat × REff) := [(some 39, qe (.ba 40 1)), (some 40, qe (I p0.f1)), (some 41, qe (.ba 40 3)), (some 42, qe (I p0.f3)), (some 43, qe (I (addI .i64 p0.f1 p0.f3))), (some 44, qe (I p4)), (some 45, qe (I (mulI .i64 (addI .i64 p0.f1 p0.f3) p4))), (some 46, qe (I p2))]
  let d_3 : List (Option Nat × REff) := [(some 20, qe (.ba 40 1)), (some 21, qe (I p0.f1)), (some 22, qe (I p4)), (some 23, qe (I (mulI .i64 p0.f1 p4))), (some 24, qe (I p2))]
  let s_0 : List (Nat × AV) := [(1, I p1), (2, I p2), (3, I p3), (4, I p4), (5, .ba 40 0), (10, .ba 80 0)]
  let s_1 : List (Nat × AV) := [(35, I p1), (34, I (mulI .i64 (addI .i64 p0.f0 p0.f2) p3)), (33, I p3), (32, I (addI .i64 p0.f0 p0.f2)), (31, I p0.f2), (30, .ba 40 2), (29, I p0.f0), (28, .ba 40 0)]
  let s_2 : List (Nat × AV) := [(46, I p2), (45, I (mulI .i64 (addI .i64 p0.f1 p0.f3) p4)), (44, I p4), (43, I (addI .i64 p0.f1 p0.f3)), (42, I p0.f3), (41, .ba 40 3), (40, I p0.f1), (39, .ba 40 1)]
  let o_0 : List (Nat × AObj) := [(40, .box [I p0.f0, I p0.f1, I p0.f2, I p0.f3] false), (80, .box [I 0, I 0, I 0, I 0] false)]
  let o_1 : List (Nat × AObj) := [(80, .box [I 0, I 0, I 0, I 0] false)]
  refine gS 1 ?_
  refine gR 0 (rg Tryz.f73 0) ?_
  refine se (mkE s_0 o_0 61) ?_
  refine pN ?_
  refine pS ?_
  refine gS 2 ?_
  refine gD 1 14 (rg Tryz.f73 1) [0, 1, 2, 3, 4, 5, 6, 7, 8, 9, 10, 11, 12, 13] ?_
  refine dg 5 d_1 ?_
  refine dv 19 (mkE ((18, I p1) :: ((17, I (mulI .i64 p0.f0 p3)) :: ((16, I p3) :: ((15, I p0.f0) :: ((14, .ba 40 0) :: s_0))))) o_0 61) (quoE 3 .i64 (.tmp 17) (.tmp 18) (mulI .i64 p0.f0 p3) p1) (fun x1 => ?_)
  refine dg 11 (d_1.append ((some 19, qe (I x1)) :: d_3)) ?_
  refine dv 25 (mkE ((24, I p2) :: ((23, I (mulI .i64 p0.f1 p4)) :: ((22, I p4) :: ((21, I p0.f1) :: ((20, .ba 40 1) :: s_0))))) o_0 61) (quoE 3 .i64 (.tmp 23) (.tmp 24) (mulI .i64 p0.f1 p4) p2) (fun x2 => ?_)
  refine dg 14 (d_1.append ((some 19, qe (I x1)) :: (d_3.append ((some 25, qe (I x2)) :: ((some 11, qe (I x1)) :: [(some 12, qe (I x2))]))))) ?_
  refine de (mkE ((12, I x2) :: ((11, I x1) :: ((25, I x2) :: ((24, I p2) :: ((23, I (mulI .i64 p0.f1 p4)) :: ((22, I p4) :: ((21, I p0.f1) :: ((20, .ba 40 1) :: ((19, I x1) :: ((18, I p1) :: ((17, I (mulI .i64 p0.f0 p3)) :: ((16, I p3) :: ((15, I p0.f0) :: ((14, .ba 40 0) :: s_0)))))))))))))) o_0 61) ?_
  refine se (mkE (s_0.append ((11, I x1) :: [(12, I x2)])) o_0 61) ?_
  refine pN ?_
  refine pS ?_
  refine gS 3 ?_
  refine gD 2 26 (rg Tryz.f73 2) [0, 1, 2, 3, 4, 5, 6, 7, 8, 9, 10, 11, 12, 13, 14, 15, 16, 17, 18, 19, 20, 21, 22, 23, 24, 25, 26] ?_
  refine dg 10 ((some 26, qe (I x1)) :: ((some 27, qe (I x2)) :: d_0)) ?_
  refine dv 36 (mkE (s_1.append (s_0.append ((11, I x1) :: [(12, I x2)]))) o_0 61) (quoE 3 .i64 (.tmp 34) (.tmp 35) (mulI .i64 (addI .i64 p0.f0 p0.f2) p3) p1) (fun x3 => ?_)
  refine dg 21 ((some 26, qe (I x1)) :: ((some 27, qe (I x2)) :: (d_0.append ((some 36, qe (I x3)) :: ((some 37, qe (I x1)) :: ((some 38, qe (I (subI .i64 x3 x1))) :: d_2)))))) ?_
  refine dv 47 (mkE (s_2.append (s_0.append ((11, I x1) :: [(12, I x2)]))) o_0 61) (quoE 3 .i64 (.tmp 45) (.tmp 46) (mulI .i64 (addI .i64 p0.f1 p0.f3) p4) p2) (fun x4 => ?_)
  refine dg 26 ((some 26, qe (I x1)) :: ((some 27, qe (I x2)) :: (d_0.append ((some 36, qe (I x3)) :: ((some 37, qe (I x1)) :: ((some 38, qe (I (subI .i64 x3 x1))) :: (d_2.append ((some 47, qe (I x4)) :: ((some 48, qe (I x2)) :: ((some 49, qe (I (subI .i64 x4 x2))) :: ((some 50, qe (.agg [I x1, I x2, I (subI .i64 x3 x1), I (subI .i64 x4 x2)])) :: [(some 13, { e := { val := .ba 104 0, news := [(104, .box [I 0, I 0, I 0, I 0] false)] } })]))))))))))) ?_
  refine de (mkE ((13, .ba 104 0) :: ((50, .agg [I x1, I x2, I (subI .i64 x3 x1), I (subI .i64 x4 x2)]) :: ((49, I (subI .i64 x4 x2)) :: ((48, I x2) :: ((47, I x4) :: (s_2.append ((38, I (subI .i64 x3 x1)) :: ((37, I x1) :: ((36, I x3) :: (s_1.append ((27, I x2) :: ((26, I x1) :: (s_0.append ((11, I x1) :: [(12, I x2)])))))))))))))) ((104, .box [I 0, I 0, I 0, I 0] false) :: o_0) 61) ?_
  refine se (mkE [(10, .ba 80 0), (13, .ba 104 0)] (o_1.append [(104, .box [I x1, I x2, I (subI .i64 x3 x1), I (subI .i64 x4 x2)] false)]) 61) ?_
  refine pN ?_
  refine pS ?_
  refine gS 5 ?_
  refine gS 0 ?_
  refine gR 3 (rg Tryz.f73 3) ?_
  refine sg 4 (mkE [(54, B (eqI (subI .i64 x3 x1) 0)), (53, B (eqI (subI .i64 x3 x1) 0)), (52, I (subI .i64 x3 x1)), (51, .ba 104 2), (10, .ba 80 0), (13, .ba 104 0)] (o_1.append [(104, .box [I x1, I x2, I (subI .i64 x3 x1), I (subI .i64 x4 x2)] false)]) 61) ?_
  refine sb 54 (eqI (subI .i64 x3 x1) 0) ?_ ?_
  · refine se (mkE [(10, .ba 80 0), (13, .ba 104 0), (58, B true)] (o_1.append [(104, .box [I x1, I x2, I (subI .i64 x3 x1), I (subI .i64 x4 x2)] false)]) 61) ?_
    refine pN ?_
    refine pS ?_
    refine gT (.tmp 58) ?_
    refine gS 0 ?_
    refine gR 4 (rg Tryz.f73 4) ?_
    refine se (mkE [(10, .ba 80 0)] o_1 61) ?_
    refine pN ?_
    refine pS ?_
    refine gE ?_
    exact pL
  · refine se (mkE [(10, .ba 80 0), (13, .ba 104 0), (58, B (eqI (subI .i64 x4 x2) 0))] (o_1.append [(104, .box [I x1, I x2, I (subI .i64 x3 x1), I (subI .i64 x4 x2)] false)]) 61) ?_
    refine pN ?_
    refine pS ?_
    refine gC 58 (eqI (subI .i64 x4 x2) 0) ?_ ?_
    · refine gS 0 ?_
      refine gR 4 (rg Tryz.f73 4) ?_
      refine se (mkE [(10, .ba 80 0)] o_1 61) ?_
      refine pN ?_
      refine pS ?_
      refine gE ?_
      exact pL
    · refine gK ?_
      refine pN ?_
      refine pS ?_
      refine gS 0 ?_
      refine gR 5 (rg Tryz.f73 5) ?_
      refine se (mkE [(10, .ba 80 0)] [(80, .box [I x1, I x2, I (subI .i64 x3 x1), I (subI .i64 x4 x2)] false)] 61) ?_
      refine pN ?_
      refine pS ?_
      refine gE ?_
      exact pL
theorem F73 (m : Nat) (hm : 1 ≤ m) (p0 : S28) (p1 : Int) (p2 : Int) (p3 : Int) (p4 : Int) : callA Tryz.prog cfg m 73 [a28 p0, I p1, I p2, I p3, I p4] = (T73 p0 p1 p2 p3 p4).map a28 := by
  obtain ⟨q, rfl⟩ : ∃ q, m = q + 1 := ⟨m - 1, by omega⟩
  exact (callA_body (fn := Tryz.f73) (c := body_ Tryz.f73) q _ (by kernel_rfl) (by kernel_rfl) (by kernel_rfl)).trans (B73 _ p0 p1 p2 p3 p4)

noncomputable def T28 (p0 : S28) (p1 : Int) (p2 : Int) (p3 : Int) (p4 : Int) : Option (S28 × Int) := ((T63 p0).bind fun x1 => (bif (neI x1 0) then (some ((S28.mk 0 0 0 0), x1)) else ((T72 ([p1, p2, p3, p4] : List Int)).bind fun x2 => (bif (neI x2 0) then (some ((S28.mk 0 0 0 0), x2)) else ((T71 p0 p1 p2).bind fun x3 => (bif (!x3) then (some ((S28.mk 0 0 0 0), 3)) else ((T73 p0 p1 p2 p3 p4).bind fun x4 => (some (x4, 0)))))))))
theorem B28 (C : Callee) (h63 : ∀ (p0 : S28), C 63 [a28 p0] = (T63 p0).map I) (h71 : ∀ (p0 : S28) (p1 : Int) (p2 : Int), C 71 [a28 p0, I p1, I p2] = (T71 p0 p1 p2).map B) (h72 : ∀ (p0 : (List Int)), C 72 [LL I p0] = (T72 p0).map I) (h73 : ∀ (p0 : S28) (p1 : Int) (p2 : Int) (p3 : Int) (p4 : Int), C 73 [a28 p0, I p1, I p2, I p3, I p4] = (T73 p0 p1 p2 p3 p4).map a28) (p0 : S28) (p1 : Int) (p2 : Int) (p3 : Int) (p4 : Int) : runs Tryz.prog C (cfg.fn 28) (finFn Tryz.prog (cfg.fn 28).byval Tryz.f28) [] (execA Tryz.prog C (cfg.fn 28) (nr Tryz.f28 []) (frame0 [a28 p0, I p1, I p2, I p3, I p4] 42 false)) = (T28 p0 p1 p2 p3 p4).map (fun r => AV.tup [a28 r.1, I r.2]) := by
  unfold T28
  let s_0 : List (Nat × AV) := [(1, I p1), (2, I p2), (3, I p3), (4, I p4), (5, .ba 40 0), (10, .ba 80 0)]
  let o_0 : List (Nat × AObj) := [(40, .box [I p0.f0, I p0.f1, I p0.f2, I p0.f3] false), (80, .box [I 0, I 0, I 0, I 0] false)]
  refine gS 1 ?_
  refine gR 0 (rg Tryz.f28 0) ?_
  refine se (mkE s_0 o_0 42) ?_
  refine pN ?_
  refine pS ?_
  refine gS 4 ?_
  refine gS 2 ?_
  refine gR 1 (rg Tryz.f28 1) ?_
  refine sg 1 (mkE ((14, a28 p0) :: s_0) o_0 42) ?_
  refine co 15 [] (h63 p0) (fun x1 => ?_)
  refine se (mkE (s_0.append [(12, I x1)]) o_0 42) ?_
  refine pN ?_
  refine pS ?_
  refine gS 0 ?_
  refine gR 2 (rg Tryz.f28 2) ?_
  refine se (mkE (s_0.append ((12, I x1) :: [(17, B (neI x1 0))])) o_0 42) ?_
  refine pN ?_
  refine pS ?_
  refine gC 17 (neI x1 0) ?_ ?_
  · refine gS 0 ?_
    refine gR 3 (rg Tryz.f28 3) ?_
    refine se (mkE [(10, .ba 80 0), (11, I x1)] [(80, .box [I 0, I 0, I 0, I 0] false)] 42) ?_
    refine pN ?_
    refine pS ?_
    refine gE ?_
    exact pL
  · refine gK ?_
    refine pN ?_
    refine pS ?_
    refine gS 7 ?_
    refine gS 5 ?_
    refine gR 4 (rg Tryz.f28 4) ?_
    refine sg 5 (mkE ((24, .own 192 0) :: ((23, I p4) :: ((22, I p3) :: ((21, I p2) :: ((20, I p1) :: (s_0.append ((12, I x1) :: [(17, B (neI x1 0))]))))))) ((192, RR 3 1 I ([p1, p2, p3, p4] : List Int) 0 false) :: o_0) 42) ?_
    refine co 25 [192] (h72 ([p1, p2, p3, p4] : List Int)) (fun x2 => ?_)
    refine se (mkE (s_0.append [(13, I x2)]) o_0 42) ?_
    refine pN ?_
    refine pS ?_
    refine gS 0 ?_
    refine gR 5 (rg Tryz.f28 5) ?_
    refine se (mkE (s_0.append ((13, I x2) :: [(27, B (neI x2 0))])) o_0 42) ?_
    refine pN ?_
    refine pS ?_
    refine gC 27 (neI x2 0) ?_ ?_
    · refine gS 0 ?_
      refine gR 6 (rg Tryz.f28 6) ?_
      refine se (mkE [(10, .ba 80 0), (11, I x2)] [(80, .box [I 0, I 0, I 0, I 0] false)] 42) ?_
      refine pN ?_
      refine pS ?_
      refine gE ?_
      exact pL
    · refine gK ?_
      refine pN ?_
      refine pS ?_
      refine gS 9 ?_
      refine gS 0 ?_
      refine gR 7 (rg Tryz.f28 7) ?_
      refine sg 3 (mkE ((32, I p2) :: ((31, I p1) :: ((30, a28 p0) :: (s_0.append ((13, I x2) :: [(27, B (neI x2 0))]))))) o_0 42) ?_
      refine co 33 [] (h71 p0 p1 p2) (fun x3 => ?_)
      refine se (mkE (s_0.append [(34, B (!x3))]) o_0 42) ?_
      refine pN ?_
      refine pS ?_
      refine gC 34 (!x3) ?_ ?_
      · refine gS 0 ?_
        refine gR 8 (rg Tryz.f28 8) ?_
        refine se (mkE [(10, .ba 80 0), (11, I 3)] [(80, .box [I 0, I 0, I 0, I 0] false)] 42) ?_
        refine pN ?_
        refine pS ?_
        refine gE ?_
        exact pL
      · refine gK ?_
        refine pN ?_
        refine pS ?_
        refine gS 0 ?_
        refine gR 9 (rg Tryz.f28 9) ?_
        refine sg 5 (mkE ((40, I p4) :: ((39, I p3) :: ((38, I p2) :: ((37, I p1) :: ((36, a28 p0) :: (s_0.append [(34, B (!x3))])))))) o_0 42) ?_
        refine co 41 [] (h73 p0 p1 p2 p3 p4) (fun x4 => ?_)
        refine se (mkE [(10, .ba 80 0), (11, I 0)] [(80, .box [I x4.f0, I x4.f1, I x4.f2, I x4.f3] false)] 42) ?_
        refine pN ?_
        refine pS ?_
        refine gE ?_
        exact pL
theorem F28 (m : Nat) (hm : 4 ≤ m) (p0 : S28) (p1 : Int) (p2 : Int) (p3 : Int) (p4 : Int) : callA Tryz.prog cfg m 28 [a28 p0, I p1, I p2, I p3, I p4] = (T28 p0 p1 p2 p3 p4).map (fun r => AV.tup [a28 r.1, I r.2]) := by
  obtain ⟨q, rfl⟩ : ∃ q, m = q + 1 := ⟨m - 1, by omega⟩
  exact (callA_body (fn := Tryz.f28) (c := body_ Tryz.f28) q _ (by kernel_rfl) (by kernel_rfl) (by kernel_rfl)).trans (B28 _ (fun p0 => F63 q (by omega) p0) (fun p0 p1 p2 => F71 q (by omega) p0 p1 p2) (fun p0 => F72 q (by omega) p0) (fun p0 p1 p2 p3 p4 => F73 q (by omega) p0 p1 p2 p3 p4) p0 p1 p2 p3 p4)

noncomputable def T59 (p0 : (List S28)) : Option ((List S28) × Int) := (bif (ltI 2000 (lenL p0)) then (some ([], 2)) else (some (p0, 0)))
theorem B59 (C : Callee) (p0 : (List S28)) : runs Tryz.prog C (cfg.fn 59) (finFn Tryz.prog (cfg.fn 59).byval Tryz.f59) [] (execA Tryz.prog C (cfg.fn 59) (nr Tryz.f59 []) (frame0 [LL a28 p0] 8 false)) = (T59 p0).map (fun r => AV.tup [(LL a28) r.1, I r.2]) := by
  unfold T59
  refine gS 1 ?_
  refine gR 0 (rg Tryz.f59 0) ?_
  refine se (mkE [(0, LL a28 p0)] [] 8) ?_
  refine pN ?_
  refine pS ?_
  refine gS 3 ?_
  refine gS 0 ?_
  refine gR 1 (rg Tryz.f59 1) ?_
  refine sg 1 (mkE [(4, LL a28 p0), (0, LL a28 p0)] [] 8) ?_
  refine eo 5 (I (lenL p0)) (lenE 26 a28 p0) ?_
  refine se (mkE [(0, LL a28 p0), (6, B (ltI 2000 (lenL p0)))] [] 8) ?_
  refine pN ?_
  refine pS ?_
  refine gC 6 (ltI 2000 (lenL p0)) ?_ ?_
  · refine gS 0 ?_
    refine gR 2 (rg Tryz.f59 2) ?_
    refine se (mkE [(2, .nils), (3, I 2)] [] 8) ?_
    refine pN ?_
    refine pS ?_
    refine gE ?_
    exact pL
  · refine gK ?_
    refine pN ?_
    refine pS ?_
    refine gS 0 ?_
    refine gR 3 (rg Tryz.f59 3) ?_
    refine se (mkE [(2, LL a28 p0), (3, I 0)] [] 8) ?_
    refine pN ?_
    refine pS ?_
    refine gE ?_
    exact pL
theorem F59 (m : Nat) (hm : 1 ≤ m) (p0 : (List S28)) : callA Tryz.prog cfg m 59 [LL a28 p0] = (T59 p0).map (fun r => AV.tup [(LL a28) r.1, I r.2]) := by
  obtain ⟨q, rfl⟩ : ∃ q, m = q + 1 := ⟨m - 1, by omega⟩
  exact (callA_body (fn := Tryz.f59) (c := body_ Tryz.f59) q _ (by kernel_rfl) (by kernel_rfl) (by kernel_rfl)).trans (B59 _ p0)

noncomputable def T16 (p0 : (List S28)) : Option ((List S28) × Int) := ((T58 p0).bind fun x1 => (bif (neI x1 0) then (some ([], x1)) else ((T60 p0 []).bind fun x2 => ((T59 x2).bind fun x3 => (some (x3.1, x3.2))))))
theorem B16 (C : Callee) (h58 : ∀ (p0 : (List S28)), C 58 [LL a28 p0] = (T58 p0).map I) (h59 : ∀ (p0 : (List S28)), C 59 [LL a28 p0] = (T59 p0).map (fun r => AV.tup [(LL a28) r.1, I r.2])) (h60 : ∀ (p0 : (List S28)) (p1 : (List S28)), C 60 [LL a28 p0, LL a28 p1] = (T60 p0 p1).map (fun l => AV.fr 29 4 (List.map a28 l))) (p0 : (List S28)) : runs Tryz.prog C (cfg.fn 16) (finFn Tryz.prog (cfg.fn 16).byval Tryz.f16) [] (execA Tryz.prog C (cfg.fn 16) (nr Tryz.f16 []) (frame0 [LL a28 p0] 15 false)) = (T16 p0).map (fun r => AV.tup [(LL a28) r.1, I r.2]) := by
  unfold T16
  refine gS 1 ?_
  refine gR 0 (rg Tryz.f16 0) ?_
  refine se (mkE [(0, LL a28 p0)] [] 15) ?_
  refine pN ?_
  refine pS ?_
  refine gS 4 ?_
  refine gS 2 ?_
  refine gR 1 (rg Tryz.f16 1) ?_
  refine sg 1 (mkE [(5, LL a28 p0), (0, LL a28 p0)] [] 15) ?_
  refine co 6 [] (h58 p0) (fun x1 => ?_)
  refine se (mkE [(0, LL a28 p0), (4, I x1)] [] 15) ?_
  refine pN ?_
  refine pS ?_
  refine gS 0 ?_
  refine gR 2 (rg Tryz.f16 2) ?_
  refine se (mkE [(0, LL a28 p0), (4, I x1), (8, B (neI x1 0))] [] 15) ?_
  refine pN ?_
  refine pS ?_
  refine gC 8 (neI x1 0) ?_ ?_
  · refine gS 0 ?_
    refine gR 3 (rg Tryz.f16 3) ?_
    refine se (mkE [(2, .nils), (3, I x1)] [] 15) ?_
    refine pN ?_
    refine pS ?_
    refine gE ?_
    exact pL
  · refine gK ?_
    refine pN ?_
    refine pS ?_
    refine gS 0 ?_
    refine gR 4 (rg Tryz.f16 4) ?_
    refine sg 1 (mkE [(10, LL a28 p0), (0, LL a28 p0), (4, I x1), (8, B (neI x1 0))] [] 15) ?_
    refine co 11 [] (h60 p0 []) (fun x2 => ?_)
    refine co 12 [88] (h59 x2) (fun x3 => ?_)
    refine se (mkE [(2, LL a28 x3.1), (3, I x3.2)] [] 15) ?_
    refine pN ?_
    refine pS ?_
    refine gE ?_
    exact pL
theorem F16 (m : Nat) (hm : 5 ≤ m) (p0 : (List S28)) : callA Tryz.prog cfg m 16 [LL a28 p0] = (T16 p0).map (fun r => AV.tup [(LL a28) r.1, I r.2]) := by
  obtain ⟨q, rfl⟩ : ∃ q, m = q + 1 := ⟨m - 1, by omega⟩
  exact (callA_body (fn := Tryz.f16) (c := body_ Tryz.f16) q _ (by kernel_rfl) (by kernel_rfl) (by kernel_rfl)).trans (B16 _ (fun p0 => F58 q (by omega) p0) (fun p0 => F59 q (by omega) p0) (fun p0 p1 => F60 q (by omega) p0 p1) p0)

noncomputable def L23_4 (p0 : (List S28)) (p1 : (List S28)) (z0 : Int) : Option (Int ⊕ ((Int × Bool) ⊕ Unit)) := (bif (ltI z0 (lenL p0)) then ((listAt p0 z0).bind fun x1 => ((listAt p1 z0).bind fun x2 => (bif (!allB [eqI x1.f0 x2.f0, eqI x1.f1 x2.f1, eqI x1.f2 x2.f2, eqI x1.f3 x2.f3]) then (some (.inr (.inr ()))) else (some (.inl (addI .i64 z0 1)))))) else (some (.inr (.inl (z0, (ltI z0 (lenL p0)))))))
theorem L23_4_ok (C : Callee) (p0 : (List S28)) (p1 : (List S28)) (z0 : Int) : runs Tryz.prog C (cfg.fn 23) (finLoop ((cfg.fn 23).keep 4) ((cfg.fn 23).al 4)) [] (execA Tryz.prog C (cfg.fn 23) (nr Tryz.f23 [false, false, true, false, true, true]) ((fun z0 : Int => (mkE [(0, LL a28 p0), (1, LL a28 p1), (12, I (lenL p0)), (13, I z0)] [] 26)) z0)) = (L23_4 p0 p1 z0).map (Sum.elim (fun z => .inl ((fun z0 : Int => (mkE [(0, LL a28 p0), (1, LL a28 p1), (12, I (lenL p0)), (13, I z0)] [] 26)) z)) (fun x => .inr ((Sum.elim (fun (x : (Int × Bool)) => (.exit 0, (mkE [(0, LL a28 p0), (1, LL a28 p1), (12, I (lenL p0)), (13, I x.1), (14, B x.2)] [] 26))) (fun (x : Unit) => (.ret, (mkE [(4, B false)] [] 26)))) x))) := by
  unfold L23_4
  let s_0 : List (Nat × AV) := [(0, LL a28 p0), (1, LL a28 p1), (5, I z0), (12, I (lenL p0)), (13, I z0)]
  refine gS 0 ?_
  refine gR 4 (rg Tryz.f23 4) ?_
  refine se (mkE [(0, LL a28 p0), (1, LL a28 p1), (12, I (lenL p0)), (13, I z0), (14, B (ltI z0 (lenL p0)))] [] 26) ?_
  refine pN ?_
  refine pS ?_
  refine gS 5 ?_
  refine gC 14 (ltI z0 (lenL p0)) ?_ ?_
  · refine gK ?_
    refine pN ?_
    refine pS ?_
    refine gS 8 ?_
    refine gB 1 ?_
    refine gS 6 ?_
    refine gR 5 (rg Tryz.f23 5) ?_
    refine se (mkE s_0 [] 26) ?_
    refine pN ?_
    refine pS ?_
    refine gS 0 ?_
    refine gD 6 9 (rg Tryz.f23 6) [0, 1, 2, 3, 4, 5, 6, 7, 8] ?_
    refine dg 2 [(some 16, qe (LL a28 p0)), (some 17, qe (I z0))] ?_
    refine dv 18 (mkE ((17, I z0) :: ((16, LL a28 p0) :: s_0)) [] 26) (addrE 26 29 4 a28 .i64 p0 z0) (fun x1 => ?_)
    refine dg 6 [(some 16, qe (LL a28 p0)), (some 17, qe (I z0)), (some 18, qe (.ia [I x1.f0, I x1.f1, I x1.f2, I x1.f3] 0)), (some 19, qe (a28 x1)), (some 20, qe (LL a28 p1)), (some 21, qe (I z0))] ?_
    refine dv 22 (mkE ((21, I z0) :: ((20, LL a28 p1) :: s_0)) [] 26) (addrE 26 29 4 a28 .i64 p1 z0) (fun x2 => ?_)
    refine dg 8 [(some 16, qe (LL a28 p0)), (some 17, qe (I z0)), (some 18, qe (.ia [I x1.f0, I x1.f1, I x1.f2, I x1.f3] 0)), (some 19, qe (a28 x1)), (some 20, qe (LL a28 p1)), (some 21, qe (I z0)), (some 22, qe (.ia [I x2.f0, I x2.f1, I x2.f2, I x2.f3] 0)), (some 23, qe (a28 x2))] ?_
    refine df 24 (B (!allB [eqI x1.f0 x2.f0, eqI x1.f1 x2.f1, eqI x1.f2 x2.f2, eqI x1.f3 x2.f3])) (mkE ((23, a28 x2) :: ((22, .ia [I x2.f0, I x2.f1, I x2.f2, I x2.f3] 0) :: ((21, I z0) :: ((20, LL a28 p1) :: ((19, a28 x1) :: ((18, .ia [I x1.f0, I x1.f1, I x1.f2, I x1.f3] 0) :: ((17, I z0) :: ((16, LL a28 p0) :: s_0)))))))) [] 26) (neqE 29 (.tmp 19) (.tmp 23) [I x1.f0, I x1.f1, I x1.f2, I x1.f3] [I x2.f0, I x2.f1, I x2.f2, I x2.f3] [.int .i64 x1.f0, .int .i64 x1.f1, .int .i64 x1.f2, .int .i64 x1.f3] [.int .i64 x2.f0, .int .i64 x2.f1, .int .i64 x2.f2, .int .i64 x2.f3] [eqI x1.f0 x2.f0, eqI x1.f1 x2.f1, eqI x1.f2 x2.f2, eqI x1.f3 x2.f3]) ?_
    refine de (mkE ((24, B (!allB [eqI x1.f0 x2.f0, eqI x1.f1 x2.f1, eqI x1.f2 x2.f2, eqI x1.f3 x2.f3])) :: ((23, a28 x2) :: ((22, .ia [I x2.f0, I x2.f1, I x2.f2, I x2.f3] 0) :: ((21, I z0) :: ((20, LL a28 p1) :: ((19, a28 x1) :: ((18, .ia [I x1.f0, I x1.f1, I x1.f2, I x1.f3] 0) :: ((17, I z0) :: ((16, LL a28 p0) :: s_0))))))))) [] 26) ?_
    refine se (mkE [(0, LL a28 p0), (1, LL a28 p1), (12, I (lenL p0)), (13, I z0), (24, B (!allB [eqI x1.f0 x2.f0, eqI x1.f1 x2.f1, eqI x1.f2 x2.f2, eqI x1.f3 x2.f3]))] [] 26) ?_
    refine pN ?_
    refine pS ?_
    refine gC 24 (!allB [eqI x1.f0 x2.f0, eqI x1.f1 x2.f1, eqI x1.f2 x2.f2, eqI x1.f3 x2.f3]) ?_ ?_
    · refine gS 0 ?_
      refine gR 7 (rg Tryz.f23 7) ?_
      refine se (mkE [(4, B false)] [] 26) ?_
      refine pN ?_
      refine pS ?_
      refine gE ?_
      exact pL
    · refine gK ?_
      refine pB ?_
      refine pN ?_
      refine pS ?_
      refine gR 8 (rg Tryz.f23 8) ?_
      refine se (mkE [(0, LL a28 p0), (1, LL a28 p1), (12, I (lenL p0)), (13, I (addI .i64 z0 1))] [] 26) ?_
      exact pL
  · refine gX 0 ?_
    exact pL
noncomputable def T23 (p0 : (List S28)) (p1 : (List S28)) : Option Bool := (bif (neI (lenL p0) (lenL p1)) then (some false) else ((iter (L23_4 p0 p1) 0).bind fun y3 => (Sum.elim (fun y3a => (some true)) (fun y3b => (some false)) y3)))
theorem B23 (C : Callee) (p0 : (List S28)) (p1 : (List S28)) : runs Tryz.prog C (cfg.fn 23) (finFn Tryz.prog (cfg.fn 23).byval Tryz.f23) [] (execA Tryz.prog C (cfg.fn 23) (nr Tryz.f23 []) (frame0 [LL a28 p0, LL a28 p1] 26 false)) = (T23 p0 p1).map B := by
  unfold T23
  let s_0 : List (Nat × AV) := [(0, LL a28 p0), (1, LL a28 p1)]
  refine gS 1 ?_
  refine gR 0 (rg Tryz.f23 0) ?_
  refine se (mkE s_0 [] 26) ?_
  refine pN ?_
  refine pS ?_
  refine gS 3 ?_
  refine gS 0 ?_
  refine gR 1 (rg Tryz.f23 1) ?_
  refine sg 1 (mkE ((6, LL a28 p0) :: s_0) [] 26) ?_
  refine eo 7 (I (lenL p0)) (lenE 26 a28 p0) ?_
  refine sg 3 (mkE ((8, LL a28 p1) :: ((7, I (lenL p0)) :: ((6, LL a28 p0) :: s_0))) [] 26) ?_
  refine eo 9 (I (lenL p1)) (lenE 26 a28 p1) ?_
  refine se (mkE (s_0.append [(10, B (neI (lenL p0) (lenL p1)))]) [] 26) ?_
  refine pN ?_
  refine pS ?_
  refine gC 10 (neI (lenL p0) (lenL p1)) ?_ ?_
  · refine gS 0 ?_
    refine gR 2 (rg Tryz.f23 2) ?_
    refine se (mkE [(4, B false)] [] 26) ?_
    refine pN ?_
    refine pS ?_
    refine gE ?_
    exact pL
  · refine gK ?_
    refine pN ?_
    refine pS ?_
    refine gS 9 ?_
    refine gS 4 ?_
    refine gR 3 (rg Tryz.f23 3) ?_
    refine sg 1 (mkE ((11, LL a28 p0) :: (s_0.append [(10, B (neI (lenL p0) (lenL p1)))])) [] 26) ?_
    refine eo 12 (I (lenL p0)) (lenE 26 a28 p0) ?_
    refine se (mkE (s_0.append ((12, I (lenL p0)) :: [(13, I 0)])) [] 26) ?_
    refine pN ?_
    refine pS ?_
    refine gB 0 ?_
    refine lo [(0, none), (1, none), (12, none), (13, none)] [] (L23_4 p0 p1) (fun z0 : Int => (mkE (s_0.append ((12, I (lenL p0)) :: [(13, I z0)])) [] 26)) (Sum.elim (fun (x : (Int × Bool)) => (.exit 0, (mkE (s_0.append ((12, I (lenL p0)) :: ((13, I x.1) :: [(14, B x.2)]))) [] 26))) (fun (x : Unit) => (.ret, (mkE [(4, B false)] [] 26)))) 0 (fun z => L23_4_ok C p0 p1 z) ?_
    intro y3
    refine ss y3 (Z := (Sum.elim (fun (x : (Int × Bool)) => (.exit 0, (mkE (s_0.append ((12, I (lenL p0)) :: ((13, I x.1) :: [(14, B x.2)]))) [] 26))) (fun (x : Unit) => (.ret, (mkE [(4, B false)] [] 26))))) (fun y3a => ?_) (fun y3b => ?_)
    · refine pH ?_
      refine pN ?_
      refine pS ?_
      refine gS 0 ?_
      refine gR 9 (rg Tryz.f23 9) ?_
      refine se (mkE [(4, B true)] [] 26) ?_
      refine pN ?_
      refine pS ?_
      refine gE ?_
      exact pL
    · exact pL
theorem F23 (m : Nat) (hm : 1 ≤ m) (p0 : (List S28)) (p1 : (List S28)) : callA Tryz.prog cfg m 23 [LL a28 p0, LL a28 p1] = (T23 p0 p1).map B := by
  obtain ⟨q, rfl⟩ : ∃ q, m = q + 1 := ⟨m - 1, by omega⟩
  exact (callA_body (fn := Tryz.f23) (c := body_ Tryz.f23) q _ (by kernel_rfl) (by kernel_rfl) (by kernel_rfl)).trans (B23 _ p0 p1)

noncomputable def L5_7 (x1 : (Int × (List Int) × Int)) (x2 : (Int × (List Int) × Int)) (x3 : (Int × (List Int) × Int)) (x4 : (Int × (List Int) × Int)) (x5 : (Int × (List Int) × Int)) (x6 : (Int × (List Int) × Int)) (z0 : ((List S28) × Int × (List S28) × Int)) : Option (((List S28) × Int × (List S28) × Int) ⊕ ((Int × Int × Bool × (List S28) × (List S28)) ⊕ Unit)) := (bif (ltI z0.2.2.2 (lenL ([(S28.mk 0 0 x5.1 x6.1), (S28.mk x5.1 0 (subI .i64 x1.1 x5.1) x6.1), (S28.mk 0 x6.1 x5.1 (subI .i64 x2.1 x6.1)), (S28.mk x5.1 x6.1 (subI .i64 x1.1 x5.1) (subI .i64 x2.1 x6.1))] : List S28))) then ((idxO (List.length z0.2.2.1) z0.2.2.2).bind fun x7 => ((getN z0.2.2.1 x7).bind fun x8 => ((T28 x8 x1.1 x2.1 x3.1 x4.1).bind fun x9 => (bif (neI x9.2 0) then (some (.inr (.inr ()))) else (bif (ltI 0 x9.1.f2) then ((appO 32 z0.1 ([x9.1] : List S28)).bind fun x10 => (some (.inl (x10, (addI .i64 z0.2.1 (mulI .i64 x9.1.f2 x9.1.f3)), z0.2.2.1, (addI .i64 z0.2.2.2 1))))) else (some (.inl (z0.1, z0.2.1, z0.2.2.1, (addI .i64 z0.2.2.2 1))))))))) else (some (.inr (.inl (z0.2.1, z0.2.2.2, (ltI z0.2.2.2 (lenL ([(S28.mk 0 0 x5.1 x6.1), (S28.mk x5.1 0 (subI .i64 x1.1 x5.1) x6.1), (S28.mk 0 x6.1 x5.1 (subI .i64 x2.1 x6.1)), (S28.mk x5.1 x6.1 (subI .i64 x1.1 x5.1) (subI .i64 x2.1 x6.1))] : List S28))), z0.1, z0.2.2.1)))))
theorem L5_7_ok (C : Callee) (h28 : ∀ (p0 : S28) (p1 : Int) (p2 : Int) (p3 : Int) (p4 : Int), C 28 [a28 p0, I p1, I p2, I p3, I p4] = (T28 p0 p1 p2 p3 p4).map (fun r => AV.tup [a28 r.1, I r.2])) (x1 : (Int × (List Int) × Int)) (x2 : (Int × (List Int) × Int)) (x3 : (Int × (List Int) × Int)) (x4 : (Int × (List Int) × Int)) (x5 : (Int × (List Int) × Int)) (x6 : (Int × (List Int) × Int)) (z0 : ((List S28) × Int × (List S28) × Int)) : runs Tryz.prog C (cfg.fn 5) (finLoop ((cfg.fn 5).keep 7) ((cfg.fn 5).al 7)) [] (execA Tryz.prog C (cfg.fn 5) (nr Tryz.f5 [false, false, true, false, true, true, true, true, true, true]) ((fun z0 : ((List S28) × Int × (List S28) × Int) => (mkE [(4, I x1.1), (5, I x2.1), (6, I x3.1), (7, I x4.1), (10, .own 80 0), (11, I z0.2.1), (61, .own 488 0), (62, I (lenL ([(S28.mk 0 0 x5.1 x6.1), (S28.mk x5.1 0 (subI .i64 x1.1 x5.1) x6.1), (S28.mk 0 x6.1 x5.1 (subI .i64 x2.1 x6.1)), (S28.mk x5.1 x6.1 (subI .i64 x1.1 x5.1) (subI .i64 x2.1 x6.1))] : List S28))), (63, I z0.2.2.2)] [(80, RR 29 4 a28 z0.1 0 false), (488, RR 29 4 a28 z0.2.2.1 0 false)] 118)) z0)) = (L5_7 x1 x2 x3 x4 x5 x6 z0).map (Sum.elim (fun z => .inl ((fun z0 : ((List S28) × Int × (List S28) × Int) => (mkE [(4, I x1.1), (5, I x2.1), (6, I x3.1), (7, I x4.1), (10, .own 80 0), (11, I z0.2.1), (61, .own 488 0), (62, I (lenL ([(S28.mk 0 0 x5.1 x6.1), (S28.mk x5.1 0 (subI .i64 x1.1 x5.1) x6.1), (S28.mk 0 x6.1 x5.1 (subI .i64 x2.1 x6.1)), (S28.mk x5.1 x6.1 (subI .i64 x1.1 x5.1) (subI .i64 x2.1 x6.1))] : List S28))), (63, I z0.2.2.2)] [(80, RR 29 4 a28 z0.1 0 false), (488, RR 29 4 a28 z0.2.2.1 0 false)] 118)) z)) (fun x => .inr ((Sum.elim (fun (x : (Int × Int × Bool × (List S28) × (List S28))) => (.exit 0, (mkE [(4, I x1.1), (5, I x2.1), (6, I x3.1), (7, I x4.1), (10, .own 80 0), (11, I x.1), (61, .own 488 0), (62, I (lenL ([(S28.mk 0 0 x5.1 x6.1), (S28.mk x5.1 0 (subI .i64 x1.1 x5.1) x6.1), (S28.mk 0 x6.1 x5.1 (subI .i64 x2.1 x6.1)), (S28.mk x5.1 x6.1 (subI .i64 x1.1 x5.1) (subI .i64 x2.1 x6.1))] : List S28))), (63, I x.2.1), (64, B x.2.2.1)] [(80, RR 29 4 a28 x.2.2.2.1 0 false), (488, RR 29 4 a28 x.2.2.2.2 0 false)] 118))) (fun (x : Unit) => (.ret, (mkE [(2, B false)] [] 118)))) x))) := by
  unfold L5_7
  let s_0 : List (Nat × AV) := [(61, .own 488 0), (62, I (lenL ([(S28.mk 0 0 x5.1 x6.1), (S28.mk x5.1 0 (subI .i64 x1.1 x5.1) x6.1), (S28.mk 0 x6.1 x5.1 (subI .i64 x2.1 x6.1)), (S28.mk x5.1 x6.1 (subI .i64 x1.1 x5.1) (subI .i64 x2.1 x6.1))] : List S28)))]
  let s_1 : List (Nat × AV) := [(4, I x1.1), (5, I x2.1), (6, I x3.1), (7, I x4.1), (10, .own 80 0), (11, I z0.2.1)]
  let s_2 : List (Nat × AV) := [(4, I x1.1), (5, I x2.1), (6, I x3.1), (7, I x4.1), (10, .own 80 1)]
  let o_0 : List (Nat × AObj) := [(488, RR 29 4 a28 z0.2.2.1 0 false)]
  let o_1 : List (Nat × AObj) := [(80, RR 29 4 a28 z0.1 0 false)]
  refine gS 0 ?_
  refine gR 7 (rg Tryz.f5 7) ?_
  refine se (mkE (s_1.append (s_0.append ((63, I z0.2.2.2) :: [(64, B (ltI z0.2.2.2 (lenL ([(S28.mk 0 0 x5.1 x6.1), (S28.mk x5.1 0 (subI .i64 x1.1 x5.1) x6.1), (S28.mk 0 x6.1 x5.1 (subI .i64 x2.1 x6.1)), (S28.mk x5.1 x6.1 (subI .i64 x1.1 x5.1) (subI .i64 x2.1 x6.1))] : List S28))))]))) (o_1.append o_0) 118) ?_
  refine pN ?_
  refine pS ?_
  refine gS 8 ?_
  refine gC 64 (ltI z0.2.2.2 (lenL ([(S28.mk 0 0 x5.1 x6.1), (S28.mk x5.1 0 (subI .i64 x1.1 x5.1) x6.1), (S28.mk 0 x6.1 x5.1 (subI .i64 x2.1 x6.1)), (S28.mk x5.1 x6.1 (subI .i64 x1.1 x5.1) (subI .i64 x2.1 x6.1))] : List S28))) ?_ ?_
  · refine gK ?_
    refine pN ?_
    refine pS ?_
    refine gS 15 ?_
    refine gB 1 ?_
    refine gS 9 ?_
    refine gR 8 (rg Tryz.f5 8) ?_
    refine vo 65 (addrOE 26 29 4 488 0 false a28 .i64 z0.2.2.1 z0.2.2.2) (fun x7 => ?_)
    refine vo 66 (loadOE 29 488 0 x7 0 29 4 4 true false a28 (fun q : S28 => a28 q) z0.2.2.1) (fun x8 => ?_)
    refine se (mkE (s_1.append ((13, .ba 104 0) :: (s_0.append [(63, I z0.2.2.2)]))) (o_1.append ((104, .box [I x8.f0, I x8.f1, I x8.f2, I x8.f3] false) :: o_0)) 118) ?_
    refine pN ?_
    refine pS ?_
    refine gS 10 ?_
    refine gR 9 (rg Tryz.f5 9) ?_
    refine sg 5 (mkE ((72, I x4.1) :: ((71, I x3.1) :: ((70, I x2.1) :: ((69, I x1.1) :: ((68, a28 x8) :: (s_1.append ((13, .ba 104 0) :: (s_0.append [(63, I z0.2.2.2)])))))))) (o_1.append ((104, .box [I x8.f0, I x8.f1, I x8.f2, I x8.f3] false) :: o_0)) 118) ?_
    refine co 73 [] (h28 x8 x1.1 x2.1 x3.1 x4.1) (fun x9 => ?_)
    refine se (mkE (s_1.append ((14, .ba 112 0) :: ((15, I x9.2) :: (s_0.append [(63, I z0.2.2.2)])))) (o_1.append ((112, .box [I x9.1.f0, I x9.1.f1, I x9.1.f2, I x9.1.f3] false) :: o_0)) 118) ?_
    refine pN ?_
    refine pS ?_
    refine gS 12 ?_
    refine gS 0 ?_
    refine gR 10 (rg Tryz.f5 10) ?_
    refine se (mkE (s_1.append ((14, .ba 112 0) :: (s_0.append ((63, I z0.2.2.2) :: [(77, B (neI x9.2 0))])))) (o_1.append ((112, .box [I x9.1.f0, I x9.1.f1, I x9.1.f2, I x9.1.f3] false) :: o_0)) 118) ?_
    refine pN ?_
    refine pS ?_
    refine gC 77 (neI x9.2 0) ?_ ?_
    · refine gS 0 ?_
      refine gR 11 (rg Tryz.f5 11) ?_
      refine se (mkE [(2, B false)] [] 118) ?_
      refine pN ?_
      refine pS ?_
      refine gE ?_
      exact pL
    · refine gK ?_
      refine pN ?_
      refine pS ?_
      refine gS 0 ?_
      refine gR 12 (rg Tryz.f5 12) ?_
      refine se (mkE (s_1.append ((14, .ba 112 0) :: (s_0.append ((63, I z0.2.2.2) :: [(80, B (ltI 0 x9.1.f2))])))) (o_1.append ((112, .box [I x9.1.f0, I x9.1.f1, I x9.1.f2, I x9.1.f3] false) :: o_0)) 118) ?_
      refine pN ?_
      refine pS ?_
      refine gC 80 (ltI 0 x9.1.f2) ?_ ?_
      · refine gS 14 ?_
        refine gR 13 (rg Tryz.f5 13) ?_
        refine sg 3 (mkE ((83, .own 664 0) :: ((82, a28 x9.1) :: ((81, .own 80 0) :: (s_1.append ((14, .ba 112 0) :: (s_0.append ((63, I z0.2.2.2) :: [(80, B (ltI 0 x9.1.f2))]))))))) ((664, RR 29 4 a28 ([x9.1] : List S28) 0 false) :: (o_1.append ((112, .box [I x9.1.f0, I x9.1.f1, I x9.1.f2, I x9.1.f3] false) :: o_0))) 118) ?_
        refine mo (some 84) (apO 26 29 4 32 80 a28 0 [664] (y := .own 664 0) (l2 := ([x9.1] : List S28))) (fun x10 => ?_)
        refine se (mkE (s_2.append ((11, I z0.2.1) :: ((14, .ba 112 0) :: (s_0.append [(63, I z0.2.2.2)])))) ((80, RR 29 4 a28 x10 1 false) :: ((112, .box [I x9.1.f0, I x9.1.f1, I x9.1.f2, I x9.1.f3] false) :: o_0)) 118) ?_
        refine pN ?_
        refine pS ?_
        refine gR 14 (rg Tryz.f5 14) ?_
        refine se (mkE (s_2.append ((11, I (addI .i64 z0.2.1 (mulI .i64 x9.1.f2 x9.1.f3))) :: (s_0.append [(63, I z0.2.2.2)]))) ((80, RR 29 4 a28 x10 1 false) :: o_0) 118) ?_
        refine pB ?_
        refine pN ?_
        refine pS ?_
        refine gR 15 (rg Tryz.f5 15) ?_
        refine se (mkE (s_2.append ((11, I (addI .i64 z0.2.1 (mulI .i64 x9.1.f2 x9.1.f3))) :: (s_0.append [(63, I (addI .i64 z0.2.2.2 1))]))) ((80, RR 29 4 a28 x10 1 false) :: o_0) 118) ?_
        exact pL
      · refine gK ?_
        refine pB ?_
        refine pN ?_
        refine pS ?_
        refine gR 15 (rg Tryz.f5 15) ?_
        refine se (mkE (s_1.append (s_0.append [(63, I (addI .i64 z0.2.2.2 1))])) (o_1.append o_0) 118) ?_
        exact pL
  · refine gX 0 ?_
    exact pL
noncomputable def T5 (p0 : (List Int)) : Option Bool := ((T14 p0 0 2 20).bind fun x1 => ((T14 x1.2.1 x1.2.2 2 20).bind fun x2 => ((T14 x2.2.1 x2.2.2 1 40).bind fun x3 => ((T14 x3.2.1 x3.2.2 1 40).bind fun x4 => ((T14 x4.2.1 x4.2.2 1 (subI .i64 x1.1 1)).bind fun x5 => ((T14 x5.2.1 x5.2.2 1 (subI .i64 x2.1 1)).bind fun x6 => ((iter (L5_7 x1 x2 x3 x4 x5 x6) ([], 0, ([(S28.mk 0 0 x5.1 x6.1), (S28.mk x5.1 0 (subI .i64 x1.1 x5.1) x6.1), (S28.mk 0 x6.1 x5.1 (subI .i64 x2.1 x6.1)), (S28.mk x5.1 x6.1 (subI .i64 x1.1 x5.1) (subI .i64 x2.1 x6.1))] : List S28), 0)).bind fun y11 => (Sum.elim (fun y11a => ((T16 y11a.2.2.2.1).bind fun x12 => (bif (eqI x12.2 0) then (bif (eqI y11a.1 (mulI .i64 x3.1 x4.1)) then ((T23 x12.1 ([(S28.mk 0 0 x3.1 x4.1)] : List S28)).bind fun x13 => (bif x13 then ((T26).bind fun x14 => (some x14)) else (some false))) else (some false)) else (some false)))) (fun y11b => (some false)) y11))))))))
theorem B5 (C : Callee) (h14 : ∀ (p0_c0 : (List Int)) (p0_c1 : Int) (p1 : Int) (p2 : Int), C 14 [.fb [LL I p0_c0, I p0_c1], I p1, I p2] = (T14 p0_c0 p0_c1 p1 p2).map (fun (r : (Int × (List Int) × Int)) => AV.inp (I r.1) (.fb [LL I r.2.1, I r.2.2]))) (h16 : ∀ (p0 : (List S28)), C 16 [LL a28 p0] = (T16 p0).map (fun r => AV.tup [(LL a28) r.1, I r.2])) (h23 : ∀ (p0 : (List S28)) (p1 : (List S28)), C 23 [LL a28 p0, LL a28 p1] = (T23 p0 p1).map B) (h26 : C 26 [] = (T26).map B) (h28 : ∀ (p0 : S28) (p1 : Int) (p2 : Int) (p3 : Int) (p4 : Int), C 28 [a28 p0, I p1, I p2, I p3, I p4] = (T28 p0 p1 p2 p3 p4).map (fun r => AV.tup [a28 r.1, I r.2])) (p0 : (List Int)) : runs Tryz.prog C (cfg.fn 5) (finFn Tryz.prog (cfg.fn 5).byval Tryz.f5) [] (execA Tryz.prog C (cfg.fn 5) (nr Tryz.f5 []) (frame0 [LL I p0] 118 false)) = (T5 p0).map B := by
  unfold T5
  refine gS 1 ?_
  refine gR 0 (rg Tryz.f5 0) ?_
  refine se (mkE [(0, LL I p0)] [] 118) ?_
  refine pN ?_
  refine pS ?_
  refine gS 2 ?_
  refine gR 1 (rg Tryz.f5 1) ?_
  refine se (mkE [(3, .ba 160 0)] [(160, .box [LL I p0, I 0] false)] 118) ?_
  refine pN ?_
  refine pS ?_
  refine gS 3 ?_
  refine gR 2 (rg Tryz.f5 2) ?_
  refine sg 1 (mkE [(21, .ba 160 0), (3, .ba 160 0)] [(160, .box [LL I p0, I 0] false)] 118) ?_
  refine mo (some 22) (ipB 14 160 [LL I p0, I 0] [LL I p0, I 0] [I 2, I 20] [I 2, I 20] [] (fun x : (Int × (List Int) × Int) => I x.1) (fun x : (Int × (List Int) × Int) => [LL I x.2.1, I x.2.2]) (h14 p0 0 2 20)) (fun x1 => ?_)
  refine sg 3 (mkE [(23, .ba 160 0), (22, I x1.1), (21, .ba 160 0), (3, .ba 160 0)] [(160, .box [LL I x1.2.1, I x1.2.2] false), (160, .box [LL I p0, I 0] false)] 118) ?_
  refine mo (some 24) (ipB 14 160 [LL I x1.2.1, I x1.2.2] [LL I x1.2.1, I x1.2.2] [I 2, I 20] [I 2, I 20] [] (fun x : (Int × (List Int) × Int) => I x.1) (fun x : (Int × (List Int) × Int) => [LL I x.2.1, I x.2.2]) (h14 x1.2.1 x1.2.2 2 20)) (fun x2 => ?_)
  refine sg 5 (mkE [(25, .ba 160 0), (24, I x2.1), (23, .ba 160 0), (22, I x1.1), (21, .ba 160 0), (3, .ba 160 0)] [(160, .box [LL I x2.2.1, I x2.2.2] false), (160, .box [LL I x1.2.1, I x1.2.2] false), (160, .box [LL I p0, I 0] false)] 118) ?_
  refine mo (some 26) (ipB 14 160 [LL I x2.2.1, I x2.2.2] [LL I x2.2.1, I x2.2.2] [I 1, I 40] [I 1, I 40] [] (fun x : (Int × (List Int) × Int) => I x.1) (fun x : (Int × (List Int) × Int) => [LL I x.2.1, I x.2.2]) (h14 x2.2.1 x2.2.2 1 40)) (fun x3 => ?_)
  refine sg 7 (mkE [(27, .ba 160 0), (26, I x3.1), (25, .ba 160 0), (24, I x2.1), (23, .ba 160 0), (22, I x1.1), (21, .ba 160 0), (3, .ba 160 0)] [(160, .box [LL I x3.2.1, I x3.2.2] false), (160, .box [LL I x2.2.1, I x2.2.2] false), (160, .box [LL I x1.2.1, I x1.2.2] false), (160, .box [LL I p0, I 0] false)] 118) ?_
  refine mo (some 28) (ipB 14 160 [LL I x3.2.1, I x3.2.2] [LL I x3.2.1, I x3.2.2] [I 1, I 40] [I 1, I 40] [] (fun x : (Int × (List Int) × Int) => I x.1) (fun x : (Int × (List Int) × Int) => [LL I x.2.1, I x.2.2]) (h14 x3.2.1 x3.2.2 1 40)) (fun x4 => ?_)
  refine se (mkE [(3, .ba 160 0), (4, I x1.1), (5, I x2.1), (6, I x3.1), (7, I x4.1)] [(160, .box [LL I x4.2.1, I x4.2.2] false)] 118) ?_
  refine pN ?_
  refine pS ?_
  refine gS 4 ?_
  refine gR 3 (rg Tryz.f5 3) ?_
  refine sg 3 (mkE [(31, I (subI .i64 x1.1 1)), (30, I x1.1), (29, .ba 160 0), (3, .ba 160 0), (4, I x1.1), (5, I x2.1), (6, I x3.1), (7, I x4.1)] [(160, .box [LL I x4.2.1, I x4.2.2] false)] 118) ?_
  refine mo (some 32) (ipB 14 160 [LL I x4.2.1, I x4.2.2] [LL I x4.2.1, I x4.2.2] [I 1, I (subI .i64 x1.1 1)] [I 1, I (subI .i64 x1.1 1)] [] (fun x : (Int × (List Int) × Int) => I x.1) (fun x : (Int × (List Int) × Int) => [LL I x.2.1, I x.2.2]) (h14 x4.2.1 x4.2.2 1 (subI .i64 x1.1 1))) (fun x5 => ?_)
  refine sg 7 (mkE [(35, I (subI .i64 x2.1 1)), (34, I x2.1), (33, .ba 160 0), (32, I x5.1), (31, I (subI .i64 x1.1 1)), (30, I x1.1), (29, .ba 160 0), (3, .ba 160 0), (4, I x1.1), (5, I x2.1), (6, I x3.1), (7, I x4.1)] [(160, .box [LL I x5.2.1, I x5.2.2] false), (160, .box [LL I x4.2.1, I x4.2.2] false)] 118) ?_
  refine mo (some 36) (ipB 14 160 [LL I x5.2.1, I x5.2.2] [LL I x5.2.1, I x5.2.2] [I 1, I (subI .i64 x2.1 1)] [I 1, I (subI .i64 x2.1 1)] [] (fun x : (Int × (List Int) × Int) => I x.1) (fun x : (Int × (List Int) × Int) => [LL I x.2.1, I x.2.2]) (h14 x5.2.1 x5.2.2 1 (subI .i64 x2.1 1))) (fun x6 => ?_)
  refine se (mkE [(4, I x1.1), (5, I x2.1), (6, I x3.1), (7, I x4.1), (8, I x5.1), (9, I x6.1)] [] 118) ?_
  refine pN ?_
  refine pS ?_
  refine gS 5 ?_
  refine gR 4 (rg Tryz.f5 4) ?_
  refine se (mkE [(4, I x1.1), (5, I x2.1), (6, I x3.1), (7, I x4.1), (8, I x5.1), (9, I x6.1), (10, .nils)] [] 118) ?_
  refine pN ?_
  refine pS ?_
  refine gS 6 ?_
  refine gR 5 (rg Tryz.f5 5) ?_
  refine se (mkE [(4, I x1.1), (5, I x2.1), (6, I x3.1), (7, I x4.1), (8, I x5.1), (9, I x6.1), (10, .nils), (11, I 0)] [] 118) ?_
  refine pN ?_
  refine pS ?_
  refine gS 16 ?_
  refine gS 7 ?_
  refine gR 6 (rg Tryz.f5 6) ?_
  refine sg 25 (mkE [(61, .own 488 0), (60, .agg [I x5.1, I x6.1, I (subI .i64 x1.1 x5.1), I (subI .i64 x2.1 x6.1)]), (59, I (subI .i64 x2.1 x6.1)), (58, I x6.1), (57, I x2.1), (56, I (subI .i64 x1.1 x5.1)), (55, I x5.1), (54, I x1.1), (53, I x6.1), (52, I x5.1), (51, .agg [I 0, I x6.1, I x5.1, I (subI .i64 x2.1 x6.1)]), (50, I (subI .i64 x2.1 x6.1)), (49, I x6.1), (48, I x2.1), (47, I x5.1), (46, I x6.1), (45, .agg [I x5.1, I 0, I (subI .i64 x1.1 x5.1), I x6.1]), (44, I x6.1), (43, I (subI .i64 x1.1 x5.1)), (42, I x5.1), (41, I x1.1), (40, I x5.1), (39, .agg [I 0, I 0, I x5.1, I x6.1]), (38, I x6.1), (37, I x5.1), (4, I x1.1), (5, I x2.1), (6, I x3.1), (7, I x4.1), (8, I x5.1), (9, I x6.1), (10, .nils), (11, I 0)] [(488, RR 29 4 a28 ([(S28.mk 0 0 x5.1 x6.1), (S28.mk x5.1 0 (subI .i64 x1.1 x5.1) x6.1), (S28.mk 0 x6.1 x5.1 (subI .i64 x2.1 x6.1)), (S28.mk x5.1 x6.1 (subI .i64 x1.1 x5.1) (subI .i64 x2.1 x6.1))] : List S28) 0 false)] 118) ?_
  refine eo 62 (I (lenL ([(S28.mk 0 0 x5.1 x6.1), (S28.mk x5.1 0 (subI .i64 x1.1 x5.1) x6.1), (S28.mk 0 x6.1 x5.1 (subI .i64 x2.1 x6.1)), (S28.mk x5.1 x6.1 (subI .i64 x1.1 x5.1) (subI .i64 x2.1 x6.1))] : List S28))) (lenOE 26 29 4 a28 ([(S28.mk 0 0 x5.1 x6.1), (S28.mk x5.1 0 (subI .i64 x1.1 x5.1) x6.1), (S28.mk 0 x6.1 x5.1 (subI .i64 x2.1 x6.1)), (S28.mk x5.1 x6.1 (subI .i64 x1.1 x5.1) (subI .i64 x2.1 x6.1))] : List S28)) ?_
  refine se (mkE [(4, I x1.1), (5, I x2.1), (6, I x3.1), (7, I x4.1), (10, .nils), (11, I 0), (61, .own 488 0), (62, I (lenL ([(S28.mk 0 0 x5.1 x6.1), (S28.mk x5.1 0 (subI .i64 x1.1 x5.1) x6.1), (S28.mk 0 x6.1 x5.1 (subI .i64 x2.1 x6.1)), (S28.mk x5.1 x6.1 (subI .i64 x1.1 x5.1) (subI .i64 x2.1 x6.1))] : List S28))), (63, I 0)] [(488, RR 29 4 a28 ([(S28.mk 0 0 x5.1 x6.1), (S28.mk x5.1 0 (subI .i64 x1.1 x5.1) x6.1), (S28.mk 0 x6.1 x5.1 (subI .i64 x2.1 x6.1)), (S28.mk x5.1 x6.1 (subI .i64 x1.1 x5.1) (subI .i64 x2.1 x6.1))] : List S28) 0 false)] 118) ?_
  refine pN ?_
  refine pS ?_
  refine gB 0 ?_
  refine lo [(4, none), (5, none), (6, none), (7, none), (10, some (29, 4)), (11, none), (61, some (29, 4)), (62, none), (63, none)] [] (L5_7 x1 x2 x3 x4 x5 x6) (fun z0 : ((List S28) × Int × (List S28) × Int) => (mkE [(4, I x1.1), (5, I x2.1), (6, I x3.1), (7, I x4.1), (10, .own 80 0), (11, I z0.2.1), (61, .own 488 0), (62, I (lenL ([(S28.mk 0 0 x5.1 x6.1), (S28.mk x5.1 0 (subI .i64 x1.1 x5.1) x6.1), (S28.mk 0 x6.1 x5.1 (subI .i64 x2.1 x6.1)), (S28.mk x5.1 x6.1 (subI .i64 x1.1 x5.1) (subI .i64 x2.1 x6.1))] : List S28))), (63, I z0.2.2.2)] [(80, RR 29 4 a28 z0.1 0 false), (488, RR 29 4 a28 z0.2.2.1 0 false)] 118)) (Sum.elim (fun (x : (Int × Int × Bool × (List S28) × (List S28))) => (.exit 0, (mkE [(4, I x1.1), (5, I x2.1), (6, I x3.1), (7, I x4.1), (10, .own 80 0), (11, I x.1), (61, .own 488 0), (62, I (lenL ([(S28.mk 0 0 x5.1 x6.1), (S28.mk x5.1 0 (subI .i64 x1.1 x5.1) x6.1), (S28.mk 0 x6.1 x5.1 (subI .i64 x2.1 x6.1)), (S28.mk x5.1 x6.1 (subI .i64 x1.1 x5.1) (subI .i64 x2.1 x6.1))] : List S28))), (63, I x.2.1), (64, B x.2.2.1)] [(80, RR 29 4 a28 x.2.2.2.1 0 false), (488, RR 29 4 a28 x.2.2.2.2 0 false)] 118))) (fun (x : Unit) => (.ret, (mkE [(2, B false)] [] 118)))) ([], 0, ([(S28.mk 0 0 x5.1 x6.1), (S28.mk x5.1 0 (subI .i64 x1.1 x5.1) x6.1), (S28.mk 0 x6.1 x5.1 (subI .i64 x2.1 x6.1)), (S28.mk x5.1 x6.1 (subI .i64 x1.1 x5.1) (subI .i64 x2.1 x6.1))] : List S28), 0) (fun z => L5_7_ok C h28 x1 x2 x3 x4 x5 x6 z) ?_
  intro y11
  refine ss y11 (Z := (Sum.elim (fun (x : (Int × Int × Bool × (List S28) × (List S28))) => (.exit 0, (mkE [(4, I x1.1), (5, I x2.1), (6, I x3.1), (7, I x4.1), (10, .own 80 0), (11, I x.1), (61, .own 488 0), (62, I (lenL ([(S28.mk 0 0 x5.1 x6.1), (S28.mk x5.1 0 (subI .i64 x1.1 x5.1) x6.1), (S28.mk 0 x6.1 x5.1 (subI .i64 x2.1 x6.1)), (S28.mk x5.1 x6.1 (subI .i64 x1.1 x5.1) (subI .i64 x2.1 x6.1))] : List S28))), (63, I x.2.1), (64, B x.2.2.1)] [(80, RR 29 4 a28 x.2.2.2.1 0 false), (488, RR 29 4 a28 x.2.2.2.2 0 false)] 118))) (fun (x : Unit) => (.ret, (mkE [(2, B false)] [] 118))))) (fun y11a => ?_) (fun y11b => ?_)
  · refine pH ?_
    refine pN ?_
    refine pS ?_
    refine gS 17 ?_
    refine gR 16 (rg Tryz.f5 16) ?_
    refine sg 1 (mkE [(94, .own 80 0), (4, I x1.1), (5, I x2.1), (6, I x3.1), (7, I x4.1), (10, .own 80 0), (11, I y11a.1), (61, .own 488 0), (62, I (lenL ([(S28.mk 0 0 x5.1 x6.1), (S28.mk x5.1 0 (subI .i64 x1.1 x5.1) x6.1), (S28.mk 0 x6.1 x5.1 (subI .i64 x2.1 x6.1)), (S28.mk x5.1 x6.1 (subI .i64 x1.1 x5.1) (subI .i64 x2.1 x6.1))] : List S28))), (63, I y11a.2.1), (64, B y11a.2.2.1)] [(80, RR 29 4 a28 y11a.2.2.2.1 0 false), (488, RR 29 4 a28 y11a.2.2.2.2 0 false)] 118) ?_
    refine co 95 [80] (h16 y11a.2.2.2.1) (fun x12 => ?_)
    refine se (mkE [(6, I x3.1), (7, I x4.1), (11, I y11a.1), (16, LL a28 x12.1), (17, I x12.2)] [] 118) ?_
    refine pN ?_
    refine pS ?_
    refine gS 0 ?_
    refine gR 17 (rg Tryz.f5 17) ?_
    refine sg 3 (mkE [(100, B (eqI x12.2 0)), (99, B (eqI x12.2 0)), (98, I x12.2), (6, I x3.1), (7, I x4.1), (11, I y11a.1), (16, LL a28 x12.1), (17, I x12.2)] [] 118) ?_
    refine sb 100 (eqI x12.2 0) ?_ ?_
    · refine sg 10 (mkE [(107, B (eqI y11a.1 (mulI .i64 x3.1 x4.1))), (106, B (eqI y11a.1 (mulI .i64 x3.1 x4.1))), (105, B (eqI y11a.1 (mulI .i64 x3.1 x4.1))), (104, I (mulI .i64 x3.1 x4.1)), (103, I x4.1), (102, I x3.1), (101, I y11a.1), (100, B true), (100, B (eqI x12.2 0)), (99, B (eqI x12.2 0)), (98, I x12.2), (6, I x3.1), (7, I x4.1), (11, I y11a.1), (16, LL a28 x12.1), (17, I x12.2)] [] 118) ?_
      refine sb 107 (eqI y11a.1 (mulI .i64 x3.1 x4.1)) ?_ ?_
      · refine sg 15 (mkE [(112, .own 896 0), (111, .agg [I 0, I 0, I x3.1, I x4.1]), (110, I x4.1), (109, I x3.1), (108, LL a28 x12.1), (107, B true), (107, B (eqI y11a.1 (mulI .i64 x3.1 x4.1))), (106, B (eqI y11a.1 (mulI .i64 x3.1 x4.1))), (105, B (eqI y11a.1 (mulI .i64 x3.1 x4.1))), (104, I (mulI .i64 x3.1 x4.1)), (103, I x4.1), (102, I x3.1), (101, I y11a.1), (100, B true), (100, B (eqI x12.2 0)), (99, B (eqI x12.2 0)), (98, I x12.2), (6, I x3.1), (7, I x4.1), (11, I y11a.1), (16, LL a28 x12.1), (17, I x12.2)] [(896, RR 29 4 a28 ([(S28.mk 0 0 x3.1 x4.1)] : List S28) 0 false)] 118) ?_
        refine co 113 [896] (h23 x12.1 ([(S28.mk 0 0 x3.1 x4.1)] : List S28)) (fun x13 => ?_)
        refine sg 18 (mkE [(115, B x13), (114, B x13), (113, B x13), (112, .own 896 0), (111, .agg [I 0, I 0, I x3.1, I x4.1]), (110, I x4.1), (109, I x3.1), (108, LL a28 x12.1), (107, B true), (107, B (eqI y11a.1 (mulI .i64 x3.1 x4.1))), (106, B (eqI y11a.1 (mulI .i64 x3.1 x4.1))), (105, B (eqI y11a.1 (mulI .i64 x3.1 x4.1))), (104, I (mulI .i64 x3.1 x4.1)), (103, I x4.1), (102, I x3.1), (101, I y11a.1), (100, B true), (100, B (eqI x12.2 0)), (99, B (eqI x12.2 0)), (98, I x12.2), (6, I x3.1), (7, I x4.1), (11, I y11a.1), (16, LL a28 x12.1), (17, I x12.2)] [(896, RR 29 4 a28 ([(S28.mk 0 0 x3.1 x4.1)] : List S28) 0 false)] 118) ?_
        refine sb 115 x13 ?_ ?_
        · refine co 116 [] (h26) (fun x14 => ?_)
          refine se (mkE [(2, B x14)] [] 118) ?_
          refine pN ?_
          refine pS ?_
          refine gE ?_
          exact pL
        · refine se (mkE [(2, B false)] [] 118) ?_
          refine pN ?_
          refine pS ?_
          refine gE ?_
          exact pL
      · refine se (mkE [(2, B false)] [] 118) ?_
        refine pN ?_
        refine pS ?_
        refine gE ?_
        exact pL
    · refine se (mkE [(2, B false)] [] 118) ?_
      refine pN ?_
      refine pS ?_
      refine gE ?_
      exact pL
  · exact pL
theorem F5 (m : Nat) (hm : 11 ≤ m) (p0 : (List Int)) : callA Tryz.prog cfg m 5 [LL I p0] = (T5 p0).map B := by
  obtain ⟨q, rfl⟩ : ∃ q, m = q + 1 := ⟨m - 1, by omega⟩
  exact (callA_body (fn := Tryz.f5) (c := body_ Tryz.f5) q _ (by kernel_rfl) (by kernel_rfl) (by kernel_rfl)).trans (B5 _ (fun p0_c0 p0_c1 p1 p2 => F14 q (by omega) p0_c0 p0_c1 p1 p2) (fun p0 => F16 q (by omega) p0) (fun p0 p1 => F23 q (by omega) p0 p1) (F26 q (by omega)) (fun p0 p1 p2 p3 p4 => F28 q (by omega) p0 p1 p2 p3 p4) p0)

end Go.Abs.TKS
