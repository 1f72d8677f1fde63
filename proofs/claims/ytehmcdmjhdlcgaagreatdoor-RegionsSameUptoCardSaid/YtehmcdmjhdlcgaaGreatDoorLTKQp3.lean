import Derived.Test.YtehmcdmjhdlcgaaGreatDoorLTKQp2
set_option maxRecDepth 100000
set_option linter.unusedVariables false
namespace Go.Abs.TKQ
open Go.RowKit Go.Proofs Go.Abs
noncomputable def T14 (p0_c0 : (List Int)) (p0_c1 : Int) (p1 : Int) (p2 : Int) : Option (Int × (List Int) × Int) := (bif (ltI p2 p1) then (some (p1, p0_c0, p0_c1)) else ((T57 p0_c0 p0_c1 (addI .i64 (subI .i64 p2 p1) 1)).bind fun x1 => (some ((addI .i64 p1 x1.1), x1.2.1, x1.2.2))))
theorem B14 (C : Callee) (h57 : ∀ (p0_c0 : (List Int)) (p0_c1 : Int) (p1 : Int), C 57 [.fb [LL I p0_c0, I p0_c1], I p1] = (T57 p0_c0 p0_c1 p1).map (fun (r : (Int × (List Int) × Int)) => AV.inp (I r.1) (.fb [LL I r.2.1, I r.2.2]))) (p0_c0 : (List Int)) (p0_c1 : Int) (p1 : Int) (p2 : Int) : runs Tryz.prog C (cfg.fn 14) (finFnI Tryz.prog Tryz.f14) [] (execA Tryz.prog C (cfg.fn 14) (nr Tryz.f14 []) (frame0 [.fb [LL I p0_c0, I p0_c1], I p1, I p2] 19 true)) = (T14 p0_c0 p0_c1 p1 p2).map (fun (r : (Int × (List Int) × Int)) => AV.inp (I r.1) (.fb [LL I r.2.1, I r.2.2])) := by
  unfold T14
  refine gS 1 ?_
  refine gR 0 (rg Tryz.f14 0) ?_
  refine se (mkE [(0, .ba 0 0), (1, I p1), (2, I p2)] [(0, .box [LL I p0_c0, I p0_c1] false)] ⟨19, true⟩) ?_
  refine pN ?_
  refine pS ?_
  refine gS 3 ?_
  refine gS 0 ?_
  refine gR 1 (rg Tryz.f14 1) ?_
  refine se (mkE [(0, .ba 0 0), (1, I p1), (2, I p2), (9, B (ltI p2 p1))] [(0, .box [LL I p0_c0, I p0_c1] false)] ⟨19, true⟩) ?_
  refine pN ?_
  refine pS ?_
  refine gC 9 (ltI p2 p1) ?_ ?_
  · refine gS 0 ?_
    refine gR 2 (rg Tryz.f14 2) ?_
    refine se (mkE [(0, .ba 0 0), (6, I p1)] [(0, .box [LL I p0_c0, I p0_c1] false)] ⟨19, true⟩) ?_
    refine pN ?_
    refine pS ?_
    refine gE ?_
    exact pL
  · refine gK ?_
    refine pN ?_
    refine pS ?_
    refine gS 0 ?_
    refine gR 3 (rg Tryz.f14 3) ?_
    refine sg 6 (mkE [(16, I (addI .i64 (subI .i64 p2 p1) 1)), (15, I (subI .i64 p2 p1)), (14, I p1), (13, I p2), (12, .ba 0 0), (11, I p1), (0, .ba 0 0), (1, I p1), (2, I p2), (9, B (ltI p2 p1))] [(0, .box [LL I p0_c0, I p0_c1] false)] ⟨19, true⟩) ?_
    refine mo (some 17) (ipB 57 0 [LL I p0_c0, I p0_c1] [LL I p0_c0, I p0_c1] [I (addI .i64 (subI .i64 p2 p1) 1)] [I (addI .i64 (subI .i64 p2 p1) 1)] [] (fun x : (Int × (List Int) × Int) => I x.1) (fun x : (Int × (List Int) × Int) => [LL I x.2.1, I x.2.2]) (h57 p0_c0 p0_c1 (addI .i64 (subI .i64 p2 p1) 1))) (fun x1 => ?_)
    refine se (mkE [(0, .ba 0 0), (6, I (addI .i64 p1 x1.1))] [(0, .box [LL I x1.2.1, I x1.2.2] false)] ⟨19, true⟩) ?_
    refine pN ?_
    refine pS ?_
    refine gE ?_
    exact pL
theorem F14 (m : Nat) (hm : 3 ≤ m) (p0_c0 : (List Int)) (p0_c1 : Int) (p1 : Int) (p2 : Int) : callA Tryz.prog cfg m 14 [.fb [LL I p0_c0, I p0_c1], I p1, I p2] = (T14 p0_c0 p0_c1 p1 p2).map (fun (r : (Int × (List Int) × Int)) => AV.inp (I r.1) (.fb [LL I r.2.1, I r.2.2])) := by
  obtain ⟨q, rfl⟩ : ∃ q, m = q + 1 := ⟨m - 1, by omega⟩
  exact (callA_bodyI (fn := Tryz.f14) (c := body_ Tryz.f14) q _ (by kernel_rfl) (by kernel_rfl) (by kernel_rfl)).trans (B14 _ (fun p0_c0 p0_c1 p1 => F57 q (by omega) p0_c0 p0_c1 p1) p0_c0 p0_c1 p1 p2)

noncomputable def T15 (p0_c0 : (List Int)) (p0_c1 : Int) : Option (S28 × (List Int) × Int) := ((T14 p0_c0 p0_c1 (-2) 8).bind fun x1 => ((T14 x1.2.1 x1.2.2 (-2) 8).bind fun x2 => ((T14 x2.2.1 x2.2.2 1 5).bind fun x3 => ((T14 x3.2.1 x3.2.2 1 5).bind fun x4 => (some ((S28.mk x1.1 x2.1 x3.1 x4.1), x4.2.1, x4.2.2))))))
theorem B15 (C : Callee) (h14 : ∀ (p0_c0 : (List Int)) (p0_c1 : Int) (p1 : Int) (p2 : Int), C 14 [.fb [LL I p0_c0, I p0_c1], I p1, I p2] = (T14 p0_c0 p0_c1 p1 p2).map (fun (r : (Int × (List Int) × Int)) => AV.inp (I r.1) (.fb [LL I r.2.1, I r.2.2]))) (p0_c0 : (List Int)) (p0_c1 : Int) : runs Tryz.prog C (cfg.fn 15) (finFnI Tryz.prog Tryz.f15) [] (execA Tryz.prog C (cfg.fn 15) (nr Tryz.f15 []) (frame0 [.fb [LL I p0_c0, I p0_c1]] 12 true)) = (T15 p0_c0 p0_c1).map (fun (r : (S28 × (List Int) × Int)) => AV.inp (a28 r.1) (.fb [LL I r.2.1, I r.2.2])) := by
  unfold T15
  let o_0 : List (Nat × AObj) := [(0, .box [LL I p0_c0, I p0_c1] false), (16, .box [I 0, I 0, I 0, I 0] false)]
  refine gS 1 ?_
  refine gR 0 (rg Tryz.f15 0) ?_
  refine se (mkE [(0, .ba 0 0), (2, .ba 16 0)] o_0 ⟨12, true⟩) ?_
  refine pN ?_
  refine pS ?_
  refine gS 0 ?_
  refine gR 1 (rg Tryz.f15 1) ?_
  refine sg 1 (mkE [(3, .ba 0 0), (0, .ba 0 0), (2, .ba 16 0)] o_0 ⟨12, true⟩) ?_
  refine mo (some 4) (ipB 14 0 [LL I p0_c0, I p0_c1] [LL I p0_c0, I p0_c1] [I (-2), I 8] [I (-2), I 8] [] (fun x : (Int × (List Int) × Int) => I x.1) (fun x : (Int × (List Int) × Int) => [LL I x.2.1, I x.2.2]) (h14 p0_c0 p0_c1 (-2) 8)) (fun x1 => ?_)
  refine sg 3 (mkE [(5, .ba 0 0), (4, I x1.1), (3, .ba 0 0), (0, .ba 0 0), (2, .ba 16 0)] ((0, .box [LL I x1.2.1, I x1.2.2] false) :: o_0) ⟨12, true⟩) ?_
  refine mo (some 6) (ipB 14 0 [LL I x1.2.1, I x1.2.2] [LL I x1.2.1, I x1.2.2] [I (-2), I 8] [I (-2), I 8] [] (fun x : (Int × (List Int) × Int) => I x.1) (fun x : (Int × (List Int) × Int) => [LL I x.2.1, I x.2.2]) (h14 x1.2.1 x1.2.2 (-2) 8)) (fun x2 => ?_)
  refine sg 5 (mkE [(7, .ba 0 0), (6, I x2.1), (5, .ba 0 0), (4, I x1.1), (3, .ba 0 0), (0, .ba 0 0), (2, .ba 16 0)] ((0, .box [LL I x2.2.1, I x2.2.2] false) :: ((0, .box [LL I x1.2.1, I x1.2.2] false) :: o_0)) ⟨12, true⟩) ?_
  refine mo (some 8) (ipB 14 0 [LL I x2.2.1, I x2.2.2] [LL I x2.2.1, I x2.2.2] [I 1, I 5] [I 1, I 5] [] (fun x : (Int × (List Int) × Int) => I x.1) (fun x : (Int × (List Int) × Int) => [LL I x.2.1, I x.2.2]) (h14 x2.2.1 x2.2.2 1 5)) (fun x3 => ?_)
  refine sg 7 (mkE [(9, .ba 0 0), (8, I x3.1), (7, .ba 0 0), (6, I x2.1), (5, .ba 0 0), (4, I x1.1), (3, .ba 0 0), (0, .ba 0 0), (2, .ba 16 0)] ((0, .box [LL I x3.2.1, I x3.2.2] false) :: ((0, .box [LL I x2.2.1, I x2.2.2] false) :: ((0, .box [LL I x1.2.1, I x1.2.2] false) :: o_0))) ⟨12, true⟩) ?_
  refine mo (some 10) (ipB 14 0 [LL I x3.2.1, I x3.2.2] [LL I x3.2.1, I x3.2.2] [I 1, I 5] [I 1, I 5] [] (fun x : (Int × (List Int) × Int) => I x.1) (fun x : (Int × (List Int) × Int) => [LL I x.2.1, I x.2.2]) (h14 x3.2.1 x3.2.2 1 5)) (fun x4 => ?_)
  refine se (mkE [(0, .ba 0 0), (2, .ba 16 0)] [(0, .box [LL I x4.2.1, I x4.2.2] false), (16, .box [I x1.1, I x2.1, I x3.1, I x4.1] false)] ⟨12, true⟩) ?_
  refine pN ?_
  refine pS ?_
  refine gE ?_
  exact pL
theorem F15 (m : Nat) (hm : 4 ≤ m) (p0_c0 : (List Int)) (p0_c1 : Int) : callA Tryz.prog cfg m 15 [.fb [LL I p0_c0, I p0_c1]] = (T15 p0_c0 p0_c1).map (fun (r : (S28 × (List Int) × Int)) => AV.inp (a28 r.1) (.fb [LL I r.2.1, I r.2.2])) := by
  obtain ⟨q, rfl⟩ : ∃ q, m = q + 1 := ⟨m - 1, by omega⟩
  exact (callA_bodyI (fn := Tryz.f15) (c := body_ Tryz.f15) q _ (by kernel_rfl) (by kernel_rfl) (by kernel_rfl)).trans (B15 _ (fun p0_c0 p0_c1 p1 p2 => F14 q (by omega) p0_c0 p0_c1 p1 p2) p0_c0 p0_c1)

noncomputable def T59 (p0 : (List S28)) : Option ((List S28) × Int) := (bif (ltI 2000 (lenL p0)) then (some ([], 2)) else (some (p0, 0)))
theorem B59 (C : Callee) (p0 : (List S28)) : runs Tryz.prog C (cfg.fn 59) (finFn Tryz.prog (cfg.fn 59).byval Tryz.f59) [] (execA Tryz.prog C (cfg.fn 59) (nr Tryz.f59 []) (frame0 [LL a28 p0] 8 false)) = (T59 p0).map (fun r => AV.tup [(LL a28) r.1, I r.2]) := by
  unfold T59
  refine gS 1 ?_
  refine gR 0 (rg Tryz.f59 0) ?_
  refine se (mkE [(0, LL a28 p0)] [] 8) ?_
  refine pN ?_
  refine pS ?_
  refine gS 3 ?_
  refine gS 0 ?_
  refine gR 1 (rg Tryz.f59 1) ?_
  refine sg 1 (mkE [(4, LL a28 p0), (0, LL a28 p0)] [] 8) ?_
  refine eo 5 (I (lenL p0)) (lenE 26 a28 p0) ?_
  refine se (mkE [(0, LL a28 p0), (6, B (ltI 2000 (lenL p0)))] [] 8) ?_
  refine pN ?_
  refine pS ?_
  refine gC 6 (ltI 2000 (lenL p0)) ?_ ?_
  · refine gS 0 ?_
    refine gR 2 (rg Tryz.f59 2) ?_
    refine se (mkE [(2, .nils), (3, I 2)] [] 8) ?_
    refine pN ?_
    refine pS ?_
    refine gE ?_
    exact pL
  · refine gK ?_
    refine pN ?_
    refine pS ?_
    refine gS 0 ?_
    refine gR 3 (rg Tryz.f59 3) ?_
    refine se (mkE [(2, LL a28 p0), (3, I 0)] [] 8) ?_
    refine pN ?_
    refine pS ?_
    refine gE ?_
    exact pL
theorem F59 (m : Nat) (hm : 1 ≤ m) (p0 : (List S28)) : callA Tryz.prog cfg m 59 [LL a28 p0] = (T59 p0).map (fun r => AV.tup [(LL a28) r.1, I r.2]) := by
  obtain ⟨q, rfl⟩ : ∃ q, m = q + 1 := ⟨m - 1, by omega⟩
  exact (callA_body (fn := Tryz.f59) (c := body_ Tryz.f59) q _ (by kernel_rfl) (by kernel_rfl) (by kernel_rfl)).trans (B59 _ p0)

noncomputable def T16 (p0 : (List S28)) : Option ((List S28) × Int) := ((T58 p0).bind fun x1 => (bif (neI x1 0) then (some ([], x1)) else ((T60 p0 []).bind fun x2 => ((T59 x2).bind fun x3 => (some (x3.1, x3.2))))))
theorem B16 (C : Callee) (h58 : ∀ (p0 : (List S28)), C 58 [LL a28 p0] = (T58 p0).map I) (h59 : ∀ (p0 : (List S28)), C 59 [LL a28 p0] = (T59 p0).map (fun r => AV.tup [(LL a28) r.1, I r.2])) (h60 : ∀ (p0 : (List S28)) (p1 : (List S28)), C 60 [LL a28 p0, LL a28 p1] = (T60 p0 p1).map (fun l => AV.fr 29 4 (List.map a28 l))) (p0 : (List S28)) : runs Tryz.prog C (cfg.fn 16) (finFn Tryz.prog (cfg.fn 16).byval Tryz.f16) [] (execA Tryz.prog C (cfg.fn 16) (nr Tryz.f16 []) (frame0 [LL a28 p0] 15 false)) = (T16 p0).map (fun r => AV.tup [(LL a28) r.1, I r.2]) := by
  unfold T16
  refine gS 1 ?_
  refine gR 0 (rg Tryz.f16 0) ?_
  refine se (mkE [(0, LL a28 p0)] [] 15) ?_
  refine pN ?_
  refine pS ?_
  refine gS 4 ?_
  refine gS 2 ?_
  refine gR 1 (rg Tryz.f16 1) ?_
  refine sg 1 (mkE [(5, LL a28 p0), (0, LL a28 p0)] [] 15) ?_
  refine co 6 [] (h58 p0) (fun x1 => ?_)
  refine se (mkE [(0, LL a28 p0), (4, I x1)] [] 15) ?_
  refine pN ?_
  refine pS ?_
  refine gS 0 ?_
  refine gR 2 (rg Tryz.f16 2) ?_
  refine se (mkE [(0, LL a28 p0), (4, I x1), (8, B (neI x1 0))] [] 15) ?_
  refine pN ?_
  refine pS ?_
  refine gC 8 (neI x1 0) ?_ ?_
  · refine gS 0 ?_
    refine gR 3 (rg Tryz.f16 3) ?_
    refine se (mkE [(2, .nils), (3, I x1)] [] 15) ?_
    refine pN ?_
    refine pS ?_
    refine gE ?_
    exact pL
  · refine gK ?_
    refine pN ?_
    refine pS ?_
    refine gS 0 ?_
    refine gR 4 (rg Tryz.f16 4) ?_
    refine sg 1 (mkE [(10, LL a28 p0), (0, LL a28 p0), (4, I x1), (8, B (neI x1 0))] [] 15) ?_
    refine co 11 [] (h60 p0 []) (fun x2 => ?_)
    refine co 12 [88] (h59 x2) (fun x3 => ?_)
    refine se (mkE [(2, LL a28 x3.1), (3, I x3.2)] [] 15) ?_
    refine pN ?_
    refine pS ?_
    refine gE ?_
    exact pL
theorem F16 (m : Nat) (hm : 5 ≤ m) (p0 : (List S28)) : callA Tryz.prog cfg m 16 [LL a28 p0] = (T16 p0).map (fun r => AV.tup [(LL a28) r.1, I r.2]) := by
  obtain ⟨q, rfl⟩ : ∃ q, m = q + 1 := ⟨m - 1, by omega⟩
  exact (callA_body (fn := Tryz.f16) (c := body_ Tryz.f16) q _ (by kernel_rfl) (by kernel_rfl) (by kernel_rfl)).trans (B16 _ (fun p0 => F58 q (by omega) p0) (fun p0 => F59 q (by omega) p0) (fun p0 p1 => F60 q (by omega) p0 p1) p0)

theorem F17 (m : Nat) (hm : 1 ≤ m) (p0 : (List S28)) : callA Tryz.prog cfg m 17 [LL a28 p0] = (appO 32 ([] : List S28) p0).map (fun l => AV.fr 29 4 (List.map a28 l)) := by
  obtain ⟨q, rfl⟩ : ∃ q, m = q + 1 := ⟨m - 1, by omega⟩
  exact (callA_leaf (L := (leafClone Tryz.prog 29 4 32)) _ _ (by kernel_rfl)).trans (clone_leaf a28 _ _ (fun _ => by kernel_rfl))

theorem F18 (m : Nat) (hm : 1 ≤ m) (p0 : (List S28)) : callA Tryz.prog cfg m 18 [.fr 29 4 (List.map a28 p0)] = (revO p0).map (fun (r : (List S28)) => AV.inp (.tup []) (.fr 29 4 (List.map a28 r))) := by
  obtain ⟨q, rfl⟩ : ∃ q, m = q + 1 := ⟨m - 1, by omega⟩
  exact (callA_leaf (L := (leafRev 29 4)) _ _ (by kernel_rfl)).trans (rev_leaf 29 4 a28 _ p0)

noncomputable def L19_2 (p0 : (List S28)) (p1 : (List S28)) (z0 : Int) : Option (Int ⊕ ((Int × Bool) ⊕ Int)) := (bif (ltI z0 2) then ((listAt [p0, p1] z0).bind fun x1 => ((T58 x1).bind fun x2 => (bif (neI x2 0) then (some (.inr (.inr x2))) else (some (.inl (addI .i64 z0 1)))))) else (some (.inr (.inl (z0, (ltI z0 2))))))
theorem L19_2_ok (C : Callee) (h58 : ∀ (p0 : (List S28)), C 58 [LL a28 p0] = (T58 p0).map I) (p0 : (List S28)) (p1 : (List S28)) (z0 : Int) : runs Tryz.prog C (cfg.fn 19) (finLoop ((cfg.fn 19).keep 2) ((cfg.fn 19).al 2)) [] (execA Tryz.prog C (cfg.fn 19) (nr Tryz.f19 [false, false, true, false, true]) ((fun z0 : Int => (mkE [(0, LL a28 p0), (1, LL a28 p1), (11, .agg [LL a28 p0, LL a28 p1]), (12, I z0)] [] 27)) z0)) = (L19_2 p0 p1 z0).map (Sum.elim (fun z => .inl ((fun z0 : Int => (mkE [(0, LL a28 p0), (1, LL a28 p1), (11, .agg [LL a28 p0, LL a28 p1]), (12, I z0)] [] 27)) z)) (fun x => .inr ((Sum.elim (fun (x : (Int × Bool)) => (.exit 0, (mkE [(0, LL a28 p0), (1, LL a28 p1), (11, .agg [LL a28 p0, LL a28 p1]), (12, I x.1), (13, B x.2)] [] 27))) (fun (x : Int) => (.ret, (mkE [(4, .nils), (5, I x)] [] 27)))) x))) := by
  unfold L19_2
  let s_0 : List (Nat × AV) := [(11, .agg [LL a28 p0, LL a28 p1]), (12, I z0)]
  let s_1 : List (Nat × AV) := [(0, LL a28 p0), (1, LL a28 p1)]
  refine gS 0 ?_
  refine gR 2 (rg Tryz.f19 2) ?_
  refine se (mkE (s_1.append (s_0.append [(13, B (ltI z0 2))])) [] 27) ?_
  refine pN ?_
  refine pS ?_
  refine gS 3 ?_
  refine gC 13 (ltI z0 2) ?_ ?_
  · refine gK ?_
    refine pN ?_
    refine pS ?_
    refine gS 7 ?_
    refine gB 1 ?_
    refine gS 4 ?_
    refine gR 3 (rg Tryz.f19 3) ?_
    refine vo 14 (arrE 124 26 1 2 false (LL a28) .i64 z0 (.tmp 11) (.tmp 12) [LL a28 p0, LL a28 p1] [p0, p1]) (fun x1 => ?_)
    refine se (mkE (s_1.append ((7, LL a28 x1) :: s_0)) [] 27) ?_
    refine pN ?_
    refine pS ?_
    refine gS 5 ?_
    refine gR 4 (rg Tryz.f19 4) ?_
    refine sg 1 (mkE ((15, LL a28 x1) :: (s_1.append ((7, LL a28 x1) :: s_0))) [] 27) ?_
    refine co 16 [] (h58 x1) (fun x2 => ?_)
    refine se (mkE (s_1.append ((8, I x2) :: s_0)) [] 27) ?_
    refine pN ?_
    refine pS ?_
    refine gS 0 ?_
    refine gR 5 (rg Tryz.f19 5) ?_
    refine se (mkE (s_1.append ((8, I x2) :: (s_0.append [(18, B (neI x2 0))]))) [] 27) ?_
    refine pN ?_
    refine pS ?_
    refine gC 18 (neI x2 0) ?_ ?_
    · refine gS 0 ?_
      refine gR 6 (rg Tryz.f19 6) ?_
      refine se (mkE [(4, .nils), (5, I x2)] [] 27) ?_
      refine pN ?_
      refine pS ?_
      refine gE ?_
      exact pL
    · refine gK ?_
      refine pB ?_
      refine pN ?_
      refine pS ?_
      refine gR 7 (rg Tryz.f19 7) ?_
      refine se (mkE (s_1.append ((11, .agg [LL a28 p0, LL a28 p1]) :: [(12, I (addI .i64 z0 1))])) [] 27) ?_
      exact pL
  · refine gX 0 ?_
    exact pL
noncomputable def T19 (p0 : (List S28)) (p1 : (List S28)) : Option ((List S28) × Int) := ((iter (L19_2 p0 p1) 0).bind fun y3 => (Sum.elim (fun y3a => ((T60 p0 p1).bind fun x4 => ((T59 x4).bind fun x5 => (some (x5.1, x5.2))))) (fun y3b => (some ([], y3b))) y3))
theorem B19 (C : Callee) (h58 : ∀ (p0 : (List S28)), C 58 [LL a28 p0] = (T58 p0).map I) (h59 : ∀ (p0 : (List S28)), C 59 [LL a28 p0] = (T59 p0).map (fun r => AV.tup [(LL a28) r.1, I r.2])) (h60 : ∀ (p0 : (List S28)) (p1 : (List S28)), C 60 [LL a28 p0, LL a28 p1] = (T60 p0 p1).map (fun l => AV.fr 29 4 (List.map a28 l))) (p0 : (List S28)) (p1 : (List S28)) : runs Tryz.prog C (cfg.fn 19) (finFn Tryz.prog (cfg.fn 19).byval Tryz.f19) [] (execA Tryz.prog C (cfg.fn 19) (nr Tryz.f19 []) (frame0 [LL a28 p0, LL a28 p1] 27 false)) = (T19 p0 p1).map (fun r => AV.tup [(LL a28) r.1, I r.2]) := by
  unfold T19
  let s_0 : List (Nat × AV) := [(0, LL a28 p0), (1, LL a28 p1), (11, .agg [LL a28 p0, LL a28 p1])]
  refine gS 1 ?_
  refine gR 0 (rg Tryz.f19 0) ?_
  refine se (mkE [(0, LL a28 p0), (1, LL a28 p1)] [] 27) ?_
  refine pN ?_
  refine pS ?_
  refine gS 8 ?_
  refine gS 2 ?_
  refine gR 1 (rg Tryz.f19 1) ?_
  refine se (mkE (s_0.append [(12, I 0)]) [] 27) ?_
  refine pN ?_
  refine pS ?_
  refine gB 0 ?_
  refine lo [(0, none), (1, none), (11, none), (12, none)] [] (L19_2 p0 p1) (fun z0 : Int => (mkE (s_0.append [(12, I z0)]) [] 27)) (Sum.elim (fun (x : (Int × Bool)) => (.exit 0, (mkE (s_0.append ((12, I x.1) :: [(13, B x.2)])) [] 27))) (fun (x : Int) => (.ret, (mkE [(4, .nils), (5, I x)] [] 27)))) 0 (fun z => L19_2_ok C h58 p0 p1 z) ?_
  intro y3
  refine ss y3 (Z := (Sum.elim (fun (x : (Int × Bool)) => (.exit 0, (mkE (s_0.append ((12, I x.1) :: [(13, B x.2)])) [] 27))) (fun (x : Int) => (.ret, (mkE [(4, .nils), (5, I x)] [] 27))))) (fun y3a => ?_) (fun y3b => ?_)
  · refine pH ?_
    refine pN ?_
    refine pS ?_
    refine gS 0 ?_
    refine gR 8 (rg Tryz.f19 8) ?_
    refine sg 2 (mkE ((22, LL a28 p1) :: ((21, LL a28 p0) :: (s_0.append ((12, I y3a.1) :: [(13, B y3a.2)])))) [] 27) ?_
    refine co 23 [] (h60 p0 p1) (fun x4 => ?_)
    refine co 24 [184] (h59 x4) (fun x5 => ?_)
    refine se (mkE [(4, LL a28 x5.1), (5, I x5.2)] [] 27) ?_
    refine pN ?_
    refine pS ?_
    refine gE ?_
    exact pL
  · exact pL
theorem F19 (m : Nat) (hm : 5 ≤ m) (p0 : (List S28)) (p1 : (List S28)) : callA Tryz.prog cfg m 19 [LL a28 p0, LL a28 p1] = (T19 p0 p1).map (fun r => AV.tup [(LL a28) r.1, I r.2]) := by
  obtain ⟨q, rfl⟩ : ∃ q, m = q + 1 := ⟨m - 1, by omega⟩
  exact (callA_body (fn := Tryz.f19) (c := body_ Tryz.f19) q _ (by kernel_rfl) (by kernel_rfl) (by kernel_rfl)).trans (B19 _ (fun p0 => F58 q (by omega) p0) (fun p0 => F59 q (by omega) p0) (fun p0 p1 => F60 q (by omega) p0 p1) p0 p1)

noncomputable def L23_4 (p0 : (List S28)) (p1 : (List S28)) (z0 : Int) : Option (Int ⊕ ((Int × Bool) ⊕ Unit)) := (bif (ltI z0 (lenL p0)) then ((listAt p0 z0).bind fun x1 => ((listAt p1 z0).bind fun x2 => (bif (!allB [eqI x1.f0 x2.f0, eqI x1.f1 x2.f1, eqI x1.f2 x2.f2, eqI x1.f3 x2.f3]) then (some (.inr (.inr ()))) else (some (.inl (addI .i64 z0 1)))))) else (some (.inr (.inl (z0, (ltI z0 (lenL p0)))))))
theorem L23_4_ok (C : Callee) (p0 : (List S28)) (p1 : (List S28)) (z0 : Int) : runs Tryz.prog C (cfg.fn 23) (finLoop ((cfg.fn 23).keep 4) ((cfg.fn 23).al 4)) [] (execA Tryz.prog C (cfg.fn 23) (nr Tryz.f23 [false, false, true, false, true, true]) ((fun z0 : Int => (mkE [(0, LL a28 p0), (1, LL a28 p1), (12, I (lenL p0)), (13, I z0)] [] 26)) z0)) = (L23_4 p0 p1 z0).map (Sum.elim (fun z => .inl ((fun z0 : Int => (mkE [(0, LL a28 p0), (1, LL a28 p1), (12, I (lenL p0)), (13, I z0)] [] 26)) z)) (fun x => .inr ((Sum.elim (fun (x : (Int × Bool)) => (.exit 0, (mkE [(0, LL a28 p0), (1, LL a28 p1), (12, I (lenL p0)), (13, I x.1), (14, B x.2)] [] 26))) (fun (x : Unit) => (.ret, (mkE [(4, B false)] [] 26)))) x))) := by
  unfold L23_4
  let s_0 : List (Nat × AV) := [(0, LL a28 p0), (1, LL a28 p1), (5, I z0), (12, I (lenL p0)), (13, I z0)]
  refine gS 0 ?_
  refine gR 4 (rg Tryz.f23 4) ?_
  refine se (mkE [(0, LL a28 p0), (1, LL a28 p1), (12, I (lenL p0)), (13, I z0), (14, B (ltI z0 (lenL p0)))] [] 26) ?_
  refine pN ?_
  refine pS ?_
  refine gS 5 ?_
  refine gC 14 (ltI z0 (lenL p0)) ?_ ?_
  · refine gK ?_
    refine pN ?_
    refine pS ?_
    refine gS 8 ?_
    refine gB 1 ?_
    refine gS 6 ?_
    refine gR 5 (rg Tryz.f23 5) ?_
    refine se (mkE s_0 [] 26) ?_
    refine pN ?_
    refine pS ?_
    refine gS 0 ?_
    refine gD 6 9 (rg Tryz.f23 6) [0, 1, 2, 3, 4, 5, 6, 7, 8] ?_
    refine dg 2 [(some 16, qe (LL a28 p0)), (some 17, qe (I z0))] ?_
    refine dv 18 (mkE ((17, I z0) :: ((16, LL a28 p0) :: s_0)) [] 26) (addrE 26 29 4 a28 .i64 p0 z0) (fun x1 => ?_)
    refine dg 6 [(some 16, qe (LL a28 p0)), (some 17, qe (I z0)), (some 18, qe (.ia [I x1.f0, I x1.f1, I x1.f2, I x1.f3] 0)), (some 19, qe (a28 x1)), (some 20, qe (LL a28 p1)), (some 21, qe (I z0))] ?_
    refine dv 22 (mkE ((21, I z0) :: ((20, LL a28 p1) :: s_0)) [] 26) (addrE 26 29 4 a28 .i64 p1 z0) (fun x2 => ?_)
    refine dg 8 [(some 16, qe (LL a28 p0)), (some 17, qe (I z0)), (some 18, qe (.ia [I x1.f0, I x1.f1, I x1.f2, I x1.f3] 0)), (some 19, qe (a28 x1)), (some 20, qe (LL a28 p1)), (some 21, qe (I z0)), (some 22, qe (.ia [I x2.f0, I x2.f1, I x2.f2, I x2.f3] 0)), (some 23, qe (a28 x2))] ?_
    refine df 24 (B (!allB [eqI x1.f0 x2.f0, eqI x1.f1 x2.f1, eqI x1.f2 x2.f2, eqI x1.f3 x2.f3])) (mkE ((23, a28 x2) :: ((22, .ia [I x2.f0, I x2.f1, I x2.f2, I x2.f3] 0) :: ((21, I z0) :: ((20, LL a28 p1) :: ((19, a28 x1) :: ((18, .ia [I x1.f0, I x1.f1, I x1.f2, I x1.f3] 0) :: ((17, I z0) :: ((16, LL a28 p0) :: s_0)))))))) [] 26) (neqE 29 (.tmp 19) (.tmp 23) [I x1.f0, I x1.f1, I x1.f2, I x1.f3] [I x2.f0, I x2.f1, I x2.f2, I x2.f3] [.int .i64 x1.f0, .int .i64 x1.f1, .int .i64 x1.f2, .int .i64 x1.f3] [.int .i64 x2.f0, .int .i64 x2.f1, .int .i64 x2.f2, .int .i64 x2.f3] [eqI x1.f0 x2.f0, eqI x1.f1 x2.f1, eqI x1.f2 x2.f2, eqI x1.f3 x2.f3]) ?_
    refine de (mkE ((24, B (!allB [eqI x1.f0 x2.f0, eqI x1.f1 x2.f1, eqI x1.f2 x2.f2, eqI x1.f3 x2.f3])) :: ((23, a28 x2) :: ((22, .ia [I x2.f0, I x2.f1, I x2.f2, I x2.f3] 0) :: ((21, I z0) :: ((20, LL a28 p1) :: ((19, a28 x1) :: ((18, .ia [I x1.f0, I x1.f1, I x1.f2, I x1.f3] 0) :: ((17, I z0) :: ((16, LL a28 p0) :: s_0))))))))) [] 26) ?_
    refine se (mkE [(0, LL a28 p0), (1, LL a28 p1), (12, I (lenL p0)), (13, I z0), (24, B (!allB [eqI x1.f0 x2.f0, eqI x1.f1 x2.f1, eqI x1.f2 x2.f2, eqI x1.f3 x2.f3]))] [] 26) ?_
    refine pN ?_
    refine pS ?_
    refine gC 24 (!allB [eqI x1.f0 x2.f0, eqI x1.f1 x2.f1, eqI x1.f2 x2.f2, eqI x1.f3 x2.f3]) ?_ ?_
    · refine gS 0 ?_
      refine gR 7 (rg Tryz.f23 7) ?_
      refine se (mkE [(4, B false)] [] 26) ?_
      refine pN ?_
      refine pS ?_
      refine gE ?_
      exact pL
    · refine gK ?_
      refine pB ?_
      refine pN ?_
      refine pS ?_
      refine gR 8 (rg Tryz.f23 8) ?_
      refine se (mkE [(0, LL a28 p0), (1, LL a28 p1), (12, I (lenL p0)), (13, I (addI .i64 z0 1))] [] 26) ?_
      exact pL
  · refine gX 0 ?_
    exact pL
noncomputable def T23 (p0 : (List S28)) (p1 : (List S28)) : Option Bool := (bif (neI (lenL p0) (lenL p1)) then (some false) else ((iter (L23_4 p0 p1) 0).bind fun y3 => (Sum.elim (fun y3a => (some true)) (fun y3b => (some false)) y3)))
theorem B23 (C : Callee) (p0 : (List S28)) (p1 : (List S28)) : runs Tryz.prog C (cfg.fn 23) (finFn Tryz.prog (cfg.fn 23).byval Tryz.f23) [] (execA Tryz.prog C (cfg.fn 23) (nr Tryz.f23 []) (frame0 [LL a28 p0, LL a28 p1] 26 false)) = (T23 p0 p1).map B := by
  unfold T23
  let s_0 : List (Nat × AV) := [(0, LL a28 p0), (1, LL a28 p1)]
  refine gS 1 ?_
  refine gR 0 (rg Tryz.f23 0) ?_
  refine se (mkE s_0 [] 26) ?_
  refine pN ?_
  refine pS ?_
  refine gS 3 ?_
  refine gS 0 ?_
  refine gR 1 (rg Tryz.f23 1) ?_
  refine sg 1 (mkE ((6, LL a28 p0) :: s_0) [] 26) ?_
  refine eo 7 (I (lenL p0)) (lenE 26 a28 p0) ?_
  refine sg 3 (mkE ((8, LL a28 p1) :: ((7, I (lenL p0)) :: ((6, LL a28 p0) :: s_0))) [] 26) ?_
  refine eo 9 (I (lenL p1)) (lenE 26 a28 p1) ?_
  refine se (mkE (s_0.append [(10, B (neI (lenL p0) (lenL p1)))]) [] 26) ?_
  refine pN ?_
  refine pS ?_
  refine gC 10 (neI (lenL p0) (lenL p1)) ?_ ?_
  · refine gS 0 ?_
    refine gR 2 (rg Tryz.f23 2) ?_
    refine se (mkE [(4, B false)] [] 26) ?_
    refine pN ?_
    refine pS ?_
    refine gE ?_
    exact pL
  · refine gK ?_
    refine pN ?_
    refine pS ?_
    refine gS 9 ?_
    refine gS 4 ?_
    refine gR 3 (rg Tryz.f23 3) ?_
    refine sg 1 (mkE ((11, LL a28 p0) :: (s_0.append [(10, B (neI (lenL p0) (lenL p1)))])) [] 26) ?_
    refine eo 12 (I (lenL p0)) (lenE 26 a28 p0) ?_
    refine se (mkE (s_0.append ((12, I (lenL p0)) :: [(13, I 0)])) [] 26) ?_
    refine pN ?_
    refine pS ?_
    refine gB 0 ?_
    refine lo [(0, none), (1, none), (12, none), (13, none)] [] (L23_4 p0 p1) (fun z0 : Int => (mkE (s_0.append ((12, I (lenL p0)) :: [(13, I z0)])) [] 26)) (Sum.elim (fun (x : (Int × Bool)) => (.exit 0, (mkE (s_0.append ((12, I (lenL p0)) :: ((13, I x.1) :: [(14, B x.2)]))) [] 26))) (fun (x : Unit) => (.ret, (mkE [(4, B false)] [] 26)))) 0 (fun z => L23_4_ok C p0 p1 z) ?_
    intro y3
    refine ss y3 (Z := (Sum.elim (fun (x : (Int × Bool)) => (.exit 0, (mkE (s_0.append ((12, I (lenL p0)) :: ((13, I x.1) :: [(14, B x.2)]))) [] 26))) (fun (x : Unit) => (.ret, (mkE [(4, B false)] [] 26))))) (fun y3a => ?_) (fun y3b => ?_)
    · refine pH ?_
      refine pN ?_
      refine pS ?_
      refine gS 0 ?_
      refine gR 9 (rg Tryz.f23 9) ?_
      refine se (mkE [(4, B true)] [] 26) ?_
      refine pN ?_
      refine pS ?_
      refine gE ?_
      exact pL
    · exact pL
theorem F23 (m : Nat) (hm : 1 ≤ m) (p0 : (List S28)) (p1 : (List S28)) : callA Tryz.prog cfg m 23 [LL a28 p0, LL a28 p1] = (T23 p0 p1).map B := by
  obtain ⟨q, rfl⟩ : ∃ q, m = q + 1 := ⟨m - 1, by omega⟩
  exact (callA_body (fn := Tryz.f23) (c := body_ Tryz.f23) q _ (by kernel_rfl) (by kernel_rfl) (by kernel_rfl)).trans (B23 _ p0 p1)

noncomputable def T64 (p0 : S28) (p1 : S28) : Option (S28 × Bool) := (bif (leI (subI .i64 (minI (addI .i64 p0.f0 p0.f2) (addI .i64 p1.f0 p1.f2)) (maxI p0.f0 p1.f0)) 0) then (some ((S28.mk 0 0 0 0), false)) else (bif (leI (subI .i64 (minI (addI .i64 p0.f1 p0.f3) (addI .i64 p1.f1 p1.f3)) (maxI p0.f1 p1.f1)) 0) then (some ((S28.mk 0 0 0 0), false)) else (some ((S28.mk (maxI p0.f0 p1.f0) (maxI p0.f1 p1.f1) (subI .i64 (minI (addI .i64 p0.f0 p0.f2) (addI .i64 p1.f0 p1.f2)) (maxI p0.f0 p1.f0)) (subI .i64 (minI (addI .i64 p0.f1 p0.f3) (addI .i64 p1.f1 p1.f3)) (maxI p0.f1 p1.f1))), true))))
theorem B64 (C : Callee) (p0 : S28) (p1 : S28) : runs Tryz.prog C (cfg.fn 64) (finFn Tryz.prog (cfg.fn 64).byval Tryz.f64) [] (execA Tryz.prog C (cfg.fn 64) (nr Tryz.f64 []) (frame0 [a28 p0, a28 p1] 58 false)) = (T64 p0 p1).map (fun r => AV.tup [a28 r.1, B r.2]) := by
  unfold T64
  let s_0 : List (Nat × AV) := [(4, .ba 32 0), (6, I (maxI p0.f0 p1.f0)), (7, I (maxI p0.f1 p1.f1)), (8, I (subI .i64 (minI (addI .i64 p0.f0 p0.f2) (addI .i64 p1.f0 p1.f2)) (maxI p0.f0 p1.f0))), (9, I (subI .i64 (minI (addI .i64 p0.f1 p0.f3) (addI .i64 p1.f1 p1.f3)) (maxI p0.f1 p1.f1)))]
  let o_0 : List (Nat × AObj) := [(32, .box [I 0, I 0, I 0, I 0] false)]
  refine gS 1 ?_
  refine gR 0 (rg Tryz.f64 0) ?_
  refine se (mkE [(2, .ba 16 0), (3, .ba 24 0), (4, .ba 32 0)] ((16, .box [I p0.f0, I p0.f1, I p0.f2, I p0.f3] false) :: ((24, .box [I p1.f0, I p1.f1, I p1.f2, I p1.f3] false) :: o_0)) 58) ?_
  refine pN ?_
  refine pS ?_
  refine gS 2 ?_
  refine dq 1 (rg Tryz.f64 1) (mkE [(2, .ba 16 0), (3, .ba 24 0), (4, .ba 32 0), (6, I (maxI p0.f0 p1.f0)), (7, I (maxI p0.f1 p1.f1))] ((16, .box [I p0.f0, I p0.f1, I p0.f2, I p0.f3] false) :: ((24, .box [I p1.f0, I p1.f1, I p1.f2, I p1.f3] false) :: o_0)) 58) ?_
  refine pN ?_
  refine pS ?_
  refine gS 3 ?_
  refine dq 2 (rg Tryz.f64 2) (mkE s_0 o_0 58) ?_
  refine pN ?_
  refine pS ?_
  refine gS 5 ?_
  refine gS 0 ?_
  refine gR 3 (rg Tryz.f64 3) ?_
  refine sg 3 (mkE ((48, B (leI (subI .i64 (minI (addI .i64 p0.f0 p0.f2) (addI .i64 p1.f0 p1.f2)) (maxI p0.f0 p1.f0)) 0)) :: ((47, B (leI (subI .i64 (minI (addI .i64 p0.f0 p0.f2) (addI .i64 p1.f0 p1.f2)) (maxI p0.f0 p1.f0)) 0)) :: ((46, I (subI .i64 (minI (addI .i64 p0.f0 p0.f2) (addI .i64 p1.f0 p1.f2)) (maxI p0.f0 p1.f0))) :: s_0))) o_0 58) ?_
  refine sb 48 (leI (subI .i64 (minI (addI .i64 p0.f0 p0.f2) (addI .i64 p1.f0 p1.f2)) (maxI p0.f0 p1.f0)) 0) ?_ ?_
  · refine se (mkE (s_0.append [(51, B true)]) o_0 58) ?_
    refine pN ?_
    refine pS ?_
    refine gT (.tmp 51) ?_
    refine gS 0 ?_
    refine gR 4 (rg Tryz.f64 4) ?_
    refine se (mkE [(4, .ba 32 0), (5, B false)] o_0 58) ?_
    refine pN ?_
    refine pS ?_
    refine gE ?_
    exact pL
  · refine se (mkE (s_0.append [(51, B (leI (subI .i64 (minI (addI .i64 p0.f1 p0.f3) (addI .i64 p1.f1 p1.f3)) (maxI p0.f1 p1.f1)) 0))]) o_0 58) ?_
    refine pN ?_
    refine pS ?_
    refine gC 51 (leI (subI .i64 (minI (addI .i64 p0.f1 p0.f3) (addI .i64 p1.f1 p1.f3)) (maxI p0.f1 p1.f1)) 0) ?_ ?_
    · refine gS 0 ?_
      refine gR 4 (rg Tryz.f64 4) ?_
      refine se (mkE [(4, .ba 32 0), (5, B false)] o_0 58) ?_
      refine pN ?_
      refine pS ?_
      refine gE ?_
      exact pL
    · refine gK ?_
      refine pN ?_
      refine pS ?_
      refine gS 0 ?_
      refine gR 5 (rg Tryz.f64 5) ?_
      refine se (mkE [(4, .ba 32 0), (5, B true)] [(32, .box [I (maxI p0.f0 p1.f0), I (maxI p0.f1 p1.f1), I (subI .i64 (minI (addI .i64 p0.f0 p0.f2) (addI .i64 p1.f0 p1.f2)) (maxI p0.f0 p1.f0)), I (subI .i64 (minI (addI .i64 p0.f1 p0.f3) (addI .i64 p1.f1 p1.f3)) (maxI p0.f1 p1.f1))] false)] 58) ?_
      refine pN ?_
      refine pS ?_
      refine gE ?_
      exact pL
theorem F64 (m : Nat) (hm : 1 ≤ m) (p0 : S28) (p1 : S28) : callA Tryz.prog cfg m 64 [a28 p0, a28 p1] = (T64 p0 p1).map (fun r => AV.tup [a28 r.1, B r.2]) := by
  obtain ⟨q, rfl⟩ : ∃ q, m = q + 1 := ⟨m - 1, by omega⟩
  exact (callA_body (fn := Tryz.f64) (c := body_ Tryz.f64) q _ (by kernel_rfl) (by kernel_rfl) (by kernel_rfl)).trans (B64 _ p0 p1)

noncomputable def L24_2 (p0 : S28) (p1 : S28) (z0 : Int) : Option (Int ⊕ ((Int × Bool) ⊕ Int)) := (bif (ltI z0 2) then ((listAt [p0, p1] z0).bind fun x1 => ((T63 x1).bind fun x2 => (bif (neI x2 0) then (some (.inr (.inr x2))) else (some (.inl (addI .i64 z0 1)))))) else (some (.inr (.inl (z0, (ltI z0 2))))))
theorem L24_2_ok (C : Callee) (h63 : ∀ (p0 : S28), C 63 [a28 p0] = (T63 p0).map I) (p0 : S28) (p1 : S28) (z0 : Int) : runs Tryz.prog C (cfg.fn 24) (finLoop ((cfg.fn 24).keep 2) ((cfg.fn 24).al 2)) [] (execA Tryz.prog C (cfg.fn 24) (nr Tryz.f24 [false, false, true, false, true]) ((fun z0 : Int => (mkE [(2, .ba 16 0), (3, .ba 24 0), (4, .ba 32 0), (14, .agg [I p0.f0, I p0.f1, I p0.f2, I p0.f3, I p1.f0, I p1.f1, I p1.f2, I p1.f3]), (15, I z0)] [(16, .box [I p0.f0, I p0.f1, I p0.f2, I p0.f3] false), (24, .box [I p1.f0, I p1.f1, I p1.f2, I p1.f3] false), (32, .box [I 0, I 0, I 0, I 0] false)] 33)) z0)) = (L24_2 p0 p1 z0).map (Sum.elim (fun z => .inl ((fun z0 : Int => (mkE [(2, .ba 16 0), (3, .ba 24 0), (4, .ba 32 0), (14, .agg [I p0.f0, I p0.f1, I p0.f2, I p0.f3, I p1.f0, I p1.f1, I p1.f2, I p1.f3]), (15, I z0)] [(16, .box [I p0.f0, I p0.f1, I p0.f2, I p0.f3] false), (24, .box [I p1.f0, I p1.f1, I p1.f2, I p1.f3] false), (32, .box [I 0, I 0, I 0, I 0] false)] 33)) z)) (fun x => .inr ((Sum.elim (fun (x : (Int × Bool)) => (.exit 0, (mkE [(2, .ba 16 0), (3, .ba 24 0), (4, .ba 32 0), (14, .agg [I p0.f0, I p0.f1, I p0.f2, I p0.f3, I p1.f0, I p1.f1, I p1.f2, I p1.f3]), (15, I x.1), (16, B x.2)] [(16, .box [I p0.f0, I p0.f1, I p0.f2, I p0.f3] false), (24, .box [I p1.f0, I p1.f1, I p1.f2, I p1.f3] false), (32, .box [I 0, I 0, I 0, I 0] false)] 33))) (fun (x : Int) => (.ret, (mkE [(4, .ba 32 0), (5, B false), (6, I x)] [(32, .box [I 0, I 0, I 0, I 0] false)] 33)))) x))) := by
  unfold L24_2
  let s_0 : List (Nat × AV) := [(14, .agg [I p0.f0, I p0.f1, I p0.f2, I p0.f3, I p1.f0, I p1.f1, I p1.f2, I p1.f3])]
  let s_1 : List (Nat × AV) := [(2, .ba 16 0), (3, .ba 24 0), (4, .ba 32 0)]
  let o_0 : List (Nat × AObj) := [(16, .box [I p0.f0, I p0.f1, I p0.f2, I p0.f3] false), (24, .box [I p1.f0, I p1.f1, I p1.f2, I p1.f3] false), (32, .box [I 0, I 0, I 0, I 0] false)]
  refine gS 0 ?_
  refine gR 2 (rg Tryz.f24 2) ?_
  refine se (mkE (s_1.append (s_0.append ((15, I z0) :: [(16, B (ltI z0 2))]))) o_0 33) ?_
  refine pN ?_
  refine pS ?_
  refine gS 3 ?_
  refine gC 16 (ltI z0 2) ?_ ?_
  · refine gK ?_
    refine pN ?_
    refine pS ?_
    refine gS 7 ?_
    refine gB 1 ?_
    refine gS 4 ?_
    refine gR 3 (rg Tryz.f24 3) ?_
    refine vo 17 (arrE 129 29 4 2 true a28 .i64 z0 (.tmp 14) (.tmp 15) [I p0.f0, I p0.f1, I p0.f2, I p0.f3, I p1.f0, I p1.f1, I p1.f2, I p1.f3] [p0, p1]) (fun x1 => ?_)
    refine se (mkE (s_1.append ((8, .ba 64 0) :: (s_0.append [(15, I z0)]))) (o_0.append [(64, .box [I x1.f0, I x1.f1, I x1.f2, I x1.f3] false)]) 33) ?_
    refine pN ?_
    refine pS ?_
    refine gS 5 ?_
    refine gR 4 (rg Tryz.f24 4) ?_
    refine sg 1 (mkE ((18, a28 x1) :: (s_1.append ((8, .ba 64 0) :: (s_0.append [(15, I z0)])))) (o_0.append [(64, .box [I x1.f0, I x1.f1, I x1.f2, I x1.f3] false)]) 33) ?_
    refine co 19 [] (h63 x1) (fun x2 => ?_)
    refine se (mkE (s_1.append ((9, I x2) :: (s_0.append [(15, I z0)]))) o_0 33) ?_
    refine pN ?_
    refine pS ?_
    refine gS 0 ?_
    refine gR 5 (rg Tryz.f24 5) ?_
    refine se (mkE (s_1.append ((9, I x2) :: (s_0.append ((15, I z0) :: [(21, B (neI x2 0))])))) o_0 33) ?_
    refine pN ?_
    refine pS ?_
    refine gC 21 (neI x2 0) ?_ ?_
    · refine gS 0 ?_
      refine gR 6 (rg Tryz.f24 6) ?_
      refine se (mkE [(4, .ba 32 0), (5, B false), (6, I x2)] [(32, .box [I 0, I 0, I 0, I 0] false)] 33) ?_
      refine pN ?_
      refine pS ?_
      refine gE ?_
      exact pL
    · refine gK ?_
      refine pB ?_
      refine pN ?_
      refine pS ?_
      refine gR 7 (rg Tryz.f24 7) ?_
      refine se (mkE (s_1.append (s_0.append [(15, I (addI .i64 z0 1))])) o_0 33) ?_
      exact pL
  · refine gX 0 ?_
    exact pL
noncomputable def T24 (p0 : S28) (p1 : S28) : Option (S28 × Bool × Int) := ((iter (L24_2 p0 p1) 0).bind fun y3 => (Sum.elim (fun y3a => ((T64 p0 p1).bind fun x4 => (some (x4.1, x4.2, 0)))) (fun y3b => (some ((S28.mk 0 0 0 0), false, y3b))) y3))
theorem B24 (C : Callee) (h63 : ∀ (p0 : S28), C 63 [a28 p0] = (T63 p0).map I) (h64 : ∀ (p0 : S28) (p1 : S28), C 64 [a28 p0, a28 p1] = (T64 p0 p1).map (fun r => AV.tup [a28 r.1, B r.2])) (p0 : S28) (p1 : S28) : runs Tryz.prog C (cfg.fn 24) (finFn Tryz.prog (cfg.fn 24).byval Tryz.f24) [] (execA Tryz.prog C (cfg.fn 24) (nr Tryz.f24 []) (frame0 [a28 p0, a28 p1] 33 false)) = (T24 p0 p1).map (fun r => AV.tup [a28 r.1, B r.2.1, I r.2.2]) := by
  unfold T24
  let s_0 : List (Nat × AV) := [(2, .ba 16 0), (3, .ba 24 0), (4, .ba 32 0), (14, .agg [I p0.f0, I p0.f1, I p0.f2, I p0.f3, I p1.f0, I p1.f1, I p1.f2, I p1.f3])]
  let o_0 : List (Nat × AObj) := [(16, .box [I p0.f0, I p0.f1, I p0.f2, I p0.f3] false), (24, .box [I p1.f0, I p1.f1, I p1.f2, I p1.f3] false), (32, .box [I 0, I 0, I 0, I 0] false)]
  refine gS 1 ?_
  refine gR 0 (rg Tryz.f24 0) ?_
  refine se (mkE [(2, .ba 16 0), (3, .ba 24 0), (4, .ba 32 0)] o_0 33) ?_
  refine pN ?_
  refine pS ?_
  refine gS 8 ?_
  refine gS 2 ?_
  refine gR 1 (rg Tryz.f24 1) ?_
  refine se (mkE (s_0.append [(15, I 0)]) o_0 33) ?_
  refine pN ?_
  refine pS ?_
  refine gB 0 ?_
  refine lo [(2, none), (3, none), (4, none), (14, none), (15, none)] [] (L24_2 p0 p1) (fun z0 : Int => (mkE (s_0.append [(15, I z0)]) o_0 33)) (Sum.elim (fun (x : (Int × Bool)) => (.exit 0, (mkE (s_0.append ((15, I x.1) :: [(16, B x.2)])) o_0 33))) (fun (x : Int) => (.ret, (mkE [(4, .ba 32 0), (5, B false), (6, I x)] [(32, .box [I 0, I 0, I 0, I 0] false)] 33)))) 0 (fun z => L24_2_ok C h63 p0 p1 z) ?_
  intro y3
  refine ss y3 (Z := (Sum.elim (fun (x : (Int × Bool)) => (.exit 0, (mkE (s_0.append ((15, I x.1) :: [(16, B x.2)])) o_0 33))) (fun (x : Int) => (.ret, (mkE [(4, .ba 32 0), (5, B false), (6, I x)] [(32, .box [I 0, I 0, I 0, I 0] false)] 33))))) (fun y3a => ?_) (fun y3b => ?_)
  · refine pH ?_
    refine pN ?_
    refine pS ?_
    refine gS 9 ?_
    refine gR 8 (rg Tryz.f24 8) ?_
    refine sg 2 (mkE ((27, a28 p1) :: ((26, a28 p0) :: (s_0.append ((15, I y3a.1) :: [(16, B y3a.2)])))) o_0 33) ?_
    refine co 28 [] (h64 p0 p1) (fun x4 => ?_)
    refine se (mkE [(4, .ba 32 0), (10, .ba 80 0), (11, B x4.2)] [(32, .box [I 0, I 0, I 0, I 0] false), (80, .box [I x4.1.f0, I x4.1.f1, I x4.1.f2, I x4.1.f3] false)] 33) ?_
    refine pN ?_
    refine pS ?_
    refine gS 0 ?_
    refine gR 9 (rg Tryz.f24 9) ?_
    refine se (mkE [(4, .ba 32 0), (5, B x4.2), (6, I 0)] [(32, .box [I x4.1.f0, I x4.1.f1, I x4.1.f2, I x4.1.f3] false)] 33) ?_
    refine pN ?_
    refine pS ?_
    refine gE ?_
    exact pL
  · exact pL
theorem F24 (m : Nat) (hm : 3 ≤ m) (p0 : S28) (p1 : S28) : callA Tryz.prog cfg m 24 [a28 p0, a28 p1] = (T24 p0 p1).map (fun r => AV.tup [a28 r.1, B r.2.1, I r.2.2]) := by
  obtain ⟨q, rfl⟩ : ∃ q, m = q + 1 := ⟨m - 1, by omega⟩
  exact (callA_body (fn := Tryz.f24) (c := body_ Tryz.f24) q _ (by kernel_rfl) (by kernel_rfl) (by kernel_rfl)).trans (B24 _ (fun p0 => F63 q (by omega) p0) (fun p0 p1 => F64 q (by omega) p0 p1) p0 p1)

noncomputable def T35 (p0 : S28) (p1 : Int) (p2 : Int) : Option Bool := (bif (leI p0.f0 p1) then (bif (ltI p1 (addI .i64 p0.f0 p0.f2)) then (bif (leI p0.f1 p2) then (some (ltI p2 (addI .i64 p0.f1 p0.f3))) else (some false)) else (some false)) else (some false))
theorem B35 (C : Callee) (p0 : S28) (p1 : Int) (p2 : Int) : runs Tryz.prog C (cfg.fn 35) (finFn Tryz.prog (cfg.fn 35).byval Tryz.f35) [] (execA Tryz.prog C (cfg.fn 35) (nr Tryz.f35 []) (frame0 [a28 p0, I p1, I p2] 35 false)) = (T35 p0 p1 p2).map B := by
  unfold T35
  let s_0 : List (Nat × AV) := [(20, B (ltI p1 (addI .i64 p0.f0 p0.f2))), (19, B (ltI p1 (addI .i64 p0.f0 p0.f2))), (18, B (ltI p1 (addI .i64 p0.f0 p0.f2))), (17, I (addI .i64 p0.f0 p0.f2)), (16, I p0.f2), (15, .ba 24 2), (14, I p0.f0), (13, .ba 24 0), (12, I p1), (11, B true), (11, B (leI p0.f0 p1)), (10, B (leI p0.f0 p1)), (9, I p1), (8, I p0.f0), (7, .ba 24 0), (1, I p1), (2, I p2), (3, .ba 24 0)]
  let o_0 : List (Nat × AObj) := [(24, .box [I p0.f0, I p0.f1, I p0.f2, I p0.f3] false)]
  refine gS 1 ?_
  refine gR 0 (rg Tryz.f35 0) ?_
  refine se (mkE [(1, I p1), (2, I p2), (3, .ba 24 0)] o_0 35) ?_
  refine pN ?_
  refine pS ?_
  refine gS 0 ?_
  refine gR 1 (rg Tryz.f35 1) ?_
  refine sg 5 (mkE [(11, B (leI p0.f0 p1)), (10, B (leI p0.f0 p1)), (9, I p1), (8, I p0.f0), (7, .ba 24 0), (1, I p1), (2, I p2), (3, .ba 24 0)] o_0 35) ?_
  refine sb 11 (leI p0.f0 p1) ?_ ?_
  · refine sg 14 (mkE s_0 o_0 35) ?_
    refine sb 20 (ltI p1 (addI .i64 p0.f0 p0.f2)) ?_ ?_
    · refine sg 20 (mkE ((26, B (leI p0.f1 p2)) :: ((25, B (leI p0.f1 p2)) :: ((24, B (leI p0.f1 p2)) :: ((23, I p2) :: ((22, I p0.f1) :: ((21, .ba 24 1) :: ((20, B true) :: s_0))))))) o_0 35) ?_
      refine sb 26 (leI p0.f1 p2) ?_ ?_
      · refine se (mkE [(6, B (ltI p2 (addI .i64 p0.f1 p0.f3)))] [] 35) ?_
        refine pN ?_
        refine pS ?_
        refine gE ?_
        exact pL
      · refine se (mkE [(6, B false)] [] 35) ?_
        refine pN ?_
        refine pS ?_
        refine gE ?_
        exact pL
    · refine se (mkE [(6, B false)] [] 35) ?_
      refine pN ?_
      refine pS ?_
      refine gE ?_
      exact pL
  · refine se (mkE [(6, B false)] [] 35) ?_
    refine pN ?_
    refine pS ?_
    refine gE ?_
    exact pL
theorem F35 (m : Nat) (hm : 1 ≤ m) (p0 : S28) (p1 : Int) (p2 : Int) : callA Tryz.prog cfg m 35 [a28 p0, I p1, I p2] = (T35 p0 p1 p2).map B := by
  obtain ⟨q, rfl⟩ : ∃ q, m = q + 1 := ⟨m - 1, by omega⟩
  exact (callA_body (fn := Tryz.f35) (c := body_ Tryz.f35) q _ (by kernel_rfl) (by kernel_rfl) (by kernel_rfl)).trans (B35 _ p0 p1 p2)

noncomputable def T66 (p0 : S28) (p1_c0 : Int) (p2_c0 : Int) : Option Bool := ((T35 p0 p1_c0 p2_c0).bind fun x1 => (some x1))
theorem B66 (C : Callee) (h35 : ∀ (p0 : S28) (p1 : Int) (p2 : Int), C 35 [a28 p0, I p1, I p2] = (T35 p0 p1 p2).map B) (p0 : S28) (p1_c0 : Int) (p2_c0 : Int) : runs Tryz.prog C (cfg.fn 66) (finFn Tryz.prog (cfg.fn 66).byval Tryz.f66) [] (execA Tryz.prog C (cfg.fn 66) (nr Tryz.f66 []) (frame0 [a28 p0, .ia [I p1_c0] 0, .ia [I p2_c0] 0] 9 false)) = (T66 p0 p1_c0 p2_c0).map B := by
  unfold T66
  refine gS 1 ?_
  refine gR 0 (rg Tryz.f66 0) ?_
  refine se (mkE [(1, .ia [I p1_c0] 0), (2, .ia [I p2_c0] 0), (3, .ba 24 0)] [(24, .box [I p0.f0, I p0.f1, I p0.f2, I p0.f3] false)] 9) ?_
  refine pN ?_
  refine pS ?_
  refine gS 0 ?_
  refine gR 1 (rg Tryz.f66 1) ?_
  refine sg 3 (mkE [(7, I p2_c0), (6, I p1_c0), (5, a28 p0), (1, .ia [I p1_c0] 0), (2, .ia [I p2_c0] 0), (3, .ba 24 0)] [(24, .box [I p0.f0, I p0.f1, I p0.f2, I p0.f3] false)] 9) ?_
  refine co 8 [] (h35 p0 p1_c0 p2_c0) (fun x1 => ?_)
  refine se (mkE [(4, B x1)] [] 9) ?_
  refine pN ?_
  refine pS ?_
  refine gE ?_
  exact pL
theorem F66 (m : Nat) (hm : 2 ≤ m) (p0 : S28) (p1_c0 : Int) (p2_c0 : Int) : callA Tryz.prog cfg m 66 [a28 p0, .ia [I p1_c0] 0, .ia [I p2_c0] 0] = (T66 p0 p1_c0 p2_c0).map B := by
  obtain ⟨q, rfl⟩ : ∃ q, m = q + 1 := ⟨m - 1, by omega⟩
  exact (callA_body (fn := Tryz.f66) (c := body_ Tryz.f66) q _ (by kernel_rfl) (by kernel_rfl) (by kernel_rfl)).trans (B66 _ (fun p0 p1 p2 => F35 q (by omega) p0 p1 p2) p0 p1_c0 p2_c0)

noncomputable def L108_1_2 (p0 : (List S28)) (p1_c0 : Int) (p1_c1 : Int) (z0 : Int) : Option (Int ⊕ ((Int × Bool) ⊕ Int)) := (bif (ltI z0 (lenL p0)) then ((listAt p0 z0).bind fun x1 => ((T66 x1 p1_c0 p1_c1).bind fun x2 => (bif x2 then (some (.inr (.inr z0))) else (some (.inl (addI .i64 z0 1)))))) else (some (.inr (.inl (z0, (ltI z0 (lenL p0)))))))
theorem L108_1_2_ok (C : Callee) (h66 : ∀ (p0 : S28) (p1_c0 : Int) (p2_c0 : Int), C 66 [a28 p0, .ia [I p1_c0] 0, .ia [I p2_c0] 0] = (T66 p0 p1_c0 p2_c0).map B) (p0 : (List S28)) (p1_c0 : Int) (p1_c1 : Int) (z0 : Int) : runs Tryz.prog C (cfg.fn 108) (finLoop ((cfg.fn 108).keep 2) ((cfg.fn 108).al 2)) [] (execA Tryz.prog C (cfg.fn 108) (nr Tryz.f108 [false, false, true, false, true]) ((fun z0 : Int => (mkE [(0, LL a28 p0), (1, .fn 66 [.ia [I p1_c0] 0, .ia [I p1_c1] 0]), (7, I (lenL p0)), (8, I z0)] [] 19)) z0)) = (L108_1_2 p0 p1_c0 p1_c1 z0).map (Sum.elim (fun z => .inl ((fun z0 : Int => (mkE [(0, LL a28 p0), (1, .fn 66 [.ia [I p1_c0] 0, .ia [I p1_c1] 0]), (7, I (lenL p0)), (8, I z0)] [] 19)) z)) (fun x => .inr ((Sum.elim (fun (x : (Int × Bool)) => (.exit 0, (mkE [(0, LL a28 p0), (1, .fn 66 [.ia [I p1_c0] 0, .ia [I p1_c1] 0]), (7, I (lenL p0)), (8, I x.1), (9, B x.2)] [] 19))) (fun (x : Int) => (.ret, (mkE [(4, I x)] [] 19)))) x))) := by
  unfold L108_1_2
  let s_0 : List (Nat × AV) := [(0, LL a28 p0), (1, .fn 66 [.ia [I p1_c0] 0, .ia [I p1_c1] 0]), (5, I z0), (7, I (lenL p0)), (8, I z0)]
  refine gS 0 ?_
  refine gR 2 (rg Tryz.f108 2) ?_
  refine se (mkE [(0, LL a28 p0), (1, .fn 66 [.ia [I p1_c0] 0, .ia [I p1_c1] 0]), (7, I (lenL p0)), (8, I z0), (9, B (ltI z0 (lenL p0)))] [] 19) ?_
  refine pN ?_
  refine pS ?_
  refine gS 3 ?_
  refine gC 9 (ltI z0 (lenL p0)) ?_ ?_
  · refine gK ?_
    refine pN ?_
    refine pS ?_
    refine gS 6 ?_
    refine gB 1 ?_
    refine gS 4 ?_
    refine gR 3 (rg Tryz.f108 3) ?_
    refine se (mkE s_0 [] 19) ?_
    refine pN ?_
    refine pS ?_
    refine gS 0 ?_
    refine gR 4 (rg Tryz.f108 4) ?_
    refine sg 3 (mkE ((13, I z0) :: ((12, LL a28 p0) :: ((11, .fn 66 [.ia [I p1_c0] 0, .ia [I p1_c1] 0]) :: s_0))) [] 19) ?_
    refine vo 14 (addrE 26 29 4 a28 .i64 p0 z0) (fun x1 => ?_)
    refine sg 5 (mkE ((15, a28 x1) :: ((14, .ia [I x1.f0, I x1.f1, I x1.f2, I x1.f3] 0) :: ((13, I z0) :: ((12, LL a28 p0) :: ((11, .fn 66 [.ia [I p1_c0] 0, .ia [I p1_c1] 0]) :: s_0))))) [] 19) ?_
    refine co 16 [] (h66 x1 p1_c0 p1_c1) (fun x2 => ?_)
    refine se (mkE (s_0.append [(16, B x2)]) [] 19) ?_
    refine pN ?_
    refine pS ?_
    refine gC 16 x2 ?_ ?_
    · refine gS 0 ?_
      refine gR 5 (rg Tryz.f108 5) ?_
      refine se (mkE [(4, I z0)] [] 19) ?_
      refine pN ?_
      refine pS ?_
      refine gE ?_
      exact pL
    · refine gK ?_
      refine pB ?_
      refine pN ?_
      refine pS ?_
      refine gR 6 (rg Tryz.f108 6) ?_
      refine se (mkE [(0, LL a28 p0), (1, .fn 66 [.ia [I p1_c0] 0, .ia [I p1_c1] 0]), (7, I (lenL p0)), (8, I (addI .i64 z0 1))] [] 19) ?_
      exact pL
  · refine gX 0 ?_
    exact pL
noncomputable def T108_1 (p0 : (List S28)) (p1_c0 : Int) (p1_c1 : Int) : Option Int := ((iter (L108_1_2 p0 p1_c0 p1_c1) 0).bind fun y3 => (Sum.elim (fun y3a => (some (-1))) (fun y3b => (some y3b)) y3))
theorem B108_1 (C : Callee) (h66 : ∀ (p0 : S28) (p1_c0 : Int) (p2_c0 : Int), C 66 [a28 p0, .ia [I p1_c0] 0, .ia [I p2_c0] 0] = (T66 p0 p1_c0 p2_c0).map B) (p0 : (List S28)) (p1_c0 : Int) (p1_c1 : Int) : runs Tryz.prog C (cfg.fn 108) (finFn Tryz.prog (cfg.fn 108).byval Tryz.f108) [] (execA Tryz.prog C (cfg.fn 108) (nr Tryz.f108 []) (frame0 [LL a28 p0, .fn 66 [.ia [I p1_c0] 0, .ia [I p1_c1] 0]] 19 false)) = (T108_1 p0 p1_c0 p1_c1).map I := by
  unfold T108_1
  let s_0 : List (Nat × AV) := [(0, LL a28 p0), (1, .fn 66 [.ia [I p1_c0] 0, .ia [I p1_c1] 0])]
  refine gS 1 ?_
  refine gR 0 (rg Tryz.f108 0) ?_
  refine se (mkE s_0 [] 19) ?_
  refine pN ?_
  refine pS ?_
  refine gS 7 ?_
  refine gS 2 ?_
  refine gR 1 (rg Tryz.f108 1) ?_
  refine sg 1 (mkE ((6, LL a28 p0) :: s_0) [] 19) ?_
  refine eo 7 (I (lenL p0)) (lenE 26 a28 p0) ?_
  refine se (mkE (s_0.append ((7, I (lenL p0)) :: [(8, I 0)])) [] 19) ?_
  refine pN ?_
  refine pS ?_
  refine gB 0 ?_
  refine lo [(0, none), (1, none), (7, none), (8, none)] [] (L108_1_2 p0 p1_c0 p1_c1) (fun z0 : Int => (mkE (s_0.append ((7, I (lenL p0)) :: [(8, I z0)])) [] 19)) (Sum.elim (fun (x : (Int × Bool)) => (.exit 0, (mkE (s_0.append ((7, I (lenL p0)) :: ((8, I x.1) :: [(9, B x.2)]))) [] 19))) (fun (x : Int) => (.ret, (mkE [(4, I x)] [] 19)))) 0 (fun z => L108_1_2_ok C h66 p0 p1_c0 p1_c1 z) ?_
  intro y3
  refine ss y3 (Z := (Sum.elim (fun (x : (Int × Bool)) => (.exit 0, (mkE (s_0.append ((7, I (lenL p0)) :: ((8, I x.1) :: [(9, B x.2)]))) [] 19))) (fun (x : Int) => (.ret, (mkE [(4, I x)] [] 19))))) (fun y3a => ?_) (fun y3b => ?_)
  · refine pH ?_
    refine pN ?_
    refine pS ?_
    refine gS 0 ?_
    refine gR 7 (rg Tryz.f108 7) ?_
    refine se (mkE [(4, I (-1))] [] 19) ?_
    refine pN ?_
    refine pS ?_
    refine gE ?_
    exact pL
  · exact pL
theorem F108_1 (m : Nat) (hm : 3 ≤ m) (p0 : (List S28)) (p1_c0 : Int) (p1_c1 : Int) : callA Tryz.prog cfg m 108 [LL a28 p0, .fn 66 [.ia [I p1_c0] 0, .ia [I p1_c1] 0]] = (T108_1 p0 p1_c0 p1_c1).map I := by
  obtain ⟨q, rfl⟩ : ∃ q, m = q + 1 := ⟨m - 1, by omega⟩
  exact (callA_body (fn := Tryz.f108) (c := body_ Tryz.f108) q _ (by kernel_rfl) (by kernel_rfl) (by kernel_rfl)).trans (B108_1 _ (fun p0 p1_c0 p2_c0 => F66 q (by omega) p0 p1_c0 p2_c0) p0 p1_c0 p1_c1)

noncomputable def T65_1 (p0 : (List S28)) (p1_c0 : Int) (p1_c1 : Int) : Option Bool := ((T108_1 p0 p1_c0 p1_c1).bind fun x1 => (some (leI 0 x1)))
theorem B65_1 (C : Callee) (h108_1 : ∀ (p0 : (List S28)) (p1_c0 : Int) (p1_c1 : Int), C 108 [LL a28 p0, .fn 66 [.ia [I p1_c0] 0, .ia [I p1_c1] 0]] = (T108_1 p0 p1_c0 p1_c1).map I) (p0 : (List S28)) (p1_c0 : Int) (p1_c1 : Int) : runs Tryz.prog C (cfg.fn 65) (finFn Tryz.prog (cfg.fn 65).byval Tryz.f65) [] (execA Tryz.prog C (cfg.fn 65) (nr Tryz.f65 []) (frame0 [LL a28 p0, .fn 66 [.ia [I p1_c0] 0, .ia [I p1_c1] 0]] 9 false)) = (T65_1 p0 p1_c0 p1_c1).map B := by
  unfold T65_1
  refine gS 1 ?_
  refine gR 0 (rg Tryz.f65 0) ?_
  refine se (mkE [(0, LL a28 p0), (1, .fn 66 [.ia [I p1_c0] 0, .ia [I p1_c1] 0])] [] 9) ?_
  refine pN ?_
  refine pS ?_
  refine gS 0 ?_
  refine gR 1 (rg Tryz.f65 1) ?_
  refine sg 2 (mkE [(6, .fn 66 [.ia [I p1_c0] 0, .ia [I p1_c1] 0]), (5, LL a28 p0), (0, LL a28 p0), (1, .fn 66 [.ia [I p1_c0] 0, .ia [I p1_c1] 0])] [] 9) ?_
  refine co 7 [] (h108_1 p0 p1_c0 p1_c1) (fun x1 => ?_)
  refine se (mkE [(4, B (leI 0 x1))] [] 9) ?_
  refine pN ?_
  refine pS ?_
  refine gE ?_
  exact pL
theorem F65_1 (m : Nat) (hm : 4 ≤ m) (p0 : (List S28)) (p1_c0 : Int) (p1_c1 : Int) : callA Tryz.prog cfg m 65 [LL a28 p0, .fn 66 [.ia [I p1_c0] 0, .ia [I p1_c1] 0]] = (T65_1 p0 p1_c0 p1_c1).map B := by
  obtain ⟨q, rfl⟩ : ∃ q, m = q + 1 := ⟨m - 1, by omega⟩
  exact (callA_body (fn := Tryz.f65) (c := body_ Tryz.f65) q _ (by kernel_rfl) (by kernel_rfl) (by kernel_rfl)).trans (B65_1 _ (fun p0 p1_c0 p1_c1 => F108_1 q (by omega) p0 p1_c0 p1_c1) p0 p1_c0 p1_c1)

noncomputable def T25 (p0 : (List S28)) (p1 : Int) (p2 : Int) : Option Bool := ((T65_1 p0 p1 p2).bind fun x1 => (some x1))
theorem B25 (C : Callee) (h65_1 : ∀ (p0 : (List S28)) (p1_c0 : Int) (p1_c1 : Int), C 65 [LL a28 p0, .fn 66 [.ia [I p1_c0] 0, .ia [I p1_c1] 0]] = (T65_1 p0 p1_c0 p1_c1).map B) (p0 : (List S28)) (p1 : Int) (p2 : Int) : runs Tryz.prog C (cfg.fn 25) (finFn Tryz.prog (cfg.fn 25).byval Tryz.f25) [] (execA Tryz.prog C (cfg.fn 25) (nr Tryz.f25 []) (frame0 [LL a28 p0, I p1, I p2] 10 false)) = (T25 p0 p1 p2).map B := by
  unfold T25
  refine gS 1 ?_
  refine gR 0 (rg Tryz.f25 0) ?_
  refine se (mkE [(0, LL a28 p0), (4, .ba 32 0), (5, .ba 40 0)] [(32, .box [I p1] false), (40, .box [I p2] false)] 10) ?_
  refine pN ?_
  refine pS ?_
  refine gS 0 ?_
  refine gR 1 (rg Tryz.f25 1) ?_
  refine sg 2 (mkE [(8, .fn 66 [.ba 32 0, .ba 40 0]), (7, LL a28 p0), (0, LL a28 p0), (4, .ba 32 0), (5, .ba 40 0)] [(32, .box [I p1] false), (40, .box [I p2] false)] 10) ?_
  refine co 9 [32, 40] (h65_1 p0 p1 p2) (fun x1 => ?_)
  refine se (mkE [(6, B x1)] [] 10) ?_
  refine pN ?_
  refine pS ?_
  refine gE ?_
  exact pL
theorem F25 (m : Nat) (hm : 5 ≤ m) (p0 : (List S28)) (p1 : Int) (p2 : Int) : callA Tryz.prog cfg m 25 [LL a28 p0, I p1, I p2] = (T25 p0 p1 p2).map B := by
  obtain ⟨q, rfl⟩ : ∃ q, m = q + 1 := ⟨m - 1, by omega⟩
  exact (callA_body (fn := Tryz.f25) (c := body_ Tryz.f25) q _ (by kernel_rfl) (by kernel_rfl) (by kernel_rfl)).trans (B25 _ (fun p0 p1_c0 p1_c1 => F65_1 q (by omega) p0 p1_c0 p1_c1) p0 p1 p2)

noncomputable def L3_4 (x1 : (Int × (List Int) × Int)) (z0 : ((List Int) × Int × (List S28) × Int)) : Option (((List Int) × Int × (List S28) × Int) ⊕ (Int × Bool × (List Int) × Int × (List S28))) := (bif (ltI z0.2.2.2 x1.1) then ((T15 z0.1 z0.2.1).bind fun x2 => ((appO 32 z0.2.2.1 ([x2.1] : List S28)).bind fun x3 => (some (.inl (x2.2.1, x2.2.2, x3, (addI .i64 z0.2.2.2 1)))))) else (some (.inr (z0.2.2.2, (ltI z0.2.2.2 x1.1), z0.1, z0.2.1, z0.2.2.1))))
theorem L3_4_ok (C : Callee) (h15 : ∀ (p0_c0 : (List Int)) (p0_c1 : Int), C 15 [.fb [LL I p0_c0, I p0_c1]] = (T15 p0_c0 p0_c1).map (fun (r : (S28 × (List Int) × Int)) => AV.inp (a28 r.1) (.fb [LL I r.2.1, I r.2.2]))) (x1 : (Int × (List Int) × Int)) (z0 : ((List Int) × Int × (List S28) × Int)) : runs Tryz.prog C (cfg.fn 3) (finLoop ((cfg.fn 3).keep 4) ((cfg.fn 3).al 4)) [] (execA Tryz.prog C (cfg.fn 3) (nr Tryz.f3 [false, false, true, false, true, true, true]) ((fun z0 : ((List Int) × Int × (List S28) × Int) => (mkE [(3, .ba 24 0), (4, .own 32 0), (5, .own 40 0), (37, I x1.1), (38, I z0.2.2.2)] [(24, .box [LL I z0.1, I z0.2.1] false), (32, RR 29 4 a28 z0.2.2.1 0 false), (40, RR 29 4 a28 ([] : List S28) 0 false)] 210)) z0)) = (L3_4 x1 z0).map (Sum.elim (fun z => .inl ((fun z0 : ((List Int) × Int × (List S28) × Int) => (mkE [(3, .ba 24 0), (4, .own 32 0), (5, .own 40 0), (37, I x1.1), (38, I z0.2.2.2)] [(24, .box [LL I z0.1, I z0.2.1] false), (32, RR 29 4 a28 z0.2.2.1 0 false), (40, RR 29 4 a28 ([] : List S28) 0 false)] 210)) z)) (fun x => .inr ((fun (x : (Int × Bool × (List Int) × Int × (List S28))) => (.exit 0, (mkE [(3, .ba 24 0), (4, .own 32 0), (5, .own 40 0), (37, I x1.1), (38, I x.1), (39, B x.2.1)] [(24, .box [LL I x.2.2.1, I x.2.2.2.1] false), (32, RR 29 4 a28 x.2.2.2.2 0 false), (40, RR 29 4 a28 ([] : List S28) 0 false)] 210))) x))) := by
  unfold L3_4
  let s_0 : List (Nat × AV) := [(3, .ba 24 0), (4, .own 32 0), (5, .own 40 0), (37, I x1.1), (38, I z0.2.2.2), (39, B (ltI z0.2.2.2 x1.1))]
  let o_0 : List (Nat × AObj) := [(24, .box [LL I z0.1, I z0.2.1] false), (32, RR 29 4 a28 z0.2.2.1 0 false), (40, RR 29 4 a28 ([] : List S28) 0 false)]
  refine gS 0 ?_
  refine gR 4 (rg Tryz.f3 4) ?_
  refine se (mkE s_0 o_0 210) ?_
  refine pN ?_
  refine pS ?_
  refine gS 5 ?_
  refine gC 39 (ltI z0.2.2.2 x1.1) ?_ ?_
  · refine gK ?_
    refine pN ?_
    refine pS ?_
    refine gS 6 ?_
    refine gB 1 ?_
    refine gR 5 (rg Tryz.f3 5) ?_
    refine sg 2 (mkE ((41, .ba 24 0) :: ((40, .own 32 0) :: s_0)) o_0 210) ?_
    refine mo (some 42) (ipB 15 24 [LL I z0.1, I z0.2.1] [LL I z0.1, I z0.2.1] [] [] [] (fun x : (S28 × (List Int) × Int) => a28 x.1) (fun x : (S28 × (List Int) × Int) => [LL I x.2.1, I x.2.2]) (h15 z0.1 z0.2.1)) (fun x2 => ?_)
    refine sg 4 (mkE ((43, .own 344 0) :: ((42, a28 x2.1) :: ((41, .ba 24 0) :: ((40, .own 32 0) :: s_0)))) ((344, RR 29 4 a28 ([x2.1] : List S28) 0 false) :: ((24, .box [LL I x2.2.1, I x2.2.2] false) :: o_0)) 210) ?_
    refine mo (some 44) (apO 26 29 4 32 32 a28 0 [344] (y := .own 344 0) (l2 := ([x2.1] : List S28))) (fun x3 => ?_)
    refine se (mkE [(3, .ba 24 0), (4, .own 32 1), (5, .own 40 0), (37, I x1.1), (38, I z0.2.2.2)] [(24, .box [LL I x2.2.1, I x2.2.2] false), (32, RR 29 4 a28 x3 1 false), (40, RR 29 4 a28 ([] : List S28) 0 false)] 210) ?_
    refine pB ?_
    refine pN ?_
    refine pS ?_
    refine gR 6 (rg Tryz.f3 6) ?_
    refine se (mkE [(3, .ba 24 0), (4, .own 32 1), (5, .own 40 0), (37, I x1.1), (38, I (addI .i64 z0.2.2.2 1))] [(24, .box [LL I x2.2.1, I x2.2.2] false), (32, RR 29 4 a28 x3 1 false), (40, RR 29 4 a28 ([] : List S28) 0 false)] 210) ?_
    exact pL
  · refine gX 0 ?_
    exact pL
noncomputable def L3_8 (y4 : (Int × Bool × (List Int) × Int × (List S28))) (x5 : (Int × (List Int) × Int)) (z1 : ((List Int) × Int × (List S28) × Int)) : Option (((List Int) × Int × (List S28) × Int) ⊕ (Int × Bool × (List Int) × Int × (List S28))) := (bif (ltI z1.2.2.2 x5.1) then ((T15 z1.1 z1.2.1).bind fun x6 => ((appO 32 z1.2.2.1 ([x6.1] : List S28)).bind fun x7 => (some (.inl (x6.2.1, x6.2.2, x7, (addI .i64 z1.2.2.2 1)))))) else (some (.inr (z1.2.2.2, (ltI z1.2.2.2 x5.1), z1.1, z1.2.1, z1.2.2.1))))
theorem L3_8_ok (C : Callee) (h15 : ∀ (p0_c0 : (List Int)) (p0_c1 : Int), C 15 [.fb [LL I p0_c0, I p0_c1]] = (T15 p0_c0 p0_c1).map (fun (r : (S28 × (List Int) × Int)) => AV.inp (a28 r.1) (.fb [LL I r.2.1, I r.2.2]))) (y4 : (Int × Bool × (List Int) × Int × (List S28))) (x5 : (Int × (List Int) × Int)) (z1 : ((List Int) × Int × (List S28) × Int)) : runs Tryz.prog C (cfg.fn 3) (finLoop ((cfg.fn 3).keep 8) ((cfg.fn 3).al 8)) [] (execA Tryz.prog C (cfg.fn 3) (nr Tryz.f3 [false, false, true, false, true, true, true, true]) ((fun z1 : ((List Int) × Int × (List S28) × Int) => (mkE [(3, .ba 24 0), (4, .own 32 0), (5, .own 40 0), (47, I x5.1), (48, I z1.2.2.2)] [(24, .box [LL I z1.1, I z1.2.1] false), (32, RR 29 4 a28 y4.2.2.2.2 0 false), (40, RR 29 4 a28 z1.2.2.1 0 false)] 210)) z1)) = (L3_8 y4 x5 z1).map (Sum.elim (fun z => .inl ((fun z1 : ((List Int) × Int × (List S28) × Int) => (mkE [(3, .ba 24 0), (4, .own 32 0), (5, .own 40 0), (47, I x5.1), (48, I z1.2.2.2)] [(24, .box [LL I z1.1, I z1.2.1] false), (32, RR 29 4 a28 y4.2.2.2.2 0 false), (40, RR 29 4 a28 z1.2.2.1 0 false)] 210)) z)) (fun x => .inr ((fun (x : (Int × Bool × (List Int) × Int × (List S28))) => (.exit 2, (mkE [(3, .ba 24 0), (4, .own 32 0), (5, .own 40 0), (47, I x5.1), (48, I x.1), (49, B x.2.1)] [(24, .box [LL I x.2.2.1, I x.2.2.2.1] false), (32, RR 29 4 a28 y4.2.2.2.2 0 false), (40, RR 29 4 a28 x.2.2.2.2 0 false)] 210))) x))) := by
  unfold L3_8
  let s_0 : List (Nat × AV) := [(3, .ba 24 0), (4, .own 32 0), (5, .own 40 0), (47, I x5.1), (48, I z1.2.2.2), (49, B (ltI z1.2.2.2 x5.1))]
  let o_0 : List (Nat × AObj) := [(24, .box [LL I z1.1, I z1.2.1] false), (32, RR 29 4 a28 y4.2.2.2.2 0 false), (40, RR 29 4 a28 z1.2.2.1 0 false)]
  refine gS 0 ?_
  refine gR 8 (rg Tryz.f3 8) ?_
  refine se (mkE s_0 o_0 210) ?_
  refine pN ?_
  refine pS ?_
  refine gS 9 ?_
  refine gC 49 (ltI z1.2.2.2 x5.1) ?_ ?_
  · refine gK ?_
    refine pN ?_
    refine pS ?_
    refine gS 10 ?_
    refine gB 3 ?_
    refine gR 9 (rg Tryz.f3 9) ?_
    refine sg 2 (mkE ((51, .ba 24 0) :: ((50, .own 40 0) :: s_0)) o_0 210) ?_
    refine mo (some 52) (ipB 15 24 [LL I z1.1, I z1.2.1] [LL I z1.1, I z1.2.1] [] [] [] (fun x : (S28 × (List Int) × Int) => a28 x.1) (fun x : (S28 × (List Int) × Int) => [LL I x.2.1, I x.2.2]) (h15 z1.1 z1.2.1)) (fun x6 => ?_)
    refine sg 4 (mkE ((53, .own 424 0) :: ((52, a28 x6.1) :: ((51, .ba 24 0) :: ((50, .own 40 0) :: s_0)))) ((424, RR 29 4 a28 ([x6.1] : List S28) 0 false) :: ((24, .box [LL I x6.2.1, I x6.2.2] false) :: o_0)) 210) ?_
    refine mo (some 54) (apO 26 29 4 32 40 a28 0 [424] (y := .own 424 0) (l2 := ([x6.1] : List S28))) (fun x7 => ?_)
    refine se (mkE [(3, .ba 24 0), (4, .own 32 0), (5, .own 40 1), (47, I x5.1), (48, I z1.2.2.2)] [(24, .box [LL I x6.2.1, I x6.2.2] false), (32, RR 29 4 a28 y4.2.2.2.2 0 false), (40, RR 29 4 a28 x7 1 false)] 210) ?_
    refine pB ?_
    refine pN ?_
    refine pS ?_
    refine gR 10 (rg Tryz.f3 10) ?_
    refine se (mkE [(3, .ba 24 0), (4, .own 32 0), (5, .own 40 1), (47, I x5.1), (48, I (addI .i64 z1.2.2.2 1))] [(24, .box [LL I x6.2.1, I x6.2.2] false), (32, RR 29 4 a28 y4.2.2.2.2 0 false), (40, RR 29 4 a28 x7 1 false)] 210) ?_
    exact pL
  · refine gX 2 ?_
    exact pL
noncomputable def L3_29 (y4 : (Int × Bool × (List Int) × Int × (List S28))) (y8 : (Int × Bool × (List Int) × Int × (List S28))) (x9 : ((List S28) × Int)) (x14 : ((List S28) × Int)) (x15 : (Int × Int)) (z2 : (Int × Int)) (x23 : S28) (x24 : (List S28)) (z3 : Int) : Option (Int ⊕ ((Int × Bool) ⊕ Unit)) := (bif (ltI z3 (lenL x24)) then ((listAt x24 z3).bind fun x25 => ((T24 x23 x25).bind fun x26 => (bif (neI x26.2.2 0) then (some (.inr (.inr ()))) else (bif x26.2.1 then (some (.inr (.inr ()))) else (some (.inl (addI .i64 z3 1))))))) else (some (.inr (.inl (z3, (ltI z3 (lenL x24)))))))
theorem L3_29_ok (C : Callee) (h24 : ∀ (p0 : S28) (p1 : S28), C 24 [a28 p0, a28 p1] = (T24 p0 p1).map (fun r => AV.tup [a28 r.1, B r.2.1, I r.2.2])) (y4 : (Int × Bool × (List Int) × Int × (List S28))) (y8 : (Int × Bool × (List Int) × Int × (List S28))) (x9 : ((List S28) × Int)) (x14 : ((List S28) × Int)) (x15 : (Int × Int)) (z2 : (Int × Int)) (x23 : S28) (x24 : (List S28)) (z3 : Int) : runs Tryz.prog C (cfg.fn 3) (finLoop ((cfg.fn 3).keep 29) ((cfg.fn 3).al 29)) [] (execA Tryz.prog C (cfg.fn 3) (nr Tryz.f3 [false, false, true, true, true, false, false, true, true, false, false, true, false, true, true, true, true, true, true, true, true, true, true, true, true, true, true, true, true, true]) ((fun z3 : Int => (mkE [(3, .ba 24 0), (4, LL a28 y4.2.2.2.2), (5, LL a28 y8.2.2.2.2), (6, LL a28 x9.1), (13, LL a28 x14.1), (15, I x15.1), (23, I (addI .i64 z2.1 (mulI .i64 x23.f2 x23.f3))), (25, .ba 200 0), (134, LL a28 x9.1), (135, I (lenL x9.1)), (136, I z2.2), (150, LL a28 x24), (151, I (lenL x24)), (152, I z3)] [(24, .box [LL I y8.2.2.1, I y8.2.2.2.1] false), (200, .box [I x23.f0, I x23.f1, I x23.f2, I x23.f3] false)] 210)) z3)) = (L3_29 y4 y8 x9 x14 x15 z2 x23 x24 z3).map (Sum.elim (fun z => .inl ((fun z3 : Int => (mkE [(3, .ba 24 0), (4, LL a28 y4.2.2.2.2), (5, LL a28 y8.2.2.2.2), (6, LL a28 x9.1), (13, LL a28 x14.1), (15, I x15.1), (23, I (addI .i64 z2.1 (mulI .i64 x23.f2 x23.f3))), (25, .ba 200 0), (134, LL a28 x9.1), (135, I (lenL x9.1)), (136, I z2.2), (150, LL a28 x24), (151, I (lenL x24)), (152, I z3)] [(24, .box [LL I y8.2.2.1, I y8.2.2.2.1] false), (200, .box [I x23.f0, I x23.f1, I x23.f2, I x23.f3] false)] 210)) z)) (fun x => .inr ((Sum.elim (fun (x : (Int × Bool)) => (.exit 6, (mkE [(3, .ba 24 0), (4, LL a28 y4.2.2.2.2), (5, LL a28 y8.2.2.2.2), (6, LL a28 x9.1), (13, LL a28 x14.1), (15, I x15.1), (23, I (addI .i64 z2.1 (mulI .i64 x23.f2 x23.f3))), (25, .ba 200 0), (134, LL a28 x9.1), (135, I (lenL x9.1)), (136, I z2.2), (150, LL a28 x24), (151, I (lenL x24)), (152, I x.1), (153, B x.2)] [(24, .box [LL I y8.2.2.1, I y8.2.2.2.1] false), (200, .box [I x23.f0, I x23.f1, I x23.f2, I x23.f3] false)] 210))) (fun (x : Unit) => (.ret, (mkE [(2, B false)] [] 210)))) x))) := by
  unfold L3_29
  let s_0 : List (Nat × AV) := [(3, .ba 24 0), (4, LL a28 y4.2.2.2.2), (5, LL a28 y8.2.2.2.2), (6, LL a28 x9.1), (13, LL a28 x14.1), (15, I x15.1), (23, I (addI .i64 z2.1 (mulI .i64 x23.f2 x23.f3))), (25, .ba 200 0)]
  let s_1 : List (Nat × AV) := [(134, LL a28 x9.1), (135, I (lenL x9.1)), (136, I z2.2), (150, LL a28 x24), (151, I (lenL x24))]
  let o_0 : List (Nat × AObj) := [(24, .box [LL I y8.2.2.1, I y8.2.2.2.1] false), (200, .box [I x23.f0, I x23.f1, I x23.f2, I x23.f3] false)]
  refine gS 0 ?_
  refine gR 29 (rg Tryz.f3 29) ?_
  refine se (mkE (s_0.append (s_1.append ((152, I z3) :: [(153, B (ltI z3 (lenL x24)))]))) o_0 210) ?_
  refine pN ?_
  refine pS ?_
  refine gS 30 ?_
  refine gC 153 (ltI z3 (lenL x24)) ?_ ?_
  · refine gK ?_
    refine pN ?_
    refine pS ?_
    refine gS 34 ?_
    refine gB 7 ?_
    refine gS 31 ?_
    refine gR 30 (rg Tryz.f3 30) ?_
    refine vo 154 (addrE 26 29 4 a28 .i64 x24 z3) (fun x25 => ?_)
    refine se (mkE (s_0.append ((27, .ba 216 0) :: (s_1.append [(152, I z3)]))) (o_0.append [(216, .box [I x25.f0, I x25.f1, I x25.f2, I x25.f3] false)]) 210) ?_
    refine pN ?_
    refine pS ?_
    refine gS 32 ?_
    refine gR 31 (rg Tryz.f3 31) ?_
    refine sg 2 (mkE ((158, a28 x25) :: ((157, a28 x23) :: (s_0.append ((27, .ba 216 0) :: (s_1.append [(152, I z3)]))))) (o_0.append [(216, .box [I x25.f0, I x25.f1, I x25.f2, I x25.f3] false)]) 210) ?_
    refine co 159 [] (h24 x23 x25) (fun x26 => ?_)
    refine se (mkE (s_0.append ((29, B x26.2.1) :: ((30, I x26.2.2) :: (s_1.append [(152, I z3)])))) o_0 210) ?_
    refine pN ?_
    refine pS ?_
    refine gS 0 ?_
    refine gR 32 (rg Tryz.f3 32) ?_
    refine sg 3 (mkE ((165, B (neI x26.2.2 0)) :: ((164, B (neI x26.2.2 0)) :: ((163, I x26.2.2) :: (s_0.append ((29, B x26.2.1) :: ((30, I x26.2.2) :: (s_1.append [(152, I z3)]))))))) o_0 210) ?_
    refine sb 165 (neI x26.2.2 0) ?_ ?_
    · refine se (mkE (s_0.append (s_1.append ((152, I z3) :: [(167, B true)]))) o_0 210) ?_
      refine pN ?_
      refine pS ?_
      refine gT (.tmp 167) ?_
      refine gS 0 ?_
      refine gR 33 (rg Tryz.f3 33) ?_
      refine se (mkE [(2, B false)] [] 210) ?_
      refine pN ?_
      refine pS ?_
      refine gE ?_
      exact pL
    · refine se (mkE (s_0.append (s_1.append ((152, I z3) :: [(167, B x26.2.1)]))) o_0 210) ?_
      refine pN ?_
      refine pS ?_
      refine gC 167 x26.2.1 ?_ ?_
      · refine gS 0 ?_
        refine gR 33 (rg Tryz.f3 33) ?_
        refine se (mkE [(2, B false)] [] 210) ?_
        refine pN ?_
        refine pS ?_
        refine gE ?_
        exact pL
      · refine gK ?_
        refine pB ?_
        refine pN ?_
        refine pS ?_
        refine gR 34 (rg Tryz.f3 34) ?_
        refine se (mkE (s_0.append (s_1.append [(152, I (addI .i64 z3 1))])) o_0 210) ?_
        exact pL
  · refine gX 6 ?_
    exact pL
noncomputable def L3_25 (y4 : (Int × Bool × (List Int) × Int × (List S28))) (y8 : (Int × Bool × (List Int) × Int × (List S28))) (x9 : ((List S28) × Int)) (x14 : ((List S28) × Int)) (x15 : (Int × Int)) (z2 : (Int × Int)) : Option ((Int × Int) ⊕ ((Int × Int × Bool) ⊕ Unit)) := (bif (ltI z2.2 (lenL x9.1)) then ((listAt x9.1 z2.2).bind fun x23 => ((cutL x9.1 none (some z2.2)).bind fun x24 => ((iter (L3_29 y4 y8 x9 x14 x15 z2 x23 x24) 0).bind fun y27 => (Sum.elim (fun y27a => (some (.inl ((addI .i64 z2.1 (mulI .i64 x23.f2 x23.f3)), (addI .i64 z2.2 1))))) (fun y27b => (some (.inr (.inr ())))) y27)))) else (some (.inr (.inl (z2.1, z2.2, (ltI z2.2 (lenL x9.1)))))))
theorem L3_25_ok (C : Callee) (h24 : ∀ (p0 : S28) (p1 : S28), C 24 [a28 p0, a28 p1] = (T24 p0 p1).map (fun r => AV.tup [a28 r.1, B r.2.1, I r.2.2])) (y4 : (Int × Bool × (List Int) × Int × (List S28))) (y8 : (Int × Bool × (List Int) × Int × (List S28))) (x9 : ((List S28) × Int)) (x14 : ((List S28) × Int)) (x15 : (Int × Int)) (z2 : (Int × Int)) : runs Tryz.prog C (cfg.fn 3) (finLoop ((cfg.fn 3).keep 25) ((cfg.fn 3).al 25)) [] (execA Tryz.prog C (cfg.fn 3) (nr Tryz.f3 [false, false, true, false, true, true, true, true, true, true, true, true, true, true, true, true, true, true, true, true, true]) ((fun z2 : (Int × Int) => (mkE [(3, .ba 24 0), (4, LL a28 y4.2.2.2.2), (5, LL a28 y8.2.2.2.2), (6, LL a28 x9.1), (13, LL a28 x14.1), (15, I x15.1), (23, I z2.1), (134, LL a28 x9.1), (135, I (lenL x9.1)), (136, I z2.2)] [(24, .box [LL I y8.2.2.1, I y8.2.2.2.1] false)] 210)) z2)) = (L3_25 y4 y8 x9 x14 x15 z2).map (Sum.elim (fun z => .inl ((fun z2 : (Int × Int) => (mkE [(3, .ba 24 0), (4, LL a28 y4.2.2.2.2), (5, LL a28 y8.2.2.2.2), (6, LL a28 x9.1), (13, LL a28 x14.1), (15, I x15.1), (23, I z2.1), (134, LL a28 x9.1), (135, I (lenL x9.1)), (136, I z2.2)] [(24, .box [LL I y8.2.2.1, I y8.2.2.2.1] false)] 210)) z)) (fun x => .inr ((Sum.elim (fun (x : (Int × Int × Bool)) => (.exit 4, (mkE [(3, .ba 24 0), (4, LL a28 y4.2.2.2.2), (5, LL a28 y8.2.2.2.2), (6, LL a28 x9.1), (13, LL a28 x14.1), (15, I x15.1), (23, I x.1), (134, LL a28 x9.1), (135, I (lenL x9.1)), (136, I x.2.1), (137, B x.2.2)] [(24, .box [LL I y8.2.2.1, I y8.2.2.2.1] false)] 210))) (fun (x : Unit) => (.ret, (mkE [(2, B false)] [] 210)))) x))) := by
  unfold L3_25
  let s_0 : List (Nat × AV) := [(3, .ba 24 0), (4, LL a28 y4.2.2.2.2), (5, LL a28 y8.2.2.2.2), (6, LL a28 x9.1), (13, LL a28 x14.1), (15, I x15.1)]
  let s_1 : List (Nat × AV) := [(25, .ba 200 0), (134, LL a28 x9.1), (135, I (lenL x9.1)), (136, I z2.2)]
  let o_0 : List (Nat × AObj) := [(24, .box [LL I y8.2.2.1, I y8.2.2.2.1] false)]
  refine gS 0 ?_
  refine gR 25 (rg Tryz.f3 25) ?_
  refine se (mkE (s_0.append ((23, I z2.1) :: ((134, LL a28 x9.1) :: ((135, I (lenL x9.1)) :: ((136, I z2.2) :: [(137, B (ltI z2.2 (lenL x9.1)))]))))) o_0 210) ?_
  refine pN ?_
  refine pS ?_
  refine gS 26 ?_
  refine gC 137 (ltI z2.2 (lenL x9.1)) ?_ ?_
  · refine gK ?_
    refine pN ?_
    refine pS ?_
    refine gS 35 ?_
    refine gB 5 ?_
    refine gS 27 ?_
    refine gR 26 (rg Tryz.f3 26) ?_
    refine sg 1 (mkE ((138, I z2.2) :: (s_0.append ((23, I z2.1) :: ((134, LL a28 x9.1) :: ((135, I (lenL x9.1)) :: ((136, I z2.2) :: [(137, B (ltI z2.2 (lenL x9.1)))])))))) o_0 210) ?_
    refine vo 139 (addrE 26 29 4 a28 .i64 x9.1 z2.2) (fun x23 => ?_)
    refine se (mkE (s_0.append ((23, I z2.1) :: ((24, I z2.2) :: s_1))) (o_0.append [(200, .box [I x23.f0, I x23.f1, I x23.f2, I x23.f3] false)]) 210) ?_
    refine pN ?_
    refine pS ?_
    refine gS 28 ?_
    refine gR 27 (rg Tryz.f3 27) ?_
    refine se (mkE (s_0.append ((23, I (addI .i64 z2.1 (mulI .i64 x23.f2 x23.f3))) :: ((24, I z2.2) :: s_1))) (o_0.append [(200, .box [I x23.f0, I x23.f1, I x23.f2, I x23.f3] false)]) 210) ?_
    refine pN ?_
    refine pS ?_
    refine gS 29 ?_
    refine gR 28 (rg Tryz.f3 28) ?_
    refine sg 2 (mkE ((149, I z2.2) :: ((148, LL a28 x9.1) :: (s_0.append ((23, I (addI .i64 z2.1 (mulI .i64 x23.f2 x23.f3))) :: ((24, I z2.2) :: s_1))))) (o_0.append [(200, .box [I x23.f0, I x23.f1, I x23.f2, I x23.f3] false)]) 210) ?_
    refine vo 150 (cutLE 26 29 4 a28 .i64 .i64 x9.1 none (some z2.2) (.tmp 148) none (some (.tmp 149))) (fun x24 => ?_)
    refine eo 151 (I (lenL x24)) (lenE 26 a28 x24) ?_
    refine se (mkE (s_0.append ((23, I (addI .i64 z2.1 (mulI .i64 x23.f2 x23.f3))) :: (s_1.append ((150, LL a28 x24) :: ((151, I (lenL x24)) :: [(152, I 0)]))))) (o_0.append [(200, .box [I x23.f0, I x23.f1, I x23.f2, I x23.f3] false)]) 210) ?_
    refine pN ?_
    refine pS ?_
    refine gB 6 ?_
    refine lo [(3, none), (4, none), (5, none), (6, none), (13, none), (15, none), (23, none), (25, none), (134, none), (135, none), (136, none), (150, none), (151, none), (152, none)] [] (L3_29 y4 y8 x9 x14 x15 z2 x23 x24) (fun z3 : Int => (mkE (s_0.append ((23, I (addI .i64 z2.1 (mulI .i64 x23.f2 x23.f3))) :: (s_1.append ((150, LL a28 x24) :: ((151, I (lenL x24)) :: [(152, I z3)]))))) (o_0.append [(200, .box [I x23.f0, I x23.f1, I x23.f2, I x23.f3] false)]) 210)) (Sum.elim (fun (x : (Int × Bool)) => (.exit 6, (mkE (s_0.append ((23, I (addI .i64 z2.1 (mulI .i64 x23.f2 x23.f3))) :: (s_1.append ((150, LL a28 x24) :: ((151, I (lenL x24)) :: ((152, I x.1) :: [(153, B x.2)])))))) (o_0.append [(200, .box [I x23.f0, I x23.f1, I x23.f2, I x23.f3] false)]) 210))) (fun (x : Unit) => (.ret, (mkE [(2, B false)] [] 210)))) 0 (fun z => L3_29_ok C h24 y4 y8 x9 x14 x15 z2 x23 x24 z) ?_
    intro y27
    refine ss y27 (Z := (Sum.elim (fun (x : (Int × Bool)) => (.exit 6, (mkE (s_0.append ((23, I (addI .i64 z2.1 (mulI .i64 x23.f2 x23.f3))) :: (s_1.append ((150, LL a28 x24) :: ((151, I (lenL x24)) :: ((152, I x.1) :: [(153, B x.2)])))))) (o_0.append [(200, .box [I x23.f0, I x23.f1, I x23.f2, I x23.f3] false)]) 210))) (fun (x : Unit) => (.ret, (mkE [(2, B false)] [] 210))))) (fun y27a => ?_) (fun y27b => ?_)
    · refine pH ?_
      refine pB ?_
      refine pN ?_
      refine pS ?_
      refine gR 35 (rg Tryz.f3 35) ?_
      refine se (mkE (s_0.append ((23, I (addI .i64 z2.1 (mulI .i64 x23.f2 x23.f3))) :: ((134, LL a28 x9.1) :: ((135, I (lenL x9.1)) :: [(136, I (addI .i64 z2.2 1))])))) o_0 210) ?_
      exact pL
    · exact pL
  · refine gX 4 ?_
    exact pL
noncomputable def L3_37 (y4 : (Int × Bool × (List Int) × Int × (List S28))) (y8 : (Int × Bool × (List Int) × Int × (List S28))) (x9 : ((List S28) × Int)) (x14 : ((List S28) × Int)) (x15 : (Int × Int)) (y28a : (Int × Int × Bool)) (z3 : ((List Int) × Int × Int)) : Option (((List Int) × Int × Int) ⊕ ((Int × Bool × (List Int) × Int) ⊕ Unit)) := (bif (ltI z3.2.2 5) then ((T14 z3.1 z3.2.1 (-3) 14).bind fun x29 => ((T14 x29.2.1 x29.2.2 (-3) 14).bind fun x30 => ((T25 x9.1 x29.1 x30.1).bind fun x31 => ((T25 y4.2.2.2.2 x29.1 x30.1).bind fun x32 => (bif (x31 != x32) then (some (.inr (.inr ()))) else ((T25 x14.1 x29.1 x30.1).bind fun x33 => ((T25 y4.2.2.2.2 x29.1 x30.1).bind fun x34 => (bif x34 then ((T25 y8.2.2.2.2 x29.1 x30.1).bind fun x35 => (bif (x33 != (!x35)) then (some (.inr (.inr ()))) else (some (.inl (x30.2.1, x30.2.2, (addI .i64 z3.2.2 1)))))) else (bif (x33 != false) then (some (.inr (.inr ()))) else (some (.inl (x30.2.1, x30.2.2, (addI .i64 z3.2.2 1))))))))))))) else (some (.inr (.inl (z3.2.2, (ltI z3.2.2 5), z3.1, z3.2.1)))))
theorem L3_37_ok (C : Callee) (h14 : ∀ (p0_c0 : (List Int)) (p0_c1 : Int) (p1 : Int) (p2 : Int), C 14 [.fb [LL I p0_c0, I p0_c1], I p1, I p2] = (T14 p0_c0 p0_c1 p1 p2).map (fun (r : (Int × (List Int) × Int)) => AV.inp (I r.1) (.fb [LL I r.2.1, I r.2.2]))) (h25 : ∀ (p0 : (List S28)) (p1 : Int) (p2 : Int), C 25 [LL a28 p0, I p1, I p2] = (T25 p0 p1 p2).map B) (y4 : (Int × Bool × (List Int) × Int × (List S28))) (y8 : (Int × Bool × (List Int) × Int × (List S28))) (x9 : ((List S28) × Int)) (x14 : ((List S28) × Int)) (x15 : (Int × Int)) (y28a : (Int × Int × Bool)) (z3 : ((List Int) × Int × Int)) : runs Tryz.prog C (cfg.fn 3) (finLoop ((cfg.fn 3).keep 37) ((cfg.fn 3).al 37)) [] (execA Tryz.prog C (cfg.fn 3) (nr Tryz.f3 [false, false, true, false, true, true, true, true, true, true, true, true, true, true, true, true, true, true, true, true, true, true]) ((fun z3 : ((List Int) × Int × Int) => (mkE [(3, .ba 24 0), (4, LL a28 y4.2.2.2.2), (5, LL a28 y8.2.2.2.2), (6, LL a28 x9.1), (13, LL a28 x14.1), (15, I x15.1), (23, I y28a.1), (170, I z3.2.2)] [(24, .box [LL I z3.1, I z3.2.1] false)] 210)) z3)) = (L3_37 y4 y8 x9 x14 x15 y28a z3).map (Sum.elim (fun z => .inl ((fun z3 : ((List Int) × Int × Int) => (mkE [(3, .ba 24 0), (4, LL a28 y4.2.2.2.2), (5, LL a28 y8.2.2.2.2), (6, LL a28 x9.1), (13, LL a28 x14.1), (15, I x15.1), (23, I y28a.1), (170, I z3.2.2)] [(24, .box [LL I z3.1, I z3.2.1] false)] 210)) z)) (fun x => .inr ((Sum.elim (fun (x : (Int × Bool × (List Int) × Int)) => (.exit 8, (mkE [(3, .ba 24 0), (4, LL a28 y4.2.2.2.2), (5, LL a28 y8.2.2.2.2), (6, LL a28 x9.1), (13, LL a28 x14.1), (15, I x15.1), (23, I y28a.1), (170, I x.1), (171, B x.2.1)] [(24, .box [LL I x.2.2.1, I x.2.2.2] false)] 210))) (fun (x : Unit) => (.ret, (mkE [(2, B false)] [] 210)))) x))) := by
  unfold L3_37
  let s_0 : List (Nat × AV) := [(3, .ba 24 0), (4, LL a28 y4.2.2.2.2), (5, LL a28 y8.2.2.2.2), (6, LL a28 x9.1), (13, LL a28 x14.1), (15, I x15.1), (23, I y28a.1)]
  refine gS 0 ?_
  refine gR 37 (rg Tryz.f3 37) ?_
  refine se (mkE (s_0.append ((170, I z3.2.2) :: [(171, B (ltI z3.2.2 5))])) [(24, .box [LL I z3.1, I z3.2.1] false)] 210) ?_
  refine pN ?_
  refine pS ?_
  refine gS 38 ?_
  refine gC 171 (ltI z3.2.2 5) ?_ ?_
  · refine gK ?_
    refine pN ?_
    refine pS ?_
    refine gS 41 ?_
    refine gB 9 ?_
    refine gS 39 ?_
    refine gR 38 (rg Tryz.f3 38) ?_
    refine sg 1 (mkE ((172, .ba 24 0) :: (s_0.append ((170, I z3.2.2) :: [(171, B (ltI z3.2.2 5))]))) [(24, .box [LL I z3.1, I z3.2.1] false)] 210) ?_
    refine mo (some 173) (ipB 14 24 [LL I z3.1, I z3.2.1] [LL I z3.1, I z3.2.1] [I (-3), I 14] [I (-3), I 14] [] (fun x : (Int × (List Int) × Int) => I x.1) (fun x : (Int × (List Int) × Int) => [LL I x.2.1, I x.2.2]) (h14 z3.1 z3.2.1 (-3) 14)) (fun x29 => ?_)
    refine sg 3 (mkE ((174, .ba 24 0) :: ((173, I x29.1) :: ((172, .ba 24 0) :: (s_0.append ((170, I z3.2.2) :: [(171, B (ltI z3.2.2 5))]))))) [(24, .box [LL I x29.2.1, I x29.2.2] false), (24, .box [LL I z3.1, I z3.2.1] false)] 210) ?_
    refine mo (some 175) (ipB 14 24 [LL I x29.2.1, I x29.2.2] [LL I x29.2.1, I x29.2.2] [I (-3), I 14] [I (-3), I 14] [] (fun x : (Int × (List Int) × Int) => I x.1) (fun x : (Int × (List Int) × Int) => [LL I x.2.1, I x.2.2]) (h14 x29.2.1 x29.2.2 (-3) 14)) (fun x30 => ?_)
    refine se (mkE (s_0.append ((31, I x29.1) :: ((32, I x30.1) :: [(170, I z3.2.2)]))) [(24, .box [LL I x30.2.1, I x30.2.2] false)] 210) ?_
    refine pN ?_
    refine pS ?_
    refine gS 0 ?_
    refine gR 39 (rg Tryz.f3 39) ?_
    refine sg 3 (mkE ((178, I x30.1) :: ((177, I x29.1) :: ((176, LL a28 x9.1) :: (s_0.append ((31, I x29.1) :: ((32, I x30.1) :: [(170, I z3.2.2)])))))) [(24, .box [LL I x30.2.1, I x30.2.2] false)] 210) ?_
    refine co 179 [] (h25 x9.1 x29.1 x30.1) (fun x31 => ?_)
    refine sg 7 (mkE ((182, I x30.1) :: ((181, I x29.1) :: ((180, LL a28 y4.2.2.2.2) :: ((179, B x31) :: ((178, I x30.1) :: ((177, I x29.1) :: ((176, LL a28 x9.1) :: (s_0.append ((31, I x29.1) :: ((32, I x30.1) :: [(170, I z3.2.2)])))))))))) [(24, .box [LL I x30.2.1, I x30.2.2] false)] 210) ?_
    refine co 183 [] (h25 y4.2.2.2.2 x29.1 x30.1) (fun x32 => ?_)
    refine sg 10 (mkE ((185, B (x31 != x32)) :: ((184, B (x31 != x32)) :: ((183, B x32) :: ((182, I x30.1) :: ((181, I x29.1) :: ((180, LL a28 y4.2.2.2.2) :: ((179, B x31) :: ((178, I x30.1) :: ((177, I x29.1) :: ((176, LL a28 x9.1) :: (s_0.append ((31, I x29.1) :: ((32, I x30.1) :: [(170, I z3.2.2)]))))))))))))) [(24, .box [LL I x30.2.1, I x30.2.2] false)] 210) ?_
    refine sb 185 (x31 != x32) ?_ ?_
    · refine se (mkE (s_0.append ((170, I z3.2.2) :: [(202, B true)])) [(24, .box [LL I x30.2.1, I x30.2.2] false)] 210) ?_
      refine pN ?_
      refine pS ?_
      refine gT (.tmp 202) ?_
      refine gS 0 ?_
      refine gR 40 (rg Tryz.f3 40) ?_
      refine se (mkE [(2, B false)] [] 210) ?_
      refine pN ?_
      refine pS ?_
      refine gE ?_
      exact pL
    · refine sg 13 (mkE ((188, I x30.1) :: ((187, I x29.1) :: ((186, LL a28 x14.1) :: ((185, B false) :: ((185, B (x31 != x32)) :: ((184, B (x31 != x32)) :: ((183, B x32) :: ((182, I x30.1) :: ((181, I x29.1) :: ((180, LL a28 y4.2.2.2.2) :: ((179, B x31) :: ((178, I x30.1) :: ((177, I x29.1) :: ((176, LL a28 x9.1) :: (s_0.append ((31, I x29.1) :: ((32, I x30.1) :: [(170, I z3.2.2)]))))))))))))))))) [(24, .box [LL I x30.2.1, I x30.2.2] false)] 210) ?_
      refine co 189 [] (h25 x14.1 x29.1 x30.1) (fun x33 => ?_)
      refine sg 17 (mkE ((192, I x30.1) :: ((191, I x29.1) :: ((190, LL a28 y4.2.2.2.2) :: ((189, B x33) :: ((188, I x30.1) :: ((187, I x29.1) :: ((186, LL a28 x14.1) :: ((185, B false) :: ((185, B (x31 != x32)) :: ((184, B (x31 != x32)) :: ((183, B x32) :: ((182, I x30.1) :: ((181, I x29.1) :: ((180, LL a28 y4.2.2.2.2) :: ((179, B x31) :: ((178, I x30.1) :: ((177, I x29.1) :: ((176, LL a28 x9.1) :: (s_0.append ((31, I x29.1) :: ((32, I x30.1) :: [(170, I z3.2.2)]))))))))))))))))))))) [(24, .box [LL I x30.2.1, I x30.2.2] false)] 210) ?_
      refine co 193 [] (h25 y4.2.2.2.2 x29.1 x30.1) (fun x34 => ?_)
      refine sg 19 (mkE ((194, B x34) :: ((193, B x34) :: ((192, I x30.1) :: ((191, I x29.1) :: ((190, LL a28 y4.2.2.2.2) :: ((189, B x33) :: ((188, I x30.1) :: ((187, I x29.1) :: ((186, LL a28 x14.1) :: ((185, B false) :: ((185, B (x31 != x32)) :: ((184, B (x31 != x32)) :: ((183, B x32) :: ((182, I x30.1) :: ((181, I x29.1) :: ((180, LL a28 y4.2.2.2.2) :: ((179, B x31) :: ((178, I x30.1) :: ((177, I x29.1) :: ((176, LL a28 x9.1) :: (s_0.append ((31, I x29.1) :: ((32, I x30.1) :: [(170, I z3.2.2)]))))))))))))))))))))))) [(24, .box [LL I x30.2.1, I x30.2.2] false)] 210) ?_
      refine sb 194 x34 ?_ ?_
      · refine sg 22 (mkE ((197, I x30.1) :: ((196, I x29.1) :: ((195, LL a28 y8.2.2.2.2) :: ((194, B true) :: ((194, B x34) :: ((193, B x34) :: ((192, I x30.1) :: ((191, I x29.1) :: ((190, LL a28 y4.2.2.2.2) :: ((189, B x33) :: ((188, I x30.1) :: ((187, I x29.1) :: ((186, LL a28 x14.1) :: ((185, B false) :: ((185, B (x31 != x32)) :: ((184, B (x31 != x32)) :: ((183, B x32) :: ((182, I x30.1) :: ((181, I x29.1) :: ((180, LL a28 y4.2.2.2.2) :: ((179, B x31) :: ((178, I x30.1) :: ((177, I x29.1) :: ((176, LL a28 x9.1) :: (s_0.append ((31, I x29.1) :: ((32, I x30.1) :: [(170, I z3.2.2)]))))))))))))))))))))))))))) [(24, .box [LL I x30.2.1, I x30.2.2] false)] 210) ?_
        refine co 198 [] (h25 y8.2.2.2.2 x29.1 x30.1) (fun x35 => ?_)
        refine se (mkE (s_0.append ((170, I z3.2.2) :: [(202, B (x33 != (!x35)))])) [(24, .box [LL I x30.2.1, I x30.2.2] false)] 210) ?_
        refine pN ?_
        refine pS ?_
        refine gC 202 (x33 != (!x35)) ?_ ?_
        · refine gS 0 ?_
          refine gR 40 (rg Tryz.f3 40) ?_
          refine se (mkE [(2, B false)] [] 210) ?_
          refine pN ?_
          refine pS ?_
          refine gE ?_
          exact pL
        · refine gK ?_
          refine pB ?_
          refine pN ?_
          refine pS ?_
          refine gR 41 (rg Tryz.f3 41) ?_
          refine se (mkE (s_0.append [(170, I (addI .i64 z3.2.2 1))]) [(24, .box [LL I x30.2.1, I x30.2.2] false)] 210) ?_
          exact pL
      · refine se (mkE (s_0.append ((170, I z3.2.2) :: [(202, B (x33 != false))])) [(24, .box [LL I x30.2.1, I x30.2.2] false)] 210) ?_
        refine pN ?_
        refine pS ?_
        refine gC 202 (x33 != false) ?_ ?_
        · refine gS 0 ?_
          refine gR 40 (rg Tryz.f3 40) ?_
          refine se (mkE [(2, B false)] [] 210) ?_
          refine pN ?_
          refine pS ?_
          refine gE ?_
          exact pL
        · refine gK ?_
          refine pB ?_
          refine pN ?_
          refine pS ?_
          refine gR 41 (rg Tryz.f3 41) ?_
          refine se (mkE (s_0.append [(170, I (addI .i64 z3.2.2 1))]) [(24, .box [LL I x30.2.1, I x30.2.2] false)] 210) ?_
          exact pL
  · refine gX 8 ?_
    exact pL
noncomputable def T3 (p0 : (List Int)) : Option Bool := ((T14 p0 0 0 5).bind fun x1 => ((iter (L3_4 x1) (x1.2.1, x1.2.2, [], 0)).bind fun y4 => ((T14 y4.2.2.1 y4.2.2.2.1 0 3).bind fun x5 => ((iter (L3_8 y4 x5) (x5.2.1, x5.2.2, ([] : List S28), 0)).bind fun y8 => ((T16 y4.2.2.2.2).bind fun x9 => ((appO 32 ([] : List S28) y4.2.2.2.2).bind fun x10 => ((revO x10).bind fun x11 => ((T16 x11).bind fun x12 => ((T16 x9.1).bind fun x13 => ((T19 y4.2.2.2.2 y8.2.2.2.2).bind fun x14 => ((T20 y4.2.2.2.2).bind fun x15 => ((T20 x14.1).bind fun x16 => ((T21 ([y4.2.2.2.2, y8.2.2.2.2] : List (List S28))).bind fun x17 => ((T20 x17).bind fun x18 => ((T20 y8.2.2.2.2).bind fun x19 => ((T22 ([x9.2, x12.2, x13.2, x14.2, x15.2, x16.2, x18.2, x19.2] : List Int)).bind fun x20 => (bif (neI x20 0) then (some false) else ((T23 x9.1 x12.1).bind fun x21 => (bif (!x21) then (some false) else ((T23 x9.1 x13.1).bind fun x22 => (bif (!x22) then (some false) else (bif (neI x16.1 (subI .i64 x18.1 x19.1)) then (some false) else ((iter (L3_25 y4 y8 x9 x14 x15) (0, 0)).bind fun y28 => (Sum.elim (fun y28a => ((iter (L3_37 y4 y8 x9 x14 x15 y28a) (y8.2.2.1, y8.2.2.2.1, 0)).bind fun y36 => (Sum.elim (fun y36a => (bif (eqI y28a.1 x15.1) then ((T26).bind fun x37 => (some x37)) else (some false))) (fun y36b => (some false)) y36))) (fun y28b => (some false)) y28))))))))))))))))))))))))
theorem B3 (C : Callee) (h14 : ∀ (p0_c0 : (List Int)) (p0_c1 : Int) (p1 : Int) (p2 : Int), C 14 [.fb [LL I p0_c0, I p0_c1], I p1, I p2] = (T14 p0_c0 p0_c1 p1 p2).map (fun (r : (Int × (List Int) × Int)) => AV.inp (I r.1) (.fb [LL I r.2.1, I r.2.2]))) (h15 : ∀ (p0_c0 : (List Int)) (p0_c1 : Int), C 15 [.fb [LL I p0_c0, I p0_c1]] = (T15 p0_c0 p0_c1).map (fun (r : (S28 × (List Int) × Int)) => AV.inp (a28 r.1) (.fb [LL I r.2.1, I r.2.2]))) (h16 : ∀ (p0 : (List S28)), C 16 [LL a28 p0] = (T16 p0).map (fun r => AV.tup [(LL a28) r.1, I r.2])) (h17 : ∀ (p0 : (List S28)), C 17 [LL a28 p0] = (appO 32 ([] : List S28) p0).map (fun l => AV.fr 29 4 (List.map a28 l))) (h18 : ∀ (p0 : (List S28)), C 18 [.fr 29 4 (List.map a28 p0)] = (revO p0).map (fun (r : (List S28)) => AV.inp (.tup []) (.fr 29 4 (List.map a28 r)))) (h19 : ∀ (p0 : (List S28)) (p1 : (List S28)), C 19 [LL a28 p0, LL a28 p1] = (T19 p0 p1).map (fun r => AV.tup [(LL a28) r.1, I r.2])) (h20 : ∀ (p0 : (List S28)), C 20 [LL a28 p0] = (T20 p0).map (fun r => AV.tup [I r.1, I r.2])) (h21 : ∀ (p0 : (List (List S28))), C 21 [LL (LL a28) p0] = (T21 p0).map (fun l => AV.fr 29 4 (List.map a28 l))) (h22 : ∀ (p0 : (List Int)), C 22 [LL I p0] = (T22 p0).map I) (h23 : ∀ (p0 : (List S28)) (p1 : (List S28)), C 23 [LL a28 p0, LL a28 p1] = (T23 p0 p1).map B) (h24 : ∀ (p0 : S28) (p1 : S28), C 24 [a28 p0, a28 p1] = (T24 p0 p1).map (fun r => AV.tup [a28 r.1, B r.2.1, I r.2.2])) (h25 : ∀ (p0 : (List S28)) (p1 : Int) (p2 : Int), C 25 [LL a28 p0, I p1, I p2] = (T25 p0 p1 p2).map B) (h26 : C 26 [] = (T26).map B) (p0 : (List Int)) : runs Tryz.prog C (cfg.fn 3) (finFn Tryz.prog (cfg.fn 3).byval Tryz.f3) [] (execA Tryz.prog C (cfg.fn 3) (nr Tryz.f3 []) (frame0 [LL I p0] 210 false)) = (T3 p0).map B := by
  unfold T3
  let s_0 : List (Nat × AV) := [(3, .ba 24 0), (4, .own 32 0), (5, .own 40 0)]
  refine gS 1 ?_
  refine gR 0 (rg Tryz.f3 0) ?_
  refine se (mkE [(0, LL I p0)] [] 210) ?_
  refine pN ?_
  refine pS ?_
  refine gS 2 ?_
  refine gR 1 (rg Tryz.f3 1) ?_
  refine se (mkE [(3, .ba 280 0)] [(280, .box [LL I p0, I 0] false)] 210) ?_
  refine pN ?_
  refine pS ?_
  refine gS 3 ?_
  refine gR 2 (rg Tryz.f3 2) ?_
  refine se (mkE [(3, .ba 280 0), (4, .nils), (5, .nils)] [(280, .box [LL I p0, I 0] false)] 210) ?_
  refine pN ?_
  refine pS ?_
  refine gS 7 ?_
  refine gS 4 ?_
  refine gR 3 (rg Tryz.f3 3) ?_
  refine sg 1 (mkE [(36, .ba 280 0), (3, .ba 280 0), (4, .nils), (5, .nils)] [(280, .box [LL I p0, I 0] false)] 210) ?_
  refine mo (some 37) (ipB 14 280 [LL I p0, I 0] [LL I p0, I 0] [I 0, I 5] [I 0, I 5] [] (fun x : (Int × (List Int) × Int) => I x.1) (fun x : (Int × (List Int) × Int) => [LL I x.2.1, I x.2.2]) (h14 p0 0 0 5)) (fun x1 => ?_)
  refine se (mkE [(3, .ba 280 0), (4, .nils), (5, .nils), (37, I x1.1), (38, I 0)] [(280, .box [LL I x1.2.1, I x1.2.2] false)] 210) ?_
  refine pN ?_
  refine pS ?_
  refine gB 0 ?_
  refine lo [(3, none), (4, some (29, 4)), (5, some (29, 4)), (37, none), (38, none)] [] (L3_4 x1) (fun z0 : ((List Int) × Int × (List S28) × Int) => (mkE (s_0.append ((37, I x1.1) :: [(38, I z0.2.2.2)])) [(24, .box [LL I z0.1, I z0.2.1] false), (32, RR 29 4 a28 z0.2.2.1 0 false), (40, RR 29 4 a28 ([] : List S28) 0 false)] 210)) (fun (x : (Int × Bool × (List Int) × Int × (List S28))) => (.exit 0, (mkE (s_0.append ((37, I x1.1) :: ((38, I x.1) :: [(39, B x.2.1)]))) [(24, .box [LL I x.2.2.1, I x.2.2.2.1] false), (32, RR 29 4 a28 x.2.2.2.2 0 false), (40, RR 29 4 a28 ([] : List S28) 0 false)] 210))) (x1.2.1, x1.2.2, [], 0) (fun z => L3_4_ok C h15 x1 z) ?_
  intro y4
  refine pH ?_
  refine pN ?_
  refine pS ?_
  refine gS 11 ?_
  refine gS 8 ?_
  refine gR 7 (rg Tryz.f3 7) ?_
  refine sg 1 (mkE ((46, .ba 24 0) :: (s_0.append ((37, I x1.1) :: ((38, I y4.1) :: [(39, B y4.2.1)])))) [(24, .box [LL I y4.2.2.1, I y4.2.2.2.1] false), (32, RR 29 4 a28 y4.2.2.2.2 0 false), (40, RR 29 4 a28 ([] : List S28) 0 false)] 210) ?_
  refine mo (some 47) (ipB 14 24 [LL I y4.2.2.1, I y4.2.2.2.1] [LL I y4.2.2.1, I y4.2.2.2.1] [I 0, I 3] [I 0, I 3] [] (fun x : (Int × (List Int) × Int) => I x.1) (fun x : (Int × (List Int) × Int) => [LL I x.2.1, I x.2.2]) (h14 y4.2.2.1 y4.2.2.2.1 0 3)) (fun x5 => ?_)
  refine se (mkE (s_0.append ((47, I x5.1) :: [(48, I 0)])) [(24, .box [LL I x5.2.1, I x5.2.2] false), (32, RR 29 4 a28 y4.2.2.2.2 0 false), (40, RR 29 4 a28 ([] : List S28) 0 false)] 210) ?_
  refine pN ?_
  refine pS ?_
  refine gB 2 ?_
  refine lo [(3, none), (4, some (29, 4)), (5, some (29, 4)), (47, none), (48, none)] [] (L3_8 y4 x5) (fun z1 : ((List Int) × Int × (List S28) × Int) => (mkE (s_0.append ((47, I x5.1) :: [(48, I z1.2.2.2)])) [(24, .box [LL I z1.1, I z1.2.1] false), (32, RR 29 4 a28 y4.2.2.2.2 0 false), (40, RR 29 4 a28 z1.2.2.1 0 false)] 210)) (fun (x : (Int × Bool × (List Int) × Int × (List S28))) => (.exit 2, (mkE (s_0.append ((47, I x5.1) :: ((48, I x.1) :: [(49, B x.2.1)]))) [(24, .box [LL I x.2.2.1, I x.2.2.2.1] false), (32, RR 29 4 a28 y4.2.2.2.2 0 false), (40, RR 29 4 a28 x.2.2.2.2 0 false)] 210))) (x5.2.1, x5.2.2, ([] : List S28), 0) (fun z => L3_8_ok C h15 y4 x5 z) ?_
  intro y8
  refine pH ?_
  refine pN ?_
  refine pS ?_
  refine gS 12 ?_
  refine gR 11 (rg Tryz.f3 11) ?_
  refine sg 1 (mkE ((57, .own 32 0) :: (s_0.append ((47, I x5.1) :: ((48, I y8.1) :: [(49, B y8.2.1)])))) [(24, .box [LL I y8.2.2.1, I y8.2.2.2.1] false), (32, RR 29 4 a28 y4.2.2.2.2 0 false), (40, RR 29 4 a28 y8.2.2.2.2 0 false)] 210) ?_
  refine co 58 [32] (h16 y4.2.2.2.2) (fun x9 => ?_)
  refine se (mkE (s_0.append ((6, LL a28 x9.1) :: [(7, I x9.2)])) [(24, .box [LL I y8.2.2.1, I y8.2.2.2.1] false), (32, RR 29 4 a28 y4.2.2.2.2 0 true), (40, RR 29 4 a28 y8.2.2.2.2 0 false)] 210) ?_
  refine pN ?_
  refine pS ?_
  refine gS 13 ?_
  refine gR 12 (rg Tryz.f3 12) ?_
  refine sg 1 (mkE ((61, .own 32 0) :: (s_0.append ((6, LL a28 x9.1) :: [(7, I x9.2)]))) [(24, .box [LL I y8.2.2.1, I y8.2.2.2.1] false), (32, RR 29 4 a28 y4.2.2.2.2 0 true), (40, RR 29 4 a28 y8.2.2.2.2 0 false)] 210) ?_
  refine co 62 [32] (h17 y4.2.2.2.2) (fun x10 => ?_)
  refine se (mkE (s_0.append ((6, LL a28 x9.1) :: ((7, I x9.2) :: [(8, .own 496 0)]))) [(24, .box [LL I y8.2.2.1, I y8.2.2.2.1] false), (32, RR 29 4 a28 y4.2.2.2.2 0 true), (40, RR 29 4 a28 y8.2.2.2.2 0 false), (496, RR 29 4 a28 x10 0 false)] 210) ?_
  refine pN ?_
  refine pS ?_
  refine gS 14 ?_
  refine gR 13 (rg Tryz.f3 13) ?_
  refine sg 1 (mkE ((63, .own 496 0) :: (s_0.append ((6, LL a28 x9.1) :: ((7, I x9.2) :: [(8, .own 496 0)])))) [(24, .box [LL I y8.2.2.1, I y8.2.2.2.1] false), (32, RR 29 4 a28 y4.2.2.2.2 0 true), (40, RR 29 4 a28 y8.2.2.2.2 0 false), (496, RR 29 4 a28 x10 0 false)] 210) ?_
  refine mo (some 64) (ipR 18 29 4 496 0 a28 x10 [] [] [] (fun x : (List S28) => .tup []) (fun x : (List S28) => x) (h18 x10)) (fun x11 => ?_)
  refine se (mkE (s_0.append ((6, LL a28 x9.1) :: ((7, I x9.2) :: [(8, .own 496 0)]))) [(24, .box [LL I y8.2.2.1, I y8.2.2.2.1] false), (32, RR 29 4 a28 y4.2.2.2.2 0 true), (40, RR 29 4 a28 y8.2.2.2.2 0 false), (496, RR 29 4 a28 x11 0 false)] 210) ?_
  refine pN ?_
  refine pS ?_
  refine gS 15 ?_
  refine gR 14 (rg Tryz.f3 14) ?_
  refine sg 1 (mkE ((66, .own 496 0) :: (s_0.append ((6, LL a28 x9.1) :: ((7, I x9.2) :: [(8, .own 496 0)])))) [(24, .box [LL I y8.2.2.1, I y8.2.2.2.1] false), (32, RR 29 4 a28 y4.2.2.2.2 0 true), (40, RR 29 4 a28 y8.2.2.2.2 0 false), (496, RR 29 4 a28 x11 0 false)] 210) ?_
  refine co 67 [496] (h16 x11) (fun x12 => ?_)
  refine se (mkE (s_0.append ((6, LL a28 x9.1) :: ((7, I x9.2) :: ((9, LL a28 x12.1) :: [(10, I x12.2)])))) [(24, .box [LL I y8.2.2.1, I y8.2.2.2.1] false), (32, RR 29 4 a28 y4.2.2.2.2 0 true), (40, RR 29 4 a28 y8.2.2.2.2 0 false)] 210) ?_
  refine pN ?_
  refine pS ?_
  refine gS 16 ?_
  refine gR 15 (rg Tryz.f3 15) ?_
  refine sg 1 (mkE ((71, LL a28 x9.1) :: (s_0.append ((6, LL a28 x9.1) :: ((7, I x9.2) :: ((9, LL a28 x12.1) :: [(10, I x12.2)]))))) [(24, .box [LL I y8.2.2.1, I y8.2.2.2.1] false), (32, RR 29 4 a28 y4.2.2.2.2 0 true), (40, RR 29 4 a28 y8.2.2.2.2 0 false)] 210) ?_
  refine co 72 [] (h16 x9.1) (fun x13 => ?_)
  refine se (mkE (s_0.append ((6, LL a28 x9.1) :: ((7, I x9.2) :: ((9, LL a28 x12.1) :: ((10, I x12.2) :: ((11, LL a28 x13.1) :: [(12, I x13.2)])))))) [(24, .box [LL I y8.2.2.1, I y8.2.2.2.1] false), (32, RR 29 4 a28 y4.2.2.2.2 0 true), (40, RR 29 4 a28 y8.2.2.2.2 0 false)] 210) ?_
  refine pN ?_
  refine pS ?_
  refine gS 17 ?_
  refine gR 16 (rg Tryz.f3 16) ?_
  refine sg 2 (mkE ((77, .own 40 0) :: ((76, .own 32 0) :: (s_0.append ((6, LL a28 x9.1) :: ((7, I x9.2) :: ((9, LL a28 x12.1) :: ((10, I x12.2) :: ((11, LL a28 x13.1) :: [(12, I x13.2)])))))))) [(24, .box [LL I y8.2.2.1, I y8.2.2.2.1] false), (32, RR 29 4 a28 y4.2.2.2.2 0 true), (40, RR 29 4 a28 y8.2.2.2.2 0 false)] 210) ?_
  refine co 78 [32, 40] (h19 y4.2.2.2.2 y8.2.2.2.2) (fun x14 => ?_)
  refine se (mkE (s_0.append ((6, LL a28 x9.1) :: ((7, I x9.2) :: ((9, LL a28 x12.1) :: ((10, I x12.2) :: ((11, LL a28 x13.1) :: ((12, I x13.2) :: ((13, LL a28 x14.1) :: [(14, I x14.2)])))))))) [(24, .box [LL I y8.2.2.1, I y8.2.2.2.1] false), (32, RR 29 4 a28 y4.2.2.2.2 0 true), (40, RR 29 4 a28 y8.2.2.2.2 0 true)] 210) ?_
  refine pN ?_
  refine pS ?_
  refine gS 18 ?_
  refine gR 17 (rg Tryz.f3 17) ?_
  refine sg 1 (mkE ((82, .own 32 0) :: (s_0.append ((6, LL a28 x9.1) :: ((7, I x9.2) :: ((9, LL a28 x12.1) :: ((10, I x12.2) :: ((11, LL a28 x13.1) :: ((12, I x13.2) :: ((13, LL a28 x14.1) :: [(14, I x14.2)]))))))))) [(24, .box [LL I y8.2.2.1, I y8.2.2.2.1] false), (32, RR 29 4 a28 y4.2.2.2.2 0 true), (40, RR 29 4 a28 y8.2.2.2.2 0 true)] 210) ?_
  refine co 83 [32] (h20 y4.2.2.2.2) (fun x15 => ?_)
  refine se (mkE (s_0.append ((6, LL a28 x9.1) :: ((7, I x9.2) :: ((9, LL a28 x12.1) :: ((10, I x12.2) :: ((11, LL a28 x13.1) :: ((12, I x13.2) :: ((13, LL a28 x14.1) :: ((14, I x14.2) :: ((15, I x15.1) :: [(16, I x15.2)])))))))))) [(24, .box [LL I y8.2.2.1, I y8.2.2.2.1] false), (32, RR 29 4 a28 y4.2.2.2.2 0 true), (40, RR 29 4 a28 y8.2.2.2.2 0 true)] 210) ?_
  refine pN ?_
  refine pS ?_
  refine gS 19 ?_
  refine gR 18 (rg Tryz.f3 18) ?_
  refine sg 1 (mkE ((87, LL a28 x14.1) :: (s_0.append ((6, LL a28 x9.1) :: ((7, I x9.2) :: ((9, LL a28 x12.1) :: ((10, I x12.2) :: ((11, LL a28 x13.1) :: ((12, I x13.2) :: ((13, LL a28 x14.1) :: ((14, I x14.2) :: ((15, I x15.1) :: [(16, I x15.2)]))))))))))) [(24, .box [LL I y8.2.2.1, I y8.2.2.2.1] false), (32, RR 29 4 a28 y4.2.2.2.2 0 true), (40, RR 29 4 a28 y8.2.2.2.2 0 true)] 210) ?_
  refine co 88 [] (h20 x14.1) (fun x16 => ?_)
  refine se (mkE (s_0.append ((6, LL a28 x9.1) :: ((7, I x9.2) :: ((9, LL a28 x12.1) :: ((10, I x12.2) :: ((11, LL a28 x13.1) :: ((12, I x13.2) :: ((13, LL a28 x14.1) :: ((14, I x14.2) :: ((15, I x15.1) :: ((16, I x15.2) :: ((17, I x16.1) :: [(18, I x16.2)])))))))))))) [(24, .box [LL I y8.2.2.1, I y8.2.2.2.1] false), (32, RR 29 4 a28 y4.2.2.2.2 0 true), (40, RR 29 4 a28 y8.2.2.2.2 0 true)] 210) ?_
  refine pN ?_
  refine pS ?_
  refine gS 20 ?_
  refine gR 19 (rg Tryz.f3 19) ?_
  refine sg 3 (mkE ((94, .own 752 0) :: ((93, .own 40 0) :: ((92, .own 32 0) :: (s_0.append ((6, LL a28 x9.1) :: ((7, I x9.2) :: ((9, LL a28 x12.1) :: ((10, I x12.2) :: ((11, LL a28 x13.1) :: ((12, I x13.2) :: ((13, LL a28 x14.1) :: ((14, I x14.2) :: ((15, I x15.1) :: ((16, I x15.2) :: ((17, I x16.1) :: [(18, I x16.2)]))))))))))))))) [(752, RR 26 1 (LL a28) ([y4.2.2.2.2, y8.2.2.2.2] : List (List S28)) 0 false), (40, RR 29 4 a28 y8.2.2.2.2 0 true), (32, RR 29 4 a28 y4.2.2.2.2 0 true), (24, .box [LL I y8.2.2.1, I y8.2.2.2.1] false), (32, RR 29 4 a28 y4.2.2.2.2 0 true), (40, RR 29 4 a28 y8.2.2.2.2 0 true)] 210) ?_
  refine co 95 [752] (h21 ([y4.2.2.2.2, y8.2.2.2.2] : List (List S28))) (fun x17 => ?_)
  refine co 96 [760] (h20 x17) (fun x18 => ?_)
  refine se (mkE (s_0.append ((6, LL a28 x9.1) :: ((7, I x9.2) :: ((9, LL a28 x12.1) :: ((10, I x12.2) :: ((11, LL a28 x13.1) :: ((12, I x13.2) :: ((13, LL a28 x14.1) :: ((14, I x14.2) :: ((15, I x15.1) :: ((16, I x15.2) :: ((17, I x16.1) :: ((18, I x16.2) :: ((19, I x18.1) :: [(20, I x18.2)])))))))))))))) [(24, .box [LL I y8.2.2.1, I y8.2.2.2.1] false), (32, RR 29 4 a28 y4.2.2.2.2 0 true), (40, RR 29 4 a28 y8.2.2.2.2 0 true)] 210) ?_
  refine pN ?_
  refine pS ?_
  refine gS 21 ?_
  refine gR 20 (rg Tryz.f3 20) ?_
  refine sg 1 (mkE ((100, .own 40 0) :: (s_0.append ((6, LL a28 x9.1) :: ((7, I x9.2) :: ((9, LL a28 x12.1) :: ((10, I x12.2) :: ((11, LL a28 x13.1) :: ((12, I x13.2) :: ((13, LL a28 x14.1) :: ((14, I x14.2) :: ((15, I x15.1) :: ((16, I x15.2) :: ((17, I x16.1) :: ((18, I x16.2) :: ((19, I x18.1) :: [(20, I x18.2)]))))))))))))))) [(24, .box [LL I y8.2.2.1, I y8.2.2.2.1] false), (32, RR 29 4 a28 y4.2.2.2.2 0 true), (40, RR 29 4 a28 y8.2.2.2.2 0 true)] 210) ?_
  refine co 101 [40] (h20 y8.2.2.2.2) (fun x19 => ?_)
  refine se (mkE (s_0.append ((6, LL a28 x9.1) :: ((7, I x9.2) :: ((9, LL a28 x12.1) :: ((10, I x12.2) :: ((11, LL a28 x13.1) :: ((12, I x13.2) :: ((13, LL a28 x14.1) :: ((14, I x14.2) :: ((15, I x15.1) :: ((16, I x15.2) :: ((17, I x16.1) :: ((18, I x16.2) :: ((19, I x18.1) :: ((20, I x18.2) :: ((21, I x19.1) :: [(22, I x19.2)])))))))))))))))) [(24, .box [LL I y8.2.2.1, I y8.2.2.2.1] false), (32, RR 29 4 a28 y4.2.2.2.2 0 true), (40, RR 29 4 a28 y8.2.2.2.2 0 true)] 210) ?_
  refine pN ?_
  refine pS ?_
  refine gS 23 ?_
  refine gS 0 ?_
  refine gR 21 (rg Tryz.f3 21) ?_
  refine sg 9 (mkE ((112, .own 896 0) :: ((111, I x19.2) :: ((110, I x18.2) :: ((109, I x16.2) :: ((108, I x15.2) :: ((107, I x14.2) :: ((106, I x13.2) :: ((105, I x12.2) :: ((104, I x9.2) :: (s_0.append ((6, LL a28 x9.1) :: ((7, I x9.2) :: ((9, LL a28 x12.1) :: ((10, I x12.2) :: ((11, LL a28 x13.1) :: ((12, I x13.2) :: ((13, LL a28 x14.1) :: ((14, I x14.2) :: ((15, I x15.1) :: ((16, I x15.2) :: ((17, I x16.1) :: ((18, I x16.2) :: ((19, I x18.1) :: ((20, I x18.2) :: ((21, I x19.1) :: [(22, I x19.2)]))))))))))))))))))))))))) [(896, RR 31 1 I ([x9.2, x12.2, x13.2, x14.2, x15.2, x16.2, x18.2, x19.2] : List Int) 0 false), (24, .box [LL I y8.2.2.1, I y8.2.2.2.1] false), (32, RR 29 4 a28 y4.2.2.2.2 0 true), (40, RR 29 4 a28 y8.2.2.2.2 0 true)] 210) ?_
  refine co 113 [896] (h22 ([x9.2, x12.2, x13.2, x14.2, x15.2, x16.2, x18.2, x19.2] : List Int)) (fun x20 => ?_)
  refine sg 12 (mkE ((115, B (neI x20 0)) :: ((114, B (neI x20 0)) :: ((113, I x20) :: ((112, .own 896 0) :: ((111, I x19.2) :: ((110, I x18.2) :: ((109, I x16.2) :: ((108, I x15.2) :: ((107, I x14.2) :: ((106, I x13.2) :: ((105, I x12.2) :: ((104, I x9.2) :: (s_0.append ((6, LL a28 x9.1) :: ((7, I x9.2) :: ((9, LL a28 x12.1) :: ((10, I x12.2) :: ((11, LL a28 x13.1) :: ((12, I x13.2) :: ((13, LL a28 x14.1) :: ((14, I x14.2) :: ((15, I x15.1) :: ((16, I x15.2) :: ((17, I x16.1) :: ((18, I x16.2) :: ((19, I x18.1) :: ((20, I x18.2) :: ((21, I x19.1) :: [(22, I x19.2)])))))))))))))))))))))))))))) [(896, RR 31 1 I ([x9.2, x12.2, x13.2, x14.2, x15.2, x16.2, x18.2, x19.2] : List Int) 0 false), (24, .box [LL I y8.2.2.1, I y8.2.2.2.1] false), (32, RR 29 4 a28 y4.2.2.2.2 0 true), (40, RR 29 4 a28 y8.2.2.2.2 0 true)] 210) ?_
  refine sb 115 (neI x20 0) ?_ ?_
  · refine se (mkE (s_0.append ((6, LL a28 x9.1) :: ((13, LL a28 x14.1) :: ((15, I x15.1) :: [(133, B true)])))) [(24, .box [LL I y8.2.2.1, I y8.2.2.2.1] false), (32, RR 29 4 a28 y4.2.2.2.2 0 true), (40, RR 29 4 a28 y8.2.2.2.2 0 true)] 210) ?_
    refine pN ?_
    refine pS ?_
    refine gT (.tmp 133) ?_
    refine gS 0 ?_
    refine gR 22 (rg Tryz.f3 22) ?_
    refine se (mkE [(2, B false)] [] 210) ?_
    refine pN ?_
    refine pS ?_
    refine gE ?_
    exact pL
  · refine sg 14 (mkE ((117, LL a28 x12.1) :: ((116, LL a28 x9.1) :: ((115, B false) :: ((115, B (neI x20 0)) :: ((114, B (neI x20 0)) :: ((113, I x20) :: ((112, .own 896 0) :: ((111, I x19.2) :: ((110, I x18.2) :: ((109, I x16.2) :: ((108, I x15.2) :: ((107, I x14.2) :: ((106, I x13.2) :: ((105, I x12.2) :: ((104, I x9.2) :: (s_0.append ((6, LL a28 x9.1) :: ((7, I x9.2) :: ((9, LL a28 x12.1) :: ((10, I x12.2) :: ((11, LL a28 x13.1) :: ((12, I x13.2) :: ((13, LL a28 x14.1) :: ((14, I x14.2) :: ((15, I x15.1) :: ((16, I x15.2) :: ((17, I x16.1) :: ((18, I x16.2) :: ((19, I x18.1) :: ((20, I x18.2) :: ((21, I x19.1) :: [(22, I x19.2)]))))))))))))))))))))))))))))))) [(896, RR 31 1 I ([x9.2, x12.2, x13.2, x14.2, x15.2, x16.2, x18.2, x19.2] : List Int) 0 false), (24, .box [LL I y8.2.2.1, I y8.2.2.2.1] false), (32, RR 29 4 a28 y4.2.2.2.2 0 true), (40, RR 29 4 a28 y8.2.2.2.2 0 true)] 210) ?_
    refine co 118 [] (h23 x9.1 x12.1) (fun x21 => ?_)
    refine sg 18 (mkE ((121, B (!x21)) :: ((120, B (!x21)) :: ((119, B (!x21)) :: ((118, B x21) :: ((117, LL a28 x12.1) :: ((116, LL a28 x9.1) :: ((115, B false) :: ((115, B (neI x20 0)) :: ((114, B (neI x20 0)) :: ((113, I x20) :: ((112, .own 896 0) :: ((111, I x19.2) :: ((110, I x18.2) :: ((109, I x16.2) :: ((108, I x15.2) :: ((107, I x14.2) :: ((106, I x13.2) :: ((105, I x12.2) :: ((104, I x9.2) :: (s_0.append ((6, LL a28 x9.1) :: ((7, I x9.2) :: ((9, LL a28 x12.1) :: ((10, I x12.2) :: ((11, LL a28 x13.1) :: ((12, I x13.2) :: ((13, LL a28 x14.1) :: ((14, I x14.2) :: ((15, I x15.1) :: ((16, I x15.2) :: ((17, I x16.1) :: ((18, I x16.2) :: ((19, I x18.1) :: ((20, I x18.2) :: ((21, I x19.1) :: [(22, I x19.2)]))))))))))))))))))))))))))))))))))) [(896, RR 31 1 I ([x9.2, x12.2, x13.2, x14.2, x15.2, x16.2, x18.2, x19.2] : List Int) 0 false), (24, .box [LL I y8.2.2.1, I y8.2.2.2.1] false), (32, RR 29 4 a28 y4.2.2.2.2 0 true), (40, RR 29 4 a28 y8.2.2.2.2 0 true)] 210) ?_
    refine sb 121 (!x21) ?_ ?_
    · refine se (mkE (s_0.append ((6, LL a28 x9.1) :: ((13, LL a28 x14.1) :: ((15, I x15.1) :: [(133, B true)])))) [(24, .box [LL I y8.2.2.1, I y8.2.2.2.1] false), (32, RR 29 4 a28 y4.2.2.2.2 0 true), (40, RR 29 4 a28 y8.2.2.2.2 0 true)] 210) ?_
      refine pN ?_
      refine pS ?_
      refine gT (.tmp 133) ?_
      refine gS 0 ?_
      refine gR 22 (rg Tryz.f3 22) ?_
      refine se (mkE [(2, B false)] [] 210) ?_
      refine pN ?_
      refine pS ?_
      refine gE ?_
      exact pL
    · refine sg 20 (mkE ((123, LL a28 x13.1) :: ((122, LL a28 x9.1) :: ((121, B false) :: ((121, B (!x21)) :: ((120, B (!x21)) :: ((119, B (!x21)) :: ((118, B x21) :: ((117, LL a28 x12.1) :: ((116, LL a28 x9.1) :: ((115, B false) :: ((115, B (neI x20 0)) :: ((114, B (neI x20 0)) :: ((113, I x20) :: ((112, .own 896 0) :: ((111, I x19.2) :: ((110, I x18.2) :: ((109, I x16.2) :: ((108, I x15.2) :: ((107, I x14.2) :: ((106, I x13.2) :: ((105, I x12.2) :: ((104, I x9.2) :: (s_0.append ((6, LL a28 x9.1) :: ((7, I x9.2) :: ((9, LL a28 x12.1) :: ((10, I x12.2) :: ((11, LL a28 x13.1) :: ((12, I x13.2) :: ((13, LL a28 x14.1) :: ((14, I x14.2) :: ((15, I x15.1) :: ((16, I x15.2) :: ((17, I x16.1) :: ((18, I x16.2) :: ((19, I x18.1) :: ((20, I x18.2) :: ((21, I x19.1) :: [(22, I x19.2)])))))))))))))))))))))))))))))))))))))) [(896, RR 31 1 I ([x9.2, x12.2, x13.2, x14.2, x15.2, x16.2, x18.2, x19.2] : List Int) 0 false), (24, .box [LL I y8.2.2.1, I y8.2.2.2.1] false), (32, RR 29 4 a28 y4.2.2.2.2 0 true), (40, RR 29 4 a28 y8.2.2.2.2 0 true)] 210) ?_
      refine co 124 [] (h23 x9.1 x13.1) (fun x22 => ?_)
      refine sg 24 (mkE ((127, B (!x22)) :: ((126, B (!x22)) :: ((125, B (!x22)) :: ((124, B x22) :: ((123, LL a28 x13.1) :: ((122, LL a28 x9.1) :: ((121, B false) :: ((121, B (!x21)) :: ((120, B (!x21)) :: ((119, B (!x21)) :: ((118, B x21) :: ((117, LL a28 x12.1) :: ((116, LL a28 x9.1) :: ((115, B false) :: ((115, B (neI x20 0)) :: ((114, B (neI x20 0)) :: ((113, I x20) :: ((112, .own 896 0) :: ((111, I x19.2) :: ((110, I x18.2) :: ((109, I x16.2) :: ((108, I x15.2) :: ((107, I x14.2) :: ((106, I x13.2) :: ((105, I x12.2) :: ((104, I x9.2) :: (s_0.append ((6, LL a28 x9.1) :: ((7, I x9.2) :: ((9, LL a28 x12.1) :: ((10, I x12.2) :: ((11, LL a28 x13.1) :: ((12, I x13.2) :: ((13, LL a28 x14.1) :: ((14, I x14.2) :: ((15, I x15.1) :: ((16, I x15.2) :: ((17, I x16.1) :: ((18, I x16.2) :: ((19, I x18.1) :: ((20, I x18.2) :: ((21, I x19.1) :: [(22, I x19.2)])))))))))))))))))))))))))))))))))))))))))) [(896, RR 31 1 I ([x9.2, x12.2, x13.2, x14.2, x15.2, x16.2, x18.2, x19.2] : List Int) 0 false), (24, .box [LL I y8.2.2.1, I y8.2.2.2.1] false), (32, RR 29 4 a28 y4.2.2.2.2 0 true), (40, RR 29 4 a28 y8.2.2.2.2 0 true)] 210) ?_
      refine sb 127 (!x22) ?_ ?_
      · refine se (mkE (s_0.append ((6, LL a28 x9.1) :: ((13, LL a28 x14.1) :: ((15, I x15.1) :: [(133, B true)])))) [(24, .box [LL I y8.2.2.1, I y8.2.2.2.1] false), (32, RR 29 4 a28 y4.2.2.2.2 0 true), (40, RR 29 4 a28 y8.2.2.2.2 0 true)] 210) ?_
        refine pN ?_
        refine pS ?_
        refine gT (.tmp 133) ?_
        refine gS 0 ?_
        refine gR 22 (rg Tryz.f3 22) ?_
        refine se (mkE [(2, B false)] [] 210) ?_
        refine pN ?_
        refine pS ?_
        refine gE ?_
        exact pL
      · refine se (mkE (s_0.append ((6, LL a28 x9.1) :: ((13, LL a28 x14.1) :: ((15, I x15.1) :: [(133, B (neI x16.1 (subI .i64 x18.1 x19.1)))])))) [(24, .box [LL I y8.2.2.1, I y8.2.2.2.1] false), (32, RR 29 4 a28 y4.2.2.2.2 0 true), (40, RR 29 4 a28 y8.2.2.2.2 0 true)] 210) ?_
        refine pN ?_
        refine pS ?_
        refine gC 133 (neI x16.1 (subI .i64 x18.1 x19.1)) ?_ ?_
        · refine gS 0 ?_
          refine gR 22 (rg Tryz.f3 22) ?_
          refine se (mkE [(2, B false)] [] 210) ?_
          refine pN ?_
          refine pS ?_
          refine gE ?_
          exact pL
        · refine gK ?_
          refine pN ?_
          refine pS ?_
          refine gS 24 ?_
          refine gR 23 (rg Tryz.f3 23) ?_
          refine se (mkE (s_0.append ((6, LL a28 x9.1) :: ((13, LL a28 x14.1) :: ((15, I x15.1) :: [(23, I 0)])))) [(24, .box [LL I y8.2.2.1, I y8.2.2.2.1] false), (32, RR 29 4 a28 y4.2.2.2.2 0 true), (40, RR 29 4 a28 y8.2.2.2.2 0 true)] 210) ?_
          refine pN ?_
          refine pS ?_
          refine gS 36 ?_
          refine gS 25 ?_
          refine gR 24 (rg Tryz.f3 24) ?_
          refine sg 1 (mkE ((134, LL a28 x9.1) :: (s_0.append ((6, LL a28 x9.1) :: ((13, LL a28 x14.1) :: ((15, I x15.1) :: [(23, I 0)]))))) [(24, .box [LL I y8.2.2.1, I y8.2.2.2.1] false), (32, RR 29 4 a28 y4.2.2.2.2 0 true), (40, RR 29 4 a28 y8.2.2.2.2 0 true)] 210) ?_
          refine eo 135 (I (lenL x9.1)) (lenE 26 a28 x9.1) ?_
          refine se (mkE (s_0.append ((6, LL a28 x9.1) :: ((13, LL a28 x14.1) :: ((15, I x15.1) :: ((23, I 0) :: ((134, LL a28 x9.1) :: ((135, I (lenL x9.1)) :: [(136, I 0)]))))))) [(24, .box [LL I y8.2.2.1, I y8.2.2.2.1] false), (32, RR 29 4 a28 y4.2.2.2.2 0 true), (40, RR 29 4 a28 y8.2.2.2.2 0 true)] 210) ?_
          refine pN ?_
          refine pS ?_
          refine gB 4 ?_
          refine lo [(3, none), (4, none), (5, none), (6, none), (13, none), (15, none), (23, none), (134, none), (135, none), (136, none)] [] (L3_25 y4 y8 x9 x14 x15) (fun z2 : (Int × Int) => (mkE [(3, .ba 24 0), (4, LL a28 y4.2.2.2.2), (5, LL a28 y8.2.2.2.2), (6, LL a28 x9.1), (13, LL a28 x14.1), (15, I x15.1), (23, I z2.1), (134, LL a28 x9.1), (135, I (lenL x9.1)), (136, I z2.2)] [(24, .box [LL I y8.2.2.1, I y8.2.2.2.1] false)] 210)) (Sum.elim (fun (x : (Int × Int × Bool)) => (.exit 4, (mkE [(3, .ba 24 0), (4, LL a28 y4.2.2.2.2), (5, LL a28 y8.2.2.2.2), (6, LL a28 x9.1), (13, LL a28 x14.1), (15, I x15.1), (23, I x.1), (134, LL a28 x9.1), (135, I (lenL x9.1)), (136, I x.2.1), (137, B x.2.2)] [(24, .box [LL I y8.2.2.1, I y8.2.2.2.1] false)] 210))) (fun (x : Unit) => (.ret, (mkE [(2, B false)] [] 210)))) (0, 0) (fun z => L3_25_ok C h24 y4 y8 x9 x14 x15 z) ?_
          intro y28
          refine ss y28 (Z := (Sum.elim (fun (x : (Int × Int × Bool)) => (.exit 4, (mkE [(3, .ba 24 0), (4, LL a28 y4.2.2.2.2), (5, LL a28 y8.2.2.2.2), (6, LL a28 x9.1), (13, LL a28 x14.1), (15, I x15.1), (23, I x.1), (134, LL a28 x9.1), (135, I (lenL x9.1)), (136, I x.2.1), (137, B x.2.2)] [(24, .box [LL I y8.2.2.1, I y8.2.2.2.1] false)] 210))) (fun (x : Unit) => (.ret, (mkE [(2, B false)] [] 210))))) (fun y28a => ?_) (fun y28b => ?_)
          · refine pH ?_
            refine pN ?_
            refine pS ?_
            refine gS 42 ?_
            refine gS 37 ?_
            refine gR 36 (rg Tryz.f3 36) ?_
            refine se (mkE [(3, .ba 24 0), (4, LL a28 y4.2.2.2.2), (5, LL a28 y8.2.2.2.2), (6, LL a28 x9.1), (13, LL a28 x14.1), (15, I x15.1), (23, I y28a.1), (170, I 0)] [(24, .box [LL I y8.2.2.1, I y8.2.2.2.1] false)] 210) ?_
            refine pN ?_
            refine pS ?_
            refine gB 8 ?_
            refine lo [(3, none), (4, none), (5, none), (6, none), (13, none), (15, none), (23, none), (170, none)] [] (L3_37 y4 y8 x9 x14 x15 y28a) (fun z3 : ((List Int) × Int × Int) => (mkE [(3, .ba 24 0), (4, LL a28 y4.2.2.2.2), (5, LL a28 y8.2.2.2.2), (6, LL a28 x9.1), (13, LL a28 x14.1), (15, I x15.1), (23, I y28a.1), (170, I z3.2.2)] [(24, .box [LL I z3.1, I z3.2.1] false)] 210)) (Sum.elim (fun (x : (Int × Bool × (List Int) × Int)) => (.exit 8, (mkE [(3, .ba 24 0), (4, LL a28 y4.2.2.2.2), (5, LL a28 y8.2.2.2.2), (6, LL a28 x9.1), (13, LL a28 x14.1), (15, I x15.1), (23, I y28a.1), (170, I x.1), (171, B x.2.1)] [(24, .box [LL I x.2.2.1, I x.2.2.2] false)] 210))) (fun (x : Unit) => (.ret, (mkE [(2, B false)] [] 210)))) (y8.2.2.1, y8.2.2.2.1, 0) (fun z => L3_37_ok C h14 h25 y4 y8 x9 x14 x15 y28a z) ?_
            intro y36
            refine ss y36 (Z := (Sum.elim (fun (x : (Int × Bool × (List Int) × Int)) => (.exit 8, (mkE [(3, .ba 24 0), (4, LL a28 y4.2.2.2.2), (5, LL a28 y8.2.2.2.2), (6, LL a28 x9.1), (13, LL a28 x14.1), (15, I x15.1), (23, I y28a.1), (170, I x.1), (171, B x.2.1)] [(24, .box [LL I x.2.2.1, I x.2.2.2] false)] 210))) (fun (x : Unit) => (.ret, (mkE [(2, B false)] [] 210))))) (fun y36a => ?_) (fun y36b => ?_)
            · refine pH ?_
              refine pN ?_
              refine pS ?_
              refine gS 0 ?_
              refine gR 42 (rg Tryz.f3 42) ?_
              refine sg 4 (mkE [(207, B (eqI y28a.1 x15.1)), (206, B (eqI y28a.1 x15.1)), (205, I x15.1), (204, I y28a.1), (3, .ba 24 0), (4, LL a28 y4.2.2.2.2), (5, LL a28 y8.2.2.2.2), (6, LL a28 x9.1), (13, LL a28 x14.1), (15, I x15.1), (23, I y28a.1), (170, I y36a.1), (171, B y36a.2.1)] [(24, .box [LL I y36a.2.2.1, I y36a.2.2.2] false)] 210) ?_
              refine sb 207 (eqI y28a.1 x15.1) ?_ ?_
              · refine co 208 [] (h26) (fun x37 => ?_)
                refine se (mkE [(2, B x37)] [] 210) ?_
                refine pN ?_
                refine pS ?_
                refine gE ?_
                exact pL
              · refine se (mkE [(2, B false)] [] 210) ?_
                refine pN ?_
                refine pS ?_
                refine gE ?_
                exact pL
            · exact pL
          · exact pL
theorem F3 (m : Nat) (hm : 11 ≤ m) (p0 : (List Int)) : callA Tryz.prog cfg m 3 [LL I p0] = (T3 p0).map B := by
  obtain ⟨q, rfl⟩ : ∃ q, m = q + 1 := ⟨m - 1, by omega⟩
  exact (callA_body (fn := Tryz.f3) (c := body_ Tryz.f3) q _ (by kernel_rfl) (by kernel_rfl) (by kernel_rfl)).trans (B3 _ (fun p0_c0 p0_c1 p1 p2 => F14 q (by omega) p0_c0 p0_c1 p1 p2) (fun p0_c0 p0_c1 => F15 q (by omega) p0_c0 p0_c1) (fun p0 => F16 q (by omega) p0) (fun p0 => F17 q (by omega) p0) (fun p0 => F18 q (by omega) p0) (fun p0 p1 => F19 q (by omega) p0 p1) (fun p0 => F20 q (by omega) p0) (fun p0 => F21 q (by omega) p0) (fun p0 => F22 q (by omega) p0) (fun p0 p1 => F23 q (by omega) p0 p1) (fun p0 p1 => F24 q (by omega) p0 p1) (fun p0 p1 p2 => F25 q (by omega) p0 p1 p2) (F26 q (by omega)) p0)

end Go.Abs.TKQ
