import Derived.Test.YtehmcdmjhdlcgaaGreatDoorJTKMp2
set_option maxRecDepth 100000
set_option linter.unusedVariables false
namespace Go.Abs.TKM
open Go.RowKit Go.Proofs Go.Abs
noncomputable def T75 (p0_c0 : (List Int)) (p0_c1 : Int) (p1 : (List Int)) : Option (Int × (List Int) × Int) := ((T57 p0_c0 p0_c1 (lenL p1)).bind fun x1 => ((listAt p1 x1.1).bind fun x2 => (some (x2, x1.2.1, x1.2.2))))
theorem B75 (C : Callee) (h57 : ∀ (p0_c0 : (List Int)) (p0_c1 : Int) (p1 : Int), C 57 [.fb [LL I p0_c0, I p0_c1], I p1] = (T57 p0_c0 p0_c1 p1).map (fun (r : (Int × (List Int) × Int)) => AV.inp (I r.1) (.fb [LL I r.2.1, I r.2.2]))) (p0_c0 : (List Int)) (p0_c1 : Int) (p1 : (List Int)) : runs Tryz.prog C (cfg.fn 75) (finFnI Tryz.prog Tryz.f75) [] (execA Tryz.prog C (cfg.fn 75) (nr Tryz.f75 []) (frame0 [.fb [LL I p0_c0, I p0_c1], LL I p1] 12 true)) = (T75 p0_c0 p0_c1 p1).map (fun (r : (Int × (List Int) × Int)) => AV.inp (I r.1) (.fb [LL I r.2.1, I r.2.2])) := by
  unfold T75
  refine gS 1 ?_
  refine gR 0 (rg Tryz.f75 0) ?_
  refine se (mkE [(0, .ba 0 0), (1, LL I p1)] [(0, .box [LL I p0_c0, I p0_c1] false)] ⟨12, true⟩) ?_
  refine pN ?_
  refine pS ?_
  refine gS 0 ?_
  refine gR 1 (rg Tryz.f75 1) ?_
  refine sg 3 (mkE [(7, LL I p1), (6, .ba 0 0), (5, LL I p1), (0, .ba 0 0), (1, LL I p1)] [(0, .box [LL I p0_c0, I p0_c1] false)] ⟨12, true⟩) ?_
  refine eo 8 (I (lenL p1)) (lenE 22 I p1) ?_
  refine mo (some 9) (ipB 57 0 [LL I p0_c0, I p0_c1] [LL I p0_c0, I p0_c1] [I (lenL p1)] [I (lenL p1)] [] (fun x : (Int × (List Int) × Int) => I x.1) (fun x : (Int × (List Int) × Int) => [LL I x.2.1, I x.2.2]) (h57 p0_c0 p0_c1 (lenL p1))) (fun x1 => ?_)
  refine vo 10 (addrE 22 3 1 I .i64 p1 x1.1) (fun x2 => ?_)
  refine se (mkE [(0, .ba 0 0), (4, I x2)] [(0, .box [LL I x1.2.1, I x1.2.2] false)] ⟨12, true⟩) ?_
  refine pN ?_
  refine pS ?_
  refine gE ?_
  exact pL
theorem F75 (m : Nat) (hm : 3 ≤ m) (p0_c0 : (List Int)) (p0_c1 : Int) (p1 : (List Int)) : callA Tryz.prog cfg m 75 [.fb [LL I p0_c0, I p0_c1], LL I p1] = (T75 p0_c0 p0_c1 p1).map (fun (r : (Int × (List Int) × Int)) => AV.inp (I r.1) (.fb [LL I r.2.1, I r.2.2])) := by
  obtain ⟨q, rfl⟩ : ∃ q, m = q + 1 := ⟨m - 1, by omega⟩
  exact (callA_bodyI (fn := Tryz.f75) (c := body_ Tryz.f75) q _ (by kernel_rfl) (by kernel_rfl) (by kernel_rfl)).trans (B75 _ (fun p0_c0 p0_c1 p1 => F57 q (by omega) p0_c0 p0_c1 p1) p0_c0 p0_c1 p1)

noncomputable def T14 (p0_c0 : (List Int)) (p0_c1 : Int) (p1 : Int) (p2 : Int) : Option (Int × (List Int) × Int) := (bif (ltI p2 p1) then (some (p1, p0_c0, p0_c1)) else ((T57 p0_c0 p0_c1 (addI .i64 (subI .i64 p2 p1) 1)).bind fun x1 => (some ((addI .i64 p1 x1.1), x1.2.1, x1.2.2))))
theorem B14 (C : Callee) (h57 : ∀ (p0_c0 : (List Int)) (p0_c1 : Int) (p1 : Int), C 57 [.fb [LL I p0_c0, I p0_c1], I p1] = (T57 p0_c0 p0_c1 p1).map (fun (r : (Int × (List Int) × Int)) => AV.inp (I r.1) (.fb [LL I r.2.1, I r.2.2]))) (p0_c0 : (List Int)) (p0_c1 : Int) (p1 : Int) (p2 : Int) : runs Tryz.prog C (cfg.fn 14) (finFnI Tryz.prog Tryz.f14) [] (execA Tryz.prog C (cfg.fn 14) (nr Tryz.f14 []) (frame0 [.fb [LL I p0_c0, I p0_c1], I p1, I p2] 19 true)) = (T14 p0_c0 p0_c1 p1 p2).map (fun (r : (Int × (List Int) × Int)) => AV.inp (I r.1) (.fb [LL I r.2.1, I r.2.2])) := by
  unfold T14
  refine gS 1 ?_
  refine gR 0 (rg Tryz.f14 0) ?_
  refine se (mkE [(0, .ba 0 0), (1, I p1), (2, I p2)] [(0, .box [LL I p0_c0, I p0_c1] false)] ⟨19, true⟩) ?_
  refine pN ?_
  refine pS ?_
  refine gS 3 ?_
  refine gS 0 ?_
  refine gR 1 (rg Tryz.f14 1) ?_
  refine se (mkE [(0, .ba 0 0), (1, I p1), (2, I p2), (9, B (ltI p2 p1))] [(0, .box [LL I p0_c0, I p0_c1] false)] ⟨19, true⟩) ?_
  refine pN ?_
  refine pS ?_
  refine gC 9 (ltI p2 p1) ?_ ?_
  · refine gS 0 ?_
    refine gR 2 (rg Tryz.f14 2) ?_
    refine se (mkE [(0, .ba 0 0), (6, I p1)] [(0, .box [LL I p0_c0, I p0_c1] false)] ⟨19, true⟩) ?_
    refine pN ?_
    refine pS ?_
    refine gE ?_
    exact pL
  · refine gK ?_
    refine pN ?_
    refine pS ?_
    refine gS 0 ?_
    refine gR 3 (rg Tryz.f14 3) ?_
    refine sg 6 (mkE [(16, I (addI .i64 (subI .i64 p2 p1) 1)), (15, I (subI .i64 p2 p1)), (14, I p1), (13, I p2), (12, .ba 0 0), (11, I p1), (0, .ba 0 0), (1, I p1), (2, I p2), (9, B (ltI p2 p1))] [(0, .box [LL I p0_c0, I p0_c1] false)] ⟨19, true⟩) ?_
    refine mo (some 17) (ipB 57 0 [LL I p0_c0, I p0_c1] [LL I p0_c0, I p0_c1] [I (addI .i64 (subI .i64 p2 p1) 1)] [I (addI .i64 (subI .i64 p2 p1) 1)] [] (fun x : (Int × (List Int) × Int) => I x.1) (fun x : (Int × (List Int) × Int) => [LL I x.2.1, I x.2.2]) (h57 p0_c0 p0_c1 (addI .i64 (subI .i64 p2 p1) 1))) (fun x1 => ?_)
    refine se (mkE [(0, .ba 0 0), (6, I (addI .i64 p1 x1.1))] [(0, .box [LL I x1.2.1, I x1.2.2] false)] ⟨19, true⟩) ?_
    refine pN ?_
    refine pS ?_
    refine gE ?_
    exact pL
theorem F14 (m : Nat) (hm : 3 ≤ m) (p0_c0 : (List Int)) (p0_c1 : Int) (p1 : Int) (p2 : Int) : callA Tryz.prog cfg m 14 [.fb [LL I p0_c0, I p0_c1], I p1, I p2] = (T14 p0_c0 p0_c1 p1 p2).map (fun (r : (Int × (List Int) × Int)) => AV.inp (I r.1) (.fb [LL I r.2.1, I r.2.2])) := by
  obtain ⟨q, rfl⟩ : ∃ q, m = q + 1 := ⟨m - 1, by omega⟩
  exact (callA_bodyI (fn := Tryz.f14) (c := body_ Tryz.f14) q _ (by kernel_rfl) (by kernel_rfl) (by kernel_rfl)).trans (B14 _ (fun p0_c0 p0_c1 p1 => F57 q (by omega) p0_c0 p0_c1 p1) p0_c0 p0_c1 p1 p2)

noncomputable def T46 (p0_c0 : (List Int)) (p0_c1 : Int) (p1 : (List ByteArray)) : Option (ByteArray × (List Int) × Int) := ((T57 p0_c0 p0_c1 (lenL p1)).bind fun x1 => ((listAt p1 x1.1).bind fun x2 => (some (x2, x1.2.1, x1.2.2))))
theorem B46 (C : Callee) (h57 : ∀ (p0_c0 : (List Int)) (p0_c1 : Int) (p1 : Int), C 57 [.fb [LL I p0_c0, I p0_c1], I p1] = (T57 p0_c0 p0_c1 p1).map (fun (r : (Int × (List Int) × Int)) => AV.inp (I r.1) (.fb [LL I r.2.1, I r.2.2]))) (p0_c0 : (List Int)) (p0_c1 : Int) (p1 : (List ByteArray)) : runs Tryz.prog C (cfg.fn 46) (finFnI Tryz.prog Tryz.f46) [] (execA Tryz.prog C (cfg.fn 46) (nr Tryz.f46 []) (frame0 [.fb [LL I p0_c0, I p0_c1], LL S p1] 12 true)) = (T46 p0_c0 p0_c1 p1).map (fun (r : (ByteArray × (List Int) × Int)) => AV.inp (S r.1) (.fb [LL I r.2.1, I r.2.2])) := by
  unfold T46
  refine gS 1 ?_
  refine gR 0 (rg Tryz.f46 0) ?_
  refine se (mkE [(0, .ba 0 0), (1, LL S p1)] [(0, .box [LL I p0_c0, I p0_c1] false)] ⟨12, true⟩) ?_
  refine pN ?_
  refine pS ?_
  refine gS 0 ?_
  refine gR 1 (rg Tryz.f46 1) ?_
  refine sg 3 (mkE [(7, LL S p1), (6, .ba 0 0), (5, LL S p1), (0, .ba 0 0), (1, LL S p1)] [(0, .box [LL I p0_c0, I p0_c1] false)] ⟨12, true⟩) ?_
  refine eo 8 (I (lenL p1)) (lenE 61 S p1) ?_
  refine mo (some 9) (ipB 57 0 [LL I p0_c0, I p0_c1] [LL I p0_c0, I p0_c1] [I (lenL p1)] [I (lenL p1)] [] (fun x : (Int × (List Int) × Int) => I x.1) (fun x : (Int × (List Int) × Int) => [LL I x.2.1, I x.2.2]) (h57 p0_c0 p0_c1 (lenL p1))) (fun x1 => ?_)
  refine vo 10 (addrE 61 9 1 S .i64 p1 x1.1) (fun x2 => ?_)
  refine se (mkE [(0, .ba 0 0), (4, S x2)] [(0, .box [LL I x1.2.1, I x1.2.2] false)] ⟨12, true⟩) ?_
  refine pN ?_
  refine pS ?_
  refine gE ?_
  exact pL
theorem F46 (m : Nat) (hm : 3 ≤ m) (p0_c0 : (List Int)) (p0_c1 : Int) (p1 : (List ByteArray)) : callA Tryz.prog cfg m 46 [.fb [LL I p0_c0, I p0_c1], LL S p1] = (T46 p0_c0 p0_c1 p1).map (fun (r : (ByteArray × (List Int) × Int)) => AV.inp (S r.1) (.fb [LL I r.2.1, I r.2.2])) := by
  obtain ⟨q, rfl⟩ : ∃ q, m = q + 1 := ⟨m - 1, by omega⟩
  exact (callA_bodyI (fn := Tryz.f46) (c := body_ Tryz.f46) q _ (by kernel_rfl) (by kernel_rfl) (by kernel_rfl)).trans (B46 _ (fun p0_c0 p0_c1 p1 => F57 q (by omega) p0_c0 p0_c1 p1) p0_c0 p0_c1 p1)

noncomputable def L49_7 (p1 : Int) (z0 : ((List Int) × Int × (List S99) × (List ByteArray) × Int)) (x2 : ByteArray) (x4 : (Int × (List Int) × Int)) (z1 : ((List Int) × Int × (List S99) × Int × (List ByteArray) × Int)) : Option (((List Int) × Int × (List S99) × Int × (List ByteArray) × Int) ⊕ (Int × Int × Bool × (List Int) × Int × (List S99) × (List ByteArray))) := (bif (ltI z1.2.2.2.2.2 x4.1) then ((T46 z1.1 z1.2.1 ([(ByteArray.mk #[105, 97]), (ByteArray.mk #[105, 98])] : List ByteArray)).bind fun x5 => ((T75 x5.2.1 x5.2.2 ([1, 5, 10, 20] : List Int)).bind fun x6 => ((T75 x6.2.1 x6.2.2 ([1, 5, 10, 30] : List Int)).bind fun x7 => ((appO 48 z1.2.2.1 ([(S99.mk x2 x5.1 z1.2.2.2.1 x6.1)] : List S99)).bind fun x8 => (some (.inl (x7.2.1, x7.2.2, x8, (addI .i64 z1.2.2.2.1 x7.1), z1.2.2.2.2.1, (addI .i64 z1.2.2.2.2.2 1)))))))) else (some (.inr (z1.2.2.2.1, z1.2.2.2.2.2, (ltI z1.2.2.2.2.2 x4.1), z1.1, z1.2.1, z1.2.2.1, z1.2.2.2.2.1))))
theorem L49_7_ok (C : Callee) (h46 : ∀ (p0_c0 : (List Int)) (p0_c1 : Int) (p1 : (List ByteArray)), C 46 [.fb [LL I p0_c0, I p0_c1], LL S p1] = (T46 p0_c0 p0_c1 p1).map (fun (r : (ByteArray × (List Int) × Int)) => AV.inp (S r.1) (.fb [LL I r.2.1, I r.2.2]))) (h75 : ∀ (p0_c0 : (List Int)) (p0_c1 : Int) (p1 : (List Int)), C 75 [.fb [LL I p0_c0, I p0_c1], LL I p1] = (T75 p0_c0 p0_c1 p1).map (fun (r : (Int × (List Int) × Int)) => AV.inp (I r.1) (.fb [LL I r.2.1, I r.2.2]))) (p1 : Int) (z0 : ((List Int) × Int × (List S99) × (List ByteArray) × Int)) (x2 : ByteArray) (x4 : (Int × (List Int) × Int)) (z1 : ((List Int) × Int × (List S99) × Int × (List ByteArray) × Int)) : runs Tryz.prog C (cfg.fn 49) (finLoop ((cfg.fn 49).keep 7) ((cfg.fn 49).al 7)) [] (execA Tryz.prog C (cfg.fn 49) (nr Tryz.f49 [false, false, true, true, true, false, false, true, true, false, false, true, false, true, true]) ((fun z1 : ((List Int) × Int × (List S99) × Int × (List ByteArray) × Int) => (mkE [(0, .ba 0 0), (1, I p1), (5, .own 40 0), (7, S x2), (8, I z1.2.2.2.1), (10, .own 80 0), (11, I (lenL ([(ByteArray.mk #[112, 97]), (ByteArray.mk #[112, 98])] : List ByteArray))), (12, I z0.2.2.2.2), (21, I x4.1), (22, I z1.2.2.2.2.2)] [(0, .box [LL I z1.1, I z1.2.1] false), (40, RR 100 4 a99 z1.2.2.1 0 false), (80, RR 9 1 S z1.2.2.2.2.1 0 false)] ⟨45, true⟩)) z1)) = (L49_7 p1 z0 x2 x4 z1).map (Sum.elim (fun z => .inl ((fun z1 : ((List Int) × Int × (List S99) × Int × (List ByteArray) × Int) => (mkE [(0, .ba 0 0), (1, I p1), (5, .own 40 0), (7, S x2), (8, I z1.2.2.2.1), (10, .own 80 0), (11, I (lenL ([(ByteArray.mk #[112, 97]), (ByteArray.mk #[112, 98])] : List ByteArray))), (12, I z0.2.2.2.2), (21, I x4.1), (22, I z1.2.2.2.2.2)] [(0, .box [LL I z1.1, I z1.2.1] false), (40, RR 100 4 a99 z1.2.2.1 0 false), (80, RR 9 1 S z1.2.2.2.2.1 0 false)] ⟨45, true⟩)) z)) (fun x => .inr ((fun (x : (Int × Int × Bool × (List Int) × Int × (List S99) × (List ByteArray))) => (.exit 2, (mkE [(0, .ba 0 0), (1, I p1), (5, .own 40 0), (7, S x2), (8, I x.1), (10, .own 80 0), (11, I (lenL ([(ByteArray.mk #[112, 97]), (ByteArray.mk #[112, 98])] : List ByteArray))), (12, I z0.2.2.2.2), (21, I x4.1), (22, I x.2.1), (23, B x.2.2.1)] [(0, .box [LL I x.2.2.2.1, I x.2.2.2.2.1] false), (40, RR 100 4 a99 x.2.2.2.2.2.1 0 false), (80, RR 9 1 S x.2.2.2.2.2.2 0 false)] ⟨45, true⟩))) x))) := by
  unfold L49_7
  let s_0 : List (Nat × AV) := [(10, .own 80 0), (11, I (lenL ([(ByteArray.mk #[112, 97]), (ByteArray.mk #[112, 98])] : List ByteArray))), (12, I z0.2.2.2.2), (21, I x4.1), (22, I z1.2.2.2.2.2)]
  let s_1 : List (Nat × AV) := [(0, .ba 0 0), (1, I p1), (5, .own 40 0), (7, S x2)]
  let o_0 : List (Nat × AObj) := [(80, RR 9 1 S z1.2.2.2.2.1 0 false)]
  let o_1 : List (Nat × AObj) := [(40, RR 100 4 a99 z1.2.2.1 0 false)]
  let o_2 : List (Nat × AObj) := [(208, RR 9 1 S ([(ByteArray.mk #[105, 97]), (ByteArray.mk #[105, 98])] : List ByteArray) 0 false), (0, .box [LL I z1.1, I z1.2.1] false)]
  refine gS 0 ?_
  refine gR 7 (rg Tryz.f49 7) ?_
  refine se (mkE (s_1.append ((8, I z1.2.2.2.1) :: (s_0.append [(23, B (ltI z1.2.2.2.2.2 x4.1))]))) ((0, .box [LL I z1.1, I z1.2.1] false) :: (o_1.append o_0)) ⟨45, true⟩) ?_
  refine pN ?_
  refine pS ?_
  refine gS 8 ?_
  refine gC 23 (ltI z1.2.2.2.2.2 x4.1) ?_ ?_
  · refine gK ?_
    refine pN ?_
    refine pS ?_
    refine gS 11 ?_
    refine gB 3 ?_
    refine gS 9 ?_
    refine gR 8 (rg Tryz.f49 8) ?_
    refine sg 3 (mkE ((26, .own 208 0) :: ((25, .ba 0 0) :: ((24, S x2) :: (s_1.append ((8, I z1.2.2.2.1) :: (s_0.append [(23, B (ltI z1.2.2.2.2.2 x4.1))])))))) (o_2.append (o_1.append o_0)) ⟨45, true⟩) ?_
    refine mo (some 27) (ipB 46 0 [LL I z1.1, I z1.2.1] [LL I z1.1, I z1.2.1] [.own 208 0] [LL S ([(ByteArray.mk #[105, 97]), (ByteArray.mk #[105, 98])] : List ByteArray)] [208] (fun x : (ByteArray × (List Int) × Int) => S x.1) (fun x : (ByteArray × (List Int) × Int) => [LL I x.2.1, I x.2.2]) (h46 z1.1 z1.2.1 ([(ByteArray.mk #[105, 97]), (ByteArray.mk #[105, 98])] : List ByteArray))) (fun x5 => ?_)
    refine sg 7 (mkE ((30, .own 240 0) :: ((29, .ba 0 0) :: ((28, I z1.2.2.2.1) :: ((27, S x5.1) :: ((26, .own 208 0) :: ((25, .ba 0 0) :: ((24, S x2) :: (s_1.append ((8, I z1.2.2.2.1) :: (s_0.append [(23, B (ltI z1.2.2.2.2.2 x4.1))])))))))))) ((240, RR 3 1 I ([1, 5, 10, 20] : List Int) 0 false) :: ((0, .box [LL I x5.2.1, I x5.2.2] false) :: ((208, RR 9 1 S ([(ByteArray.mk #[105, 97]), (ByteArray.mk #[105, 98])] : List ByteArray) 0 true) :: (o_2.append (o_1.append o_0))))) ⟨45, true⟩) ?_
    refine mo (some 31) (ipB 75 0 [LL I x5.2.1, I x5.2.2] [LL I x5.2.1, I x5.2.2] [.own 240 0] [LL I ([1, 5, 10, 20] : List Int)] [240] (fun x : (Int × (List Int) × Int) => I x.1) (fun x : (Int × (List Int) × Int) => [LL I x.2.1, I x.2.2]) (h75 x5.2.1 x5.2.2 ([1, 5, 10, 20] : List Int))) (fun x6 => ?_)
    refine se (mkE (s_1.append ((8, I z1.2.2.2.1) :: ((9, .ba 72 0) :: s_0))) ((0, .box [LL I x6.2.1, I x6.2.2] false) :: (o_1.append ((72, .box [S x2, S x5.1, I z1.2.2.2.1, I x6.1] false) :: o_0))) ⟨45, true⟩) ?_
    refine pN ?_
    refine pS ?_
    refine gS 10 ?_
    refine gR 9 (rg Tryz.f49 9) ?_
    refine sg 3 (mkE ((35, .own 280 0) :: ((34, .ba 0 0) :: ((33, I z1.2.2.2.1) :: (s_1.append ((8, I z1.2.2.2.1) :: ((9, .ba 72 0) :: s_0)))))) ((280, RR 3 1 I ([1, 5, 10, 30] : List Int) 0 false) :: ((0, .box [LL I x6.2.1, I x6.2.2] false) :: (o_1.append ((72, .box [S x2, S x5.1, I z1.2.2.2.1, I x6.1] false) :: o_0)))) ⟨45, true⟩) ?_
    refine mo (some 36) (ipB 75 0 [LL I x6.2.1, I x6.2.2] [LL I x6.2.1, I x6.2.2] [.own 280 0] [LL I ([1, 5, 10, 30] : List Int)] [280] (fun x : (Int × (List Int) × Int) => I x.1) (fun x : (Int × (List Int) × Int) => [LL I x.2.1, I x.2.2]) (h75 x6.2.1 x6.2.2 ([1, 5, 10, 30] : List Int))) (fun x7 => ?_)
    refine se (mkE (s_1.append ((8, I (addI .i64 z1.2.2.2.1 x7.1)) :: ((9, .ba 72 0) :: s_0))) ((0, .box [LL I x7.2.1, I x7.2.2] false) :: (o_1.append ((72, .box [S x2, S x5.1, I z1.2.2.2.1, I x6.1] false) :: o_0))) ⟨45, true⟩) ?_
    refine pN ?_
    refine pS ?_
    refine gR 10 (rg Tryz.f49 10) ?_
    refine sg 3 (mkE ((40, .own 320 0) :: ((39, .agg [S x2, S x5.1, I z1.2.2.2.1, I x6.1]) :: ((38, .own 40 0) :: (s_1.append ((8, I (addI .i64 z1.2.2.2.1 x7.1)) :: ((9, .ba 72 0) :: s_0)))))) ((320, RR 100 4 a99 ([(S99.mk x2 x5.1 z1.2.2.2.1 x6.1)] : List S99) 0 false) :: ((0, .box [LL I x7.2.1, I x7.2.2] false) :: (o_1.append ((72, .box [S x2, S x5.1, I z1.2.2.2.1, I x6.1] false) :: o_0)))) ⟨45, true⟩) ?_
    refine mo (some 41) (apO 97 100 4 48 40 a99 0 [320] (y := .own 320 0) (l2 := ([(S99.mk x2 x5.1 z1.2.2.2.1 x6.1)] : List S99))) (fun x8 => ?_)
    refine se (mkE ((0, .ba 0 0) :: ((1, I p1) :: ((5, .own 40 1) :: ((7, S x2) :: ((8, I (addI .i64 z1.2.2.2.1 x7.1)) :: s_0))))) ((0, .box [LL I x7.2.1, I x7.2.2] false) :: ((40, RR 100 4 a99 x8 1 false) :: o_0)) ⟨45, true⟩) ?_
    refine pB ?_
    refine pN ?_
    refine pS ?_
    refine gR 11 (rg Tryz.f49 11) ?_
    refine se (mkE [(0, .ba 0 0), (1, I p1), (5, .own 40 1), (7, S x2), (8, I (addI .i64 z1.2.2.2.1 x7.1)), (10, .own 80 0), (11, I (lenL ([(ByteArray.mk #[112, 97]), (ByteArray.mk #[112, 98])] : List ByteArray))), (12, I z0.2.2.2.2), (21, I x4.1), (22, I (addI .i64 z1.2.2.2.2.2 1))] ((0, .box [LL I x7.2.1, I x7.2.2] false) :: ((40, RR 100 4 a99 x8 1 false) :: o_0)) ⟨45, true⟩) ?_
    exact pL
  · refine gX 2 ?_
    exact pL
noncomputable def L49_3 (p1 : Int) (z0 : ((List Int) × Int × (List S99) × (List ByteArray) × Int)) : Option (((List Int) × Int × (List S99) × (List ByteArray) × Int) ⊕ (Int × Bool × (List Int) × Int × (List S99) × (List ByteArray))) := (bif (ltI z0.2.2.2.2 (lenL ([(ByteArray.mk #[112, 97]), (ByteArray.mk #[112, 98])] : List ByteArray))) then ((idxO (List.length z0.2.2.2.1) z0.2.2.2.2).bind fun x1 => ((getN z0.2.2.2.1 x1).bind fun x2 => ((T75 z0.1 z0.2.1 ([0, 5, 86399990] : List Int)).bind fun x3 => ((T14 x3.2.1 x3.2.2 0 p1).bind fun x4 => ((iter (L49_7 p1 z0 x2 x4) (x4.2.1, x4.2.2, z0.2.2.1, x3.1, z0.2.2.2.1, 0)).bind fun y9 => (some (.inl (y9.2.2.2.1, y9.2.2.2.2.1, y9.2.2.2.2.2.1, y9.2.2.2.2.2.2, (addI .i64 z0.2.2.2.2 1))))))))) else (some (.inr (z0.2.2.2.2, (ltI z0.2.2.2.2 (lenL ([(ByteArray.mk #[112, 97]), (ByteArray.mk #[112, 98])] : List ByteArray))), z0.1, z0.2.1, z0.2.2.1, z0.2.2.2.1))))
theorem L49_3_ok (C : Callee) (h14 : ∀ (p0_c0 : (List Int)) (p0_c1 : Int) (p1 : Int) (p2 : Int), C 14 [.fb [LL I p0_c0, I p0_c1], I p1, I p2] = (T14 p0_c0 p0_c1 p1 p2).map (fun (r : (Int × (List Int) × Int)) => AV.inp (I r.1) (.fb [LL I r.2.1, I r.2.2]))) (h46 : ∀ (p0_c0 : (List Int)) (p0_c1 : Int) (p1 : (List ByteArray)), C 46 [.fb [LL I p0_c0, I p0_c1], LL S p1] = (T46 p0_c0 p0_c1 p1).map (fun (r : (ByteArray × (List Int) × Int)) => AV.inp (S r.1) (.fb [LL I r.2.1, I r.2.2]))) (h75 : ∀ (p0_c0 : (List Int)) (p0_c1 : Int) (p1 : (List Int)), C 75 [.fb [LL I p0_c0, I p0_c1], LL I p1] = (T75 p0_c0 p0_c1 p1).map (fun (r : (Int × (List Int) × Int)) => AV.inp (I r.1) (.fb [LL I r.2.1, I r.2.2]))) (p1 : Int) (z0 : ((List Int) × Int × (List S99) × (List ByteArray) × Int)) : runs Tryz.prog C (cfg.fn 49) (finLoop ((cfg.fn 49).keep 3) ((cfg.fn 49).al 3)) [] (execA Tryz.prog C (cfg.fn 49) (nr Tryz.f49 [false, false, true, false, true, true]) ((fun z0 : ((List Int) × Int × (List S99) × (List ByteArray) × Int) => (mkE [(0, .ba 0 0), (1, I p1), (5, .own 40 0), (10, .own 80 0), (11, I (lenL ([(ByteArray.mk #[112, 97]), (ByteArray.mk #[112, 98])] : List ByteArray))), (12, I z0.2.2.2.2)] [(0, .box [LL I z0.1, I z0.2.1] false), (40, RR 100 4 a99 z0.2.2.1 0 false), (80, RR 9 1 S z0.2.2.2.1 0 false)] ⟨45, true⟩)) z0)) = (L49_3 p1 z0).map (Sum.elim (fun z => .inl ((fun z0 : ((List Int) × Int × (List S99) × (List ByteArray) × Int) => (mkE [(0, .ba 0 0), (1, I p1), (5, .own 40 0), (10, .own 80 0), (11, I (lenL ([(ByteArray.mk #[112, 97]), (ByteArray.mk #[112, 98])] : List ByteArray))), (12, I z0.2.2.2.2)] [(0, .box [LL I z0.1, I z0.2.1] false), (40, RR 100 4 a99 z0.2.2.1 0 false), (80, RR 9 1 S z0.2.2.2.1 0 false)] ⟨45, true⟩)) z)) (fun x => .inr ((fun (x : (Int × Bool × (List Int) × Int × (List S99) × (List ByteArray))) => (.exit 0, (mkE [(0, .ba 0 0), (1, I p1), (5, .own 40 0), (10, .own 80 0), (11, I (lenL ([(ByteArray.mk #[112, 97]), (ByteArray.mk #[112, 98])] : List ByteArray))), (12, I x.1), (13, B x.2.1)] [(0, .box [LL I x.2.2.1, I x.2.2.2.1] false), (40, RR 100 4 a99 x.2.2.2.2.1 0 false), (80, RR 9 1 S x.2.2.2.2.2 0 false)] ⟨45, true⟩))) x))) := by
  unfold L49_3
  let s_0 : List (Nat × AV) := [(10, .own 80 0), (11, I (lenL ([(ByteArray.mk #[112, 97]), (ByteArray.mk #[112, 98])] : List ByteArray))), (12, I z0.2.2.2.2)]
  let s_1 : List (Nat × AV) := [(0, .ba 0 0), (1, I p1), (5, .own 40 0)]
  let o_0 : List (Nat × AObj) := [(40, RR 100 4 a99 z0.2.2.1 0 false), (80, RR 9 1 S z0.2.2.2.1 0 false)]
  refine gS 0 ?_
  refine gR 3 (rg Tryz.f49 3) ?_
  refine se (mkE (s_1.append (s_0.append [(13, B (ltI z0.2.2.2.2 (lenL ([(ByteArray.mk #[112, 97]), (ByteArray.mk #[112, 98])] : List ByteArray))))])) ((0, .box [LL I z0.1, I z0.2.1] false) :: o_0) ⟨45, true⟩) ?_
  refine pN ?_
  refine pS ?_
  refine gS 4 ?_
  refine gC 13 (ltI z0.2.2.2.2 (lenL ([(ByteArray.mk #[112, 97]), (ByteArray.mk #[112, 98])] : List ByteArray))) ?_ ?_
  · refine gK ?_
    refine pN ?_
    refine pS ?_
    refine gS 12 ?_
    refine gB 1 ?_
    refine gS 5 ?_
    refine gR 4 (rg Tryz.f49 4) ?_
    refine vo 14 (addrOE 61 9 1 80 0 false S .i64 z0.2.2.2.1 z0.2.2.2.2) (fun x1 => ?_)
    refine vo 15 (loadOE 9 80 0 x1 0 9 1 1 false false S (fun q : ByteArray => S q) z0.2.2.2.1) (fun x2 => ?_)
    refine se (mkE (s_1.append ((7, S x2) :: s_0)) ((0, .box [LL I z0.1, I z0.2.1] false) :: o_0) ⟨45, true⟩) ?_
    refine pN ?_
    refine pS ?_
    refine gS 6 ?_
    refine gR 5 (rg Tryz.f49 5) ?_
    refine sg 2 (mkE ((17, .own 136 0) :: ((16, .ba 0 0) :: (s_1.append ((7, S x2) :: s_0)))) ((136, RR 3 1 I ([0, 5, 86399990] : List Int) 0 false) :: ((0, .box [LL I z0.1, I z0.2.1] false) :: o_0)) ⟨45, true⟩) ?_
    refine mo (some 18) (ipB 75 0 [LL I z0.1, I z0.2.1] [LL I z0.1, I z0.2.1] [.own 136 0] [LL I ([0, 5, 86399990] : List Int)] [136] (fun x : (Int × (List Int) × Int) => I x.1) (fun x : (Int × (List Int) × Int) => [LL I x.2.1, I x.2.2]) (h75 z0.1 z0.2.1 ([0, 5, 86399990] : List Int))) (fun x3 => ?_)
    refine se (mkE (s_1.append ((7, S x2) :: ((8, I x3.1) :: s_0))) ((0, .box [LL I x3.2.1, I x3.2.2] false) :: o_0) ⟨45, true⟩) ?_
    refine pN ?_
    refine pS ?_
    refine gS 7 ?_
    refine gR 6 (rg Tryz.f49 6) ?_
    refine sg 2 (mkE ((20, I p1) :: ((19, .ba 0 0) :: (s_1.append ((7, S x2) :: ((8, I x3.1) :: s_0))))) ((0, .box [LL I x3.2.1, I x3.2.2] false) :: o_0) ⟨45, true⟩) ?_
    refine mo (some 21) (ipB 14 0 [LL I x3.2.1, I x3.2.2] [LL I x3.2.1, I x3.2.2] [I 0, I p1] [I 0, I p1] [] (fun x : (Int × (List Int) × Int) => I x.1) (fun x : (Int × (List Int) × Int) => [LL I x.2.1, I x.2.2]) (h14 x3.2.1 x3.2.2 0 p1)) (fun x4 => ?_)
    refine se (mkE (s_1.append ((7, S x2) :: ((8, I x3.1) :: (s_0.append ((21, I x4.1) :: [(22, I 0)]))))) ((0, .box [LL I x4.2.1, I x4.2.2] false) :: o_0) ⟨45, true⟩) ?_
    refine pN ?_
    refine pS ?_
    refine gB 2 ?_
    refine lo [(0, none), (1, none), (5, some (100, 4)), (7, none), (8, none), (10, some (9, 1)), (11, none), (12, none), (21, none), (22, none)] [] (L49_7 p1 z0 x2 x4) (fun z1 : ((List Int) × Int × (List S99) × Int × (List ByteArray) × Int) => (mkE (s_1.append ((7, S x2) :: ((8, I z1.2.2.2.1) :: (s_0.append ((21, I x4.1) :: [(22, I z1.2.2.2.2.2)]))))) [(0, .box [LL I z1.1, I z1.2.1] false), (40, RR 100 4 a99 z1.2.2.1 0 false), (80, RR 9 1 S z1.2.2.2.2.1 0 false)] ⟨45, true⟩)) (fun (x : (Int × Int × Bool × (List Int) × Int × (List S99) × (List ByteArray))) => (.exit 2, (mkE (s_1.append ((7, S x2) :: ((8, I x.1) :: (s_0.append ((21, I x4.1) :: ((22, I x.2.1) :: [(23, B x.2.2.1)])))))) [(0, .box [LL I x.2.2.2.1, I x.2.2.2.2.1] false), (40, RR 100 4 a99 x.2.2.2.2.2.1 0 false), (80, RR 9 1 S x.2.2.2.2.2.2 0 false)] ⟨45, true⟩))) (x4.2.1, x4.2.2, z0.2.2.1, x3.1, z0.2.2.2.1, 0) (fun z => L49_7_ok C h46 h75 p1 z0 x2 x4 z) ?_
    intro y9
    refine pH ?_
    refine pB ?_
    refine pN ?_
    refine pS ?_
    refine gR 12 (rg Tryz.f49 12) ?_
    refine se (mkE (s_1.append ((10, .own 80 0) :: ((11, I (lenL ([(ByteArray.mk #[112, 97]), (ByteArray.mk #[112, 98])] : List ByteArray))) :: [(12, I (addI .i64 z0.2.2.2.2 1))]))) [(0, .box [LL I y9.2.2.2.1, I y9.2.2.2.2.1] false), (40, RR 100 4 a99 y9.2.2.2.2.2.1 0 false), (80, RR 9 1 S y9.2.2.2.2.2.2 0 false)] ⟨45, true⟩) ?_
    exact pL
  · refine gX 0 ?_
    exact pL
noncomputable def T49 (p0_c0 : (List Int)) (p0_c1 : Int) (p1 : Int) : Option ((List S99) × (List Int) × Int) := ((iter (L49_3 p1) (p0_c0, p0_c1, [], ([(ByteArray.mk #[112, 97]), (ByteArray.mk #[112, 98])] : List ByteArray), 0)).bind fun y10 => (some (y10.2.2.2.2.1, y10.2.2.1, y10.2.2.2.1)))
theorem B49 (C : Callee) (h14 : ∀ (p0_c0 : (List Int)) (p0_c1 : Int) (p1 : Int) (p2 : Int), C 14 [.fb [LL I p0_c0, I p0_c1], I p1, I p2] = (T14 p0_c0 p0_c1 p1 p2).map (fun (r : (Int × (List Int) × Int)) => AV.inp (I r.1) (.fb [LL I r.2.1, I r.2.2]))) (h46 : ∀ (p0_c0 : (List Int)) (p0_c1 : Int) (p1 : (List ByteArray)), C 46 [.fb [LL I p0_c0, I p0_c1], LL S p1] = (T46 p0_c0 p0_c1 p1).map (fun (r : (ByteArray × (List Int) × Int)) => AV.inp (S r.1) (.fb [LL I r.2.1, I r.2.2]))) (h75 : ∀ (p0_c0 : (List Int)) (p0_c1 : Int) (p1 : (List Int)), C 75 [.fb [LL I p0_c0, I p0_c1], LL I p1] = (T75 p0_c0 p0_c1 p1).map (fun (r : (Int × (List Int) × Int)) => AV.inp (I r.1) (.fb [LL I r.2.1, I r.2.2]))) (p0_c0 : (List Int)) (p0_c1 : Int) (p1 : Int) : runs Tryz.prog C (cfg.fn 49) (finFnI Tryz.prog Tryz.f49) [] (execA Tryz.prog C (cfg.fn 49) (nr Tryz.f49 []) (frame0 [.fb [LL I p0_c0, I p0_c1], I p1] 45 true)) = (T49 p0_c0 p0_c1 p1).map (fun (r : ((List S99) × (List Int) × Int)) => AV.inp (LL a99 r.1) (.fb [LL I r.2.1, I r.2.2])) := by
  unfold T49
  let s_0 : List (Nat × AV) := [(10, .own 80 0), (11, I (lenL ([(ByteArray.mk #[112, 97]), (ByteArray.mk #[112, 98])] : List ByteArray)))]
  refine gS 1 ?_
  refine gR 0 (rg Tryz.f49 0) ?_
  refine se (mkE [(0, .ba 0 0), (1, I p1)] [(0, .box [LL I p0_c0, I p0_c1] false)] ⟨45, true⟩) ?_
  refine pN ?_
  refine pS ?_
  refine gS 2 ?_
  refine gR 1 (rg Tryz.f49 1) ?_
  refine se (mkE [(0, .ba 0 0), (1, I p1), (5, .nils)] [(0, .box [LL I p0_c0, I p0_c1] false)] ⟨45, true⟩) ?_
  refine pN ?_
  refine pS ?_
  refine gS 13 ?_
  refine gS 3 ?_
  refine gR 2 (rg Tryz.f49 2) ?_
  refine sg 1 (mkE [(10, .own 80 0), (0, .ba 0 0), (1, I p1), (5, .nils)] [(80, RR 9 1 S ([(ByteArray.mk #[112, 97]), (ByteArray.mk #[112, 98])] : List ByteArray) 0 false), (0, .box [LL I p0_c0, I p0_c1] false)] ⟨45, true⟩) ?_
  refine eo 11 (I (lenL ([(ByteArray.mk #[112, 97]), (ByteArray.mk #[112, 98])] : List ByteArray))) (lenOE 61 9 1 S ([(ByteArray.mk #[112, 97]), (ByteArray.mk #[112, 98])] : List ByteArray)) ?_
  refine se (mkE ((0, .ba 0 0) :: ((1, I p1) :: ((5, .nils) :: (s_0.append [(12, I 0)])))) [(0, .box [LL I p0_c0, I p0_c1] false), (80, RR 9 1 S ([(ByteArray.mk #[112, 97]), (ByteArray.mk #[112, 98])] : List ByteArray) 0 false)] ⟨45, true⟩) ?_
  refine pN ?_
  refine pS ?_
  refine gB 0 ?_
  refine lo [(0, none), (1, none), (5, some (100, 4)), (10, some (9, 1)), (11, none), (12, none)] [] (L49_3 p1) (fun z0 : ((List Int) × Int × (List S99) × (List ByteArray) × Int) => (mkE ((0, .ba 0 0) :: ((1, I p1) :: ((5, .own 40 0) :: (s_0.append [(12, I z0.2.2.2.2)])))) [(0, .box [LL I z0.1, I z0.2.1] false), (40, RR 100 4 a99 z0.2.2.1 0 false), (80, RR 9 1 S z0.2.2.2.1 0 false)] ⟨45, true⟩)) (fun (x : (Int × Bool × (List Int) × Int × (List S99) × (List ByteArray))) => (.exit 0, (mkE ((0, .ba 0 0) :: ((1, I p1) :: ((5, .own 40 0) :: (s_0.append ((12, I x.1) :: [(13, B x.2.1)]))))) [(0, .box [LL I x.2.2.1, I x.2.2.2.1] false), (40, RR 100 4 a99 x.2.2.2.2.1 0 false), (80, RR 9 1 S x.2.2.2.2.2 0 false)] ⟨45, true⟩))) (p0_c0, p0_c1, [], ([(ByteArray.mk #[112, 97]), (ByteArray.mk #[112, 98])] : List ByteArray), 0) (fun z => L49_3_ok C h14 h46 h75 p1 z) ?_
  intro y10
  refine pH ?_
  refine pN ?_
  refine pS ?_
  refine gS 0 ?_
  refine gR 13 (rg Tryz.f49 13) ?_
  refine se (mkE [(0, .ba 0 0), (4, .own 40 0)] [(0, .box [LL I y10.2.2.1, I y10.2.2.2.1] false), (40, RR 100 4 a99 y10.2.2.2.2.1 0 false)] ⟨45, true⟩) ?_
  refine pN ?_
  refine pS ?_
  refine gE ?_
  exact pL
theorem F49 (m : Nat) (hm : 4 ≤ m) (p0_c0 : (List Int)) (p0_c1 : Int) (p1 : Int) : callA Tryz.prog cfg m 49 [.fb [LL I p0_c0, I p0_c1], I p1] = (T49 p0_c0 p0_c1 p1).map (fun (r : ((List S99) × (List Int) × Int)) => AV.inp (LL a99 r.1) (.fb [LL I r.2.1, I r.2.2])) := by
  obtain ⟨q, rfl⟩ : ∃ q, m = q + 1 := ⟨m - 1, by omega⟩
  exact (callA_bodyI (fn := Tryz.f49) (c := body_ Tryz.f49) q _ (by kernel_rfl) (by kernel_rfl) (by kernel_rfl)).trans (B49 _ (fun p0_c0 p0_c1 p1 p2 => F14 q (by omega) p0_c0 p0_c1 p1 p2) (fun p0_c0 p0_c1 p1 => F46 q (by omega) p0_c0 p0_c1 p1) (fun p0_c0 p0_c1 p1 => F75 q (by omega) p0_c0 p0_c1 p1) p0_c0 p0_c1 p1)

noncomputable def T125 (p0 : S99) (p1 : S99) : Option Int := ((T141 p0.f0 p1.f0).bind fun x1 => ((T142 p0.f2 p1.f2).bind fun x2 => ((T140 ([x1, x2] : List Int)).bind fun x3 => (some x3))))
theorem B125 (C : Callee) (h140 : ∀ (p0 : (List Int)), C 140 [LL I p0] = (T140 p0).map I) (h141 : ∀ (p0 : ByteArray) (p1 : ByteArray), C 141 [S p0, S p1] = (T141 p0 p1).map I) (h142 : ∀ (p0 : Int) (p1 : Int), C 142 [I p0, I p1] = (T142 p0 p1).map I) (p0 : S99) (p1 : S99) : runs Tryz.prog C (cfg.fn 125) (finFn Tryz.prog (cfg.fn 125).byval Tryz.f125) [] (execA Tryz.prog C (cfg.fn 125) (nr Tryz.f125 []) (frame0 [a99 p0, a99 p1] 17 false)) = (T125 p0 p1).map I := by
  unfold T125
  let d_0 : List (Option Nat × REff) := [(some 5, qe (.ba 16 0)), (some 6, qe (S p0.f0)), (some 7, qe (.ba 24 0)), (some 8, qe (S p1.f0))]
  let d_1 : List (Option Nat × REff) := [(some 10, qe (.ba 16 2)), (some 11, qe (I p0.f2)), (some 12, qe (.ba 24 2)), (some 13, qe (I p1.f2))]
  let s_0 : List (Nat × AV) := [(8, S p1.f0), (7, .ba 24 0), (6, S p0.f0), (5, .ba 16 0), (2, .ba 16 0), (3, .ba 24 0)]
  let o_0 : List (Nat × AObj) := [(16, .box [S p0.f0, S p0.f1, I p0.f2, I p0.f3] false), (24, .box [S p1.f0, S p1.f1, I p1.f2, I p1.f3] false)]
  refine gS 1 ?_
  refine gR 0 (rg Tryz.f125 0) ?_
  refine se (mkE [(2, .ba 16 0), (3, .ba 24 0)] o_0 17) ?_
  refine pN ?_
  refine pS ?_
  refine gS 0 ?_
  refine gD 1 13 (rg Tryz.f125 1) [0, 1, 2, 3, 4, 5, 6, 7, 8, 9, 10, 11, 12] ?_
  refine dg 4 d_0 ?_
  refine dc 9 [] (mkE s_0 o_0 17) (h141 p0.f0 p1.f0) (fun x1 => ?_)
  refine dg 9 (d_0.append ((some 9, qe (I x1)) :: d_1)) ?_
  refine dc 14 [] (mkE ((13, I p1.f2) :: ((12, .ba 24 2) :: ((11, I p0.f2) :: ((10, .ba 16 2) :: ((9, I x1) :: s_0))))) o_0 17) (h142 p0.f2 p1.f2) (fun x2 => ?_)
  refine dg 11 (d_0.append ((some 9, qe (I x1)) :: (d_1.append ((some 14, qe (I x2)) :: [(some 15, { e := { val := .own 120 0, news := [(120, RR 3 1 I ([x1, x2] : List Int) 0 false)] } })])))) ?_
  refine dc 16 [120] (mkE ((15, .own 120 0) :: ((14, I x2) :: ((13, I p1.f2) :: ((12, .ba 24 2) :: ((11, I p0.f2) :: ((10, .ba 16 2) :: ((9, I x1) :: s_0))))))) ((120, RR 3 1 I ([x1, x2] : List Int) 0 false) :: o_0) 17) (h140 ([x1, x2] : List Int)) (fun x3 => ?_)
  refine dg 13 (d_0.append ((some 9, qe (I x1)) :: (d_1.append ((some 14, qe (I x2)) :: ((some 15, { e := { val := .own 120 0, news := [(120, RR 3 1 I ([x1, x2] : List Int) 0 false)] } }) :: ((some 16, qe (I x3)) :: [(some 4, qe (I x3))])))))) ?_
  refine de (mkE ((4, I x3) :: ((16, I x3) :: ((15, .own 120 0) :: ((14, I x2) :: ((13, I p1.f2) :: ((12, .ba 24 2) :: ((11, I p0.f2) :: ((10, .ba 16 2) :: ((9, I x1) :: s_0))))))))) ((120, RR 3 1 I ([x1, x2] : List Int) 0 false) :: o_0) 17) ?_
  refine se (mkE [(4, I x3)] [] 17) ?_
  refine pN ?_
  refine pS ?_
  refine gE ?_
  exact pL
theorem F125 (m : Nat) (hm : 3 ≤ m) (p0 : S99) (p1 : S99) : callA Tryz.prog cfg m 125 [a99 p0, a99 p1] = (T125 p0 p1).map I := by
  obtain ⟨q, rfl⟩ : ∃ q, m = q + 1 := ⟨m - 1, by omega⟩
  exact (callA_body (fn := Tryz.f125) (c := body_ Tryz.f125) q _ (by kernel_rfl) (by kernel_rfl) (by kernel_rfl)).trans (B125 _ (fun p0 => F140 q (by omega) p0) (fun p0 p1 => F141 q (by omega) p0 p1) (fun p0 p1 => F142 q (by omega) p0 p1) p0 p1)

noncomputable def L96_4 (p0 : (List S99)) (z0 : Int) : Option (Int ⊕ ((Int × Bool) ⊕ Int)) := (bif (ltI z0 (lenL p0)) then ((listAt p0 z0).bind fun x1 => ((T97 x1.f0).bind fun x2 => (bif (!x2) then (some (.inr (.inr 5))) else ((T97 x1.f1).bind fun x3 => (bif (!x3) then (some (.inr (.inr 5))) else ((T92 x1.f2).bind fun x4 => (bif (!x4) then (some (.inr (.inr 1))) else ((T70 x1.f3 1 86400000).bind fun x5 => (bif x5 then (some (.inr (.inr 1))) else (bif (ltI 0 z0) then ((listAt p0 (subI .i64 z0 1)).bind fun x6 => ((T125 x6 x1).bind fun x7 => (bif (leI 0 x7) then (some (.inr (.inr 7))) else (some (.inl (addI .i64 z0 1)))))) else (some (.inl (addI .i64 z0 1))))))))))))) else (some (.inr (.inl (z0, (ltI z0 (lenL p0)))))))
theorem L96_4_ok (C : Callee) (h125 : ∀ (p0 : S99) (p1 : S99), C 125 [a99 p0, a99 p1] = (T125 p0 p1).map I) (h70 : ∀ (p0 : Int) (p1 : Int) (p2 : Int), C 70 [I p0, I p1, I p2] = (T70 p0 p1 p2).map B) (h92 : ∀ (p0 : Int), C 92 [I p0] = (T92 p0).map B) (h97 : ∀ (p0 : ByteArray), C 97 [S p0] = (T97 p0).map B) (p0 : (List S99)) (z0 : Int) : runs Tryz.prog C (cfg.fn 96) (finLoop ((cfg.fn 96).keep 4) ((cfg.fn 96).al 4)) [] (execA Tryz.prog C (cfg.fn 96) (nr Tryz.f96 [false, false, true, false, true, true]) ((fun z0 : Int => (mkE [(0, LL a99 p0), (8, LL a99 p0), (9, I (lenL p0)), (10, I z0)] [] 50)) z0)) = (L96_4 p0 z0).map (Sum.elim (fun z => .inl ((fun z0 : Int => (mkE [(0, LL a99 p0), (8, LL a99 p0), (9, I (lenL p0)), (10, I z0)] [] 50)) z)) (fun x => .inr ((Sum.elim (fun (x : (Int × Bool)) => (.exit 0, (mkE [(0, LL a99 p0), (8, LL a99 p0), (9, I (lenL p0)), (10, I x.1), (11, B x.2)] [] 50))) (fun (x : Int) => (.ret, (mkE [(2, I x)] [] 50)))) x))) := by
  unfold L96_4
  let d_0 : List (Option Nat × REff) := [(some 37, qe (I z0)), (some 38, qe (B (ltI 0 z0))), (some 39, qe (B true)), (some 40, qe (LL a99 p0)), (some 41, qe (I z0)), (some 42, qe (I (subI .i64 z0 1)))]
  let s_0 : List (Nat × AV) := [(0, LL a99 p0), (3, I z0), (4, .ba 32 0), (8, LL a99 p0), (9, I (lenL p0)), (10, I z0)]
  let s_1 : List (Nat × AV) := [(0, LL a99 p0), (8, LL a99 p0), (9, I (lenL p0))]
  let s_2 : List (Nat × AV) := [(42, I (subI .i64 z0 1)), (41, I z0), (40, LL a99 p0), (39, B true), (38, B (ltI 0 z0)), (37, I z0)]
  refine gS 0 ?_
  refine gR 4 (rg Tryz.f96 4) ?_
  refine se (mkE (s_1.append ((10, I z0) :: [(11, B (ltI z0 (lenL p0)))])) [] 50) ?_
  refine pN ?_
  refine pS ?_
  refine gS 5 ?_
  refine gC 11 (ltI z0 (lenL p0)) ?_ ?_
  · refine gK ?_
    refine pN ?_
    refine pS ?_
    refine gS 12 ?_
    refine gB 1 ?_
    refine gS 6 ?_
    refine gR 5 (rg Tryz.f96 5) ?_
    refine sg 1 (mkE ((12, I z0) :: (s_1.append ((10, I z0) :: [(11, B (ltI z0 (lenL p0)))]))) [] 50) ?_
    refine vo 13 (addrE 97 100 4 a99 .i64 p0 z0) (fun x1 => ?_)
    refine se (mkE s_0 [(32, .box [S x1.f0, S x1.f1, I x1.f2, I x1.f3] false)] 50) ?_
    refine pN ?_
    refine pS ?_
    refine gB 2 ?_
    refine gS 0 ?_
    refine gR 6 (rg Tryz.f96 6) ?_
    refine sg 2 (mkE ((17, S x1.f0) :: ((16, .ba 32 0) :: s_0)) [(32, .box [S x1.f0, S x1.f1, I x1.f2, I x1.f3] false)] 50) ?_
    refine co 18 [] (h97 x1.f0) (fun x2 => ?_)
    refine sg 5 (mkE ((20, B (!x2)) :: ((19, B (!x2)) :: ((18, B x2) :: ((17, S x1.f0) :: ((16, .ba 32 0) :: s_0))))) [(32, .box [S x1.f0, S x1.f1, I x1.f2, I x1.f3] false)] 50) ?_
    refine sb 20 (!x2) ?_ ?_
    · refine se (mkE (s_0.append [(15, B true)]) [(32, .box [S x1.f0, S x1.f1, I x1.f2, I x1.f3] false)] 50) ?_
      refine pN ?_
      refine pS ?_
      refine gT (.tmp 15) ?_
      refine gS 0 ?_
      refine gR 7 (rg Tryz.f96 7) ?_
      refine se (mkE [(2, I 5)] [] 50) ?_
      refine pN ?_
      refine pS ?_
      refine gE ?_
      exact pL
    · refine sg 7 (mkE ((22, S x1.f1) :: ((21, .ba 32 1) :: ((20, B false) :: ((20, B (!x2)) :: ((19, B (!x2)) :: ((18, B x2) :: ((17, S x1.f0) :: ((16, .ba 32 0) :: s_0)))))))) [(32, .box [S x1.f0, S x1.f1, I x1.f2, I x1.f3] false)] 50) ?_
      refine co 23 [] (h97 x1.f1) (fun x3 => ?_)
      refine se (mkE (s_0.append [(15, B (!x3))]) [(32, .box [S x1.f0, S x1.f1, I x1.f2, I x1.f3] false)] 50) ?_
      refine pN ?_
      refine pS ?_
      refine gC 15 (!x3) ?_ ?_
      · refine gS 0 ?_
        refine gR 7 (rg Tryz.f96 7) ?_
        refine se (mkE [(2, I 5)] [] 50) ?_
        refine pN ?_
        refine pS ?_
        refine gE ?_
        exact pL
      · refine gS 0 ?_
        refine gR 8 (rg Tryz.f96 8) ?_
        refine sg 2 (mkE ((28, I x1.f2) :: ((27, .ba 32 2) :: (s_0.append [(15, B (!x3))]))) [(32, .box [S x1.f0, S x1.f1, I x1.f2, I x1.f3] false)] 50) ?_
        refine co 29 [] (h92 x1.f2) (fun x4 => ?_)
        refine sg 5 (mkE ((31, B (!x4)) :: ((30, B (!x4)) :: ((29, B x4) :: ((28, I x1.f2) :: ((27, .ba 32 2) :: (s_0.append [(15, B (!x3))])))))) [(32, .box [S x1.f0, S x1.f1, I x1.f2, I x1.f3] false)] 50) ?_
        refine sb 31 (!x4) ?_ ?_
        · refine se (mkE (s_0.append [(26, B true)]) [(32, .box [S x1.f0, S x1.f1, I x1.f2, I x1.f3] false)] 50) ?_
          refine pN ?_
          refine pS ?_
          refine gT (.tmp 26) ?_
          refine gS 0 ?_
          refine gR 9 (rg Tryz.f96 9) ?_
          refine se (mkE [(2, I 1)] [] 50) ?_
          refine pN ?_
          refine pS ?_
          refine gE ?_
          exact pL
        · refine sg 7 (mkE ((33, I x1.f3) :: ((32, .ba 32 3) :: ((31, B false) :: ((31, B (!x4)) :: ((30, B (!x4)) :: ((29, B x4) :: ((28, I x1.f2) :: ((27, .ba 32 2) :: (s_0.append [(15, B (!x3))]))))))))) [(32, .box [S x1.f0, S x1.f1, I x1.f2, I x1.f3] false)] 50) ?_
          refine co 34 [] (h70 x1.f3 1 86400000) (fun x5 => ?_)
          refine se (mkE (s_0.append [(26, B x5)]) [(32, .box [S x1.f0, S x1.f1, I x1.f2, I x1.f3] false)] 50) ?_
          refine pN ?_
          refine pS ?_
          refine gC 26 x5 ?_ ?_
          · refine gS 0 ?_
            refine gR 9 (rg Tryz.f96 9) ?_
            refine se (mkE [(2, I 1)] [] 50) ?_
            refine pN ?_
            refine pS ?_
            refine gE ?_
            exact pL
          · refine gS 0 ?_
            refine gD 10 13 (rg Tryz.f96 10) [0, 1, 2, 3, 4, 5, 6, 7, 8, 9, 10, 11, 12] ?_
            refine dg 3 [(some 37, qe (I z0)), (some 38, qe (B (ltI 0 z0))), (some 39, qe (B (ltI 0 z0)))] ?_
            refine db 2 39 (ltI 0 z0) ?_ ?_
            · refine dg 6 d_0 ?_
              refine dv 43 (mkE (s_2.append (s_0.append [(26, B x5)])) [(32, .box [S x1.f0, S x1.f1, I x1.f2, I x1.f3] false)] 50) (addrE 97 100 4 a99 .i64 p0 (subI .i64 z0 1)) (fun x6 => ?_)
              refine dg 9 (d_0.append ((some 43, qe (.ia [S x6.f0, S x6.f1, I x6.f2, I x6.f3] 0)) :: ((some 44, qe (a99 x6)) :: [(some 45, qe (a99 x1))]))) ?_
              refine dc 46 [] (mkE ((45, a99 x1) :: ((44, a99 x6) :: ((43, .ia [S x6.f0, S x6.f1, I x6.f2, I x6.f3] 0) :: (s_2.append (s_0.append [(26, B x5)]))))) [(32, .box [S x1.f0, S x1.f1, I x1.f2, I x1.f3] false)] 50) (h125 x6 x1) (fun x7 => ?_)
              refine dg 13 (d_0.append ((some 43, qe (.ia [S x6.f0, S x6.f1, I x6.f2, I x6.f3] 0)) :: ((some 44, qe (a99 x6)) :: ((some 45, qe (a99 x1)) :: ((some 46, qe (I x7)) :: ((some 47, qe (B (leI 0 x7))) :: ((some 48, qe (B (leI 0 x7))) :: [(some 36, qe (B (leI 0 x7)))]))))))) ?_
              refine de (mkE ((36, B (leI 0 x7)) :: ((48, B (leI 0 x7)) :: ((47, B (leI 0 x7)) :: ((46, I x7) :: ((45, a99 x1) :: ((44, a99 x6) :: ((43, .ia [S x6.f0, S x6.f1, I x6.f2, I x6.f3] 0) :: (s_2.append (s_0.append [(26, B x5)]))))))))) [(32, .box [S x1.f0, S x1.f1, I x1.f2, I x1.f3] false)] 50) ?_
              refine se (mkE (s_1.append ((10, I z0) :: [(36, B (leI 0 x7))])) [] 50) ?_
              refine pN ?_
              refine pS ?_
              refine gC 36 (leI 0 x7) ?_ ?_
              · refine gS 0 ?_
                refine gR 11 (rg Tryz.f96 11) ?_
                refine se (mkE [(2, I 7)] [] 50) ?_
                refine pN ?_
                refine pS ?_
                refine gE ?_
                exact pL
              · refine gK ?_
                refine pB ?_
                refine pB ?_
                refine pN ?_
                refine pS ?_
                refine gR 12 (rg Tryz.f96 12) ?_
                refine se (mkE (s_1.append [(10, I (addI .i64 z0 1))]) [] 50) ?_
                exact pL
            · refine dg 13 [(some 37, qe (I z0)), (some 38, qe (B (ltI 0 z0))), (some 39, qe (B false)), (some 40, qe (.und)), (some 41, qe (.und)), (some 42, qe (.und)), (some 43, qe (.und)), (some 44, qe (.und)), (some 45, qe (.und)), (some 46, qe (.und)), (some 47, qe (.und)), (some 48, qe (B false)), (some 36, qe (B false))] ?_
              refine de (mkE ((36, B false) :: ((48, B false) :: ((47, .und) :: ((46, .und) :: ((45, .und) :: ((44, .und) :: ((43, .und) :: ((42, .und) :: ((41, .und) :: ((40, .und) :: ((39, B false) :: ((38, B (ltI 0 z0)) :: ((37, I z0) :: (s_0.append [(26, B x5)])))))))))))))) [(32, .box [S x1.f0, S x1.f1, I x1.f2, I x1.f3] false)] 50) ?_
              refine se (mkE (s_1.append ((10, I z0) :: [(36, B false)])) [] 50) ?_
              refine pN ?_
              refine pS ?_
              refine gF (.tmp 36) ?_
              refine gK ?_
              refine pB ?_
              refine pB ?_
              refine pN ?_
              refine pS ?_
              refine gR 12 (rg Tryz.f96 12) ?_
              refine se (mkE (s_1.append [(10, I (addI .i64 z0 1))]) [] 50) ?_
              exact pL
  · refine gX 0 ?_
    exact pL
noncomputable def T96 (p0 : (List S99)) : Option Int := (bif (ltI 3000 (lenL p0)) then (some 2) else ((iter (L96_4 p0) 0).bind fun y8 => (Sum.elim (fun y8a => (some 0)) (fun y8b => (some y8b)) y8)))
theorem B96 (C : Callee) (h125 : ∀ (p0 : S99) (p1 : S99), C 125 [a99 p0, a99 p1] = (T125 p0 p1).map I) (h70 : ∀ (p0 : Int) (p1 : Int) (p2 : Int), C 70 [I p0, I p1, I p2] = (T70 p0 p1 p2).map B) (h92 : ∀ (p0 : Int), C 92 [I p0] = (T92 p0).map B) (h97 : ∀ (p0 : ByteArray), C 97 [S p0] = (T97 p0).map B) (p0 : (List S99)) : runs Tryz.prog C (cfg.fn 96) (finFn Tryz.prog (cfg.fn 96).byval Tryz.f96) [] (execA Tryz.prog C (cfg.fn 96) (nr Tryz.f96 []) (frame0 [LL a99 p0] 50 false)) = (T96 p0).map I := by
  unfold T96
  let s_0 : List (Nat × AV) := [(0, LL a99 p0), (8, LL a99 p0), (9, I (lenL p0))]
  refine gS 1 ?_
  refine gR 0 (rg Tryz.f96 0) ?_
  refine se (mkE [(0, LL a99 p0)] [] 50) ?_
  refine pN ?_
  refine pS ?_
  refine gS 3 ?_
  refine gS 0 ?_
  refine gR 1 (rg Tryz.f96 1) ?_
  refine sg 1 (mkE [(5, LL a99 p0), (0, LL a99 p0)] [] 50) ?_
  refine eo 6 (I (lenL p0)) (lenE 97 a99 p0) ?_
  refine se (mkE [(0, LL a99 p0), (7, B (ltI 3000 (lenL p0)))] [] 50) ?_
  refine pN ?_
  refine pS ?_
  refine gC 7 (ltI 3000 (lenL p0)) ?_ ?_
  · refine gS 0 ?_
    refine gR 2 (rg Tryz.f96 2) ?_
    refine se (mkE [(2, I 2)] [] 50) ?_
    refine pN ?_
    refine pS ?_
    refine gE ?_
    exact pL
  · refine gK ?_
    refine pN ?_
    refine pS ?_
    refine gS 13 ?_
    refine gS 4 ?_
    refine gR 3 (rg Tryz.f96 3) ?_
    refine sg 1 (mkE [(8, LL a99 p0), (0, LL a99 p0), (7, B (ltI 3000 (lenL p0)))] [] 50) ?_
    refine eo 9 (I (lenL p0)) (lenE 97 a99 p0) ?_
    refine se (mkE (s_0.append [(10, I 0)]) [] 50) ?_
    refine pN ?_
    refine pS ?_
    refine gB 0 ?_
    refine lo [(0, none), (8, none), (9, none), (10, none)] [] (L96_4 p0) (fun z0 : Int => (mkE (s_0.append [(10, I z0)]) [] 50)) (Sum.elim (fun (x : (Int × Bool)) => (.exit 0, (mkE (s_0.append ((10, I x.1) :: [(11, B x.2)])) [] 50))) (fun (x : Int) => (.ret, (mkE [(2, I x)] [] 50)))) 0 (fun z => L96_4_ok C h125 h70 h92 h97 p0 z) ?_
    intro y8
    refine ss y8 (Z := (Sum.elim (fun (x : (Int × Bool)) => (.exit 0, (mkE (s_0.append ((10, I x.1) :: [(11, B x.2)])) [] 50))) (fun (x : Int) => (.ret, (mkE [(2, I x)] [] 50))))) (fun y8a => ?_) (fun y8b => ?_)
    · refine pH ?_
      refine pN ?_
      refine pS ?_
      refine gS 0 ?_
      refine gR 13 (rg Tryz.f96 13) ?_
      refine se (mkE [(2, I 0)] [] 50) ?_
      refine pN ?_
      refine pS ?_
      refine gE ?_
      exact pL
    · exact pL
theorem F96 (m : Nat) (hm : 4 ≤ m) (p0 : (List S99)) : callA Tryz.prog cfg m 96 [LL a99 p0] = (T96 p0).map I := by
  obtain ⟨q, rfl⟩ : ∃ q, m = q + 1 := ⟨m - 1, by omega⟩
  exact (callA_body (fn := Tryz.f96) (c := body_ Tryz.f96) q _ (by kernel_rfl) (by kernel_rfl) (by kernel_rfl)).trans (B96 _ (fun p0 p1 => F125 q (by omega) p0 p1) (fun p0 p1 p2 => F70 q (by omega) p0 p1 p2) (fun p0 => F92 q (by omega) p0) (fun p0 => F97 q (by omega) p0) p0)

noncomputable def T100 (p0 : Int) (p1 : Int) : Option Int := (some (maxI (subI .i64 p0 p1) (subI .i64 p1 p0)))
theorem B100 (C : Callee) (p0 : Int) (p1 : Int) : runs Tryz.prog C (cfg.fn 100) (finFn Tryz.prog (cfg.fn 100).byval Tryz.f100) [] (execA Tryz.prog C (cfg.fn 100) (nr Tryz.f100 []) (frame0 [I p0, I p1] 12 false)) = (T100 p0 p1).map I := by
  unfold T100
  refine gS 1 ?_
  refine gR 0 (rg Tryz.f100 0) ?_
  refine se (mkE [(0, I p0), (1, I p1)] [] 12) ?_
  refine pN ?_
  refine pS ?_
  refine gS 0 ?_
  refine gR 1 (rg Tryz.f100 1) ?_
  refine se (mkE [(4, I (maxI (subI .i64 p0 p1) (subI .i64 p1 p0)))] [] 12) ?_
  refine pN ?_
  refine pS ?_
  refine gE ?_
  exact pL
theorem F100 (m : Nat) (hm : 1 ≤ m) (p0 : Int) (p1 : Int) : callA Tryz.prog cfg m 100 [I p0, I p1] = (T100 p0 p1).map I := by
  obtain ⟨q, rfl⟩ : ∃ q, m = q + 1 := ⟨m - 1, by omega⟩
  exact (callA_body (fn := Tryz.f100) (c := body_ Tryz.f100) q _ (by kernel_rfl) (by kernel_rfl) (by kernel_rfl)).trans (B100 _ p0 p1)

noncomputable def L55_2 (p0 : (List S99)) (p1 : (List S99)) (p2 : Int) (z0 : Int) : Option (Int ⊕ ((Int × Bool) ⊕ Int)) := (bif (ltI z0 2) then ((listAt [p0, p1] z0).bind fun x1 => ((T96 x1).bind fun x2 => (bif (neI x2 0) then (some (.inr (.inr x2))) else (some (.inl (addI .i64 z0 1)))))) else (some (.inr (.inl (z0, (ltI z0 2))))))
theorem L55_2_ok (C : Callee) (h96 : ∀ (p0 : (List S99)), C 96 [LL a99 p0] = (T96 p0).map I) (p0 : (List S99)) (p1 : (List S99)) (p2 : Int) (z0 : Int) : runs Tryz.prog C (cfg.fn 55) (finLoop ((cfg.fn 55).keep 2) ((cfg.fn 55).al 2)) [] (execA Tryz.prog C (cfg.fn 55) (nr Tryz.f55 [false, false, true, false, true]) ((fun z0 : Int => (mkE [(0, LL a99 p0), (1, LL a99 p1), (2, I p2), (24, .agg [LL a99 p0, LL a99 p1]), (25, I z0)] [] 128)) z0)) = (L55_2 p0 p1 p2 z0).map (Sum.elim (fun z => .inl ((fun z0 : Int => (mkE [(0, LL a99 p0), (1, LL a99 p1), (2, I p2), (24, .agg [LL a99 p0, LL a99 p1]), (25, I z0)] [] 128)) z)) (fun x => .inr ((Sum.elim (fun (x : (Int × Bool)) => (.exit 0, (mkE [(0, LL a99 p0), (1, LL a99 p1), (2, I p2), (24, .agg [LL a99 p0, LL a99 p1]), (25, I x.1), (26, B x.2)] [] 128))) (fun (x : Int) => (.ret, (mkE [(6, .nils), (7, .nils), (8, I x)] [] 128)))) x))) := by
  unfold L55_2
  let s_0 : List (Nat × AV) := [(0, LL a99 p0), (1, LL a99 p1), (2, I p2)]
  let s_1 : List (Nat × AV) := [(24, .agg [LL a99 p0, LL a99 p1]), (25, I z0)]
  refine gS 0 ?_
  refine gR 2 (rg Tryz.f55 2) ?_
  refine se (mkE (s_0.append (s_1.append [(26, B (ltI z0 2))])) [] 128) ?_
  refine pN ?_
  refine pS ?_
  refine gS 3 ?_
  refine gC 26 (ltI z0 2) ?_ ?_
  · refine gK ?_
    refine pN ?_
    refine pS ?_
    refine gS 7 ?_
    refine gB 1 ?_
    refine gS 4 ?_
    refine gR 3 (rg Tryz.f55 3) ?_
    refine vo 27 (arrE 173 97 1 2 false (LL a99) .i64 z0 (.tmp 24) (.tmp 25) [LL a99 p0, LL a99 p1] [p0, p1]) (fun x1 => ?_)
    refine se (mkE (s_0.append ((10, LL a99 x1) :: s_1)) [] 128) ?_
    refine pN ?_
    refine pS ?_
    refine gS 5 ?_
    refine gR 4 (rg Tryz.f55 4) ?_
    refine sg 1 (mkE ((28, LL a99 x1) :: (s_0.append ((10, LL a99 x1) :: s_1))) [] 128) ?_
    refine co 29 [] (h96 x1) (fun x2 => ?_)
    refine se (mkE (s_0.append ((11, I x2) :: s_1)) [] 128) ?_
    refine pN ?_
    refine pS ?_
    refine gS 0 ?_
    refine gR 5 (rg Tryz.f55 5) ?_
    refine se (mkE (s_0.append ((11, I x2) :: (s_1.append [(31, B (neI x2 0))]))) [] 128) ?_
    refine pN ?_
    refine pS ?_
    refine gC 31 (neI x2 0) ?_ ?_
    · refine gS 0 ?_
      refine gR 6 (rg Tryz.f55 6) ?_
      refine se (mkE [(6, .nils), (7, .nils), (8, I x2)] [] 128) ?_
      refine pN ?_
      refine pS ?_
      refine gE ?_
      exact pL
    · refine gK ?_
      refine pB ?_
      refine pN ?_
      refine pS ?_
      refine gR 7 (rg Tryz.f55 7) ?_
      refine se (mkE (s_0.append ((24, .agg [LL a99 p0, LL a99 p1]) :: [(25, I (addI .i64 z0 1))])) [] 128) ?_
      exact pL
  · refine gX 0 ?_
    exact pL
noncomputable def L55_17 (p0 : (List S99)) (p1 : (List S99)) (p2 : Int) (z1 : ((List Bool) × (List S118) × Int)) (x6 : S99) (z2 : ((List Bool) × (List S118) × Int × Int)) : Option (((List Bool) × (List S118) × Int × Int) ⊕ (Int × Int × Bool × (List Bool) × (List S118))) := (bif (ltI z2.2.2.2 (lenL p1)) then ((listAt p1 z2.2.2.2).bind fun x7 => ((idxO (List.length z2.1) z2.2.2.2).bind fun x8 => ((getN z2.1 x8).bind fun x9 => (bif x9 then (some (.inl (z2.1, z2.2.1, z2.2.2.1, (addI .i64 z2.2.2.2 1)))) else (bif (!eqS x7.f0 x6.f0) then (some (.inl (z2.1, z2.2.1, z2.2.2.1, (addI .i64 z2.2.2.2 1)))) else (bif (!eqS x7.f1 x6.f1) then (some (.inl (z2.1, z2.2.1, z2.2.2.1, (addI .i64 z2.2.2.2 1)))) else ((T100 x7.f2 x6.f2).bind fun x10 => (bif (ltI p2 x10) then (some (.inl (z2.1, z2.2.1, z2.2.2.1, (addI .i64 z2.2.2.2 1)))) else (bif (ltI z2.2.2.1 0) then (some (.inl (z2.1, z2.2.1, z2.2.2.2, (addI .i64 z2.2.2.2 1)))) else ((T100 x7.f2 x6.f2).bind fun x11 => ((listAt p1 z2.2.2.1).bind fun x12 => ((T100 x12.f2 x6.f2).bind fun x13 => (bif (ltI x11 x13) then (some (.inl (z2.1, z2.2.1, z2.2.2.2, (addI .i64 z2.2.2.2 1)))) else (some (.inl (z2.1, z2.2.1, z2.2.2.1, (addI .i64 z2.2.2.2 1))))))))))))))))) else (some (.inr (z2.2.2.1, z2.2.2.2, (ltI z2.2.2.2 (lenL p1)), z2.1, z2.2.1))))
theorem L55_17_ok (C : Callee) (h100 : ∀ (p0 : Int) (p1 : Int), C 100 [I p0, I p1] = (T100 p0 p1).map I) (p0 : (List S99)) (p1 : (List S99)) (p2 : Int) (z1 : ((List Bool) × (List S118) × Int)) (x6 : S99) (z2 : ((List Bool) × (List S118) × Int × Int)) : runs Tryz.prog C (cfg.fn 55) (finLoop ((cfg.fn 55).keep 17) ((cfg.fn 55).al 17)) [] (execA Tryz.prog C (cfg.fn 55) (nr Tryz.f55 [false, false, true, false, true, true, false, false, true, true, false, false, true, false, true, true, true, true, true]) ((fun z2 : ((List Bool) × (List S118) × Int × Int) => (mkE [(1, LL a99 p1), (2, I p2), (12, .own 96 0), (13, .own 104 0), (14, I z1.2.2), (15, .ba 120 0), (16, I z2.2.2.1), (39, LL a99 p0), (40, I (lenL p0)), (41, I z1.2.2), (46, LL a99 p1), (47, I (lenL p1)), (48, I z2.2.2.2)] [(96, RR 4 1 B z2.1 0 false), (104, RR 119 2 a118 z2.2.1 0 false), (120, .box [S x6.f0, S x6.f1, I x6.f2, I x6.f3] false)] 128)) z2)) = (L55_17 p0 p1 p2 z1 x6 z2).map (Sum.elim (fun z => .inl ((fun z2 : ((List Bool) × (List S118) × Int × Int) => (mkE [(1, LL a99 p1), (2, I p2), (12, .own 96 0), (13, .own 104 0), (14, I z1.2.2), (15, .ba 120 0), (16, I z2.2.2.1), (39, LL a99 p0), (40, I (lenL p0)), (41, I z1.2.2), (46, LL a99 p1), (47, I (lenL p1)), (48, I z2.2.2.2)] [(96, RR 4 1 B z2.1 0 false), (104, RR 119 2 a118 z2.2.1 0 false), (120, .box [S x6.f0, S x6.f1, I x6.f2, I x6.f3] false)] 128)) z)) (fun x => .inr ((fun (x : (Int × Int × Bool × (List Bool) × (List S118))) => (.exit 4, (mkE [(1, LL a99 p1), (2, I p2), (12, .own 96 0), (13, .own 104 0), (14, I z1.2.2), (15, .ba 120 0), (16, I x.1), (39, LL a99 p0), (40, I (lenL p0)), (41, I z1.2.2), (46, LL a99 p1), (47, I (lenL p1)), (48, I x.2.1), (49, B x.2.2.1)] [(96, RR 4 1 B x.2.2.2.1 0 false), (104, RR 119 2 a118 x.2.2.2.2 0 false), (120, .box [S x6.f0, S x6.f1, I x6.f2, I x6.f3] false)] 128))) x))) := by
  unfold L55_17
  let d_0 : List (Option Nat × REff) := [(some 80, qe (I z2.2.2.1)), (some 81, qe (B (ltI z2.2.2.1 0))), (some 82, qe (B false)), (some 83, qe (.ba 144 2))]
  let d_1 : List (Option Nat × REff) := [(some 85, qe (.ba 120 2)), (some 86, qe (I x6.f2))]
  let s_0 : List (Nat × AV) := [(1, LL a99 p1), (2, I p2), (12, .own 96 0), (13, .own 104 0), (14, I z1.2.2), (15, .ba 120 0), (16, I z2.2.2.1), (17, I z2.2.2.2), (18, .ba 144 0), (39, LL a99 p0), (40, I (lenL p0)), (41, I z1.2.2), (46, LL a99 p1), (47, I (lenL p1)), (48, I z2.2.2.2)]
  let s_1 : List (Nat × AV) := [(1, LL a99 p1), (2, I p2), (12, .own 96 0), (13, .own 104 0), (14, I z1.2.2), (15, .ba 120 0), (16, I z2.2.2.1), (39, LL a99 p0), (40, I (lenL p0)), (41, I z1.2.2), (46, LL a99 p1), (47, I (lenL p1))]
  let s_2 : List (Nat × AV) := [(1, LL a99 p1), (2, I p2), (12, .own 96 0), (13, .own 104 0), (14, I z1.2.2), (15, .ba 120 0), (16, I z2.2.2.2), (39, LL a99 p0), (40, I (lenL p0)), (41, I z1.2.2), (46, LL a99 p1), (47, I (lenL p1))]
  let s_3 : List (Nat × AV) := [(1, LL a99 p1), (2, I p2), (12, .own 96 0), (13, .own 104 0), (14, I z1.2.2), (15, .ba 120 0), (16, I z2.2.2.1), (17, I z2.2.2.2), (39, LL a99 p0), (40, I (lenL p0)), (41, I z1.2.2), (46, LL a99 p1), (47, I (lenL p1)), (48, I z2.2.2.2)]
  let s_4 : List (Nat × AV) := [(82, B false), (81, B (ltI z2.2.2.1 0)), (80, I z2.2.2.1)]
  let s_5 : List (Nat × AV) := [(48, I (addI .i64 z2.2.2.2 1))]
  let o_0 : List (Nat × AObj) := [(96, RR 4 1 B z2.1 0 false), (104, RR 119 2 a118 z2.2.1 0 false), (120, .box [S x6.f0, S x6.f1, I x6.f2, I x6.f3] false)]
  refine gS 0 ?_
  refine gR 17 (rg Tryz.f55 17) ?_
  refine se (mkE (s_1.append ((48, I z2.2.2.2) :: [(49, B (ltI z2.2.2.2 (lenL p1)))])) o_0 128) ?_
  refine pN ?_
  refine pS ?_
  refine gS 18 ?_
  refine gC 49 (ltI z2.2.2.2 (lenL p1)) ?_ ?_
  · refine gK ?_
    refine pN ?_
    refine pS ?_
    refine gS 22 ?_
    refine gB 5 ?_
    refine gS 19 ?_
    refine gR 18 (rg Tryz.f55 18) ?_
    refine sg 1 (mkE ((50, I z2.2.2.2) :: (s_1.append ((48, I z2.2.2.2) :: [(49, B (ltI z2.2.2.2 (lenL p1)))]))) o_0 128) ?_
    refine vo 51 (addrE 97 100 4 a99 .i64 p1 z2.2.2.2) (fun x7 => ?_)
    refine se (mkE s_0 (o_0.append [(144, .box [S x7.f0, S x7.f1, I x7.f2, I x7.f3] false)]) 128) ?_
    refine pN ?_
    refine pS ?_
    refine gS 20 ?_
    refine gS 0 ?_
    refine gR 19 (rg Tryz.f55 19) ?_
    refine sg 2 (mkE ((54, I z2.2.2.2) :: ((53, .own 96 0) :: s_0)) (o_0.append [(144, .box [S x7.f0, S x7.f1, I x7.f2, I x7.f3] false)]) 128) ?_
    refine vo 55 (addrOE 174 4 1 96 0 false B .i64 z2.1 z2.2.2.2) (fun x8 => ?_)
    refine vo 56 (loadOE 4 96 0 x8 0 4 1 1 false false B (fun q : Bool => B q) z2.1) (fun x9 => ?_)
    refine sg 5 (mkE ((57, B x9) :: ((56, B x9) :: ((55, .oa 96 0 x8 0) :: ((54, I z2.2.2.2) :: ((53, .own 96 0) :: s_0))))) (o_0.append [(144, .box [S x7.f0, S x7.f1, I x7.f2, I x7.f3] false)]) 128) ?_
    refine sb 57 x9 ?_ ?_
    · refine se (mkE (s_0.append [(79, B true)]) (o_0.append [(144, .box [S x7.f0, S x7.f1, I x7.f2, I x7.f3] false)]) 128) ?_
      refine pN ?_
      refine pS ?_
      refine gT (.tmp 79) ?_
      refine gX 5 ?_
      refine pF ?_
      refine pO ?_
      refine pH ?_
      refine pN ?_
      refine pS ?_
      refine gR 22 (rg Tryz.f55 22) ?_
      refine se (mkE (s_1.append s_5) o_0 128) ?_
      exact pL
    · refine sg 12 (mkE ((64, B (!eqS x7.f0 x6.f0)) :: ((63, B (!eqS x7.f0 x6.f0)) :: ((62, B (!eqS x7.f0 x6.f0)) :: ((61, S x6.f0) :: ((60, .ba 120 0) :: ((59, S x7.f0) :: ((58, .ba 144 0) :: ((57, B false) :: ((57, B x9) :: ((56, B x9) :: ((55, .oa 96 0 x8 0) :: ((54, I z2.2.2.2) :: ((53, .own 96 0) :: s_0))))))))))))) (o_0.append [(144, .box [S x7.f0, S x7.f1, I x7.f2, I x7.f3] false)]) 128) ?_
      refine sb 64 (!eqS x7.f0 x6.f0) ?_ ?_
      · refine se (mkE (s_0.append [(79, B true)]) (o_0.append [(144, .box [S x7.f0, S x7.f1, I x7.f2, I x7.f3] false)]) 128) ?_
        refine pN ?_
        refine pS ?_
        refine gT (.tmp 79) ?_
        refine gX 5 ?_
        refine pF ?_
        refine pO ?_
        refine pH ?_
        refine pN ?_
        refine pS ?_
        refine gR 22 (rg Tryz.f55 22) ?_
        refine se (mkE (s_1.append s_5) o_0 128) ?_
        exact pL
      · refine sg 19 (mkE ((71, B (!eqS x7.f1 x6.f1)) :: ((70, B (!eqS x7.f1 x6.f1)) :: ((69, B (!eqS x7.f1 x6.f1)) :: ((68, S x6.f1) :: ((67, .ba 120 1) :: ((66, S x7.f1) :: ((65, .ba 144 1) :: ((64, B false) :: ((64, B (!eqS x7.f0 x6.f0)) :: ((63, B (!eqS x7.f0 x6.f0)) :: ((62, B (!eqS x7.f0 x6.f0)) :: ((61, S x6.f0) :: ((60, .ba 120 0) :: ((59, S x7.f0) :: ((58, .ba 144 0) :: ((57, B false) :: ((57, B x9) :: ((56, B x9) :: ((55, .oa 96 0 x8 0) :: ((54, I z2.2.2.2) :: ((53, .own 96 0) :: s_0))))))))))))))))))))) (o_0.append [(144, .box [S x7.f0, S x7.f1, I x7.f2, I x7.f3] false)]) 128) ?_
        refine sb 71 (!eqS x7.f1 x6.f1) ?_ ?_
        · refine se (mkE (s_0.append [(79, B true)]) (o_0.append [(144, .box [S x7.f0, S x7.f1, I x7.f2, I x7.f3] false)]) 128) ?_
          refine pN ?_
          refine pS ?_
          refine gT (.tmp 79) ?_
          refine gX 5 ?_
          refine pF ?_
          refine pO ?_
          refine pH ?_
          refine pN ?_
          refine pS ?_
          refine gR 22 (rg Tryz.f55 22) ?_
          refine se (mkE (s_1.append s_5) o_0 128) ?_
          exact pL
        · refine sg 23 (mkE ((75, I x6.f2) :: ((74, .ba 120 2) :: ((73, I x7.f2) :: ((72, .ba 144 2) :: ((71, B false) :: ((71, B (!eqS x7.f1 x6.f1)) :: ((70, B (!eqS x7.f1 x6.f1)) :: ((69, B (!eqS x7.f1 x6.f1)) :: ((68, S x6.f1) :: ((67, .ba 120 1) :: ((66, S x7.f1) :: ((65, .ba 144 1) :: ((64, B false) :: ((64, B (!eqS x7.f0 x6.f0)) :: ((63, B (!eqS x7.f0 x6.f0)) :: ((62, B (!eqS x7.f0 x6.f0)) :: ((61, S x6.f0) :: ((60, .ba 120 0) :: ((59, S x7.f0) :: ((58, .ba 144 0) :: ((57, B false) :: ((57, B x9) :: ((56, B x9) :: ((55, .oa 96 0 x8 0) :: ((54, I z2.2.2.2) :: ((53, .own 96 0) :: s_0)))))))))))))))))))))))))) (o_0.append [(144, .box [S x7.f0, S x7.f1, I x7.f2, I x7.f3] false)]) 128) ?_
          refine co 76 [] (h100 x7.f2 x6.f2) (fun x10 => ?_)
          refine se (mkE (s_0.append [(79, B (ltI p2 x10))]) (o_0.append [(144, .box [S x7.f0, S x7.f1, I x7.f2, I x7.f3] false)]) 128) ?_
          refine pN ?_
          refine pS ?_
          refine gC 79 (ltI p2 x10) ?_ ?_
          · refine gX 5 ?_
            refine pF ?_
            refine pO ?_
            refine pH ?_
            refine pN ?_
            refine pS ?_
            refine gR 22 (rg Tryz.f55 22) ?_
            refine se (mkE (s_1.append s_5) o_0 128) ?_
            exact pL
          · refine gK ?_
            refine pN ?_
            refine pS ?_
            refine gS 0 ?_
            refine gD 20 18 (rg Tryz.f55 20) [0, 1, 2, 3, 4, 5, 6, 7, 8, 9, 10, 11, 12, 13, 14, 15, 16, 17] ?_
            refine dg 3 [(some 80, qe (I z2.2.2.1)), (some 81, qe (B (ltI z2.2.2.1 0))), (some 82, qe (B (ltI z2.2.2.1 0)))] ?_
            refine db 2 82 (ltI z2.2.2.1 0) ?_ ?_
            · refine dg 18 [(some 80, qe (I z2.2.2.1)), (some 81, qe (B (ltI z2.2.2.1 0))), (some 82, qe (B true)), (some 83, qe (.und)), (some 84, qe (.und)), (some 85, qe (.und)), (some 86, qe (.und)), (some 87, qe (.und)), (some 88, qe (.und)), (some 89, qe (.und)), (some 90, qe (.und)), (some 91, qe (.und)), (some 92, qe (.und)), (some 93, qe (.und)), (some 94, qe (.und)), (some 95, qe (.und)), (some 96, qe (.und)), (some 97, qe (B true))] ?_
              refine de (mkE ((97, B true) :: ((96, .und) :: ((95, .und) :: ((94, .und) :: ((93, .und) :: ((92, .und) :: ((91, .und) :: ((90, .und) :: ((89, .und) :: ((88, .und) :: ((87, .und) :: ((86, .und) :: ((85, .und) :: ((84, .und) :: ((83, .und) :: ((82, B true) :: ((81, B (ltI z2.2.2.1 0)) :: ((80, I z2.2.2.1) :: (s_0.append [(79, B (ltI p2 x10))]))))))))))))))))))) (o_0.append [(144, .box [S x7.f0, S x7.f1, I x7.f2, I x7.f3] false)]) 128) ?_
              refine se (mkE (s_3.append [(97, B true)]) o_0 128) ?_
              refine pN ?_
              refine pS ?_
              refine gT (.tmp 97) ?_
              refine gR 21 (rg Tryz.f55 21) ?_
              refine se (mkE (s_2.append [(48, I z2.2.2.2)]) o_0 128) ?_
              refine pB ?_
              refine pN ?_
              refine pS ?_
              refine gR 22 (rg Tryz.f55 22) ?_
              refine se (mkE (s_2.append s_5) o_0 128) ?_
              exact pL
            · refine dg 7 (d_0.append ((some 84, qe (I x7.f2)) :: d_1)) ?_
              refine dc 87 [] (mkE ((86, I x6.f2) :: ((85, .ba 120 2) :: ((84, I x7.f2) :: ((83, .ba 144 2) :: (s_4.append (s_0.append [(79, B (ltI p2 x10))])))))) (o_0.append [(144, .box [S x7.f0, S x7.f1, I x7.f2, I x7.f3] false)]) 128) (h100 x7.f2 x6.f2) (fun x11 => ?_)
              refine dg 10 (d_0.append ((some 84, qe (I x7.f2)) :: (d_1.append ((some 87, qe (I x11)) :: ((some 88, qe (LL a99 p1)) :: [(some 89, qe (I z2.2.2.1))]))))) ?_
              refine dv 90 (mkE ((89, I z2.2.2.1) :: ((88, LL a99 p1) :: (s_4.append (s_0.append [(79, B (ltI p2 x10))])))) (o_0.append [(144, .box [S x7.f0, S x7.f1, I x7.f2, I x7.f3] false)]) 128) (addrE 97 100 4 a99 .i64 p1 z2.2.2.1) (fun x12 => ?_)
              refine dg 15 (d_0.append ((some 84, qe (I x7.f2)) :: (d_1.append ((some 87, qe (I x11)) :: ((some 88, qe (LL a99 p1)) :: ((some 89, qe (I z2.2.2.1)) :: ((some 90, qe (.ia [S x12.f0, S x12.f1, I x12.f2, I x12.f3] 0)) :: ((some 91, qe (.ia [S x12.f0, S x12.f1, I x12.f2, I x12.f3] 2)) :: ((some 92, qe (I x12.f2)) :: ((some 93, qe (.ba 120 2)) :: [(some 94, qe (I x6.f2))])))))))))) ?_
              refine dc 95 [] (mkE ((94, I x6.f2) :: ((93, .ba 120 2) :: ((92, I x12.f2) :: ((91, .ia [S x12.f0, S x12.f1, I x12.f2, I x12.f3] 2) :: ((90, .ia [S x12.f0, S x12.f1, I x12.f2, I x12.f3] 0) :: ((89, I z2.2.2.1) :: ((88, LL a99 p1) :: ((87, I x11) :: ((86, I x6.f2) :: ((85, .ba 120 2) :: ((84, I x7.f2) :: ((83, .ba 144 2) :: (s_4.append (s_0.append [(79, B (ltI p2 x10))])))))))))))))) (o_0.append [(144, .box [S x7.f0, S x7.f1, I x7.f2, I x7.f3] false)]) 128) (h100 x12.f2 x6.f2) (fun x13 => ?_)
              refine dg 18 (d_0.append ((some 84, qe (I x7.f2)) :: (d_1.append ((some 87, qe (I x11)) :: ((some 88, qe (LL a99 p1)) :: ((some 89, qe (I z2.2.2.1)) :: ((some 90, qe (.ia [S x12.f0, S x12.f1, I x12.f2, I x12.f3] 0)) :: ((some 91, qe (.ia [S x12.f0, S x12.f1, I x12.f2, I x12.f3] 2)) :: ((some 92, qe (I x12.f2)) :: ((some 93, qe (.ba 120 2)) :: ((some 94, qe (I x6.f2)) :: ((some 95, qe (I x13)) :: ((some 96, qe (B (ltI x11 x13))) :: [(some 97, qe (B (ltI x11 x13)))]))))))))))))) ?_
              refine de (mkE ((97, B (ltI x11 x13)) :: ((96, B (ltI x11 x13)) :: ((95, I x13) :: ((94, I x6.f2) :: ((93, .ba 120 2) :: ((92, I x12.f2) :: ((91, .ia [S x12.f0, S x12.f1, I x12.f2, I x12.f3] 2) :: ((90, .ia [S x12.f0, S x12.f1, I x12.f2, I x12.f3] 0) :: ((89, I z2.2.2.1) :: ((88, LL a99 p1) :: ((87, I x11) :: ((86, I x6.f2) :: ((85, .ba 120 2) :: ((84, I x7.f2) :: ((83, .ba 144 2) :: (s_4.append (s_0.append [(79, B (ltI p2 x10))]))))))))))))))))) (o_0.append [(144, .box [S x7.f0, S x7.f1, I x7.f2, I x7.f3] false)]) 128) ?_
              refine se (mkE (s_3.append [(97, B (ltI x11 x13))]) o_0 128) ?_
              refine pN ?_
              refine pS ?_
              refine gC 97 (ltI x11 x13) ?_ ?_
              · refine gR 21 (rg Tryz.f55 21) ?_
                refine se (mkE (s_2.append [(48, I z2.2.2.2)]) o_0 128) ?_
                refine pB ?_
                refine pN ?_
                refine pS ?_
                refine gR 22 (rg Tryz.f55 22) ?_
                refine se (mkE (s_2.append s_5) o_0 128) ?_
                exact pL
              · refine gK ?_
                refine pB ?_
                refine pN ?_
                refine pS ?_
                refine gR 22 (rg Tryz.f55 22) ?_
                refine se (mkE (s_1.append s_5) o_0 128) ?_
                exact pL
  · refine gX 4 ?_
    exact pL
noncomputable def L55_13 (p0 : (List S99)) (p1 : (List S99)) (p2 : Int) (z1 : ((List Bool) × (List S118) × Int)) : Option (((List Bool) × (List S118) × Int) ⊕ (Int × Bool × (List Bool) × (List S118))) := (bif (ltI z1.2.2 (lenL p0)) then ((listAt p0 z1.2.2).bind fun x6 => ((iter (L55_17 p0 p1 p2 z1 x6) (z1.1, z1.2.1, (-1), 0)).bind fun y14 => (bif (leI 0 y14.1) then ((idxO (List.length y14.2.2.2.1) y14.1).bind fun x15 => ((getN y14.2.2.2.1 x15).bind fun x16 => ((appO 16 y14.2.2.2.2 ([(S118.mk z1.2.2 y14.1)] : List S118)).bind fun x17 => (some (.inl ((List.set y14.2.2.2.1 x15 true), x17, (addI .i64 z1.2.2 1))))))) else ((appO 16 y14.2.2.2.2 ([(S118.mk z1.2.2 y14.1)] : List S118)).bind fun x18 => (some (.inl (y14.2.2.2.1, x18, (addI .i64 z1.2.2 1)))))))) else (some (.inr (z1.2.2, (ltI z1.2.2 (lenL p0)), z1.1, z1.2.1))))
theorem L55_13_ok (C : Callee) (h100 : ∀ (p0 : Int) (p1 : Int), C 100 [I p0, I p1] = (T100 p0 p1).map I) (p0 : (List S99)) (p1 : (List S99)) (p2 : Int) (z1 : ((List Bool) × (List S118) × Int)) : runs Tryz.prog C (cfg.fn 55) (finLoop ((cfg.fn 55).keep 13) ((cfg.fn 55).al 13)) [] (execA Tryz.prog C (cfg.fn 55) (nr Tryz.f55 [false, false, true, false, true, true, true, true, true]) ((fun z1 : ((List Bool) × (List S118) × Int) => (mkE [(1, LL a99 p1), (2, I p2), (12, .own 96 0), (13, .own 104 0), (39, LL a99 p0), (40, I (lenL p0)), (41, I z1.2.2)] [(96, RR 4 1 B z1.1 0 false), (104, RR 119 2 a118 z1.2.1 0 false)] 128)) z1)) = (L55_13 p0 p1 p2 z1).map (Sum.elim (fun z => .inl ((fun z1 : ((List Bool) × (List S118) × Int) => (mkE [(1, LL a99 p1), (2, I p2), (12, .own 96 0), (13, .own 104 0), (39, LL a99 p0), (40, I (lenL p0)), (41, I z1.2.2)] [(96, RR 4 1 B z1.1 0 false), (104, RR 119 2 a118 z1.2.1 0 false)] 128)) z)) (fun x => .inr ((fun (x : (Int × Bool × (List Bool) × (List S118))) => (.exit 2, (mkE [(1, LL a99 p1), (2, I p2), (12, .own 96 0), (13, .own 104 0), (39, LL a99 p0), (40, I (lenL p0)), (41, I x.1), (42, B x.2.1)] [(96, RR 4 1 B x.2.2.1 0 false), (104, RR 119 2 a118 x.2.2.2 0 false)] 128))) x))) := by
  unfold L55_13
  let s_0 : List (Nat × AV) := [(1, LL a99 p1), (2, I p2), (12, .own 96 0), (13, .own 104 0), (14, I z1.2.2)]
  let s_1 : List (Nat × AV) := [(39, LL a99 p0), (40, I (lenL p0)), (41, I z1.2.2)]
  let s_2 : List (Nat × AV) := [(1, LL a99 p1), (2, I p2), (12, .own 96 0)]
  let o_0 : List (Nat × AObj) := [(96, RR 4 1 B z1.1 0 false), (104, RR 119 2 a118 z1.2.1 0 false)]
  refine gS 0 ?_
  refine gR 13 (rg Tryz.f55 13) ?_
  refine se (mkE (s_2.append ((13, .own 104 0) :: (s_1.append [(42, B (ltI z1.2.2 (lenL p0)))]))) o_0 128) ?_
  refine pN ?_
  refine pS ?_
  refine gS 14 ?_
  refine gC 42 (ltI z1.2.2 (lenL p0)) ?_ ?_
  · refine gK ?_
    refine pN ?_
    refine pS ?_
    refine gS 26 ?_
    refine gB 3 ?_
    refine gS 15 ?_
    refine gR 14 (rg Tryz.f55 14) ?_
    refine sg 1 (mkE ((43, I z1.2.2) :: (s_2.append ((13, .own 104 0) :: (s_1.append [(42, B (ltI z1.2.2 (lenL p0)))])))) o_0 128) ?_
    refine vo 44 (addrE 97 100 4 a99 .i64 p0 z1.2.2) (fun x6 => ?_)
    refine se (mkE (s_0.append ((15, .ba 120 0) :: s_1)) (o_0.append [(120, .box [S x6.f0, S x6.f1, I x6.f2, I x6.f3] false)]) 128) ?_
    refine pN ?_
    refine pS ?_
    refine gS 16 ?_
    refine gR 15 (rg Tryz.f55 15) ?_
    refine se (mkE (s_0.append ((15, .ba 120 0) :: ((16, I (-1)) :: s_1))) (o_0.append [(120, .box [S x6.f0, S x6.f1, I x6.f2, I x6.f3] false)]) 128) ?_
    refine pN ?_
    refine pS ?_
    refine gS 23 ?_
    refine gS 17 ?_
    refine gR 16 (rg Tryz.f55 16) ?_
    refine sg 1 (mkE ((46, LL a99 p1) :: (s_0.append ((15, .ba 120 0) :: ((16, I (-1)) :: s_1)))) (o_0.append [(120, .box [S x6.f0, S x6.f1, I x6.f2, I x6.f3] false)]) 128) ?_
    refine eo 47 (I (lenL p1)) (lenE 97 a99 p1) ?_
    refine se (mkE (s_0.append ((15, .ba 120 0) :: ((16, I (-1)) :: (s_1.append ((46, LL a99 p1) :: ((47, I (lenL p1)) :: [(48, I 0)])))))) (o_0.append [(120, .box [S x6.f0, S x6.f1, I x6.f2, I x6.f3] false)]) 128) ?_
    refine pN ?_
    refine pS ?_
    refine gB 4 ?_
    refine lo [(1, none), (2, none), (12, some (4, 1)), (13, some (119, 2)), (14, none), (15, none), (16, none), (39, none), (40, none), (41, none), (46, none), (47, none), (48, none)] [] (L55_17 p0 p1 p2 z1 x6) (fun z2 : ((List Bool) × (List S118) × Int × Int) => (mkE (s_0.append ((15, .ba 120 0) :: ((16, I z2.2.2.1) :: (s_1.append ((46, LL a99 p1) :: ((47, I (lenL p1)) :: [(48, I z2.2.2.2)])))))) [(96, RR 4 1 B z2.1 0 false), (104, RR 119 2 a118 z2.2.1 0 false), (120, .box [S x6.f0, S x6.f1, I x6.f2, I x6.f3] false)] 128)) (fun (x : (Int × Int × Bool × (List Bool) × (List S118))) => (.exit 4, (mkE (s_0.append ((15, .ba 120 0) :: ((16, I x.1) :: (s_1.append ((46, LL a99 p1) :: ((47, I (lenL p1)) :: ((48, I x.2.1) :: [(49, B x.2.2.1)]))))))) [(96, RR 4 1 B x.2.2.2.1 0 false), (104, RR 119 2 a118 x.2.2.2.2 0 false), (120, .box [S x6.f0, S x6.f1, I x6.f2, I x6.f3] false)] 128))) (z1.1, z1.2.1, (-1), 0) (fun z => L55_17_ok C h100 p0 p1 p2 z1 x6 z) ?_
    intro y14
    refine pH ?_
    refine pN ?_
    refine pS ?_
    refine gS 25 ?_
    refine gS 0 ?_
    refine gR 23 (rg Tryz.f55 23) ?_
    refine se (mkE (s_0.append ((16, I y14.1) :: (s_1.append [(101, B (leI 0 y14.1))]))) [(96, RR 4 1 B y14.2.2.2.1 0 false), (104, RR 119 2 a118 y14.2.2.2.2 0 false)] 128) ?_
    refine pN ?_
    refine pS ?_
    refine gC 101 (leI 0 y14.1) ?_ ?_
    · refine gR 24 (rg Tryz.f55 24) ?_
      refine sg 2 (mkE ((103, I y14.1) :: ((102, .own 96 0) :: (s_0.append ((16, I y14.1) :: (s_1.append [(101, B (leI 0 y14.1))]))))) [(96, RR 4 1 B y14.2.2.2.1 0 false), (104, RR 119 2 a118 y14.2.2.2.2 0 false)] 128) ?_
      refine vo 104 (addrOE 174 4 1 96 0 false B .i64 y14.2.2.2.1 y14.1) (fun x15 => ?_)
      refine mo none (stO 4 1 96 0 x15 0 B y14.2.2.2.1 [] [B true] (B true) (fun q : Bool => true) 4 (.tmp 104) (.const (.bool true)) 1) (fun x16 => ?_)
      refine se (mkE (s_0.append ((16, I y14.1) :: s_1)) [(96, RR 4 1 B (List.set y14.2.2.2.1 x15 true) 0 false), (104, RR 119 2 a118 y14.2.2.2.2 0 false)] 128) ?_
      refine pN ?_
      refine pS ?_
      refine gR 25 (rg Tryz.f55 25) ?_
      refine sg 5 (mkE ((109, .own 872 0) :: ((108, .agg [I z1.2.2, I y14.1]) :: ((107, I y14.1) :: ((106, I z1.2.2) :: ((105, .own 104 0) :: (s_0.append ((16, I y14.1) :: s_1))))))) [(872, RR 119 2 a118 ([(S118.mk z1.2.2 y14.1)] : List S118) 0 false), (96, RR 4 1 B (List.set y14.2.2.2.1 x15 true) 0 false), (104, RR 119 2 a118 y14.2.2.2.2 0 false)] 128) ?_
      refine mo (some 110) (apO 115 119 2 16 104 a118 0 [872] (y := .own 872 0) (l2 := ([(S118.mk z1.2.2 y14.1)] : List S118))) (fun x17 => ?_)
      refine se (mkE (s_2.append ((13, .own 104 1) :: s_1)) [(96, RR 4 1 B (List.set y14.2.2.2.1 x15 true) 0 false), (104, RR 119 2 a118 x17 1 false)] 128) ?_
      refine pB ?_
      refine pN ?_
      refine pS ?_
      refine gR 26 (rg Tryz.f55 26) ?_
      refine se (mkE (s_2.append ((13, .own 104 1) :: ((39, LL a99 p0) :: ((40, I (lenL p0)) :: [(41, I (addI .i64 z1.2.2 1))])))) [(96, RR 4 1 B (List.set y14.2.2.2.1 x15 true) 0 false), (104, RR 119 2 a118 x17 1 false)] 128) ?_
      exact pL
    · refine gK ?_
      refine pN ?_
      refine pS ?_
      refine gR 25 (rg Tryz.f55 25) ?_
      refine sg 5 (mkE ((109, .own 872 0) :: ((108, .agg [I z1.2.2, I y14.1]) :: ((107, I y14.1) :: ((106, I z1.2.2) :: ((105, .own 104 0) :: (s_0.append ((16, I y14.1) :: (s_1.append [(101, B (leI 0 y14.1))])))))))) [(872, RR 119 2 a118 ([(S118.mk z1.2.2 y14.1)] : List S118) 0 false), (96, RR 4 1 B y14.2.2.2.1 0 false), (104, RR 119 2 a118 y14.2.2.2.2 0 false)] 128) ?_
      refine mo (some 110) (apO 115 119 2 16 104 a118 0 [872] (y := .own 872 0) (l2 := ([(S118.mk z1.2.2 y14.1)] : List S118))) (fun x18 => ?_)
      refine se (mkE (s_2.append ((13, .own 104 1) :: s_1)) [(96, RR 4 1 B y14.2.2.2.1 0 false), (104, RR 119 2 a118 x18 1 false)] 128) ?_
      refine pB ?_
      refine pN ?_
      refine pS ?_
      refine gR 26 (rg Tryz.f55 26) ?_
      refine se (mkE (s_2.append ((13, .own 104 1) :: ((39, LL a99 p0) :: ((40, I (lenL p0)) :: [(41, I (addI .i64 z1.2.2 1))])))) [(96, RR 4 1 B y14.2.2.2.1 0 false), (104, RR 119 2 a118 x18 1 false)] 128) ?_
      exact pL
  · refine gX 2 ?_
    exact pL
noncomputable def L55_29 (y19 : (Int × Bool × (List Bool) × (List S118))) (z2 : ((List Int) × Int)) : Option (((List Int) × Int) ⊕ (Int × Bool × (List Int))) := (bif (ltI z2.2 (lenL y19.2.2.1)) then ((listAt y19.2.2.1 z2.2).bind fun x20 => (bif (!x20) then ((appO 8 z2.1 ([z2.2] : List Int)).bind fun x21 => (some (.inl (x21, (addI .i64 z2.2 1))))) else (some (.inl (z2.1, (addI .i64 z2.2 1)))))) else (some (.inr (z2.2, (ltI z2.2 (lenL y19.2.2.1)), z2.1))))
theorem L55_29_ok (C : Callee) (y19 : (Int × Bool × (List Bool) × (List S118))) (z2 : ((List Int) × Int)) : runs Tryz.prog C (cfg.fn 55) (finLoop ((cfg.fn 55).keep 29) ((cfg.fn 55).al 29)) [] (execA Tryz.prog C (cfg.fn 55) (nr Tryz.f55 [false, false, true, false, true, true, true, true, true, true, true]) ((fun z2 : ((List Int) × Int) => (mkE [(13, LL a118 y19.2.2.2), (19, .own 152 0), (112, LL B y19.2.2.1), (113, I (lenL y19.2.2.1)), (114, I z2.2)] [(152, RR 3 1 I z2.1 0 false)] 128)) z2)) = (L55_29 y19 z2).map (Sum.elim (fun z => .inl ((fun z2 : ((List Int) × Int) => (mkE [(13, LL a118 y19.2.2.2), (19, .own 152 0), (112, LL B y19.2.2.1), (113, I (lenL y19.2.2.1)), (114, I z2.2)] [(152, RR 3 1 I z2.1 0 false)] 128)) z)) (fun x => .inr ((fun (x : (Int × Bool × (List Int))) => (.exit 6, (mkE [(13, LL a118 y19.2.2.2), (19, .own 152 0), (112, LL B y19.2.2.1), (113, I (lenL y19.2.2.1)), (114, I x.1), (115, B x.2.1)] [(152, RR 3 1 I x.2.2 0 false)] 128))) x))) := by
  unfold L55_29
  let s_0 : List (Nat × AV) := [(112, LL B y19.2.2.1), (113, I (lenL y19.2.2.1))]
  let s_1 : List (Nat × AV) := [(13, LL a118 y19.2.2.2), (19, .own 152 0)]
  refine gS 0 ?_
  refine gR 29 (rg Tryz.f55 29) ?_
  refine se (mkE (s_1.append (s_0.append ((114, I z2.2) :: [(115, B (ltI z2.2 (lenL y19.2.2.1)))]))) [(152, RR 3 1 I z2.1 0 false)] 128) ?_
  refine pN ?_
  refine pS ?_
  refine gS 30 ?_
  refine gC 115 (ltI z2.2 (lenL y19.2.2.1)) ?_ ?_
  · refine gK ?_
    refine pN ?_
    refine pS ?_
    refine gS 33 ?_
    refine gB 7 ?_
    refine gS 31 ?_
    refine gR 30 (rg Tryz.f55 30) ?_
    refine sg 1 (mkE ((116, I z2.2) :: (s_1.append (s_0.append ((114, I z2.2) :: [(115, B (ltI z2.2 (lenL y19.2.2.1)))])))) [(152, RR 3 1 I z2.1 0 false)] 128) ?_
    refine vo 117 (addrE 174 4 1 B .i64 y19.2.2.1 z2.2) (fun x20 => ?_)
    refine se (mkE (s_1.append ((20, I z2.2) :: ((21, B x20) :: (s_0.append [(114, I z2.2)])))) [(152, RR 3 1 I z2.1 0 false)] 128) ?_
    refine pN ?_
    refine pS ?_
    refine gS 0 ?_
    refine gR 31 (rg Tryz.f55 31) ?_
    refine se (mkE (s_1.append ((20, I z2.2) :: (s_0.append ((114, I z2.2) :: [(120, B (!x20))])))) [(152, RR 3 1 I z2.1 0 false)] 128) ?_
    refine pN ?_
    refine pS ?_
    refine gC 120 (!x20) ?_ ?_
    · refine gR 32 (rg Tryz.f55 32) ?_
      refine sg 3 (mkE ((123, .own 984 0) :: ((122, I z2.2) :: ((121, .own 152 0) :: (s_1.append ((20, I z2.2) :: (s_0.append ((114, I z2.2) :: [(120, B (!x20))]))))))) [(984, RR 3 1 I ([z2.2] : List Int) 0 false), (152, RR 3 1 I z2.1 0 false)] 128) ?_
      refine mo (some 124) (apO 22 3 1 8 152 I 0 [984] (y := .own 984 0) (l2 := ([z2.2] : List Int))) (fun x21 => ?_)
      refine se (mkE ((13, LL a118 y19.2.2.2) :: ((19, .own 152 1) :: (s_0.append [(114, I z2.2)]))) [(152, RR 3 1 I x21 1 false)] 128) ?_
      refine pB ?_
      refine pN ?_
      refine pS ?_
      refine gR 33 (rg Tryz.f55 33) ?_
      refine se (mkE ((13, LL a118 y19.2.2.2) :: ((19, .own 152 1) :: (s_0.append [(114, I (addI .i64 z2.2 1))]))) [(152, RR 3 1 I x21 1 false)] 128) ?_
      exact pL
    · refine gK ?_
      refine pB ?_
      refine pN ?_
      refine pS ?_
      refine gR 33 (rg Tryz.f55 33) ?_
      refine se (mkE (s_1.append (s_0.append [(114, I (addI .i64 z2.2 1))])) [(152, RR 3 1 I z2.1 0 false)] 128) ?_
      exact pL
  · refine gX 6 ?_
    exact pL
noncomputable def T55 (p0 : (List S99)) (p1 : (List S99)) (p2 : Int) : Option ((List S118) × (List Int) × Int) := ((iter (L55_2 p0 p1 p2) 0).bind fun y3 => (Sum.elim (fun y3a => ((T70 p2 0 86400000).bind fun x4 => (bif x4 then (some ([], [], 1)) else ((mkZ 1 (false : Bool) (lenL p1) (lenL p1)).bind fun x5 => ((iter (L55_13 p0 p1 p2) (x5, [], 0)).bind fun y19 => ((iter (L55_29 y19) ([], 0)).bind fun y22 => (some (y19.2.2.2, y22.2.2, 0)))))))) (fun y3b => (some ([], [], y3b))) y3))
theorem B55 (C : Callee) (h100 : ∀ (p0 : Int) (p1 : Int), C 100 [I p0, I p1] = (T100 p0 p1).map I) (h70 : ∀ (p0 : Int) (p1 : Int) (p2 : Int), C 70 [I p0, I p1, I p2] = (T70 p0 p1 p2).map B) (h96 : ∀ (p0 : (List S99)), C 96 [LL a99 p0] = (T96 p0).map I) (p0 : (List S99)) (p1 : (List S99)) (p2 : Int) : runs Tryz.prog C (cfg.fn 55) (finFn Tryz.prog (cfg.fn 55).byval Tryz.f55) [] (execA Tryz.prog C (cfg.fn 55) (nr Tryz.f55 []) (frame0 [LL a99 p0, LL a99 p1, I p2] 128 false)) = (T55 p0 p1 p2).map (fun r => AV.tup [(LL a118) r.1, (LL I) r.2.1, I r.2.2]) := by
  unfold T55
  let s_0 : List (Nat × AV) := [(0, LL a99 p0), (1, LL a99 p1), (2, I p2)]
  refine gS 1 ?_
  refine gR 0 (rg Tryz.f55 0) ?_
  refine se (mkE s_0 [] 128) ?_
  refine pN ?_
  refine pS ?_
  refine gS 8 ?_
  refine gS 2 ?_
  refine gR 1 (rg Tryz.f55 1) ?_
  refine se (mkE (s_0.append ((24, .agg [LL a99 p0, LL a99 p1]) :: [(25, I 0)])) [] 128) ?_
  refine pN ?_
  refine pS ?_
  refine gB 0 ?_
  refine lo [(0, none), (1, none), (2, none), (24, none), (25, none)] [] (L55_2 p0 p1 p2) (fun z0 : Int => (mkE (s_0.append ((24, .agg [LL a99 p0, LL a99 p1]) :: [(25, I z0)])) [] 128)) (Sum.elim (fun (x : (Int × Bool)) => (.exit 0, (mkE (s_0.append ((24, .agg [LL a99 p0, LL a99 p1]) :: ((25, I x.1) :: [(26, B x.2)]))) [] 128))) (fun (x : Int) => (.ret, (mkE [(6, .nils), (7, .nils), (8, I x)] [] 128)))) 0 (fun z => L55_2_ok C h96 p0 p1 p2 z) ?_
  intro y3
  refine ss y3 (Z := (Sum.elim (fun (x : (Int × Bool)) => (.exit 0, (mkE (s_0.append ((24, .agg [LL a99 p0, LL a99 p1]) :: ((25, I x.1) :: [(26, B x.2)]))) [] 128))) (fun (x : Int) => (.ret, (mkE [(6, .nils), (7, .nils), (8, I x)] [] 128))))) (fun y3a => ?_) (fun y3b => ?_)
  · refine pH ?_
    refine pN ?_
    refine pS ?_
    refine gS 10 ?_
    refine gS 0 ?_
    refine gR 8 (rg Tryz.f55 8) ?_
    refine sg 1 (mkE ((34, I p2) :: (s_0.append ((24, .agg [LL a99 p0, LL a99 p1]) :: ((25, I y3a.1) :: [(26, B y3a.2)])))) [] 128) ?_
    refine co 35 [] (h70 p2 0 86400000) (fun x4 => ?_)
    refine se (mkE (s_0.append [(35, B x4)]) [] 128) ?_
    refine pN ?_
    refine pS ?_
    refine gC 35 x4 ?_ ?_
    · refine gS 0 ?_
      refine gR 9 (rg Tryz.f55 9) ?_
      refine se (mkE [(6, .nils), (7, .nils), (8, I 1)] [] 128) ?_
      refine pN ?_
      refine pS ?_
      refine gE ?_
      exact pL
    · refine gK ?_
      refine pN ?_
      refine pS ?_
      refine gS 11 ?_
      refine gR 10 (rg Tryz.f55 10) ?_
      refine sg 1 (mkE ((36, LL a99 p1) :: (s_0.append [(35, B x4)])) [] 128) ?_
      refine eo 37 (I (lenL p1)) (lenE 97 a99 p1) ?_
      refine fo 38 (mkZE 174 4 1 1 B (false : Bool) .i64 .i64 (lenL p1) (lenL p1) (.tmp 37) (.tmp 37)) (fun x5 => ?_)
      refine se (mkE (s_0.append [(12, .own 304 0)]) [(304, RR 4 1 B x5 0 false)] 128) ?_
      refine pN ?_
      refine pS ?_
      refine gS 12 ?_
      refine gR 11 (rg Tryz.f55 11) ?_
      refine se (mkE (s_0.append ((12, .own 304 0) :: [(13, .nils)])) [(304, RR 4 1 B x5 0 false)] 128) ?_
      refine pN ?_
      refine pS ?_
      refine gS 27 ?_
      refine gS 13 ?_
      refine gR 12 (rg Tryz.f55 12) ?_
      refine sg 1 (mkE ((39, LL a99 p0) :: (s_0.append ((12, .own 304 0) :: [(13, .nils)]))) [(304, RR 4 1 B x5 0 false)] 128) ?_
      refine eo 40 (I (lenL p0)) (lenE 97 a99 p0) ?_
      refine se (mkE [(1, LL a99 p1), (2, I p2), (12, .own 304 0), (13, .nils), (39, LL a99 p0), (40, I (lenL p0)), (41, I 0)] [(304, RR 4 1 B x5 0 false)] 128) ?_
      refine pN ?_
      refine pS ?_
      refine gB 2 ?_
      refine lo [(1, none), (2, none), (12, some (4, 1)), (13, some (119, 2)), (39, none), (40, none), (41, none)] [] (L55_13 p0 p1 p2) (fun z1 : ((List Bool) × (List S118) × Int) => (mkE [(1, LL a99 p1), (2, I p2), (12, .own 96 0), (13, .own 104 0), (39, LL a99 p0), (40, I (lenL p0)), (41, I z1.2.2)] [(96, RR 4 1 B z1.1 0 false), (104, RR 119 2 a118 z1.2.1 0 false)] 128)) (fun (x : (Int × Bool × (List Bool) × (List S118))) => (.exit 2, (mkE [(1, LL a99 p1), (2, I p2), (12, .own 96 0), (13, .own 104 0), (39, LL a99 p0), (40, I (lenL p0)), (41, I x.1), (42, B x.2.1)] [(96, RR 4 1 B x.2.2.1 0 false), (104, RR 119 2 a118 x.2.2.2 0 false)] 128))) (x5, [], 0) (fun z => L55_13_ok C h100 p0 p1 p2 z) ?_
      intro y19
      refine pH ?_
      refine pN ?_
      refine pS ?_
      refine gS 28 ?_
      refine gR 27 (rg Tryz.f55 27) ?_
      refine se (mkE [(12, .own 96 0), (13, .own 104 0), (19, .nils)] [(96, RR 4 1 B y19.2.2.1 0 false), (104, RR 119 2 a118 y19.2.2.2 0 false)] 128) ?_
      refine pN ?_
      refine pS ?_
      refine gS 34 ?_
      refine gS 29 ?_
      refine gR 28 (rg Tryz.f55 28) ?_
      refine sg 1 (mkE [(112, .own 96 0), (12, .own 96 0), (13, .own 104 0), (19, .nils)] [(96, RR 4 1 B y19.2.2.1 0 false), (104, RR 119 2 a118 y19.2.2.2 0 false)] 128) ?_
      refine eo 113 (I (lenL y19.2.2.1)) (lenOE 174 4 1 B y19.2.2.1) ?_
      refine se (mkE [(13, .own 104 0), (19, .nils), (112, .own 96 0), (113, I (lenL y19.2.2.1)), (114, I 0)] [(96, RR 4 1 B y19.2.2.1 0 false), (104, RR 119 2 a118 y19.2.2.2 0 false)] 128) ?_
      refine pN ?_
      refine pS ?_
      refine gB 6 ?_
      refine lo [(13, none), (19, some (3, 1)), (112, none), (113, none), (114, none)] [] (L55_29 y19) (fun z2 : ((List Int) × Int) => (mkE [(13, LL a118 y19.2.2.2), (19, .own 152 0), (112, LL B y19.2.2.1), (113, I (lenL y19.2.2.1)), (114, I z2.2)] [(152, RR 3 1 I z2.1 0 false)] 128)) (fun (x : (Int × Bool × (List Int))) => (.exit 6, (mkE [(13, LL a118 y19.2.2.2), (19, .own 152 0), (112, LL B y19.2.2.1), (113, I (lenL y19.2.2.1)), (114, I x.1), (115, B x.2.1)] [(152, RR 3 1 I x.2.2 0 false)] 128))) ([], 0) (fun z => L55_29_ok C y19 z) ?_
      intro y22
      refine pH ?_
      refine pN ?_
      refine pS ?_
      refine gS 0 ?_
      refine gR 34 (rg Tryz.f55 34) ?_
      refine se (mkE [(6, LL a118 y19.2.2.2), (7, .own 152 0), (8, I 0)] [(152, RR 3 1 I y22.2.2 0 false)] 128) ?_
      refine pN ?_
      refine pS ?_
      refine gE ?_
      exact pL
  · exact pL
theorem F55 (m : Nat) (hm : 5 ≤ m) (p0 : (List S99)) (p1 : (List S99)) (p2 : Int) : callA Tryz.prog cfg m 55 [LL a99 p0, LL a99 p1, I p2] = (T55 p0 p1 p2).map (fun r => AV.tup [(LL a118) r.1, (LL I) r.2.1, I r.2.2]) := by
  obtain ⟨q, rfl⟩ : ∃ q, m = q + 1 := ⟨m - 1, by omega⟩
  exact (callA_body (fn := Tryz.f55) (c := body_ Tryz.f55) q _ (by kernel_rfl) (by kernel_rfl) (by kernel_rfl)).trans (B55 _ (fun p0 p1 => F100 q (by omega) p0 p1) (fun p0 p1 p2 => F70 q (by omega) p0 p1 p2) (fun p0 => F96 q (by omega) p0) p0 p1 p2)

noncomputable def L101_2 (p0 : (List Int)) (p1 : Int) (z0 : Int) : Option (Int ⊕ ((Int × Bool) ⊕ Int)) := (bif (ltI z0 (lenL p0)) then ((listAt p0 z0).bind fun x1 => (bif (eqI p1 x1) then (some (.inr (.inr z0))) else (some (.inl (addI .i64 z0 1))))) else (some (.inr (.inl (z0, (ltI z0 (lenL p0)))))))
theorem L101_2_ok (C : Callee) (p0 : (List Int)) (p1 : Int) (z0 : Int) : runs Tryz.prog C (cfg.fn 101) (finLoop ((cfg.fn 101).keep 2) ((cfg.fn 101).al 2)) [] (execA Tryz.prog C (cfg.fn 101) (nr Tryz.f101 [false, false, true, false, true]) ((fun z0 : Int => (mkE [(0, LL I p0), (1, I p1), (7, I (lenL p0)), (8, I z0)] [] 19)) z0)) = (L101_2 p0 p1 z0).map (Sum.elim (fun z => .inl ((fun z0 : Int => (mkE [(0, LL I p0), (1, I p1), (7, I (lenL p0)), (8, I z0)] [] 19)) z)) (fun x => .inr ((Sum.elim (fun (x : (Int × Bool)) => (.exit 0, (mkE [(0, LL I p0), (1, I p1), (7, I (lenL p0)), (8, I x.1), (9, B x.2)] [] 19))) (fun (x : Int) => (.ret, (mkE [(4, I x)] [] 19)))) x))) := by
  unfold L101_2
  refine gS 0 ?_
  refine gR 2 (rg Tryz.f101 2) ?_
  refine se (mkE [(0, LL I p0), (1, I p1), (7, I (lenL p0)), (8, I z0), (9, B (ltI z0 (lenL p0)))] [] 19) ?_
  refine pN ?_
  refine pS ?_
  refine gS 3 ?_
  refine gC 9 (ltI z0 (lenL p0)) ?_ ?_
  · refine gK ?_
    refine pN ?_
    refine pS ?_
    refine gS 6 ?_
    refine gB 1 ?_
    refine gS 4 ?_
    refine gR 3 (rg Tryz.f101 3) ?_
    refine se (mkE [(0, LL I p0), (1, I p1), (5, I z0), (7, I (lenL p0)), (8, I z0)] [] 19) ?_
    refine pN ?_
    refine pS ?_
    refine gS 0 ?_
    refine gR 4 (rg Tryz.f101 4) ?_
    refine sg 3 (mkE [(13, I z0), (12, LL I p0), (11, I p1), (0, LL I p0), (1, I p1), (5, I z0), (7, I (lenL p0)), (8, I z0)] [] 19) ?_
    refine vo 14 (addrE 22 3 1 I .i64 p0 z0) (fun x1 => ?_)
    refine se (mkE [(0, LL I p0), (1, I p1), (5, I z0), (7, I (lenL p0)), (8, I z0), (16, B (eqI p1 x1))] [] 19) ?_
    refine pN ?_
    refine pS ?_
    refine gC 16 (eqI p1 x1) ?_ ?_
    · refine gS 0 ?_
      refine gR 5 (rg Tryz.f101 5) ?_
      refine se (mkE [(4, I z0)] [] 19) ?_
      refine pN ?_
      refine pS ?_
      refine gE ?_
      exact pL
    · refine gK ?_
      refine pB ?_
      refine pN ?_
      refine pS ?_
      refine gR 6 (rg Tryz.f101 6) ?_
      refine se (mkE [(0, LL I p0), (1, I p1), (7, I (lenL p0)), (8, I (addI .i64 z0 1))] [] 19) ?_
      exact pL
  · refine gX 0 ?_
    exact pL
noncomputable def T101 (p0 : (List Int)) (p1 : Int) : Option Int := ((iter (L101_2 p0 p1) 0).bind fun y2 => (Sum.elim (fun y2a => (some (-1))) (fun y2b => (some y2b)) y2))
theorem B101 (C : Callee) (p0 : (List Int)) (p1 : Int) : runs Tryz.prog C (cfg.fn 101) (finFn Tryz.prog (cfg.fn 101).byval Tryz.f101) [] (execA Tryz.prog C (cfg.fn 101) (nr Tryz.f101 []) (frame0 [LL I p0, I p1] 19 false)) = (T101 p0 p1).map I := by
  unfold T101
  refine gS 1 ?_
  refine gR 0 (rg Tryz.f101 0) ?_
  refine se (mkE [(0, LL I p0), (1, I p1)] [] 19) ?_
  refine pN ?_
  refine pS ?_
  refine gS 7 ?_
  refine gS 2 ?_
  refine gR 1 (rg Tryz.f101 1) ?_
  refine sg 1 (mkE [(6, LL I p0), (0, LL I p0), (1, I p1)] [] 19) ?_
  refine eo 7 (I (lenL p0)) (lenE 22 I p0) ?_
  refine se (mkE [(0, LL I p0), (1, I p1), (7, I (lenL p0)), (8, I 0)] [] 19) ?_
  refine pN ?_
  refine pS ?_
  refine gB 0 ?_
  refine lo [(0, none), (1, none), (7, none), (8, none)] [] (L101_2 p0 p1) (fun z0 : Int => (mkE [(0, LL I p0), (1, I p1), (7, I (lenL p0)), (8, I z0)] [] 19)) (Sum.elim (fun (x : (Int × Bool)) => (.exit 0, (mkE [(0, LL I p0), (1, I p1), (7, I (lenL p0)), (8, I x.1), (9, B x.2)] [] 19))) (fun (x : Int) => (.ret, (mkE [(4, I x)] [] 19)))) 0 (fun z => L101_2_ok C p0 p1 z) ?_
  intro y2
  refine ss y2 (Z := (Sum.elim (fun (x : (Int × Bool)) => (.exit 0, (mkE [(0, LL I p0), (1, I p1), (7, I (lenL p0)), (8, I x.1), (9, B x.2)] [] 19))) (fun (x : Int) => (.ret, (mkE [(4, I x)] [] 19))))) (fun y2a => ?_) (fun y2b => ?_)
  · refine pH ?_
    refine pN ?_
    refine pS ?_
    refine gS 0 ?_
    refine gR 7 (rg Tryz.f101 7) ?_
    refine se (mkE [(4, I (-1))] [] 19) ?_
    refine pN ?_
    refine pS ?_
    refine gE ?_
    exact pL
  · exact pL
theorem F101 (m : Nat) (hm : 1 ≤ m) (p0 : (List Int)) (p1 : Int) : callA Tryz.prog cfg m 101 [LL I p0, I p1] = (T101 p0 p1).map I := by
  obtain ⟨q, rfl⟩ : ∃ q, m = q + 1 := ⟨m - 1, by omega⟩
  exact (callA_body (fn := Tryz.f101) (c := body_ Tryz.f101) q _ (by kernel_rfl) (by kernel_rfl) (by kernel_rfl)).trans (B101 _ p0 p1)

noncomputable def T56 (p0 : (List Int)) (p1 : Int) : Option Bool := ((T101 p0 p1).bind fun x1 => (some (leI 0 x1)))
theorem B56 (C : Callee) (h101 : ∀ (p0 : (List Int)) (p1 : Int), C 101 [LL I p0, I p1] = (T101 p0 p1).map I) (p0 : (List Int)) (p1 : Int) : runs Tryz.prog C (cfg.fn 56) (finFn Tryz.prog (cfg.fn 56).byval Tryz.f56) [] (execA Tryz.prog C (cfg.fn 56) (nr Tryz.f56 []) (frame0 [LL I p0, I p1] 9 false)) = (T56 p0 p1).map B := by
  unfold T56
  refine gS 1 ?_
  refine gR 0 (rg Tryz.f56 0) ?_
  refine se (mkE [(0, LL I p0), (1, I p1)] [] 9) ?_
  refine pN ?_
  refine pS ?_
  refine gS 0 ?_
  refine gR 1 (rg Tryz.f56 1) ?_
  refine sg 2 (mkE [(6, I p1), (5, LL I p0), (0, LL I p0), (1, I p1)] [] 9) ?_
  refine co 7 [] (h101 p0 p1) (fun x1 => ?_)
  refine se (mkE [(4, B (leI 0 x1))] [] 9) ?_
  refine pN ?_
  refine pS ?_
  refine gE ?_
  exact pL
theorem F56 (m : Nat) (hm : 2 ≤ m) (p0 : (List Int)) (p1 : Int) : callA Tryz.prog cfg m 56 [LL I p0, I p1] = (T56 p0 p1).map B := by
  obtain ⟨q, rfl⟩ : ∃ q, m = q + 1 := ⟨m - 1, by omega⟩
  exact (callA_body (fn := Tryz.f56) (c := body_ Tryz.f56) q _ (by kernel_rfl) (by kernel_rfl) (by kernel_rfl)).trans (B56 _ (fun p0 p1 => F101 q (by omega) p0 p1) p0 p1)

noncomputable def L13_8 (x1 : ((List S99) × (List Int) × Int)) (x2 : ((List S99) × (List Int) × Int)) (x3 : (Int × (List Int) × Int)) (x4 : ((List S118) × (List Int) × Int)) (z0 : ((List Int) × Int)) : Option (((List Int) × Int) ⊕ ((Int × Bool × (List Int)) ⊕ Unit)) := (bif (ltI z0.2 (lenL x4.1)) then ((listAt x4.1 z0.2).bind fun x5 => (bif (neI x5.f0 z0.2) then (some (.inr (.inr ()))) else (bif (leI (lenL x2.1) x5.f1) then (some (.inr (.inr ()))) else (bif (ltI x5.f1 0) then (some (.inl (z0.1, (addI .i64 z0.2 1)))) else ((listAt x1.1 z0.2).bind fun x6 => ((listAt x2.1 x5.f1).bind fun x7 => ((T56 z0.1 x5.f1).bind fun x8 => (bif x8 then (some (.inr (.inr ()))) else ((T56 x4.2.1 x5.f1).bind fun x9 => (bif x9 then (some (.inr (.inr ()))) else (bif (!eqS x6.f0 x7.f0) then (some (.inr (.inr ()))) else (bif (!eqS x6.f1 x7.f1) then (some (.inr (.inr ()))) else (bif (ltI x3.1 (maxI (subI .i64 x6.f2 x7.f2) (subI .i64 x7.f2 x6.f2))) then (some (.inr (.inr ()))) else ((appO 8 z0.1 ([x5.f1] : List Int)).bind fun x10 => (some (.inl (x10, (addI .i64 z0.2 1)))))))))))))))))) else (some (.inr (.inl (z0.2, (ltI z0.2 (lenL x4.1)), z0.1)))))
theorem L13_8_ok (C : Callee) (h56 : ∀ (p0 : (List Int)) (p1 : Int), C 56 [LL I p0, I p1] = (T56 p0 p1).map B) (x1 : ((List S99) × (List Int) × Int)) (x2 : ((List S99) × (List Int) × Int)) (x3 : (Int × (List Int) × Int)) (x4 : ((List S118) × (List Int) × Int)) (z0 : ((List Int) × Int)) : runs Tryz.prog C (cfg.fn 13) (finLoop ((cfg.fn 13).keep 8) ((cfg.fn 13).al 8)) [] (execA Tryz.prog C (cfg.fn 13) (nr Tryz.f13 [false, false, true, false, true, true, true, true, true, true]) ((fun z0 : ((List Int) × Int) => (mkE [(4, LL a99 x1.1), (5, LL a99 x2.1), (6, I x3.1), (8, LL I x4.2.1), (10, .own 80 0), (46, LL a118 x4.1), (47, I (lenL x4.1)), (48, I z0.2)] [(80, RR 3 1 I z0.1 0 false)] 167)) z0)) = (L13_8 x1 x2 x3 x4 z0).map (Sum.elim (fun z => .inl ((fun z0 : ((List Int) × Int) => (mkE [(4, LL a99 x1.1), (5, LL a99 x2.1), (6, I x3.1), (8, LL I x4.2.1), (10, .own 80 0), (46, LL a118 x4.1), (47, I (lenL x4.1)), (48, I z0.2)] [(80, RR 3 1 I z0.1 0 false)] 167)) z)) (fun x => .inr ((Sum.elim (fun (x : (Int × Bool × (List Int))) => (.exit 0, (mkE [(4, LL a99 x1.1), (5, LL a99 x2.1), (6, I x3.1), (8, LL I x4.2.1), (10, .own 80 0), (46, LL a118 x4.1), (47, I (lenL x4.1)), (48, I x.1), (49, B x.2.1)] [(80, RR 3 1 I x.2.2 0 false)] 167))) (fun (x : Unit) => (.ret, (mkE [(2, B false)] [] 167)))) x))) := by
  unfold L13_8
  let s_0 : List (Nat × AV) := [(4, LL a99 x1.1), (5, LL a99 x2.1), (6, I x3.1), (8, LL I x4.2.1), (10, .own 80 0)]
  let s_1 : List (Nat × AV) := [(46, LL a118 x4.1), (47, I (lenL x4.1)), (48, I z0.2)]
  let s_2 : List (Nat × AV) := [(12, .ba 96 0), (13, .ba 104 0), (14, .ba 112 0)]
  let s_3 : List (Nat × AV) := [(11, I z0.2), (12, .ba 96 0)]
  let s_4 : List (Nat × AV) := [(82, .ba 96 1), (81, LL I x4.2.1), (80, B false)]
  let s_5 : List (Nat × AV) := [(77, .ba 96 1), (76, .own 80 0)]
  let o_0 : List (Nat × AObj) := [(80, RR 3 1 I z0.1 0 false)]
  refine gS 0 ?_
  refine gR 8 (rg Tryz.f13 8) ?_
  refine se (mkE (s_0.append (s_1.append [(49, B (ltI z0.2 (lenL x4.1)))])) o_0 167) ?_
  refine pN ?_
  refine pS ?_
  refine gS 9 ?_
  refine gC 49 (ltI z0.2 (lenL x4.1)) ?_ ?_
  · refine gK ?_
    refine pN ?_
    refine pS ?_
    refine gS 17 ?_
    refine gB 1 ?_
    refine gS 10 ?_
    refine gR 9 (rg Tryz.f13 9) ?_
    refine sg 1 (mkE ((50, I z0.2) :: (s_0.append (s_1.append [(49, B (ltI z0.2 (lenL x4.1)))]))) o_0 167) ?_
    refine vo 51 (addrE 115 119 2 a118 .i64 x4.1 z0.2) (fun x5 => ?_)
    refine se (mkE (s_0.append (s_3.append s_1)) (o_0.append [(96, .box [I x5.f0, I x5.f1] false)]) 167) ?_
    refine pN ?_
    refine pS ?_
    refine gS 12 ?_
    refine gS 0 ?_
    refine gR 10 (rg Tryz.f13 10) ?_
    refine sg 5 (mkE ((57, B (neI x5.f0 z0.2)) :: ((56, B (neI x5.f0 z0.2)) :: ((55, I z0.2) :: ((54, I x5.f0) :: ((53, .ba 96 0) :: (s_0.append (s_3.append s_1))))))) (o_0.append [(96, .box [I x5.f0, I x5.f1] false)]) 167) ?_
    refine sb 57 (neI x5.f0 z0.2) ?_ ?_
    · refine se (mkE (s_0.append (s_3.append (s_1.append [(63, B true)]))) (o_0.append [(96, .box [I x5.f0, I x5.f1] false)]) 167) ?_
      refine pN ?_
      refine pS ?_
      refine gT (.tmp 63) ?_
      refine gS 0 ?_
      refine gR 11 (rg Tryz.f13 11) ?_
      refine se (mkE [(2, B false)] [] 167) ?_
      refine pN ?_
      refine pS ?_
      refine gE ?_
      exact pL
    · refine sg 8 (mkE ((60, LL a99 x2.1) :: ((59, I x5.f1) :: ((58, .ba 96 1) :: ((57, B false) :: ((57, B (neI x5.f0 z0.2)) :: ((56, B (neI x5.f0 z0.2)) :: ((55, I z0.2) :: ((54, I x5.f0) :: ((53, .ba 96 0) :: (s_0.append (s_3.append s_1))))))))))) (o_0.append [(96, .box [I x5.f0, I x5.f1] false)]) 167) ?_
      refine eo 61 (I (lenL x2.1)) (lenE 97 a99 x2.1) ?_
      refine se (mkE (s_0.append (s_3.append (s_1.append [(63, B (leI (lenL x2.1) x5.f1))]))) (o_0.append [(96, .box [I x5.f0, I x5.f1] false)]) 167) ?_
      refine pN ?_
      refine pS ?_
      refine gC 63 (leI (lenL x2.1) x5.f1) ?_ ?_
      · refine gS 0 ?_
        refine gR 11 (rg Tryz.f13 11) ?_
        refine se (mkE [(2, B false)] [] 167) ?_
        refine pN ?_
        refine pS ?_
        refine gE ?_
        exact pL
      · refine gK ?_
        refine pN ?_
        refine pS ?_
        refine gS 13 ?_
        refine gS 0 ?_
        refine gR 12 (rg Tryz.f13 12) ?_
        refine se (mkE (s_0.append (s_3.append (s_1.append [(66, B (ltI x5.f1 0))]))) (o_0.append [(96, .box [I x5.f0, I x5.f1] false)]) 167) ?_
        refine pN ?_
        refine pS ?_
        refine gC 66 (ltI x5.f1 0) ?_ ?_
        · refine gX 1 ?_
          refine pF ?_
          refine pO ?_
          refine pH ?_
          refine pN ?_
          refine pS ?_
          refine gR 17 (rg Tryz.f13 17) ?_
          refine se (mkE (s_0.append ((46, LL a118 x4.1) :: ((47, I (lenL x4.1)) :: [(48, I (addI .i64 z0.2 1))]))) o_0 167) ?_
          exact pL
        · refine gK ?_
          refine pN ?_
          refine pS ?_
          refine gS 14 ?_
          refine gD 13 12 (rg Tryz.f13 13) [0, 1, 2, 3, 4, 5, 6, 7, 8, 9, 10, 11, 12] ?_
          refine dg 2 [(some 67, qe (LL a99 x1.1)), (some 68, qe (I z0.2))] ?_
          refine dv 69 (mkE ((68, I z0.2) :: ((67, LL a99 x1.1) :: (s_0.append (s_3.append (s_1.append [(66, B (ltI x5.f1 0))]))))) (o_0.append [(96, .box [I x5.f0, I x5.f1] false)]) 167) (addrE 97 100 4 a99 .i64 x1.1 z0.2) (fun x6 => ?_)
          refine dg 7 [(some 67, qe (LL a99 x1.1)), (some 68, qe (I z0.2)), (some 69, qe (.ia [S x6.f0, S x6.f1, I x6.f2, I x6.f3] 0)), (some 70, qe (a99 x6)), (some 71, qe (LL a99 x2.1)), (some 72, qe (.ba 96 1)), (some 73, qe (I x5.f1))] ?_
          refine dv 74 (mkE ((73, I x5.f1) :: ((72, .ba 96 1) :: ((71, LL a99 x2.1) :: (s_0.append (s_3.append (s_1.append [(66, B (ltI x5.f1 0))])))))) (o_0.append [(96, .box [I x5.f0, I x5.f1] false)]) 167) (addrE 97 100 4 a99 .i64 x2.1 x5.f1) (fun x7 => ?_)
          refine dg 12 [(some 67, qe (LL a99 x1.1)), (some 68, qe (I z0.2)), (some 69, qe (.ia [S x6.f0, S x6.f1, I x6.f2, I x6.f3] 0)), (some 70, qe (a99 x6)), (some 71, qe (LL a99 x2.1)), (some 72, qe (.ba 96 1)), (some 73, qe (I x5.f1)), (some 74, qe (.ia [S x7.f0, S x7.f1, I x7.f2, I x7.f3] 0)), (some 75, qe (a99 x7)), (some 13, { e := { val := .ba 104 0, news := [(104, .box [S (ByteArray.mk #[]), S (ByteArray.mk #[]), I 0, I 0] false)] } }), (some 14, { e := { val := .ba 112 0, news := [(112, .box [S (ByteArray.mk #[]), S (ByteArray.mk #[]), I 0, I 0] false)] } }), (none, { e := { val := .und }, st := some (104, .box [S x6.f0, S x6.f1, I x6.f2, I x6.f3] false, 0, 4) })] ?_
          refine de (mkE ((14, .ba 112 0) :: ((13, .ba 104 0) :: ((75, a99 x7) :: ((74, .ia [S x7.f0, S x7.f1, I x7.f2, I x7.f3] 0) :: ((73, I x5.f1) :: ((72, .ba 96 1) :: ((71, LL a99 x2.1) :: ((70, a99 x6) :: ((69, .ia [S x6.f0, S x6.f1, I x6.f2, I x6.f3] 0) :: ((68, I z0.2) :: ((67, LL a99 x1.1) :: (s_0.append (s_3.append (s_1.append [(66, B (ltI x5.f1 0))])))))))))))))) ((104, .box [S x6.f0, S x6.f1, I x6.f2, I x6.f3] false) :: ((112, .box [S (ByteArray.mk #[]), S (ByteArray.mk #[]), I 0, I 0] false) :: ((104, .box [S (ByteArray.mk #[]), S (ByteArray.mk #[]), I 0, I 0] false) :: (o_0.append [(96, .box [I x5.f0, I x5.f1] false)])))) 167) ?_
          refine se (mkE (s_0.append (s_2.append s_1)) (o_0.append ((96, .box [I x5.f0, I x5.f1] false) :: ((104, .box [S x6.f0, S x6.f1, I x6.f2, I x6.f3] false) :: [(112, .box [S x7.f0, S x7.f1, I x7.f2, I x7.f3] false)]))) 167) ?_
          refine pN ?_
          refine pS ?_
          refine gS 16 ?_
          refine gS 0 ?_
          refine gR 14 (rg Tryz.f13 14) ?_
          refine sg 3 (mkE ((78, I x5.f1) :: (s_5.append (s_0.append (s_2.append s_1)))) (o_0.append ((96, .box [I x5.f0, I x5.f1] false) :: ((104, .box [S x6.f0, S x6.f1, I x6.f2, I x6.f3] false) :: [(112, .box [S x7.f0, S x7.f1, I x7.f2, I x7.f3] false)]))) 167) ?_
          refine co 79 [80] (h56 z0.1 x5.f1) (fun x8 => ?_)
          refine sg 5 (mkE ((80, B x8) :: ((79, B x8) :: ((78, I x5.f1) :: (s_5.append (s_0.append (s_2.append s_1)))))) (o_0.append ((96, .box [I x5.f0, I x5.f1] false) :: ((104, .box [S x6.f0, S x6.f1, I x6.f2, I x6.f3] false) :: [(112, .box [S x7.f0, S x7.f1, I x7.f2, I x7.f3] false)]))) 167) ?_
          refine sb 80 x8 ?_ ?_
          · refine se (mkE (s_0.append ((12, .ba 96 0) :: (s_1.append [(114, B true)]))) (o_0.append [(96, .box [I x5.f0, I x5.f1] false)]) 167) ?_
            refine pN ?_
            refine pS ?_
            refine gT (.tmp 114) ?_
            refine gS 0 ?_
            refine gR 15 (rg Tryz.f13 15) ?_
            refine se (mkE [(2, B false)] [] 167) ?_
            refine pN ?_
            refine pS ?_
            refine gE ?_
            exact pL
          · refine sg 8 (mkE ((83, I x5.f1) :: (s_4.append ((80, B x8) :: ((79, B x8) :: ((78, I x5.f1) :: (s_5.append (s_0.append (s_2.append s_1)))))))) (o_0.append ((96, .box [I x5.f0, I x5.f1] false) :: ((104, .box [S x6.f0, S x6.f1, I x6.f2, I x6.f3] false) :: [(112, .box [S x7.f0, S x7.f1, I x7.f2, I x7.f3] false)]))) 167) ?_
            refine co 84 [] (h56 x4.2.1 x5.f1) (fun x9 => ?_)
            refine sg 11 (mkE ((86, B x9) :: ((85, B x9) :: ((84, B x9) :: ((83, I x5.f1) :: (s_4.append ((80, B x8) :: ((79, B x8) :: ((78, I x5.f1) :: (s_5.append (s_0.append (s_2.append s_1))))))))))) (o_0.append ((96, .box [I x5.f0, I x5.f1] false) :: ((104, .box [S x6.f0, S x6.f1, I x6.f2, I x6.f3] false) :: [(112, .box [S x7.f0, S x7.f1, I x7.f2, I x7.f3] false)]))) 167) ?_
            refine sb 86 x9 ?_ ?_
            · refine se (mkE (s_0.append ((12, .ba 96 0) :: (s_1.append [(114, B true)]))) (o_0.append [(96, .box [I x5.f0, I x5.f1] false)]) 167) ?_
              refine pN ?_
              refine pS ?_
              refine gT (.tmp 114) ?_
              refine gS 0 ?_
              refine gR 15 (rg Tryz.f13 15) ?_
              refine se (mkE [(2, B false)] [] 167) ?_
              refine pN ?_
              refine pS ?_
              refine gE ?_
              exact pL
            · refine sg 18 (mkE ((93, B (!eqS x6.f0 x7.f0)) :: ((92, B (!eqS x6.f0 x7.f0)) :: ((91, B (!eqS x6.f0 x7.f0)) :: ((90, S x7.f0) :: ((89, .ba 112 0) :: ((88, S x6.f0) :: ((87, .ba 104 0) :: ((86, B false) :: ((86, B x9) :: ((85, B x9) :: ((84, B x9) :: ((83, I x5.f1) :: (s_4.append ((80, B x8) :: ((79, B x8) :: ((78, I x5.f1) :: (s_5.append (s_0.append (s_2.append s_1))))))))))))))))))) (o_0.append ((96, .box [I x5.f0, I x5.f1] false) :: ((104, .box [S x6.f0, S x6.f1, I x6.f2, I x6.f3] false) :: [(112, .box [S x7.f0, S x7.f1, I x7.f2, I x7.f3] false)]))) 167) ?_
              refine sb 93 (!eqS x6.f0 x7.f0) ?_ ?_
              · refine se (mkE (s_0.append ((12, .ba 96 0) :: (s_1.append [(114, B true)]))) (o_0.append [(96, .box [I x5.f0, I x5.f1] false)]) 167) ?_
                refine pN ?_
                refine pS ?_
                refine gT (.tmp 114) ?_
                refine gS 0 ?_
                refine gR 15 (rg Tryz.f13 15) ?_
                refine se (mkE [(2, B false)] [] 167) ?_
                refine pN ?_
                refine pS ?_
                refine gE ?_
                exact pL
              · refine sg 25 (mkE ((100, B (!eqS x6.f1 x7.f1)) :: ((99, B (!eqS x6.f1 x7.f1)) :: ((98, B (!eqS x6.f1 x7.f1)) :: ((97, S x7.f1) :: ((96, .ba 112 1) :: ((95, S x6.f1) :: ((94, .ba 104 1) :: ((93, B false) :: ((93, B (!eqS x6.f0 x7.f0)) :: ((92, B (!eqS x6.f0 x7.f0)) :: ((91, B (!eqS x6.f0 x7.f0)) :: ((90, S x7.f0) :: ((89, .ba 112 0) :: ((88, S x6.f0) :: ((87, .ba 104 0) :: ((86, B false) :: ((86, B x9) :: ((85, B x9) :: ((84, B x9) :: ((83, I x5.f1) :: (s_4.append ((80, B x8) :: ((79, B x8) :: ((78, I x5.f1) :: (s_5.append (s_0.append (s_2.append s_1))))))))))))))))))))))))))) (o_0.append ((96, .box [I x5.f0, I x5.f1] false) :: ((104, .box [S x6.f0, S x6.f1, I x6.f2, I x6.f3] false) :: [(112, .box [S x7.f0, S x7.f1, I x7.f2, I x7.f3] false)]))) 167) ?_
                refine sb 100 (!eqS x6.f1 x7.f1) ?_ ?_
                · refine se (mkE (s_0.append ((12, .ba 96 0) :: (s_1.append [(114, B true)]))) (o_0.append [(96, .box [I x5.f0, I x5.f1] false)]) 167) ?_
                  refine pN ?_
                  refine pS ?_
                  refine gT (.tmp 114) ?_
                  refine gS 0 ?_
                  refine gR 15 (rg Tryz.f13 15) ?_
                  refine se (mkE [(2, B false)] [] 167) ?_
                  refine pN ?_
                  refine pS ?_
                  refine gE ?_
                  exact pL
                · refine se (mkE (s_0.append ((12, .ba 96 0) :: (s_1.append [(114, B (ltI x3.1 (maxI (subI .i64 x6.f2 x7.f2) (subI .i64 x7.f2 x6.f2))))]))) (o_0.append [(96, .box [I x5.f0, I x5.f1] false)]) 167) ?_
                  refine pN ?_
                  refine pS ?_
                  refine gC 114 (ltI x3.1 (maxI (subI .i64 x6.f2 x7.f2) (subI .i64 x7.f2 x6.f2))) ?_ ?_
                  · refine gS 0 ?_
                    refine gR 15 (rg Tryz.f13 15) ?_
                    refine se (mkE [(2, B false)] [] 167) ?_
                    refine pN ?_
                    refine pS ?_
                    refine gE ?_
                    exact pL
                  · refine gK ?_
                    refine pN ?_
                    refine pS ?_
                    refine gR 16 (rg Tryz.f13 16) ?_
                    refine sg 4 (mkE ((118, .own 944 0) :: ((117, I x5.f1) :: ((116, .ba 96 1) :: ((115, .own 80 0) :: (s_0.append ((12, .ba 96 0) :: (s_1.append [(114, B (ltI x3.1 (maxI (subI .i64 x6.f2 x7.f2) (subI .i64 x7.f2 x6.f2))))]))))))) ((944, RR 3 1 I ([x5.f1] : List Int) 0 false) :: (o_0.append [(96, .box [I x5.f0, I x5.f1] false)])) 167) ?_
                    refine mo (some 119) (apO 22 3 1 8 80 I 0 [944] (y := .own 944 0) (l2 := ([x5.f1] : List Int))) (fun x10 => ?_)
                    refine se (mkE ((4, LL a99 x1.1) :: ((5, LL a99 x2.1) :: ((6, I x3.1) :: ((8, LL I x4.2.1) :: ((10, .own 80 1) :: s_1))))) [(80, RR 3 1 I x10 1 false)] 167) ?_
                    refine pB ?_
                    refine pN ?_
                    refine pS ?_
                    refine gR 17 (rg Tryz.f13 17) ?_
                    refine se (mkE [(4, LL a99 x1.1), (5, LL a99 x2.1), (6, I x3.1), (8, LL I x4.2.1), (10, .own 80 1), (46, LL a118 x4.1), (47, I (lenL x4.1)), (48, I (addI .i64 z0.2 1))] [(80, RR 3 1 I x10 1 false)] 167) ?_
                    exact pL
  · refine gX 0 ?_
    exact pL
noncomputable def L13_20 (x1 : ((List S99) × (List Int) × Int)) (x2 : ((List S99) × (List Int) × Int)) (x4 : ((List S118) × (List Int) × Int)) (x12 : ((List S118) × (List Int) × Int)) (z1 : ((List Int) × Int)) : Option (((List Int) × Int) ⊕ ((Int × Bool × (List Int)) ⊕ Unit)) := (bif (ltI z1.2 (lenL x12.1)) then ((listAt x12.1 z1.2).bind fun x13 => (bif (neI x13.f1 z1.2) then (some (.inr (.inr ()))) else (some (.inl (z1.1, (addI .i64 z1.2 1)))))) else (some (.inr (.inl (z1.2, (ltI z1.2 (lenL x12.1)), z1.1)))))
theorem L13_20_ok (C : Callee) (x1 : ((List S99) × (List Int) × Int)) (x2 : ((List S99) × (List Int) × Int)) (x4 : ((List S118) × (List Int) × Int)) (x12 : ((List S118) × (List Int) × Int)) (z1 : ((List Int) × Int)) : runs Tryz.prog C (cfg.fn 13) (finLoop ((cfg.fn 13).keep 20) ((cfg.fn 13).al 20)) [] (execA Tryz.prog C (cfg.fn 13) (nr Tryz.f13 [false, false, true, false, true, true, true, true, true, true, true, true]) ((fun z1 : ((List Int) × Int) => (mkE [(4, LL a99 x1.1), (5, LL a99 x2.1), (8, LL I x4.2.1), (10, .own 80 0), (15, LL a118 x12.1), (16, LL I x12.2.1), (17, I x12.2.2), (128, LL a118 x12.1), (129, I (lenL x12.1)), (130, I z1.2)] [(80, RR 3 1 I z1.1 0 false)] 167)) z1)) = (L13_20 x1 x2 x4 x12 z1).map (Sum.elim (fun z => .inl ((fun z1 : ((List Int) × Int) => (mkE [(4, LL a99 x1.1), (5, LL a99 x2.1), (8, LL I x4.2.1), (10, .own 80 0), (15, LL a118 x12.1), (16, LL I x12.2.1), (17, I x12.2.2), (128, LL a118 x12.1), (129, I (lenL x12.1)), (130, I z1.2)] [(80, RR 3 1 I z1.1 0 false)] 167)) z)) (fun x => .inr ((Sum.elim (fun (x : (Int × Bool × (List Int))) => (.exit 2, (mkE [(4, LL a99 x1.1), (5, LL a99 x2.1), (8, LL I x4.2.1), (10, .own 80 0), (15, LL a118 x12.1), (16, LL I x12.2.1), (17, I x12.2.2), (128, LL a118 x12.1), (129, I (lenL x12.1)), (130, I x.1), (131, B x.2.1)] [(80, RR 3 1 I x.2.2 0 false)] 167))) (fun (x : Unit) => (.ret, (mkE [(2, B false)] [] 167)))) x))) := by
  unfold L13_20
  let s_0 : List (Nat × AV) := [(4, LL a99 x1.1), (5, LL a99 x2.1), (8, LL I x4.2.1), (10, .own 80 0), (15, LL a118 x12.1), (16, LL I x12.2.1), (17, I x12.2.2), (128, LL a118 x12.1), (129, I (lenL x12.1))]
  refine gS 0 ?_
  refine gR 20 (rg Tryz.f13 20) ?_
  refine se (mkE (s_0.append ((130, I z1.2) :: [(131, B (ltI z1.2 (lenL x12.1)))])) [(80, RR 3 1 I z1.1 0 false)] 167) ?_
  refine pN ?_
  refine pS ?_
  refine gS 21 ?_
  refine gC 131 (ltI z1.2 (lenL x12.1)) ?_ ?_
  · refine gK ?_
    refine pN ?_
    refine pS ?_
    refine gS 24 ?_
    refine gB 3 ?_
    refine gS 22 ?_
    refine gR 21 (rg Tryz.f13 21) ?_
    refine sg 1 (mkE ((132, I z1.2) :: (s_0.append ((130, I z1.2) :: [(131, B (ltI z1.2 (lenL x12.1)))]))) [(80, RR 3 1 I z1.1 0 false)] 167) ?_
    refine vo 133 (addrE 115 119 2 a118 .i64 x12.1 z1.2) (fun x13 => ?_)
    refine se (mkE [(4, LL a99 x1.1), (5, LL a99 x2.1), (8, LL I x4.2.1), (10, .own 80 0), (15, LL a118 x12.1), (16, LL I x12.2.1), (17, I x12.2.2), (18, I z1.2), (19, .ba 152 0), (128, LL a118 x12.1), (129, I (lenL x12.1)), (130, I z1.2)] [(80, RR 3 1 I z1.1 0 false), (152, .box [I x13.f0, I x13.f1] false)] 167) ?_
    refine pN ?_
    refine pS ?_
    refine gS 0 ?_
    refine gR 22 (rg Tryz.f13 22) ?_
    refine se (mkE (s_0.append ((130, I z1.2) :: [(138, B (neI x13.f1 z1.2))])) [(80, RR 3 1 I z1.1 0 false)] 167) ?_
    refine pN ?_
    refine pS ?_
    refine gC 138 (neI x13.f1 z1.2) ?_ ?_
    · refine gS 0 ?_
      refine gR 23 (rg Tryz.f13 23) ?_
      refine se (mkE [(2, B false)] [] 167) ?_
      refine pN ?_
      refine pS ?_
      refine gE ?_
      exact pL
    · refine gK ?_
      refine pB ?_
      refine pN ?_
      refine pS ?_
      refine gR 24 (rg Tryz.f13 24) ?_
      refine se (mkE (s_0.append [(130, I (addI .i64 z1.2 1))]) [(80, RR 3 1 I z1.1 0 false)] 167) ?_
      exact pL
  · refine gX 2 ?_
    exact pL
noncomputable def T13 (p0 : (List Int)) : Option Bool := ((T49 p0 0 6).bind fun x1 => ((T49 x1.2.1 x1.2.2 5).bind fun x2 => ((T14 x2.2.1 x2.2.2 0 40).bind fun x3 => ((T55 x1.1 x2.1 x3.1).bind fun x4 => (bif (neI x4.2.2 0) then (some false) else (bif (neI (lenL x4.1) (lenL x1.1)) then (some false) else ((iter (L13_8 x1 x2 x3 x4) ([], 0)).bind fun y11 => (Sum.elim (fun y11a => ((T55 x1.1 x1.1 0).bind fun x12 => ((iter (L13_20 x1 x2 x4 x12) (y11a.2.2, 0)).bind fun y14 => (Sum.elim (fun y14a => (bif (eqI x12.2.2 0) then (bif (eqI (lenL x12.1) (lenL x1.1)) then (bif (eqI (lenL x12.2.1) 0) then (bif (eqI (addI .i64 (lenL y14a.2.2) (lenL x4.2.1)) (lenL x2.1)) then ((T26).bind fun x15 => (some x15)) else (some false)) else (some false)) else (some false)) else (some false))) (fun y14b => (some false)) y14)))) (fun y11b => (some false)) y11))))))))
theorem B13 (C : Callee) (h14 : ∀ (p0_c0 : (List Int)) (p0_c1 : Int) (p1 : Int) (p2 : Int), C 14 [.fb [LL I p0_c0, I p0_c1], I p1, I p2] = (T14 p0_c0 p0_c1 p1 p2).map (fun (r : (Int × (List Int) × Int)) => AV.inp (I r.1) (.fb [LL I r.2.1, I r.2.2]))) (h26 : C 26 [] = (T26).map B) (h49 : ∀ (p0_c0 : (List Int)) (p0_c1 : Int) (p1 : Int), C 49 [.fb [LL I p0_c0, I p0_c1], I p1] = (T49 p0_c0 p0_c1 p1).map (fun (r : ((List S99) × (List Int) × Int)) => AV.inp (LL a99 r.1) (.fb [LL I r.2.1, I r.2.2]))) (h55 : ∀ (p0 : (List S99)) (p1 : (List S99)) (p2 : Int), C 55 [LL a99 p0, LL a99 p1, I p2] = (T55 p0 p1 p2).map (fun r => AV.tup [(LL a118) r.1, (LL I) r.2.1, I r.2.2])) (h56 : ∀ (p0 : (List Int)) (p1 : Int), C 56 [LL I p0, I p1] = (T56 p0 p1).map B) (p0 : (List Int)) : runs Tryz.prog C (cfg.fn 13) (finFn Tryz.prog (cfg.fn 13).byval Tryz.f13) [] (execA Tryz.prog C (cfg.fn 13) (nr Tryz.f13 []) (frame0 [LL I p0] 167 false)) = (T13 p0).map B := by
  unfold T13
  let s_0 : List (Nat × AV) := [(10, .own 80 0)]
  refine gS 1 ?_
  refine gR 0 (rg Tryz.f13 0) ?_
  refine se (mkE [(0, LL I p0)] [] 167) ?_
  refine pN ?_
  refine pS ?_
  refine gS 2 ?_
  refine gR 1 (rg Tryz.f13 1) ?_
  refine se (mkE [(3, .ba 176 0)] [(176, .box [LL I p0, I 0] false)] 167) ?_
  refine pN ?_
  refine pS ?_
  refine gS 3 ?_
  refine gR 2 (rg Tryz.f13 2) ?_
  refine sg 1 (mkE [(23, .ba 176 0), (3, .ba 176 0)] [(176, .box [LL I p0, I 0] false)] 167) ?_
  refine mo (some 24) (ipB 49 176 [LL I p0, I 0] [LL I p0, I 0] [I 6] [I 6] [] (fun x : ((List S99) × (List Int) × Int) => LL a99 x.1) (fun x : ((List S99) × (List Int) × Int) => [LL I x.2.1, I x.2.2]) (h49 p0 0 6)) (fun x1 => ?_)
  refine sg 3 (mkE [(25, .ba 176 0), (24, LL a99 x1.1), (23, .ba 176 0), (3, .ba 176 0)] [(176, .box [LL I x1.2.1, I x1.2.2] false), (176, .box [LL I p0, I 0] false)] 167) ?_
  refine mo (some 26) (ipB 49 176 [LL I x1.2.1, I x1.2.2] [LL I x1.2.1, I x1.2.2] [I 5] [I 5] [] (fun x : ((List S99) × (List Int) × Int) => LL a99 x.1) (fun x : ((List S99) × (List Int) × Int) => [LL I x.2.1, I x.2.2]) (h49 x1.2.1 x1.2.2 5)) (fun x2 => ?_)
  refine sg 5 (mkE [(27, .ba 176 0), (26, LL a99 x2.1), (25, .ba 176 0), (24, LL a99 x1.1), (23, .ba 176 0), (3, .ba 176 0)] [(176, .box [LL I x2.2.1, I x2.2.2] false), (176, .box [LL I x1.2.1, I x1.2.2] false), (176, .box [LL I p0, I 0] false)] 167) ?_
  refine mo (some 28) (ipB 14 176 [LL I x2.2.1, I x2.2.2] [LL I x2.2.1, I x2.2.2] [I 0, I 40] [I 0, I 40] [] (fun x : (Int × (List Int) × Int) => I x.1) (fun x : (Int × (List Int) × Int) => [LL I x.2.1, I x.2.2]) (h14 x2.2.1 x2.2.2 0 40)) (fun x3 => ?_)
  refine se (mkE [(4, LL a99 x1.1), (5, LL a99 x2.1), (6, I x3.1)] [] 167) ?_
  refine pN ?_
  refine pS ?_
  refine gS 4 ?_
  refine gR 3 (rg Tryz.f13 3) ?_
  refine sg 3 (mkE [(32, I x3.1), (31, LL a99 x2.1), (30, LL a99 x1.1), (4, LL a99 x1.1), (5, LL a99 x2.1), (6, I x3.1)] [] 167) ?_
  refine co 33 [] (h55 x1.1 x2.1 x3.1) (fun x4 => ?_)
  refine se (mkE [(4, LL a99 x1.1), (5, LL a99 x2.1), (6, I x3.1), (7, LL a118 x4.1), (8, LL I x4.2.1), (9, I x4.2.2)] [] 167) ?_
  refine pN ?_
  refine pS ?_
  refine gS 6 ?_
  refine gS 0 ?_
  refine gR 4 (rg Tryz.f13 4) ?_
  refine sg 3 (mkE [(39, B (neI x4.2.2 0)), (38, B (neI x4.2.2 0)), (37, I x4.2.2), (4, LL a99 x1.1), (5, LL a99 x2.1), (6, I x3.1), (7, LL a118 x4.1), (8, LL I x4.2.1), (9, I x4.2.2)] [] 167) ?_
  refine sb 39 (neI x4.2.2 0) ?_ ?_
  · refine se (mkE [(4, LL a99 x1.1), (5, LL a99 x2.1), (6, I x3.1), (7, LL a118 x4.1), (8, LL I x4.2.1), (45, B true)] [] 167) ?_
    refine pN ?_
    refine pS ?_
    refine gT (.tmp 45) ?_
    refine gS 0 ?_
    refine gR 5 (rg Tryz.f13 5) ?_
    refine se (mkE [(2, B false)] [] 167) ?_
    refine pN ?_
    refine pS ?_
    refine gE ?_
    exact pL
  · refine sg 4 (mkE [(40, LL a118 x4.1), (39, B false), (39, B (neI x4.2.2 0)), (38, B (neI x4.2.2 0)), (37, I x4.2.2), (4, LL a99 x1.1), (5, LL a99 x2.1), (6, I x3.1), (7, LL a118 x4.1), (8, LL I x4.2.1), (9, I x4.2.2)] [] 167) ?_
    refine eo 41 (I (lenL x4.1)) (lenE 115 a118 x4.1) ?_
    refine sg 6 (mkE [(42, LL a99 x1.1), (41, I (lenL x4.1)), (40, LL a118 x4.1), (39, B false), (39, B (neI x4.2.2 0)), (38, B (neI x4.2.2 0)), (37, I x4.2.2), (4, LL a99 x1.1), (5, LL a99 x2.1), (6, I x3.1), (7, LL a118 x4.1), (8, LL I x4.2.1), (9, I x4.2.2)] [] 167) ?_
    refine eo 43 (I (lenL x1.1)) (lenE 97 a99 x1.1) ?_
    refine se (mkE [(4, LL a99 x1.1), (5, LL a99 x2.1), (6, I x3.1), (7, LL a118 x4.1), (8, LL I x4.2.1), (45, B (neI (lenL x4.1) (lenL x1.1)))] [] 167) ?_
    refine pN ?_
    refine pS ?_
    refine gC 45 (neI (lenL x4.1) (lenL x1.1)) ?_ ?_
    · refine gS 0 ?_
      refine gR 5 (rg Tryz.f13 5) ?_
      refine se (mkE [(2, B false)] [] 167) ?_
      refine pN ?_
      refine pS ?_
      refine gE ?_
      exact pL
    · refine gK ?_
      refine pN ?_
      refine pS ?_
      refine gS 7 ?_
      refine gR 6 (rg Tryz.f13 6) ?_
      refine se (mkE [(4, LL a99 x1.1), (5, LL a99 x2.1), (6, I x3.1), (7, LL a118 x4.1), (8, LL I x4.2.1), (10, .nils)] [] 167) ?_
      refine pN ?_
      refine pS ?_
      refine gS 18 ?_
      refine gS 8 ?_
      refine gR 7 (rg Tryz.f13 7) ?_
      refine sg 1 (mkE [(46, LL a118 x4.1), (4, LL a99 x1.1), (5, LL a99 x2.1), (6, I x3.1), (7, LL a118 x4.1), (8, LL I x4.2.1), (10, .nils)] [] 167) ?_
      refine eo 47 (I (lenL x4.1)) (lenE 115 a118 x4.1) ?_
      refine se (mkE [(4, LL a99 x1.1), (5, LL a99 x2.1), (6, I x3.1), (8, LL I x4.2.1), (10, .nils), (46, LL a118 x4.1), (47, I (lenL x4.1)), (48, I 0)] [] 167) ?_
      refine pN ?_
      refine pS ?_
      refine gB 0 ?_
      refine lo [(4, none), (5, none), (6, none), (8, none), (10, some (3, 1)), (46, none), (47, none), (48, none)] [] (L13_8 x1 x2 x3 x4) (fun z0 : ((List Int) × Int) => (mkE ((4, LL a99 x1.1) :: ((5, LL a99 x2.1) :: ((6, I x3.1) :: ((8, LL I x4.2.1) :: (s_0.append ((46, LL a118 x4.1) :: ((47, I (lenL x4.1)) :: [(48, I z0.2)]))))))) [(80, RR 3 1 I z0.1 0 false)] 167)) (Sum.elim (fun (x : (Int × Bool × (List Int))) => (.exit 0, (mkE ((4, LL a99 x1.1) :: ((5, LL a99 x2.1) :: ((6, I x3.1) :: ((8, LL I x4.2.1) :: (s_0.append ((46, LL a118 x4.1) :: ((47, I (lenL x4.1)) :: ((48, I x.1) :: [(49, B x.2.1)])))))))) [(80, RR 3 1 I x.2.2 0 false)] 167))) (fun (x : Unit) => (.ret, (mkE [(2, B false)] [] 167)))) ([], 0) (fun z => L13_8_ok C h56 x1 x2 x3 x4 z) ?_
      intro y11
      refine ss y11 (Z := (Sum.elim (fun (x : (Int × Bool × (List Int))) => (.exit 0, (mkE ((4, LL a99 x1.1) :: ((5, LL a99 x2.1) :: ((6, I x3.1) :: ((8, LL I x4.2.1) :: (s_0.append ((46, LL a118 x4.1) :: ((47, I (lenL x4.1)) :: ((48, I x.1) :: [(49, B x.2.1)])))))))) [(80, RR 3 1 I x.2.2 0 false)] 167))) (fun (x : Unit) => (.ret, (mkE [(2, B false)] [] 167))))) (fun y11a => ?_) (fun y11b => ?_)
      · refine pH ?_
        refine pN ?_
        refine pS ?_
        refine gS 19 ?_
        refine gR 18 (rg Tryz.f13 18) ?_
        refine sg 2 (mkE ((123, LL a99 x1.1) :: ((122, LL a99 x1.1) :: ((4, LL a99 x1.1) :: ((5, LL a99 x2.1) :: ((6, I x3.1) :: ((8, LL I x4.2.1) :: (s_0.append ((46, LL a118 x4.1) :: ((47, I (lenL x4.1)) :: ((48, I y11a.1) :: [(49, B y11a.2.1)])))))))))) [(80, RR 3 1 I y11a.2.2 0 false)] 167) ?_
        refine co 124 [] (h55 x1.1 x1.1 0) (fun x12 => ?_)
        refine se (mkE ((4, LL a99 x1.1) :: ((5, LL a99 x2.1) :: ((8, LL I x4.2.1) :: (s_0.append ((15, LL a118 x12.1) :: ((16, LL I x12.2.1) :: [(17, I x12.2.2)])))))) [(80, RR 3 1 I y11a.2.2 0 false)] 167) ?_
        refine pN ?_
        refine pS ?_
        refine gS 25 ?_
        refine gS 20 ?_
        refine gR 19 (rg Tryz.f13 19) ?_
        refine sg 1 (mkE ((128, LL a118 x12.1) :: ((4, LL a99 x1.1) :: ((5, LL a99 x2.1) :: ((8, LL I x4.2.1) :: (s_0.append ((15, LL a118 x12.1) :: ((16, LL I x12.2.1) :: [(17, I x12.2.2)]))))))) [(80, RR 3 1 I y11a.2.2 0 false)] 167) ?_
        refine eo 129 (I (lenL x12.1)) (lenE 115 a118 x12.1) ?_
        refine se (mkE ((4, LL a99 x1.1) :: ((5, LL a99 x2.1) :: ((8, LL I x4.2.1) :: (s_0.append ((15, LL a118 x12.1) :: ((16, LL I x12.2.1) :: ((17, I x12.2.2) :: ((128, LL a118 x12.1) :: ((129, I (lenL x12.1)) :: [(130, I 0)]))))))))) [(80, RR 3 1 I y11a.2.2 0 false)] 167) ?_
        refine pN ?_
        refine pS ?_
        refine gB 2 ?_
        refine lo [(4, none), (5, none), (8, none), (10, some (3, 1)), (15, none), (16, none), (17, none), (128, none), (129, none), (130, none)] [] (L13_20 x1 x2 x4 x12) (fun z1 : ((List Int) × Int) => (mkE ((4, LL a99 x1.1) :: ((5, LL a99 x2.1) :: ((8, LL I x4.2.1) :: (s_0.append ((15, LL a118 x12.1) :: ((16, LL I x12.2.1) :: ((17, I x12.2.2) :: ((128, LL a118 x12.1) :: ((129, I (lenL x12.1)) :: [(130, I z1.2)]))))))))) [(80, RR 3 1 I z1.1 0 false)] 167)) (Sum.elim (fun (x : (Int × Bool × (List Int))) => (.exit 2, (mkE ((4, LL a99 x1.1) :: ((5, LL a99 x2.1) :: ((8, LL I x4.2.1) :: (s_0.append ((15, LL a118 x12.1) :: ((16, LL I x12.2.1) :: ((17, I x12.2.2) :: ((128, LL a118 x12.1) :: ((129, I (lenL x12.1)) :: ((130, I x.1) :: [(131, B x.2.1)])))))))))) [(80, RR 3 1 I x.2.2 0 false)] 167))) (fun (x : Unit) => (.ret, (mkE [(2, B false)] [] 167)))) (y11a.2.2, 0) (fun z => L13_20_ok C x1 x2 x4 x12 z) ?_
        intro y14
        refine ss y14 (Z := (Sum.elim (fun (x : (Int × Bool × (List Int))) => (.exit 2, (mkE ((4, LL a99 x1.1) :: ((5, LL a99 x2.1) :: ((8, LL I x4.2.1) :: (s_0.append ((15, LL a118 x12.1) :: ((16, LL I x12.2.1) :: ((17, I x12.2.2) :: ((128, LL a118 x12.1) :: ((129, I (lenL x12.1)) :: ((130, I x.1) :: [(131, B x.2.1)])))))))))) [(80, RR 3 1 I x.2.2 0 false)] 167))) (fun (x : Unit) => (.ret, (mkE [(2, B false)] [] 167))))) (fun y14a => ?_) (fun y14b => ?_)
        · refine pH ?_
          refine pN ?_
          refine pS ?_
          refine gS 0 ?_
          refine gR 25 (rg Tryz.f13 25) ?_
          refine sg 3 (mkE ((142, B (eqI x12.2.2 0)) :: ((141, B (eqI x12.2.2 0)) :: ((140, I x12.2.2) :: ((4, LL a99 x1.1) :: ((5, LL a99 x2.1) :: ((8, LL I x4.2.1) :: (s_0.append ((15, LL a118 x12.1) :: ((16, LL I x12.2.1) :: ((17, I x12.2.2) :: ((128, LL a118 x12.1) :: ((129, I (lenL x12.1)) :: ((130, I y14a.1) :: [(131, B y14a.2.1)]))))))))))))) [(80, RR 3 1 I y14a.2.2 0 false)] 167) ?_
          refine sb 142 (eqI x12.2.2 0) ?_ ?_
          · refine sg 4 (mkE ((143, LL a118 x12.1) :: ((142, B true) :: ((142, B (eqI x12.2.2 0)) :: ((141, B (eqI x12.2.2 0)) :: ((140, I x12.2.2) :: ((4, LL a99 x1.1) :: ((5, LL a99 x2.1) :: ((8, LL I x4.2.1) :: (s_0.append ((15, LL a118 x12.1) :: ((16, LL I x12.2.1) :: ((17, I x12.2.2) :: ((128, LL a118 x12.1) :: ((129, I (lenL x12.1)) :: ((130, I y14a.1) :: [(131, B y14a.2.1)]))))))))))))))) [(80, RR 3 1 I y14a.2.2 0 false)] 167) ?_
            refine eo 144 (I (lenL x12.1)) (lenE 115 a118 x12.1) ?_
            refine sg 6 (mkE ((145, LL a99 x1.1) :: ((144, I (lenL x12.1)) :: ((143, LL a118 x12.1) :: ((142, B true) :: ((142, B (eqI x12.2.2 0)) :: ((141, B (eqI x12.2.2 0)) :: ((140, I x12.2.2) :: ((4, LL a99 x1.1) :: ((5, LL a99 x2.1) :: ((8, LL I x4.2.1) :: (s_0.append ((15, LL a118 x12.1) :: ((16, LL I x12.2.1) :: ((17, I x12.2.2) :: ((128, LL a118 x12.1) :: ((129, I (lenL x12.1)) :: ((130, I y14a.1) :: [(131, B y14a.2.1)]))))))))))))))))) [(80, RR 3 1 I y14a.2.2 0 false)] 167) ?_
            refine eo 146 (I (lenL x1.1)) (lenE 97 a99 x1.1) ?_
            refine sg 10 (mkE ((149, B (eqI (lenL x12.1) (lenL x1.1))) :: ((148, B (eqI (lenL x12.1) (lenL x1.1))) :: ((147, B (eqI (lenL x12.1) (lenL x1.1))) :: ((146, I (lenL x1.1)) :: ((145, LL a99 x1.1) :: ((144, I (lenL x12.1)) :: ((143, LL a118 x12.1) :: ((142, B true) :: ((142, B (eqI x12.2.2 0)) :: ((141, B (eqI x12.2.2 0)) :: ((140, I x12.2.2) :: ((4, LL a99 x1.1) :: ((5, LL a99 x2.1) :: ((8, LL I x4.2.1) :: (s_0.append ((15, LL a118 x12.1) :: ((16, LL I x12.2.1) :: ((17, I x12.2.2) :: ((128, LL a118 x12.1) :: ((129, I (lenL x12.1)) :: ((130, I y14a.1) :: [(131, B y14a.2.1)]))))))))))))))))))))) [(80, RR 3 1 I y14a.2.2 0 false)] 167) ?_
            refine sb 149 (eqI (lenL x12.1) (lenL x1.1)) ?_ ?_
            · refine sg 11 (mkE ((150, LL I x12.2.1) :: ((149, B true) :: ((149, B (eqI (lenL x12.1) (lenL x1.1))) :: ((148, B (eqI (lenL x12.1) (lenL x1.1))) :: ((147, B (eqI (lenL x12.1) (lenL x1.1))) :: ((146, I (lenL x1.1)) :: ((145, LL a99 x1.1) :: ((144, I (lenL x12.1)) :: ((143, LL a118 x12.1) :: ((142, B true) :: ((142, B (eqI x12.2.2 0)) :: ((141, B (eqI x12.2.2 0)) :: ((140, I x12.2.2) :: ((4, LL a99 x1.1) :: ((5, LL a99 x2.1) :: ((8, LL I x4.2.1) :: (s_0.append ((15, LL a118 x12.1) :: ((16, LL I x12.2.1) :: ((17, I x12.2.2) :: ((128, LL a118 x12.1) :: ((129, I (lenL x12.1)) :: ((130, I y14a.1) :: [(131, B y14a.2.1)]))))))))))))))))))))))) [(80, RR 3 1 I y14a.2.2 0 false)] 167) ?_
              refine eo 151 (I (lenL x12.2.1)) (lenE 22 I x12.2.1) ?_
              refine sg 15 (mkE ((154, B (eqI (lenL x12.2.1) 0)) :: ((153, B (eqI (lenL x12.2.1) 0)) :: ((152, B (eqI (lenL x12.2.1) 0)) :: ((151, I (lenL x12.2.1)) :: ((150, LL I x12.2.1) :: ((149, B true) :: ((149, B (eqI (lenL x12.1) (lenL x1.1))) :: ((148, B (eqI (lenL x12.1) (lenL x1.1))) :: ((147, B (eqI (lenL x12.1) (lenL x1.1))) :: ((146, I (lenL x1.1)) :: ((145, LL a99 x1.1) :: ((144, I (lenL x12.1)) :: ((143, LL a118 x12.1) :: ((142, B true) :: ((142, B (eqI x12.2.2 0)) :: ((141, B (eqI x12.2.2 0)) :: ((140, I x12.2.2) :: ((4, LL a99 x1.1) :: ((5, LL a99 x2.1) :: ((8, LL I x4.2.1) :: (s_0.append ((15, LL a118 x12.1) :: ((16, LL I x12.2.1) :: ((17, I x12.2.2) :: ((128, LL a118 x12.1) :: ((129, I (lenL x12.1)) :: ((130, I y14a.1) :: [(131, B y14a.2.1)]))))))))))))))))))))))))))) [(80, RR 3 1 I y14a.2.2 0 false)] 167) ?_
              refine sb 154 (eqI (lenL x12.2.1) 0) ?_ ?_
              · refine sg 16 (mkE ((155, .own 80 0) :: ((154, B true) :: ((154, B (eqI (lenL x12.2.1) 0)) :: ((153, B (eqI (lenL x12.2.1) 0)) :: ((152, B (eqI (lenL x12.2.1) 0)) :: ((151, I (lenL x12.2.1)) :: ((150, LL I x12.2.1) :: ((149, B true) :: ((149, B (eqI (lenL x12.1) (lenL x1.1))) :: ((148, B (eqI (lenL x12.1) (lenL x1.1))) :: ((147, B (eqI (lenL x12.1) (lenL x1.1))) :: ((146, I (lenL x1.1)) :: ((145, LL a99 x1.1) :: ((144, I (lenL x12.1)) :: ((143, LL a118 x12.1) :: ((142, B true) :: ((142, B (eqI x12.2.2 0)) :: ((141, B (eqI x12.2.2 0)) :: ((140, I x12.2.2) :: ((4, LL a99 x1.1) :: ((5, LL a99 x2.1) :: ((8, LL I x4.2.1) :: (s_0.append ((15, LL a118 x12.1) :: ((16, LL I x12.2.1) :: ((17, I x12.2.2) :: ((128, LL a118 x12.1) :: ((129, I (lenL x12.1)) :: ((130, I y14a.1) :: [(131, B y14a.2.1)]))))))))))))))))))))))))))))) [(80, RR 3 1 I y14a.2.2 0 false)] 167) ?_
                refine eo 156 (I (lenL y14a.2.2)) (lenOE 22 3 1 I y14a.2.2) ?_
                refine sg 18 (mkE ((157, LL I x4.2.1) :: ((156, I (lenL y14a.2.2)) :: ((155, .own 80 0) :: ((154, B true) :: ((154, B (eqI (lenL x12.2.1) 0)) :: ((153, B (eqI (lenL x12.2.1) 0)) :: ((152, B (eqI (lenL x12.2.1) 0)) :: ((151, I (lenL x12.2.1)) :: ((150, LL I x12.2.1) :: ((149, B true) :: ((149, B (eqI (lenL x12.1) (lenL x1.1))) :: ((148, B (eqI (lenL x12.1) (lenL x1.1))) :: ((147, B (eqI (lenL x12.1) (lenL x1.1))) :: ((146, I (lenL x1.1)) :: ((145, LL a99 x1.1) :: ((144, I (lenL x12.1)) :: ((143, LL a118 x12.1) :: ((142, B true) :: ((142, B (eqI x12.2.2 0)) :: ((141, B (eqI x12.2.2 0)) :: ((140, I x12.2.2) :: ((4, LL a99 x1.1) :: ((5, LL a99 x2.1) :: ((8, LL I x4.2.1) :: (s_0.append ((15, LL a118 x12.1) :: ((16, LL I x12.2.1) :: ((17, I x12.2.2) :: ((128, LL a118 x12.1) :: ((129, I (lenL x12.1)) :: ((130, I y14a.1) :: [(131, B y14a.2.1)]))))))))))))))))))))))))))))))) [(80, RR 3 1 I y14a.2.2 0 false)] 167) ?_
                refine eo 158 (I (lenL x4.2.1)) (lenE 22 I x4.2.1) ?_
                refine sg 21 (mkE ((160, LL a99 x2.1) :: ((159, I (addI .i64 (lenL y14a.2.2) (lenL x4.2.1))) :: ((158, I (lenL x4.2.1)) :: ((157, LL I x4.2.1) :: ((156, I (lenL y14a.2.2)) :: ((155, .own 80 0) :: ((154, B true) :: ((154, B (eqI (lenL x12.2.1) 0)) :: ((153, B (eqI (lenL x12.2.1) 0)) :: ((152, B (eqI (lenL x12.2.1) 0)) :: ((151, I (lenL x12.2.1)) :: ((150, LL I x12.2.1) :: ((149, B true) :: ((149, B (eqI (lenL x12.1) (lenL x1.1))) :: ((148, B (eqI (lenL x12.1) (lenL x1.1))) :: ((147, B (eqI (lenL x12.1) (lenL x1.1))) :: ((146, I (lenL x1.1)) :: ((145, LL a99 x1.1) :: ((144, I (lenL x12.1)) :: ((143, LL a118 x12.1) :: ((142, B true) :: ((142, B (eqI x12.2.2 0)) :: ((141, B (eqI x12.2.2 0)) :: ((140, I x12.2.2) :: ((4, LL a99 x1.1) :: ((5, LL a99 x2.1) :: ((8, LL I x4.2.1) :: (s_0.append ((15, LL a118 x12.1) :: ((16, LL I x12.2.1) :: ((17, I x12.2.2) :: ((128, LL a118 x12.1) :: ((129, I (lenL x12.1)) :: ((130, I y14a.1) :: [(131, B y14a.2.1)])))))))))))))))))))))))))))))))))) [(80, RR 3 1 I y14a.2.2 0 false)] 167) ?_
                refine eo 161 (I (lenL x2.1)) (lenE 97 a99 x2.1) ?_
                refine sg 25 (mkE ((164, B (eqI (addI .i64 (lenL y14a.2.2) (lenL x4.2.1)) (lenL x2.1))) :: ((163, B (eqI (addI .i64 (lenL y14a.2.2) (lenL x4.2.1)) (lenL x2.1))) :: ((162, B (eqI (addI .i64 (lenL y14a.2.2) (lenL x4.2.1)) (lenL x2.1))) :: ((161, I (lenL x2.1)) :: ((160, LL a99 x2.1) :: ((159, I (addI .i64 (lenL y14a.2.2) (lenL x4.2.1))) :: ((158, I (lenL x4.2.1)) :: ((157, LL I x4.2.1) :: ((156, I (lenL y14a.2.2)) :: ((155, .own 80 0) :: ((154, B true) :: ((154, B (eqI (lenL x12.2.1) 0)) :: ((153, B (eqI (lenL x12.2.1) 0)) :: ((152, B (eqI (lenL x12.2.1) 0)) :: ((151, I (lenL x12.2.1)) :: ((150, LL I x12.2.1) :: ((149, B true) :: ((149, B (eqI (lenL x12.1) (lenL x1.1))) :: ((148, B (eqI (lenL x12.1) (lenL x1.1))) :: ((147, B (eqI (lenL x12.1) (lenL x1.1))) :: ((146, I (lenL x1.1)) :: ((145, LL a99 x1.1) :: ((144, I (lenL x12.1)) :: ((143, LL a118 x12.1) :: ((142, B true) :: ((142, B (eqI x12.2.2 0)) :: ((141, B (eqI x12.2.2 0)) :: ((140, I x12.2.2) :: ((4, LL a99 x1.1) :: ((5, LL a99 x2.1) :: ((8, LL I x4.2.1) :: (s_0.append ((15, LL a118 x12.1) :: ((16, LL I x12.2.1) :: ((17, I x12.2.2) :: ((128, LL a118 x12.1) :: ((129, I (lenL x12.1)) :: ((130, I y14a.1) :: [(131, B y14a.2.1)])))))))))))))))))))))))))))))))))))))) [(80, RR 3 1 I y14a.2.2 0 false)] 167) ?_
                refine sb 164 (eqI (addI .i64 (lenL y14a.2.2) (lenL x4.2.1)) (lenL x2.1)) ?_ ?_
                · refine co 165 [] (h26) (fun x15 => ?_)
                  refine se (mkE [(2, B x15)] [] 167) ?_
                  refine pN ?_
                  refine pS ?_
                  refine gE ?_
                  exact pL
                · refine se (mkE [(2, B false)] [] 167) ?_
                  refine pN ?_
                  refine pS ?_
                  refine gE ?_
                  exact pL
              · refine se (mkE [(2, B false)] [] 167) ?_
                refine pN ?_
                refine pS ?_
                refine gE ?_
                exact pL
            · refine se (mkE [(2, B false)] [] 167) ?_
              refine pN ?_
              refine pS ?_
              refine gE ?_
              exact pL
          · refine se (mkE [(2, B false)] [] 167) ?_
            refine pN ?_
            refine pS ?_
            refine gE ?_
            exact pL
        · exact pL
      · exact pL
theorem F13 (m : Nat) (hm : 11 ≤ m) (p0 : (List Int)) : callA Tryz.prog cfg m 13 [LL I p0] = (T13 p0).map B := by
  obtain ⟨q, rfl⟩ : ∃ q, m = q + 1 := ⟨m - 1, by omega⟩
  exact (callA_body (fn := Tryz.f13) (c := body_ Tryz.f13) q _ (by kernel_rfl) (by kernel_rfl) (by kernel_rfl)).trans (B13 _ (fun p0_c0 p0_c1 p1 p2 => F14 q (by omega) p0_c0 p0_c1 p1 p2) (F26 q (by omega)) (fun p0_c0 p0_c1 p1 => F49 q (by omega) p0_c0 p0_c1 p1) (fun p0 p1 p2 => F55 q (by omega) p0 p1 p2) (fun p0 p1 => F56 q (by omega) p0 p1) p0)

end Go.Abs.TKM
