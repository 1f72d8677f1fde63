import Derived.Test.YtpakkikhfkhebaaGreatVTVp1
set_option maxRecDepth 100000
set_option linter.unusedVariables false
namespace Go.Abs.TV
open Go.RowKit Go.Proofs Go.Abs
noncomputable def L58_12 (p0 : S23) (p1 : S31) (x3 : ((List S75) × Int)) (z0 : ((List S75) × (List S75) × Int)) : Option (((List S75) × (List S75) × Int) ⊕ (Int × Bool × (List S75) × (List S75))) := (bif (ltI z0.2.2 (lenL x3.1)) then ((idxO (List.length z0.2.1) z0.2.2).bind fun x4 => ((getN z0.2.1 x4).bind fun x5 => ((T78 x5.f1 p1.f1 p1.f2 p0.f1 p0.f2).bind fun x6 => (bif (ltI 0 x6.f2) then ((appO 48 z0.1 ([(S75.mk x5.f0 x6)] : List S75)).bind fun x7 => (some (.inl (x7, z0.2.1, (addI .i64 z0.2.2 1))))) else (some (.inl (z0.1, z0.2.1, (addI .i64 z0.2.2 1)))))))) else (some (.inr (z0.2.2, (ltI z0.2.2 (lenL x3.1)), z0.1, z0.2.1))))
theorem L58_12_ok (C : Callee) (h78 : ∀ (p0 : S25) (p1 : Int) (p2 : Int) (p3 : Int) (p4 : Int), C 78 [a25 p0, I p1, I p2, I p3, I p4] = (T78 p0 p1 p2 p3 p4).map a25) (p0 : S23) (p1 : S31) (x3 : ((List S75) × Int)) (z0 : ((List S75) × (List S75) × Int)) : runs Tryz.prog C (cfg.fn 58) (finLoop ((cfg.fn 58).keep 12) ((cfg.fn 58).al 12)) [] (execA Tryz.prog C (cfg.fn 58) (nr Tryz.f58 [false, false, true, false, true, true, true, true, true, true]) ((fun z0 : ((List S75) × (List S75) × Int) => (mkE [(2, .ba 16 0), (3, .ba 24 0), (10, .own 80 0), (32, .own 256 0), (33, I (lenL x3.1)), (34, I z0.2.2)] [(16, .box [S p0.f0, I p0.f1, I p0.f2, LL a37 p0.f3] false), (24, .box [S p1.f0, I p1.f1, I p1.f2, LL a64 p1.f3] false), (80, RR 76 5 a75 z0.1 0 false), (256, RR 76 5 a75 z0.2.1 0 false)] 61)) z0)) = (L58_12 p0 p1 x3 z0).map (Sum.elim (fun z => .inl ((fun z0 : ((List S75) × (List S75) × Int) => (mkE [(2, .ba 16 0), (3, .ba 24 0), (10, .own 80 0), (32, .own 256 0), (33, I (lenL x3.1)), (34, I z0.2.2)] [(16, .box [S p0.f0, I p0.f1, I p0.f2, LL a37 p0.f3] false), (24, .box [S p1.f0, I p1.f1, I p1.f2, LL a64 p1.f3] false), (80, RR 76 5 a75 z0.1 0 false), (256, RR 76 5 a75 z0.2.1 0 false)] 61)) z)) (fun x => .inr ((fun (x : (Int × Bool × (List S75) × (List S75))) => (.exit 0, (mkE [(2, .ba 16 0), (3, .ba 24 0), (10, .own 80 0), (32, .own 256 0), (33, I (lenL x3.1)), (34, I x.1), (35, B x.2.1)] [(16, .box [S p0.f0, I p0.f1, I p0.f2, LL a37 p0.f3] false), (24, .box [S p1.f0, I p1.f1, I p1.f2, LL a64 p1.f3] false), (80, RR 76 5 a75 x.2.2.1 0 false), (256, RR 76 5 a75 x.2.2.2 0 false)] 61))) x))) := by
  unfold L58_12
  let s_0 : List (Nat × AV) := [(32, .own 256 0), (33, I (lenL x3.1)), (34, I z0.2.2)]
  let s_1 : List (Nat × AV) := [(2, .ba 16 0), (3, .ba 24 0), (10, .own 80 0)]
  let o_0 : List (Nat × AObj) := [(16, .box [S p0.f0, I p0.f1, I p0.f2, LL a37 p0.f3] false), (24, .box [S p1.f0, I p1.f1, I p1.f2, LL a64 p1.f3] false)]
  let o_1 : List (Nat × AObj) := [(256, RR 76 5 a75 z0.2.1 0 false)]
  let o_2 : List (Nat × AObj) := [(80, RR 76 5 a75 z0.1 0 false)]
  refine gS 0 ?_
  refine gR 12 (rg Tryz.f58 12) ?_
  refine se (mkE (s_1.append (s_0.append [(35, B (ltI z0.2.2 (lenL x3.1)))])) (o_0.append (o_2.append o_1)) 61) ?_
  refine pN ?_
  refine pS ?_
  refine gS 13 ?_
  refine gC 35 (ltI z0.2.2 (lenL x3.1)) ?_ ?_
  · refine gK ?_
    refine pN ?_
    refine pS ?_
    refine gS 17 ?_
    refine gB 1 ?_
    refine gS 14 ?_
    refine gR 13 (rg Tryz.f58 13) ?_
    refine vo 36 (addrOE 72 76 5 256 0 false a75 .i64 z0.2.1 z0.2.2) (fun x4 => ?_)
    refine vo 37 (loadOE 76 256 0 x4 0 76 5 5 true false a75 (fun q : S75 => a75 q) z0.2.1) (fun x5 => ?_)
    refine se (mkE (s_1.append ((12, .ba 96 0) :: s_0)) (o_0.append (o_2.append ((96, .box [S x5.f0, I x5.f1.f0, I x5.f1.f1, I x5.f1.f2, I x5.f1.f3] false) :: o_1))) 61) ?_
    refine pN ?_
    refine pS ?_
    refine gS 15 ?_
    refine gR 14 (rg Tryz.f58 14) ?_
    refine sg 10 (mkE ((47, I p0.f2) :: ((46, .ba 16 2) :: ((45, I p0.f1) :: ((44, .ba 16 1) :: ((43, I p1.f2) :: ((42, .ba 24 2) :: ((41, I p1.f1) :: ((40, .ba 24 1) :: ((39, a25 x5.f1) :: ((38, .ba 96 1) :: (s_1.append ((12, .ba 96 0) :: s_0)))))))))))) (o_0.append (o_2.append ((96, .box [S x5.f0, I x5.f1.f0, I x5.f1.f1, I x5.f1.f2, I x5.f1.f3] false) :: o_1))) 61) ?_
    refine co 48 [] (h78 x5.f1 p1.f1 p1.f2 p0.f1 p0.f2) (fun x6 => ?_)
    refine se (mkE (s_1.append ((12, .ba 96 0) :: ((13, .ba 104 0) :: s_0))) (o_0.append (o_2.append ((96, .box [S x5.f0, I x5.f1.f0, I x5.f1.f1, I x5.f1.f2, I x5.f1.f3] false) :: ((104, .box [I x6.f0, I x6.f1, I x6.f2, I x6.f3] false) :: o_1)))) 61) ?_
    refine pN ?_
    refine pS ?_
    refine gS 0 ?_
    refine gR 15 (rg Tryz.f58 15) ?_
    refine se (mkE (s_1.append ((12, .ba 96 0) :: ((13, .ba 104 0) :: (s_0.append [(51, B (ltI 0 x6.f2))])))) (o_0.append (o_2.append ((96, .box [S x5.f0, I x5.f1.f0, I x5.f1.f1, I x5.f1.f2, I x5.f1.f3] false) :: ((104, .box [I x6.f0, I x6.f1, I x6.f2, I x6.f3] false) :: o_1)))) 61) ?_
    refine pN ?_
    refine pS ?_
    refine gC 51 (ltI 0 x6.f2) ?_ ?_
    · refine gR 16 (rg Tryz.f58 16) ?_
      refine sg 6 (mkE ((57, .own 456 0) :: ((56, .agg [S x5.f0, I x6.f0, I x6.f1, I x6.f2, I x6.f3]) :: ((55, a25 x6) :: ((54, S x5.f0) :: ((53, .ba 96 0) :: ((52, .own 80 0) :: (s_1.append ((12, .ba 96 0) :: ((13, .ba 104 0) :: (s_0.append [(51, B (ltI 0 x6.f2))])))))))))) ((456, RR 76 5 a75 ([(S75.mk x5.f0 x6)] : List S75) 0 false) :: (o_0.append (o_2.append ((96, .box [S x5.f0, I x5.f1.f0, I x5.f1.f1, I x5.f1.f2, I x5.f1.f3] false) :: ((104, .box [I x6.f0, I x6.f1, I x6.f2, I x6.f3] false) :: o_1))))) 61) ?_
      refine mo (some 58) (apO 72 76 5 48 80 a75 0 [456] (y := .own 456 0) (l2 := ([(S75.mk x5.f0 x6)] : List S75))) (fun x7 => ?_)
      refine se (mkE ((2, .ba 16 0) :: ((3, .ba 24 0) :: ((10, .own 80 1) :: s_0))) (o_0.append ((80, RR 76 5 a75 x7 1 false) :: o_1)) 61) ?_
      refine pB ?_
      refine pN ?_
      refine pS ?_
      refine gR 17 (rg Tryz.f58 17) ?_
      refine se (mkE [(2, .ba 16 0), (3, .ba 24 0), (10, .own 80 1), (32, .own 256 0), (33, I (lenL x3.1)), (34, I (addI .i64 z0.2.2 1))] (o_0.append ((80, RR 76 5 a75 x7 1 false) :: o_1)) 61) ?_
      exact pL
    · refine gK ?_
      refine pB ?_
      refine pN ?_
      refine pS ?_
      refine gR 17 (rg Tryz.f58 17) ?_
      refine se (mkE (s_1.append ((32, .own 256 0) :: ((33, I (lenL x3.1)) :: [(34, I (addI .i64 z0.2.2 1))]))) (o_0.append (o_2.append o_1)) 61) ?_
      exact pL
  · refine gX 0 ?_
    exact pL
noncomputable def T58 (p0 : S23) (p1 : S31) : Option ((List S75) × Int) := ((T16 p0).bind fun x1 => (bif (neI x1 0) then (some ([], x1)) else ((T76 p1).bind fun x2 => (bif (neI x2 0) then (some ([], x2)) else ((T77 p1).bind fun x3 => (bif (neI x3.2 0) then (some ([], x3.2)) else ((iter (L58_12 p0 p1 x3) ([], x3.1, 0)).bind fun y8 => (some (y8.2.2.1, 0)))))))))
theorem B58 (C : Callee) (h16 : ∀ (p0 : S23), C 16 [a23 p0] = (T16 p0).map I) (h76 : ∀ (p0 : S31), C 76 [a31 p0] = (T76 p0).map I) (h77 : ∀ (p0 : S31), C 77 [a31 p0] = (T77 p0).map (fun r => AV.tup [(fun l => AV.fr 76 5 (List.map a75 l)) r.1, I r.2])) (h78 : ∀ (p0 : S25) (p1 : Int) (p2 : Int) (p3 : Int) (p4 : Int), C 78 [a25 p0, I p1, I p2, I p3, I p4] = (T78 p0 p1 p2 p3 p4).map a25) (p0 : S23) (p1 : S31) : runs Tryz.prog C (cfg.fn 58) (finFn Tryz.prog (cfg.fn 58).byval Tryz.f58) [] (execA Tryz.prog C (cfg.fn 58) (nr Tryz.f58 []) (frame0 [a23 p0, a31 p1] 61 false)) = (T58 p0 p1).map (fun r => AV.tup [(fun l => AV.fr 76 5 (List.map a75 l)) r.1, I r.2]) := by
  unfold T58
  let s_0 : List (Nat × AV) := [(2, .ba 16 0), (3, .ba 24 0)]
  let o_0 : List (Nat × AObj) := [(16, .box [S p0.f0, I p0.f1, I p0.f2, LL a37 p0.f3] false), (24, .box [S p1.f0, I p1.f1, I p1.f2, LL a64 p1.f3] false)]
  refine gS 1 ?_
  refine gR 0 (rg Tryz.f58 0) ?_
  refine se (mkE s_0 o_0 61) ?_
  refine pN ?_
  refine pS ?_
  refine gS 4 ?_
  refine gS 2 ?_
  refine gR 1 (rg Tryz.f58 1) ?_
  refine sg 1 (mkE ((14, a23 p0) :: s_0) o_0 61) ?_
  refine co 15 [] (h16 p0) (fun x1 => ?_)
  refine se (mkE (s_0.append [(6, I x1)]) o_0 61) ?_
  refine pN ?_
  refine pS ?_
  refine gS 0 ?_
  refine gR 2 (rg Tryz.f58 2) ?_
  refine se (mkE (s_0.append ((6, I x1) :: [(17, B (neI x1 0))])) o_0 61) ?_
  refine pN ?_
  refine pS ?_
  refine gC 17 (neI x1 0) ?_ ?_
  · refine gS 0 ?_
    refine gR 3 (rg Tryz.f58 3) ?_
    refine se (mkE [(4, .nils), (5, I x1)] [] 61) ?_
    refine pN ?_
    refine pS ?_
    refine gE ?_
    exact pL
  · refine gK ?_
    refine pN ?_
    refine pS ?_
    refine gS 7 ?_
    refine gS 5 ?_
    refine gR 4 (rg Tryz.f58 4) ?_
    refine sg 1 (mkE ((19, a31 p1) :: (s_0.append ((6, I x1) :: [(17, B (neI x1 0))]))) o_0 61) ?_
    refine co 20 [] (h76 p1) (fun x2 => ?_)
    refine se (mkE (s_0.append [(7, I x2)]) o_0 61) ?_
    refine pN ?_
    refine pS ?_
    refine gS 0 ?_
    refine gR 5 (rg Tryz.f58 5) ?_
    refine se (mkE (s_0.append ((7, I x2) :: [(22, B (neI x2 0))])) o_0 61) ?_
    refine pN ?_
    refine pS ?_
    refine gC 22 (neI x2 0) ?_ ?_
    · refine gS 0 ?_
      refine gR 6 (rg Tryz.f58 6) ?_
      refine se (mkE [(4, .nils), (5, I x2)] [] 61) ?_
      refine pN ?_
      refine pS ?_
      refine gE ?_
      exact pL
    · refine gK ?_
      refine pN ?_
      refine pS ?_
      refine gS 8 ?_
      refine gR 7 (rg Tryz.f58 7) ?_
      refine sg 1 (mkE ((25, a31 p1) :: (s_0.append ((7, I x2) :: [(22, B (neI x2 0))]))) o_0 61) ?_
      refine co 26 [] (h77 p1) (fun x3 => ?_)
      refine se (mkE (s_0.append ((8, .own 208 0) :: [(9, I x3.2)])) (o_0.append [(208, RR 76 5 a75 x3.1 0 false)]) 61) ?_
      refine pN ?_
      refine pS ?_
      refine gS 10 ?_
      refine gS 0 ?_
      refine gR 8 (rg Tryz.f58 8) ?_
      refine se (mkE (s_0.append ((8, .own 208 0) :: ((9, I x3.2) :: [(30, B (neI x3.2 0))]))) (o_0.append [(208, RR 76 5 a75 x3.1 0 false)]) 61) ?_
      refine pN ?_
      refine pS ?_
      refine gC 30 (neI x3.2 0) ?_ ?_
      · refine gS 0 ?_
        refine gR 9 (rg Tryz.f58 9) ?_
        refine se (mkE [(4, .nils), (5, I x3.2)] [] 61) ?_
        refine pN ?_
        refine pS ?_
        refine gE ?_
        exact pL
      · refine gK ?_
        refine pN ?_
        refine pS ?_
        refine gS 11 ?_
        refine gR 10 (rg Tryz.f58 10) ?_
        refine se (mkE (s_0.append ((8, .own 208 0) :: [(10, .nils)])) (o_0.append [(208, RR 76 5 a75 x3.1 0 false)]) 61) ?_
        refine pN ?_
        refine pS ?_
        refine gS 18 ?_
        refine gS 12 ?_
        refine gR 11 (rg Tryz.f58 11) ?_
        refine sg 1 (mkE ((32, .own 208 0) :: (s_0.append ((8, .own 208 0) :: [(10, .nils)]))) (o_0.append [(208, RR 76 5 a75 x3.1 0 false)]) 61) ?_
        refine eo 33 (I (lenL x3.1)) (lenOE 72 76 5 a75 x3.1) ?_
        refine se (mkE (s_0.append ((10, .nils) :: ((32, .own 208 0) :: ((33, I (lenL x3.1)) :: [(34, I 0)])))) (o_0.append [(208, RR 76 5 a75 x3.1 0 false)]) 61) ?_
        refine pN ?_
        refine pS ?_
        refine gB 0 ?_
        refine lo [(2, none), (3, none), (10, some (76, 5)), (32, some (76, 5)), (33, none), (34, none)] [] (L58_12 p0 p1 x3) (fun z0 : ((List S75) × (List S75) × Int) => (mkE (s_0.append ((10, .own 80 0) :: ((32, .own 256 0) :: ((33, I (lenL x3.1)) :: [(34, I z0.2.2)])))) (o_0.append ((80, RR 76 5 a75 z0.1 0 false) :: [(256, RR 76 5 a75 z0.2.1 0 false)])) 61)) (fun (x : (Int × Bool × (List S75) × (List S75))) => (.exit 0, (mkE (s_0.append ((10, .own 80 0) :: ((32, .own 256 0) :: ((33, I (lenL x3.1)) :: ((34, I x.1) :: [(35, B x.2.1)]))))) (o_0.append ((80, RR 76 5 a75 x.2.2.1 0 false) :: [(256, RR 76 5 a75 x.2.2.2 0 false)])) 61))) ([], x3.1, 0) (fun z => L58_12_ok C h78 p0 p1 x3 z) ?_
        intro y8
        refine pH ?_
        refine pN ?_
        refine pS ?_
        refine gS 0 ?_
        refine gR 18 (rg Tryz.f58 18) ?_
        refine se (mkE [(4, .own 80 0), (5, I 0)] [(80, RR 76 5 a75 y8.2.2.1 0 false)] 61) ?_
        refine pN ?_
        refine pS ?_
        refine gE ?_
        exact pL
theorem F58 (m : Nat) (hm : 7 ≤ m) (p0 : S23) (p1 : S31) : callA Tryz.prog cfg m 58 [a23 p0, a31 p1] = (T58 p0 p1).map (fun r => AV.tup [(fun l => AV.fr 76 5 (List.map a75 l)) r.1, I r.2]) := by
  obtain ⟨q, rfl⟩ : ∃ q, m = q + 1 := ⟨m - 1, by omega⟩
  exact (callA_body (fn := Tryz.f58) (c := body_ Tryz.f58) q _ (by kernel_rfl) (by kernel_rfl) (by kernel_rfl)).trans (B58 _ (fun p0 => F16 q (by omega) p0) (fun p0 => F76 q (by omega) p0) (fun p0 => F77 q (by omega) p0) (fun p0 p1 p2 p3 p4 => F78 q (by omega) p0 p1 p2 p3 p4) p0 p1)

noncomputable def T45 (p0 : S25) (p1 : S25) : Option S25 := (some (S25.mk (subI .i64 p0.f0 p1.f0) (subI .i64 p0.f1 p1.f1) p0.f2 p0.f3))
theorem B45 (C : Callee) (p0 : S25) (p1 : S25) : runs Tryz.prog C (cfg.fn 45) (finFn Tryz.prog (cfg.fn 45).byval Tryz.f45) [] (execA Tryz.prog C (cfg.fn 45) (nr Tryz.f45 []) (frame0 [a25 p0, a25 p1] 20 false)) = (T45 p0 p1).map a25 := by
  unfold T45
  refine gS 1 ?_
  refine gR 0 (rg Tryz.f45 0) ?_
  refine se (mkE [(2, .ba 16 0), (3, .ba 24 0), (4, .ba 32 0)] [(16, .box [I p0.f0, I p0.f1, I p0.f2, I p0.f3] false), (24, .box [I p1.f0, I p1.f1, I p1.f2, I p1.f3] false), (32, .box [I 0, I 0, I 0, I 0] false)] 20) ?_
  refine pN ?_
  refine pS ?_
  refine gS 0 ?_
  refine gR 1 (rg Tryz.f45 1) ?_
  refine se (mkE [(4, .ba 32 0)] [(32, .box [I (subI .i64 p0.f0 p1.f0), I (subI .i64 p0.f1 p1.f1), I p0.f2, I p0.f3] false)] 20) ?_
  refine pN ?_
  refine pS ?_
  refine gE ?_
  exact pL
theorem F45 (m : Nat) (hm : 1 ≤ m) (p0 : S25) (p1 : S25) : callA Tryz.prog cfg m 45 [a25 p0, a25 p1] = (T45 p0 p1).map a25 := by
  obtain ⟨q, rfl⟩ : ∃ q, m = q + 1 := ⟨m - 1, by omega⟩
  exact (callA_body (fn := Tryz.f45) (c := body_ Tryz.f45) q _ (by kernel_rfl) (by kernel_rfl) (by kernel_rfl)).trans (B45 _ p0 p1)

noncomputable def L29_9 (p0 : S23) (z0 : ((List S75) × (List S79) × Int)) (x2 : S37) (z1 : ((List S75) × (List S79) × Int)) : Option (((List S75) × (List S79) × Int) ⊕ (Int × Bool × (List S75) × (List S79))) := (bif (ltI z1.2.2 (lenL z0.1)) then ((idxO (List.length z1.1) z1.2.2).bind fun x3 => ((getN z1.1 x3).bind fun x4 => ((T44 x2.f1 x4.f1).bind fun x5 => (bif x5.2 then ((T45 x5.1 x2.f1).bind fun x6 => ((appO 64 z1.2.1 ([(S79.mk x2.f0 x4.f0 x6)] : List S79)).bind fun x7 => (some (.inl (z1.1, x7, (addI .i64 z1.2.2 1)))))) else (some (.inl (z1.1, z1.2.1, (addI .i64 z1.2.2 1)))))))) else (some (.inr (z1.2.2, (ltI z1.2.2 (lenL z0.1)), z1.1, z1.2.1))))
theorem L29_9_ok (C : Callee) (h44 : ∀ (p0 : S25) (p1 : S25), C 44 [a25 p0, a25 p1] = (T44 p0 p1).map (fun r => AV.tup [a25 r.1, B r.2])) (h45 : ∀ (p0 : S25) (p1 : S25), C 45 [a25 p0, a25 p1] = (T45 p0 p1).map a25) (p0 : S23) (z0 : ((List S75) × (List S79) × Int)) (x2 : S37) (z1 : ((List S75) × (List S79) × Int)) : runs Tryz.prog C (cfg.fn 29) (finLoop ((cfg.fn 29).keep 9) ((cfg.fn 29).al 9)) [] (execA Tryz.prog C (cfg.fn 29) (nr Tryz.f29 [false, false, true, true, false, false, true, true, false, false, true, false, true, true, true, true]) ((fun z1 : ((List S75) × (List S79) × Int) => (mkE [(31, .own 48 0), (6, .own 48 0), (8, .own 64 0), (10, .ba 80 0), (25, LL a37 p0.f3), (26, I (lenL p0.f3)), (27, I z0.2.2), (32, I (lenL z0.1)), (33, I z1.2.2)] [(48, RR 76 5 a75 z1.1 0 false), (64, RR 80 6 a79 z1.2.1 0 false), (80, .box [S x2.f0, I x2.f1.f0, I x2.f1.f1, I x2.f1.f2, I x2.f1.f3] false)] 61)) z1)) = (L29_9 p0 z0 x2 z1).map (Sum.elim (fun z => .inl ((fun z1 : ((List S75) × (List S79) × Int) => (mkE [(31, .own 48 0), (6, .own 48 0), (8, .own 64 0), (10, .ba 80 0), (25, LL a37 p0.f3), (26, I (lenL p0.f3)), (27, I z0.2.2), (32, I (lenL z0.1)), (33, I z1.2.2)] [(48, RR 76 5 a75 z1.1 0 false), (64, RR 80 6 a79 z1.2.1 0 false), (80, .box [S x2.f0, I x2.f1.f0, I x2.f1.f1, I x2.f1.f2, I x2.f1.f3] false)] 61)) z)) (fun x => .inr ((fun (x : (Int × Bool × (List S75) × (List S79))) => (.exit 2, (mkE [(6, .own 48 0), (8, .own 64 0), (10, .ba 80 0), (25, LL a37 p0.f3), (26, I (lenL p0.f3)), (27, I z0.2.2), (31, .own 48 0), (32, I (lenL z0.1)), (33, I x.1), (34, B x.2.1)] [(48, RR 76 5 a75 x.2.2.1 0 false), (64, RR 80 6 a79 x.2.2.2 0 false), (80, .box [S x2.f0, I x2.f1.f0, I x2.f1.f1, I x2.f1.f2, I x2.f1.f3] false)] 61))) x))) := by
  unfold L29_9
  let s_0 : List (Nat × AV) := [(25, LL a37 p0.f3), (26, I (lenL p0.f3)), (27, I z0.2.2), (31, .own 48 0), (32, I (lenL z0.1))]
  let s_1 : List (Nat × AV) := [(6, .own 48 0), (8, .own 64 0), (10, .ba 80 0), (12, .ba 96 0)]
  let o_0 : List (Nat × AObj) := [(48, RR 76 5 a75 z1.1 0 false), (64, RR 80 6 a79 z1.2.1 0 false), (80, .box [S x2.f0, I x2.f1.f0, I x2.f1.f1, I x2.f1.f2, I x2.f1.f3] false)]
  refine gS 0 ?_
  refine gR 9 (rg Tryz.f29 9) ?_
  refine se (mkE ((6, .own 48 0) :: ((8, .own 64 0) :: ((10, .ba 80 0) :: (s_0.append ((33, I z1.2.2) :: [(34, B (ltI z1.2.2 (lenL z0.1)))]))))) o_0 61) ?_
  refine pN ?_
  refine pS ?_
  refine gS 10 ?_
  refine gC 34 (ltI z1.2.2 (lenL z0.1)) ?_ ?_
  · refine gK ?_
    refine pN ?_
    refine pS ?_
    refine gS 14 ?_
    refine gB 3 ?_
    refine gS 11 ?_
    refine gR 10 (rg Tryz.f29 10) ?_
    refine vo 35 (addrOE 72 76 5 48 0 false a75 .i64 z1.1 z1.2.2) (fun x3 => ?_)
    refine vo 36 (loadOE 76 48 0 x3 0 76 5 5 true false a75 (fun q : S75 => a75 q) z1.1) (fun x4 => ?_)
    refine se (mkE (s_1.append (s_0.append [(33, I z1.2.2)])) (o_0.append [(96, .box [S x4.f0, I x4.f1.f0, I x4.f1.f1, I x4.f1.f2, I x4.f1.f3] false)]) 61) ?_
    refine pN ?_
    refine pS ?_
    refine gS 12 ?_
    refine gR 11 (rg Tryz.f29 11) ?_
    refine sg 4 (mkE ((41, a25 x4.f1) :: ((40, .ba 96 1) :: ((39, a25 x2.f1) :: ((38, .ba 80 1) :: (s_1.append (s_0.append [(33, I z1.2.2)])))))) (o_0.append [(96, .box [S x4.f0, I x4.f1.f0, I x4.f1.f1, I x4.f1.f2, I x4.f1.f3] false)]) 61) ?_
    refine co 42 [] (h44 x2.f1 x4.f1) (fun x5 => ?_)
    refine se (mkE (s_1.append ((13, .ba 104 0) :: ((14, B x5.2) :: (s_0.append [(33, I z1.2.2)])))) (o_0.append ((96, .box [S x4.f0, I x4.f1.f0, I x4.f1.f1, I x4.f1.f2, I x4.f1.f3] false) :: [(104, .box [I x5.1.f0, I x5.1.f1, I x5.1.f2, I x5.1.f3] false)])) 61) ?_
    refine pN ?_
    refine pS ?_
    refine gS 0 ?_
    refine gR 12 (rg Tryz.f29 12) ?_
    refine se (mkE (s_1.append ((13, .ba 104 0) :: (s_0.append ((33, I z1.2.2) :: [(45, B x5.2)])))) (o_0.append ((96, .box [S x4.f0, I x4.f1.f0, I x4.f1.f1, I x4.f1.f2, I x4.f1.f3] false) :: [(104, .box [I x5.1.f0, I x5.1.f1, I x5.1.f2, I x5.1.f3] false)])) 61) ?_
    refine pN ?_
    refine pS ?_
    refine gC 45 x5.2 ?_ ?_
    · refine gD 13 11 (rg Tryz.f29 13) [0, 1, 2, 3, 4, 5, 6, 7, 8, 9, 10, 11, 12] ?_
      refine dg 8 [(some 46, qe (.own 64 0)), (some 47, qe (.ba 80 0)), (some 48, qe (S x2.f0)), (some 49, qe (.ba 96 0)), (some 50, qe (S x4.f0)), (some 51, qe (a25 x5.1)), (some 52, qe (.ba 80 1)), (some 53, qe (a25 x2.f1))] ?_
      refine dc 54 [] (mkE ((53, a25 x2.f1) :: ((52, .ba 80 1) :: ((51, a25 x5.1) :: (s_1.append ((13, .ba 104 0) :: (s_0.append ((33, I z1.2.2) :: [(45, B x5.2)]))))))) (o_0.append ((96, .box [S x4.f0, I x4.f1.f0, I x4.f1.f1, I x4.f1.f2, I x4.f1.f3] false) :: [(104, .box [I x5.1.f0, I x5.1.f1, I x5.1.f2, I x5.1.f3] false)])) 61) (h45 x5.1 x2.f1) (fun x6 => ?_)
      refine dg 11 [(some 46, qe (.own 64 0)), (some 47, qe (.ba 80 0)), (some 48, qe (S x2.f0)), (some 49, qe (.ba 96 0)), (some 50, qe (S x4.f0)), (some 51, qe (a25 x5.1)), (some 52, qe (.ba 80 1)), (some 53, qe (a25 x2.f1)), (some 54, qe (a25 x6)), (some 55, qe (.agg [S x2.f0, S x4.f0, I x6.f0, I x6.f1, I x6.f2, I x6.f3])), (some 56, { e := { val := .own 448 0, news := [(448, RR 80 6 a79 ([(S79.mk x2.f0 x4.f0 x6)] : List S79) 0 false)] } })] ?_
      refine de (mkE ((56, .own 448 0) :: ((55, .agg [S x2.f0, S x4.f0, I x6.f0, I x6.f1, I x6.f2, I x6.f3]) :: ((54, a25 x6) :: ((53, a25 x2.f1) :: ((52, .ba 80 1) :: ((51, a25 x5.1) :: ((50, S x4.f0) :: ((49, .ba 96 0) :: ((48, S x2.f0) :: ((47, .ba 80 0) :: ((46, .own 64 0) :: (s_1.append ((13, .ba 104 0) :: (s_0.append ((33, I z1.2.2) :: [(45, B x5.2)]))))))))))))))) ((448, RR 80 6 a79 ([(S79.mk x2.f0 x4.f0 x6)] : List S79) 0 false) :: (o_0.append ((96, .box [S x4.f0, I x4.f1.f0, I x4.f1.f1, I x4.f1.f2, I x4.f1.f3] false) :: [(104, .box [I x5.1.f0, I x5.1.f1, I x5.1.f2, I x5.1.f3] false)]))) 61) ?_
      refine mo (some 57) (apO 66 80 6 64 64 a79 0 [448] (y := .own 448 0) (l2 := ([(S79.mk x2.f0 x4.f0 x6)] : List S79))) (fun x7 => ?_)
      refine se (mkE ((6, .own 48 0) :: ((8, .own 64 1) :: ((10, .ba 80 0) :: (s_0.append [(33, I z1.2.2)])))) [(48, RR 76 5 a75 z1.1 0 false), (64, RR 80 6 a79 x7 1 false), (80, .box [S x2.f0, I x2.f1.f0, I x2.f1.f1, I x2.f1.f2, I x2.f1.f3] false)] 61) ?_
      refine pB ?_
      refine pN ?_
      refine pS ?_
      refine gR 14 (rg Tryz.f29 14) ?_
      refine se (mkE ((6, .own 48 0) :: ((8, .own 64 1) :: ((10, .ba 80 0) :: (s_0.append [(33, I (addI .i64 z1.2.2 1))])))) [(48, RR 76 5 a75 z1.1 0 false), (64, RR 80 6 a79 x7 1 false), (80, .box [S x2.f0, I x2.f1.f0, I x2.f1.f1, I x2.f1.f2, I x2.f1.f3] false)] 61) ?_
      exact pL
    · refine gK ?_
      refine pB ?_
      refine pN ?_
      refine pS ?_
      refine gR 14 (rg Tryz.f29 14) ?_
      refine se (mkE ((6, .own 48 0) :: ((8, .own 64 0) :: ((10, .ba 80 0) :: (s_0.append [(33, I (addI .i64 z1.2.2 1))])))) o_0 61) ?_
      exact pL
  · refine gX 2 ?_
    exact pL
noncomputable def L29_6 (p0 : S23) (z0 : ((List S75) × (List S79) × Int)) : Option (((List S75) × (List S79) × Int) ⊕ (Int × Bool × (List S75) × (List S79))) := (bif (ltI z0.2.2 (lenL p0.f3)) then ((listAt p0.f3 z0.2.2).bind fun x2 => ((iter (L29_9 p0 z0 x2) (z0.1, z0.2.1, 0)).bind fun y8 => (some (.inl (y8.2.2.1, y8.2.2.2, (addI .i64 z0.2.2 1)))))) else (some (.inr (z0.2.2, (ltI z0.2.2 (lenL p0.f3)), z0.1, z0.2.1))))
theorem L29_6_ok (C : Callee) (h44 : ∀ (p0 : S25) (p1 : S25), C 44 [a25 p0, a25 p1] = (T44 p0 p1).map (fun r => AV.tup [a25 r.1, B r.2])) (h45 : ∀ (p0 : S25) (p1 : S25), C 45 [a25 p0, a25 p1] = (T45 p0 p1).map a25) (p0 : S23) (z0 : ((List S75) × (List S79) × Int)) : runs Tryz.prog C (cfg.fn 29) (finLoop ((cfg.fn 29).keep 6) ((cfg.fn 29).al 6)) [] (execA Tryz.prog C (cfg.fn 29) (nr Tryz.f29 [false, false, true, false, true, true, true, true]) ((fun z0 : ((List S75) × (List S79) × Int) => (mkE [(6, .own 48 0), (8, .own 64 0), (25, LL a37 p0.f3), (26, I (lenL p0.f3)), (27, I z0.2.2)] [(48, RR 76 5 a75 z0.1 0 false), (64, RR 80 6 a79 z0.2.1 0 false)] 61)) z0)) = (L29_6 p0 z0).map (Sum.elim (fun z => .inl ((fun z0 : ((List S75) × (List S79) × Int) => (mkE [(6, .own 48 0), (8, .own 64 0), (25, LL a37 p0.f3), (26, I (lenL p0.f3)), (27, I z0.2.2)] [(48, RR 76 5 a75 z0.1 0 false), (64, RR 80 6 a79 z0.2.1 0 false)] 61)) z)) (fun x => .inr ((fun (x : (Int × Bool × (List S75) × (List S79))) => (.exit 0, (mkE [(6, .own 48 0), (8, .own 64 0), (25, LL a37 p0.f3), (26, I (lenL p0.f3)), (27, I x.1), (28, B x.2.1)] [(48, RR 76 5 a75 x.2.2.1 0 false), (64, RR 80 6 a79 x.2.2.2 0 false)] 61))) x))) := by
  unfold L29_6
  let s_0 : List (Nat × AV) := [(6, .own 48 0), (8, .own 64 0), (10, .ba 80 0), (25, LL a37 p0.f3), (26, I (lenL p0.f3)), (27, I z0.2.2)]
  let o_0 : List (Nat × AObj) := [(48, RR 76 5 a75 z0.1 0 false), (64, RR 80 6 a79 z0.2.1 0 false)]
  refine gS 0 ?_
  refine gR 6 (rg Tryz.f29 6) ?_
  refine se (mkE [(6, .own 48 0), (8, .own 64 0), (25, LL a37 p0.f3), (26, I (lenL p0.f3)), (27, I z0.2.2), (28, B (ltI z0.2.2 (lenL p0.f3)))] o_0 61) ?_
  refine pN ?_
  refine pS ?_
  refine gS 7 ?_
  refine gC 28 (ltI z0.2.2 (lenL p0.f3)) ?_ ?_
  · refine gK ?_
    refine pN ?_
    refine pS ?_
    refine gS 15 ?_
    refine gB 1 ?_
    refine gS 8 ?_
    refine gR 7 (rg Tryz.f29 7) ?_
    refine vo 29 (addrE 22 38 5 a37 .i64 p0.f3 z0.2.2) (fun x2 => ?_)
    refine se (mkE s_0 (o_0.append [(80, .box [S x2.f0, I x2.f1.f0, I x2.f1.f1, I x2.f1.f2, I x2.f1.f3] false)]) 61) ?_
    refine pN ?_
    refine pS ?_
    refine gS 9 ?_
    refine gR 8 (rg Tryz.f29 8) ?_
    refine sg 1 (mkE ((31, .own 48 0) :: s_0) (o_0.append [(80, .box [S x2.f0, I x2.f1.f0, I x2.f1.f1, I x2.f1.f2, I x2.f1.f3] false)]) 61) ?_
    refine eo 32 (I (lenL z0.1)) (lenOE 72 76 5 a75 z0.1) ?_
    refine se (mkE (s_0.append ((31, .own 48 0) :: ((32, I (lenL z0.1)) :: [(33, I 0)]))) (o_0.append [(80, .box [S x2.f0, I x2.f1.f0, I x2.f1.f1, I x2.f1.f2, I x2.f1.f3] false)]) 61) ?_
    refine pN ?_
    refine pS ?_
    refine gB 2 ?_
    refine lo [(6, some (76, 5)), (8, some (80, 6)), (10, none), (25, none), (26, none), (27, none), (32, none), (33, none)] [(31, 6)] (L29_9 p0 z0 x2) (fun z1 : ((List S75) × (List S79) × Int) => (mkE ((31, .own 48 0) :: (s_0.append ((32, I (lenL z0.1)) :: [(33, I z1.2.2)]))) [(48, RR 76 5 a75 z1.1 0 false), (64, RR 80 6 a79 z1.2.1 0 false), (80, .box [S x2.f0, I x2.f1.f0, I x2.f1.f1, I x2.f1.f2, I x2.f1.f3] false)] 61)) (fun (x : (Int × Bool × (List S75) × (List S79))) => (.exit 2, (mkE (s_0.append ((31, .own 48 0) :: ((32, I (lenL z0.1)) :: ((33, I x.1) :: [(34, B x.2.1)])))) [(48, RR 76 5 a75 x.2.2.1 0 false), (64, RR 80 6 a79 x.2.2.2 0 false), (80, .box [S x2.f0, I x2.f1.f0, I x2.f1.f1, I x2.f1.f2, I x2.f1.f3] false)] 61))) (z0.1, z0.2.1, 0) (fun z => L29_9_ok C h44 h45 p0 z0 x2 z) ?_
    intro y8
    refine pH ?_
    refine pB ?_
    refine pN ?_
    refine pS ?_
    refine gR 15 (rg Tryz.f29 15) ?_
    refine se (mkE [(6, .own 48 0), (8, .own 64 0), (25, LL a37 p0.f3), (26, I (lenL p0.f3)), (27, I (addI .i64 z0.2.2 1))] [(48, RR 76 5 a75 y8.2.2.1 0 false), (64, RR 80 6 a79 y8.2.2.2 0 false)] 61) ?_
    exact pL
  · refine gX 0 ?_
    exact pL
noncomputable def T29 (p0 : S23) (p1 : S31) : Option ((List S79) × Int) := ((T58 p0 p1).bind fun x1 => (bif (neI x1.2 0) then (some ([], x1.2)) else ((iter (L29_6 p0) (x1.1, [], 0)).bind fun y9 => (some (y9.2.2.2, 0)))))
theorem B29 (C : Callee) (h44 : ∀ (p0 : S25) (p1 : S25), C 44 [a25 p0, a25 p1] = (T44 p0 p1).map (fun r => AV.tup [a25 r.1, B r.2])) (h45 : ∀ (p0 : S25) (p1 : S25), C 45 [a25 p0, a25 p1] = (T45 p0 p1).map a25) (h58 : ∀ (p0 : S23) (p1 : S31), C 58 [a23 p0, a31 p1] = (T58 p0 p1).map (fun r => AV.tup [(fun l => AV.fr 76 5 (List.map a75 l)) r.1, I r.2])) (p0 : S23) (p1 : S31) : runs Tryz.prog C (cfg.fn 29) (finFn Tryz.prog (cfg.fn 29).byval Tryz.f29) [] (execA Tryz.prog C (cfg.fn 29) (nr Tryz.f29 []) (frame0 [a23 p0, a31 p1] 61 false)) = (T29 p0 p1).map (fun r => AV.tup [(fun l => AV.fr 80 6 (List.map a79 l)) r.1, I r.2]) := by
  unfold T29
  let o_0 : List (Nat × AObj) := [(16, .box [S p0.f0, I p0.f1, I p0.f2, LL a37 p0.f3] false)]
  refine gS 1 ?_
  refine gR 0 (rg Tryz.f29 0) ?_
  refine se (mkE [(2, .ba 16 0), (3, .ba 24 0)] (o_0.append [(24, .box [S p1.f0, I p1.f1, I p1.f2, LL a64 p1.f3] false)]) 61) ?_
  refine pN ?_
  refine pS ?_
  refine gS 2 ?_
  refine gR 1 (rg Tryz.f29 1) ?_
  refine sg 2 (mkE [(17, a31 p1), (16, a23 p0), (2, .ba 16 0), (3, .ba 24 0)] (o_0.append [(24, .box [S p1.f0, I p1.f1, I p1.f2, LL a64 p1.f3] false)]) 61) ?_
  refine co 18 [] (h58 p0 p1) (fun x1 => ?_)
  refine se (mkE [(2, .ba 16 0), (6, .own 144 0), (7, I x1.2)] (o_0.append [(144, RR 76 5 a75 x1.1 0 false)]) 61) ?_
  refine pN ?_
  refine pS ?_
  refine gS 4 ?_
  refine gS 0 ?_
  refine gR 2 (rg Tryz.f29 2) ?_
  refine se (mkE [(2, .ba 16 0), (6, .own 144 0), (7, I x1.2), (22, B (neI x1.2 0))] (o_0.append [(144, RR 76 5 a75 x1.1 0 false)]) 61) ?_
  refine pN ?_
  refine pS ?_
  refine gC 22 (neI x1.2 0) ?_ ?_
  · refine gS 0 ?_
    refine gR 3 (rg Tryz.f29 3) ?_
    refine se (mkE [(4, .nils), (5, I x1.2)] [] 61) ?_
    refine pN ?_
    refine pS ?_
    refine gE ?_
    exact pL
  · refine gK ?_
    refine pN ?_
    refine pS ?_
    refine gS 5 ?_
    refine gR 4 (rg Tryz.f29 4) ?_
    refine se (mkE [(2, .ba 16 0), (6, .own 144 0), (8, .nils)] (o_0.append [(144, RR 76 5 a75 x1.1 0 false)]) 61) ?_
    refine pN ?_
    refine pS ?_
    refine gS 16 ?_
    refine gS 6 ?_
    refine gR 5 (rg Tryz.f29 5) ?_
    refine sg 2 (mkE [(25, LL a37 p0.f3), (24, .ba 16 3), (2, .ba 16 0), (6, .own 144 0), (8, .nils)] (o_0.append [(144, RR 76 5 a75 x1.1 0 false)]) 61) ?_
    refine eo 26 (I (lenL p0.f3)) (lenE 22 a37 p0.f3) ?_
    refine se (mkE [(6, .own 144 0), (8, .nils), (25, LL a37 p0.f3), (26, I (lenL p0.f3)), (27, I 0)] [(144, RR 76 5 a75 x1.1 0 false)] 61) ?_
    refine pN ?_
    refine pS ?_
    refine gB 0 ?_
    refine lo [(6, some (76, 5)), (8, some (80, 6)), (25, none), (26, none), (27, none)] [] (L29_6 p0) (fun z0 : ((List S75) × (List S79) × Int) => (mkE [(6, .own 48 0), (8, .own 64 0), (25, LL a37 p0.f3), (26, I (lenL p0.f3)), (27, I z0.2.2)] [(48, RR 76 5 a75 z0.1 0 false), (64, RR 80 6 a79 z0.2.1 0 false)] 61)) (fun (x : (Int × Bool × (List S75) × (List S79))) => (.exit 0, (mkE [(6, .own 48 0), (8, .own 64 0), (25, LL a37 p0.f3), (26, I (lenL p0.f3)), (27, I x.1), (28, B x.2.1)] [(48, RR 76 5 a75 x.2.2.1 0 false), (64, RR 80 6 a79 x.2.2.2 0 false)] 61))) (x1.1, [], 0) (fun z => L29_6_ok C h44 h45 p0 z) ?_
    intro y9
    refine pH ?_
    refine pN ?_
    refine pS ?_
    refine gS 0 ?_
    refine gR 16 (rg Tryz.f29 16) ?_
    refine se (mkE [(4, .own 64 0), (5, I 0)] [(64, RR 80 6 a79 y9.2.2.2 0 false)] 61) ?_
    refine pN ?_
    refine pS ?_
    refine gE ?_
    exact pL
theorem F29 (m : Nat) (hm : 8 ≤ m) (p0 : S23) (p1 : S31) : callA Tryz.prog cfg m 29 [a23 p0, a31 p1] = (T29 p0 p1).map (fun r => AV.tup [(fun l => AV.fr 80 6 (List.map a79 l)) r.1, I r.2]) := by
  obtain ⟨q, rfl⟩ : ∃ q, m = q + 1 := ⟨m - 1, by omega⟩
  exact (callA_body (fn := Tryz.f29) (c := body_ Tryz.f29) q _ (by kernel_rfl) (by kernel_rfl) (by kernel_rfl)).trans (B29 _ (fun p0 p1 => F44 q (by omega) p0 p1) (fun p0 p1 => F45 q (by omega) p0 p1) (fun p0 p1 => F58 q (by omega) p0 p1) p0 p1)

noncomputable def L42_3 (p0 : S23) (z0 : ((List S25) × Int)) : Option (((List S25) × Int) ⊕ (Int × Bool × (List S25))) := (bif (ltI z0.2 (lenL p0.f3)) then ((listAt p0.f3 z0.2).bind fun x1 => ((appO 32 z0.1 ([x1.f1] : List S25)).bind fun x2 => (some (.inl (x2, (addI .i64 z0.2 1)))))) else (some (.inr (z0.2, (ltI z0.2 (lenL p0.f3)), z0.1))))
theorem L42_3_ok (C : Callee) (p0 : S23) (z0 : ((List S25) × Int)) : runs Tryz.prog C (cfg.fn 42) (finLoop ((cfg.fn 42).keep 3) ((cfg.fn 42).al 3)) [] (execA Tryz.prog C (cfg.fn 42) (nr Tryz.f42 [false, false, true, false, true, true]) ((fun z0 : ((List S25) × Int) => (mkE [(3, .own 24 0), (7, LL a37 p0.f3), (8, I (lenL p0.f3)), (9, I z0.2)] [(24, RR 26 4 a25 z0.1 0 false)] 20)) z0)) = (L42_3 p0 z0).map (Sum.elim (fun z => .inl ((fun z0 : ((List S25) × Int) => (mkE [(3, .own 24 0), (7, LL a37 p0.f3), (8, I (lenL p0.f3)), (9, I z0.2)] [(24, RR 26 4 a25 z0.1 0 false)] 20)) z)) (fun x => .inr ((fun (x : (Int × Bool × (List S25))) => (.exit 0, (mkE [(3, .own 24 0), (7, LL a37 p0.f3), (8, I (lenL p0.f3)), (9, I x.1), (10, B x.2.1)] [(24, RR 26 4 a25 x.2.2 0 false)] 20))) x))) := by
  unfold L42_3
  let s_0 : List (Nat × AV) := [(7, LL a37 p0.f3), (8, I (lenL p0.f3)), (9, I z0.2)]
  refine gS 0 ?_
  refine gR 3 (rg Tryz.f42 3) ?_
  refine se (mkE ((3, .own 24 0) :: (s_0.append [(10, B (ltI z0.2 (lenL p0.f3)))])) [(24, RR 26 4 a25 z0.1 0 false)] 20) ?_
  refine pN ?_
  refine pS ?_
  refine gS 4 ?_
  refine gC 10 (ltI z0.2 (lenL p0.f3)) ?_ ?_
  · refine gK ?_
    refine pN ?_
    refine pS ?_
    refine gS 6 ?_
    refine gB 1 ?_
    refine gS 5 ?_
    refine gR 4 (rg Tryz.f42 4) ?_
    refine vo 11 (addrE 22 38 5 a37 .i64 p0.f3 z0.2) (fun x1 => ?_)
    refine se (mkE ((3, .own 24 0) :: ((5, .ba 40 0) :: s_0)) [(24, RR 26 4 a25 z0.1 0 false), (40, .box [S x1.f0, I x1.f1.f0, I x1.f1.f1, I x1.f1.f2, I x1.f1.f3] false)] 20) ?_
    refine pN ?_
    refine pS ?_
    refine gR 5 (rg Tryz.f42 5) ?_
    refine sg 4 (mkE ((16, .own 128 0) :: ((15, a25 x1.f1) :: ((14, .ba 40 1) :: ((13, .own 24 0) :: ((3, .own 24 0) :: ((5, .ba 40 0) :: s_0)))))) [(128, RR 26 4 a25 ([x1.f1] : List S25) 0 false), (24, RR 26 4 a25 z0.1 0 false), (40, .box [S x1.f0, I x1.f1.f0, I x1.f1.f1, I x1.f1.f2, I x1.f1.f3] false)] 20) ?_
    refine mo (some 17) (apO 42 26 4 32 24 a25 0 [128] (y := .own 128 0) (l2 := ([x1.f1] : List S25))) (fun x2 => ?_)
    refine se (mkE ((3, .own 24 1) :: s_0) [(24, RR 26 4 a25 x2 1 false)] 20) ?_
    refine pB ?_
    refine pN ?_
    refine pS ?_
    refine gR 6 (rg Tryz.f42 6) ?_
    refine se (mkE [(3, .own 24 1), (7, LL a37 p0.f3), (8, I (lenL p0.f3)), (9, I (addI .i64 z0.2 1))] [(24, RR 26 4 a25 x2 1 false)] 20) ?_
    exact pL
  · refine gX 0 ?_
    exact pL
noncomputable def T42 (p0 : S23) : Option (List S25) := ((iter (L42_3 p0) ([], 0)).bind fun y3 => (some y3.2.2))
theorem B42 (C : Callee) (p0 : S23) : runs Tryz.prog C (cfg.fn 42) (finFn Tryz.prog (cfg.fn 42).byval Tryz.f42) [] (execA Tryz.prog C (cfg.fn 42) (nr Tryz.f42 []) (frame0 [a23 p0] 20 false)) = (T42 p0).map (fun l => AV.fr 26 4 (List.map a25 l)) := by
  unfold T42
  refine gS 1 ?_
  refine gR 0 (rg Tryz.f42 0) ?_
  refine se (mkE [(1, .ba 8 0)] [(8, .box [S p0.f0, I p0.f1, I p0.f2, LL a37 p0.f3] false)] 20) ?_
  refine pN ?_
  refine pS ?_
  refine gS 2 ?_
  refine gR 1 (rg Tryz.f42 1) ?_
  refine se (mkE [(1, .ba 8 0), (3, .nils)] [(8, .box [S p0.f0, I p0.f1, I p0.f2, LL a37 p0.f3] false)] 20) ?_
  refine pN ?_
  refine pS ?_
  refine gS 7 ?_
  refine gS 3 ?_
  refine gR 2 (rg Tryz.f42 2) ?_
  refine sg 2 (mkE [(7, LL a37 p0.f3), (6, .ba 8 3), (1, .ba 8 0), (3, .nils)] [(8, .box [S p0.f0, I p0.f1, I p0.f2, LL a37 p0.f3] false)] 20) ?_
  refine eo 8 (I (lenL p0.f3)) (lenE 22 a37 p0.f3) ?_
  refine se (mkE [(3, .nils), (7, LL a37 p0.f3), (8, I (lenL p0.f3)), (9, I 0)] [] 20) ?_
  refine pN ?_
  refine pS ?_
  refine gB 0 ?_
  refine lo [(3, some (26, 4)), (7, none), (8, none), (9, none)] [] (L42_3 p0) (fun z0 : ((List S25) × Int) => (mkE [(3, .own 24 0), (7, LL a37 p0.f3), (8, I (lenL p0.f3)), (9, I z0.2)] [(24, RR 26 4 a25 z0.1 0 false)] 20)) (fun (x : (Int × Bool × (List S25))) => (.exit 0, (mkE [(3, .own 24 0), (7, LL a37 p0.f3), (8, I (lenL p0.f3)), (9, I x.1), (10, B x.2.1)] [(24, RR 26 4 a25 x.2.2 0 false)] 20))) ([], 0) (fun z => L42_3_ok C p0 z) ?_
  intro y3
  refine pH ?_
  refine pN ?_
  refine pS ?_
  refine gS 0 ?_
  refine gR 7 (rg Tryz.f42 7) ?_
  refine se (mkE [(2, .own 24 0)] [(24, RR 26 4 a25 y3.2.2 0 false)] 20) ?_
  refine pN ?_
  refine pS ?_
  refine gE ?_
  exact pL
theorem F42 (m : Nat) (hm : 1 ≤ m) (p0 : S23) : callA Tryz.prog cfg m 42 [a23 p0] = (T42 p0).map (fun l => AV.fr 26 4 (List.map a25 l)) := by
  obtain ⟨q, rfl⟩ : ∃ q, m = q + 1 := ⟨m - 1, by omega⟩
  exact (callA_body (fn := Tryz.f42) (c := body_ Tryz.f42) q _ (by kernel_rfl) (by kernel_rfl) (by kernel_rfl)).trans (B42 _ p0)

noncomputable def L59_3 (p0 : (List S25)) (z0 : (Int × Int)) : Option ((Int × Int) ⊕ (Int × Int × Bool)) := (bif (ltI z0.2 (lenL p0)) then ((listAt p0 z0.2).bind fun x1 => (some (.inl ((addI .i64 z0.1 (mulI .i64 x1.f2 x1.f3)), (addI .i64 z0.2 1))))) else (some (.inr (z0.1, z0.2, (ltI z0.2 (lenL p0))))))
theorem L59_3_ok (C : Callee) (p0 : (List S25)) (z0 : (Int × Int)) : runs Tryz.prog C (cfg.fn 59) (finLoop ((cfg.fn 59).keep 3) ((cfg.fn 59).al 3)) [] (execA Tryz.prog C (cfg.fn 59) (nr Tryz.f59 [false, false, true, false, true, true]) ((fun z0 : (Int × Int) => (mkE [(3, I z0.1), (6, LL a25 p0), (7, I (lenL p0)), (8, I z0.2)] [] 21)) z0)) = (L59_3 p0 z0).map (Sum.elim (fun z => .inl ((fun z0 : (Int × Int) => (mkE [(3, I z0.1), (6, LL a25 p0), (7, I (lenL p0)), (8, I z0.2)] [] 21)) z)) (fun x => .inr ((fun (x : (Int × Int × Bool)) => (.exit 0, (mkE [(3, I x.1), (6, LL a25 p0), (7, I (lenL p0)), (8, I x.2.1), (9, B x.2.2)] [] 21))) x))) := by
  unfold L59_3
  refine gS 0 ?_
  refine gR 3 (rg Tryz.f59 3) ?_
  refine se (mkE [(3, I z0.1), (6, LL a25 p0), (7, I (lenL p0)), (8, I z0.2), (9, B (ltI z0.2 (lenL p0)))] [] 21) ?_
  refine pN ?_
  refine pS ?_
  refine gS 4 ?_
  refine gC 9 (ltI z0.2 (lenL p0)) ?_ ?_
  · refine gK ?_
    refine pN ?_
    refine pS ?_
    refine gS 6 ?_
    refine gB 1 ?_
    refine gS 5 ?_
    refine gR 4 (rg Tryz.f59 4) ?_
    refine vo 10 (addrE 42 26 4 a25 .i64 p0 z0.2) (fun x1 => ?_)
    refine se (mkE [(3, I z0.1), (5, .ba 40 0), (6, LL a25 p0), (7, I (lenL p0)), (8, I z0.2)] [(40, .box [I x1.f0, I x1.f1, I x1.f2, I x1.f3] false)] 21) ?_
    refine pN ?_
    refine pS ?_
    refine gR 5 (rg Tryz.f59 5) ?_
    refine se (mkE [(3, I (addI .i64 z0.1 (mulI .i64 x1.f2 x1.f3))), (6, LL a25 p0), (7, I (lenL p0)), (8, I z0.2)] [] 21) ?_
    refine pB ?_
    refine pN ?_
    refine pS ?_
    refine gR 6 (rg Tryz.f59 6) ?_
    refine se (mkE [(3, I (addI .i64 z0.1 (mulI .i64 x1.f2 x1.f3))), (6, LL a25 p0), (7, I (lenL p0)), (8, I (addI .i64 z0.2 1))] [] 21) ?_
    exact pL
  · refine gX 0 ?_
    exact pL
noncomputable def T59 (p0 : (List S25)) : Option Int := ((iter (L59_3 p0) (0, 0)).bind fun y2 => (some y2.1))
theorem B59 (C : Callee) (p0 : (List S25)) : runs Tryz.prog C (cfg.fn 59) (finFn Tryz.prog (cfg.fn 59).byval Tryz.f59) [] (execA Tryz.prog C (cfg.fn 59) (nr Tryz.f59 []) (frame0 [LL a25 p0] 21 false)) = (T59 p0).map I := by
  unfold T59
  refine gS 1 ?_
  refine gR 0 (rg Tryz.f59 0) ?_
  refine se (mkE [(0, LL a25 p0)] [] 21) ?_
  refine pN ?_
  refine pS ?_
  refine gS 2 ?_
  refine gR 1 (rg Tryz.f59 1) ?_
  refine se (mkE [(0, LL a25 p0), (3, I 0)] [] 21) ?_
  refine pN ?_
  refine pS ?_
  refine gS 7 ?_
  refine gS 3 ?_
  refine gR 2 (rg Tryz.f59 2) ?_
  refine sg 1 (mkE [(6, LL a25 p0), (0, LL a25 p0), (3, I 0)] [] 21) ?_
  refine eo 7 (I (lenL p0)) (lenE 42 a25 p0) ?_
  refine se (mkE [(3, I 0), (6, LL a25 p0), (7, I (lenL p0)), (8, I 0)] [] 21) ?_
  refine pN ?_
  refine pS ?_
  refine gB 0 ?_
  refine lo [(3, none), (6, none), (7, none), (8, none)] [] (L59_3 p0) (fun z0 : (Int × Int) => (mkE [(3, I z0.1), (6, LL a25 p0), (7, I (lenL p0)), (8, I z0.2)] [] 21)) (fun (x : (Int × Int × Bool)) => (.exit 0, (mkE [(3, I x.1), (6, LL a25 p0), (7, I (lenL p0)), (8, I x.2.1), (9, B x.2.2)] [] 21))) (0, 0) (fun z => L59_3_ok C p0 z) ?_
  intro y2
  refine pH ?_
  refine pN ?_
  refine pS ?_
  refine gS 0 ?_
  refine gR 7 (rg Tryz.f59 7) ?_
  refine se (mkE [(2, I y2.1)] [] 21) ?_
  refine pN ?_
  refine pS ?_
  refine gE ?_
  exact pL
theorem F59 (m : Nat) (hm : 1 ≤ m) (p0 : (List S25)) : callA Tryz.prog cfg m 59 [LL a25 p0] = (T59 p0).map I := by
  obtain ⟨q, rfl⟩ : ∃ q, m = q + 1 := ⟨m - 1, by omega⟩
  exact (callA_body (fn := Tryz.f59) (c := body_ Tryz.f59) q _ (by kernel_rfl) (by kernel_rfl) (by kernel_rfl)).trans (B59 _ p0)

noncomputable def L30_6 (p0 : S23) (x1 : ((List S75) × Int)) (z0 : ((List S25) × (List S75) × Int)) : Option (((List S25) × (List S75) × Int) ⊕ (Int × Bool × (List S25) × (List S75))) := (bif (ltI z0.2.2 (lenL x1.1)) then ((idxO (List.length z0.2.1) z0.2.2).bind fun x2 => ((getN z0.2.1 x2).bind fun x3 => ((appO 32 z0.1 ([x3.f1] : List S25)).bind fun x4 => (some (.inl (x4, z0.2.1, (addI .i64 z0.2.2 1))))))) else (some (.inr (z0.2.2, (ltI z0.2.2 (lenL x1.1)), z0.1, z0.2.1))))
theorem L30_6_ok (C : Callee) (p0 : S23) (x1 : ((List S75) × Int)) (z0 : ((List S25) × (List S75) × Int)) : runs Tryz.prog C (cfg.fn 30) (finLoop ((cfg.fn 30).keep 6) ((cfg.fn 30).al 6)) [] (execA Tryz.prog C (cfg.fn 30) (nr Tryz.f30 [false, false, true, false, true, true, true, true]) ((fun z0 : ((List S25) × (List S75) × Int) => (mkE [(2, .ba 16 0), (8, .own 64 0), (20, .own 160 0), (21, I (lenL x1.1)), (22, I z0.2.2)] [(16, .box [S p0.f0, I p0.f1, I p0.f2, LL a37 p0.f3] false), (64, RR 26 4 a25 z0.1 0 false), (160, RR 76 5 a75 z0.2.1 0 false)] 37)) z0)) = (L30_6 p0 x1 z0).map (Sum.elim (fun z => .inl ((fun z0 : ((List S25) × (List S75) × Int) => (mkE [(2, .ba 16 0), (8, .own 64 0), (20, .own 160 0), (21, I (lenL x1.1)), (22, I z0.2.2)] [(16, .box [S p0.f0, I p0.f1, I p0.f2, LL a37 p0.f3] false), (64, RR 26 4 a25 z0.1 0 false), (160, RR 76 5 a75 z0.2.1 0 false)] 37)) z)) (fun x => .inr ((fun (x : (Int × Bool × (List S25) × (List S75))) => (.exit 0, (mkE [(2, .ba 16 0), (8, .own 64 0), (20, .own 160 0), (21, I (lenL x1.1)), (22, I x.1), (23, B x.2.1)] [(16, .box [S p0.f0, I p0.f1, I p0.f2, LL a37 p0.f3] false), (64, RR 26 4 a25 x.2.2.1 0 false), (160, RR 76 5 a75 x.2.2.2 0 false)] 37))) x))) := by
  unfold L30_6
  let s_0 : List (Nat × AV) := [(20, .own 160 0), (21, I (lenL x1.1)), (22, I z0.2.2)]
  let o_0 : List (Nat × AObj) := [(16, .box [S p0.f0, I p0.f1, I p0.f2, LL a37 p0.f3] false)]
  refine gS 0 ?_
  refine gR 6 (rg Tryz.f30 6) ?_
  refine se (mkE ((2, .ba 16 0) :: ((8, .own 64 0) :: (s_0.append [(23, B (ltI z0.2.2 (lenL x1.1)))]))) (o_0.append ((64, RR 26 4 a25 z0.1 0 false) :: [(160, RR 76 5 a75 z0.2.1 0 false)])) 37) ?_
  refine pN ?_
  refine pS ?_
  refine gS 7 ?_
  refine gC 23 (ltI z0.2.2 (lenL x1.1)) ?_ ?_
  · refine gK ?_
    refine pN ?_
    refine pS ?_
    refine gS 9 ?_
    refine gB 1 ?_
    refine gS 8 ?_
    refine gR 7 (rg Tryz.f30 7) ?_
    refine vo 24 (addrOE 72 76 5 160 0 false a75 .i64 z0.2.1 z0.2.2) (fun x2 => ?_)
    refine vo 25 (loadOE 76 160 0 x2 0 76 5 5 true false a75 (fun q : S75 => a75 q) z0.2.1) (fun x3 => ?_)
    refine se (mkE ((2, .ba 16 0) :: ((8, .own 64 0) :: ((10, .ba 80 0) :: s_0))) (o_0.append ((64, RR 26 4 a25 z0.1 0 false) :: ((80, .box [S x3.f0, I x3.f1.f0, I x3.f1.f1, I x3.f1.f2, I x3.f1.f3] false) :: [(160, RR 76 5 a75 z0.2.1 0 false)]))) 37) ?_
    refine pN ?_
    refine pS ?_
    refine gR 8 (rg Tryz.f30 8) ?_
    refine sg 4 (mkE ((29, .own 232 0) :: ((28, a25 x3.f1) :: ((27, .ba 80 1) :: ((26, .own 64 0) :: ((2, .ba 16 0) :: ((8, .own 64 0) :: ((10, .ba 80 0) :: s_0))))))) ((232, RR 26 4 a25 ([x3.f1] : List S25) 0 false) :: (o_0.append ((64, RR 26 4 a25 z0.1 0 false) :: ((80, .box [S x3.f0, I x3.f1.f0, I x3.f1.f1, I x3.f1.f2, I x3.f1.f3] false) :: [(160, RR 76 5 a75 z0.2.1 0 false)])))) 37) ?_
    refine mo (some 30) (apO 42 26 4 32 64 a25 0 [232] (y := .own 232 0) (l2 := ([x3.f1] : List S25))) (fun x4 => ?_)
    refine se (mkE ((2, .ba 16 0) :: ((8, .own 64 1) :: s_0)) (o_0.append ((64, RR 26 4 a25 x4 1 false) :: [(160, RR 76 5 a75 z0.2.1 0 false)])) 37) ?_
    refine pB ?_
    refine pN ?_
    refine pS ?_
    refine gR 9 (rg Tryz.f30 9) ?_
    refine se (mkE [(2, .ba 16 0), (8, .own 64 1), (20, .own 160 0), (21, I (lenL x1.1)), (22, I (addI .i64 z0.2.2 1))] (o_0.append ((64, RR 26 4 a25 x4 1 false) :: [(160, RR 76 5 a75 z0.2.1 0 false)])) 37) ?_
    exact pL
  · refine gX 0 ?_
    exact pL
noncomputable def T30 (p0 : S23) (p1 : S31) : Option (Int × Int) := ((T58 p0 p1).bind fun x1 => (bif (neI x1.2 0) then (some (0, x1.2)) else ((iter (L30_6 p0 x1) ([], x1.1, 0)).bind fun y5 => ((T42 p0).bind fun x6 => ((T41 y5.2.2.1 x6).bind fun x7 => ((T59 x7).bind fun x8 => (some (x8, 0))))))))
theorem B30 (C : Callee) (h41 : ∀ (p0 : (List S25)) (p1 : (List S25)), C 41 [LL a25 p0, LL a25 p1] = (T41 p0 p1).map (fun l => AV.fr 26 4 (List.map a25 l))) (h42 : ∀ (p0 : S23), C 42 [a23 p0] = (T42 p0).map (fun l => AV.fr 26 4 (List.map a25 l))) (h58 : ∀ (p0 : S23) (p1 : S31), C 58 [a23 p0, a31 p1] = (T58 p0 p1).map (fun r => AV.tup [(fun l => AV.fr 76 5 (List.map a75 l)) r.1, I r.2])) (h59 : ∀ (p0 : (List S25)), C 59 [LL a25 p0] = (T59 p0).map I) (p0 : S23) (p1 : S31) : runs Tryz.prog C (cfg.fn 30) (finFn Tryz.prog (cfg.fn 30).byval Tryz.f30) [] (execA Tryz.prog C (cfg.fn 30) (nr Tryz.f30 []) (frame0 [a23 p0, a31 p1] 37 false)) = (T30 p0 p1).map (fun r => AV.tup [I r.1, I r.2]) := by
  unfold T30
  let o_0 : List (Nat × AObj) := [(16, .box [S p0.f0, I p0.f1, I p0.f2, LL a37 p0.f3] false)]
  refine gS 1 ?_
  refine gR 0 (rg Tryz.f30 0) ?_
  refine se (mkE [(2, .ba 16 0), (3, .ba 24 0)] (o_0.append [(24, .box [S p1.f0, I p1.f1, I p1.f2, LL a64 p1.f3] false)]) 37) ?_
  refine pN ?_
  refine pS ?_
  refine gS 2 ?_
  refine gR 1 (rg Tryz.f30 1) ?_
  refine sg 2 (mkE [(13, a31 p1), (12, a23 p0), (2, .ba 16 0), (3, .ba 24 0)] (o_0.append [(24, .box [S p1.f0, I p1.f1, I p1.f2, LL a64 p1.f3] false)]) 37) ?_
  refine co 14 [] (h58 p0 p1) (fun x1 => ?_)
  refine se (mkE [(2, .ba 16 0), (6, .own 112 0), (7, I x1.2)] (o_0.append [(112, RR 76 5 a75 x1.1 0 false)]) 37) ?_
  refine pN ?_
  refine pS ?_
  refine gS 4 ?_
  refine gS 0 ?_
  refine gR 2 (rg Tryz.f30 2) ?_
  refine se (mkE [(2, .ba 16 0), (6, .own 112 0), (7, I x1.2), (18, B (neI x1.2 0))] (o_0.append [(112, RR 76 5 a75 x1.1 0 false)]) 37) ?_
  refine pN ?_
  refine pS ?_
  refine gC 18 (neI x1.2 0) ?_ ?_
  · refine gS 0 ?_
    refine gR 3 (rg Tryz.f30 3) ?_
    refine se (mkE [(4, I 0), (5, I x1.2)] [] 37) ?_
    refine pN ?_
    refine pS ?_
    refine gE ?_
    exact pL
  · refine gK ?_
    refine pN ?_
    refine pS ?_
    refine gS 5 ?_
    refine gR 4 (rg Tryz.f30 4) ?_
    refine se (mkE [(2, .ba 16 0), (6, .own 112 0), (8, .nils)] (o_0.append [(112, RR 76 5 a75 x1.1 0 false)]) 37) ?_
    refine pN ?_
    refine pS ?_
    refine gS 10 ?_
    refine gS 6 ?_
    refine gR 5 (rg Tryz.f30 5) ?_
    refine sg 1 (mkE [(20, .own 112 0), (2, .ba 16 0), (6, .own 112 0), (8, .nils)] (o_0.append [(112, RR 76 5 a75 x1.1 0 false)]) 37) ?_
    refine eo 21 (I (lenL x1.1)) (lenOE 72 76 5 a75 x1.1) ?_
    refine se (mkE [(2, .ba 16 0), (8, .nils), (20, .own 112 0), (21, I (lenL x1.1)), (22, I 0)] (o_0.append [(112, RR 76 5 a75 x1.1 0 false)]) 37) ?_
    refine pN ?_
    refine pS ?_
    refine gB 0 ?_
    refine lo [(2, none), (8, some (26, 4)), (20, some (76, 5)), (21, none), (22, none)] [] (L30_6 p0 x1) (fun z0 : ((List S25) × (List S75) × Int) => (mkE [(2, .ba 16 0), (8, .own 64 0), (20, .own 160 0), (21, I (lenL x1.1)), (22, I z0.2.2)] (o_0.append ((64, RR 26 4 a25 z0.1 0 false) :: [(160, RR 76 5 a75 z0.2.1 0 false)])) 37)) (fun (x : (Int × Bool × (List S25) × (List S75))) => (.exit 0, (mkE [(2, .ba 16 0), (8, .own 64 0), (20, .own 160 0), (21, I (lenL x1.1)), (22, I x.1), (23, B x.2.1)] (o_0.append ((64, RR 26 4 a25 x.2.2.1 0 false) :: [(160, RR 76 5 a75 x.2.2.2 0 false)])) 37))) ([], x1.1, 0) (fun z => L30_6_ok C p0 x1 z) ?_
    intro y5
    refine pH ?_
    refine pN ?_
    refine pS ?_
    refine gS 0 ?_
    refine gR 10 (rg Tryz.f30 10) ?_
    refine sg 2 (mkE [(33, a23 p0), (32, .own 64 0), (2, .ba 16 0), (8, .own 64 0), (20, .own 160 0), (21, I (lenL x1.1)), (22, I y5.1), (23, B y5.2.1)] (o_0.append ((64, RR 26 4 a25 y5.2.2.1 0 false) :: [(160, RR 76 5 a75 y5.2.2.2 0 false)])) 37) ?_
    refine co 34 [] (h42 p0) (fun x6 => ?_)
    refine co 35 [64, 272] (h41 y5.2.2.1 x6) (fun x7 => ?_)
    refine co 36 [280] (h59 x7) (fun x8 => ?_)
    refine se (mkE [(4, I x8), (5, I 0)] [] 37) ?_
    refine pN ?_
    refine pS ?_
    refine gE ?_
    exact pL
theorem F30 (m : Nat) (hm : 8 ≤ m) (p0 : S23) (p1 : S31) : callA Tryz.prog cfg m 30 [a23 p0, a31 p1] = (T30 p0 p1).map (fun r => AV.tup [I r.1, I r.2]) := by
  obtain ⟨q, rfl⟩ : ∃ q, m = q + 1 := ⟨m - 1, by omega⟩
  exact (callA_body (fn := Tryz.f30) (c := body_ Tryz.f30) q _ (by kernel_rfl) (by kernel_rfl) (by kernel_rfl)).trans (B30 _ (fun p0 p1 => F41 q (by omega) p0 p1) (fun p0 => F42 q (by omega) p0) (fun p0 p1 => F58 q (by omega) p0 p1) (fun p0 => F59 q (by omega) p0) p0 p1)

noncomputable def T53 (p0 : Int) (p1 : Int) (p2 : Int) : Option Bool := (bif (leI p1 p0) then (some (leI p0 p2)) else (some false))
theorem B53 (C : Callee) (p0 : Int) (p1 : Int) (p2 : Int) : runs Tryz.prog C (cfg.fn 53) (finFn Tryz.prog (cfg.fn 53).byval Tryz.f53) [] (execA Tryz.prog C (cfg.fn 53) (nr Tryz.f53 []) (frame0 [I p0, I p1, I p2] 15 false)) = (T53 p0 p1 p2).map B := by
  unfold T53
  refine gS 1 ?_
  refine gR 0 (rg Tryz.f53 0) ?_
  refine se (mkE [(0, I p0), (1, I p1), (2, I p2)] [] 15) ?_
  refine pN ?_
  refine pS ?_
  refine gS 0 ?_
  refine gR 1 (rg Tryz.f53 1) ?_
  refine sg 4 (mkE [(10, B (leI p1 p0)), (9, B (leI p1 p0)), (8, I p0), (7, I p1), (0, I p0), (1, I p1), (2, I p2)] [] 15) ?_
  refine sb 10 (leI p1 p0) ?_ ?_
  · refine se (mkE [(6, B (leI p0 p2))] [] 15) ?_
    refine pN ?_
    refine pS ?_
    refine gE ?_
    exact pL
  · refine se (mkE [(6, B false)] [] 15) ?_
    refine pN ?_
    refine pS ?_
    refine gE ?_
    exact pL
theorem F53 (m : Nat) (hm : 1 ≤ m) (p0 : Int) (p1 : Int) (p2 : Int) : callA Tryz.prog cfg m 53 [I p0, I p1, I p2] = (T53 p0 p1 p2).map B := by
  obtain ⟨q, rfl⟩ : ∃ q, m = q + 1 := ⟨m - 1, by omega⟩
  exact (callA_body (fn := Tryz.f53) (c := body_ Tryz.f53) q _ (by kernel_rfl) (by kernel_rfl) (by kernel_rfl)).trans (B53 _ p0 p1 p2)

theorem F105 (m : Nat) (hm : 1 ≤ m) (p0 : ByteArray) (p1 : Int) : callA Tryz.prog cfg m 105 [S p0, U p1] = (some (idxB p0 p1)).map I := by
  obtain ⟨q, rfl⟩ : ∃ q, m = q + 1 := ⟨m - 1, by omega⟩
  exact (callA_leaf (L := leafIdx) _ _ (by kernel_rfl)).trans (rfl)

noncomputable def T89 (p0 : ByteArray) (p1 : Int) : Option Int := ((some (idxB p0 p1)).bind fun x1 => (some x1))
theorem B89 (C : Callee) (h105 : ∀ (p0 : ByteArray) (p1 : Int), C 105 [S p0, U p1] = (some (idxB p0 p1)).map I) (p0 : ByteArray) (p1 : Int) : runs Tryz.prog C (cfg.fn 89) (finFn Tryz.prog (cfg.fn 89).byval Tryz.f89) [] (execA Tryz.prog C (cfg.fn 89) (nr Tryz.f89 []) (frame0 [S p0, U p1] 8 false)) = (T89 p0 p1).map I := by
  unfold T89
  refine gS 1 ?_
  refine gR 0 (rg Tryz.f89 0) ?_
  refine se (mkE [(0, S p0), (1, U p1)] [] 8) ?_
  refine pN ?_
  refine pS ?_
  refine gS 0 ?_
  refine gR 1 (rg Tryz.f89 1) ?_
  refine sg 2 (mkE [(6, U p1), (5, S p0), (0, S p0), (1, U p1)] [] 8) ?_
  refine co 7 [] (h105 p0 p1) (fun x1 => ?_)
  refine se (mkE [(4, I x1)] [] 8) ?_
  refine pN ?_
  refine pS ?_
  refine gE ?_
  exact pL
theorem F89 (m : Nat) (hm : 2 ≤ m) (p0 : ByteArray) (p1 : Int) : callA Tryz.prog cfg m 89 [S p0, U p1] = (T89 p0 p1).map I := by
  obtain ⟨q, rfl⟩ : ∃ q, m = q + 1 := ⟨m - 1, by omega⟩
  exact (callA_body (fn := Tryz.f89) (c := body_ Tryz.f89) q _ (by kernel_rfl) (by kernel_rfl) (by kernel_rfl)).trans (B89 _ (fun p0 p1 => F105 q (by omega) p0 p1) p0 p1)

noncomputable def L71_2 (p0 : ByteArray) (p1 : ByteArray) (z0 : Int) : Option (Int ⊕ ((Int × Bool) ⊕ Unit)) := (bif (ltI z0 (lenS p0)) then ((byteAt p0 z0).bind fun x1 => ((T89 p1 x1).bind fun x2 => (bif (ltI x2 0) then (some (.inr (.inr ()))) else (some (.inl (addI .i64 z0 1)))))) else (some (.inr (.inl (z0, (ltI z0 (lenS p0)))))))
theorem L71_2_ok (C : Callee) (h89 : ∀ (p0 : ByteArray) (p1 : Int), C 89 [S p0, U p1] = (T89 p0 p1).map I) (p0 : ByteArray) (p1 : ByteArray) (z0 : Int) : runs Tryz.prog C (cfg.fn 71) (finLoop ((cfg.fn 71).keep 2) ((cfg.fn 71).al 2)) [] (execA Tryz.prog C (cfg.fn 71) (nr Tryz.f71 [false, false, true, false, true]) ((fun z0 : Int => (mkE [(0, S p0), (1, S p1), (7, I (lenS p0)), (8, I z0)] [] 18)) z0)) = (L71_2 p0 p1 z0).map (Sum.elim (fun z => .inl ((fun z0 : Int => (mkE [(0, S p0), (1, S p1), (7, I (lenS p0)), (8, I z0)] [] 18)) z)) (fun x => .inr ((Sum.elim (fun (x : (Int × Bool)) => (.exit 0, (mkE [(0, S p0), (1, S p1), (7, I (lenS p0)), (8, I x.1), (9, B x.2)] [] 18))) (fun (x : Unit) => (.ret, (mkE [(4, B false)] [] 18)))) x))) := by
  unfold L71_2
  refine gS 0 ?_
  refine gR 2 (rg Tryz.f71 2) ?_
  refine se (mkE [(0, S p0), (1, S p1), (7, I (lenS p0)), (8, I z0), (9, B (ltI z0 (lenS p0)))] [] 18) ?_
  refine pN ?_
  refine pS ?_
  refine gS 3 ?_
  refine gC 9 (ltI z0 (lenS p0)) ?_ ?_
  · refine gK ?_
    refine pN ?_
    refine pS ?_
    refine gS 6 ?_
    refine gB 1 ?_
    refine gS 4 ?_
    refine gR 3 (rg Tryz.f71 3) ?_
    refine se (mkE [(0, S p0), (1, S p1), (5, I z0), (7, I (lenS p0)), (8, I z0)] [] 18) ?_
    refine pN ?_
    refine pS ?_
    refine gS 0 ?_
    refine gR 4 (rg Tryz.f71 4) ?_
    refine sg 3 (mkE [(13, I z0), (12, S p0), (11, S p1), (0, S p0), (1, S p1), (5, I z0), (7, I (lenS p0)), (8, I z0)] [] 18) ?_
    refine vo 14 (byteE 9 .i64 p0 z0) (fun x1 => ?_)
    refine co 15 [] (h89 p1 x1) (fun x2 => ?_)
    refine se (mkE [(0, S p0), (1, S p1), (7, I (lenS p0)), (8, I z0), (16, B (ltI x2 0))] [] 18) ?_
    refine pN ?_
    refine pS ?_
    refine gC 16 (ltI x2 0) ?_ ?_
    · refine gS 0 ?_
      refine gR 5 (rg Tryz.f71 5) ?_
      refine se (mkE [(4, B false)] [] 18) ?_
      refine pN ?_
      refine pS ?_
      refine gE ?_
      exact pL
    · refine gK ?_
      refine pB ?_
      refine pN ?_
      refine pS ?_
      refine gR 6 (rg Tryz.f71 6) ?_
      refine se (mkE [(0, S p0), (1, S p1), (7, I (lenS p0)), (8, I (addI .i64 z0 1))] [] 18) ?_
      exact pL
  · refine gX 0 ?_
    exact pL
noncomputable def T71 (p0 : ByteArray) (p1 : ByteArray) : Option Bool := ((iter (L71_2 p0 p1) 0).bind fun y3 => (Sum.elim (fun y3a => (some true)) (fun y3b => (some false)) y3))
theorem B71 (C : Callee) (h89 : ∀ (p0 : ByteArray) (p1 : Int), C 89 [S p0, U p1] = (T89 p0 p1).map I) (p0 : ByteArray) (p1 : ByteArray) : runs Tryz.prog C (cfg.fn 71) (finFn Tryz.prog (cfg.fn 71).byval Tryz.f71) [] (execA Tryz.prog C (cfg.fn 71) (nr Tryz.f71 []) (frame0 [S p0, S p1] 18 false)) = (T71 p0 p1).map B := by
  unfold T71
  refine gS 1 ?_
  refine gR 0 (rg Tryz.f71 0) ?_
  refine se (mkE [(0, S p0), (1, S p1)] [] 18) ?_
  refine pN ?_
  refine pS ?_
  refine gS 7 ?_
  refine gS 2 ?_
  refine gR 1 (rg Tryz.f71 1) ?_
  refine se (mkE [(0, S p0), (1, S p1), (7, I (lenS p0)), (8, I 0)] [] 18) ?_
  refine pN ?_
  refine pS ?_
  refine gB 0 ?_
  refine lo [(0, none), (1, none), (7, none), (8, none)] [] (L71_2 p0 p1) (fun z0 : Int => (mkE [(0, S p0), (1, S p1), (7, I (lenS p0)), (8, I z0)] [] 18)) (Sum.elim (fun (x : (Int × Bool)) => (.exit 0, (mkE [(0, S p0), (1, S p1), (7, I (lenS p0)), (8, I x.1), (9, B x.2)] [] 18))) (fun (x : Unit) => (.ret, (mkE [(4, B false)] [] 18)))) 0 (fun z => L71_2_ok C h89 p0 p1 z) ?_
  intro y3
  refine ss y3 (Z := (Sum.elim (fun (x : (Int × Bool)) => (.exit 0, (mkE [(0, S p0), (1, S p1), (7, I (lenS p0)), (8, I x.1), (9, B x.2)] [] 18))) (fun (x : Unit) => (.ret, (mkE [(4, B false)] [] 18))))) (fun y3a => ?_) (fun y3b => ?_)
  · refine pH ?_
    refine pN ?_
    refine pS ?_
    refine gS 0 ?_
    refine gR 7 (rg Tryz.f71 7) ?_
    refine se (mkE [(4, B true)] [] 18) ?_
    refine pN ?_
    refine pS ?_
    refine gE ?_
    exact pL
  · exact pL
theorem F71 (m : Nat) (hm : 3 ≤ m) (p0 : ByteArray) (p1 : ByteArray) : callA Tryz.prog cfg m 71 [S p0, S p1] = (T71 p0 p1).map B := by
  obtain ⟨q, rfl⟩ : ∃ q, m = q + 1 := ⟨m - 1, by omega⟩
  exact (callA_body (fn := Tryz.f71) (c := body_ Tryz.f71) q _ (by kernel_rfl) (by kernel_rfl) (by kernel_rfl)).trans (B71 _ (fun p0 p1 => F89 q (by omega) p0 p1) p0 p1)

noncomputable def T46 (p0 : ByteArray) : Option Bool := ((T53 (lenS p0) 1 40).bind fun x1 => (bif x1 then ((cutS p0 none (some 1)).bind fun x2 => ((T71 x2 (ByteArray.mk #[97, 98, 99, 100, 101, 102, 103, 104, 105, 106, 107, 108, 109, 110, 111, 112, 113, 114, 115, 116, 117, 118, 119, 120, 121, 122])).bind fun x3 => (bif x3 then ((T71 p0 (ByteArray.mk #[97, 98, 99, 100, 101, 102, 103, 104, 105, 106, 107, 108, 109, 110, 111, 112, 113, 114, 115, 116, 117, 118, 119, 120, 121, 122, 48, 49, 50, 51, 52, 53, 54, 55, 56, 57, 45, 95])).bind fun x4 => (some x4)) else (some false)))) else (some false)))
theorem B46 (C : Callee) (h53 : ∀ (p0 : Int) (p1 : Int) (p2 : Int), C 53 [I p0, I p1, I p2] = (T53 p0 p1 p2).map B) (h71 : ∀ (p0 : ByteArray) (p1 : ByteArray), C 71 [S p0, S p1] = (T71 p0 p1).map B) (p0 : ByteArray) : runs Tryz.prog C (cfg.fn 46) (finFn Tryz.prog (cfg.fn 46).byval Tryz.f46) [] (execA Tryz.prog C (cfg.fn 46) (nr Tryz.f46 []) (frame0 [S p0] 15 false)) = (T46 p0).map B := by
  unfold T46
  let s_0 : List (Nat × AV) := [(4, I (lenS p0)), (3, S p0), (0, S p0)]
  refine gS 1 ?_
  refine gR 0 (rg Tryz.f46 0) ?_
  refine se (mkE [(0, S p0)] [] 15) ?_
  refine pN ?_
  refine pS ?_
  refine gS 0 ?_
  refine gR 1 (rg Tryz.f46 1) ?_
  refine sg 2 (mkE s_0 [] 15) ?_
  refine co 5 [] (h53 (lenS p0) 1 40) (fun x1 => ?_)
  refine sg 4 (mkE ((6, B x1) :: ((5, B x1) :: s_0)) [] 15) ?_
  refine sb 6 x1 ?_ ?_
  · refine sg 5 (mkE ((7, S p0) :: ((6, B true) :: ((6, B x1) :: ((5, B x1) :: s_0)))) [] 15) ?_
    refine vo 8 (cutSE 9 .i64 .i64 p0 none (some 1)) (fun x2 => ?_)
    refine co 9 [] (h71 x2 (ByteArray.mk #[97, 98, 99, 100, 101, 102, 103, 104, 105, 106, 107, 108, 109, 110, 111, 112, 113, 114, 115, 116, 117, 118, 119, 120, 121, 122])) (fun x3 => ?_)
    refine sg 9 (mkE ((11, B x3) :: ((10, B x3) :: ((9, B x3) :: ((8, S x2) :: ((7, S p0) :: ((6, B true) :: ((6, B x1) :: ((5, B x1) :: s_0)))))))) [] 15) ?_
    refine sb 11 x3 ?_ ?_
    · refine sg 10 (mkE ((12, S p0) :: ((11, B true) :: ((11, B x3) :: ((10, B x3) :: ((9, B x3) :: ((8, S x2) :: ((7, S p0) :: ((6, B true) :: ((6, B x1) :: ((5, B x1) :: s_0)))))))))) [] 15) ?_
      refine co 13 [] (h71 p0 (ByteArray.mk #[97, 98, 99, 100, 101, 102, 103, 104, 105, 106, 107, 108, 109, 110, 111, 112, 113, 114, 115, 116, 117, 118, 119, 120, 121, 122, 48, 49, 50, 51, 52, 53, 54, 55, 56, 57, 45, 95])) (fun x4 => ?_)
      refine se (mkE [(2, B x4)] [] 15) ?_
      refine pN ?_
      refine pS ?_
      refine gE ?_
      exact pL
    · refine se (mkE [(2, B false)] [] 15) ?_
      refine pN ?_
      refine pS ?_
      refine gE ?_
      exact pL
  · refine se (mkE [(2, B false)] [] 15) ?_
    refine pN ?_
    refine pS ?_
    refine gE ?_
    exact pL
theorem F46 (m : Nat) (hm : 4 ≤ m) (p0 : ByteArray) : callA Tryz.prog cfg m 46 [S p0] = (T46 p0).map B := by
  obtain ⟨q, rfl⟩ : ∃ q, m = q + 1 := ⟨m - 1, by omega⟩
  exact (callA_body (fn := Tryz.f46) (c := body_ Tryz.f46) q _ (by kernel_rfl) (by kernel_rfl) (by kernel_rfl)).trans (B46 _ (fun p0 p1 p2 => F53 q (by omega) p0 p1 p2) (fun p0 p1 => F71 q (by omega) p0 p1) p0)

noncomputable def T47 (p0 : Int) : Option Bool := ((T53 p0 1 20000).bind fun x1 => (some x1))
theorem B47 (C : Callee) (h53 : ∀ (p0 : Int) (p1 : Int) (p2 : Int), C 53 [I p0, I p1, I p2] = (T53 p0 p1 p2).map B) (p0 : Int) : runs Tryz.prog C (cfg.fn 47) (finFn Tryz.prog (cfg.fn 47).byval Tryz.f47) [] (execA Tryz.prog C (cfg.fn 47) (nr Tryz.f47 []) (frame0 [I p0] 5 false)) = (T47 p0).map B := by
  unfold T47
  refine gS 1 ?_
  refine gR 0 (rg Tryz.f47 0) ?_
  refine se (mkE [(0, I p0)] [] 5) ?_
  refine pN ?_
  refine pS ?_
  refine gS 0 ?_
  refine gR 1 (rg Tryz.f47 1) ?_
  refine sg 1 (mkE [(3, I p0), (0, I p0)] [] 5) ?_
  refine co 4 [] (h53 p0 1 20000) (fun x1 => ?_)
  refine se (mkE [(2, B x1)] [] 5) ?_
  refine pN ?_
  refine pS ?_
  refine gE ?_
  exact pL
theorem F47 (m : Nat) (hm : 2 ≤ m) (p0 : Int) : callA Tryz.prog cfg m 47 [I p0] = (T47 p0).map B := by
  obtain ⟨q, rfl⟩ : ∃ q, m = q + 1 := ⟨m - 1, by omega⟩
  exact (callA_body (fn := Tryz.f47) (c := body_ Tryz.f47) q _ (by kernel_rfl) (by kernel_rfl) (by kernel_rfl)).trans (B47 _ (fun p0 p1 p2 => F53 q (by omega) p0 p1 p2) p0)

noncomputable def T19 (p0 : S25) : Option Int := ((T53 p0.f0 (-100000) 100000).bind fun x1 => (bif (!x1) then (some 1) else ((T53 p0.f1 (-100000) 100000).bind fun x2 => (bif (!x2) then (some 1) else ((T53 p0.f2 1 (subI .i64 100000 p0.f0)).bind fun x3 => (bif (!x3) then (some 1) else ((T53 p0.f3 1 (subI .i64 100000 p0.f1)).bind fun x4 => (bif (!x4) then (some 1) else (some 0)))))))))
theorem B19 (C : Callee) (h53 : ∀ (p0 : Int) (p1 : Int) (p2 : Int), C 53 [I p0, I p1, I p2] = (T53 p0 p1 p2).map B) (p0 : S25) : runs Tryz.prog C (cfg.fn 19) (finFn Tryz.prog (cfg.fn 19).byval Tryz.f19) [] (execA Tryz.prog C (cfg.fn 19) (nr Tryz.f19 []) (frame0 [a25 p0] 31 false)) = (T19 p0).map I := by
  unfold T19
  let s_0 : List (Nat × AV) := [(18, I (subI .i64 100000 p0.f0)), (17, I p0.f0), (16, .ba 8 0), (15, I p0.f2), (14, .ba 8 2), (13, B false)]
  let s_1 : List (Nat × AV) := [(4, I p0.f0), (3, .ba 8 0), (1, .ba 8 0)]
  let s_2 : List (Nat × AV) := [(9, I p0.f1), (8, .ba 8 1), (7, B false)]
  let o_0 : List (Nat × AObj) := [(8, .box [I p0.f0, I p0.f1, I p0.f2, I p0.f3] false)]
  refine gS 1 ?_
  refine gR 0 (rg Tryz.f19 0) ?_
  refine se (mkE [(1, .ba 8 0)] o_0 31) ?_
  refine pN ?_
  refine pS ?_
  refine gS 3 ?_
  refine gS 0 ?_
  refine gR 1 (rg Tryz.f19 1) ?_
  refine sg 2 (mkE s_1 o_0 31) ?_
  refine co 5 [] (h53 p0.f0 (-100000) 100000) (fun x1 => ?_)
  refine sg 5 (mkE ((7, B (!x1)) :: ((6, B (!x1)) :: ((5, B x1) :: s_1))) o_0 31) ?_
  refine sb 7 (!x1) ?_ ?_
  · refine se (mkE [(30, B true)] [] 31) ?_
    refine pN ?_
    refine pS ?_
    refine gT (.tmp 30) ?_
    refine gS 0 ?_
    refine gR 2 (rg Tryz.f19 2) ?_
    refine se (mkE [(2, I 1)] [] 31) ?_
    refine pN ?_
    refine pS ?_
    refine gE ?_
    exact pL
  · refine sg 7 (mkE (s_2.append ((7, B (!x1)) :: ((6, B (!x1)) :: ((5, B x1) :: s_1)))) o_0 31) ?_
    refine co 10 [] (h53 p0.f1 (-100000) 100000) (fun x2 => ?_)
    refine sg 11 (mkE ((13, B (!x2)) :: ((12, B (!x2)) :: ((11, B (!x2)) :: ((10, B x2) :: (s_2.append ((7, B (!x1)) :: ((6, B (!x1)) :: ((5, B x1) :: s_1)))))))) o_0 31) ?_
    refine sb 13 (!x2) ?_ ?_
    · refine se (mkE [(30, B true)] [] 31) ?_
      refine pN ?_
      refine pS ?_
      refine gT (.tmp 30) ?_
      refine gS 0 ?_
      refine gR 2 (rg Tryz.f19 2) ?_
      refine se (mkE [(2, I 1)] [] 31) ?_
      refine pN ?_
      refine pS ?_
      refine gE ?_
      exact pL
    · refine sg 16 (mkE (s_0.append ((13, B (!x2)) :: ((12, B (!x2)) :: ((11, B (!x2)) :: ((10, B x2) :: (s_2.append ((7, B (!x1)) :: ((6, B (!x1)) :: ((5, B x1) :: s_1))))))))) o_0 31) ?_
      refine co 19 [] (h53 p0.f2 1 (subI .i64 100000 p0.f0)) (fun x3 => ?_)
      refine sg 20 (mkE ((22, B (!x3)) :: ((21, B (!x3)) :: ((20, B (!x3)) :: ((19, B x3) :: (s_0.append ((13, B (!x2)) :: ((12, B (!x2)) :: ((11, B (!x2)) :: ((10, B x2) :: (s_2.append ((7, B (!x1)) :: ((6, B (!x1)) :: ((5, B x1) :: s_1))))))))))))) o_0 31) ?_
      refine sb 22 (!x3) ?_ ?_
      · refine se (mkE [(30, B true)] [] 31) ?_
        refine pN ?_
        refine pS ?_
        refine gT (.tmp 30) ?_
        refine gS 0 ?_
        refine gR 2 (rg Tryz.f19 2) ?_
        refine se (mkE [(2, I 1)] [] 31) ?_
        refine pN ?_
        refine pS ?_
        refine gE ?_
        exact pL
      · refine sg 25 (mkE ((27, I (subI .i64 100000 p0.f1)) :: ((26, I p0.f1) :: ((25, .ba 8 1) :: ((24, I p0.f3) :: ((23, .ba 8 3) :: ((22, B false) :: ((22, B (!x3)) :: ((21, B (!x3)) :: ((20, B (!x3)) :: ((19, B x3) :: (s_0.append ((13, B (!x2)) :: ((12, B (!x2)) :: ((11, B (!x2)) :: ((10, B x2) :: (s_2.append ((7, B (!x1)) :: ((6, B (!x1)) :: ((5, B x1) :: s_1))))))))))))))))))) o_0 31) ?_
        refine co 28 [] (h53 p0.f3 1 (subI .i64 100000 p0.f1)) (fun x4 => ?_)
        refine se (mkE [(30, B (!x4))] [] 31) ?_
        refine pN ?_
        refine pS ?_
        refine gC 30 (!x4) ?_ ?_
        · refine gS 0 ?_
          refine gR 2 (rg Tryz.f19 2) ?_
          refine se (mkE [(2, I 1)] [] 31) ?_
          refine pN ?_
          refine pS ?_
          refine gE ?_
          exact pL
        · refine gK ?_
          refine pN ?_
          refine pS ?_
          refine gS 0 ?_
          refine gR 3 (rg Tryz.f19 3) ?_
          refine se (mkE [(2, I 0)] [] 31) ?_
          refine pN ?_
          refine pS ?_
          refine gE ?_
          exact pL
theorem F19 (m : Nat) (hm : 2 ≤ m) (p0 : S25) : callA Tryz.prog cfg m 19 [a25 p0] = (T19 p0).map I := by
  obtain ⟨q, rfl⟩ : ∃ q, m = q + 1 := ⟨m - 1, by omega⟩
  exact (callA_body (fn := Tryz.f19) (c := body_ Tryz.f19) q _ (by kernel_rfl) (by kernel_rfl) (by kernel_rfl)).trans (B19 _ (fun p0 p1 p2 => F53 q (by omega) p0 p1 p2) p0)

noncomputable def T48 (p0 : S25) (p1 : Int) (p2 : Int) : Option Bool := (bif (leI 0 p0.f0) then (bif (leI 0 p0.f1) then (bif (leI (addI .i64 p0.f0 p0.f2) p1) then (some (leI (addI .i64 p0.f1 p0.f3) p2)) else (some false)) else (some false)) else (some false))
theorem B48 (C : Callee) (p0 : S25) (p1 : Int) (p2 : Int) : runs Tryz.prog C (cfg.fn 48) (finFn Tryz.prog (cfg.fn 48).byval Tryz.f48) [] (execA Tryz.prog C (cfg.fn 48) (nr Tryz.f48 []) (frame0 [a25 p0, I p1, I p2] 33 false)) = (T48 p0 p1 p2).map B := by
  unfold T48
  let s_0 : List (Nat × AV) := [(15, B (leI 0 p0.f1)), (14, B (leI 0 p0.f1)), (13, B (leI 0 p0.f1)), (12, I p0.f1), (11, .ba 24 1), (10, B true), (10, B (leI 0 p0.f0)), (9, B (leI 0 p0.f0)), (8, I p0.f0), (7, .ba 24 0), (1, I p1), (2, I p2), (3, .ba 24 0)]
  let o_0 : List (Nat × AObj) := [(24, .box [I p0.f0, I p0.f1, I p0.f2, I p0.f3] false)]
  refine gS 1 ?_
  refine gR 0 (rg Tryz.f48 0) ?_
  refine se (mkE [(1, I p1), (2, I p2), (3, .ba 24 0)] o_0 33) ?_
  refine pN ?_
  refine pS ?_
  refine gS 0 ?_
  refine gR 1 (rg Tryz.f48 1) ?_
  refine sg 4 (mkE [(10, B (leI 0 p0.f0)), (9, B (leI 0 p0.f0)), (8, I p0.f0), (7, .ba 24 0), (1, I p1), (2, I p2), (3, .ba 24 0)] o_0 33) ?_
  refine sb 10 (leI 0 p0.f0) ?_ ?_
  · refine sg 9 (mkE s_0 o_0 33) ?_
    refine sb 15 (leI 0 p0.f1) ?_ ?_
    · refine sg 18 (mkE ((24, B (leI (addI .i64 p0.f0 p0.f2) p1)) :: ((23, B (leI (addI .i64 p0.f0 p0.f2) p1)) :: ((22, B (leI (addI .i64 p0.f0 p0.f2) p1)) :: ((21, I p1) :: ((20, I (addI .i64 p0.f0 p0.f2)) :: ((19, I p0.f2) :: ((18, .ba 24 2) :: ((17, I p0.f0) :: ((16, .ba 24 0) :: ((15, B true) :: s_0)))))))))) o_0 33) ?_
      refine sb 24 (leI (addI .i64 p0.f0 p0.f2) p1) ?_ ?_
      · refine se (mkE [(6, B (leI (addI .i64 p0.f1 p0.f3) p2))] [] 33) ?_
        refine pN ?_
        refine pS ?_
        refine gE ?_
        exact pL
      · refine se (mkE [(6, B false)] [] 33) ?_
        refine pN ?_
        refine pS ?_
        refine gE ?_
        exact pL
    · refine se (mkE [(6, B false)] [] 33) ?_
      refine pN ?_
      refine pS ?_
      refine gE ?_
      exact pL
  · refine se (mkE [(6, B false)] [] 33) ?_
    refine pN ?_
    refine pS ?_
    refine gE ?_
    exact pL
theorem F48 (m : Nat) (hm : 1 ≤ m) (p0 : S25) (p1 : Int) (p2 : Int) : callA Tryz.prog cfg m 48 [a25 p0, I p1, I p2] = (T48 p0 p1 p2).map B := by
  obtain ⟨q, rfl⟩ : ∃ q, m = q + 1 := ⟨m - 1, by omega⟩
  exact (callA_body (fn := Tryz.f48) (c := body_ Tryz.f48) q _ (by kernel_rfl) (by kernel_rfl) (by kernel_rfl)).trans (B48 _ p0 p1 p2)

noncomputable def T49 (p0 : S25) (p1 : S25) : Option (S25 × Bool) := (bif (leI (subI .i64 (minI (addI .i64 p0.f0 p0.f2) (addI .i64 p1.f0 p1.f2)) (maxI p0.f0 p1.f0)) 0) then (some ((S25.mk 0 0 0 0), false)) else (bif (leI (subI .i64 (minI (addI .i64 p0.f1 p0.f3) (addI .i64 p1.f1 p1.f3)) (maxI p0.f1 p1.f1)) 0) then (some ((S25.mk 0 0 0 0), false)) else (some ((S25.mk (maxI p0.f0 p1.f0) (maxI p0.f1 p1.f1) (subI .i64 (minI (addI .i64 p0.f0 p0.f2) (addI .i64 p1.f0 p1.f2)) (maxI p0.f0 p1.f0)) (subI .i64 (minI (addI .i64 p0.f1 p0.f3) (addI .i64 p1.f1 p1.f3)) (maxI p0.f1 p1.f1))), true))))
theorem B49 (C : Callee) (p0 : S25) (p1 : S25) : runs Tryz.prog C (cfg.fn 49) (finFn Tryz.prog (cfg.fn 49).byval Tryz.f49) [] (execA Tryz.prog C (cfg.fn 49) (nr Tryz.f49 []) (frame0 [a25 p0, a25 p1] 58 false)) = (T49 p0 p1).map (fun r => AV.tup [a25 r.1, B r.2]) := by
  unfold T49
  let s_0 : List (Nat × AV) := [(4, .ba 32 0), (6, I (maxI p0.f0 p1.f0)), (7, I (maxI p0.f1 p1.f1)), (8, I (subI .i64 (minI (addI .i64 p0.f0 p0.f2) (addI .i64 p1.f0 p1.f2)) (maxI p0.f0 p1.f0))), (9, I (subI .i64 (minI (addI .i64 p0.f1 p0.f3) (addI .i64 p1.f1 p1.f3)) (maxI p0.f1 p1.f1)))]
  let o_0 : List (Nat × AObj) := [(32, .box [I 0, I 0, I 0, I 0] false)]
  refine gS 1 ?_
  refine gR 0 (rg Tryz.f49 0) ?_
  refine se (mkE [(2, .ba 16 0), (3, .ba 24 0), (4, .ba 32 0)] ((16, .box [I p0.f0, I p0.f1, I p0.f2, I p0.f3] false) :: ((24, .box [I p1.f0, I p1.f1, I p1.f2, I p1.f3] false) :: o_0)) 58) ?_
  refine pN ?_
  refine pS ?_
  refine gS 2 ?_
  refine dq 1 (rg Tryz.f49 1) (mkE [(2, .ba 16 0), (3, .ba 24 0), (4, .ba 32 0), (6, I (maxI p0.f0 p1.f0)), (7, I (maxI p0.f1 p1.f1))] ((16, .box [I p0.f0, I p0.f1, I p0.f2, I p0.f3] false) :: ((24, .box [I p1.f0, I p1.f1, I p1.f2, I p1.f3] false) :: o_0)) 58) ?_
  refine pN ?_
  refine pS ?_
  refine gS 3 ?_
  refine dq 2 (rg Tryz.f49 2) (mkE s_0 o_0 58) ?_
  refine pN ?_
  refine pS ?_
  refine gS 5 ?_
  refine gS 0 ?_
  refine gR 3 (rg Tryz.f49 3) ?_
  refine sg 3 (mkE ((48, B (leI (subI .i64 (minI (addI .i64 p0.f0 p0.f2) (addI .i64 p1.f0 p1.f2)) (maxI p0.f0 p1.f0)) 0)) :: ((47, B (leI (subI .i64 (minI (addI .i64 p0.f0 p0.f2) (addI .i64 p1.f0 p1.f2)) (maxI p0.f0 p1.f0)) 0)) :: ((46, I (subI .i64 (minI (addI .i64 p0.f0 p0.f2) (addI .i64 p1.f0 p1.f2)) (maxI p0.f0 p1.f0))) :: s_0))) o_0 58) ?_
  refine sb 48 (leI (subI .i64 (minI (addI .i64 p0.f0 p0.f2) (addI .i64 p1.f0 p1.f2)) (maxI p0.f0 p1.f0)) 0) ?_ ?_
  · refine se (mkE (s_0.append [(51, B true)]) o_0 58) ?_
    refine pN ?_
    refine pS ?_
    refine gT (.tmp 51) ?_
    refine gS 0 ?_
    refine gR 4 (rg Tryz.f49 4) ?_
    refine se (mkE [(4, .ba 32 0), (5, B false)] o_0 58) ?_
    refine pN ?_
    refine pS ?_
    refine gE ?_
    exact pL
  · refine se (mkE (s_0.append [(51, B (leI (subI .i64 (minI (addI .i64 p0.f1 p0.f3) (addI .i64 p1.f1 p1.f3)) (maxI p0.f1 p1.f1)) 0))]) o_0 58) ?_
    refine pN ?_
    refine pS ?_
    refine gC 51 (leI (subI .i64 (minI (addI .i64 p0.f1 p0.f3) (addI .i64 p1.f1 p1.f3)) (maxI p0.f1 p1.f1)) 0) ?_ ?_
    · refine gS 0 ?_
      refine gR 4 (rg Tryz.f49 4) ?_
      refine se (mkE [(4, .ba 32 0), (5, B false)] o_0 58) ?_
      refine pN ?_
      refine pS ?_
      refine gE ?_
      exact pL
    · refine gK ?_
      refine pN ?_
      refine pS ?_
      refine gS 0 ?_
      refine gR 5 (rg Tryz.f49 5) ?_
      refine se (mkE [(4, .ba 32 0), (5, B true)] [(32, .box [I (maxI p0.f0 p1.f0), I (maxI p0.f1 p1.f1), I (subI .i64 (minI (addI .i64 p0.f0 p0.f2) (addI .i64 p1.f0 p1.f2)) (maxI p0.f0 p1.f0)), I (subI .i64 (minI (addI .i64 p0.f1 p0.f3) (addI .i64 p1.f1 p1.f3)) (maxI p0.f1 p1.f1))] false)] 58) ?_
      refine pN ?_
      refine pS ?_
      refine gE ?_
      exact pL
theorem F49 (m : Nat) (hm : 1 ≤ m) (p0 : S25) (p1 : S25) : callA Tryz.prog cfg m 49 [a25 p0, a25 p1] = (T49 p0 p1).map (fun r => AV.tup [a25 r.1, B r.2]) := by
  obtain ⟨q, rfl⟩ : ∃ q, m = q + 1 := ⟨m - 1, by omega⟩
  exact (callA_body (fn := Tryz.f49) (c := body_ Tryz.f49) q _ (by kernel_rfl) (by kernel_rfl) (by kernel_rfl)).trans (B49 _ p0 p1)

noncomputable def L15_9 (p0 : S23) (z0 : (ByteArray × Int)) : Option ((ByteArray × Int) ⊕ ((ByteArray × Int × Bool) ⊕ Int)) := (bif (ltI z0.2 (lenL p0.f3)) then ((listAt p0.f3 z0.2).bind fun x4 => ((T46 x4.f0).bind fun x5 => (bif (!x5) then (some (.inr (.inr 5))) else ((T19 x4.f1).bind fun x6 => (bif (neI x6 0) then (some (.inr (.inr x6))) else ((T48 x4.f1 p0.f1 p0.f2).bind fun x7 => (bif (!x7) then (some (.inr (.inr 3))) else (bif (ltS x4.f0 z0.1 || eqS x4.f0 z0.1) then (some (.inr (.inr 7))) else (some (.inl (x4.f0, (addI .i64 z0.2 1)))))))))))) else (some (.inr (.inl (z0.1, z0.2, (ltI z0.2 (lenL p0.f3)))))))
theorem L15_9_ok (C : Callee) (h19 : ∀ (p0 : S25), C 19 [a25 p0] = (T19 p0).map I) (h46 : ∀ (p0 : ByteArray), C 46 [S p0] = (T46 p0).map B) (h48 : ∀ (p0 : S25) (p1 : Int) (p2 : Int), C 48 [a25 p0, I p1, I p2] = (T48 p0 p1 p2).map B) (p0 : S23) (z0 : (ByteArray × Int)) : runs Tryz.prog C (cfg.fn 15) (finLoop ((cfg.fn 15).keep 9) ((cfg.fn 15).al 9)) [] (execA Tryz.prog C (cfg.fn 15) (nr Tryz.f15 [false, false, true, false, true, true, true]) ((fun z0 : (ByteArray × Int) => (mkE [(1, .ba 8 0), (3, S z0.1), (35, LL a37 p0.f3), (36, I (lenL p0.f3)), (37, I z0.2)] [(8, .box [S p0.f0, I p0.f1, I p0.f2, LL a37 p0.f3] false)] 96)) z0)) = (L15_9 p0 z0).map (Sum.elim (fun z => .inl ((fun z0 : (ByteArray × Int) => (mkE [(1, .ba 8 0), (3, S z0.1), (35, LL a37 p0.f3), (36, I (lenL p0.f3)), (37, I z0.2)] [(8, .box [S p0.f0, I p0.f1, I p0.f2, LL a37 p0.f3] false)] 96)) z)) (fun x => .inr ((Sum.elim (fun (x : (ByteArray × Int × Bool)) => (.exit 1, (mkE [(1, .ba 8 0), (3, S x.1), (35, LL a37 p0.f3), (36, I (lenL p0.f3)), (37, I x.2.1), (38, B x.2.2)] [(8, .box [S p0.f0, I p0.f1, I p0.f2, LL a37 p0.f3] false)] 96))) (fun (x : Int) => (.ret, (mkE [(2, I x)] [] 96)))) x))) := by
  unfold L15_9
  let s_0 : List (Nat × AV) := [(35, LL a37 p0.f3), (36, I (lenL p0.f3)), (37, I z0.2)]
  let s_1 : List (Nat × AV) := [(1, .ba 8 0), (3, S z0.1), (5, .ba 40 0)]
  let o_0 : List (Nat × AObj) := [(8, .box [S p0.f0, I p0.f1, I p0.f2, LL a37 p0.f3] false)]
  refine gS 0 ?_
  refine gR 9 (rg Tryz.f15 9) ?_
  refine se (mkE ((1, .ba 8 0) :: ((3, S z0.1) :: (s_0.append [(38, B (ltI z0.2 (lenL p0.f3)))]))) o_0 96) ?_
  refine pN ?_
  refine pS ?_
  refine gS 10 ?_
  refine gC 38 (ltI z0.2 (lenL p0.f3)) ?_ ?_
  · refine gK ?_
    refine pN ?_
    refine pS ?_
    refine gS 21 ?_
    refine gB 2 ?_
    refine gS 11 ?_
    refine gR 10 (rg Tryz.f15 10) ?_
    refine vo 39 (addrE 22 38 5 a37 .i64 p0.f3 z0.2) (fun x4 => ?_)
    refine se (mkE (s_1.append s_0) (o_0.append [(40, .box [S x4.f0, I x4.f1.f0, I x4.f1.f1, I x4.f1.f2, I x4.f1.f3] false)]) 96) ?_
    refine pN ?_
    refine pS ?_
    refine gS 13 ?_
    refine gS 0 ?_
    refine gR 11 (rg Tryz.f15 11) ?_
    refine sg 2 (mkE ((42, S x4.f0) :: ((41, .ba 40 0) :: (s_1.append s_0))) (o_0.append [(40, .box [S x4.f0, I x4.f1.f0, I x4.f1.f1, I x4.f1.f2, I x4.f1.f3] false)]) 96) ?_
    refine co 43 [] (h46 x4.f0) (fun x5 => ?_)
    refine se (mkE (s_1.append (s_0.append [(44, B (!x5))])) (o_0.append [(40, .box [S x4.f0, I x4.f1.f0, I x4.f1.f1, I x4.f1.f2, I x4.f1.f3] false)]) 96) ?_
    refine pN ?_
    refine pS ?_
    refine gC 44 (!x5) ?_ ?_
    · refine gS 0 ?_
      refine gR 12 (rg Tryz.f15 12) ?_
      refine se (mkE [(2, I 5)] [] 96) ?_
      refine pN ?_
      refine pS ?_
      refine gE ?_
      exact pL
    · refine gK ?_
      refine pN ?_
      refine pS ?_
      refine gS 16 ?_
      refine gS 14 ?_
      refine gR 13 (rg Tryz.f15 13) ?_
      refine sg 2 (mkE ((46, a25 x4.f1) :: ((45, .ba 40 1) :: (s_1.append (s_0.append [(44, B (!x5))])))) (o_0.append [(40, .box [S x4.f0, I x4.f1.f0, I x4.f1.f1, I x4.f1.f2, I x4.f1.f3] false)]) 96) ?_
      refine co 47 [] (h19 x4.f1) (fun x6 => ?_)
      refine se (mkE (s_1.append ((6, I x6) :: s_0)) (o_0.append [(40, .box [S x4.f0, I x4.f1.f0, I x4.f1.f1, I x4.f1.f2, I x4.f1.f3] false)]) 96) ?_
      refine pN ?_
      refine pS ?_
      refine gS 0 ?_
      refine gR 14 (rg Tryz.f15 14) ?_
      refine se (mkE (s_1.append ((6, I x6) :: (s_0.append [(49, B (neI x6 0))]))) (o_0.append [(40, .box [S x4.f0, I x4.f1.f0, I x4.f1.f1, I x4.f1.f2, I x4.f1.f3] false)]) 96) ?_
      refine pN ?_
      refine pS ?_
      refine gC 49 (neI x6 0) ?_ ?_
      · refine gS 0 ?_
        refine gR 15 (rg Tryz.f15 15) ?_
        refine se (mkE [(2, I x6)] [] 96) ?_
        refine pN ?_
        refine pS ?_
        refine gE ?_
        exact pL
      · refine gK ?_
        refine pN ?_
        refine pS ?_
        refine gS 20 ?_
        refine gB 3 ?_
        refine gS 0 ?_
        refine gR 16 (rg Tryz.f15 16) ?_
        refine sg 6 (mkE ((57, I p0.f2) :: ((56, .ba 8 2) :: ((55, I p0.f1) :: ((54, .ba 8 1) :: ((53, a25 x4.f1) :: ((52, .ba 40 1) :: (s_1.append ((6, I x6) :: (s_0.append [(49, B (neI x6 0))]))))))))) (o_0.append [(40, .box [S x4.f0, I x4.f1.f0, I x4.f1.f1, I x4.f1.f2, I x4.f1.f3] false)]) 96) ?_
        refine co 58 [] (h48 x4.f1 p0.f1 p0.f2) (fun x7 => ?_)
        refine se (mkE (s_1.append (s_0.append [(51, B (!x7))])) (o_0.append [(40, .box [S x4.f0, I x4.f1.f0, I x4.f1.f1, I x4.f1.f2, I x4.f1.f3] false)]) 96) ?_
        refine pN ?_
        refine pS ?_
        refine gC 51 (!x7) ?_ ?_
        · refine gS 0 ?_
          refine gR 17 (rg Tryz.f15 17) ?_
          refine se (mkE [(2, I 3)] [] 96) ?_
          refine pN ?_
          refine pS ?_
          refine gE ?_
          exact pL
        · refine gS 0 ?_
          refine gR 18 (rg Tryz.f15 18) ?_
          refine se (mkE ((1, .ba 8 0) :: ((5, .ba 40 0) :: (s_0.append [(60, B (ltS x4.f0 z0.1 || eqS x4.f0 z0.1))]))) (o_0.append [(40, .box [S x4.f0, I x4.f1.f0, I x4.f1.f1, I x4.f1.f2, I x4.f1.f3] false)]) 96) ?_
          refine pN ?_
          refine pS ?_
          refine gC 60 (ltS x4.f0 z0.1 || eqS x4.f0 z0.1) ?_ ?_
          · refine gS 0 ?_
            refine gR 19 (rg Tryz.f15 19) ?_
            refine se (mkE [(2, I 7)] [] 96) ?_
            refine pN ?_
            refine pS ?_
            refine gE ?_
            exact pL
          · refine gK ?_
            refine pB ?_
            refine pN ?_
            refine pS ?_
            refine gR 20 (rg Tryz.f15 20) ?_
            refine se (mkE ((1, .ba 8 0) :: ((3, S x4.f0) :: s_0)) o_0 96) ?_
            refine pB ?_
            refine pN ?_
            refine pS ?_
            refine gR 21 (rg Tryz.f15 21) ?_
            refine se (mkE [(1, .ba 8 0), (3, S x4.f0), (35, LL a37 p0.f3), (36, I (lenL p0.f3)), (37, I (addI .i64 z0.2 1))] o_0 96) ?_
            exact pL
  · refine gX 1 ?_
    exact pL
noncomputable def L15_26 (p0 : S23) (z1 : Int) (x9 : S37) (x10 : (List S37)) (z2 : Int) : Option (Int ⊕ ((Int × Bool) ⊕ Unit)) := (bif (ltI z2 (lenL x10)) then ((listAt x10 z2).bind fun x11 => ((T49 x9.f1 x11.f1).bind fun x12 => (bif x12.2 then (some (.inr (.inr ()))) else (some (.inl (addI .i64 z2 1)))))) else (some (.inr (.inl (z2, (ltI z2 (lenL x10)))))))
theorem L15_26_ok (C : Callee) (h49 : ∀ (p0 : S25) (p1 : S25), C 49 [a25 p0, a25 p1] = (T49 p0 p1).map (fun r => AV.tup [a25 r.1, B r.2])) (p0 : S23) (z1 : Int) (x9 : S37) (x10 : (List S37)) (z2 : Int) : runs Tryz.prog C (cfg.fn 15) (finLoop ((cfg.fn 15).keep 26) ((cfg.fn 15).al 26)) [] (execA Tryz.prog C (cfg.fn 15) (nr Tryz.f15 [false, false, true, true, false, false, true, true, false, false, true, false, true, true, true, true]) ((fun z2 : Int => (mkE [(1, .ba 8 0), (8, .ba 64 0), (69, LL a37 p0.f3), (70, I (lenL p0.f3)), (71, I z1), (79, LL a37 x10), (80, I (lenL x10)), (81, I z2)] [(8, .box [S p0.f0, I p0.f1, I p0.f2, LL a37 p0.f3] false), (64, .box [S x9.f0, I x9.f1.f0, I x9.f1.f1, I x9.f1.f2, I x9.f1.f3] false)] 96)) z2)) = (L15_26 p0 z1 x9 x10 z2).map (Sum.elim (fun z => .inl ((fun z2 : Int => (mkE [(1, .ba 8 0), (8, .ba 64 0), (69, LL a37 p0.f3), (70, I (lenL p0.f3)), (71, I z1), (79, LL a37 x10), (80, I (lenL x10)), (81, I z2)] [(8, .box [S p0.f0, I p0.f1, I p0.f2, LL a37 p0.f3] false), (64, .box [S x9.f0, I x9.f1.f0, I x9.f1.f1, I x9.f1.f2, I x9.f1.f3] false)] 96)) z)) (fun x => .inr ((Sum.elim (fun (x : (Int × Bool)) => (.exit 6, (mkE [(1, .ba 8 0), (8, .ba 64 0), (69, LL a37 p0.f3), (70, I (lenL p0.f3)), (71, I z1), (79, LL a37 x10), (80, I (lenL x10)), (81, I x.1), (82, B x.2)] [(8, .box [S p0.f0, I p0.f1, I p0.f2, LL a37 p0.f3] false), (64, .box [S x9.f0, I x9.f1.f0, I x9.f1.f1, I x9.f1.f2, I x9.f1.f3] false)] 96))) (fun (x : Unit) => (.ret, (mkE [(2, I 13)] [] 96)))) x))) := by
  unfold L15_26
  let s_0 : List (Nat × AV) := [(69, LL a37 p0.f3), (70, I (lenL p0.f3)), (71, I z1), (79, LL a37 x10), (80, I (lenL x10))]
  let o_0 : List (Nat × AObj) := [(8, .box [S p0.f0, I p0.f1, I p0.f2, LL a37 p0.f3] false), (64, .box [S x9.f0, I x9.f1.f0, I x9.f1.f1, I x9.f1.f2, I x9.f1.f3] false)]
  refine gS 0 ?_
  refine gR 26 (rg Tryz.f15 26) ?_
  refine se (mkE ((1, .ba 8 0) :: ((8, .ba 64 0) :: (s_0.append ((81, I z2) :: [(82, B (ltI z2 (lenL x10)))])))) o_0 96) ?_
  refine pN ?_
  refine pS ?_
  refine gS 27 ?_
  refine gC 82 (ltI z2 (lenL x10)) ?_ ?_
  · refine gK ?_
    refine pN ?_
    refine pS ?_
    refine gS 31 ?_
    refine gB 7 ?_
    refine gS 28 ?_
    refine gR 27 (rg Tryz.f15 27) ?_
    refine vo 83 (addrE 22 38 5 a37 .i64 x10 z2) (fun x11 => ?_)
    refine se (mkE ((1, .ba 8 0) :: ((8, .ba 64 0) :: ((10, .ba 80 0) :: (s_0.append [(81, I z2)])))) (o_0.append [(80, .box [S x11.f0, I x11.f1.f0, I x11.f1.f1, I x11.f1.f2, I x11.f1.f3] false)]) 96) ?_
    refine pN ?_
    refine pS ?_
    refine gS 29 ?_
    refine gR 28 (rg Tryz.f15 28) ?_
    refine sg 4 (mkE ((89, a25 x11.f1) :: ((88, .ba 80 1) :: ((87, a25 x9.f1) :: ((86, .ba 64 1) :: ((1, .ba 8 0) :: ((8, .ba 64 0) :: ((10, .ba 80 0) :: (s_0.append [(81, I z2)])))))))) (o_0.append [(80, .box [S x11.f0, I x11.f1.f0, I x11.f1.f1, I x11.f1.f2, I x11.f1.f3] false)]) 96) ?_
    refine co 90 [] (h49 x9.f1 x11.f1) (fun x12 => ?_)
    refine se (mkE ((1, .ba 8 0) :: ((8, .ba 64 0) :: ((12, B x12.2) :: (s_0.append [(81, I z2)])))) o_0 96) ?_
    refine pN ?_
    refine pS ?_
    refine gS 0 ?_
    refine gR 29 (rg Tryz.f15 29) ?_
    refine se (mkE ((1, .ba 8 0) :: ((8, .ba 64 0) :: (s_0.append ((81, I z2) :: [(93, B x12.2)])))) o_0 96) ?_
    refine pN ?_
    refine pS ?_
    refine gC 93 x12.2 ?_ ?_
    · refine gS 0 ?_
      refine gR 30 (rg Tryz.f15 30) ?_
      refine se (mkE [(2, I 13)] [] 96) ?_
      refine pN ?_
      refine pS ?_
      refine gE ?_
      exact pL
    · refine gK ?_
      refine pB ?_
      refine pN ?_
      refine pS ?_
      refine gR 31 (rg Tryz.f15 31) ?_
      refine se (mkE ((1, .ba 8 0) :: ((8, .ba 64 0) :: (s_0.append [(81, I (addI .i64 z2 1))]))) o_0 96) ?_
      exact pL
  · refine gX 6 ?_
    exact pL
noncomputable def L15_23 (p0 : S23) (z1 : Int) : Option (Int ⊕ ((Int × Bool) ⊕ Unit)) := (bif (ltI z1 (lenL p0.f3)) then ((listAt p0.f3 z1).bind fun x9 => ((cutL p0.f3 none (some z1)).bind fun x10 => ((iter (L15_26 p0 z1 x9 x10) 0).bind fun y13 => (Sum.elim (fun y13a => (some (.inl (addI .i64 z1 1)))) (fun y13b => (some (.inr (.inr ())))) y13)))) else (some (.inr (.inl (z1, (ltI z1 (lenL p0.f3)))))))
theorem L15_23_ok (C : Callee) (h49 : ∀ (p0 : S25) (p1 : S25), C 49 [a25 p0, a25 p1] = (T49 p0 p1).map (fun r => AV.tup [a25 r.1, B r.2])) (p0 : S23) (z1 : Int) : runs Tryz.prog C (cfg.fn 15) (finLoop ((cfg.fn 15).keep 23) ((cfg.fn 15).al 23)) [] (execA Tryz.prog C (cfg.fn 15) (nr Tryz.f15 [false, false, true, false, true, true, true, true]) ((fun z1 : Int => (mkE [(1, .ba 8 0), (69, LL a37 p0.f3), (70, I (lenL p0.f3)), (71, I z1)] [(8, .box [S p0.f0, I p0.f1, I p0.f2, LL a37 p0.f3] false)] 96)) z1)) = (L15_23 p0 z1).map (Sum.elim (fun z => .inl ((fun z1 : Int => (mkE [(1, .ba 8 0), (69, LL a37 p0.f3), (70, I (lenL p0.f3)), (71, I z1)] [(8, .box [S p0.f0, I p0.f1, I p0.f2, LL a37 p0.f3] false)] 96)) z)) (fun x => .inr ((Sum.elim (fun (x : (Int × Bool)) => (.exit 4, (mkE [(1, .ba 8 0), (69, LL a37 p0.f3), (70, I (lenL p0.f3)), (71, I x.1), (72, B x.2)] [(8, .box [S p0.f0, I p0.f1, I p0.f2, LL a37 p0.f3] false)] 96))) (fun (x : Unit) => (.ret, (mkE [(2, I 13)] [] 96)))) x))) := by
  unfold L15_23
  let s_0 : List (Nat × AV) := [(69, LL a37 p0.f3), (70, I (lenL p0.f3)), (71, I z1)]
  let o_0 : List (Nat × AObj) := [(8, .box [S p0.f0, I p0.f1, I p0.f2, LL a37 p0.f3] false)]
  refine gS 0 ?_
  refine gR 23 (rg Tryz.f15 23) ?_
  refine se (mkE ((1, .ba 8 0) :: (s_0.append [(72, B (ltI z1 (lenL p0.f3)))])) o_0 96) ?_
  refine pN ?_
  refine pS ?_
  refine gS 24 ?_
  refine gC 72 (ltI z1 (lenL p0.f3)) ?_ ?_
  · refine gK ?_
    refine pN ?_
    refine pS ?_
    refine gS 32 ?_
    refine gB 5 ?_
    refine gS 25 ?_
    refine gR 24 (rg Tryz.f15 24) ?_
    refine sg 1 (mkE ((73, I z1) :: ((1, .ba 8 0) :: (s_0.append [(72, B (ltI z1 (lenL p0.f3)))]))) o_0 96) ?_
    refine vo 74 (addrE 22 38 5 a37 .i64 p0.f3 z1) (fun x9 => ?_)
    refine se (mkE ((1, .ba 8 0) :: ((7, I z1) :: ((8, .ba 64 0) :: s_0))) (o_0.append [(64, .box [S x9.f0, I x9.f1.f0, I x9.f1.f1, I x9.f1.f2, I x9.f1.f3] false)]) 96) ?_
    refine pN ?_
    refine pS ?_
    refine gS 26 ?_
    refine gR 25 (rg Tryz.f15 25) ?_
    refine sg 3 (mkE ((78, I z1) :: ((77, LL a37 p0.f3) :: ((76, .ba 8 3) :: ((1, .ba 8 0) :: ((7, I z1) :: ((8, .ba 64 0) :: s_0)))))) (o_0.append [(64, .box [S x9.f0, I x9.f1.f0, I x9.f1.f1, I x9.f1.f2, I x9.f1.f3] false)]) 96) ?_
    refine vo 79 (cutLE 22 38 5 a37 .i64 .i64 p0.f3 none (some z1) (.tmp 77) none (some (.tmp 78))) (fun x10 => ?_)
    refine eo 80 (I (lenL x10)) (lenE 22 a37 x10) ?_
    refine se (mkE ((1, .ba 8 0) :: ((8, .ba 64 0) :: (s_0.append ((79, LL a37 x10) :: ((80, I (lenL x10)) :: [(81, I 0)]))))) (o_0.append [(64, .box [S x9.f0, I x9.f1.f0, I x9.f1.f1, I x9.f1.f2, I x9.f1.f3] false)]) 96) ?_
    refine pN ?_
    refine pS ?_
    refine gB 6 ?_
    refine lo [(1, none), (8, none), (69, none), (70, none), (71, none), (79, none), (80, none), (81, none)] [] (L15_26 p0 z1 x9 x10) (fun z2 : Int => (mkE ((1, .ba 8 0) :: ((8, .ba 64 0) :: (s_0.append ((79, LL a37 x10) :: ((80, I (lenL x10)) :: [(81, I z2)]))))) (o_0.append [(64, .box [S x9.f0, I x9.f1.f0, I x9.f1.f1, I x9.f1.f2, I x9.f1.f3] false)]) 96)) (Sum.elim (fun (x : (Int × Bool)) => (.exit 6, (mkE ((1, .ba 8 0) :: ((8, .ba 64 0) :: (s_0.append ((79, LL a37 x10) :: ((80, I (lenL x10)) :: ((81, I x.1) :: [(82, B x.2)])))))) (o_0.append [(64, .box [S x9.f0, I x9.f1.f0, I x9.f1.f1, I x9.f1.f2, I x9.f1.f3] false)]) 96))) (fun (x : Unit) => (.ret, (mkE [(2, I 13)] [] 96)))) 0 (fun z => L15_26_ok C h49 p0 z1 x9 x10 z) ?_
    intro y13
    refine ss y13 (Z := (Sum.elim (fun (x : (Int × Bool)) => (.exit 6, (mkE ((1, .ba 8 0) :: ((8, .ba 64 0) :: (s_0.append ((79, LL a37 x10) :: ((80, I (lenL x10)) :: ((81, I x.1) :: [(82, B x.2)])))))) (o_0.append [(64, .box [S x9.f0, I x9.f1.f0, I x9.f1.f1, I x9.f1.f2, I x9.f1.f3] false)]) 96))) (fun (x : Unit) => (.ret, (mkE [(2, I 13)] [] 96))))) (fun y13a => ?_) (fun y13b => ?_)
    · refine pH ?_
      refine pB ?_
      refine pN ?_
      refine pS ?_
      refine gR 32 (rg Tryz.f15 32) ?_
      refine se (mkE [(1, .ba 8 0), (69, LL a37 p0.f3), (70, I (lenL p0.f3)), (71, I (addI .i64 z1 1))] o_0 96) ?_
      exact pL
    · exact pL
  · refine gX 4 ?_
    exact pL
noncomputable def T15 (p0 : S23) : Option Int := ((T46 p0.f0).bind fun x1 => (bif (!x1) then (some 5) else ((T47 p0.f1).bind fun x2 => (bif (!x2) then (some 1) else ((T47 p0.f2).bind fun x3 => (bif (!x3) then (some 1) else (bif (ltI 50 (lenL p0.f3)) then (some 2) else ((iter (L15_9 p0) ((ByteArray.mk #[]), 0)).bind fun y8 => (Sum.elim (fun y8a => ((iter (L15_23 p0) 0).bind fun y14 => (Sum.elim (fun y14a => (some 0)) (fun y14b => (some 13)) y14))) (fun y8b => (some y8b)) y8)))))))))
theorem B15 (C : Callee) (h19 : ∀ (p0 : S25), C 19 [a25 p0] = (T19 p0).map I) (h46 : ∀ (p0 : ByteArray), C 46 [S p0] = (T46 p0).map B) (h47 : ∀ (p0 : Int), C 47 [I p0] = (T47 p0).map B) (h48 : ∀ (p0 : S25) (p1 : Int) (p2 : Int), C 48 [a25 p0, I p1, I p2] = (T48 p0 p1 p2).map B) (h49 : ∀ (p0 : S25) (p1 : S25), C 49 [a25 p0, a25 p1] = (T49 p0 p1).map (fun r => AV.tup [a25 r.1, B r.2])) (p0 : S23) : runs Tryz.prog C (cfg.fn 15) (finFn Tryz.prog (cfg.fn 15).byval Tryz.f15) [] (execA Tryz.prog C (cfg.fn 15) (nr Tryz.f15 []) (frame0 [a23 p0] 96 false)) = (T15 p0).map I := by
  unfold T15
  let s_0 : List (Nat × AV) := [(1, .ba 8 0), (69, LL a37 p0.f3), (70, I (lenL p0.f3))]
  let s_1 : List (Nat × AV) := [(35, LL a37 p0.f3), (36, I (lenL p0.f3))]
  let o_0 : List (Nat × AObj) := [(8, .box [S p0.f0, I p0.f1, I p0.f2, LL a37 p0.f3] false)]
  refine gS 1 ?_
  refine gR 0 (rg Tryz.f15 0) ?_
  refine se (mkE [(1, .ba 8 0)] o_0 96) ?_
  refine pN ?_
  refine pS ?_
  refine gS 7 ?_
  refine gB 0 ?_
  refine gS 0 ?_
  refine gR 1 (rg Tryz.f15 1) ?_
  refine sg 2 (mkE [(15, S p0.f0), (14, .ba 8 0), (1, .ba 8 0)] o_0 96) ?_
  refine co 16 [] (h46 p0.f0) (fun x1 => ?_)
  refine se (mkE [(1, .ba 8 0), (13, B (!x1))] o_0 96) ?_
  refine pN ?_
  refine pS ?_
  refine gC 13 (!x1) ?_ ?_
  · refine gS 0 ?_
    refine gR 2 (rg Tryz.f15 2) ?_
    refine se (mkE [(2, I 5)] [] 96) ?_
    refine pN ?_
    refine pS ?_
    refine gE ?_
    exact pL
  · refine gS 0 ?_
    refine gR 3 (rg Tryz.f15 3) ?_
    refine sg 2 (mkE [(20, I p0.f1), (19, .ba 8 1), (1, .ba 8 0), (13, B (!x1))] o_0 96) ?_
    refine co 21 [] (h47 p0.f1) (fun x2 => ?_)
    refine sg 5 (mkE [(23, B (!x2)), (22, B (!x2)), (21, B x2), (20, I p0.f1), (19, .ba 8 1), (1, .ba 8 0), (13, B (!x1))] o_0 96) ?_
    refine sb 23 (!x2) ?_ ?_
    · refine se (mkE [(1, .ba 8 0), (18, B true)] o_0 96) ?_
      refine pN ?_
      refine pS ?_
      refine gT (.tmp 18) ?_
      refine gS 0 ?_
      refine gR 4 (rg Tryz.f15 4) ?_
      refine se (mkE [(2, I 1)] [] 96) ?_
      refine pN ?_
      refine pS ?_
      refine gE ?_
      exact pL
    · refine sg 7 (mkE [(25, I p0.f2), (24, .ba 8 2), (23, B false), (23, B (!x2)), (22, B (!x2)), (21, B x2), (20, I p0.f1), (19, .ba 8 1), (1, .ba 8 0), (13, B (!x1))] o_0 96) ?_
      refine co 26 [] (h47 p0.f2) (fun x3 => ?_)
      refine se (mkE [(1, .ba 8 0), (18, B (!x3))] o_0 96) ?_
      refine pN ?_
      refine pS ?_
      refine gC 18 (!x3) ?_ ?_
      · refine gS 0 ?_
        refine gR 4 (rg Tryz.f15 4) ?_
        refine se (mkE [(2, I 1)] [] 96) ?_
        refine pN ?_
        refine pS ?_
        refine gE ?_
        exact pL
      · refine gS 0 ?_
        refine gR 5 (rg Tryz.f15 5) ?_
        refine sg 2 (mkE [(31, LL a37 p0.f3), (30, .ba 8 3), (1, .ba 8 0), (18, B (!x3))] o_0 96) ?_
        refine eo 32 (I (lenL p0.f3)) (lenE 22 a37 p0.f3) ?_
        refine se (mkE [(1, .ba 8 0), (29, B (ltI 50 (lenL p0.f3)))] o_0 96) ?_
        refine pN ?_
        refine pS ?_
        refine gC 29 (ltI 50 (lenL p0.f3)) ?_ ?_
        · refine gS 0 ?_
          refine gR 6 (rg Tryz.f15 6) ?_
          refine se (mkE [(2, I 2)] [] 96) ?_
          refine pN ?_
          refine pS ?_
          refine gE ?_
          exact pL
        · refine gK ?_
          refine pB ?_
          refine pN ?_
          refine pS ?_
          refine gS 8 ?_
          refine gR 7 (rg Tryz.f15 7) ?_
          refine se (mkE [(1, .ba 8 0), (3, S (ByteArray.mk #[]))] o_0 96) ?_
          refine pN ?_
          refine pS ?_
          refine gS 22 ?_
          refine gS 9 ?_
          refine gR 8 (rg Tryz.f15 8) ?_
          refine sg 2 (mkE [(35, LL a37 p0.f3), (34, .ba 8 3), (1, .ba 8 0), (3, S (ByteArray.mk #[]))] o_0 96) ?_
          refine eo 36 (I (lenL p0.f3)) (lenE 22 a37 p0.f3) ?_
          refine se (mkE ((1, .ba 8 0) :: ((3, S (ByteArray.mk #[])) :: (s_1.append [(37, I 0)]))) o_0 96) ?_
          refine pN ?_
          refine pS ?_
          refine gB 1 ?_
          refine lo [(1, none), (3, none), (35, none), (36, none), (37, none)] [] (L15_9 p0) (fun z0 : (ByteArray × Int) => (mkE ((1, .ba 8 0) :: ((3, S z0.1) :: (s_1.append [(37, I z0.2)]))) o_0 96)) (Sum.elim (fun (x : (ByteArray × Int × Bool)) => (.exit 1, (mkE ((1, .ba 8 0) :: ((3, S x.1) :: (s_1.append ((37, I x.2.1) :: [(38, B x.2.2)])))) o_0 96))) (fun (x : Int) => (.ret, (mkE [(2, I x)] [] 96)))) ((ByteArray.mk #[]), 0) (fun z => L15_9_ok C h19 h46 h48 p0 z) ?_
          intro y8
          refine ss y8 (Z := (Sum.elim (fun (x : (ByteArray × Int × Bool)) => (.exit 1, (mkE ((1, .ba 8 0) :: ((3, S x.1) :: (s_1.append ((37, I x.2.1) :: [(38, B x.2.2)])))) o_0 96))) (fun (x : Int) => (.ret, (mkE [(2, I x)] [] 96))))) (fun y8a => ?_) (fun y8b => ?_)
          · refine pH ?_
            refine pN ?_
            refine pS ?_
            refine gS 33 ?_
            refine gS 23 ?_
            refine gR 22 (rg Tryz.f15 22) ?_
            refine sg 2 (mkE ((69, LL a37 p0.f3) :: ((68, .ba 8 3) :: ((1, .ba 8 0) :: ((3, S y8a.1) :: (s_1.append ((37, I y8a.2.1) :: [(38, B y8a.2.2)])))))) o_0 96) ?_
            refine eo 70 (I (lenL p0.f3)) (lenE 22 a37 p0.f3) ?_
            refine se (mkE (s_0.append [(71, I 0)]) o_0 96) ?_
            refine pN ?_
            refine pS ?_
            refine gB 4 ?_
            refine lo [(1, none), (69, none), (70, none), (71, none)] [] (L15_23 p0) (fun z1 : Int => (mkE (s_0.append [(71, I z1)]) o_0 96)) (Sum.elim (fun (x : (Int × Bool)) => (.exit 4, (mkE (s_0.append ((71, I x.1) :: [(72, B x.2)])) o_0 96))) (fun (x : Unit) => (.ret, (mkE [(2, I 13)] [] 96)))) 0 (fun z => L15_23_ok C h49 p0 z) ?_
            intro y14
            refine ss y14 (Z := (Sum.elim (fun (x : (Int × Bool)) => (.exit 4, (mkE (s_0.append ((71, I x.1) :: [(72, B x.2)])) o_0 96))) (fun (x : Unit) => (.ret, (mkE [(2, I 13)] [] 96))))) (fun y14a => ?_) (fun y14b => ?_)
            · refine pH ?_
              refine pN ?_
              refine pS ?_
              refine gS 0 ?_
              refine gR 33 (rg Tryz.f15 33) ?_
              refine se (mkE [(2, I 0)] [] 96) ?_
              refine pN ?_
              refine pS ?_
              refine gE ?_
              exact pL
            · exact pL
          · exact pL
theorem F15 (m : Nat) (hm : 5 ≤ m) (p0 : S23) : callA Tryz.prog cfg m 15 [a23 p0] = (T15 p0).map I := by
  obtain ⟨q, rfl⟩ : ∃ q, m = q + 1 := ⟨m - 1, by omega⟩
  exact (callA_body (fn := Tryz.f15) (c := body_ Tryz.f15) q _ (by kernel_rfl) (by kernel_rfl) (by kernel_rfl)).trans (B15 _ (fun p0 => F19 q (by omega) p0) (fun p0 => F46 q (by omega) p0) (fun p0 => F47 q (by omega) p0) (fun p0 p1 p2 => F48 q (by omega) p0 p1 p2) (fun p0 p1 => F49 q (by omega) p0 p1) p0)

noncomputable def L31_9 (p0 : S31) (z0 : (ByteArray × Int)) : Option ((ByteArray × Int) ⊕ ((ByteArray × Int × Bool) ⊕ Int)) := (bif (ltI z0.2 (lenL p0.f3)) then ((listAt p0.f3 z0.2).bind fun x4 => ((T46 x4.f0).bind fun x5 => (bif (!x5) then (some (.inr (.inr 5))) else ((T19 x4.f1).bind fun x6 => (bif (neI x6 0) then (some (.inr (.inr x6))) else ((T48 x4.f1 p0.f1 p0.f2).bind fun x7 => (bif (!x7) then (some (.inr (.inr 3))) else ((T53 x4.f2 0 1000).bind fun x8 => (bif (!x8) then (some (.inr (.inr 1))) else (bif (ltS x4.f0 z0.1 || eqS x4.f0 z0.1) then (some (.inr (.inr 7))) else (some (.inl (x4.f0, (addI .i64 z0.2 1)))))))))))))) else (some (.inr (.inl (z0.1, z0.2, (ltI z0.2 (lenL p0.f3)))))))
theorem L31_9_ok (C : Callee) (h19 : ∀ (p0 : S25), C 19 [a25 p0] = (T19 p0).map I) (h46 : ∀ (p0 : ByteArray), C 46 [S p0] = (T46 p0).map B) (h48 : ∀ (p0 : S25) (p1 : Int) (p2 : Int), C 48 [a25 p0, I p1, I p2] = (T48 p0 p1 p2).map B) (h53 : ∀ (p0 : Int) (p1 : Int) (p2 : Int), C 53 [I p0, I p1, I p2] = (T53 p0 p1 p2).map B) (p0 : S31) (z0 : (ByteArray × Int)) : runs Tryz.prog C (cfg.fn 31) (finLoop ((cfg.fn 31).keep 9) ((cfg.fn 31).al 9)) [] (execA Tryz.prog C (cfg.fn 31) (nr Tryz.f31 [false, false, true, false, true, true, true]) ((fun z0 : (ByteArray × Int) => (mkE [(1, .ba 8 0), (3, S z0.1), (29, LL a64 p0.f3), (30, I (lenL p0.f3)), (31, I z0.2)] [(8, .box [S p0.f0, I p0.f1, I p0.f2, LL a64 p0.f3] false)] 67)) z0)) = (L31_9 p0 z0).map (Sum.elim (fun z => .inl ((fun z0 : (ByteArray × Int) => (mkE [(1, .ba 8 0), (3, S z0.1), (29, LL a64 p0.f3), (30, I (lenL p0.f3)), (31, I z0.2)] [(8, .box [S p0.f0, I p0.f1, I p0.f2, LL a64 p0.f3] false)] 67)) z)) (fun x => .inr ((Sum.elim (fun (x : (ByteArray × Int × Bool)) => (.exit 1, (mkE [(1, .ba 8 0), (3, S x.1), (29, LL a64 p0.f3), (30, I (lenL p0.f3)), (31, I x.2.1), (32, B x.2.2)] [(8, .box [S p0.f0, I p0.f1, I p0.f2, LL a64 p0.f3] false)] 67))) (fun (x : Int) => (.ret, (mkE [(2, I x)] [] 67)))) x))) := by
  unfold L31_9
  let s_0 : List (Nat × AV) := [(29, LL a64 p0.f3), (30, I (lenL p0.f3)), (31, I z0.2)]
  let s_1 : List (Nat × AV) := [(1, .ba 8 0), (3, S z0.1), (5, .ba 40 0)]
  let o_0 : List (Nat × AObj) := [(8, .box [S p0.f0, I p0.f1, I p0.f2, LL a64 p0.f3] false)]
  refine gS 0 ?_
  refine gR 9 (rg Tryz.f31 9) ?_
  refine se (mkE ((1, .ba 8 0) :: ((3, S z0.1) :: (s_0.append [(32, B (ltI z0.2 (lenL p0.f3)))]))) o_0 67) ?_
  refine pN ?_
  refine pS ?_
  refine gS 10 ?_
  refine gC 32 (ltI z0.2 (lenL p0.f3)) ?_ ?_
  · refine gK ?_
    refine pN ?_
    refine pS ?_
    refine gS 23 ?_
    refine gB 2 ?_
    refine gS 11 ?_
    refine gR 10 (rg Tryz.f31 10) ?_
    refine vo 33 (addrE 30 65 6 a64 .i64 p0.f3 z0.2) (fun x4 => ?_)
    refine se (mkE (s_1.append s_0) (o_0.append [(40, .box [S x4.f0, I x4.f1.f0, I x4.f1.f1, I x4.f1.f2, I x4.f1.f3, I x4.f2] false)]) 67) ?_
    refine pN ?_
    refine pS ?_
    refine gS 13 ?_
    refine gS 0 ?_
    refine gR 11 (rg Tryz.f31 11) ?_
    refine sg 2 (mkE ((36, S x4.f0) :: ((35, .ba 40 0) :: (s_1.append s_0))) (o_0.append [(40, .box [S x4.f0, I x4.f1.f0, I x4.f1.f1, I x4.f1.f2, I x4.f1.f3, I x4.f2] false)]) 67) ?_
    refine co 37 [] (h46 x4.f0) (fun x5 => ?_)
    refine se (mkE (s_1.append (s_0.append [(38, B (!x5))])) (o_0.append [(40, .box [S x4.f0, I x4.f1.f0, I x4.f1.f1, I x4.f1.f2, I x4.f1.f3, I x4.f2] false)]) 67) ?_
    refine pN ?_
    refine pS ?_
    refine gC 38 (!x5) ?_ ?_
    · refine gS 0 ?_
      refine gR 12 (rg Tryz.f31 12) ?_
      refine se (mkE [(2, I 5)] [] 67) ?_
      refine pN ?_
      refine pS ?_
      refine gE ?_
      exact pL
    · refine gK ?_
      refine pN ?_
      refine pS ?_
      refine gS 16 ?_
      refine gS 14 ?_
      refine gR 13 (rg Tryz.f31 13) ?_
      refine sg 2 (mkE ((40, a25 x4.f1) :: ((39, .ba 40 1) :: (s_1.append (s_0.append [(38, B (!x5))])))) (o_0.append [(40, .box [S x4.f0, I x4.f1.f0, I x4.f1.f1, I x4.f1.f2, I x4.f1.f3, I x4.f2] false)]) 67) ?_
      refine co 41 [] (h19 x4.f1) (fun x6 => ?_)
      refine se (mkE (s_1.append ((6, I x6) :: s_0)) (o_0.append [(40, .box [S x4.f0, I x4.f1.f0, I x4.f1.f1, I x4.f1.f2, I x4.f1.f3, I x4.f2] false)]) 67) ?_
      refine pN ?_
      refine pS ?_
      refine gS 0 ?_
      refine gR 14 (rg Tryz.f31 14) ?_
      refine se (mkE (s_1.append ((6, I x6) :: (s_0.append [(43, B (neI x6 0))]))) (o_0.append [(40, .box [S x4.f0, I x4.f1.f0, I x4.f1.f1, I x4.f1.f2, I x4.f1.f3, I x4.f2] false)]) 67) ?_
      refine pN ?_
      refine pS ?_
      refine gC 43 (neI x6 0) ?_ ?_
      · refine gS 0 ?_
        refine gR 15 (rg Tryz.f31 15) ?_
        refine se (mkE [(2, I x6)] [] 67) ?_
        refine pN ?_
        refine pS ?_
        refine gE ?_
        exact pL
      · refine gK ?_
        refine pN ?_
        refine pS ?_
        refine gS 22 ?_
        refine gB 3 ?_
        refine gS 0 ?_
        refine gR 16 (rg Tryz.f31 16) ?_
        refine sg 6 (mkE ((51, I p0.f2) :: ((50, .ba 8 2) :: ((49, I p0.f1) :: ((48, .ba 8 1) :: ((47, a25 x4.f1) :: ((46, .ba 40 1) :: (s_1.append ((6, I x6) :: (s_0.append [(43, B (neI x6 0))]))))))))) (o_0.append [(40, .box [S x4.f0, I x4.f1.f0, I x4.f1.f1, I x4.f1.f2, I x4.f1.f3, I x4.f2] false)]) 67) ?_
        refine co 52 [] (h48 x4.f1 p0.f1 p0.f2) (fun x7 => ?_)
        refine se (mkE (s_1.append (s_0.append [(45, B (!x7))])) (o_0.append [(40, .box [S x4.f0, I x4.f1.f0, I x4.f1.f1, I x4.f1.f2, I x4.f1.f3, I x4.f2] false)]) 67) ?_
        refine pN ?_
        refine pS ?_
        refine gC 45 (!x7) ?_ ?_
        · refine gS 0 ?_
          refine gR 17 (rg Tryz.f31 17) ?_
          refine se (mkE [(2, I 3)] [] 67) ?_
          refine pN ?_
          refine pS ?_
          refine gE ?_
          exact pL
        · refine gS 0 ?_
          refine gR 18 (rg Tryz.f31 18) ?_
          refine sg 2 (mkE ((56, I x4.f2) :: ((55, .ba 40 5) :: (s_1.append (s_0.append [(45, B (!x7))])))) (o_0.append [(40, .box [S x4.f0, I x4.f1.f0, I x4.f1.f1, I x4.f1.f2, I x4.f1.f3, I x4.f2] false)]) 67) ?_
          refine co 57 [] (h53 x4.f2 0 1000) (fun x8 => ?_)
          refine se (mkE (s_1.append (s_0.append [(54, B (!x8))])) (o_0.append [(40, .box [S x4.f0, I x4.f1.f0, I x4.f1.f1, I x4.f1.f2, I x4.f1.f3, I x4.f2] false)]) 67) ?_
          refine pN ?_
          refine pS ?_
          refine gC 54 (!x8) ?_ ?_
          · refine gS 0 ?_
            refine gR 19 (rg Tryz.f31 19) ?_
            refine se (mkE [(2, I 1)] [] 67) ?_
            refine pN ?_
            refine pS ?_
            refine gE ?_
            exact pL
          · refine gS 0 ?_
            refine gR 20 (rg Tryz.f31 20) ?_
            refine se (mkE ((1, .ba 8 0) :: ((5, .ba 40 0) :: (s_0.append [(59, B (ltS x4.f0 z0.1 || eqS x4.f0 z0.1))]))) (o_0.append [(40, .box [S x4.f0, I x4.f1.f0, I x4.f1.f1, I x4.f1.f2, I x4.f1.f3, I x4.f2] false)]) 67) ?_
            refine pN ?_
            refine pS ?_
            refine gC 59 (ltS x4.f0 z0.1 || eqS x4.f0 z0.1) ?_ ?_
            · refine gS 0 ?_
              refine gR 21 (rg Tryz.f31 21) ?_
              refine se (mkE [(2, I 7)] [] 67) ?_
              refine pN ?_
              refine pS ?_
              refine gE ?_
              exact pL
            · refine gK ?_
              refine pB ?_
              refine pN ?_
              refine pS ?_
              refine gR 22 (rg Tryz.f31 22) ?_
              refine se (mkE ((1, .ba 8 0) :: ((3, S x4.f0) :: s_0)) o_0 67) ?_
              refine pB ?_
              refine pN ?_
              refine pS ?_
              refine gR 23 (rg Tryz.f31 23) ?_
              refine se (mkE [(1, .ba 8 0), (3, S x4.f0), (29, LL a64 p0.f3), (30, I (lenL p0.f3)), (31, I (addI .i64 z0.2 1))] o_0 67) ?_
              exact pL
  · refine gX 1 ?_
    exact pL
noncomputable def T31 (p0 : S31) : Option Int := ((T46 p0.f0).bind fun x1 => (bif (!x1) then (some 5) else ((T47 p0.f1).bind fun x2 => (bif (!x2) then (some 1) else ((T47 p0.f2).bind fun x3 => (bif (!x3) then (some 1) else (bif (ltI 30 (lenL p0.f3)) then (some 2) else ((iter (L31_9 p0) ((ByteArray.mk #[]), 0)).bind fun y9 => (Sum.elim (fun y9a => (some 0)) (fun y9b => (some y9b)) y9)))))))))
theorem B31 (C : Callee) (h19 : ∀ (p0 : S25), C 19 [a25 p0] = (T19 p0).map I) (h46 : ∀ (p0 : ByteArray), C 46 [S p0] = (T46 p0).map B) (h47 : ∀ (p0 : Int), C 47 [I p0] = (T47 p0).map B) (h48 : ∀ (p0 : S25) (p1 : Int) (p2 : Int), C 48 [a25 p0, I p1, I p2] = (T48 p0 p1 p2).map B) (h53 : ∀ (p0 : Int) (p1 : Int) (p2 : Int), C 53 [I p0, I p1, I p2] = (T53 p0 p1 p2).map B) (p0 : S31) : runs Tryz.prog C (cfg.fn 31) (finFn Tryz.prog (cfg.fn 31).byval Tryz.f31) [] (execA Tryz.prog C (cfg.fn 31) (nr Tryz.f31 []) (frame0 [a31 p0] 67 false)) = (T31 p0).map I := by
  unfold T31
  let o_0 : List (Nat × AObj) := [(8, .box [S p0.f0, I p0.f1, I p0.f2, LL a64 p0.f3] false)]
  refine gS 1 ?_
  refine gR 0 (rg Tryz.f31 0) ?_
  refine se (mkE [(1, .ba 8 0)] o_0 67) ?_
  refine pN ?_
  refine pS ?_
  refine gS 7 ?_
  refine gB 0 ?_
  refine gS 0 ?_
  refine gR 1 (rg Tryz.f31 1) ?_
  refine sg 2 (mkE [(9, S p0.f0), (8, .ba 8 0), (1, .ba 8 0)] o_0 67) ?_
  refine co 10 [] (h46 p0.f0) (fun x1 => ?_)
  refine se (mkE [(1, .ba 8 0), (7, B (!x1))] o_0 67) ?_
  refine pN ?_
  refine pS ?_
  refine gC 7 (!x1) ?_ ?_
  · refine gS 0 ?_
    refine gR 2 (rg Tryz.f31 2) ?_
    refine se (mkE [(2, I 5)] [] 67) ?_
    refine pN ?_
    refine pS ?_
    refine gE ?_
    exact pL
  · refine gS 0 ?_
    refine gR 3 (rg Tryz.f31 3) ?_
    refine sg 2 (mkE [(14, I p0.f1), (13, .ba 8 1), (1, .ba 8 0), (7, B (!x1))] o_0 67) ?_
    refine co 15 [] (h47 p0.f1) (fun x2 => ?_)
    refine sg 5 (mkE [(17, B (!x2)), (16, B (!x2)), (15, B x2), (14, I p0.f1), (13, .ba 8 1), (1, .ba 8 0), (7, B (!x1))] o_0 67) ?_
    refine sb 17 (!x2) ?_ ?_
    · refine se (mkE [(1, .ba 8 0), (12, B true)] o_0 67) ?_
      refine pN ?_
      refine pS ?_
      refine gT (.tmp 12) ?_
      refine gS 0 ?_
      refine gR 4 (rg Tryz.f31 4) ?_
      refine se (mkE [(2, I 1)] [] 67) ?_
      refine pN ?_
      refine pS ?_
      refine gE ?_
      exact pL
    · refine sg 7 (mkE [(19, I p0.f2), (18, .ba 8 2), (17, B false), (17, B (!x2)), (16, B (!x2)), (15, B x2), (14, I p0.f1), (13, .ba 8 1), (1, .ba 8 0), (7, B (!x1))] o_0 67) ?_
      refine co 20 [] (h47 p0.f2) (fun x3 => ?_)
      refine se (mkE [(1, .ba 8 0), (12, B (!x3))] o_0 67) ?_
      refine pN ?_
      refine pS ?_
      refine gC 12 (!x3) ?_ ?_
      · refine gS 0 ?_
        refine gR 4 (rg Tryz.f31 4) ?_
        refine se (mkE [(2, I 1)] [] 67) ?_
        refine pN ?_
        refine pS ?_
        refine gE ?_
        exact pL
      · refine gS 0 ?_
        refine gR 5 (rg Tryz.f31 5) ?_
        refine sg 2 (mkE [(25, LL a64 p0.f3), (24, .ba 8 3), (1, .ba 8 0), (12, B (!x3))] o_0 67) ?_
        refine eo 26 (I (lenL p0.f3)) (lenE 30 a64 p0.f3) ?_
        refine se (mkE [(1, .ba 8 0), (23, B (ltI 30 (lenL p0.f3)))] o_0 67) ?_
        refine pN ?_
        refine pS ?_
        refine gC 23 (ltI 30 (lenL p0.f3)) ?_ ?_
        · refine gS 0 ?_
          refine gR 6 (rg Tryz.f31 6) ?_
          refine se (mkE [(2, I 2)] [] 67) ?_
          refine pN ?_
          refine pS ?_
          refine gE ?_
          exact pL
        · refine gK ?_
          refine pB ?_
          refine pN ?_
          refine pS ?_
          refine gS 8 ?_
          refine gR 7 (rg Tryz.f31 7) ?_
          refine se (mkE [(1, .ba 8 0), (3, S (ByteArray.mk #[]))] o_0 67) ?_
          refine pN ?_
          refine pS ?_
          refine gS 24 ?_
          refine gS 9 ?_
          refine gR 8 (rg Tryz.f31 8) ?_
          refine sg 2 (mkE [(29, LL a64 p0.f3), (28, .ba 8 3), (1, .ba 8 0), (3, S (ByteArray.mk #[]))] o_0 67) ?_
          refine eo 30 (I (lenL p0.f3)) (lenE 30 a64 p0.f3) ?_
          refine se (mkE [(1, .ba 8 0), (3, S (ByteArray.mk #[])), (29, LL a64 p0.f3), (30, I (lenL p0.f3)), (31, I 0)] o_0 67) ?_
          refine pN ?_
          refine pS ?_
          refine gB 1 ?_
          refine lo [(1, none), (3, none), (29, none), (30, none), (31, none)] [] (L31_9 p0) (fun z0 : (ByteArray × Int) => (mkE [(1, .ba 8 0), (3, S z0.1), (29, LL a64 p0.f3), (30, I (lenL p0.f3)), (31, I z0.2)] o_0 67)) (Sum.elim (fun (x : (ByteArray × Int × Bool)) => (.exit 1, (mkE [(1, .ba 8 0), (3, S x.1), (29, LL a64 p0.f3), (30, I (lenL p0.f3)), (31, I x.2.1), (32, B x.2.2)] o_0 67))) (fun (x : Int) => (.ret, (mkE [(2, I x)] [] 67)))) ((ByteArray.mk #[]), 0) (fun z => L31_9_ok C h19 h46 h48 h53 p0 z) ?_
          intro y9
          refine ss y9 (Z := (Sum.elim (fun (x : (ByteArray × Int × Bool)) => (.exit 1, (mkE [(1, .ba 8 0), (3, S x.1), (29, LL a64 p0.f3), (30, I (lenL p0.f3)), (31, I x.2.1), (32, B x.2.2)] o_0 67))) (fun (x : Int) => (.ret, (mkE [(2, I x)] [] 67))))) (fun y9a => ?_) (fun y9b => ?_)
          · refine pH ?_
            refine pN ?_
            refine pS ?_
            refine gS 0 ?_
            refine gR 24 (rg Tryz.f31 24) ?_
            refine se (mkE [(2, I 0)] [] 67) ?_
            refine pN ?_
            refine pS ?_
            refine gE ?_
            exact pL
          · exact pL
theorem F31 (m : Nat) (hm : 5 ≤ m) (p0 : S31) : callA Tryz.prog cfg m 31 [a31 p0] = (T31 p0).map I := by
  obtain ⟨q, rfl⟩ : ∃ q, m = q + 1 := ⟨m - 1, by omega⟩
  exact (callA_body (fn := Tryz.f31) (c := body_ Tryz.f31) q _ (by kernel_rfl) (by kernel_rfl) (by kernel_rfl)).trans (B31 _ (fun p0 => F19 q (by omega) p0) (fun p0 => F46 q (by omega) p0) (fun p0 => F47 q (by omega) p0) (fun p0 p1 p2 => F48 q (by omega) p0 p1 p2) (fun p0 p1 p2 => F53 q (by omega) p0 p1 p2) p0)

noncomputable def L17_2 (p0 : (List Int)) (z0 : Int) : Option (Int ⊕ ((Int × Bool) ⊕ Int)) := (bif (ltI z0 (lenL p0)) then ((listAt p0 z0).bind fun x1 => (bif (neI x1 0) then (some (.inr (.inr x1))) else (some (.inl (addI .i64 z0 1))))) else (some (.inr (.inl (z0, (ltI z0 (lenL p0)))))))
theorem L17_2_ok (C : Callee) (p0 : (List Int)) (z0 : Int) : runs Tryz.prog C (cfg.fn 17) (finLoop ((cfg.fn 17).keep 2) ((cfg.fn 17).al 2)) [] (execA Tryz.prog C (cfg.fn 17) (nr Tryz.f17 [false, false, true, false, true]) ((fun z0 : Int => (mkE [(5, LL I p0), (6, I (lenL p0)), (7, I z0)] [] 15)) z0)) = (L17_2 p0 z0).map (Sum.elim (fun z => .inl ((fun z0 : Int => (mkE [(5, LL I p0), (6, I (lenL p0)), (7, I z0)] [] 15)) z)) (fun x => .inr ((Sum.elim (fun (x : (Int × Bool)) => (.exit 0, (mkE [(5, LL I p0), (6, I (lenL p0)), (7, I x.1), (8, B x.2)] [] 15))) (fun (x : Int) => (.ret, (mkE [(2, I x)] [] 15)))) x))) := by
  unfold L17_2
  refine gS 0 ?_
  refine gR 2 (rg Tryz.f17 2) ?_
  refine se (mkE [(5, LL I p0), (6, I (lenL p0)), (7, I z0), (8, B (ltI z0 (lenL p0)))] [] 15) ?_
  refine pN ?_
  refine pS ?_
  refine gS 3 ?_
  refine gC 8 (ltI z0 (lenL p0)) ?_ ?_
  · refine gK ?_
    refine pN ?_
    refine pS ?_
    refine gS 6 ?_
    refine gB 1 ?_
    refine gS 4 ?_
    refine gR 3 (rg Tryz.f17 3) ?_
    refine vo 9 (addrE 93 39 1 I .i64 p0 z0) (fun x1 => ?_)
    refine se (mkE [(4, I x1), (5, LL I p0), (6, I (lenL p0)), (7, I z0)] [] 15) ?_
    refine pN ?_
    refine pS ?_
    refine gS 0 ?_
    refine gR 4 (rg Tryz.f17 4) ?_
    refine se (mkE [(4, I x1), (5, LL I p0), (6, I (lenL p0)), (7, I z0), (12, B (neI x1 0))] [] 15) ?_
    refine pN ?_
    refine pS ?_
    refine gC 12 (neI x1 0) ?_ ?_
    · refine gS 0 ?_
      refine gR 5 (rg Tryz.f17 5) ?_
      refine se (mkE [(2, I x1)] [] 15) ?_
      refine pN ?_
      refine pS ?_
      refine gE ?_
      exact pL
    · refine gK ?_
      refine pB ?_
      refine pN ?_
      refine pS ?_
      refine gR 6 (rg Tryz.f17 6) ?_
      refine se (mkE [(5, LL I p0), (6, I (lenL p0)), (7, I (addI .i64 z0 1))] [] 15) ?_
      exact pL
  · refine gX 0 ?_
    exact pL
noncomputable def T17 (p0 : (List Int)) : Option Int := ((iter (L17_2 p0) 0).bind fun y2 => (Sum.elim (fun y2a => (some 0)) (fun y2b => (some y2b)) y2))
theorem B17 (C : Callee) (p0 : (List Int)) : runs Tryz.prog C (cfg.fn 17) (finFn Tryz.prog (cfg.fn 17).byval Tryz.f17) [] (execA Tryz.prog C (cfg.fn 17) (nr Tryz.f17 []) (frame0 [LL I p0] 15 false)) = (T17 p0).map I := by
  unfold T17
  refine gS 1 ?_
  refine gR 0 (rg Tryz.f17 0) ?_
  refine se (mkE [(0, LL I p0)] [] 15) ?_
  refine pN ?_
  refine pS ?_
  refine gS 7 ?_
  refine gS 2 ?_
  refine gR 1 (rg Tryz.f17 1) ?_
  refine sg 1 (mkE [(5, LL I p0), (0, LL I p0)] [] 15) ?_
  refine eo 6 (I (lenL p0)) (lenE 93 I p0) ?_
  refine se (mkE [(5, LL I p0), (6, I (lenL p0)), (7, I 0)] [] 15) ?_
  refine pN ?_
  refine pS ?_
  refine gB 0 ?_
  refine lo [(5, none), (6, none), (7, none)] [] (L17_2 p0) (fun z0 : Int => (mkE [(5, LL I p0), (6, I (lenL p0)), (7, I z0)] [] 15)) (Sum.elim (fun (x : (Int × Bool)) => (.exit 0, (mkE [(5, LL I p0), (6, I (lenL p0)), (7, I x.1), (8, B x.2)] [] 15))) (fun (x : Int) => (.ret, (mkE [(2, I x)] [] 15)))) 0 (fun z => L17_2_ok C p0 z) ?_
  intro y2
  refine ss y2 (Z := (Sum.elim (fun (x : (Int × Bool)) => (.exit 0, (mkE [(5, LL I p0), (6, I (lenL p0)), (7, I x.1), (8, B x.2)] [] 15))) (fun (x : Int) => (.ret, (mkE [(2, I x)] [] 15))))) (fun y2a => ?_) (fun y2b => ?_)
  · refine pH ?_
    refine pN ?_
    refine pS ?_
    refine gS 0 ?_
    refine gR 7 (rg Tryz.f17 7) ?_
    refine se (mkE [(2, I 0)] [] 15) ?_
    refine pN ?_
    refine pS ?_
    refine gE ?_
    exact pL
  · exact pL
theorem F17 (m : Nat) (hm : 1 ≤ m) (p0 : (List Int)) : callA Tryz.prog cfg m 17 [LL I p0] = (T17 p0).map I := by
  obtain ⟨q, rfl⟩ : ∃ q, m = q + 1 := ⟨m - 1, by omega⟩
  exact (callA_body (fn := Tryz.f17) (c := body_ Tryz.f17) q _ (by kernel_rfl) (by kernel_rfl) (by kernel_rfl)).trans (B17 _ p0)

noncomputable def T80 (p0 : S25) : Option (Int × Int) := (some (p0.f0, (addI .i64 p0.f0 p0.f2)))
theorem B80 (C : Callee) (p0 : S25) : runs Tryz.prog C (cfg.fn 80) (finFn Tryz.prog (cfg.fn 80).byval Tryz.f80) [] (execA Tryz.prog C (cfg.fn 80) (nr Tryz.f80 []) (frame0 [a25 p0] 11 false)) = (T80 p0).map (fun r => AV.tup [I r.1, I r.2]) := by
  unfold T80
  refine gS 1 ?_
  refine gR 0 (rg Tryz.f80 0) ?_
  refine se (mkE [(1, .ba 8 0)] [(8, .box [I p0.f0, I p0.f1, I p0.f2, I p0.f3] false)] 11) ?_
  refine pN ?_
  refine pS ?_
  refine gS 0 ?_
  refine dq 1 (rg Tryz.f80 1) (mkE [(2, I p0.f0), (3, I (addI .i64 p0.f0 p0.f2))] [] 11) ?_
  refine pN ?_
  refine pS ?_
  refine gE ?_
  exact pL
theorem F80 (m : Nat) (hm : 1 ≤ m) (p0 : S25) : callA Tryz.prog cfg m 80 [a25 p0] = (T80 p0).map (fun r => AV.tup [I r.1, I r.2]) := by
  obtain ⟨q, rfl⟩ : ∃ q, m = q + 1 := ⟨m - 1, by omega⟩
  exact (callA_body (fn := Tryz.f80) (c := body_ Tryz.f80) q _ (by kernel_rfl) (by kernel_rfl) (by kernel_rfl)).trans (B80 _ p0)

noncomputable def L79_3 (p0 : (List S25)) (z0 : ((List Int) × Int)) : Option (((List Int) × Int) ⊕ (Int × Bool × (List Int))) := (bif (ltI z0.2 (lenL p0)) then ((listAt p0 z0.2).bind fun x1 => ((T80 x1).bind fun x2 => ((appO 8 z0.1 ([x2.1, x2.2] : List Int)).bind fun x3 => (some (.inl (x3, (addI .i64 z0.2 1))))))) else (some (.inr (z0.2, (ltI z0.2 (lenL p0)), z0.1))))
theorem L79_3_ok (C : Callee) (h80 : ∀ (p0 : S25), C 80 [a25 p0] = (T80 p0).map (fun r => AV.tup [I r.1, I r.2])) (p0 : (List S25)) (z0 : ((List Int) × Int)) : runs Tryz.prog C (cfg.fn 79) (finLoop ((cfg.fn 79).keep 3) ((cfg.fn 79).al 3)) [] (execA Tryz.prog C (cfg.fn 79) (nr Tryz.f79 [false, false, true, false, true, true]) ((fun z0 : ((List Int) × Int) => (mkE [(1, .fn 80 []), (5, .own 40 0), (10, LL a25 p0), (11, I (lenL p0)), (12, I z0.2)] [(40, RR 3 1 I z0.1 0 false)] 32)) z0)) = (L79_3 p0 z0).map (Sum.elim (fun z => .inl ((fun z0 : ((List Int) × Int) => (mkE [(1, .fn 80 []), (5, .own 40 0), (10, LL a25 p0), (11, I (lenL p0)), (12, I z0.2)] [(40, RR 3 1 I z0.1 0 false)] 32)) z)) (fun x => .inr ((fun (x : (Int × Bool × (List Int))) => (.exit 0, (mkE [(1, .fn 80 []), (5, .own 40 0), (10, LL a25 p0), (11, I (lenL p0)), (12, I x.1), (13, B x.2.1)] [(40, RR 3 1 I x.2.2 0 false)] 32))) x))) := by
  unfold L79_3
  let s_0 : List (Nat × AV) := [(10, LL a25 p0), (11, I (lenL p0)), (12, I z0.2)]
  refine gS 0 ?_
  refine gR 3 (rg Tryz.f79 3) ?_
  refine se (mkE ((1, .fn 80 []) :: ((5, .own 40 0) :: (s_0.append [(13, B (ltI z0.2 (lenL p0)))]))) [(40, RR 3 1 I z0.1 0 false)] 32) ?_
  refine pN ?_
  refine pS ?_
  refine gS 4 ?_
  refine gC 13 (ltI z0.2 (lenL p0)) ?_ ?_
  · refine gK ?_
    refine pN ?_
    refine pS ?_
    refine gS 7 ?_
    refine gB 1 ?_
    refine gS 5 ?_
    refine gR 4 (rg Tryz.f79 4) ?_
    refine vo 14 (addrE 42 26 4 a25 .i64 p0 z0.2) (fun x1 => ?_)
    refine se (mkE ((1, .fn 80 []) :: ((5, .own 40 0) :: ((7, .ba 56 0) :: s_0))) [(40, RR 3 1 I z0.1 0 false), (56, .box [I x1.f0, I x1.f1, I x1.f2, I x1.f3] false)] 32) ?_
    refine pN ?_
    refine pS ?_
    refine gS 6 ?_
    refine gR 5 (rg Tryz.f79 5) ?_
    refine sg 2 (mkE ((18, a25 x1) :: ((17, .fn 80 []) :: ((1, .fn 80 []) :: ((5, .own 40 0) :: ((7, .ba 56 0) :: s_0))))) [(40, RR 3 1 I z0.1 0 false), (56, .box [I x1.f0, I x1.f1, I x1.f2, I x1.f3] false)] 32) ?_
    refine co 19 [] (h80 x1) (fun x2 => ?_)
    refine se (mkE ((1, .fn 80 []) :: ((5, .own 40 0) :: ((8, I x2.1) :: ((9, I x2.2) :: s_0)))) [(40, RR 3 1 I z0.1 0 false)] 32) ?_
    refine pN ?_
    refine pS ?_
    refine gR 6 (rg Tryz.f79 6) ?_
    refine sg 4 (mkE ((25, .own 200 0) :: ((24, I x2.2) :: ((23, I x2.1) :: ((22, .own 40 0) :: ((1, .fn 80 []) :: ((5, .own 40 0) :: ((8, I x2.1) :: ((9, I x2.2) :: s_0)))))))) [(200, RR 3 1 I ([x2.1, x2.2] : List Int) 0 false), (40, RR 3 1 I z0.1 0 false)] 32) ?_
    refine mo (some 26) (apO 102 3 1 8 40 I 0 [200] (y := .own 200 0) (l2 := ([x2.1, x2.2] : List Int))) (fun x3 => ?_)
    refine se (mkE ((1, .fn 80 []) :: ((5, .own 40 1) :: s_0)) [(40, RR 3 1 I x3 1 false)] 32) ?_
    refine pB ?_
    refine pN ?_
    refine pS ?_
    refine gR 7 (rg Tryz.f79 7) ?_
    refine se (mkE [(1, .fn 80 []), (5, .own 40 1), (10, LL a25 p0), (11, I (lenL p0)), (12, I (addI .i64 z0.2 1))] [(40, RR 3 1 I x3 1 false)] 32) ?_
    exact pL
  · refine gX 0 ?_
    exact pL
noncomputable def T79 (p0 : (List S25)) : Option (List Int) := ((iter (L79_3 p0) ([], 0)).bind fun y4 => ((sortIO y4.2.2).bind fun x5 => ((compIO x5).bind fun x6 => (some x6))))
theorem B79 (C : Callee) (h66 : ∀ (p0 : (List Int)), C 66 [.fr 3 1 (List.map I p0)] = (sortIO p0).map (fun (r : (List Int)) => AV.inp (.tup []) (.fr 3 1 (List.map I r)))) (h67 : ∀ (p0 : (List Int)), C 67 [.fr 3 1 (List.map I p0)] = (compIO p0).map (fun l => AV.fr 3 1 (List.map I l))) (h80 : ∀ (p0 : S25), C 80 [a25 p0] = (T80 p0).map (fun r => AV.tup [I r.1, I r.2])) (p0 : (List S25)) : runs Tryz.prog C (cfg.fn 79) (finFn Tryz.prog (cfg.fn 79).byval Tryz.f79) [] (execA Tryz.prog C (cfg.fn 79) (nr Tryz.f79 []) (frame0 [LL a25 p0, .fn 80 []] 32 false)) = (T79 p0).map (fun l => AV.fr 3 1 (List.map I l)) := by
  unfold T79
  let s_0 : List (Nat × AV) := [(1, .fn 80 []), (5, .own 40 0), (10, LL a25 p0), (11, I (lenL p0))]
  refine gS 1 ?_
  refine gR 0 (rg Tryz.f79 0) ?_
  refine se (mkE [(0, LL a25 p0), (1, .fn 80 [])] [] 32) ?_
  refine pN ?_
  refine pS ?_
  refine gS 2 ?_
  refine gR 1 (rg Tryz.f79 1) ?_
  refine se (mkE [(0, LL a25 p0), (1, .fn 80 []), (5, .nils)] [] 32) ?_
  refine pN ?_
  refine pS ?_
  refine gS 8 ?_
  refine gS 3 ?_
  refine gR 2 (rg Tryz.f79 2) ?_
  refine sg 1 (mkE [(10, LL a25 p0), (0, LL a25 p0), (1, .fn 80 []), (5, .nils)] [] 32) ?_
  refine eo 11 (I (lenL p0)) (lenE 42 a25 p0) ?_
  refine se (mkE [(1, .fn 80 []), (5, .nils), (10, LL a25 p0), (11, I (lenL p0)), (12, I 0)] [] 32) ?_
  refine pN ?_
  refine pS ?_
  refine gB 0 ?_
  refine lo [(1, none), (5, some (3, 1)), (10, none), (11, none), (12, none)] [] (L79_3 p0) (fun z0 : ((List Int) × Int) => (mkE (s_0.append [(12, I z0.2)]) [(40, RR 3 1 I z0.1 0 false)] 32)) (fun (x : (Int × Bool × (List Int))) => (.exit 0, (mkE (s_0.append ((12, I x.1) :: [(13, B x.2.1)])) [(40, RR 3 1 I x.2.2 0 false)] 32))) ([], 0) (fun z => L79_3_ok C h80 p0 z) ?_
  intro y4
  refine pH ?_
  refine pN ?_
  refine pS ?_
  refine gS 9 ?_
  refine gR 8 (rg Tryz.f79 8) ?_
  refine sg 1 (mkE ((28, .own 40 0) :: (s_0.append ((12, I y4.1) :: [(13, B y4.2.1)]))) [(40, RR 3 1 I y4.2.2 0 false)] 32) ?_
  refine mo (some 29) (ipR 66 3 1 40 0 I y4.2.2 [] [] [] (fun x : (List Int) => .tup []) (fun x : (List Int) => x) (h66 y4.2.2)) (fun x5 => ?_)
  refine se (mkE [(5, .own 40 0)] [(40, RR 3 1 I x5 0 false)] 32) ?_
  refine pN ?_
  refine pS ?_
  refine gS 0 ?_
  refine gR 9 (rg Tryz.f79 9) ?_
  refine sg 1 (mkE [(30, .own 40 0), (5, .own 40 0)] [(40, RR 3 1 I x5 0 false)] 32) ?_
  refine mo (some 31) (gvO 67 3 1 40 0 I x5 [] [] [] (h67 x5)) (fun x6 => ?_)
  refine se (mkE [(4, .own 40 1)] [(40, RR 3 1 I x6 1 false)] 32) ?_
  refine pN ?_
  refine pS ?_
  refine gE ?_
  exact pL
theorem F79 (m : Nat) (hm : 2 ≤ m) (p0 : (List S25)) : callA Tryz.prog cfg m 79 [LL a25 p0, .fn 80 []] = (T79 p0).map (fun l => AV.fr 3 1 (List.map I l)) := by
  obtain ⟨q, rfl⟩ : ∃ q, m = q + 1 := ⟨m - 1, by omega⟩
  exact (callA_body (fn := Tryz.f79) (c := body_ Tryz.f79) q _ (by kernel_rfl) (by kernel_rfl) (by kernel_rfl)).trans (B79 _ (fun p0 => F66 q (by omega) p0) (fun p0 => F67 q (by omega) p0) (fun p0 => F80 q (by omega) p0) p0)

noncomputable def T81 (p0 : S25) : Option (Int × Int) := (some (p0.f1, (addI .i64 p0.f1 p0.f3)))
theorem B81 (C : Callee) (p0 : S25) : runs Tryz.prog C (cfg.fn 81) (finFn Tryz.prog (cfg.fn 81).byval Tryz.f81) [] (execA Tryz.prog C (cfg.fn 81) (nr Tryz.f81 []) (frame0 [a25 p0] 11 false)) = (T81 p0).map (fun r => AV.tup [I r.1, I r.2]) := by
  unfold T81
  refine gS 1 ?_
  refine gR 0 (rg Tryz.f81 0) ?_
  refine se (mkE [(1, .ba 8 0)] [(8, .box [I p0.f0, I p0.f1, I p0.f2, I p0.f3] false)] 11) ?_
  refine pN ?_
  refine pS ?_
  refine gS 0 ?_
  refine dq 1 (rg Tryz.f81 1) (mkE [(2, I p0.f1), (3, I (addI .i64 p0.f1 p0.f3))] [] 11) ?_
  refine pN ?_
  refine pS ?_
  refine gE ?_
  exact pL
theorem F81 (m : Nat) (hm : 1 ≤ m) (p0 : S25) : callA Tryz.prog cfg m 81 [a25 p0] = (T81 p0).map (fun r => AV.tup [I r.1, I r.2]) := by
  obtain ⟨q, rfl⟩ : ∃ q, m = q + 1 := ⟨m - 1, by omega⟩
  exact (callA_body (fn := Tryz.f81) (c := body_ Tryz.f81) q _ (by kernel_rfl) (by kernel_rfl) (by kernel_rfl)).trans (B81 _ p0)

noncomputable def L79_1_3 (p0 : (List S25)) (z0 : ((List Int) × Int)) : Option (((List Int) × Int) ⊕ (Int × Bool × (List Int))) := (bif (ltI z0.2 (lenL p0)) then ((listAt p0 z0.2).bind fun x1 => ((T81 x1).bind fun x2 => ((appO 8 z0.1 ([x2.1, x2.2] : List Int)).bind fun x3 => (some (.inl (x3, (addI .i64 z0.2 1))))))) else (some (.inr (z0.2, (ltI z0.2 (lenL p0)), z0.1))))
theorem L79_1_3_ok (C : Callee) (h81 : ∀ (p0 : S25), C 81 [a25 p0] = (T81 p0).map (fun r => AV.tup [I r.1, I r.2])) (p0 : (List S25)) (z0 : ((List Int) × Int)) : runs Tryz.prog C (cfg.fn 79) (finLoop ((cfg.fn 79).keep 3) ((cfg.fn 79).al 3)) [] (execA Tryz.prog C (cfg.fn 79) (nr Tryz.f79 [false, false, true, false, true, true]) ((fun z0 : ((List Int) × Int) => (mkE [(1, .fn 81 []), (5, .own 40 0), (10, LL a25 p0), (11, I (lenL p0)), (12, I z0.2)] [(40, RR 3 1 I z0.1 0 false)] 32)) z0)) = (L79_1_3 p0 z0).map (Sum.elim (fun z => .inl ((fun z0 : ((List Int) × Int) => (mkE [(1, .fn 81 []), (5, .own 40 0), (10, LL a25 p0), (11, I (lenL p0)), (12, I z0.2)] [(40, RR 3 1 I z0.1 0 false)] 32)) z)) (fun x => .inr ((fun (x : (Int × Bool × (List Int))) => (.exit 0, (mkE [(1, .fn 81 []), (5, .own 40 0), (10, LL a25 p0), (11, I (lenL p0)), (12, I x.1), (13, B x.2.1)] [(40, RR 3 1 I x.2.2 0 false)] 32))) x))) := by
  unfold L79_1_3
  let s_0 : List (Nat × AV) := [(10, LL a25 p0), (11, I (lenL p0)), (12, I z0.2)]
  refine gS 0 ?_
  refine gR 3 (rg Tryz.f79 3) ?_
  refine se (mkE ((1, .fn 81 []) :: ((5, .own 40 0) :: (s_0.append [(13, B (ltI z0.2 (lenL p0)))]))) [(40, RR 3 1 I z0.1 0 false)] 32) ?_
  refine pN ?_
  refine pS ?_
  refine gS 4 ?_
  refine gC 13 (ltI z0.2 (lenL p0)) ?_ ?_
  · refine gK ?_
    refine pN ?_
    refine pS ?_
    refine gS 7 ?_
    refine gB 1 ?_
    refine gS 5 ?_
    refine gR 4 (rg Tryz.f79 4) ?_
    refine vo 14 (addrE 42 26 4 a25 .i64 p0 z0.2) (fun x1 => ?_)
    refine se (mkE ((1, .fn 81 []) :: ((5, .own 40 0) :: ((7, .ba 56 0) :: s_0))) [(40, RR 3 1 I z0.1 0 false), (56, .box [I x1.f0, I x1.f1, I x1.f2, I x1.f3] false)] 32) ?_
    refine pN ?_
    refine pS ?_
    refine gS 6 ?_
    refine gR 5 (rg Tryz.f79 5) ?_
    refine sg 2 (mkE ((18, a25 x1) :: ((17, .fn 81 []) :: ((1, .fn 81 []) :: ((5, .own 40 0) :: ((7, .ba 56 0) :: s_0))))) [(40, RR 3 1 I z0.1 0 false), (56, .box [I x1.f0, I x1.f1, I x1.f2, I x1.f3] false)] 32) ?_
    refine co 19 [] (h81 x1) (fun x2 => ?_)
    refine se (mkE ((1, .fn 81 []) :: ((5, .own 40 0) :: ((8, I x2.1) :: ((9, I x2.2) :: s_0)))) [(40, RR 3 1 I z0.1 0 false)] 32) ?_
    refine pN ?_
    refine pS ?_
    refine gR 6 (rg Tryz.f79 6) ?_
    refine sg 4 (mkE ((25, .own 200 0) :: ((24, I x2.2) :: ((23, I x2.1) :: ((22, .own 40 0) :: ((1, .fn 81 []) :: ((5, .own 40 0) :: ((8, I x2.1) :: ((9, I x2.2) :: s_0)))))))) [(200, RR 3 1 I ([x2.1, x2.2] : List Int) 0 false), (40, RR 3 1 I z0.1 0 false)] 32) ?_
    refine mo (some 26) (apO 102 3 1 8 40 I 0 [200] (y := .own 200 0) (l2 := ([x2.1, x2.2] : List Int))) (fun x3 => ?_)
    refine se (mkE ((1, .fn 81 []) :: ((5, .own 40 1) :: s_0)) [(40, RR 3 1 I x3 1 false)] 32) ?_
    refine pB ?_
    refine pN ?_
    refine pS ?_
    refine gR 7 (rg Tryz.f79 7) ?_
    refine se (mkE [(1, .fn 81 []), (5, .own 40 1), (10, LL a25 p0), (11, I (lenL p0)), (12, I (addI .i64 z0.2 1))] [(40, RR 3 1 I x3 1 false)] 32) ?_
    exact pL
  · refine gX 0 ?_
    exact pL
noncomputable def T79_1 (p0 : (List S25)) : Option (List Int) := ((iter (L79_1_3 p0) ([], 0)).bind fun y4 => ((sortIO y4.2.2).bind fun x5 => ((compIO x5).bind fun x6 => (some x6))))
theorem B79_1 (C : Callee) (h66 : ∀ (p0 : (List Int)), C 66 [.fr 3 1 (List.map I p0)] = (sortIO p0).map (fun (r : (List Int)) => AV.inp (.tup []) (.fr 3 1 (List.map I r)))) (h67 : ∀ (p0 : (List Int)), C 67 [.fr 3 1 (List.map I p0)] = (compIO p0).map (fun l => AV.fr 3 1 (List.map I l))) (h81 : ∀ (p0 : S25), C 81 [a25 p0] = (T81 p0).map (fun r => AV.tup [I r.1, I r.2])) (p0 : (List S25)) : runs Tryz.prog C (cfg.fn 79) (finFn Tryz.prog (cfg.fn 79).byval Tryz.f79) [] (execA Tryz.prog C (cfg.fn 79) (nr Tryz.f79 []) (frame0 [LL a25 p0, .fn 81 []] 32 false)) = (T79_1 p0).map (fun l => AV.fr 3 1 (List.map I l)) := by
  unfold T79_1
  let s_0 : List (Nat × AV) := [(1, .fn 81 []), (5, .own 40 0), (10, LL a25 p0), (11, I (lenL p0))]
  refine gS 1 ?_
  refine gR 0 (rg Tryz.f79 0) ?_
  refine se (mkE [(0, LL a25 p0), (1, .fn 81 [])] [] 32) ?_
  refine pN ?_
  refine pS ?_
  refine gS 2 ?_
  refine gR 1 (rg Tryz.f79 1) ?_
  refine se (mkE [(0, LL a25 p0), (1, .fn 81 []), (5, .nils)] [] 32) ?_
  refine pN ?_
  refine pS ?_
  refine gS 8 ?_
  refine gS 3 ?_
  refine gR 2 (rg Tryz.f79 2) ?_
  refine sg 1 (mkE [(10, LL a25 p0), (0, LL a25 p0), (1, .fn 81 []), (5, .nils)] [] 32) ?_
  refine eo 11 (I (lenL p0)) (lenE 42 a25 p0) ?_
  refine se (mkE [(1, .fn 81 []), (5, .nils), (10, LL a25 p0), (11, I (lenL p0)), (12, I 0)] [] 32) ?_
  refine pN ?_
  refine pS ?_
  refine gB 0 ?_
  refine lo [(1, none), (5, some (3, 1)), (10, none), (11, none), (12, none)] [] (L79_1_3 p0) (fun z0 : ((List Int) × Int) => (mkE (s_0.append [(12, I z0.2)]) [(40, RR 3 1 I z0.1 0 false)] 32)) (fun (x : (Int × Bool × (List Int))) => (.exit 0, (mkE (s_0.append ((12, I x.1) :: [(13, B x.2.1)])) [(40, RR 3 1 I x.2.2 0 false)] 32))) ([], 0) (fun z => L79_1_3_ok C h81 p0 z) ?_
  intro y4
  refine pH ?_
  refine pN ?_
  refine pS ?_
  refine gS 9 ?_
  refine gR 8 (rg Tryz.f79 8) ?_
  refine sg 1 (mkE ((28, .own 40 0) :: (s_0.append ((12, I y4.1) :: [(13, B y4.2.1)]))) [(40, RR 3 1 I y4.2.2 0 false)] 32) ?_
  refine mo (some 29) (ipR 66 3 1 40 0 I y4.2.2 [] [] [] (fun x : (List Int) => .tup []) (fun x : (List Int) => x) (h66 y4.2.2)) (fun x5 => ?_)
  refine se (mkE [(5, .own 40 0)] [(40, RR 3 1 I x5 0 false)] 32) ?_
  refine pN ?_
  refine pS ?_
  refine gS 0 ?_
  refine gR 9 (rg Tryz.f79 9) ?_
  refine sg 1 (mkE [(30, .own 40 0), (5, .own 40 0)] [(40, RR 3 1 I x5 0 false)] 32) ?_
  refine mo (some 31) (gvO 67 3 1 40 0 I x5 [] [] [] (h67 x5)) (fun x6 => ?_)
  refine se (mkE [(4, .own 40 1)] [(40, RR 3 1 I x6 1 false)] 32) ?_
  refine pN ?_
  refine pS ?_
  refine gE ?_
  exact pL
theorem F79_1 (m : Nat) (hm : 2 ≤ m) (p0 : (List S25)) : callA Tryz.prog cfg m 79 [LL a25 p0, .fn 81 []] = (T79_1 p0).map (fun l => AV.fr 3 1 (List.map I l)) := by
  obtain ⟨q, rfl⟩ : ∃ q, m = q + 1 := ⟨m - 1, by omega⟩
  exact (callA_body (fn := Tryz.f79) (c := body_ Tryz.f79) q _ (by kernel_rfl) (by kernel_rfl) (by kernel_rfl)).trans (B79_1 _ (fun p0 => F66 q (by omega) p0) (fun p0 => F67 q (by omega) p0) (fun p0 => F81 q (by omega) p0) p0)

noncomputable def T54 (p0 : S25) (p1 : Int) (p2 : Int) : Option Bool := ((T53 p1 p0.f0 (subI .i64 (addI .i64 p0.f0 p0.f2) 1)).bind fun x1 => (bif x1 then ((T53 p2 p0.f1 (subI .i64 (addI .i64 p0.f1 p0.f3) 1)).bind fun x2 => (some x2)) else (some false)))
theorem B54 (C : Callee) (h53 : ∀ (p0 : Int) (p1 : Int) (p2 : Int), C 53 [I p0, I p1, I p2] = (T53 p0 p1 p2).map B) (p0 : S25) (p1 : Int) (p2 : Int) : runs Tryz.prog C (cfg.fn 54) (finFn Tryz.prog (cfg.fn 54).byval Tryz.f54) [] (execA Tryz.prog C (cfg.fn 54) (nr Tryz.f54 []) (frame0 [a25 p0, I p1, I p2] 29 false)) = (T54 p0 p1 p2).map B := by
  unfold T54
  let s_0 : List (Nat × AV) := [(15, I (subI .i64 (addI .i64 p0.f0 p0.f2) 1)), (14, I (addI .i64 p0.f0 p0.f2)), (13, I p0.f2), (12, .ba 24 2), (11, I p0.f0), (10, .ba 24 0), (9, I p0.f0), (8, .ba 24 0), (7, I p1), (1, I p1), (2, I p2), (3, .ba 24 0)]
  let o_0 : List (Nat × AObj) := [(24, .box [I p0.f0, I p0.f1, I p0.f2, I p0.f3] false)]
  refine gS 1 ?_
  refine gR 0 (rg Tryz.f54 0) ?_
  refine se (mkE [(1, I p1), (2, I p2), (3, .ba 24 0)] o_0 29) ?_
  refine pN ?_
  refine pS ?_
  refine gS 0 ?_
  refine gR 1 (rg Tryz.f54 1) ?_
  refine sg 9 (mkE s_0 o_0 29) ?_
  refine co 16 [] (h53 p1 p0.f0 (subI .i64 (addI .i64 p0.f0 p0.f2) 1)) (fun x1 => ?_)
  refine sg 11 (mkE ((17, B x1) :: ((16, B x1) :: s_0)) o_0 29) ?_
  refine sb 17 x1 ?_ ?_
  · refine sg 20 (mkE ((26, I (subI .i64 (addI .i64 p0.f1 p0.f3) 1)) :: ((25, I (addI .i64 p0.f1 p0.f3)) :: ((24, I p0.f3) :: ((23, .ba 24 3) :: ((22, I p0.f1) :: ((21, .ba 24 1) :: ((20, I p0.f1) :: ((19, .ba 24 1) :: ((18, I p2) :: ((17, B true) :: ((17, B x1) :: ((16, B x1) :: s_0)))))))))))) o_0 29) ?_
    refine co 27 [] (h53 p2 p0.f1 (subI .i64 (addI .i64 p0.f1 p0.f3) 1)) (fun x2 => ?_)
    refine se (mkE [(6, B x2)] [] 29) ?_
    refine pN ?_
    refine pS ?_
    refine gE ?_
    exact pL
  · refine se (mkE [(6, B false)] [] 29) ?_
    refine pN ?_
    refine pS ?_
    refine gE ?_
    exact pL
theorem F54 (m : Nat) (hm : 2 ≤ m) (p0 : S25) (p1 : Int) (p2 : Int) : callA Tryz.prog cfg m 54 [a25 p0, I p1, I p2] = (T54 p0 p1 p2).map B := by
  obtain ⟨q, rfl⟩ : ∃ q, m = q + 1 := ⟨m - 1, by omega⟩
  exact (callA_body (fn := Tryz.f54) (c := body_ Tryz.f54) q _ (by kernel_rfl) (by kernel_rfl) (by kernel_rfl)).trans (B54 _ (fun p0 p1 p2 => F53 q (by omega) p0 p1 p2) p0 p1 p2)

noncomputable def L62_3 (p0 : S31) (p1 : Int) (p2 : Int) (z0 : (Int × Int)) : Option ((Int × Int) ⊕ (Int × Int × Bool)) := (bif (ltI z0.2 (lenL p0.f3)) then ((listAt p0.f3 z0.2).bind fun x1 => ((T54 x1.f1 p1 p2).bind fun x2 => (bif x2 then (bif (ltI z0.1 0) then (some (.inl (z0.2, (addI .i64 z0.2 1)))) else ((listAt p0.f3 z0.1).bind fun x3 => (bif (leI x3.f2 x1.f2) then (some (.inl (z0.2, (addI .i64 z0.2 1)))) else (some (.inl (z0.1, (addI .i64 z0.2 1))))))) else (some (.inl (z0.1, (addI .i64 z0.2 1))))))) else (some (.inr (z0.1, z0.2, (ltI z0.2 (lenL p0.f3))))))
theorem L62_3_ok (C : Callee) (h54 : ∀ (p0 : S25) (p1 : Int) (p2 : Int), C 54 [a25 p0, I p1, I p2] = (T54 p0 p1 p2).map B) (p0 : S31) (p1 : Int) (p2 : Int) (z0 : (Int × Int)) : runs Tryz.prog C (cfg.fn 62) (finLoop ((cfg.fn 62).keep 3) ((cfg.fn 62).al 3)) [] (execA Tryz.prog C (cfg.fn 62) (nr Tryz.f62 [false, false, true, false, true, true]) ((fun z0 : (Int × Int) => (mkE [(1, I p1), (2, I p2), (3, .ba 24 0), (8, I z0.1), (12, LL a64 p0.f3), (13, I (lenL p0.f3)), (14, I z0.2)] [(24, .box [S p0.f0, I p0.f1, I p0.f2, LL a64 p0.f3] false)] 49)) z0)) = (L62_3 p0 p1 p2 z0).map (Sum.elim (fun z => .inl ((fun z0 : (Int × Int) => (mkE [(1, I p1), (2, I p2), (3, .ba 24 0), (8, I z0.1), (12, LL a64 p0.f3), (13, I (lenL p0.f3)), (14, I z0.2)] [(24, .box [S p0.f0, I p0.f1, I p0.f2, LL a64 p0.f3] false)] 49)) z)) (fun x => .inr ((fun (x : (Int × Int × Bool)) => (.exit 0, (mkE [(1, I p1), (2, I p2), (3, .ba 24 0), (8, I x.1), (12, LL a64 p0.f3), (13, I (lenL p0.f3)), (14, I x.2.1), (15, B x.2.2)] [(24, .box [S p0.f0, I p0.f1, I p0.f2, LL a64 p0.f3] false)] 49))) x))) := by
  unfold L62_3
  let d_0 : List (Option Nat × REff) := [(some 24, qe (B true)), (some 25, qe (I z0.1)), (some 26, qe (B (ltI z0.1 0)))]
  let d_1 : List (Option Nat × REff) := [(some 21, qe (I p1)), (some 22, qe (I p2))]
  let d_2 : List (Option Nat × REff) := [(some 28, qe (.und)), (some 29, qe (.und)), (some 30, qe (.und)), (some 31, qe (.und)), (some 32, qe (.und)), (some 33, qe (.und)), (some 34, qe (.und)), (some 35, qe (.und)), (some 36, qe (.und))]
  let s_0 : List (Nat × AV) := [(1, I p1), (2, I p2), (3, .ba 24 0), (8, I z0.1), (9, I z0.2), (10, .ba 80 0), (12, LL a64 p0.f3), (13, I (lenL p0.f3)), (14, I z0.2)]
  let s_1 : List (Nat × AV) := [(12, LL a64 p0.f3), (13, I (lenL p0.f3))]
  let s_2 : List (Nat × AV) := [(1, I p1), (2, I p2), (3, .ba 24 0)]
  let o_0 : List (Nat × AObj) := [(24, .box [S p0.f0, I p0.f1, I p0.f2, LL a64 p0.f3] false)]
  refine gS 0 ?_
  refine gR 3 (rg Tryz.f62 3) ?_
  refine se (mkE (s_2.append ((8, I z0.1) :: (s_1.append ((14, I z0.2) :: [(15, B (ltI z0.2 (lenL p0.f3)))])))) o_0 49) ?_
  refine pN ?_
  refine pS ?_
  refine gS 4 ?_
  refine gC 15 (ltI z0.2 (lenL p0.f3)) ?_ ?_
  · refine gK ?_
    refine pN ?_
    refine pS ?_
    refine gS 7 ?_
    refine gB 1 ?_
    refine gS 5 ?_
    refine gR 4 (rg Tryz.f62 4) ?_
    refine sg 1 (mkE ((16, I z0.2) :: (s_2.append ((8, I z0.1) :: (s_1.append ((14, I z0.2) :: [(15, B (ltI z0.2 (lenL p0.f3)))]))))) o_0 49) ?_
    refine vo 17 (addrE 30 65 6 a64 .i64 p0.f3 z0.2) (fun x1 => ?_)
    refine se (mkE s_0 (o_0.append [(80, .box [S x1.f0, I x1.f1.f0, I x1.f1.f1, I x1.f1.f2, I x1.f1.f3, I x1.f2] false)]) 49) ?_
    refine pN ?_
    refine pS ?_
    refine gS 0 ?_
    refine gD 5 20 (rg Tryz.f62 5) [0, 1, 2, 3, 4, 5, 6, 7, 8, 9, 10, 11, 12, 13, 14, 15, 16, 17, 18, 19] ?_
    refine dg 4 ((some 19, qe (.ba 80 1)) :: ((some 20, qe (a25 x1.f1)) :: d_1)) ?_
    refine dc 23 [] (mkE ((22, I p2) :: ((21, I p1) :: ((20, a25 x1.f1) :: ((19, .ba 80 1) :: s_0)))) (o_0.append [(80, .box [S x1.f0, I x1.f1.f0, I x1.f1.f1, I x1.f1.f2, I x1.f1.f3, I x1.f2] false)]) 49) (h54 x1.f1 p1 p2) (fun x2 => ?_)
    refine dg 6 ((some 19, qe (.ba 80 1)) :: ((some 20, qe (a25 x1.f1)) :: (d_1.append ((some 23, qe (B x2)) :: [(some 24, qe (B x2))])))) ?_
    refine db 5 24 x2 ?_ ?_
    · refine dg 9 ((some 19, qe (.ba 80 1)) :: ((some 20, qe (a25 x1.f1)) :: (d_1.append ((some 23, qe (B x2)) :: (d_0.append [(some 27, qe (B (ltI z0.1 0)))]))))) ?_
      refine db 8 27 (ltI z0.1 0) ?_ ?_
      · refine dg 20 ((some 19, qe (.ba 80 1)) :: ((some 20, qe (a25 x1.f1)) :: (d_1.append ((some 23, qe (B x2)) :: (d_0.append ((some 27, qe (B true)) :: (d_2.append ((some 37, qe (B true)) :: [(some 38, qe (B true))])))))))) ?_
        refine de (mkE ((38, B true) :: ((37, B true) :: ((36, .und) :: ((35, .und) :: ((34, .und) :: ((33, .und) :: ((32, .und) :: ((31, .und) :: ((30, .und) :: ((29, .und) :: ((28, .und) :: ((27, B true) :: ((26, B (ltI z0.1 0)) :: ((25, I z0.1) :: ((24, B true) :: ((23, B x2) :: ((22, I p2) :: ((21, I p1) :: ((20, a25 x1.f1) :: ((19, .ba 80 1) :: s_0)))))))))))))))))))) (o_0.append [(80, .box [S x1.f0, I x1.f1.f0, I x1.f1.f1, I x1.f1.f2, I x1.f1.f3, I x1.f2] false)]) 49) ?_
        refine se (mkE (s_2.append ((8, I z0.1) :: ((9, I z0.2) :: (s_1.append ((14, I z0.2) :: [(38, B true)]))))) o_0 49) ?_
        refine pN ?_
        refine pS ?_
        refine gT (.tmp 38) ?_
        refine gR 6 (rg Tryz.f62 6) ?_
        refine se (mkE (s_2.append ((8, I z0.2) :: (s_1.append [(14, I z0.2)]))) o_0 49) ?_
        refine pB ?_
        refine pN ?_
        refine pS ?_
        refine gR 7 (rg Tryz.f62 7) ?_
        refine se (mkE (s_2.append ((8, I z0.2) :: (s_1.append [(14, I (addI .i64 z0.2 1))]))) o_0 49) ?_
        exact pL
      · refine dg 14 ((some 19, qe (.ba 80 1)) :: ((some 20, qe (a25 x1.f1)) :: (d_1.append ((some 23, qe (B x2)) :: (d_0.append ((some 27, qe (B false)) :: ((some 28, qe (.ba 80 5)) :: ((some 29, qe (I x1.f2)) :: ((some 30, qe (.ba 24 3)) :: ((some 31, qe (LL a64 p0.f3)) :: [(some 32, qe (I z0.1))])))))))))) ?_
        refine dv 33 (mkE ((32, I z0.1) :: ((31, LL a64 p0.f3) :: ((30, .ba 24 3) :: ((27, B false) :: ((26, B (ltI z0.1 0)) :: ((25, I z0.1) :: ((24, B true) :: ((23, B x2) :: ((22, I p2) :: ((21, I p1) :: ((20, a25 x1.f1) :: ((19, .ba 80 1) :: s_0)))))))))))) (o_0.append [(80, .box [S x1.f0, I x1.f1.f0, I x1.f1.f1, I x1.f1.f2, I x1.f1.f3, I x1.f2] false)]) 49) (addrE 30 65 6 a64 .i64 p0.f3 z0.1) (fun x3 => ?_)
        refine dg 20 ((some 19, qe (.ba 80 1)) :: ((some 20, qe (a25 x1.f1)) :: (d_1.append ((some 23, qe (B x2)) :: (d_0.append ((some 27, qe (B false)) :: ((some 28, qe (.ba 80 5)) :: ((some 29, qe (I x1.f2)) :: ((some 30, qe (.ba 24 3)) :: ((some 31, qe (LL a64 p0.f3)) :: ((some 32, qe (I z0.1)) :: ((some 33, qe (.ia [S x3.f0, I x3.f1.f0, I x3.f1.f1, I x3.f1.f2, I x3.f1.f3, I x3.f2] 0)) :: ((some 34, qe (.ia [S x3.f0, I x3.f1.f0, I x3.f1.f1, I x3.f1.f2, I x3.f1.f3, I x3.f2] 5)) :: ((some 35, qe (I x3.f2)) :: ((some 36, qe (B (leI x3.f2 x1.f2))) :: ((some 37, qe (B (leI x3.f2 x1.f2))) :: [(some 38, qe (B (leI x3.f2 x1.f2)))])))))))))))))))) ?_
        refine de (mkE ((38, B (leI x3.f2 x1.f2)) :: ((37, B (leI x3.f2 x1.f2)) :: ((36, B (leI x3.f2 x1.f2)) :: ((35, I x3.f2) :: ((34, .ia [S x3.f0, I x3.f1.f0, I x3.f1.f1, I x3.f1.f2, I x3.f1.f3, I x3.f2] 5) :: ((33, .ia [S x3.f0, I x3.f1.f0, I x3.f1.f1, I x3.f1.f2, I x3.f1.f3, I x3.f2] 0) :: ((32, I z0.1) :: ((31, LL a64 p0.f3) :: ((30, .ba 24 3) :: ((29, I x1.f2) :: ((28, .ba 80 5) :: ((27, B false) :: ((26, B (ltI z0.1 0)) :: ((25, I z0.1) :: ((24, B true) :: ((23, B x2) :: ((22, I p2) :: ((21, I p1) :: ((20, a25 x1.f1) :: ((19, .ba 80 1) :: s_0)))))))))))))))))))) (o_0.append [(80, .box [S x1.f0, I x1.f1.f0, I x1.f1.f1, I x1.f1.f2, I x1.f1.f3, I x1.f2] false)]) 49) ?_
        refine se (mkE (s_2.append ((8, I z0.1) :: ((9, I z0.2) :: (s_1.append ((14, I z0.2) :: [(38, B (leI x3.f2 x1.f2))]))))) o_0 49) ?_
        refine pN ?_
        refine pS ?_
        refine gC 38 (leI x3.f2 x1.f2) ?_ ?_
        · refine gR 6 (rg Tryz.f62 6) ?_
          refine se (mkE (s_2.append ((8, I z0.2) :: (s_1.append [(14, I z0.2)]))) o_0 49) ?_
          refine pB ?_
          refine pN ?_
          refine pS ?_
          refine gR 7 (rg Tryz.f62 7) ?_
          refine se (mkE (s_2.append ((8, I z0.2) :: (s_1.append [(14, I (addI .i64 z0.2 1))]))) o_0 49) ?_
          exact pL
        · refine gK ?_
          refine pB ?_
          refine pN ?_
          refine pS ?_
          refine gR 7 (rg Tryz.f62 7) ?_
          refine se (mkE (s_2.append ((8, I z0.1) :: (s_1.append [(14, I (addI .i64 z0.2 1))]))) o_0 49) ?_
          exact pL
    · refine dg 20 ((some 19, qe (.ba 80 1)) :: ((some 20, qe (a25 x1.f1)) :: (d_1.append ((some 23, qe (B x2)) :: ((some 24, qe (B false)) :: ((some 25, qe (.und)) :: ((some 26, qe (.und)) :: ((some 27, qe (.und)) :: (d_2.append ((some 37, qe (.und)) :: [(some 38, qe (B false))])))))))))) ?_
      refine de (mkE ((38, B false) :: ((37, .und) :: ((36, .und) :: ((35, .und) :: ((34, .und) :: ((33, .und) :: ((32, .und) :: ((31, .und) :: ((30, .und) :: ((29, .und) :: ((28, .und) :: ((27, .und) :: ((26, .und) :: ((25, .und) :: ((24, B false) :: ((23, B x2) :: ((22, I p2) :: ((21, I p1) :: ((20, a25 x1.f1) :: ((19, .ba 80 1) :: s_0)))))))))))))))))))) (o_0.append [(80, .box [S x1.f0, I x1.f1.f0, I x1.f1.f1, I x1.f1.f2, I x1.f1.f3, I x1.f2] false)]) 49) ?_
      refine se (mkE (s_2.append ((8, I z0.1) :: ((9, I z0.2) :: (s_1.append ((14, I z0.2) :: [(38, B false)]))))) o_0 49) ?_
      refine pN ?_
      refine pS ?_
      refine gF (.tmp 38) ?_
      refine gK ?_
      refine pB ?_
      refine pN ?_
      refine pS ?_
      refine gR 7 (rg Tryz.f62 7) ?_
      refine se (mkE (s_2.append ((8, I z0.1) :: (s_1.append [(14, I (addI .i64 z0.2 1))]))) o_0 49) ?_
      exact pL
  · refine gX 0 ?_
    exact pL
noncomputable def T62 (p0 : S31) (p1 : Int) (p2 : Int) : Option (ByteArray × Bool) := ((iter (L62_3 p0 p1 p2) ((-1), 0)).bind fun y4 => (bif (ltI y4.1 0) then (some ((ByteArray.mk #[]), false)) else ((listAt p0.f3 y4.1).bind fun x5 => (some (x5.f0, true)))))
theorem B62 (C : Callee) (h54 : ∀ (p0 : S25) (p1 : Int) (p2 : Int), C 54 [a25 p0, I p1, I p2] = (T54 p0 p1 p2).map B) (p0 : S31) (p1 : Int) (p2 : Int) : runs Tryz.prog C (cfg.fn 62) (finFn Tryz.prog (cfg.fn 62).byval Tryz.f62) [] (execA Tryz.prog C (cfg.fn 62) (nr Tryz.f62 []) (frame0 [a31 p0, I p1, I p2] 49 false)) = (T62 p0 p1 p2).map (fun r => AV.tup [S r.1, B r.2]) := by
  unfold T62
  let s_0 : List (Nat × AV) := [(1, I p1), (2, I p2), (3, .ba 24 0)]
  let o_0 : List (Nat × AObj) := [(24, .box [S p0.f0, I p0.f1, I p0.f2, LL a64 p0.f3] false)]
  refine gS 1 ?_
  refine gR 0 (rg Tryz.f62 0) ?_
  refine se (mkE s_0 o_0 49) ?_
  refine pN ?_
  refine pS ?_
  refine gS 2 ?_
  refine gR 1 (rg Tryz.f62 1) ?_
  refine se (mkE (s_0.append [(8, I (-1))]) o_0 49) ?_
  refine pN ?_
  refine pS ?_
  refine gS 8 ?_
  refine gS 3 ?_
  refine gR 2 (rg Tryz.f62 2) ?_
  refine sg 2 (mkE ((12, LL a64 p0.f3) :: ((11, .ba 24 3) :: (s_0.append [(8, I (-1))]))) o_0 49) ?_
  refine eo 13 (I (lenL p0.f3)) (lenE 30 a64 p0.f3) ?_
  refine se (mkE (s_0.append ((8, I (-1)) :: ((12, LL a64 p0.f3) :: ((13, I (lenL p0.f3)) :: [(14, I 0)])))) o_0 49) ?_
  refine pN ?_
  refine pS ?_
  refine gB 0 ?_
  refine lo [(1, none), (2, none), (3, none), (8, none), (12, none), (13, none), (14, none)] [] (L62_3 p0 p1 p2) (fun z0 : (Int × Int) => (mkE (s_0.append ((8, I z0.1) :: ((12, LL a64 p0.f3) :: ((13, I (lenL p0.f3)) :: [(14, I z0.2)])))) o_0 49)) (fun (x : (Int × Int × Bool)) => (.exit 0, (mkE (s_0.append ((8, I x.1) :: ((12, LL a64 p0.f3) :: ((13, I (lenL p0.f3)) :: ((14, I x.2.1) :: [(15, B x.2.2)]))))) o_0 49))) ((-1), 0) (fun z => L62_3_ok C h54 p0 p1 p2 z) ?_
  intro y4
  refine pH ?_
  refine pN ?_
  refine pS ?_
  refine gS 10 ?_
  refine gS 0 ?_
  refine gR 8 (rg Tryz.f62 8) ?_
  refine se (mkE [(3, .ba 24 0), (8, I y4.1), (42, B (ltI y4.1 0))] o_0 49) ?_
  refine pN ?_
  refine pS ?_
  refine gC 42 (ltI y4.1 0) ?_ ?_
  · refine gS 0 ?_
    refine gR 9 (rg Tryz.f62 9) ?_
    refine se (mkE [(6, S (ByteArray.mk #[])), (7, B false)] [] 49) ?_
    refine pN ?_
    refine pS ?_
    refine gE ?_
    exact pL
  · refine gK ?_
    refine pN ?_
    refine pS ?_
    refine gS 0 ?_
    refine gR 10 (rg Tryz.f62 10) ?_
    refine sg 3 (mkE [(45, I y4.1), (44, LL a64 p0.f3), (43, .ba 24 3), (3, .ba 24 0), (8, I y4.1), (42, B (ltI y4.1 0))] o_0 49) ?_
    refine vo 46 (addrE 30 65 6 a64 .i64 p0.f3 y4.1) (fun x5 => ?_)
    refine se (mkE [(6, S x5.f0), (7, B true)] [] 49) ?_
    refine pN ?_
    refine pS ?_
    refine gE ?_
    exact pL
theorem F62 (m : Nat) (hm : 3 ≤ m) (p0 : S31) (p1 : Int) (p2 : Int) : callA Tryz.prog cfg m 62 [a31 p0, I p1, I p2] = (T62 p0 p1 p2).map (fun r => AV.tup [S r.1, B r.2]) := by
  obtain ⟨q, rfl⟩ : ∃ q, m = q + 1 := ⟨m - 1, by omega⟩
  exact (callA_body (fn := Tryz.f62) (c := body_ Tryz.f62) q _ (by kernel_rfl) (by kernel_rfl) (by kernel_rfl)).trans (B62 _ (fun p0 p1 p2 => F54 q (by omega) p0 p1 p2) p0 p1 p2)

noncomputable def T61 (p0 : Int) (p1 : Int) (p2_c0 : ByteArray) (p2_c1 : Int) (p2_c2 : Int) (p2_c3 : (List S64)) (p3_c0 : ByteArray) (p3_c1 : Int) (p3_c2 : Int) (p3_c3 : Int) (p3_c4 : Int) (p3_c5 : Int) : Option Bool := ((T62 (S31.mk p2_c0 p2_c1 p2_c2 p2_c3) p0 p1).bind fun x1 => (some (eqS x1.1 p3_c0)))
theorem B61 (C : Callee) (h62 : ∀ (p0 : S31) (p1 : Int) (p2 : Int), C 62 [a31 p0, I p1, I p2] = (T62 p0 p1 p2).map (fun r => AV.tup [S r.1, B r.2])) (p0 : Int) (p1 : Int) (p2_c0 : ByteArray) (p2_c1 : Int) (p2_c2 : Int) (p2_c3 : (List S64)) (p3_c0 : ByteArray) (p3_c1 : Int) (p3_c2 : Int) (p3_c3 : Int) (p3_c4 : Int) (p3_c5 : Int) : runs Tryz.prog C (cfg.fn 61) (finFn Tryz.prog (cfg.fn 61).byval Tryz.f61) [] (execA Tryz.prog C (cfg.fn 61) (nr Tryz.f61 []) (frame0 [I p0, I p1, .ia [S p2_c0, I p2_c1, I p2_c2, LL a64 p2_c3] 0, .ia [S p3_c0, I p3_c1, I p3_c2, I p3_c3, I p3_c4, I p3_c5] 0] 20 false)) = (T61 p0 p1 p2_c0 p2_c1 p2_c2 p2_c3 p3_c0 p3_c1 p3_c2 p3_c3 p3_c4 p3_c5).map B := by
  unfold T61
  let s_0 : List (Nat × AV) := [(0, I p0), (1, I p1), (2, .ia [S p2_c0, I p2_c1, I p2_c2, LL a64 p2_c3] 0), (3, .ia [S p3_c0, I p3_c1, I p3_c2, I p3_c3, I p3_c4, I p3_c5] 0)]
  refine gS 1 ?_
  refine gR 0 (rg Tryz.f61 0) ?_
  refine se (mkE s_0 [] 20) ?_
  refine pN ?_
  refine pS ?_
  refine gS 2 ?_
  refine gR 1 (rg Tryz.f61 1) ?_
  refine sg 3 (mkE ((12, I p1) :: ((11, I p0) :: ((10, .agg [S p2_c0, I p2_c1, I p2_c2, LL a64 p2_c3]) :: s_0))) [] 20) ?_
  refine co 13 [] (h62 (S31.mk p2_c0 p2_c1 p2_c2 p2_c3) p0 p1) (fun x1 => ?_)
  refine se (mkE [(3, .ia [S p3_c0, I p3_c1, I p3_c2, I p3_c3, I p3_c4, I p3_c5] 0), (7, S x1.1)] [] 20) ?_
  refine pN ?_
  refine pS ?_
  refine gS 0 ?_
  refine gR 2 (rg Tryz.f61 2) ?_
  refine se (mkE [(6, B (eqS x1.1 p3_c0))] [] 20) ?_
  refine pN ?_
  refine pS ?_
  refine gE ?_
  exact pL
theorem F61 (m : Nat) (hm : 4 ≤ m) (p0 : Int) (p1 : Int) (p2_c0 : ByteArray) (p2_c1 : Int) (p2_c2 : Int) (p2_c3 : (List S64)) (p3_c0 : ByteArray) (p3_c1 : Int) (p3_c2 : Int) (p3_c3 : Int) (p3_c4 : Int) (p3_c5 : Int) : callA Tryz.prog cfg m 61 [I p0, I p1, .ia [S p2_c0, I p2_c1, I p2_c2, LL a64 p2_c3] 0, .ia [S p3_c0, I p3_c1, I p3_c2, I p3_c3, I p3_c4, I p3_c5] 0] = (T61 p0 p1 p2_c0 p2_c1 p2_c2 p2_c3 p3_c0 p3_c1 p3_c2 p3_c3 p3_c4 p3_c5).map B := by
  obtain ⟨q, rfl⟩ : ∃ q, m = q + 1 := ⟨m - 1, by omega⟩
  exact (callA_body (fn := Tryz.f61) (c := body_ Tryz.f61) q _ (by kernel_rfl) (by kernel_rfl) (by kernel_rfl)).trans (B61 _ (fun p0 p1 p2 => F62 q (by omega) p0 p1 p2) p0 p1 p2_c0 p2_c1 p2_c2 p2_c3 p3_c0 p3_c1 p3_c2 p3_c3 p3_c4 p3_c5)

noncomputable def T83 (p0 : S25) (p1 : S25) : Option Bool := (bif (eqI p0.f0 p1.f0) then (bif (eqI p0.f2 p1.f2) then (some (eqI p0.f1 (addI .i64 p1.f1 p1.f3))) else (some false)) else (some false))
theorem B83 (C : Callee) (p0 : S25) (p1 : S25) : runs Tryz.prog C (cfg.fn 83) (finFn Tryz.prog (cfg.fn 83).byval Tryz.f83) [] (execA Tryz.prog C (cfg.fn 83) (nr Tryz.f83 []) (frame0 [a25 p0, a25 p1] 27 false)) = (T83 p0 p1).map B := by
  unfold T83
  let s_0 : List (Nat × AV) := [(10, B (eqI p0.f0 p1.f0)), (9, B (eqI p0.f0 p1.f0)), (8, I p1.f0), (7, .ba 24 0), (6, I p0.f0), (5, .ba 16 0), (2, .ba 16 0), (3, .ba 24 0)]
  let o_0 : List (Nat × AObj) := [(16, .box [I p0.f0, I p0.f1, I p0.f2, I p0.f3] false), (24, .box [I p1.f0, I p1.f1, I p1.f2, I p1.f3] false)]
  refine gS 1 ?_
  refine gR 0 (rg Tryz.f83 0) ?_
  refine se (mkE [(2, .ba 16 0), (3, .ba 24 0)] o_0 27) ?_
  refine pN ?_
  refine pS ?_
  refine gS 0 ?_
  refine gR 1 (rg Tryz.f83 1) ?_
  refine sg 6 (mkE s_0 o_0 27) ?_
  refine sb 10 (eqI p0.f0 p1.f0) ?_ ?_
  · refine sg 13 (mkE ((17, B (eqI p0.f2 p1.f2)) :: ((16, B (eqI p0.f2 p1.f2)) :: ((15, B (eqI p0.f2 p1.f2)) :: ((14, I p1.f2) :: ((13, .ba 24 2) :: ((12, I p0.f2) :: ((11, .ba 16 2) :: ((10, B true) :: s_0)))))))) o_0 27) ?_
    refine sb 17 (eqI p0.f2 p1.f2) ?_ ?_
    · refine se (mkE [(4, B (eqI p0.f1 (addI .i64 p1.f1 p1.f3)))] [] 27) ?_
      refine pN ?_
      refine pS ?_
      refine gE ?_
      exact pL
    · refine se (mkE [(4, B false)] [] 27) ?_
      refine pN ?_
      refine pS ?_
      refine gE ?_
      exact pL
  · refine se (mkE [(4, B false)] [] 27) ?_
    refine pN ?_
    refine pS ?_
    refine gE ?_
    exact pL
theorem F83 (m : Nat) (hm : 1 ≤ m) (p0 : S25) (p1 : S25) : callA Tryz.prog cfg m 83 [a25 p0, a25 p1] = (T83 p0 p1).map B := by
  obtain ⟨q, rfl⟩ : ∃ q, m = q + 1 := ⟨m - 1, by omega⟩
  exact (callA_body (fn := Tryz.f83) (c := body_ Tryz.f83) q _ (by kernel_rfl) (by kernel_rfl) (by kernel_rfl)).trans (B83 _ p0 p1)

noncomputable def L82_4 (p0 : (List S25)) (p1 : (List S25)) (z0 : Int) : Option (Int ⊕ ((Int × Bool) ⊕ Unit)) := (bif (ltI z0 (lenL p0)) then ((listAt p0 z0).bind fun x1 => ((listAt p1 z0).bind fun x2 => ((T83 x1 x2).bind fun x3 => (bif (!x3) then (some (.inr (.inr ()))) else (some (.inl (addI .i64 z0 1))))))) else (some (.inr (.inl (z0, (ltI z0 (lenL p0)))))))
theorem L82_4_ok (C : Callee) (h83 : ∀ (p0 : S25) (p1 : S25), C 83 [a25 p0, a25 p1] = (T83 p0 p1).map B) (p0 : (List S25)) (p1 : (List S25)) (z0 : Int) : runs Tryz.prog C (cfg.fn 82) (finLoop ((cfg.fn 82).keep 4) ((cfg.fn 82).al 4)) [] (execA Tryz.prog C (cfg.fn 82) (nr Tryz.f82 [false, false, true, false, true, true]) ((fun z0 : Int => (mkE [(1, LL a25 p1), (2, .fn 83 []), (15, LL a25 p0), (16, I (lenL p0)), (17, I z0)] [] 32)) z0)) = (L82_4 p0 p1 z0).map (Sum.elim (fun z => .inl ((fun z0 : Int => (mkE [(1, LL a25 p1), (2, .fn 83 []), (15, LL a25 p0), (16, I (lenL p0)), (17, I z0)] [] 32)) z)) (fun x => .inr ((Sum.elim (fun (x : (Int × Bool)) => (.exit 0, (mkE [(1, LL a25 p1), (2, .fn 83 []), (15, LL a25 p0), (16, I (lenL p0)), (17, I x.1), (18, B x.2)] [] 32))) (fun (x : Unit) => (.ret, (mkE [(6, B false)] [] 32)))) x))) := by
  unfold L82_4
  let s_0 : List (Nat × AV) := [(15, LL a25 p0), (16, I (lenL p0)), (17, I z0)]
  let s_1 : List (Nat × AV) := [(1, LL a25 p1), (2, .fn 83 [])]
  refine gS 0 ?_
  refine gR 4 (rg Tryz.f82 4) ?_
  refine se (mkE (s_1.append (s_0.append [(18, B (ltI z0 (lenL p0)))])) [] 32) ?_
  refine pN ?_
  refine pS ?_
  refine gS 5 ?_
  refine gC 18 (ltI z0 (lenL p0)) ?_ ?_
  · refine gK ?_
    refine pN ?_
    refine pS ?_
    refine gS 9 ?_
    refine gB 1 ?_
    refine gS 6 ?_
    refine gR 5 (rg Tryz.f82 5) ?_
    refine sg 1 (mkE ((19, I z0) :: (s_1.append (s_0.append [(18, B (ltI z0 (lenL p0)))]))) [] 32) ?_
    refine vo 20 (addrE 42 26 4 a25 .i64 p0 z0) (fun x1 => ?_)
    refine se (mkE (s_1.append ((7, I z0) :: ((8, .ba 64 0) :: s_0))) [(64, .box [I x1.f0, I x1.f1, I x1.f2, I x1.f3] false)] 32) ?_
    refine pN ?_
    refine pS ?_
    refine gS 7 ?_
    refine gR 6 (rg Tryz.f82 6) ?_
    refine sg 2 (mkE ((23, I z0) :: ((22, LL a25 p1) :: (s_1.append ((7, I z0) :: ((8, .ba 64 0) :: s_0))))) [(64, .box [I x1.f0, I x1.f1, I x1.f2, I x1.f3] false)] 32) ?_
    refine vo 24 (addrE 42 26 4 a25 .i64 p1 z0) (fun x2 => ?_)
    refine se (mkE (s_1.append ((8, .ba 64 0) :: ((9, .ba 72 0) :: s_0))) [(64, .box [I x1.f0, I x1.f1, I x1.f2, I x1.f3] false), (72, .box [I x2.f0, I x2.f1, I x2.f2, I x2.f3] false)] 32) ?_
    refine pN ?_
    refine pS ?_
    refine gS 0 ?_
    refine gR 7 (rg Tryz.f82 7) ?_
    refine sg 3 (mkE ((28, a25 x2) :: ((27, a25 x1) :: ((26, .fn 83 []) :: (s_1.append ((8, .ba 64 0) :: ((9, .ba 72 0) :: s_0)))))) [(64, .box [I x1.f0, I x1.f1, I x1.f2, I x1.f3] false), (72, .box [I x2.f0, I x2.f1, I x2.f2, I x2.f3] false)] 32) ?_
    refine co 29 [] (h83 x1 x2) (fun x3 => ?_)
    refine se (mkE (s_1.append (s_0.append [(30, B (!x3))])) [] 32) ?_
    refine pN ?_
    refine pS ?_
    refine gC 30 (!x3) ?_ ?_
    · refine gS 0 ?_
      refine gR 8 (rg Tryz.f82 8) ?_
      refine se (mkE [(6, B false)] [] 32) ?_
      refine pN ?_
      refine pS ?_
      refine gE ?_
      exact pL
    · refine gK ?_
      refine pB ?_
      refine pN ?_
      refine pS ?_
      refine gR 9 (rg Tryz.f82 9) ?_
      refine se (mkE (s_1.append ((15, LL a25 p0) :: ((16, I (lenL p0)) :: [(17, I (addI .i64 z0 1))]))) [] 32) ?_
      exact pL
  · refine gX 0 ?_
    exact pL
noncomputable def T82 (p0 : (List S25)) (p1 : (List S25)) : Option Bool := (bif (neI (lenL p0) (lenL p1)) then (some false) else ((iter (L82_4 p0 p1) 0).bind fun y4 => (Sum.elim (fun y4a => (some true)) (fun y4b => (some false)) y4)))
theorem B82 (C : Callee) (h83 : ∀ (p0 : S25) (p1 : S25), C 83 [a25 p0, a25 p1] = (T83 p0 p1).map B) (p0 : (List S25)) (p1 : (List S25)) : runs Tryz.prog C (cfg.fn 82) (finFn Tryz.prog (cfg.fn 82).byval Tryz.f82) [] (execA Tryz.prog C (cfg.fn 82) (nr Tryz.f82 []) (frame0 [LL a25 p0, LL a25 p1, .fn 83 []] 32 false)) = (T82 p0 p1).map B := by
  unfold T82
  let s_0 : List (Nat × AV) := [(1, LL a25 p1), (2, .fn 83 [])]
  refine gS 1 ?_
  refine gR 0 (rg Tryz.f82 0) ?_
  refine se (mkE ((0, LL a25 p0) :: s_0) [] 32) ?_
  refine pN ?_
  refine pS ?_
  refine gS 3 ?_
  refine gS 0 ?_
  refine gR 1 (rg Tryz.f82 1) ?_
  refine sg 1 (mkE ((10, LL a25 p0) :: ((0, LL a25 p0) :: s_0)) [] 32) ?_
  refine eo 11 (I (lenL p0)) (lenE 42 a25 p0) ?_
  refine sg 3 (mkE ((12, LL a25 p1) :: ((11, I (lenL p0)) :: ((10, LL a25 p0) :: ((0, LL a25 p0) :: s_0)))) [] 32) ?_
  refine eo 13 (I (lenL p1)) (lenE 42 a25 p1) ?_
  refine se (mkE ((0, LL a25 p0) :: (s_0.append [(14, B (neI (lenL p0) (lenL p1)))])) [] 32) ?_
  refine pN ?_
  refine pS ?_
  refine gC 14 (neI (lenL p0) (lenL p1)) ?_ ?_
  · refine gS 0 ?_
    refine gR 2 (rg Tryz.f82 2) ?_
    refine se (mkE [(6, B false)] [] 32) ?_
    refine pN ?_
    refine pS ?_
    refine gE ?_
    exact pL
  · refine gK ?_
    refine pN ?_
    refine pS ?_
    refine gS 10 ?_
    refine gS 4 ?_
    refine gR 3 (rg Tryz.f82 3) ?_
    refine sg 1 (mkE ((15, LL a25 p0) :: ((0, LL a25 p0) :: (s_0.append [(14, B (neI (lenL p0) (lenL p1)))]))) [] 32) ?_
    refine eo 16 (I (lenL p0)) (lenE 42 a25 p0) ?_
    refine se (mkE (s_0.append ((15, LL a25 p0) :: ((16, I (lenL p0)) :: [(17, I 0)]))) [] 32) ?_
    refine pN ?_
    refine pS ?_
    refine gB 0 ?_
    refine lo [(1, none), (2, none), (15, none), (16, none), (17, none)] [] (L82_4 p0 p1) (fun z0 : Int => (mkE (s_0.append ((15, LL a25 p0) :: ((16, I (lenL p0)) :: [(17, I z0)]))) [] 32)) (Sum.elim (fun (x : (Int × Bool)) => (.exit 0, (mkE (s_0.append ((15, LL a25 p0) :: ((16, I (lenL p0)) :: ((17, I x.1) :: [(18, B x.2)])))) [] 32))) (fun (x : Unit) => (.ret, (mkE [(6, B false)] [] 32)))) 0 (fun z => L82_4_ok C h83 p0 p1 z) ?_
    intro y4
    refine ss y4 (Z := (Sum.elim (fun (x : (Int × Bool)) => (.exit 0, (mkE (s_0.append ((15, LL a25 p0) :: ((16, I (lenL p0)) :: ((17, I x.1) :: [(18, B x.2)])))) [] 32))) (fun (x : Unit) => (.ret, (mkE [(6, B false)] [] 32))))) (fun y4a => ?_) (fun y4b => ?_)
    · refine pH ?_
      refine pN ?_
      refine pS ?_
      refine gS 0 ?_
      refine gR 10 (rg Tryz.f82 10) ?_
      refine se (mkE [(6, B true)] [] 32) ?_
      refine pN ?_
      refine pS ?_
      refine gE ?_
      exact pL
    · exact pL
theorem F82 (m : Nat) (hm : 2 ≤ m) (p0 : (List S25)) (p1 : (List S25)) : callA Tryz.prog cfg m 82 [LL a25 p0, LL a25 p1, .fn 83 []] = (T82 p0 p1).map B := by
  obtain ⟨q, rfl⟩ : ∃ q, m = q + 1 := ⟨m - 1, by omega⟩
  exact (callA_body (fn := Tryz.f82) (c := body_ Tryz.f82) q _ (by kernel_rfl) (by kernel_rfl) (by kernel_rfl)).trans (B82 _ (fun p0 p1 => F83 q (by omega) p0 p1) p0 p1)

end Go.Abs.TV
