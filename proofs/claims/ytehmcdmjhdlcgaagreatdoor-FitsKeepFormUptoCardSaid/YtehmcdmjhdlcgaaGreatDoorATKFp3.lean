import Derived.Test.YtehmcdmjhdlcgaaGreatDoorATKFp2
set_option maxRecDepth 100000
set_option linter.unusedVariables false
namespace Go.Abs.TKF
open Go.RowKit Go.Proofs Go.Abs
noncomputable def T68 (p0 : S138) (p1 : S142) : Option (Bool × Int) := ((T113 ([p0] : List S138) ([p1] : List S142)).bind fun x1 => (bif (neI x1 0) then (some (false, x1)) else ((T114 p0 p1).bind fun x2 => (some (x2, 0)))))
theorem B68 (C : Callee) (h113 : ∀ (p0 : (List S138)) (p1 : (List S142)), C 113 [LL a138 p0, LL a142 p1] = (T113 p0 p1).map I) (h114 : ∀ (p0 : S138) (p1 : S142), C 114 [a138 p0, a142 p1] = (T114 p0 p1).map B) (p0 : S138) (p1 : S142) : runs Tryz.prog C (cfg.fn 68) (finFn Tryz.prog (cfg.fn 68).byval Tryz.f68) [] (execA Tryz.prog C (cfg.fn 68) (nr Tryz.f68 []) (frame0 [a138 p0, a142 p1] 18 false)) = (T68 p0 p1).map (fun r => AV.tup [B r.1, I r.2]) := by
  unfold T68
  let o_0 : List (Nat × AObj) := [(16, .box [S p0.f0, S p0.f1, I p0.f2, LL S p0.f3, I p0.f4, I p0.f5, I p0.f6, LL a28 p0.f7, S p0.f8] false), (24, .box [S p1.f0, I p1.f1, I p1.f2] false)]
  refine gS 1 ?_
  refine gR 0 (rg Tryz.f68 0) ?_
  refine se (mkE [(2, .ba 16 0), (3, .ba 24 0)] o_0 18) ?_
  refine pN ?_
  refine pS ?_
  refine gS 4 ?_
  refine gS 2 ?_
  refine gR 1 (rg Tryz.f68 1) ?_
  refine sg 4 (mkE [(10, .own 80 0), (9, a142 p1), (8, .own 64 0), (7, a138 p0), (2, .ba 16 0), (3, .ba 24 0)] ((80, RR 143 3 a142 ([p1] : List S142) 0 false) :: ((64, RR 139 9 a138 ([p0] : List S138) 0 false) :: o_0)) 18) ?_
  refine co 11 [64, 80] (h113 ([p0] : List S138) ([p1] : List S142)) (fun x1 => ?_)
  refine se (mkE [(2, .ba 16 0), (3, .ba 24 0), (6, I x1)] o_0 18) ?_
  refine pN ?_
  refine pS ?_
  refine gS 0 ?_
  refine gR 2 (rg Tryz.f68 2) ?_
  refine se (mkE [(2, .ba 16 0), (3, .ba 24 0), (6, I x1), (13, B (neI x1 0))] o_0 18) ?_
  refine pN ?_
  refine pS ?_
  refine gC 13 (neI x1 0) ?_ ?_
  · refine gS 0 ?_
    refine gR 3 (rg Tryz.f68 3) ?_
    refine se (mkE [(4, B false), (5, I x1)] [] 18) ?_
    refine pN ?_
    refine pS ?_
    refine gE ?_
    exact pL
  · refine gK ?_
    refine pN ?_
    refine pS ?_
    refine gS 0 ?_
    refine gR 4 (rg Tryz.f68 4) ?_
    refine sg 2 (mkE [(16, a142 p1), (15, a138 p0), (2, .ba 16 0), (3, .ba 24 0), (6, I x1), (13, B (neI x1 0))] o_0 18) ?_
    refine co 17 [] (h114 p0 p1) (fun x2 => ?_)
    refine se (mkE [(4, B x2), (5, I 0)] [] 18) ?_
    refine pN ?_
    refine pS ?_
    refine gE ?_
    exact pL
theorem F68 (m : Nat) (hm : 9 ≤ m) (p0 : S138) (p1 : S142) : callA Tryz.prog cfg m 68 [a138 p0, a142 p1] = (T68 p0 p1).map (fun r => AV.tup [B r.1, I r.2]) := by
  obtain ⟨q, rfl⟩ : ∃ q, m = q + 1 := ⟨m - 1, by omega⟩
  exact (callA_body (fn := Tryz.f68) (c := body_ Tryz.f68) q _ (by kernel_rfl) (by kernel_rfl) (by kernel_rfl)).trans (B68 _ (fun p0 p1 => F113 q (by omega) p0 p1) (fun p0 p1 => F114 q (by omega) p0 p1) p0 p1)

noncomputable def L22_2 (p0 : (List Int)) (z0 : Int) : Option (Int ⊕ ((Int × Bool) ⊕ Int)) := (bif (ltI z0 (lenL p0)) then ((listAt p0 z0).bind fun x1 => (bif (neI x1 0) then (some (.inr (.inr x1))) else (some (.inl (addI .i64 z0 1))))) else (some (.inr (.inl (z0, (ltI z0 (lenL p0)))))))
theorem L22_2_ok (C : Callee) (p0 : (List Int)) (z0 : Int) : runs Tryz.prog C (cfg.fn 22) (finLoop ((cfg.fn 22).keep 2) ((cfg.fn 22).al 2)) [] (execA Tryz.prog C (cfg.fn 22) (nr Tryz.f22 [false, false, true, false, true]) ((fun z0 : Int => (mkE [(5, LL I p0), (6, I (lenL p0)), (7, I z0)] [] 15)) z0)) = (L22_2 p0 z0).map (Sum.elim (fun z => .inl ((fun z0 : Int => (mkE [(5, LL I p0), (6, I (lenL p0)), (7, I z0)] [] 15)) z)) (fun x => .inr ((Sum.elim (fun (x : (Int × Bool)) => (.exit 0, (mkE [(5, LL I p0), (6, I (lenL p0)), (7, I x.1), (8, B x.2)] [] 15))) (fun (x : Int) => (.ret, (mkE [(2, I x)] [] 15)))) x))) := by
  unfold L22_2
  refine gS 0 ?_
  refine gR 2 (rg Tryz.f22 2) ?_
  refine se (mkE [(5, LL I p0), (6, I (lenL p0)), (7, I z0), (8, B (ltI z0 (lenL p0)))] [] 15) ?_
  refine pN ?_
  refine pS ?_
  refine gS 3 ?_
  refine gC 8 (ltI z0 (lenL p0)) ?_ ?_
  · refine gK ?_
    refine pN ?_
    refine pS ?_
    refine gS 6 ?_
    refine gB 1 ?_
    refine gS 4 ?_
    refine gR 3 (rg Tryz.f22 3) ?_
    refine vo 9 (addrE 128 31 1 I .i64 p0 z0) (fun x1 => ?_)
    refine se (mkE [(4, I x1), (5, LL I p0), (6, I (lenL p0)), (7, I z0)] [] 15) ?_
    refine pN ?_
    refine pS ?_
    refine gS 0 ?_
    refine gR 4 (rg Tryz.f22 4) ?_
    refine se (mkE [(4, I x1), (5, LL I p0), (6, I (lenL p0)), (7, I z0), (12, B (neI x1 0))] [] 15) ?_
    refine pN ?_
    refine pS ?_
    refine gC 12 (neI x1 0) ?_ ?_
    · refine gS 0 ?_
      refine gR 5 (rg Tryz.f22 5) ?_
      refine se (mkE [(2, I x1)] [] 15) ?_
      refine pN ?_
      refine pS ?_
      refine gE ?_
      exact pL
    · refine gK ?_
      refine pB ?_
      refine pN ?_
      refine pS ?_
      refine gR 6 (rg Tryz.f22 6) ?_
      refine se (mkE [(5, LL I p0), (6, I (lenL p0)), (7, I (addI .i64 z0 1))] [] 15) ?_
      exact pL
  · refine gX 0 ?_
    exact pL
noncomputable def T22 (p0 : (List Int)) : Option Int := ((iter (L22_2 p0) 0).bind fun y2 => (Sum.elim (fun y2a => (some 0)) (fun y2b => (some y2b)) y2))
theorem B22 (C : Callee) (p0 : (List Int)) : runs Tryz.prog C (cfg.fn 22) (finFn Tryz.prog (cfg.fn 22).byval Tryz.f22) [] (execA Tryz.prog C (cfg.fn 22) (nr Tryz.f22 []) (frame0 [LL I p0] 15 false)) = (T22 p0).map I := by
  unfold T22
  refine gS 1 ?_
  refine gR 0 (rg Tryz.f22 0) ?_
  refine se (mkE [(0, LL I p0)] [] 15) ?_
  refine pN ?_
  refine pS ?_
  refine gS 7 ?_
  refine gS 2 ?_
  refine gR 1 (rg Tryz.f22 1) ?_
  refine sg 1 (mkE [(5, LL I p0), (0, LL I p0)] [] 15) ?_
  refine eo 6 (I (lenL p0)) (lenE 128 I p0) ?_
  refine se (mkE [(5, LL I p0), (6, I (lenL p0)), (7, I 0)] [] 15) ?_
  refine pN ?_
  refine pS ?_
  refine gB 0 ?_
  refine lo [(5, none), (6, none), (7, none)] [] (L22_2 p0) (fun z0 : Int => (mkE [(5, LL I p0), (6, I (lenL p0)), (7, I z0)] [] 15)) (Sum.elim (fun (x : (Int × Bool)) => (.exit 0, (mkE [(5, LL I p0), (6, I (lenL p0)), (7, I x.1), (8, B x.2)] [] 15))) (fun (x : Int) => (.ret, (mkE [(2, I x)] [] 15)))) 0 (fun z => L22_2_ok C p0 z) ?_
  intro y2
  refine ss y2 (Z := (Sum.elim (fun (x : (Int × Bool)) => (.exit 0, (mkE [(5, LL I p0), (6, I (lenL p0)), (7, I x.1), (8, B x.2)] [] 15))) (fun (x : Int) => (.ret, (mkE [(2, I x)] [] 15))))) (fun y2a => ?_) (fun y2b => ?_)
  · refine pH ?_
    refine pN ?_
    refine pS ?_
    refine gS 0 ?_
    refine gR 7 (rg Tryz.f22 7) ?_
    refine se (mkE [(2, I 0)] [] 15) ?_
    refine pN ?_
    refine pS ?_
    refine gE ?_
    exact pL
  · exact pL
theorem F22 (m : Nat) (hm : 1 ≤ m) (p0 : (List Int)) : callA Tryz.prog cfg m 22 [LL I p0] = (T22 p0).map I := by
  obtain ⟨q, rfl⟩ : ∃ q, m = q + 1 := ⟨m - 1, by omega⟩
  exact (callA_body (fn := Tryz.f22) (c := body_ Tryz.f22) q _ (by kernel_rfl) (by kernel_rfl) (by kernel_rfl)).trans (B22 _ p0)

noncomputable def T26 : Option Bool := ((T20 ([(S28.mk 0 0 2 2), (S28.mk 1 1 2 2)] : List S28)).bind fun x1 => ((T67 (S136.mk (ByteArray.mk #[97]) (ByteArray.mk #[98]) 0 0 0 1 127 [] 1 2 0 [] false) 0 (S92.mk 0 86400000)).bind fun x2 => ((T45 (S94.mk (ByteArray.mk #[97]) (ByteArray.mk #[]) (S92.mk 0 100) [] 10 0 0) 50).bind fun x3 => ((T42 ([(S87.mk (ByteArray.mk #[112]) 0 100), (S87.mk (ByteArray.mk #[112]) 1000 1300)] : List S87) (ByteArray.mk #[112]) 700).bind fun x4 => ((T68 (S138.mk (ByteArray.mk #[97]) (ByteArray.mk #[115]) 1 [] 0 5 1 ([(S28.mk 0 0 2 2)] : List S28) (ByteArray.mk #[120])) (S142.mk (ByteArray.mk #[112]) 1 1)).bind fun x5 => ((T22 ([x1.2, x2.2, x3.2, x4.2, x5.2] : List Int)).bind fun x6 => (bif (eqI x6 0) then (bif (eqI x1.1 7) then (bif (eqI (lenL x2.1) 1) then (bif (eqI x3.1 5) then (bif (eqI x4.1 500) then (some x5.1) else (some false)) else (some false)) else (some false)) else (some false)) else (some false))))))))
theorem B26 (C : Callee) (h20 : ∀ (p0 : (List S28)), C 20 [LL a28 p0] = (T20 p0).map (fun r => AV.tup [I r.1, I r.2])) (h22 : ∀ (p0 : (List Int)), C 22 [LL I p0] = (T22 p0).map I) (h42 : ∀ (p0 : (List S87)) (p1 : ByteArray) (p2 : Int), C 42 [LL a87 p0, S p1, I p2] = (T42 p0 p1 p2).map (fun r => AV.tup [I r.1, I r.2])) (h45 : ∀ (p0 : S94) (p1 : Int), C 45 [a94 p0, I p1] = (T45 p0 p1).map (fun r => AV.tup [I r.1, I r.2])) (h67 : ∀ (p0 : S136) (p1 : Int) (p2 : S92), C 67 [a136 p0, I p1, a92 p2] = (T67 p0 p1 p2).map (fun r => AV.tup [(fun l => AV.fr 93 2 (List.map a92 l)) r.1, I r.2])) (h68 : ∀ (p0 : S138) (p1 : S142), C 68 [a138 p0, a142 p1] = (T68 p0 p1).map (fun r => AV.tup [B r.1, I r.2])) : runs Tryz.prog C (cfg.fn 26) (finFn Tryz.prog (cfg.fn 26).byval Tryz.f26) [] (execA Tryz.prog C (cfg.fn 26) (nr Tryz.f26 []) (frame0 [] 75 false)) = (T26).map B := by
  unfold T26
  let o_0 : List (Nat × AObj) := [(72, .box [S (ByteArray.mk #[97]), S (ByteArray.mk #[115]), I 1, .nils, I 0, I 5, I 1, .own 312 0, S (ByteArray.mk #[120])] false)]
  refine gS 1 ?_
  refine gR 0 (rg Tryz.f26 0) ?_
  refine se (mkE [] [] 75) ?_
  refine pN ?_
  refine pS ?_
  refine gS 2 ?_
  refine gR 1 (rg Tryz.f26 1) ?_
  refine sg 3 (mkE [(15, .own 120 0), (14, .agg [I 1, I 1, I 2, I 2]), (13, .agg [I 0, I 0, I 2, I 2])] [(120, RR 29 4 a28 ([(S28.mk 0 0 2 2), (S28.mk 1 1 2 2)] : List S28) 0 false)] 75) ?_
  refine co 16 [120] (h20 ([(S28.mk 0 0 2 2), (S28.mk 1 1 2 2)] : List S28)) (fun x1 => ?_)
  refine se (mkE [(1, I x1.1), (2, I x1.2)] [] 75) ?_
  refine pN ?_
  refine pS ?_
  refine gS 3 ?_
  refine gR 2 (rg Tryz.f26 2) ?_
  refine sg 2 (mkE [(21, .agg [I 0, I 86400000]), (20, .agg [S (ByteArray.mk #[97]), S (ByteArray.mk #[98]), I 0, I 0, I 0, I 1, I 127, .nils, I 1, I 2, I 0, .nils, B false]), (1, I x1.1), (2, I x1.2)] [] 75) ?_
  refine co 22 [] (h67 (S136.mk (ByteArray.mk #[97]) (ByteArray.mk #[98]) 0 0 0 1 127 [] 1 2 0 [] false) 0 (S92.mk 0 86400000)) (fun x2 => ?_)
  refine se (mkE [(1, I x1.1), (2, I x1.2), (3, .own 176 0), (4, I x2.2)] [(176, RR 93 2 a92 x2.1 0 false)] 75) ?_
  refine pN ?_
  refine pS ?_
  refine gS 4 ?_
  refine gR 3 (rg Tryz.f26 3) ?_
  refine sg 2 (mkE [(27, .agg [S (ByteArray.mk #[97]), S (ByteArray.mk #[]), I 0, I 100, .nils, I 10, I 0, I 0]), (26, .agg [I 0, I 100]), (1, I x1.1), (2, I x1.2), (3, .own 176 0), (4, I x2.2)] [(176, RR 93 2 a92 x2.1 0 false)] 75) ?_
  refine co 28 [] (h45 (S94.mk (ByteArray.mk #[97]) (ByteArray.mk #[]) (S92.mk 0 100) [] 10 0 0) 50) (fun x3 => ?_)
  refine se (mkE [(1, I x1.1), (2, I x1.2), (3, .own 176 0), (4, I x2.2), (5, I x3.1), (6, I x3.2)] [(176, RR 93 2 a92 x2.1 0 false)] 75) ?_
  refine pN ?_
  refine pS ?_
  refine gS 5 ?_
  refine gR 4 (rg Tryz.f26 4) ?_
  refine sg 3 (mkE [(34, .own 272 0), (33, .agg [S (ByteArray.mk #[112]), I 1000, I 1300]), (32, .agg [S (ByteArray.mk #[112]), I 0, I 100]), (1, I x1.1), (2, I x1.2), (3, .own 176 0), (4, I x2.2), (5, I x3.1), (6, I x3.2)] [(272, RR 88 3 a87 ([(S87.mk (ByteArray.mk #[112]) 0 100), (S87.mk (ByteArray.mk #[112]) 1000 1300)] : List S87) 0 false), (176, RR 93 2 a92 x2.1 0 false)] 75) ?_
  refine co 35 [272] (h42 ([(S87.mk (ByteArray.mk #[112]) 0 100), (S87.mk (ByteArray.mk #[112]) 1000 1300)] : List S87) (ByteArray.mk #[112]) 700) (fun x4 => ?_)
  refine se (mkE [(1, I x1.1), (2, I x1.2), (3, .own 176 0), (4, I x2.2), (5, I x3.1), (6, I x3.2), (7, I x4.1), (8, I x4.2)] [(176, RR 93 2 a92 x2.1 0 false)] 75) ?_
  refine pN ?_
  refine pS ?_
  refine gS 6 ?_
  refine gR 5 (rg Tryz.f26 5) ?_
  refine se (mkE [(1, I x1.1), (2, I x1.2), (3, .own 176 0), (4, I x2.2), (5, I x3.1), (6, I x3.2), (7, I x4.1), (8, I x4.2), (9, .ba 72 0)] (o_0.append ((176, RR 93 2 a92 x2.1 0 false) :: [(312, RR 29 4 a28 ([(S28.mk 0 0 2 2)] : List S28) 0 false)])) 75) ?_
  refine pN ?_
  refine pS ?_
  refine gS 7 ?_
  refine gR 6 (rg Tryz.f26 6) ?_
  refine sg 2 (mkE [(43, .agg [S (ByteArray.mk #[112]), I 1, I 1]), (42, .agg [S (ByteArray.mk #[97]), S (ByteArray.mk #[115]), I 1, .nils, I 0, I 5, I 1, .own 312 0, S (ByteArray.mk #[120])]), (1, I x1.1), (2, I x1.2), (3, .own 176 0), (4, I x2.2), (5, I x3.1), (6, I x3.2), (7, I x4.1), (8, I x4.2), (9, .ba 72 0)] (o_0.append ((176, RR 93 2 a92 x2.1 0 false) :: [(312, RR 29 4 a28 ([(S28.mk 0 0 2 2)] : List S28) 0 false)])) 75) ?_
  refine co 44 [312] (h68 (S138.mk (ByteArray.mk #[97]) (ByteArray.mk #[115]) 1 [] 0 5 1 ([(S28.mk 0 0 2 2)] : List S28) (ByteArray.mk #[120])) (S142.mk (ByteArray.mk #[112]) 1 1)) (fun x5 => ?_)
  refine se (mkE [(1, I x1.1), (2, I x1.2), (3, .own 176 0), (4, I x2.2), (5, I x3.1), (6, I x3.2), (7, I x4.1), (8, I x4.2), (10, B x5.1), (11, I x5.2)] [(176, RR 93 2 a92 x2.1 0 false)] 75) ?_
  refine pN ?_
  refine pS ?_
  refine gS 0 ?_
  refine gR 7 (rg Tryz.f26 7) ?_
  refine sg 6 (mkE [(52, .own 416 0), (51, I x5.2), (50, I x4.2), (49, I x3.2), (48, I x2.2), (47, I x1.2), (1, I x1.1), (2, I x1.2), (3, .own 176 0), (4, I x2.2), (5, I x3.1), (6, I x3.2), (7, I x4.1), (8, I x4.2), (10, B x5.1), (11, I x5.2)] [(416, RR 31 1 I ([x1.2, x2.2, x3.2, x4.2, x5.2] : List Int) 0 false), (176, RR 93 2 a92 x2.1 0 false)] 75) ?_
  refine co 53 [416] (h22 ([x1.2, x2.2, x3.2, x4.2, x5.2] : List Int)) (fun x6 => ?_)
  refine sg 9 (mkE [(55, B (eqI x6 0)), (54, B (eqI x6 0)), (53, I x6), (52, .own 416 0), (51, I x5.2), (50, I x4.2), (49, I x3.2), (48, I x2.2), (47, I x1.2), (1, I x1.1), (2, I x1.2), (3, .own 176 0), (4, I x2.2), (5, I x3.1), (6, I x3.2), (7, I x4.1), (8, I x4.2), (10, B x5.1), (11, I x5.2)] [(416, RR 31 1 I ([x1.2, x2.2, x3.2, x4.2, x5.2] : List Int) 0 false), (176, RR 93 2 a92 x2.1 0 false)] 75) ?_
  refine sb 55 (eqI x6 0) ?_ ?_
  · refine sg 13 (mkE [(59, B (eqI x1.1 7)), (58, B (eqI x1.1 7)), (57, B (eqI x1.1 7)), (56, I x1.1), (55, B true), (55, B (eqI x6 0)), (54, B (eqI x6 0)), (53, I x6), (52, .own 416 0), (51, I x5.2), (50, I x4.2), (49, I x3.2), (48, I x2.2), (47, I x1.2), (1, I x1.1), (2, I x1.2), (3, .own 176 0), (4, I x2.2), (5, I x3.1), (6, I x3.2), (7, I x4.1), (8, I x4.2), (10, B x5.1), (11, I x5.2)] [(416, RR 31 1 I ([x1.2, x2.2, x3.2, x4.2, x5.2] : List Int) 0 false), (176, RR 93 2 a92 x2.1 0 false)] 75) ?_
    refine sb 59 (eqI x1.1 7) ?_ ?_
    · refine sg 14 (mkE [(60, .own 176 0), (59, B true), (59, B (eqI x1.1 7)), (58, B (eqI x1.1 7)), (57, B (eqI x1.1 7)), (56, I x1.1), (55, B true), (55, B (eqI x6 0)), (54, B (eqI x6 0)), (53, I x6), (52, .own 416 0), (51, I x5.2), (50, I x4.2), (49, I x3.2), (48, I x2.2), (47, I x1.2), (1, I x1.1), (2, I x1.2), (3, .own 176 0), (4, I x2.2), (5, I x3.1), (6, I x3.2), (7, I x4.1), (8, I x4.2), (10, B x5.1), (11, I x5.2)] [(416, RR 31 1 I ([x1.2, x2.2, x3.2, x4.2, x5.2] : List Int) 0 false), (176, RR 93 2 a92 x2.1 0 false)] 75) ?_
      refine eo 61 (I (lenL x2.1)) (lenOE 108 93 2 a92 x2.1) ?_
      refine sg 18 (mkE [(64, B (eqI (lenL x2.1) 1)), (63, B (eqI (lenL x2.1) 1)), (62, B (eqI (lenL x2.1) 1)), (61, I (lenL x2.1)), (60, .own 176 0), (59, B true), (59, B (eqI x1.1 7)), (58, B (eqI x1.1 7)), (57, B (eqI x1.1 7)), (56, I x1.1), (55, B true), (55, B (eqI x6 0)), (54, B (eqI x6 0)), (53, I x6), (52, .own 416 0), (51, I x5.2), (50, I x4.2), (49, I x3.2), (48, I x2.2), (47, I x1.2), (1, I x1.1), (2, I x1.2), (3, .own 176 0), (4, I x2.2), (5, I x3.1), (6, I x3.2), (7, I x4.1), (8, I x4.2), (10, B x5.1), (11, I x5.2)] [(416, RR 31 1 I ([x1.2, x2.2, x3.2, x4.2, x5.2] : List Int) 0 false), (176, RR 93 2 a92 x2.1 0 false)] 75) ?_
      refine sb 64 (eqI (lenL x2.1) 1) ?_ ?_
      · refine sg 22 (mkE [(68, B (eqI x3.1 5)), (67, B (eqI x3.1 5)), (66, B (eqI x3.1 5)), (65, I x3.1), (64, B true), (64, B (eqI (lenL x2.1) 1)), (63, B (eqI (lenL x2.1) 1)), (62, B (eqI (lenL x2.1) 1)), (61, I (lenL x2.1)), (60, .own 176 0), (59, B true), (59, B (eqI x1.1 7)), (58, B (eqI x1.1 7)), (57, B (eqI x1.1 7)), (56, I x1.1), (55, B true), (55, B (eqI x6 0)), (54, B (eqI x6 0)), (53, I x6), (52, .own 416 0), (51, I x5.2), (50, I x4.2), (49, I x3.2), (48, I x2.2), (47, I x1.2), (1, I x1.1), (2, I x1.2), (3, .own 176 0), (4, I x2.2), (5, I x3.1), (6, I x3.2), (7, I x4.1), (8, I x4.2), (10, B x5.1), (11, I x5.2)] [(416, RR 31 1 I ([x1.2, x2.2, x3.2, x4.2, x5.2] : List Int) 0 false), (176, RR 93 2 a92 x2.1 0 false)] 75) ?_
        refine sb 68 (eqI x3.1 5) ?_ ?_
        · refine sg 26 (mkE [(72, B (eqI x4.1 500)), (71, B (eqI x4.1 500)), (70, B (eqI x4.1 500)), (69, I x4.1), (68, B true), (68, B (eqI x3.1 5)), (67, B (eqI x3.1 5)), (66, B (eqI x3.1 5)), (65, I x3.1), (64, B true), (64, B (eqI (lenL x2.1) 1)), (63, B (eqI (lenL x2.1) 1)), (62, B (eqI (lenL x2.1) 1)), (61, I (lenL x2.1)), (60, .own 176 0), (59, B true), (59, B (eqI x1.1 7)), (58, B (eqI x1.1 7)), (57, B (eqI x1.1 7)), (56, I x1.1), (55, B true), (55, B (eqI x6 0)), (54, B (eqI x6 0)), (53, I x6), (52, .own 416 0), (51, I x5.2), (50, I x4.2), (49, I x3.2), (48, I x2.2), (47, I x1.2), (1, I x1.1), (2, I x1.2), (3, .own 176 0), (4, I x2.2), (5, I x3.1), (6, I x3.2), (7, I x4.1), (8, I x4.2), (10, B x5.1), (11, I x5.2)] [(416, RR 31 1 I ([x1.2, x2.2, x3.2, x4.2, x5.2] : List Int) 0 false), (176, RR 93 2 a92 x2.1 0 false)] 75) ?_
          refine sb 72 (eqI x4.1 500) ?_ ?_
          · refine se (mkE [(0, B x5.1)] [] 75) ?_
            refine pN ?_
            refine pS ?_
            refine gE ?_
            exact pL
          · refine se (mkE [(0, B false)] [] 75) ?_
            refine pN ?_
            refine pS ?_
            refine gE ?_
            exact pL
        · refine se (mkE [(0, B false)] [] 75) ?_
          refine pN ?_
          refine pS ?_
          refine gE ?_
          exact pL
      · refine se (mkE [(0, B false)] [] 75) ?_
        refine pN ?_
        refine pS ?_
        refine gE ?_
        exact pL
    · refine se (mkE [(0, B false)] [] 75) ?_
      refine pN ?_
      refine pS ?_
      refine gE ?_
      exact pL
  · refine se (mkE [(0, B false)] [] 75) ?_
    refine pN ?_
    refine pS ?_
    refine gE ?_
    exact pL
theorem F26 (m : Nat) (hm : 10 ≤ m) : callA Tryz.prog cfg m 26 [] = (T26).map B := by
  obtain ⟨q, rfl⟩ : ∃ q, m = q + 1 := ⟨m - 1, by omega⟩
  exact (callA_body (fn := Tryz.f26) (c := body_ Tryz.f26) q _ (by kernel_rfl) (by kernel_rfl) (by kernel_rfl)).trans (B26 _ (fun p0 => F20 q (by omega) p0) (fun p0 => F22 q (by omega) p0) (fun p0 p1 p2 => F42 q (by omega) p0 p1 p2) (fun p0 p1 => F45 q (by omega) p0 p1) (fun p0 p1 p2 => F67 q (by omega) p0 p1 p2) (fun p0 p1 => F68 q (by omega) p0 p1))

noncomputable def T69 (p0 : Int) : Option Bool := ((T70 p0 1 20000).bind fun x1 => (some (!x1)))
theorem B69 (C : Callee) (h70 : ∀ (p0 : Int) (p1 : Int) (p2 : Int), C 70 [I p0, I p1, I p2] = (T70 p0 p1 p2).map B) (p0 : Int) : runs Tryz.prog C (cfg.fn 69) (finFn Tryz.prog (cfg.fn 69).byval Tryz.f69) [] (execA Tryz.prog C (cfg.fn 69) (nr Tryz.f69 []) (frame0 [I p0] 6 false)) = (T69 p0).map B := by
  unfold T69
  refine gS 1 ?_
  refine gR 0 (rg Tryz.f69 0) ?_
  refine se (mkE [(0, I p0)] [] 6) ?_
  refine pN ?_
  refine pS ?_
  refine gS 0 ?_
  refine gR 1 (rg Tryz.f69 1) ?_
  refine sg 1 (mkE [(3, I p0), (0, I p0)] [] 6) ?_
  refine co 4 [] (h70 p0 1 20000) (fun x1 => ?_)
  refine se (mkE [(2, B (!x1))] [] 6) ?_
  refine pN ?_
  refine pS ?_
  refine gE ?_
  exact pL
theorem F69 (m : Nat) (hm : 2 ≤ m) (p0 : Int) : callA Tryz.prog cfg m 69 [I p0] = (T69 p0).map B := by
  obtain ⟨q, rfl⟩ : ∃ q, m = q + 1 := ⟨m - 1, by omega⟩
  exact (callA_body (fn := Tryz.f69) (c := body_ Tryz.f69) q _ (by kernel_rfl) (by kernel_rfl) (by kernel_rfl)).trans (B69 _ (fun p0 p1 p2 => F70 q (by omega) p0 p1 p2) p0)

noncomputable def L72_2 (p0 : (List Int)) (z0 : Int) : Option (Int ⊕ ((Int × Bool) ⊕ Unit)) := (bif (ltI z0 (lenL p0)) then ((listAt p0 z0).bind fun x1 => ((T69 x1).bind fun x2 => (bif (!x2) then (some (.inr (.inr ()))) else (some (.inl (addI .i64 z0 1)))))) else (some (.inr (.inl (z0, (ltI z0 (lenL p0)))))))
theorem L72_2_ok (C : Callee) (h69 : ∀ (p0 : Int), C 69 [I p0] = (T69 p0).map B) (p0 : (List Int)) (z0 : Int) : runs Tryz.prog C (cfg.fn 72) (finLoop ((cfg.fn 72).keep 2) ((cfg.fn 72).al 2)) [] (execA Tryz.prog C (cfg.fn 72) (nr Tryz.f72 [false, false, true, false, true]) ((fun z0 : Int => (mkE [(5, LL I p0), (6, I (lenL p0)), (7, I z0)] [] 15)) z0)) = (L72_2 p0 z0).map (Sum.elim (fun z => .inl ((fun z0 : Int => (mkE [(5, LL I p0), (6, I (lenL p0)), (7, I z0)] [] 15)) z)) (fun x => .inr ((Sum.elim (fun (x : (Int × Bool)) => (.exit 0, (mkE [(5, LL I p0), (6, I (lenL p0)), (7, I x.1), (8, B x.2)] [] 15))) (fun (x : Unit) => (.ret, (mkE [(2, I 1)] [] 15)))) x))) := by
  unfold L72_2
  refine gS 0 ?_
  refine gR 2 (rg Tryz.f72 2) ?_
  refine se (mkE [(5, LL I p0), (6, I (lenL p0)), (7, I z0), (8, B (ltI z0 (lenL p0)))] [] 15) ?_
  refine pN ?_
  refine pS ?_
  refine gS 3 ?_
  refine gC 8 (ltI z0 (lenL p0)) ?_ ?_
  · refine gK ?_
    refine pN ?_
    refine pS ?_
    refine gS 6 ?_
    refine gB 1 ?_
    refine gS 4 ?_
    refine gR 3 (rg Tryz.f72 3) ?_
    refine vo 9 (addrE 22 3 1 I .i64 p0 z0) (fun x1 => ?_)
    refine se (mkE [(4, I x1), (5, LL I p0), (6, I (lenL p0)), (7, I z0)] [] 15) ?_
    refine pN ?_
    refine pS ?_
    refine gS 0 ?_
    refine gR 4 (rg Tryz.f72 4) ?_
    refine sg 1 (mkE [(11, I x1), (4, I x1), (5, LL I p0), (6, I (lenL p0)), (7, I z0)] [] 15) ?_
    refine co 12 [] (h69 x1) (fun x2 => ?_)
    refine se (mkE [(5, LL I p0), (6, I (lenL p0)), (7, I z0), (13, B (!x2))] [] 15) ?_
    refine pN ?_
    refine pS ?_
    refine gC 13 (!x2) ?_ ?_
    · refine gS 0 ?_
      refine gR 5 (rg Tryz.f72 5) ?_
      refine se (mkE [(2, I 1)] [] 15) ?_
      refine pN ?_
      refine pS ?_
      refine gE ?_
      exact pL
    · refine gK ?_
      refine pB ?_
      refine pN ?_
      refine pS ?_
      refine gR 6 (rg Tryz.f72 6) ?_
      refine se (mkE [(5, LL I p0), (6, I (lenL p0)), (7, I (addI .i64 z0 1))] [] 15) ?_
      exact pL
  · refine gX 0 ?_
    exact pL
noncomputable def T72 (p0 : (List Int)) : Option Int := ((iter (L72_2 p0) 0).bind fun y3 => (Sum.elim (fun y3a => (some 0)) (fun y3b => (some 1)) y3))
theorem B72 (C : Callee) (h69 : ∀ (p0 : Int), C 69 [I p0] = (T69 p0).map B) (p0 : (List Int)) : runs Tryz.prog C (cfg.fn 72) (finFn Tryz.prog (cfg.fn 72).byval Tryz.f72) [] (execA Tryz.prog C (cfg.fn 72) (nr Tryz.f72 []) (frame0 [LL I p0] 15 false)) = (T72 p0).map I := by
  unfold T72
  refine gS 1 ?_
  refine gR 0 (rg Tryz.f72 0) ?_
  refine se (mkE [(0, LL I p0)] [] 15) ?_
  refine pN ?_
  refine pS ?_
  refine gS 7 ?_
  refine gS 2 ?_
  refine gR 1 (rg Tryz.f72 1) ?_
  refine sg 1 (mkE [(5, LL I p0), (0, LL I p0)] [] 15) ?_
  refine eo 6 (I (lenL p0)) (lenE 22 I p0) ?_
  refine se (mkE [(5, LL I p0), (6, I (lenL p0)), (7, I 0)] [] 15) ?_
  refine pN ?_
  refine pS ?_
  refine gB 0 ?_
  refine lo [(5, none), (6, none), (7, none)] [] (L72_2 p0) (fun z0 : Int => (mkE [(5, LL I p0), (6, I (lenL p0)), (7, I z0)] [] 15)) (Sum.elim (fun (x : (Int × Bool)) => (.exit 0, (mkE [(5, LL I p0), (6, I (lenL p0)), (7, I x.1), (8, B x.2)] [] 15))) (fun (x : Unit) => (.ret, (mkE [(2, I 1)] [] 15)))) 0 (fun z => L72_2_ok C h69 p0 z) ?_
  intro y3
  refine ss y3 (Z := (Sum.elim (fun (x : (Int × Bool)) => (.exit 0, (mkE [(5, LL I p0), (6, I (lenL p0)), (7, I x.1), (8, B x.2)] [] 15))) (fun (x : Unit) => (.ret, (mkE [(2, I 1)] [] 15))))) (fun y3a => ?_) (fun y3b => ?_)
  · refine pH ?_
    refine pN ?_
    refine pS ?_
    refine gS 0 ?_
    refine gR 7 (rg Tryz.f72 7) ?_
    refine se (mkE [(2, I 0)] [] 15) ?_
    refine pN ?_
    refine pS ?_
    refine gE ?_
    exact pL
  · exact pL
theorem F72 (m : Nat) (hm : 3 ≤ m) (p0 : (List Int)) : callA Tryz.prog cfg m 72 [LL I p0] = (T72 p0).map I := by
  obtain ⟨q, rfl⟩ : ∃ q, m = q + 1 := ⟨m - 1, by omega⟩
  exact (callA_body (fn := Tryz.f72) (c := body_ Tryz.f72) q _ (by kernel_rfl) (by kernel_rfl) (by kernel_rfl)).trans (B72 _ (fun p0 => F69 q (by omega) p0) p0)

noncomputable def T74 (p0 : Int) (p1 : Int) (p2 : Int) (p3 : Int) : Option S28 := (some (S28.mk (quoI .i64 (subI .i64 p2 p0) 2) (quoI .i64 (subI .i64 p3 p1) 2) p0 p1))
theorem B74 (C : Callee) (p0 : Int) (p1 : Int) (p2 : Int) (p3 : Int) : runs Tryz.prog C (cfg.fn 74) (finFn Tryz.prog (cfg.fn 74).byval Tryz.f74) [] (execA Tryz.prog C (cfg.fn 74) (nr Tryz.f74 []) (frame0 [I p0, I p1, I p2, I p3] 20 false)) = (T74 p0 p1 p2 p3).map a28 := by
  unfold T74
  refine gS 1 ?_
  refine gR 0 (rg Tryz.f74 0) ?_
  refine se (mkE [(0, I p0), (1, I p1), (2, I p2), (3, I p3), (8, .ba 64 0)] [(64, .box [I 0, I 0, I 0, I 0] false)] 20) ?_
  refine pN ?_
  refine pS ?_
  refine gS 0 ?_
  refine gR 1 (rg Tryz.f74 1) ?_
  refine se (mkE [(8, .ba 64 0)] [(64, .box [I (quoI .i64 (subI .i64 p2 p0) 2), I (quoI .i64 (subI .i64 p3 p1) 2), I p0, I p1] false)] 20) ?_
  refine pN ?_
  refine pS ?_
  refine gE ?_
  exact pL
theorem F74 (m : Nat) (hm : 1 ≤ m) (p0 : Int) (p1 : Int) (p2 : Int) (p3 : Int) : callA Tryz.prog cfg m 74 [I p0, I p1, I p2, I p3] = (T74 p0 p1 p2 p3).map a28 := by
  obtain ⟨q, rfl⟩ : ∃ q, m = q + 1 := ⟨m - 1, by omega⟩
  exact (callA_body (fn := Tryz.f74) (c := body_ Tryz.f74) q _ (by kernel_rfl) (by kernel_rfl) (by kernel_rfl)).trans (B74 _ p0 p1 p2 p3)

noncomputable def T29 (p0 : Int) (p1 : Int) (p2 : Int) (p3 : Int) (p4 : Int) : Option (S28 × S28 × Int) := ((T72 ([p0, p1, p2, p3] : List Int)).bind fun x1 => (bif (neI x1 0) then (some ((S28.mk 0 0 0 0), (S28.mk 0 0 0 0), x1)) else (((bif (eqI p4 1) then (some (.inl (0, 0, p0, p1, 0, 0, p2, p3))) else (bif (eqI p4 2) then (bif (leI (mulI .i64 p1 p2) (mulI .i64 p0 p3)) then ((quoO .i64 (mulI .i64 p1 p2) p0).bind fun x2 => ((T74 p2 (maxI 1 x2) p2 p3).bind fun x3 => (some (.inl (0, 0, p0, p1, x3.f0, x3.f1, x3.f2, x3.f3))))) else (bif (eqI p4 2) then ((quoO .i64 (mulI .i64 p0 p3) p1).bind fun x4 => ((T74 (maxI 1 x4) p3 p2 p3).bind fun x5 => (some (.inl (0, 0, p0, p1, x5.f0, x5.f1, x5.f2, x5.f3))))) else (bif (eqI p4 3) then (bif (leI (mulI .i64 p1 p2) (mulI .i64 p0 p3)) then ((quoO .i64 (mulI .i64 p1 p2) p3).bind fun x6 => ((T74 (maxI 1 x6) p1 p0 p1).bind fun x7 => (some (.inl (x7.f0, x7.f1, x7.f2, x7.f3, 0, 0, p2, p3))))) else (bif (eqI p4 3) then ((quoO .i64 (mulI .i64 p0 p3) p2).bind fun x8 => ((T74 p0 (maxI 1 x8) p0 p1).bind fun x9 => (some (.inl (x9.f0, x9.f1, x9.f2, x9.f3, 0, 0, p2, p3))))) else (some (.inr ())))) else (bif (eqI p4 3) then ((quoO .i64 (mulI .i64 p0 p3) p2).bind fun x10 => ((T74 p0 (maxI 1 x10) p0 p1).bind fun x11 => (some (.inl (x11.f0, x11.f1, x11.f2, x11.f3, 0, 0, p2, p3))))) else (some (.inr ())))))) else (bif (eqI p4 2) then ((quoO .i64 (mulI .i64 p0 p3) p1).bind fun x12 => ((T74 (maxI 1 x12) p3 p2 p3).bind fun x13 => (some (.inl (0, 0, p0, p1, x13.f0, x13.f1, x13.f2, x13.f3))))) else (bif (eqI p4 3) then (bif (leI (mulI .i64 p1 p2) (mulI .i64 p0 p3)) then ((quoO .i64 (mulI .i64 p1 p2) p3).bind fun x14 => ((T74 (maxI 1 x14) p1 p0 p1).bind fun x15 => (some (.inl (x15.f0, x15.f1, x15.f2, x15.f3, 0, 0, p2, p3))))) else (bif (eqI p4 3) then ((quoO .i64 (mulI .i64 p0 p3) p2).bind fun x16 => ((T74 p0 (maxI 1 x16) p0 p1).bind fun x17 => (some (.inl (x17.f0, x17.f1, x17.f2, x17.f3, 0, 0, p2, p3))))) else (some (.inr ())))) else (bif (eqI p4 3) then ((quoO .i64 (mulI .i64 p0 p3) p2).bind fun x18 => ((T74 p0 (maxI 1 x18) p0 p1).bind fun x19 => (some (.inl (x19.f0, x19.f1, x19.f2, x19.f3, 0, 0, p2, p3))))) else (some (.inr ()))))))) : Option ((Int × Int × Int × Int × Int × Int × Int × Int) ⊕ Unit)).bind fun y20 => (Sum.elim (fun y20a => (some ((S28.mk y20a.1 y20a.2.1 y20a.2.2.1 y20a.2.2.2.1), (S28.mk y20a.2.2.2.2.1 y20a.2.2.2.2.2.1 y20a.2.2.2.2.2.2.1 y20a.2.2.2.2.2.2.2), 0))) (fun y20b => (some ((S28.mk 0 0 0 0), (S28.mk 0 0 0 0), 4))) y20))))
theorem B29 (C : Callee) (h72 : ∀ (p0 : (List Int)), C 72 [LL I p0] = (T72 p0).map I) (h74 : ∀ (p0 : Int) (p1 : Int) (p2 : Int) (p3 : Int), C 74 [I p0, I p1, I p2, I p3] = (T74 p0 p1 p2 p3).map a28) (p0 : Int) (p1 : Int) (p2 : Int) (p3 : Int) (p4 : Int) : runs Tryz.prog C (cfg.fn 29) (finFn Tryz.prog (cfg.fn 29).byval Tryz.f29) [] (execA Tryz.prog C (cfg.fn 29) (nr Tryz.f29 []) (frame0 [I p0, I p1, I p2, I p3, I p4] 104 false)) = (T29 p0 p1 p2 p3 p4).map (fun r => AV.tup [a28 r.1, a28 r.2.1, I r.2.2]) := by
  unfold T29
  let s_0 : List (Nat × AV) := [(0, I p0), (1, I p1), (2, I p2), (3, I p3), (4, I p4), (10, .ba 80 0), (11, .ba 88 0)]
  let s_1 : List (Nat × AV) := [(96, I p2), (95, I (mulI .i64 p0 p3)), (94, I p3), (93, I p0), (92, I p0), (0, I p0), (1, I p1), (2, I p2), (3, I p3), (10, .ba 80 0), (11, .ba 88 0), (89, B (eqI p4 3))]
  let s_2 : List (Nat × AV) := [(10, .ba 80 0), (11, .ba 88 0)]
  let s_3 : List (Nat × AV) := [(14, B (leI (mulI .i64 p1 p2) (mulI .i64 p0 p3)))]
  let s_4 : List (Nat × AV) := [(73, B (leI (mulI .i64 p1 p2) (mulI .i64 p0 p3)))]
  let s_5 : List (Nat × AV) := [(66, I p1), (65, I (mulI .i64 p0 p3)), (64, I p3), (63, I p0)]
  let s_6 : List (Nat × AV) := [(82, I p3), (81, I (mulI .i64 p1 p2)), (80, I p2), (79, I p1)]
  let o_0 : List (Nat × AObj) := [(80, .box [I 0, I 0, I p0, I p1] false), (88, .box [I 0, I 0, I p2, I p3] false)]
  let o_1 : List (Nat × AObj) := [(80, .box [I 0, I 0, I 0, I 0] false), (88, .box [I 0, I 0, I 0, I 0] false)]
  let o_2 : List (Nat × AObj) := [(88, .box [I 0, I 0, I p2, I p3] false)]
  let o_3 : List (Nat × AObj) := [(80, .box [I 0, I 0, I p0, I p1] false)]
  refine gS 1 ?_
  refine gR 0 (rg Tryz.f29 0) ?_
  refine se (mkE s_0 o_1 104) ?_
  refine pN ?_
  refine pS ?_
  refine gS 4 ?_
  refine gS 2 ?_
  refine gR 1 (rg Tryz.f29 1) ?_
  refine sg 5 (mkE ((19, .own 152 0) :: ((18, I p3) :: ((17, I p2) :: ((16, I p1) :: ((15, I p0) :: s_0))))) ((152, RR 3 1 I ([p0, p1, p2, p3] : List Int) 0 false) :: o_1) 104) ?_
  refine co 20 [152] (h72 ([p0, p1, p2, p3] : List Int)) (fun x1 => ?_)
  refine se (mkE (s_0.append [(13, I x1)]) o_1 104) ?_
  refine pN ?_
  refine pS ?_
  refine gS 0 ?_
  refine gR 2 (rg Tryz.f29 2) ?_
  refine se (mkE (s_0.append ((13, I x1) :: [(22, B (neI x1 0))])) o_1 104) ?_
  refine pN ?_
  refine pS ?_
  refine gC 22 (neI x1 0) ?_ ?_
  · refine gS 0 ?_
    refine gR 3 (rg Tryz.f29 3) ?_
    refine se (mkE (s_2.append [(12, I x1)]) o_1 104) ?_
    refine pN ?_
    refine pS ?_
    refine gE ?_
    exact pL
  · refine gK ?_
    refine pN ?_
    refine pS ?_
    refine gS 5 ?_
    refine gR 4 (rg Tryz.f29 4) ?_
    refine se (mkE s_0 o_0 104) ?_
    refine pN ?_
    refine pS ?_
    refine gS 7 ?_
    refine gR 5 (rg Tryz.f29 5) ?_
    refine se (mkE (s_0.append s_3) o_0 104) ?_
    refine pN ?_
    refine pS ?_
    refine jS 16 ((bif (eqI p4 1) then (some (.inl (0, 0, p0, p1, 0, 0, p2, p3))) else (bif (eqI p4 2) then (bif (leI (mulI .i64 p1 p2) (mulI .i64 p0 p3)) then ((quoO .i64 (mulI .i64 p1 p2) p0).bind fun x2 => ((T74 p2 (maxI 1 x2) p2 p3).bind fun x3 => (some (.inl (0, 0, p0, p1, x3.f0, x3.f1, x3.f2, x3.f3))))) else (bif (eqI p4 2) then ((quoO .i64 (mulI .i64 p0 p3) p1).bind fun x4 => ((T74 (maxI 1 x4) p3 p2 p3).bind fun x5 => (some (.inl (0, 0, p0, p1, x5.f0, x5.f1, x5.f2, x5.f3))))) else (bif (eqI p4 3) then (bif (leI (mulI .i64 p1 p2) (mulI .i64 p0 p3)) then ((quoO .i64 (mulI .i64 p1 p2) p3).bind fun x6 => ((T74 (maxI 1 x6) p1 p0 p1).bind fun x7 => (some (.inl (x7.f0, x7.f1, x7.f2, x7.f3, 0, 0, p2, p3))))) else (bif (eqI p4 3) then ((quoO .i64 (mulI .i64 p0 p3) p2).bind fun x8 => ((T74 p0 (maxI 1 x8) p0 p1).bind fun x9 => (some (.inl (x9.f0, x9.f1, x9.f2, x9.f3, 0, 0, p2, p3))))) else (some (.inr ())))) else (bif (eqI p4 3) then ((quoO .i64 (mulI .i64 p0 p3) p2).bind fun x10 => ((T74 p0 (maxI 1 x10) p0 p1).bind fun x11 => (some (.inl (x11.f0, x11.f1, x11.f2, x11.f3, 0, 0, p2, p3))))) else (some (.inr ())))))) else (bif (eqI p4 2) then ((quoO .i64 (mulI .i64 p0 p3) p1).bind fun x12 => ((T74 (maxI 1 x12) p3 p2 p3).bind fun x13 => (some (.inl (0, 0, p0, p1, x13.f0, x13.f1, x13.f2, x13.f3))))) else (bif (eqI p4 3) then (bif (leI (mulI .i64 p1 p2) (mulI .i64 p0 p3)) then ((quoO .i64 (mulI .i64 p1 p2) p3).bind fun x14 => ((T74 (maxI 1 x14) p1 p0 p1).bind fun x15 => (some (.inl (x15.f0, x15.f1, x15.f2, x15.f3, 0, 0, p2, p3))))) else (bif (eqI p4 3) then ((quoO .i64 (mulI .i64 p0 p3) p2).bind fun x16 => ((T74 p0 (maxI 1 x16) p0 p1).bind fun x17 => (some (.inl (x17.f0, x17.f1, x17.f2, x17.f3, 0, 0, p2, p3))))) else (some (.inr ())))) else (bif (eqI p4 3) then ((quoO .i64 (mulI .i64 p0 p3) p2).bind fun x18 => ((T74 p0 (maxI 1 x18) p0 p1).bind fun x19 => (some (.inl (x19.f0, x19.f1, x19.f2, x19.f3, 0, 0, p2, p3))))) else (some (.inr ()))))))) : Option ((Int × Int × Int × Int × Int × Int × Int × Int) ⊕ Unit)) (Sum.elim (fun (x : (Int × Int × Int × Int × Int × Int × Int × Int)) => (.normal, (mkE s_2 [(80, .box [I x.1, I x.2.1, I x.2.2.1, I x.2.2.2.1] false), (88, .box [I x.2.2.2.2.1, I x.2.2.2.2.2.1, I x.2.2.2.2.2.2.1, I x.2.2.2.2.2.2.2] false)] 104))) (fun (x : Unit) => (.ret, (mkE (s_2.append [(12, I 4)]) o_1 104)))) ?_ (fun y20 => ?_)
    · refine gB 0 ?_
      refine gS 0 ?_
      refine gR 7 (rg Tryz.f29 7) ?_
      refine se (mkE (s_0.append (s_3.append [(41, B (eqI p4 1))])) o_0 104) ?_
      refine pN ?_
      refine pS ?_
      refine gC 41 (eqI p4 1) ?_ ?_
      · refine gK ?_
        refine pB ?_
        refine pG (mkE s_2 o_0 104) ?_
        exact pL
      · refine gS 0 ?_
        refine gR 8 (rg Tryz.f29 8) ?_
        refine sg 3 (mkE ((47, B (eqI p4 2)) :: ((46, B (eqI p4 2)) :: ((45, I p4) :: (s_0.append (s_3.append [(41, B (eqI p4 1))]))))) o_0 104) ?_
        refine sb 47 (eqI p4 2) ?_ ?_
        · refine se (mkE (s_0.append (s_3.append [(44, B (leI (mulI .i64 p1 p2) (mulI .i64 p0 p3)))])) o_0 104) ?_
          refine pN ?_
          refine pS ?_
          refine gC 44 (leI (mulI .i64 p1 p2) (mulI .i64 p0 p3)) ?_ ?_
          · refine gR 9 (rg Tryz.f29 9) ?_
            refine sg 5 (mkE ((54, I p0) :: ((53, I (mulI .i64 p1 p2)) :: ((52, I p2) :: ((51, I p1) :: ((50, I p2) :: (s_0.append (s_3.append [(44, B (leI (mulI .i64 p1 p2) (mulI .i64 p0 p3)))]))))))) o_0 104) ?_
            refine vo 55 (quoE 3 .i64 (.tmp 53) (.tmp 54) (mulI .i64 p1 p2) p0) (fun x2 => ?_)
            refine sg 9 (mkE ((58, I p3) :: ((57, I p2) :: ((56, I (maxI 1 x2)) :: ((55, I x2) :: ((54, I p0) :: ((53, I (mulI .i64 p1 p2)) :: ((52, I p2) :: ((51, I p1) :: ((50, I p2) :: (s_0.append (s_3.append [(44, B (leI (mulI .i64 p1 p2) (mulI .i64 p0 p3)))]))))))))))) o_0 104) ?_
            refine co 59 [] (h74 p2 (maxI 1 x2) p2 p3) (fun x3 => ?_)
            refine se (mkE s_2 (o_3.append [(88, .box [I x3.f0, I x3.f1, I x3.f2, I x3.f3] false)]) 104) ?_
            refine pB ?_
            refine pG (mkE s_2 (o_3.append [(88, .box [I x3.f0, I x3.f1, I x3.f2, I x3.f3] false)]) 104) ?_
            exact pL
          · refine gS 0 ?_
            refine gR 10 (rg Tryz.f29 10) ?_
            refine se (mkE (s_0.append (s_3.append [(60, B (eqI p4 2))])) o_0 104) ?_
            refine pN ?_
            refine pS ?_
            refine gC 60 (eqI p4 2) ?_ ?_
            · refine gR 11 (rg Tryz.f29 11) ?_
              refine sg 4 (mkE (s_5.append (s_0.append (s_3.append [(60, B (eqI p4 2))]))) o_0 104) ?_
              refine vo 67 (quoE 3 .i64 (.tmp 65) (.tmp 66) (mulI .i64 p0 p3) p1) (fun x4 => ?_)
              refine sg 9 (mkE ((71, I p3) :: ((70, I p2) :: ((69, I p3) :: ((68, I (maxI 1 x4)) :: ((67, I x4) :: (s_5.append (s_0.append (s_3.append [(60, B (eqI p4 2))])))))))) o_0 104) ?_
              refine co 72 [] (h74 (maxI 1 x4) p3 p2 p3) (fun x5 => ?_)
              refine se (mkE s_2 (o_3.append [(88, .box [I x5.f0, I x5.f1, I x5.f2, I x5.f3] false)]) 104) ?_
              refine pB ?_
              refine pG (mkE s_2 (o_3.append [(88, .box [I x5.f0, I x5.f1, I x5.f2, I x5.f3] false)]) 104) ?_
              exact pL
            · refine gS 0 ?_
              refine gR 12 (rg Tryz.f29 12) ?_
              refine sg 3 (mkE ((76, B (eqI p4 3)) :: ((75, B (eqI p4 3)) :: ((74, I p4) :: (s_0.append (s_3.append [(60, B (eqI p4 2))]))))) o_0 104) ?_
              refine sb 76 (eqI p4 3) ?_ ?_
              · refine se (mkE (s_0.append s_4) o_0 104) ?_
                refine pN ?_
                refine pS ?_
                refine gC 73 (leI (mulI .i64 p1 p2) (mulI .i64 p0 p3)) ?_ ?_
                · refine gR 13 (rg Tryz.f29 13) ?_
                  refine sg 4 (mkE (s_6.append (s_0.append s_4)) o_0 104) ?_
                  refine vo 83 (quoE 3 .i64 (.tmp 81) (.tmp 82) (mulI .i64 p1 p2) p3) (fun x6 => ?_)
                  refine sg 9 (mkE ((87, I p1) :: ((86, I p0) :: ((85, I p1) :: ((84, I (maxI 1 x6)) :: ((83, I x6) :: (s_6.append (s_0.append s_4))))))) o_0 104) ?_
                  refine co 88 [] (h74 (maxI 1 x6) p1 p0 p1) (fun x7 => ?_)
                  refine se (mkE s_2 ((80, .box [I x7.f0, I x7.f1, I x7.f2, I x7.f3] false) :: o_2) 104) ?_
                  refine pB ?_
                  refine pG (mkE s_2 ((80, .box [I x7.f0, I x7.f1, I x7.f2, I x7.f3] false) :: o_2) 104) ?_
                  exact pL
                · refine gS 0 ?_
                  refine gR 14 (rg Tryz.f29 14) ?_
                  refine se (mkE ((0, I p0) :: ((1, I p1) :: ((2, I p2) :: ((3, I p3) :: (s_2.append [(89, B (eqI p4 3))]))))) o_0 104) ?_
                  refine pN ?_
                  refine pS ?_
                  refine gC 89 (eqI p4 3) ?_ ?_
                  · refine gR 15 (rg Tryz.f29 15) ?_
                    refine sg 5 (mkE s_1 o_0 104) ?_
                    refine vo 97 (quoE 3 .i64 (.tmp 95) (.tmp 96) (mulI .i64 p0 p3) p2) (fun x8 => ?_)
                    refine sg 9 (mkE ((100, I p1) :: ((99, I p0) :: ((98, I (maxI 1 x8)) :: ((97, I x8) :: s_1)))) o_0 104) ?_
                    refine co 101 [] (h74 p0 (maxI 1 x8) p0 p1) (fun x9 => ?_)
                    refine se (mkE s_2 ((80, .box [I x9.f0, I x9.f1, I x9.f2, I x9.f3] false) :: o_2) 104) ?_
                    refine pB ?_
                    refine pG (mkE s_2 ((80, .box [I x9.f0, I x9.f1, I x9.f2, I x9.f3] false) :: o_2) 104) ?_
                    exact pL
                  · refine gS 0 ?_
                    refine gR 6 (rg Tryz.f29 6) ?_
                    refine se (mkE (s_2.append [(12, I 4)]) o_1 104) ?_
                    refine pN ?_
                    refine pS ?_
                    refine gE ?_
                    exact pL
              · refine se (mkE (s_0.append [(73, B false)]) o_0 104) ?_
                refine pN ?_
                refine pS ?_
                refine gF (.tmp 73) ?_
                refine gS 0 ?_
                refine gR 14 (rg Tryz.f29 14) ?_
                refine se (mkE ((0, I p0) :: ((1, I p1) :: ((2, I p2) :: ((3, I p3) :: (s_2.append [(89, B (eqI p4 3))]))))) o_0 104) ?_
                refine pN ?_
                refine pS ?_
                refine gC 89 (eqI p4 3) ?_ ?_
                · refine gR 15 (rg Tryz.f29 15) ?_
                  refine sg 5 (mkE s_1 o_0 104) ?_
                  refine vo 97 (quoE 3 .i64 (.tmp 95) (.tmp 96) (mulI .i64 p0 p3) p2) (fun x10 => ?_)
                  refine sg 9 (mkE ((100, I p1) :: ((99, I p0) :: ((98, I (maxI 1 x10)) :: ((97, I x10) :: s_1)))) o_0 104) ?_
                  refine co 101 [] (h74 p0 (maxI 1 x10) p0 p1) (fun x11 => ?_)
                  refine se (mkE s_2 ((80, .box [I x11.f0, I x11.f1, I x11.f2, I x11.f3] false) :: o_2) 104) ?_
                  refine pB ?_
                  refine pG (mkE s_2 ((80, .box [I x11.f0, I x11.f1, I x11.f2, I x11.f3] false) :: o_2) 104) ?_
                  exact pL
                · refine gS 0 ?_
                  refine gR 6 (rg Tryz.f29 6) ?_
                  refine se (mkE (s_2.append [(12, I 4)]) o_1 104) ?_
                  refine pN ?_
                  refine pS ?_
                  refine gE ?_
                  exact pL
        · refine se (mkE (s_0.append (s_3.append [(44, B false)])) o_0 104) ?_
          refine pN ?_
          refine pS ?_
          refine gF (.tmp 44) ?_
          refine gS 0 ?_
          refine gR 10 (rg Tryz.f29 10) ?_
          refine se (mkE (s_0.append (s_3.append [(60, B (eqI p4 2))])) o_0 104) ?_
          refine pN ?_
          refine pS ?_
          refine gC 60 (eqI p4 2) ?_ ?_
          · refine gR 11 (rg Tryz.f29 11) ?_
            refine sg 4 (mkE (s_5.append (s_0.append (s_3.append [(60, B (eqI p4 2))]))) o_0 104) ?_
            refine vo 67 (quoE 3 .i64 (.tmp 65) (.tmp 66) (mulI .i64 p0 p3) p1) (fun x12 => ?_)
            refine sg 9 (mkE ((71, I p3) :: ((70, I p2) :: ((69, I p3) :: ((68, I (maxI 1 x12)) :: ((67, I x12) :: (s_5.append (s_0.append (s_3.append [(60, B (eqI p4 2))])))))))) o_0 104) ?_
            refine co 72 [] (h74 (maxI 1 x12) p3 p2 p3) (fun x13 => ?_)
            refine se (mkE s_2 (o_3.append [(88, .box [I x13.f0, I x13.f1, I x13.f2, I x13.f3] false)]) 104) ?_
            refine pB ?_
            refine pG (mkE s_2 (o_3.append [(88, .box [I x13.f0, I x13.f1, I x13.f2, I x13.f3] false)]) 104) ?_
            exact pL
          · refine gS 0 ?_
            refine gR 12 (rg Tryz.f29 12) ?_
            refine sg 3 (mkE ((76, B (eqI p4 3)) :: ((75, B (eqI p4 3)) :: ((74, I p4) :: (s_0.append (s_3.append [(60, B (eqI p4 2))]))))) o_0 104) ?_
            refine sb 76 (eqI p4 3) ?_ ?_
            · refine se (mkE (s_0.append s_4) o_0 104) ?_
              refine pN ?_
              refine pS ?_
              refine gC 73 (leI (mulI .i64 p1 p2) (mulI .i64 p0 p3)) ?_ ?_
              · refine gR 13 (rg Tryz.f29 13) ?_
                refine sg 4 (mkE (s_6.append (s_0.append s_4)) o_0 104) ?_
                refine vo 83 (quoE 3 .i64 (.tmp 81) (.tmp 82) (mulI .i64 p1 p2) p3) (fun x14 => ?_)
                refine sg 9 (mkE ((87, I p1) :: ((86, I p0) :: ((85, I p1) :: ((84, I (maxI 1 x14)) :: ((83, I x14) :: (s_6.append (s_0.append s_4))))))) o_0 104) ?_
                refine co 88 [] (h74 (maxI 1 x14) p1 p0 p1) (fun x15 => ?_)
                refine se (mkE s_2 ((80, .box [I x15.f0, I x15.f1, I x15.f2, I x15.f3] false) :: o_2) 104) ?_
                refine pB ?_
                refine pG (mkE s_2 ((80, .box [I x15.f0, I x15.f1, I x15.f2, I x15.f3] false) :: o_2) 104) ?_
                exact pL
              · refine gS 0 ?_
                refine gR 14 (rg Tryz.f29 14) ?_
                refine se (mkE ((0, I p0) :: ((1, I p1) :: ((2, I p2) :: ((3, I p3) :: (s_2.append [(89, B (eqI p4 3))]))))) o_0 104) ?_
                refine pN ?_
                refine pS ?_
                refine gC 89 (eqI p4 3) ?_ ?_
                · refine gR 15 (rg Tryz.f29 15) ?_
                  refine sg 5 (mkE s_1 o_0 104) ?_
                  refine vo 97 (quoE 3 .i64 (.tmp 95) (.tmp 96) (mulI .i64 p0 p3) p2) (fun x16 => ?_)
                  refine sg 9 (mkE ((100, I p1) :: ((99, I p0) :: ((98, I (maxI 1 x16)) :: ((97, I x16) :: s_1)))) o_0 104) ?_
                  refine co 101 [] (h74 p0 (maxI 1 x16) p0 p1) (fun x17 => ?_)
                  refine se (mkE s_2 ((80, .box [I x17.f0, I x17.f1, I x17.f2, I x17.f3] false) :: o_2) 104) ?_
                  refine pB ?_
                  refine pG (mkE s_2 ((80, .box [I x17.f0, I x17.f1, I x17.f2, I x17.f3] false) :: o_2) 104) ?_
                  exact pL
                · refine gS 0 ?_
                  refine gR 6 (rg Tryz.f29 6) ?_
                  refine se (mkE (s_2.append [(12, I 4)]) o_1 104) ?_
                  refine pN ?_
                  refine pS ?_
                  refine gE ?_
                  exact pL
            · refine se (mkE (s_0.append [(73, B false)]) o_0 104) ?_
              refine pN ?_
              refine pS ?_
              refine gF (.tmp 73) ?_
              refine gS 0 ?_
              refine gR 14 (rg Tryz.f29 14) ?_
              refine se (mkE ((0, I p0) :: ((1, I p1) :: ((2, I p2) :: ((3, I p3) :: (s_2.append [(89, B (eqI p4 3))]))))) o_0 104) ?_
              refine pN ?_
              refine pS ?_
              refine gC 89 (eqI p4 3) ?_ ?_
              · refine gR 15 (rg Tryz.f29 15) ?_
                refine sg 5 (mkE s_1 o_0 104) ?_
                refine vo 97 (quoE 3 .i64 (.tmp 95) (.tmp 96) (mulI .i64 p0 p3) p2) (fun x18 => ?_)
                refine sg 9 (mkE ((100, I p1) :: ((99, I p0) :: ((98, I (maxI 1 x18)) :: ((97, I x18) :: s_1)))) o_0 104) ?_
                refine co 101 [] (h74 p0 (maxI 1 x18) p0 p1) (fun x19 => ?_)
                refine se (mkE s_2 ((80, .box [I x19.f0, I x19.f1, I x19.f2, I x19.f3] false) :: o_2) 104) ?_
                refine pB ?_
                refine pG (mkE s_2 ((80, .box [I x19.f0, I x19.f1, I x19.f2, I x19.f3] false) :: o_2) 104) ?_
                exact pL
              · refine gS 0 ?_
                refine gR 6 (rg Tryz.f29 6) ?_
                refine se (mkE (s_2.append [(12, I 4)]) o_1 104) ?_
                refine pN ?_
                refine pS ?_
                refine gE ?_
                exact pL
    refine ss y20 (Z := (Sum.elim (fun (x : (Int × Int × Int × Int × Int × Int × Int × Int)) => (.normal, (mkE s_2 [(80, .box [I x.1, I x.2.1, I x.2.2.1, I x.2.2.2.1] false), (88, .box [I x.2.2.2.2.1, I x.2.2.2.2.2.1, I x.2.2.2.2.2.2.1, I x.2.2.2.2.2.2.2] false)] 104))) (fun (x : Unit) => (.ret, (mkE (s_2.append [(12, I 4)]) o_1 104))))) (fun y20a => ?_) (fun y20b => ?_)
    · refine pS ?_
      refine gS 0 ?_
      refine gD 16 3 (rg Tryz.f29 16) [0, 1, 2, 3, 4] ?_
      refine dg 3 [(some 102, qe (.agg [I y20a.1, I y20a.2.1, I y20a.2.2.1, I y20a.2.2.2.1])), (some 103, qe (.agg [I y20a.2.2.2.2.1, I y20a.2.2.2.2.2.1, I y20a.2.2.2.2.2.2.1, I y20a.2.2.2.2.2.2.2])), (none, { e := { val := .und }, st := some (80, .box [I y20a.1, I y20a.2.1, I y20a.2.2.1, I y20a.2.2.2.1] false, 0, 4) })] ?_
      refine de (mkE ((103, .agg [I y20a.2.2.2.2.1, I y20a.2.2.2.2.2.1, I y20a.2.2.2.2.2.2.1, I y20a.2.2.2.2.2.2.2]) :: ((102, .agg [I y20a.1, I y20a.2.1, I y20a.2.2.1, I y20a.2.2.2.1]) :: s_2)) [(80, .box [I y20a.1, I y20a.2.1, I y20a.2.2.1, I y20a.2.2.2.1] false), (80, .box [I y20a.1, I y20a.2.1, I y20a.2.2.1, I y20a.2.2.2.1] false), (88, .box [I y20a.2.2.2.2.1, I y20a.2.2.2.2.2.1, I y20a.2.2.2.2.2.2.1, I y20a.2.2.2.2.2.2.2] false)] 104) ?_
      refine se (mkE (s_2.append [(12, I 0)]) [(80, .box [I y20a.1, I y20a.2.1, I y20a.2.2.1, I y20a.2.2.2.1] false), (88, .box [I y20a.2.2.2.2.1, I y20a.2.2.2.2.2.1, I y20a.2.2.2.2.2.2.1, I y20a.2.2.2.2.2.2.2] false)] 104) ?_
      refine pN ?_
      refine pS ?_
      refine gE ?_
      exact pL
    · exact pL
theorem F29 (m : Nat) (hm : 4 ≤ m) (p0 : Int) (p1 : Int) (p2 : Int) (p3 : Int) (p4 : Int) : callA Tryz.prog cfg m 29 [I p0, I p1, I p2, I p3, I p4] = (T29 p0 p1 p2 p3 p4).map (fun r => AV.tup [a28 r.1, a28 r.2.1, I r.2.2]) := by
  obtain ⟨q, rfl⟩ : ∃ q, m = q + 1 := ⟨m - 1, by omega⟩
  exact (callA_body (fn := Tryz.f29) (c := body_ Tryz.f29) q _ (by kernel_rfl) (by kernel_rfl) (by kernel_rfl)).trans (B29 _ (fun p0 => F72 q (by omega) p0) (fun p0 p1 p2 p3 => F74 q (by omega) p0 p1 p2 p3) p0 p1 p2 p3 p4)

noncomputable def T30 (p0 : Int) (p1 : Int) (p2 : Int) (p3 : Int) (p4 : Bool) (p5 : Bool) : Option Bool := (bif p4 then (bif (ltI (maxI (subI .i64 (mulI .i64 p0 p3) (mulI .i64 p1 p2)) (subI .i64 (mulI .i64 p1 p2) (mulI .i64 p0 p3))) p2) then (some true) else (bif p5 then (some (ltI (maxI (subI .i64 (mulI .i64 p0 p3) (mulI .i64 p1 p2)) (subI .i64 (mulI .i64 p1 p2) (mulI .i64 p0 p3))) p3)) else (some false))) else (bif p5 then (some (ltI (maxI (subI .i64 (mulI .i64 p0 p3) (mulI .i64 p1 p2)) (subI .i64 (mulI .i64 p1 p2) (mulI .i64 p0 p3))) p3)) else (some false)))
theorem B30 (C : Callee) (p0 : Int) (p1 : Int) (p2 : Int) (p3 : Int) (p4 : Bool) (p5 : Bool) : runs Tryz.prog C (cfg.fn 30) (finFn Tryz.prog (cfg.fn 30).byval Tryz.f30) [] (execA Tryz.prog C (cfg.fn 30) (nr Tryz.f30 []) (frame0 [I p0, I p1, I p2, I p3, B p4, B p5] 43 false)) = (T30 p0 p1 p2 p3 p4 p5).map B := by
  unfold T30
  let s_0 : List (Nat × AV) := [(35, B (ltI (maxI (subI .i64 (mulI .i64 p0 p3) (mulI .i64 p1 p2)) (subI .i64 (mulI .i64 p1 p2) (mulI .i64 p0 p3))) p2)), (34, B (ltI (maxI (subI .i64 (mulI .i64 p0 p3) (mulI .i64 p1 p2)) (subI .i64 (mulI .i64 p1 p2) (mulI .i64 p0 p3))) p2)), (33, B (ltI (maxI (subI .i64 (mulI .i64 p0 p3) (mulI .i64 p1 p2)) (subI .i64 (mulI .i64 p1 p2) (mulI .i64 p0 p3))) p2)), (32, I p2), (31, I (maxI (subI .i64 (mulI .i64 p0 p3) (mulI .i64 p1 p2)) (subI .i64 (mulI .i64 p1 p2) (mulI .i64 p0 p3)))), (30, B true), (30, B p4), (29, B p4), (2, I p2), (3, I p3), (4, B p4), (5, B p5), (13, I (maxI (subI .i64 (mulI .i64 p0 p3) (mulI .i64 p1 p2)) (subI .i64 (mulI .i64 p1 p2) (mulI .i64 p0 p3))))]
  let s_1 : List (Nat × AV) := [(2, I p2), (3, I p3), (4, B p4), (5, B p5), (13, I (maxI (subI .i64 (mulI .i64 p0 p3) (mulI .i64 p1 p2)) (subI .i64 (mulI .i64 p1 p2) (mulI .i64 p0 p3))))]
  refine gS 1 ?_
  refine gR 0 (rg Tryz.f30 0) ?_
  refine se (mkE [(0, I p0), (1, I p1), (2, I p2), (3, I p3), (4, B p4), (5, B p5)] [] 43) ?_
  refine pN ?_
  refine pS ?_
  refine gS 2 ?_
  refine gR 1 (rg Tryz.f30 1) ?_
  refine se (mkE s_1 [] 43) ?_
  refine pN ?_
  refine pS ?_
  refine gS 0 ?_
  refine gR 2 (rg Tryz.f30 2) ?_
  refine sg 2 (mkE ((30, B p4) :: ((29, B p4) :: s_1)) [] 43) ?_
  refine sb 30 p4 ?_ ?_
  · refine sg 7 (mkE s_0 [] 43) ?_
    refine sb 35 (ltI (maxI (subI .i64 (mulI .i64 p0 p3) (mulI .i64 p1 p2)) (subI .i64 (mulI .i64 p1 p2) (mulI .i64 p0 p3))) p2) ?_ ?_
    · refine se (mkE [(12, B true)] [] 43) ?_
      refine pN ?_
      refine pS ?_
      refine gE ?_
      exact pL
    · refine sg 9 (mkE ((37, B p5) :: ((36, B p5) :: ((35, B false) :: s_0))) [] 43) ?_
      refine sb 37 p5 ?_ ?_
      · refine se (mkE [(12, B (ltI (maxI (subI .i64 (mulI .i64 p0 p3) (mulI .i64 p1 p2)) (subI .i64 (mulI .i64 p1 p2) (mulI .i64 p0 p3))) p3))] [] 43) ?_
        refine pN ?_
        refine pS ?_
        refine gE ?_
        exact pL
      · refine se (mkE [(12, B false)] [] 43) ?_
        refine pN ?_
        refine pS ?_
        refine gE ?_
        exact pL
  · refine sg 9 (mkE ((37, B p5) :: ((36, B p5) :: ((35, B false) :: ((34, B false) :: ((33, .und) :: ((32, .und) :: ((31, .und) :: ((30, B false) :: ((30, B p4) :: ((29, B p4) :: s_1)))))))))) [] 43) ?_
    refine sb 37 p5 ?_ ?_
    · refine se (mkE [(12, B (ltI (maxI (subI .i64 (mulI .i64 p0 p3) (mulI .i64 p1 p2)) (subI .i64 (mulI .i64 p1 p2) (mulI .i64 p0 p3))) p3))] [] 43) ?_
      refine pN ?_
      refine pS ?_
      refine gE ?_
      exact pL
    · refine se (mkE [(12, B false)] [] 43) ?_
      refine pN ?_
      refine pS ?_
      refine gE ?_
      exact pL
theorem F30 (m : Nat) (hm : 1 ≤ m) (p0 : Int) (p1 : Int) (p2 : Int) (p3 : Int) (p4 : Bool) (p5 : Bool) : callA Tryz.prog cfg m 30 [I p0, I p1, I p2, I p3, B p4, B p5] = (T30 p0 p1 p2 p3 p4 p5).map B := by
  obtain ⟨q, rfl⟩ : ∃ q, m = q + 1 := ⟨m - 1, by omega⟩
  exact (callA_body (fn := Tryz.f30) (c := body_ Tryz.f30) q _ (by kernel_rfl) (by kernel_rfl) (by kernel_rfl)).trans (B30 _ p0 p1 p2 p3 p4 p5)

noncomputable def L6_2 (p0 : Int) (p1 : Int) (p2 : Int) (p3 : Int) (z0 : Int) : Option (Int ⊕ ((Int × Bool) ⊕ Bool)) := (bif (ltI z0 (lenL ([p0, p1, p2, p3] : List Int))) then ((listAt ([p0, p1, p2, p3] : List Int) z0).bind fun x1 => (bif (ltI x1 1) then ((T26).bind fun x2 => (some (.inr (.inr x2)))) else (bif (ltI 20000 x1) then ((T26).bind fun x3 => (some (.inr (.inr x3)))) else (some (.inl (addI .i64 z0 1)))))) else (some (.inr (.inl (z0, (ltI z0 (lenL ([p0, p1, p2, p3] : List Int))))))))
theorem L6_2_ok (C : Callee) (h26 : C 26 [] = (T26).map B) (p0 : Int) (p1 : Int) (p2 : Int) (p3 : Int) (z0 : Int) : runs Tryz.prog C (cfg.fn 6) (finLoop ((cfg.fn 6).keep 2) ((cfg.fn 6).al 2)) [] (execA Tryz.prog C (cfg.fn 6) (nr Tryz.f6 [false, false, true, false, true]) ((fun z0 : Int => (mkE [(0, I p0), (1, I p1), (2, I p2), (3, I p3), (21, LL I ([p0, p1, p2, p3] : List Int)), (22, I (lenL ([p0, p1, p2, p3] : List Int))), (23, I z0)] [] 198)) z0)) = (L6_2 p0 p1 p2 p3 z0).map (Sum.elim (fun z => .inl ((fun z0 : Int => (mkE [(0, I p0), (1, I p1), (2, I p2), (3, I p3), (21, LL I ([p0, p1, p2, p3] : List Int)), (22, I (lenL ([p0, p1, p2, p3] : List Int))), (23, I z0)] [] 198)) z)) (fun x => .inr ((Sum.elim (fun (x : (Int × Bool)) => (.exit 0, (mkE [(0, I p0), (1, I p1), (2, I p2), (3, I p3), (21, LL I ([p0, p1, p2, p3] : List Int)), (22, I (lenL ([p0, p1, p2, p3] : List Int))), (23, I x.1), (24, B x.2)] [] 198))) (fun (x : Bool) => (.ret, (mkE [(8, B x)] [] 198)))) x))) := by
  unfold L6_2
  let s_0 : List (Nat × AV) := [(21, LL I ([p0, p1, p2, p3] : List Int)), (22, I (lenL ([p0, p1, p2, p3] : List Int)))]
  let s_1 : List (Nat × AV) := [(0, I p0), (1, I p1), (2, I p2), (3, I p3)]
  refine gS 0 ?_
  refine gR 2 (rg Tryz.f6 2) ?_
  refine se (mkE (s_1.append (s_0.append ((23, I z0) :: [(24, B (ltI z0 (lenL ([p0, p1, p2, p3] : List Int))))]))) [] 198) ?_
  refine pN ?_
  refine pS ?_
  refine gS 3 ?_
  refine gC 24 (ltI z0 (lenL ([p0, p1, p2, p3] : List Int))) ?_ ?_
  · refine gK ?_
    refine pN ?_
    refine pS ?_
    refine gS 6 ?_
    refine gB 1 ?_
    refine gS 4 ?_
    refine gR 3 (rg Tryz.f6 3) ?_
    refine vo 25 (addrE 22 3 1 I .i64 ([p0, p1, p2, p3] : List Int) z0) (fun x1 => ?_)
    refine se (mkE (s_1.append ((10, I x1) :: (s_0.append [(23, I z0)]))) [] 198) ?_
    refine pN ?_
    refine pS ?_
    refine gS 0 ?_
    refine gR 4 (rg Tryz.f6 4) ?_
    refine sg 3 (mkE ((29, B (ltI x1 1)) :: ((28, B (ltI x1 1)) :: ((27, I x1) :: (s_1.append ((10, I x1) :: (s_0.append [(23, I z0)])))))) [] 198) ?_
    refine sb 29 (ltI x1 1) ?_ ?_
    · refine se (mkE (s_1.append (s_0.append ((23, I z0) :: [(32, B true)]))) [] 198) ?_
      refine pN ?_
      refine pS ?_
      refine gT (.tmp 32) ?_
      refine gS 0 ?_
      refine gR 5 (rg Tryz.f6 5) ?_
      refine co 33 [] (h26) (fun x2 => ?_)
      refine se (mkE [(8, B x2)] [] 198) ?_
      refine pN ?_
      refine pS ?_
      refine gE ?_
      exact pL
    · refine se (mkE (s_1.append (s_0.append ((23, I z0) :: [(32, B (ltI 20000 x1))]))) [] 198) ?_
      refine pN ?_
      refine pS ?_
      refine gC 32 (ltI 20000 x1) ?_ ?_
      · refine gS 0 ?_
        refine gR 5 (rg Tryz.f6 5) ?_
        refine co 33 [] (h26) (fun x3 => ?_)
        refine se (mkE [(8, B x3)] [] 198) ?_
        refine pN ?_
        refine pS ?_
        refine gE ?_
        exact pL
      · refine gK ?_
        refine pB ?_
        refine pN ?_
        refine pS ?_
        refine gR 6 (rg Tryz.f6 6) ?_
        refine se (mkE (s_1.append (s_0.append [(23, I (addI .i64 z0 1))])) [] 198) ?_
        exact pL
  · refine gX 0 ?_
    exact pL
noncomputable def L6_8 (p0 : Int) (p1 : Int) (p2 : Int) (p3 : Int) (z1 : Int) : Option (Int ⊕ ((Int × Bool) ⊕ Unit)) := (bif (leI z1 3) then ((((T29 p0 p1 p2 p3 z1).bind fun x5 => (bif (neI x5.2.2 0) then (some (.inr ())) else (bif (ltI x5.1.f0 0) then (some (.inr ())) else (bif (ltI x5.1.f1 0) then (some (.inr ())) else (bif (ltI x5.2.1.f0 0) then (some (.inr ())) else (bif (ltI x5.2.1.f1 0) then (some (.inr ())) else (bif (ltI x5.1.f2 1) then (some (.inr ())) else (bif (ltI x5.1.f3 1) then (some (.inr ())) else (bif (ltI x5.2.1.f2 1) then (some (.inr ())) else (bif (ltI x5.2.1.f3 1) then (some (.inr ())) else (bif (ltI p0 (addI .i64 x5.1.f0 x5.1.f2)) then (some (.inr ())) else (bif (ltI p1 (addI .i64 x5.1.f1 x5.1.f3)) then (some (.inr ())) else (bif (ltI p2 (addI .i64 x5.2.1.f0 x5.2.1.f2)) then (some (.inr ())) else (bif (ltI p3 (addI .i64 x5.2.1.f1 x5.2.1.f3)) then (some (.inr ())) else (bif (eqI z1 1) then (bif (allB [eqI x5.1.f0 0, eqI x5.1.f1 0, eqI x5.1.f2 p0, eqI x5.1.f3 p1]) then (bif (!(allB [eqI x5.2.1.f0 0, eqI x5.2.1.f1 0, eqI x5.2.1.f2 p2, eqI x5.2.1.f3 p3])) then (some (.inr ())) else (bif (eqI z1 2) then (bif (!(allB [eqI x5.1.f0 0, eqI x5.1.f1 0, eqI x5.1.f2 p0, eqI x5.1.f3 p1])) then (some (.inr ())) else ((T30 x5.2.1.f2 x5.2.1.f3 p0 p1 (eqI x5.2.1.f2 p2) (eqI x5.2.1.f3 p3)).bind fun x6 => (bif (!x6) then (some (.inr ())) else (bif (eqI z1 3) then (bif (!(allB [eqI x5.2.1.f0 0, eqI x5.2.1.f1 0, eqI x5.2.1.f2 p2, eqI x5.2.1.f3 p3])) then (some (.inr ())) else ((T30 x5.1.f2 x5.1.f3 p2 p3 (eqI x5.1.f2 p0) (eqI x5.1.f3 p1)).bind fun x7 => (bif (!x7) then (some (.inr ())) else (some (.inl ()))))) else (some (.inl ())))))) else (bif (eqI z1 3) then (bif (!(allB [eqI x5.2.1.f0 0, eqI x5.2.1.f1 0, eqI x5.2.1.f2 p2, eqI x5.2.1.f3 p3])) then (some (.inr ())) else ((T30 x5.1.f2 x5.1.f3 p2 p3 (eqI x5.1.f2 p0) (eqI x5.1.f3 p1)).bind fun x8 => (bif (!x8) then (some (.inr ())) else (some (.inl ()))))) else (some (.inl ()))))) else (some (.inr ()))) else (bif (eqI z1 2) then (bif (!(allB [eqI x5.1.f0 0, eqI x5.1.f1 0, eqI x5.1.f2 p0, eqI x5.1.f3 p1])) then (some (.inr ())) else ((T30 x5.2.1.f2 x5.2.1.f3 p0 p1 (eqI x5.2.1.f2 p2) (eqI x5.2.1.f3 p3)).bind fun x9 => (bif (!x9) then (some (.inr ())) else (bif (eqI z1 3) then (bif (!(allB [eqI x5.2.1.f0 0, eqI x5.2.1.f1 0, eqI x5.2.1.f2 p2, eqI x5.2.1.f3 p3])) then (some (.inr ())) else ((T30 x5.1.f2 x5.1.f3 p2 p3 (eqI x5.1.f2 p0) (eqI x5.1.f3 p1)).bind fun x10 => (bif (!x10) then (some (.inr ())) else (some (.inl ()))))) else (some (.inl ())))))) else (bif (eqI z1 3) then (bif (!(allB [eqI x5.2.1.f0 0, eqI x5.2.1.f1 0, eqI x5.2.1.f2 p2, eqI x5.2.1.f3 p3])) then (some (.inr ())) else ((T30 x5.1.f2 x5.1.f3 p2 p3 (eqI x5.1.f2 p0) (eqI x5.1.f3 p1)).bind fun x11 => (bif (!x11) then (some (.inr ())) else (some (.inl ()))))) else (some (.inl ()))))))))))))))))))) : Option (Unit ⊕ Unit)).bind fun y12 => (Sum.elim (fun y12a => (some (.inl (addI .i64 z1 1)))) (fun y12b => (some (.inr (.inr ())))) y12)) else (some (.inr (.inl (z1, (leI z1 3))))))
theorem L6_8_ok (C : Callee) (h29 : ∀ (p0 : Int) (p1 : Int) (p2 : Int) (p3 : Int) (p4 : Int), C 29 [I p0, I p1, I p2, I p3, I p4] = (T29 p0 p1 p2 p3 p4).map (fun r => AV.tup [a28 r.1, a28 r.2.1, I r.2.2])) (h30 : ∀ (p0 : Int) (p1 : Int) (p2 : Int) (p3 : Int) (p4 : Bool) (p5 : Bool), C 30 [I p0, I p1, I p2, I p3, B p4, B p5] = (T30 p0 p1 p2 p3 p4 p5).map B) (p0 : Int) (p1 : Int) (p2 : Int) (p3 : Int) (z1 : Int) : runs Tryz.prog C (cfg.fn 6) (finLoop ((cfg.fn 6).keep 8) ((cfg.fn 6).al 8)) [] (execA Tryz.prog C (cfg.fn 6) (nr Tryz.f6 [false, false, true, false, true, true]) ((fun z1 : Int => (mkE [(0, I p0), (1, I p1), (2, I p2), (3, I p3), (11, I z1)] [] 198)) z1)) = (L6_8 p0 p1 p2 p3 z1).map (Sum.elim (fun z => .inl ((fun z1 : Int => (mkE [(0, I p0), (1, I p1), (2, I p2), (3, I p3), (11, I z1)] [] 198)) z)) (fun x => .inr ((Sum.elim (fun (x : (Int × Bool)) => (.exit 2, (mkE [(0, I p0), (1, I p1), (2, I p2), (3, I p3), (11, I x.1), (36, B x.2)] [] 198))) (fun (x : Unit) => (.ret, (mkE [(8, B false)] [] 198)))) x))) := by
  unfold L6_8
  let d_0 : List (Option Nat × REff) := [(some 128, qe (I p0)), (some 129, qe (I p1)), (some 130, qe (.agg [I 0, I 0, I p0, I p1]))]
  let s_0 : List (Nat × AV) := [(0, I p0), (1, I p1), (2, I p2), (3, I p3), (11, I z1)]
  let s_1 : List (Nat × AV) := [(12, .ba 96 0), (13, .ba 104 0)]
  let s_2 : List (Nat × AV) := [(175, B (eqI z1 3)), (174, B (eqI z1 3)), (173, I z1)]
  let s_3 : List (Nat × AV) := [(150, B (eqI z1 2)), (149, B (eqI z1 2)), (148, I z1)]
  let s_4 : List (Nat × AV) := [(52, .ba 96 0), (51, B false)]
  let s_5 : List (Nat × AV) := [(57, .ba 96 1), (56, B false)]
  let s_6 : List (Nat × AV) := [(62, .ba 104 0), (61, B false)]
  let s_7 : List (Nat × AV) := [(67, .ba 104 1), (66, B false)]
  refine gS 10 ?_
  refine gS 0 ?_
  refine gR 8 (rg Tryz.f6 8) ?_
  refine se (mkE (s_0.append [(36, B (leI z1 3))]) [] 198) ?_
  refine pN ?_
  refine pS ?_
  refine gC 36 (leI z1 3) ?_ ?_
  · refine gK ?_
    refine pN ?_
    refine pS ?_
    refine jS 9 (((T29 p0 p1 p2 p3 z1).bind fun x5 => (bif (neI x5.2.2 0) then (some (.inr ())) else (bif (ltI x5.1.f0 0) then (some (.inr ())) else (bif (ltI x5.1.f1 0) then (some (.inr ())) else (bif (ltI x5.2.1.f0 0) then (some (.inr ())) else (bif (ltI x5.2.1.f1 0) then (some (.inr ())) else (bif (ltI x5.1.f2 1) then (some (.inr ())) else (bif (ltI x5.1.f3 1) then (some (.inr ())) else (bif (ltI x5.2.1.f2 1) then (some (.inr ())) else (bif (ltI x5.2.1.f3 1) then (some (.inr ())) else (bif (ltI p0 (addI .i64 x5.1.f0 x5.1.f2)) then (some (.inr ())) else (bif (ltI p1 (addI .i64 x5.1.f1 x5.1.f3)) then (some (.inr ())) else (bif (ltI p2 (addI .i64 x5.2.1.f0 x5.2.1.f2)) then (some (.inr ())) else (bif (ltI p3 (addI .i64 x5.2.1.f1 x5.2.1.f3)) then (some (.inr ())) else (bif (eqI z1 1) then (bif (allB [eqI x5.1.f0 0, eqI x5.1.f1 0, eqI x5.1.f2 p0, eqI x5.1.f3 p1]) then (bif (!(allB [eqI x5.2.1.f0 0, eqI x5.2.1.f1 0, eqI x5.2.1.f2 p2, eqI x5.2.1.f3 p3])) then (some (.inr ())) else (bif (eqI z1 2) then (bif (!(allB [eqI x5.1.f0 0, eqI x5.1.f1 0, eqI x5.1.f2 p0, eqI x5.1.f3 p1])) then (some (.inr ())) else ((T30 x5.2.1.f2 x5.2.1.f3 p0 p1 (eqI x5.2.1.f2 p2) (eqI x5.2.1.f3 p3)).bind fun x6 => (bif (!x6) then (some (.inr ())) else (bif (eqI z1 3) then (bif (!(allB [eqI x5.2.1.f0 0, eqI x5.2.1.f1 0, eqI x5.2.1.f2 p2, eqI x5.2.1.f3 p3])) then (some (.inr ())) else ((T30 x5.1.f2 x5.1.f3 p2 p3 (eqI x5.1.f2 p0) (eqI x5.1.f3 p1)).bind fun x7 => (bif (!x7) then (some (.inr ())) else (some (.inl ()))))) else (some (.inl ())))))) else (bif (eqI z1 3) then (bif (!(allB [eqI x5.2.1.f0 0, eqI x5.2.1.f1 0, eqI x5.2.1.f2 p2, eqI x5.2.1.f3 p3])) then (some (.inr ())) else ((T30 x5.1.f2 x5.1.f3 p2 p3 (eqI x5.1.f2 p0) (eqI x5.1.f3 p1)).bind fun x8 => (bif (!x8) then (some (.inr ())) else (some (.inl ()))))) else (some (.inl ()))))) else (some (.inr ()))) else (bif (eqI z1 2) then (bif (!(allB [eqI x5.1.f0 0, eqI x5.1.f1 0, eqI x5.1.f2 p0, eqI x5.1.f3 p1])) then (some (.inr ())) else ((T30 x5.2.1.f2 x5.2.1.f3 p0 p1 (eqI x5.2.1.f2 p2) (eqI x5.2.1.f3 p3)).bind fun x9 => (bif (!x9) then (some (.inr ())) else (bif (eqI z1 3) then (bif (!(allB [eqI x5.2.1.f0 0, eqI x5.2.1.f1 0, eqI x5.2.1.f2 p2, eqI x5.2.1.f3 p3])) then (some (.inr ())) else ((T30 x5.1.f2 x5.1.f3 p2 p3 (eqI x5.1.f2 p0) (eqI x5.1.f3 p1)).bind fun x10 => (bif (!x10) then (some (.inr ())) else (some (.inl ()))))) else (some (.inl ())))))) else (bif (eqI z1 3) then (bif (!(allB [eqI x5.2.1.f0 0, eqI x5.2.1.f1 0, eqI x5.2.1.f2 p2, eqI x5.2.1.f3 p3])) then (some (.inr ())) else ((T30 x5.1.f2 x5.1.f3 p2 p3 (eqI x5.1.f2 p0) (eqI x5.1.f3 p1)).bind fun x11 => (bif (!x11) then (some (.inr ())) else (some (.inl ()))))) else (some (.inl ()))))))))))))))))))) : Option (Unit ⊕ Unit)) (Sum.elim (fun (x : Unit) => (.normal, (mkE s_0 [] 198))) (fun (x : Unit) => (.ret, (mkE [(8, B false)] [] 198)))) ?_ (fun y12 => ?_)
    · refine gB 3 ?_
      refine gS 11 ?_
      refine gR 10 (rg Tryz.f6 10) ?_
      refine sg 5 (mkE ((44, I z1) :: ((43, I p3) :: ((42, I p2) :: ((41, I p1) :: ((40, I p0) :: (s_0.append [(36, B (leI z1 3))])))))) [] 198) ?_
      refine co 45 [] (h29 p0 p1 p2 p3 z1) (fun x5 => ?_)
      refine se (mkE (s_0.append (s_1.append [(14, I x5.2.2)])) [(96, .box [I x5.1.f0, I x5.1.f1, I x5.1.f2, I x5.1.f3] false), (104, .box [I x5.2.1.f0, I x5.2.1.f1, I x5.2.1.f2, I x5.2.1.f3] false)] 198) ?_
      refine pN ?_
      refine pS ?_
      refine gS 13 ?_
      refine gS 0 ?_
      refine gR 11 (rg Tryz.f6 11) ?_
      refine sg 3 (mkE ((51, B (neI x5.2.2 0)) :: ((50, B (neI x5.2.2 0)) :: ((49, I x5.2.2) :: (s_0.append (s_1.append [(14, I x5.2.2)]))))) [(96, .box [I x5.1.f0, I x5.1.f1, I x5.1.f2, I x5.1.f3] false), (104, .box [I x5.2.1.f0, I x5.2.1.f1, I x5.2.1.f2, I x5.2.1.f3] false)] 198) ?_
      refine sb 51 (neI x5.2.2 0) ?_ ?_
      · refine se (mkE (s_0.append (s_1.append [(126, B true)])) [(96, .box [I x5.1.f0, I x5.1.f1, I x5.1.f2, I x5.1.f3] false), (104, .box [I x5.2.1.f0, I x5.2.1.f1, I x5.2.1.f2, I x5.2.1.f3] false)] 198) ?_
        refine pN ?_
        refine pS ?_
        refine gT (.tmp 126) ?_
        refine gS 0 ?_
        refine gR 12 (rg Tryz.f6 12) ?_
        refine se (mkE [(8, B false)] [] 198) ?_
        refine pN ?_
        refine pS ?_
        refine gE ?_
        exact pL
      · refine sg 8 (mkE ((56, B (ltI x5.1.f0 0)) :: ((55, B (ltI x5.1.f0 0)) :: ((54, B (ltI x5.1.f0 0)) :: ((53, I x5.1.f0) :: (s_4.append ((51, B (neI x5.2.2 0)) :: ((50, B (neI x5.2.2 0)) :: ((49, I x5.2.2) :: (s_0.append (s_1.append [(14, I x5.2.2)])))))))))) [(96, .box [I x5.1.f0, I x5.1.f1, I x5.1.f2, I x5.1.f3] false), (104, .box [I x5.2.1.f0, I x5.2.1.f1, I x5.2.1.f2, I x5.2.1.f3] false)] 198) ?_
        refine sb 56 (ltI x5.1.f0 0) ?_ ?_
        · refine se (mkE (s_0.append (s_1.append [(126, B true)])) [(96, .box [I x5.1.f0, I x5.1.f1, I x5.1.f2, I x5.1.f3] false), (104, .box [I x5.2.1.f0, I x5.2.1.f1, I x5.2.1.f2, I x5.2.1.f3] false)] 198) ?_
          refine pN ?_
          refine pS ?_
          refine gT (.tmp 126) ?_
          refine gS 0 ?_
          refine gR 12 (rg Tryz.f6 12) ?_
          refine se (mkE [(8, B false)] [] 198) ?_
          refine pN ?_
          refine pS ?_
          refine gE ?_
          exact pL
        · refine sg 13 (mkE ((61, B (ltI x5.1.f1 0)) :: ((60, B (ltI x5.1.f1 0)) :: ((59, B (ltI x5.1.f1 0)) :: ((58, I x5.1.f1) :: (s_5.append ((56, B (ltI x5.1.f0 0)) :: ((55, B (ltI x5.1.f0 0)) :: ((54, B (ltI x5.1.f0 0)) :: ((53, I x5.1.f0) :: (s_4.append ((51, B (neI x5.2.2 0)) :: ((50, B (neI x5.2.2 0)) :: ((49, I x5.2.2) :: (s_0.append (s_1.append [(14, I x5.2.2)]))))))))))))))) [(96, .box [I x5.1.f0, I x5.1.f1, I x5.1.f2, I x5.1.f3] false), (104, .box [I x5.2.1.f0, I x5.2.1.f1, I x5.2.1.f2, I x5.2.1.f3] false)] 198) ?_
          refine sb 61 (ltI x5.1.f1 0) ?_ ?_
          · refine se (mkE (s_0.append (s_1.append [(126, B true)])) [(96, .box [I x5.1.f0, I x5.1.f1, I x5.1.f2, I x5.1.f3] false), (104, .box [I x5.2.1.f0, I x5.2.1.f1, I x5.2.1.f2, I x5.2.1.f3] false)] 198) ?_
            refine pN ?_
            refine pS ?_
            refine gT (.tmp 126) ?_
            refine gS 0 ?_
            refine gR 12 (rg Tryz.f6 12) ?_
            refine se (mkE [(8, B false)] [] 198) ?_
            refine pN ?_
            refine pS ?_
            refine gE ?_
            exact pL
          · refine sg 18 (mkE ((66, B (ltI x5.2.1.f0 0)) :: ((65, B (ltI x5.2.1.f0 0)) :: ((64, B (ltI x5.2.1.f0 0)) :: ((63, I x5.2.1.f0) :: (s_6.append ((61, B (ltI x5.1.f1 0)) :: ((60, B (ltI x5.1.f1 0)) :: ((59, B (ltI x5.1.f1 0)) :: ((58, I x5.1.f1) :: (s_5.append ((56, B (ltI x5.1.f0 0)) :: ((55, B (ltI x5.1.f0 0)) :: ((54, B (ltI x5.1.f0 0)) :: ((53, I x5.1.f0) :: (s_4.append ((51, B (neI x5.2.2 0)) :: ((50, B (neI x5.2.2 0)) :: ((49, I x5.2.2) :: (s_0.append (s_1.append [(14, I x5.2.2)])))))))))))))))))))) [(96, .box [I x5.1.f0, I x5.1.f1, I x5.1.f2, I x5.1.f3] false), (104, .box [I x5.2.1.f0, I x5.2.1.f1, I x5.2.1.f2, I x5.2.1.f3] false)] 198) ?_
            refine sb 66 (ltI x5.2.1.f0 0) ?_ ?_
            · refine se (mkE (s_0.append (s_1.append [(126, B true)])) [(96, .box [I x5.1.f0, I x5.1.f1, I x5.1.f2, I x5.1.f3] false), (104, .box [I x5.2.1.f0, I x5.2.1.f1, I x5.2.1.f2, I x5.2.1.f3] false)] 198) ?_
              refine pN ?_
              refine pS ?_
              refine gT (.tmp 126) ?_
              refine gS 0 ?_
              refine gR 12 (rg Tryz.f6 12) ?_
              refine se (mkE [(8, B false)] [] 198) ?_
              refine pN ?_
              refine pS ?_
              refine gE ?_
              exact pL
            · refine sg 23 (mkE ((71, B (ltI x5.2.1.f1 0)) :: ((70, B (ltI x5.2.1.f1 0)) :: ((69, B (ltI x5.2.1.f1 0)) :: ((68, I x5.2.1.f1) :: (s_7.append ((66, B (ltI x5.2.1.f0 0)) :: ((65, B (ltI x5.2.1.f0 0)) :: ((64, B (ltI x5.2.1.f0 0)) :: ((63, I x5.2.1.f0) :: (s_6.append ((61, B (ltI x5.1.f1 0)) :: ((60, B (ltI x5.1.f1 0)) :: ((59, B (ltI x5.1.f1 0)) :: ((58, I x5.1.f1) :: (s_5.append ((56, B (ltI x5.1.f0 0)) :: ((55, B (ltI x5.1.f0 0)) :: ((54, B (ltI x5.1.f0 0)) :: ((53, I x5.1.f0) :: (s_4.append ((51, B (neI x5.2.2 0)) :: ((50, B (neI x5.2.2 0)) :: ((49, I x5.2.2) :: (s_0.append (s_1.append [(14, I x5.2.2)]))))))))))))))))))))))))) [(96, .box [I x5.1.f0, I x5.1.f1, I x5.1.f2, I x5.1.f3] false), (104, .box [I x5.2.1.f0, I x5.2.1.f1, I x5.2.1.f2, I x5.2.1.f3] false)] 198) ?_
              refine sb 71 (ltI x5.2.1.f1 0) ?_ ?_
              · refine se (mkE (s_0.append (s_1.append [(126, B true)])) [(96, .box [I x5.1.f0, I x5.1.f1, I x5.1.f2, I x5.1.f3] false), (104, .box [I x5.2.1.f0, I x5.2.1.f1, I x5.2.1.f2, I x5.2.1.f3] false)] 198) ?_
                refine pN ?_
                refine pS ?_
                refine gT (.tmp 126) ?_
                refine gS 0 ?_
                refine gR 12 (rg Tryz.f6 12) ?_
                refine se (mkE [(8, B false)] [] 198) ?_
                refine pN ?_
                refine pS ?_
                refine gE ?_
                exact pL
              · refine sg 28 (mkE ((76, B (ltI x5.1.f2 1)) :: ((75, B (ltI x5.1.f2 1)) :: ((74, B (ltI x5.1.f2 1)) :: ((73, I x5.1.f2) :: ((72, .ba 96 2) :: ((71, B false) :: ((71, B (ltI x5.2.1.f1 0)) :: ((70, B (ltI x5.2.1.f1 0)) :: ((69, B (ltI x5.2.1.f1 0)) :: ((68, I x5.2.1.f1) :: (s_7.append ((66, B (ltI x5.2.1.f0 0)) :: ((65, B (ltI x5.2.1.f0 0)) :: ((64, B (ltI x5.2.1.f0 0)) :: ((63, I x5.2.1.f0) :: (s_6.append ((61, B (ltI x5.1.f1 0)) :: ((60, B (ltI x5.1.f1 0)) :: ((59, B (ltI x5.1.f1 0)) :: ((58, I x5.1.f1) :: (s_5.append ((56, B (ltI x5.1.f0 0)) :: ((55, B (ltI x5.1.f0 0)) :: ((54, B (ltI x5.1.f0 0)) :: ((53, I x5.1.f0) :: (s_4.append ((51, B (neI x5.2.2 0)) :: ((50, B (neI x5.2.2 0)) :: ((49, I x5.2.2) :: (s_0.append (s_1.append [(14, I x5.2.2)]))))))))))))))))))))))))))))))) [(96, .box [I x5.1.f0, I x5.1.f1, I x5.1.f2, I x5.1.f3] false), (104, .box [I x5.2.1.f0, I x5.2.1.f1, I x5.2.1.f2, I x5.2.1.f3] false)] 198) ?_
                refine sb 76 (ltI x5.1.f2 1) ?_ ?_
                · refine se (mkE (s_0.append (s_1.append [(126, B true)])) [(96, .box [I x5.1.f0, I x5.1.f1, I x5.1.f2, I x5.1.f3] false), (104, .box [I x5.2.1.f0, I x5.2.1.f1, I x5.2.1.f2, I x5.2.1.f3] false)] 198) ?_
                  refine pN ?_
                  refine pS ?_
                  refine gT (.tmp 126) ?_
                  refine gS 0 ?_
                  refine gR 12 (rg Tryz.f6 12) ?_
                  refine se (mkE [(8, B false)] [] 198) ?_
                  refine pN ?_
                  refine pS ?_
                  refine gE ?_
                  exact pL
                · refine sg 33 (mkE ((81, B (ltI x5.1.f3 1)) :: ((80, B (ltI x5.1.f3 1)) :: ((79, B (ltI x5.1.f3 1)) :: ((78, I x5.1.f3) :: ((77, .ba 96 3) :: ((76, B false) :: ((76, B (ltI x5.1.f2 1)) :: ((75, B (ltI x5.1.f2 1)) :: ((74, B (ltI x5.1.f2 1)) :: ((73, I x5.1.f2) :: ((72, .ba 96 2) :: ((71, B false) :: ((71, B (ltI x5.2.1.f1 0)) :: ((70, B (ltI x5.2.1.f1 0)) :: ((69, B (ltI x5.2.1.f1 0)) :: ((68, I x5.2.1.f1) :: (s_7.append ((66, B (ltI x5.2.1.f0 0)) :: ((65, B (ltI x5.2.1.f0 0)) :: ((64, B (ltI x5.2.1.f0 0)) :: ((63, I x5.2.1.f0) :: (s_6.append ((61, B (ltI x5.1.f1 0)) :: ((60, B (ltI x5.1.f1 0)) :: ((59, B (ltI x5.1.f1 0)) :: ((58, I x5.1.f1) :: (s_5.append ((56, B (ltI x5.1.f0 0)) :: ((55, B (ltI x5.1.f0 0)) :: ((54, B (ltI x5.1.f0 0)) :: ((53, I x5.1.f0) :: (s_4.append ((51, B (neI x5.2.2 0)) :: ((50, B (neI x5.2.2 0)) :: ((49, I x5.2.2) :: (s_0.append (s_1.append [(14, I x5.2.2)]))))))))))))))))))))))))))))))))))))) [(96, .box [I x5.1.f0, I x5.1.f1, I x5.1.f2, I x5.1.f3] false), (104, .box [I x5.2.1.f0, I x5.2.1.f1, I x5.2.1.f2, I x5.2.1.f3] false)] 198) ?_
                  refine sb 81 (ltI x5.1.f3 1) ?_ ?_
                  · refine se (mkE (s_0.append (s_1.append [(126, B true)])) [(96, .box [I x5.1.f0, I x5.1.f1, I x5.1.f2, I x5.1.f3] false), (104, .box [I x5.2.1.f0, I x5.2.1.f1, I x5.2.1.f2, I x5.2.1.f3] false)] 198) ?_
                    refine pN ?_
                    refine pS ?_
                    refine gT (.tmp 126) ?_
                    refine gS 0 ?_
                    refine gR 12 (rg Tryz.f6 12) ?_
                    refine se (mkE [(8, B false)] [] 198) ?_
                    refine pN ?_
                    refine pS ?_
                    refine gE ?_
                    exact pL
                  · refine sg 38 (mkE ((86, B (ltI x5.2.1.f2 1)) :: ((85, B (ltI x5.2.1.f2 1)) :: ((84, B (ltI x5.2.1.f2 1)) :: ((83, I x5.2.1.f2) :: ((82, .ba 104 2) :: ((81, B false) :: ((81, B (ltI x5.1.f3 1)) :: ((80, B (ltI x5.1.f3 1)) :: ((79, B (ltI x5.1.f3 1)) :: ((78, I x5.1.f3) :: ((77, .ba 96 3) :: ((76, B false) :: ((76, B (ltI x5.1.f2 1)) :: ((75, B (ltI x5.1.f2 1)) :: ((74, B (ltI x5.1.f2 1)) :: ((73, I x5.1.f2) :: ((72, .ba 96 2) :: ((71, B false) :: ((71, B (ltI x5.2.1.f1 0)) :: ((70, B (ltI x5.2.1.f1 0)) :: ((69, B (ltI x5.2.1.f1 0)) :: ((68, I x5.2.1.f1) :: (s_7.append ((66, B (ltI x5.2.1.f0 0)) :: ((65, B (ltI x5.2.1.f0 0)) :: ((64, B (ltI x5.2.1.f0 0)) :: ((63, I x5.2.1.f0) :: (s_6.append ((61, B (ltI x5.1.f1 0)) :: ((60, B (ltI x5.1.f1 0)) :: ((59, B (ltI x5.1.f1 0)) :: ((58, I x5.1.f1) :: (s_5.append ((56, B (ltI x5.1.f0 0)) :: ((55, B (ltI x5.1.f0 0)) :: ((54, B (ltI x5.1.f0 0)) :: ((53, I x5.1.f0) :: (s_4.append ((51, B (neI x5.2.2 0)) :: ((50, B (neI x5.2.2 0)) :: ((49, I x5.2.2) :: (s_0.append (s_1.append [(14, I x5.2.2)]))))))))))))))))))))))))))))))))))))))))))) [(96, .box [I x5.1.f0, I x5.1.f1, I x5.1.f2, I x5.1.f3] false), (104, .box [I x5.2.1.f0, I x5.2.1.f1, I x5.2.1.f2, I x5.2.1.f3] false)] 198) ?_
                    refine sb 86 (ltI x5.2.1.f2 1) ?_ ?_
                    · refine se (mkE (s_0.append (s_1.append [(126, B true)])) [(96, .box [I x5.1.f0, I x5.1.f1, I x5.1.f2, I x5.1.f3] false), (104, .box [I x5.2.1.f0, I x5.2.1.f1, I x5.2.1.f2, I x5.2.1.f3] false)] 198) ?_
                      refine pN ?_
                      refine pS ?_
                      refine gT (.tmp 126) ?_
                      refine gS 0 ?_
                      refine gR 12 (rg Tryz.f6 12) ?_
                      refine se (mkE [(8, B false)] [] 198) ?_
                      refine pN ?_
                      refine pS ?_
                      refine gE ?_
                      exact pL
                    · refine sg 43 (mkE ((91, B (ltI x5.2.1.f3 1)) :: ((90, B (ltI x5.2.1.f3 1)) :: ((89, B (ltI x5.2.1.f3 1)) :: ((88, I x5.2.1.f3) :: ((87, .ba 104 3) :: ((86, B false) :: ((86, B (ltI x5.2.1.f2 1)) :: ((85, B (ltI x5.2.1.f2 1)) :: ((84, B (ltI x5.2.1.f2 1)) :: ((83, I x5.2.1.f2) :: ((82, .ba 104 2) :: ((81, B false) :: ((81, B (ltI x5.1.f3 1)) :: ((80, B (ltI x5.1.f3 1)) :: ((79, B (ltI x5.1.f3 1)) :: ((78, I x5.1.f3) :: ((77, .ba 96 3) :: ((76, B false) :: ((76, B (ltI x5.1.f2 1)) :: ((75, B (ltI x5.1.f2 1)) :: ((74, B (ltI x5.1.f2 1)) :: ((73, I x5.1.f2) :: ((72, .ba 96 2) :: ((71, B false) :: ((71, B (ltI x5.2.1.f1 0)) :: ((70, B (ltI x5.2.1.f1 0)) :: ((69, B (ltI x5.2.1.f1 0)) :: ((68, I x5.2.1.f1) :: (s_7.append ((66, B (ltI x5.2.1.f0 0)) :: ((65, B (ltI x5.2.1.f0 0)) :: ((64, B (ltI x5.2.1.f0 0)) :: ((63, I x5.2.1.f0) :: (s_6.append ((61, B (ltI x5.1.f1 0)) :: ((60, B (ltI x5.1.f1 0)) :: ((59, B (ltI x5.1.f1 0)) :: ((58, I x5.1.f1) :: (s_5.append ((56, B (ltI x5.1.f0 0)) :: ((55, B (ltI x5.1.f0 0)) :: ((54, B (ltI x5.1.f0 0)) :: ((53, I x5.1.f0) :: (s_4.append ((51, B (neI x5.2.2 0)) :: ((50, B (neI x5.2.2 0)) :: ((49, I x5.2.2) :: (s_0.append (s_1.append [(14, I x5.2.2)]))))))))))))))))))))))))))))))))))))))))))))))))) [(96, .box [I x5.1.f0, I x5.1.f1, I x5.1.f2, I x5.1.f3] false), (104, .box [I x5.2.1.f0, I x5.2.1.f1, I x5.2.1.f2, I x5.2.1.f3] false)] 198) ?_
                      refine sb 91 (ltI x5.2.1.f3 1) ?_ ?_
                      · refine se (mkE (s_0.append (s_1.append [(126, B true)])) [(96, .box [I x5.1.f0, I x5.1.f1, I x5.1.f2, I x5.1.f3] false), (104, .box [I x5.2.1.f0, I x5.2.1.f1, I x5.2.1.f2, I x5.2.1.f3] false)] 198) ?_
                        refine pN ?_
                        refine pS ?_
                        refine gT (.tmp 126) ?_
                        refine gS 0 ?_
                        refine gR 12 (rg Tryz.f6 12) ?_
                        refine se (mkE [(8, B false)] [] 198) ?_
                        refine pN ?_
                        refine pS ?_
                        refine gE ?_
                        exact pL
                      · refine sg 52 (mkE ((100, B (ltI p0 (addI .i64 x5.1.f0 x5.1.f2))) :: ((99, B (ltI p0 (addI .i64 x5.1.f0 x5.1.f2))) :: ((98, B (ltI p0 (addI .i64 x5.1.f0 x5.1.f2))) :: ((97, I p0) :: ((96, I (addI .i64 x5.1.f0 x5.1.f2)) :: ((95, I x5.1.f2) :: ((94, .ba 96 2) :: ((93, I x5.1.f0) :: ((92, .ba 96 0) :: ((91, B false) :: ((91, B (ltI x5.2.1.f3 1)) :: ((90, B (ltI x5.2.1.f3 1)) :: ((89, B (ltI x5.2.1.f3 1)) :: ((88, I x5.2.1.f3) :: ((87, .ba 104 3) :: ((86, B false) :: ((86, B (ltI x5.2.1.f2 1)) :: ((85, B (ltI x5.2.1.f2 1)) :: ((84, B (ltI x5.2.1.f2 1)) :: ((83, I x5.2.1.f2) :: ((82, .ba 104 2) :: ((81, B false) :: ((81, B (ltI x5.1.f3 1)) :: ((80, B (ltI x5.1.f3 1)) :: ((79, B (ltI x5.1.f3 1)) :: ((78, I x5.1.f3) :: ((77, .ba 96 3) :: ((76, B false) :: ((76, B (ltI x5.1.f2 1)) :: ((75, B (ltI x5.1.f2 1)) :: ((74, B (ltI x5.1.f2 1)) :: ((73, I x5.1.f2) :: ((72, .ba 96 2) :: ((71, B false) :: ((71, B (ltI x5.2.1.f1 0)) :: ((70, B (ltI x5.2.1.f1 0)) :: ((69, B (ltI x5.2.1.f1 0)) :: ((68, I x5.2.1.f1) :: (s_7.append ((66, B (ltI x5.2.1.f0 0)) :: ((65, B (ltI x5.2.1.f0 0)) :: ((64, B (ltI x5.2.1.f0 0)) :: ((63, I x5.2.1.f0) :: (s_6.append ((61, B (ltI x5.1.f1 0)) :: ((60, B (ltI x5.1.f1 0)) :: ((59, B (ltI x5.1.f1 0)) :: ((58, I x5.1.f1) :: (s_5.append ((56, B (ltI x5.1.f0 0)) :: ((55, B (ltI x5.1.f0 0)) :: ((54, B (ltI x5.1.f0 0)) :: ((53, I x5.1.f0) :: (s_4.append ((51, B (neI x5.2.2 0)) :: ((50, B (neI x5.2.2 0)) :: ((49, I x5.2.2) :: (s_0.append (s_1.append [(14, I x5.2.2)]))))))))))))))))))))))))))))))))))))))))))))))))))))))))))) [(96, .box [I x5.1.f0, I x5.1.f1, I x5.1.f2, I x5.1.f3] false), (104, .box [I x5.2.1.f0, I x5.2.1.f1, I x5.2.1.f2, I x5.2.1.f3] false)] 198) ?_
                        refine sb 100 (ltI p0 (addI .i64 x5.1.f0 x5.1.f2)) ?_ ?_
                        · refine se (mkE (s_0.append (s_1.append [(126, B true)])) [(96, .box [I x5.1.f0, I x5.1.f1, I x5.1.f2, I x5.1.f3] false), (104, .box [I x5.2.1.f0, I x5.2.1.f1, I x5.2.1.f2, I x5.2.1.f3] false)] 198) ?_
                          refine pN ?_
                          refine pS ?_
                          refine gT (.tmp 126) ?_
                          refine gS 0 ?_
                          refine gR 12 (rg Tryz.f6 12) ?_
                          refine se (mkE [(8, B false)] [] 198) ?_
                          refine pN ?_
                          refine pS ?_
                          refine gE ?_
                          exact pL
                        · refine sg 61 (mkE ((109, B (ltI p1 (addI .i64 x5.1.f1 x5.1.f3))) :: ((108, B (ltI p1 (addI .i64 x5.1.f1 x5.1.f3))) :: ((107, B (ltI p1 (addI .i64 x5.1.f1 x5.1.f3))) :: ((106, I p1) :: ((105, I (addI .i64 x5.1.f1 x5.1.f3)) :: ((104, I x5.1.f3) :: ((103, .ba 96 3) :: ((102, I x5.1.f1) :: ((101, .ba 96 1) :: ((100, B false) :: ((100, B (ltI p0 (addI .i64 x5.1.f0 x5.1.f2))) :: ((99, B (ltI p0 (addI .i64 x5.1.f0 x5.1.f2))) :: ((98, B (ltI p0 (addI .i64 x5.1.f0 x5.1.f2))) :: ((97, I p0) :: ((96, I (addI .i64 x5.1.f0 x5.1.f2)) :: ((95, I x5.1.f2) :: ((94, .ba 96 2) :: ((93, I x5.1.f0) :: ((92, .ba 96 0) :: ((91, B false) :: ((91, B (ltI x5.2.1.f3 1)) :: ((90, B (ltI x5.2.1.f3 1)) :: ((89, B (ltI x5.2.1.f3 1)) :: ((88, I x5.2.1.f3) :: ((87, .ba 104 3) :: ((86, B false) :: ((86, B (ltI x5.2.1.f2 1)) :: ((85, B (ltI x5.2.1.f2 1)) :: ((84, B (ltI x5.2.1.f2 1)) :: ((83, I x5.2.1.f2) :: ((82, .ba 104 2) :: ((81, B false) :: ((81, B (ltI x5.1.f3 1)) :: ((80, B (ltI x5.1.f3 1)) :: ((79, B (ltI x5.1.f3 1)) :: ((78, I x5.1.f3) :: ((77, .ba 96 3) :: ((76, B false) :: ((76, B (ltI x5.1.f2 1)) :: ((75, B (ltI x5.1.f2 1)) :: ((74, B (ltI x5.1.f2 1)) :: ((73, I x5.1.f2) :: ((72, .ba 96 2) :: ((71, B false) :: ((71, B (ltI x5.2.1.f1 0)) :: ((70, B (ltI x5.2.1.f1 0)) :: ((69, B (ltI x5.2.1.f1 0)) :: ((68, I x5.2.1.f1) :: (s_7.append ((66, B (ltI x5.2.1.f0 0)) :: ((65, B (ltI x5.2.1.f0 0)) :: ((64, B (ltI x5.2.1.f0 0)) :: ((63, I x5.2.1.f0) :: (s_6.append ((61, B (ltI x5.1.f1 0)) :: ((60, B (ltI x5.1.f1 0)) :: ((59, B (ltI x5.1.f1 0)) :: ((58, I x5.1.f1) :: (s_5.append ((56, B (ltI x5.1.f0 0)) :: ((55, B (ltI x5.1.f0 0)) :: ((54, B (ltI x5.1.f0 0)) :: ((53, I x5.1.f0) :: (s_4.append ((51, B (neI x5.2.2 0)) :: ((50, B (neI x5.2.2 0)) :: ((49, I x5.2.2) :: (s_0.append (s_1.append [(14, I x5.2.2)]))))))))))))))))))))))))))))))))))))))))))))))))))))))))))))))))))))) [(96, .box [I x5.1.f0, I x5.1.f1, I x5.1.f2, I x5.1.f3] false), (104, .box [I x5.2.1.f0, I x5.2.1.f1, I x5.2.1.f2, I x5.2.1.f3] false)] 198) ?_
                          refine sb 109 (ltI p1 (addI .i64 x5.1.f1 x5.1.f3)) ?_ ?_
                          · refine se (mkE (s_0.append (s_1.append [(126, B true)])) [(96, .box [I x5.1.f0, I x5.1.f1, I x5.1.f2, I x5.1.f3] false), (104, .box [I x5.2.1.f0, I x5.2.1.f1, I x5.2.1.f2, I x5.2.1.f3] false)] 198) ?_
                            refine pN ?_
                            refine pS ?_
                            refine gT (.tmp 126) ?_
                            refine gS 0 ?_
                            refine gR 12 (rg Tryz.f6 12) ?_
                            refine se (mkE [(8, B false)] [] 198) ?_
                            refine pN ?_
                            refine pS ?_
                            refine gE ?_
                            exact pL
                          · refine sg 70 (mkE ((118, B (ltI p2 (addI .i64 x5.2.1.f0 x5.2.1.f2))) :: ((117, B (ltI p2 (addI .i64 x5.2.1.f0 x5.2.1.f2))) :: ((116, B (ltI p2 (addI .i64 x5.2.1.f0 x5.2.1.f2))) :: ((115, I p2) :: ((114, I (addI .i64 x5.2.1.f0 x5.2.1.f2)) :: ((113, I x5.2.1.f2) :: ((112, .ba 104 2) :: ((111, I x5.2.1.f0) :: ((110, .ba 104 0) :: ((109, B false) :: ((109, B (ltI p1 (addI .i64 x5.1.f1 x5.1.f3))) :: ((108, B (ltI p1 (addI .i64 x5.1.f1 x5.1.f3))) :: ((107, B (ltI p1 (addI .i64 x5.1.f1 x5.1.f3))) :: ((106, I p1) :: ((105, I (addI .i64 x5.1.f1 x5.1.f3)) :: ((104, I x5.1.f3) :: ((103, .ba 96 3) :: ((102, I x5.1.f1) :: ((101, .ba 96 1) :: ((100, B false) :: ((100, B (ltI p0 (addI .i64 x5.1.f0 x5.1.f2))) :: ((99, B (ltI p0 (addI .i64 x5.1.f0 x5.1.f2))) :: ((98, B (ltI p0 (addI .i64 x5.1.f0 x5.1.f2))) :: ((97, I p0) :: ((96, I (addI .i64 x5.1.f0 x5.1.f2)) :: ((95, I x5.1.f2) :: ((94, .ba 96 2) :: ((93, I x5.1.f0) :: ((92, .ba 96 0) :: ((91, B false) :: ((91, B (ltI x5.2.1.f3 1)) :: ((90, B (ltI x5.2.1.f3 1)) :: ((89, B (ltI x5.2.1.f3 1)) :: ((88, I x5.2.1.f3) :: ((87, .ba 104 3) :: ((86, B false) :: ((86, B (ltI x5.2.1.f2 1)) :: ((85, B (ltI x5.2.1.f2 1)) :: ((84, B (ltI x5.2.1.f2 1)) :: ((83, I x5.2.1.f2) :: ((82, .ba 104 2) :: ((81, B false) :: ((81, B (ltI x5.1.f3 1)) :: ((80, B (ltI x5.1.f3 1)) :: ((79, B (ltI x5.1.f3 1)) :: ((78, I x5.1.f3) :: ((77, .ba 96 3) :: ((76, B false) :: ((76, B (ltI x5.1.f2 1)) :: ((75, B (ltI x5.1.f2 1)) :: ((74, B (ltI x5.1.f2 1)) :: ((73, I x5.1.f2) :: ((72, .ba 96 2) :: ((71, B false) :: ((71, B (ltI x5.2.1.f1 0)) :: ((70, B (ltI x5.2.1.f1 0)) :: ((69, B (ltI x5.2.1.f1 0)) :: ((68, I x5.2.1.f1) :: (s_7.append ((66, B (ltI x5.2.1.f0 0)) :: ((65, B (ltI x5.2.1.f0 0)) :: ((64, B (ltI x5.2.1.f0 0)) :: ((63, I x5.2.1.f0) :: (s_6.append ((61, B (ltI x5.1.f1 0)) :: ((60, B (ltI x5.1.f1 0)) :: ((59, B (ltI x5.1.f1 0)) :: ((58, I x5.1.f1) :: (s_5.append ((56, B (ltI x5.1.f0 0)) :: ((55, B (ltI x5.1.f0 0)) :: ((54, B (ltI x5.1.f0 0)) :: ((53, I x5.1.f0) :: (s_4.append ((51, B (neI x5.2.2 0)) :: ((50, B (neI x5.2.2 0)) :: ((49, I x5.2.2) :: (s_0.append (s_1.append [(14, I x5.2.2)]))))))))))))))))))))))))))))))))))))))))))))))))))))))))))))))))))))))))))))))) [(96, .box [I x5.1.f0, I x5.1.f1, I x5.1.f2, I x5.1.f3] false), (104, .box [I x5.2.1.f0, I x5.2.1.f1, I x5.2.1.f2, I x5.2.1.f3] false)] 198) ?_
                            refine sb 118 (ltI p2 (addI .i64 x5.2.1.f0 x5.2.1.f2)) ?_ ?_
                            · refine se (mkE (s_0.append (s_1.append [(126, B true)])) [(96, .box [I x5.1.f0, I x5.1.f1, I x5.1.f2, I x5.1.f3] false), (104, .box [I x5.2.1.f0, I x5.2.1.f1, I x5.2.1.f2, I x5.2.1.f3] false)] 198) ?_
                              refine pN ?_
                              refine pS ?_
                              refine gT (.tmp 126) ?_
                              refine gS 0 ?_
                              refine gR 12 (rg Tryz.f6 12) ?_
                              refine se (mkE [(8, B false)] [] 198) ?_
                              refine pN ?_
                              refine pS ?_
                              refine gE ?_
                              exact pL
                            · refine se (mkE (s_0.append (s_1.append [(126, B (ltI p3 (addI .i64 x5.2.1.f1 x5.2.1.f3)))])) [(96, .box [I x5.1.f0, I x5.1.f1, I x5.1.f2, I x5.1.f3] false), (104, .box [I x5.2.1.f0, I x5.2.1.f1, I x5.2.1.f2, I x5.2.1.f3] false)] 198) ?_
                              refine pN ?_
                              refine pS ?_
                              refine gC 126 (ltI p3 (addI .i64 x5.2.1.f1 x5.2.1.f3)) ?_ ?_
                              · refine gS 0 ?_
                                refine gR 12 (rg Tryz.f6 12) ?_
                                refine se (mkE [(8, B false)] [] 198) ?_
                                refine pN ?_
                                refine pS ?_
                                refine gE ?_
                                exact pL
                              · refine gK ?_
                                refine pN ?_
                                refine pS ?_
                                refine gS 14 ?_
                                refine gD 13 12 (rg Tryz.f6 13) [0, 1, 2, 3, 4, 5, 6, 7, 8, 9, 10, 11] ?_
                                refine dg 4 ((some 127, qe (a28 x5.1)) :: d_0) ?_
                                refine df 131 (B (allB [eqI x5.1.f0 0, eqI x5.1.f1 0, eqI x5.1.f2 p0, eqI x5.1.f3 p1])) (mkE ((130, .agg [I 0, I 0, I p0, I p1]) :: ((129, I p1) :: ((128, I p0) :: ((127, a28 x5.1) :: (s_0.append (s_1.append [(126, B (ltI p3 (addI .i64 x5.2.1.f1 x5.2.1.f3)))])))))) [(96, .box [I x5.1.f0, I x5.1.f1, I x5.1.f2, I x5.1.f3] false), (104, .box [I x5.2.1.f0, I x5.2.1.f1, I x5.2.1.f2, I x5.2.1.f3] false)] 198) (eqlE 29 (.tmp 127) (.tmp 130) [I x5.1.f0, I x5.1.f1, I x5.1.f2, I x5.1.f3] [I 0, I 0, I p0, I p1] [.int .i64 x5.1.f0, .int .i64 x5.1.f1, .int .i64 x5.1.f2, .int .i64 x5.1.f3] [.int .i64 0, .int .i64 0, .int .i64 p0, .int .i64 p1] [eqI x5.1.f0 0, eqI x5.1.f1 0, eqI x5.1.f2 p0, eqI x5.1.f3 p1]) ?_
                                refine dg 9 ((some 127, qe (a28 x5.1)) :: (d_0.append ((some 131, qe (B (allB [eqI x5.1.f0 0, eqI x5.1.f1 0, eqI x5.1.f2 p0, eqI x5.1.f3 p1]))) :: ((some 132, qe (a28 x5.2.1)) :: ((some 133, qe (I p2)) :: ((some 134, qe (I p3)) :: [(some 135, qe (.agg [I 0, I 0, I p2, I p3]))])))))) ?_
                                refine df 136 (B (allB [eqI x5.2.1.f0 0, eqI x5.2.1.f1 0, eqI x5.2.1.f2 p2, eqI x5.2.1.f3 p3])) (mkE ((135, .agg [I 0, I 0, I p2, I p3]) :: ((134, I p3) :: ((133, I p2) :: ((132, a28 x5.2.1) :: (s_0.append (s_1.append [(126, B (ltI p3 (addI .i64 x5.2.1.f1 x5.2.1.f3)))])))))) [(96, .box [I x5.1.f0, I x5.1.f1, I x5.1.f2, I x5.1.f3] false), (104, .box [I x5.2.1.f0, I x5.2.1.f1, I x5.2.1.f2, I x5.2.1.f3] false)] 198) (eqlE 29 (.tmp 132) (.tmp 135) [I x5.2.1.f0, I x5.2.1.f1, I x5.2.1.f2, I x5.2.1.f3] [I 0, I 0, I p2, I p3] [.int .i64 x5.2.1.f0, .int .i64 x5.2.1.f1, .int .i64 x5.2.1.f2, .int .i64 x5.2.1.f3] [.int .i64 0, .int .i64 0, .int .i64 p2, .int .i64 p3] [eqI x5.2.1.f0 0, eqI x5.2.1.f1 0, eqI x5.2.1.f2 p2, eqI x5.2.1.f3 p3]) ?_
                                refine dg 12 ((some 127, qe (a28 x5.1)) :: (d_0.append ((some 131, qe (B (allB [eqI x5.1.f0 0, eqI x5.1.f1 0, eqI x5.1.f2 p0, eqI x5.1.f3 p1]))) :: ((some 132, qe (a28 x5.2.1)) :: ((some 133, qe (I p2)) :: ((some 134, qe (I p3)) :: ((some 135, qe (.agg [I 0, I 0, I p2, I p3])) :: ((some 136, qe (B (allB [eqI x5.2.1.f0 0, eqI x5.2.1.f1 0, eqI x5.2.1.f2 p2, eqI x5.2.1.f3 p3]))) :: ((some 15, qe (B (allB [eqI x5.1.f0 0, eqI x5.1.f1 0, eqI x5.1.f2 p0, eqI x5.1.f3 p1]))) :: [(some 16, qe (B (allB [eqI x5.2.1.f0 0, eqI x5.2.1.f1 0, eqI x5.2.1.f2 p2, eqI x5.2.1.f3 p3])))]))))))))) ?_
                                refine de (mkE ((16, B (allB [eqI x5.2.1.f0 0, eqI x5.2.1.f1 0, eqI x5.2.1.f2 p2, eqI x5.2.1.f3 p3])) :: ((15, B (allB [eqI x5.1.f0 0, eqI x5.1.f1 0, eqI x5.1.f2 p0, eqI x5.1.f3 p1])) :: ((136, B (allB [eqI x5.2.1.f0 0, eqI x5.2.1.f1 0, eqI x5.2.1.f2 p2, eqI x5.2.1.f3 p3])) :: ((135, .agg [I 0, I 0, I p2, I p3]) :: ((134, I p3) :: ((133, I p2) :: ((132, a28 x5.2.1) :: ((131, B (allB [eqI x5.1.f0 0, eqI x5.1.f1 0, eqI x5.1.f2 p0, eqI x5.1.f3 p1])) :: ((130, .agg [I 0, I 0, I p0, I p1]) :: ((129, I p1) :: ((128, I p0) :: ((127, a28 x5.1) :: (s_0.append (s_1.append [(126, B (ltI p3 (addI .i64 x5.2.1.f1 x5.2.1.f3)))])))))))))))))) [(96, .box [I x5.1.f0, I x5.1.f1, I x5.1.f2, I x5.1.f3] false), (104, .box [I x5.2.1.f0, I x5.2.1.f1, I x5.2.1.f2, I x5.2.1.f3] false)] 198) ?_
                                refine se (mkE (s_0.append (s_1.append ((15, B (allB [eqI x5.1.f0 0, eqI x5.1.f1 0, eqI x5.1.f2 p0, eqI x5.1.f3 p1])) :: [(16, B (allB [eqI x5.2.1.f0 0, eqI x5.2.1.f1 0, eqI x5.2.1.f2 p2, eqI x5.2.1.f3 p3]))]))) [(96, .box [I x5.1.f0, I x5.1.f1, I x5.1.f2, I x5.1.f3] false), (104, .box [I x5.2.1.f0, I x5.2.1.f1, I x5.2.1.f2, I x5.2.1.f3] false)] 198) ?_
                                refine pN ?_
                                refine pS ?_
                                refine gB 4 ?_
                                refine gS 0 ?_
                                refine gR 14 (rg Tryz.f6 14) ?_
                                refine sg 3 (mkE ((140, B (eqI z1 1)) :: ((139, B (eqI z1 1)) :: ((138, I z1) :: (s_0.append (s_1.append ((15, B (allB [eqI x5.1.f0 0, eqI x5.1.f1 0, eqI x5.1.f2 p0, eqI x5.1.f3 p1])) :: [(16, B (allB [eqI x5.2.1.f0 0, eqI x5.2.1.f1 0, eqI x5.2.1.f2 p2, eqI x5.2.1.f3 p3]))])))))) [(96, .box [I x5.1.f0, I x5.1.f1, I x5.1.f2, I x5.1.f3] false), (104, .box [I x5.2.1.f0, I x5.2.1.f1, I x5.2.1.f2, I x5.2.1.f3] false)] 198) ?_
                                refine sb 140 (eqI z1 1) ?_ ?_
                                · refine sg 5 (mkE ((142, B (allB [eqI x5.1.f0 0, eqI x5.1.f1 0, eqI x5.1.f2 p0, eqI x5.1.f3 p1])) :: ((141, B (allB [eqI x5.1.f0 0, eqI x5.1.f1 0, eqI x5.1.f2 p0, eqI x5.1.f3 p1])) :: ((140, B true) :: ((140, B (eqI z1 1)) :: ((139, B (eqI z1 1)) :: ((138, I z1) :: (s_0.append (s_1.append ((15, B (allB [eqI x5.1.f0 0, eqI x5.1.f1 0, eqI x5.1.f2 p0, eqI x5.1.f3 p1])) :: [(16, B (allB [eqI x5.2.1.f0 0, eqI x5.2.1.f1 0, eqI x5.2.1.f2 p2, eqI x5.2.1.f3 p3]))]))))))))) [(96, .box [I x5.1.f0, I x5.1.f1, I x5.1.f2, I x5.1.f3] false), (104, .box [I x5.2.1.f0, I x5.2.1.f1, I x5.2.1.f2, I x5.2.1.f3] false)] 198) ?_
                                  refine sb 142 (allB [eqI x5.1.f0 0, eqI x5.1.f1 0, eqI x5.1.f2 p0, eqI x5.1.f3 p1]) ?_ ?_
                                  · refine se (mkE (s_0.append (s_1.append ((15, B (allB [eqI x5.1.f0 0, eqI x5.1.f1 0, eqI x5.1.f2 p0, eqI x5.1.f3 p1])) :: ((16, B (allB [eqI x5.2.1.f0 0, eqI x5.2.1.f1 0, eqI x5.2.1.f2 p2, eqI x5.2.1.f3 p3])) :: [(137, B (!(allB [eqI x5.2.1.f0 0, eqI x5.2.1.f1 0, eqI x5.2.1.f2 p2, eqI x5.2.1.f3 p3])))])))) [(96, .box [I x5.1.f0, I x5.1.f1, I x5.1.f2, I x5.1.f3] false), (104, .box [I x5.2.1.f0, I x5.2.1.f1, I x5.2.1.f2, I x5.2.1.f3] false)] 198) ?_
                                    refine pN ?_
                                    refine pS ?_
                                    refine gC 137 (!(allB [eqI x5.2.1.f0 0, eqI x5.2.1.f1 0, eqI x5.2.1.f2 p2, eqI x5.2.1.f3 p3])) ?_ ?_
                                    · refine gS 0 ?_
                                      refine gR 15 (rg Tryz.f6 15) ?_
                                      refine se (mkE [(8, B false)] [] 198) ?_
                                      refine pN ?_
                                      refine pS ?_
                                      refine gE ?_
                                      exact pL
                                    · refine gS 0 ?_
                                      refine gR 16 (rg Tryz.f6 16) ?_
                                      refine sg 3 (mkE (s_3.append (s_0.append (s_1.append ((15, B (allB [eqI x5.1.f0 0, eqI x5.1.f1 0, eqI x5.1.f2 p0, eqI x5.1.f3 p1])) :: ((16, B (allB [eqI x5.2.1.f0 0, eqI x5.2.1.f1 0, eqI x5.2.1.f2 p2, eqI x5.2.1.f3 p3])) :: [(137, B (!(allB [eqI x5.2.1.f0 0, eqI x5.2.1.f1 0, eqI x5.2.1.f2 p2, eqI x5.2.1.f3 p3])))]))))) [(96, .box [I x5.1.f0, I x5.1.f1, I x5.1.f2, I x5.1.f3] false), (104, .box [I x5.2.1.f0, I x5.2.1.f1, I x5.2.1.f2, I x5.2.1.f3] false)] 198) ?_
                                      refine sb 150 (eqI z1 2) ?_ ?_
                                      · refine sg 6 (mkE ((153, B (!(allB [eqI x5.1.f0 0, eqI x5.1.f1 0, eqI x5.1.f2 p0, eqI x5.1.f3 p1]))) :: ((152, B (!(allB [eqI x5.1.f0 0, eqI x5.1.f1 0, eqI x5.1.f2 p0, eqI x5.1.f3 p1]))) :: ((151, B (allB [eqI x5.1.f0 0, eqI x5.1.f1 0, eqI x5.1.f2 p0, eqI x5.1.f3 p1])) :: ((150, B true) :: (s_3.append (s_0.append (s_1.append ((15, B (allB [eqI x5.1.f0 0, eqI x5.1.f1 0, eqI x5.1.f2 p0, eqI x5.1.f3 p1])) :: ((16, B (allB [eqI x5.2.1.f0 0, eqI x5.2.1.f1 0, eqI x5.2.1.f2 p2, eqI x5.2.1.f3 p3])) :: [(137, B (!(allB [eqI x5.2.1.f0 0, eqI x5.2.1.f1 0, eqI x5.2.1.f2 p2, eqI x5.2.1.f3 p3])))]))))))))) [(96, .box [I x5.1.f0, I x5.1.f1, I x5.1.f2, I x5.1.f3] false), (104, .box [I x5.2.1.f0, I x5.2.1.f1, I x5.2.1.f2, I x5.2.1.f3] false)] 198) ?_
                                        refine sb 153 (!(allB [eqI x5.1.f0 0, eqI x5.1.f1 0, eqI x5.1.f2 p0, eqI x5.1.f3 p1])) ?_ ?_
                                        · refine se (mkE (s_0.append ((12, .ba 96 0) :: ((16, B (allB [eqI x5.2.1.f0 0, eqI x5.2.1.f1 0, eqI x5.2.1.f2 p2, eqI x5.2.1.f3 p3])) :: [(147, B true)]))) [(96, .box [I x5.1.f0, I x5.1.f1, I x5.1.f2, I x5.1.f3] false)] 198) ?_
                                          refine pN ?_
                                          refine pS ?_
                                          refine gT (.tmp 147) ?_
                                          refine gS 0 ?_
                                          refine gR 17 (rg Tryz.f6 17) ?_
                                          refine se (mkE [(8, B false)] [] 198) ?_
                                          refine pN ?_
                                          refine pS ?_
                                          refine gE ?_
                                          exact pL
                                        · refine sg 20 (mkE ((167, B (eqI x5.2.1.f3 p3)) :: ((166, I p3) :: ((165, I x5.2.1.f3) :: ((164, .ba 104 3) :: ((163, B (eqI x5.2.1.f2 p2)) :: ((162, I p2) :: ((161, I x5.2.1.f2) :: ((160, .ba 104 2) :: ((159, I p1) :: ((158, I p0) :: ((157, I x5.2.1.f3) :: ((156, .ba 104 3) :: ((155, I x5.2.1.f2) :: ((154, .ba 104 2) :: ((153, B false) :: ((153, B (!(allB [eqI x5.1.f0 0, eqI x5.1.f1 0, eqI x5.1.f2 p0, eqI x5.1.f3 p1]))) :: ((152, B (!(allB [eqI x5.1.f0 0, eqI x5.1.f1 0, eqI x5.1.f2 p0, eqI x5.1.f3 p1]))) :: ((151, B (allB [eqI x5.1.f0 0, eqI x5.1.f1 0, eqI x5.1.f2 p0, eqI x5.1.f3 p1])) :: ((150, B true) :: (s_3.append (s_0.append (s_1.append ((15, B (allB [eqI x5.1.f0 0, eqI x5.1.f1 0, eqI x5.1.f2 p0, eqI x5.1.f3 p1])) :: ((16, B (allB [eqI x5.2.1.f0 0, eqI x5.2.1.f1 0, eqI x5.2.1.f2 p2, eqI x5.2.1.f3 p3])) :: [(137, B (!(allB [eqI x5.2.1.f0 0, eqI x5.2.1.f1 0, eqI x5.2.1.f2 p2, eqI x5.2.1.f3 p3])))])))))))))))))))))))))))) [(96, .box [I x5.1.f0, I x5.1.f1, I x5.1.f2, I x5.1.f3] false), (104, .box [I x5.2.1.f0, I x5.2.1.f1, I x5.2.1.f2, I x5.2.1.f3] false)] 198) ?_
                                          refine co 168 [] (h30 x5.2.1.f2 x5.2.1.f3 p0 p1 (eqI x5.2.1.f2 p2) (eqI x5.2.1.f3 p3)) (fun x6 => ?_)
                                          refine se (mkE (s_0.append ((12, .ba 96 0) :: ((16, B (allB [eqI x5.2.1.f0 0, eqI x5.2.1.f1 0, eqI x5.2.1.f2 p2, eqI x5.2.1.f3 p3])) :: [(147, B (!x6))]))) [(96, .box [I x5.1.f0, I x5.1.f1, I x5.1.f2, I x5.1.f3] false)] 198) ?_
                                          refine pN ?_
                                          refine pS ?_
                                          refine gC 147 (!x6) ?_ ?_
                                          · refine gS 0 ?_
                                            refine gR 17 (rg Tryz.f6 17) ?_
                                            refine se (mkE [(8, B false)] [] 198) ?_
                                            refine pN ?_
                                            refine pS ?_
                                            refine gE ?_
                                            exact pL
                                          · refine gS 0 ?_
                                            refine gR 18 (rg Tryz.f6 18) ?_
                                            refine sg 3 (mkE (s_2.append (s_0.append ((12, .ba 96 0) :: ((16, B (allB [eqI x5.2.1.f0 0, eqI x5.2.1.f1 0, eqI x5.2.1.f2 p2, eqI x5.2.1.f3 p3])) :: [(147, B (!x6))])))) [(96, .box [I x5.1.f0, I x5.1.f1, I x5.1.f2, I x5.1.f3] false)] 198) ?_
                                            refine sb 175 (eqI z1 3) ?_ ?_
                                            · refine sg 6 (mkE ((178, B (!(allB [eqI x5.2.1.f0 0, eqI x5.2.1.f1 0, eqI x5.2.1.f2 p2, eqI x5.2.1.f3 p3]))) :: ((177, B (!(allB [eqI x5.2.1.f0 0, eqI x5.2.1.f1 0, eqI x5.2.1.f2 p2, eqI x5.2.1.f3 p3]))) :: ((176, B (allB [eqI x5.2.1.f0 0, eqI x5.2.1.f1 0, eqI x5.2.1.f2 p2, eqI x5.2.1.f3 p3])) :: ((175, B true) :: (s_2.append (s_0.append ((12, .ba 96 0) :: ((16, B (allB [eqI x5.2.1.f0 0, eqI x5.2.1.f1 0, eqI x5.2.1.f2 p2, eqI x5.2.1.f3 p3])) :: [(147, B (!x6))])))))))) [(96, .box [I x5.1.f0, I x5.1.f1, I x5.1.f2, I x5.1.f3] false)] 198) ?_
                                              refine sb 178 (!(allB [eqI x5.2.1.f0 0, eqI x5.2.1.f1 0, eqI x5.2.1.f2 p2, eqI x5.2.1.f3 p3])) ?_ ?_
                                              · refine se (mkE (s_0.append [(172, B true)]) [] 198) ?_
                                                refine pN ?_
                                                refine pS ?_
                                                refine gT (.tmp 172) ?_
                                                refine gS 0 ?_
                                                refine gR 19 (rg Tryz.f6 19) ?_
                                                refine se (mkE [(8, B false)] [] 198) ?_
                                                refine pN ?_
                                                refine pS ?_
                                                refine gE ?_
                                                exact pL
                                              · refine sg 20 (mkE ((192, B (eqI x5.1.f3 p1)) :: ((191, I p1) :: ((190, I x5.1.f3) :: ((189, .ba 96 3) :: ((188, B (eqI x5.1.f2 p0)) :: ((187, I p0) :: ((186, I x5.1.f2) :: ((185, .ba 96 2) :: ((184, I p3) :: ((183, I p2) :: ((182, I x5.1.f3) :: ((181, .ba 96 3) :: ((180, I x5.1.f2) :: ((179, .ba 96 2) :: ((178, B false) :: ((178, B (!(allB [eqI x5.2.1.f0 0, eqI x5.2.1.f1 0, eqI x5.2.1.f2 p2, eqI x5.2.1.f3 p3]))) :: ((177, B (!(allB [eqI x5.2.1.f0 0, eqI x5.2.1.f1 0, eqI x5.2.1.f2 p2, eqI x5.2.1.f3 p3]))) :: ((176, B (allB [eqI x5.2.1.f0 0, eqI x5.2.1.f1 0, eqI x5.2.1.f2 p2, eqI x5.2.1.f3 p3])) :: ((175, B true) :: (s_2.append (s_0.append ((12, .ba 96 0) :: ((16, B (allB [eqI x5.2.1.f0 0, eqI x5.2.1.f1 0, eqI x5.2.1.f2 p2, eqI x5.2.1.f3 p3])) :: [(147, B (!x6))]))))))))))))))))))))))) [(96, .box [I x5.1.f0, I x5.1.f1, I x5.1.f2, I x5.1.f3] false)] 198) ?_
                                                refine co 193 [] (h30 x5.1.f2 x5.1.f3 p2 p3 (eqI x5.1.f2 p0) (eqI x5.1.f3 p1)) (fun x7 => ?_)
                                                refine se (mkE (s_0.append [(172, B (!x7))]) [] 198) ?_
                                                refine pN ?_
                                                refine pS ?_
                                                refine gC 172 (!x7) ?_ ?_
                                                · refine gS 0 ?_
                                                  refine gR 19 (rg Tryz.f6 19) ?_
                                                  refine se (mkE [(8, B false)] [] 198) ?_
                                                  refine pN ?_
                                                  refine pS ?_
                                                  refine gE ?_
                                                  exact pL
                                                · refine gK ?_
                                                  refine pB ?_
                                                  refine pB ?_
                                                  refine pG (mkE s_0 [] 198) ?_
                                                  exact pL
                                            · refine se (mkE (s_0.append [(172, B false)]) [] 198) ?_
                                              refine pN ?_
                                              refine pS ?_
                                              refine gF (.tmp 172) ?_
                                              refine gK ?_
                                              refine pB ?_
                                              refine pB ?_
                                              refine pG (mkE s_0 [] 198) ?_
                                              exact pL
                                      · refine se (mkE (s_0.append ((12, .ba 96 0) :: ((16, B (allB [eqI x5.2.1.f0 0, eqI x5.2.1.f1 0, eqI x5.2.1.f2 p2, eqI x5.2.1.f3 p3])) :: [(147, B false)]))) [(96, .box [I x5.1.f0, I x5.1.f1, I x5.1.f2, I x5.1.f3] false)] 198) ?_
                                        refine pN ?_
                                        refine pS ?_
                                        refine gF (.tmp 147) ?_
                                        refine gS 0 ?_
                                        refine gR 18 (rg Tryz.f6 18) ?_
                                        refine sg 3 (mkE (s_2.append (s_0.append ((12, .ba 96 0) :: ((16, B (allB [eqI x5.2.1.f0 0, eqI x5.2.1.f1 0, eqI x5.2.1.f2 p2, eqI x5.2.1.f3 p3])) :: [(147, B false)])))) [(96, .box [I x5.1.f0, I x5.1.f1, I x5.1.f2, I x5.1.f3] false)] 198) ?_
                                        refine sb 175 (eqI z1 3) ?_ ?_
                                        · refine sg 6 (mkE ((178, B (!(allB [eqI x5.2.1.f0 0, eqI x5.2.1.f1 0, eqI x5.2.1.f2 p2, eqI x5.2.1.f3 p3]))) :: ((177, B (!(allB [eqI x5.2.1.f0 0, eqI x5.2.1.f1 0, eqI x5.2.1.f2 p2, eqI x5.2.1.f3 p3]))) :: ((176, B (allB [eqI x5.2.1.f0 0, eqI x5.2.1.f1 0, eqI x5.2.1.f2 p2, eqI x5.2.1.f3 p3])) :: ((175, B true) :: (s_2.append (s_0.append ((12, .ba 96 0) :: ((16, B (allB [eqI x5.2.1.f0 0, eqI x5.2.1.f1 0, eqI x5.2.1.f2 p2, eqI x5.2.1.f3 p3])) :: [(147, B false)])))))))) [(96, .box [I x5.1.f0, I x5.1.f1, I x5.1.f2, I x5.1.f3] false)] 198) ?_
                                          refine sb 178 (!(allB [eqI x5.2.1.f0 0, eqI x5.2.1.f1 0, eqI x5.2.1.f2 p2, eqI x5.2.1.f3 p3])) ?_ ?_
                                          · refine se (mkE (s_0.append [(172, B true)]) [] 198) ?_
                                            refine pN ?_
                                            refine pS ?_
                                            refine gT (.tmp 172) ?_
                                            refine gS 0 ?_
                                            refine gR 19 (rg Tryz.f6 19) ?_
                                            refine se (mkE [(8, B false)] [] 198) ?_
                                            refine pN ?_
                                            refine pS ?_
                                            refine gE ?_
                                            exact pL
                                          · refine sg 20 (mkE ((192, B (eqI x5.1.f3 p1)) :: ((191, I p1) :: ((190, I x5.1.f3) :: ((189, .ba 96 3) :: ((188, B (eqI x5.1.f2 p0)) :: ((187, I p0) :: ((186, I x5.1.f2) :: ((185, .ba 96 2) :: ((184, I p3) :: ((183, I p2) :: ((182, I x5.1.f3) :: ((181, .ba 96 3) :: ((180, I x5.1.f2) :: ((179, .ba 96 2) :: ((178, B false) :: ((178, B (!(allB [eqI x5.2.1.f0 0, eqI x5.2.1.f1 0, eqI x5.2.1.f2 p2, eqI x5.2.1.f3 p3]))) :: ((177, B (!(allB [eqI x5.2.1.f0 0, eqI x5.2.1.f1 0, eqI x5.2.1.f2 p2, eqI x5.2.1.f3 p3]))) :: ((176, B (allB [eqI x5.2.1.f0 0, eqI x5.2.1.f1 0, eqI x5.2.1.f2 p2, eqI x5.2.1.f3 p3])) :: ((175, B true) :: (s_2.append (s_0.append ((12, .ba 96 0) :: ((16, B (allB [eqI x5.2.1.f0 0, eqI x5.2.1.f1 0, eqI x5.2.1.f2 p2, eqI x5.2.1.f3 p3])) :: [(147, B false)]))))))))))))))))))))))) [(96, .box [I x5.1.f0, I x5.1.f1, I x5.1.f2, I x5.1.f3] false)] 198) ?_
                                            refine co 193 [] (h30 x5.1.f2 x5.1.f3 p2 p3 (eqI x5.1.f2 p0) (eqI x5.1.f3 p1)) (fun x8 => ?_)
                                            refine se (mkE (s_0.append [(172, B (!x8))]) [] 198) ?_
                                            refine pN ?_
                                            refine pS ?_
                                            refine gC 172 (!x8) ?_ ?_
                                            · refine gS 0 ?_
                                              refine gR 19 (rg Tryz.f6 19) ?_
                                              refine se (mkE [(8, B false)] [] 198) ?_
                                              refine pN ?_
                                              refine pS ?_
                                              refine gE ?_
                                              exact pL
                                            · refine gK ?_
                                              refine pB ?_
                                              refine pB ?_
                                              refine pG (mkE s_0 [] 198) ?_
                                              exact pL
                                        · refine se (mkE (s_0.append [(172, B false)]) [] 198) ?_
                                          refine pN ?_
                                          refine pS ?_
                                          refine gF (.tmp 172) ?_
                                          refine gK ?_
                                          refine pB ?_
                                          refine pB ?_
                                          refine pG (mkE s_0 [] 198) ?_
                                          exact pL
                                  · refine se (mkE (s_0.append (s_1.append ((15, B (allB [eqI x5.1.f0 0, eqI x5.1.f1 0, eqI x5.1.f2 p0, eqI x5.1.f3 p1])) :: ((16, B (allB [eqI x5.2.1.f0 0, eqI x5.2.1.f1 0, eqI x5.2.1.f2 p2, eqI x5.2.1.f3 p3])) :: [(137, B true)])))) [(96, .box [I x5.1.f0, I x5.1.f1, I x5.1.f2, I x5.1.f3] false), (104, .box [I x5.2.1.f0, I x5.2.1.f1, I x5.2.1.f2, I x5.2.1.f3] false)] 198) ?_
                                    refine pN ?_
                                    refine pS ?_
                                    refine gT (.tmp 137) ?_
                                    refine gS 0 ?_
                                    refine gR 15 (rg Tryz.f6 15) ?_
                                    refine se (mkE [(8, B false)] [] 198) ?_
                                    refine pN ?_
                                    refine pS ?_
                                    refine gE ?_
                                    exact pL
                                · refine se (mkE (s_0.append (s_1.append ((15, B (allB [eqI x5.1.f0 0, eqI x5.1.f1 0, eqI x5.1.f2 p0, eqI x5.1.f3 p1])) :: ((16, B (allB [eqI x5.2.1.f0 0, eqI x5.2.1.f1 0, eqI x5.2.1.f2 p2, eqI x5.2.1.f3 p3])) :: [(137, B false)])))) [(96, .box [I x5.1.f0, I x5.1.f1, I x5.1.f2, I x5.1.f3] false), (104, .box [I x5.2.1.f0, I x5.2.1.f1, I x5.2.1.f2, I x5.2.1.f3] false)] 198) ?_
                                  refine pN ?_
                                  refine pS ?_
                                  refine gF (.tmp 137) ?_
                                  refine gS 0 ?_
                                  refine gR 16 (rg Tryz.f6 16) ?_
                                  refine sg 3 (mkE (s_3.append (s_0.append (s_1.append ((15, B (allB [eqI x5.1.f0 0, eqI x5.1.f1 0, eqI x5.1.f2 p0, eqI x5.1.f3 p1])) :: ((16, B (allB [eqI x5.2.1.f0 0, eqI x5.2.1.f1 0, eqI x5.2.1.f2 p2, eqI x5.2.1.f3 p3])) :: [(137, B false)]))))) [(96, .box [I x5.1.f0, I x5.1.f1, I x5.1.f2, I x5.1.f3] false), (104, .box [I x5.2.1.f0, I x5.2.1.f1, I x5.2.1.f2, I x5.2.1.f3] false)] 198) ?_
                                  refine sb 150 (eqI z1 2) ?_ ?_
                                  · refine sg 6 (mkE ((153, B (!(allB [eqI x5.1.f0 0, eqI x5.1.f1 0, eqI x5.1.f2 p0, eqI x5.1.f3 p1]))) :: ((152, B (!(allB [eqI x5.1.f0 0, eqI x5.1.f1 0, eqI x5.1.f2 p0, eqI x5.1.f3 p1]))) :: ((151, B (allB [eqI x5.1.f0 0, eqI x5.1.f1 0, eqI x5.1.f2 p0, eqI x5.1.f3 p1])) :: ((150, B true) :: (s_3.append (s_0.append (s_1.append ((15, B (allB [eqI x5.1.f0 0, eqI x5.1.f1 0, eqI x5.1.f2 p0, eqI x5.1.f3 p1])) :: ((16, B (allB [eqI x5.2.1.f0 0, eqI x5.2.1.f1 0, eqI x5.2.1.f2 p2, eqI x5.2.1.f3 p3])) :: [(137, B false)]))))))))) [(96, .box [I x5.1.f0, I x5.1.f1, I x5.1.f2, I x5.1.f3] false), (104, .box [I x5.2.1.f0, I x5.2.1.f1, I x5.2.1.f2, I x5.2.1.f3] false)] 198) ?_
                                    refine sb 153 (!(allB [eqI x5.1.f0 0, eqI x5.1.f1 0, eqI x5.1.f2 p0, eqI x5.1.f3 p1])) ?_ ?_
                                    · refine se (mkE (s_0.append ((12, .ba 96 0) :: ((16, B (allB [eqI x5.2.1.f0 0, eqI x5.2.1.f1 0, eqI x5.2.1.f2 p2, eqI x5.2.1.f3 p3])) :: [(147, B true)]))) [(96, .box [I x5.1.f0, I x5.1.f1, I x5.1.f2, I x5.1.f3] false)] 198) ?_
                                      refine pN ?_
                                      refine pS ?_
                                      refine gT (.tmp 147) ?_
                                      refine gS 0 ?_
                                      refine gR 17 (rg Tryz.f6 17) ?_
                                      refine se (mkE [(8, B false)] [] 198) ?_
                                      refine pN ?_
                                      refine pS ?_
                                      refine gE ?_
                                      exact pL
                                    · refine sg 20 (mkE ((167, B (eqI x5.2.1.f3 p3)) :: ((166, I p3) :: ((165, I x5.2.1.f3) :: ((164, .ba 104 3) :: ((163, B (eqI x5.2.1.f2 p2)) :: ((162, I p2) :: ((161, I x5.2.1.f2) :: ((160, .ba 104 2) :: ((159, I p1) :: ((158, I p0) :: ((157, I x5.2.1.f3) :: ((156, .ba 104 3) :: ((155, I x5.2.1.f2) :: ((154, .ba 104 2) :: ((153, B false) :: ((153, B (!(allB [eqI x5.1.f0 0, eqI x5.1.f1 0, eqI x5.1.f2 p0, eqI x5.1.f3 p1]))) :: ((152, B (!(allB [eqI x5.1.f0 0, eqI x5.1.f1 0, eqI x5.1.f2 p0, eqI x5.1.f3 p1]))) :: ((151, B (allB [eqI x5.1.f0 0, eqI x5.1.f1 0, eqI x5.1.f2 p0, eqI x5.1.f3 p1])) :: ((150, B true) :: (s_3.append (s_0.append (s_1.append ((15, B (allB [eqI x5.1.f0 0, eqI x5.1.f1 0, eqI x5.1.f2 p0, eqI x5.1.f3 p1])) :: ((16, B (allB [eqI x5.2.1.f0 0, eqI x5.2.1.f1 0, eqI x5.2.1.f2 p2, eqI x5.2.1.f3 p3])) :: [(137, B false)])))))))))))))))))))))))) [(96, .box [I x5.1.f0, I x5.1.f1, I x5.1.f2, I x5.1.f3] false), (104, .box [I x5.2.1.f0, I x5.2.1.f1, I x5.2.1.f2, I x5.2.1.f3] false)] 198) ?_
                                      refine co 168 [] (h30 x5.2.1.f2 x5.2.1.f3 p0 p1 (eqI x5.2.1.f2 p2) (eqI x5.2.1.f3 p3)) (fun x9 => ?_)
                                      refine se (mkE (s_0.append ((12, .ba 96 0) :: ((16, B (allB [eqI x5.2.1.f0 0, eqI x5.2.1.f1 0, eqI x5.2.1.f2 p2, eqI x5.2.1.f3 p3])) :: [(147, B (!x9))]))) [(96, .box [I x5.1.f0, I x5.1.f1, I x5.1.f2, I x5.1.f3] false)] 198) ?_
                                      refine pN ?_
                                      refine pS ?_
                                      refine gC 147 (!x9) ?_ ?_
                                      · refine gS 0 ?_
                                        refine gR 17 (rg Tryz.f6 17) ?_
                                        refine se (mkE [(8, B false)] [] 198) ?_
                                        refine pN ?_
                                        refine pS ?_
                                        refine gE ?_
                                        exact pL
                                      · refine gS 0 ?_
                                        refine gR 18 (rg Tryz.f6 18) ?_
                                        refine sg 3 (mkE (s_2.append (s_0.append ((12, .ba 96 0) :: ((16, B (allB [eqI x5.2.1.f0 0, eqI x5.2.1.f1 0, eqI x5.2.1.f2 p2, eqI x5.2.1.f3 p3])) :: [(147, B (!x9))])))) [(96, .box [I x5.1.f0, I x5.1.f1, I x5.1.f2, I x5.1.f3] false)] 198) ?_
                                        refine sb 175 (eqI z1 3) ?_ ?_
                                        · refine sg 6 (mkE ((178, B (!(allB [eqI x5.2.1.f0 0, eqI x5.2.1.f1 0, eqI x5.2.1.f2 p2, eqI x5.2.1.f3 p3]))) :: ((177, B (!(allB [eqI x5.2.1.f0 0, eqI x5.2.1.f1 0, eqI x5.2.1.f2 p2, eqI x5.2.1.f3 p3]))) :: ((176, B (allB [eqI x5.2.1.f0 0, eqI x5.2.1.f1 0, eqI x5.2.1.f2 p2, eqI x5.2.1.f3 p3])) :: ((175, B true) :: (s_2.append (s_0.append ((12, .ba 96 0) :: ((16, B (allB [eqI x5.2.1.f0 0, eqI x5.2.1.f1 0, eqI x5.2.1.f2 p2, eqI x5.2.1.f3 p3])) :: [(147, B (!x9))])))))))) [(96, .box [I x5.1.f0, I x5.1.f1, I x5.1.f2, I x5.1.f3] false)] 198) ?_
                                          refine sb 178 (!(allB [eqI x5.2.1.f0 0, eqI x5.2.1.f1 0, eqI x5.2.1.f2 p2, eqI x5.2.1.f3 p3])) ?_ ?_
                                          · refine se (mkE (s_0.append [(172, B true)]) [] 198) ?_
                                            refine pN ?_
                                            refine pS ?_
                                            refine gT (.tmp 172) ?_
                                            refine gS 0 ?_
                                            refine gR 19 (rg Tryz.f6 19) ?_
                                            refine se (mkE [(8, B false)] [] 198) ?_
                                            refine pN ?_
                                            refine pS ?_
                                            refine gE ?_
                                            exact pL
                                          · refine sg 20 (mkE ((192, B (eqI x5.1.f3 p1)) :: ((191, I p1) :: ((190, I x5.1.f3) :: ((189, .ba 96 3) :: ((188, B (eqI x5.1.f2 p0)) :: ((187, I p0) :: ((186, I x5.1.f2) :: ((185, .ba 96 2) :: ((184, I p3) :: ((183, I p2) :: ((182, I x5.1.f3) :: ((181, .ba 96 3) :: ((180, I x5.1.f2) :: ((179, .ba 96 2) :: ((178, B false) :: ((178, B (!(allB [eqI x5.2.1.f0 0, eqI x5.2.1.f1 0, eqI x5.2.1.f2 p2, eqI x5.2.1.f3 p3]))) :: ((177, B (!(allB [eqI x5.2.1.f0 0, eqI x5.2.1.f1 0, eqI x5.2.1.f2 p2, eqI x5.2.1.f3 p3]))) :: ((176, B (allB [eqI x5.2.1.f0 0, eqI x5.2.1.f1 0, eqI x5.2.1.f2 p2, eqI x5.2.1.f3 p3])) :: ((175, B true) :: (s_2.append (s_0.append ((12, .ba 96 0) :: ((16, B (allB [eqI x5.2.1.f0 0, eqI x5.2.1.f1 0, eqI x5.2.1.f2 p2, eqI x5.2.1.f3 p3])) :: [(147, B (!x9))]))))))))))))))))))))))) [(96, .box [I x5.1.f0, I x5.1.f1, I x5.1.f2, I x5.1.f3] false)] 198) ?_
                                            refine co 193 [] (h30 x5.1.f2 x5.1.f3 p2 p3 (eqI x5.1.f2 p0) (eqI x5.1.f3 p1)) (fun x10 => ?_)
                                            refine se (mkE (s_0.append [(172, B (!x10))]) [] 198) ?_
                                            refine pN ?_
                                            refine pS ?_
                                            refine gC 172 (!x10) ?_ ?_
                                            · refine gS 0 ?_
                                              refine gR 19 (rg Tryz.f6 19) ?_
                                              refine se (mkE [(8, B false)] [] 198) ?_
                                              refine pN ?_
                                              refine pS ?_
                                              refine gE ?_
                                              exact pL
                                            · refine gK ?_
                                              refine pB ?_
                                              refine pB ?_
                                              refine pG (mkE s_0 [] 198) ?_
                                              exact pL
                                        · refine se (mkE (s_0.append [(172, B false)]) [] 198) ?_
                                          refine pN ?_
                                          refine pS ?_
                                          refine gF (.tmp 172) ?_
                                          refine gK ?_
                                          refine pB ?_
                                          refine pB ?_
                                          refine pG (mkE s_0 [] 198) ?_
                                          exact pL
                                  · refine se (mkE (s_0.append ((12, .ba 96 0) :: ((16, B (allB [eqI x5.2.1.f0 0, eqI x5.2.1.f1 0, eqI x5.2.1.f2 p2, eqI x5.2.1.f3 p3])) :: [(147, B false)]))) [(96, .box [I x5.1.f0, I x5.1.f1, I x5.1.f2, I x5.1.f3] false)] 198) ?_
                                    refine pN ?_
                                    refine pS ?_
                                    refine gF (.tmp 147) ?_
                                    refine gS 0 ?_
                                    refine gR 18 (rg Tryz.f6 18) ?_
                                    refine sg 3 (mkE (s_2.append (s_0.append ((12, .ba 96 0) :: ((16, B (allB [eqI x5.2.1.f0 0, eqI x5.2.1.f1 0, eqI x5.2.1.f2 p2, eqI x5.2.1.f3 p3])) :: [(147, B false)])))) [(96, .box [I x5.1.f0, I x5.1.f1, I x5.1.f2, I x5.1.f3] false)] 198) ?_
                                    refine sb 175 (eqI z1 3) ?_ ?_
                                    · refine sg 6 (mkE ((178, B (!(allB [eqI x5.2.1.f0 0, eqI x5.2.1.f1 0, eqI x5.2.1.f2 p2, eqI x5.2.1.f3 p3]))) :: ((177, B (!(allB [eqI x5.2.1.f0 0, eqI x5.2.1.f1 0, eqI x5.2.1.f2 p2, eqI x5.2.1.f3 p3]))) :: ((176, B (allB [eqI x5.2.1.f0 0, eqI x5.2.1.f1 0, eqI x5.2.1.f2 p2, eqI x5.2.1.f3 p3])) :: ((175, B true) :: (s_2.append (s_0.append ((12, .ba 96 0) :: ((16, B (allB [eqI x5.2.1.f0 0, eqI x5.2.1.f1 0, eqI x5.2.1.f2 p2, eqI x5.2.1.f3 p3])) :: [(147, B false)])))))))) [(96, .box [I x5.1.f0, I x5.1.f1, I x5.1.f2, I x5.1.f3] false)] 198) ?_
                                      refine sb 178 (!(allB [eqI x5.2.1.f0 0, eqI x5.2.1.f1 0, eqI x5.2.1.f2 p2, eqI x5.2.1.f3 p3])) ?_ ?_
                                      · refine se (mkE (s_0.append [(172, B true)]) [] 198) ?_
                                        refine pN ?_
                                        refine pS ?_
                                        refine gT (.tmp 172) ?_
                                        refine gS 0 ?_
                                        refine gR 19 (rg Tryz.f6 19) ?_
                                        refine se (mkE [(8, B false)] [] 198) ?_
                                        refine pN ?_
                                        refine pS ?_
                                        refine gE ?_
                                        exact pL
                                      · refine sg 20 (mkE ((192, B (eqI x5.1.f3 p1)) :: ((191, I p1) :: ((190, I x5.1.f3) :: ((189, .ba 96 3) :: ((188, B (eqI x5.1.f2 p0)) :: ((187, I p0) :: ((186, I x5.1.f2) :: ((185, .ba 96 2) :: ((184, I p3) :: ((183, I p2) :: ((182, I x5.1.f3) :: ((181, .ba 96 3) :: ((180, I x5.1.f2) :: ((179, .ba 96 2) :: ((178, B false) :: ((178, B (!(allB [eqI x5.2.1.f0 0, eqI x5.2.1.f1 0, eqI x5.2.1.f2 p2, eqI x5.2.1.f3 p3]))) :: ((177, B (!(allB [eqI x5.2.1.f0 0, eqI x5.2.1.f1 0, eqI x5.2.1.f2 p2, eqI x5.2.1.f3 p3]))) :: ((176, B (allB [eqI x5.2.1.f0 0, eqI x5.2.1.f1 0, eqI x5.2.1.f2 p2, eqI x5.2.1.f3 p3])) :: ((175, B true) :: (s_2.append (s_0.append ((12, .ba 96 0) :: ((16, B (allB [eqI x5.2.1.f0 0, eqI x5.2.1.f1 0, eqI x5.2.1.f2 p2, eqI x5.2.1.f3 p3])) :: [(147, B false)]))))))))))))))))))))))) [(96, .box [I x5.1.f0, I x5.1.f1, I x5.1.f2, I x5.1.f3] false)] 198) ?_
                                        refine co 193 [] (h30 x5.1.f2 x5.1.f3 p2 p3 (eqI x5.1.f2 p0) (eqI x5.1.f3 p1)) (fun x11 => ?_)
                                        refine se (mkE (s_0.append [(172, B (!x11))]) [] 198) ?_
                                        refine pN ?_
                                        refine pS ?_
                                        refine gC 172 (!x11) ?_ ?_
                                        · refine gS 0 ?_
                                          refine gR 19 (rg Tryz.f6 19) ?_
                                          refine se (mkE [(8, B false)] [] 198) ?_
                                          refine pN ?_
                                          refine pS ?_
                                          refine gE ?_
                                          exact pL
                                        · refine gK ?_
                                          refine pB ?_
                                          refine pB ?_
                                          refine pG (mkE s_0 [] 198) ?_
                                          exact pL
                                    · refine se (mkE (s_0.append [(172, B false)]) [] 198) ?_
                                      refine pN ?_
                                      refine pS ?_
                                      refine gF (.tmp 172) ?_
                                      refine gK ?_
                                      refine pB ?_
                                      refine pB ?_
                                      refine pG (mkE s_0 [] 198) ?_
                                      exact pL
    refine ss y12 (Z := (Sum.elim (fun (x : Unit) => (.normal, (mkE s_0 [] 198))) (fun (x : Unit) => (.ret, (mkE [(8, B false)] [] 198))))) (fun y12a => ?_) (fun y12b => ?_)
    · refine pS ?_
      refine gR 9 (rg Tryz.f6 9) ?_
      refine se (mkE [(0, I p0), (1, I p1), (2, I p2), (3, I p3), (11, I (addI .i64 z1 1))] [] 198) ?_
      exact pL
    · exact pL
  · refine gX 2 ?_
    exact pL
noncomputable def T6 (p0 : Int) (p1 : Int) (p2 : Int) (p3 : Int) : Option Bool := ((iter (L6_2 p0 p1 p2 p3) 0).bind fun y4 => (Sum.elim (fun y4a => ((iter (L6_8 p0 p1 p2 p3) 1).bind fun y13 => (Sum.elim (fun y13a => ((T26).bind fun x14 => (some x14))) (fun y13b => (some false)) y13))) (fun y4b => (some y4b)) y4))
theorem B6 (C : Callee) (h26 : C 26 [] = (T26).map B) (h29 : ∀ (p0 : Int) (p1 : Int) (p2 : Int) (p3 : Int) (p4 : Int), C 29 [I p0, I p1, I p2, I p3, I p4] = (T29 p0 p1 p2 p3 p4).map (fun r => AV.tup [a28 r.1, a28 r.2.1, I r.2.2])) (h30 : ∀ (p0 : Int) (p1 : Int) (p2 : Int) (p3 : Int) (p4 : Bool) (p5 : Bool), C 30 [I p0, I p1, I p2, I p3, B p4, B p5] = (T30 p0 p1 p2 p3 p4 p5).map B) (p0 : Int) (p1 : Int) (p2 : Int) (p3 : Int) : runs Tryz.prog C (cfg.fn 6) (finFn Tryz.prog (cfg.fn 6).byval Tryz.f6) [] (execA Tryz.prog C (cfg.fn 6) (nr Tryz.f6 []) (frame0 [I p0, I p1, I p2, I p3] 198 false)) = (T6 p0 p1 p2 p3).map B := by
  unfold T6
  let s_0 : List (Nat × AV) := [(0, I p0), (1, I p1), (2, I p2), (3, I p3)]
  let s_1 : List (Nat × AV) := [(21, LL I ([p0, p1, p2, p3] : List Int)), (22, I (lenL ([p0, p1, p2, p3] : List Int)))]
  refine gS 1 ?_
  refine gR 0 (rg Tryz.f6 0) ?_
  refine se (mkE s_0 [] 198) ?_
  refine pN ?_
  refine pS ?_
  refine gS 7 ?_
  refine gS 2 ?_
  refine gR 1 (rg Tryz.f6 1) ?_
  refine sg 5 (mkE ((21, .own 168 0) :: ((20, I p3) :: ((19, I p2) :: ((18, I p1) :: ((17, I p0) :: s_0))))) [(168, RR 3 1 I ([p0, p1, p2, p3] : List Int) 0 false)] 198) ?_
  refine eo 22 (I (lenL ([p0, p1, p2, p3] : List Int))) (lenOE 22 3 1 I ([p0, p1, p2, p3] : List Int)) ?_
  refine se (mkE (s_0.append ((21, .own 168 0) :: ((22, I (lenL ([p0, p1, p2, p3] : List Int))) :: [(23, I 0)]))) [(168, RR 3 1 I ([p0, p1, p2, p3] : List Int) 0 false)] 198) ?_
  refine pN ?_
  refine pS ?_
  refine gB 0 ?_
  refine lo [(0, none), (1, none), (2, none), (3, none), (21, none), (22, none), (23, none)] [] (L6_2 p0 p1 p2 p3) (fun z0 : Int => (mkE (s_0.append (s_1.append [(23, I z0)])) [] 198)) (Sum.elim (fun (x : (Int × Bool)) => (.exit 0, (mkE (s_0.append (s_1.append ((23, I x.1) :: [(24, B x.2)]))) [] 198))) (fun (x : Bool) => (.ret, (mkE [(8, B x)] [] 198)))) 0 (fun z => L6_2_ok C h26 p0 p1 p2 p3 z) ?_
  intro y4
  refine ss y4 (Z := (Sum.elim (fun (x : (Int × Bool)) => (.exit 0, (mkE (s_0.append (s_1.append ((23, I x.1) :: [(24, B x.2)]))) [] 198))) (fun (x : Bool) => (.ret, (mkE [(8, B x)] [] 198))))) (fun y4a => ?_) (fun y4b => ?_)
  · refine pH ?_
    refine pN ?_
    refine pS ?_
    refine gS 20 ?_
    refine gS 8 ?_
    refine gR 7 (rg Tryz.f6 7) ?_
    refine se (mkE (s_0.append [(11, I 1)]) [] 198) ?_
    refine pN ?_
    refine pS ?_
    refine gB 2 ?_
    refine lo [(0, none), (1, none), (2, none), (3, none), (11, none)] [] (L6_8 p0 p1 p2 p3) (fun z1 : Int => (mkE (s_0.append [(11, I z1)]) [] 198)) (Sum.elim (fun (x : (Int × Bool)) => (.exit 2, (mkE (s_0.append ((11, I x.1) :: [(36, B x.2)])) [] 198))) (fun (x : Unit) => (.ret, (mkE [(8, B false)] [] 198)))) 1 (fun z => L6_8_ok C h29 h30 p0 p1 p2 p3 z) ?_
    intro y13
    refine ss y13 (Z := (Sum.elim (fun (x : (Int × Bool)) => (.exit 2, (mkE (s_0.append ((11, I x.1) :: [(36, B x.2)])) [] 198))) (fun (x : Unit) => (.ret, (mkE [(8, B false)] [] 198))))) (fun y13a => ?_) (fun y13b => ?_)
    · refine pH ?_
      refine pN ?_
      refine pS ?_
      refine gS 0 ?_
      refine gR 20 (rg Tryz.f6 20) ?_
      refine co 197 [] (h26) (fun x14 => ?_)
      refine se (mkE [(8, B x14)] [] 198) ?_
      refine pN ?_
      refine pS ?_
      refine gE ?_
      exact pL
    · exact pL
  · exact pL
theorem F6 (m : Nat) (hm : 11 ≤ m) (p0 : Int) (p1 : Int) (p2 : Int) (p3 : Int) : callA Tryz.prog cfg m 6 [I p0, I p1, I p2, I p3] = (T6 p0 p1 p2 p3).map B := by
  obtain ⟨q, rfl⟩ : ∃ q, m = q + 1 := ⟨m - 1, by omega⟩
  exact (callA_body (fn := Tryz.f6) (c := body_ Tryz.f6) q _ (by kernel_rfl) (by kernel_rfl) (by kernel_rfl)).trans (B6 _ (F26 q (by omega)) (fun p0 p1 p2 p3 p4 => F29 q (by omega) p0 p1 p2 p3 p4) (fun p0 p1 p2 p3 p4 p5 => F30 q (by omega) p0 p1 p2 p3 p4 p5) p0 p1 p2 p3)

end Go.Abs.TKF
