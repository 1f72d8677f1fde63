import Derived.Test.YtehmcdmjhdlcgaaGreatDoorGTKTp2
set_option maxRecDepth 100000
set_option linter.unusedVariables false
namespace Go.Abs.TKT
open Go.RowKit Go.Proofs Go.Abs
noncomputable def T68 (p0 : S138) (p1 : S142) : Option (Bool × Int) := ((T113 ([p0] : List S138) ([p1] : List S142)).bind fun x1 => (bif (neI x1 0) then (some (false, x1)) else ((T114 p0 p1).bind fun x2 => (some (x2, 0)))))
theorem B68 (C : Callee) (h113 : ∀ (p0 : (List S138)) (p1 : (List S142)), C 113 [LL a138 p0, LL a142 p1] = (T113 p0 p1).map I) (h114 : ∀ (p0 : S138) (p1 : S142), C 114 [a138 p0, a142 p1] = (T114 p0 p1).map B) (p0 : S138) (p1 : S142) : runs Tryz.prog C (cfg.fn 68) (finFn Tryz.prog (cfg.fn 68).byval Tryz.f68) [] (execA Tryz.prog C (cfg.fn 68) (nr Tryz.f68 []) (frame0 [a138 p0, a142 p1] 18 false)) = (T68 p0 p1).map (fun r => AV.tup [B r.1, I r.2]) := by
  unfold T68
  let o_0 : List (Nat × AObj) := [(16, .box [S p0.f0, S p0.f1, I p0.f2, LL S p0.f3, I p0.f4, I p0.f5, I p0.f6, LL a28 p0.f7, S p0.f8] false), (24, .box [S p1.f0, I p1.f1, I p1.f2] false)]
  refine gS 1 ?_
  refine gR 0 (rg Tryz.f68 0) ?_
  refine se (mkE [(2, .ba 16 0), (3, .ba 24 0)] o_0 18) ?_
  refine pN ?_
  refine pS ?_
  refine gS 4 ?_
  refine gS 2 ?_
  refine gR 1 (rg Tryz.f68 1) ?_
  refine sg 4 (mkE [(10, .own 80 0), (9, a142 p1), (8, .own 64 0), (7, a138 p0), (2, .ba 16 0), (3, .ba 24 0)] ((80, RR 143 3 a142 ([p1] : List S142) 0 false) :: ((64, RR 139 9 a138 ([p0] : List S138) 0 false) :: o_0)) 18) ?_
  refine co 11 [64, 80] (h113 ([p0] : List S138) ([p1] : List S142)) (fun x1 => ?_)
  refine se (mkE [(2, .ba 16 0), (3, .ba 24 0), (6, I x1)] o_0 18) ?_
  refine pN ?_
  refine pS ?_
  refine gS 0 ?_
  refine gR 2 (rg Tryz.f68 2) ?_
  refine se (mkE [(2, .ba 16 0), (3, .ba 24 0), (6, I x1), (13, B (neI x1 0))] o_0 18) ?_
  refine pN ?_
  refine pS ?_
  refine gC 13 (neI x1 0) ?_ ?_
  · refine gS 0 ?_
    refine gR 3 (rg Tryz.f68 3) ?_
    refine se (mkE [(4, B false), (5, I x1)] [] 18) ?_
    refine pN ?_
    refine pS ?_
    refine gE ?_
    exact pL
  · refine gK ?_
    refine pN ?_
    refine pS ?_
    refine gS 0 ?_
    refine gR 4 (rg Tryz.f68 4) ?_
    refine sg 2 (mkE [(16, a142 p1), (15, a138 p0), (2, .ba 16 0), (3, .ba 24 0), (6, I x1), (13, B (neI x1 0))] o_0 18) ?_
    refine co 17 [] (h114 p0 p1) (fun x2 => ?_)
    refine se (mkE [(4, B x2), (5, I 0)] [] 18) ?_
    refine pN ?_
    refine pS ?_
    refine gE ?_
    exact pL
theorem F68 (m : Nat) (hm : 9 ≤ m) (p0 : S138) (p1 : S142) : callA Tryz.prog cfg m 68 [a138 p0, a142 p1] = (T68 p0 p1).map (fun r => AV.tup [B r.1, I r.2]) := by
  obtain ⟨q, rfl⟩ : ∃ q, m = q + 1 := ⟨m - 1, by omega⟩
  exact (callA_body (fn := Tryz.f68) (c := body_ Tryz.f68) q _ (by kernel_rfl) (by kernel_rfl) (by kernel_rfl)).trans (B68 _ (fun p0 p1 => F113 q (by omega) p0 p1) (fun p0 p1 => F114 q (by omega) p0 p1) p0 p1)

noncomputable def L22_2 (p0 : (List Int)) (z0 : Int) : Option (Int ⊕ ((Int × Bool) ⊕ Int)) := (bif (ltI z0 (lenL p0)) then ((listAt p0 z0).bind fun x1 => (bif (neI x1 0) then (some (.inr (.inr x1))) else (some (.inl (addI .i64 z0 1))))) else (some (.inr (.inl (z0, (ltI z0 (lenL p0)))))))
theorem L22_2_ok (C : Callee) (p0 : (List Int)) (z0 : Int) : runs Tryz.prog C (cfg.fn 22) (finLoop ((cfg.fn 22).keep 2) ((cfg.fn 22).al 2)) [] (execA Tryz.prog C (cfg.fn 22) (nr Tryz.f22 [false, false, true, false, true]) ((fun z0 : Int => (mkE [(5, LL I p0), (6, I (lenL p0)), (7, I z0)] [] 15)) z0)) = (L22_2 p0 z0).map (Sum.elim (fun z => .inl ((fun z0 : Int => (mkE [(5, LL I p0), (6, I (lenL p0)), (7, I z0)] [] 15)) z)) (fun x => .inr ((Sum.elim (fun (x : (Int × Bool)) => (.exit 0, (mkE [(5, LL I p0), (6, I (lenL p0)), (7, I x.1), (8, B x.2)] [] 15))) (fun (x : Int) => (.ret, (mkE [(2, I x)] [] 15)))) x))) := by
  unfold L22_2
  refine gS 0 ?_
  refine gR 2 (rg Tryz.f22 2) ?_
  refine se (mkE [(5, LL I p0), (6, I (lenL p0)), (7, I z0), (8, B (ltI z0 (lenL p0)))] [] 15) ?_
  refine pN ?_
  refine pS ?_
  refine gS 3 ?_
  refine gC 8 (ltI z0 (lenL p0)) ?_ ?_
  · refine gK ?_
    refine pN ?_
    refine pS ?_
    refine gS 6 ?_
    refine gB 1 ?_
    refine gS 4 ?_
    refine gR 3 (rg Tryz.f22 3) ?_
    refine vo 9 (addrE 128 31 1 I .i64 p0 z0) (fun x1 => ?_)
    refine se (mkE [(4, I x1), (5, LL I p0), (6, I (lenL p0)), (7, I z0)] [] 15) ?_
    refine pN ?_
    refine pS ?_
    refine gS 0 ?_
    refine gR 4 (rg Tryz.f22 4) ?_
    refine se (mkE [(4, I x1), (5, LL I p0), (6, I (lenL p0)), (7, I z0), (12, B (neI x1 0))] [] 15) ?_
    refine pN ?_
    refine pS ?_
    refine gC 12 (neI x1 0) ?_ ?_
    · refine gS 0 ?_
      refine gR 5 (rg Tryz.f22 5) ?_
      refine se (mkE [(2, I x1)] [] 15) ?_
      refine pN ?_
      refine pS ?_
      refine gE ?_
      exact pL
    · refine gK ?_
      refine pB ?_
      refine pN ?_
      refine pS ?_
      refine gR 6 (rg Tryz.f22 6) ?_
      refine se (mkE [(5, LL I p0), (6, I (lenL p0)), (7, I (addI .i64 z0 1))] [] 15) ?_
      exact pL
  · refine gX 0 ?_
    exact pL
noncomputable def T22 (p0 : (List Int)) : Option Int := ((iter (L22_2 p0) 0).bind fun y2 => (Sum.elim (fun y2a => (some 0)) (fun y2b => (some y2b)) y2))
theorem B22 (C : Callee) (p0 : (List Int)) : runs Tryz.prog C (cfg.fn 22) (finFn Tryz.prog (cfg.fn 22).byval Tryz.f22) [] (execA Tryz.prog C (cfg.fn 22) (nr Tryz.f22 []) (frame0 [LL I p0] 15 false)) = (T22 p0).map I := by
  unfold T22
  refine gS 1 ?_
  refine gR 0 (rg Tryz.f22 0) ?_
  refine se (mkE [(0, LL I p0)] [] 15) ?_
  refine pN ?_
  refine pS ?_
  refine gS 7 ?_
  refine gS 2 ?_
  refine gR 1 (rg Tryz.f22 1) ?_
  refine sg 1 (mkE [(5, LL I p0), (0, LL I p0)] [] 15) ?_
  refine eo 6 (I (lenL p0)) (lenE 128 I p0) ?_
  refine se (mkE [(5, LL I p0), (6, I (lenL p0)), (7, I 0)] [] 15) ?_
  refine pN ?_
  refine pS ?_
  refine gB 0 ?_
  refine lo [(5, none), (6, none), (7, none)] [] (L22_2 p0) (fun z0 : Int => (mkE [(5, LL I p0), (6, I (lenL p0)), (7, I z0)] [] 15)) (Sum.elim (fun (x : (Int × Bool)) => (.exit 0, (mkE [(5, LL I p0), (6, I (lenL p0)), (7, I x.1), (8, B x.2)] [] 15))) (fun (x : Int) => (.ret, (mkE [(2, I x)] [] 15)))) 0 (fun z => L22_2_ok C p0 z) ?_
  intro y2
  refine ss y2 (Z := (Sum.elim (fun (x : (Int × Bool)) => (.exit 0, (mkE [(5, LL I p0), (6, I (lenL p0)), (7, I x.1), (8, B x.2)] [] 15))) (fun (x : Int) => (.ret, (mkE [(2, I x)] [] 15))))) (fun y2a => ?_) (fun y2b => ?_)
  · refine pH ?_
    refine pN ?_
    refine pS ?_
    refine gS 0 ?_
    refine gR 7 (rg Tryz.f22 7) ?_
    refine se (mkE [(2, I 0)] [] 15) ?_
    refine pN ?_
    refine pS ?_
    refine gE ?_
    exact pL
  · exact pL
theorem F22 (m : Nat) (hm : 1 ≤ m) (p0 : (List Int)) : callA Tryz.prog cfg m 22 [LL I p0] = (T22 p0).map I := by
  obtain ⟨q, rfl⟩ : ∃ q, m = q + 1 := ⟨m - 1, by omega⟩
  exact (callA_body (fn := Tryz.f22) (c := body_ Tryz.f22) q _ (by kernel_rfl) (by kernel_rfl) (by kernel_rfl)).trans (B22 _ p0)

noncomputable def T26 : Option Bool := ((T20 ([(S28.mk 0 0 2 2), (S28.mk 1 1 2 2)] : List S28)).bind fun x1 => ((T67 (S136.mk (ByteArray.mk #[97]) (ByteArray.mk #[98]) 0 0 0 1 127 [] 1 2 0 [] false) 0 (S92.mk 0 86400000)).bind fun x2 => ((T45 (S94.mk (ByteArray.mk #[97]) (ByteArray.mk #[]) (S92.mk 0 100) [] 10 0 0) 50).bind fun x3 => ((T42 ([(S87.mk (ByteArray.mk #[112]) 0 100), (S87.mk (ByteArray.mk #[112]) 1000 1300)] : List S87) (ByteArray.mk #[112]) 700).bind fun x4 => ((T68 (S138.mk (ByteArray.mk #[97]) (ByteArray.mk #[115]) 1 [] 0 5 1 ([(S28.mk 0 0 2 2)] : List S28) (ByteArray.mk #[120])) (S142.mk (ByteArray.mk #[112]) 1 1)).bind fun x5 => ((T22 ([x1.2, x2.2, x3.2, x4.2, x5.2] : List Int)).bind fun x6 => (bif (eqI x6 0) then (bif (eqI x1.1 7) then (bif (eqI (lenL x2.1) 1) then (bif (eqI x3.1 5) then (bif (eqI x4.1 500) then (some x5.1) else (some false)) else (some false)) else (some false)) else (some false)) else (some false))))))))
theorem B26 (C : Callee) (h20 : ∀ (p0 : (List S28)), C 20 [LL a28 p0] = (T20 p0).map (fun r => AV.tup [I r.1, I r.2])) (h22 : ∀ (p0 : (List Int)), C 22 [LL I p0] = (T22 p0).map I) (h42 : ∀ (p0 : (List S87)) (p1 : ByteArray) (p2 : Int), C 42 [LL a87 p0, S p1, I p2] = (T42 p0 p1 p2).map (fun r => AV.tup [I r.1, I r.2])) (h45 : ∀ (p0 : S94) (p1 : Int), C 45 [a94 p0, I p1] = (T45 p0 p1).map (fun r => AV.tup [I r.1, I r.2])) (h67 : ∀ (p0 : S136) (p1 : Int) (p2 : S92), C 67 [a136 p0, I p1, a92 p2] = (T67 p0 p1 p2).map (fun r => AV.tup [(fun l => AV.fr 93 2 (List.map a92 l)) r.1, I r.2])) (h68 : ∀ (p0 : S138) (p1 : S142), C 68 [a138 p0, a142 p1] = (T68 p0 p1).map (fun r => AV.tup [B r.1, I r.2])) : runs Tryz.prog C (cfg.fn 26) (finFn Tryz.prog (cfg.fn 26).byval Tryz.f26) [] (execA Tryz.prog C (cfg.fn 26) (nr Tryz.f26 []) (frame0 [] 75 false)) = (T26).map B := by
  unfold T26
  let o_0 : List (Nat × AObj) := [(72, .box [S (ByteArray.mk #[97]), S (ByteArray.mk #[115]), I 1, .nils, I 0, I 5, I 1, .own 312 0, S (ByteArray.mk #[120])] false)]
  refine gS 1 ?_
  refine gR 0 (rg Tryz.f26 0) ?_
  refine se (mkE [] [] 75) ?_
  refine pN ?_
  refine pS ?_
  refine gS 2 ?_
  refine gR 1 (rg Tryz.f26 1) ?_
  refine sg 3 (mkE [(15, .own 120 0), (14, .agg [I 1, I 1, I 2, I 2]), (13, .agg [I 0, I 0, I 2, I 2])] [(120, RR 29 4 a28 ([(S28.mk 0 0 2 2), (S28.mk 1 1 2 2)] : List S28) 0 false)] 75) ?_
  refine co 16 [120] (h20 ([(S28.mk 0 0 2 2), (S28.mk 1 1 2 2)] : List S28)) (fun x1 => ?_)
  refine se (mkE [(1, I x1.1), (2, I x1.2)] [] 75) ?_
  refine pN ?_
  refine pS ?_
  refine gS 3 ?_
  refine gR 2 (rg Tryz.f26 2) ?_
  refine sg 2 (mkE [(21, .agg [I 0, I 86400000]), (20, .agg [S (ByteArray.mk #[97]), S (ByteArray.mk #[98]), I 0, I 0, I 0, I 1, I 127, .nils, I 1, I 2, I 0, .nils, B false]), (1, I x1.1), (2, I x1.2)] [] 75) ?_
  refine co 22 [] (h67 (S136.mk (ByteArray.mk #[97]) (ByteArray.mk #[98]) 0 0 0 1 127 [] 1 2 0 [] false) 0 (S92.mk 0 86400000)) (fun x2 => ?_)
  refine se (mkE [(1, I x1.1), (2, I x1.2), (3, .own 176 0), (4, I x2.2)] [(176, RR 93 2 a92 x2.1 0 false)] 75) ?_
  refine pN ?_
  refine pS ?_
  refine gS 4 ?_
  refine gR 3 (rg Tryz.f26 3) ?_
  refine sg 2 (mkE [(27, .agg [S (ByteArray.mk #[97]), S (ByteArray.mk #[]), I 0, I 100, .nils, I 10, I 0, I 0]), (26, .agg [I 0, I 100]), (1, I x1.1), (2, I x1.2), (3, .own 176 0), (4, I x2.2)] [(176, RR 93 2 a92 x2.1 0 false)] 75) ?_
  refine co 28 [] (h45 (S94.mk (ByteArray.mk #[97]) (ByteArray.mk #[]) (S92.mk 0 100) [] 10 0 0) 50) (fun x3 => ?_)
  refine se (mkE [(1, I x1.1), (2, I x1.2), (3, .own 176 0), (4, I x2.2), (5, I x3.1), (6, I x3.2)] [(176, RR 93 2 a92 x2.1 0 false)] 75) ?_
  refine pN ?_
  refine pS ?_
  refine gS 5 ?_
  refine gR 4 (rg Tryz.f26 4) ?_
  refine sg 3 (mkE [(34, .own 272 0), (33, .agg [S (ByteArray.mk #[112]), I 1000, I 1300]), (32, .agg [S (ByteArray.mk #[112]), I 0, I 100]), (1, I x1.1), (2, I x1.2), (3, .own 176 0), (4, I x2.2), (5, I x3.1), (6, I x3.2)] [(272, RR 88 3 a87 ([(S87.mk (ByteArray.mk #[112]) 0 100), (S87.mk (ByteArray.mk #[112]) 1000 1300)] : List S87) 0 false), (176, RR 93 2 a92 x2.1 0 false)] 75) ?_
  refine co 35 [272] (h42 ([(S87.mk (ByteArray.mk #[112]) 0 100), (S87.mk (ByteArray.mk #[112]) 1000 1300)] : List S87) (ByteArray.mk #[112]) 700) (fun x4 => ?_)
  refine se (mkE [(1, I x1.1), (2, I x1.2), (3, .own 176 0), (4, I x2.2), (5, I x3.1), (6, I x3.2), (7, I x4.1), (8, I x4.2)] [(176, RR 93 2 a92 x2.1 0 false)] 75) ?_
  refine pN ?_
  refine pS ?_
  refine gS 6 ?_
  refine gR 5 (rg Tryz.f26 5) ?_
  refine se (mkE [(1, I x1.1), (2, I x1.2), (3, .own 176 0), (4, I x2.2), (5, I x3.1), (6, I x3.2), (7, I x4.1), (8, I x4.2), (9, .ba 72 0)] (o_0.append ((176, RR 93 2 a92 x2.1 0 false) :: [(312, RR 29 4 a28 ([(S28.mk 0 0 2 2)] : List S28) 0 false)])) 75) ?_
  refine pN ?_
  refine pS ?_
  refine gS 7 ?_
  refine gR 6 (rg Tryz.f26 6) ?_
  refine sg 2 (mkE [(43, .agg [S (ByteArray.mk #[112]), I 1, I 1]), (42, .agg [S (ByteArray.mk #[97]), S (ByteArray.mk #[115]), I 1, .nils, I 0, I 5, I 1, .own 312 0, S (ByteArray.mk #[120])]), (1, I x1.1), (2, I x1.2), (3, .own 176 0), (4, I x2.2), (5, I x3.1), (6, I x3.2), (7, I x4.1), (8, I x4.2), (9, .ba 72 0)] (o_0.append ((176, RR 93 2 a92 x2.1 0 false) :: [(312, RR 29 4 a28 ([(S28.mk 0 0 2 2)] : List S28) 0 false)])) 75) ?_
  refine co 44 [312] (h68 (S138.mk (ByteArray.mk #[97]) (ByteArray.mk #[115]) 1 [] 0 5 1 ([(S28.mk 0 0 2 2)] : List S28) (ByteArray.mk #[120])) (S142.mk (ByteArray.mk #[112]) 1 1)) (fun x5 => ?_)
  refine se (mkE [(1, I x1.1), (2, I x1.2), (3, .own 176 0), (4, I x2.2), (5, I x3.1), (6, I x3.2), (7, I x4.1), (8, I x4.2), (10, B x5.1), (11, I x5.2)] [(176, RR 93 2 a92 x2.1 0 false)] 75) ?_
  refine pN ?_
  refine pS ?_
  refine gS 0 ?_
  refine gR 7 (rg Tryz.f26 7) ?_
  refine sg 6 (mkE [(52, .own 416 0), (51, I x5.2), (50, I x4.2), (49, I x3.2), (48, I x2.2), (47, I x1.2), (1, I x1.1), (2, I x1.2), (3, .own 176 0), (4, I x2.2), (5, I x3.1), (6, I x3.2), (7, I x4.1), (8, I x4.2), (10, B x5.1), (11, I x5.2)] [(416, RR 31 1 I ([x1.2, x2.2, x3.2, x4.2, x5.2] : List Int) 0 false), (176, RR 93 2 a92 x2.1 0 false)] 75) ?_
  refine co 53 [416] (h22 ([x1.2, x2.2, x3.2, x4.2, x5.2] : List Int)) (fun x6 => ?_)
  refine sg 9 (mkE [(55, B (eqI x6 0)), (54, B (eqI x6 0)), (53, I x6), (52, .own 416 0), (51, I x5.2), (50, I x4.2), (49, I x3.2), (48, I x2.2), (47, I x1.2), (1, I x1.1), (2, I x1.2), (3, .own 176 0), (4, I x2.2), (5, I x3.1), (6, I x3.2), (7, I x4.1), (8, I x4.2), (10, B x5.1), (11, I x5.2)] [(416, RR 31 1 I ([x1.2, x2.2, x3.2, x4.2, x5.2] : List Int) 0 false), (176, RR 93 2 a92 x2.1 0 false)] 75) ?_
  refine sb 55 (eqI x6 0) ?_ ?_
  · refine sg 13 (mkE [(59, B (eqI x1.1 7)), (58, B (eqI x1.1 7)), (57, B (eqI x1.1 7)), (56, I x1.1), (55, B true), (55, B (eqI x6 0)), (54, B (eqI x6 0)), (53, I x6), (52, .own 416 0), (51, I x5.2), (50, I x4.2), (49, I x3.2), (48, I x2.2), (47, I x1.2), (1, I x1.1), (2, I x1.2), (3, .own 176 0), (4, I x2.2), (5, I x3.1), (6, I x3.2), (7, I x4.1), (8, I x4.2), (10, B x5.1), (11, I x5.2)] [(416, RR 31 1 I ([x1.2, x2.2, x3.2, x4.2, x5.2] : List Int) 0 false), (176, RR 93 2 a92 x2.1 0 false)] 75) ?_
    refine sb 59 (eqI x1.1 7) ?_ ?_
    · refine sg 14 (mkE [(60, .own 176 0), (59, B true), (59, B (eqI x1.1 7)), (58, B (eqI x1.1 7)), (57, B (eqI x1.1 7)), (56, I x1.1), (55, B true), (55, B (eqI x6 0)), (54, B (eqI x6 0)), (53, I x6), (52, .own 416 0), (51, I x5.2), (50, I x4.2), (49, I x3.2), (48, I x2.2), (47, I x1.2), (1, I x1.1), (2, I x1.2), (3, .own 176 0), (4, I x2.2), (5, I x3.1), (6, I x3.2), (7, I x4.1), (8, I x4.2), (10, B x5.1), (11, I x5.2)] [(416, RR 31 1 I ([x1.2, x2.2, x3.2, x4.2, x5.2] : List Int) 0 false), (176, RR 93 2 a92 x2.1 0 false)] 75) ?_
      refine eo 61 (I (lenL x2.1)) (lenOE 108 93 2 a92 x2.1) ?_
      refine sg 18 (mkE [(64, B (eqI (lenL x2.1) 1)), (63, B (eqI (lenL x2.1) 1)), (62, B (eqI (lenL x2.1) 1)), (61, I (lenL x2.1)), (60, .own 176 0), (59, B true), (59, B (eqI x1.1 7)), (58, B (eqI x1.1 7)), (57, B (eqI x1.1 7)), (56, I x1.1), (55, B true), (55, B (eqI x6 0)), (54, B (eqI x6 0)), (53, I x6), (52, .own 416 0), (51, I x5.2), (50, I x4.2), (49, I x3.2), (48, I x2.2), (47, I x1.2), (1, I x1.1), (2, I x1.2), (3, .own 176 0), (4, I x2.2), (5, I x3.1), (6, I x3.2), (7, I x4.1), (8, I x4.2), (10, B x5.1), (11, I x5.2)] [(416, RR 31 1 I ([x1.2, x2.2, x3.2, x4.2, x5.2] : List Int) 0 false), (176, RR 93 2 a92 x2.1 0 false)] 75) ?_
      refine sb 64 (eqI (lenL x2.1) 1) ?_ ?_
      · refine sg 22 (mkE [(68, B (eqI x3.1 5)), (67, B (eqI x3.1 5)), (66, B (eqI x3.1 5)), (65, I x3.1), (64, B true), (64, B (eqI (lenL x2.1) 1)), (63, B (eqI (lenL x2.1) 1)), (62, B (eqI (lenL x2.1) 1)), (61, I (lenL x2.1)), (60, .own 176 0), (59, B true), (59, B (eqI x1.1 7)), (58, B (eqI x1.1 7)), (57, B (eqI x1.1 7)), (56, I x1.1), (55, B true), (55, B (eqI x6 0)), (54, B (eqI x6 0)), (53, I x6), (52, .own 416 0), (51, I x5.2), (50, I x4.2), (49, I x3.2), (48, I x2.2), (47, I x1.2), (1, I x1.1), (2, I x1.2), (3, .own 176 0), (4, I x2.2), (5, I x3.1), (6, I x3.2), (7, I x4.1), (8, I x4.2), (10, B x5.1), (11, I x5.2)] [(416, RR 31 1 I ([x1.2, x2.2, x3.2, x4.2, x5.2] : List Int) 0 false), (176, RR 93 2 a92 x2.1 0 false)] 75) ?_
        refine sb 68 (eqI x3.1 5) ?_ ?_
        · refine sg 26 (mkE [(72, B (eqI x4.1 500)), (71, B (eqI x4.1 500)), (70, B (eqI x4.1 500)), (69, I x4.1), (68, B true), (68, B (eqI x3.1 5)), (67, B (eqI x3.1 5)), (66, B (eqI x3.1 5)), (65, I x3.1), (64, B true), (64, B (eqI (lenL x2.1) 1)), (63, B (eqI (lenL x2.1) 1)), (62, B (eqI (lenL x2.1) 1)), (61, I (lenL x2.1)), (60, .own 176 0), (59, B true), (59, B (eqI x1.1 7)), (58, B (eqI x1.1 7)), (57, B (eqI x1.1 7)), (56, I x1.1), (55, B true), (55, B (eqI x6 0)), (54, B (eqI x6 0)), (53, I x6), (52, .own 416 0), (51, I x5.2), (50, I x4.2), (49, I x3.2), (48, I x2.2), (47, I x1.2), (1, I x1.1), (2, I x1.2), (3, .own 176 0), (4, I x2.2), (5, I x3.1), (6, I x3.2), (7, I x4.1), (8, I x4.2), (10, B x5.1), (11, I x5.2)] [(416, RR 31 1 I ([x1.2, x2.2, x3.2, x4.2, x5.2] : List Int) 0 false), (176, RR 93 2 a92 x2.1 0 false)] 75) ?_
          refine sb 72 (eqI x4.1 500) ?_ ?_
          · refine se (mkE [(0, B x5.1)] [] 75) ?_
            refine pN ?_
            refine pS ?_
            refine gE ?_
            exact pL
          · refine se (mkE [(0, B false)] [] 75) ?_
            refine pN ?_
            refine pS ?_
            refine gE ?_
            exact pL
        · refine se (mkE [(0, B false)] [] 75) ?_
          refine pN ?_
          refine pS ?_
          refine gE ?_
          exact pL
      · refine se (mkE [(0, B false)] [] 75) ?_
        refine pN ?_
        refine pS ?_
        refine gE ?_
        exact pL
    · refine se (mkE [(0, B false)] [] 75) ?_
      refine pN ?_
      refine pS ?_
      refine gE ?_
      exact pL
  · refine se (mkE [(0, B false)] [] 75) ?_
    refine pN ?_
    refine pS ?_
    refine gE ?_
    exact pL
theorem F26 (m : Nat) (hm : 10 ≤ m) : callA Tryz.prog cfg m 26 [] = (T26).map B := by
  obtain ⟨q, rfl⟩ : ∃ q, m = q + 1 := ⟨m - 1, by omega⟩
  exact (callA_body (fn := Tryz.f26) (c := body_ Tryz.f26) q _ (by kernel_rfl) (by kernel_rfl) (by kernel_rfl)).trans (B26 _ (fun p0 => F20 q (by omega) p0) (fun p0 => F22 q (by omega) p0) (fun p0 p1 p2 => F42 q (by omega) p0 p1 p2) (fun p0 p1 => F45 q (by omega) p0 p1) (fun p0 p1 p2 => F67 q (by omega) p0 p1 p2) (fun p0 p1 => F68 q (by omega) p0 p1))

noncomputable def T102 (p0 : Int) (p1 : Int) : Option Int := (bif (ltI p1 1) then (some 0) else ((remO .i64 p0 p1).bind fun x1 => (bif (ltI x1 0) then (some (addI .i64 x1 p1)) else (some x1))))
theorem B102 (C : Callee) (p0 : Int) (p1 : Int) : runs Tryz.prog C (cfg.fn 102) (finFn Tryz.prog (cfg.fn 102).byval Tryz.f102) [] (execA Tryz.prog C (cfg.fn 102) (nr Tryz.f102 []) (frame0 [I p0, I p1] 16 false)) = (T102 p0 p1).map I := by
  unfold T102
  refine gS 1 ?_
  refine gR 0 (rg Tryz.f102 0) ?_
  refine se (mkE [(0, I p0), (1, I p1)] [] 16) ?_
  refine pN ?_
  refine pS ?_
  refine gS 3 ?_
  refine gS 0 ?_
  refine gR 1 (rg Tryz.f102 1) ?_
  refine se (mkE [(0, I p0), (1, I p1), (6, B (ltI p1 1))] [] 16) ?_
  refine pN ?_
  refine pS ?_
  refine gC 6 (ltI p1 1) ?_ ?_
  · refine gS 0 ?_
    refine gR 2 (rg Tryz.f102 2) ?_
    refine se (mkE [(4, I 0)] [] 16) ?_
    refine pN ?_
    refine pS ?_
    refine gE ?_
    exact pL
  · refine gK ?_
    refine pN ?_
    refine pS ?_
    refine gS 4 ?_
    refine gR 3 (rg Tryz.f102 3) ?_
    refine sg 2 (mkE [(8, I p1), (7, I p0), (0, I p0), (1, I p1), (6, B (ltI p1 1))] [] 16) ?_
    refine vo 9 (remE 3 .i64 (.tmp 7) (.tmp 8) p0 p1) (fun x1 => ?_)
    refine se (mkE [(0, I x1), (1, I p1)] [] 16) ?_
    refine pN ?_
    refine pS ?_
    refine gS 6 ?_
    refine gS 0 ?_
    refine gR 4 (rg Tryz.f102 4) ?_
    refine se (mkE [(0, I x1), (1, I p1), (11, B (ltI x1 0))] [] 16) ?_
    refine pN ?_
    refine pS ?_
    refine gC 11 (ltI x1 0) ?_ ?_
    · refine gR 5 (rg Tryz.f102 5) ?_
      refine se (mkE [(0, I (addI .i64 x1 p1))] [] 16) ?_
      refine pN ?_
      refine pS ?_
      refine gS 0 ?_
      refine gR 6 (rg Tryz.f102 6) ?_
      refine se (mkE [(4, I (addI .i64 x1 p1))] [] 16) ?_
      refine pN ?_
      refine pS ?_
      refine gE ?_
      exact pL
    · refine gK ?_
      refine pN ?_
      refine pS ?_
      refine gS 0 ?_
      refine gR 6 (rg Tryz.f102 6) ?_
      refine se (mkE [(4, I x1)] [] 16) ?_
      refine pN ?_
      refine pS ?_
      refine gE ?_
      exact pL
theorem F102 (m : Nat) (hm : 1 ≤ m) (p0 : Int) (p1 : Int) : callA Tryz.prog cfg m 102 [I p0, I p1] = (T102 p0 p1).map I := by
  obtain ⟨q, rfl⟩ : ∃ q, m = q + 1 := ⟨m - 1, by omega⟩
  exact (callA_body (fn := Tryz.f102) (c := body_ Tryz.f102) q _ (by kernel_rfl) (by kernel_rfl) (by kernel_rfl)).trans (B102 _ p0 p1)

noncomputable def T57 (p0_c0 : (List Int)) (p0_c1 : Int) (p1 : Int) : Option (Int × (List Int) × Int) := (bif (eqI (lenL p0_c0) 0) then ((T102 (mulI .i64 (addI .i64 p0_c1 1) 7919) p1).bind fun x1 => (some (x1, p0_c0, (addI .i64 p0_c1 1)))) else ((remO .i64 (subI .i64 (addI .i64 p0_c1 1) 1) (lenL p0_c0)).bind fun x2 => ((quoO .i64 (subI .i64 (addI .i64 p0_c1 1) 1) (lenL p0_c0)).bind fun x3 => ((listAt p0_c0 x2).bind fun x4 => ((T102 x4 1073741824).bind fun x5 => ((T102 (addI .i64 x5 (mulI .i64 x3 (addI .i64 7919 x2))) p1).bind fun x6 => (some (x6, p0_c0, (addI .i64 p0_c1 1)))))))))
theorem B57 (C : Callee) (h102 : ∀ (p0 : Int) (p1 : Int), C 102 [I p0, I p1] = (T102 p0 p1).map I) (p0_c0 : (List Int)) (p0_c1 : Int) (p1 : Int) : runs Tryz.prog C (cfg.fn 57) (finFnI Tryz.prog Tryz.f57) [] (execA Tryz.prog C (cfg.fn 57) (nr Tryz.f57 []) (frame0 [.fb [LL I p0_c0, I p0_c1], I p1] 64 true)) = (T57 p0_c0 p0_c1 p1).map (fun (r : (Int × (List Int) × Int)) => AV.inp (I r.1) (.fb [LL I r.2.1, I r.2.2])) := by
  unfold T57
  let d_0 : List (Option Nat × REff) := [(some 27, qe (.ba 0 0)), (some 28, qe (.ba 0 0)), (some 29, qe (.ba 0 1)), (some 30, qe (I (addI .i64 p0_c1 1))), (some 31, qe (I (subI .i64 (addI .i64 p0_c1 1) 1))), (some 32, qe (.ba 0 0)), (some 33, qe (.ba 0 0)), (some 34, qe (.ba 0 0)), (some 35, qe (LL I p0_c0))]
  let d_1 : List (Option Nat × REff) := [(some 38, qe (.ba 0 0)), (some 39, qe (.ba 0 0)), (some 40, qe (.ba 0 1)), (some 41, qe (I (addI .i64 p0_c1 1))), (some 42, qe (I (subI .i64 (addI .i64 p0_c1 1) 1))), (some 43, qe (.ba 0 0)), (some 44, qe (.ba 0 0)), (some 45, qe (.ba 0 0)), (some 46, qe (LL I p0_c0))]
  let s_0 : List (Nat × AV) := [(36, I (lenL p0_c0)), (35, LL I p0_c0), (34, .ba 0 0), (33, .ba 0 0), (32, .ba 0 0), (31, I (subI .i64 (addI .i64 p0_c1 1) 1)), (30, I (addI .i64 p0_c1 1)), (29, .ba 0 1), (28, .ba 0 0), (27, .ba 0 0), (0, .ba 0 0), (1, I p1), (19, B (eqI (lenL p0_c0) 0))]
  let s_1 : List (Nat × AV) := [(47, I (lenL p0_c0)), (46, LL I p0_c0), (45, .ba 0 0), (44, .ba 0 0), (43, .ba 0 0), (42, I (subI .i64 (addI .i64 p0_c1 1) 1)), (41, I (addI .i64 p0_c1 1)), (40, .ba 0 1), (39, .ba 0 0), (38, .ba 0 0), (0, .ba 0 0), (1, I p1)]
  let s_2 : List (Nat × AV) := [(0, .ba 0 0), (1, I p1)]
  let o_0 : List (Nat × AObj) := [(0, .box [LL I p0_c0, I (addI .i64 p0_c1 1)] false)]
  refine gS 1 ?_
  refine gR 0 (rg Tryz.f57 0) ?_
  refine se (mkE s_2 [(0, .box [LL I p0_c0, I p0_c1] false)] ⟨64, true⟩) ?_
  refine pN ?_
  refine pS ?_
  refine gS 2 ?_
  refine gR 1 (rg Tryz.f57 1) ?_
  refine se (mkE s_2 o_0 ⟨64, true⟩) ?_
  refine pN ?_
  refine pS ?_
  refine gS 4 ?_
  refine gS 0 ?_
  refine gR 2 (rg Tryz.f57 2) ?_
  refine sg 4 (mkE ((17, LL I p0_c0) :: ((16, .ba 0 0) :: ((15, .ba 0 0) :: ((14, .ba 0 0) :: s_2)))) o_0 ⟨64, true⟩) ?_
  refine eo 18 (I (lenL p0_c0)) (lenE 22 I p0_c0) ?_
  refine se (mkE (s_2.append [(19, B (eqI (lenL p0_c0) 0))]) o_0 ⟨64, true⟩) ?_
  refine pN ?_
  refine pS ?_
  refine gC 19 (eqI (lenL p0_c0) 0) ?_ ?_
  · refine gS 0 ?_
    refine gR 3 (rg Tryz.f57 3) ?_
    refine sg 6 (mkE ((25, I p1) :: ((24, I (mulI .i64 (addI .i64 p0_c1 1) 7919)) :: ((23, I (addI .i64 p0_c1 1)) :: ((22, .ba 0 1) :: ((21, .ba 0 0) :: ((20, .ba 0 0) :: (s_2.append [(19, B (eqI (lenL p0_c0) 0))]))))))) o_0 ⟨64, true⟩) ?_
    refine co 26 [] (h102 (mulI .i64 (addI .i64 p0_c1 1) 7919) p1) (fun x1 => ?_)
    refine se (mkE [(0, .ba 0 0), (4, I x1)] o_0 ⟨64, true⟩) ?_
    refine pN ?_
    refine pS ?_
    refine gE ?_
    exact pL
  · refine gK ?_
    refine pN ?_
    refine pS ?_
    refine gS 5 ?_
    refine gD 4 12 (rg Tryz.f57 4) [0, 1, 2, 3, 4, 5, 6, 7, 8, 9, 10, 11] ?_
    refine dg 9 d_0 ?_
    refine df 36 (I (lenL p0_c0)) (mkE ((35, LL I p0_c0) :: ((34, .ba 0 0) :: ((33, .ba 0 0) :: ((32, .ba 0 0) :: (s_2.append [(19, B (eqI (lenL p0_c0) 0))]))))) o_0 ⟨64, true⟩) (lenE 22 I p0_c0) ?_
    refine dv 37 (mkE s_0 o_0 ⟨64, true⟩) (remE 3 .i64 (.tmp 31) (.tmp 36) (subI .i64 (addI .i64 p0_c1 1) 1) (lenL p0_c0)) (fun x2 => ?_)
    refine dg 12 (d_0.append ((some 36, qe (I (lenL p0_c0))) :: ((some 37, qe (I x2)) :: [(some 5, qe (I x2))]))) ?_
    refine de (mkE ((5, I x2) :: ((37, I x2) :: s_0)) o_0 ⟨64, true⟩) ?_
    refine se (mkE (s_2.append [(5, I x2)]) o_0 ⟨64, true⟩) ?_
    refine pN ?_
    refine pS ?_
    refine gS 6 ?_
    refine gD 5 12 (rg Tryz.f57 5) [0, 1, 2, 3, 4, 5, 6, 7, 8, 9, 10, 11] ?_
    refine dg 9 d_1 ?_
    refine df 47 (I (lenL p0_c0)) (mkE ((46, LL I p0_c0) :: ((45, .ba 0 0) :: ((44, .ba 0 0) :: ((43, .ba 0 0) :: (s_2.append [(5, I x2)]))))) o_0 ⟨64, true⟩) (lenE 22 I p0_c0) ?_
    refine dv 48 (mkE (s_1.append [(5, I x2)]) o_0 ⟨64, true⟩) (quoE 3 .i64 (.tmp 42) (.tmp 47) (subI .i64 (addI .i64 p0_c1 1) 1) (lenL p0_c0)) (fun x3 => ?_)
    refine dg 12 (d_1.append ((some 47, qe (I (lenL p0_c0))) :: ((some 48, qe (I x3)) :: [(some 6, qe (I x3))]))) ?_
    refine de (mkE ((6, I x3) :: ((48, I x3) :: (s_1.append [(5, I x2)]))) o_0 ⟨64, true⟩) ?_
    refine se (mkE (s_2.append ((5, I x2) :: [(6, I x3)])) o_0 ⟨64, true⟩) ?_
    refine pN ?_
    refine pS ?_
    refine gS 0 ?_
    refine gR 6 (rg Tryz.f57 6) ?_
    refine sg 5 (mkE ((53, I x2) :: ((52, LL I p0_c0) :: ((51, .ba 0 0) :: ((50, .ba 0 0) :: ((49, .ba 0 0) :: (s_2.append ((5, I x2) :: [(6, I x3)]))))))) o_0 ⟨64, true⟩) ?_
    refine vo 54 (addrE 22 3 1 I .i64 p0_c0 x2) (fun x4 => ?_)
    refine sg 7 (mkE ((55, I x4) :: ((54, .ia [I x4] 0) :: ((53, I x2) :: ((52, LL I p0_c0) :: ((51, .ba 0 0) :: ((50, .ba 0 0) :: ((49, .ba 0 0) :: (s_2.append ((5, I x2) :: [(6, I x3)]))))))))) o_0 ⟨64, true⟩) ?_
    refine co 56 [] (h102 x4 1073741824) (fun x5 => ?_)
    refine sg 14 (mkE ((62, I p1) :: ((61, I (addI .i64 x5 (mulI .i64 x3 (addI .i64 7919 x2)))) :: ((60, I (mulI .i64 x3 (addI .i64 7919 x2))) :: ((59, I (addI .i64 7919 x2)) :: ((58, I x2) :: ((57, I x3) :: ((56, I x5) :: ((55, I x4) :: ((54, .ia [I x4] 0) :: ((53, I x2) :: ((52, LL I p0_c0) :: ((51, .ba 0 0) :: ((50, .ba 0 0) :: ((49, .ba 0 0) :: (s_2.append ((5, I x2) :: [(6, I x3)])))))))))))))))) o_0 ⟨64, true⟩) ?_
    refine co 63 [] (h102 (addI .i64 x5 (mulI .i64 x3 (addI .i64 7919 x2))) p1) (fun x6 => ?_)
    refine se (mkE [(0, .ba 0 0), (4, I x6)] o_0 ⟨64, true⟩) ?_
    refine pN ?_
    refine pS ?_
    refine gE ?_
    exact pL
theorem F57 (m : Nat) (hm : 2 ≤ m) (p0_c0 : (List Int)) (p0_c1 : Int) (p1 : Int) : callA Tryz.prog cfg m 57 [.fb [LL I p0_c0, I p0_c1], I p1] = (T57 p0_c0 p0_c1 p1).map (fun (r : (Int × (List Int) × Int)) => AV.inp (I r.1) (.fb [LL I r.2.1, I r.2.2])) := by
  obtain ⟨q, rfl⟩ : ∃ q, m = q + 1 := ⟨m - 1, by omega⟩
  exact (callA_bodyI (fn := Tryz.f57) (c := body_ Tryz.f57) q _ (by kernel_rfl) (by kernel_rfl) (by kernel_rfl)).trans (B57 _ (fun p0 p1 => F102 q (by omega) p0 p1) p0_c0 p0_c1 p1)

noncomputable def T14 (p0_c0 : (List Int)) (p0_c1 : Int) (p1 : Int) (p2 : Int) : Option (Int × (List Int) × Int) := (bif (ltI p2 p1) then (some (p1, p0_c0, p0_c1)) else ((T57 p0_c0 p0_c1 (addI .i64 (subI .i64 p2 p1) 1)).bind fun x1 => (some ((addI .i64 p1 x1.1), x1.2.1, x1.2.2))))
theorem B14 (C : Callee) (h57 : ∀ (p0_c0 : (List Int)) (p0_c1 : Int) (p1 : Int), C 57 [.fb [LL I p0_c0, I p0_c1], I p1] = (T57 p0_c0 p0_c1 p1).map (fun (r : (Int × (List Int) × Int)) => AV.inp (I r.1) (.fb [LL I r.2.1, I r.2.2]))) (p0_c0 : (List Int)) (p0_c1 : Int) (p1 : Int) (p2 : Int) : runs Tryz.prog C (cfg.fn 14) (finFnI Tryz.prog Tryz.f14) [] (execA Tryz.prog C (cfg.fn 14) (nr Tryz.f14 []) (frame0 [.fb [LL I p0_c0, I p0_c1], I p1, I p2] 19 true)) = (T14 p0_c0 p0_c1 p1 p2).map (fun (r : (Int × (List Int) × Int)) => AV.inp (I r.1) (.fb [LL I r.2.1, I r.2.2])) := by
  unfold T14
  refine gS 1 ?_
  refine gR 0 (rg Tryz.f14 0) ?_
  refine se (mkE [(0, .ba 0 0), (1, I p1), (2, I p2)] [(0, .box [LL I p0_c0, I p0_c1] false)] ⟨19, true⟩) ?_
  refine pN ?_
  refine pS ?_
  refine gS 3 ?_
  refine gS 0 ?_
  refine gR 1 (rg Tryz.f14 1) ?_
  refine se (mkE [(0, .ba 0 0), (1, I p1), (2, I p2), (9, B (ltI p2 p1))] [(0, .box [LL I p0_c0, I p0_c1] false)] ⟨19, true⟩) ?_
  refine pN ?_
  refine pS ?_
  refine gC 9 (ltI p2 p1) ?_ ?_
  · refine gS 0 ?_
    refine gR 2 (rg Tryz.f14 2) ?_
    refine se (mkE [(0, .ba 0 0), (6, I p1)] [(0, .box [LL I p0_c0, I p0_c1] false)] ⟨19, true⟩) ?_
    refine pN ?_
    refine pS ?_
    refine gE ?_
    exact pL
  · refine gK ?_
    refine pN ?_
    refine pS ?_
    refine gS 0 ?_
    refine gR 3 (rg Tryz.f14 3) ?_
    refine sg 6 (mkE [(16, I (addI .i64 (subI .i64 p2 p1) 1)), (15, I (subI .i64 p2 p1)), (14, I p1), (13, I p2), (12, .ba 0 0), (11, I p1), (0, .ba 0 0), (1, I p1), (2, I p2), (9, B (ltI p2 p1))] [(0, .box [LL I p0_c0, I p0_c1] false)] ⟨19, true⟩) ?_
    refine mo (some 17) (ipB 57 0 [LL I p0_c0, I p0_c1] [LL I p0_c0, I p0_c1] [I (addI .i64 (subI .i64 p2 p1) 1)] [I (addI .i64 (subI .i64 p2 p1) 1)] [] (fun x : (Int × (List Int) × Int) => I x.1) (fun x : (Int × (List Int) × Int) => [LL I x.2.1, I x.2.2]) (h57 p0_c0 p0_c1 (addI .i64 (subI .i64 p2 p1) 1))) (fun x1 => ?_)
    refine se (mkE [(0, .ba 0 0), (6, I (addI .i64 p1 x1.1))] [(0, .box [LL I x1.2.1, I x1.2.2] false)] ⟨19, true⟩) ?_
    refine pN ?_
    refine pS ?_
    refine gE ?_
    exact pL
theorem F14 (m : Nat) (hm : 3 ≤ m) (p0_c0 : (List Int)) (p0_c1 : Int) (p1 : Int) (p2 : Int) : callA Tryz.prog cfg m 14 [.fb [LL I p0_c0, I p0_c1], I p1, I p2] = (T14 p0_c0 p0_c1 p1 p2).map (fun (r : (Int × (List Int) × Int)) => AV.inp (I r.1) (.fb [LL I r.2.1, I r.2.2])) := by
  obtain ⟨q, rfl⟩ : ∃ q, m = q + 1 := ⟨m - 1, by omega⟩
  exact (callA_bodyI (fn := Tryz.f14) (c := body_ Tryz.f14) q _ (by kernel_rfl) (by kernel_rfl) (by kernel_rfl)).trans (B14 _ (fun p0_c0 p0_c1 p1 => F57 q (by omega) p0_c0 p0_c1 p1) p0_c0 p0_c1 p1 p2)

noncomputable def T69 (p0 : Int) : Option Bool := ((T70 p0 1 20000).bind fun x1 => (some (!x1)))
theorem B69 (C : Callee) (h70 : ∀ (p0 : Int) (p1 : Int) (p2 : Int), C 70 [I p0, I p1, I p2] = (T70 p0 p1 p2).map B) (p0 : Int) : runs Tryz.prog C (cfg.fn 69) (finFn Tryz.prog (cfg.fn 69).byval Tryz.f69) [] (execA Tryz.prog C (cfg.fn 69) (nr Tryz.f69 []) (frame0 [I p0] 6 false)) = (T69 p0).map B := by
  unfold T69
  refine gS 1 ?_
  refine gR 0 (rg Tryz.f69 0) ?_
  refine se (mkE [(0, I p0)] [] 6) ?_
  refine pN ?_
  refine pS ?_
  refine gS 0 ?_
  refine gR 1 (rg Tryz.f69 1) ?_
  refine sg 1 (mkE [(3, I p0), (0, I p0)] [] 6) ?_
  refine co 4 [] (h70 p0 1 20000) (fun x1 => ?_)
  refine se (mkE [(2, B (!x1))] [] 6) ?_
  refine pN ?_
  refine pS ?_
  refine gE ?_
  exact pL
theorem F69 (m : Nat) (hm : 2 ≤ m) (p0 : Int) : callA Tryz.prog cfg m 69 [I p0] = (T69 p0).map B := by
  obtain ⟨q, rfl⟩ : ∃ q, m = q + 1 := ⟨m - 1, by omega⟩
  exact (callA_body (fn := Tryz.f69) (c := body_ Tryz.f69) q _ (by kernel_rfl) (by kernel_rfl) (by kernel_rfl)).trans (B69 _ (fun p0 p1 p2 => F70 q (by omega) p0 p1 p2) p0)

noncomputable def T71 (p0 : S28) (p1 : Int) (p2 : Int) : Option Bool := (bif (leI 0 p0.f0) then (bif (leI 0 p0.f1) then (bif (leI (addI .i64 p0.f0 p0.f2) p1) then (some (leI (addI .i64 p0.f1 p0.f3) p2)) else (some false)) else (some false)) else (some false))
theorem B71 (C : Callee) (p0 : S28) (p1 : Int) (p2 : Int) : runs Tryz.prog C (cfg.fn 71) (finFn Tryz.prog (cfg.fn 71).byval Tryz.f71) [] (execA Tryz.prog C (cfg.fn 71) (nr Tryz.f71 []) (frame0 [a28 p0, I p1, I p2] 33 false)) = (T71 p0 p1 p2).map B := by
  unfold T71
  let s_0 : List (Nat × AV) := [(15, B (leI 0 p0.f1)), (14, B (leI 0 p0.f1)), (13, B (leI 0 p0.f1)), (12, I p0.f1), (11, .ba 24 1), (10, B true), (10, B (leI 0 p0.f0)), (9, B (leI 0 p0.f0)), (8, I p0.f0), (7, .ba 24 0), (1, I p1), (2, I p2), (3, .ba 24 0)]
  let o_0 : List (Nat × AObj) := [(24, .box [I p0.f0, I p0.f1, I p0.f2, I p0.f3] false)]
  refine gS 1 ?_
  refine gR 0 (rg Tryz.f71 0) ?_
  refine se (mkE [(1, I p1), (2, I p2), (3, .ba 24 0)] o_0 33) ?_
  refine pN ?_
  refine pS ?_
  refine gS 0 ?_
  refine gR 1 (rg Tryz.f71 1) ?_
  refine sg 4 (mkE [(10, B (leI 0 p0.f0)), (9, B (leI 0 p0.f0)), (8, I p0.f0), (7, .ba 24 0), (1, I p1), (2, I p2), (3, .ba 24 0)] o_0 33) ?_
  refine sb 10 (leI 0 p0.f0) ?_ ?_
  · refine sg 9 (mkE s_0 o_0 33) ?_
    refine sb 15 (leI 0 p0.f1) ?_ ?_
    · refine sg 18 (mkE ((24, B (leI (addI .i64 p0.f0 p0.f2) p1)) :: ((23, B (leI (addI .i64 p0.f0 p0.f2) p1)) :: ((22, B (leI (addI .i64 p0.f0 p0.f2) p1)) :: ((21, I p1) :: ((20, I (addI .i64 p0.f0 p0.f2)) :: ((19, I p0.f2) :: ((18, .ba 24 2) :: ((17, I p0.f0) :: ((16, .ba 24 0) :: ((15, B true) :: s_0)))))))))) o_0 33) ?_
      refine sb 24 (leI (addI .i64 p0.f0 p0.f2) p1) ?_ ?_
      · refine se (mkE [(6, B (leI (addI .i64 p0.f1 p0.f3) p2))] [] 33) ?_
        refine pN ?_
        refine pS ?_
        refine gE ?_
        exact pL
      · refine se (mkE [(6, B false)] [] 33) ?_
        refine pN ?_
        refine pS ?_
        refine gE ?_
        exact pL
    · refine se (mkE [(6, B false)] [] 33) ?_
      refine pN ?_
      refine pS ?_
      refine gE ?_
      exact pL
  · refine se (mkE [(6, B false)] [] 33) ?_
    refine pN ?_
    refine pS ?_
    refine gE ?_
    exact pL
theorem F71 (m : Nat) (hm : 1 ≤ m) (p0 : S28) (p1 : Int) (p2 : Int) : callA Tryz.prog cfg m 71 [a28 p0, I p1, I p2] = (T71 p0 p1 p2).map B := by
  obtain ⟨q, rfl⟩ : ∃ q, m = q + 1 := ⟨m - 1, by omega⟩
  exact (callA_body (fn := Tryz.f71) (c := body_ Tryz.f71) q _ (by kernel_rfl) (by kernel_rfl) (by kernel_rfl)).trans (B71 _ p0 p1 p2)

noncomputable def L27_9 (p3 : Int) (z0 : (Int × Int × Int × Int × Int × Int × Int)) : Option ((Int × Int × Int × Int × Int × Int × Int) ⊕ (Int × Int × Int × Bool × Int × Int × Int × Int)) := (bif (ltI z0.2.2.2.2.2.2 p3) then (some (.inl (z0.2.1, z0.1, (subI .i64 (subI .i64 z0.2.1 z0.2.2.2.1) z0.2.2.2.2.2.1), z0.2.2.1, z0.2.2.2.2.2.1, z0.2.2.2.2.1, (addI .i64 z0.2.2.2.2.2.2 1)))) else (some (.inr (z0.1, z0.2.1, z0.2.2.2.2.2.2, (ltI z0.2.2.2.2.2.2 p3), z0.2.2.1, z0.2.2.2.1, z0.2.2.2.2.1, z0.2.2.2.2.2.1))))
theorem L27_9_ok (C : Callee) (p3 : Int) (z0 : (Int × Int × Int × Int × Int × Int × Int)) : runs Tryz.prog C (cfg.fn 27) (finLoop ((cfg.fn 27).keep 9) ((cfg.fn 27).al 9)) [] (execA Tryz.prog C (cfg.fn 27) (nr Tryz.f27 [false, false, true, false, true, true, true, true]) ((fun z0 : (Int × Int × Int × Int × Int × Int × Int) => (mkE [(1, I z0.1), (2, I z0.2.1), (4, .ba 32 0), (8, .ba 64 0), (36, I p3), (37, I z0.2.2.2.2.2.2)] [(32, .box [I z0.2.2.1, I z0.2.2.2.1, I z0.2.2.2.2.1, I z0.2.2.2.2.2.1] false), (64, .box [I 0, I 0, I 0, I 0] false)] 57)) z0)) = (L27_9 p3 z0).map (Sum.elim (fun z => .inl ((fun z0 : (Int × Int × Int × Int × Int × Int × Int) => (mkE [(1, I z0.1), (2, I z0.2.1), (4, .ba 32 0), (8, .ba 64 0), (36, I p3), (37, I z0.2.2.2.2.2.2)] [(32, .box [I z0.2.2.1, I z0.2.2.2.1, I z0.2.2.2.2.1, I z0.2.2.2.2.2.1] false), (64, .box [I 0, I 0, I 0, I 0] false)] 57)) z)) (fun x => .inr ((fun (x : (Int × Int × Int × Bool × Int × Int × Int × Int)) => (.exit 0, (mkE [(1, I x.1), (2, I x.2.1), (4, .ba 32 0), (8, .ba 64 0), (36, I p3), (37, I x.2.2.1), (38, B x.2.2.2.1)] [(32, .box [I x.2.2.2.2.1, I x.2.2.2.2.2.1, I x.2.2.2.2.2.2.1, I x.2.2.2.2.2.2.2] false), (64, .box [I 0, I 0, I 0, I 0] false)] 57))) x))) := by
  unfold L27_9
  let o_0 : List (Nat × AObj) := [(32, .box [I (subI .i64 (subI .i64 z0.2.1 z0.2.2.2.1) z0.2.2.2.2.2.1), I z0.2.2.1, I z0.2.2.2.2.2.1, I z0.2.2.2.2.1] false), (64, .box [I 0, I 0, I 0, I 0] false)]
  refine gS 0 ?_
  refine gR 9 (rg Tryz.f27 9) ?_
  refine se (mkE [(1, I z0.1), (2, I z0.2.1), (4, .ba 32 0), (8, .ba 64 0), (36, I p3), (37, I z0.2.2.2.2.2.2), (38, B (ltI z0.2.2.2.2.2.2 p3))] [(32, .box [I z0.2.2.1, I z0.2.2.2.1, I z0.2.2.2.2.1, I z0.2.2.2.2.2.1] false), (64, .box [I 0, I 0, I 0, I 0] false)] 57) ?_
  refine pN ?_
  refine pS ?_
  refine gS 10 ?_
  refine gC 38 (ltI z0.2.2.2.2.2.2 p3) ?_ ?_
  · refine gK ?_
    refine pN ?_
    refine pS ?_
    refine gS 12 ?_
    refine gB 1 ?_
    refine gS 11 ?_
    refine gR 10 (rg Tryz.f27 10) ?_
    refine se (mkE [(1, I z0.1), (2, I z0.2.1), (4, .ba 32 0), (8, .ba 64 0), (36, I p3), (37, I z0.2.2.2.2.2.2)] o_0 57) ?_
    refine pN ?_
    refine pS ?_
    refine gR 11 (rg Tryz.f27 11) ?_
    refine se (mkE [(1, I z0.2.1), (2, I z0.1), (4, .ba 32 0), (8, .ba 64 0), (36, I p3), (37, I z0.2.2.2.2.2.2)] o_0 57) ?_
    refine pB ?_
    refine pN ?_
    refine pS ?_
    refine gR 12 (rg Tryz.f27 12) ?_
    refine se (mkE [(1, I z0.2.1), (2, I z0.1), (4, .ba 32 0), (8, .ba 64 0), (36, I p3), (37, I (addI .i64 z0.2.2.2.2.2.2 1))] o_0 57) ?_
    exact pL
  · refine gX 0 ?_
    exact pL
noncomputable def T27 (p0 : S28) (p1 : Int) (p2 : Int) (p3 : Int) : Option (S28 × Int) := ((T63 p0).bind fun x1 => (bif (neI x1 0) then (some ((S28.mk 0 0 0 0), x1)) else ((T69 p1).bind fun x2 => (bif (!x2) then (some ((S28.mk 0 0 0 0), 1)) else ((T69 p2).bind fun x3 => (bif (!x3) then (some ((S28.mk 0 0 0 0), 1)) else ((T70 p3 0 3).bind fun x4 => (bif x4 then (some ((S28.mk 0 0 0 0), 1)) else ((T71 p0 p1 p2).bind fun x5 => (bif (!x5) then (some ((S28.mk 0 0 0 0), 3)) else ((iter (L27_9 p3) (p1, p2, p0.f0, p0.f1, p0.f2, p0.f3, 0)).bind fun y6 => (some ((S28.mk y6.2.2.2.2.1 y6.2.2.2.2.2.1 y6.2.2.2.2.2.2.1 y6.2.2.2.2.2.2.2), 0)))))))))))))
theorem B27 (C : Callee) (h63 : ∀ (p0 : S28), C 63 [a28 p0] = (T63 p0).map I) (h69 : ∀ (p0 : Int), C 69 [I p0] = (T69 p0).map B) (h70 : ∀ (p0 : Int) (p1 : Int) (p2 : Int), C 70 [I p0, I p1, I p2] = (T70 p0 p1 p2).map B) (h71 : ∀ (p0 : S28) (p1 : Int) (p2 : Int), C 71 [a28 p0, I p1, I p2] = (T71 p0 p1 p2).map B) (p0 : S28) (p1 : Int) (p2 : Int) (p3 : Int) : runs Tryz.prog C (cfg.fn 27) (finFn Tryz.prog (cfg.fn 27).byval Tryz.f27) [] (execA Tryz.prog C (cfg.fn 27) (nr Tryz.f27 []) (frame0 [a28 p0, I p1, I p2, I p3] 57 false)) = (T27 p0 p1 p2 p3).map (fun r => AV.tup [a28 r.1, I r.2]) := by
  unfold T27
  let s_0 : List (Nat × AV) := [(1, I p1), (2, I p2), (3, I p3), (4, .ba 32 0), (8, .ba 64 0)]
  let o_0 : List (Nat × AObj) := [(32, .box [I p0.f0, I p0.f1, I p0.f2, I p0.f3] false), (64, .box [I 0, I 0, I 0, I 0] false)]
  let o_1 : List (Nat × AObj) := [(64, .box [I 0, I 0, I 0, I 0] false)]
  refine gS 1 ?_
  refine gR 0 (rg Tryz.f27 0) ?_
  refine se (mkE s_0 o_0 57) ?_
  refine pN ?_
  refine pS ?_
  refine gS 4 ?_
  refine gS 2 ?_
  refine gR 1 (rg Tryz.f27 1) ?_
  refine sg 1 (mkE ((11, a28 p0) :: s_0) o_0 57) ?_
  refine co 12 [] (h63 p0) (fun x1 => ?_)
  refine se (mkE (s_0.append [(10, I x1)]) o_0 57) ?_
  refine pN ?_
  refine pS ?_
  refine gS 0 ?_
  refine gR 2 (rg Tryz.f27 2) ?_
  refine se (mkE (s_0.append ((10, I x1) :: [(14, B (neI x1 0))])) o_0 57) ?_
  refine pN ?_
  refine pS ?_
  refine gC 14 (neI x1 0) ?_ ?_
  · refine gS 0 ?_
    refine gR 3 (rg Tryz.f27 3) ?_
    refine se (mkE [(8, .ba 64 0), (9, I x1)] o_1 57) ?_
    refine pN ?_
    refine pS ?_
    refine gE ?_
    exact pL
  · refine gK ?_
    refine pN ?_
    refine pS ?_
    refine gS 6 ?_
    refine gS 0 ?_
    refine gR 4 (rg Tryz.f27 4) ?_
    refine sg 1 (mkE ((17, I p1) :: (s_0.append ((10, I x1) :: [(14, B (neI x1 0))]))) o_0 57) ?_
    refine co 18 [] (h69 p1) (fun x2 => ?_)
    refine sg 4 (mkE ((20, B (!x2)) :: ((19, B (!x2)) :: ((18, B x2) :: ((17, I p1) :: (s_0.append ((10, I x1) :: [(14, B (neI x1 0))])))))) o_0 57) ?_
    refine sb 20 (!x2) ?_ ?_
    · refine se (mkE (s_0.append [(28, B true)]) o_0 57) ?_
      refine pN ?_
      refine pS ?_
      refine gT (.tmp 28) ?_
      refine gS 0 ?_
      refine gR 5 (rg Tryz.f27 5) ?_
      refine se (mkE [(8, .ba 64 0), (9, I 1)] o_1 57) ?_
      refine pN ?_
      refine pS ?_
      refine gE ?_
      exact pL
    · refine sg 5 (mkE ((21, I p2) :: ((20, B false) :: ((20, B (!x2)) :: ((19, B (!x2)) :: ((18, B x2) :: ((17, I p1) :: (s_0.append ((10, I x1) :: [(14, B (neI x1 0))])))))))) o_0 57) ?_
      refine co 22 [] (h69 p2) (fun x3 => ?_)
      refine sg 9 (mkE ((25, B (!x3)) :: ((24, B (!x3)) :: ((23, B (!x3)) :: ((22, B x3) :: ((21, I p2) :: ((20, B false) :: ((20, B (!x2)) :: ((19, B (!x2)) :: ((18, B x2) :: ((17, I p1) :: (s_0.append ((10, I x1) :: [(14, B (neI x1 0))])))))))))))) o_0 57) ?_
      refine sb 25 (!x3) ?_ ?_
      · refine se (mkE (s_0.append [(28, B true)]) o_0 57) ?_
        refine pN ?_
        refine pS ?_
        refine gT (.tmp 28) ?_
        refine gS 0 ?_
        refine gR 5 (rg Tryz.f27 5) ?_
        refine se (mkE [(8, .ba 64 0), (9, I 1)] o_1 57) ?_
        refine pN ?_
        refine pS ?_
        refine gE ?_
        exact pL
      · refine sg 10 (mkE ((26, I p3) :: ((25, B false) :: ((25, B (!x3)) :: ((24, B (!x3)) :: ((23, B (!x3)) :: ((22, B x3) :: ((21, I p2) :: ((20, B false) :: ((20, B (!x2)) :: ((19, B (!x2)) :: ((18, B x2) :: ((17, I p1) :: (s_0.append ((10, I x1) :: [(14, B (neI x1 0))])))))))))))))) o_0 57) ?_
        refine co 27 [] (h70 p3 0 3) (fun x4 => ?_)
        refine se (mkE (s_0.append [(28, B x4)]) o_0 57) ?_
        refine pN ?_
        refine pS ?_
        refine gC 28 x4 ?_ ?_
        · refine gS 0 ?_
          refine gR 5 (rg Tryz.f27 5) ?_
          refine se (mkE [(8, .ba 64 0), (9, I 1)] o_1 57) ?_
          refine pN ?_
          refine pS ?_
          refine gE ?_
          exact pL
        · refine gK ?_
          refine pN ?_
          refine pS ?_
          refine gS 8 ?_
          refine gS 0 ?_
          refine gR 6 (rg Tryz.f27 6) ?_
          refine sg 3 (mkE ((32, I p2) :: ((31, I p1) :: ((30, a28 p0) :: (s_0.append [(28, B x4)])))) o_0 57) ?_
          refine co 33 [] (h71 p0 p1 p2) (fun x5 => ?_)
          refine se (mkE (s_0.append [(34, B (!x5))]) o_0 57) ?_
          refine pN ?_
          refine pS ?_
          refine gC 34 (!x5) ?_ ?_
          · refine gS 0 ?_
            refine gR 7 (rg Tryz.f27 7) ?_
            refine se (mkE [(8, .ba 64 0), (9, I 3)] o_1 57) ?_
            refine pN ?_
            refine pS ?_
            refine gE ?_
            exact pL
          · refine gK ?_
            refine pN ?_
            refine pS ?_
            refine gS 13 ?_
            refine gS 9 ?_
            refine gR 8 (rg Tryz.f27 8) ?_
            refine se (mkE [(1, I p1), (2, I p2), (4, .ba 32 0), (8, .ba 64 0), (36, I p3), (37, I 0)] o_0 57) ?_
            refine pN ?_
            refine pS ?_
            refine gB 0 ?_
            refine lo [(1, none), (2, none), (4, none), (8, none), (36, none), (37, none)] [] (L27_9 p3) (fun z0 : (Int × Int × Int × Int × Int × Int × Int) => (mkE [(1, I z0.1), (2, I z0.2.1), (4, .ba 32 0), (8, .ba 64 0), (36, I p3), (37, I z0.2.2.2.2.2.2)] ((32, .box [I z0.2.2.1, I z0.2.2.2.1, I z0.2.2.2.2.1, I z0.2.2.2.2.2.1] false) :: o_1) 57)) (fun (x : (Int × Int × Int × Bool × Int × Int × Int × Int)) => (.exit 0, (mkE [(1, I x.1), (2, I x.2.1), (4, .ba 32 0), (8, .ba 64 0), (36, I p3), (37, I x.2.2.1), (38, B x.2.2.2.1)] ((32, .box [I x.2.2.2.2.1, I x.2.2.2.2.2.1, I x.2.2.2.2.2.2.1, I x.2.2.2.2.2.2.2] false) :: o_1) 57))) (p1, p2, p0.f0, p0.f1, p0.f2, p0.f3, 0) (fun z => L27_9_ok C p3 z) ?_
            intro y6
            refine pH ?_
            refine pN ?_
            refine pS ?_
            refine gS 0 ?_
            refine gR 13 (rg Tryz.f27 13) ?_
            refine se (mkE [(8, .ba 64 0), (9, I 0)] [(64, .box [I y6.2.2.2.2.1, I y6.2.2.2.2.2.1, I y6.2.2.2.2.2.2.1, I y6.2.2.2.2.2.2.2] false)] 57) ?_
            refine pN ?_
            refine pS ?_
            refine gE ?_
            exact pL
theorem F27 (m : Nat) (hm : 3 ≤ m) (p0 : S28) (p1 : Int) (p2 : Int) (p3 : Int) : callA Tryz.prog cfg m 27 [a28 p0, I p1, I p2, I p3] = (T27 p0 p1 p2 p3).map (fun r => AV.tup [a28 r.1, I r.2]) := by
  obtain ⟨q, rfl⟩ : ∃ q, m = q + 1 := ⟨m - 1, by omega⟩
  exact (callA_body (fn := Tryz.f27) (c := body_ Tryz.f27) q _ (by kernel_rfl) (by kernel_rfl) (by kernel_rfl)).trans (B27 _ (fun p0 => F63 q (by omega) p0) (fun p0 => F69 q (by omega) p0) (fun p0 p1 p2 => F70 q (by omega) p0 p1 p2) (fun p0 p1 p2 => F71 q (by omega) p0 p1 p2) p0 p1 p2 p3)

noncomputable def L4_7 (x1 : (Int × (List Int) × Int)) (x2 : (Int × (List Int) × Int)) (x3 : (Int × (List Int) × Int)) (x4 : (Int × (List Int) × Int)) (x5 : (Int × (List Int) × Int)) (x6 : (Int × (List Int) × Int)) (z0 : (Int × Int × Int × Int × Int × Int × Int)) : Option ((Int × Int × Int × Int × Int × Int × Int) ⊕ ((Int × Int × Int × Bool × Int × Int × Int × Int) ⊕ Unit)) := (bif (ltI z0.2.2.2.2.2.2 4) then ((T27 (S28.mk x3.1 x4.1 x5.1 x6.1) x1.1 x2.1 z0.2.2.2.2.2.2).bind fun x7 => (bif (neI x7.2 0) then (some (.inr (.inr ()))) else (bif (!allB [eqI x7.1.f0 z0.1, eqI x7.1.f1 z0.2.1, eqI x7.1.f2 z0.2.2.1, eqI x7.1.f3 z0.2.2.2.1]) then (some (.inr (.inr ()))) else ((T27 (S28.mk z0.1 z0.2.1 z0.2.2.1 z0.2.2.2.1) z0.2.2.2.2.1 z0.2.2.2.2.2.1 1).bind fun x8 => (bif (neI x8.2 0) then (some (.inr (.inr ()))) else (bif (neI x8.1.f2 z0.2.2.2.1) then (some (.inr (.inr ()))) else (bif (neI x8.1.f3 z0.2.2.1) then (some (.inr (.inr ()))) else (some (.inl (x8.1.f0, x8.1.f1, x8.1.f2, x8.1.f3, z0.2.2.2.2.2.1, z0.2.2.2.2.1, (addI .i64 z0.2.2.2.2.2.2 1))))))))))) else (some (.inr (.inl (z0.2.2.2.2.1, z0.2.2.2.2.2.1, z0.2.2.2.2.2.2, (ltI z0.2.2.2.2.2.2 4), z0.1, z0.2.1, z0.2.2.1, z0.2.2.2.1)))))
theorem L4_7_ok (C : Callee) (h27 : ∀ (p0 : S28) (p1 : Int) (p2 : Int) (p3 : Int), C 27 [a28 p0, I p1, I p2, I p3] = (T27 p0 p1 p2 p3).map (fun r => AV.tup [a28 r.1, I r.2])) (x1 : (Int × (List Int) × Int)) (x2 : (Int × (List Int) × Int)) (x3 : (Int × (List Int) × Int)) (x4 : (Int × (List Int) × Int)) (x5 : (Int × (List Int) × Int)) (x6 : (Int × (List Int) × Int)) (z0 : (Int × Int × Int × Int × Int × Int × Int)) : runs Tryz.prog C (cfg.fn 4) (finLoop ((cfg.fn 4).keep 7) ((cfg.fn 4).al 7)) [] (execA Tryz.prog C (cfg.fn 4) (nr Tryz.f4 [false, false, true, false, true, true, true, true, true, true]) ((fun z0 : (Int × Int × Int × Int × Int × Int × Int) => (mkE [(4, I x1.1), (5, I x2.1), (6, .ba 48 0), (7, .ba 56 0), (8, I z0.2.2.2.2.1), (9, I z0.2.2.2.2.2.1), (48, I z0.2.2.2.2.2.2)] [(48, .box [I x3.1, I x4.1, I x5.1, I x6.1] false), (56, .box [I z0.1, I z0.2.1, I z0.2.2.1, I z0.2.2.2.1] false)] 99)) z0)) = (L4_7 x1 x2 x3 x4 x5 x6 z0).map (Sum.elim (fun z => .inl ((fun z0 : (Int × Int × Int × Int × Int × Int × Int) => (mkE [(4, I x1.1), (5, I x2.1), (6, .ba 48 0), (7, .ba 56 0), (8, I z0.2.2.2.2.1), (9, I z0.2.2.2.2.2.1), (48, I z0.2.2.2.2.2.2)] [(48, .box [I x3.1, I x4.1, I x5.1, I x6.1] false), (56, .box [I z0.1, I z0.2.1, I z0.2.2.1, I z0.2.2.2.1] false)] 99)) z)) (fun x => .inr ((Sum.elim (fun (x : (Int × Int × Int × Bool × Int × Int × Int × Int)) => (.exit 0, (mkE [(4, I x1.1), (5, I x2.1), (6, .ba 48 0), (7, .ba 56 0), (8, I x.1), (9, I x.2.1), (48, I x.2.2.1), (49, B x.2.2.2.1)] [(48, .box [I x3.1, I x4.1, I x5.1, I x6.1] false), (56, .box [I x.2.2.2.2.1, I x.2.2.2.2.2.1, I x.2.2.2.2.2.2.1, I x.2.2.2.2.2.2.2] false)] 99))) (fun (x : Unit) => (.ret, (mkE [(2, B false)] [] 99)))) x))) := by
  unfold L4_7
  let s_0 : List (Nat × AV) := [(4, I x1.1), (5, I x2.1), (6, .ba 48 0), (7, .ba 56 0), (8, I z0.2.2.2.2.1), (9, I z0.2.2.2.2.2.1)]
  let s_1 : List (Nat × AV) := [(48, I z0.2.2.2.2.2.2)]
  let o_0 : List (Nat × AObj) := [(48, .box [I x3.1, I x4.1, I x5.1, I x6.1] false), (56, .box [I z0.1, I z0.2.1, I z0.2.2.1, I z0.2.2.2.1] false)]
  refine gS 0 ?_
  refine gR 7 (rg Tryz.f4 7) ?_
  refine se (mkE (s_0.append (s_1.append [(49, B (ltI z0.2.2.2.2.2.2 4))])) o_0 99) ?_
  refine pN ?_
  refine pS ?_
  refine gS 8 ?_
  refine gC 49 (ltI z0.2.2.2.2.2.2 4) ?_ ?_
  · refine gK ?_
    refine pN ?_
    refine pS ?_
    refine gS 16 ?_
    refine gB 1 ?_
    refine gS 9 ?_
    refine gR 8 (rg Tryz.f4 8) ?_
    refine se (mkE (s_0.append ((10, I z0.2.2.2.2.2.2) :: s_1)) o_0 99) ?_
    refine pN ?_
    refine pS ?_
    refine gS 10 ?_
    refine gR 9 (rg Tryz.f4 9) ?_
    refine sg 4 (mkE ((55, I z0.2.2.2.2.2.2) :: ((54, I x2.1) :: ((53, I x1.1) :: ((52, .agg [I x3.1, I x4.1, I x5.1, I x6.1]) :: (s_0.append ((10, I z0.2.2.2.2.2.2) :: s_1)))))) o_0 99) ?_
    refine co 56 [] (h27 (S28.mk x3.1 x4.1 x5.1 x6.1) x1.1 x2.1 z0.2.2.2.2.2.2) (fun x7 => ?_)
    refine se (mkE (s_0.append ((11, .ba 88 0) :: ((12, I x7.2) :: s_1))) (o_0.append [(88, .box [I x7.1.f0, I x7.1.f1, I x7.1.f2, I x7.1.f3] false)]) 99) ?_
    refine pN ?_
    refine pS ?_
    refine gS 12 ?_
    refine gS 0 ?_
    refine gR 10 (rg Tryz.f4 10) ?_
    refine sg 3 (mkE ((61, B (neI x7.2 0)) :: ((60, B (neI x7.2 0)) :: ((59, I x7.2) :: (s_0.append ((11, .ba 88 0) :: ((12, I x7.2) :: s_1)))))) (o_0.append [(88, .box [I x7.1.f0, I x7.1.f1, I x7.1.f2, I x7.1.f3] false)]) 99) ?_
    refine sb 61 (neI x7.2 0) ?_ ?_
    · refine se (mkE (s_0.append (s_1.append [(65, B true)])) o_0 99) ?_
      refine pN ?_
      refine pS ?_
      refine gT (.tmp 65) ?_
      refine gS 0 ?_
      refine gR 11 (rg Tryz.f4 11) ?_
      refine se (mkE [(2, B false)] [] 99) ?_
      refine pN ?_
      refine pS ?_
      refine gE ?_
      exact pL
    · refine sg 5 (mkE ((63, .agg [I z0.1, I z0.2.1, I z0.2.2.1, I z0.2.2.2.1]) :: ((62, a28 x7.1) :: ((61, B false) :: ((61, B (neI x7.2 0)) :: ((60, B (neI x7.2 0)) :: ((59, I x7.2) :: (s_0.append ((11, .ba 88 0) :: ((12, I x7.2) :: s_1))))))))) (o_0.append [(88, .box [I x7.1.f0, I x7.1.f1, I x7.1.f2, I x7.1.f3] false)]) 99) ?_
      refine eo 64 (B (!allB [eqI x7.1.f0 z0.1, eqI x7.1.f1 z0.2.1, eqI x7.1.f2 z0.2.2.1, eqI x7.1.f3 z0.2.2.2.1])) (neqE 29 (.tmp 62) (.tmp 63) [I x7.1.f0, I x7.1.f1, I x7.1.f2, I x7.1.f3] [I z0.1, I z0.2.1, I z0.2.2.1, I z0.2.2.2.1] [.int .i64 x7.1.f0, .int .i64 x7.1.f1, .int .i64 x7.1.f2, .int .i64 x7.1.f3] [.int .i64 z0.1, .int .i64 z0.2.1, .int .i64 z0.2.2.1, .int .i64 z0.2.2.2.1] [eqI x7.1.f0 z0.1, eqI x7.1.f1 z0.2.1, eqI x7.1.f2 z0.2.2.1, eqI x7.1.f3 z0.2.2.2.1]) ?_
      refine se (mkE (s_0.append (s_1.append [(65, B (!allB [eqI x7.1.f0 z0.1, eqI x7.1.f1 z0.2.1, eqI x7.1.f2 z0.2.2.1, eqI x7.1.f3 z0.2.2.2.1]))])) o_0 99) ?_
      refine pN ?_
      refine pS ?_
      refine gC 65 (!allB [eqI x7.1.f0 z0.1, eqI x7.1.f1 z0.2.1, eqI x7.1.f2 z0.2.2.1, eqI x7.1.f3 z0.2.2.2.1]) ?_ ?_
      · refine gS 0 ?_
        refine gR 11 (rg Tryz.f4 11) ?_
        refine se (mkE [(2, B false)] [] 99) ?_
        refine pN ?_
        refine pS ?_
        refine gE ?_
        exact pL
      · refine gK ?_
        refine pN ?_
        refine pS ?_
        refine gS 13 ?_
        refine gR 12 (rg Tryz.f4 12) ?_
        refine sg 3 (mkE ((69, I z0.2.2.2.2.2.1) :: ((68, I z0.2.2.2.2.1) :: ((67, .agg [I z0.1, I z0.2.1, I z0.2.2.1, I z0.2.2.2.1]) :: (s_0.append (s_1.append [(65, B (!allB [eqI x7.1.f0 z0.1, eqI x7.1.f1 z0.2.1, eqI x7.1.f2 z0.2.2.1, eqI x7.1.f3 z0.2.2.2.1]))]))))) o_0 99) ?_
        refine co 70 [] (h27 (S28.mk z0.1 z0.2.1 z0.2.2.1 z0.2.2.2.1) z0.2.2.2.2.1 z0.2.2.2.2.2.1 1) (fun x8 => ?_)
        refine se (mkE (s_0.append ((13, .ba 104 0) :: ((14, I x8.2) :: s_1))) (o_0.append [(104, .box [I x8.1.f0, I x8.1.f1, I x8.1.f2, I x8.1.f3] false)]) 99) ?_
        refine pN ?_
        refine pS ?_
        refine gS 15 ?_
        refine gS 0 ?_
        refine gR 13 (rg Tryz.f4 13) ?_
        refine sg 3 (mkE ((75, B (neI x8.2 0)) :: ((74, B (neI x8.2 0)) :: ((73, I x8.2) :: (s_0.append ((13, .ba 104 0) :: ((14, I x8.2) :: s_1)))))) (o_0.append [(104, .box [I x8.1.f0, I x8.1.f1, I x8.1.f2, I x8.1.f3] false)]) 99) ?_
        refine sb 75 (neI x8.2 0) ?_ ?_
        · refine se (mkE (s_0.append ((13, .ba 104 0) :: (s_1.append [(88, B true)]))) (o_0.append [(104, .box [I x8.1.f0, I x8.1.f1, I x8.1.f2, I x8.1.f3] false)]) 99) ?_
          refine pN ?_
          refine pS ?_
          refine gT (.tmp 88) ?_
          refine gS 0 ?_
          refine gR 14 (rg Tryz.f4 14) ?_
          refine se (mkE [(2, B false)] [] 99) ?_
          refine pN ?_
          refine pS ?_
          refine gE ?_
          exact pL
        · refine sg 10 (mkE ((82, B (neI x8.1.f2 z0.2.2.2.1)) :: ((81, B (neI x8.1.f2 z0.2.2.2.1)) :: ((80, B (neI x8.1.f2 z0.2.2.2.1)) :: ((79, I z0.2.2.2.1) :: ((78, .ba 56 3) :: ((77, I x8.1.f2) :: ((76, .ba 104 2) :: ((75, B false) :: ((75, B (neI x8.2 0)) :: ((74, B (neI x8.2 0)) :: ((73, I x8.2) :: (s_0.append ((13, .ba 104 0) :: ((14, I x8.2) :: s_1)))))))))))))) (o_0.append [(104, .box [I x8.1.f0, I x8.1.f1, I x8.1.f2, I x8.1.f3] false)]) 99) ?_
          refine sb 82 (neI x8.1.f2 z0.2.2.2.1) ?_ ?_
          · refine se (mkE (s_0.append ((13, .ba 104 0) :: (s_1.append [(88, B true)]))) (o_0.append [(104, .box [I x8.1.f0, I x8.1.f1, I x8.1.f2, I x8.1.f3] false)]) 99) ?_
            refine pN ?_
            refine pS ?_
            refine gT (.tmp 88) ?_
            refine gS 0 ?_
            refine gR 14 (rg Tryz.f4 14) ?_
            refine se (mkE [(2, B false)] [] 99) ?_
            refine pN ?_
            refine pS ?_
            refine gE ?_
            exact pL
          · refine se (mkE (s_0.append ((13, .ba 104 0) :: (s_1.append [(88, B (neI x8.1.f3 z0.2.2.1))]))) (o_0.append [(104, .box [I x8.1.f0, I x8.1.f1, I x8.1.f2, I x8.1.f3] false)]) 99) ?_
            refine pN ?_
            refine pS ?_
            refine gC 88 (neI x8.1.f3 z0.2.2.1) ?_ ?_
            · refine gS 0 ?_
              refine gR 14 (rg Tryz.f4 14) ?_
              refine se (mkE [(2, B false)] [] 99) ?_
              refine pN ?_
              refine pS ?_
              refine gE ?_
              exact pL
            · refine gK ?_
              refine pN ?_
              refine pS ?_
              refine gR 15 (rg Tryz.f4 15) ?_
              refine se (mkE ((4, I x1.1) :: ((5, I x2.1) :: ((6, .ba 48 0) :: ((7, .ba 56 0) :: ((8, I z0.2.2.2.2.2.1) :: ((9, I z0.2.2.2.2.1) :: s_1)))))) [(48, .box [I x3.1, I x4.1, I x5.1, I x6.1] false), (56, .box [I x8.1.f0, I x8.1.f1, I x8.1.f2, I x8.1.f3] false)] 99) ?_
              refine pB ?_
              refine pN ?_
              refine pS ?_
              refine gR 16 (rg Tryz.f4 16) ?_
              refine se (mkE [(4, I x1.1), (5, I x2.1), (6, .ba 48 0), (7, .ba 56 0), (8, I z0.2.2.2.2.2.1), (9, I z0.2.2.2.2.1), (48, I (addI .i64 z0.2.2.2.2.2.2 1))] [(48, .box [I x3.1, I x4.1, I x5.1, I x6.1] false), (56, .box [I x8.1.f0, I x8.1.f1, I x8.1.f2, I x8.1.f3] false)] 99) ?_
              exact pL
  · refine gX 0 ?_
    exact pL
noncomputable def T4 (p0 : (List Int)) : Option Bool := ((T14 p0 0 1 20).bind fun x1 => ((T14 x1.2.1 x1.2.2 1 20).bind fun x2 => ((T14 x2.2.1 x2.2.2 0 (subI .i64 x1.1 1)).bind fun x3 => ((T14 x3.2.1 x3.2.2 0 (subI .i64 x2.1 1)).bind fun x4 => ((T14 x4.2.1 x4.2.2 1 (subI .i64 x1.1 x3.1)).bind fun x5 => ((T14 x5.2.1 x5.2.2 1 (subI .i64 x2.1 x4.1)).bind fun x6 => ((iter (L4_7 x1 x2 x3 x4 x5 x6) (x3.1, x4.1, x5.1, x6.1, x1.1, x2.1, 0)).bind fun y9 => (Sum.elim (fun y9a => (bif (allB [eqI y9a.2.2.2.2.1 x3.1, eqI y9a.2.2.2.2.2.1 x4.1, eqI y9a.2.2.2.2.2.2.1 x5.1, eqI y9a.2.2.2.2.2.2.2 x6.1]) then ((T26).bind fun x10 => (some x10)) else (some false))) (fun y9b => (some false)) y9))))))))
theorem B4 (C : Callee) (h14 : ∀ (p0_c0 : (List Int)) (p0_c1 : Int) (p1 : Int) (p2 : Int), C 14 [.fb [LL I p0_c0, I p0_c1], I p1, I p2] = (T14 p0_c0 p0_c1 p1 p2).map (fun (r : (Int × (List Int) × Int)) => AV.inp (I r.1) (.fb [LL I r.2.1, I r.2.2]))) (h26 : C 26 [] = (T26).map B) (h27 : ∀ (p0 : S28) (p1 : Int) (p2 : Int) (p3 : Int), C 27 [a28 p0, I p1, I p2, I p3] = (T27 p0 p1 p2 p3).map (fun r => AV.tup [a28 r.1, I r.2])) (p0 : (List Int)) : runs Tryz.prog C (cfg.fn 4) (finFn Tryz.prog (cfg.fn 4).byval Tryz.f4) [] (execA Tryz.prog C (cfg.fn 4) (nr Tryz.f4 []) (frame0 [LL I p0] 99 false)) = (T4 p0).map B := by
  unfold T4
  let s_0 : List (Nat × AV) := [(6, .ba 48 0), (7, .ba 56 0)]
  refine gS 1 ?_
  refine gR 0 (rg Tryz.f4 0) ?_
  refine se (mkE [(0, LL I p0)] [] 99) ?_
  refine pN ?_
  refine pS ?_
  refine gS 2 ?_
  refine gR 1 (rg Tryz.f4 1) ?_
  refine se (mkE [(3, .ba 136 0)] [(136, .box [LL I p0, I 0] false)] 99) ?_
  refine pN ?_
  refine pS ?_
  refine gS 3 ?_
  refine gR 2 (rg Tryz.f4 2) ?_
  refine sg 1 (mkE [(18, .ba 136 0), (3, .ba 136 0)] [(136, .box [LL I p0, I 0] false)] 99) ?_
  refine mo (some 19) (ipB 14 136 [LL I p0, I 0] [LL I p0, I 0] [I 1, I 20] [I 1, I 20] [] (fun x : (Int × (List Int) × Int) => I x.1) (fun x : (Int × (List Int) × Int) => [LL I x.2.1, I x.2.2]) (h14 p0 0 1 20)) (fun x1 => ?_)
  refine sg 3 (mkE [(20, .ba 136 0), (19, I x1.1), (18, .ba 136 0), (3, .ba 136 0)] [(136, .box [LL I x1.2.1, I x1.2.2] false), (136, .box [LL I p0, I 0] false)] 99) ?_
  refine mo (some 21) (ipB 14 136 [LL I x1.2.1, I x1.2.2] [LL I x1.2.1, I x1.2.2] [I 1, I 20] [I 1, I 20] [] (fun x : (Int × (List Int) × Int) => I x.1) (fun x : (Int × (List Int) × Int) => [LL I x.2.1, I x.2.2]) (h14 x1.2.1 x1.2.2 1 20)) (fun x2 => ?_)
  refine se (mkE [(3, .ba 136 0), (4, I x1.1), (5, I x2.1)] [(136, .box [LL I x2.2.1, I x2.2.2] false)] 99) ?_
  refine pN ?_
  refine pS ?_
  refine gS 4 ?_
  refine gR 3 (rg Tryz.f4 3) ?_
  refine sg 3 (mkE [(24, I (subI .i64 x1.1 1)), (23, I x1.1), (22, .ba 136 0), (3, .ba 136 0), (4, I x1.1), (5, I x2.1)] [(136, .box [LL I x2.2.1, I x2.2.2] false)] 99) ?_
  refine mo (some 25) (ipB 14 136 [LL I x2.2.1, I x2.2.2] [LL I x2.2.1, I x2.2.2] [I 0, I (subI .i64 x1.1 1)] [I 0, I (subI .i64 x1.1 1)] [] (fun x : (Int × (List Int) × Int) => I x.1) (fun x : (Int × (List Int) × Int) => [LL I x.2.1, I x.2.2]) (h14 x2.2.1 x2.2.2 0 (subI .i64 x1.1 1))) (fun x3 => ?_)
  refine sg 7 (mkE [(28, I (subI .i64 x2.1 1)), (27, I x2.1), (26, .ba 136 0), (25, I x3.1), (24, I (subI .i64 x1.1 1)), (23, I x1.1), (22, .ba 136 0), (3, .ba 136 0), (4, I x1.1), (5, I x2.1)] [(136, .box [LL I x3.2.1, I x3.2.2] false), (136, .box [LL I x2.2.1, I x2.2.2] false)] 99) ?_
  refine mo (some 29) (ipB 14 136 [LL I x3.2.1, I x3.2.2] [LL I x3.2.1, I x3.2.2] [I 0, I (subI .i64 x2.1 1)] [I 0, I (subI .i64 x2.1 1)] [] (fun x : (Int × (List Int) × Int) => I x.1) (fun x : (Int × (List Int) × Int) => [LL I x.2.1, I x.2.2]) (h14 x3.2.1 x3.2.2 0 (subI .i64 x2.1 1))) (fun x4 => ?_)
  refine se (mkE [(3, .ba 136 0), (4, I x1.1), (5, I x2.1), (6, .ba 48 0)] [(48, .box [I x3.1, I x4.1, I 0, I 0] false), (136, .box [LL I x4.2.1, I x4.2.2] false)] 99) ?_
  refine pN ?_
  refine pS ?_
  refine gS 5 ?_
  refine gD 4 13 (rg Tryz.f4 4) [0, 1, 2, 3, 4, 6, 7, 8, 9, 10, 5, 12, 11, 13, 14, 15] ?_
  refine dg 10 [(some 31, qe (.ba 136 0)), (some 32, qe (I x1.1)), (some 33, qe (.ba 48 0)), (some 34, qe (I x3.1)), (some 35, qe (I (subI .i64 x1.1 x3.1))), (some 37, qe (.ba 136 0)), (some 38, qe (I x2.1)), (some 39, qe (.ba 48 1)), (some 40, qe (I x4.1)), (some 41, qe (I (subI .i64 x2.1 x4.1)))] ?_
  refine di 36 14 136 [LL I x4.2.1, I x4.2.2] [LL I x4.2.1, I x4.2.2] [I 1, I (subI .i64 x1.1 x3.1)] [I 1, I (subI .i64 x1.1 x3.1)] (fun x : (Int × (List Int) × Int) => I x.1) (fun x : (Int × (List Int) × Int) => [LL I x.2.1, I x.2.2]) (mkE [(35, I (subI .i64 x1.1 x3.1)), (34, I x3.1), (33, .ba 48 0), (32, I x1.1), (31, .ba 136 0), (3, .ba 136 0), (4, I x1.1), (5, I x2.1), (6, .ba 48 0)] [(48, .box [I x3.1, I x4.1, I 0, I 0] false), (136, .box [LL I x4.2.1, I x4.2.2] false)] 99) (h14 x4.2.1 x4.2.2 1 (subI .i64 x1.1 x3.1)) (fun x5 => ?_)
  refine dg 12 [(some 31, qe (.ba 136 0)), (some 32, qe (I x1.1)), (some 33, qe (.ba 48 0)), (some 34, qe (I x3.1)), (some 35, qe (I (subI .i64 x1.1 x3.1))), (some 37, qe (.ba 136 0)), (some 38, qe (I x2.1)), (some 39, qe (.ba 48 1)), (some 40, qe (I x4.1)), (some 41, qe (I (subI .i64 x2.1 x4.1))), (some 36, { e := { val := I x5.1 }, st := some (136, .box [LL I x5.2.1, I x5.2.2] false, 0, 2) }), (some 43, qe (.ba 48 2))] ?_
  refine di 42 14 136 [LL I x5.2.1, I x5.2.2] [LL I x5.2.1, I x5.2.2] [I 1, I (subI .i64 x2.1 x4.1)] [I 1, I (subI .i64 x2.1 x4.1)] (fun x : (Int × (List Int) × Int) => I x.1) (fun x : (Int × (List Int) × Int) => [LL I x.2.1, I x.2.2]) (mkE [(36, I x5.1), (41, I (subI .i64 x2.1 x4.1)), (40, I x4.1), (39, .ba 48 1), (38, I x2.1), (37, .ba 136 0), (35, I (subI .i64 x1.1 x3.1)), (34, I x3.1), (33, .ba 48 0), (32, I x1.1), (31, .ba 136 0), (3, .ba 136 0), (4, I x1.1), (5, I x2.1), (6, .ba 48 0)] [(136, .box [LL I x5.2.1, I x5.2.2] false), (48, .box [I x3.1, I x4.1, I 0, I 0] false), (136, .box [LL I x4.2.1, I x4.2.2] false)] 99) (h14 x5.2.1 x5.2.2 1 (subI .i64 x2.1 x4.1)) (fun x6 => ?_)
  refine de (mkE [(42, I x6.1), (43, .ba 48 2), (36, I x5.1), (41, I (subI .i64 x2.1 x4.1)), (40, I x4.1), (39, .ba 48 1), (38, I x2.1), (37, .ba 136 0), (35, I (subI .i64 x1.1 x3.1)), (34, I x3.1), (33, .ba 48 0), (32, I x1.1), (31, .ba 136 0), (3, .ba 136 0), (4, I x1.1), (5, I x2.1), (6, .ba 48 0)] [(136, .box [LL I x6.2.1, I x6.2.2] false), (136, .box [LL I x5.2.1, I x5.2.2] false), (48, .box [I x3.1, I x4.1, I 0, I 0] false), (136, .box [LL I x4.2.1, I x4.2.2] false)] 99) ?_
  refine se (mkE [(4, I x1.1), (5, I x2.1), (6, .ba 48 0)] [(48, .box [I x3.1, I x4.1, I x5.1, I x6.1] false)] 99) ?_
  refine pN ?_
  refine pS ?_
  refine gS 6 ?_
  refine gR 5 (rg Tryz.f4 5) ?_
  refine se (mkE ((4, I x1.1) :: ((5, I x2.1) :: (s_0.append ((8, I x1.1) :: [(9, I x2.1)])))) [(48, .box [I x3.1, I x4.1, I x5.1, I x6.1] false), (56, .box [I x3.1, I x4.1, I x5.1, I x6.1] false)] 99) ?_
  refine pN ?_
  refine pS ?_
  refine gS 17 ?_
  refine gS 7 ?_
  refine gR 6 (rg Tryz.f4 6) ?_
  refine se (mkE ((4, I x1.1) :: ((5, I x2.1) :: (s_0.append ((8, I x1.1) :: ((9, I x2.1) :: [(48, I 0)]))))) [(48, .box [I x3.1, I x4.1, I x5.1, I x6.1] false), (56, .box [I x3.1, I x4.1, I x5.1, I x6.1] false)] 99) ?_
  refine pN ?_
  refine pS ?_
  refine gB 0 ?_
  refine lo [(4, none), (5, none), (6, none), (7, none), (8, none), (9, none), (48, none)] [] (L4_7 x1 x2 x3 x4 x5 x6) (fun z0 : (Int × Int × Int × Int × Int × Int × Int) => (mkE ((4, I x1.1) :: ((5, I x2.1) :: (s_0.append ((8, I z0.2.2.2.2.1) :: ((9, I z0.2.2.2.2.2.1) :: [(48, I z0.2.2.2.2.2.2)]))))) [(48, .box [I x3.1, I x4.1, I x5.1, I x6.1] false), (56, .box [I z0.1, I z0.2.1, I z0.2.2.1, I z0.2.2.2.1] false)] 99)) (Sum.elim (fun (x : (Int × Int × Int × Bool × Int × Int × Int × Int)) => (.exit 0, (mkE ((4, I x1.1) :: ((5, I x2.1) :: (s_0.append ((8, I x.1) :: ((9, I x.2.1) :: ((48, I x.2.2.1) :: [(49, B x.2.2.2.1)])))))) [(48, .box [I x3.1, I x4.1, I x5.1, I x6.1] false), (56, .box [I x.2.2.2.2.1, I x.2.2.2.2.2.1, I x.2.2.2.2.2.2.1, I x.2.2.2.2.2.2.2] false)] 99))) (fun (x : Unit) => (.ret, (mkE [(2, B false)] [] 99)))) (x3.1, x4.1, x5.1, x6.1, x1.1, x2.1, 0) (fun z => L4_7_ok C h27 x1 x2 x3 x4 x5 x6 z) ?_
  intro y9
  refine ss y9 (Z := (Sum.elim (fun (x : (Int × Int × Int × Bool × Int × Int × Int × Int)) => (.exit 0, (mkE ((4, I x1.1) :: ((5, I x2.1) :: (s_0.append ((8, I x.1) :: ((9, I x.2.1) :: ((48, I x.2.2.1) :: [(49, B x.2.2.2.1)])))))) [(48, .box [I x3.1, I x4.1, I x5.1, I x6.1] false), (56, .box [I x.2.2.2.2.1, I x.2.2.2.2.2.1, I x.2.2.2.2.2.2.1, I x.2.2.2.2.2.2.2] false)] 99))) (fun (x : Unit) => (.ret, (mkE [(2, B false)] [] 99))))) (fun y9a => ?_) (fun y9b => ?_)
  · refine pH ?_
    refine pN ?_
    refine pS ?_
    refine gS 0 ?_
    refine gR 17 (rg Tryz.f4 17) ?_
    refine sg 2 (mkE ((94, .agg [I x3.1, I x4.1, I x5.1, I x6.1]) :: ((93, .agg [I y9a.2.2.2.2.1, I y9a.2.2.2.2.2.1, I y9a.2.2.2.2.2.2.1, I y9a.2.2.2.2.2.2.2]) :: ((4, I x1.1) :: ((5, I x2.1) :: (s_0.append ((8, I y9a.1) :: ((9, I y9a.2.1) :: ((48, I y9a.2.2.1) :: [(49, B y9a.2.2.2.1)])))))))) [(48, .box [I x3.1, I x4.1, I x5.1, I x6.1] false), (56, .box [I y9a.2.2.2.2.1, I y9a.2.2.2.2.2.1, I y9a.2.2.2.2.2.2.1, I y9a.2.2.2.2.2.2.2] false)] 99) ?_
    refine eo 95 (B (allB [eqI y9a.2.2.2.2.1 x3.1, eqI y9a.2.2.2.2.2.1 x4.1, eqI y9a.2.2.2.2.2.2.1 x5.1, eqI y9a.2.2.2.2.2.2.2 x6.1])) (eqlE 29 (.tmp 93) (.tmp 94) [I y9a.2.2.2.2.1, I y9a.2.2.2.2.2.1, I y9a.2.2.2.2.2.2.1, I y9a.2.2.2.2.2.2.2] [I x3.1, I x4.1, I x5.1, I x6.1] [.int .i64 y9a.2.2.2.2.1, .int .i64 y9a.2.2.2.2.2.1, .int .i64 y9a.2.2.2.2.2.2.1, .int .i64 y9a.2.2.2.2.2.2.2] [.int .i64 x3.1, .int .i64 x4.1, .int .i64 x5.1, .int .i64 x6.1] [eqI y9a.2.2.2.2.1 x3.1, eqI y9a.2.2.2.2.2.1 x4.1, eqI y9a.2.2.2.2.2.2.1 x5.1, eqI y9a.2.2.2.2.2.2.2 x6.1]) ?_
    refine sg 4 (mkE ((96, B (allB [eqI y9a.2.2.2.2.1 x3.1, eqI y9a.2.2.2.2.2.1 x4.1, eqI y9a.2.2.2.2.2.2.1 x5.1, eqI y9a.2.2.2.2.2.2.2 x6.1])) :: ((95, B (allB [eqI y9a.2.2.2.2.1 x3.1, eqI y9a.2.2.2.2.2.1 x4.1, eqI y9a.2.2.2.2.2.2.1 x5.1, eqI y9a.2.2.2.2.2.2.2 x6.1])) :: ((94, .agg [I x3.1, I x4.1, I x5.1, I x6.1]) :: ((93, .agg [I y9a.2.2.2.2.1, I y9a.2.2.2.2.2.1, I y9a.2.2.2.2.2.2.1, I y9a.2.2.2.2.2.2.2]) :: ((4, I x1.1) :: ((5, I x2.1) :: (s_0.append ((8, I y9a.1) :: ((9, I y9a.2.1) :: ((48, I y9a.2.2.1) :: [(49, B y9a.2.2.2.1)])))))))))) [(48, .box [I x3.1, I x4.1, I x5.1, I x6.1] false), (56, .box [I y9a.2.2.2.2.1, I y9a.2.2.2.2.2.1, I y9a.2.2.2.2.2.2.1, I y9a.2.2.2.2.2.2.2] false)] 99) ?_
    refine sb 96 (allB [eqI y9a.2.2.2.2.1 x3.1, eqI y9a.2.2.2.2.2.1 x4.1, eqI y9a.2.2.2.2.2.2.1 x5.1, eqI y9a.2.2.2.2.2.2.2 x6.1]) ?_ ?_
    · refine co 97 [] (h26) (fun x10 => ?_)
      refine se (mkE [(2, B x10)] [] 99) ?_
      refine pN ?_
      refine pS ?_
      refine gE ?_
      exact pL
    · refine se (mkE [(2, B false)] [] 99) ?_
      refine pN ?_
      refine pS ?_
      refine gE ?_
      exact pL
  · exact pL
theorem F4 (m : Nat) (hm : 11 ≤ m) (p0 : (List Int)) : callA Tryz.prog cfg m 4 [LL I p0] = (T4 p0).map B := by
  obtain ⟨q, rfl⟩ : ∃ q, m = q + 1 := ⟨m - 1, by omega⟩
  exact (callA_body (fn := Tryz.f4) (c := body_ Tryz.f4) q _ (by kernel_rfl) (by kernel_rfl) (by kernel_rfl)).trans (B4 _ (fun p0_c0 p0_c1 p1 p2 => F14 q (by omega) p0_c0 p0_c1 p1 p2) (F26 q (by omega)) (fun p0 p1 p2 p3 => F27 q (by omega) p0 p1 p2 p3) p0)

end Go.Abs.TKT
