import Derived.Test.YtehmcdmjhdlcgaaGreatDoorHTKIp2
set_option maxRecDepth 100000
set_option linter.unusedVariables false
namespace Go.Abs.TKI
open Go.RowKit Go.Proofs Go.Abs
noncomputable def T68 (p0 : S138) (p1 : S142) : Option (Bool × Int) := ((T113 ([p0] : List S138) ([p1] : List S142)).bind fun x1 => (bif (neI x1 0) then (some (false, x1)) else ((T114 p0 p1).bind fun x2 => (some (x2, 0)))))
theorem B68 (C : Callee) (h113 : ∀ (p0 : (List S138)) (p1 : (List S142)), C 113 [LL a138 p0, LL a142 p1] = (T113 p0 p1).map I) (h114 : ∀ (p0 : S138) (p1 : S142), C 114 [a138 p0, a142 p1] = (T114 p0 p1).map B) (p0 : S138) (p1 : S142) : runs Tryz.prog C (cfg.fn 68) (finFn Tryz.prog (cfg.fn 68).byval Tryz.f68) [] (execA Tryz.prog C (cfg.fn 68) (nr Tryz.f68 []) (frame0 [a138 p0, a142 p1] 18 false)) = (T68 p0 p1).map (fun r => AV.tup [B r.1, I r.2]) := by
  unfold T68
  let o_0 : List (Nat × AObj) := [(16, .box [S p0.f0, S p0.f1, I p0.f2, LL S p0.f3, I p0.f4, I p0.f5, I p0.f6, LL a28 p0.f7, S p0.f8] false), (24, .box [S p1.f0, I p1.f1, I p1.f2] false)]
  refine gS 1 ?_
  refine gR 0 (rg Tryz.f68 0) ?_
  refine se (mkE [(2, .ba 16 0), (3, .ba 24 0)] o_0 18) ?_
  refine pN ?_
  refine pS ?_
  refine gS 4 ?_
  refine gS 2 ?_
  refine gR 1 (rg Tryz.f68 1) ?_
  refine sg 4 (mkE [(10, .own 80 0), (9, a142 p1), (8, .own 64 0), (7, a138 p0), (2, .ba 16 0), (3, .ba 24 0)] ((80, RR 143 3 a142 ([p1] : List S142) 0 false) :: ((64, RR 139 9 a138 ([p0] : List S138) 0 false) :: o_0)) 18) ?_
  refine co 11 [64, 80] (h113 ([p0] : List S138) ([p1] : List S142)) (fun x1 => ?_)
  refine se (mkE [(2, .ba 16 0), (3, .ba 24 0), (6, I x1)] o_0 18) ?_
  refine pN ?_
  refine pS ?_
  refine gS 0 ?_
  refine gR 2 (rg Tryz.f68 2) ?_
  refine se (mkE [(2, .ba 16 0), (3, .ba 24 0), (6, I x1), (13, B (neI x1 0))] o_0 18) ?_
  refine pN ?_
  refine pS ?_
  refine gC 13 (neI x1 0) ?_ ?_
  · refine gS 0 ?_
    refine gR 3 (rg Tryz.f68 3) ?_
    refine se (mkE [(4, B false), (5, I x1)] [] 18) ?_
    refine pN ?_
    refine pS ?_
    refine gE ?_
    exact pL
  · refine gK ?_
    refine pN ?_
    refine pS ?_
    refine gS 0 ?_
    refine gR 4 (rg Tryz.f68 4) ?_
    refine sg 2 (mkE [(16, a142 p1), (15, a138 p0), (2, .ba 16 0), (3, .ba 24 0), (6, I x1), (13, B (neI x1 0))] o_0 18) ?_
    refine co 17 [] (h114 p0 p1) (fun x2 => ?_)
    refine se (mkE [(4, B x2), (5, I 0)] [] 18) ?_
    refine pN ?_
    refine pS ?_
    refine gE ?_
    exact pL
theorem F68 (m : Nat) (hm : 9 ≤ m) (p0 : S138) (p1 : S142) : callA Tryz.prog cfg m 68 [a138 p0, a142 p1] = (T68 p0 p1).map (fun r => AV.tup [B r.1, I r.2]) := by
  obtain ⟨q, rfl⟩ : ∃ q, m = q + 1 := ⟨m - 1, by omega⟩
  exact (callA_body (fn := Tryz.f68) (c := body_ Tryz.f68) q _ (by kernel_rfl) (by kernel_rfl) (by kernel_rfl)).trans (B68 _ (fun p0 p1 => F113 q (by omega) p0 p1) (fun p0 p1 => F114 q (by omega) p0 p1) p0 p1)

noncomputable def L22_2 (p0 : (List Int)) (z0 : Int) : Option (Int ⊕ ((Int × Bool) ⊕ Int)) := (bif (ltI z0 (lenL p0)) then ((listAt p0 z0).bind fun x1 => (bif (neI x1 0) then (some (.inr (.inr x1))) else (some (.inl (addI .i64 z0 1))))) else (some (.inr (.inl (z0, (ltI z0 (lenL p0)))))))
theorem L22_2_ok (C : Callee) (p0 : (List Int)) (z0 : Int) : runs Tryz.prog C (cfg.fn 22) (finLoop ((cfg.fn 22).keep 2) ((cfg.fn 22).al 2)) [] (execA Tryz.prog C (cfg.fn 22) (nr Tryz.f22 [false, false, true, false, true]) ((fun z0 : Int => (mkE [(5, LL I p0), (6, I (lenL p0)), (7, I z0)] [] 15)) z0)) = (L22_2 p0 z0).map (Sum.elim (fun z => .inl ((fun z0 : Int => (mkE [(5, LL I p0), (6, I (lenL p0)), (7, I z0)] [] 15)) z)) (fun x => .inr ((Sum.elim (fun (x : (Int × Bool)) => (.exit 0, (mkE [(5, LL I p0), (6, I (lenL p0)), (7, I x.1), (8, B x.2)] [] 15))) (fun (x : Int) => (.ret, (mkE [(2, I x)] [] 15)))) x))) := by
  unfold L22_2
  refine gS 0 ?_
  refine gR 2 (rg Tryz.f22 2) ?_
  refine se (mkE [(5, LL I p0), (6, I (lenL p0)), (7, I z0), (8, B (ltI z0 (lenL p0)))] [] 15) ?_
  refine pN ?_
  refine pS ?_
  refine gS 3 ?_
  refine gC 8 (ltI z0 (lenL p0)) ?_ ?_
  · refine gK ?_
    refine pN ?_
    refine pS ?_
    refine gS 6 ?_
    refine gB 1 ?_
    refine gS 4 ?_
    refine gR 3 (rg Tryz.f22 3) ?_
    refine vo 9 (addrE 128 31 1 I .i64 p0 z0) (fun x1 => ?_)
    refine se (mkE [(4, I x1), (5, LL I p0), (6, I (lenL p0)), (7, I z0)] [] 15) ?_
    refine pN ?_
    refine pS ?_
    refine gS 0 ?_
    refine gR 4 (rg Tryz.f22 4) ?_
    refine se (mkE [(4, I x1), (5, LL I p0), (6, I (lenL p0)), (7, I z0), (12, B (neI x1 0))] [] 15) ?_
    refine pN ?_
    refine pS ?_
    refine gC 12 (neI x1 0) ?_ ?_
    · refine gS 0 ?_
      refine gR 5 (rg Tryz.f22 5) ?_
      refine se (mkE [(2, I x1)] [] 15) ?_
      refine pN ?_
      refine pS ?_
      refine gE ?_
      exact pL
    · refine gK ?_
      refine pB ?_
      refine pN ?_
      refine pS ?_
      refine gR 6 (rg Tryz.f22 6) ?_
      refine se (mkE [(5, LL I p0), (6, I (lenL p0)), (7, I (addI .i64 z0 1))] [] 15) ?_
      exact pL
  · refine gX 0 ?_
    exact pL
noncomputable def T22 (p0 : (List Int)) : Option Int := ((iter (L22_2 p0) 0).bind fun y2 => (Sum.elim (fun y2a => (some 0)) (fun y2b => (some y2b)) y2))
theorem B22 (C : Callee) (p0 : (List Int)) : runs Tryz.prog C (cfg.fn 22) (finFn Tryz.prog (cfg.fn 22).byval Tryz.f22) [] (execA Tryz.prog C (cfg.fn 22) (nr Tryz.f22 []) (frame0 [LL I p0] 15 false)) = (T22 p0).map I := by
  unfold T22
  refine gS 1 ?_
  refine gR 0 (rg Tryz.f22 0) ?_
  refine se (mkE [(0, LL I p0)] [] 15) ?_
  refine pN ?_
  refine pS ?_
  refine gS 7 ?_
  refine gS 2 ?_
  refine gR 1 (rg Tryz.f22 1) ?_
  refine sg 1 (mkE [(5, LL I p0), (0, LL I p0)] [] 15) ?_
  refine eo 6 (I (lenL p0)) (lenE 128 I p0) ?_
  refine se (mkE [(5, LL I p0), (6, I (lenL p0)), (7, I 0)] [] 15) ?_
  refine pN ?_
  refine pS ?_
  refine gB 0 ?_
  refine lo [(5, none), (6, none), (7, none)] [] (L22_2 p0) (fun z0 : Int => (mkE [(5, LL I p0), (6, I (lenL p0)), (7, I z0)] [] 15)) (Sum.elim (fun (x : (Int × Bool)) => (.exit 0, (mkE [(5, LL I p0), (6, I (lenL p0)), (7, I x.1), (8, B x.2)] [] 15))) (fun (x : Int) => (.ret, (mkE [(2, I x)] [] 15)))) 0 (fun z => L22_2_ok C p0 z) ?_
  intro y2
  refine ss y2 (Z := (Sum.elim (fun (x : (Int × Bool)) => (.exit 0, (mkE [(5, LL I p0), (6, I (lenL p0)), (7, I x.1), (8, B x.2)] [] 15))) (fun (x : Int) => (.ret, (mkE [(2, I x)] [] 15))))) (fun y2a => ?_) (fun y2b => ?_)
  · refine pH ?_
    refine pN ?_
    refine pS ?_
    refine gS 0 ?_
    refine gR 7 (rg Tryz.f22 7) ?_
    refine se (mkE [(2, I 0)] [] 15) ?_
    refine pN ?_
    refine pS ?_
    refine gE ?_
    exact pL
  · exact pL
theorem F22 (m : Nat) (hm : 1 ≤ m) (p0 : (List Int)) : callA Tryz.prog cfg m 22 [LL I p0] = (T22 p0).map I := by
  obtain ⟨q, rfl⟩ : ∃ q, m = q + 1 := ⟨m - 1, by omega⟩
  exact (callA_body (fn := Tryz.f22) (c := body_ Tryz.f22) q _ (by kernel_rfl) (by kernel_rfl) (by kernel_rfl)).trans (B22 _ p0)

noncomputable def T26 : Option Bool := ((T20 ([(S28.mk 0 0 2 2), (S28.mk 1 1 2 2)] : List S28)).bind fun x1 => ((T67 (S136.mk (ByteArray.mk #[97]) (ByteArray.mk #[98]) 0 0 0 1 127 [] 1 2 0 [] false) 0 (S92.mk 0 86400000)).bind fun x2 => ((T45 (S94.mk (ByteArray.mk #[97]) (ByteArray.mk #[]) (S92.mk 0 100) [] 10 0 0) 50).bind fun x3 => ((T42 ([(S87.mk (ByteArray.mk #[112]) 0 100), (S87.mk (ByteArray.mk #[112]) 1000 1300)] : List S87) (ByteArray.mk #[112]) 700).bind fun x4 => ((T68 (S138.mk (ByteArray.mk #[97]) (ByteArray.mk #[115]) 1 [] 0 5 1 ([(S28.mk 0 0 2 2)] : List S28) (ByteArray.mk #[120])) (S142.mk (ByteArray.mk #[112]) 1 1)).bind fun x5 => ((T22 ([x1.2, x2.2, x3.2, x4.2, x5.2] : List Int)).bind fun x6 => (bif (eqI x6 0) then (bif (eqI x1.1 7) then (bif (eqI (lenL x2.1) 1) then (bif (eqI x3.1 5) then (bif (eqI x4.1 500) then (some x5.1) else (some false)) else (some false)) else (some false)) else (some false)) else (some false))))))))
theorem B26 (C : Callee) (h20 : ∀ (p0 : (List S28)), C 20 [LL a28 p0] = (T20 p0).map (fun r => AV.tup [I r.1, I r.2])) (h22 : ∀ (p0 : (List Int)), C 22 [LL I p0] = (T22 p0).map I) (h42 : ∀ (p0 : (List S87)) (p1 : ByteArray) (p2 : Int), C 42 [LL a87 p0, S p1, I p2] = (T42 p0 p1 p2).map (fun r => AV.tup [I r.1, I r.2])) (h45 : ∀ (p0 : S94) (p1 : Int), C 45 [a94 p0, I p1] = (T45 p0 p1).map (fun r => AV.tup [I r.1, I r.2])) (h67 : ∀ (p0 : S136) (p1 : Int) (p2 : S92), C 67 [a136 p0, I p1, a92 p2] = (T67 p0 p1 p2).map (fun r => AV.tup [(fun l => AV.fr 93 2 (List.map a92 l)) r.1, I r.2])) (h68 : ∀ (p0 : S138) (p1 : S142), C 68 [a138 p0, a142 p1] = (T68 p0 p1).map (fun r => AV.tup [B r.1, I r.2])) : runs Tryz.prog C (cfg.fn 26) (finFn Tryz.prog (cfg.fn 26).byval Tryz.f26) [] (execA Tryz.prog C (cfg.fn 26) (nr Tryz.f26 []) (frame0 [] 75 false)) = (T26).map B := by
  unfold T26
  let o_0 : List (Nat × AObj) := [(72, .box [S (ByteArray.mk #[97]), S (ByteArray.mk #[115]), I 1, .nils, I 0, I 5, I 1, .own 312 0, S (ByteArray.mk #[120])] false)]
  refine gS 1 ?_
  refine gR 0 (rg Tryz.f26 0) ?_
  refine se (mkE [] [] 75) ?_
  refine pN ?_
  refine pS ?_
  refine gS 2 ?_
  refine gR 1 (rg Tryz.f26 1) ?_
  refine sg 3 (mkE [(15, .own 120 0), (14, .agg [I 1, I 1, I 2, I 2]), (13, .agg [I 0, I 0, I 2, I 2])] [(120, RR 29 4 a28 ([(S28.mk 0 0 2 2), (S28.mk 1 1 2 2)] : List S28) 0 false)] 75) ?_
  refine co 16 [120] (h20 ([(S28.mk 0 0 2 2), (S28.mk 1 1 2 2)] : List S28)) (fun x1 => ?_)
  refine se (mkE [(1, I x1.1), (2, I x1.2)] [] 75) ?_
  refine pN ?_
  refine pS ?_
  refine gS 3 ?_
  refine gR 2 (rg Tryz.f26 2) ?_
  refine sg 2 (mkE [(21, .agg [I 0, I 86400000]), (20, .agg [S (ByteArray.mk #[97]), S (ByteArray.mk #[98]), I 0, I 0, I 0, I 1, I 127, .nils, I 1, I 2, I 0, .nils, B false]), (1, I x1.1), (2, I x1.2)] [] 75) ?_
  refine co 22 [] (h67 (S136.mk (ByteArray.mk #[97]) (ByteArray.mk #[98]) 0 0 0 1 127 [] 1 2 0 [] false) 0 (S92.mk 0 86400000)) (fun x2 => ?_)
  refine se (mkE [(1, I x1.1), (2, I x1.2), (3, .own 176 0), (4, I x2.2)] [(176, RR 93 2 a92 x2.1 0 false)] 75) ?_
  refine pN ?_
  refine pS ?_
  refine gS 4 ?_
  refine gR 3 (rg Tryz.f26 3) ?_
  refine sg 2 (mkE [(27, .agg [S (ByteArray.mk #[97]), S (ByteArray.mk #[]), I 0, I 100, .nils, I 10, I 0, I 0]), (26, .agg [I 0, I 100]), (1, I x1.1), (2, I x1.2), (3, .own 176 0), (4, I x2.2)] [(176, RR 93 2 a92 x2.1 0 false)] 75) ?_
  refine co 28 [] (h45 (S94.mk (ByteArray.mk #[97]) (ByteArray.mk #[]) (S92.mk 0 100) [] 10 0 0) 50) (fun x3 => ?_)
  refine se (mkE [(1, I x1.1), (2, I x1.2), (3, .own 176 0), (4, I x2.2), (5, I x3.1), (6, I x3.2)] [(176, RR 93 2 a92 x2.1 0 false)] 75) ?_
  refine pN ?_
  refine pS ?_
  refine gS 5 ?_
  refine gR 4 (rg Tryz.f26 4) ?_
  refine sg 3 (mkE [(34, .own 272 0), (33, .agg [S (ByteArray.mk #[112]), I 1000, I 1300]), (32, .agg [S (ByteArray.mk #[112]), I 0, I 100]), (1, I x1.1), (2, I x1.2), (3, .own 176 0), (4, I x2.2), (5, I x3.1), (6, I x3.2)] [(272, RR 88 3 a87 ([(S87.mk (ByteArray.mk #[112]) 0 100), (S87.mk (ByteArray.mk #[112]) 1000 1300)] : List S87) 0 false), (176, RR 93 2 a92 x2.1 0 false)] 75) ?_
  refine co 35 [272] (h42 ([(S87.mk (ByteArray.mk #[112]) 0 100), (S87.mk (ByteArray.mk #[112]) 1000 1300)] : List S87) (ByteArray.mk #[112]) 700) (fun x4 => ?_)
  refine se (mkE [(1, I x1.1), (2, I x1.2), (3, .own 176 0), (4, I x2.2), (5, I x3.1), (6, I x3.2), (7, I x4.1), (8, I x4.2)] [(176, RR 93 2 a92 x2.1 0 false)] 75) ?_
  refine pN ?_
  refine pS ?_
  refine gS 6 ?_
  refine gR 5 (rg Tryz.f26 5) ?_
  refine se (mkE [(1, I x1.1), (2, I x1.2), (3, .own 176 0), (4, I x2.2), (5, I x3.1), (6, I x3.2), (7, I x4.1), (8, I x4.2), (9, .ba 72 0)] (o_0.append ((176, RR 93 2 a92 x2.1 0 false) :: [(312, RR 29 4 a28 ([(S28.mk 0 0 2 2)] : List S28) 0 false)])) 75) ?_
  refine pN ?_
  refine pS ?_
  refine gS 7 ?_
  refine gR 6 (rg Tryz.f26 6) ?_
  refine sg 2 (mkE [(43, .agg [S (ByteArray.mk #[112]), I 1, I 1]), (42, .agg [S (ByteArray.mk #[97]), S (ByteArray.mk #[115]), I 1, .nils, I 0, I 5, I 1, .own 312 0, S (ByteArray.mk #[120])]), (1, I x1.1), (2, I x1.2), (3, .own 176 0), (4, I x2.2), (5, I x3.1), (6, I x3.2), (7, I x4.1), (8, I x4.2), (9, .ba 72 0)] (o_0.append ((176, RR 93 2 a92 x2.1 0 false) :: [(312, RR 29 4 a28 ([(S28.mk 0 0 2 2)] : List S28) 0 false)])) 75) ?_
  refine co 44 [312] (h68 (S138.mk (ByteArray.mk #[97]) (ByteArray.mk #[115]) 1 [] 0 5 1 ([(S28.mk 0 0 2 2)] : List S28) (ByteArray.mk #[120])) (S142.mk (ByteArray.mk #[112]) 1 1)) (fun x5 => ?_)
  refine se (mkE [(1, I x1.1), (2, I x1.2), (3, .own 176 0), (4, I x2.2), (5, I x3.1), (6, I x3.2), (7, I x4.1), (8, I x4.2), (10, B x5.1), (11, I x5.2)] [(176, RR 93 2 a92 x2.1 0 false)] 75) ?_
  refine pN ?_
  refine pS ?_
  refine gS 0 ?_
  refine gR 7 (rg Tryz.f26 7) ?_
  refine sg 6 (mkE [(52, .own 416 0), (51, I x5.2), (50, I x4.2), (49, I x3.2), (48, I x2.2), (47, I x1.2), (1, I x1.1), (2, I x1.2), (3, .own 176 0), (4, I x2.2), (5, I x3.1), (6, I x3.2), (7, I x4.1), (8, I x4.2), (10, B x5.1), (11, I x5.2)] [(416, RR 31 1 I ([x1.2, x2.2, x3.2, x4.2, x5.2] : List Int) 0 false), (176, RR 93 2 a92 x2.1 0 false)] 75) ?_
  refine co 53 [416] (h22 ([x1.2, x2.2, x3.2, x4.2, x5.2] : List Int)) (fun x6 => ?_)
  refine sg 9 (mkE [(55, B (eqI x6 0)), (54, B (eqI x6 0)), (53, I x6), (52, .own 416 0), (51, I x5.2), (50, I x4.2), (49, I x3.2), (48, I x2.2), (47, I x1.2), (1, I x1.1), (2, I x1.2), (3, .own 176 0), (4, I x2.2), (5, I x3.1), (6, I x3.2), (7, I x4.1), (8, I x4.2), (10, B x5.1), (11, I x5.2)] [(416, RR 31 1 I ([x1.2, x2.2, x3.2, x4.2, x5.2] : List Int) 0 false), (176, RR 93 2 a92 x2.1 0 false)] 75) ?_
  refine sb 55 (eqI x6 0) ?_ ?_
  · refine sg 13 (mkE [(59, B (eqI x1.1 7)), (58, B (eqI x1.1 7)), (57, B (eqI x1.1 7)), (56, I x1.1), (55, B true), (55, B (eqI x6 0)), (54, B (eqI x6 0)), (53, I x6), (52, .own 416 0), (51, I x5.2), (50, I x4.2), (49, I x3.2), (48, I x2.2), (47, I x1.2), (1, I x1.1), (2, I x1.2), (3, .own 176 0), (4, I x2.2), (5, I x3.1), (6, I x3.2), (7, I x4.1), (8, I x4.2), (10, B x5.1), (11, I x5.2)] [(416, RR 31 1 I ([x1.2, x2.2, x3.2, x4.2, x5.2] : List Int) 0 false), (176, RR 93 2 a92 x2.1 0 false)] 75) ?_
    refine sb 59 (eqI x1.1 7) ?_ ?_
    · refine sg 14 (mkE [(60, .own 176 0), (59, B true), (59, B (eqI x1.1 7)), (58, B (eqI x1.1 7)), (57, B (eqI x1.1 7)), (56, I x1.1), (55, B true), (55, B (eqI x6 0)), (54, B (eqI x6 0)), (53, I x6), (52, .own 416 0), (51, I x5.2), (50, I x4.2), (49, I x3.2), (48, I x2.2), (47, I x1.2), (1, I x1.1), (2, I x1.2), (3, .own 176 0), (4, I x2.2), (5, I x3.1), (6, I x3.2), (7, I x4.1), (8, I x4.2), (10, B x5.1), (11, I x5.2)] [(416, RR 31 1 I ([x1.2, x2.2, x3.2, x4.2, x5.2] : List Int) 0 false), (176, RR 93 2 a92 x2.1 0 false)] 75) ?_
      refine eo 61 (I (lenL x2.1)) (lenOE 108 93 2 a92 x2.1) ?_
      refine sg 18 (mkE [(64, B (eqI (lenL x2.1) 1)), (63, B (eqI (lenL x2.1) 1)), (62, B (eqI (lenL x2.1) 1)), (61, I (lenL x2.1)), (60, .own 176 0), (59, B true), (59, B (eqI x1.1 7)), (58, B (eqI x1.1 7)), (57, B (eqI x1.1 7)), (56, I x1.1), (55, B true), (55, B (eqI x6 0)), (54, B (eqI x6 0)), (53, I x6), (52, .own 416 0), (51, I x5.2), (50, I x4.2), (49, I x3.2), (48, I x2.2), (47, I x1.2), (1, I x1.1), (2, I x1.2), (3, .own 176 0), (4, I x2.2), (5, I x3.1), (6, I x3.2), (7, I x4.1), (8, I x4.2), (10, B x5.1), (11, I x5.2)] [(416, RR 31 1 I ([x1.2, x2.2, x3.2, x4.2, x5.2] : List Int) 0 false), (176, RR 93 2 a92 x2.1 0 false)] 75) ?_
      refine sb 64 (eqI (lenL x2.1) 1) ?_ ?_
      · refine sg 22 (mkE [(68, B (eqI x3.1 5)), (67, B (eqI x3.1 5)), (66, B (eqI x3.1 5)), (65, I x3.1), (64, B true), (64, B (eqI (lenL x2.1) 1)), (63, B (eqI (lenL x2.1) 1)), (62, B (eqI (lenL x2.1) 1)), (61, I (lenL x2.1)), (60, .own 176 0), (59, B true), (59, B (eqI x1.1 7)), (58, B (eqI x1.1 7)), (57, B (eqI x1.1 7)), (56, I x1.1), (55, B true), (55, B (eqI x6 0)), (54, B (eqI x6 0)), (53, I x6), (52, .own 416 0), (51, I x5.2), (50, I x4.2), (49, I x3.2), (48, I x2.2), (47, I x1.2), (1, I x1.1), (2, I x1.2), (3, .own 176 0), (4, I x2.2), (5, I x3.1), (6, I x3.2), (7, I x4.1), (8, I x4.2), (10, B x5.1), (11, I x5.2)] [(416, RR 31 1 I ([x1.2, x2.2, x3.2, x4.2, x5.2] : List Int) 0 false), (176, RR 93 2 a92 x2.1 0 false)] 75) ?_
        refine sb 68 (eqI x3.1 5) ?_ ?_
        · refine sg 26 (mkE [(72, B (eqI x4.1 500)), (71, B (eqI x4.1 500)), (70, B (eqI x4.1 500)), (69, I x4.1), (68, B true), (68, B (eqI x3.1 5)), (67, B (eqI x3.1 5)), (66, B (eqI x3.1 5)), (65, I x3.1), (64, B true), (64, B (eqI (lenL x2.1) 1)), (63, B (eqI (lenL x2.1) 1)), (62, B (eqI (lenL x2.1) 1)), (61, I (lenL x2.1)), (60, .own 176 0), (59, B true), (59, B (eqI x1.1 7)), (58, B (eqI x1.1 7)), (57, B (eqI x1.1 7)), (56, I x1.1), (55, B true), (55, B (eqI x6 0)), (54, B (eqI x6 0)), (53, I x6), (52, .own 416 0), (51, I x5.2), (50, I x4.2), (49, I x3.2), (48, I x2.2), (47, I x1.2), (1, I x1.1), (2, I x1.2), (3, .own 176 0), (4, I x2.2), (5, I x3.1), (6, I x3.2), (7, I x4.1), (8, I x4.2), (10, B x5.1), (11, I x5.2)] [(416, RR 31 1 I ([x1.2, x2.2, x3.2, x4.2, x5.2] : List Int) 0 false), (176, RR 93 2 a92 x2.1 0 false)] 75) ?_
          refine sb 72 (eqI x4.1 500) ?_ ?_
          · refine se (mkE [(0, B x5.1)] [] 75) ?_
            refine pN ?_
            refine pS ?_
            refine gE ?_
            exact pL
          · refine se (mkE [(0, B false)] [] 75) ?_
            refine pN ?_
            refine pS ?_
            refine gE ?_
            exact pL
        · refine se (mkE [(0, B false)] [] 75) ?_
          refine pN ?_
          refine pS ?_
          refine gE ?_
          exact pL
      · refine se (mkE [(0, B false)] [] 75) ?_
        refine pN ?_
        refine pS ?_
        refine gE ?_
        exact pL
    · refine se (mkE [(0, B false)] [] 75) ?_
      refine pN ?_
      refine pS ?_
      refine gE ?_
      exact pL
  · refine se (mkE [(0, B false)] [] 75) ?_
    refine pN ?_
    refine pS ?_
    refine gE ?_
    exact pL
theorem F26 (m : Nat) (hm : 10 ≤ m) : callA Tryz.prog cfg m 26 [] = (T26).map B := by
  obtain ⟨q, rfl⟩ : ∃ q, m = q + 1 := ⟨m - 1, by omega⟩
  exact (callA_body (fn := Tryz.f26) (c := body_ Tryz.f26) q _ (by kernel_rfl) (by kernel_rfl) (by kernel_rfl)).trans (B26 _ (fun p0 => F20 q (by omega) p0) (fun p0 => F22 q (by omega) p0) (fun p0 p1 p2 => F42 q (by omega) p0 p1 p2) (fun p0 p1 => F45 q (by omega) p0 p1) (fun p0 p1 p2 => F67 q (by omega) p0 p1 p2) (fun p0 p1 => F68 q (by omega) p0 p1))

noncomputable def T102 (p0 : Int) (p1 : Int) : Option Int := (bif (ltI p1 1) then (some 0) else ((remO .i64 p0 p1).bind fun x1 => (bif (ltI x1 0) then (some (addI .i64 x1 p1)) else (some x1))))
theorem B102 (C : Callee) (p0 : Int) (p1 : Int) : runs Tryz.prog C (cfg.fn 102) (finFn Tryz.prog (cfg.fn 102).byval Tryz.f102) [] (execA Tryz.prog C (cfg.fn 102) (nr Tryz.f102 []) (frame0 [I p0, I p1] 16 false)) = (T102 p0 p1).map I := by
  unfold T102
  refine gS 1 ?_
  refine gR 0 (rg Tryz.f102 0) ?_
  refine se (mkE [(0, I p0), (1, I p1)] [] 16) ?_
  refine pN ?_
  refine pS ?_
  refine gS 3 ?_
  refine gS 0 ?_
  refine gR 1 (rg Tryz.f102 1) ?_
  refine se (mkE [(0, I p0), (1, I p1), (6, B (ltI p1 1))] [] 16) ?_
  refine pN ?_
  refine pS ?_
  refine gC 6 (ltI p1 1) ?_ ?_
  · refine gS 0 ?_
    refine gR 2 (rg Tryz.f102 2) ?_
    refine se (mkE [(4, I 0)] [] 16) ?_
    refine pN ?_
    refine pS ?_
    refine gE ?_
    exact pL
  · refine gK ?_
    refine pN ?_
    refine pS ?_
    refine gS 4 ?_
    refine gR 3 (rg Tryz.f102 3) ?_
    refine sg 2 (mkE [(8, I p1), (7, I p0), (0, I p0), (1, I p1), (6, B (ltI p1 1))] [] 16) ?_
    refine vo 9 (remE 3 .i64 (.tmp 7) (.tmp 8) p0 p1) (fun x1 => ?_)
    refine se (mkE [(0, I x1), (1, I p1)] [] 16) ?_
    refine pN ?_
    refine pS ?_
    refine gS 6 ?_
    refine gS 0 ?_
    refine gR 4 (rg Tryz.f102 4) ?_
    refine se (mkE [(0, I x1), (1, I p1), (11, B (ltI x1 0))] [] 16) ?_
    refine pN ?_
    refine pS ?_
    refine gC 11 (ltI x1 0) ?_ ?_
    · refine gR 5 (rg Tryz.f102 5) ?_
      refine se (mkE [(0, I (addI .i64 x1 p1))] [] 16) ?_
      refine pN ?_
      refine pS ?_
      refine gS 0 ?_
      refine gR 6 (rg Tryz.f102 6) ?_
      refine se (mkE [(4, I (addI .i64 x1 p1))] [] 16) ?_
      refine pN ?_
      refine pS ?_
      refine gE ?_
      exact pL
    · refine gK ?_
      refine pN ?_
      refine pS ?_
      refine gS 0 ?_
      refine gR 6 (rg Tryz.f102 6) ?_
      refine se (mkE [(4, I x1)] [] 16) ?_
      refine pN ?_
      refine pS ?_
      refine gE ?_
      exact pL
theorem F102 (m : Nat) (hm : 1 ≤ m) (p0 : Int) (p1 : Int) : callA Tryz.prog cfg m 102 [I p0, I p1] = (T102 p0 p1).map I := by
  obtain ⟨q, rfl⟩ : ∃ q, m = q + 1 := ⟨m - 1, by omega⟩
  exact (callA_body (fn := Tryz.f102) (c := body_ Tryz.f102) q _ (by kernel_rfl) (by kernel_rfl) (by kernel_rfl)).trans (B102 _ p0 p1)

noncomputable def T57 (p0_c0 : (List Int)) (p0_c1 : Int) (p1 : Int) : Option (Int × (List Int) × Int) := (bif (eqI (lenL p0_c0) 0) then ((T102 (mulI .i64 (addI .i64 p0_c1 1) 7919) p1).bind fun x1 => (some (x1, p0_c0, (addI .i64 p0_c1 1)))) else ((remO .i64 (subI .i64 (addI .i64 p0_c1 1) 1) (lenL p0_c0)).bind fun x2 => ((quoO .i64 (subI .i64 (addI .i64 p0_c1 1) 1) (lenL p0_c0)).bind fun x3 => ((listAt p0_c0 x2).bind fun x4 => ((T102 x4 1073741824).bind fun x5 => ((T102 (addI .i64 x5 (mulI .i64 x3 (addI .i64 7919 x2))) p1).bind fun x6 => (some (x6, p0_c0, (addI .i64 p0_c1 1)))))))))
theorem B57 (C : Callee) (h102 : ∀ (p0 : Int) (p1 : Int), C 102 [I p0, I p1] = (T102 p0 p1).map I) (p0_c0 : (List Int)) (p0_c1 : Int) (p1 : Int) : runs Tryz.prog C (cfg.fn 57) (finFnI Tryz.prog Tryz.f57) [] (execA Tryz.prog C (cfg.fn 57) (nr Tryz.f57 []) (frame0 [.fb [LL I p0_c0, I p0_c1], I p1] 64 true)) = (T57 p0_c0 p0_c1 p1).map (fun (r : (Int × (List Int) × Int)) => AV.inp (I r.1) (.fb [LL I r.2.1, I r.2.2])) := by
  unfold T57
  let d_0 : List (Option Nat × REff) := [(some 27, qe (.ba 0 0)), (some 28, qe (.ba 0 0)), (some 29, qe (.ba 0 1)), (some 30, qe (I (addI .i64 p0_c1 1))), (some 31, qe (I (subI .i64 (addI .i64 p0_c1 1) 1))), (some 32, qe (.ba 0 0)), (some 33, qe (.ba 0 0)), (some 34, qe (.ba 0 0)), (some 35, qe (LL I p0_c0))]
  let d_1 : List (Option Nat × REff) := [(some 38, qe (.ba 0 0)), (some 39, qe (.ba 0 0)), (some 40, qe (.ba 0 1)), (some 41, qe (I (addI .i64 p0_c1 1))), (some 42, qe (I (subI .i64 (addI .i64 p0_c1 1) 1))), (some 43, qe (.ba 0 0)), (some 44, qe (.ba 0 0)), (some 45, qe (.ba 0 0)), (some 46, qe (LL I p0_c0))]
  let s_0 : List (Nat × AV) := [(36, I (lenL p0_c0)), (35, LL I p0_c0), (34, .ba 0 0), (33, .ba 0 0), (32, .ba 0 0), (31, I (subI .i64 (addI .i64 p0_c1 1) 1)), (30, I (addI .i64 p0_c1 1)), (29, .ba 0 1), (28, .ba 0 0), (27, .ba 0 0), (0, .ba 0 0), (1, I p1), (19, B (eqI (lenL p0_c0) 0))]
  let s_1 : List (Nat × AV) := [(47, I (lenL p0_c0)), (46, LL I p0_c0), (45, .ba 0 0), (44, .ba 0 0), (43, .ba 0 0), (42, I (subI .i64 (addI .i64 p0_c1 1) 1)), (41, I (addI .i64 p0_c1 1)), (40, .ba 0 1), (39, .ba 0 0), (38, .ba 0 0), (0, .ba 0 0), (1, I p1)]
  let s_2 : List (Nat × AV) := [(0, .ba 0 0), (1, I p1)]
  let o_0 : List (Nat × AObj) := [(0, .box [LL I p0_c0, I (addI .i64 p0_c1 1)] false)]
  refine gS 1 ?_
  refine gR 0 (rg Tryz.f57 0) ?_
  refine se (mkE s_2 [(0, .box [LL I p0_c0, I p0_c1] false)] ⟨64, true⟩) ?_
  refine pN ?_
  refine pS ?_
  refine gS 2 ?_
  refine gR 1 (rg Tryz.f57 1) ?_
  refine se (mkE s_2 o_0 ⟨64, true⟩) ?_
  refine pN ?_
  refine pS ?_
  refine gS 4 ?_
  refine gS 0 ?_
  refine gR 2 (rg Tryz.f57 2) ?_
  refine sg 4 (mkE ((17, LL I p0_c0) :: ((16, .ba 0 0) :: ((15, .ba 0 0) :: ((14, .ba 0 0) :: s_2)))) o_0 ⟨64, true⟩) ?_
  refine eo 18 (I (lenL p0_c0)) (lenE 22 I p0_c0) ?_
  refine se (mkE (s_2.append [(19, B (eqI (lenL p0_c0) 0))]) o_0 ⟨64, true⟩) ?_
  refine pN ?_
  refine pS ?_
  refine gC 19 (eqI (lenL p0_c0) 0) ?_ ?_
  · refine gS 0 ?_
    refine gR 3 (rg Tryz.f57 3) ?_
    refine sg 6 (mkE ((25, I p1) :: ((24, I (mulI .i64 (addI .i64 p0_c1 1) 7919)) :: ((23, I (addI .i64 p0_c1 1)) :: ((22, .ba 0 1) :: ((21, .ba 0 0) :: ((20, .ba 0 0) :: (s_2.append [(19, B (eqI (lenL p0_c0) 0))]))))))) o_0 ⟨64, true⟩) ?_
    refine co 26 [] (h102 (mulI .i64 (addI .i64 p0_c1 1) 7919) p1) (fun x1 => ?_)
    refine se (mkE [(0, .ba 0 0), (4, I x1)] o_0 ⟨64, true⟩) ?_
    refine pN ?_
    refine pS ?_
    refine gE ?_
    exact pL
  · refine gK ?_
    refine pN ?_
    refine pS ?_
    refine gS 5 ?_
    refine gD 4 12 (rg Tryz.f57 4) [0, 1, 2, 3, 4, 5, 6, 7, 8, 9, 10, 11] ?_
    refine dg 9 d_0 ?_
    refine df 36 (I (lenL p0_c0)) (mkE ((35, LL I p0_c0) :: ((34, .ba 0 0) :: ((33, .ba 0 0) :: ((32, .ba 0 0) :: (s_2.append [(19, B (eqI (lenL p0_c0) 0))]))))) o_0 ⟨64, true⟩) (lenE 22 I p0_c0) ?_
    refine dv 37 (mkE s_0 o_0 ⟨64, true⟩) (remE 3 .i64 (.tmp 31) (.tmp 36) (subI .i64 (addI .i64 p0_c1 1) 1) (lenL p0_c0)) (fun x2 => ?_)
    refine dg 12 (d_0.append ((some 36, qe (I (lenL p0_c0))) :: ((some 37, qe (I x2)) :: [(some 5, qe (I x2))]))) ?_
    refine de (mkE ((5, I x2) :: ((37, I x2) :: s_0)) o_0 ⟨64, true⟩) ?_
    refine se (mkE (s_2.append [(5, I x2)]) o_0 ⟨64, true⟩) ?_
    refine pN ?_
    refine pS ?_
    refine gS 6 ?_
    refine gD 5 12 (rg Tryz.f57 5) [0, 1, 2, 3, 4, 5, 6, 7, 8, 9, 10, 11] ?_
    refine dg 9 d_1 ?_
    refine df 47 (I (lenL p0_c0)) (mkE ((46, LL I p0_c0) :: ((45, .ba 0 0) :: ((44, .ba 0 0) :: ((43, .ba 0 0) :: (s_2.append [(5, I x2)]))))) o_0 ⟨64, true⟩) (lenE 22 I p0_c0) ?_
    refine dv 48 (mkE (s_1.append [(5, I x2)]) o_0 ⟨64, true⟩) (quoE 3 .i64 (.tmp 42) (.tmp 47) (subI .i64 (addI .i64 p0_c1 1) 1) (lenL p0_c0)) (fun x3 => ?_)
    refine dg 12 (d_1.append ((some 47, qe (I (lenL p0_c0))) :: ((some 48, qe (I x3)) :: [(some 6, qe (I x3))]))) ?_
    refine de (mkE ((6, I x3) :: ((48, I x3) :: (s_1.append [(5, I x2)]))) o_0 ⟨64, true⟩) ?_
    refine se (mkE (s_2.append ((5, I x2) :: [(6, I x3)])) o_0 ⟨64, true⟩) ?_
    refine pN ?_
    refine pS ?_
    refine gS 0 ?_
    refine gR 6 (rg Tryz.f57 6) ?_
    refine sg 5 (mkE ((53, I x2) :: ((52, LL I p0_c0) :: ((51, .ba 0 0) :: ((50, .ba 0 0) :: ((49, .ba 0 0) :: (s_2.append ((5, I x2) :: [(6, I x3)]))))))) o_0 ⟨64, true⟩) ?_
    refine vo 54 (addrE 22 3 1 I .i64 p0_c0 x2) (fun x4 => ?_)
    refine sg 7 (mkE ((55, I x4) :: ((54, .ia [I x4] 0) :: ((53, I x2) :: ((52, LL I p0_c0) :: ((51, .ba 0 0) :: ((50, .ba 0 0) :: ((49, .ba 0 0) :: (s_2.append ((5, I x2) :: [(6, I x3)]))))))))) o_0 ⟨64, true⟩) ?_
    refine co 56 [] (h102 x4 1073741824) (fun x5 => ?_)
    refine sg 14 (mkE ((62, I p1) :: ((61, I (addI .i64 x5 (mulI .i64 x3 (addI .i64 7919 x2)))) :: ((60, I (mulI .i64 x3 (addI .i64 7919 x2))) :: ((59, I (addI .i64 7919 x2)) :: ((58, I x2) :: ((57, I x3) :: ((56, I x5) :: ((55, I x4) :: ((54, .ia [I x4] 0) :: ((53, I x2) :: ((52, LL I p0_c0) :: ((51, .ba 0 0) :: ((50, .ba 0 0) :: ((49, .ba 0 0) :: (s_2.append ((5, I x2) :: [(6, I x3)])))))))))))))))) o_0 ⟨64, true⟩) ?_
    refine co 63 [] (h102 (addI .i64 x5 (mulI .i64 x3 (addI .i64 7919 x2))) p1) (fun x6 => ?_)
    refine se (mkE [(0, .ba 0 0), (4, I x6)] o_0 ⟨64, true⟩) ?_
    refine pN ?_
    refine pS ?_
    refine gE ?_
    exact pL
theorem F57 (m : Nat) (hm : 2 ≤ m) (p0_c0 : (List Int)) (p0_c1 : Int) (p1 : Int) : callA Tryz.prog cfg m 57 [.fb [LL I p0_c0, I p0_c1], I p1] = (T57 p0_c0 p0_c1 p1).map (fun (r : (Int × (List Int) × Int)) => AV.inp (I r.1) (.fb [LL I r.2.1, I r.2.2])) := by
  obtain ⟨q, rfl⟩ : ∃ q, m = q + 1 := ⟨m - 1, by omega⟩
  exact (callA_bodyI (fn := Tryz.f57) (c := body_ Tryz.f57) q _ (by kernel_rfl) (by kernel_rfl) (by kernel_rfl)).trans (B57 _ (fun p0 p1 => F102 q (by omega) p0 p1) p0_c0 p0_c1 p1)

noncomputable def T75 (p0_c0 : (List Int)) (p0_c1 : Int) (p1 : (List Int)) : Option (Int × (List Int) × Int) := ((T57 p0_c0 p0_c1 (lenL p1)).bind fun x1 => ((listAt p1 x1.1).bind fun x2 => (some (x2, x1.2.1, x1.2.2))))
theorem B75 (C : Callee) (h57 : ∀ (p0_c0 : (List Int)) (p0_c1 : Int) (p1 : Int), C 57 [.fb [LL I p0_c0, I p0_c1], I p1] = (T57 p0_c0 p0_c1 p1).map (fun (r : (Int × (List Int) × Int)) => AV.inp (I r.1) (.fb [LL I r.2.1, I r.2.2]))) (p0_c0 : (List Int)) (p0_c1 : Int) (p1 : (List Int)) : runs Tryz.prog C (cfg.fn 75) (finFnI Tryz.prog Tryz.f75) [] (execA Tryz.prog C (cfg.fn 75) (nr Tryz.f75 []) (frame0 [.fb [LL I p0_c0, I p0_c1], LL I p1] 12 true)) = (T75 p0_c0 p0_c1 p1).map (fun (r : (Int × (List Int) × Int)) => AV.inp (I r.1) (.fb [LL I r.2.1, I r.2.2])) := by
  unfold T75
  refine gS 1 ?_
  refine gR 0 (rg Tryz.f75 0) ?_
  refine se (mkE [(0, .ba 0 0), (1, LL I p1)] [(0, .box [LL I p0_c0, I p0_c1] false)] ⟨12, true⟩) ?_
  refine pN ?_
  refine pS ?_
  refine gS 0 ?_
  refine gR 1 (rg Tryz.f75 1) ?_
  refine sg 3 (mkE [(7, LL I p1), (6, .ba 0 0), (5, LL I p1), (0, .ba 0 0), (1, LL I p1)] [(0, .box [LL I p0_c0, I p0_c1] false)] ⟨12, true⟩) ?_
  refine eo 8 (I (lenL p1)) (lenE 22 I p1) ?_
  refine mo (some 9) (ipB 57 0 [LL I p0_c0, I p0_c1] [LL I p0_c0, I p0_c1] [I (lenL p1)] [I (lenL p1)] [] (fun x : (Int × (List Int) × Int) => I x.1) (fun x : (Int × (List Int) × Int) => [LL I x.2.1, I x.2.2]) (h57 p0_c0 p0_c1 (lenL p1))) (fun x1 => ?_)
  refine vo 10 (addrE 22 3 1 I .i64 p1 x1.1) (fun x2 => ?_)
  refine se (mkE [(0, .ba 0 0), (4, I x2)] [(0, .box [LL I x1.2.1, I x1.2.2] false)] ⟨12, true⟩) ?_
  refine pN ?_
  refine pS ?_
  refine gE ?_
  exact pL
theorem F75 (m : Nat) (hm : 3 ≤ m) (p0_c0 : (List Int)) (p0_c1 : Int) (p1 : (List Int)) : callA Tryz.prog cfg m 75 [.fb [LL I p0_c0, I p0_c1], LL I p1] = (T75 p0_c0 p0_c1 p1).map (fun (r : (Int × (List Int) × Int)) => AV.inp (I r.1) (.fb [LL I r.2.1, I r.2.2])) := by
  obtain ⟨q, rfl⟩ : ∃ q, m = q + 1 := ⟨m - 1, by omega⟩
  exact (callA_bodyI (fn := Tryz.f75) (c := body_ Tryz.f75) q _ (by kernel_rfl) (by kernel_rfl) (by kernel_rfl)).trans (B75 _ (fun p0_c0 p0_c1 p1 => F57 q (by omega) p0_c0 p0_c1 p1) p0_c0 p0_c1 p1)

noncomputable def T14 (p0_c0 : (List Int)) (p0_c1 : Int) (p1 : Int) (p2 : Int) : Option (Int × (List Int) × Int) := (bif (ltI p2 p1) then (some (p1, p0_c0, p0_c1)) else ((T57 p0_c0 p0_c1 (addI .i64 (subI .i64 p2 p1) 1)).bind fun x1 => (some ((addI .i64 p1 x1.1), x1.2.1, x1.2.2))))
theorem B14 (C : Callee) (h57 : ∀ (p0_c0 : (List Int)) (p0_c1 : Int) (p1 : Int), C 57 [.fb [LL I p0_c0, I p0_c1], I p1] = (T57 p0_c0 p0_c1 p1).map (fun (r : (Int × (List Int) × Int)) => AV.inp (I r.1) (.fb [LL I r.2.1, I r.2.2]))) (p0_c0 : (List Int)) (p0_c1 : Int) (p1 : Int) (p2 : Int) : runs Tryz.prog C (cfg.fn 14) (finFnI Tryz.prog Tryz.f14) [] (execA Tryz.prog C (cfg.fn 14) (nr Tryz.f14 []) (frame0 [.fb [LL I p0_c0, I p0_c1], I p1, I p2] 19 true)) = (T14 p0_c0 p0_c1 p1 p2).map (fun (r : (Int × (List Int) × Int)) => AV.inp (I r.1) (.fb [LL I r.2.1, I r.2.2])) := by
  unfold T14
  refine gS 1 ?_
  refine gR 0 (rg Tryz.f14 0) ?_
  refine se (mkE [(0, .ba 0 0), (1, I p1), (2, I p2)] [(0, .box [LL I p0_c0, I p0_c1] false)] ⟨19, true⟩) ?_
  refine pN ?_
  refine pS ?_
  refine gS 3 ?_
  refine gS 0 ?_
  refine gR 1 (rg Tryz.f14 1) ?_
  refine se (mkE [(0, .ba 0 0), (1, I p1), (2, I p2), (9, B (ltI p2 p1))] [(0, .box [LL I p0_c0, I p0_c1] false)] ⟨19, true⟩) ?_
  refine pN ?_
  refine pS ?_
  refine gC 9 (ltI p2 p1) ?_ ?_
  · refine gS 0 ?_
    refine gR 2 (rg Tryz.f14 2) ?_
    refine se (mkE [(0, .ba 0 0), (6, I p1)] [(0, .box [LL I p0_c0, I p0_c1] false)] ⟨19, true⟩) ?_
    refine pN ?_
    refine pS ?_
    refine gE ?_
    exact pL
  · refine gK ?_
    refine pN ?_
    refine pS ?_
    refine gS 0 ?_
    refine gR 3 (rg Tryz.f14 3) ?_
    refine sg 6 (mkE [(16, I (addI .i64 (subI .i64 p2 p1) 1)), (15, I (subI .i64 p2 p1)), (14, I p1), (13, I p2), (12, .ba 0 0), (11, I p1), (0, .ba 0 0), (1, I p1), (2, I p2), (9, B (ltI p2 p1))] [(0, .box [LL I p0_c0, I p0_c1] false)] ⟨19, true⟩) ?_
    refine mo (some 17) (ipB 57 0 [LL I p0_c0, I p0_c1] [LL I p0_c0, I p0_c1] [I (addI .i64 (subI .i64 p2 p1) 1)] [I (addI .i64 (subI .i64 p2 p1) 1)] [] (fun x : (Int × (List Int) × Int) => I x.1) (fun x : (Int × (List Int) × Int) => [LL I x.2.1, I x.2.2]) (h57 p0_c0 p0_c1 (addI .i64 (subI .i64 p2 p1) 1))) (fun x1 => ?_)
    refine se (mkE [(0, .ba 0 0), (6, I (addI .i64 p1 x1.1))] [(0, .box [LL I x1.2.1, I x1.2.2] false)] ⟨19, true⟩) ?_
    refine pN ?_
    refine pS ?_
    refine gE ?_
    exact pL
theorem F14 (m : Nat) (hm : 3 ≤ m) (p0_c0 : (List Int)) (p0_c1 : Int) (p1 : Int) (p2 : Int) : callA Tryz.prog cfg m 14 [.fb [LL I p0_c0, I p0_c1], I p1, I p2] = (T14 p0_c0 p0_c1 p1 p2).map (fun (r : (Int × (List Int) × Int)) => AV.inp (I r.1) (.fb [LL I r.2.1, I r.2.2])) := by
  obtain ⟨q, rfl⟩ : ∃ q, m = q + 1 := ⟨m - 1, by omega⟩
  exact (callA_bodyI (fn := Tryz.f14) (c := body_ Tryz.f14) q _ (by kernel_rfl) (by kernel_rfl) (by kernel_rfl)).trans (B14 _ (fun p0_c0 p0_c1 p1 => F57 q (by omega) p0_c0 p0_c1 p1) p0_c0 p0_c1 p1 p2)

noncomputable def T46 (p0_c0 : (List Int)) (p0_c1 : Int) (p1 : (List ByteArray)) : Option (ByteArray × (List Int) × Int) := ((T57 p0_c0 p0_c1 (lenL p1)).bind fun x1 => ((listAt p1 x1.1).bind fun x2 => (some (x2, x1.2.1, x1.2.2))))
theorem B46 (C : Callee) (h57 : ∀ (p0_c0 : (List Int)) (p0_c1 : Int) (p1 : Int), C 57 [.fb [LL I p0_c0, I p0_c1], I p1] = (T57 p0_c0 p0_c1 p1).map (fun (r : (Int × (List Int) × Int)) => AV.inp (I r.1) (.fb [LL I r.2.1, I r.2.2]))) (p0_c0 : (List Int)) (p0_c1 : Int) (p1 : (List ByteArray)) : runs Tryz.prog C (cfg.fn 46) (finFnI Tryz.prog Tryz.f46) [] (execA Tryz.prog C (cfg.fn 46) (nr Tryz.f46 []) (frame0 [.fb [LL I p0_c0, I p0_c1], LL S p1] 12 true)) = (T46 p0_c0 p0_c1 p1).map (fun (r : (ByteArray × (List Int) × Int)) => AV.inp (S r.1) (.fb [LL I r.2.1, I r.2.2])) := by
  unfold T46
  refine gS 1 ?_
  refine gR 0 (rg Tryz.f46 0) ?_
  refine se (mkE [(0, .ba 0 0), (1, LL S p1)] [(0, .box [LL I p0_c0, I p0_c1] false)] ⟨12, true⟩) ?_
  refine pN ?_
  refine pS ?_
  refine gS 0 ?_
  refine gR 1 (rg Tryz.f46 1) ?_
  refine sg 3 (mkE [(7, LL S p1), (6, .ba 0 0), (5, LL S p1), (0, .ba 0 0), (1, LL S p1)] [(0, .box [LL I p0_c0, I p0_c1] false)] ⟨12, true⟩) ?_
  refine eo 8 (I (lenL p1)) (lenE 61 S p1) ?_
  refine mo (some 9) (ipB 57 0 [LL I p0_c0, I p0_c1] [LL I p0_c0, I p0_c1] [I (lenL p1)] [I (lenL p1)] [] (fun x : (Int × (List Int) × Int) => I x.1) (fun x : (Int × (List Int) × Int) => [LL I x.2.1, I x.2.2]) (h57 p0_c0 p0_c1 (lenL p1))) (fun x1 => ?_)
  refine vo 10 (addrE 61 9 1 S .i64 p1 x1.1) (fun x2 => ?_)
  refine se (mkE [(0, .ba 0 0), (4, S x2)] [(0, .box [LL I x1.2.1, I x1.2.2] false)] ⟨12, true⟩) ?_
  refine pN ?_
  refine pS ?_
  refine gE ?_
  exact pL
theorem F46 (m : Nat) (hm : 3 ≤ m) (p0_c0 : (List Int)) (p0_c1 : Int) (p1 : (List ByteArray)) : callA Tryz.prog cfg m 46 [.fb [LL I p0_c0, I p0_c1], LL S p1] = (T46 p0_c0 p0_c1 p1).map (fun (r : (ByteArray × (List Int) × Int)) => AV.inp (S r.1) (.fb [LL I r.2.1, I r.2.2])) := by
  obtain ⟨q, rfl⟩ : ∃ q, m = q + 1 := ⟨m - 1, by omega⟩
  exact (callA_bodyI (fn := Tryz.f46) (c := body_ Tryz.f46) q _ (by kernel_rfl) (by kernel_rfl) (by kernel_rfl)).trans (B46 _ (fun p0_c0 p0_c1 p1 => F57 q (by omega) p0_c0 p0_c1 p1) p0_c0 p0_c1 p1)

noncomputable def L49_7 (p1 : Int) (z0 : ((List Int) × Int × (List S99) × (List ByteArray) × Int)) (x2 : ByteArray) (x4 : (Int × (List Int) × Int)) (z1 : ((List Int) × Int × (List S99) × Int × (List ByteArray) × Int)) : Option (((List Int) × Int × (List S99) × Int × (List ByteArray) × Int) ⊕ (Int × Int × Bool × (List Int) × Int × (List S99) × (List ByteArray))) := (bif (ltI z1.2.2.2.2.2 x4.1) then ((T46 z1.1 z1.2.1 ([(ByteArray.mk #[105, 97]), (ByteArray.mk #[105, 98])] : List ByteArray)).bind fun x5 => ((T75 x5.2.1 x5.2.2 ([1, 5, 10, 20] : List Int)).bind fun x6 => ((T75 x6.2.1 x6.2.2 ([1, 5, 10, 30] : List Int)).bind fun x7 => ((appO 48 z1.2.2.1 ([(S99.mk x2 x5.1 z1.2.2.2.1 x6.1)] : List S99)).bind fun x8 => (some (.inl (x7.2.1, x7.2.2, x8, (addI .i64 z1.2.2.2.1 x7.1), z1.2.2.2.2.1, (addI .i64 z1.2.2.2.2.2 1)))))))) else (some (.inr (z1.2.2.2.1, z1.2.2.2.2.2, (ltI z1.2.2.2.2.2 x4.1), z1.1, z1.2.1, z1.2.2.1, z1.2.2.2.2.1))))
theorem L49_7_ok (C : Callee) (h46 : ∀ (p0_c0 : (List Int)) (p0_c1 : Int) (p1 : (List ByteArray)), C 46 [.fb [LL I p0_c0, I p0_c1], LL S p1] = (T46 p0_c0 p0_c1 p1).map (fun (r : (ByteArray × (List Int) × Int)) => AV.inp (S r.1) (.fb [LL I r.2.1, I r.2.2]))) (h75 : ∀ (p0_c0 : (List Int)) (p0_c1 : Int) (p1 : (List Int)), C 75 [.fb [LL I p0_c0, I p0_c1], LL I p1] = (T75 p0_c0 p0_c1 p1).map (fun (r : (Int × (List Int) × Int)) => AV.inp (I r.1) (.fb [LL I r.2.1, I r.2.2]))) (p1 : Int) (z0 : ((List Int) × Int × (List S99) × (List ByteArray) × Int)) (x2 : ByteArray) (x4 : (Int × (List Int) × Int)) (z1 : ((List Int) × Int × (List S99) × Int × (List ByteArray) × Int)) : runs Tryz.prog C (cfg.fn 49) (finLoop ((cfg.fn 49).keep 7) ((cfg.fn 49).al 7)) [] (execA Tryz.prog C (cfg.fn 49) (nr Tryz.f49 [false, false, true, true, true, false, false, true, true, false, false, true, false, true, true]) ((fun z1 : ((List Int) × Int × (List S99) × Int × (List ByteArray) × Int) => (mkE [(0, .ba 0 0), (1, I p1), (5, .own 40 0), (7, S x2), (8, I z1.2.2.2.1), (10, .own 80 0), (11, I (lenL ([(ByteArray.mk #[112, 97]), (ByteArray.mk #[112, 98])] : List ByteArray))), (12, I z0.2.2.2.2), (21, I x4.1), (22, I z1.2.2.2.2.2)] [(0, .box [LL I z1.1, I z1.2.1] false), (40, RR 100 4 a99 z1.2.2.1 0 false), (80, RR 9 1 S z1.2.2.2.2.1 0 false)] ⟨45, true⟩)) z1)) = (L49_7 p1 z0 x2 x4 z1).map (Sum.elim (fun z => .inl ((fun z1 : ((List Int) × Int × (List S99) × Int × (List ByteArray) × Int) => (mkE [(0, .ba 0 0), (1, I p1), (5, .own 40 0), (7, S x2), (8, I z1.2.2.2.1), (10, .own 80 0), (11, I (lenL ([(ByteArray.mk #[112, 97]), (ByteArray.mk #[112, 98])] : List ByteArray))), (12, I z0.2.2.2.2), (21, I x4.1), (22, I z1.2.2.2.2.2)] [(0, .box [LL I z1.1, I z1.2.1] false), (40, RR 100 4 a99 z1.2.2.1 0 false), (80, RR 9 1 S z1.2.2.2.2.1 0 false)] ⟨45, true⟩)) z)) (fun x => .inr ((fun (x : (Int × Int × Bool × (List Int) × Int × (List S99) × (List ByteArray))) => (.exit 2, (mkE [(0, .ba 0 0), (1, I p1), (5, .own 40 0), (7, S x2), (8, I x.1), (10, .own 80 0), (11, I (lenL ([(ByteArray.mk #[112, 97]), (ByteArray.mk #[112, 98])] : List ByteArray))), (12, I z0.2.2.2.2), (21, I x4.1), (22, I x.2.1), (23, B x.2.2.1)] [(0, .box [LL I x.2.2.2.1, I x.2.2.2.2.1] false), (40, RR 100 4 a99 x.2.2.2.2.2.1 0 false), (80, RR 9 1 S x.2.2.2.2.2.2 0 false)] ⟨45, true⟩))) x))) := by
  unfold L49_7
  let s_0 : List (Nat × AV) := [(10, .own 80 0), (11, I (lenL ([(ByteArray.mk #[112, 97]), (ByteArray.mk #[112, 98])] : List ByteArray))), (12, I z0.2.2.2.2), (21, I x4.1), (22, I z1.2.2.2.2.2)]
  let s_1 : List (Nat × AV) := [(0, .ba 0 0), (1, I p1), (5, .own 40 0), (7, S x2)]
  let o_0 : List (Nat × AObj) := [(80, RR 9 1 S z1.2.2.2.2.1 0 false)]
  let o_1 : List (Nat × AObj) := [(40, RR 100 4 a99 z1.2.2.1 0 false)]
  let o_2 : List (Nat × AObj) := [(208, RR 9 1 S ([(ByteArray.mk #[105, 97]), (ByteArray.mk #[105, 98])] : List ByteArray) 0 false), (0, .box [LL I z1.1, I z1.2.1] false)]
  refine gS 0 ?_
  refine gR 7 (rg Tryz.f49 7) ?_
  refine se (mkE (s_1.append ((8, I z1.2.2.2.1) :: (s_0.append [(23, B (ltI z1.2.2.2.2.2 x4.1))]))) ((0, .box [LL I z1.1, I z1.2.1] false) :: (o_1.append o_0)) ⟨45, true⟩) ?_
  refine pN ?_
  refine pS ?_
  refine gS 8 ?_
  refine gC 23 (ltI z1.2.2.2.2.2 x4.1) ?_ ?_
  · refine gK ?_
    refine pN ?_
    refine pS ?_
    refine gS 11 ?_
    refine gB 3 ?_
    refine gS 9 ?_
    refine gR 8 (rg Tryz.f49 8) ?_
    refine sg 3 (mkE ((26, .own 208 0) :: ((25, .ba 0 0) :: ((24, S x2) :: (s_1.append ((8, I z1.2.2.2.1) :: (s_0.append [(23, B (ltI z1.2.2.2.2.2 x4.1))])))))) (o_2.append (o_1.append o_0)) ⟨45, true⟩) ?_
    refine mo (some 27) (ipB 46 0 [LL I z1.1, I z1.2.1] [LL I z1.1, I z1.2.1] [.own 208 0] [LL S ([(ByteArray.mk #[105, 97]), (ByteArray.mk #[105, 98])] : List ByteArray)] [208] (fun x : (ByteArray × (List Int) × Int) => S x.1) (fun x : (ByteArray × (List Int) × Int) => [LL I x.2.1, I x.2.2]) (h46 z1.1 z1.2.1 ([(ByteArray.mk #[105, 97]), (ByteArray.mk #[105, 98])] : List ByteArray))) (fun x5 => ?_)
    refine sg 7 (mkE ((30, .own 240 0) :: ((29, .ba 0 0) :: ((28, I z1.2.2.2.1) :: ((27, S x5.1) :: ((26, .own 208 0) :: ((25, .ba 0 0) :: ((24, S x2) :: (s_1.append ((8, I z1.2.2.2.1) :: (s_0.append [(23, B (ltI z1.2.2.2.2.2 x4.1))])))))))))) ((240, RR 3 1 I ([1, 5, 10, 20] : List Int) 0 false) :: ((0, .box [LL I x5.2.1, I x5.2.2] false) :: ((208, RR 9 1 S ([(ByteArray.mk #[105, 97]), (ByteArray.mk #[105, 98])] : List ByteArray) 0 true) :: (o_2.append (o_1.append o_0))))) ⟨45, true⟩) ?_
    refine mo (some 31) (ipB 75 0 [LL I x5.2.1, I x5.2.2] [LL I x5.2.1, I x5.2.2] [.own 240 0] [LL I ([1, 5, 10, 20] : List Int)] [240] (fun x : (Int × (List Int) × Int) => I x.1) (fun x : (Int × (List Int) × Int) => [LL I x.2.1, I x.2.2]) (h75 x5.2.1 x5.2.2 ([1, 5, 10, 20] : List Int))) (fun x6 => ?_)
    refine se (mkE (s_1.append ((8, I z1.2.2.2.1) :: ((9, .ba 72 0) :: s_0))) ((0, .box [LL I x6.2.1, I x6.2.2] false) :: (o_1.append ((72, .box [S x2, S x5.1, I z1.2.2.2.1, I x6.1] false) :: o_0))) ⟨45, true⟩) ?_
    refine pN ?_
    refine pS ?_
    refine gS 10 ?_
    refine gR 9 (rg Tryz.f49 9) ?_
    refine sg 3 (mkE ((35, .own 280 0) :: ((34, .ba 0 0) :: ((33, I z1.2.2.2.1) :: (s_1.append ((8, I z1.2.2.2.1) :: ((9, .ba 72 0) :: s_0)))))) ((280, RR 3 1 I ([1, 5, 10, 30] : List Int) 0 false) :: ((0, .box [LL I x6.2.1, I x6.2.2] false) :: (o_1.append ((72, .box [S x2, S x5.1, I z1.2.2.2.1, I x6.1] false) :: o_0)))) ⟨45, true⟩) ?_
    refine mo (some 36) (ipB 75 0 [LL I x6.2.1, I x6.2.2] [LL I x6.2.1, I x6.2.2] [.own 280 0] [LL I ([1, 5, 10, 30] : List Int)] [280] (fun x : (Int × (List Int) × Int) => I x.1) (fun x : (Int × (List Int) × Int) => [LL I x.2.1, I x.2.2]) (h75 x6.2.1 x6.2.2 ([1, 5, 10, 30] : List Int))) (fun x7 => ?_)
    refine se (mkE (s_1.append ((8, I (addI .i64 z1.2.2.2.1 x7.1)) :: ((9, .ba 72 0) :: s_0))) ((0, .box [LL I x7.2.1, I x7.2.2] false) :: (o_1.append ((72, .box [S x2, S x5.1, I z1.2.2.2.1, I x6.1] false) :: o_0))) ⟨45, true⟩) ?_
    refine pN ?_
    refine pS ?_
    refine gR 10 (rg Tryz.f49 10) ?_
    refine sg 3 (mkE ((40, .own 320 0) :: ((39, .agg [S x2, S x5.1, I z1.2.2.2.1, I x6.1]) :: ((38, .own 40 0) :: (s_1.append ((8, I (addI .i64 z1.2.2.2.1 x7.1)) :: ((9, .ba 72 0) :: s_0)))))) ((320, RR 100 4 a99 ([(S99.mk x2 x5.1 z1.2.2.2.1 x6.1)] : List S99) 0 false) :: ((0, .box [LL I x7.2.1, I x7.2.2] false) :: (o_1.append ((72, .box [S x2, S x5.1, I z1.2.2.2.1, I x6.1] false) :: o_0)))) ⟨45, true⟩) ?_
    refine mo (some 41) (apO 97 100 4 48 40 a99 0 [320] (y := .own 320 0) (l2 := ([(S99.mk x2 x5.1 z1.2.2.2.1 x6.1)] : List S99))) (fun x8 => ?_)
    refine se (mkE ((0, .ba 0 0) :: ((1, I p1) :: ((5, .own 40 1) :: ((7, S x2) :: ((8, I (addI .i64 z1.2.2.2.1 x7.1)) :: s_0))))) ((0, .box [LL I x7.2.1, I x7.2.2] false) :: ((40, RR 100 4 a99 x8 1 false) :: o_0)) ⟨45, true⟩) ?_
    refine pB ?_
    refine pN ?_
    refine pS ?_
    refine gR 11 (rg Tryz.f49 11) ?_
    refine se (mkE [(0, .ba 0 0), (1, I p1), (5, .own 40 1), (7, S x2), (8, I (addI .i64 z1.2.2.2.1 x7.1)), (10, .own 80 0), (11, I (lenL ([(ByteArray.mk #[112, 97]), (ByteArray.mk #[112, 98])] : List ByteArray))), (12, I z0.2.2.2.2), (21, I x4.1), (22, I (addI .i64 z1.2.2.2.2.2 1))] ((0, .box [LL I x7.2.1, I x7.2.2] false) :: ((40, RR 100 4 a99 x8 1 false) :: o_0)) ⟨45, true⟩) ?_
    exact pL
  · refine gX 2 ?_
    exact pL
noncomputable def L49_3 (p1 : Int) (z0 : ((List Int) × Int × (List S99) × (List ByteArray) × Int)) : Option (((List Int) × Int × (List S99) × (List ByteArray) × Int) ⊕ (Int × Bool × (List Int) × Int × (List S99) × (List ByteArray))) := (bif (ltI z0.2.2.2.2 (lenL ([(ByteArray.mk #[112, 97]), (ByteArray.mk #[112, 98])] : List ByteArray))) then ((idxO (List.length z0.2.2.2.1) z0.2.2.2.2).bind fun x1 => ((getN z0.2.2.2.1 x1).bind fun x2 => ((T75 z0.1 z0.2.1 ([0, 5, 86399990] : List Int)).bind fun x3 => ((T14 x3.2.1 x3.2.2 0 p1).bind fun x4 => ((iter (L49_7 p1 z0 x2 x4) (x4.2.1, x4.2.2, z0.2.2.1, x3.1, z0.2.2.2.1, 0)).bind fun y9 => (some (.inl (y9.2.2.2.1, y9.2.2.2.2.1, y9.2.2.2.2.2.1, y9.2.2.2.2.2.2, (addI .i64 z0.2.2.2.2 1))))))))) else (some (.inr (z0.2.2.2.2, (ltI z0.2.2.2.2 (lenL ([(ByteArray.mk #[112, 97]), (ByteArray.mk #[112, 98])] : List ByteArray))), z0.1, z0.2.1, z0.2.2.1, z0.2.2.2.1))))
theorem L49_3_ok (C : Callee) (h14 : ∀ (p0_c0 : (List Int)) (p0_c1 : Int) (p1 : Int) (p2 : Int), C 14 [.fb [LL I p0_c0, I p0_c1], I p1, I p2] = (T14 p0_c0 p0_c1 p1 p2).map (fun (r : (Int × (List Int) × Int)) => AV.inp (I r.1) (.fb [LL I r.2.1, I r.2.2]))) (h46 : ∀ (p0_c0 : (List Int)) (p0_c1 : Int) (p1 : (List ByteArray)), C 46 [.fb [LL I p0_c0, I p0_c1], LL S p1] = (T46 p0_c0 p0_c1 p1).map (fun (r : (ByteArray × (List Int) × Int)) => AV.inp (S r.1) (.fb [LL I r.2.1, I r.2.2]))) (h75 : ∀ (p0_c0 : (List Int)) (p0_c1 : Int) (p1 : (List Int)), C 75 [.fb [LL I p0_c0, I p0_c1], LL I p1] = (T75 p0_c0 p0_c1 p1).map (fun (r : (Int × (List Int) × Int)) => AV.inp (I r.1) (.fb [LL I r.2.1, I r.2.2]))) (p1 : Int) (z0 : ((List Int) × Int × (List S99) × (List ByteArray) × Int)) : runs Tryz.prog C (cfg.fn 49) (finLoop ((cfg.fn 49).keep 3) ((cfg.fn 49).al 3)) [] (execA Tryz.prog C (cfg.fn 49) (nr Tryz.f49 [false, false, true, false, true, true]) ((fun z0 : ((List Int) × Int × (List S99) × (List ByteArray) × Int) => (mkE [(0, .ba 0 0), (1, I p1), (5, .own 40 0), (10, .own 80 0), (11, I (lenL ([(ByteArray.mk #[112, 97]), (ByteArray.mk #[112, 98])] : List ByteArray))), (12, I z0.2.2.2.2)] [(0, .box [LL I z0.1, I z0.2.1] false), (40, RR 100 4 a99 z0.2.2.1 0 false), (80, RR 9 1 S z0.2.2.2.1 0 false)] ⟨45, true⟩)) z0)) = (L49_3 p1 z0).map (Sum.elim (fun z => .inl ((fun z0 : ((List Int) × Int × (List S99) × (List ByteArray) × Int) => (mkE [(0, .ba 0 0), (1, I p1), (5, .own 40 0), (10, .own 80 0), (11, I (lenL ([(ByteArray.mk #[112, 97]), (ByteArray.mk #[112, 98])] : List ByteArray))), (12, I z0.2.2.2.2)] [(0, .box [LL I z0.1, I z0.2.1] false), (40, RR 100 4 a99 z0.2.2.1 0 false), (80, RR 9 1 S z0.2.2.2.1 0 false)] ⟨45, true⟩)) z)) (fun x => .inr ((fun (x : (Int × Bool × (List Int) × Int × (List S99) × (List ByteArray))) => (.exit 0, (mkE [(0, .ba 0 0), (1, I p1), (5, .own 40 0), (10, .own 80 0), (11, I (lenL ([(ByteArray.mk #[112, 97]), (ByteArray.mk #[112, 98])] : List ByteArray))), (12, I x.1), (13, B x.2.1)] [(0, .box [LL I x.2.2.1, I x.2.2.2.1] false), (40, RR 100 4 a99 x.2.2.2.2.1 0 false), (80, RR 9 1 S x.2.2.2.2.2 0 false)] ⟨45, true⟩))) x))) := by
  unfold L49_3
  let s_0 : List (Nat × AV) := [(10, .own 80 0), (11, I (lenL ([(ByteArray.mk #[112, 97]), (ByteArray.mk #[112, 98])] : List ByteArray))), (12, I z0.2.2.2.2)]
  let s_1 : List (Nat × AV) := [(0, .ba 0 0), (1, I p1), (5, .own 40 0)]
  let o_0 : List (Nat × AObj) := [(40, RR 100 4 a99 z0.2.2.1 0 false), (80, RR 9 1 S z0.2.2.2.1 0 false)]
  refine gS 0 ?_
  refine gR 3 (rg Tryz.f49 3) ?_
  refine se (mkE (s_1.append (s_0.append [(13, B (ltI z0.2.2.2.2 (lenL ([(ByteArray.mk #[112, 97]), (ByteArray.mk #[112, 98])] : List ByteArray))))])) ((0, .box [LL I z0.1, I z0.2.1] false) :: o_0) ⟨45, true⟩) ?_
  refine pN ?_
  refine pS ?_
  refine gS 4 ?_
  refine gC 13 (ltI z0.2.2.2.2 (lenL ([(ByteArray.mk #[112, 97]), (ByteArray.mk #[112, 98])] : List ByteArray))) ?_ ?_
  · refine gK ?_
    refine pN ?_
    refine pS ?_
    refine gS 12 ?_
    refine gB 1 ?_
    refine gS 5 ?_
    refine gR 4 (rg Tryz.f49 4) ?_
    refine vo 14 (addrOE 61 9 1 80 0 false S .i64 z0.2.2.2.1 z0.2.2.2.2) (fun x1 => ?_)
    refine vo 15 (loadOE 9 80 0 x1 0 9 1 1 false false S (fun q : ByteArray => S q) z0.2.2.2.1) (fun x2 => ?_)
    refine se (mkE (s_1.append ((7, S x2) :: s_0)) ((0, .box [LL I z0.1, I z0.2.1] false) :: o_0) ⟨45, true⟩) ?_
    refine pN ?_
    refine pS ?_
    refine gS 6 ?_
    refine gR 5 (rg Tryz.f49 5) ?_
    refine sg 2 (mkE ((17, .own 136 0) :: ((16, .ba 0 0) :: (s_1.append ((7, S x2) :: s_0)))) ((136, RR 3 1 I ([0, 5, 86399990] : List Int) 0 false) :: ((0, .box [LL I z0.1, I z0.2.1] false) :: o_0)) ⟨45, true⟩) ?_
    refine mo (some 18) (ipB 75 0 [LL I z0.1, I z0.2.1] [LL I z0.1, I z0.2.1] [.own 136 0] [LL I ([0, 5, 86399990] : List Int)] [136] (fun x : (Int × (List Int) × Int) => I x.1) (fun x : (Int × (List Int) × Int) => [LL I x.2.1, I x.2.2]) (h75 z0.1 z0.2.1 ([0, 5, 86399990] : List Int))) (fun x3 => ?_)
    refine se (mkE (s_1.append ((7, S x2) :: ((8, I x3.1) :: s_0))) ((0, .box [LL I x3.2.1, I x3.2.2] false) :: o_0) ⟨45, true⟩) ?_
    refine pN ?_
    refine pS ?_
    refine gS 7 ?_
    refine gR 6 (rg Tryz.f49 6) ?_
    refine sg 2 (mkE ((20, I p1) :: ((19, .ba 0 0) :: (s_1.append ((7, S x2) :: ((8, I x3.1) :: s_0))))) ((0, .box [LL I x3.2.1, I x3.2.2] false) :: o_0) ⟨45, true⟩) ?_
    refine mo (some 21) (ipB 14 0 [LL I x3.2.1, I x3.2.2] [LL I x3.2.1, I x3.2.2] [I 0, I p1] [I 0, I p1] [] (fun x : (Int × (List Int) × Int) => I x.1) (fun x : (Int × (List Int) × Int) => [LL I x.2.1, I x.2.2]) (h14 x3.2.1 x3.2.2 0 p1)) (fun x4 => ?_)
    refine se (mkE (s_1.append ((7, S x2) :: ((8, I x3.1) :: (s_0.append ((21, I x4.1) :: [(22, I 0)]))))) ((0, .box [LL I x4.2.1, I x4.2.2] false) :: o_0) ⟨45, true⟩) ?_
    refine pN ?_
    refine pS ?_
    refine gB 2 ?_
    refine lo [(0, none), (1, none), (5, some (100, 4)), (7, none), (8, none), (10, some (9, 1)), (11, none), (12, none), (21, none), (22, none)] [] (L49_7 p1 z0 x2 x4) (fun z1 : ((List Int) × Int × (List S99) × Int × (List ByteArray) × Int) => (mkE (s_1.append ((7, S x2) :: ((8, I z1.2.2.2.1) :: (s_0.append ((21, I x4.1) :: [(22, I z1.2.2.2.2.2)]))))) [(0, .box [LL I z1.1, I z1.2.1] false), (40, RR 100 4 a99 z1.2.2.1 0 false), (80, RR 9 1 S z1.2.2.2.2.1 0 false)] ⟨45, true⟩)) (fun (x : (Int × Int × Bool × (List Int) × Int × (List S99) × (List ByteArray))) => (.exit 2, (mkE (s_1.append ((7, S x2) :: ((8, I x.1) :: (s_0.append ((21, I x4.1) :: ((22, I x.2.1) :: [(23, B x.2.2.1)])))))) [(0, .box [LL I x.2.2.2.1, I x.2.2.2.2.1] false), (40, RR 100 4 a99 x.2.2.2.2.2.1 0 false), (80, RR 9 1 S x.2.2.2.2.2.2 0 false)] ⟨45, true⟩))) (x4.2.1, x4.2.2, z0.2.2.1, x3.1, z0.2.2.2.1, 0) (fun z => L49_7_ok C h46 h75 p1 z0 x2 x4 z) ?_
    intro y9
    refine pH ?_
    refine pB ?_
    refine pN ?_
    refine pS ?_
    refine gR 12 (rg Tryz.f49 12) ?_
    refine se (mkE (s_1.append ((10, .own 80 0) :: ((11, I (lenL ([(ByteArray.mk #[112, 97]), (ByteArray.mk #[112, 98])] : List ByteArray))) :: [(12, I (addI .i64 z0.2.2.2.2 1))]))) [(0, .box [LL I y9.2.2.2.1, I y9.2.2.2.2.1] false), (40, RR 100 4 a99 y9.2.2.2.2.2.1 0 false), (80, RR 9 1 S y9.2.2.2.2.2.2 0 false)] ⟨45, true⟩) ?_
    exact pL
  · refine gX 0 ?_
    exact pL
noncomputable def T49 (p0_c0 : (List Int)) (p0_c1 : Int) (p1 : Int) : Option ((List S99) × (List Int) × Int) := ((iter (L49_3 p1) (p0_c0, p0_c1, [], ([(ByteArray.mk #[112, 97]), (ByteArray.mk #[112, 98])] : List ByteArray), 0)).bind fun y10 => (some (y10.2.2.2.2.1, y10.2.2.1, y10.2.2.2.1)))
theorem B49 (C : Callee) (h14 : ∀ (p0_c0 : (List Int)) (p0_c1 : Int) (p1 : Int) (p2 : Int), C 14 [.fb [LL I p0_c0, I p0_c1], I p1, I p2] = (T14 p0_c0 p0_c1 p1 p2).map (fun (r : (Int × (List Int) × Int)) => AV.inp (I r.1) (.fb [LL I r.2.1, I r.2.2]))) (h46 : ∀ (p0_c0 : (List Int)) (p0_c1 : Int) (p1 : (List ByteArray)), C 46 [.fb [LL I p0_c0, I p0_c1], LL S p1] = (T46 p0_c0 p0_c1 p1).map (fun (r : (ByteArray × (List Int) × Int)) => AV.inp (S r.1) (.fb [LL I r.2.1, I r.2.2]))) (h75 : ∀ (p0_c0 : (List Int)) (p0_c1 : Int) (p1 : (List Int)), C 75 [.fb [LL I p0_c0, I p0_c1], LL I p1] = (T75 p0_c0 p0_c1 p1).map (fun (r : (Int × (List Int) × Int)) => AV.inp (I r.1) (.fb [LL I r.2.1, I r.2.2]))) (p0_c0 : (List Int)) (p0_c1 : Int) (p1 : Int) : runs Tryz.prog C (cfg.fn 49) (finFnI Tryz.prog Tryz.f49) [] (execA Tryz.prog C (cfg.fn 49) (nr Tryz.f49 []) (frame0 [.fb [LL I p0_c0, I p0_c1], I p1] 45 true)) = (T49 p0_c0 p0_c1 p1).map (fun (r : ((List S99) × (List Int) × Int)) => AV.inp (LL a99 r.1) (.fb [LL I r.2.1, I r.2.2])) := by
  unfold T49
  let s_0 : List (Nat × AV) := [(10, .own 80 0), (11, I (lenL ([(ByteArray.mk #[112, 97]), (ByteArray.mk #[112, 98])] : List ByteArray)))]
  refine gS 1 ?_
  refine gR 0 (rg Tryz.f49 0) ?_
  refine se (mkE [(0, .ba 0 0), (1, I p1)] [(0, .box [LL I p0_c0, I p0_c1] false)] ⟨45, true⟩) ?_
  refine pN ?_
  refine pS ?_
  refine gS 2 ?_
  refine gR 1 (rg Tryz.f49 1) ?_
  refine se (mkE [(0, .ba 0 0), (1, I p1), (5, .nils)] [(0, .box [LL I p0_c0, I p0_c1] false)] ⟨45, true⟩) ?_
  refine pN ?_
  refine pS ?_
  refine gS 13 ?_
  refine gS 3 ?_
  refine gR 2 (rg Tryz.f49 2) ?_
  refine sg 1 (mkE [(10, .own 80 0), (0, .ba 0 0), (1, I p1), (5, .nils)] [(80, RR 9 1 S ([(ByteArray.mk #[112, 97]), (ByteArray.mk #[112, 98])] : List ByteArray) 0 false), (0, .box [LL I p0_c0, I p0_c1] false)] ⟨45, true⟩) ?_
  refine eo 11 (I (lenL ([(ByteArray.mk #[112, 97]), (ByteArray.mk #[112, 98])] : List ByteArray))) (lenOE 61 9 1 S ([(ByteArray.mk #[112, 97]), (ByteArray.mk #[112, 98])] : List ByteArray)) ?_
  refine se (mkE ((0, .ba 0 0) :: ((1, I p1) :: ((5, .nils) :: (s_0.append [(12, I 0)])))) [(0, .box [LL I p0_c0, I p0_c1] false), (80, RR 9 1 S ([(ByteArray.mk #[112, 97]), (ByteArray.mk #[112, 98])] : List ByteArray) 0 false)] ⟨45, true⟩) ?_
  refine pN ?_
  refine pS ?_
  refine gB 0 ?_
  refine lo [(0, none), (1, none), (5, some (100, 4)), (10, some (9, 1)), (11, none), (12, none)] [] (L49_3 p1) (fun z0 : ((List Int) × Int × (List S99) × (List ByteArray) × Int) => (mkE ((0, .ba 0 0) :: ((1, I p1) :: ((5, .own 40 0) :: (s_0.append [(12, I z0.2.2.2.2)])))) [(0, .box [LL I z0.1, I z0.2.1] false), (40, RR 100 4 a99 z0.2.2.1 0 false), (80, RR 9 1 S z0.2.2.2.1 0 false)] ⟨45, true⟩)) (fun (x : (Int × Bool × (List Int) × Int × (List S99) × (List ByteArray))) => (.exit 0, (mkE ((0, .ba 0 0) :: ((1, I p1) :: ((5, .own 40 0) :: (s_0.append ((12, I x.1) :: [(13, B x.2.1)]))))) [(0, .box [LL I x.2.2.1, I x.2.2.2.1] false), (40, RR 100 4 a99 x.2.2.2.2.1 0 false), (80, RR 9 1 S x.2.2.2.2.2 0 false)] ⟨45, true⟩))) (p0_c0, p0_c1, [], ([(ByteArray.mk #[112, 97]), (ByteArray.mk #[112, 98])] : List ByteArray), 0) (fun z => L49_3_ok C h14 h46 h75 p1 z) ?_
  intro y10
  refine pH ?_
  refine pN ?_
  refine pS ?_
  refine gS 0 ?_
  refine gR 13 (rg Tryz.f49 13) ?_
  refine se (mkE [(0, .ba 0 0), (4, .own 40 0)] [(0, .box [LL I y10.2.2.1, I y10.2.2.2.1] false), (40, RR 100 4 a99 y10.2.2.2.2.1 0 false)] ⟨45, true⟩) ?_
  refine pN ?_
  refine pS ?_
  refine gE ?_
  exact pL
theorem F49 (m : Nat) (hm : 4 ≤ m) (p0_c0 : (List Int)) (p0_c1 : Int) (p1 : Int) : callA Tryz.prog cfg m 49 [.fb [LL I p0_c0, I p0_c1], I p1] = (T49 p0_c0 p0_c1 p1).map (fun (r : ((List S99) × (List Int) × Int)) => AV.inp (LL a99 r.1) (.fb [LL I r.2.1, I r.2.2])) := by
  obtain ⟨q, rfl⟩ : ∃ q, m = q + 1 := ⟨m - 1, by omega⟩
  exact (callA_bodyI (fn := Tryz.f49) (c := body_ Tryz.f49) q _ (by kernel_rfl) (by kernel_rfl) (by kernel_rfl)).trans (B49 _ (fun p0_c0 p0_c1 p1 p2 => F14 q (by omega) p0_c0 p0_c1 p1 p2) (fun p0_c0 p0_c1 p1 => F46 q (by omega) p0_c0 p0_c1 p1) (fun p0_c0 p0_c1 p1 => F75 q (by omega) p0_c0 p0_c1 p1) p0_c0 p0_c1 p1)

noncomputable def T125 (p0 : S99) (p1 : S99) : Option Int := ((T141 p0.f0 p1.f0).bind fun x1 => ((T142 p0.f2 p1.f2).bind fun x2 => ((T140 ([x1, x2] : List Int)).bind fun x3 => (some x3))))
theorem B125 (C : Callee) (h140 : ∀ (p0 : (List Int)), C 140 [LL I p0] = (T140 p0).map I) (h141 : ∀ (p0 : ByteArray) (p1 : ByteArray), C 141 [S p0, S p1] = (T141 p0 p1).map I) (h142 : ∀ (p0 : Int) (p1 : Int), C 142 [I p0, I p1] = (T142 p0 p1).map I) (p0 : S99) (p1 : S99) : runs Tryz.prog C (cfg.fn 125) (finFn Tryz.prog (cfg.fn 125).byval Tryz.f125) [] (execA Tryz.prog C (cfg.fn 125) (nr Tryz.f125 []) (frame0 [a99 p0, a99 p1] 17 false)) = (T125 p0 p1).map I := by
  unfold T125
  let d_0 : List (Option Nat × REff) := [(some 5, qe (.ba 16 0)), (some 6, qe (S p0.f0)), (some 7, qe (.ba 24 0)), (some 8, qe (S p1.f0))]
  let d_1 : List (Option Nat × REff) := [(some 10, qe (.ba 16 2)), (some 11, qe (I p0.f2)), (some 12, qe (.ba 24 2)), (some 13, qe (I p1.f2))]
  let s_0 : List (Nat × AV) := [(8, S p1.f0), (7, .ba 24 0), (6, S p0.f0), (5, .ba 16 0), (2, .ba 16 0), (3, .ba 24 0)]
  let o_0 : List (Nat × AObj) := [(16, .box [S p0.f0, S p0.f1, I p0.f2, I p0.f3] false), (24, .box [S p1.f0, S p1.f1, I p1.f2, I p1.f3] false)]
  refine gS 1 ?_
  refine gR 0 (rg Tryz.f125 0) ?_
  refine se (mkE [(2, .ba 16 0), (3, .ba 24 0)] o_0 17) ?_
  refine pN ?_
  refine pS ?_
  refine gS 0 ?_
  refine gD 1 13 (rg Tryz.f125 1) [0, 1, 2, 3, 4, 5, 6, 7, 8, 9, 10, 11, 12] ?_
  refine dg 4 d_0 ?_
  refine dc 9 [] (mkE s_0 o_0 17) (h141 p0.f0 p1.f0) (fun x1 => ?_)
  refine dg 9 (d_0.append ((some 9, qe (I x1)) :: d_1)) ?_
  refine dc 14 [] (mkE ((13, I p1.f2) :: ((12, .ba 24 2) :: ((11, I p0.f2) :: ((10, .ba 16 2) :: ((9, I x1) :: s_0))))) o_0 17) (h142 p0.f2 p1.f2) (fun x2 => ?_)
  refine dg 11 (d_0.append ((some 9, qe (I x1)) :: (d_1.append ((some 14, qe (I x2)) :: [(some 15, { e := { val := .own 120 0, news := [(120, RR 3 1 I ([x1, x2] : List Int) 0 false)] } })])))) ?_
  refine dc 16 [120] (mkE ((15, .own 120 0) :: ((14, I x2) :: ((13, I p1.f2) :: ((12, .ba 24 2) :: ((11, I p0.f2) :: ((10, .ba 16 2) :: ((9, I x1) :: s_0))))))) ((120, RR 3 1 I ([x1, x2] : List Int) 0 false) :: o_0) 17) (h140 ([x1, x2] : List Int)) (fun x3 => ?_)
  refine dg 13 (d_0.append ((some 9, qe (I x1)) :: (d_1.append ((some 14, qe (I x2)) :: ((some 15, { e := { val := .own 120 0, news := [(120, RR 3 1 I ([x1, x2] : List Int) 0 false)] } }) :: ((some 16, qe (I x3)) :: [(some 4, qe (I x3))])))))) ?_
  refine de (mkE ((4, I x3) :: ((16, I x3) :: ((15, .own 120 0) :: ((14, I x2) :: ((13, I p1.f2) :: ((12, .ba 24 2) :: ((11, I p0.f2) :: ((10, .ba 16 2) :: ((9, I x1) :: s_0))))))))) ((120, RR 3 1 I ([x1, x2] : List Int) 0 false) :: o_0) 17) ?_
  refine se (mkE [(4, I x3)] [] 17) ?_
  refine pN ?_
  refine pS ?_
  refine gE ?_
  exact pL
theorem F125 (m : Nat) (hm : 3 ≤ m) (p0 : S99) (p1 : S99) : callA Tryz.prog cfg m 125 [a99 p0, a99 p1] = (T125 p0 p1).map I := by
  obtain ⟨q, rfl⟩ : ∃ q, m = q + 1 := ⟨m - 1, by omega⟩
  exact (callA_body (fn := Tryz.f125) (c := body_ Tryz.f125) q _ (by kernel_rfl) (by kernel_rfl) (by kernel_rfl)).trans (B125 _ (fun p0 => F140 q (by omega) p0) (fun p0 p1 => F141 q (by omega) p0 p1) (fun p0 p1 => F142 q (by omega) p0 p1) p0 p1)

noncomputable def L96_4 (p0 : (List S99)) (z0 : Int) : Option (Int ⊕ ((Int × Bool) ⊕ Int)) := (bif (ltI z0 (lenL p0)) then ((listAt p0 z0).bind fun x1 => ((T97 x1.f0).bind fun x2 => (bif (!x2) then (some (.inr (.inr 5))) else ((T97 x1.f1).bind fun x3 => (bif (!x3) then (some (.inr (.inr 5))) else ((T92 x1.f2).bind fun x4 => (bif (!x4) then (some (.inr (.inr 1))) else ((T70 x1.f3 1 86400000).bind fun x5 => (bif x5 then (some (.inr (.inr 1))) else (bif (ltI 0 z0) then ((listAt p0 (subI .i64 z0 1)).bind fun x6 => ((T125 x6 x1).bind fun x7 => (bif (leI 0 x7) then (some (.inr (.inr 7))) else (some (.inl (addI .i64 z0 1)))))) else (some (.inl (addI .i64 z0 1))))))))))))) else (some (.inr (.inl (z0, (ltI z0 (lenL p0)))))))
theorem L96_4_ok (C : Callee) (h125 : ∀ (p0 : S99) (p1 : S99), C 125 [a99 p0, a99 p1] = (T125 p0 p1).map I) (h70 : ∀ (p0 : Int) (p1 : Int) (p2 : Int), C 70 [I p0, I p1, I p2] = (T70 p0 p1 p2).map B) (h92 : ∀ (p0 : Int), C 92 [I p0] = (T92 p0).map B) (h97 : ∀ (p0 : ByteArray), C 97 [S p0] = (T97 p0).map B) (p0 : (List S99)) (z0 : Int) : runs Tryz.prog C (cfg.fn 96) (finLoop ((cfg.fn 96).keep 4) ((cfg.fn 96).al 4)) [] (execA Tryz.prog C (cfg.fn 96) (nr Tryz.f96 [false, false, true, false, true, true]) ((fun z0 : Int => (mkE [(0, LL a99 p0), (8, LL a99 p0), (9, I (lenL p0)), (10, I z0)] [] 50)) z0)) = (L96_4 p0 z0).map (Sum.elim (fun z => .inl ((fun z0 : Int => (mkE [(0, LL a99 p0), (8, LL a99 p0), (9, I (lenL p0)), (10, I z0)] [] 50)) z)) (fun x => .inr ((Sum.elim (fun (x : (Int × Bool)) => (.exit 0, (mkE [(0, LL a99 p0), (8, LL a99 p0), (9, I (lenL p0)), (10, I x.1), (11, B x.2)] [] 50))) (fun (x : Int) => (.ret, (mkE [(2, I x)] [] 50)))) x))) := by
  unfold L96_4
  let d_0 : List (Option Nat × REff) := [(some 37, qe (I z0)), (some 38, qe (B (ltI 0 z0))), (some 39, qe (B true)), (some 40, qe (LL a99 p0)), (some 41, qe (I z0)), (some 42, qe (I (subI .i64 z0 1)))]
  let s_0 : List (Nat × AV) := [(0, LL a99 p0), (3, I z0), (4, .ba 32 0), (8, LL a99 p0), (9, I (lenL p0)), (10, I z0)]
  let s_1 : List (Nat × AV) := [(0, LL a99 p0), (8, LL a99 p0), (9, I (lenL p0))]
  let s_2 : List (Nat × AV) := [(42, I (subI .i64 z0 1)), (41, I z0), (40, LL a99 p0), (39, B true), (38, B (ltI 0 z0)), (37, I z0)]
  refine gS 0 ?_
  refine gR 4 (rg Tryz.f96 4) ?_
  refine se (mkE (s_1.append ((10, I z0) :: [(11, B (ltI z0 (lenL p0)))])) [] 50) ?_
  refine pN ?_
  refine pS ?_
  refine gS 5 ?_
  refine gC 11 (ltI z0 (lenL p0)) ?_ ?_
  · refine gK ?_
    refine pN ?_
    refine pS ?_
    refine gS 12 ?_
    refine gB 1 ?_
    refine gS 6 ?_
    refine gR 5 (rg Tryz.f96 5) ?_
    refine sg 1 (mkE ((12, I z0) :: (s_1.append ((10, I z0) :: [(11, B (ltI z0 (lenL p0)))]))) [] 50) ?_
    refine vo 13 (addrE 97 100 4 a99 .i64 p0 z0) (fun x1 => ?_)
    refine se (mkE s_0 [(32, .box [S x1.f0, S x1.f1, I x1.f2, I x1.f3] false)] 50) ?_
    refine pN ?_
    refine pS ?_
    refine gB 2 ?_
    refine gS 0 ?_
    refine gR 6 (rg Tryz.f96 6) ?_
    refine sg 2 (mkE ((17, S x1.f0) :: ((16, .ba 32 0) :: s_0)) [(32, .box [S x1.f0, S x1.f1, I x1.f2, I x1.f3] false)] 50) ?_
    refine co 18 [] (h97 x1.f0) (fun x2 => ?_)
    refine sg 5 (mkE ((20, B (!x2)) :: ((19, B (!x2)) :: ((18, B x2) :: ((17, S x1.f0) :: ((16, .ba 32 0) :: s_0))))) [(32, .box [S x1.f0, S x1.f1, I x1.f2, I x1.f3] false)] 50) ?_
    refine sb 20 (!x2) ?_ ?_
    · refine se (mkE (s_0.append [(15, B true)]) [(32, .box [S x1.f0, S x1.f1, I x1.f2, I x1.f3] false)] 50) ?_
      refine pN ?_
      refine pS ?_
      refine gT (.tmp 15) ?_
      refine gS 0 ?_
      refine gR 7 (rg Tryz.f96 7) ?_
      refine se (mkE [(2, I 5)] [] 50) ?_
      refine pN ?_
      refine pS ?_
      refine gE ?_
      exact pL
    · refine sg 7 (mkE ((22, S x1.f1) :: ((21, .ba 32 1) :: ((20, B false) :: ((20, B (!x2)) :: ((19, B (!x2)) :: ((18, B x2) :: ((17, S x1.f0) :: ((16, .ba 32 0) :: s_0)))))))) [(32, .box [S x1.f0, S x1.f1, I x1.f2, I x1.f3] false)] 50) ?_
      refine co 23 [] (h97 x1.f1) (fun x3 => ?_)
      refine se (mkE (s_0.append [(15, B (!x3))]) [(32, .box [S x1.f0, S x1.f1, I x1.f2, I x1.f3] false)] 50) ?_
      refine pN ?_
      refine pS ?_
      refine gC 15 (!x3) ?_ ?_
      · refine gS 0 ?_
        refine gR 7 (rg Tryz.f96 7) ?_
        refine se (mkE [(2, I 5)] [] 50) ?_
        refine pN ?_
        refine pS ?_
        refine gE ?_
        exact pL
      · refine gS 0 ?_
        refine gR 8 (rg Tryz.f96 8) ?_
        refine sg 2 (mkE ((28, I x1.f2) :: ((27, .ba 32 2) :: (s_0.append [(15, B (!x3))]))) [(32, .box [S x1.f0, S x1.f1, I x1.f2, I x1.f3] false)] 50) ?_
        refine co 29 [] (h92 x1.f2) (fun x4 => ?_)
        refine sg 5 (mkE ((31, B (!x4)) :: ((30, B (!x4)) :: ((29, B x4) :: ((28, I x1.f2) :: ((27, .ba 32 2) :: (s_0.append [(15, B (!x3))])))))) [(32, .box [S x1.f0, S x1.f1, I x1.f2, I x1.f3] false)] 50) ?_
        refine sb 31 (!x4) ?_ ?_
        · refine se (mkE (s_0.append [(26, B true)]) [(32, .box [S x1.f0, S x1.f1, I x1.f2, I x1.f3] false)] 50) ?_
          refine pN ?_
          refine pS ?_
          refine gT (.tmp 26) ?_
          refine gS 0 ?_
          refine gR 9 (rg Tryz.f96 9) ?_
          refine se (mkE [(2, I 1)] [] 50) ?_
          refine pN ?_
          refine pS ?_
          refine gE ?_
          exact pL
        · refine sg 7 (mkE ((33, I x1.f3) :: ((32, .ba 32 3) :: ((31, B false) :: ((31, B (!x4)) :: ((30, B (!x4)) :: ((29, B x4) :: ((28, I x1.f2) :: ((27, .ba 32 2) :: (s_0.append [(15, B (!x3))]))))))))) [(32, .box [S x1.f0, S x1.f1, I x1.f2, I x1.f3] false)] 50) ?_
          refine co 34 [] (h70 x1.f3 1 86400000) (fun x5 => ?_)
          refine se (mkE (s_0.append [(26, B x5)]) [(32, .box [S x1.f0, S x1.f1, I x1.f2, I x1.f3] false)] 50) ?_
          refine pN ?_
          refine pS ?_
          refine gC 26 x5 ?_ ?_
          · refine gS 0 ?_
            refine gR 9 (rg Tryz.f96 9) ?_
            refine se (mkE [(2, I 1)] [] 50) ?_
            refine pN ?_
            refine pS ?_
            refine gE ?_
            exact pL
          · refine gS 0 ?_
            refine gD 10 13 (rg Tryz.f96 10) [0, 1, 2, 3, 4, 5, 6, 7, 8, 9, 10, 11, 12] ?_
            refine dg 3 [(some 37, qe (I z0)), (some 38, qe (B (ltI 0 z0))), (some 39, qe (B (ltI 0 z0)))] ?_
            refine db 2 39 (ltI 0 z0) ?_ ?_
            · refine dg 6 d_0 ?_
              refine dv 43 (mkE (s_2.append (s_0.append [(26, B x5)])) [(32, .box [S x1.f0, S x1.f1, I x1.f2, I x1.f3] false)] 50) (addrE 97 100 4 a99 .i64 p0 (subI .i64 z0 1)) (fun x6 => ?_)
              refine dg 9 (d_0.append ((some 43, qe (.ia [S x6.f0, S x6.f1, I x6.f2, I x6.f3] 0)) :: ((some 44, qe (a99 x6)) :: [(some 45, qe (a99 x1))]))) ?_
              refine dc 46 [] (mkE ((45, a99 x1) :: ((44, a99 x6) :: ((43, .ia [S x6.f0, S x6.f1, I x6.f2, I x6.f3] 0) :: (s_2.append (s_0.append [(26, B x5)]))))) [(32, .box [S x1.f0, S x1.f1, I x1.f2, I x1.f3] false)] 50) (h125 x6 x1) (fun x7 => ?_)
              refine dg 13 (d_0.append ((some 43, qe (.ia [S x6.f0, S x6.f1, I x6.f2, I x6.f3] 0)) :: ((some 44, qe (a99 x6)) :: ((some 45, qe (a99 x1)) :: ((some 46, qe (I x7)) :: ((some 47, qe (B (leI 0 x7))) :: ((some 48, qe (B (leI 0 x7))) :: [(some 36, qe (B (leI 0 x7)))]))))))) ?_
              refine de (mkE ((36, B (leI 0 x7)) :: ((48, B (leI 0 x7)) :: ((47, B (leI 0 x7)) :: ((46, I x7) :: ((45, a99 x1) :: ((44, a99 x6) :: ((43, .ia [S x6.f0, S x6.f1, I x6.f2, I x6.f3] 0) :: (s_2.append (s_0.append [(26, B x5)]))))))))) [(32, .box [S x1.f0, S x1.f1, I x1.f2, I x1.f3] false)] 50) ?_
              refine se (mkE (s_1.append ((10, I z0) :: [(36, B (leI 0 x7))])) [] 50) ?_
              refine pN ?_
              refine pS ?_
              refine gC 36 (leI 0 x7) ?_ ?_
              · refine gS 0 ?_
                refine gR 11 (rg Tryz.f96 11) ?_
                refine se (mkE [(2, I 7)] [] 50) ?_
                refine pN ?_
                refine pS ?_
                refine gE ?_
                exact pL
              · refine gK ?_
                refine pB ?_
                refine pB ?_
                refine pN ?_
                refine pS ?_
                refine gR 12 (rg Tryz.f96 12) ?_
                refine se (mkE (s_1.append [(10, I (addI .i64 z0 1))]) [] 50) ?_
                exact pL
            · refine dg 13 [(some 37, qe (I z0)), (some 38, qe (B (ltI 0 z0))), (some 39, qe (B false)), (some 40, qe (.und)), (some 41, qe (.und)), (some 42, qe (.und)), (some 43, qe (.und)), (some 44, qe (.und)), (some 45, qe (.und)), (some 46, qe (.und)), (some 47, qe (.und)), (some 48, qe (B false)), (some 36, qe (B false))] ?_
              refine de (mkE ((36, B false) :: ((48, B false) :: ((47, .und) :: ((46, .und) :: ((45, .und) :: ((44, .und) :: ((43, .und) :: ((42, .und) :: ((41, .und) :: ((40, .und) :: ((39, B false) :: ((38, B (ltI 0 z0)) :: ((37, I z0) :: (s_0.append [(26, B x5)])))))))))))))) [(32, .box [S x1.f0, S x1.f1, I x1.f2, I x1.f3] false)] 50) ?_
              refine se (mkE (s_1.append ((10, I z0) :: [(36, B false)])) [] 50) ?_
              refine pN ?_
              refine pS ?_
              refine gF (.tmp 36) ?_
              refine gK ?_
              refine pB ?_
              refine pB ?_
              refine pN ?_
              refine pS ?_
              refine gR 12 (rg Tryz.f96 12) ?_
              refine se (mkE (s_1.append [(10, I (addI .i64 z0 1))]) [] 50) ?_
              exact pL
  · refine gX 0 ?_
    exact pL
noncomputable def T96 (p0 : (List S99)) : Option Int := (bif (ltI 3000 (lenL p0)) then (some 2) else ((iter (L96_4 p0) 0).bind fun y8 => (Sum.elim (fun y8a => (some 0)) (fun y8b => (some y8b)) y8)))
theorem B96 (C : Callee) (h125 : ∀ (p0 : S99) (p1 : S99), C 125 [a99 p0, a99 p1] = (T125 p0 p1).map I) (h70 : ∀ (p0 : Int) (p1 : Int) (p2 : Int), C 70 [I p0, I p1, I p2] = (T70 p0 p1 p2).map B) (h92 : ∀ (p0 : Int), C 92 [I p0] = (T92 p0).map B) (h97 : ∀ (p0 : ByteArray), C 97 [S p0] = (T97 p0).map B) (p0 : (List S99)) : runs Tryz.prog C (cfg.fn 96) (finFn Tryz.prog (cfg.fn 96).byval Tryz.f96) [] (execA Tryz.prog C (cfg.fn 96) (nr Tryz.f96 []) (frame0 [LL a99 p0] 50 false)) = (T96 p0).map I := by
  unfold T96
  let s_0 : List (Nat × AV) := [(0, LL a99 p0), (8, LL a99 p0), (9, I (lenL p0))]
  refine gS 1 ?_
  refine gR 0 (rg Tryz.f96 0) ?_
  refine se (mkE [(0, LL a99 p0)] [] 50) ?_
  refine pN ?_
  refine pS ?_
  refine gS 3 ?_
  refine gS 0 ?_
  refine gR 1 (rg Tryz.f96 1) ?_
  refine sg 1 (mkE [(5, LL a99 p0), (0, LL a99 p0)] [] 50) ?_
  refine eo 6 (I (lenL p0)) (lenE 97 a99 p0) ?_
  refine se (mkE [(0, LL a99 p0), (7, B (ltI 3000 (lenL p0)))] [] 50) ?_
  refine pN ?_
  refine pS ?_
  refine gC 7 (ltI 3000 (lenL p0)) ?_ ?_
  · refine gS 0 ?_
    refine gR 2 (rg Tryz.f96 2) ?_
    refine se (mkE [(2, I 2)] [] 50) ?_
    refine pN ?_
    refine pS ?_
    refine gE ?_
    exact pL
  · refine gK ?_
    refine pN ?_
    refine pS ?_
    refine gS 13 ?_
    refine gS 4 ?_
    refine gR 3 (rg Tryz.f96 3) ?_
    refine sg 1 (mkE [(8, LL a99 p0), (0, LL a99 p0), (7, B (ltI 3000 (lenL p0)))] [] 50) ?_
    refine eo 9 (I (lenL p0)) (lenE 97 a99 p0) ?_
    refine se (mkE (s_0.append [(10, I 0)]) [] 50) ?_
    refine pN ?_
    refine pS ?_
    refine gB 0 ?_
    refine lo [(0, none), (8, none), (9, none), (10, none)] [] (L96_4 p0) (fun z0 : Int => (mkE (s_0.append [(10, I z0)]) [] 50)) (Sum.elim (fun (x : (Int × Bool)) => (.exit 0, (mkE (s_0.append ((10, I x.1) :: [(11, B x.2)])) [] 50))) (fun (x : Int) => (.ret, (mkE [(2, I x)] [] 50)))) 0 (fun z => L96_4_ok C h125 h70 h92 h97 p0 z) ?_
    intro y8
    refine ss y8 (Z := (Sum.elim (fun (x : (Int × Bool)) => (.exit 0, (mkE (s_0.append ((10, I x.1) :: [(11, B x.2)])) [] 50))) (fun (x : Int) => (.ret, (mkE [(2, I x)] [] 50))))) (fun y8a => ?_) (fun y8b => ?_)
    · refine pH ?_
      refine pN ?_
      refine pS ?_
      refine gS 0 ?_
      refine gR 13 (rg Tryz.f96 13) ?_
      refine se (mkE [(2, I 0)] [] 50) ?_
      refine pN ?_
      refine pS ?_
      refine gE ?_
      exact pL
    · exact pL
theorem F96 (m : Nat) (hm : 4 ≤ m) (p0 : (List S99)) : callA Tryz.prog cfg m 96 [LL a99 p0] = (T96 p0).map I := by
  obtain ⟨q, rfl⟩ : ∃ q, m = q + 1 := ⟨m - 1, by omega⟩
  exact (callA_body (fn := Tryz.f96) (c := body_ Tryz.f96) q _ (by kernel_rfl) (by kernel_rfl) (by kernel_rfl)).trans (B96 _ (fun p0 p1 => F125 q (by omega) p0 p1) (fun p0 p1 p2 => F70 q (by omega) p0 p1 p2) (fun p0 => F92 q (by omega) p0) (fun p0 => F97 q (by omega) p0) p0)

noncomputable def L50_11 (p0 : (List S99)) (p1 : ByteArray) (p2 : S92) (z0 : ((List S92) × Int × Int)) : Option (((List S92) × Int × Int) ⊕ (Int × Int × Bool × (List S92))) := (bif (ltI z0.2.2 (lenL p0)) then ((listAt p0 z0.2.2).bind fun x4 => (bif (!eqS x4.f0 p1) then (some (.inl (z0.1, z0.2.1, (addI .i64 z0.2.2 1)))) else (bif (leI p2.f1 z0.2.1) then (some (.inl (z0.1, z0.2.1, (addI .i64 z0.2.2 1)))) else (bif (ltI z0.2.1 (minI x4.f2 p2.f1)) then ((appO 16 z0.1 ([(S92.mk z0.2.1 (minI x4.f2 p2.f1))] : List S92)).bind fun x5 => (some (.inl (x5, (maxI z0.2.1 (addI .i64 x4.f2 x4.f3)), (addI .i64 z0.2.2 1))))) else (some (.inl (z0.1, (maxI z0.2.1 (addI .i64 x4.f2 x4.f3)), (addI .i64 z0.2.2 1)))))))) else (some (.inr (z0.2.1, z0.2.2, (ltI z0.2.2 (lenL p0)), z0.1))))
theorem L50_11_ok (C : Callee) (p0 : (List S99)) (p1 : ByteArray) (p2 : S92) (z0 : ((List S92) × Int × Int)) : runs Tryz.prog C (cfg.fn 50) (finLoop ((cfg.fn 50).keep 11) ((cfg.fn 50).al 11)) [] (execA Tryz.prog C (cfg.fn 50) (nr Tryz.f50 [false, false, true, false, true, true, true, true, true, true]) ((fun z0 : ((List S92) × Int × Int) => (mkE [(1, S p1), (5, .ba 40 0), (9, .own 72 0), (10, I z0.2.1), (34, LL a99 p0), (35, I (lenL p0)), (36, I z0.2.2)] [(40, .box [I p2.f0, I p2.f1] false), (72, RR 93 2 a92 z0.1 0 false)] 84)) z0)) = (L50_11 p0 p1 p2 z0).map (Sum.elim (fun z => .inl ((fun z0 : ((List S92) × Int × Int) => (mkE [(1, S p1), (5, .ba 40 0), (9, .own 72 0), (10, I z0.2.1), (34, LL a99 p0), (35, I (lenL p0)), (36, I z0.2.2)] [(40, .box [I p2.f0, I p2.f1] false), (72, RR 93 2 a92 z0.1 0 false)] 84)) z)) (fun x => .inr ((fun (x : (Int × Int × Bool × (List S92))) => (.exit 0, (mkE [(1, S p1), (5, .ba 40 0), (9, .own 72 0), (10, I x.1), (34, LL a99 p0), (35, I (lenL p0)), (36, I x.2.1), (37, B x.2.2.1)] [(40, .box [I p2.f0, I p2.f1] false), (72, RR 93 2 a92 x.2.2.2 0 false)] 84))) x))) := by
  unfold L50_11
  let s_0 : List (Nat × AV) := [(1, S p1), (5, .ba 40 0), (9, .own 72 0), (10, I z0.2.1)]
  let s_1 : List (Nat × AV) := [(34, LL a99 p0), (35, I (lenL p0)), (36, I z0.2.2)]
  let s_2 : List (Nat × AV) := [(34, LL a99 p0), (35, I (lenL p0)), (36, I (addI .i64 z0.2.2 1))]
  let o_0 : List (Nat × AObj) := [(40, .box [I p2.f0, I p2.f1] false), (72, RR 93 2 a92 z0.1 0 false)]
  refine gS 0 ?_
  refine gR 11 (rg Tryz.f50 11) ?_
  refine se (mkE (s_0.append (s_1.append [(37, B (ltI z0.2.2 (lenL p0)))])) o_0 84) ?_
  refine pN ?_
  refine pS ?_
  refine gS 12 ?_
  refine gC 37 (ltI z0.2.2 (lenL p0)) ?_ ?_
  · refine gK ?_
    refine pN ?_
    refine pS ?_
    refine gS 18 ?_
    refine gB 1 ?_
    refine gS 13 ?_
    refine gR 12 (rg Tryz.f50 12) ?_
    refine vo 38 (addrE 97 100 4 a99 .i64 p0 z0.2.2) (fun x4 => ?_)
    refine se (mkE (s_0.append ((12, .ba 96 0) :: s_1)) (o_0.append [(96, .box [S x4.f0, S x4.f1, I x4.f2, I x4.f3] false)]) 84) ?_
    refine pN ?_
    refine pS ?_
    refine gS 14 ?_
    refine gS 0 ?_
    refine gR 13 (rg Tryz.f50 13) ?_
    refine sg 5 (mkE ((44, B (!eqS x4.f0 p1)) :: ((43, B (!eqS x4.f0 p1)) :: ((42, S p1) :: ((41, S x4.f0) :: ((40, .ba 96 0) :: (s_0.append ((12, .ba 96 0) :: s_1))))))) (o_0.append [(96, .box [S x4.f0, S x4.f1, I x4.f2, I x4.f3] false)]) 84) ?_
    refine sb 44 (!eqS x4.f0 p1) ?_ ?_
    · refine se (mkE (s_0.append ((12, .ba 96 0) :: (s_1.append [(49, B true)]))) (o_0.append [(96, .box [S x4.f0, S x4.f1, I x4.f2, I x4.f3] false)]) 84) ?_
      refine pN ?_
      refine pS ?_
      refine gT (.tmp 49) ?_
      refine gX 1 ?_
      refine pF ?_
      refine pO ?_
      refine pH ?_
      refine pN ?_
      refine pS ?_
      refine gR 18 (rg Tryz.f50 18) ?_
      refine se (mkE (s_0.append s_2) o_0 84) ?_
      exact pL
    · refine se (mkE (s_0.append ((12, .ba 96 0) :: (s_1.append [(49, B (leI p2.f1 z0.2.1))]))) (o_0.append [(96, .box [S x4.f0, S x4.f1, I x4.f2, I x4.f3] false)]) 84) ?_
      refine pN ?_
      refine pS ?_
      refine gC 49 (leI p2.f1 z0.2.1) ?_ ?_
      · refine gX 1 ?_
        refine pF ?_
        refine pO ?_
        refine pH ?_
        refine pN ?_
        refine pS ?_
        refine gR 18 (rg Tryz.f50 18) ?_
        refine se (mkE (s_0.append s_2) o_0 84) ?_
        exact pL
      · refine gK ?_
        refine pN ?_
        refine pS ?_
        refine gS 17 ?_
        refine gS 15 ?_
        refine gR 14 (rg Tryz.f50 14) ?_
        refine se (mkE (s_0.append ((12, .ba 96 0) :: ((13, I (minI x4.f2 p2.f1)) :: s_1))) (o_0.append [(96, .box [S x4.f0, S x4.f1, I x4.f2, I x4.f3] false)]) 84) ?_
        refine pN ?_
        refine pS ?_
        refine gS 0 ?_
        refine gR 15 (rg Tryz.f50 15) ?_
        refine se (mkE (s_0.append ((12, .ba 96 0) :: ((13, I (minI x4.f2 p2.f1)) :: (s_1.append [(57, B (ltI z0.2.1 (minI x4.f2 p2.f1)))])))) (o_0.append [(96, .box [S x4.f0, S x4.f1, I x4.f2, I x4.f3] false)]) 84) ?_
        refine pN ?_
        refine pS ?_
        refine gC 57 (ltI z0.2.1 (minI x4.f2 p2.f1)) ?_ ?_
        · refine gR 16 (rg Tryz.f50 16) ?_
          refine sg 5 (mkE ((62, .own 496 0) :: ((61, .agg [I z0.2.1, I (minI x4.f2 p2.f1)]) :: ((60, I (minI x4.f2 p2.f1)) :: ((59, I z0.2.1) :: ((58, .own 72 0) :: (s_0.append ((12, .ba 96 0) :: ((13, I (minI x4.f2 p2.f1)) :: (s_1.append [(57, B (ltI z0.2.1 (minI x4.f2 p2.f1)))]))))))))) ((496, RR 93 2 a92 ([(S92.mk z0.2.1 (minI x4.f2 p2.f1))] : List S92) 0 false) :: (o_0.append [(96, .box [S x4.f0, S x4.f1, I x4.f2, I x4.f3] false)])) 84) ?_
          refine mo (some 63) (apO 108 93 2 16 72 a92 0 [496] (y := .own 496 0) (l2 := ([(S92.mk z0.2.1 (minI x4.f2 p2.f1))] : List S92))) (fun x5 => ?_)
          refine se (mkE ((1, S p1) :: ((5, .ba 40 0) :: ((9, .own 72 1) :: ((10, I z0.2.1) :: ((12, .ba 96 0) :: s_1))))) [(40, .box [I p2.f0, I p2.f1] false), (72, RR 93 2 a92 x5 1 false), (96, .box [S x4.f0, S x4.f1, I x4.f2, I x4.f3] false)] 84) ?_
          refine pN ?_
          refine pS ?_
          refine gR 17 (rg Tryz.f50 17) ?_
          refine se (mkE ((1, S p1) :: ((5, .ba 40 0) :: ((9, .own 72 1) :: ((10, I (maxI z0.2.1 (addI .i64 x4.f2 x4.f3))) :: s_1)))) [(40, .box [I p2.f0, I p2.f1] false), (72, RR 93 2 a92 x5 1 false)] 84) ?_
          refine pB ?_
          refine pN ?_
          refine pS ?_
          refine gR 18 (rg Tryz.f50 18) ?_
          refine se (mkE ((1, S p1) :: ((5, .ba 40 0) :: ((9, .own 72 1) :: ((10, I (maxI z0.2.1 (addI .i64 x4.f2 x4.f3))) :: s_2)))) [(40, .box [I p2.f0, I p2.f1] false), (72, RR 93 2 a92 x5 1 false)] 84) ?_
          exact pL
        · refine gK ?_
          refine pN ?_
          refine pS ?_
          refine gR 17 (rg Tryz.f50 17) ?_
          refine se (mkE ((1, S p1) :: ((5, .ba 40 0) :: ((9, .own 72 0) :: ((10, I (maxI z0.2.1 (addI .i64 x4.f2 x4.f3))) :: s_1)))) o_0 84) ?_
          refine pB ?_
          refine pN ?_
          refine pS ?_
          refine gR 18 (rg Tryz.f50 18) ?_
          refine se (mkE ((1, S p1) :: ((5, .ba 40 0) :: ((9, .own 72 0) :: ((10, I (maxI z0.2.1 (addI .i64 x4.f2 x4.f3))) :: s_2)))) o_0 84) ?_
          exact pL
  · refine gX 0 ?_
    exact pL
noncomputable def T50 (p0 : (List S99)) (p1 : ByteArray) (p2 : S92) : Option ((List S92) × Int) := ((T96 p0).bind fun x1 => (bif (neI x1 0) then (some ([], x1)) else ((T97 p1).bind fun x2 => (bif (!x2) then (some ([], 5)) else ((T70 p2.f0 0 p2.f1).bind fun x3 => (bif x3 then (some ([], 1)) else (bif (ltI 345686400000 p2.f1) then (some ([], 1)) else ((iter (L50_11 p0 p1 p2) ([], p2.f0, 0)).bind fun y6 => (bif (ltI y6.1 p2.f1) then ((appO 16 y6.2.2.2 ([(S92.mk y6.1 p2.f1)] : List S92)).bind fun x7 => (some (x7, 0))) else (some (y6.2.2.2, 0)))))))))))
theorem B50 (C : Callee) (h70 : ∀ (p0 : Int) (p1 : Int) (p2 : Int), C 70 [I p0, I p1, I p2] = (T70 p0 p1 p2).map B) (h96 : ∀ (p0 : (List S99)), C 96 [LL a99 p0] = (T96 p0).map I) (h97 : ∀ (p0 : ByteArray), C 97 [S p0] = (T97 p0).map B) (p0 : (List S99)) (p1 : ByteArray) (p2 : S92) : runs Tryz.prog C (cfg.fn 50) (finFn Tryz.prog (cfg.fn 50).byval Tryz.f50) [] (execA Tryz.prog C (cfg.fn 50) (nr Tryz.f50 []) (frame0 [LL a99 p0, S p1, a92 p2] 84 false)) = (T50 p0 p1 p2).map (fun r => AV.tup [(fun l => AV.fr 93 2 (List.map a92 l)) r.1, I r.2]) := by
  unfold T50
  let s_0 : List (Nat × AV) := [(0, LL a99 p0), (1, S p1), (5, .ba 40 0)]
  let o_0 : List (Nat × AObj) := [(40, .box [I p2.f0, I p2.f1] false)]
  refine gS 1 ?_
  refine gR 0 (rg Tryz.f50 0) ?_
  refine se (mkE s_0 o_0 84) ?_
  refine pN ?_
  refine pS ?_
  refine gS 4 ?_
  refine gS 2 ?_
  refine gR 1 (rg Tryz.f50 1) ?_
  refine sg 1 (mkE ((14, LL a99 p0) :: s_0) o_0 84) ?_
  refine co 15 [] (h96 p0) (fun x1 => ?_)
  refine se (mkE (s_0.append [(8, I x1)]) o_0 84) ?_
  refine pN ?_
  refine pS ?_
  refine gS 0 ?_
  refine gR 2 (rg Tryz.f50 2) ?_
  refine se (mkE (s_0.append ((8, I x1) :: [(17, B (neI x1 0))])) o_0 84) ?_
  refine pN ?_
  refine pS ?_
  refine gC 17 (neI x1 0) ?_ ?_
  · refine gS 0 ?_
    refine gR 3 (rg Tryz.f50 3) ?_
    refine se (mkE [(6, .nils), (7, I x1)] [] 84) ?_
    refine pN ?_
    refine pS ?_
    refine gE ?_
    exact pL
  · refine gK ?_
    refine pN ?_
    refine pS ?_
    refine gS 6 ?_
    refine gS 0 ?_
    refine gR 4 (rg Tryz.f50 4) ?_
    refine sg 1 (mkE ((19, S p1) :: (s_0.append ((8, I x1) :: [(17, B (neI x1 0))]))) o_0 84) ?_
    refine co 20 [] (h97 p1) (fun x2 => ?_)
    refine se (mkE (s_0.append [(21, B (!x2))]) o_0 84) ?_
    refine pN ?_
    refine pS ?_
    refine gC 21 (!x2) ?_ ?_
    · refine gS 0 ?_
      refine gR 5 (rg Tryz.f50 5) ?_
      refine se (mkE [(6, .nils), (7, I 5)] [] 84) ?_
      refine pN ?_
      refine pS ?_
      refine gE ?_
      exact pL
    · refine gK ?_
      refine pN ?_
      refine pS ?_
      refine gS 8 ?_
      refine gS 0 ?_
      refine gR 6 (rg Tryz.f50 6) ?_
      refine sg 4 (mkE ((25, I p2.f1) :: ((24, .ba 40 1) :: ((23, I p2.f0) :: ((22, .ba 40 0) :: (s_0.append [(21, B (!x2))]))))) o_0 84) ?_
      refine co 26 [] (h70 p2.f0 0 p2.f1) (fun x3 => ?_)
      refine sg 6 (mkE ((27, B x3) :: ((26, B x3) :: ((25, I p2.f1) :: ((24, .ba 40 1) :: ((23, I p2.f0) :: ((22, .ba 40 0) :: (s_0.append [(21, B (!x2))]))))))) o_0 84) ?_
      refine sb 27 x3 ?_ ?_
      · refine se (mkE (s_0.append [(31, B true)]) o_0 84) ?_
        refine pN ?_
        refine pS ?_
        refine gT (.tmp 31) ?_
        refine gS 0 ?_
        refine gR 7 (rg Tryz.f50 7) ?_
        refine se (mkE [(6, .nils), (7, I 1)] [] 84) ?_
        refine pN ?_
        refine pS ?_
        refine gE ?_
        exact pL
      · refine se (mkE (s_0.append [(31, B (ltI 345686400000 p2.f1))]) o_0 84) ?_
        refine pN ?_
        refine pS ?_
        refine gC 31 (ltI 345686400000 p2.f1) ?_ ?_
        · refine gS 0 ?_
          refine gR 7 (rg Tryz.f50 7) ?_
          refine se (mkE [(6, .nils), (7, I 1)] [] 84) ?_
          refine pN ?_
          refine pS ?_
          refine gE ?_
          exact pL
        · refine gK ?_
          refine pN ?_
          refine pS ?_
          refine gS 9 ?_
          refine gR 8 (rg Tryz.f50 8) ?_
          refine se (mkE (s_0.append [(9, .nils)]) o_0 84) ?_
          refine pN ?_
          refine pS ?_
          refine gS 10 ?_
          refine gR 9 (rg Tryz.f50 9) ?_
          refine se (mkE (s_0.append ((9, .nils) :: [(10, I p2.f0)])) o_0 84) ?_
          refine pN ?_
          refine pS ?_
          refine gS 19 ?_
          refine gS 11 ?_
          refine gR 10 (rg Tryz.f50 10) ?_
          refine sg 1 (mkE ((34, LL a99 p0) :: (s_0.append ((9, .nils) :: [(10, I p2.f0)]))) o_0 84) ?_
          refine eo 35 (I (lenL p0)) (lenE 97 a99 p0) ?_
          refine se (mkE [(1, S p1), (5, .ba 40 0), (9, .nils), (10, I p2.f0), (34, LL a99 p0), (35, I (lenL p0)), (36, I 0)] o_0 84) ?_
          refine pN ?_
          refine pS ?_
          refine gB 0 ?_
          refine lo [(1, none), (5, none), (9, some (93, 2)), (10, none), (34, none), (35, none), (36, none)] [] (L50_11 p0 p1 p2) (fun z0 : ((List S92) × Int × Int) => (mkE [(1, S p1), (5, .ba 40 0), (9, .own 72 0), (10, I z0.2.1), (34, LL a99 p0), (35, I (lenL p0)), (36, I z0.2.2)] (o_0.append [(72, RR 93 2 a92 z0.1 0 false)]) 84)) (fun (x : (Int × Int × Bool × (List S92))) => (.exit 0, (mkE [(1, S p1), (5, .ba 40 0), (9, .own 72 0), (10, I x.1), (34, LL a99 p0), (35, I (lenL p0)), (36, I x.2.1), (37, B x.2.2.1)] (o_0.append [(72, RR 93 2 a92 x.2.2.2 0 false)]) 84))) ([], p2.f0, 0) (fun z => L50_11_ok C p0 p1 p2 z) ?_
          intro y6
          refine pH ?_
          refine pN ?_
          refine pS ?_
          refine gS 21 ?_
          refine gS 0 ?_
          refine gR 19 (rg Tryz.f50 19) ?_
          refine se (mkE [(5, .ba 40 0), (9, .own 72 0), (10, I y6.1), (75, B (ltI y6.1 p2.f1))] (o_0.append [(72, RR 93 2 a92 y6.2.2.2 0 false)]) 84) ?_
          refine pN ?_
          refine pS ?_
          refine gC 75 (ltI y6.1 p2.f1) ?_ ?_
          · refine gR 20 (rg Tryz.f50 20) ?_
            refine sg 6 (mkE [(81, .own 648 0), (80, .agg [I y6.1, I p2.f1]), (79, I p2.f1), (78, .ba 40 1), (77, I y6.1), (76, .own 72 0), (5, .ba 40 0), (9, .own 72 0), (10, I y6.1), (75, B (ltI y6.1 p2.f1))] ((648, RR 93 2 a92 ([(S92.mk y6.1 p2.f1)] : List S92) 0 false) :: (o_0.append [(72, RR 93 2 a92 y6.2.2.2 0 false)])) 84) ?_
            refine mo (some 82) (apO 108 93 2 16 72 a92 0 [648] (y := .own 648 0) (l2 := ([(S92.mk y6.1 p2.f1)] : List S92))) (fun x7 => ?_)
            refine se (mkE [(9, .own 72 1)] [(72, RR 93 2 a92 x7 1 false)] 84) ?_
            refine pN ?_
            refine pS ?_
            refine gS 0 ?_
            refine gR 21 (rg Tryz.f50 21) ?_
            refine se (mkE [(6, .own 72 1), (7, I 0)] [(72, RR 93 2 a92 x7 1 false)] 84) ?_
            refine pN ?_
            refine pS ?_
            refine gE ?_
            exact pL
          · refine gK ?_
            refine pN ?_
            refine pS ?_
            refine gS 0 ?_
            refine gR 21 (rg Tryz.f50 21) ?_
            refine se (mkE [(6, .own 72 0), (7, I 0)] [(72, RR 93 2 a92 y6.2.2.2 0 false)] 84) ?_
            refine pN ?_
            refine pS ?_
            refine gE ?_
            exact pL
theorem F50 (m : Nat) (hm : 5 ≤ m) (p0 : (List S99)) (p1 : ByteArray) (p2 : S92) : callA Tryz.prog cfg m 50 [LL a99 p0, S p1, a92 p2] = (T50 p0 p1 p2).map (fun r => AV.tup [(fun l => AV.fr 93 2 (List.map a92 l)) r.1, I r.2]) := by
  obtain ⟨q, rfl⟩ : ∃ q, m = q + 1 := ⟨m - 1, by omega⟩
  exact (callA_body (fn := Tryz.f50) (c := body_ Tryz.f50) q _ (by kernel_rfl) (by kernel_rfl) (by kernel_rfl)).trans (B50 _ (fun p0 p1 p2 => F70 q (by omega) p0 p1 p2) (fun p0 => F96 q (by omega) p0) (fun p0 => F97 q (by omega) p0) p0 p1 p2)

noncomputable def T52 (p0 : S99) (p1_c0 : Int) : Option Bool := (bif (eqS p0.f0 (ByteArray.mk #[112, 97])) then (bif (leI p0.f2 p1_c0) then (some (ltI p1_c0 (addI .i64 p0.f2 p0.f3))) else (some false)) else (some false))
theorem B52 (C : Callee) (p0 : S99) (p1_c0 : Int) : runs Tryz.prog C (cfg.fn 52) (finFn Tryz.prog (cfg.fn 52).byval Tryz.f52) [] (execA Tryz.prog C (cfg.fn 52) (nr Tryz.f52 []) (frame0 [a99 p0, .ia [I p1_c0] 0] 22 false)) = (T52 p0 p1_c0).map B := by
  unfold T52
  let s_0 : List (Nat × AV) := [(7, B (eqS p0.f0 (ByteArray.mk #[112, 97]))), (6, B (eqS p0.f0 (ByteArray.mk #[112, 97]))), (5, S p0.f0), (4, .ba 16 0), (1, .ia [I p1_c0] 0), (2, .ba 16 0)]
  refine gS 1 ?_
  refine gR 0 (rg Tryz.f52 0) ?_
  refine se (mkE [(1, .ia [I p1_c0] 0), (2, .ba 16 0)] [(16, .box [S p0.f0, S p0.f1, I p0.f2, I p0.f3] false)] 22) ?_
  refine pN ?_
  refine pS ?_
  refine gS 0 ?_
  refine gR 1 (rg Tryz.f52 1) ?_
  refine sg 4 (mkE s_0 [(16, .box [S p0.f0, S p0.f1, I p0.f2, I p0.f3] false)] 22) ?_
  refine sb 7 (eqS p0.f0 (ByteArray.mk #[112, 97])) ?_ ?_
  · refine sg 10 (mkE ((13, B (leI p0.f2 p1_c0)) :: ((12, B (leI p0.f2 p1_c0)) :: ((11, B (leI p0.f2 p1_c0)) :: ((10, I p1_c0) :: ((9, I p0.f2) :: ((8, .ba 16 2) :: ((7, B true) :: s_0))))))) [(16, .box [S p0.f0, S p0.f1, I p0.f2, I p0.f3] false)] 22) ?_
    refine sb 13 (leI p0.f2 p1_c0) ?_ ?_
    · refine se (mkE [(3, B (ltI p1_c0 (addI .i64 p0.f2 p0.f3)))] [] 22) ?_
      refine pN ?_
      refine pS ?_
      refine gE ?_
      exact pL
    · refine se (mkE [(3, B false)] [] 22) ?_
      refine pN ?_
      refine pS ?_
      refine gE ?_
      exact pL
  · refine se (mkE [(3, B false)] [] 22) ?_
    refine pN ?_
    refine pS ?_
    refine gE ?_
    exact pL
theorem F52 (m : Nat) (hm : 1 ≤ m) (p0 : S99) (p1_c0 : Int) : callA Tryz.prog cfg m 52 [a99 p0, .ia [I p1_c0] 0] = (T52 p0 p1_c0).map B := by
  obtain ⟨q, rfl⟩ : ∃ q, m = q + 1 := ⟨m - 1, by omega⟩
  exact (callA_body (fn := Tryz.f52) (c := body_ Tryz.f52) q _ (by kernel_rfl) (by kernel_rfl) (by kernel_rfl)).trans (B52 _ p0 p1_c0)

noncomputable def L98_2 (p0 : (List S99)) (p1_c0 : Int) (z0 : Int) : Option (Int ⊕ ((Int × Bool) ⊕ Int)) := (bif (ltI z0 (lenL p0)) then ((listAt p0 z0).bind fun x1 => ((T52 x1 p1_c0).bind fun x2 => (bif x2 then (some (.inr (.inr z0))) else (some (.inl (addI .i64 z0 1)))))) else (some (.inr (.inl (z0, (ltI z0 (lenL p0)))))))
theorem L98_2_ok (C : Callee) (h52 : ∀ (p0 : S99) (p1_c0 : Int), C 52 [a99 p0, .ia [I p1_c0] 0] = (T52 p0 p1_c0).map B) (p0 : (List S99)) (p1_c0 : Int) (z0 : Int) : runs Tryz.prog C (cfg.fn 98) (finLoop ((cfg.fn 98).keep 2) ((cfg.fn 98).al 2)) [] (execA Tryz.prog C (cfg.fn 98) (nr Tryz.f98 [false, false, true, false, true]) ((fun z0 : Int => (mkE [(0, LL a99 p0), (1, .fn 52 [.ia [I p1_c0] 0]), (7, I (lenL p0)), (8, I z0)] [] 19)) z0)) = (L98_2 p0 p1_c0 z0).map (Sum.elim (fun z => .inl ((fun z0 : Int => (mkE [(0, LL a99 p0), (1, .fn 52 [.ia [I p1_c0] 0]), (7, I (lenL p0)), (8, I z0)] [] 19)) z)) (fun x => .inr ((Sum.elim (fun (x : (Int × Bool)) => (.exit 0, (mkE [(0, LL a99 p0), (1, .fn 52 [.ia [I p1_c0] 0]), (7, I (lenL p0)), (8, I x.1), (9, B x.2)] [] 19))) (fun (x : Int) => (.ret, (mkE [(4, I x)] [] 19)))) x))) := by
  unfold L98_2
  let s_0 : List (Nat × AV) := [(0, LL a99 p0), (1, .fn 52 [.ia [I p1_c0] 0]), (5, I z0), (7, I (lenL p0)), (8, I z0)]
  refine gS 0 ?_
  refine gR 2 (rg Tryz.f98 2) ?_
  refine se (mkE [(0, LL a99 p0), (1, .fn 52 [.ia [I p1_c0] 0]), (7, I (lenL p0)), (8, I z0), (9, B (ltI z0 (lenL p0)))] [] 19) ?_
  refine pN ?_
  refine pS ?_
  refine gS 3 ?_
  refine gC 9 (ltI z0 (lenL p0)) ?_ ?_
  · refine gK ?_
    refine pN ?_
    refine pS ?_
    refine gS 6 ?_
    refine gB 1 ?_
    refine gS 4 ?_
    refine gR 3 (rg Tryz.f98 3) ?_
    refine se (mkE s_0 [] 19) ?_
    refine pN ?_
    refine pS ?_
    refine gS 0 ?_
    refine gR 4 (rg Tryz.f98 4) ?_
    refine sg 3 (mkE ((13, I z0) :: ((12, LL a99 p0) :: ((11, .fn 52 [.ia [I p1_c0] 0]) :: s_0))) [] 19) ?_
    refine vo 14 (addrE 97 100 4 a99 .i64 p0 z0) (fun x1 => ?_)
    refine sg 5 (mkE ((15, a99 x1) :: ((14, .ia [S x1.f0, S x1.f1, I x1.f2, I x1.f3] 0) :: ((13, I z0) :: ((12, LL a99 p0) :: ((11, .fn 52 [.ia [I p1_c0] 0]) :: s_0))))) [] 19) ?_
    refine co 16 [] (h52 x1 p1_c0) (fun x2 => ?_)
    refine se (mkE (s_0.append [(16, B x2)]) [] 19) ?_
    refine pN ?_
    refine pS ?_
    refine gC 16 x2 ?_ ?_
    · refine gS 0 ?_
      refine gR 5 (rg Tryz.f98 5) ?_
      refine se (mkE [(4, I z0)] [] 19) ?_
      refine pN ?_
      refine pS ?_
      refine gE ?_
      exact pL
    · refine gK ?_
      refine pB ?_
      refine pN ?_
      refine pS ?_
      refine gR 6 (rg Tryz.f98 6) ?_
      refine se (mkE [(0, LL a99 p0), (1, .fn 52 [.ia [I p1_c0] 0]), (7, I (lenL p0)), (8, I (addI .i64 z0 1))] [] 19) ?_
      exact pL
  · refine gX 0 ?_
    exact pL
noncomputable def T98 (p0 : (List S99)) (p1_c0 : Int) : Option Int := ((iter (L98_2 p0 p1_c0) 0).bind fun y3 => (Sum.elim (fun y3a => (some (-1))) (fun y3b => (some y3b)) y3))
theorem B98 (C : Callee) (h52 : ∀ (p0 : S99) (p1_c0 : Int), C 52 [a99 p0, .ia [I p1_c0] 0] = (T52 p0 p1_c0).map B) (p0 : (List S99)) (p1_c0 : Int) : runs Tryz.prog C (cfg.fn 98) (finFn Tryz.prog (cfg.fn 98).byval Tryz.f98) [] (execA Tryz.prog C (cfg.fn 98) (nr Tryz.f98 []) (frame0 [LL a99 p0, .fn 52 [.ia [I p1_c0] 0]] 19 false)) = (T98 p0 p1_c0).map I := by
  unfold T98
  let s_0 : List (Nat × AV) := [(0, LL a99 p0), (1, .fn 52 [.ia [I p1_c0] 0])]
  refine gS 1 ?_
  refine gR 0 (rg Tryz.f98 0) ?_
  refine se (mkE s_0 [] 19) ?_
  refine pN ?_
  refine pS ?_
  refine gS 7 ?_
  refine gS 2 ?_
  refine gR 1 (rg Tryz.f98 1) ?_
  refine sg 1 (mkE ((6, LL a99 p0) :: s_0) [] 19) ?_
  refine eo 7 (I (lenL p0)) (lenE 97 a99 p0) ?_
  refine se (mkE (s_0.append ((7, I (lenL p0)) :: [(8, I 0)])) [] 19) ?_
  refine pN ?_
  refine pS ?_
  refine gB 0 ?_
  refine lo [(0, none), (1, none), (7, none), (8, none)] [] (L98_2 p0 p1_c0) (fun z0 : Int => (mkE (s_0.append ((7, I (lenL p0)) :: [(8, I z0)])) [] 19)) (Sum.elim (fun (x : (Int × Bool)) => (.exit 0, (mkE (s_0.append ((7, I (lenL p0)) :: ((8, I x.1) :: [(9, B x.2)]))) [] 19))) (fun (x : Int) => (.ret, (mkE [(4, I x)] [] 19)))) 0 (fun z => L98_2_ok C h52 p0 p1_c0 z) ?_
  intro y3
  refine ss y3 (Z := (Sum.elim (fun (x : (Int × Bool)) => (.exit 0, (mkE (s_0.append ((7, I (lenL p0)) :: ((8, I x.1) :: [(9, B x.2)]))) [] 19))) (fun (x : Int) => (.ret, (mkE [(4, I x)] [] 19))))) (fun y3a => ?_) (fun y3b => ?_)
  · refine pH ?_
    refine pN ?_
    refine pS ?_
    refine gS 0 ?_
    refine gR 7 (rg Tryz.f98 7) ?_
    refine se (mkE [(4, I (-1))] [] 19) ?_
    refine pN ?_
    refine pS ?_
    refine gE ?_
    exact pL
  · exact pL
theorem F98 (m : Nat) (hm : 2 ≤ m) (p0 : (List S99)) (p1_c0 : Int) : callA Tryz.prog cfg m 98 [LL a99 p0, .fn 52 [.ia [I p1_c0] 0]] = (T98 p0 p1_c0).map I := by
  obtain ⟨q, rfl⟩ : ∃ q, m = q + 1 := ⟨m - 1, by omega⟩
  exact (callA_body (fn := Tryz.f98) (c := body_ Tryz.f98) q _ (by kernel_rfl) (by kernel_rfl) (by kernel_rfl)).trans (B98 _ (fun p0 p1_c0 => F52 q (by omega) p0 p1_c0) p0 p1_c0)

noncomputable def T51 (p0 : (List S99)) (p1_c0 : Int) : Option Bool := ((T98 p0 p1_c0).bind fun x1 => (some (leI 0 x1)))
theorem B51 (C : Callee) (h98 : ∀ (p0 : (List S99)) (p1_c0 : Int), C 98 [LL a99 p0, .fn 52 [.ia [I p1_c0] 0]] = (T98 p0 p1_c0).map I) (p0 : (List S99)) (p1_c0 : Int) : runs Tryz.prog C (cfg.fn 51) (finFn Tryz.prog (cfg.fn 51).byval Tryz.f51) [] (execA Tryz.prog C (cfg.fn 51) (nr Tryz.f51 []) (frame0 [LL a99 p0, .fn 52 [.ia [I p1_c0] 0]] 9 false)) = (T51 p0 p1_c0).map B := by
  unfold T51
  refine gS 1 ?_
  refine gR 0 (rg Tryz.f51 0) ?_
  refine se (mkE [(0, LL a99 p0), (1, .fn 52 [.ia [I p1_c0] 0])] [] 9) ?_
  refine pN ?_
  refine pS ?_
  refine gS 0 ?_
  refine gR 1 (rg Tryz.f51 1) ?_
  refine sg 2 (mkE [(6, .fn 52 [.ia [I p1_c0] 0]), (5, LL a99 p0), (0, LL a99 p0), (1, .fn 52 [.ia [I p1_c0] 0])] [] 9) ?_
  refine co 7 [] (h98 p0 p1_c0) (fun x1 => ?_)
  refine se (mkE [(4, B (leI 0 x1))] [] 9) ?_
  refine pN ?_
  refine pS ?_
  refine gE ?_
  exact pL
theorem F51 (m : Nat) (hm : 3 ≤ m) (p0 : (List S99)) (p1_c0 : Int) : callA Tryz.prog cfg m 51 [LL a99 p0, .fn 52 [.ia [I p1_c0] 0]] = (T51 p0 p1_c0).map B := by
  obtain ⟨q, rfl⟩ : ∃ q, m = q + 1 := ⟨m - 1, by omega⟩
  exact (callA_body (fn := Tryz.f51) (c := body_ Tryz.f51) q _ (by kernel_rfl) (by kernel_rfl) (by kernel_rfl)).trans (B51 _ (fun p0 p1_c0 => F98 q (by omega) p0 p1_c0) p0 p1_c0)

noncomputable def T54 (p0 : S92) (p1_c0 : Int) : Option Bool := (bif (leI p0.f0 p1_c0) then (some (ltI p1_c0 p0.f1)) else (some false))
theorem B54 (C : Callee) (p0 : S92) (p1_c0 : Int) : runs Tryz.prog C (cfg.fn 54) (finFn Tryz.prog (cfg.fn 54).byval Tryz.f54) [] (execA Tryz.prog C (cfg.fn 54) (nr Tryz.f54 []) (frame0 [a92 p0, .ia [I p1_c0] 0] 14 false)) = (T54 p0 p1_c0).map B := by
  unfold T54
  refine gS 1 ?_
  refine gR 0 (rg Tryz.f54 0) ?_
  refine se (mkE [(1, .ia [I p1_c0] 0), (2, .ba 16 0)] [(16, .box [I p0.f0, I p0.f1] false)] 14) ?_
  refine pN ?_
  refine pS ?_
  refine gS 0 ?_
  refine gR 1 (rg Tryz.f54 1) ?_
  refine sg 5 (mkE [(8, B (leI p0.f0 p1_c0)), (7, B (leI p0.f0 p1_c0)), (6, I p1_c0), (5, I p0.f0), (4, .ba 16 0), (1, .ia [I p1_c0] 0), (2, .ba 16 0)] [(16, .box [I p0.f0, I p0.f1] false)] 14) ?_
  refine sb 8 (leI p0.f0 p1_c0) ?_ ?_
  · refine se (mkE [(3, B (ltI p1_c0 p0.f1))] [] 14) ?_
    refine pN ?_
    refine pS ?_
    refine gE ?_
    exact pL
  · refine se (mkE [(3, B false)] [] 14) ?_
    refine pN ?_
    refine pS ?_
    refine gE ?_
    exact pL
theorem F54 (m : Nat) (hm : 1 ≤ m) (p0 : S92) (p1_c0 : Int) : callA Tryz.prog cfg m 54 [a92 p0, .ia [I p1_c0] 0] = (T54 p0 p1_c0).map B := by
  obtain ⟨q, rfl⟩ : ∃ q, m = q + 1 := ⟨m - 1, by omega⟩
  exact (callA_body (fn := Tryz.f54) (c := body_ Tryz.f54) q _ (by kernel_rfl) (by kernel_rfl) (by kernel_rfl)).trans (B54 _ p0 p1_c0)

noncomputable def L99_2 (p0 : (List S92)) (p1_c0 : Int) (z0 : Int) : Option (Int ⊕ ((Int × Bool) ⊕ Int)) := (bif (ltI z0 (lenL p0)) then ((listAt p0 z0).bind fun x1 => ((T54 x1 p1_c0).bind fun x2 => (bif x2 then (some (.inr (.inr z0))) else (some (.inl (addI .i64 z0 1)))))) else (some (.inr (.inl (z0, (ltI z0 (lenL p0)))))))
theorem L99_2_ok (C : Callee) (h54 : ∀ (p0 : S92) (p1_c0 : Int), C 54 [a92 p0, .ia [I p1_c0] 0] = (T54 p0 p1_c0).map B) (p0 : (List S92)) (p1_c0 : Int) (z0 : Int) : runs Tryz.prog C (cfg.fn 99) (finLoop ((cfg.fn 99).keep 2) ((cfg.fn 99).al 2)) [] (execA Tryz.prog C (cfg.fn 99) (nr Tryz.f99 [false, false, true, false, true]) ((fun z0 : Int => (mkE [(0, LL a92 p0), (1, .fn 54 [.ia [I p1_c0] 0]), (7, I (lenL p0)), (8, I z0)] [] 19)) z0)) = (L99_2 p0 p1_c0 z0).map (Sum.elim (fun z => .inl ((fun z0 : Int => (mkE [(0, LL a92 p0), (1, .fn 54 [.ia [I p1_c0] 0]), (7, I (lenL p0)), (8, I z0)] [] 19)) z)) (fun x => .inr ((Sum.elim (fun (x : (Int × Bool)) => (.exit 0, (mkE [(0, LL a92 p0), (1, .fn 54 [.ia [I p1_c0] 0]), (7, I (lenL p0)), (8, I x.1), (9, B x.2)] [] 19))) (fun (x : Int) => (.ret, (mkE [(4, I x)] [] 19)))) x))) := by
  unfold L99_2
  let s_0 : List (Nat × AV) := [(0, LL a92 p0), (1, .fn 54 [.ia [I p1_c0] 0]), (5, I z0), (7, I (lenL p0)), (8, I z0)]
  refine gS 0 ?_
  refine gR 2 (rg Tryz.f99 2) ?_
  refine se (mkE [(0, LL a92 p0), (1, .fn 54 [.ia [I p1_c0] 0]), (7, I (lenL p0)), (8, I z0), (9, B (ltI z0 (lenL p0)))] [] 19) ?_
  refine pN ?_
  refine pS ?_
  refine gS 3 ?_
  refine gC 9 (ltI z0 (lenL p0)) ?_ ?_
  · refine gK ?_
    refine pN ?_
    refine pS ?_
    refine gS 6 ?_
    refine gB 1 ?_
    refine gS 4 ?_
    refine gR 3 (rg Tryz.f99 3) ?_
    refine se (mkE s_0 [] 19) ?_
    refine pN ?_
    refine pS ?_
    refine gS 0 ?_
    refine gR 4 (rg Tryz.f99 4) ?_
    refine sg 3 (mkE ((13, I z0) :: ((12, LL a92 p0) :: ((11, .fn 54 [.ia [I p1_c0] 0]) :: s_0))) [] 19) ?_
    refine vo 14 (addrE 108 93 2 a92 .i64 p0 z0) (fun x1 => ?_)
    refine sg 5 (mkE ((15, a92 x1) :: ((14, .ia [I x1.f0, I x1.f1] 0) :: ((13, I z0) :: ((12, LL a92 p0) :: ((11, .fn 54 [.ia [I p1_c0] 0]) :: s_0))))) [] 19) ?_
    refine co 16 [] (h54 x1 p1_c0) (fun x2 => ?_)
    refine se (mkE (s_0.append [(16, B x2)]) [] 19) ?_
    refine pN ?_
    refine pS ?_
    refine gC 16 x2 ?_ ?_
    · refine gS 0 ?_
      refine gR 5 (rg Tryz.f99 5) ?_
      refine se (mkE [(4, I z0)] [] 19) ?_
      refine pN ?_
      refine pS ?_
      refine gE ?_
      exact pL
    · refine gK ?_
      refine pB ?_
      refine pN ?_
      refine pS ?_
      refine gR 6 (rg Tryz.f99 6) ?_
      refine se (mkE [(0, LL a92 p0), (1, .fn 54 [.ia [I p1_c0] 0]), (7, I (lenL p0)), (8, I (addI .i64 z0 1))] [] 19) ?_
      exact pL
  · refine gX 0 ?_
    exact pL
noncomputable def T99 (p0 : (List S92)) (p1_c0 : Int) : Option Int := ((iter (L99_2 p0 p1_c0) 0).bind fun y3 => (Sum.elim (fun y3a => (some (-1))) (fun y3b => (some y3b)) y3))
theorem B99 (C : Callee) (h54 : ∀ (p0 : S92) (p1_c0 : Int), C 54 [a92 p0, .ia [I p1_c0] 0] = (T54 p0 p1_c0).map B) (p0 : (List S92)) (p1_c0 : Int) : runs Tryz.prog C (cfg.fn 99) (finFn Tryz.prog (cfg.fn 99).byval Tryz.f99) [] (execA Tryz.prog C (cfg.fn 99) (nr Tryz.f99 []) (frame0 [LL a92 p0, .fn 54 [.ia [I p1_c0] 0]] 19 false)) = (T99 p0 p1_c0).map I := by
  unfold T99
  let s_0 : List (Nat × AV) := [(0, LL a92 p0), (1, .fn 54 [.ia [I p1_c0] 0])]
  refine gS 1 ?_
  refine gR 0 (rg Tryz.f99 0) ?_
  refine se (mkE s_0 [] 19) ?_
  refine pN ?_
  refine pS ?_
  refine gS 7 ?_
  refine gS 2 ?_
  refine gR 1 (rg Tryz.f99 1) ?_
  refine sg 1 (mkE ((6, LL a92 p0) :: s_0) [] 19) ?_
  refine eo 7 (I (lenL p0)) (lenE 108 a92 p0) ?_
  refine se (mkE (s_0.append ((7, I (lenL p0)) :: [(8, I 0)])) [] 19) ?_
  refine pN ?_
  refine pS ?_
  refine gB 0 ?_
  refine lo [(0, none), (1, none), (7, none), (8, none)] [] (L99_2 p0 p1_c0) (fun z0 : Int => (mkE (s_0.append ((7, I (lenL p0)) :: [(8, I z0)])) [] 19)) (Sum.elim (fun (x : (Int × Bool)) => (.exit 0, (mkE (s_0.append ((7, I (lenL p0)) :: ((8, I x.1) :: [(9, B x.2)]))) [] 19))) (fun (x : Int) => (.ret, (mkE [(4, I x)] [] 19)))) 0 (fun z => L99_2_ok C h54 p0 p1_c0 z) ?_
  intro y3
  refine ss y3 (Z := (Sum.elim (fun (x : (Int × Bool)) => (.exit 0, (mkE (s_0.append ((7, I (lenL p0)) :: ((8, I x.1) :: [(9, B x.2)]))) [] 19))) (fun (x : Int) => (.ret, (mkE [(4, I x)] [] 19))))) (fun y3a => ?_) (fun y3b => ?_)
  · refine pH ?_
    refine pN ?_
    refine pS ?_
    refine gS 0 ?_
    refine gR 7 (rg Tryz.f99 7) ?_
    refine se (mkE [(4, I (-1))] [] 19) ?_
    refine pN ?_
    refine pS ?_
    refine gE ?_
    exact pL
  · exact pL
theorem F99 (m : Nat) (hm : 2 ≤ m) (p0 : (List S92)) (p1_c0 : Int) : callA Tryz.prog cfg m 99 [LL a92 p0, .fn 54 [.ia [I p1_c0] 0]] = (T99 p0 p1_c0).map I := by
  obtain ⟨q, rfl⟩ : ∃ q, m = q + 1 := ⟨m - 1, by omega⟩
  exact (callA_body (fn := Tryz.f99) (c := body_ Tryz.f99) q _ (by kernel_rfl) (by kernel_rfl) (by kernel_rfl)).trans (B99 _ (fun p0 p1_c0 => F54 q (by omega) p0 p1_c0) p0 p1_c0)

noncomputable def T53 (p0 : (List S92)) (p1_c0 : Int) : Option Bool := ((T99 p0 p1_c0).bind fun x1 => (some (leI 0 x1)))
theorem B53 (C : Callee) (h99 : ∀ (p0 : (List S92)) (p1_c0 : Int), C 99 [LL a92 p0, .fn 54 [.ia [I p1_c0] 0]] = (T99 p0 p1_c0).map I) (p0 : (List S92)) (p1_c0 : Int) : runs Tryz.prog C (cfg.fn 53) (finFn Tryz.prog (cfg.fn 53).byval Tryz.f53) [] (execA Tryz.prog C (cfg.fn 53) (nr Tryz.f53 []) (frame0 [LL a92 p0, .fn 54 [.ia [I p1_c0] 0]] 9 false)) = (T53 p0 p1_c0).map B := by
  unfold T53
  refine gS 1 ?_
  refine gR 0 (rg Tryz.f53 0) ?_
  refine se (mkE [(0, LL a92 p0), (1, .fn 54 [.ia [I p1_c0] 0])] [] 9) ?_
  refine pN ?_
  refine pS ?_
  refine gS 0 ?_
  refine gR 1 (rg Tryz.f53 1) ?_
  refine sg 2 (mkE [(6, .fn 54 [.ia [I p1_c0] 0]), (5, LL a92 p0), (0, LL a92 p0), (1, .fn 54 [.ia [I p1_c0] 0])] [] 9) ?_
  refine co 7 [] (h99 p0 p1_c0) (fun x1 => ?_)
  refine se (mkE [(4, B (leI 0 x1))] [] 9) ?_
  refine pN ?_
  refine pS ?_
  refine gE ?_
  exact pL
theorem F53 (m : Nat) (hm : 3 ≤ m) (p0 : (List S92)) (p1_c0 : Int) : callA Tryz.prog cfg m 53 [LL a92 p0, .fn 54 [.ia [I p1_c0] 0]] = (T53 p0 p1_c0).map B := by
  obtain ⟨q, rfl⟩ : ∃ q, m = q + 1 := ⟨m - 1, by omega⟩
  exact (callA_body (fn := Tryz.f53) (c := body_ Tryz.f53) q _ (by kernel_rfl) (by kernel_rfl) (by kernel_rfl)).trans (B53 _ (fun p0 p1_c0 => F99 q (by omega) p0 p1_c0) p0 p1_c0)

noncomputable def L12_7 (x1 : ((List S99) × (List Int) × Int)) (x2 : (Int × (List Int) × Int)) (x3 : (Int × (List Int) × Int)) (x4 : ((List S92) × Int)) (z0 : ((List S92) × Int)) : Option (((List S92) × Int) ⊕ ((Int × Bool × (List S92)) ⊕ Unit)) := (bif (ltI z0.2 (lenL x4.1)) then ((idxO (List.length z0.1) z0.2).bind fun x5 => ((getN z0.1 x5).bind fun x6 => (bif (leI x6.f1 x6.f0) then (some (.inr (.inr ()))) else (bif (ltI x6.f0 x2.1) then (some (.inr (.inr ()))) else (bif (ltI x3.1 x6.f1) then (some (.inr (.inr ()))) else (bif (ltI 0 z0.2) then ((idxO (List.length z0.1) (subI .i64 z0.2 1)).bind fun x7 => ((getN z0.1 x7).bind fun x8 => (bif (leI x6.f0 x8.f1) then (some (.inr (.inr ()))) else (some (.inl (z0.1, (addI .i64 z0.2 1))))))) else (some (.inl (z0.1, (addI .i64 z0.2 1)))))))))) else (some (.inr (.inl (z0.2, (ltI z0.2 (lenL x4.1)), z0.1)))))
theorem L12_7_ok (C : Callee) (x1 : ((List S99) × (List Int) × Int)) (x2 : (Int × (List Int) × Int)) (x3 : (Int × (List Int) × Int)) (x4 : ((List S92) × Int)) (z0 : ((List S92) × Int)) : runs Tryz.prog C (cfg.fn 12) (finLoop ((cfg.fn 12).keep 7) ((cfg.fn 12).al 7)) [] (execA Tryz.prog C (cfg.fn 12) (nr Tryz.f12 [false, false, true, false, true, true, true, true, true]) ((fun z0 : ((List S92) × Int) => (mkE [(31, .own 48 0), (3, .ba 24 0), (4, LL a99 x1.1), (5, .ba 40 0), (6, .own 48 0), (32, I (lenL x4.1)), (33, I z0.2)] [(24, .box [LL I x3.2.1, I x3.2.2] false), (40, .box [I x2.1, I x3.1] false), (48, RR 93 2 a92 z0.1 0 false)] 98)) z0)) = (L12_7 x1 x2 x3 x4 z0).map (Sum.elim (fun z => .inl ((fun z0 : ((List S92) × Int) => (mkE [(31, .own 48 0), (3, .ba 24 0), (4, LL a99 x1.1), (5, .ba 40 0), (6, .own 48 0), (32, I (lenL x4.1)), (33, I z0.2)] [(24, .box [LL I x3.2.1, I x3.2.2] false), (40, .box [I x2.1, I x3.1] false), (48, RR 93 2 a92 z0.1 0 false)] 98)) z)) (fun x => .inr ((Sum.elim (fun (x : (Int × Bool × (List S92))) => (.exit 0, (mkE [(3, .ba 24 0), (4, LL a99 x1.1), (5, .ba 40 0), (6, .own 48 0), (31, .own 48 0), (32, I (lenL x4.1)), (33, I x.1), (34, B x.2.1)] [(24, .box [LL I x3.2.1, I x3.2.2] false), (40, .box [I x2.1, I x3.1] false), (48, RR 93 2 a92 x.2.2 0 false)] 98))) (fun (x : Unit) => (.ret, (mkE [(2, B false)] [] 98)))) x))) := by
  unfold L12_7
  let d_0 : List (Option Nat × REff) := [(some 57, qe (B true)), (some 58, qe (.und)), (some 59, qe (.und)), (some 60, qe (.und)), (some 61, qe (.und)), (some 62, qe (.und)), (some 63, qe (.und)), (some 64, qe (.und)), (some 65, qe (.und)), (some 66, qe (.und)), (some 67, qe (.und)), (some 68, qe (.und)), (some 69, qe (.und)), (some 70, qe (.und)), (some 71, qe (B true))]
  let d_1 : List (Option Nat × REff) := [(some 43, qe (B false)), (some 44, qe (.ba 72 0))]
  let d_2 : List (Option Nat × REff) := [(some 46, qe (.ba 40 0)), (some 47, qe (I x2.1))]
  let d_3 : List (Option Nat × REff) := [(some 57, qe (B false)), (some 58, qe (I z0.2)), (some 59, qe (B (ltI 0 z0.2)))]
  let d_4 : List (Option Nat × REff) := [(some 50, qe (B false)), (some 51, qe (.ba 72 1))]
  let d_5 : List (Option Nat × REff) := [(some 53, qe (.ba 40 1)), (some 54, qe (I x3.1))]
  let d_6 : List (Option Nat × REff) := [(some 38, qe (.ba 72 0))]
  let d_7 : List (Option Nat × REff) := [(some 40, qe (.ba 72 1))]
  let s_0 : List (Nat × AV) := [(3, .ba 24 0), (4, LL a99 x1.1), (5, .ba 40 0), (6, .own 48 0), (8, I z0.2), (9, .ba 72 0), (31, .own 48 0), (32, I (lenL x4.1)), (33, I z0.2)]
  let s_1 : List (Nat × AV) := [(3, .ba 24 0), (4, LL a99 x1.1), (5, .ba 40 0), (6, .own 48 0), (31, .own 48 0), (32, I (lenL x4.1))]
  let s_2 : List (Nat × AV) := [(71, B true), (70, .und), (69, .und), (68, .und), (67, .und), (66, .und), (65, .und), (64, .und), (63, .und), (62, .und), (61, .und), (60, .und), (59, .und), (58, .und), (57, B true)]
  let s_3 : List (Nat × AV) := [(59, B (ltI 0 z0.2)), (58, I z0.2), (57, B false)]
  let o_0 : List (Nat × AObj) := [(24, .box [LL I x3.2.1, I x3.2.2] false), (40, .box [I x2.1, I x3.1] false), (48, RR 93 2 a92 z0.1 0 false)]
  refine gS 0 ?_
  refine gR 7 (rg Tryz.f12 7) ?_
  refine se (mkE (s_1.append ((33, I z0.2) :: [(34, B (ltI z0.2 (lenL x4.1)))])) o_0 98) ?_
  refine pN ?_
  refine pS ?_
  refine gS 8 ?_
  refine gC 34 (ltI z0.2 (lenL x4.1)) ?_ ?_
  · refine gK ?_
    refine pN ?_
    refine pS ?_
    refine gS 11 ?_
    refine gB 1 ?_
    refine gS 9 ?_
    refine gR 8 (rg Tryz.f12 8) ?_
    refine sg 1 (mkE ((35, I z0.2) :: (s_1.append ((33, I z0.2) :: [(34, B (ltI z0.2 (lenL x4.1)))]))) o_0 98) ?_
    refine vo 36 (addrOE 108 93 2 48 0 false a92 .i64 z0.1 z0.2) (fun x5 => ?_)
    refine vo 37 (loadOE 93 48 0 x5 0 93 2 2 true false a92 (fun q : S92 => a92 q) z0.1) (fun x6 => ?_)
    refine se (mkE s_0 (o_0.append [(72, .box [I x6.f0, I x6.f1] false)]) 98) ?_
    refine pN ?_
    refine pS ?_
    refine gS 0 ?_
    refine gD 9 34 (rg Tryz.f12 9) [0, 1, 2, 3, 4, 5, 6, 7, 8, 9, 10, 11, 12, 13, 14, 15, 16, 17, 18, 19, 20, 21, 22, 23, 24, 25, 26, 27, 28, 29, 30, 31, 32, 33] ?_
    refine dg 6 (d_6.append ((some 39, qe (I x6.f0)) :: (d_7.append ((some 41, qe (I x6.f1)) :: ((some 42, qe (B (leI x6.f1 x6.f0))) :: [(some 43, qe (B (leI x6.f1 x6.f0)))]))))) ?_
    refine db 5 43 (leI x6.f1 x6.f0) ?_ ?_
    · refine dg 34 (d_6.append ((some 39, qe (I x6.f0)) :: (d_7.append ((some 41, qe (I x6.f1)) :: ((some 42, qe (B (leI x6.f1 x6.f0))) :: ((some 43, qe (B true)) :: ((some 44, qe (.und)) :: ((some 45, qe (.und)) :: ((some 46, qe (.und)) :: ((some 47, qe (.und)) :: ((some 48, qe (.und)) :: ((some 49, qe (B true)) :: ((some 50, qe (B true)) :: ((some 51, qe (.und)) :: ((some 52, qe (.und)) :: ((some 53, qe (.und)) :: ((some 54, qe (.und)) :: ((some 55, qe (.und)) :: ((some 56, qe (B true)) :: d_0))))))))))))))))))) ?_
      refine de (mkE (s_2.append ((56, B true) :: ((55, .und) :: ((54, .und) :: ((53, .und) :: ((52, .und) :: ((51, .und) :: ((50, B true) :: ((49, B true) :: ((48, .und) :: ((47, .und) :: ((46, .und) :: ((45, .und) :: ((44, .und) :: ((43, B true) :: ((42, B (leI x6.f1 x6.f0)) :: ((41, I x6.f1) :: ((40, .ba 72 1) :: ((39, I x6.f0) :: ((38, .ba 72 0) :: s_0)))))))))))))))))))) (o_0.append [(72, .box [I x6.f0, I x6.f1] false)]) 98) ?_
      refine se (mkE (s_1.append ((33, I z0.2) :: [(71, B true)])) o_0 98) ?_
      refine pN ?_
      refine pS ?_
      refine gT (.tmp 71) ?_
      refine gS 0 ?_
      refine gR 10 (rg Tryz.f12 10) ?_
      refine se (mkE [(2, B false)] [] 98) ?_
      refine pN ?_
      refine pS ?_
      refine gE ?_
      exact pL
    · refine dg 13 (d_6.append ((some 39, qe (I x6.f0)) :: (d_7.append ((some 41, qe (I x6.f1)) :: ((some 42, qe (B (leI x6.f1 x6.f0))) :: (d_1.append ((some 45, qe (I x6.f0)) :: (d_2.append ((some 48, qe (B (ltI x6.f0 x2.1))) :: ((some 49, qe (B (ltI x6.f0 x2.1))) :: [(some 50, qe (B (ltI x6.f0 x2.1)))])))))))))) ?_
      refine db 12 50 (ltI x6.f0 x2.1) ?_ ?_
      · refine dg 34 (d_6.append ((some 39, qe (I x6.f0)) :: (d_7.append ((some 41, qe (I x6.f1)) :: ((some 42, qe (B (leI x6.f1 x6.f0))) :: (d_1.append ((some 45, qe (I x6.f0)) :: (d_2.append ((some 48, qe (B (ltI x6.f0 x2.1))) :: ((some 49, qe (B (ltI x6.f0 x2.1))) :: ((some 50, qe (B true)) :: ((some 51, qe (.und)) :: ((some 52, qe (.und)) :: ((some 53, qe (.und)) :: ((some 54, qe (.und)) :: ((some 55, qe (.und)) :: ((some 56, qe (B true)) :: d_0))))))))))))))))) ?_
        refine de (mkE (s_2.append ((56, B true) :: ((55, .und) :: ((54, .und) :: ((53, .und) :: ((52, .und) :: ((51, .und) :: ((50, B true) :: ((49, B (ltI x6.f0 x2.1)) :: ((48, B (ltI x6.f0 x2.1)) :: ((47, I x2.1) :: ((46, .ba 40 0) :: ((45, I x6.f0) :: ((44, .ba 72 0) :: ((43, B false) :: ((42, B (leI x6.f1 x6.f0)) :: ((41, I x6.f1) :: ((40, .ba 72 1) :: ((39, I x6.f0) :: ((38, .ba 72 0) :: s_0)))))))))))))))))))) (o_0.append [(72, .box [I x6.f0, I x6.f1] false)]) 98) ?_
        refine se (mkE (s_1.append ((33, I z0.2) :: [(71, B true)])) o_0 98) ?_
        refine pN ?_
        refine pS ?_
        refine gT (.tmp 71) ?_
        refine gS 0 ?_
        refine gR 10 (rg Tryz.f12 10) ?_
        refine se (mkE [(2, B false)] [] 98) ?_
        refine pN ?_
        refine pS ?_
        refine gE ?_
        exact pL
      · refine dg 20 (d_6.append ((some 39, qe (I x6.f0)) :: (d_7.append ((some 41, qe (I x6.f1)) :: ((some 42, qe (B (leI x6.f1 x6.f0))) :: (d_1.append ((some 45, qe (I x6.f0)) :: (d_2.append ((some 48, qe (B (ltI x6.f0 x2.1))) :: ((some 49, qe (B (ltI x6.f0 x2.1))) :: (d_4.append ((some 52, qe (I x6.f1)) :: (d_5.append ((some 55, qe (B (ltI x3.1 x6.f1))) :: ((some 56, qe (B (ltI x3.1 x6.f1))) :: [(some 57, qe (B (ltI x3.1 x6.f1)))]))))))))))))))) ?_
        refine db 19 57 (ltI x3.1 x6.f1) ?_ ?_
        · refine dg 34 (d_6.append ((some 39, qe (I x6.f0)) :: (d_7.append ((some 41, qe (I x6.f1)) :: ((some 42, qe (B (leI x6.f1 x6.f0))) :: (d_1.append ((some 45, qe (I x6.f0)) :: (d_2.append ((some 48, qe (B (ltI x6.f0 x2.1))) :: ((some 49, qe (B (ltI x6.f0 x2.1))) :: (d_4.append ((some 52, qe (I x6.f1)) :: (d_5.append ((some 55, qe (B (ltI x3.1 x6.f1))) :: ((some 56, qe (B (ltI x3.1 x6.f1))) :: d_0))))))))))))))) ?_
          refine de (mkE (s_2.append ((56, B (ltI x3.1 x6.f1)) :: ((55, B (ltI x3.1 x6.f1)) :: ((54, I x3.1) :: ((53, .ba 40 1) :: ((52, I x6.f1) :: ((51, .ba 72 1) :: ((50, B false) :: ((49, B (ltI x6.f0 x2.1)) :: ((48, B (ltI x6.f0 x2.1)) :: ((47, I x2.1) :: ((46, .ba 40 0) :: ((45, I x6.f0) :: ((44, .ba 72 0) :: ((43, B false) :: ((42, B (leI x6.f1 x6.f0)) :: ((41, I x6.f1) :: ((40, .ba 72 1) :: ((39, I x6.f0) :: ((38, .ba 72 0) :: s_0)))))))))))))))))))) (o_0.append [(72, .box [I x6.f0, I x6.f1] false)]) 98) ?_
          refine se (mkE (s_1.append ((33, I z0.2) :: [(71, B true)])) o_0 98) ?_
          refine pN ?_
          refine pS ?_
          refine gT (.tmp 71) ?_
          refine gS 0 ?_
          refine gR 10 (rg Tryz.f12 10) ?_
          refine se (mkE [(2, B false)] [] 98) ?_
          refine pN ?_
          refine pS ?_
          refine gE ?_
          exact pL
        · refine dg 23 (d_6.append ((some 39, qe (I x6.f0)) :: (d_7.append ((some 41, qe (I x6.f1)) :: ((some 42, qe (B (leI x6.f1 x6.f0))) :: (d_1.append ((some 45, qe (I x6.f0)) :: (d_2.append ((some 48, qe (B (ltI x6.f0 x2.1))) :: ((some 49, qe (B (ltI x6.f0 x2.1))) :: (d_4.append ((some 52, qe (I x6.f1)) :: (d_5.append ((some 55, qe (B (ltI x3.1 x6.f1))) :: ((some 56, qe (B (ltI x3.1 x6.f1))) :: (d_3.append [(some 60, qe (B (ltI 0 z0.2)))])))))))))))))))) ?_
          refine db 22 60 (ltI 0 z0.2) ?_ ?_
          · refine dg 28 (d_6.append ((some 39, qe (I x6.f0)) :: (d_7.append ((some 41, qe (I x6.f1)) :: ((some 42, qe (B (leI x6.f1 x6.f0))) :: (d_1.append ((some 45, qe (I x6.f0)) :: (d_2.append ((some 48, qe (B (ltI x6.f0 x2.1))) :: ((some 49, qe (B (ltI x6.f0 x2.1))) :: (d_4.append ((some 52, qe (I x6.f1)) :: (d_5.append ((some 55, qe (B (ltI x3.1 x6.f1))) :: ((some 56, qe (B (ltI x3.1 x6.f1))) :: (d_3.append ((some 60, qe (B true)) :: ((some 61, qe (.ba 72 0)) :: ((some 62, qe (I x6.f0)) :: ((some 63, qe (.own 48 0)) :: ((some 64, qe (I z0.2)) :: [(some 65, qe (I (subI .i64 z0.2 1)))]))))))))))))))))))))) ?_
            refine dv 66 (mkE ((65, I (subI .i64 z0.2 1)) :: ((64, I z0.2) :: ((63, .own 48 0) :: ((60, B true) :: (s_3.append ((56, B (ltI x3.1 x6.f1)) :: ((55, B (ltI x3.1 x6.f1)) :: ((54, I x3.1) :: ((53, .ba 40 1) :: ((52, I x6.f1) :: ((51, .ba 72 1) :: ((50, B false) :: ((49, B (ltI x6.f0 x2.1)) :: ((48, B (ltI x6.f0 x2.1)) :: ((47, I x2.1) :: ((46, .ba 40 0) :: ((45, I x6.f0) :: ((44, .ba 72 0) :: ((43, B false) :: ((42, B (leI x6.f1 x6.f0)) :: ((41, I x6.f1) :: ((40, .ba 72 1) :: ((39, I x6.f0) :: ((38, .ba 72 0) :: s_0)))))))))))))))))))))))) (o_0.append [(72, .box [I x6.f0, I x6.f1] false)]) 98) (addrOE 108 93 2 48 0 false a92 .i64 z0.1 (subI .i64 z0.2 1)) (fun x7 => ?_)
            refine dg 30 (d_6.append ((some 39, qe (I x6.f0)) :: (d_7.append ((some 41, qe (I x6.f1)) :: ((some 42, qe (B (leI x6.f1 x6.f0))) :: (d_1.append ((some 45, qe (I x6.f0)) :: (d_2.append ((some 48, qe (B (ltI x6.f0 x2.1))) :: ((some 49, qe (B (ltI x6.f0 x2.1))) :: (d_4.append ((some 52, qe (I x6.f1)) :: (d_5.append ((some 55, qe (B (ltI x3.1 x6.f1))) :: ((some 56, qe (B (ltI x3.1 x6.f1))) :: (d_3.append ((some 60, qe (B true)) :: ((some 61, qe (.ba 72 0)) :: ((some 62, qe (I x6.f0)) :: ((some 63, qe (.own 48 0)) :: ((some 64, qe (I z0.2)) :: ((some 65, qe (I (subI .i64 z0.2 1))) :: ((some 66, qe (.oa 48 0 x7 0)) :: [(some 67, qe (.oa 48 0 x7 1))]))))))))))))))))))))))) ?_
            refine dv 68 (mkE ((67, .oa 48 0 x7 1) :: ((66, .oa 48 0 x7 0) :: ((65, I (subI .i64 z0.2 1)) :: ((64, I z0.2) :: ((63, .own 48 0) :: ((60, B true) :: (s_3.append ((56, B (ltI x3.1 x6.f1)) :: ((55, B (ltI x3.1 x6.f1)) :: ((54, I x3.1) :: ((53, .ba 40 1) :: ((52, I x6.f1) :: ((51, .ba 72 1) :: ((50, B false) :: ((49, B (ltI x6.f0 x2.1)) :: ((48, B (ltI x6.f0 x2.1)) :: ((47, I x2.1) :: ((46, .ba 40 0) :: ((45, I x6.f0) :: ((44, .ba 72 0) :: ((43, B false) :: ((42, B (leI x6.f1 x6.f0)) :: ((41, I x6.f1) :: ((40, .ba 72 1) :: ((39, I x6.f0) :: ((38, .ba 72 0) :: s_0)))))))))))))))))))))))))) (o_0.append [(72, .box [I x6.f0, I x6.f1] false)]) 98) (loadOE 3 48 0 x7 1 93 2 1 false false a92 (fun q : S92 => I q.f1) z0.1) (fun x8 => ?_)
            refine dg 34 (d_6.append ((some 39, qe (I x6.f0)) :: (d_7.append ((some 41, qe (I x6.f1)) :: ((some 42, qe (B (leI x6.f1 x6.f0))) :: (d_1.append ((some 45, qe (I x6.f0)) :: (d_2.append ((some 48, qe (B (ltI x6.f0 x2.1))) :: ((some 49, qe (B (ltI x6.f0 x2.1))) :: (d_4.append ((some 52, qe (I x6.f1)) :: (d_5.append ((some 55, qe (B (ltI x3.1 x6.f1))) :: ((some 56, qe (B (ltI x3.1 x6.f1))) :: (d_3.append ((some 60, qe (B true)) :: ((some 61, qe (.ba 72 0)) :: ((some 62, qe (I x6.f0)) :: ((some 63, qe (.own 48 0)) :: ((some 64, qe (I z0.2)) :: ((some 65, qe (I (subI .i64 z0.2 1))) :: ((some 66, qe (.oa 48 0 x7 0)) :: ((some 67, qe (.oa 48 0 x7 1)) :: ((some 68, qe (I x8.f1)) :: ((some 69, qe (B (leI x6.f0 x8.f1))) :: ((some 70, qe (B (leI x6.f0 x8.f1))) :: [(some 71, qe (B (leI x6.f0 x8.f1)))]))))))))))))))))))))))))))) ?_
            refine de (mkE ((71, B (leI x6.f0 x8.f1)) :: ((70, B (leI x6.f0 x8.f1)) :: ((69, B (leI x6.f0 x8.f1)) :: ((68, I x8.f1) :: ((67, .oa 48 0 x7 1) :: ((66, .oa 48 0 x7 0) :: ((65, I (subI .i64 z0.2 1)) :: ((64, I z0.2) :: ((63, .own 48 0) :: ((62, I x6.f0) :: ((61, .ba 72 0) :: ((60, B true) :: (s_3.append ((56, B (ltI x3.1 x6.f1)) :: ((55, B (ltI x3.1 x6.f1)) :: ((54, I x3.1) :: ((53, .ba 40 1) :: ((52, I x6.f1) :: ((51, .ba 72 1) :: ((50, B false) :: ((49, B (ltI x6.f0 x2.1)) :: ((48, B (ltI x6.f0 x2.1)) :: ((47, I x2.1) :: ((46, .ba 40 0) :: ((45, I x6.f0) :: ((44, .ba 72 0) :: ((43, B false) :: ((42, B (leI x6.f1 x6.f0)) :: ((41, I x6.f1) :: ((40, .ba 72 1) :: ((39, I x6.f0) :: ((38, .ba 72 0) :: s_0)))))))))))))))))))))))))))))))) (o_0.append [(72, .box [I x6.f0, I x6.f1] false)]) 98) ?_
            refine se (mkE (s_1.append ((33, I z0.2) :: [(71, B (leI x6.f0 x8.f1))])) o_0 98) ?_
            refine pN ?_
            refine pS ?_
            refine gC 71 (leI x6.f0 x8.f1) ?_ ?_
            · refine gS 0 ?_
              refine gR 10 (rg Tryz.f12 10) ?_
              refine se (mkE [(2, B false)] [] 98) ?_
              refine pN ?_
              refine pS ?_
              refine gE ?_
              exact pL
            · refine gK ?_
              refine pB ?_
              refine pN ?_
              refine pS ?_
              refine gR 11 (rg Tryz.f12 11) ?_
              refine se (mkE (s_1.append [(33, I (addI .i64 z0.2 1))]) o_0 98) ?_
              exact pL
          · refine dg 34 (d_6.append ((some 39, qe (I x6.f0)) :: (d_7.append ((some 41, qe (I x6.f1)) :: ((some 42, qe (B (leI x6.f1 x6.f0))) :: (d_1.append ((some 45, qe (I x6.f0)) :: (d_2.append ((some 48, qe (B (ltI x6.f0 x2.1))) :: ((some 49, qe (B (ltI x6.f0 x2.1))) :: (d_4.append ((some 52, qe (I x6.f1)) :: (d_5.append ((some 55, qe (B (ltI x3.1 x6.f1))) :: ((some 56, qe (B (ltI x3.1 x6.f1))) :: (d_3.append ((some 60, qe (B false)) :: ((some 61, qe (.und)) :: ((some 62, qe (.und)) :: ((some 63, qe (.und)) :: ((some 64, qe (.und)) :: ((some 65, qe (.und)) :: ((some 66, qe (.und)) :: ((some 67, qe (.und)) :: ((some 68, qe (.und)) :: ((some 69, qe (.und)) :: ((some 70, qe (B false)) :: [(some 71, qe (B false))]))))))))))))))))))))))))))) ?_
            refine de (mkE ((71, B false) :: ((70, B false) :: ((69, .und) :: ((68, .und) :: ((67, .und) :: ((66, .und) :: ((65, .und) :: ((64, .und) :: ((63, .und) :: ((62, .und) :: ((61, .und) :: ((60, B false) :: (s_3.append ((56, B (ltI x3.1 x6.f1)) :: ((55, B (ltI x3.1 x6.f1)) :: ((54, I x3.1) :: ((53, .ba 40 1) :: ((52, I x6.f1) :: ((51, .ba 72 1) :: ((50, B false) :: ((49, B (ltI x6.f0 x2.1)) :: ((48, B (ltI x6.f0 x2.1)) :: ((47, I x2.1) :: ((46, .ba 40 0) :: ((45, I x6.f0) :: ((44, .ba 72 0) :: ((43, B false) :: ((42, B (leI x6.f1 x6.f0)) :: ((41, I x6.f1) :: ((40, .ba 72 1) :: ((39, I x6.f0) :: ((38, .ba 72 0) :: s_0)))))))))))))))))))))))))))))))) (o_0.append [(72, .box [I x6.f0, I x6.f1] false)]) 98) ?_
            refine se (mkE (s_1.append ((33, I z0.2) :: [(71, B false)])) o_0 98) ?_
            refine pN ?_
            refine pS ?_
            refine gF (.tmp 71) ?_
            refine gK ?_
            refine pB ?_
            refine pN ?_
            refine pS ?_
            refine gR 11 (rg Tryz.f12 11) ?_
            refine se (mkE (s_1.append [(33, I (addI .i64 z0.2 1))]) o_0 98) ?_
            exact pL
  · refine gX 0 ?_
    exact pL
noncomputable def L12_13 (x1 : ((List S99) × (List Int) × Int)) (x2 : (Int × (List Int) × Int)) (x3 : (Int × (List Int) × Int)) (z1 : ((List Int) × Int × (List S92) × Int)) : Option (((List Int) × Int × (List S92) × Int) ⊕ ((Int × Bool × (List Int) × Int × (List S92)) ⊕ Unit)) := (bif (ltI z1.2.2.2 6) then ((T14 z1.1 z1.2.1 0 150).bind fun x10 => (bif (ltI x10.1 x2.1) then (some (.inl (x10.2.1, x10.2.2, z1.2.2.1, (addI .i64 z1.2.2.2 1)))) else (bif (leI x3.1 x10.1) then (some (.inl (x10.2.1, x10.2.2, z1.2.2.1, (addI .i64 z1.2.2.2 1)))) else ((T51 x1.1 x10.1).bind fun x11 => ((T53 z1.2.2.1 x10.1).bind fun x12 => (bif (x11 == x12) then (some (.inr (.inr ()))) else (some (.inl (x10.2.1, x10.2.2, z1.2.2.1, (addI .i64 z1.2.2.2 1)))))))))) else (some (.inr (.inl (z1.2.2.2, (ltI z1.2.2.2 6), z1.1, z1.2.1, z1.2.2.1)))))
theorem L12_13_ok (C : Callee) (h14 : ∀ (p0_c0 : (List Int)) (p0_c1 : Int) (p1 : Int) (p2 : Int), C 14 [.fb [LL I p0_c0, I p0_c1], I p1, I p2] = (T14 p0_c0 p0_c1 p1 p2).map (fun (r : (Int × (List Int) × Int)) => AV.inp (I r.1) (.fb [LL I r.2.1, I r.2.2]))) (h51 : ∀ (p0 : (List S99)) (p1_c0 : Int), C 51 [LL a99 p0, .fn 52 [.ia [I p1_c0] 0]] = (T51 p0 p1_c0).map B) (h53 : ∀ (p0 : (List S92)) (p1_c0 : Int), C 53 [LL a92 p0, .fn 54 [.ia [I p1_c0] 0]] = (T53 p0 p1_c0).map B) (x1 : ((List S99) × (List Int) × Int)) (x2 : (Int × (List Int) × Int)) (x3 : (Int × (List Int) × Int)) (z1 : ((List Int) × Int × (List S92) × Int)) : runs Tryz.prog C (cfg.fn 12) (finLoop ((cfg.fn 12).keep 13) ((cfg.fn 12).al 13)) [] (execA Tryz.prog C (cfg.fn 12) (nr Tryz.f12 [false, false, true, false, true, true, true, true, true, true]) ((fun z1 : ((List Int) × Int × (List S92) × Int) => (mkE [(3, .ba 24 0), (4, LL a99 x1.1), (5, .ba 40 0), (6, .own 48 0), (73, I z1.2.2.2)] [(24, .box [LL I z1.1, I z1.2.1] false), (40, .box [I x2.1, I x3.1] false), (48, RR 93 2 a92 z1.2.2.1 0 false)] 98)) z1)) = (L12_13 x1 x2 x3 z1).map (Sum.elim (fun z => .inl ((fun z1 : ((List Int) × Int × (List S92) × Int) => (mkE [(3, .ba 24 0), (4, LL a99 x1.1), (5, .ba 40 0), (6, .own 48 0), (73, I z1.2.2.2)] [(24, .box [LL I z1.1, I z1.2.1] false), (40, .box [I x2.1, I x3.1] false), (48, RR 93 2 a92 z1.2.2.1 0 false)] 98)) z)) (fun x => .inr ((Sum.elim (fun (x : (Int × Bool × (List Int) × Int × (List S92))) => (.exit 2, (mkE [(3, .ba 24 0), (4, LL a99 x1.1), (5, .ba 40 0), (6, .own 48 0), (73, I x.1), (74, B x.2.1)] [(24, .box [LL I x.2.2.1, I x.2.2.2.1] false), (40, .box [I x2.1, I x3.1] false), (48, RR 93 2 a92 x.2.2.2.2 0 false)] 98))) (fun (x : Unit) => (.ret, (mkE [(2, B false)] [] 98)))) x))) := by
  unfold L12_13
  let s_0 : List (Nat × AV) := [(3, .ba 24 0), (4, LL a99 x1.1), (5, .ba 40 0), (6, .own 48 0)]
  let o_0 : List (Nat × AObj) := [(40, .box [I x2.1, I x3.1] false), (48, RR 93 2 a92 z1.2.2.1 0 false)]
  refine gS 0 ?_
  refine gR 13 (rg Tryz.f12 13) ?_
  refine se (mkE (s_0.append ((73, I z1.2.2.2) :: [(74, B (ltI z1.2.2.2 6))])) ((24, .box [LL I z1.1, I z1.2.1] false) :: o_0) 98) ?_
  refine pN ?_
  refine pS ?_
  refine gS 14 ?_
  refine gC 74 (ltI z1.2.2.2 6) ?_ ?_
  · refine gK ?_
    refine pN ?_
    refine pS ?_
    refine gS 20 ?_
    refine gB 3 ?_
    refine gS 15 ?_
    refine gR 14 (rg Tryz.f12 14) ?_
    refine sg 1 (mkE ((75, .ba 24 0) :: (s_0.append ((73, I z1.2.2.2) :: [(74, B (ltI z1.2.2.2 6))]))) ((24, .box [LL I z1.1, I z1.2.1] false) :: o_0) 98) ?_
    refine mo (some 76) (ipB 14 24 [LL I z1.1, I z1.2.1] [LL I z1.1, I z1.2.1] [I 0, I 150] [I 0, I 150] [] (fun x : (Int × (List Int) × Int) => I x.1) (fun x : (Int × (List Int) × Int) => [LL I x.2.1, I x.2.2]) (h14 z1.1 z1.2.1 0 150)) (fun x10 => ?_)
    refine se (mkE (s_0.append ((10, .ba 80 0) :: [(73, I z1.2.2.2)])) ((24, .box [LL I x10.2.1, I x10.2.2] false) :: (o_0.append [(80, .box [I x10.1] false)])) 98) ?_
    refine pN ?_
    refine pS ?_
    refine gS 16 ?_
    refine gS 0 ?_
    refine gR 15 (rg Tryz.f12 15) ?_
    refine sg 5 (mkE ((81, B (ltI x10.1 x2.1)) :: ((80, B (ltI x10.1 x2.1)) :: ((79, I x2.1) :: ((78, .ba 40 0) :: ((77, I x10.1) :: (s_0.append ((10, .ba 80 0) :: [(73, I z1.2.2.2)]))))))) ((24, .box [LL I x10.2.1, I x10.2.2] false) :: (o_0.append [(80, .box [I x10.1] false)])) 98) ?_
    refine sb 81 (ltI x10.1 x2.1) ?_ ?_
    · refine se (mkE (s_0.append ((10, .ba 80 0) :: ((73, I z1.2.2.2) :: [(86, B true)]))) ((24, .box [LL I x10.2.1, I x10.2.2] false) :: (o_0.append [(80, .box [I x10.1] false)])) 98) ?_
      refine pN ?_
      refine pS ?_
      refine gT (.tmp 86) ?_
      refine gX 3 ?_
      refine pF ?_
      refine pO ?_
      refine pH ?_
      refine pN ?_
      refine pS ?_
      refine gR 20 (rg Tryz.f12 20) ?_
      refine se (mkE (s_0.append [(73, I (addI .i64 z1.2.2.2 1))]) ((24, .box [LL I x10.2.1, I x10.2.2] false) :: o_0) 98) ?_
      exact pL
    · refine se (mkE (s_0.append ((10, .ba 80 0) :: ((73, I z1.2.2.2) :: [(86, B (leI x3.1 x10.1))]))) ((24, .box [LL I x10.2.1, I x10.2.2] false) :: (o_0.append [(80, .box [I x10.1] false)])) 98) ?_
      refine pN ?_
      refine pS ?_
      refine gC 86 (leI x3.1 x10.1) ?_ ?_
      · refine gX 3 ?_
        refine pF ?_
        refine pO ?_
        refine pH ?_
        refine pN ?_
        refine pS ?_
        refine gR 20 (rg Tryz.f12 20) ?_
        refine se (mkE (s_0.append [(73, I (addI .i64 z1.2.2.2 1))]) ((24, .box [LL I x10.2.1, I x10.2.2] false) :: o_0) 98) ?_
        exact pL
      · refine gK ?_
        refine pN ?_
        refine pS ?_
        refine gS 17 ?_
        refine gR 16 (rg Tryz.f12 16) ?_
        refine sg 2 (mkE ((88, .fn 52 [.ba 80 0]) :: ((87, LL a99 x1.1) :: (s_0.append ((10, .ba 80 0) :: ((73, I z1.2.2.2) :: [(86, B (leI x3.1 x10.1))]))))) ((24, .box [LL I x10.2.1, I x10.2.2] false) :: (o_0.append [(80, .box [I x10.1] false)])) 98) ?_
        refine co 89 [80] (h51 x1.1 x10.1) (fun x11 => ?_)
        refine se (mkE (s_0.append ((10, .ba 80 0) :: ((11, B x11) :: [(73, I z1.2.2.2)]))) ((24, .box [LL I x10.2.1, I x10.2.2] false) :: (o_0.append [(80, .box [I x10.1] false)])) 98) ?_
        refine pN ?_
        refine pS ?_
        refine gS 18 ?_
        refine gR 17 (rg Tryz.f12 17) ?_
        refine sg 2 (mkE ((91, .fn 54 [.ba 80 0]) :: ((90, .own 48 0) :: (s_0.append ((10, .ba 80 0) :: ((11, B x11) :: [(73, I z1.2.2.2)]))))) ((24, .box [LL I x10.2.1, I x10.2.2] false) :: (o_0.append [(80, .box [I x10.1] false)])) 98) ?_
        refine co 92 [48, 80] (h53 z1.2.2.1 x10.1) (fun x12 => ?_)
        refine se (mkE (s_0.append ((11, B x11) :: ((12, B x12) :: [(73, I z1.2.2.2)]))) ((24, .box [LL I x10.2.1, I x10.2.2] false) :: o_0) 98) ?_
        refine pN ?_
        refine pS ?_
        refine gS 0 ?_
        refine gR 18 (rg Tryz.f12 18) ?_
        refine se (mkE (s_0.append ((73, I z1.2.2.2) :: [(95, B (x11 == x12))])) ((24, .box [LL I x10.2.1, I x10.2.2] false) :: o_0) 98) ?_
        refine pN ?_
        refine pS ?_
        refine gC 95 (x11 == x12) ?_ ?_
        · refine gS 0 ?_
          refine gR 19 (rg Tryz.f12 19) ?_
          refine se (mkE [(2, B false)] [] 98) ?_
          refine pN ?_
          refine pS ?_
          refine gE ?_
          exact pL
        · refine gK ?_
          refine pB ?_
          refine pN ?_
          refine pS ?_
          refine gR 20 (rg Tryz.f12 20) ?_
          refine se (mkE (s_0.append [(73, I (addI .i64 z1.2.2.2 1))]) ((24, .box [LL I x10.2.1, I x10.2.2] false) :: o_0) 98) ?_
          exact pL
  · refine gX 2 ?_
    exact pL
noncomputable def T12 (p0 : (List Int)) : Option Bool := ((T49 p0 0 6).bind fun x1 => ((T14 x1.2.1 x1.2.2 0 20).bind fun x2 => ((T14 x2.2.1 x2.2.2 20 150).bind fun x3 => ((T50 x1.1 (ByteArray.mk #[112, 97]) (S92.mk x2.1 x3.1)).bind fun x4 => (bif (neI x4.2 0) then (some false) else ((iter (L12_7 x1 x2 x3 x4) (x4.1, 0)).bind fun y9 => (Sum.elim (fun y9a => ((iter (L12_13 x1 x2 x3) (x3.2.1, x3.2.2, y9a.2.2, 0)).bind fun y13 => (Sum.elim (fun y13a => ((T26).bind fun x14 => (some x14))) (fun y13b => (some false)) y13))) (fun y9b => (some false)) y9)))))))
theorem B12 (C : Callee) (h14 : ∀ (p0_c0 : (List Int)) (p0_c1 : Int) (p1 : Int) (p2 : Int), C 14 [.fb [LL I p0_c0, I p0_c1], I p1, I p2] = (T14 p0_c0 p0_c1 p1 p2).map (fun (r : (Int × (List Int) × Int)) => AV.inp (I r.1) (.fb [LL I r.2.1, I r.2.2]))) (h26 : C 26 [] = (T26).map B) (h49 : ∀ (p0_c0 : (List Int)) (p0_c1 : Int) (p1 : Int), C 49 [.fb [LL I p0_c0, I p0_c1], I p1] = (T49 p0_c0 p0_c1 p1).map (fun (r : ((List S99) × (List Int) × Int)) => AV.inp (LL a99 r.1) (.fb [LL I r.2.1, I r.2.2]))) (h50 : ∀ (p0 : (List S99)) (p1 : ByteArray) (p2 : S92), C 50 [LL a99 p0, S p1, a92 p2] = (T50 p0 p1 p2).map (fun r => AV.tup [(fun l => AV.fr 93 2 (List.map a92 l)) r.1, I r.2])) (h51 : ∀ (p0 : (List S99)) (p1_c0 : Int), C 51 [LL a99 p0, .fn 52 [.ia [I p1_c0] 0]] = (T51 p0 p1_c0).map B) (h53 : ∀ (p0 : (List S92)) (p1_c0 : Int), C 53 [LL a92 p0, .fn 54 [.ia [I p1_c0] 0]] = (T53 p0 p1_c0).map B) (p0 : (List Int)) : runs Tryz.prog C (cfg.fn 12) (finFn Tryz.prog (cfg.fn 12).byval Tryz.f12) [] (execA Tryz.prog C (cfg.fn 12) (nr Tryz.f12 []) (frame0 [LL I p0] 98 false)) = (T12 p0).map B := by
  unfold T12
  let s_0 : List (Nat × AV) := [(5, .ba 40 0), (6, .own 48 0)]
  refine gS 1 ?_
  refine gR 0 (rg Tryz.f12 0) ?_
  refine se (mkE [(0, LL I p0)] [] 98) ?_
  refine pN ?_
  refine pS ?_
  refine gS 2 ?_
  refine gR 1 (rg Tryz.f12 1) ?_
  refine se (mkE [(3, .ba 120 0)] [(120, .box [LL I p0, I 0] false)] 98) ?_
  refine pN ?_
  refine pS ?_
  refine gS 3 ?_
  refine gR 2 (rg Tryz.f12 2) ?_
  refine sg 1 (mkE [(16, .ba 120 0), (3, .ba 120 0)] [(120, .box [LL I p0, I 0] false)] 98) ?_
  refine mo (some 17) (ipB 49 120 [LL I p0, I 0] [LL I p0, I 0] [I 6] [I 6] [] (fun x : ((List S99) × (List Int) × Int) => LL a99 x.1) (fun x : ((List S99) × (List Int) × Int) => [LL I x.2.1, I x.2.2]) (h49 p0 0 6)) (fun x1 => ?_)
  refine sg 3 (mkE [(18, .ba 120 0), (17, LL a99 x1.1), (16, .ba 120 0), (3, .ba 120 0)] [(120, .box [LL I x1.2.1, I x1.2.2] false), (120, .box [LL I p0, I 0] false)] 98) ?_
  refine mo (some 19) (ipB 14 120 [LL I x1.2.1, I x1.2.2] [LL I x1.2.1, I x1.2.2] [I 0, I 20] [I 0, I 20] [] (fun x : (Int × (List Int) × Int) => I x.1) (fun x : (Int × (List Int) × Int) => [LL I x.2.1, I x.2.2]) (h14 x1.2.1 x1.2.2 0 20)) (fun x2 => ?_)
  refine sg 5 (mkE [(20, .ba 120 0), (19, I x2.1), (18, .ba 120 0), (17, LL a99 x1.1), (16, .ba 120 0), (3, .ba 120 0)] [(120, .box [LL I x2.2.1, I x2.2.2] false), (120, .box [LL I x1.2.1, I x1.2.2] false), (120, .box [LL I p0, I 0] false)] 98) ?_
  refine mo (some 21) (ipB 14 120 [LL I x2.2.1, I x2.2.2] [LL I x2.2.1, I x2.2.2] [I 20, I 150] [I 20, I 150] [] (fun x : (Int × (List Int) × Int) => I x.1) (fun x : (Int × (List Int) × Int) => [LL I x.2.1, I x.2.2]) (h14 x2.2.1 x2.2.2 20 150)) (fun x3 => ?_)
  refine se (mkE [(3, .ba 120 0), (4, LL a99 x1.1), (5, .ba 40 0)] [(40, .box [I x2.1, I x3.1] false), (120, .box [LL I x3.2.1, I x3.2.2] false)] 98) ?_
  refine pN ?_
  refine pS ?_
  refine gS 4 ?_
  refine gR 3 (rg Tryz.f12 3) ?_
  refine sg 2 (mkE [(25, .agg [I x2.1, I x3.1]), (24, LL a99 x1.1), (3, .ba 120 0), (4, LL a99 x1.1), (5, .ba 40 0)] [(40, .box [I x2.1, I x3.1] false), (120, .box [LL I x3.2.1, I x3.2.2] false)] 98) ?_
  refine co 26 [] (h50 x1.1 (ByteArray.mk #[112, 97]) (S92.mk x2.1 x3.1)) (fun x4 => ?_)
  refine se (mkE [(3, .ba 120 0), (4, LL a99 x1.1), (5, .ba 40 0), (6, .own 208 0), (7, I x4.2)] [(40, .box [I x2.1, I x3.1] false), (120, .box [LL I x3.2.1, I x3.2.2] false), (208, RR 93 2 a92 x4.1 0 false)] 98) ?_
  refine pN ?_
  refine pS ?_
  refine gS 6 ?_
  refine gS 0 ?_
  refine gR 4 (rg Tryz.f12 4) ?_
  refine se (mkE [(3, .ba 120 0), (4, LL a99 x1.1), (5, .ba 40 0), (6, .own 208 0), (30, B (neI x4.2 0))] [(40, .box [I x2.1, I x3.1] false), (120, .box [LL I x3.2.1, I x3.2.2] false), (208, RR 93 2 a92 x4.1 0 false)] 98) ?_
  refine pN ?_
  refine pS ?_
  refine gC 30 (neI x4.2 0) ?_ ?_
  · refine gS 0 ?_
    refine gR 5 (rg Tryz.f12 5) ?_
    refine se (mkE [(2, B false)] [] 98) ?_
    refine pN ?_
    refine pS ?_
    refine gE ?_
    exact pL
  · refine gK ?_
    refine pN ?_
    refine pS ?_
    refine gS 12 ?_
    refine gS 7 ?_
    refine gR 6 (rg Tryz.f12 6) ?_
    refine sg 1 (mkE [(31, .own 208 0), (3, .ba 120 0), (4, LL a99 x1.1), (5, .ba 40 0), (6, .own 208 0), (30, B (neI x4.2 0))] [(40, .box [I x2.1, I x3.1] false), (120, .box [LL I x3.2.1, I x3.2.2] false), (208, RR 93 2 a92 x4.1 0 false)] 98) ?_
    refine eo 32 (I (lenL x4.1)) (lenOE 108 93 2 a92 x4.1) ?_
    refine se (mkE [(3, .ba 120 0), (4, LL a99 x1.1), (5, .ba 40 0), (6, .own 208 0), (31, .own 208 0), (32, I (lenL x4.1)), (33, I 0)] [(40, .box [I x2.1, I x3.1] false), (120, .box [LL I x3.2.1, I x3.2.2] false), (208, RR 93 2 a92 x4.1 0 false)] 98) ?_
    refine pN ?_
    refine pS ?_
    refine gB 0 ?_
    refine lo [(3, none), (4, none), (5, none), (6, some (93, 2)), (32, none), (33, none)] [(31, 6)] (L12_7 x1 x2 x3 x4) (fun z0 : ((List S92) × Int) => (mkE ((31, .own 48 0) :: ((3, .ba 24 0) :: ((4, LL a99 x1.1) :: (s_0.append ((32, I (lenL x4.1)) :: [(33, I z0.2)]))))) [(24, .box [LL I x3.2.1, I x3.2.2] false), (40, .box [I x2.1, I x3.1] false), (48, RR 93 2 a92 z0.1 0 false)] 98)) (Sum.elim (fun (x : (Int × Bool × (List S92))) => (.exit 0, (mkE ((3, .ba 24 0) :: ((4, LL a99 x1.1) :: (s_0.append ((31, .own 48 0) :: ((32, I (lenL x4.1)) :: ((33, I x.1) :: [(34, B x.2.1)])))))) [(24, .box [LL I x3.2.1, I x3.2.2] false), (40, .box [I x2.1, I x3.1] false), (48, RR 93 2 a92 x.2.2 0 false)] 98))) (fun (x : Unit) => (.ret, (mkE [(2, B false)] [] 98)))) (x4.1, 0) (fun z => L12_7_ok C x1 x2 x3 x4 z) ?_
    intro y9
    refine ss y9 (Z := (Sum.elim (fun (x : (Int × Bool × (List S92))) => (.exit 0, (mkE ((3, .ba 24 0) :: ((4, LL a99 x1.1) :: (s_0.append ((31, .own 48 0) :: ((32, I (lenL x4.1)) :: ((33, I x.1) :: [(34, B x.2.1)])))))) [(24, .box [LL I x3.2.1, I x3.2.2] false), (40, .box [I x2.1, I x3.1] false), (48, RR 93 2 a92 x.2.2 0 false)] 98))) (fun (x : Unit) => (.ret, (mkE [(2, B false)] [] 98))))) (fun y9a => ?_) (fun y9b => ?_)
    · refine pH ?_
      refine pN ?_
      refine pS ?_
      refine gS 21 ?_
      refine gS 13 ?_
      refine gR 12 (rg Tryz.f12 12) ?_
      refine se (mkE ((3, .ba 24 0) :: ((4, LL a99 x1.1) :: (s_0.append [(73, I 0)]))) [(24, .box [LL I x3.2.1, I x3.2.2] false), (40, .box [I x2.1, I x3.1] false), (48, RR 93 2 a92 y9a.2.2 0 false)] 98) ?_
      refine pN ?_
      refine pS ?_
      refine gB 2 ?_
      refine lo [(3, none), (4, none), (5, none), (6, some (93, 2)), (73, none)] [] (L12_13 x1 x2 x3) (fun z1 : ((List Int) × Int × (List S92) × Int) => (mkE ((3, .ba 24 0) :: ((4, LL a99 x1.1) :: (s_0.append [(73, I z1.2.2.2)]))) [(24, .box [LL I z1.1, I z1.2.1] false), (40, .box [I x2.1, I x3.1] false), (48, RR 93 2 a92 z1.2.2.1 0 false)] 98)) (Sum.elim (fun (x : (Int × Bool × (List Int) × Int × (List S92))) => (.exit 2, (mkE ((3, .ba 24 0) :: ((4, LL a99 x1.1) :: (s_0.append ((73, I x.1) :: [(74, B x.2.1)])))) [(24, .box [LL I x.2.2.1, I x.2.2.2.1] false), (40, .box [I x2.1, I x3.1] false), (48, RR 93 2 a92 x.2.2.2.2 0 false)] 98))) (fun (x : Unit) => (.ret, (mkE [(2, B false)] [] 98)))) (x3.2.1, x3.2.2, y9a.2.2, 0) (fun z => L12_13_ok C h14 h51 h53 x1 x2 x3 z) ?_
      intro y13
      refine ss y13 (Z := (Sum.elim (fun (x : (Int × Bool × (List Int) × Int × (List S92))) => (.exit 2, (mkE ((3, .ba 24 0) :: ((4, LL a99 x1.1) :: (s_0.append ((73, I x.1) :: [(74, B x.2.1)])))) [(24, .box [LL I x.2.2.1, I x.2.2.2.1] false), (40, .box [I x2.1, I x3.1] false), (48, RR 93 2 a92 x.2.2.2.2 0 false)] 98))) (fun (x : Unit) => (.ret, (mkE [(2, B false)] [] 98))))) (fun y13a => ?_) (fun y13b => ?_)
      · refine pH ?_
        refine pN ?_
        refine pS ?_
        refine gS 0 ?_
        refine gR 21 (rg Tryz.f12 21) ?_
        refine co 97 [] (h26) (fun x14 => ?_)
        refine se (mkE [(2, B x14)] [] 98) ?_
        refine pN ?_
        refine pS ?_
        refine gE ?_
        exact pL
      · exact pL
    · exact pL
theorem F12 (m : Nat) (hm : 11 ≤ m) (p0 : (List Int)) : callA Tryz.prog cfg m 12 [LL I p0] = (T12 p0).map B := by
  obtain ⟨q, rfl⟩ : ∃ q, m = q + 1 := ⟨m - 1, by omega⟩
  exact (callA_body (fn := Tryz.f12) (c := body_ Tryz.f12) q _ (by kernel_rfl) (by kernel_rfl) (by kernel_rfl)).trans (B12 _ (fun p0_c0 p0_c1 p1 p2 => F14 q (by omega) p0_c0 p0_c1 p1 p2) (F26 q (by omega)) (fun p0_c0 p0_c1 p1 => F49 q (by omega) p0_c0 p0_c1 p1) (fun p0 p1 p2 => F50 q (by omega) p0 p1 p2) (fun p0 p1_c0 => F51 q (by omega) p0 p1_c0) (fun p0 p1_c0 => F53 q (by omega) p0 p1_c0) p0)

end Go.Abs.TKI
