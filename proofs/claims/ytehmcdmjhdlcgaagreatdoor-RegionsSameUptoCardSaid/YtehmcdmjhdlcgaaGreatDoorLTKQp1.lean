import Derived.Test.YtehmcdmjhdlcgaaGreatDoorLTKQ0
set_option maxRecDepth 100000
set_option linter.unusedVariables false
namespace Go.Abs.TKQ
open Go.RowKit Go.Proofs Go.Abs
noncomputable def T70 (p0 : Int) (p1 : Int) (p2 : Int) : Option Bool := (bif (ltI p0 p1) then (some true) else (some (ltI p2 p0)))
theorem B70 (C : Callee) (p0 : Int) (p1 : Int) (p2 : Int) : runs Tryz.prog C (cfg.fn 70) (finFn Tryz.prog (cfg.fn 70).byval Tryz.f70) [] (execA Tryz.prog C (cfg.fn 70) (nr Tryz.f70 []) (frame0 [I p0, I p1, I p2] 15 false)) = (T70 p0 p1 p2).map B := by
  unfold T70
  refine gS 1 ?_
  refine gR 0 (rg Tryz.f70 0) ?_
  refine se (mkE [(0, I p0), (1, I p1), (2, I p2)] [] 15) ?_
  refine pN ?_
  refine pS ?_
  refine gS 0 ?_
  refine gR 1 (rg Tryz.f70 1) ?_
  refine sg 4 (mkE [(10, B (ltI p0 p1)), (9, B (ltI p0 p1)), (8, I p1), (7, I p0), (0, I p0), (1, I p1), (2, I p2)] [] 15) ?_
  refine sb 10 (ltI p0 p1) ?_ ?_
  · refine se (mkE [(6, B true)] [] 15) ?_
    refine pN ?_
    refine pS ?_
    refine gE ?_
    exact pL
  · refine se (mkE [(6, B (ltI p2 p0))] [] 15) ?_
    refine pN ?_
    refine pS ?_
    refine gE ?_
    exact pL
theorem F70 (m : Nat) (hm : 1 ≤ m) (p0 : Int) (p1 : Int) (p2 : Int) : callA Tryz.prog cfg m 70 [I p0, I p1, I p2] = (T70 p0 p1 p2).map B := by
  obtain ⟨q, rfl⟩ : ∃ q, m = q + 1 := ⟨m - 1, by omega⟩
  exact (callA_body (fn := Tryz.f70) (c := body_ Tryz.f70) q _ (by kernel_rfl) (by kernel_rfl) (by kernel_rfl)).trans (B70 _ p0 p1 p2)

noncomputable def T63 (p0 : S28) : Option Int := ((T70 p0.f0 (-100000) 100000).bind fun x1 => (bif x1 then (some 1) else ((T70 p0.f1 (-100000) 100000).bind fun x2 => (bif x2 then (some 1) else ((T70 p0.f2 1 (subI .i64 100000 p0.f0)).bind fun x3 => (bif x3 then (some 1) else ((T70 p0.f3 1 (subI .i64 100000 p0.f1)).bind fun x4 => (bif x4 then (some 1) else (some 0)))))))))
theorem B63 (C : Callee) (h70 : ∀ (p0 : Int) (p1 : Int) (p2 : Int), C 70 [I p0, I p1, I p2] = (T70 p0 p1 p2).map B) (p0 : S28) : runs Tryz.prog C (cfg.fn 63) (finFn Tryz.prog (cfg.fn 63).byval Tryz.f63) [] (execA Tryz.prog C (cfg.fn 63) (nr Tryz.f63 []) (frame0 [a28 p0] 25 false)) = (T63 p0).map I := by
  unfold T63
  let s_0 : List (Nat × AV) := [(15, I (subI .i64 100000 p0.f0)), (14, I p0.f0), (13, .ba 8 0), (12, I p0.f2), (11, .ba 8 2), (1, .ba 8 0)]
  let o_0 : List (Nat × AObj) := [(8, .box [I p0.f0, I p0.f1, I p0.f2, I p0.f3] false)]
  refine gS 1 ?_
  refine gR 0 (rg Tryz.f63 0) ?_
  refine se (mkE [(1, .ba 8 0)] o_0 25) ?_
  refine pN ?_
  refine pS ?_
  refine gS 3 ?_
  refine gS 0 ?_
  refine gR 1 (rg Tryz.f63 1) ?_
  refine sg 2 (mkE [(4, I p0.f0), (3, .ba 8 0), (1, .ba 8 0)] o_0 25) ?_
  refine co 5 [] (h70 p0.f0 (-100000) 100000) (fun x1 => ?_)
  refine sg 4 (mkE [(6, B x1), (5, B x1), (4, I p0.f0), (3, .ba 8 0), (1, .ba 8 0)] o_0 25) ?_
  refine sb 6 x1 ?_ ?_
  · refine se (mkE [(1, .ba 8 0), (10, B true)] o_0 25) ?_
    refine pN ?_
    refine pS ?_
    refine gT (.tmp 10) ?_
    refine gS 0 ?_
    refine gR 2 (rg Tryz.f63 2) ?_
    refine se (mkE [(2, I 1)] [] 25) ?_
    refine pN ?_
    refine pS ?_
    refine gE ?_
    exact pL
  · refine sg 6 (mkE [(8, I p0.f1), (7, .ba 8 1), (6, B false), (6, B x1), (5, B x1), (4, I p0.f0), (3, .ba 8 0), (1, .ba 8 0)] o_0 25) ?_
    refine co 9 [] (h70 p0.f1 (-100000) 100000) (fun x2 => ?_)
    refine se (mkE [(1, .ba 8 0), (10, B x2)] o_0 25) ?_
    refine pN ?_
    refine pS ?_
    refine gC 10 x2 ?_ ?_
    · refine gS 0 ?_
      refine gR 2 (rg Tryz.f63 2) ?_
      refine se (mkE [(2, I 1)] [] 25) ?_
      refine pN ?_
      refine pS ?_
      refine gE ?_
      exact pL
    · refine gK ?_
      refine pN ?_
      refine pS ?_
      refine gS 5 ?_
      refine gS 0 ?_
      refine gR 3 (rg Tryz.f63 3) ?_
      refine sg 5 (mkE (s_0.append [(10, B x2)]) o_0 25) ?_
      refine co 16 [] (h70 p0.f2 1 (subI .i64 100000 p0.f0)) (fun x3 => ?_)
      refine sg 7 (mkE ((17, B x3) :: ((16, B x3) :: (s_0.append [(10, B x2)]))) o_0 25) ?_
      refine sb 17 x3 ?_ ?_
      · refine se (mkE [(24, B true)] [] 25) ?_
        refine pN ?_
        refine pS ?_
        refine gT (.tmp 24) ?_
        refine gS 0 ?_
        refine gR 4 (rg Tryz.f63 4) ?_
        refine se (mkE [(2, I 1)] [] 25) ?_
        refine pN ?_
        refine pS ?_
        refine gE ?_
        exact pL
      · refine sg 12 (mkE ((22, I (subI .i64 100000 p0.f1)) :: ((21, I p0.f1) :: ((20, .ba 8 1) :: ((19, I p0.f3) :: ((18, .ba 8 3) :: ((17, B false) :: ((17, B x3) :: ((16, B x3) :: (s_0.append [(10, B x2)]))))))))) o_0 25) ?_
        refine co 23 [] (h70 p0.f3 1 (subI .i64 100000 p0.f1)) (fun x4 => ?_)
        refine se (mkE [(24, B x4)] [] 25) ?_
        refine pN ?_
        refine pS ?_
        refine gC 24 x4 ?_ ?_
        · refine gS 0 ?_
          refine gR 4 (rg Tryz.f63 4) ?_
          refine se (mkE [(2, I 1)] [] 25) ?_
          refine pN ?_
          refine pS ?_
          refine gE ?_
          exact pL
        · refine gK ?_
          refine pN ?_
          refine pS ?_
          refine gS 0 ?_
          refine gR 5 (rg Tryz.f63 5) ?_
          refine se (mkE [(2, I 0)] [] 25) ?_
          refine pN ?_
          refine pS ?_
          refine gE ?_
          exact pL
theorem F63 (m : Nat) (hm : 2 ≤ m) (p0 : S28) : callA Tryz.prog cfg m 63 [a28 p0] = (T63 p0).map I := by
  obtain ⟨q, rfl⟩ : ∃ q, m = q + 1 := ⟨m - 1, by omega⟩
  exact (callA_body (fn := Tryz.f63) (c := body_ Tryz.f63) q _ (by kernel_rfl) (by kernel_rfl) (by kernel_rfl)).trans (B63 _ (fun p0 p1 p2 => F70 q (by omega) p0 p1 p2) p0)

noncomputable def L58_4 (p0 : (List S28)) (z0 : Int) : Option (Int ⊕ ((Int × Bool) ⊕ Int)) := (bif (ltI z0 (lenL p0)) then ((listAt p0 z0).bind fun x1 => ((T63 x1).bind fun x2 => (bif (neI x2 0) then (some (.inr (.inr x2))) else (some (.inl (addI .i64 z0 1)))))) else (some (.inr (.inl (z0, (ltI z0 (lenL p0)))))))
theorem L58_4_ok (C : Callee) (h63 : ∀ (p0 : S28), C 63 [a28 p0] = (T63 p0).map I) (p0 : (List S28)) (z0 : Int) : runs Tryz.prog C (cfg.fn 58) (finLoop ((cfg.fn 58).keep 4) ((cfg.fn 58).al 4)) [] (execA Tryz.prog C (cfg.fn 58) (nr Tryz.f58 [false, false, true, false, true, true]) ((fun z0 : Int => (mkE [(9, LL a28 p0), (10, I (lenL p0)), (11, I z0)] [] 21)) z0)) = (L58_4 p0 z0).map (Sum.elim (fun z => .inl ((fun z0 : Int => (mkE [(9, LL a28 p0), (10, I (lenL p0)), (11, I z0)] [] 21)) z)) (fun x => .inr ((Sum.elim (fun (x : (Int × Bool)) => (.exit 0, (mkE [(9, LL a28 p0), (10, I (lenL p0)), (11, I x.1), (12, B x.2)] [] 21))) (fun (x : Int) => (.ret, (mkE [(2, I x)] [] 21)))) x))) := by
  unfold L58_4
  let s_0 : List (Nat × AV) := [(9, LL a28 p0), (10, I (lenL p0)), (11, I z0)]
  refine gS 0 ?_
  refine gR 4 (rg Tryz.f58 4) ?_
  refine se (mkE (s_0.append [(12, B (ltI z0 (lenL p0)))]) [] 21) ?_
  refine pN ?_
  refine pS ?_
  refine gS 5 ?_
  refine gC 12 (ltI z0 (lenL p0)) ?_ ?_
  · refine gK ?_
    refine pN ?_
    refine pS ?_
    refine gS 9 ?_
    refine gB 1 ?_
    refine gS 6 ?_
    refine gR 5 (rg Tryz.f58 5) ?_
    refine vo 13 (addrE 26 29 4 a28 .i64 p0 z0) (fun x1 => ?_)
    refine se (mkE ((4, .ba 32 0) :: s_0) [(32, .box [I x1.f0, I x1.f1, I x1.f2, I x1.f3] false)] 21) ?_
    refine pN ?_
    refine pS ?_
    refine gS 7 ?_
    refine gR 6 (rg Tryz.f58 6) ?_
    refine sg 1 (mkE ((15, a28 x1) :: ((4, .ba 32 0) :: s_0)) [(32, .box [I x1.f0, I x1.f1, I x1.f2, I x1.f3] false)] 21) ?_
    refine co 16 [] (h63 x1) (fun x2 => ?_)
    refine se (mkE ((5, I x2) :: s_0) [] 21) ?_
    refine pN ?_
    refine pS ?_
    refine gS 0 ?_
    refine gR 7 (rg Tryz.f58 7) ?_
    refine se (mkE ((5, I x2) :: (s_0.append [(18, B (neI x2 0))])) [] 21) ?_
    refine pN ?_
    refine pS ?_
    refine gC 18 (neI x2 0) ?_ ?_
    · refine gS 0 ?_
      refine gR 8 (rg Tryz.f58 8) ?_
      refine se (mkE [(2, I x2)] [] 21) ?_
      refine pN ?_
      refine pS ?_
      refine gE ?_
      exact pL
    · refine gK ?_
      refine pB ?_
      refine pN ?_
      refine pS ?_
      refine gR 9 (rg Tryz.f58 9) ?_
      refine se (mkE [(9, LL a28 p0), (10, I (lenL p0)), (11, I (addI .i64 z0 1))] [] 21) ?_
      exact pL
  · refine gX 0 ?_
    exact pL
noncomputable def T58 (p0 : (List S28)) : Option Int := (bif (ltI 2000 (lenL p0)) then (some 2) else ((iter (L58_4 p0) 0).bind fun y3 => (Sum.elim (fun y3a => (some 0)) (fun y3b => (some y3b)) y3)))
theorem B58 (C : Callee) (h63 : ∀ (p0 : S28), C 63 [a28 p0] = (T63 p0).map I) (p0 : (List S28)) : runs Tryz.prog C (cfg.fn 58) (finFn Tryz.prog (cfg.fn 58).byval Tryz.f58) [] (execA Tryz.prog C (cfg.fn 58) (nr Tryz.f58 []) (frame0 [LL a28 p0] 21 false)) = (T58 p0).map I := by
  unfold T58
  refine gS 1 ?_
  refine gR 0 (rg Tryz.f58 0) ?_
  refine se (mkE [(0, LL a28 p0)] [] 21) ?_
  refine pN ?_
  refine pS ?_
  refine gS 3 ?_
  refine gS 0 ?_
  refine gR 1 (rg Tryz.f58 1) ?_
  refine sg 1 (mkE [(6, LL a28 p0), (0, LL a28 p0)] [] 21) ?_
  refine eo 7 (I (lenL p0)) (lenE 26 a28 p0) ?_
  refine se (mkE [(0, LL a28 p0), (8, B (ltI 2000 (lenL p0)))] [] 21) ?_
  refine pN ?_
  refine pS ?_
  refine gC 8 (ltI 2000 (lenL p0)) ?_ ?_
  · refine gS 0 ?_
    refine gR 2 (rg Tryz.f58 2) ?_
    refine se (mkE [(2, I 2)] [] 21) ?_
    refine pN ?_
    refine pS ?_
    refine gE ?_
    exact pL
  · refine gK ?_
    refine pN ?_
    refine pS ?_
    refine gS 10 ?_
    refine gS 4 ?_
    refine gR 3 (rg Tryz.f58 3) ?_
    refine sg 1 (mkE [(9, LL a28 p0), (0, LL a28 p0), (8, B (ltI 2000 (lenL p0)))] [] 21) ?_
    refine eo 10 (I (lenL p0)) (lenE 26 a28 p0) ?_
    refine se (mkE [(9, LL a28 p0), (10, I (lenL p0)), (11, I 0)] [] 21) ?_
    refine pN ?_
    refine pS ?_
    refine gB 0 ?_
    refine lo [(9, none), (10, none), (11, none)] [] (L58_4 p0) (fun z0 : Int => (mkE [(9, LL a28 p0), (10, I (lenL p0)), (11, I z0)] [] 21)) (Sum.elim (fun (x : (Int × Bool)) => (.exit 0, (mkE [(9, LL a28 p0), (10, I (lenL p0)), (11, I x.1), (12, B x.2)] [] 21))) (fun (x : Int) => (.ret, (mkE [(2, I x)] [] 21)))) 0 (fun z => L58_4_ok C h63 p0 z) ?_
    intro y3
    refine ss y3 (Z := (Sum.elim (fun (x : (Int × Bool)) => (.exit 0, (mkE [(9, LL a28 p0), (10, I (lenL p0)), (11, I x.1), (12, B x.2)] [] 21))) (fun (x : Int) => (.ret, (mkE [(2, I x)] [] 21))))) (fun y3a => ?_) (fun y3b => ?_)
    · refine pH ?_
      refine pN ?_
      refine pS ?_
      refine gS 0 ?_
      refine gR 10 (rg Tryz.f58 10) ?_
      refine se (mkE [(2, I 0)] [] 21) ?_
      refine pN ?_
      refine pS ?_
      refine gE ?_
      exact pL
    · exact pL
theorem F58 (m : Nat) (hm : 3 ≤ m) (p0 : (List S28)) : callA Tryz.prog cfg m 58 [LL a28 p0] = (T58 p0).map I := by
  obtain ⟨q, rfl⟩ : ∃ q, m = q + 1 := ⟨m - 1, by omega⟩
  exact (callA_body (fn := Tryz.f58) (c := body_ Tryz.f58) q _ (by kernel_rfl) (by kernel_rfl) (by kernel_rfl)).trans (B58 _ (fun p0 => F63 q (by omega) p0) p0)

theorem F62 (m : Nat) (hm : 1 ≤ m) (p1 : Int) : callA Tryz.prog cfg m 62 [.nils, I p1] = (growO S28 32 p1).map (fun l => AV.fr 29 4 (List.map a28 l)) := by
  obtain ⟨q, rfl⟩ : ∃ q, m = q + 1 := ⟨m - 1, by omega⟩
  exact (callA_leaf (L := (leafGrow Tryz.prog 29 4 32)) _ _ (by kernel_rfl)).trans (grow_leaf 29 4 32 a28 _ p1 (by kernel_rfl))

noncomputable def L21_3 (p0 : (List (List S28))) (z0 : (Int × Int)) : Option ((Int × Int) ⊕ (Int × Int × Bool)) := (bif (ltI z0.2 (lenL p0)) then ((listAt p0 z0.2).bind fun x1 => (bif (ltI (addI .i64 z0.1 (lenL x1)) 0) then none else (some (.inl ((addI .i64 z0.1 (lenL x1)), (addI .i64 z0.2 1)))))) else (some (.inr (z0.1, z0.2, (ltI z0.2 (lenL p0))))))
theorem L21_3_ok (C : Callee) (p0 : (List (List S28))) (z0 : (Int × Int)) : runs Tryz.prog C (cfg.fn 21) (finLoop ((cfg.fn 21).keep 3) ((cfg.fn 21).al 3)) [] (execA Tryz.prog C (cfg.fn 21) (nr Tryz.f21 [false, false, true, false, true, true]) ((fun z0 : (Int × Int) => (mkE [(0, LL (LL a28) p0), (3, I z0.1), (9, LL (LL a28) p0), (10, I (lenL p0)), (11, I z0.2)] [] 36)) z0)) = (L21_3 p0 z0).map (Sum.elim (fun z => .inl ((fun z0 : (Int × Int) => (mkE [(0, LL (LL a28) p0), (3, I z0.1), (9, LL (LL a28) p0), (10, I (lenL p0)), (11, I z0.2)] [] 36)) z)) (fun x => .inr ((fun (x : (Int × Int × Bool)) => (.exit 0, (mkE [(0, LL (LL a28) p0), (3, I x.1), (9, LL (LL a28) p0), (10, I (lenL p0)), (11, I x.2.1), (12, B x.2.2)] [] 36))) x))) := by
  unfold L21_3
  let s_0 : List (Nat × AV) := [(9, LL (LL a28) p0), (10, I (lenL p0)), (11, I z0.2)]
  refine gS 0 ?_
  refine gR 3 (rg Tryz.f21 3) ?_
  refine se (mkE ((0, LL (LL a28) p0) :: ((3, I z0.1) :: (s_0.append [(12, B (ltI z0.2 (lenL p0)))]))) [] 36) ?_
  refine pN ?_
  refine pS ?_
  refine gS 4 ?_
  refine gC 12 (ltI z0.2 (lenL p0)) ?_ ?_
  · refine gK ?_
    refine pN ?_
    refine pS ?_
    refine gS 8 ?_
    refine gB 1 ?_
    refine gS 5 ?_
    refine gR 4 (rg Tryz.f21 4) ?_
    refine vo 13 (addrE 126 26 1 (LL a28) .i64 p0 z0.2) (fun x1 => ?_)
    refine se (mkE ((0, LL (LL a28) p0) :: ((3, I z0.1) :: ((5, LL a28 x1) :: s_0))) [] 36) ?_
    refine pN ?_
    refine pS ?_
    refine gS 6 ?_
    refine gR 5 (rg Tryz.f21 5) ?_
    refine sg 2 (mkE ((16, LL a28 x1) :: ((15, I z0.1) :: ((0, LL (LL a28) p0) :: ((3, I z0.1) :: ((5, LL a28 x1) :: s_0))))) [] 36) ?_
    refine eo 17 (I (lenL x1)) (lenE 26 a28 x1) ?_
    refine se (mkE ((0, LL (LL a28) p0) :: ((3, I (addI .i64 z0.1 (lenL x1))) :: s_0)) [] 36) ?_
    refine pN ?_
    refine pS ?_
    refine gS 0 ?_
    refine gR 6 (rg Tryz.f21 6) ?_
    refine se (mkE ((0, LL (LL a28) p0) :: ((3, I (addI .i64 z0.1 (lenL x1))) :: (s_0.append [(20, B (ltI (addI .i64 z0.1 (lenL x1)) 0))]))) [] 36) ?_
    refine pN ?_
    refine pS ?_
    refine gC 20 (ltI (addI .i64 z0.1 (lenL x1)) 0) ?_ ?_
    · refine gR 7 (rg Tryz.f21 7) ?_
      exact nO
    · refine gK ?_
      refine pB ?_
      refine pN ?_
      refine pS ?_
      refine gR 8 (rg Tryz.f21 8) ?_
      refine se (mkE [(0, LL (LL a28) p0), (3, I (addI .i64 z0.1 (lenL x1))), (9, LL (LL a28) p0), (10, I (lenL p0)), (11, I (addI .i64 z0.2 1))] [] 36) ?_
      exact pL
  · refine gX 0 ?_
    exact pL
noncomputable def L21_11 (p0 : (List (List S28))) (z1 : ((List S28) × Int)) : Option (((List S28) × Int) ⊕ (Int × Bool × (List S28))) := (bif (ltI z1.2 (lenL p0)) then ((listAt p0 z1.2).bind fun x4 => ((appO 32 z1.1 x4).bind fun x5 => (some (.inl (x5, (addI .i64 z1.2 1)))))) else (some (.inr (z1.2, (ltI z1.2 (lenL p0)), z1.1))))
theorem L21_11_ok (C : Callee) (p0 : (List (List S28))) (z1 : ((List S28) × Int)) : runs Tryz.prog C (cfg.fn 21) (finLoop ((cfg.fn 21).keep 11) ((cfg.fn 21).al 11)) [] (execA Tryz.prog C (cfg.fn 21) (nr Tryz.f21 [false, false, true, false, true, true, true, true]) ((fun z1 : ((List S28) × Int) => (mkE [(6, .own 48 0), (25, LL (LL a28) p0), (26, I (lenL p0)), (27, I z1.2)] [(48, RR 29 4 a28 z1.1 0 false)] 36)) z1)) = (L21_11 p0 z1).map (Sum.elim (fun z => .inl ((fun z1 : ((List S28) × Int) => (mkE [(6, .own 48 0), (25, LL (LL a28) p0), (26, I (lenL p0)), (27, I z1.2)] [(48, RR 29 4 a28 z1.1 0 false)] 36)) z)) (fun x => .inr ((fun (x : (Int × Bool × (List S28))) => (.exit 2, (mkE [(6, .own 48 0), (25, LL (LL a28) p0), (26, I (lenL p0)), (27, I x.1), (28, B x.2.1)] [(48, RR 29 4 a28 x.2.2 0 false)] 36))) x))) := by
  unfold L21_11
  let s_0 : List (Nat × AV) := [(25, LL (LL a28) p0), (26, I (lenL p0)), (27, I z1.2)]
  refine gS 0 ?_
  refine gR 11 (rg Tryz.f21 11) ?_
  refine se (mkE ((6, .own 48 0) :: (s_0.append [(28, B (ltI z1.2 (lenL p0)))])) [(48, RR 29 4 a28 z1.1 0 false)] 36) ?_
  refine pN ?_
  refine pS ?_
  refine gS 12 ?_
  refine gC 28 (ltI z1.2 (lenL p0)) ?_ ?_
  · refine gK ?_
    refine pN ?_
    refine pS ?_
    refine gS 14 ?_
    refine gB 3 ?_
    refine gS 13 ?_
    refine gR 12 (rg Tryz.f21 12) ?_
    refine vo 29 (addrE 126 26 1 (LL a28) .i64 p0 z1.2) (fun x4 => ?_)
    refine se (mkE ((6, .own 48 0) :: ((8, LL a28 x4) :: s_0)) [(48, RR 29 4 a28 z1.1 0 false)] 36) ?_
    refine pN ?_
    refine pS ?_
    refine gR 13 (rg Tryz.f21 13) ?_
    refine sg 2 (mkE ((32, LL a28 x4) :: ((31, .own 48 0) :: ((6, .own 48 0) :: ((8, LL a28 x4) :: s_0)))) [(48, RR 29 4 a28 z1.1 0 false)] 36) ?_
    refine mo (some 33) (apO 26 29 4 32 48 a28 0 [] (y := LL a28 x4) (l2 := x4)) (fun x5 => ?_)
    refine se (mkE ((6, .own 48 1) :: s_0) [(48, RR 29 4 a28 x5 1 false)] 36) ?_
    refine pB ?_
    refine pN ?_
    refine pS ?_
    refine gR 14 (rg Tryz.f21 14) ?_
    refine se (mkE [(6, .own 48 1), (25, LL (LL a28) p0), (26, I (lenL p0)), (27, I (addI .i64 z1.2 1))] [(48, RR 29 4 a28 x5 1 false)] 36) ?_
    exact pL
  · refine gX 2 ?_
    exact pL
noncomputable def T21 (p0 : (List (List S28))) : Option (List S28) := ((iter (L21_3 p0) (0, 0)).bind fun y2 => ((growO S28 32 y2.1).bind fun x3 => ((iter (L21_11 p0) (x3, 0)).bind fun y6 => (some y6.2.2))))
theorem B21 (C : Callee) (h62 : ∀ (p1 : Int), C 62 [.nils, I p1] = (growO S28 32 p1).map (fun l => AV.fr 29 4 (List.map a28 l))) (p0 : (List (List S28))) : runs Tryz.prog C (cfg.fn 21) (finFn Tryz.prog (cfg.fn 21).byval Tryz.f21) [] (execA Tryz.prog C (cfg.fn 21) (nr Tryz.f21 []) (frame0 [LL (LL a28) p0] 36 false)) = (T21 p0).map (fun l => AV.fr 29 4 (List.map a28 l)) := by
  unfold T21
  refine gS 1 ?_
  refine gR 0 (rg Tryz.f21 0) ?_
  refine se (mkE [(0, LL (LL a28) p0)] [] 36) ?_
  refine pN ?_
  refine pS ?_
  refine gS 2 ?_
  refine gR 1 (rg Tryz.f21 1) ?_
  refine se (mkE [(0, LL (LL a28) p0), (3, I 0)] [] 36) ?_
  refine pN ?_
  refine pS ?_
  refine gS 9 ?_
  refine gS 3 ?_
  refine gR 2 (rg Tryz.f21 2) ?_
  refine sg 1 (mkE [(9, LL (LL a28) p0), (0, LL (LL a28) p0), (3, I 0)] [] 36) ?_
  refine eo 10 (I (lenL p0)) (lenE 126 (LL a28) p0) ?_
  refine se (mkE [(0, LL (LL a28) p0), (3, I 0), (9, LL (LL a28) p0), (10, I (lenL p0)), (11, I 0)] [] 36) ?_
  refine pN ?_
  refine pS ?_
  refine gB 0 ?_
  refine lo [(0, none), (3, none), (9, none), (10, none), (11, none)] [] (L21_3 p0) (fun z0 : (Int × Int) => (mkE [(0, LL (LL a28) p0), (3, I z0.1), (9, LL (LL a28) p0), (10, I (lenL p0)), (11, I z0.2)] [] 36)) (fun (x : (Int × Int × Bool)) => (.exit 0, (mkE [(0, LL (LL a28) p0), (3, I x.1), (9, LL (LL a28) p0), (10, I (lenL p0)), (11, I x.2.1), (12, B x.2.2)] [] 36))) (0, 0) (fun z => L21_3_ok C p0 z) ?_
  intro y2
  refine pH ?_
  refine pN ?_
  refine pS ?_
  refine gS 10 ?_
  refine gR 9 (rg Tryz.f21 9) ?_
  refine sg 1 (mkE [(23, I y2.1), (0, LL (LL a28) p0), (3, I y2.1), (9, LL (LL a28) p0), (10, I (lenL p0)), (11, I y2.2.1), (12, B y2.2.2)] [] 36) ?_
  refine co 24 [] (h62 y2.1) (fun x3 => ?_)
  refine se (mkE [(0, LL (LL a28) p0), (6, .own 192 0)] [(192, RR 29 4 a28 x3 0 false)] 36) ?_
  refine pN ?_
  refine pS ?_
  refine gS 15 ?_
  refine gS 11 ?_
  refine gR 10 (rg Tryz.f21 10) ?_
  refine sg 1 (mkE [(25, LL (LL a28) p0), (0, LL (LL a28) p0), (6, .own 192 0)] [(192, RR 29 4 a28 x3 0 false)] 36) ?_
  refine eo 26 (I (lenL p0)) (lenE 126 (LL a28) p0) ?_
  refine se (mkE [(6, .own 192 0), (25, LL (LL a28) p0), (26, I (lenL p0)), (27, I 0)] [(192, RR 29 4 a28 x3 0 false)] 36) ?_
  refine pN ?_
  refine pS ?_
  refine gB 2 ?_
  refine lo [(6, some (29, 4)), (25, none), (26, none), (27, none)] [] (L21_11 p0) (fun z1 : ((List S28) × Int) => (mkE [(6, .own 48 0), (25, LL (LL a28) p0), (26, I (lenL p0)), (27, I z1.2)] [(48, RR 29 4 a28 z1.1 0 false)] 36)) (fun (x : (Int × Bool × (List S28))) => (.exit 2, (mkE [(6, .own 48 0), (25, LL (LL a28) p0), (26, I (lenL p0)), (27, I x.1), (28, B x.2.1)] [(48, RR 29 4 a28 x.2.2 0 false)] 36))) (x3, 0) (fun z => L21_11_ok C p0 z) ?_
  intro y6
  refine pH ?_
  refine pN ?_
  refine pS ?_
  refine gS 0 ?_
  refine gR 15 (rg Tryz.f21 15) ?_
  refine se (mkE [(2, .own 48 0)] [(48, RR 29 4 a28 y6.2.2 0 false)] 36) ?_
  refine pN ?_
  refine pS ?_
  refine gE ?_
  exact pL
theorem F21 (m : Nat) (hm : 2 ≤ m) (p0 : (List (List S28))) : callA Tryz.prog cfg m 21 [LL (LL a28) p0] = (T21 p0).map (fun l => AV.fr 29 4 (List.map a28 l)) := by
  obtain ⟨q, rfl⟩ : ∃ q, m = q + 1 := ⟨m - 1, by omega⟩
  exact (callA_body (fn := Tryz.f21) (c := body_ Tryz.f21) q _ (by kernel_rfl) (by kernel_rfl) (by kernel_rfl)).trans (B21 _ (fun p1 => F62 q (by omega) p1) p0)

theorem F103 (m : Nat) (hm : 1 ≤ m) (p0 : (List Int)) : callA Tryz.prog cfg m 103 [.fr 3 1 (List.map I p0)] = (sortIO p0).map (fun (r : (List Int)) => AV.inp (.tup []) (.fr 3 1 (List.map I r))) := by
  obtain ⟨q, rfl⟩ : ∃ q, m = q + 1 := ⟨m - 1, by omega⟩
  exact (callA_leaf (L := (leafSortI 3)) _ _ (by kernel_rfl)).trans (sortI_leaf 3 _ p0)

theorem F104 (m : Nat) (hm : 1 ≤ m) (p0 : (List Int)) : callA Tryz.prog cfg m 104 [.fr 3 1 (List.map I p0)] = (compIO p0).map (fun l => AV.fr 3 1 (List.map I l)) := by
  obtain ⟨q, rfl⟩ : ∃ q, m = q + 1 := ⟨m - 1, by omega⟩
  exact (callA_leaf (L := (leafCompI 3)) _ _ (by kernel_rfl)).trans (compI_leaf 3 _ p0)

noncomputable def T129 (p0 : S182) (p1 : S182) : Option Int := (some (subI .i64 p0.f0 p1.f0))
theorem B129 (C : Callee) (p0 : S182) (p1 : S182) : runs Tryz.prog C (cfg.fn 129) (finFn Tryz.prog (cfg.fn 129).byval Tryz.f129) [] (execA Tryz.prog C (cfg.fn 129) (nr Tryz.f129 []) (frame0 [a182 p0, a182 p1] 10 false)) = (T129 p0 p1).map I := by
  unfold T129
  refine gS 1 ?_
  refine gR 0 (rg Tryz.f129 0) ?_
  refine se (mkE [(2, .ba 16 0), (3, .ba 24 0)] [(16, .box [I p0.f0, I p0.f1] false), (24, .box [I p1.f0, I p1.f1] false)] 10) ?_
  refine pN ?_
  refine pS ?_
  refine gS 0 ?_
  refine gR 1 (rg Tryz.f129 1) ?_
  refine se (mkE [(4, I (subI .i64 p0.f0 p1.f0))] [] 10) ?_
  refine pN ?_
  refine pS ?_
  refine gE ?_
  exact pL
theorem F129 (m : Nat) (hm : 1 ≤ m) (p0 : S182) (p1 : S182) : callA Tryz.prog cfg m 129 [a182 p0, a182 p1] = (T129 p0 p1).map I := by
  obtain ⟨q, rfl⟩ : ∃ q, m = q + 1 := ⟨m - 1, by omega⟩
  exact (callA_body (fn := Tryz.f129) (c := body_ Tryz.f129) q _ (by kernel_rfl) (by kernel_rfl) (by kernel_rfl)).trans (B129 _ p0 p1)

theorem F128 (m : Nat) (hm : 2 ≤ m) (p0 : (List S182)) : callA Tryz.prog cfg m 128 [.fr 183 2 (List.map a182 p0), .fn 129 []] = (sortO (fun x y => T129 x y) p0).map (fun (r : (List S182)) => AV.inp (.tup []) (.fr 183 2 (List.map a182 r))) := by
  obtain ⟨q, rfl⟩ : ∃ q, m = q + 1 := ⟨m - 1, by omega⟩
  exact (callA_leaf (L := (leafSortF Tryz.prog 183 2)) _ _ (by kernel_rfl)).trans (sortF_leaf 183 2 129 [] a182 (fun x y => T129 x y) _ p0 (fun x y => F129 q (by omega) x y) (fun _ => by kernel_rfl) (by kernel_rfl))

noncomputable def L106_3 (p0 : (List S28)) (p1 : Int) (z0 : ((List S182) × Int)) : Option (((List S182) × Int) ⊕ (Int × Bool × (List S182))) := (bif (ltI z0.2 (lenL p0)) then ((listAt p0 z0.2).bind fun x1 => (bif (leI x1.f1 p1) then (bif (ltI p1 (addI .i64 x1.f1 x1.f3)) then ((appO 16 z0.1 ([(S182.mk x1.f0 (addI .i64 x1.f0 x1.f2))] : List S182)).bind fun x2 => (some (.inl (x2, (addI .i64 z0.2 1))))) else (some (.inl (z0.1, (addI .i64 z0.2 1))))) else (some (.inl (z0.1, (addI .i64 z0.2 1)))))) else (some (.inr (z0.2, (ltI z0.2 (lenL p0)), z0.1))))
theorem L106_3_ok (C : Callee) (p0 : (List S28)) (p1 : Int) (z0 : ((List S182) × Int)) : runs Tryz.prog C (cfg.fn 106) (finLoop ((cfg.fn 106).keep 3) ((cfg.fn 106).al 3)) [] (execA Tryz.prog C (cfg.fn 106) (nr Tryz.f106 [false, false, true, false, true, true]) ((fun z0 : ((List S182) × Int) => (mkE [(1, I p1), (5, .own 40 0), (12, LL a28 p0), (13, I (lenL p0)), (14, I z0.2)] [(40, RR 183 2 a182 z0.1 0 false)] 84)) z0)) = (L106_3 p0 p1 z0).map (Sum.elim (fun z => .inl ((fun z0 : ((List S182) × Int) => (mkE [(1, I p1), (5, .own 40 0), (12, LL a28 p0), (13, I (lenL p0)), (14, I z0.2)] [(40, RR 183 2 a182 z0.1 0 false)] 84)) z)) (fun x => .inr ((fun (x : (Int × Bool × (List S182))) => (.exit 0, (mkE [(1, I p1), (5, .own 40 0), (12, LL a28 p0), (13, I (lenL p0)), (14, I x.1), (15, B x.2.1)] [(40, RR 183 2 a182 x.2.2 0 false)] 84))) x))) := by
  unfold L106_3
  let s_0 : List (Nat × AV) := [(1, I p1), (5, .own 40 0), (7, .ba 56 0), (12, LL a28 p0), (13, I (lenL p0)), (14, I z0.2)]
  let o_0 : List (Nat × AObj) := [(40, RR 183 2 a182 z0.1 0 false)]
  refine gS 0 ?_
  refine gR 3 (rg Tryz.f106 3) ?_
  refine se (mkE [(1, I p1), (5, .own 40 0), (12, LL a28 p0), (13, I (lenL p0)), (14, I z0.2), (15, B (ltI z0.2 (lenL p0)))] o_0 84) ?_
  refine pN ?_
  refine pS ?_
  refine gS 4 ?_
  refine gC 15 (ltI z0.2 (lenL p0)) ?_ ?_
  · refine gK ?_
    refine pN ?_
    refine pS ?_
    refine gS 7 ?_
    refine gB 1 ?_
    refine gS 5 ?_
    refine gR 4 (rg Tryz.f106 4) ?_
    refine vo 16 (addrE 26 29 4 a28 .i64 p0 z0.2) (fun x1 => ?_)
    refine se (mkE s_0 (o_0.append [(56, .box [I x1.f0, I x1.f1, I x1.f2, I x1.f3] false)]) 84) ?_
    refine pN ?_
    refine pS ?_
    refine gS 0 ?_
    refine gR 5 (rg Tryz.f106 5) ?_
    refine sg 5 (mkE ((22, B (leI x1.f1 p1)) :: ((21, B (leI x1.f1 p1)) :: ((20, I p1) :: ((19, I x1.f1) :: ((18, .ba 56 1) :: s_0))))) (o_0.append [(56, .box [I x1.f0, I x1.f1, I x1.f2, I x1.f3] false)]) 84) ?_
    refine sb 22 (leI x1.f1 p1) ?_ ?_
    · refine se (mkE (s_0.append [(30, B (ltI p1 (addI .i64 x1.f1 x1.f3)))]) (o_0.append [(56, .box [I x1.f0, I x1.f1, I x1.f2, I x1.f3] false)]) 84) ?_
      refine pN ?_
      refine pS ?_
      refine gC 30 (ltI p1 (addI .i64 x1.f1 x1.f3)) ?_ ?_
      · refine gR 6 (rg Tryz.f106 6) ?_
        refine sg 10 (mkE ((40, .own 320 0) :: ((39, .agg [I x1.f0, I (addI .i64 x1.f0 x1.f2)]) :: ((38, I (addI .i64 x1.f0 x1.f2)) :: ((37, I x1.f2) :: ((36, .ba 56 2) :: ((35, I x1.f0) :: ((34, .ba 56 0) :: ((33, I x1.f0) :: ((32, .ba 56 0) :: ((31, .own 40 0) :: (s_0.append [(30, B (ltI p1 (addI .i64 x1.f1 x1.f3)))]))))))))))) ((320, RR 183 2 a182 ([(S182.mk x1.f0 (addI .i64 x1.f0 x1.f2))] : List S182) 0 false) :: (o_0.append [(56, .box [I x1.f0, I x1.f1, I x1.f2, I x1.f3] false)])) 84) ?_
        refine mo (some 41) (apO 178 183 2 16 40 a182 0 [320] (y := .own 320 0) (l2 := ([(S182.mk x1.f0 (addI .i64 x1.f0 x1.f2))] : List S182))) (fun x2 => ?_)
        refine se (mkE [(1, I p1), (5, .own 40 1), (12, LL a28 p0), (13, I (lenL p0)), (14, I z0.2)] [(40, RR 183 2 a182 x2 1 false)] 84) ?_
        refine pB ?_
        refine pN ?_
        refine pS ?_
        refine gR 7 (rg Tryz.f106 7) ?_
        refine se (mkE [(1, I p1), (5, .own 40 1), (12, LL a28 p0), (13, I (lenL p0)), (14, I (addI .i64 z0.2 1))] [(40, RR 183 2 a182 x2 1 false)] 84) ?_
        exact pL
      · refine gK ?_
        refine pB ?_
        refine pN ?_
        refine pS ?_
        refine gR 7 (rg Tryz.f106 7) ?_
        refine se (mkE [(1, I p1), (5, .own 40 0), (12, LL a28 p0), (13, I (lenL p0)), (14, I (addI .i64 z0.2 1))] o_0 84) ?_
        exact pL
    · refine se (mkE (s_0.append [(30, B false)]) (o_0.append [(56, .box [I x1.f0, I x1.f1, I x1.f2, I x1.f3] false)]) 84) ?_
      refine pN ?_
      refine pS ?_
      refine gF (.tmp 30) ?_
      refine gK ?_
      refine pB ?_
      refine pN ?_
      refine pS ?_
      refine gR 7 (rg Tryz.f106 7) ?_
      refine se (mkE [(1, I p1), (5, .own 40 0), (12, LL a28 p0), (13, I (lenL p0)), (14, I (addI .i64 z0.2 1))] o_0 84) ?_
      exact pL
  · refine gX 0 ?_
    exact pL
noncomputable def L106_11 (x4 : (List S182)) (z1 : ((List S182) × (List S182) × Int)) : Option (((List S182) × (List S182) × Int) ⊕ (Int × Bool × (List S182) × (List S182))) := (bif (ltI z1.2.2 (lenL x4)) then ((idxO (List.length z1.2.1) z1.2.2).bind fun x5 => ((getN z1.2.1 x5).bind fun x6 => (bif (leI 0 (subI .i64 (lenL z1.1) 1)) then ((idxO (List.length z1.1) (subI .i64 (lenL z1.1) 1)).bind fun x7 => ((getN z1.1 x7).bind fun x8 => (bif (leI x6.f0 x8.f1) then ((idxO (List.length z1.1) (subI .i64 (lenL z1.1) 1)).bind fun x9 => ((getN z1.1 x9).bind fun x10 => ((idxO (List.length z1.1) (subI .i64 (lenL z1.1) 1)).bind fun x11 => ((getN z1.1 x11).bind fun x12 => (some (.inl ((List.set z1.1 x11 (S182.mk x12.f0 (maxI x10.f1 x6.f1))), z1.2.1, (addI .i64 z1.2.2 1)))))))) else ((appO 16 z1.1 ([x6] : List S182)).bind fun x13 => (some (.inl (x13, z1.2.1, (addI .i64 z1.2.2 1)))))))) else ((appO 16 z1.1 ([x6] : List S182)).bind fun x14 => (some (.inl (x14, z1.2.1, (addI .i64 z1.2.2 1)))))))) else (some (.inr (z1.2.2, (ltI z1.2.2 (lenL x4)), z1.1, z1.2.1))))
theorem L106_11_ok (C : Callee) (x4 : (List S182)) (z1 : ((List S182) × (List S182) × Int)) : runs Tryz.prog C (cfg.fn 106) (finLoop ((cfg.fn 106).keep 11) ((cfg.fn 106).al 11)) [] (execA Tryz.prog C (cfg.fn 106) (nr Tryz.f106 [false, false, true, false, true, true, true, true, true]) ((fun z1 : ((List S182) × (List S182) × Int) => (mkE [(8, .own 64 0), (45, .own 360 0), (46, I (lenL x4)), (47, I z1.2.2)] [(64, RR 183 2 a182 z1.1 0 false), (360, RR 183 2 a182 z1.2.1 0 false)] 84)) z1)) = (L106_11 x4 z1).map (Sum.elim (fun z => .inl ((fun z1 : ((List S182) × (List S182) × Int) => (mkE [(8, .own 64 0), (45, .own 360 0), (46, I (lenL x4)), (47, I z1.2.2)] [(64, RR 183 2 a182 z1.1 0 false), (360, RR 183 2 a182 z1.2.1 0 false)] 84)) z)) (fun x => .inr ((fun (x : (Int × Bool × (List S182) × (List S182))) => (.exit 2, (mkE [(8, .own 64 0), (45, .own 360 0), (46, I (lenL x4)), (47, I x.1), (48, B x.2.1)] [(64, RR 183 2 a182 x.2.2.1 0 false), (360, RR 183 2 a182 x.2.2.2 0 false)] 84))) x))) := by
  unfold L106_11
  let d_0 : List (Option Nat × REff) := [(some 66, qe (.own 64 0)), (some 67, qe (I (subI .i64 (lenL z1.1) 1))), (some 68, qe (.own 64 0)), (some 69, qe (I (subI .i64 (lenL z1.1) 1)))]
  let d_1 : List (Option Nat × REff) := [(some 54, qe (I (subI .i64 (lenL z1.1) 1))), (some 55, qe (B (leI 0 (subI .i64 (lenL z1.1) 1))))]
  let d_2 : List (Option Nat × REff) := [(some 59, qe (.own 64 0)), (some 60, qe (I (subI .i64 (lenL z1.1) 1)))]
  let s_0 : List (Nat × AV) := [(8, .own 64 0), (10, .ba 80 0), (11, I (subI .i64 (lenL z1.1) 1)), (45, .own 360 0), (46, I (lenL x4)), (47, I z1.2.2)]
  let s_1 : List (Nat × AV) := [(45, .own 360 0), (46, I (lenL x4))]
  let s_2 : List (Nat × AV) := [(55, B (leI 0 (subI .i64 (lenL z1.1) 1))), (54, I (subI .i64 (lenL z1.1) 1))]
  let s_3 : List (Nat × AV) := [(69, I (subI .i64 (lenL z1.1) 1)), (68, .own 64 0)]
  let o_0 : List (Nat × AObj) := [(360, RR 183 2 a182 z1.2.1 0 false)]
  let o_1 : List (Nat × AObj) := [(64, RR 183 2 a182 z1.1 0 false)]
  refine gS 0 ?_
  refine gR 11 (rg Tryz.f106 11) ?_
  refine se (mkE ((8, .own 64 0) :: (s_1.append ((47, I z1.2.2) :: [(48, B (ltI z1.2.2 (lenL x4)))]))) (o_1.append o_0) 84) ?_
  refine pN ?_
  refine pS ?_
  refine gS 12 ?_
  refine gC 48 (ltI z1.2.2 (lenL x4)) ?_ ?_
  · refine gK ?_
    refine pN ?_
    refine pS ?_
    refine gS 17 ?_
    refine gB 3 ?_
    refine gS 13 ?_
    refine gR 12 (rg Tryz.f106 12) ?_
    refine vo 49 (addrOE 178 183 2 360 0 false a182 .i64 z1.2.1 z1.2.2) (fun x5 => ?_)
    refine vo 50 (loadOE 183 360 0 x5 0 183 2 2 true false a182 (fun q : S182 => a182 q) z1.2.1) (fun x6 => ?_)
    refine se (mkE ((8, .own 64 0) :: ((10, .ba 80 0) :: (s_1.append [(47, I z1.2.2)]))) (o_1.append ((80, .box [I x6.f0, I x6.f1] false) :: o_0)) 84) ?_
    refine pN ?_
    refine pS ?_
    refine gS 14 ?_
    refine gR 13 (rg Tryz.f106 13) ?_
    refine sg 1 (mkE ((51, .own 64 0) :: ((8, .own 64 0) :: ((10, .ba 80 0) :: (s_1.append [(47, I z1.2.2)])))) (o_1.append ((80, .box [I x6.f0, I x6.f1] false) :: o_0)) 84) ?_
    refine eo 52 (I (lenL z1.1)) (lenOE 178 183 2 a182 z1.1) ?_
    refine se (mkE s_0 (o_1.append ((80, .box [I x6.f0, I x6.f1] false) :: o_0)) 84) ?_
    refine pN ?_
    refine pS ?_
    refine gS 0 ?_
    refine gD 14 12 (rg Tryz.f106 14) [0, 1, 2, 3, 4, 5, 6, 7, 8, 9, 10, 11] ?_
    refine dg 3 (d_1.append [(some 56, qe (B (leI 0 (subI .i64 (lenL z1.1) 1))))]) ?_
    refine db 2 56 (leI 0 (subI .i64 (lenL z1.1) 1)) ?_ ?_
    · refine dg 7 (d_1.append ((some 56, qe (B true)) :: ((some 57, qe (.ba 80 0)) :: ((some 58, qe (I x6.f0)) :: d_2)))) ?_
      refine dv 61 (mkE ((60, I (subI .i64 (lenL z1.1) 1)) :: ((59, .own 64 0) :: ((56, B true) :: (s_2.append s_0)))) (o_1.append ((80, .box [I x6.f0, I x6.f1] false) :: o_0)) 84) (addrOE 178 183 2 64 0 false a182 .i64 z1.1 (subI .i64 (lenL z1.1) 1)) (fun x7 => ?_)
      refine dg 9 (d_1.append ((some 56, qe (B true)) :: ((some 57, qe (.ba 80 0)) :: ((some 58, qe (I x6.f0)) :: (d_2.append ((some 61, qe (.oa 64 0 x7 0)) :: [(some 62, qe (.oa 64 0 x7 1))])))))) ?_
      refine dv 63 (mkE ((62, .oa 64 0 x7 1) :: ((61, .oa 64 0 x7 0) :: ((60, I (subI .i64 (lenL z1.1) 1)) :: ((59, .own 64 0) :: ((56, B true) :: (s_2.append s_0)))))) (o_1.append ((80, .box [I x6.f0, I x6.f1] false) :: o_0)) 84) (loadOE 3 64 0 x7 1 183 2 1 false false a182 (fun q : S182 => I q.f1) z1.1) (fun x8 => ?_)
      refine dg 12 (d_1.append ((some 56, qe (B true)) :: ((some 57, qe (.ba 80 0)) :: ((some 58, qe (I x6.f0)) :: (d_2.append ((some 61, qe (.oa 64 0 x7 0)) :: ((some 62, qe (.oa 64 0 x7 1)) :: ((some 63, qe (I x8.f1)) :: ((some 64, qe (B (leI x6.f0 x8.f1))) :: [(some 65, qe (B (leI x6.f0 x8.f1)))]))))))))) ?_
      refine de (mkE ((65, B (leI x6.f0 x8.f1)) :: ((64, B (leI x6.f0 x8.f1)) :: ((63, I x8.f1) :: ((62, .oa 64 0 x7 1) :: ((61, .oa 64 0 x7 0) :: ((60, I (subI .i64 (lenL z1.1) 1)) :: ((59, .own 64 0) :: ((58, I x6.f0) :: ((57, .ba 80 0) :: ((56, B true) :: (s_2.append s_0))))))))))) (o_1.append ((80, .box [I x6.f0, I x6.f1] false) :: o_0)) 84) ?_
      refine se (mkE (s_0.append [(65, B (leI x6.f0 x8.f1))]) (o_1.append ((80, .box [I x6.f0, I x6.f1] false) :: o_0)) 84) ?_
      refine pN ?_
      refine pS ?_
      refine gC 65 (leI x6.f0 x8.f1) ?_ ?_
      · refine gD 15 12 (rg Tryz.f106 15) [0, 1, 2, 3, 4, 5, 6, 7, 8, 9, 10, 11, 12] ?_
        refine dg 4 d_0 ?_
        refine dv 70 (mkE (s_3.append (s_0.append [(65, B (leI x6.f0 x8.f1))])) (o_1.append ((80, .box [I x6.f0, I x6.f1] false) :: o_0)) 84) (addrOE 178 183 2 64 0 false a182 .i64 z1.1 (subI .i64 (lenL z1.1) 1)) (fun x9 => ?_)
        refine dg 6 (d_0.append ((some 70, qe (.oa 64 0 x9 0)) :: [(some 71, qe (.oa 64 0 x9 1))])) ?_
        refine dv 72 (mkE ((71, .oa 64 0 x9 1) :: ((70, .oa 64 0 x9 0) :: (s_3.append (s_0.append [(65, B (leI x6.f0 x8.f1))])))) (o_1.append ((80, .box [I x6.f0, I x6.f1] false) :: o_0)) 84) (loadOE 3 64 0 x9 1 183 2 1 false false a182 (fun q : S182 => I q.f1) z1.1) (fun x10 => ?_)
        refine dg 10 (d_0.append ((some 70, qe (.oa 64 0 x9 0)) :: ((some 71, qe (.oa 64 0 x9 1)) :: ((some 72, qe (I x10.f1)) :: ((some 73, qe (.ba 80 1)) :: ((some 74, qe (I x6.f1)) :: [(some 75, qe (I (maxI x10.f1 x6.f1)))])))))) ?_
        refine dv 76 (mkE ((75, I (maxI x10.f1 x6.f1)) :: ((74, I x6.f1) :: ((73, .ba 80 1) :: ((72, I x10.f1) :: ((71, .oa 64 0 x9 1) :: ((70, .oa 64 0 x9 0) :: (s_3.append ((67, I (subI .i64 (lenL z1.1) 1)) :: ((66, .own 64 0) :: (s_0.append [(65, B (leI x6.f0 x8.f1))])))))))))) (o_1.append ((80, .box [I x6.f0, I x6.f1] false) :: o_0)) 84) (addrOE 178 183 2 64 0 false a182 .i64 z1.1 (subI .i64 (lenL z1.1) 1)) (fun x11 => ?_)
        refine dg 12 (d_0.append ((some 70, qe (.oa 64 0 x9 0)) :: ((some 71, qe (.oa 64 0 x9 1)) :: ((some 72, qe (I x10.f1)) :: ((some 73, qe (.ba 80 1)) :: ((some 74, qe (I x6.f1)) :: ((some 75, qe (I (maxI x10.f1 x6.f1))) :: ((some 76, qe (.oa 64 0 x11 0)) :: [(some 77, qe (.oa 64 0 x11 1))])))))))) ?_
        refine de (mkE ((77, .oa 64 0 x11 1) :: ((76, .oa 64 0 x11 0) :: ((75, I (maxI x10.f1 x6.f1)) :: ((74, I x6.f1) :: ((73, .ba 80 1) :: ((72, I x10.f1) :: ((71, .oa 64 0 x9 1) :: ((70, .oa 64 0 x9 0) :: (s_3.append ((67, I (subI .i64 (lenL z1.1) 1)) :: ((66, .own 64 0) :: (s_0.append [(65, B (leI x6.f0 x8.f1))])))))))))))) (o_1.append ((80, .box [I x6.f0, I x6.f1] false) :: o_0)) 84) ?_
        refine mo none (stO 183 2 64 0 x11 1 a182 z1.1 [] [I (maxI x10.f1 x6.f1)] (I (maxI x10.f1 x6.f1)) (fun q : S182 => (S182.mk q.f0 (maxI x10.f1 x6.f1))) 3 (.tmp 77) (.tmp 75) 1) (fun x12 => ?_)
        refine se (mkE ((8, .own 64 0) :: (s_1.append [(47, I z1.2.2)])) ((64, RR 183 2 a182 (List.set z1.1 x11 (S182.mk x12.f0 (maxI x10.f1 x6.f1))) 0 false) :: o_0) 84) ?_
        refine pB ?_
        refine pN ?_
        refine pS ?_
        refine gR 17 (rg Tryz.f106 17) ?_
        refine se (mkE ((8, .own 64 0) :: (s_1.append [(47, I (addI .i64 z1.2.2 1))])) ((64, RR 183 2 a182 (List.set z1.1 x11 (S182.mk x12.f0 (maxI x10.f1 x6.f1))) 0 false) :: o_0) 84) ?_
        exact pL
      · refine gR 16 (rg Tryz.f106 16) ?_
        refine sg 3 (mkE ((80, .own 640 0) :: ((79, a182 x6) :: ((78, .own 64 0) :: (s_0.append [(65, B (leI x6.f0 x8.f1))])))) ((640, RR 183 2 a182 ([x6] : List S182) 0 false) :: (o_1.append ((80, .box [I x6.f0, I x6.f1] false) :: o_0))) 84) ?_
        refine mo (some 81) (apO 178 183 2 16 64 a182 0 [640] (y := .own 640 0) (l2 := ([x6] : List S182))) (fun x13 => ?_)
        refine se (mkE ((8, .own 64 1) :: (s_1.append [(47, I z1.2.2)])) ((64, RR 183 2 a182 x13 1 false) :: o_0) 84) ?_
        refine pB ?_
        refine pN ?_
        refine pS ?_
        refine gR 17 (rg Tryz.f106 17) ?_
        refine se (mkE ((8, .own 64 1) :: (s_1.append [(47, I (addI .i64 z1.2.2 1))])) ((64, RR 183 2 a182 x13 1 false) :: o_0) 84) ?_
        exact pL
    · refine dg 12 (d_1.append ((some 56, qe (B false)) :: ((some 57, qe (.und)) :: ((some 58, qe (.und)) :: ((some 59, qe (.und)) :: ((some 60, qe (.und)) :: ((some 61, qe (.und)) :: ((some 62, qe (.und)) :: ((some 63, qe (.und)) :: ((some 64, qe (.und)) :: [(some 65, qe (B false))])))))))))) ?_
      refine de (mkE ((65, B false) :: ((64, .und) :: ((63, .und) :: ((62, .und) :: ((61, .und) :: ((60, .und) :: ((59, .und) :: ((58, .und) :: ((57, .und) :: ((56, B false) :: (s_2.append s_0))))))))))) (o_1.append ((80, .box [I x6.f0, I x6.f1] false) :: o_0)) 84) ?_
      refine se (mkE (s_0.append [(65, B false)]) (o_1.append ((80, .box [I x6.f0, I x6.f1] false) :: o_0)) 84) ?_
      refine pN ?_
      refine pS ?_
      refine gF (.tmp 65) ?_
      refine gR 16 (rg Tryz.f106 16) ?_
      refine sg 3 (mkE ((80, .own 640 0) :: ((79, a182 x6) :: ((78, .own 64 0) :: (s_0.append [(65, B false)])))) ((640, RR 183 2 a182 ([x6] : List S182) 0 false) :: (o_1.append ((80, .box [I x6.f0, I x6.f1] false) :: o_0))) 84) ?_
      refine mo (some 81) (apO 178 183 2 16 64 a182 0 [640] (y := .own 640 0) (l2 := ([x6] : List S182))) (fun x14 => ?_)
      refine se (mkE ((8, .own 64 1) :: (s_1.append [(47, I z1.2.2)])) ((64, RR 183 2 a182 x14 1 false) :: o_0) 84) ?_
      refine pB ?_
      refine pN ?_
      refine pS ?_
      refine gR 17 (rg Tryz.f106 17) ?_
      refine se (mkE ((8, .own 64 1) :: (s_1.append [(47, I (addI .i64 z1.2.2 1))])) ((64, RR 183 2 a182 x14 1 false) :: o_0) 84) ?_
      exact pL
  · refine gX 2 ?_
    exact pL
noncomputable def T106 (p0 : (List S28)) (p1 : Int) : Option (List S182) := ((iter (L106_3 p0 p1) ([], 0)).bind fun y3 => ((sortO (fun x y => T129 x y) y3.2.2).bind fun x4 => ((iter (L106_11 x4) ([], x4, 0)).bind fun y15 => (some y15.2.2.1))))
theorem B106 (C : Callee) (h128 : ∀ (p0 : (List S182)), C 128 [.fr 183 2 (List.map a182 p0), .fn 129 []] = (sortO (fun x y => T129 x y) p0).map (fun (r : (List S182)) => AV.inp (.tup []) (.fr 183 2 (List.map a182 r)))) (p0 : (List S28)) (p1 : Int) : runs Tryz.prog C (cfg.fn 106) (finFn Tryz.prog (cfg.fn 106).byval Tryz.f106) [] (execA Tryz.prog C (cfg.fn 106) (nr Tryz.f106 []) (frame0 [LL a28 p0, I p1] 84 false)) = (T106 p0 p1).map (fun l => AV.fr 183 2 (List.map a182 l)) := by
  unfold T106
  refine gS 1 ?_
  refine gR 0 (rg Tryz.f106 0) ?_
  refine se (mkE [(0, LL a28 p0), (1, I p1)] [] 84) ?_
  refine pN ?_
  refine pS ?_
  refine gS 2 ?_
  refine gR 1 (rg Tryz.f106 1) ?_
  refine se (mkE [(0, LL a28 p0), (1, I p1), (5, .nils)] [] 84) ?_
  refine pN ?_
  refine pS ?_
  refine gS 8 ?_
  refine gS 3 ?_
  refine gR 2 (rg Tryz.f106 2) ?_
  refine sg 1 (mkE [(12, LL a28 p0), (0, LL a28 p0), (1, I p1), (5, .nils)] [] 84) ?_
  refine eo 13 (I (lenL p0)) (lenE 26 a28 p0) ?_
  refine se (mkE [(1, I p1), (5, .nils), (12, LL a28 p0), (13, I (lenL p0)), (14, I 0)] [] 84) ?_
  refine pN ?_
  refine pS ?_
  refine gB 0 ?_
  refine lo [(1, none), (5, some (183, 2)), (12, none), (13, none), (14, none)] [] (L106_3 p0 p1) (fun z0 : ((List S182) × Int) => (mkE [(1, I p1), (5, .own 40 0), (12, LL a28 p0), (13, I (lenL p0)), (14, I z0.2)] [(40, RR 183 2 a182 z0.1 0 false)] 84)) (fun (x : (Int × Bool × (List S182))) => (.exit 0, (mkE [(1, I p1), (5, .own 40 0), (12, LL a28 p0), (13, I (lenL p0)), (14, I x.1), (15, B x.2.1)] [(40, RR 183 2 a182 x.2.2 0 false)] 84))) ([], 0) (fun z => L106_3_ok C p0 p1 z) ?_
  intro y3
  refine pH ?_
  refine pN ?_
  refine pS ?_
  refine gS 9 ?_
  refine gR 8 (rg Tryz.f106 8) ?_
  refine sg 1 (mkE [(43, .own 40 0), (1, I p1), (5, .own 40 0), (12, LL a28 p0), (13, I (lenL p0)), (14, I y3.1), (15, B y3.2.1)] [(40, RR 183 2 a182 y3.2.2 0 false)] 84) ?_
  refine mo (some 44) (ipR 128 183 2 40 0 a182 y3.2.2 [.fn 129 []] [.fn 129 []] [] (fun x : (List S182) => .tup []) (fun x : (List S182) => x) (h128 y3.2.2)) (fun x4 => ?_)
  refine se (mkE [(5, .own 40 0)] [(40, RR 183 2 a182 x4 0 false)] 84) ?_
  refine pN ?_
  refine pS ?_
  refine gS 10 ?_
  refine gR 9 (rg Tryz.f106 9) ?_
  refine se (mkE [(5, .own 40 0), (8, .nils)] [(40, RR 183 2 a182 x4 0 false)] 84) ?_
  refine pN ?_
  refine pS ?_
  refine gS 18 ?_
  refine gS 11 ?_
  refine gR 10 (rg Tryz.f106 10) ?_
  refine sg 1 (mkE [(45, .own 40 0), (5, .own 40 0), (8, .nils)] [(40, RR 183 2 a182 x4 0 false)] 84) ?_
  refine eo 46 (I (lenL x4)) (lenOE 178 183 2 a182 x4) ?_
  refine se (mkE [(8, .nils), (45, .own 40 0), (46, I (lenL x4)), (47, I 0)] [(40, RR 183 2 a182 x4 0 false)] 84) ?_
  refine pN ?_
  refine pS ?_
  refine gB 2 ?_
  refine lo [(8, some (183, 2)), (45, some (183, 2)), (46, none), (47, none)] [] (L106_11 x4) (fun z1 : ((List S182) × (List S182) × Int) => (mkE [(8, .own 64 0), (45, .own 360 0), (46, I (lenL x4)), (47, I z1.2.2)] [(64, RR 183 2 a182 z1.1 0 false), (360, RR 183 2 a182 z1.2.1 0 false)] 84)) (fun (x : (Int × Bool × (List S182) × (List S182))) => (.exit 2, (mkE [(8, .own 64 0), (45, .own 360 0), (46, I (lenL x4)), (47, I x.1), (48, B x.2.1)] [(64, RR 183 2 a182 x.2.2.1 0 false), (360, RR 183 2 a182 x.2.2.2 0 false)] 84))) ([], x4, 0) (fun z => L106_11_ok C x4 z) ?_
  intro y15
  refine pH ?_
  refine pN ?_
  refine pS ?_
  refine gS 0 ?_
  refine gR 18 (rg Tryz.f106 18) ?_
  refine se (mkE [(4, .own 64 0)] [(64, RR 183 2 a182 y15.2.2.1 0 false)] 84) ?_
  refine pN ?_
  refine pS ?_
  refine gE ?_
  exact pL
theorem F106 (m : Nat) (hm : 3 ≤ m) (p0 : (List S28)) (p1 : Int) : callA Tryz.prog cfg m 106 [LL a28 p0, I p1] = (T106 p0 p1).map (fun l => AV.fr 183 2 (List.map a182 l)) := by
  obtain ⟨q, rfl⟩ : ∃ q, m = q + 1 := ⟨m - 1, by omega⟩
  exact (callA_body (fn := Tryz.f106) (c := body_ Tryz.f106) q _ (by kernel_rfl) (by kernel_rfl) (by kernel_rfl)).trans (B106 _ (fun p0 => F128 q (by omega) p0) p0 p1)

noncomputable def L105_6 (p0 : (List S182)) (p1 : (List S182)) (z0 : ((List S182) × Int × Int)) (x1 : S182) (z1 : Int) : Option (Int ⊕ (Int × Bool)) := (bif (ltI z1 (lenL p1)) then ((listAt p1 z1).bind fun x2 => (bif (leI x2.f1 x1.f0) then (some (.inl (addI .i64 z1 1))) else (some (.inr (z1, (leI x2.f1 x1.f0)))))) else (some (.inr (z1, false))))
theorem L105_6_ok (C : Callee) (p0 : (List S182)) (p1 : (List S182)) (z0 : ((List S182) × Int × Int)) (x1 : S182) (z1 : Int) : runs Tryz.prog C (cfg.fn 105) (finLoop ((cfg.fn 105).keep 6) ((cfg.fn 105).al 6)) [] (execA Tryz.prog C (cfg.fn 105) (nr Tryz.f105 [false, false, false, true, false, false, true, true, false, false, true, false, true, true, true]) ((fun z1 : Int => (mkE [(1, LL a182 p1), (5, .own 40 0), (6, I z1), (8, .ba 64 0), (10, LL a182 p0), (11, I (lenL p0)), (12, I z0.2.2)] [(40, RR 183 2 a182 z0.1 0 false), (64, .box [I x1.f0, I x1.f1] false)] 88)) z1)) = (L105_6 p0 p1 z0 x1 z1).map (Sum.elim (fun z => .inl ((fun z1 : Int => (mkE [(1, LL a182 p1), (5, .own 40 0), (6, I z1), (8, .ba 64 0), (10, LL a182 p0), (11, I (lenL p0)), (12, I z0.2.2)] [(40, RR 183 2 a182 z0.1 0 false), (64, .box [I x1.f0, I x1.f1] false)] 88)) z)) (fun x => .inr ((fun (x : (Int × Bool)) => (.exit 2, (mkE [(1, LL a182 p1), (5, .own 40 0), (6, I x.1), (8, .ba 64 0), (10, LL a182 p0), (11, I (lenL p0)), (12, I z0.2.2), (29, B x.2)] [(40, RR 183 2 a182 z0.1 0 false), (64, .box [I x1.f0, I x1.f1] false)] 88))) x))) := by
  unfold L105_6
  let d_0 : List (Option Nat × REff) := [(some 16, qe (I z1)), (some 17, qe (LL a182 p1)), (some 18, qe (I (lenL p1))), (some 19, qe (B (ltI z1 (lenL p1))))]
  let s_0 : List (Nat × AV) := [(1, LL a182 p1), (5, .own 40 0), (6, I z1), (8, .ba 64 0), (10, LL a182 p0), (11, I (lenL p0)), (12, I z0.2.2)]
  let s_1 : List (Nat × AV) := [(19, B (ltI z1 (lenL p1))), (18, I (lenL p1)), (17, LL a182 p1), (16, I z1)]
  let o_0 : List (Nat × AObj) := [(40, RR 183 2 a182 z0.1 0 false), (64, .box [I x1.f0, I x1.f1] false)]
  refine gS 7 ?_
  refine gS 0 ?_
  refine gD 6 14 (rg Tryz.f105 6) [0, 1, 2, 3, 4, 5, 6, 7, 8, 9, 10, 11, 12, 13] ?_
  refine dg 2 [(some 16, qe (I z1)), (some 17, qe (LL a182 p1))] ?_
  refine df 18 (I (lenL p1)) (mkE ((17, LL a182 p1) :: s_0) o_0 88) (lenE 178 a182 p1) ?_
  refine dg 5 (d_0.append [(some 20, qe (B (ltI z1 (lenL p1))))]) ?_
  refine db 4 20 (ltI z1 (lenL p1)) ?_ ?_
  · refine dg 7 (d_0.append ((some 20, qe (B true)) :: ((some 21, qe (LL a182 p1)) :: [(some 22, qe (I z1))]))) ?_
    refine dv 23 (mkE ((22, I z1) :: ((21, LL a182 p1) :: ((20, B true) :: (s_1.append s_0)))) o_0 88) (addrE 178 183 2 a182 .i64 p1 z1) (fun x2 => ?_)
    refine dg 14 (d_0.append ((some 20, qe (B true)) :: ((some 21, qe (LL a182 p1)) :: ((some 22, qe (I z1)) :: ((some 23, qe (.ia [I x2.f0, I x2.f1] 0)) :: ((some 24, qe (.ia [I x2.f0, I x2.f1] 1)) :: ((some 25, qe (I x2.f1)) :: ((some 26, qe (.ba 64 0)) :: ((some 27, qe (I x1.f0)) :: ((some 28, qe (B (leI x2.f1 x1.f0))) :: [(some 29, qe (B (leI x2.f1 x1.f0)))])))))))))) ?_
    refine de (mkE ((29, B (leI x2.f1 x1.f0)) :: ((28, B (leI x2.f1 x1.f0)) :: ((27, I x1.f0) :: ((26, .ba 64 0) :: ((25, I x2.f1) :: ((24, .ia [I x2.f0, I x2.f1] 1) :: ((23, .ia [I x2.f0, I x2.f1] 0) :: ((22, I z1) :: ((21, LL a182 p1) :: ((20, B true) :: (s_1.append s_0))))))))))) o_0 88) ?_
    refine se (mkE (s_0.append [(29, B (leI x2.f1 x1.f0))]) o_0 88) ?_
    refine pN ?_
    refine pS ?_
    refine gC 29 (leI x2.f1 x1.f0) ?_ ?_
    · refine gK ?_
      refine pN ?_
      refine pS ?_
      refine gB 3 ?_
      refine gR 7 (rg Tryz.f105 7) ?_
      refine se (mkE [(1, LL a182 p1), (5, .own 40 0), (6, I (addI .i64 z1 1)), (8, .ba 64 0), (10, LL a182 p0), (11, I (lenL p0)), (12, I z0.2.2)] o_0 88) ?_
      refine pB ?_
      exact pL
    · refine gX 2 ?_
      exact pL
  · refine dg 14 (d_0.append ((some 20, qe (B false)) :: ((some 21, qe (.und)) :: ((some 22, qe (.und)) :: ((some 23, qe (.und)) :: ((some 24, qe (.und)) :: ((some 25, qe (.und)) :: ((some 26, qe (.und)) :: ((some 27, qe (.und)) :: ((some 28, qe (.und)) :: [(some 29, qe (B false))])))))))))) ?_
    refine de (mkE ((29, B false) :: ((28, .und) :: ((27, .und) :: ((26, .und) :: ((25, .und) :: ((24, .und) :: ((23, .und) :: ((22, .und) :: ((21, .und) :: ((20, B false) :: (s_1.append s_0))))))))))) o_0 88) ?_
    refine se (mkE (s_0.append [(29, B false)]) o_0 88) ?_
    refine pN ?_
    refine pS ?_
    refine gF (.tmp 29) ?_
    refine gX 2 ?_
    exact pL
noncomputable def L105_9 (p0 : (List S182)) (p1 : (List S182)) (z0 : ((List S182) × Int × Int)) (x1 : S182) (y3 : (Int × Bool)) (z2 : ((List S182) × Int × Int)) : Option (((List S182) × Int × Int) ⊕ (Int × Bool × (List S182) × Int)) := (bif (ltI z2.2.2 (lenL p1)) then ((listAt p1 z2.2.2).bind fun x4 => (bif (ltI x4.f0 x1.f1) then ((listAt p1 z2.2.2).bind fun x5 => (bif (ltI z2.2.1 x5.f0) then ((listAt p1 z2.2.2).bind fun x6 => ((appO 16 z2.1 ([(S182.mk z2.2.1 x6.f0)] : List S182)).bind fun x7 => ((listAt p1 z2.2.2).bind fun x8 => (some (.inl (x7, (maxI z2.2.1 x8.f1), (addI .i64 z2.2.2 1))))))) else ((listAt p1 z2.2.2).bind fun x9 => (some (.inl (z2.1, (maxI z2.2.1 x9.f1), (addI .i64 z2.2.2 1))))))) else (some (.inr (z2.2.2, (ltI x4.f0 x1.f1), z2.1, z2.2.1))))) else (some (.inr (z2.2.2, false, z2.1, z2.2.1))))
theorem L105_9_ok (C : Callee) (p0 : (List S182)) (p1 : (List S182)) (z0 : ((List S182) × Int × Int)) (x1 : S182) (y3 : (Int × Bool)) (z2 : ((List S182) × Int × Int)) : runs Tryz.prog C (cfg.fn 105) (finLoop ((cfg.fn 105).keep 9) ((cfg.fn 105).al 9)) [] (execA Tryz.prog C (cfg.fn 105) (nr Tryz.f105 [false, false, true, false, true, true, false, false, true, true, false, false, true, false, true, true, true]) ((fun z2 : ((List S182) × Int × Int) => (mkE [(1, LL a182 p1), (5, .own 40 0), (6, I y3.1), (8, .ba 64 0), (9, I z2.2.2), (10, LL a182 p0), (11, I (lenL p0)), (12, I z0.2.2)] [(40, RR 183 2 a182 z2.1 0 false), (64, .box [I z2.2.1, I x1.f1] false)] 88)) z2)) = (L105_9 p0 p1 z0 x1 y3 z2).map (Sum.elim (fun z => .inl ((fun z2 : ((List S182) × Int × Int) => (mkE [(1, LL a182 p1), (5, .own 40 0), (6, I y3.1), (8, .ba 64 0), (9, I z2.2.2), (10, LL a182 p0), (11, I (lenL p0)), (12, I z0.2.2)] [(40, RR 183 2 a182 z2.1 0 false), (64, .box [I z2.2.1, I x1.f1] false)] 88)) z)) (fun x => .inr ((fun (x : (Int × Bool × (List S182) × Int)) => (.exit 4, (mkE [(1, LL a182 p1), (5, .own 40 0), (6, I y3.1), (8, .ba 64 0), (9, I x.1), (10, LL a182 p0), (11, I (lenL p0)), (12, I z0.2.2), (46, B x.2.1)] [(40, RR 183 2 a182 x.2.2.1 0 false), (64, .box [I x.2.2.2, I x1.f1] false)] 88))) x))) := by
  unfold L105_9
  let d_0 : List (Option Nat × REff) := [(some 33, qe (I z2.2.2)), (some 34, qe (LL a182 p1)), (some 35, qe (I (lenL p1))), (some 36, qe (B (ltI z2.2.2 (lenL p1))))]
  let d_1 : List (Option Nat × REff) := [(some 68, qe (.ba 64 0)), (some 69, qe (I z2.2.1)), (some 70, qe (LL a182 p1)), (some 71, qe (I z2.2.2))]
  let d_2 : List (Option Nat × REff) := [(some 57, qe (.own 40 0)), (some 58, qe (.ba 64 0)), (some 59, qe (I z2.2.1)), (some 60, qe (LL a182 p1)), (some 61, qe (I z2.2.2))]
  let s_0 : List (Nat × AV) := [(1, LL a182 p1), (5, .own 40 0), (6, I y3.1), (8, .ba 64 0), (9, I z2.2.2), (10, LL a182 p0), (11, I (lenL p0)), (12, I z0.2.2)]
  let s_1 : List (Nat × AV) := [(1, LL a182 p1), (5, .own 40 1), (6, I y3.1), (8, .ba 64 0), (9, I z2.2.2), (10, LL a182 p0), (11, I (lenL p0)), (12, I z0.2.2)]
  let s_2 : List (Nat × AV) := [(36, B (ltI z2.2.2 (lenL p1))), (35, I (lenL p1)), (34, LL a182 p1), (33, I z2.2.2)]
  let o_0 : List (Nat × AObj) := [(40, RR 183 2 a182 z2.1 0 false), (64, .box [I z2.2.1, I x1.f1] false)]
  refine gS 11 ?_
  refine gS 0 ?_
  refine gD 9 14 (rg Tryz.f105 9) [0, 1, 2, 3, 4, 5, 6, 7, 8, 9, 10, 11, 12, 13] ?_
  refine dg 2 [(some 33, qe (I z2.2.2)), (some 34, qe (LL a182 p1))] ?_
  refine df 35 (I (lenL p1)) (mkE ((34, LL a182 p1) :: s_0) o_0 88) (lenE 178 a182 p1) ?_
  refine dg 5 (d_0.append [(some 37, qe (B (ltI z2.2.2 (lenL p1))))]) ?_
  refine db 4 37 (ltI z2.2.2 (lenL p1)) ?_ ?_
  · refine dg 7 (d_0.append ((some 37, qe (B true)) :: ((some 38, qe (LL a182 p1)) :: [(some 39, qe (I z2.2.2))]))) ?_
    refine dv 40 (mkE ((39, I z2.2.2) :: ((38, LL a182 p1) :: ((37, B true) :: (s_2.append s_0)))) o_0 88) (addrE 178 183 2 a182 .i64 p1 z2.2.2) (fun x4 => ?_)
    refine dg 14 (d_0.append ((some 37, qe (B true)) :: ((some 38, qe (LL a182 p1)) :: ((some 39, qe (I z2.2.2)) :: ((some 40, qe (.ia [I x4.f0, I x4.f1] 0)) :: ((some 41, qe (.ia [I x4.f0, I x4.f1] 0)) :: ((some 42, qe (I x4.f0)) :: ((some 43, qe (.ba 64 1)) :: ((some 44, qe (I x1.f1)) :: ((some 45, qe (B (ltI x4.f0 x1.f1))) :: [(some 46, qe (B (ltI x4.f0 x1.f1)))])))))))))) ?_
    refine de (mkE ((46, B (ltI x4.f0 x1.f1)) :: ((45, B (ltI x4.f0 x1.f1)) :: ((44, I x1.f1) :: ((43, .ba 64 1) :: ((42, I x4.f0) :: ((41, .ia [I x4.f0, I x4.f1] 0) :: ((40, .ia [I x4.f0, I x4.f1] 0) :: ((39, I z2.2.2) :: ((38, LL a182 p1) :: ((37, B true) :: (s_2.append s_0))))))))))) o_0 88) ?_
    refine se (mkE (s_0.append [(46, B (ltI x4.f0 x1.f1))]) o_0 88) ?_
    refine pN ?_
    refine pS ?_
    refine gC 46 (ltI x4.f0 x1.f1) ?_ ?_
    · refine gK ?_
      refine pN ?_
      refine pS ?_
      refine gS 10 ?_
      refine gB 5 ?_
      refine gS 13 ?_
      refine gS 0 ?_
      refine gD 11 8 (rg Tryz.f105 11) [0, 1, 2, 3, 4, 5, 6, 7] ?_
      refine dg 2 [(some 49, qe (LL a182 p1)), (some 50, qe (I z2.2.2))] ?_
      refine dv 51 (mkE ((50, I z2.2.2) :: ((49, LL a182 p1) :: (s_0.append [(46, B (ltI x4.f0 x1.f1))]))) o_0 88) (addrE 178 183 2 a182 .i64 p1 z2.2.2) (fun x5 => ?_)
      refine dg 8 [(some 49, qe (LL a182 p1)), (some 50, qe (I z2.2.2)), (some 51, qe (.ia [I x5.f0, I x5.f1] 0)), (some 52, qe (.ia [I x5.f0, I x5.f1] 0)), (some 53, qe (I x5.f0)), (some 54, qe (.ba 64 0)), (some 55, qe (I z2.2.1)), (some 56, qe (B (ltI z2.2.1 x5.f0)))] ?_
      refine de (mkE ((56, B (ltI z2.2.1 x5.f0)) :: ((55, I z2.2.1) :: ((54, .ba 64 0) :: ((53, I x5.f0) :: ((52, .ia [I x5.f0, I x5.f1] 0) :: ((51, .ia [I x5.f0, I x5.f1] 0) :: ((50, I z2.2.2) :: ((49, LL a182 p1) :: (s_0.append [(46, B (ltI x4.f0 x1.f1))]))))))))) o_0 88) ?_
      refine se (mkE (s_0.append [(56, B (ltI z2.2.1 x5.f0))]) o_0 88) ?_
      refine pN ?_
      refine pS ?_
      refine gC 56 (ltI z2.2.1 x5.f0) ?_ ?_
      · refine gD 12 10 (rg Tryz.f105 12) [0, 1, 2, 3, 4, 5, 6, 7, 8, 9, 10, 11] ?_
        refine dg 5 d_2 ?_
        refine dv 62 (mkE ((61, I z2.2.2) :: ((60, LL a182 p1) :: (s_0.append [(56, B (ltI z2.2.1 x5.f0))]))) o_0 88) (addrE 178 183 2 a182 .i64 p1 z2.2.2) (fun x6 => ?_)
        refine dg 10 (d_2.append ((some 62, qe (.ia [I x6.f0, I x6.f1] 0)) :: ((some 63, qe (.ia [I x6.f0, I x6.f1] 0)) :: ((some 64, qe (I x6.f0)) :: ((some 65, qe (.agg [I z2.2.1, I x6.f0])) :: [(some 66, { e := { val := .own 528 0, news := [(528, RR 183 2 a182 ([(S182.mk z2.2.1 x6.f0)] : List S182) 0 false)] } })]))))) ?_
        refine de (mkE ((66, .own 528 0) :: ((65, .agg [I z2.2.1, I x6.f0]) :: ((64, I x6.f0) :: ((63, .ia [I x6.f0, I x6.f1] 0) :: ((62, .ia [I x6.f0, I x6.f1] 0) :: ((61, I z2.2.2) :: ((60, LL a182 p1) :: ((59, I z2.2.1) :: ((58, .ba 64 0) :: ((57, .own 40 0) :: (s_0.append [(56, B (ltI z2.2.1 x5.f0))]))))))))))) ((528, RR 183 2 a182 ([(S182.mk z2.2.1 x6.f0)] : List S182) 0 false) :: o_0) 88) ?_
        refine mo (some 67) (apO 178 183 2 16 40 a182 0 [528] (y := .own 528 0) (l2 := ([(S182.mk z2.2.1 x6.f0)] : List S182))) (fun x7 => ?_)
        refine se (mkE s_1 [(40, RR 183 2 a182 x7 1 false), (64, .box [I z2.2.1, I x1.f1] false)] 88) ?_
        refine pN ?_
        refine pS ?_
        refine gD 13 9 (rg Tryz.f105 13) [0, 1, 2, 3, 4, 5, 6, 7, 8, 9] ?_
        refine dg 4 d_1 ?_
        refine dv 72 (mkE ((71, I z2.2.2) :: ((70, LL a182 p1) :: s_1)) [(40, RR 183 2 a182 x7 1 false), (64, .box [I z2.2.1, I x1.f1] false)] 88) (addrE 178 183 2 a182 .i64 p1 z2.2.2) (fun x8 => ?_)
        refine dg 9 (d_1.append ((some 72, qe (.ia [I x8.f0, I x8.f1] 0)) :: ((some 73, qe (.ia [I x8.f0, I x8.f1] 1)) :: ((some 74, qe (I x8.f1)) :: ((some 75, qe (I (maxI z2.2.1 x8.f1))) :: [(some 76, qe (.ba 64 0))]))))) ?_
        refine de (mkE ((76, .ba 64 0) :: ((75, I (maxI z2.2.1 x8.f1)) :: ((74, I x8.f1) :: ((73, .ia [I x8.f0, I x8.f1] 1) :: ((72, .ia [I x8.f0, I x8.f1] 0) :: ((71, I z2.2.2) :: ((70, LL a182 p1) :: ((69, I z2.2.1) :: ((68, .ba 64 0) :: s_1))))))))) [(40, RR 183 2 a182 x7 1 false), (64, .box [I z2.2.1, I x1.f1] false)] 88) ?_
        refine se (mkE s_1 [(40, RR 183 2 a182 x7 1 false), (64, .box [I (maxI z2.2.1 x8.f1), I x1.f1] false)] 88) ?_
        refine pB ?_
        refine pN ?_
        refine pS ?_
        refine gR 10 (rg Tryz.f105 10) ?_
        refine se (mkE [(1, LL a182 p1), (5, .own 40 1), (6, I y3.1), (8, .ba 64 0), (9, I (addI .i64 z2.2.2 1)), (10, LL a182 p0), (11, I (lenL p0)), (12, I z0.2.2)] [(40, RR 183 2 a182 x7 1 false), (64, .box [I (maxI z2.2.1 x8.f1), I x1.f1] false)] 88) ?_
        exact pL
      · refine gK ?_
        refine pN ?_
        refine pS ?_
        refine gD 13 9 (rg Tryz.f105 13) [0, 1, 2, 3, 4, 5, 6, 7, 8, 9] ?_
        refine dg 4 d_1 ?_
        refine dv 72 (mkE ((71, I z2.2.2) :: ((70, LL a182 p1) :: (s_0.append [(56, B (ltI z2.2.1 x5.f0))]))) o_0 88) (addrE 178 183 2 a182 .i64 p1 z2.2.2) (fun x9 => ?_)
        refine dg 9 (d_1.append ((some 72, qe (.ia [I x9.f0, I x9.f1] 0)) :: ((some 73, qe (.ia [I x9.f0, I x9.f1] 1)) :: ((some 74, qe (I x9.f1)) :: ((some 75, qe (I (maxI z2.2.1 x9.f1))) :: [(some 76, qe (.ba 64 0))]))))) ?_
        refine de (mkE ((76, .ba 64 0) :: ((75, I (maxI z2.2.1 x9.f1)) :: ((74, I x9.f1) :: ((73, .ia [I x9.f0, I x9.f1] 1) :: ((72, .ia [I x9.f0, I x9.f1] 0) :: ((71, I z2.2.2) :: ((70, LL a182 p1) :: ((69, I z2.2.1) :: ((68, .ba 64 0) :: (s_0.append [(56, B (ltI z2.2.1 x5.f0))])))))))))) o_0 88) ?_
        refine se (mkE s_0 [(40, RR 183 2 a182 z2.1 0 false), (64, .box [I (maxI z2.2.1 x9.f1), I x1.f1] false)] 88) ?_
        refine pB ?_
        refine pN ?_
        refine pS ?_
        refine gR 10 (rg Tryz.f105 10) ?_
        refine se (mkE [(1, LL a182 p1), (5, .own 40 0), (6, I y3.1), (8, .ba 64 0), (9, I (addI .i64 z2.2.2 1)), (10, LL a182 p0), (11, I (lenL p0)), (12, I z0.2.2)] [(40, RR 183 2 a182 z2.1 0 false), (64, .box [I (maxI z2.2.1 x9.f1), I x1.f1] false)] 88) ?_
        exact pL
    · refine gX 4 ?_
      exact pL
  · refine dg 14 (d_0.append ((some 37, qe (B false)) :: ((some 38, qe (.und)) :: ((some 39, qe (.und)) :: ((some 40, qe (.und)) :: ((some 41, qe (.und)) :: ((some 42, qe (.und)) :: ((some 43, qe (.und)) :: ((some 44, qe (.und)) :: ((some 45, qe (.und)) :: [(some 46, qe (B false))])))))))))) ?_
    refine de (mkE ((46, B false) :: ((45, .und) :: ((44, .und) :: ((43, .und) :: ((42, .und) :: ((41, .und) :: ((40, .und) :: ((39, .und) :: ((38, .und) :: ((37, B false) :: (s_2.append s_0))))))))))) o_0 88) ?_
    refine se (mkE (s_0.append [(46, B false)]) o_0 88) ?_
    refine pN ?_
    refine pS ?_
    refine gF (.tmp 46) ?_
    refine gX 4 ?_
    exact pL
noncomputable def L105_4 (p0 : (List S182)) (p1 : (List S182)) (z0 : ((List S182) × Int × Int)) : Option (((List S182) × Int × Int) ⊕ (Int × Int × Bool × (List S182))) := (bif (ltI z0.2.2 (lenL p0)) then ((listAt p0 z0.2.2).bind fun x1 => ((iter (L105_6 p0 p1 z0 x1) z0.2.1).bind fun y3 => ((iter (L105_9 p0 p1 z0 x1 y3) (z0.1, x1.f0, y3.1)).bind fun y10 => (bif (ltI y10.2.2.2 x1.f1) then ((appO 16 y10.2.2.1 ([(S182.mk y10.2.2.2 x1.f1)] : List S182)).bind fun x11 => (some (.inl (x11, y3.1, (addI .i64 z0.2.2 1))))) else (some (.inl (y10.2.2.1, y3.1, (addI .i64 z0.2.2 1)))))))) else (some (.inr (z0.2.1, z0.2.2, (ltI z0.2.2 (lenL p0)), z0.1))))
theorem L105_4_ok (C : Callee) (p0 : (List S182)) (p1 : (List S182)) (z0 : ((List S182) × Int × Int)) : runs Tryz.prog C (cfg.fn 105) (finLoop ((cfg.fn 105).keep 4) ((cfg.fn 105).al 4)) [] (execA Tryz.prog C (cfg.fn 105) (nr Tryz.f105 [false, false, true, false, true, true, true]) ((fun z0 : ((List S182) × Int × Int) => (mkE [(1, LL a182 p1), (5, .own 40 0), (6, I z0.2.1), (10, LL a182 p0), (11, I (lenL p0)), (12, I z0.2.2)] [(40, RR 183 2 a182 z0.1 0 false)] 88)) z0)) = (L105_4 p0 p1 z0).map (Sum.elim (fun z => .inl ((fun z0 : ((List S182) × Int × Int) => (mkE [(1, LL a182 p1), (5, .own 40 0), (6, I z0.2.1), (10, LL a182 p0), (11, I (lenL p0)), (12, I z0.2.2)] [(40, RR 183 2 a182 z0.1 0 false)] 88)) z)) (fun x => .inr ((fun (x : (Int × Int × Bool × (List S182))) => (.exit 0, (mkE [(1, LL a182 p1), (5, .own 40 0), (6, I x.1), (10, LL a182 p0), (11, I (lenL p0)), (12, I x.2.1), (13, B x.2.2.1)] [(40, RR 183 2 a182 x.2.2.2 0 false)] 88))) x))) := by
  unfold L105_4
  let s_0 : List (Nat × AV) := [(10, LL a182 p0), (11, I (lenL p0)), (12, I z0.2.2)]
  let s_1 : List (Nat × AV) := [(1, LL a182 p1), (5, .own 40 0)]
  refine gS 0 ?_
  refine gR 4 (rg Tryz.f105 4) ?_
  refine se (mkE (s_1.append ((6, I z0.2.1) :: (s_0.append [(13, B (ltI z0.2.2 (lenL p0)))]))) [(40, RR 183 2 a182 z0.1 0 false)] 88) ?_
  refine pN ?_
  refine pS ?_
  refine gS 5 ?_
  refine gC 13 (ltI z0.2.2 (lenL p0)) ?_ ?_
  · refine gK ?_
    refine pN ?_
    refine pS ?_
    refine gS 16 ?_
    refine gB 1 ?_
    refine gS 6 ?_
    refine gR 5 (rg Tryz.f105 5) ?_
    refine vo 14 (addrE 178 183 2 a182 .i64 p0 z0.2.2) (fun x1 => ?_)
    refine se (mkE (s_1.append ((6, I z0.2.1) :: ((8, .ba 64 0) :: s_0))) [(40, RR 183 2 a182 z0.1 0 false), (64, .box [I x1.f0, I x1.f1] false)] 88) ?_
    refine pN ?_
    refine pS ?_
    refine gS 8 ?_
    refine gB 2 ?_
    refine lo [(1, none), (5, some (183, 2)), (6, none), (8, none), (10, none), (11, none), (12, none)] [] (L105_6 p0 p1 z0 x1) (fun z1 : Int => (mkE (s_1.append ((6, I z1) :: ((8, .ba 64 0) :: s_0))) [(40, RR 183 2 a182 z0.1 0 false), (64, .box [I x1.f0, I x1.f1] false)] 88)) (fun (x : (Int × Bool)) => (.exit 2, (mkE (s_1.append ((6, I x.1) :: ((8, .ba 64 0) :: (s_0.append [(29, B x.2)])))) [(40, RR 183 2 a182 z0.1 0 false), (64, .box [I x1.f0, I x1.f1] false)] 88))) z0.2.1 (fun z => L105_6_ok C p0 p1 z0 x1 z) ?_
    intro y3
    refine pH ?_
    refine pN ?_
    refine pS ?_
    refine gS 14 ?_
    refine gS 9 ?_
    refine gR 8 (rg Tryz.f105 8) ?_
    refine se (mkE (s_1.append ((6, I y3.1) :: ((8, .ba 64 0) :: ((9, I y3.1) :: s_0)))) [(40, RR 183 2 a182 z0.1 0 false), (64, .box [I x1.f0, I x1.f1] false)] 88) ?_
    refine pN ?_
    refine pS ?_
    refine gB 4 ?_
    refine lo [(1, none), (5, some (183, 2)), (6, none), (8, none), (9, none), (10, none), (11, none), (12, none)] [] (L105_9 p0 p1 z0 x1 y3) (fun z2 : ((List S182) × Int × Int) => (mkE (s_1.append ((6, I y3.1) :: ((8, .ba 64 0) :: ((9, I z2.2.2) :: s_0)))) [(40, RR 183 2 a182 z2.1 0 false), (64, .box [I z2.2.1, I x1.f1] false)] 88)) (fun (x : (Int × Bool × (List S182) × Int)) => (.exit 4, (mkE (s_1.append ((6, I y3.1) :: ((8, .ba 64 0) :: ((9, I x.1) :: (s_0.append [(46, B x.2.1)]))))) [(40, RR 183 2 a182 x.2.2.1 0 false), (64, .box [I x.2.2.2, I x1.f1] false)] 88))) (z0.1, x1.f0, y3.1) (fun z => L105_9_ok C p0 p1 z0 x1 y3 z) ?_
    intro y10
    refine pH ?_
    refine pN ?_
    refine pS ?_
    refine gS 0 ?_
    refine gR 14 (rg Tryz.f105 14) ?_
    refine se (mkE (s_1.append ((6, I y3.1) :: ((8, .ba 64 0) :: (s_0.append [(81, B (ltI y10.2.2.2 x1.f1))])))) [(40, RR 183 2 a182 y10.2.2.1 0 false), (64, .box [I y10.2.2.2, I x1.f1] false)] 88) ?_
    refine pN ?_
    refine pS ?_
    refine gC 81 (ltI y10.2.2.2 x1.f1) ?_ ?_
    · refine gR 15 (rg Tryz.f105 15) ?_
      refine sg 3 (mkE ((84, .own 672 0) :: ((83, .agg [I y10.2.2.2, I x1.f1]) :: ((82, .own 40 0) :: (s_1.append ((6, I y3.1) :: ((8, .ba 64 0) :: (s_0.append [(81, B (ltI y10.2.2.2 x1.f1))]))))))) [(672, RR 183 2 a182 ([(S182.mk y10.2.2.2 x1.f1)] : List S182) 0 false), (40, RR 183 2 a182 y10.2.2.1 0 false), (64, .box [I y10.2.2.2, I x1.f1] false)] 88) ?_
      refine mo (some 85) (apO 178 183 2 16 40 a182 0 [672] (y := .own 672 0) (l2 := ([(S182.mk y10.2.2.2 x1.f1)] : List S182))) (fun x11 => ?_)
      refine se (mkE ((1, LL a182 p1) :: ((5, .own 40 1) :: ((6, I y3.1) :: s_0))) [(40, RR 183 2 a182 x11 1 false)] 88) ?_
      refine pB ?_
      refine pN ?_
      refine pS ?_
      refine gR 16 (rg Tryz.f105 16) ?_
      refine se (mkE [(1, LL a182 p1), (5, .own 40 1), (6, I y3.1), (10, LL a182 p0), (11, I (lenL p0)), (12, I (addI .i64 z0.2.2 1))] [(40, RR 183 2 a182 x11 1 false)] 88) ?_
      exact pL
    · refine gK ?_
      refine pB ?_
      refine pN ?_
      refine pS ?_
      refine gR 16 (rg Tryz.f105 16) ?_
      refine se (mkE (s_1.append ((6, I y3.1) :: ((10, LL a182 p0) :: ((11, I (lenL p0)) :: [(12, I (addI .i64 z0.2.2 1))])))) [(40, RR 183 2 a182 y10.2.2.1 0 false)] 88) ?_
      exact pL
  · refine gX 0 ?_
    exact pL
noncomputable def T105 (p0 : (List S182)) (p1 : (List S182)) : Option (List S182) := ((iter (L105_4 p0 p1) ([], 0, 0)).bind fun y12 => (some y12.2.2.2))
theorem B105 (C : Callee) (p0 : (List S182)) (p1 : (List S182)) : runs Tryz.prog C (cfg.fn 105) (finFn Tryz.prog (cfg.fn 105).byval Tryz.f105) [] (execA Tryz.prog C (cfg.fn 105) (nr Tryz.f105 []) (frame0 [LL a182 p0, LL a182 p1] 88 false)) = (T105 p0 p1).map (fun l => AV.fr 183 2 (List.map a182 l)) := by
  unfold T105
  refine gS 1 ?_
  refine gR 0 (rg Tryz.f105 0) ?_
  refine se (mkE [(0, LL a182 p0), (1, LL a182 p1)] [] 88) ?_
  refine pN ?_
  refine pS ?_
  refine gS 2 ?_
  refine gR 1 (rg Tryz.f105 1) ?_
  refine se (mkE [(0, LL a182 p0), (1, LL a182 p1), (5, .nils)] [] 88) ?_
  refine pN ?_
  refine pS ?_
  refine gS 3 ?_
  refine gR 2 (rg Tryz.f105 2) ?_
  refine se (mkE [(0, LL a182 p0), (1, LL a182 p1), (5, .nils), (6, I 0)] [] 88) ?_
  refine pN ?_
  refine pS ?_
  refine gS 17 ?_
  refine gS 4 ?_
  refine gR 3 (rg Tryz.f105 3) ?_
  refine sg 1 (mkE [(10, LL a182 p0), (0, LL a182 p0), (1, LL a182 p1), (5, .nils), (6, I 0)] [] 88) ?_
  refine eo 11 (I (lenL p0)) (lenE 178 a182 p0) ?_
  refine se (mkE [(1, LL a182 p1), (5, .nils), (6, I 0), (10, LL a182 p0), (11, I (lenL p0)), (12, I 0)] [] 88) ?_
  refine pN ?_
  refine pS ?_
  refine gB 0 ?_
  refine lo [(1, none), (5, some (183, 2)), (6, none), (10, none), (11, none), (12, none)] [] (L105_4 p0 p1) (fun z0 : ((List S182) × Int × Int) => (mkE [(1, LL a182 p1), (5, .own 40 0), (6, I z0.2.1), (10, LL a182 p0), (11, I (lenL p0)), (12, I z0.2.2)] [(40, RR 183 2 a182 z0.1 0 false)] 88)) (fun (x : (Int × Int × Bool × (List S182))) => (.exit 0, (mkE [(1, LL a182 p1), (5, .own 40 0), (6, I x.1), (10, LL a182 p0), (11, I (lenL p0)), (12, I x.2.1), (13, B x.2.2.1)] [(40, RR 183 2 a182 x.2.2.2 0 false)] 88))) ([], 0, 0) (fun z => L105_4_ok C p0 p1 z) ?_
  intro y12
  refine pH ?_
  refine pN ?_
  refine pS ?_
  refine gS 0 ?_
  refine gR 17 (rg Tryz.f105 17) ?_
  refine se (mkE [(4, .own 40 0)] [(40, RR 183 2 a182 y12.2.2.2 0 false)] 88) ?_
  refine pN ?_
  refine pS ?_
  refine gE ?_
  exact pL
theorem F105 (m : Nat) (hm : 1 ≤ m) (p0 : (List S182)) (p1 : (List S182)) : callA Tryz.prog cfg m 105 [LL a182 p0, LL a182 p1] = (T105 p0 p1).map (fun l => AV.fr 183 2 (List.map a182 l)) := by
  obtain ⟨q, rfl⟩ : ∃ q, m = q + 1 := ⟨m - 1, by omega⟩
  exact (callA_body (fn := Tryz.f105) (c := body_ Tryz.f105) q _ (by kernel_rfl) (by kernel_rfl) (by kernel_rfl)).trans (B105 _ p0 p1)

noncomputable def L107_4 (p0 : (List S182)) (p1 : (List S182)) (z0 : Int) : Option (Int ⊕ ((Int × Bool) ⊕ Unit)) := (bif (ltI z0 (lenL p0)) then ((listAt p0 z0).bind fun x1 => ((listAt p1 z0).bind fun x2 => (bif (!allB [eqI x1.f0 x2.f0, eqI x1.f1 x2.f1]) then (some (.inr (.inr ()))) else (some (.inl (addI .i64 z0 1)))))) else (some (.inr (.inl (z0, (ltI z0 (lenL p0)))))))
theorem L107_4_ok (C : Callee) (p0 : (List S182)) (p1 : (List S182)) (z0 : Int) : runs Tryz.prog C (cfg.fn 107) (finLoop ((cfg.fn 107).keep 4) ((cfg.fn 107).al 4)) [] (execA Tryz.prog C (cfg.fn 107) (nr Tryz.f107 [false, false, true, false, true, true]) ((fun z0 : Int => (mkE [(0, LL a182 p0), (1, LL a182 p1), (12, I (lenL p0)), (13, I z0)] [] 26)) z0)) = (L107_4 p0 p1 z0).map (Sum.elim (fun z => .inl ((fun z0 : Int => (mkE [(0, LL a182 p0), (1, LL a182 p1), (12, I (lenL p0)), (13, I z0)] [] 26)) z)) (fun x => .inr ((Sum.elim (fun (x : (Int × Bool)) => (.exit 0, (mkE [(0, LL a182 p0), (1, LL a182 p1), (12, I (lenL p0)), (13, I x.1), (14, B x.2)] [] 26))) (fun (x : Unit) => (.ret, (mkE [(4, B false)] [] 26)))) x))) := by
  unfold L107_4
  let s_0 : List (Nat × AV) := [(0, LL a182 p0), (1, LL a182 p1), (5, I z0), (12, I (lenL p0)), (13, I z0)]
  refine gS 0 ?_
  refine gR 4 (rg Tryz.f107 4) ?_
  refine se (mkE [(0, LL a182 p0), (1, LL a182 p1), (12, I (lenL p0)), (13, I z0), (14, B (ltI z0 (lenL p0)))] [] 26) ?_
  refine pN ?_
  refine pS ?_
  refine gS 5 ?_
  refine gC 14 (ltI z0 (lenL p0)) ?_ ?_
  · refine gK ?_
    refine pN ?_
    refine pS ?_
    refine gS 8 ?_
    refine gB 1 ?_
    refine gS 6 ?_
    refine gR 5 (rg Tryz.f107 5) ?_
    refine se (mkE s_0 [] 26) ?_
    refine pN ?_
    refine pS ?_
    refine gS 0 ?_
    refine gD 6 9 (rg Tryz.f107 6) [0, 1, 2, 3, 4, 5, 6, 7, 8] ?_
    refine dg 2 [(some 16, qe (LL a182 p0)), (some 17, qe (I z0))] ?_
    refine dv 18 (mkE ((17, I z0) :: ((16, LL a182 p0) :: s_0)) [] 26) (addrE 178 183 2 a182 .i64 p0 z0) (fun x1 => ?_)
    refine dg 6 [(some 16, qe (LL a182 p0)), (some 17, qe (I z0)), (some 18, qe (.ia [I x1.f0, I x1.f1] 0)), (some 19, qe (a182 x1)), (some 20, qe (LL a182 p1)), (some 21, qe (I z0))] ?_
    refine dv 22 (mkE ((21, I z0) :: ((20, LL a182 p1) :: s_0)) [] 26) (addrE 178 183 2 a182 .i64 p1 z0) (fun x2 => ?_)
    refine dg 8 [(some 16, qe (LL a182 p0)), (some 17, qe (I z0)), (some 18, qe (.ia [I x1.f0, I x1.f1] 0)), (some 19, qe (a182 x1)), (some 20, qe (LL a182 p1)), (some 21, qe (I z0)), (some 22, qe (.ia [I x2.f0, I x2.f1] 0)), (some 23, qe (a182 x2))] ?_
    refine df 24 (B (!allB [eqI x1.f0 x2.f0, eqI x1.f1 x2.f1])) (mkE ((23, a182 x2) :: ((22, .ia [I x2.f0, I x2.f1] 0) :: ((21, I z0) :: ((20, LL a182 p1) :: ((19, a182 x1) :: ((18, .ia [I x1.f0, I x1.f1] 0) :: ((17, I z0) :: ((16, LL a182 p0) :: s_0)))))))) [] 26) (neqE 183 (.tmp 19) (.tmp 23) [I x1.f0, I x1.f1] [I x2.f0, I x2.f1] [.int .i64 x1.f0, .int .i64 x1.f1] [.int .i64 x2.f0, .int .i64 x2.f1] [eqI x1.f0 x2.f0, eqI x1.f1 x2.f1]) ?_
    refine de (mkE ((24, B (!allB [eqI x1.f0 x2.f0, eqI x1.f1 x2.f1])) :: ((23, a182 x2) :: ((22, .ia [I x2.f0, I x2.f1] 0) :: ((21, I z0) :: ((20, LL a182 p1) :: ((19, a182 x1) :: ((18, .ia [I x1.f0, I x1.f1] 0) :: ((17, I z0) :: ((16, LL a182 p0) :: s_0))))))))) [] 26) ?_
    refine se (mkE [(0, LL a182 p0), (1, LL a182 p1), (12, I (lenL p0)), (13, I z0), (24, B (!allB [eqI x1.f0 x2.f0, eqI x1.f1 x2.f1]))] [] 26) ?_
    refine pN ?_
    refine pS ?_
    refine gC 24 (!allB [eqI x1.f0 x2.f0, eqI x1.f1 x2.f1]) ?_ ?_
    · refine gS 0 ?_
      refine gR 7 (rg Tryz.f107 7) ?_
      refine se (mkE [(4, B false)] [] 26) ?_
      refine pN ?_
      refine pS ?_
      refine gE ?_
      exact pL
    · refine gK ?_
      refine pB ?_
      refine pN ?_
      refine pS ?_
      refine gR 8 (rg Tryz.f107 8) ?_
      refine se (mkE [(0, LL a182 p0), (1, LL a182 p1), (12, I (lenL p0)), (13, I (addI .i64 z0 1))] [] 26) ?_
      exact pL
  · refine gX 0 ?_
    exact pL
noncomputable def T107 (p0 : (List S182)) (p1 : (List S182)) : Option Bool := (bif (neI (lenL p0) (lenL p1)) then (some false) else ((iter (L107_4 p0 p1) 0).bind fun y3 => (Sum.elim (fun y3a => (some true)) (fun y3b => (some false)) y3)))
theorem B107 (C : Callee) (p0 : (List S182)) (p1 : (List S182)) : runs Tryz.prog C (cfg.fn 107) (finFn Tryz.prog (cfg.fn 107).byval Tryz.f107) [] (execA Tryz.prog C (cfg.fn 107) (nr Tryz.f107 []) (frame0 [LL a182 p0, LL a182 p1] 26 false)) = (T107 p0 p1).map B := by
  unfold T107
  let s_0 : List (Nat × AV) := [(0, LL a182 p0), (1, LL a182 p1)]
  refine gS 1 ?_
  refine gR 0 (rg Tryz.f107 0) ?_
  refine se (mkE s_0 [] 26) ?_
  refine pN ?_
  refine pS ?_
  refine gS 3 ?_
  refine gS 0 ?_
  refine gR 1 (rg Tryz.f107 1) ?_
  refine sg 1 (mkE ((6, LL a182 p0) :: s_0) [] 26) ?_
  refine eo 7 (I (lenL p0)) (lenE 178 a182 p0) ?_
  refine sg 3 (mkE ((8, LL a182 p1) :: ((7, I (lenL p0)) :: ((6, LL a182 p0) :: s_0))) [] 26) ?_
  refine eo 9 (I (lenL p1)) (lenE 178 a182 p1) ?_
  refine se (mkE (s_0.append [(10, B (neI (lenL p0) (lenL p1)))]) [] 26) ?_
  refine pN ?_
  refine pS ?_
  refine gC 10 (neI (lenL p0) (lenL p1)) ?_ ?_
  · refine gS 0 ?_
    refine gR 2 (rg Tryz.f107 2) ?_
    refine se (mkE [(4, B false)] [] 26) ?_
    refine pN ?_
    refine pS ?_
    refine gE ?_
    exact pL
  · refine gK ?_
    refine pN ?_
    refine pS ?_
    refine gS 9 ?_
    refine gS 4 ?_
    refine gR 3 (rg Tryz.f107 3) ?_
    refine sg 1 (mkE ((11, LL a182 p0) :: (s_0.append [(10, B (neI (lenL p0) (lenL p1)))])) [] 26) ?_
    refine eo 12 (I (lenL p0)) (lenE 178 a182 p0) ?_
    refine se (mkE (s_0.append ((12, I (lenL p0)) :: [(13, I 0)])) [] 26) ?_
    refine pN ?_
    refine pS ?_
    refine gB 0 ?_
    refine lo [(0, none), (1, none), (12, none), (13, none)] [] (L107_4 p0 p1) (fun z0 : Int => (mkE (s_0.append ((12, I (lenL p0)) :: [(13, I z0)])) [] 26)) (Sum.elim (fun (x : (Int × Bool)) => (.exit 0, (mkE (s_0.append ((12, I (lenL p0)) :: ((13, I x.1) :: [(14, B x.2)]))) [] 26))) (fun (x : Unit) => (.ret, (mkE [(4, B false)] [] 26)))) 0 (fun z => L107_4_ok C p0 p1 z) ?_
    intro y3
    refine ss y3 (Z := (Sum.elim (fun (x : (Int × Bool)) => (.exit 0, (mkE (s_0.append ((12, I (lenL p0)) :: ((13, I x.1) :: [(14, B x.2)]))) [] 26))) (fun (x : Unit) => (.ret, (mkE [(4, B false)] [] 26))))) (fun y3a => ?_) (fun y3b => ?_)
    · refine pH ?_
      refine pN ?_
      refine pS ?_
      refine gS 0 ?_
      refine gR 9 (rg Tryz.f107 9) ?_
      refine se (mkE [(4, B true)] [] 26) ?_
      refine pN ?_
      refine pS ?_
      refine gE ?_
      exact pL
    · exact pL
theorem F107 (m : Nat) (hm : 1 ≤ m) (p0 : (List S182)) (p1 : (List S182)) : callA Tryz.prog cfg m 107 [LL a182 p0, LL a182 p1] = (T107 p0 p1).map B := by
  obtain ⟨q, rfl⟩ : ∃ q, m = q + 1 := ⟨m - 1, by omega⟩
  exact (callA_body (fn := Tryz.f107) (c := body_ Tryz.f107) q _ (by kernel_rfl) (by kernel_rfl) (by kernel_rfl)).trans (B107 _ p0 p1)

noncomputable def L60_3 (p0 : (List S28)) (p1 : (List S28)) (x1 : (List S28)) (z0 : ((List Int) × (List S28) × Int)) : Option (((List Int) × (List S28) × Int) ⊕ (Int × Bool × (List Int) × (List S28))) := (bif (ltI z0.2.2 (lenL x1)) then ((idxO (List.length z0.2.1) z0.2.2).bind fun x2 => ((getN z0.2.1 x2).bind fun x3 => ((appO 8 z0.1 ([x3.f1, (addI .i64 x3.f1 x3.f3)] : List Int)).bind fun x4 => (some (.inl (x4, z0.2.1, (addI .i64 z0.2.2 1))))))) else (some (.inr (z0.2.2, (ltI z0.2.2 (lenL x1)), z0.1, z0.2.1))))
theorem L60_3_ok (C : Callee) (p0 : (List S28)) (p1 : (List S28)) (x1 : (List S28)) (z0 : ((List Int) × (List S28) × Int)) : runs Tryz.prog C (cfg.fn 60) (finLoop ((cfg.fn 60).keep 3) ((cfg.fn 60).al 3)) [] (execA Tryz.prog C (cfg.fn 60) (nr Tryz.f60 [false, false, true, false, true, true]) ((fun z0 : ((List Int) × (List S28) × Int) => (mkE [(0, LL a28 p0), (1, LL a28 p1), (5, .own 40 0), (19, .own 152 0), (20, I (lenL x1)), (21, I z0.2.2)] [(40, RR 3 1 I z0.1 0 false), (152, RR 29 4 a28 z0.2.1 0 false)] 88)) z0)) = (L60_3 p0 p1 x1 z0).map (Sum.elim (fun z => .inl ((fun z0 : ((List Int) × (List S28) × Int) => (mkE [(0, LL a28 p0), (1, LL a28 p1), (5, .own 40 0), (19, .own 152 0), (20, I (lenL x1)), (21, I z0.2.2)] [(40, RR 3 1 I z0.1 0 false), (152, RR 29 4 a28 z0.2.1 0 false)] 88)) z)) (fun x => .inr ((fun (x : (Int × Bool × (List Int) × (List S28))) => (.exit 0, (mkE [(0, LL a28 p0), (1, LL a28 p1), (5, .own 40 0), (19, .own 152 0), (20, I (lenL x1)), (21, I x.1), (22, B x.2.1)] [(40, RR 3 1 I x.2.2.1 0 false), (152, RR 29 4 a28 x.2.2.2 0 false)] 88))) x))) := by
  unfold L60_3
  let s_0 : List (Nat × AV) := [(19, .own 152 0), (20, I (lenL x1)), (21, I z0.2.2)]
  refine gS 0 ?_
  refine gR 3 (rg Tryz.f60 3) ?_
  refine se (mkE ((0, LL a28 p0) :: ((1, LL a28 p1) :: ((5, .own 40 0) :: (s_0.append [(22, B (ltI z0.2.2 (lenL x1)))])))) [(40, RR 3 1 I z0.1 0 false), (152, RR 29 4 a28 z0.2.1 0 false)] 88) ?_
  refine pN ?_
  refine pS ?_
  refine gS 4 ?_
  refine gC 22 (ltI z0.2.2 (lenL x1)) ?_ ?_
  · refine gK ?_
    refine pN ?_
    refine pS ?_
    refine gS 6 ?_
    refine gB 1 ?_
    refine gS 5 ?_
    refine gR 4 (rg Tryz.f60 4) ?_
    refine vo 23 (addrOE 26 29 4 152 0 false a28 .i64 z0.2.1 z0.2.2) (fun x2 => ?_)
    refine vo 24 (loadOE 29 152 0 x2 0 29 4 4 true false a28 (fun q : S28 => a28 q) z0.2.1) (fun x3 => ?_)
    refine se (mkE ((0, LL a28 p0) :: ((1, LL a28 p1) :: ((5, .own 40 0) :: ((7, .ba 56 0) :: s_0)))) [(40, RR 3 1 I z0.1 0 false), (56, .box [I x3.f0, I x3.f1, I x3.f2, I x3.f3] false), (152, RR 29 4 a28 z0.2.1 0 false)] 88) ?_
    refine pN ?_
    refine pS ?_
    refine gR 5 (rg Tryz.f60 5) ?_
    refine sg 9 (mkE ((33, .own 264 0) :: ((32, I (addI .i64 x3.f1 x3.f3)) :: ((31, I x3.f3) :: ((30, .ba 56 3) :: ((29, I x3.f1) :: ((28, .ba 56 1) :: ((27, I x3.f1) :: ((26, .ba 56 1) :: ((25, .own 40 0) :: ((0, LL a28 p0) :: ((1, LL a28 p1) :: ((5, .own 40 0) :: ((7, .ba 56 0) :: s_0))))))))))))) [(264, RR 3 1 I ([x3.f1, (addI .i64 x3.f1 x3.f3)] : List Int) 0 false), (40, RR 3 1 I z0.1 0 false), (56, .box [I x3.f0, I x3.f1, I x3.f2, I x3.f3] false), (152, RR 29 4 a28 z0.2.1 0 false)] 88) ?_
    refine mo (some 34) (apO 22 3 1 8 40 I 0 [264] (y := .own 264 0) (l2 := ([x3.f1, (addI .i64 x3.f1 x3.f3)] : List Int))) (fun x4 => ?_)
    refine se (mkE ((0, LL a28 p0) :: ((1, LL a28 p1) :: ((5, .own 40 1) :: s_0))) [(40, RR 3 1 I x4 1 false), (152, RR 29 4 a28 z0.2.1 0 false)] 88) ?_
    refine pB ?_
    refine pN ?_
    refine pS ?_
    refine gR 6 (rg Tryz.f60 6) ?_
    refine se (mkE [(0, LL a28 p0), (1, LL a28 p1), (5, .own 40 1), (19, .own 152 0), (20, I (lenL x1)), (21, I (addI .i64 z0.2.2 1))] [(40, RR 3 1 I x4 1 false), (152, RR 29 4 a28 z0.2.1 0 false)] 88) ?_
    exact pL
  · refine gX 0 ?_
    exact pL
noncomputable def L60_20 (p0 : (List S28)) (p1 : (List S28)) (x7 : (List Int)) (z1 : ((List Int) × (List S28) × (List S182) × Int × Int)) (x9 : Int) (x12 : (List S182)) (z2 : ((List Int) × (List S28) × Int)) : Option (((List Int) × (List S28) × Int) ⊕ (Int × Bool × (List Int) × (List S28))) := (bif (ltI z2.2.2 (lenL z1.2.2.1)) then ((listAt z1.2.2.1 z2.2.2).bind fun x14 => ((appO 32 z2.2.1 ([(S28.mk x14.f0 z1.2.2.2.1 (subI .i64 x14.f1 x14.f0) (subI .i64 x9 z1.2.2.2.1))] : List S28)).bind fun x15 => (some (.inl (z2.1, x15, (addI .i64 z2.2.2 1)))))) else (some (.inr (z2.2.2, (ltI z2.2.2 (lenL z1.2.2.1)), z2.1, z2.2.1))))
theorem L60_20_ok (C : Callee) (p0 : (List S28)) (p1 : (List S28)) (x7 : (List Int)) (z1 : ((List Int) × (List S28) × (List S182) × Int × Int)) (x9 : Int) (x12 : (List S182)) (z2 : ((List Int) × (List S28) × Int)) : runs Tryz.prog C (cfg.fn 60) (finLoop ((cfg.fn 60).keep 20) ((cfg.fn 60).al 20)) [] (execA Tryz.prog C (cfg.fn 60) (nr Tryz.f60 [false, false, true, false, true, true, true, true, false, false, true, true, false, false, true, false, true, true, true, true, true, true, true, true]) ((fun z2 : ((List Int) × (List S28) × Int) => (mkE [(40, .own 40 0), (0, LL a28 p0), (1, LL a28 p1), (5, .own 40 0), (8, .own 64 0), (10, I z1.2.2.2.1), (12, I x9), (13, LL a182 x12), (41, I (lenL x7)), (42, I z1.2.2.2.2), (62, LL a182 z1.2.2.1), (63, I (lenL z1.2.2.1)), (64, I z2.2.2)] [(40, RR 3 1 I z2.1 0 false), (64, RR 29 4 a28 z2.2.1 0 false)] 88)) z2)) = (L60_20 p0 p1 x7 z1 x9 x12 z2).map (Sum.elim (fun z => .inl ((fun z2 : ((List Int) × (List S28) × Int) => (mkE [(40, .own 40 0), (0, LL a28 p0), (1, LL a28 p1), (5, .own 40 0), (8, .own 64 0), (10, I z1.2.2.2.1), (12, I x9), (13, LL a182 x12), (41, I (lenL x7)), (42, I z1.2.2.2.2), (62, LL a182 z1.2.2.1), (63, I (lenL z1.2.2.1)), (64, I z2.2.2)] [(40, RR 3 1 I z2.1 0 false), (64, RR 29 4 a28 z2.2.1 0 false)] 88)) z)) (fun x => .inr ((fun (x : (Int × Bool × (List Int) × (List S28))) => (.exit 4, (mkE [(0, LL a28 p0), (1, LL a28 p1), (5, .own 40 0), (8, .own 64 0), (10, I z1.2.2.2.1), (12, I x9), (13, LL a182 x12), (40, .own 40 0), (41, I (lenL x7)), (42, I z1.2.2.2.2), (62, LL a182 z1.2.2.1), (63, I (lenL z1.2.2.1)), (64, I x.1), (65, B x.2.1)] [(40, RR 3 1 I x.2.2.1 0 false), (64, RR 29 4 a28 x.2.2.2 0 false)] 88))) x))) := by
  unfold L60_20
  let s_0 : List (Nat × AV) := [(40, .own 40 0), (41, I (lenL x7)), (42, I z1.2.2.2.2), (62, LL a182 z1.2.2.1), (63, I (lenL z1.2.2.1))]
  let s_1 : List (Nat × AV) := [(0, LL a28 p0), (1, LL a28 p1), (5, .own 40 0), (8, .own 64 0), (10, I z1.2.2.2.1), (12, I x9), (13, LL a182 x12)]
  refine gS 0 ?_
  refine gR 20 (rg Tryz.f60 20) ?_
  refine se (mkE (s_1.append (s_0.append ((64, I z2.2.2) :: [(65, B (ltI z2.2.2 (lenL z1.2.2.1)))]))) [(40, RR 3 1 I z2.1 0 false), (64, RR 29 4 a28 z2.2.1 0 false)] 88) ?_
  refine pN ?_
  refine pS ?_
  refine gS 21 ?_
  refine gC 65 (ltI z2.2.2 (lenL z1.2.2.1)) ?_ ?_
  · refine gK ?_
    refine pN ?_
    refine pS ?_
    refine gS 23 ?_
    refine gB 5 ?_
    refine gS 22 ?_
    refine gR 21 (rg Tryz.f60 21) ?_
    refine vo 66 (addrE 178 183 2 a182 .i64 z1.2.2.1 z2.2.2) (fun x14 => ?_)
    refine se (mkE (s_1.append ((15, .ba 120 0) :: (s_0.append [(64, I z2.2.2)]))) [(40, RR 3 1 I z2.1 0 false), (64, RR 29 4 a28 z2.2.1 0 false), (120, .box [I x14.f0, I x14.f1] false)] 88) ?_
    refine pN ?_
    refine pS ?_
    refine gR 22 (rg Tryz.f60 22) ?_
    refine sg 14 (mkE ((81, .own 648 0) :: ((80, .agg [I x14.f0, I z1.2.2.2.1, I (subI .i64 x14.f1 x14.f0), I (subI .i64 x9 z1.2.2.2.1)]) :: ((79, I (subI .i64 x9 z1.2.2.2.1)) :: ((78, I z1.2.2.2.1) :: ((77, I x9) :: ((76, I (subI .i64 x14.f1 x14.f0)) :: ((75, I x14.f0) :: ((74, .ba 120 0) :: ((73, I x14.f1) :: ((72, .ba 120 1) :: ((71, I z1.2.2.2.1) :: ((70, I x14.f0) :: ((69, .ba 120 0) :: ((68, .own 64 0) :: (s_1.append ((15, .ba 120 0) :: (s_0.append [(64, I z2.2.2)]))))))))))))))))) [(648, RR 29 4 a28 ([(S28.mk x14.f0 z1.2.2.2.1 (subI .i64 x14.f1 x14.f0) (subI .i64 x9 z1.2.2.2.1))] : List S28) 0 false), (40, RR 3 1 I z2.1 0 false), (64, RR 29 4 a28 z2.2.1 0 false), (120, .box [I x14.f0, I x14.f1] false)] 88) ?_
    refine mo (some 82) (apO 26 29 4 32 64 a28 0 [648] (y := .own 648 0) (l2 := ([(S28.mk x14.f0 z1.2.2.2.1 (subI .i64 x14.f1 x14.f0) (subI .i64 x9 z1.2.2.2.1))] : List S28))) (fun x15 => ?_)
    refine se (mkE ((0, LL a28 p0) :: ((1, LL a28 p1) :: ((5, .own 40 0) :: ((8, .own 64 1) :: ((10, I z1.2.2.2.1) :: ((12, I x9) :: ((13, LL a182 x12) :: (s_0.append [(64, I z2.2.2)])))))))) [(40, RR 3 1 I z2.1 0 false), (64, RR 29 4 a28 x15 1 false)] 88) ?_
    refine pB ?_
    refine pN ?_
    refine pS ?_
    refine gR 23 (rg Tryz.f60 23) ?_
    refine se (mkE ((0, LL a28 p0) :: ((1, LL a28 p1) :: ((5, .own 40 0) :: ((8, .own 64 1) :: ((10, I z1.2.2.2.1) :: ((12, I x9) :: ((13, LL a182 x12) :: (s_0.append [(64, I (addI .i64 z2.2.2 1))])))))))) [(40, RR 3 1 I z2.1 0 false), (64, RR 29 4 a28 x15 1 false)] 88) ?_
    exact pL
  · refine gX 4 ?_
    exact pL
noncomputable def L60_20_v1 (p0 : (List S28)) (p1 : (List S28)) (x7 : (List Int)) (z1 : ((List Int) × (List S28) × (List S182) × Int × Int)) (x9 : Int) (z2 : ((List Int) × (List S28) × Int)) : Option (((List Int) × (List S28) × Int) ⊕ (Int × Bool × (List Int) × (List S28))) := (bif (ltI z2.2.2 (lenL z1.2.2.1)) then ((listAt z1.2.2.1 z2.2.2).bind fun x18 => ((appO 32 z2.2.1 ([(S28.mk x18.f0 z1.2.2.2.1 (subI .i64 x18.f1 x18.f0) (subI .i64 x9 z1.2.2.2.1))] : List S28)).bind fun x19 => (some (.inl (z2.1, x19, (addI .i64 z2.2.2 1)))))) else (some (.inr (z2.2.2, (ltI z2.2.2 (lenL z1.2.2.1)), z2.1, z2.2.1))))
theorem L60_20_v1_ok (C : Callee) (p0 : (List S28)) (p1 : (List S28)) (x7 : (List Int)) (z1 : ((List Int) × (List S28) × (List S182) × Int × Int)) (x9 : Int) (z2 : ((List Int) × (List S28) × Int)) : runs Tryz.prog C (cfg.fn 60) (finLoop ((cfg.fn 60).keep 20) ((cfg.fn 60).al 20)) [] (execA Tryz.prog C (cfg.fn 60) (nr Tryz.f60 [false, false, true, false, true, true, true, true, false, false, true, true, false, false, true, false, true, true, true, true, true, true, true, true]) ((fun z2 : ((List Int) × (List S28) × Int) => (mkE [(40, .own 40 0), (0, LL a28 p0), (1, LL a28 p1), (5, .own 40 0), (8, .own 64 0), (10, I z1.2.2.2.1), (12, I x9), (13, LL a182 ([] : List S182)), (41, I (lenL x7)), (42, I z1.2.2.2.2), (62, LL a182 z1.2.2.1), (63, I (lenL z1.2.2.1)), (64, I z2.2.2)] [(40, RR 3 1 I z2.1 0 false), (64, RR 29 4 a28 z2.2.1 0 false)] 88)) z2)) = (L60_20_v1 p0 p1 x7 z1 x9 z2).map (Sum.elim (fun z => .inl ((fun z2 : ((List Int) × (List S28) × Int) => (mkE [(40, .own 40 0), (0, LL a28 p0), (1, LL a28 p1), (5, .own 40 0), (8, .own 64 0), (10, I z1.2.2.2.1), (12, I x9), (13, LL a182 ([] : List S182)), (41, I (lenL x7)), (42, I z1.2.2.2.2), (62, LL a182 z1.2.2.1), (63, I (lenL z1.2.2.1)), (64, I z2.2.2)] [(40, RR 3 1 I z2.1 0 false), (64, RR 29 4 a28 z2.2.1 0 false)] 88)) z)) (fun x => .inr ((fun (x : (Int × Bool × (List Int) × (List S28))) => (.exit 4, (mkE [(0, LL a28 p0), (1, LL a28 p1), (5, .own 40 0), (8, .own 64 0), (10, I z1.2.2.2.1), (12, I x9), (13, LL a182 ([] : List S182)), (40, .own 40 0), (41, I (lenL x7)), (42, I z1.2.2.2.2), (62, LL a182 z1.2.2.1), (63, I (lenL z1.2.2.1)), (64, I x.1), (65, B x.2.1)] [(40, RR 3 1 I x.2.2.1 0 false), (64, RR 29 4 a28 x.2.2.2 0 false)] 88))) x))) := by
  unfold L60_20_v1
  let s_0 : List (Nat × AV) := [(40, .own 40 0), (41, I (lenL x7)), (42, I z1.2.2.2.2), (62, LL a182 z1.2.2.1), (63, I (lenL z1.2.2.1))]
  let s_1 : List (Nat × AV) := [(0, LL a28 p0), (1, LL a28 p1), (5, .own 40 0), (8, .own 64 0), (10, I z1.2.2.2.1), (12, I x9), (13, LL a182 ([] : List S182))]
  let s_2 : List (Nat × AV) := [(0, LL a28 p0), (1, LL a28 p1), (5, .own 40 0), (8, .own 64 1), (10, I z1.2.2.2.1), (12, I x9), (13, LL a182 ([] : List S182))]
  refine gS 0 ?_
  refine gR 20 (rg Tryz.f60 20) ?_
  refine se (mkE (s_1.append (s_0.append ((64, I z2.2.2) :: [(65, B (ltI z2.2.2 (lenL z1.2.2.1)))]))) [(40, RR 3 1 I z2.1 0 false), (64, RR 29 4 a28 z2.2.1 0 false)] 88) ?_
  refine pN ?_
  refine pS ?_
  refine gS 21 ?_
  refine gC 65 (ltI z2.2.2 (lenL z1.2.2.1)) ?_ ?_
  · refine gK ?_
    refine pN ?_
    refine pS ?_
    refine gS 23 ?_
    refine gB 5 ?_
    refine gS 22 ?_
    refine gR 21 (rg Tryz.f60 21) ?_
    refine vo 66 (addrE 178 183 2 a182 .i64 z1.2.2.1 z2.2.2) (fun x18 => ?_)
    refine se (mkE (s_1.append ((15, .ba 120 0) :: (s_0.append [(64, I z2.2.2)]))) [(40, RR 3 1 I z2.1 0 false), (64, RR 29 4 a28 z2.2.1 0 false), (120, .box [I x18.f0, I x18.f1] false)] 88) ?_
    refine pN ?_
    refine pS ?_
    refine gR 22 (rg Tryz.f60 22) ?_
    refine sg 14 (mkE ((81, .own 648 0) :: ((80, .agg [I x18.f0, I z1.2.2.2.1, I (subI .i64 x18.f1 x18.f0), I (subI .i64 x9 z1.2.2.2.1)]) :: ((79, I (subI .i64 x9 z1.2.2.2.1)) :: ((78, I z1.2.2.2.1) :: ((77, I x9) :: ((76, I (subI .i64 x18.f1 x18.f0)) :: ((75, I x18.f0) :: ((74, .ba 120 0) :: ((73, I x18.f1) :: ((72, .ba 120 1) :: ((71, I z1.2.2.2.1) :: ((70, I x18.f0) :: ((69, .ba 120 0) :: ((68, .own 64 0) :: (s_1.append ((15, .ba 120 0) :: (s_0.append [(64, I z2.2.2)]))))))))))))))))) [(648, RR 29 4 a28 ([(S28.mk x18.f0 z1.2.2.2.1 (subI .i64 x18.f1 x18.f0) (subI .i64 x9 z1.2.2.2.1))] : List S28) 0 false), (40, RR 3 1 I z2.1 0 false), (64, RR 29 4 a28 z2.2.1 0 false), (120, .box [I x18.f0, I x18.f1] false)] 88) ?_
    refine mo (some 82) (apO 26 29 4 32 64 a28 0 [648] (y := .own 648 0) (l2 := ([(S28.mk x18.f0 z1.2.2.2.1 (subI .i64 x18.f1 x18.f0) (subI .i64 x9 z1.2.2.2.1))] : List S28))) (fun x19 => ?_)
    refine se (mkE (s_2.append (s_0.append [(64, I z2.2.2)])) [(40, RR 3 1 I z2.1 0 false), (64, RR 29 4 a28 x19 1 false)] 88) ?_
    refine pB ?_
    refine pN ?_
    refine pS ?_
    refine gR 23 (rg Tryz.f60 23) ?_
    refine se (mkE (s_2.append (s_0.append [(64, I (addI .i64 z2.2.2 1))])) [(40, RR 3 1 I z2.1 0 false), (64, RR 29 4 a28 x19 1 false)] 88) ?_
    exact pL
  · refine gX 4 ?_
    exact pL
noncomputable def L60_13 (p0 : (List S28)) (p1 : (List S28)) (x7 : (List Int)) (z1 : ((List Int) × (List S28) × (List S182) × Int × Int)) : Option (((List Int) × (List S28) × (List S182) × Int × Int) ⊕ ((List S182) × Int × Int × Bool × (List Int) × (List S28))) := (bif (ltI z1.2.2.2.2 (lenL x7)) then ((idxO (List.length z1.1) z1.2.2.2.2).bind fun x8 => ((getN z1.1 x8).bind fun x9 => (bif (ltI (addI .i64 z1.2.2.2.2 1) (lenL z1.1)) then ((T106 p0 x9).bind fun x10 => ((T106 p1 x9).bind fun x11 => ((T105 x10 x11).bind fun x12 => ((T107 z1.2.2.1 x12).bind fun x13 => (bif x13 then (some (.inl (z1.1, z1.2.1, z1.2.2.1, z1.2.2.2.1, (addI .i64 z1.2.2.2.2 1)))) else ((iter (L60_20 p0 p1 x7 z1 x9 x12) (z1.1, z1.2.1, 0)).bind fun y16 => (some (.inl (y16.2.2.1, y16.2.2.2, x12, x9, (addI .i64 z1.2.2.2.2 1)))))))))) else ((T107 z1.2.2.1 []).bind fun x17 => (bif x17 then (some (.inl (z1.1, z1.2.1, z1.2.2.1, z1.2.2.2.1, (addI .i64 z1.2.2.2.2 1)))) else ((iter (L60_20_v1 p0 p1 x7 z1 x9) (z1.1, z1.2.1, 0)).bind fun y20 => (some (.inl (y20.2.2.1, y20.2.2.2, ([] : List S182), x9, (addI .i64 z1.2.2.2.2 1)))))))))) else (some (.inr (z1.2.2.1, z1.2.2.2.1, z1.2.2.2.2, (ltI z1.2.2.2.2 (lenL x7)), z1.1, z1.2.1))))
theorem L60_13_ok (C : Callee) (h105 : ∀ (p0 : (List S182)) (p1 : (List S182)), C 105 [LL a182 p0, LL a182 p1] = (T105 p0 p1).map (fun l => AV.fr 183 2 (List.map a182 l))) (h106 : ∀ (p0 : (List S28)) (p1 : Int), C 106 [LL a28 p0, I p1] = (T106 p0 p1).map (fun l => AV.fr 183 2 (List.map a182 l))) (h107 : ∀ (p0 : (List S182)) (p1 : (List S182)), C 107 [LL a182 p0, LL a182 p1] = (T107 p0 p1).map B) (p0 : (List S28)) (p1 : (List S28)) (x7 : (List Int)) (z1 : ((List Int) × (List S28) × (List S182) × Int × Int)) : runs Tryz.prog C (cfg.fn 60) (finLoop ((cfg.fn 60).keep 13) ((cfg.fn 60).al 13)) [] (execA Tryz.prog C (cfg.fn 60) (nr Tryz.f60 [false, false, true, false, true, true, true, true, true, true, true, true]) ((fun z1 : ((List Int) × (List S28) × (List S182) × Int × Int) => (mkE [(40, .own 40 0), (0, LL a28 p0), (1, LL a28 p1), (5, .own 40 0), (8, .own 64 0), (9, LL a182 z1.2.2.1), (10, I z1.2.2.2.1), (41, I (lenL x7)), (42, I z1.2.2.2.2)] [(40, RR 3 1 I z1.1 0 false), (64, RR 29 4 a28 z1.2.1 0 false)] 88)) z1)) = (L60_13 p0 p1 x7 z1).map (Sum.elim (fun z => .inl ((fun z1 : ((List Int) × (List S28) × (List S182) × Int × Int) => (mkE [(40, .own 40 0), (0, LL a28 p0), (1, LL a28 p1), (5, .own 40 0), (8, .own 64 0), (9, LL a182 z1.2.2.1), (10, I z1.2.2.2.1), (41, I (lenL x7)), (42, I z1.2.2.2.2)] [(40, RR 3 1 I z1.1 0 false), (64, RR 29 4 a28 z1.2.1 0 false)] 88)) z)) (fun x => .inr ((fun (x : ((List S182) × Int × Int × Bool × (List Int) × (List S28))) => (.exit 2, (mkE [(0, LL a28 p0), (1, LL a28 p1), (5, .own 40 0), (8, .own 64 0), (9, LL a182 x.1), (10, I x.2.1), (40, .own 40 0), (41, I (lenL x7)), (42, I x.2.2.1), (43, B x.2.2.2.1)] [(40, RR 3 1 I x.2.2.2.2.1 0 false), (64, RR 29 4 a28 x.2.2.2.2.2 0 false)] 88))) x))) := by
  unfold L60_13
  let s_0 : List (Nat × AV) := [(0, LL a28 p0), (1, LL a28 p1), (5, .own 40 0), (8, .own 64 0), (9, LL a182 z1.2.2.1), (10, I z1.2.2.2.1)]
  let s_1 : List (Nat × AV) := [(40, .own 40 0), (41, I (lenL x7)), (42, I z1.2.2.2.2)]
  let s_2 : List (Nat × AV) := [(0, LL a28 p0), (1, LL a28 p1), (5, .own 40 0), (8, .own 64 0)]
  let s_3 : List (Nat × AV) := [(62, LL a182 z1.2.2.1), (63, I (lenL z1.2.2.1))]
  let s_4 : List (Nat × AV) := [(40, .own 40 0), (41, I (lenL x7)), (42, I (addI .i64 z1.2.2.2.2 1))]
  let s_5 : List (Nat × AV) := [(51, B (ltI (addI .i64 z1.2.2.2.2 1) (lenL z1.1)))]
  let o_0 : List (Nat × AObj) := [(40, RR 3 1 I z1.1 0 false), (64, RR 29 4 a28 z1.2.1 0 false)]
  refine gS 0 ?_
  refine gR 13 (rg Tryz.f60 13) ?_
  refine se (mkE (s_0.append (s_1.append [(43, B (ltI z1.2.2.2.2 (lenL x7)))])) o_0 88) ?_
  refine pN ?_
  refine pS ?_
  refine gS 14 ?_
  refine gC 43 (ltI z1.2.2.2.2 (lenL x7)) ?_ ?_
  · refine gK ?_
    refine pN ?_
    refine pS ?_
    refine gS 25 ?_
    refine gB 3 ?_
    refine gS 15 ?_
    refine gR 14 (rg Tryz.f60 14) ?_
    refine sg 1 (mkE ((44, I z1.2.2.2.2) :: (s_0.append (s_1.append [(43, B (ltI z1.2.2.2.2 (lenL x7)))]))) o_0 88) ?_
    refine vo 45 (addrOE 22 3 1 40 0 false I .i64 z1.1 z1.2.2.2.2) (fun x8 => ?_)
    refine vo 46 (loadOE 3 40 0 x8 0 3 1 1 false false I (fun q : Int => I q) z1.1) (fun x9 => ?_)
    refine se (mkE (s_0.append ((11, I z1.2.2.2.2) :: ((12, I x9) :: s_1))) o_0 88) ?_
    refine pN ?_
    refine pS ?_
    refine gS 16 ?_
    refine gR 15 (rg Tryz.f60 15) ?_
    refine se (mkE (s_0.append ((11, I z1.2.2.2.2) :: ((12, I x9) :: ((13, .nils) :: s_1)))) o_0 88) ?_
    refine pN ?_
    refine pS ?_
    refine gS 18 ?_
    refine gS 0 ?_
    refine gR 16 (rg Tryz.f60 16) ?_
    refine sg 3 (mkE ((49, .own 40 0) :: ((48, I (addI .i64 z1.2.2.2.2 1)) :: ((47, I z1.2.2.2.2) :: (s_0.append ((11, I z1.2.2.2.2) :: ((12, I x9) :: ((13, .nils) :: s_1))))))) o_0 88) ?_
    refine eo 50 (I (lenL z1.1)) (lenOE 22 3 1 I z1.1) ?_
    refine se (mkE (s_0.append ((12, I x9) :: ((13, .nils) :: (s_1.append s_5)))) o_0 88) ?_
    refine pN ?_
    refine pS ?_
    refine gC 51 (ltI (addI .i64 z1.2.2.2.2 1) (lenL z1.1)) ?_ ?_
    · refine gR 17 (rg Tryz.f60 17) ?_
      refine sg 2 (mkE ((53, I x9) :: ((52, LL a28 p0) :: (s_0.append ((12, I x9) :: ((13, .nils) :: (s_1.append s_5)))))) o_0 88) ?_
      refine co 54 [] (h106 p0 x9) (fun x10 => ?_)
      refine sg 5 (mkE ((56, I x9) :: ((55, LL a28 p1) :: ((54, .own 432 0) :: ((53, I x9) :: ((52, LL a28 p0) :: (s_0.append ((12, I x9) :: ((13, .nils) :: (s_1.append s_5))))))))) ((432, RR 183 2 a182 x10 0 false) :: o_0) 88) ?_
      refine co 57 [] (h106 p1 x9) (fun x11 => ?_)
      refine co 58 [432, 456] (h105 x10 x11) (fun x12 => ?_)
      refine se (mkE (s_0.append ((12, I x9) :: ((13, .own 464 0) :: s_1))) (o_0.append [(464, RR 183 2 a182 x12 0 false)]) 88) ?_
      refine pN ?_
      refine pS ?_
      refine gS 19 ?_
      refine gS 0 ?_
      refine gR 18 (rg Tryz.f60 18) ?_
      refine sg 2 (mkE ((60, .own 464 0) :: ((59, LL a182 z1.2.2.1) :: (s_0.append ((12, I x9) :: ((13, .own 464 0) :: s_1))))) (o_0.append [(464, RR 183 2 a182 x12 0 false)]) 88) ?_
      refine co 61 [464] (h107 z1.2.2.1 x12) (fun x13 => ?_)
      refine se (mkE (s_0.append ((12, I x9) :: ((13, .own 464 0) :: (s_1.append [(61, B x13)])))) (o_0.append [(464, RR 183 2 a182 x12 0 false)]) 88) ?_
      refine pN ?_
      refine pS ?_
      refine gC 61 x13 ?_ ?_
      · refine gX 3 ?_
        refine pF ?_
        refine pO ?_
        refine pH ?_
        refine pN ?_
        refine pS ?_
        refine gR 25 (rg Tryz.f60 25) ?_
        refine se (mkE (s_0.append s_4) o_0 88) ?_
        exact pL
      · refine gK ?_
        refine pN ?_
        refine pS ?_
        refine gS 24 ?_
        refine gS 20 ?_
        refine gR 19 (rg Tryz.f60 19) ?_
        refine sg 1 (mkE ((62, LL a182 z1.2.2.1) :: (s_0.append ((12, I x9) :: ((13, .own 464 0) :: (s_1.append [(61, B x13)]))))) (o_0.append [(464, RR 183 2 a182 x12 0 false)]) 88) ?_
        refine eo 63 (I (lenL z1.2.2.1)) (lenE 178 a182 z1.2.2.1) ?_
        refine se (mkE (s_2.append ((10, I z1.2.2.2.1) :: ((12, I x9) :: ((13, .own 464 0) :: (s_1.append (s_3.append [(64, I 0)])))))) (o_0.append [(464, RR 183 2 a182 x12 0 false)]) 88) ?_
        refine pN ?_
        refine pS ?_
        refine gB 4 ?_
        refine lo [(0, none), (1, none), (5, some (3, 1)), (8, some (29, 4)), (10, none), (12, none), (13, none), (41, none), (42, none), (62, none), (63, none), (64, none)] [(40, 5)] (L60_20 p0 p1 x7 z1 x9 x12) (fun z2 : ((List Int) × (List S28) × Int) => (mkE ((40, .own 40 0) :: (s_2.append ((10, I z1.2.2.2.1) :: ((12, I x9) :: ((13, LL a182 x12) :: ((41, I (lenL x7)) :: ((42, I z1.2.2.2.2) :: (s_3.append [(64, I z2.2.2)])))))))) [(40, RR 3 1 I z2.1 0 false), (64, RR 29 4 a28 z2.2.1 0 false)] 88)) (fun (x : (Int × Bool × (List Int) × (List S28))) => (.exit 4, (mkE (s_2.append ((10, I z1.2.2.2.1) :: ((12, I x9) :: ((13, LL a182 x12) :: (s_1.append (s_3.append ((64, I x.1) :: [(65, B x.2.1)]))))))) [(40, RR 3 1 I x.2.2.1 0 false), (64, RR 29 4 a28 x.2.2.2 0 false)] 88))) (z1.1, z1.2.1, 0) (fun z => L60_20_ok C p0 p1 x7 z1 x9 x12 z) ?_
        intro y16
        refine pH ?_
        refine pN ?_
        refine pS ?_
        refine gR 24 (rg Tryz.f60 24) ?_
        refine se (mkE (s_2.append ((9, LL a182 x12) :: ((10, I x9) :: s_1))) [(40, RR 3 1 I y16.2.2.1 0 false), (64, RR 29 4 a28 y16.2.2.2 0 false)] 88) ?_
        refine pB ?_
        refine pN ?_
        refine pS ?_
        refine gR 25 (rg Tryz.f60 25) ?_
        refine se (mkE (s_2.append ((9, LL a182 x12) :: ((10, I x9) :: s_4))) [(40, RR 3 1 I y16.2.2.1 0 false), (64, RR 29 4 a28 y16.2.2.2 0 false)] 88) ?_
        exact pL
    · refine gK ?_
      refine pN ?_
      refine pS ?_
      refine gS 19 ?_
      refine gS 0 ?_
      refine gR 18 (rg Tryz.f60 18) ?_
      refine sg 2 (mkE ((60, .nils) :: ((59, LL a182 z1.2.2.1) :: (s_0.append ((12, I x9) :: ((13, .nils) :: (s_1.append s_5)))))) o_0 88) ?_
      refine co 61 [] (h107 z1.2.2.1 []) (fun x17 => ?_)
      refine se (mkE (s_0.append ((12, I x9) :: ((13, .nils) :: (s_1.append [(61, B x17)])))) o_0 88) ?_
      refine pN ?_
      refine pS ?_
      refine gC 61 x17 ?_ ?_
      · refine gX 3 ?_
        refine pF ?_
        refine pO ?_
        refine pH ?_
        refine pN ?_
        refine pS ?_
        refine gR 25 (rg Tryz.f60 25) ?_
        refine se (mkE (s_0.append s_4) o_0 88) ?_
        exact pL
      · refine gK ?_
        refine pN ?_
        refine pS ?_
        refine gS 24 ?_
        refine gS 20 ?_
        refine gR 19 (rg Tryz.f60 19) ?_
        refine sg 1 (mkE ((62, LL a182 z1.2.2.1) :: (s_0.append ((12, I x9) :: ((13, .nils) :: (s_1.append [(61, B x17)]))))) o_0 88) ?_
        refine eo 63 (I (lenL z1.2.2.1)) (lenE 178 a182 z1.2.2.1) ?_
        refine se (mkE (s_2.append ((10, I z1.2.2.2.1) :: ((12, I x9) :: ((13, .nils) :: (s_1.append (s_3.append [(64, I 0)])))))) o_0 88) ?_
        refine pN ?_
        refine pS ?_
        refine gB 4 ?_
        refine lo [(0, none), (1, none), (5, some (3, 1)), (8, some (29, 4)), (10, none), (12, none), (13, none), (41, none), (42, none), (62, none), (63, none), (64, none)] [(40, 5)] (L60_20_v1 p0 p1 x7 z1 x9) (fun z2 : ((List Int) × (List S28) × Int) => (mkE ((40, .own 40 0) :: (s_2.append ((10, I z1.2.2.2.1) :: ((12, I x9) :: ((13, LL a182 ([] : List S182)) :: ((41, I (lenL x7)) :: ((42, I z1.2.2.2.2) :: (s_3.append [(64, I z2.2.2)])))))))) [(40, RR 3 1 I z2.1 0 false), (64, RR 29 4 a28 z2.2.1 0 false)] 88)) (fun (x : (Int × Bool × (List Int) × (List S28))) => (.exit 4, (mkE (s_2.append ((10, I z1.2.2.2.1) :: ((12, I x9) :: ((13, LL a182 ([] : List S182)) :: (s_1.append (s_3.append ((64, I x.1) :: [(65, B x.2.1)]))))))) [(40, RR 3 1 I x.2.2.1 0 false), (64, RR 29 4 a28 x.2.2.2 0 false)] 88))) (z1.1, z1.2.1, 0) (fun z => L60_20_v1_ok C p0 p1 x7 z1 x9 z) ?_
        intro y20
        refine pH ?_
        refine pN ?_
        refine pS ?_
        refine gR 24 (rg Tryz.f60 24) ?_
        refine se (mkE (s_2.append ((9, LL a182 ([] : List S182)) :: ((10, I x9) :: s_1))) [(40, RR 3 1 I y20.2.2.1 0 false), (64, RR 29 4 a28 y20.2.2.2 0 false)] 88) ?_
        refine pB ?_
        refine pN ?_
        refine pS ?_
        refine gR 25 (rg Tryz.f60 25) ?_
        refine se (mkE (s_2.append ((9, LL a182 ([] : List S182)) :: ((10, I x9) :: s_4))) [(40, RR 3 1 I y20.2.2.1 0 false), (64, RR 29 4 a28 y20.2.2.2 0 false)] 88) ?_
        exact pL
  · refine gX 2 ?_
    exact pL
noncomputable def T60 (p0 : (List S28)) (p1 : (List S28)) : Option (List S28) := ((T21 ([p0, p1] : List (List S28))).bind fun x1 => ((iter (L60_3 p0 p1 x1) ([], x1, 0)).bind fun y5 => ((sortIO y5.2.2.1).bind fun x6 => ((compIO x6).bind fun x7 => ((iter (L60_13 p0 p1 x7) (x7, [], ([] : List S182), 0, 0)).bind fun y21 => (some y21.2.2.2.2.2))))))
theorem B60 (C : Callee) (h103 : ∀ (p0 : (List Int)), C 103 [.fr 3 1 (List.map I p0)] = (sortIO p0).map (fun (r : (List Int)) => AV.inp (.tup []) (.fr 3 1 (List.map I r)))) (h104 : ∀ (p0 : (List Int)), C 104 [.fr 3 1 (List.map I p0)] = (compIO p0).map (fun l => AV.fr 3 1 (List.map I l))) (h105 : ∀ (p0 : (List S182)) (p1 : (List S182)), C 105 [LL a182 p0, LL a182 p1] = (T105 p0 p1).map (fun l => AV.fr 183 2 (List.map a182 l))) (h106 : ∀ (p0 : (List S28)) (p1 : Int), C 106 [LL a28 p0, I p1] = (T106 p0 p1).map (fun l => AV.fr 183 2 (List.map a182 l))) (h107 : ∀ (p0 : (List S182)) (p1 : (List S182)), C 107 [LL a182 p0, LL a182 p1] = (T107 p0 p1).map B) (h21 : ∀ (p0 : (List (List S28))), C 21 [LL (LL a28) p0] = (T21 p0).map (fun l => AV.fr 29 4 (List.map a28 l))) (p0 : (List S28)) (p1 : (List S28)) : runs Tryz.prog C (cfg.fn 60) (finFn Tryz.prog (cfg.fn 60).byval Tryz.f60) [] (execA Tryz.prog C (cfg.fn 60) (nr Tryz.f60 []) (frame0 [LL a28 p0, LL a28 p1] 88 false)) = (T60 p0 p1).map (fun l => AV.fr 29 4 (List.map a28 l)) := by
  unfold T60
  let s_0 : List (Nat × AV) := [(0, LL a28 p0), (1, LL a28 p1)]
  refine gS 1 ?_
  refine gR 0 (rg Tryz.f60 0) ?_
  refine se (mkE s_0 [] 88) ?_
  refine pN ?_
  refine pS ?_
  refine gS 2 ?_
  refine gR 1 (rg Tryz.f60 1) ?_
  refine se (mkE (s_0.append [(5, .nils)]) [] 88) ?_
  refine pN ?_
  refine pS ?_
  refine gS 7 ?_
  refine gS 3 ?_
  refine gR 2 (rg Tryz.f60 2) ?_
  refine sg 3 (mkE ((18, .own 144 0) :: ((17, LL a28 p1) :: ((16, LL a28 p0) :: (s_0.append [(5, .nils)])))) [(144, RR 26 1 (LL a28) ([p0, p1] : List (List S28)) 0 false)] 88) ?_
  refine co 19 [144] (h21 ([p0, p1] : List (List S28))) (fun x1 => ?_)
  refine eo 20 (I (lenL x1)) (lenOE 26 29 4 a28 x1) ?_
  refine se (mkE (s_0.append ((5, .nils) :: ((19, .own 152 0) :: ((20, I (lenL x1)) :: [(21, I 0)])))) [(152, RR 29 4 a28 x1 0 false)] 88) ?_
  refine pN ?_
  refine pS ?_
  refine gB 0 ?_
  refine lo [(0, none), (1, none), (5, some (3, 1)), (19, some (29, 4)), (20, none), (21, none)] [] (L60_3 p0 p1 x1) (fun z0 : ((List Int) × (List S28) × Int) => (mkE (s_0.append ((5, .own 40 0) :: ((19, .own 152 0) :: ((20, I (lenL x1)) :: [(21, I z0.2.2)])))) [(40, RR 3 1 I z0.1 0 false), (152, RR 29 4 a28 z0.2.1 0 false)] 88)) (fun (x : (Int × Bool × (List Int) × (List S28))) => (.exit 0, (mkE (s_0.append ((5, .own 40 0) :: ((19, .own 152 0) :: ((20, I (lenL x1)) :: ((21, I x.1) :: [(22, B x.2.1)]))))) [(40, RR 3 1 I x.2.2.1 0 false), (152, RR 29 4 a28 x.2.2.2 0 false)] 88))) ([], x1, 0) (fun z => L60_3_ok C p0 p1 x1 z) ?_
  intro y5
  refine pH ?_
  refine pN ?_
  refine pS ?_
  refine gS 8 ?_
  refine gR 7 (rg Tryz.f60 7) ?_
  refine sg 1 (mkE ((36, .own 40 0) :: (s_0.append ((5, .own 40 0) :: ((19, .own 152 0) :: ((20, I (lenL x1)) :: ((21, I y5.1) :: [(22, B y5.2.1)])))))) [(40, RR 3 1 I y5.2.2.1 0 false), (152, RR 29 4 a28 y5.2.2.2 0 false)] 88) ?_
  refine mo (some 37) (ipR 103 3 1 40 0 I y5.2.2.1 [] [] [] (fun x : (List Int) => .tup []) (fun x : (List Int) => x) (h103 y5.2.2.1)) (fun x6 => ?_)
  refine se (mkE (s_0.append [(5, .own 40 0)]) [(40, RR 3 1 I x6 0 false)] 88) ?_
  refine pN ?_
  refine pS ?_
  refine gS 9 ?_
  refine gR 8 (rg Tryz.f60 8) ?_
  refine sg 1 (mkE ((38, .own 40 0) :: (s_0.append [(5, .own 40 0)])) [(40, RR 3 1 I x6 0 false)] 88) ?_
  refine mo (some 39) (gvO 104 3 1 40 0 I x6 [] [] [] (h104 x6)) (fun x7 => ?_)
  refine se (mkE (s_0.append [(5, .own 40 1)]) [(40, RR 3 1 I x7 1 false)] 88) ?_
  refine pN ?_
  refine pS ?_
  refine gS 10 ?_
  refine gR 9 (rg Tryz.f60 9) ?_
  refine se (mkE (s_0.append ((5, .own 40 1) :: [(8, .nils)])) [(40, RR 3 1 I x7 1 false)] 88) ?_
  refine pN ?_
  refine pS ?_
  refine gS 11 ?_
  refine gR 10 (rg Tryz.f60 10) ?_
  refine se (mkE (s_0.append ((5, .own 40 1) :: ((8, .nils) :: [(9, .nils)]))) [(40, RR 3 1 I x7 1 false)] 88) ?_
  refine pN ?_
  refine pS ?_
  refine gS 12 ?_
  refine gR 11 (rg Tryz.f60 11) ?_
  refine se (mkE (s_0.append ((5, .own 40 1) :: ((8, .nils) :: ((9, .nils) :: [(10, I 0)])))) [(40, RR 3 1 I x7 1 false)] 88) ?_
  refine pN ?_
  refine pS ?_
  refine gS 26 ?_
  refine gS 13 ?_
  refine gR 12 (rg Tryz.f60 12) ?_
  refine sg 1 (mkE ((40, .own 40 1) :: (s_0.append ((5, .own 40 1) :: ((8, .nils) :: ((9, .nils) :: [(10, I 0)]))))) [(40, RR 3 1 I x7 1 false)] 88) ?_
  refine eo 41 (I (lenL x7)) (lenOE 22 3 1 I x7) ?_
  refine se (mkE (s_0.append ((5, .own 40 1) :: ((8, .nils) :: ((9, .nils) :: ((10, I 0) :: ((40, .own 40 1) :: ((41, I (lenL x7)) :: [(42, I 0)]))))))) [(40, RR 3 1 I x7 1 false)] 88) ?_
  refine pN ?_
  refine pS ?_
  refine gB 2 ?_
  refine lo [(0, none), (1, none), (5, some (3, 1)), (8, some (29, 4)), (9, none), (10, none), (41, none), (42, none)] [(40, 5)] (L60_13 p0 p1 x7) (fun z1 : ((List Int) × (List S28) × (List S182) × Int × Int) => (mkE ((40, .own 40 0) :: (s_0.append ((5, .own 40 0) :: ((8, .own 64 0) :: ((9, LL a182 z1.2.2.1) :: ((10, I z1.2.2.2.1) :: ((41, I (lenL x7)) :: [(42, I z1.2.2.2.2)]))))))) [(40, RR 3 1 I z1.1 0 false), (64, RR 29 4 a28 z1.2.1 0 false)] 88)) (fun (x : ((List S182) × Int × Int × Bool × (List Int) × (List S28))) => (.exit 2, (mkE (s_0.append ((5, .own 40 0) :: ((8, .own 64 0) :: ((9, LL a182 x.1) :: ((10, I x.2.1) :: ((40, .own 40 0) :: ((41, I (lenL x7)) :: ((42, I x.2.2.1) :: [(43, B x.2.2.2.1)])))))))) [(40, RR 3 1 I x.2.2.2.2.1 0 false), (64, RR 29 4 a28 x.2.2.2.2.2 0 false)] 88))) (x7, [], ([] : List S182), 0, 0) (fun z => L60_13_ok C h105 h106 h107 p0 p1 x7 z) ?_
  intro y21
  refine pH ?_
  refine pN ?_
  refine pS ?_
  refine gS 0 ?_
  refine gR 26 (rg Tryz.f60 26) ?_
  refine se (mkE [(4, .own 64 0)] [(64, RR 29 4 a28 y21.2.2.2.2.2 0 false)] 88) ?_
  refine pN ?_
  refine pS ?_
  refine gE ?_
  exact pL
theorem F60 (m : Nat) (hm : 4 ≤ m) (p0 : (List S28)) (p1 : (List S28)) : callA Tryz.prog cfg m 60 [LL a28 p0, LL a28 p1] = (T60 p0 p1).map (fun l => AV.fr 29 4 (List.map a28 l)) := by
  obtain ⟨q, rfl⟩ : ∃ q, m = q + 1 := ⟨m - 1, by omega⟩
  exact (callA_body (fn := Tryz.f60) (c := body_ Tryz.f60) q _ (by kernel_rfl) (by kernel_rfl) (by kernel_rfl)).trans (B60 _ (fun p0 => F103 q (by omega) p0) (fun p0 => F104 q (by omega) p0) (fun p0 p1 => F105 q (by omega) p0 p1) (fun p0 p1 => F106 q (by omega) p0 p1) (fun p0 p1 => F107 q (by omega) p0 p1) (fun p0 => F21 q (by omega) p0) p0 p1)

noncomputable def L61_3 (p0 : (List S28)) (z0 : (Int × Int)) : Option ((Int × Int) ⊕ (Int × Int × Bool)) := (bif (ltI z0.2 (lenL p0)) then ((listAt p0 z0.2).bind fun x1 => (some (.inl ((addI .i64 z0.1 (mulI .i64 x1.f2 x1.f3)), (addI .i64 z0.2 1))))) else (some (.inr (z0.1, z0.2, (ltI z0.2 (lenL p0))))))
theorem L61_3_ok (C : Callee) (p0 : (List S28)) (z0 : (Int × Int)) : runs Tryz.prog C (cfg.fn 61) (finLoop ((cfg.fn 61).keep 3) ((cfg.fn 61).al 3)) [] (execA Tryz.prog C (cfg.fn 61) (nr Tryz.f61 [false, false, true, false, true, true]) ((fun z0 : (Int × Int) => (mkE [(3, I z0.1), (6, LL a28 p0), (7, I (lenL p0)), (8, I z0.2)] [] 21)) z0)) = (L61_3 p0 z0).map (Sum.elim (fun z => .inl ((fun z0 : (Int × Int) => (mkE [(3, I z0.1), (6, LL a28 p0), (7, I (lenL p0)), (8, I z0.2)] [] 21)) z)) (fun x => .inr ((fun (x : (Int × Int × Bool)) => (.exit 0, (mkE [(3, I x.1), (6, LL a28 p0), (7, I (lenL p0)), (8, I x.2.1), (9, B x.2.2)] [] 21))) x))) := by
  unfold L61_3
  refine gS 0 ?_
  refine gR 3 (rg Tryz.f61 3) ?_
  refine se (mkE [(3, I z0.1), (6, LL a28 p0), (7, I (lenL p0)), (8, I z0.2), (9, B (ltI z0.2 (lenL p0)))] [] 21) ?_
  refine pN ?_
  refine pS ?_
  refine gS 4 ?_
  refine gC 9 (ltI z0.2 (lenL p0)) ?_ ?_
  · refine gK ?_
    refine pN ?_
    refine pS ?_
    refine gS 6 ?_
    refine gB 1 ?_
    refine gS 5 ?_
    refine gR 4 (rg Tryz.f61 4) ?_
    refine vo 10 (addrE 26 29 4 a28 .i64 p0 z0.2) (fun x1 => ?_)
    refine se (mkE [(3, I z0.1), (5, .ba 40 0), (6, LL a28 p0), (7, I (lenL p0)), (8, I z0.2)] [(40, .box [I x1.f0, I x1.f1, I x1.f2, I x1.f3] false)] 21) ?_
    refine pN ?_
    refine pS ?_
    refine gR 5 (rg Tryz.f61 5) ?_
    refine se (mkE [(3, I (addI .i64 z0.1 (mulI .i64 x1.f2 x1.f3))), (6, LL a28 p0), (7, I (lenL p0)), (8, I z0.2)] [] 21) ?_
    refine pB ?_
    refine pN ?_
    refine pS ?_
    refine gR 6 (rg Tryz.f61 6) ?_
    refine se (mkE [(3, I (addI .i64 z0.1 (mulI .i64 x1.f2 x1.f3))), (6, LL a28 p0), (7, I (lenL p0)), (8, I (addI .i64 z0.2 1))] [] 21) ?_
    exact pL
  · refine gX 0 ?_
    exact pL
noncomputable def T61 (p0 : (List S28)) : Option Int := ((iter (L61_3 p0) (0, 0)).bind fun y2 => (some y2.1))
theorem B61 (C : Callee) (p0 : (List S28)) : runs Tryz.prog C (cfg.fn 61) (finFn Tryz.prog (cfg.fn 61).byval Tryz.f61) [] (execA Tryz.prog C (cfg.fn 61) (nr Tryz.f61 []) (frame0 [LL a28 p0] 21 false)) = (T61 p0).map I := by
  unfold T61
  refine gS 1 ?_
  refine gR 0 (rg Tryz.f61 0) ?_
  refine se (mkE [(0, LL a28 p0)] [] 21) ?_
  refine pN ?_
  refine pS ?_
  refine gS 2 ?_
  refine gR 1 (rg Tryz.f61 1) ?_
  refine se (mkE [(0, LL a28 p0), (3, I 0)] [] 21) ?_
  refine pN ?_
  refine pS ?_
  refine gS 7 ?_
  refine gS 3 ?_
  refine gR 2 (rg Tryz.f61 2) ?_
  refine sg 1 (mkE [(6, LL a28 p0), (0, LL a28 p0), (3, I 0)] [] 21) ?_
  refine eo 7 (I (lenL p0)) (lenE 26 a28 p0) ?_
  refine se (mkE [(3, I 0), (6, LL a28 p0), (7, I (lenL p0)), (8, I 0)] [] 21) ?_
  refine pN ?_
  refine pS ?_
  refine gB 0 ?_
  refine lo [(3, none), (6, none), (7, none), (8, none)] [] (L61_3 p0) (fun z0 : (Int × Int) => (mkE [(3, I z0.1), (6, LL a28 p0), (7, I (lenL p0)), (8, I z0.2)] [] 21)) (fun (x : (Int × Int × Bool)) => (.exit 0, (mkE [(3, I x.1), (6, LL a28 p0), (7, I (lenL p0)), (8, I x.2.1), (9, B x.2.2)] [] 21))) (0, 0) (fun z => L61_3_ok C p0 z) ?_
  intro y2
  refine pH ?_
  refine pN ?_
  refine pS ?_
  refine gS 0 ?_
  refine gR 7 (rg Tryz.f61 7) ?_
  refine se (mkE [(2, I y2.1)] [] 21) ?_
  refine pN ?_
  refine pS ?_
  refine gE ?_
  exact pL
theorem F61 (m : Nat) (hm : 1 ≤ m) (p0 : (List S28)) : callA Tryz.prog cfg m 61 [LL a28 p0] = (T61 p0).map I := by
  obtain ⟨q, rfl⟩ : ∃ q, m = q + 1 := ⟨m - 1, by omega⟩
  exact (callA_body (fn := Tryz.f61) (c := body_ Tryz.f61) q _ (by kernel_rfl) (by kernel_rfl) (by kernel_rfl)).trans (B61 _ p0)

noncomputable def T20 (p0 : (List S28)) : Option (Int × Int) := ((T58 p0).bind fun x1 => (bif (neI x1 0) then (some (0, x1)) else ((T60 p0 []).bind fun x2 => ((T61 x2).bind fun x3 => (some (x3, 0))))))
theorem B20 (C : Callee) (h58 : ∀ (p0 : (List S28)), C 58 [LL a28 p0] = (T58 p0).map I) (h60 : ∀ (p0 : (List S28)) (p1 : (List S28)), C 60 [LL a28 p0, LL a28 p1] = (T60 p0 p1).map (fun l => AV.fr 29 4 (List.map a28 l))) (h61 : ∀ (p0 : (List S28)), C 61 [LL a28 p0] = (T61 p0).map I) (p0 : (List S28)) : runs Tryz.prog C (cfg.fn 20) (finFn Tryz.prog (cfg.fn 20).byval Tryz.f20) [] (execA Tryz.prog C (cfg.fn 20) (nr Tryz.f20 []) (frame0 [LL a28 p0] 13 false)) = (T20 p0).map (fun r => AV.tup [I r.1, I r.2]) := by
  unfold T20
  refine gS 1 ?_
  refine gR 0 (rg Tryz.f20 0) ?_
  refine se (mkE [(0, LL a28 p0)] [] 13) ?_
  refine pN ?_
  refine pS ?_
  refine gS 4 ?_
  refine gS 2 ?_
  refine gR 1 (rg Tryz.f20 1) ?_
  refine sg 1 (mkE [(5, LL a28 p0), (0, LL a28 p0)] [] 13) ?_
  refine co 6 [] (h58 p0) (fun x1 => ?_)
  refine se (mkE [(0, LL a28 p0), (4, I x1)] [] 13) ?_
  refine pN ?_
  refine pS ?_
  refine gS 0 ?_
  refine gR 2 (rg Tryz.f20 2) ?_
  refine se (mkE [(0, LL a28 p0), (4, I x1), (8, B (neI x1 0))] [] 13) ?_
  refine pN ?_
  refine pS ?_
  refine gC 8 (neI x1 0) ?_ ?_
  · refine gS 0 ?_
    refine gR 3 (rg Tryz.f20 3) ?_
    refine se (mkE [(2, I 0), (3, I x1)] [] 13) ?_
    refine pN ?_
    refine pS ?_
    refine gE ?_
    exact pL
  · refine gK ?_
    refine pN ?_
    refine pS ?_
    refine gS 0 ?_
    refine gR 4 (rg Tryz.f20 4) ?_
    refine sg 1 (mkE [(10, LL a28 p0), (0, LL a28 p0), (4, I x1), (8, B (neI x1 0))] [] 13) ?_
    refine co 11 [] (h60 p0 []) (fun x2 => ?_)
    refine co 12 [88] (h61 x2) (fun x3 => ?_)
    refine se (mkE [(2, I x3), (3, I 0)] [] 13) ?_
    refine pN ?_
    refine pS ?_
    refine gE ?_
    exact pL
theorem F20 (m : Nat) (hm : 5 ≤ m) (p0 : (List S28)) : callA Tryz.prog cfg m 20 [LL a28 p0] = (T20 p0).map (fun r => AV.tup [I r.1, I r.2]) := by
  obtain ⟨q, rfl⟩ : ∃ q, m = q + 1 := ⟨m - 1, by omega⟩
  exact (callA_body (fn := Tryz.f20) (c := body_ Tryz.f20) q _ (by kernel_rfl) (by kernel_rfl) (by kernel_rfl)).trans (B20 _ (fun p0 => F58 q (by omega) p0) (fun p0 p1 => F60 q (by omega) p0 p1) (fun p0 => F61 q (by omega) p0) p0)

noncomputable def L97_2 (p0 : ByteArray) (z0 : Int) : Option (Int ⊕ ((Int × Bool) ⊕ Unit)) := (bif (ltI z0 (lenS p0)) then ((byteAt p0 z0).bind fun x1 => (bif (leI 97 x1) then (bif (leI x1 122) then (some (.inl (addI .i64 z0 1))) else (bif (ltI 0 z0) then (bif (leI 48 x1) then (bif (leI x1 57) then (some (.inl (addI .i64 z0 1))) else (bif (eqI x1 45) then (some (.inl (addI .i64 z0 1))) else (bif (!(eqI x1 95)) then (some (.inr (.inr ()))) else (some (.inl (addI .i64 z0 1)))))) else (bif (eqI x1 45) then (some (.inl (addI .i64 z0 1))) else (bif (!(eqI x1 95)) then (some (.inr (.inr ()))) else (some (.inl (addI .i64 z0 1)))))) else (some (.inr (.inr ()))))) else (bif (ltI 0 z0) then (bif (leI 48 x1) then (bif (leI x1 57) then (some (.inl (addI .i64 z0 1))) else (bif (eqI x1 45) then (some (.inl (addI .i64 z0 1))) else (bif (!(eqI x1 95)) then (some (.inr (.inr ()))) else (some (.inl (addI .i64 z0 1)))))) else (bif (eqI x1 45) then (some (.inl (addI .i64 z0 1))) else (bif (!(eqI x1 95)) then (some (.inr (.inr ()))) else (some (.inl (addI .i64 z0 1)))))) else (some (.inr (.inr ())))))) else (some (.inr (.inl (z0, (ltI z0 (lenS p0)))))))
theorem L97_2_ok (C : Callee) (p0 : ByteArray) (z0 : Int) : runs Tryz.prog C (cfg.fn 97) (finLoop ((cfg.fn 97).keep 2) ((cfg.fn 97).al 2)) [] (execA Tryz.prog C (cfg.fn 97) (nr Tryz.f97 [false, false, true, false, true]) ((fun z0 : Int => (mkE [(0, S p0), (3, I z0)] [] 48)) z0)) = (L97_2 p0 z0).map (Sum.elim (fun z => .inl ((fun z0 : Int => (mkE [(0, S p0), (3, I z0)] [] 48)) z)) (fun x => .inr ((Sum.elim (fun (x : (Int × Bool)) => (.exit 0, (mkE [(0, S p0), (3, I x.1), (8, B x.2)] [] 48))) (fun (x : Unit) => (.ret, (mkE [(2, B false)] [] 48)))) x))) := by
  unfold L97_2
  let s_0 : List (Nat × AV) := [(23, B (ltI 0 z0)), (22, B (ltI 0 z0)), (21, I z0), (20, B false)]
  let s_1 : List (Nat × AV) := [(0, S p0), (3, I z0)]
  let s_2 : List (Nat × AV) := [(0, S p0), (3, I (addI .i64 z0 1))]
  let s_3 : List (Nat × AV) := [(19, B false), (18, .und), (17, .und), (16, B false)]
  refine gS 4 ?_
  refine gS 0 ?_
  refine gR 2 (rg Tryz.f97 2) ?_
  refine se (mkE (s_1.append [(8, B (ltI z0 (lenS p0)))]) [] 48) ?_
  refine pN ?_
  refine pS ?_
  refine gC 8 (ltI z0 (lenS p0)) ?_ ?_
  · refine gK ?_
    refine pN ?_
    refine pS ?_
    refine gS 3 ?_
    refine gB 1 ?_
    refine gS 5 ?_
    refine gR 4 (rg Tryz.f97 4) ?_
    refine sg 2 (mkE ((12, I z0) :: ((11, S p0) :: (s_1.append [(8, B (ltI z0 (lenS p0)))]))) [] 48) ?_
    refine vo 13 (byteE 9 .i64 p0 z0) (fun x1 => ?_)
    refine se (mkE (s_1.append [(4, U x1)]) [] 48) ?_
    refine pN ?_
    refine pS ?_
    refine gS 0 ?_
    refine gR 5 (rg Tryz.f97 5) ?_
    refine sg 3 (mkE ((16, B (leI 97 x1)) :: ((15, B (leI 97 x1)) :: ((14, U x1) :: (s_1.append [(4, U x1)])))) [] 48) ?_
    refine sb 16 (leI 97 x1) ?_ ?_
    · refine sg 7 (mkE ((20, B (leI x1 122)) :: ((19, B (leI x1 122)) :: ((18, B (leI x1 122)) :: ((17, U x1) :: ((16, B true) :: ((16, B (leI 97 x1)) :: ((15, B (leI 97 x1)) :: ((14, U x1) :: (s_1.append [(4, U x1)]))))))))) [] 48) ?_
      refine sb 20 (leI x1 122) ?_ ?_
      · refine se (mkE (s_1.append [(40, B false)]) [] 48) ?_
        refine pN ?_
        refine pS ?_
        refine gF (.tmp 40) ?_
        refine gK ?_
        refine pB ?_
        refine pN ?_
        refine pS ?_
        refine gR 3 (rg Tryz.f97 3) ?_
        refine se (mkE s_2 [] 48) ?_
        exact pL
      · refine sg 10 (mkE (s_0.append ((20, B (leI x1 122)) :: ((19, B (leI x1 122)) :: ((18, B (leI x1 122)) :: ((17, U x1) :: ((16, B true) :: ((16, B (leI 97 x1)) :: ((15, B (leI 97 x1)) :: ((14, U x1) :: (s_1.append [(4, U x1)])))))))))) [] 48) ?_
        refine sb 23 (ltI 0 z0) ?_ ?_
        · refine sg 13 (mkE ((26, B (leI 48 x1)) :: ((25, B (leI 48 x1)) :: ((24, U x1) :: ((23, B true) :: (s_0.append ((20, B (leI x1 122)) :: ((19, B (leI x1 122)) :: ((18, B (leI x1 122)) :: ((17, U x1) :: ((16, B true) :: ((16, B (leI 97 x1)) :: ((15, B (leI 97 x1)) :: ((14, U x1) :: (s_1.append [(4, U x1)])))))))))))))) [] 48) ?_
          refine sb 26 (leI 48 x1) ?_ ?_
          · refine sg 17 (mkE ((30, B (leI x1 57)) :: ((29, B (leI x1 57)) :: ((28, B (leI x1 57)) :: ((27, U x1) :: ((26, B true) :: ((26, B (leI 48 x1)) :: ((25, B (leI 48 x1)) :: ((24, U x1) :: ((23, B true) :: (s_0.append ((20, B (leI x1 122)) :: ((19, B (leI x1 122)) :: ((18, B (leI x1 122)) :: ((17, U x1) :: ((16, B true) :: ((16, B (leI 97 x1)) :: ((15, B (leI 97 x1)) :: ((14, U x1) :: (s_1.append [(4, U x1)]))))))))))))))))))) [] 48) ?_
            refine sb 30 (leI x1 57) ?_ ?_
            · refine se (mkE (s_1.append [(40, B false)]) [] 48) ?_
              refine pN ?_
              refine pS ?_
              refine gF (.tmp 40) ?_
              refine gK ?_
              refine pB ?_
              refine pN ?_
              refine pS ?_
              refine gR 3 (rg Tryz.f97 3) ?_
              refine se (mkE s_2 [] 48) ?_
              exact pL
            · refine sg 21 (mkE ((34, B (eqI x1 45)) :: ((33, B (eqI x1 45)) :: ((32, B (eqI x1 45)) :: ((31, U x1) :: ((30, B false) :: ((30, B (leI x1 57)) :: ((29, B (leI x1 57)) :: ((28, B (leI x1 57)) :: ((27, U x1) :: ((26, B true) :: ((26, B (leI 48 x1)) :: ((25, B (leI 48 x1)) :: ((24, U x1) :: ((23, B true) :: (s_0.append ((20, B (leI x1 122)) :: ((19, B (leI x1 122)) :: ((18, B (leI x1 122)) :: ((17, U x1) :: ((16, B true) :: ((16, B (leI 97 x1)) :: ((15, B (leI 97 x1)) :: ((14, U x1) :: (s_1.append [(4, U x1)])))))))))))))))))))))))) [] 48) ?_
              refine sb 34 (eqI x1 45) ?_ ?_
              · refine se (mkE (s_1.append [(40, B false)]) [] 48) ?_
                refine pN ?_
                refine pS ?_
                refine gF (.tmp 40) ?_
                refine gK ?_
                refine pB ?_
                refine pN ?_
                refine pS ?_
                refine gR 3 (rg Tryz.f97 3) ?_
                refine se (mkE s_2 [] 48) ?_
                exact pL
              · refine se (mkE (s_1.append [(40, B (!(eqI x1 95)))]) [] 48) ?_
                refine pN ?_
                refine pS ?_
                refine gC 40 (!(eqI x1 95)) ?_ ?_
                · refine gS 0 ?_
                  refine gR 6 (rg Tryz.f97 6) ?_
                  refine se (mkE [(2, B false)] [] 48) ?_
                  refine pN ?_
                  refine pS ?_
                  refine gE ?_
                  exact pL
                · refine gK ?_
                  refine pB ?_
                  refine pN ?_
                  refine pS ?_
                  refine gR 3 (rg Tryz.f97 3) ?_
                  refine se (mkE s_2 [] 48) ?_
                  exact pL
          · refine sg 21 (mkE ((34, B (eqI x1 45)) :: ((33, B (eqI x1 45)) :: ((32, B (eqI x1 45)) :: ((31, U x1) :: ((30, B false) :: ((29, B false) :: ((28, .und) :: ((27, .und) :: ((26, B false) :: ((26, B (leI 48 x1)) :: ((25, B (leI 48 x1)) :: ((24, U x1) :: ((23, B true) :: (s_0.append ((20, B (leI x1 122)) :: ((19, B (leI x1 122)) :: ((18, B (leI x1 122)) :: ((17, U x1) :: ((16, B true) :: ((16, B (leI 97 x1)) :: ((15, B (leI 97 x1)) :: ((14, U x1) :: (s_1.append [(4, U x1)]))))))))))))))))))))))) [] 48) ?_
            refine sb 34 (eqI x1 45) ?_ ?_
            · refine se (mkE (s_1.append [(40, B false)]) [] 48) ?_
              refine pN ?_
              refine pS ?_
              refine gF (.tmp 40) ?_
              refine gK ?_
              refine pB ?_
              refine pN ?_
              refine pS ?_
              refine gR 3 (rg Tryz.f97 3) ?_
              refine se (mkE s_2 [] 48) ?_
              exact pL
            · refine se (mkE (s_1.append [(40, B (!(eqI x1 95)))]) [] 48) ?_
              refine pN ?_
              refine pS ?_
              refine gC 40 (!(eqI x1 95)) ?_ ?_
              · refine gS 0 ?_
                refine gR 6 (rg Tryz.f97 6) ?_
                refine se (mkE [(2, B false)] [] 48) ?_
                refine pN ?_
                refine pS ?_
                refine gE ?_
                exact pL
              · refine gK ?_
                refine pB ?_
                refine pN ?_
                refine pS ?_
                refine gR 3 (rg Tryz.f97 3) ?_
                refine se (mkE s_2 [] 48) ?_
                exact pL
        · refine se (mkE (s_1.append [(40, B true)]) [] 48) ?_
          refine pN ?_
          refine pS ?_
          refine gT (.tmp 40) ?_
          refine gS 0 ?_
          refine gR 6 (rg Tryz.f97 6) ?_
          refine se (mkE [(2, B false)] [] 48) ?_
          refine pN ?_
          refine pS ?_
          refine gE ?_
          exact pL
    · refine sg 10 (mkE (s_0.append (s_3.append ((16, B (leI 97 x1)) :: ((15, B (leI 97 x1)) :: ((14, U x1) :: (s_1.append [(4, U x1)])))))) [] 48) ?_
      refine sb 23 (ltI 0 z0) ?_ ?_
      · refine sg 13 (mkE ((26, B (leI 48 x1)) :: ((25, B (leI 48 x1)) :: ((24, U x1) :: ((23, B true) :: (s_0.append (s_3.append ((16, B (leI 97 x1)) :: ((15, B (leI 97 x1)) :: ((14, U x1) :: (s_1.append [(4, U x1)])))))))))) [] 48) ?_
        refine sb 26 (leI 48 x1) ?_ ?_
        · refine sg 17 (mkE ((30, B (leI x1 57)) :: ((29, B (leI x1 57)) :: ((28, B (leI x1 57)) :: ((27, U x1) :: ((26, B true) :: ((26, B (leI 48 x1)) :: ((25, B (leI 48 x1)) :: ((24, U x1) :: ((23, B true) :: (s_0.append (s_3.append ((16, B (leI 97 x1)) :: ((15, B (leI 97 x1)) :: ((14, U x1) :: (s_1.append [(4, U x1)]))))))))))))))) [] 48) ?_
          refine sb 30 (leI x1 57) ?_ ?_
          · refine se (mkE (s_1.append [(40, B false)]) [] 48) ?_
            refine pN ?_
            refine pS ?_
            refine gF (.tmp 40) ?_
            refine gK ?_
            refine pB ?_
            refine pN ?_
            refine pS ?_
            refine gR 3 (rg Tryz.f97 3) ?_
            refine se (mkE s_2 [] 48) ?_
            exact pL
          · refine sg 21 (mkE ((34, B (eqI x1 45)) :: ((33, B (eqI x1 45)) :: ((32, B (eqI x1 45)) :: ((31, U x1) :: ((30, B false) :: ((30, B (leI x1 57)) :: ((29, B (leI x1 57)) :: ((28, B (leI x1 57)) :: ((27, U x1) :: ((26, B true) :: ((26, B (leI 48 x1)) :: ((25, B (leI 48 x1)) :: ((24, U x1) :: ((23, B true) :: (s_0.append (s_3.append ((16, B (leI 97 x1)) :: ((15, B (leI 97 x1)) :: ((14, U x1) :: (s_1.append [(4, U x1)])))))))))))))))))))) [] 48) ?_
            refine sb 34 (eqI x1 45) ?_ ?_
            · refine se (mkE (s_1.append [(40, B false)]) [] 48) ?_
              refine pN ?_
              refine pS ?_
              refine gF (.tmp 40) ?_
              refine gK ?_
              refine pB ?_
              refine pN ?_
              refine pS ?_
              refine gR 3 (rg Tryz.f97 3) ?_
              refine se (mkE s_2 [] 48) ?_
              exact pL
            · refine se (mkE (s_1.append [(40, B (!(eqI x1 95)))]) [] 48) ?_
              refine pN ?_
              refine pS ?_
              refine gC 40 (!(eqI x1 95)) ?_ ?_
              · refine gS 0 ?_
                refine gR 6 (rg Tryz.f97 6) ?_
                refine se (mkE [(2, B false)] [] 48) ?_
                refine pN ?_
                refine pS ?_
                refine gE ?_
                exact pL
              · refine gK ?_
                refine pB ?_
                refine pN ?_
                refine pS ?_
                refine gR 3 (rg Tryz.f97 3) ?_
                refine se (mkE s_2 [] 48) ?_
                exact pL
        · refine sg 21 (mkE ((34, B (eqI x1 45)) :: ((33, B (eqI x1 45)) :: ((32, B (eqI x1 45)) :: ((31, U x1) :: ((30, B false) :: ((29, B false) :: ((28, .und) :: ((27, .und) :: ((26, B false) :: ((26, B (leI 48 x1)) :: ((25, B (leI 48 x1)) :: ((24, U x1) :: ((23, B true) :: (s_0.append (s_3.append ((16, B (leI 97 x1)) :: ((15, B (leI 97 x1)) :: ((14, U x1) :: (s_1.append [(4, U x1)]))))))))))))))))))) [] 48) ?_
          refine sb 34 (eqI x1 45) ?_ ?_
          · refine se (mkE (s_1.append [(40, B false)]) [] 48) ?_
            refine pN ?_
            refine pS ?_
            refine gF (.tmp 40) ?_
            refine gK ?_
            refine pB ?_
            refine pN ?_
            refine pS ?_
            refine gR 3 (rg Tryz.f97 3) ?_
            refine se (mkE s_2 [] 48) ?_
            exact pL
          · refine se (mkE (s_1.append [(40, B (!(eqI x1 95)))]) [] 48) ?_
            refine pN ?_
            refine pS ?_
            refine gC 40 (!(eqI x1 95)) ?_ ?_
            · refine gS 0 ?_
              refine gR 6 (rg Tryz.f97 6) ?_
              refine se (mkE [(2, B false)] [] 48) ?_
              refine pN ?_
              refine pS ?_
              refine gE ?_
              exact pL
            · refine gK ?_
              refine pB ?_
              refine pN ?_
              refine pS ?_
              refine gR 3 (rg Tryz.f97 3) ?_
              refine se (mkE s_2 [] 48) ?_
              exact pL
      · refine se (mkE (s_1.append [(40, B true)]) [] 48) ?_
        refine pN ?_
        refine pS ?_
        refine gT (.tmp 40) ?_
        refine gS 0 ?_
        refine gR 6 (rg Tryz.f97 6) ?_
        refine se (mkE [(2, B false)] [] 48) ?_
        refine pN ?_
        refine pS ?_
        refine gE ?_
        exact pL
  · refine gX 0 ?_
    exact pL
noncomputable def T97 (p0 : ByteArray) : Option Bool := ((iter (L97_2 p0) 0).bind fun y2 => (Sum.elim (fun y2a => (bif (!eqS p0 (ByteArray.mk #[])) then (some (leI (lenS p0) 40)) else (some false))) (fun y2b => (some false)) y2))
theorem B97 (C : Callee) (p0 : ByteArray) : runs Tryz.prog C (cfg.fn 97) (finFn Tryz.prog (cfg.fn 97).byval Tryz.f97) [] (execA Tryz.prog C (cfg.fn 97) (nr Tryz.f97 []) (frame0 [S p0] 48 false)) = (T97 p0).map B := by
  unfold T97
  refine gS 1 ?_
  refine gR 0 (rg Tryz.f97 0) ?_
  refine se (mkE [(0, S p0)] [] 48) ?_
  refine pN ?_
  refine pS ?_
  refine gS 7 ?_
  refine gS 2 ?_
  refine gR 1 (rg Tryz.f97 1) ?_
  refine se (mkE [(0, S p0), (3, I 0)] [] 48) ?_
  refine pN ?_
  refine pS ?_
  refine gB 0 ?_
  refine lo [(0, none), (3, none)] [] (L97_2 p0) (fun z0 : Int => (mkE [(0, S p0), (3, I z0)] [] 48)) (Sum.elim (fun (x : (Int × Bool)) => (.exit 0, (mkE [(0, S p0), (3, I x.1), (8, B x.2)] [] 48))) (fun (x : Unit) => (.ret, (mkE [(2, B false)] [] 48)))) 0 (fun z => L97_2_ok C p0 z) ?_
  intro y2
  refine ss y2 (Z := (Sum.elim (fun (x : (Int × Bool)) => (.exit 0, (mkE [(0, S p0), (3, I x.1), (8, B x.2)] [] 48))) (fun (x : Unit) => (.ret, (mkE [(2, B false)] [] 48))))) (fun y2a => ?_) (fun y2b => ?_)
  · refine pH ?_
    refine pN ?_
    refine pS ?_
    refine gS 0 ?_
    refine gR 7 (rg Tryz.f97 7) ?_
    refine sg 3 (mkE [(43, B (!eqS p0 (ByteArray.mk #[]))), (42, B (!eqS p0 (ByteArray.mk #[]))), (41, S p0), (0, S p0), (3, I y2a.1), (8, B y2a.2)] [] 48) ?_
    refine sb 43 (!eqS p0 (ByteArray.mk #[])) ?_ ?_
    · refine se (mkE [(2, B (leI (lenS p0) 40))] [] 48) ?_
      refine pN ?_
      refine pS ?_
      refine gE ?_
      exact pL
    · refine se (mkE [(2, B false)] [] 48) ?_
      refine pN ?_
      refine pS ?_
      refine gE ?_
      exact pL
  · exact pL
theorem F97 (m : Nat) (hm : 1 ≤ m) (p0 : ByteArray) : callA Tryz.prog cfg m 97 [S p0] = (T97 p0).map B := by
  obtain ⟨q, rfl⟩ : ∃ q, m = q + 1 := ⟨m - 1, by omega⟩
  exact (callA_body (fn := Tryz.f97) (c := body_ Tryz.f97) q _ (by kernel_rfl) (by kernel_rfl) (by kernel_rfl)).trans (B97 _ p0)

noncomputable def T176 (p0 : Int) : Option Bool := (bif (leI 0 p0) then (some (leI p0 4000)) else (some false))
theorem B176 (C : Callee) (p0 : Int) : runs Tryz.prog C (cfg.fn 176) (finFn Tryz.prog (cfg.fn 176).byval Tryz.f176) [] (execA Tryz.prog C (cfg.fn 176) (nr Tryz.f176 []) (frame0 [I p0] 9 false)) = (T176 p0).map B := by
  unfold T176
  refine gS 1 ?_
  refine gR 0 (rg Tryz.f176 0) ?_
  refine se (mkE [(0, I p0)] [] 9) ?_
  refine pN ?_
  refine pS ?_
  refine gS 0 ?_
  refine gR 1 (rg Tryz.f176 1) ?_
  refine sg 3 (mkE [(5, B (leI 0 p0)), (4, B (leI 0 p0)), (3, I p0), (0, I p0)] [] 9) ?_
  refine sb 5 (leI 0 p0) ?_ ?_
  · refine se (mkE [(2, B (leI p0 4000))] [] 9) ?_
    refine pN ?_
    refine pS ?_
    refine gE ?_
    exact pL
  · refine se (mkE [(2, B false)] [] 9) ?_
    refine pN ?_
    refine pS ?_
    refine gE ?_
    exact pL
theorem F176 (m : Nat) (hm : 1 ≤ m) (p0 : Int) : callA Tryz.prog cfg m 176 [I p0] = (T176 p0).map B := by
  obtain ⟨q, rfl⟩ : ∃ q, m = q + 1 := ⟨m - 1, by omega⟩
  exact (callA_body (fn := Tryz.f176) (c := body_ Tryz.f176) q _ (by kernel_rfl) (by kernel_rfl) (by kernel_rfl)).trans (B176 _ p0)

noncomputable def L155_4 (p0 : (List Int)) (z0 : Int) : Option (Int ⊕ ((Int × Bool) ⊕ Int)) := (bif (ltI z0 (lenL p0)) then ((listAt p0 z0).bind fun x1 => ((T176 x1).bind fun x2 => (bif (!x2) then (some (.inr (.inr 1))) else (bif (ltI 0 z0) then ((listAt p0 (subI .i64 z0 1)).bind fun x3 => (bif (leI x1 x3) then (some (.inr (.inr 7))) else (some (.inl (addI .i64 z0 1))))) else (some (.inl (addI .i64 z0 1))))))) else (some (.inr (.inl (z0, (ltI z0 (lenL p0)))))))
theorem L155_4_ok (C : Callee) (h176 : ∀ (p0 : Int), C 176 [I p0] = (T176 p0).map B) (p0 : (List Int)) (z0 : Int) : runs Tryz.prog C (cfg.fn 155) (finLoop ((cfg.fn 155).keep 4) ((cfg.fn 155).al 4)) [] (execA Tryz.prog C (cfg.fn 155) (nr Tryz.f155 [false, false, true, false, true, true]) ((fun z0 : Int => (mkE [(0, LL I p0), (8, LL I p0), (9, I (lenL p0)), (10, I z0)] [] 30)) z0)) = (L155_4 p0 z0).map (Sum.elim (fun z => .inl ((fun z0 : Int => (mkE [(0, LL I p0), (8, LL I p0), (9, I (lenL p0)), (10, I z0)] [] 30)) z)) (fun x => .inr ((Sum.elim (fun (x : (Int × Bool)) => (.exit 0, (mkE [(0, LL I p0), (8, LL I p0), (9, I (lenL p0)), (10, I x.1), (11, B x.2)] [] 30))) (fun (x : Int) => (.ret, (mkE [(2, I x)] [] 30)))) x))) := by
  unfold L155_4
  let s_0 : List (Nat × AV) := [(8, LL I p0), (9, I (lenL p0)), (10, I z0)]
  refine gS 0 ?_
  refine gR 4 (rg Tryz.f155 4) ?_
  refine se (mkE ((0, LL I p0) :: (s_0.append [(11, B (ltI z0 (lenL p0)))])) [] 30) ?_
  refine pN ?_
  refine pS ?_
  refine gS 5 ?_
  refine gC 11 (ltI z0 (lenL p0)) ?_ ?_
  · refine gK ?_
    refine pN ?_
    refine pS ?_
    refine gS 10 ?_
    refine gB 1 ?_
    refine gS 6 ?_
    refine gR 5 (rg Tryz.f155 5) ?_
    refine sg 1 (mkE ((12, I z0) :: ((0, LL I p0) :: (s_0.append [(11, B (ltI z0 (lenL p0)))]))) [] 30) ?_
    refine vo 13 (addrE 22 3 1 I .i64 p0 z0) (fun x1 => ?_)
    refine se (mkE ((0, LL I p0) :: ((3, I z0) :: ((4, I x1) :: s_0))) [] 30) ?_
    refine pN ?_
    refine pS ?_
    refine gS 8 ?_
    refine gS 0 ?_
    refine gR 6 (rg Tryz.f155 6) ?_
    refine sg 1 (mkE ((15, I x1) :: ((0, LL I p0) :: ((3, I z0) :: ((4, I x1) :: s_0)))) [] 30) ?_
    refine co 16 [] (h176 x1) (fun x2 => ?_)
    refine se (mkE ((0, LL I p0) :: ((3, I z0) :: ((4, I x1) :: (s_0.append [(17, B (!x2))])))) [] 30) ?_
    refine pN ?_
    refine pS ?_
    refine gC 17 (!x2) ?_ ?_
    · refine gS 0 ?_
      refine gR 7 (rg Tryz.f155 7) ?_
      refine se (mkE [(2, I 1)] [] 30) ?_
      refine pN ?_
      refine pS ?_
      refine gE ?_
      exact pL
    · refine gK ?_
      refine pN ?_
      refine pS ?_
      refine gS 0 ?_
      refine gR 8 (rg Tryz.f155 8) ?_
      refine sg 3 (mkE ((20, B (ltI 0 z0)) :: ((19, B (ltI 0 z0)) :: ((18, I z0) :: ((0, LL I p0) :: ((3, I z0) :: ((4, I x1) :: (s_0.append [(17, B (!x2))]))))))) [] 30) ?_
      refine sb 20 (ltI 0 z0) ?_ ?_
      · refine sg 7 (mkE ((24, I (subI .i64 z0 1)) :: ((23, I z0) :: ((22, LL I p0) :: ((21, I x1) :: ((20, B true) :: ((20, B (ltI 0 z0)) :: ((19, B (ltI 0 z0)) :: ((18, I z0) :: ((0, LL I p0) :: ((3, I z0) :: ((4, I x1) :: (s_0.append [(17, B (!x2))])))))))))))) [] 30) ?_
        refine vo 25 (addrE 22 3 1 I .i64 p0 (subI .i64 z0 1)) (fun x3 => ?_)
        refine se (mkE ((0, LL I p0) :: (s_0.append [(28, B (leI x1 x3))])) [] 30) ?_
        refine pN ?_
        refine pS ?_
        refine gC 28 (leI x1 x3) ?_ ?_
        · refine gS 0 ?_
          refine gR 9 (rg Tryz.f155 9) ?_
          refine se (mkE [(2, I 7)] [] 30) ?_
          refine pN ?_
          refine pS ?_
          refine gE ?_
          exact pL
        · refine gK ?_
          refine pB ?_
          refine pN ?_
          refine pS ?_
          refine gR 10 (rg Tryz.f155 10) ?_
          refine se (mkE [(0, LL I p0), (8, LL I p0), (9, I (lenL p0)), (10, I (addI .i64 z0 1))] [] 30) ?_
          exact pL
      · refine se (mkE ((0, LL I p0) :: (s_0.append [(28, B false)])) [] 30) ?_
        refine pN ?_
        refine pS ?_
        refine gF (.tmp 28) ?_
        refine gK ?_
        refine pB ?_
        refine pN ?_
        refine pS ?_
        refine gR 10 (rg Tryz.f155 10) ?_
        refine se (mkE [(0, LL I p0), (8, LL I p0), (9, I (lenL p0)), (10, I (addI .i64 z0 1))] [] 30) ?_
        exact pL
  · refine gX 0 ?_
    exact pL
noncomputable def T155 (p0 : (List Int)) : Option Int := (bif (ltI 100 (lenL p0)) then (some 2) else ((iter (L155_4 p0) 0).bind fun y4 => (Sum.elim (fun y4a => (some 0)) (fun y4b => (some y4b)) y4)))
theorem B155 (C : Callee) (h176 : ∀ (p0 : Int), C 176 [I p0] = (T176 p0).map B) (p0 : (List Int)) : runs Tryz.prog C (cfg.fn 155) (finFn Tryz.prog (cfg.fn 155).byval Tryz.f155) [] (execA Tryz.prog C (cfg.fn 155) (nr Tryz.f155 []) (frame0 [LL I p0] 30 false)) = (T155 p0).map I := by
  unfold T155
  refine gS 1 ?_
  refine gR 0 (rg Tryz.f155 0) ?_
  refine se (mkE [(0, LL I p0)] [] 30) ?_
  refine pN ?_
  refine pS ?_
  refine gS 3 ?_
  refine gS 0 ?_
  refine gR 1 (rg Tryz.f155 1) ?_
  refine sg 1 (mkE [(5, LL I p0), (0, LL I p0)] [] 30) ?_
  refine eo 6 (I (lenL p0)) (lenE 22 I p0) ?_
  refine se (mkE [(0, LL I p0), (7, B (ltI 100 (lenL p0)))] [] 30) ?_
  refine pN ?_
  refine pS ?_
  refine gC 7 (ltI 100 (lenL p0)) ?_ ?_
  · refine gS 0 ?_
    refine gR 2 (rg Tryz.f155 2) ?_
    refine se (mkE [(2, I 2)] [] 30) ?_
    refine pN ?_
    refine pS ?_
    refine gE ?_
    exact pL
  · refine gK ?_
    refine pN ?_
    refine pS ?_
    refine gS 11 ?_
    refine gS 4 ?_
    refine gR 3 (rg Tryz.f155 3) ?_
    refine sg 1 (mkE [(8, LL I p0), (0, LL I p0), (7, B (ltI 100 (lenL p0)))] [] 30) ?_
    refine eo 9 (I (lenL p0)) (lenE 22 I p0) ?_
    refine se (mkE [(0, LL I p0), (8, LL I p0), (9, I (lenL p0)), (10, I 0)] [] 30) ?_
    refine pN ?_
    refine pS ?_
    refine gB 0 ?_
    refine lo [(0, none), (8, none), (9, none), (10, none)] [] (L155_4 p0) (fun z0 : Int => (mkE [(0, LL I p0), (8, LL I p0), (9, I (lenL p0)), (10, I z0)] [] 30)) (Sum.elim (fun (x : (Int × Bool)) => (.exit 0, (mkE [(0, LL I p0), (8, LL I p0), (9, I (lenL p0)), (10, I x.1), (11, B x.2)] [] 30))) (fun (x : Int) => (.ret, (mkE [(2, I x)] [] 30)))) 0 (fun z => L155_4_ok C h176 p0 z) ?_
    intro y4
    refine ss y4 (Z := (Sum.elim (fun (x : (Int × Bool)) => (.exit 0, (mkE [(0, LL I p0), (8, LL I p0), (9, I (lenL p0)), (10, I x.1), (11, B x.2)] [] 30))) (fun (x : Int) => (.ret, (mkE [(2, I x)] [] 30))))) (fun y4a => ?_) (fun y4b => ?_)
    · refine pH ?_
      refine pN ?_
      refine pS ?_
      refine gS 0 ?_
      refine gR 11 (rg Tryz.f155 11) ?_
      refine se (mkE [(2, I 0)] [] 30) ?_
      refine pN ?_
      refine pS ?_
      refine gE ?_
      exact pL
    · exact pL
theorem F155 (m : Nat) (hm : 2 ≤ m) (p0 : (List Int)) : callA Tryz.prog cfg m 155 [LL I p0] = (T155 p0).map I := by
  obtain ⟨q, rfl⟩ : ∃ q, m = q + 1 := ⟨m - 1, by omega⟩
  exact (callA_body (fn := Tryz.f155) (c := body_ Tryz.f155) q _ (by kernel_rfl) (by kernel_rfl) (by kernel_rfl)).trans (B155 _ (fun p0 => F176 q (by omega) p0) p0)

noncomputable def L139_2 (p0 : (List ByteArray)) (z0 : Int) : Option (Int ⊕ ((Int × Bool) ⊕ Int)) := (bif (ltI z0 (lenL p0)) then ((listAt p0 z0).bind fun x1 => ((T97 x1).bind fun x2 => (bif (!x2) then (some (.inr (.inr 5))) else (bif (ltI 0 z0) then ((listAt p0 (subI .i64 z0 1)).bind fun x3 => (bif (ltS x1 x3 || eqS x1 x3) then (some (.inr (.inr 7))) else (some (.inl (addI .i64 z0 1))))) else (some (.inl (addI .i64 z0 1))))))) else (some (.inr (.inl (z0, (ltI z0 (lenL p0)))))))
theorem L139_2_ok (C : Callee) (h97 : ∀ (p0 : ByteArray), C 97 [S p0] = (T97 p0).map B) (p0 : (List ByteArray)) (z0 : Int) : runs Tryz.prog C (cfg.fn 139) (finLoop ((cfg.fn 139).keep 2) ((cfg.fn 139).al 2)) [] (execA Tryz.prog C (cfg.fn 139) (nr Tryz.f139 [false, false, true, false, true]) ((fun z0 : Int => (mkE [(0, LL S p0), (5, LL S p0), (6, I (lenL p0)), (7, I z0)] [] 27)) z0)) = (L139_2 p0 z0).map (Sum.elim (fun z => .inl ((fun z0 : Int => (mkE [(0, LL S p0), (5, LL S p0), (6, I (lenL p0)), (7, I z0)] [] 27)) z)) (fun x => .inr ((Sum.elim (fun (x : (Int × Bool)) => (.exit 0, (mkE [(0, LL S p0), (5, LL S p0), (6, I (lenL p0)), (7, I x.1), (8, B x.2)] [] 27))) (fun (x : Int) => (.ret, (mkE [(2, I x)] [] 27)))) x))) := by
  unfold L139_2
  let s_0 : List (Nat × AV) := [(5, LL S p0), (6, I (lenL p0)), (7, I z0)]
  refine gS 0 ?_
  refine gR 2 (rg Tryz.f139 2) ?_
  refine se (mkE ((0, LL S p0) :: (s_0.append [(8, B (ltI z0 (lenL p0)))])) [] 27) ?_
  refine pN ?_
  refine pS ?_
  refine gS 3 ?_
  refine gC 8 (ltI z0 (lenL p0)) ?_ ?_
  · refine gK ?_
    refine pN ?_
    refine pS ?_
    refine gS 8 ?_
    refine gB 1 ?_
    refine gS 4 ?_
    refine gR 3 (rg Tryz.f139 3) ?_
    refine sg 1 (mkE ((9, I z0) :: ((0, LL S p0) :: (s_0.append [(8, B (ltI z0 (lenL p0)))]))) [] 27) ?_
    refine vo 10 (addrE 61 9 1 S .i64 p0 z0) (fun x1 => ?_)
    refine se (mkE ((0, LL S p0) :: ((3, I z0) :: ((4, S x1) :: s_0))) [] 27) ?_
    refine pN ?_
    refine pS ?_
    refine gS 6 ?_
    refine gS 0 ?_
    refine gR 4 (rg Tryz.f139 4) ?_
    refine sg 1 (mkE ((12, S x1) :: ((0, LL S p0) :: ((3, I z0) :: ((4, S x1) :: s_0)))) [] 27) ?_
    refine co 13 [] (h97 x1) (fun x2 => ?_)
    refine se (mkE ((0, LL S p0) :: ((3, I z0) :: ((4, S x1) :: (s_0.append [(14, B (!x2))])))) [] 27) ?_
    refine pN ?_
    refine pS ?_
    refine gC 14 (!x2) ?_ ?_
    · refine gS 0 ?_
      refine gR 5 (rg Tryz.f139 5) ?_
      refine se (mkE [(2, I 5)] [] 27) ?_
      refine pN ?_
      refine pS ?_
      refine gE ?_
      exact pL
    · refine gK ?_
      refine pN ?_
      refine pS ?_
      refine gS 0 ?_
      refine gR 6 (rg Tryz.f139 6) ?_
      refine sg 3 (mkE ((17, B (ltI 0 z0)) :: ((16, B (ltI 0 z0)) :: ((15, I z0) :: ((0, LL S p0) :: ((3, I z0) :: ((4, S x1) :: (s_0.append [(14, B (!x2))]))))))) [] 27) ?_
      refine sb 17 (ltI 0 z0) ?_ ?_
      · refine sg 7 (mkE ((21, I (subI .i64 z0 1)) :: ((20, I z0) :: ((19, LL S p0) :: ((18, S x1) :: ((17, B true) :: ((17, B (ltI 0 z0)) :: ((16, B (ltI 0 z0)) :: ((15, I z0) :: ((0, LL S p0) :: ((3, I z0) :: ((4, S x1) :: (s_0.append [(14, B (!x2))])))))))))))) [] 27) ?_
        refine vo 22 (addrE 61 9 1 S .i64 p0 (subI .i64 z0 1)) (fun x3 => ?_)
        refine se (mkE ((0, LL S p0) :: (s_0.append [(25, B (ltS x1 x3 || eqS x1 x3))])) [] 27) ?_
        refine pN ?_
        refine pS ?_
        refine gC 25 (ltS x1 x3 || eqS x1 x3) ?_ ?_
        · refine gS 0 ?_
          refine gR 7 (rg Tryz.f139 7) ?_
          refine se (mkE [(2, I 7)] [] 27) ?_
          refine pN ?_
          refine pS ?_
          refine gE ?_
          exact pL
        · refine gK ?_
          refine pB ?_
          refine pN ?_
          refine pS ?_
          refine gR 8 (rg Tryz.f139 8) ?_
          refine se (mkE [(0, LL S p0), (5, LL S p0), (6, I (lenL p0)), (7, I (addI .i64 z0 1))] [] 27) ?_
          exact pL
      · refine se (mkE ((0, LL S p0) :: (s_0.append [(25, B false)])) [] 27) ?_
        refine pN ?_
        refine pS ?_
        refine gF (.tmp 25) ?_
        refine gK ?_
        refine pB ?_
        refine pN ?_
        refine pS ?_
        refine gR 8 (rg Tryz.f139 8) ?_
        refine se (mkE [(0, LL S p0), (5, LL S p0), (6, I (lenL p0)), (7, I (addI .i64 z0 1))] [] 27) ?_
        exact pL
  · refine gX 0 ?_
    exact pL
noncomputable def T139 (p0 : (List ByteArray)) : Option Int := ((iter (L139_2 p0) 0).bind fun y4 => (Sum.elim (fun y4a => (some 0)) (fun y4b => (some y4b)) y4))
theorem B139 (C : Callee) (h97 : ∀ (p0 : ByteArray), C 97 [S p0] = (T97 p0).map B) (p0 : (List ByteArray)) : runs Tryz.prog C (cfg.fn 139) (finFn Tryz.prog (cfg.fn 139).byval Tryz.f139) [] (execA Tryz.prog C (cfg.fn 139) (nr Tryz.f139 []) (frame0 [LL S p0] 27 false)) = (T139 p0).map I := by
  unfold T139
  refine gS 1 ?_
  refine gR 0 (rg Tryz.f139 0) ?_
  refine se (mkE [(0, LL S p0)] [] 27) ?_
  refine pN ?_
  refine pS ?_
  refine gS 9 ?_
  refine gS 2 ?_
  refine gR 1 (rg Tryz.f139 1) ?_
  refine sg 1 (mkE [(5, LL S p0), (0, LL S p0)] [] 27) ?_
  refine eo 6 (I (lenL p0)) (lenE 61 S p0) ?_
  refine se (mkE [(0, LL S p0), (5, LL S p0), (6, I (lenL p0)), (7, I 0)] [] 27) ?_
  refine pN ?_
  refine pS ?_
  refine gB 0 ?_
  refine lo [(0, none), (5, none), (6, none), (7, none)] [] (L139_2 p0) (fun z0 : Int => (mkE [(0, LL S p0), (5, LL S p0), (6, I (lenL p0)), (7, I z0)] [] 27)) (Sum.elim (fun (x : (Int × Bool)) => (.exit 0, (mkE [(0, LL S p0), (5, LL S p0), (6, I (lenL p0)), (7, I x.1), (8, B x.2)] [] 27))) (fun (x : Int) => (.ret, (mkE [(2, I x)] [] 27)))) 0 (fun z => L139_2_ok C h97 p0 z) ?_
  intro y4
  refine ss y4 (Z := (Sum.elim (fun (x : (Int × Bool)) => (.exit 0, (mkE [(0, LL S p0), (5, LL S p0), (6, I (lenL p0)), (7, I x.1), (8, B x.2)] [] 27))) (fun (x : Int) => (.ret, (mkE [(2, I x)] [] 27))))) (fun y4a => ?_) (fun y4b => ?_)
  · refine pH ?_
    refine pN ?_
    refine pS ?_
    refine gS 0 ?_
    refine gR 9 (rg Tryz.f139 9) ?_
    refine se (mkE [(2, I 0)] [] 27) ?_
    refine pN ?_
    refine pS ?_
    refine gE ?_
    exact pL
  · exact pL
theorem F139 (m : Nat) (hm : 2 ≤ m) (p0 : (List ByteArray)) : callA Tryz.prog cfg m 139 [LL S p0] = (T139 p0).map I := by
  obtain ⟨q, rfl⟩ : ∃ q, m = q + 1 := ⟨m - 1, by omega⟩
  exact (callA_body (fn := Tryz.f139) (c := body_ Tryz.f139) q _ (by kernel_rfl) (by kernel_rfl) (by kernel_rfl)).trans (B139 _ (fun p0 => F97 q (by omega) p0) p0)

noncomputable def T156 (p0 : (List ByteArray)) : Option Int := (bif (ltI 20 (lenL p0)) then (some 2) else ((T139 p0).bind fun x1 => (some x1)))
theorem B156 (C : Callee) (h139 : ∀ (p0 : (List ByteArray)), C 139 [LL S p0] = (T139 p0).map I) (p0 : (List ByteArray)) : runs Tryz.prog C (cfg.fn 156) (finFn Tryz.prog (cfg.fn 156).byval Tryz.f156) [] (execA Tryz.prog C (cfg.fn 156) (nr Tryz.f156 []) (frame0 [LL S p0] 8 false)) = (T156 p0).map I := by
  unfold T156
  refine gS 1 ?_
  refine gR 0 (rg Tryz.f156 0) ?_
  refine se (mkE [(0, LL S p0)] [] 8) ?_
  refine pN ?_
  refine pS ?_
  refine gS 3 ?_
  refine gS 0 ?_
  refine gR 1 (rg Tryz.f156 1) ?_
  refine sg 1 (mkE [(3, LL S p0), (0, LL S p0)] [] 8) ?_
  refine eo 4 (I (lenL p0)) (lenE 61 S p0) ?_
  refine se (mkE [(0, LL S p0), (5, B (ltI 20 (lenL p0)))] [] 8) ?_
  refine pN ?_
  refine pS ?_
  refine gC 5 (ltI 20 (lenL p0)) ?_ ?_
  · refine gS 0 ?_
    refine gR 2 (rg Tryz.f156 2) ?_
    refine se (mkE [(2, I 2)] [] 8) ?_
    refine pN ?_
    refine pS ?_
    refine gE ?_
    exact pL
  · refine gK ?_
    refine pN ?_
    refine pS ?_
    refine gS 0 ?_
    refine gR 3 (rg Tryz.f156 3) ?_
    refine sg 1 (mkE [(6, LL S p0), (0, LL S p0), (5, B (ltI 20 (lenL p0)))] [] 8) ?_
    refine co 7 [] (h139 p0) (fun x1 => ?_)
    refine se (mkE [(2, I x1)] [] 8) ?_
    refine pN ?_
    refine pS ?_
    refine gE ?_
    exact pL
theorem F156 (m : Nat) (hm : 3 ≤ m) (p0 : (List ByteArray)) : callA Tryz.prog cfg m 156 [LL S p0] = (T156 p0).map I := by
  obtain ⟨q, rfl⟩ : ∃ q, m = q + 1 := ⟨m - 1, by omega⟩
  exact (callA_body (fn := Tryz.f156) (c := body_ Tryz.f156) q _ (by kernel_rfl) (by kernel_rfl) (by kernel_rfl)).trans (B156 _ (fun p0 => F139 q (by omega) p0) p0)

noncomputable def T130 (p0 : S136) : Option Int := ((T97 p0.f0).bind fun x1 => (bif (!x1) then (some 5) else ((T97 p0.f1).bind fun x2 => (bif (!x2) then (some 5) else ((T70 p0.f2 0 1000000).bind fun x3 => (bif x3 then (some 1) else ((T70 p0.f3 0 p0.f4).bind fun x4 => (bif x4 then (some 1) else (bif (ltI 4000 p0.f4) then (some 1) else ((T70 p0.f5 1 400).bind fun x5 => (bif x5 then (some 1) else ((T70 p0.f6 1 127).bind fun x6 => (bif x6 then (some 1) else ((T155 p0.f7).bind fun x7 => (bif (neI x7 0) then (some x7) else ((T70 p0.f8 0 1439).bind fun x8 => (bif x8 then (some 1) else ((T70 p0.f9 0 1439).bind fun x9 => (bif x9 then (some 1) else ((T70 p0.f10 0 9).bind fun x10 => (bif x10 then (some 1) else ((T156 p0.f11).bind fun x11 => (some x11)))))))))))))))))))))))
theorem B130 (C : Callee) (h155 : ∀ (p0 : (List Int)), C 155 [LL I p0] = (T155 p0).map I) (h156 : ∀ (p0 : (List ByteArray)), C 156 [LL S p0] = (T156 p0).map I) (h70 : ∀ (p0 : Int) (p1 : Int) (p2 : Int), C 70 [I p0, I p1, I p2] = (T70 p0 p1 p2).map B) (h97 : ∀ (p0 : ByteArray), C 97 [S p0] = (T97 p0).map B) (p0 : S136) : runs Tryz.prog C (cfg.fn 130) (finFn Tryz.prog (cfg.fn 130).byval Tryz.f130) [] (execA Tryz.prog C (cfg.fn 130) (nr Tryz.f130 []) (frame0 [a136 p0] 61 false)) = (T130 p0).map I := by
  unfold T130
  let s_0 : List (Nat × AV) := [(29, B (ltI 4000 p0.f4)), (28, B (ltI 4000 p0.f4)), (27, B (ltI 4000 p0.f4)), (26, I p0.f4), (25, .ba 8 4), (24, B false)]
  let s_1 : List (Nat × AV) := [(21, I p0.f4), (20, .ba 8 4), (19, I p0.f3), (18, .ba 8 3), (17, B false)]
  let s_2 : List (Nat × AV) := [(15, I p0.f2), (14, .ba 8 2), (1, .ba 8 0)]
  let s_3 : List (Nat × AV) := [(46, I p0.f8), (45, .ba 8 8), (1, .ba 8 0)]
  let o_0 : List (Nat × AObj) := [(8, .box [S p0.f0, S p0.f1, I p0.f2, I p0.f3, I p0.f4, I p0.f5, I p0.f6, LL I p0.f7, I p0.f8, I p0.f9, I p0.f10, LL S p0.f11, B p0.f12] false)]
  refine gS 1 ?_
  refine gR 0 (rg Tryz.f130 0) ?_
  refine se (mkE [(1, .ba 8 0)] o_0 61) ?_
  refine pN ?_
  refine pS ?_
  refine gS 3 ?_
  refine gS 0 ?_
  refine gR 1 (rg Tryz.f130 1) ?_
  refine sg 2 (mkE [(5, S p0.f0), (4, .ba 8 0), (1, .ba 8 0)] o_0 61) ?_
  refine co 6 [] (h97 p0.f0) (fun x1 => ?_)
  refine sg 5 (mkE [(8, B (!x1)), (7, B (!x1)), (6, B x1), (5, S p0.f0), (4, .ba 8 0), (1, .ba 8 0)] o_0 61) ?_
  refine sb 8 (!x1) ?_ ?_
  · refine se (mkE [(1, .ba 8 0), (13, B true)] o_0 61) ?_
    refine pN ?_
    refine pS ?_
    refine gT (.tmp 13) ?_
    refine gS 0 ?_
    refine gR 2 (rg Tryz.f130 2) ?_
    refine se (mkE [(2, I 5)] [] 61) ?_
    refine pN ?_
    refine pS ?_
    refine gE ?_
    exact pL
  · refine sg 7 (mkE [(10, S p0.f1), (9, .ba 8 1), (8, B false), (8, B (!x1)), (7, B (!x1)), (6, B x1), (5, S p0.f0), (4, .ba 8 0), (1, .ba 8 0)] o_0 61) ?_
    refine co 11 [] (h97 p0.f1) (fun x2 => ?_)
    refine se (mkE [(1, .ba 8 0), (13, B (!x2))] o_0 61) ?_
    refine pN ?_
    refine pS ?_
    refine gC 13 (!x2) ?_ ?_
    · refine gS 0 ?_
      refine gR 2 (rg Tryz.f130 2) ?_
      refine se (mkE [(2, I 5)] [] 61) ?_
      refine pN ?_
      refine pS ?_
      refine gE ?_
      exact pL
    · refine gK ?_
      refine pN ?_
      refine pS ?_
      refine gS 5 ?_
      refine gS 0 ?_
      refine gR 3 (rg Tryz.f130 3) ?_
      refine sg 2 (mkE (s_2.append [(13, B (!x2))]) o_0 61) ?_
      refine co 16 [] (h70 p0.f2 0 1000000) (fun x3 => ?_)
      refine sg 4 (mkE ((17, B x3) :: ((16, B x3) :: (s_2.append [(13, B (!x2))]))) o_0 61) ?_
      refine sb 17 x3 ?_ ?_
      · refine se (mkE [(1, .ba 8 0), (38, B true)] o_0 61) ?_
        refine pN ?_
        refine pS ?_
        refine gT (.tmp 38) ?_
        refine gS 0 ?_
        refine gR 4 (rg Tryz.f130 4) ?_
        refine se (mkE [(2, I 1)] [] 61) ?_
        refine pN ?_
        refine pS ?_
        refine gE ?_
        exact pL
      · refine sg 8 (mkE (s_1.append ((17, B x3) :: ((16, B x3) :: (s_2.append [(13, B (!x2))])))) o_0 61) ?_
        refine co 22 [] (h70 p0.f3 0 p0.f4) (fun x4 => ?_)
        refine sg 11 (mkE ((24, B x4) :: ((23, B x4) :: ((22, B x4) :: (s_1.append ((17, B x3) :: ((16, B x3) :: (s_2.append [(13, B (!x2))]))))))) o_0 61) ?_
        refine sb 24 x4 ?_ ?_
        · refine se (mkE [(1, .ba 8 0), (38, B true)] o_0 61) ?_
          refine pN ?_
          refine pS ?_
          refine gT (.tmp 38) ?_
          refine gS 0 ?_
          refine gR 4 (rg Tryz.f130 4) ?_
          refine se (mkE [(2, I 1)] [] 61) ?_
          refine pN ?_
          refine pS ?_
          refine gE ?_
          exact pL
        · refine sg 16 (mkE (s_0.append ((24, B x4) :: ((23, B x4) :: ((22, B x4) :: (s_1.append ((17, B x3) :: ((16, B x3) :: (s_2.append [(13, B (!x2))])))))))) o_0 61) ?_
          refine sb 29 (ltI 4000 p0.f4) ?_ ?_
          · refine se (mkE [(1, .ba 8 0), (38, B true)] o_0 61) ?_
            refine pN ?_
            refine pS ?_
            refine gT (.tmp 38) ?_
            refine gS 0 ?_
            refine gR 4 (rg Tryz.f130 4) ?_
            refine se (mkE [(2, I 1)] [] 61) ?_
            refine pN ?_
            refine pS ?_
            refine gE ?_
            exact pL
          · refine sg 18 (mkE ((31, I p0.f5) :: ((30, .ba 8 5) :: ((29, B false) :: (s_0.append ((24, B x4) :: ((23, B x4) :: ((22, B x4) :: (s_1.append ((17, B x3) :: ((16, B x3) :: (s_2.append [(13, B (!x2))]))))))))))) o_0 61) ?_
            refine co 32 [] (h70 p0.f5 1 400) (fun x5 => ?_)
            refine sg 21 (mkE ((34, B x5) :: ((33, B x5) :: ((32, B x5) :: ((31, I p0.f5) :: ((30, .ba 8 5) :: ((29, B false) :: (s_0.append ((24, B x4) :: ((23, B x4) :: ((22, B x4) :: (s_1.append ((17, B x3) :: ((16, B x3) :: (s_2.append [(13, B (!x2))])))))))))))))) o_0 61) ?_
            refine sb 34 x5 ?_ ?_
            · refine se (mkE [(1, .ba 8 0), (38, B true)] o_0 61) ?_
              refine pN ?_
              refine pS ?_
              refine gT (.tmp 38) ?_
              refine gS 0 ?_
              refine gR 4 (rg Tryz.f130 4) ?_
              refine se (mkE [(2, I 1)] [] 61) ?_
              refine pN ?_
              refine pS ?_
              refine gE ?_
              exact pL
            · refine sg 23 (mkE ((36, I p0.f6) :: ((35, .ba 8 6) :: ((34, B false) :: ((34, B x5) :: ((33, B x5) :: ((32, B x5) :: ((31, I p0.f5) :: ((30, .ba 8 5) :: ((29, B false) :: (s_0.append ((24, B x4) :: ((23, B x4) :: ((22, B x4) :: (s_1.append ((17, B x3) :: ((16, B x3) :: (s_2.append [(13, B (!x2))]))))))))))))))))) o_0 61) ?_
              refine co 37 [] (h70 p0.f6 1 127) (fun x6 => ?_)
              refine se (mkE [(1, .ba 8 0), (38, B x6)] o_0 61) ?_
              refine pN ?_
              refine pS ?_
              refine gC 38 x6 ?_ ?_
              · refine gS 0 ?_
                refine gR 4 (rg Tryz.f130 4) ?_
                refine se (mkE [(2, I 1)] [] 61) ?_
                refine pN ?_
                refine pS ?_
                refine gE ?_
                exact pL
              · refine gK ?_
                refine pN ?_
                refine pS ?_
                refine gS 8 ?_
                refine gS 6 ?_
                refine gR 5 (rg Tryz.f130 5) ?_
                refine sg 2 (mkE [(40, LL I p0.f7), (39, .ba 8 7), (1, .ba 8 0), (38, B x6)] o_0 61) ?_
                refine co 41 [] (h155 p0.f7) (fun x7 => ?_)
                refine se (mkE [(1, .ba 8 0), (3, I x7)] o_0 61) ?_
                refine pN ?_
                refine pS ?_
                refine gS 0 ?_
                refine gR 6 (rg Tryz.f130 6) ?_
                refine se (mkE [(1, .ba 8 0), (3, I x7), (43, B (neI x7 0))] o_0 61) ?_
                refine pN ?_
                refine pS ?_
                refine gC 43 (neI x7 0) ?_ ?_
                · refine gS 0 ?_
                  refine gR 7 (rg Tryz.f130 7) ?_
                  refine se (mkE [(2, I x7)] [] 61) ?_
                  refine pN ?_
                  refine pS ?_
                  refine gE ?_
                  exact pL
                · refine gK ?_
                  refine pN ?_
                  refine pS ?_
                  refine gS 10 ?_
                  refine gS 0 ?_
                  refine gR 8 (rg Tryz.f130 8) ?_
                  refine sg 2 (mkE (s_3.append ((3, I x7) :: [(43, B (neI x7 0))])) o_0 61) ?_
                  refine co 47 [] (h70 p0.f8 0 1439) (fun x8 => ?_)
                  refine sg 4 (mkE ((48, B x8) :: ((47, B x8) :: (s_3.append ((3, I x7) :: [(43, B (neI x7 0))])))) o_0 61) ?_
                  refine sb 48 x8 ?_ ?_
                  · refine se (mkE [(1, .ba 8 0), (57, B true)] o_0 61) ?_
                    refine pN ?_
                    refine pS ?_
                    refine gT (.tmp 57) ?_
                    refine gS 0 ?_
                    refine gR 9 (rg Tryz.f130 9) ?_
                    refine se (mkE [(2, I 1)] [] 61) ?_
                    refine pN ?_
                    refine pS ?_
                    refine gE ?_
                    exact pL
                  · refine sg 6 (mkE ((50, I p0.f9) :: ((49, .ba 8 9) :: ((48, B false) :: ((48, B x8) :: ((47, B x8) :: (s_3.append ((3, I x7) :: [(43, B (neI x7 0))]))))))) o_0 61) ?_
                    refine co 51 [] (h70 p0.f9 0 1439) (fun x9 => ?_)
                    refine sg 9 (mkE ((53, B x9) :: ((52, B x9) :: ((51, B x9) :: ((50, I p0.f9) :: ((49, .ba 8 9) :: ((48, B false) :: ((48, B x8) :: ((47, B x8) :: (s_3.append ((3, I x7) :: [(43, B (neI x7 0))])))))))))) o_0 61) ?_
                    refine sb 53 x9 ?_ ?_
                    · refine se (mkE [(1, .ba 8 0), (57, B true)] o_0 61) ?_
                      refine pN ?_
                      refine pS ?_
                      refine gT (.tmp 57) ?_
                      refine gS 0 ?_
                      refine gR 9 (rg Tryz.f130 9) ?_
                      refine se (mkE [(2, I 1)] [] 61) ?_
                      refine pN ?_
                      refine pS ?_
                      refine gE ?_
                      exact pL
                    · refine sg 11 (mkE ((55, I p0.f10) :: ((54, .ba 8 10) :: ((53, B false) :: ((53, B x9) :: ((52, B x9) :: ((51, B x9) :: ((50, I p0.f9) :: ((49, .ba 8 9) :: ((48, B false) :: ((48, B x8) :: ((47, B x8) :: (s_3.append ((3, I x7) :: [(43, B (neI x7 0))]))))))))))))) o_0 61) ?_
                      refine co 56 [] (h70 p0.f10 0 9) (fun x10 => ?_)
                      refine se (mkE [(1, .ba 8 0), (57, B x10)] o_0 61) ?_
                      refine pN ?_
                      refine pS ?_
                      refine gC 57 x10 ?_ ?_
                      · refine gS 0 ?_
                        refine gR 9 (rg Tryz.f130 9) ?_
                        refine se (mkE [(2, I 1)] [] 61) ?_
                        refine pN ?_
                        refine pS ?_
                        refine gE ?_
                        exact pL
                      · refine gK ?_
                        refine pN ?_
                        refine pS ?_
                        refine gS 0 ?_
                        refine gR 10 (rg Tryz.f130 10) ?_
                        refine sg 2 (mkE [(59, LL S p0.f11), (58, .ba 8 11), (1, .ba 8 0), (57, B x10)] o_0 61) ?_
                        refine co 60 [] (h156 p0.f11) (fun x11 => ?_)
                        refine se (mkE [(2, I x11)] [] 61) ?_
                        refine pN ?_
                        refine pS ?_
                        refine gE ?_
                        exact pL
theorem F130 (m : Nat) (hm : 4 ≤ m) (p0 : S136) : callA Tryz.prog cfg m 130 [a136 p0] = (T130 p0).map I := by
  obtain ⟨q, rfl⟩ : ∃ q, m = q + 1 := ⟨m - 1, by omega⟩
  exact (callA_body (fn := Tryz.f130) (c := body_ Tryz.f130) q _ (by kernel_rfl) (by kernel_rfl) (by kernel_rfl)).trans (B130 _ (fun p0 => F155 q (by omega) p0) (fun p0 => F156 q (by omega) p0) (fun p0 p1 p2 => F70 q (by omega) p0 p1 p2) (fun p0 => F97 q (by omega) p0) p0)

noncomputable def L109_4 (p0 : (List S136)) (z0 : Int) : Option (Int ⊕ ((Int × Bool) ⊕ Int)) := (bif (ltI z0 (lenL p0)) then ((listAt p0 z0).bind fun x1 => ((T130 x1).bind fun x2 => (bif (neI x2 0) then (some (.inr (.inr x2))) else (bif (ltI 0 z0) then ((listAt p0 (subI .i64 z0 1)).bind fun x3 => (bif (ltS x1.f0 x3.f0 || eqS x1.f0 x3.f0) then (some (.inr (.inr 7))) else (some (.inl (addI .i64 z0 1))))) else (some (.inl (addI .i64 z0 1))))))) else (some (.inr (.inl (z0, (ltI z0 (lenL p0)))))))
theorem L109_4_ok (C : Callee) (h130 : ∀ (p0 : S136), C 130 [a136 p0] = (T130 p0).map I) (p0 : (List S136)) (z0 : Int) : runs Tryz.prog C (cfg.fn 109) (finLoop ((cfg.fn 109).keep 4) ((cfg.fn 109).al 4)) [] (execA Tryz.prog C (cfg.fn 109) (nr Tryz.f109 [false, false, true, false, true, true]) ((fun z0 : Int => (mkE [(0, LL a136 p0), (9, LL a136 p0), (10, I (lenL p0)), (11, I z0)] [] 35)) z0)) = (L109_4 p0 z0).map (Sum.elim (fun z => .inl ((fun z0 : Int => (mkE [(0, LL a136 p0), (9, LL a136 p0), (10, I (lenL p0)), (11, I z0)] [] 35)) z)) (fun x => .inr ((Sum.elim (fun (x : (Int × Bool)) => (.exit 0, (mkE [(0, LL a136 p0), (9, LL a136 p0), (10, I (lenL p0)), (11, I x.1), (12, B x.2)] [] 35))) (fun (x : Int) => (.ret, (mkE [(2, I x)] [] 35)))) x))) := by
  unfold L109_4
  let d_0 : List (Option Nat × REff) := [(some 21, qe (I z0)), (some 22, qe (B (ltI 0 z0)))]
  let s_0 : List (Nat × AV) := [(9, LL a136 p0), (10, I (lenL p0)), (11, I z0)]
  let s_1 : List (Nat × AV) := [(0, LL a136 p0), (3, I z0), (4, .ba 32 0)]
  refine gS 0 ?_
  refine gR 4 (rg Tryz.f109 4) ?_
  refine se (mkE ((0, LL a136 p0) :: (s_0.append [(12, B (ltI z0 (lenL p0)))])) [] 35) ?_
  refine pN ?_
  refine pS ?_
  refine gS 5 ?_
  refine gC 12 (ltI z0 (lenL p0)) ?_ ?_
  · refine gK ?_
    refine pN ?_
    refine pS ?_
    refine gS 11 ?_
    refine gB 1 ?_
    refine gS 6 ?_
    refine gR 5 (rg Tryz.f109 5) ?_
    refine sg 1 (mkE ((13, I z0) :: ((0, LL a136 p0) :: (s_0.append [(12, B (ltI z0 (lenL p0)))]))) [] 35) ?_
    refine vo 14 (addrE 186 137 13 a136 .i64 p0 z0) (fun x1 => ?_)
    refine se (mkE (s_1.append s_0) [(32, .box [S x1.f0, S x1.f1, I x1.f2, I x1.f3, I x1.f4, I x1.f5, I x1.f6, LL I x1.f7, I x1.f8, I x1.f9, I x1.f10, LL S x1.f11, B x1.f12] false)] 35) ?_
    refine pN ?_
    refine pS ?_
    refine gS 9 ?_
    refine gS 7 ?_
    refine gR 6 (rg Tryz.f109 6) ?_
    refine sg 1 (mkE ((16, a136 x1) :: (s_1.append s_0)) [(32, .box [S x1.f0, S x1.f1, I x1.f2, I x1.f3, I x1.f4, I x1.f5, I x1.f6, LL I x1.f7, I x1.f8, I x1.f9, I x1.f10, LL S x1.f11, B x1.f12] false)] 35) ?_
    refine co 17 [] (h130 x1) (fun x2 => ?_)
    refine se (mkE (s_1.append ((5, I x2) :: s_0)) [(32, .box [S x1.f0, S x1.f1, I x1.f2, I x1.f3, I x1.f4, I x1.f5, I x1.f6, LL I x1.f7, I x1.f8, I x1.f9, I x1.f10, LL S x1.f11, B x1.f12] false)] 35) ?_
    refine pN ?_
    refine pS ?_
    refine gS 0 ?_
    refine gR 7 (rg Tryz.f109 7) ?_
    refine se (mkE (s_1.append ((5, I x2) :: (s_0.append [(19, B (neI x2 0))]))) [(32, .box [S x1.f0, S x1.f1, I x1.f2, I x1.f3, I x1.f4, I x1.f5, I x1.f6, LL I x1.f7, I x1.f8, I x1.f9, I x1.f10, LL S x1.f11, B x1.f12] false)] 35) ?_
    refine pN ?_
    refine pS ?_
    refine gC 19 (neI x2 0) ?_ ?_
    · refine gS 0 ?_
      refine gR 8 (rg Tryz.f109 8) ?_
      refine se (mkE [(2, I x2)] [] 35) ?_
      refine pN ?_
      refine pS ?_
      refine gE ?_
      exact pL
    · refine gK ?_
      refine pN ?_
      refine pS ?_
      refine gS 0 ?_
      refine gD 9 13 (rg Tryz.f109 9) [0, 1, 2, 3, 4, 5, 6, 7, 8, 9, 10, 11, 12] ?_
      refine dg 3 (d_0.append [(some 23, qe (B (ltI 0 z0)))]) ?_
      refine db 2 23 (ltI 0 z0) ?_ ?_
      · refine dg 8 (d_0.append ((some 23, qe (B true)) :: ((some 24, qe (.ba 32 0)) :: ((some 25, qe (S x1.f0)) :: ((some 26, qe (LL a136 p0)) :: ((some 27, qe (I z0)) :: [(some 28, qe (I (subI .i64 z0 1)))])))))) ?_
        refine dv 29 (mkE ((28, I (subI .i64 z0 1)) :: ((27, I z0) :: ((26, LL a136 p0) :: ((23, B true) :: ((22, B (ltI 0 z0)) :: ((21, I z0) :: (s_1.append ((5, I x2) :: (s_0.append [(19, B (neI x2 0))]))))))))) [(32, .box [S x1.f0, S x1.f1, I x1.f2, I x1.f3, I x1.f4, I x1.f5, I x1.f6, LL I x1.f7, I x1.f8, I x1.f9, I x1.f10, LL S x1.f11, B x1.f12] false)] 35) (addrE 186 137 13 a136 .i64 p0 (subI .i64 z0 1)) (fun x3 => ?_)
        refine dg 13 (d_0.append ((some 23, qe (B true)) :: ((some 24, qe (.ba 32 0)) :: ((some 25, qe (S x1.f0)) :: ((some 26, qe (LL a136 p0)) :: ((some 27, qe (I z0)) :: ((some 28, qe (I (subI .i64 z0 1))) :: ((some 29, qe (.ia [S x3.f0, S x3.f1, I x3.f2, I x3.f3, I x3.f4, I x3.f5, I x3.f6, LL I x3.f7, I x3.f8, I x3.f9, I x3.f10, LL S x3.f11, B x3.f12] 0)) :: ((some 30, qe (.ia [S x3.f0, S x3.f1, I x3.f2, I x3.f3, I x3.f4, I x3.f5, I x3.f6, LL I x3.f7, I x3.f8, I x3.f9, I x3.f10, LL S x3.f11, B x3.f12] 0)) :: ((some 31, qe (S x3.f0)) :: ((some 32, qe (B (ltS x1.f0 x3.f0 || eqS x1.f0 x3.f0))) :: [(some 33, qe (B (ltS x1.f0 x3.f0 || eqS x1.f0 x3.f0)))]))))))))))) ?_
        refine de (mkE ((33, B (ltS x1.f0 x3.f0 || eqS x1.f0 x3.f0)) :: ((32, B (ltS x1.f0 x3.f0 || eqS x1.f0 x3.f0)) :: ((31, S x3.f0) :: ((30, .ia [S x3.f0, S x3.f1, I x3.f2, I x3.f3, I x3.f4, I x3.f5, I x3.f6, LL I x3.f7, I x3.f8, I x3.f9, I x3.f10, LL S x3.f11, B x3.f12] 0) :: ((29, .ia [S x3.f0, S x3.f1, I x3.f2, I x3.f3, I x3.f4, I x3.f5, I x3.f6, LL I x3.f7, I x3.f8, I x3.f9, I x3.f10, LL S x3.f11, B x3.f12] 0) :: ((28, I (subI .i64 z0 1)) :: ((27, I z0) :: ((26, LL a136 p0) :: ((25, S x1.f0) :: ((24, .ba 32 0) :: ((23, B true) :: ((22, B (ltI 0 z0)) :: ((21, I z0) :: (s_1.append ((5, I x2) :: (s_0.append [(19, B (neI x2 0))])))))))))))))))) [(32, .box [S x1.f0, S x1.f1, I x1.f2, I x1.f3, I x1.f4, I x1.f5, I x1.f6, LL I x1.f7, I x1.f8, I x1.f9, I x1.f10, LL S x1.f11, B x1.f12] false)] 35) ?_
        refine se (mkE ((0, LL a136 p0) :: (s_0.append [(33, B (ltS x1.f0 x3.f0 || eqS x1.f0 x3.f0))])) [] 35) ?_
        refine pN ?_
        refine pS ?_
        refine gC 33 (ltS x1.f0 x3.f0 || eqS x1.f0 x3.f0) ?_ ?_
        · refine gS 0 ?_
          refine gR 10 (rg Tryz.f109 10) ?_
          refine se (mkE [(2, I 7)] [] 35) ?_
          refine pN ?_
          refine pS ?_
          refine gE ?_
          exact pL
        · refine gK ?_
          refine pB ?_
          refine pN ?_
          refine pS ?_
          refine gR 11 (rg Tryz.f109 11) ?_
          refine se (mkE [(0, LL a136 p0), (9, LL a136 p0), (10, I (lenL p0)), (11, I (addI .i64 z0 1))] [] 35) ?_
          exact pL
      · refine dg 13 (d_0.append ((some 23, qe (B false)) :: ((some 24, qe (.und)) :: ((some 25, qe (.und)) :: ((some 26, qe (.und)) :: ((some 27, qe (.und)) :: ((some 28, qe (.und)) :: ((some 29, qe (.und)) :: ((some 30, qe (.und)) :: ((some 31, qe (.und)) :: ((some 32, qe (.und)) :: [(some 33, qe (B false))]))))))))))) ?_
        refine de (mkE ((33, B false) :: ((32, .und) :: ((31, .und) :: ((30, .und) :: ((29, .und) :: ((28, .und) :: ((27, .und) :: ((26, .und) :: ((25, .und) :: ((24, .und) :: ((23, B false) :: ((22, B (ltI 0 z0)) :: ((21, I z0) :: (s_1.append ((5, I x2) :: (s_0.append [(19, B (neI x2 0))])))))))))))))))) [(32, .box [S x1.f0, S x1.f1, I x1.f2, I x1.f3, I x1.f4, I x1.f5, I x1.f6, LL I x1.f7, I x1.f8, I x1.f9, I x1.f10, LL S x1.f11, B x1.f12] false)] 35) ?_
        refine se (mkE ((0, LL a136 p0) :: (s_0.append [(33, B false)])) [] 35) ?_
        refine pN ?_
        refine pS ?_
        refine gF (.tmp 33) ?_
        refine gK ?_
        refine pB ?_
        refine pN ?_
        refine pS ?_
        refine gR 11 (rg Tryz.f109 11) ?_
        refine se (mkE [(0, LL a136 p0), (9, LL a136 p0), (10, I (lenL p0)), (11, I (addI .i64 z0 1))] [] 35) ?_
        exact pL
  · refine gX 0 ?_
    exact pL
noncomputable def T109 (p0 : (List S136)) : Option Int := (bif (ltI 200 (lenL p0)) then (some 2) else ((iter (L109_4 p0) 0).bind fun y4 => (Sum.elim (fun y4a => (some 0)) (fun y4b => (some y4b)) y4)))
theorem B109 (C : Callee) (h130 : ∀ (p0 : S136), C 130 [a136 p0] = (T130 p0).map I) (p0 : (List S136)) : runs Tryz.prog C (cfg.fn 109) (finFn Tryz.prog (cfg.fn 109).byval Tryz.f109) [] (execA Tryz.prog C (cfg.fn 109) (nr Tryz.f109 []) (frame0 [LL a136 p0] 35 false)) = (T109 p0).map I := by
  unfold T109
  let s_0 : List (Nat × AV) := [(0, LL a136 p0), (9, LL a136 p0), (10, I (lenL p0))]
  refine gS 1 ?_
  refine gR 0 (rg Tryz.f109 0) ?_
  refine se (mkE [(0, LL a136 p0)] [] 35) ?_
  refine pN ?_
  refine pS ?_
  refine gS 3 ?_
  refine gS 0 ?_
  refine gR 1 (rg Tryz.f109 1) ?_
  refine sg 1 (mkE [(6, LL a136 p0), (0, LL a136 p0)] [] 35) ?_
  refine eo 7 (I (lenL p0)) (lenE 186 a136 p0) ?_
  refine se (mkE [(0, LL a136 p0), (8, B (ltI 200 (lenL p0)))] [] 35) ?_
  refine pN ?_
  refine pS ?_
  refine gC 8 (ltI 200 (lenL p0)) ?_ ?_
  · refine gS 0 ?_
    refine gR 2 (rg Tryz.f109 2) ?_
    refine se (mkE [(2, I 2)] [] 35) ?_
    refine pN ?_
    refine pS ?_
    refine gE ?_
    exact pL
  · refine gK ?_
    refine pN ?_
    refine pS ?_
    refine gS 12 ?_
    refine gS 4 ?_
    refine gR 3 (rg Tryz.f109 3) ?_
    refine sg 1 (mkE [(9, LL a136 p0), (0, LL a136 p0), (8, B (ltI 200 (lenL p0)))] [] 35) ?_
    refine eo 10 (I (lenL p0)) (lenE 186 a136 p0) ?_
    refine se (mkE (s_0.append [(11, I 0)]) [] 35) ?_
    refine pN ?_
    refine pS ?_
    refine gB 0 ?_
    refine lo [(0, none), (9, none), (10, none), (11, none)] [] (L109_4 p0) (fun z0 : Int => (mkE (s_0.append [(11, I z0)]) [] 35)) (Sum.elim (fun (x : (Int × Bool)) => (.exit 0, (mkE (s_0.append ((11, I x.1) :: [(12, B x.2)])) [] 35))) (fun (x : Int) => (.ret, (mkE [(2, I x)] [] 35)))) 0 (fun z => L109_4_ok C h130 p0 z) ?_
    intro y4
    refine ss y4 (Z := (Sum.elim (fun (x : (Int × Bool)) => (.exit 0, (mkE (s_0.append ((11, I x.1) :: [(12, B x.2)])) [] 35))) (fun (x : Int) => (.ret, (mkE [(2, I x)] [] 35))))) (fun y4a => ?_) (fun y4b => ?_)
    · refine pH ?_
      refine pN ?_
      refine pS ?_
      refine gS 0 ?_
      refine gR 12 (rg Tryz.f109 12) ?_
      refine se (mkE [(2, I 0)] [] 35) ?_
      refine pN ?_
      refine pS ?_
      refine gE ?_
      exact pL
    · exact pL
theorem F109 (m : Nat) (hm : 5 ≤ m) (p0 : (List S136)) : callA Tryz.prog cfg m 109 [LL a136 p0] = (T109 p0).map I := by
  obtain ⟨q, rfl⟩ : ∃ q, m = q + 1 := ⟨m - 1, by omega⟩
  exact (callA_body (fn := Tryz.f109) (c := body_ Tryz.f109) q _ (by kernel_rfl) (by kernel_rfl) (by kernel_rfl)).trans (B109 _ (fun p0 => F130 q (by omega) p0) p0)

noncomputable def T110 (p0 : S92) : Option Int := ((T70 p0.f0 0 p0.f1).bind fun x1 => (bif x1 then (some 1) else (bif (ltI 345686400000 p0.f1) then (some 1) else (bif (ltI 34560000000 (subI .i64 p0.f1 p0.f0)) then (some 2) else (some 0)))))
theorem B110 (C : Callee) (h70 : ∀ (p0 : Int) (p1 : Int) (p2 : Int), C 70 [I p0, I p1, I p2] = (T70 p0 p1 p2).map B) (p0 : S92) : runs Tryz.prog C (cfg.fn 110) (finFn Tryz.prog (cfg.fn 110).byval Tryz.f110) [] (execA Tryz.prog C (cfg.fn 110) (nr Tryz.f110 []) (frame0 [a92 p0] 19 false)) = (T110 p0).map I := by
  unfold T110
  refine gS 1 ?_
  refine gR 0 (rg Tryz.f110 0) ?_
  refine se (mkE [(1, .ba 8 0)] [(8, .box [I p0.f0, I p0.f1] false)] 19) ?_
  refine pN ?_
  refine pS ?_
  refine gS 3 ?_
  refine gS 0 ?_
  refine gR 1 (rg Tryz.f110 1) ?_
  refine sg 4 (mkE [(6, I p0.f1), (5, .ba 8 1), (4, I p0.f0), (3, .ba 8 0), (1, .ba 8 0)] [(8, .box [I p0.f0, I p0.f1] false)] 19) ?_
  refine co 7 [] (h70 p0.f0 0 p0.f1) (fun x1 => ?_)
  refine sg 6 (mkE [(8, B x1), (7, B x1), (6, I p0.f1), (5, .ba 8 1), (4, I p0.f0), (3, .ba 8 0), (1, .ba 8 0)] [(8, .box [I p0.f0, I p0.f1] false)] 19) ?_
  refine sb 8 x1 ?_ ?_
  · refine se (mkE [(1, .ba 8 0), (12, B true)] [(8, .box [I p0.f0, I p0.f1] false)] 19) ?_
    refine pN ?_
    refine pS ?_
    refine gT (.tmp 12) ?_
    refine gS 0 ?_
    refine gR 2 (rg Tryz.f110 2) ?_
    refine se (mkE [(2, I 1)] [] 19) ?_
    refine pN ?_
    refine pS ?_
    refine gE ?_
    exact pL
  · refine se (mkE [(1, .ba 8 0), (12, B (ltI 345686400000 p0.f1))] [(8, .box [I p0.f0, I p0.f1] false)] 19) ?_
    refine pN ?_
    refine pS ?_
    refine gC 12 (ltI 345686400000 p0.f1) ?_ ?_
    · refine gS 0 ?_
      refine gR 2 (rg Tryz.f110 2) ?_
      refine se (mkE [(2, I 1)] [] 19) ?_
      refine pN ?_
      refine pS ?_
      refine gE ?_
      exact pL
    · refine gK ?_
      refine pN ?_
      refine pS ?_
      refine gS 5 ?_
      refine gS 0 ?_
      refine gR 3 (rg Tryz.f110 3) ?_
      refine se (mkE [(18, B (ltI 34560000000 (subI .i64 p0.f1 p0.f0)))] [] 19) ?_
      refine pN ?_
      refine pS ?_
      refine gC 18 (ltI 34560000000 (subI .i64 p0.f1 p0.f0)) ?_ ?_
      · refine gS 0 ?_
        refine gR 4 (rg Tryz.f110 4) ?_
        refine se (mkE [(2, I 2)] [] 19) ?_
        refine pN ?_
        refine pS ?_
        refine gE ?_
        exact pL
      · refine gK ?_
        refine pN ?_
        refine pS ?_
        refine gS 0 ?_
        refine gR 5 (rg Tryz.f110 5) ?_
        refine se (mkE [(2, I 0)] [] 19) ?_
        refine pN ?_
        refine pS ?_
        refine gE ?_
        exact pL
theorem F110 (m : Nat) (hm : 2 ≤ m) (p0 : S92) : callA Tryz.prog cfg m 110 [a92 p0] = (T110 p0).map I := by
  obtain ⟨q, rfl⟩ : ∃ q, m = q + 1 := ⟨m - 1, by omega⟩
  exact (callA_body (fn := Tryz.f110) (c := body_ Tryz.f110) q _ (by kernel_rfl) (by kernel_rfl) (by kernel_rfl)).trans (B110 _ (fun p0 p1 p2 => F70 q (by omega) p0 p1 p2) p0)

noncomputable def T162 (p0 : Int) : Option Bool := (some (neI p0 p0))
theorem B162 (C : Callee) (p0 : Int) : runs Tryz.prog C (cfg.fn 162) (finFn Tryz.prog (cfg.fn 162).byval Tryz.f162) [] (execA Tryz.prog C (cfg.fn 162) (nr Tryz.f162 []) (frame0 [I p0] 6 false)) = (T162 p0).map B := by
  unfold T162
  refine gS 1 ?_
  refine gR 0 (rg Tryz.f162 0) ?_
  refine se (mkE [(0, I p0)] [] 6) ?_
  refine pN ?_
  refine pS ?_
  refine gS 0 ?_
  refine gR 1 (rg Tryz.f162 1) ?_
  refine se (mkE [(2, B (neI p0 p0))] [] 6) ?_
  refine pN ?_
  refine pS ?_
  refine gE ?_
  exact pL
theorem F162 (m : Nat) (hm : 1 ≤ m) (p0 : Int) : callA Tryz.prog cfg m 162 [I p0] = (T162 p0).map B := by
  obtain ⟨q, rfl⟩ : ∃ q, m = q + 1 := ⟨m - 1, by omega⟩
  exact (callA_body (fn := Tryz.f162) (c := body_ Tryz.f162) q _ (by kernel_rfl) (by kernel_rfl) (by kernel_rfl)).trans (B162 _ p0)

noncomputable def T149 (p0 : Int) (p1 : Int) : Option Bool := ((T162 p0).bind fun x1 => (bif x1 then ((T162 p1).bind fun x2 => (bif (!x2) then (some true) else (some (ltI p0 p1)))) else (some (ltI p0 p1))))
theorem B149 (C : Callee) (h162 : ∀ (p0 : Int), C 162 [I p0] = (T162 p0).map B) (p0 : Int) (p1 : Int) : runs Tryz.prog C (cfg.fn 149) (finFn Tryz.prog (cfg.fn 149).byval Tryz.f149) [] (execA Tryz.prog C (cfg.fn 149) (nr Tryz.f149 []) (frame0 [I p0, I p1] 17 false)) = (T149 p0 p1).map B := by
  unfold T149
  refine gS 1 ?_
  refine gR 0 (rg Tryz.f149 0) ?_
  refine se (mkE [(0, I p0), (1, I p1)] [] 17) ?_
  refine pN ?_
  refine pS ?_
  refine gS 0 ?_
  refine gR 1 (rg Tryz.f149 1) ?_
  refine sg 1 (mkE [(5, I p0), (0, I p0), (1, I p1)] [] 17) ?_
  refine co 6 [] (h162 p0) (fun x1 => ?_)
  refine sg 3 (mkE [(7, B x1), (6, B x1), (5, I p0), (0, I p0), (1, I p1)] [] 17) ?_
  refine sb 7 x1 ?_ ?_
  · refine sg 4 (mkE [(8, I p1), (7, B true), (7, B x1), (6, B x1), (5, I p0), (0, I p0), (1, I p1)] [] 17) ?_
    refine co 9 [] (h162 p1) (fun x2 => ?_)
    refine sg 8 (mkE [(12, B (!x2)), (11, B (!x2)), (10, B (!x2)), (9, B x2), (8, I p1), (7, B true), (7, B x1), (6, B x1), (5, I p0), (0, I p0), (1, I p1)] [] 17) ?_
    refine sb 12 (!x2) ?_ ?_
    · refine se (mkE [(4, B true)] [] 17) ?_
      refine pN ?_
      refine pS ?_
      refine gE ?_
      exact pL
    · refine se (mkE [(4, B (ltI p0 p1))] [] 17) ?_
      refine pN ?_
      refine pS ?_
      refine gE ?_
      exact pL
  · refine se (mkE [(4, B (ltI p0 p1))] [] 17) ?_
    refine pN ?_
    refine pS ?_
    refine gE ?_
    exact pL
theorem F149 (m : Nat) (hm : 2 ≤ m) (p0 : Int) (p1 : Int) : callA Tryz.prog cfg m 149 [I p0, I p1] = (T149 p0 p1).map B := by
  obtain ⟨q, rfl⟩ : ∃ q, m = q + 1 := ⟨m - 1, by omega⟩
  exact (callA_body (fn := Tryz.f149) (c := body_ Tryz.f149) q _ (by kernel_rfl) (by kernel_rfl) (by kernel_rfl)).trans (B149 _ (fun p0 => F162 q (by omega) p0) p0 p1)

noncomputable def T177 (p0 : Int) : Option Bool := (some (neI p0 p0))
theorem B177 (C : Callee) (p0 : Int) : runs Tryz.prog C (cfg.fn 177) (finFn Tryz.prog (cfg.fn 177).byval Tryz.f177) [] (execA Tryz.prog C (cfg.fn 177) (nr Tryz.f177 []) (frame0 [I p0] 6 false)) = (T177 p0).map B := by
  unfold T177
  refine gS 1 ?_
  refine gR 0 (rg Tryz.f177 0) ?_
  refine se (mkE [(0, I p0)] [] 6) ?_
  refine pN ?_
  refine pS ?_
  refine gS 0 ?_
  refine gR 1 (rg Tryz.f177 1) ?_
  refine se (mkE [(2, B (neI p0 p0))] [] 6) ?_
  refine pN ?_
  refine pS ?_
  refine gE ?_
  exact pL
theorem F177 (m : Nat) (hm : 1 ≤ m) (p0 : Int) : callA Tryz.prog cfg m 177 [I p0] = (T177 p0).map B := by
  obtain ⟨q, rfl⟩ : ∃ q, m = q + 1 := ⟨m - 1, by omega⟩
  exact (callA_body (fn := Tryz.f177) (c := body_ Tryz.f177) q _ (by kernel_rfl) (by kernel_rfl) (by kernel_rfl)).trans (B177 _ p0)

noncomputable def L157_3 (p0 : (List Int)) (p1 : Int) (z0 : (Int × Int)) : Option ((Int × Int) ⊕ (Int × Int × Bool)) := (bif (ltI z0.1 z0.2) then ((listAt p0 (cvI .i64 (shrI (cvI .u64 (addI .i64 z0.1 z0.2)) 1))).bind fun x1 => ((T149 x1 p1).bind fun x2 => (bif x2 then (some (.inl ((addI .i64 (cvI .i64 (shrI (cvI .u64 (addI .i64 z0.1 z0.2)) 1)) 1), z0.2))) else (some (.inl (z0.1, (cvI .i64 (shrI (cvI .u64 (addI .i64 z0.1 z0.2)) 1)))))))) else (some (.inr (z0.1, z0.2, (ltI z0.1 z0.2)))))
theorem L157_3_ok (C : Callee) (h149 : ∀ (p0 : Int) (p1 : Int), C 149 [I p0, I p1] = (T149 p0 p1).map B) (p0 : (List Int)) (p1 : Int) (z0 : (Int × Int)) : runs Tryz.prog C (cfg.fn 157) (finLoop ((cfg.fn 157).keep 3) ((cfg.fn 157).al 3)) [] (execA Tryz.prog C (cfg.fn 157) (nr Tryz.f157 [false, false, false, true, true, true]) ((fun z0 : (Int × Int) => (mkE [(0, LL I p0), (1, I p1), (6, I (lenL p0)), (7, I z0.1), (8, I z0.2)] [] 54)) z0)) = (L157_3 p0 p1 z0).map (Sum.elim (fun z => .inl ((fun z0 : (Int × Int) => (mkE [(0, LL I p0), (1, I p1), (6, I (lenL p0)), (7, I z0.1), (8, I z0.2)] [] 54)) z)) (fun x => .inr ((fun (x : (Int × Int × Bool)) => (.exit 0, (mkE [(0, LL I p0), (1, I p1), (6, I (lenL p0)), (7, I x.1), (8, I x.2.1), (15, B x.2.2)] [] 54))) x))) := by
  unfold L157_3
  let s_0 : List (Nat × AV) := [(0, LL I p0), (1, I p1), (6, I (lenL p0)), (7, I z0.1), (8, I z0.2), (9, I (cvI .i64 (shrI (cvI .u64 (addI .i64 z0.1 z0.2)) 1)))]
  refine gS 4 ?_
  refine gS 0 ?_
  refine gR 3 (rg Tryz.f157 3) ?_
  refine se (mkE [(0, LL I p0), (1, I p1), (6, I (lenL p0)), (7, I z0.1), (8, I z0.2), (15, B (ltI z0.1 z0.2))] [] 54) ?_
  refine pN ?_
  refine pS ?_
  refine gC 15 (ltI z0.1 z0.2) ?_ ?_
  · refine gK ?_
    refine pN ?_
    refine pS ?_
    refine gB 1 ?_
    refine gS 5 ?_
    refine gR 4 (rg Tryz.f157 4) ?_
    refine se (mkE s_0 [] 54) ?_
    refine pN ?_
    refine pS ?_
    refine gS 0 ?_
    refine gR 5 (rg Tryz.f157 5) ?_
    refine sg 2 (mkE ((23, I (cvI .i64 (shrI (cvI .u64 (addI .i64 z0.1 z0.2)) 1))) :: ((22, LL I p0) :: s_0)) [] 54) ?_
    refine vo 24 (addrE 22 3 1 I .i64 p0 (cvI .i64 (shrI (cvI .u64 (addI .i64 z0.1 z0.2)) 1))) (fun x1 => ?_)
    refine sg 5 (mkE ((26, I p1) :: ((25, I x1) :: ((24, .ia [I x1] 0) :: ((23, I (cvI .i64 (shrI (cvI .u64 (addI .i64 z0.1 z0.2)) 1))) :: ((22, LL I p0) :: s_0))))) [] 54) ?_
    refine co 27 [] (h149 x1 p1) (fun x2 => ?_)
    refine se (mkE (s_0.append [(27, B x2)]) [] 54) ?_
    refine pN ?_
    refine pS ?_
    refine gC 27 x2 ?_ ?_
    · refine gR 6 (rg Tryz.f157 6) ?_
      refine se (mkE [(0, LL I p0), (1, I p1), (6, I (lenL p0)), (7, I (addI .i64 (cvI .i64 (shrI (cvI .u64 (addI .i64 z0.1 z0.2)) 1)) 1)), (8, I z0.2)] [] 54) ?_
      refine pB ?_
      exact pL
    · refine gR 7 (rg Tryz.f157 7) ?_
      refine se (mkE [(0, LL I p0), (1, I p1), (6, I (lenL p0)), (7, I z0.1), (8, I (cvI .i64 (shrI (cvI .u64 (addI .i64 z0.1 z0.2)) 1)))] [] 54) ?_
      refine pB ?_
      exact pL
  · refine gX 0 ?_
    exact pL
noncomputable def T157 (p0 : (List Int)) (p1 : Int) : Option (Int × Bool) := ((iter (L157_3 p0 p1) (0, (lenL p0))).bind fun y3 => (bif (ltI y3.1 (lenL p0)) then ((listAt p0 y3.1).bind fun x4 => (bif (eqI x4 p1) then (some (y3.1, true)) else ((listAt p0 y3.1).bind fun x5 => ((T177 x5).bind fun x6 => (bif x6 then ((T177 p1).bind fun x7 => (some (y3.1, x7))) else (some (y3.1, false))))))) else (some (y3.1, false))))
theorem B157 (C : Callee) (h149 : ∀ (p0 : Int) (p1 : Int), C 149 [I p0, I p1] = (T149 p0 p1).map B) (h177 : ∀ (p0 : Int), C 177 [I p0] = (T177 p0).map B) (p0 : (List Int)) (p1 : Int) : runs Tryz.prog C (cfg.fn 157) (finFn Tryz.prog (cfg.fn 157).byval Tryz.f157) [] (execA Tryz.prog C (cfg.fn 157) (nr Tryz.f157 []) (frame0 [LL I p0, I p1] 54 false)) = (T157 p0 p1).map (fun r => AV.tup [I r.1, B r.2]) := by
  unfold T157
  let s_0 : List (Nat × AV) := [(0, LL I p0), (1, I p1), (6, I (lenL p0))]
  refine gS 1 ?_
  refine gR 0 (rg Tryz.f157 0) ?_
  refine se (mkE [(0, LL I p0), (1, I p1)] [] 54) ?_
  refine pN ?_
  refine pS ?_
  refine gS 2 ?_
  refine gR 1 (rg Tryz.f157 1) ?_
  refine sg 1 (mkE [(10, LL I p0), (0, LL I p0), (1, I p1)] [] 54) ?_
  refine eo 11 (I (lenL p0)) (lenE 22 I p0) ?_
  refine se (mkE s_0 [] 54) ?_
  refine pN ?_
  refine pS ?_
  refine gS 3 ?_
  refine gR 2 (rg Tryz.f157 2) ?_
  refine se (mkE (s_0.append ((7, I 0) :: [(8, I (lenL p0))])) [] 54) ?_
  refine pN ?_
  refine pS ?_
  refine gS 8 ?_
  refine gB 0 ?_
  refine lo [(0, none), (1, none), (6, none), (7, none), (8, none)] [] (L157_3 p0 p1) (fun z0 : (Int × Int) => (mkE (s_0.append ((7, I z0.1) :: [(8, I z0.2)])) [] 54)) (fun (x : (Int × Int × Bool)) => (.exit 0, (mkE (s_0.append ((7, I x.1) :: ((8, I x.2.1) :: [(15, B x.2.2)]))) [] 54))) (0, (lenL p0)) (fun z => L157_3_ok C h149 p0 p1 z) ?_
  intro y3
  refine pH ?_
  refine pN ?_
  refine pS ?_
  refine gS 0 ?_
  refine gR 8 (rg Tryz.f157 8) ?_
  refine sg 5 (mkE ((35, B (ltI y3.1 (lenL p0))) :: ((34, B (ltI y3.1 (lenL p0))) :: ((33, I (lenL p0)) :: ((32, I y3.1) :: ((31, I y3.1) :: (s_0.append ((7, I y3.1) :: ((8, I y3.2.1) :: [(15, B y3.2.2)])))))))) [] 54) ?_
  refine sb 35 (ltI y3.1 (lenL p0)) ?_ ?_
  · refine sg 7 (mkE ((37, I y3.1) :: ((36, LL I p0) :: ((35, B true) :: ((35, B (ltI y3.1 (lenL p0))) :: ((34, B (ltI y3.1 (lenL p0))) :: ((33, I (lenL p0)) :: ((32, I y3.1) :: ((31, I y3.1) :: (s_0.append ((7, I y3.1) :: ((8, I y3.2.1) :: [(15, B y3.2.2)]))))))))))) [] 54) ?_
    refine vo 38 (addrE 22 3 1 I .i64 p0 y3.1) (fun x4 => ?_)
    refine sg 12 (mkE ((42, B (eqI x4 p1)) :: ((41, B (eqI x4 p1)) :: ((40, I p1) :: ((39, I x4) :: ((38, .ia [I x4] 0) :: ((37, I y3.1) :: ((36, LL I p0) :: ((35, B true) :: ((35, B (ltI y3.1 (lenL p0))) :: ((34, B (ltI y3.1 (lenL p0))) :: ((33, I (lenL p0)) :: ((32, I y3.1) :: ((31, I y3.1) :: (s_0.append ((7, I y3.1) :: ((8, I y3.2.1) :: [(15, B y3.2.2)])))))))))))))))) [] 54) ?_
    refine sb 42 (eqI x4 p1) ?_ ?_
    · refine se (mkE [(4, I y3.1), (5, B true)] [] 54) ?_
      refine pN ?_
      refine pS ?_
      refine gE ?_
      exact pL
    · refine sg 14 (mkE ((44, I y3.1) :: ((43, LL I p0) :: ((42, B false) :: ((42, B (eqI x4 p1)) :: ((41, B (eqI x4 p1)) :: ((40, I p1) :: ((39, I x4) :: ((38, .ia [I x4] 0) :: ((37, I y3.1) :: ((36, LL I p0) :: ((35, B true) :: ((35, B (ltI y3.1 (lenL p0))) :: ((34, B (ltI y3.1 (lenL p0))) :: ((33, I (lenL p0)) :: ((32, I y3.1) :: ((31, I y3.1) :: (s_0.append ((7, I y3.1) :: ((8, I y3.2.1) :: [(15, B y3.2.2)]))))))))))))))))))) [] 54) ?_
      refine vo 45 (addrE 22 3 1 I .i64 p0 y3.1) (fun x5 => ?_)
      refine sg 16 (mkE ((46, I x5) :: ((45, .ia [I x5] 0) :: ((44, I y3.1) :: ((43, LL I p0) :: ((42, B false) :: ((42, B (eqI x4 p1)) :: ((41, B (eqI x4 p1)) :: ((40, I p1) :: ((39, I x4) :: ((38, .ia [I x4] 0) :: ((37, I y3.1) :: ((36, LL I p0) :: ((35, B true) :: ((35, B (ltI y3.1 (lenL p0))) :: ((34, B (ltI y3.1 (lenL p0))) :: ((33, I (lenL p0)) :: ((32, I y3.1) :: ((31, I y3.1) :: (s_0.append ((7, I y3.1) :: ((8, I y3.2.1) :: [(15, B y3.2.2)]))))))))))))))))))))) [] 54) ?_
      refine co 47 [] (h177 x5) (fun x6 => ?_)
      refine sg 18 (mkE ((48, B x6) :: ((47, B x6) :: ((46, I x5) :: ((45, .ia [I x5] 0) :: ((44, I y3.1) :: ((43, LL I p0) :: ((42, B false) :: ((42, B (eqI x4 p1)) :: ((41, B (eqI x4 p1)) :: ((40, I p1) :: ((39, I x4) :: ((38, .ia [I x4] 0) :: ((37, I y3.1) :: ((36, LL I p0) :: ((35, B true) :: ((35, B (ltI y3.1 (lenL p0))) :: ((34, B (ltI y3.1 (lenL p0))) :: ((33, I (lenL p0)) :: ((32, I y3.1) :: ((31, I y3.1) :: (s_0.append ((7, I y3.1) :: ((8, I y3.2.1) :: [(15, B y3.2.2)]))))))))))))))))))))))) [] 54) ?_
      refine sb 48 x6 ?_ ?_
      · refine sg 19 (mkE ((49, I p1) :: ((48, B true) :: ((48, B x6) :: ((47, B x6) :: ((46, I x5) :: ((45, .ia [I x5] 0) :: ((44, I y3.1) :: ((43, LL I p0) :: ((42, B false) :: ((42, B (eqI x4 p1)) :: ((41, B (eqI x4 p1)) :: ((40, I p1) :: ((39, I x4) :: ((38, .ia [I x4] 0) :: ((37, I y3.1) :: ((36, LL I p0) :: ((35, B true) :: ((35, B (ltI y3.1 (lenL p0))) :: ((34, B (ltI y3.1 (lenL p0))) :: ((33, I (lenL p0)) :: ((32, I y3.1) :: ((31, I y3.1) :: (s_0.append ((7, I y3.1) :: ((8, I y3.2.1) :: [(15, B y3.2.2)]))))))))))))))))))))))))) [] 54) ?_
        refine co 50 [] (h177 p1) (fun x7 => ?_)
        refine se (mkE [(4, I y3.1), (5, B x7)] [] 54) ?_
        refine pN ?_
        refine pS ?_
        refine gE ?_
        exact pL
      · refine se (mkE [(4, I y3.1), (5, B false)] [] 54) ?_
        refine pN ?_
        refine pS ?_
        refine gE ?_
        exact pL
  · refine se (mkE [(4, I y3.1), (5, B false)] [] 54) ?_
    refine pN ?_
    refine pS ?_
    refine gE ?_
    exact pL
theorem F157 (m : Nat) (hm : 3 ≤ m) (p0 : (List Int)) (p1 : Int) : callA Tryz.prog cfg m 157 [LL I p0, I p1] = (T157 p0 p1).map (fun r => AV.tup [I r.1, B r.2]) := by
  obtain ⟨q, rfl⟩ : ∃ q, m = q + 1 := ⟨m - 1, by omega⟩
  exact (callA_body (fn := Tryz.f157) (c := body_ Tryz.f157) q _ (by kernel_rfl) (by kernel_rfl) (by kernel_rfl)).trans (B157 _ (fun p0 p1 => F149 q (by omega) p0 p1) (fun p0 => F177 q (by omega) p0) p0 p1)

noncomputable def T131 (p0 : S136) (p1 : Int) : Option Bool := ((T70 p1 p0.f3 p0.f4).bind fun x1 => (bif x1 then (some false) else ((remO .i64 (subI .i64 p1 p0.f3) p0.f5).bind fun x2 => (bif (neI x2 0) then (some false) else ((shlO .i64 1 (remI .i64 p1 7)).bind fun x3 => (bif (eqI (bitI .and .i64 p0.f6 x3) 0) then (some false) else ((T157 p0.f7 p1).bind fun x4 => (some (!x4.2)))))))))
theorem B131 (C : Callee) (h157 : ∀ (p0 : (List Int)) (p1 : Int), C 157 [LL I p0, I p1] = (T157 p0 p1).map (fun r => AV.tup [I r.1, B r.2])) (h70 : ∀ (p0 : Int) (p1 : Int) (p2 : Int), C 70 [I p0, I p1, I p2] = (T70 p0 p1 p2).map B) (p0 : S136) (p1 : Int) : runs Tryz.prog C (cfg.fn 131) (finFn Tryz.prog (cfg.fn 131).byval Tryz.f131) [] (execA Tryz.prog C (cfg.fn 131) (nr Tryz.f131 []) (frame0 [a136 p0, I p1] 41 false)) = (T131 p0 p1).map B := by
  unfold T131
  let d_0 : List (Option Nat × REff) := [(some 7, qe (I p1)), (some 8, qe (.ba 16 3)), (some 9, qe (I p0.f3)), (some 10, qe (.ba 16 4)), (some 11, qe (I p0.f4))]
  let d_1 : List (Option Nat × REff) := [(some 13, qe (B false)), (some 14, qe (I p1)), (some 15, qe (.ba 16 3)), (some 16, qe (I p0.f3)), (some 17, qe (I (subI .i64 p1 p0.f3))), (some 18, qe (.ba 16 5)), (some 19, qe (I p0.f5))]
  let d_2 : List (Option Nat × REff) := [(some 23, qe (B true)), (some 24, qe (.und)), (some 25, qe (.und)), (some 26, qe (.und)), (some 27, qe (.und)), (some 28, qe (.und)), (some 29, qe (.und)), (some 30, qe (.und)), (some 31, qe (B true))]
  let d_3 : List (Option Nat × REff) := [(some 23, qe (B false)), (some 24, qe (.ba 16 6)), (some 25, qe (I p0.f6)), (some 26, qe (I p1)), (some 27, qe (I (remI .i64 p1 7)))]
  let s_0 : List (Nat × AV) := [(11, I p0.f4), (10, .ba 16 4), (9, I p0.f3), (8, .ba 16 3), (7, I p1), (1, I p1), (2, .ba 16 0)]
  let s_1 : List (Nat × AV) := [(19, I p0.f5), (18, .ba 16 5), (17, I (subI .i64 p1 p0.f3)), (16, I p0.f3), (15, .ba 16 3), (14, I p1), (13, B false)]
  let o_0 : List (Nat × AObj) := [(16, .box [S p0.f0, S p0.f1, I p0.f2, I p0.f3, I p0.f4, I p0.f5, I p0.f6, LL I p0.f7, I p0.f8, I p0.f9, I p0.f10, LL S p0.f11, B p0.f12] false)]
  refine gS 1 ?_
  refine gR 0 (rg Tryz.f131 0) ?_
  refine se (mkE [(1, I p1), (2, .ba 16 0)] o_0 41) ?_
  refine pN ?_
  refine pS ?_
  refine gS 3 ?_
  refine gS 0 ?_
  refine gD 1 25 (rg Tryz.f131 1) [0, 1, 2, 3, 4, 5, 6, 7, 8, 9, 10, 11, 12, 13, 14, 15, 16, 17, 18, 19, 20, 21, 22, 23, 24] ?_
  refine dg 5 d_0 ?_
  refine dc 12 [] (mkE s_0 o_0 41) (h70 p1 p0.f3 p0.f4) (fun x1 => ?_)
  refine dg 7 (d_0.append ((some 12, qe (B x1)) :: [(some 13, qe (B x1))])) ?_
  refine db 6 13 x1 ?_ ?_
  · refine dg 25 (d_0.append ((some 12, qe (B x1)) :: ((some 13, qe (B true)) :: ((some 14, qe (.und)) :: ((some 15, qe (.und)) :: ((some 16, qe (.und)) :: ((some 17, qe (.und)) :: ((some 18, qe (.und)) :: ((some 19, qe (.und)) :: ((some 20, qe (.und)) :: ((some 21, qe (.und)) :: ((some 22, qe (B true)) :: d_2)))))))))))) ?_
    refine de (mkE ((31, B true) :: ((30, .und) :: ((29, .und) :: ((28, .und) :: ((27, .und) :: ((26, .und) :: ((25, .und) :: ((24, .und) :: ((23, B true) :: ((22, B true) :: ((21, .und) :: ((20, .und) :: ((19, .und) :: ((18, .und) :: ((17, .und) :: ((16, .und) :: ((15, .und) :: ((14, .und) :: ((13, B true) :: ((12, B x1) :: s_0)))))))))))))))))))) o_0 41) ?_
    refine se (mkE [(1, I p1), (2, .ba 16 0), (31, B true)] o_0 41) ?_
    refine pN ?_
    refine pS ?_
    refine gT (.tmp 31) ?_
    refine gS 0 ?_
    refine gR 2 (rg Tryz.f131 2) ?_
    refine se (mkE [(4, B false)] [] 41) ?_
    refine pN ?_
    refine pS ?_
    refine gE ?_
    exact pL
  · refine dg 13 (d_0.append ((some 12, qe (B x1)) :: d_1)) ?_
    refine dv 20 (mkE (s_1.append ((12, B x1) :: s_0)) o_0 41) (remE 3 .i64 (.tmp 17) (.tmp 19) (subI .i64 p1 p0.f3) p0.f5) (fun x2 => ?_)
    refine dg 17 (d_0.append ((some 12, qe (B x1)) :: (d_1.append ((some 20, qe (I x2)) :: ((some 21, qe (B (neI x2 0))) :: ((some 22, qe (B (neI x2 0))) :: [(some 23, qe (B (neI x2 0)))])))))) ?_
    refine db 16 23 (neI x2 0) ?_ ?_
    · refine dg 25 (d_0.append ((some 12, qe (B x1)) :: (d_1.append ((some 20, qe (I x2)) :: ((some 21, qe (B (neI x2 0))) :: ((some 22, qe (B (neI x2 0))) :: d_2)))))) ?_
      refine de (mkE ((31, B true) :: ((30, .und) :: ((29, .und) :: ((28, .und) :: ((27, .und) :: ((26, .und) :: ((25, .und) :: ((24, .und) :: ((23, B true) :: ((22, B (neI x2 0)) :: ((21, B (neI x2 0)) :: ((20, I x2) :: (s_1.append ((12, B x1) :: s_0)))))))))))))) o_0 41) ?_
      refine se (mkE [(1, I p1), (2, .ba 16 0), (31, B true)] o_0 41) ?_
      refine pN ?_
      refine pS ?_
      refine gT (.tmp 31) ?_
      refine gS 0 ?_
      refine gR 2 (rg Tryz.f131 2) ?_
      refine se (mkE [(4, B false)] [] 41) ?_
      refine pN ?_
      refine pS ?_
      refine gE ?_
      exact pL
    · refine dg 21 (d_0.append ((some 12, qe (B x1)) :: (d_1.append ((some 20, qe (I x2)) :: ((some 21, qe (B (neI x2 0))) :: ((some 22, qe (B (neI x2 0))) :: d_3)))))) ?_
      refine dv 28 (mkE ((27, I (remI .i64 p1 7)) :: ((26, I p1) :: ((23, B false) :: ((22, B (neI x2 0)) :: ((21, B (neI x2 0)) :: ((20, I x2) :: (s_1.append ((12, B x1) :: s_0)))))))) o_0 41) (shlE 3 .i64 .i64 (.const (.int .i64 1)) (.tmp 27) 1 (remI .i64 p1 7)) (fun x3 => ?_)
      refine dg 25 (d_0.append ((some 12, qe (B x1)) :: (d_1.append ((some 20, qe (I x2)) :: ((some 21, qe (B (neI x2 0))) :: ((some 22, qe (B (neI x2 0))) :: (d_3.append ((some 28, qe (I x3)) :: ((some 29, qe (I (bitI .and .i64 p0.f6 x3))) :: ((some 30, qe (B (eqI (bitI .and .i64 p0.f6 x3) 0))) :: [(some 31, qe (B (eqI (bitI .and .i64 p0.f6 x3) 0)))])))))))))) ?_
      refine de (mkE ((31, B (eqI (bitI .and .i64 p0.f6 x3) 0)) :: ((30, B (eqI (bitI .and .i64 p0.f6 x3) 0)) :: ((29, I (bitI .and .i64 p0.f6 x3)) :: ((28, I x3) :: ((27, I (remI .i64 p1 7)) :: ((26, I p1) :: ((25, I p0.f6) :: ((24, .ba 16 6) :: ((23, B false) :: ((22, B (neI x2 0)) :: ((21, B (neI x2 0)) :: ((20, I x2) :: (s_1.append ((12, B x1) :: s_0)))))))))))))) o_0 41) ?_
      refine se (mkE [(1, I p1), (2, .ba 16 0), (31, B (eqI (bitI .and .i64 p0.f6 x3) 0))] o_0 41) ?_
      refine pN ?_
      refine pS ?_
      refine gC 31 (eqI (bitI .and .i64 p0.f6 x3) 0) ?_ ?_
      · refine gS 0 ?_
        refine gR 2 (rg Tryz.f131 2) ?_
        refine se (mkE [(4, B false)] [] 41) ?_
        refine pN ?_
        refine pS ?_
        refine gE ?_
        exact pL
      · refine gK ?_
        refine pN ?_
        refine pS ?_
        refine gS 4 ?_
        refine gR 3 (rg Tryz.f131 3) ?_
        refine sg 3 (mkE [(35, I p1), (34, LL I p0.f7), (33, .ba 16 7), (1, I p1), (2, .ba 16 0), (31, B (eqI (bitI .and .i64 p0.f6 x3) 0))] o_0 41) ?_
        refine co 36 [] (h157 p0.f7 p1) (fun x4 => ?_)
        refine se (mkE [(6, B x4.2)] [] 41) ?_
        refine pN ?_
        refine pS ?_
        refine gS 0 ?_
        refine gR 4 (rg Tryz.f131 4) ?_
        refine se (mkE [(4, B (!x4.2))] [] 41) ?_
        refine pN ?_
        refine pS ?_
        refine gE ?_
        exact pL
theorem F131 (m : Nat) (hm : 4 ≤ m) (p0 : S136) (p1 : Int) : callA Tryz.prog cfg m 131 [a136 p0, I p1] = (T131 p0 p1).map B := by
  obtain ⟨q, rfl⟩ : ∃ q, m = q + 1 := ⟨m - 1, by omega⟩
  exact (callA_body (fn := Tryz.f131) (c := body_ Tryz.f131) q _ (by kernel_rfl) (by kernel_rfl) (by kernel_rfl)).trans (B131 _ (fun p0 p1 => F157 q (by omega) p0 p1) (fun p0 p1 p2 => F70 q (by omega) p0 p1 p2) p0 p1)

noncomputable def T132 (p0 : S136) (p1 : Int) (p2 : Int) : Option S92 := (bif (leI (subI .i64 p0.f9 p0.f8) 0) then (some (S92.mk (mulI .i64 (subI .i64 (addI .i64 (mulI .i64 p2 1440) p0.f8) p1) 60000) (addI .i64 (mulI .i64 (subI .i64 (addI .i64 (mulI .i64 p2 1440) p0.f8) p1) 60000) (mulI .i64 (addI .i64 (subI .i64 p0.f9 p0.f8) 1440) 60000)))) else (some (S92.mk (mulI .i64 (subI .i64 (addI .i64 (mulI .i64 p2 1440) p0.f8) p1) 60000) (addI .i64 (mulI .i64 (subI .i64 (addI .i64 (mulI .i64 p2 1440) p0.f8) p1) 60000) (mulI .i64 (subI .i64 p0.f9 p0.f8) 60000)))))
theorem B132 (C : Callee) (p0 : S136) (p1 : Int) (p2 : Int) : runs Tryz.prog C (cfg.fn 132) (finFn Tryz.prog (cfg.fn 132).byval Tryz.f132) [] (execA Tryz.prog C (cfg.fn 132) (nr Tryz.f132 []) (frame0 [a136 p0, I p1, I p2] 32 false)) = (T132 p0 p1 p2).map a92 := by
  unfold T132
  let s_0 : List (Nat × AV) := [(1, I p1), (2, I p2), (3, .ba 24 0), (6, .ba 48 0)]
  let o_0 : List (Nat × AObj) := [(24, .box [S p0.f0, S p0.f1, I p0.f2, I p0.f3, I p0.f4, I p0.f5, I p0.f6, LL I p0.f7, I p0.f8, I p0.f9, I p0.f10, LL S p0.f11, B p0.f12] false), (48, .box [I 0, I 0] false)]
  refine gS 1 ?_
  refine gR 0 (rg Tryz.f132 0) ?_
  refine se (mkE s_0 o_0 32) ?_
  refine pN ?_
  refine pS ?_
  refine gS 2 ?_
  refine gR 1 (rg Tryz.f132 1) ?_
  refine se (mkE (s_0.append [(7, I (subI .i64 p0.f9 p0.f8))]) o_0 32) ?_
  refine pN ?_
  refine pS ?_
  refine gS 4 ?_
  refine gS 0 ?_
  refine gR 2 (rg Tryz.f132 2) ?_
  refine se (mkE (s_0.append ((7, I (subI .i64 p0.f9 p0.f8)) :: [(15, B (leI (subI .i64 p0.f9 p0.f8) 0))])) o_0 32) ?_
  refine pN ?_
  refine pS ?_
  refine gC 15 (leI (subI .i64 p0.f9 p0.f8) 0) ?_ ?_
  · refine gR 3 (rg Tryz.f132 3) ?_
    refine se (mkE (s_0.append [(7, I (addI .i64 (subI .i64 p0.f9 p0.f8) 1440))]) o_0 32) ?_
    refine pN ?_
    refine pS ?_
    refine gS 5 ?_
    refine gR 4 (rg Tryz.f132 4) ?_
    refine se (mkE [(6, .ba 48 0), (7, I (addI .i64 (subI .i64 p0.f9 p0.f8) 1440)), (8, I (mulI .i64 (subI .i64 (addI .i64 (mulI .i64 p2 1440) p0.f8) p1) 60000))] [(48, .box [I 0, I 0] false)] 32) ?_
    refine pN ?_
    refine pS ?_
    refine gS 0 ?_
    refine gR 5 (rg Tryz.f132 5) ?_
    refine se (mkE [(6, .ba 48 0)] [(48, .box [I (mulI .i64 (subI .i64 (addI .i64 (mulI .i64 p2 1440) p0.f8) p1) 60000), I (addI .i64 (mulI .i64 (subI .i64 (addI .i64 (mulI .i64 p2 1440) p0.f8) p1) 60000) (mulI .i64 (addI .i64 (subI .i64 p0.f9 p0.f8) 1440) 60000))] false)] 32) ?_
    refine pN ?_
    refine pS ?_
    refine gE ?_
    exact pL
  · refine gK ?_
    refine pN ?_
    refine pS ?_
    refine gS 5 ?_
    refine gR 4 (rg Tryz.f132 4) ?_
    refine se (mkE [(6, .ba 48 0), (7, I (subI .i64 p0.f9 p0.f8)), (8, I (mulI .i64 (subI .i64 (addI .i64 (mulI .i64 p2 1440) p0.f8) p1) 60000))] [(48, .box [I 0, I 0] false)] 32) ?_
    refine pN ?_
    refine pS ?_
    refine gS 0 ?_
    refine gR 5 (rg Tryz.f132 5) ?_
    refine se (mkE [(6, .ba 48 0)] [(48, .box [I (mulI .i64 (subI .i64 (addI .i64 (mulI .i64 p2 1440) p0.f8) p1) 60000), I (addI .i64 (mulI .i64 (subI .i64 (addI .i64 (mulI .i64 p2 1440) p0.f8) p1) 60000) (mulI .i64 (subI .i64 p0.f9 p0.f8) 60000))] false)] 32) ?_
    refine pN ?_
    refine pS ?_
    refine gE ?_
    exact pL
theorem F132 (m : Nat) (hm : 1 ≤ m) (p0 : S136) (p1 : Int) (p2 : Int) : callA Tryz.prog cfg m 132 [a136 p0, I p1, I p2] = (T132 p0 p1 p2).map a92 := by
  obtain ⟨q, rfl⟩ : ∃ q, m = q + 1 := ⟨m - 1, by omega⟩
  exact (callA_body (fn := Tryz.f132) (c := body_ Tryz.f132) q _ (by kernel_rfl) (by kernel_rfl) (by kernel_rfl)).trans (B132 _ p0 p1 p2)

noncomputable def L111_7 (p0 : S136) (p1 : Int) (p2 : S92) (z0 : ((List S92) × Int)) : Option (((List S92) × Int) ⊕ (Int × Bool × (List S92))) := (bif (leI z0.2 (minI (addI .i64 (quoI .i64 (addI .i64 p2.f1 (mulI .i64 p1 60000)) 86400000) 1) p0.f4)) then ((T131 p0 z0.2).bind fun x1 => (bif (!x1) then (some (.inl (z0.1, (addI .i64 z0.2 1)))) else ((T132 p0 p1 z0.2).bind fun x2 => (bif (ltI x2.f0 p2.f1) then (bif (ltI p2.f0 x2.f1) then ((appO 16 z0.1 ([x2] : List S92)).bind fun x3 => (some (.inl (x3, (addI .i64 z0.2 1))))) else (some (.inl (z0.1, (addI .i64 z0.2 1))))) else (some (.inl (z0.1, (addI .i64 z0.2 1)))))))) else (some (.inr (z0.2, (leI z0.2 (minI (addI .i64 (quoI .i64 (addI .i64 p2.f1 (mulI .i64 p1 60000)) 86400000) 1) p0.f4)), z0.1))))
theorem L111_7_ok (C : Callee) (h131 : ∀ (p0 : S136) (p1 : Int), C 131 [a136 p0, I p1] = (T131 p0 p1).map B) (h132 : ∀ (p0 : S136) (p1 : Int) (p2 : Int), C 132 [a136 p0, I p1, I p2] = (T132 p0 p1 p2).map a92) (p0 : S136) (p1 : Int) (p2 : S92) (z0 : ((List S92) × Int)) : runs Tryz.prog C (cfg.fn 111) (finLoop ((cfg.fn 111).keep 7) ((cfg.fn 111).al 7)) [] (execA Tryz.prog C (cfg.fn 111) (nr Tryz.f111 [false, false, true, false, true, true, true, true, true]) ((fun z0 : ((List S92) × Int) => (mkE [(1, I p1), (3, .ba 24 0), (5, .ba 40 0), (7, .own 56 0), (9, I (addI .i64 (quoI .i64 (addI .i64 p2.f1 (mulI .i64 p1 60000)) 86400000) 1)), (10, I z0.2)] [(24, .box [S p0.f0, S p0.f1, I p0.f2, I p0.f3, I p0.f4, I p0.f5, I p0.f6, LL I p0.f7, I p0.f8, I p0.f9, I p0.f10, LL S p0.f11, B p0.f12] false), (40, .box [I p2.f0, I p2.f1] false), (56, RR 93 2 a92 z0.1 0 false)] 72)) z0)) = (L111_7 p0 p1 p2 z0).map (Sum.elim (fun z => .inl ((fun z0 : ((List S92) × Int) => (mkE [(1, I p1), (3, .ba 24 0), (5, .ba 40 0), (7, .own 56 0), (9, I (addI .i64 (quoI .i64 (addI .i64 p2.f1 (mulI .i64 p1 60000)) 86400000) 1)), (10, I z0.2)] [(24, .box [S p0.f0, S p0.f1, I p0.f2, I p0.f3, I p0.f4, I p0.f5, I p0.f6, LL I p0.f7, I p0.f8, I p0.f9, I p0.f10, LL S p0.f11, B p0.f12] false), (40, .box [I p2.f0, I p2.f1] false), (56, RR 93 2 a92 z0.1 0 false)] 72)) z)) (fun x => .inr ((fun (x : (Int × Bool × (List S92))) => (.exit 0, (mkE [(1, I p1), (3, .ba 24 0), (5, .ba 40 0), (7, .own 56 0), (9, I (addI .i64 (quoI .i64 (addI .i64 p2.f1 (mulI .i64 p1 60000)) 86400000) 1)), (10, I x.1), (44, B x.2.1)] [(24, .box [S p0.f0, S p0.f1, I p0.f2, I p0.f3, I p0.f4, I p0.f5, I p0.f6, LL I p0.f7, I p0.f8, I p0.f9, I p0.f10, LL S p0.f11, B p0.f12] false), (40, .box [I p2.f0, I p2.f1] false), (56, RR 93 2 a92 x.2.2 0 false)] 72))) x))) := by
  unfold L111_7
  let s_0 : List (Nat × AV) := [(1, I p1), (3, .ba 24 0), (5, .ba 40 0), (7, .own 56 0), (9, I (addI .i64 (quoI .i64 (addI .i64 p2.f1 (mulI .i64 p1 60000)) 86400000) 1))]
  let s_1 : List (Nat × AV) := [(1, I p1), (3, .ba 24 0), (5, .ba 40 0), (7, .own 56 1), (9, I (addI .i64 (quoI .i64 (addI .i64 p2.f1 (mulI .i64 p1 60000)) 86400000) 1))]
  let o_0 : List (Nat × AObj) := [(24, .box [S p0.f0, S p0.f1, I p0.f2, I p0.f3, I p0.f4, I p0.f5, I p0.f6, LL I p0.f7, I p0.f8, I p0.f9, I p0.f10, LL S p0.f11, B p0.f12] false), (40, .box [I p2.f0, I p2.f1] false), (56, RR 93 2 a92 z0.1 0 false)]
  let o_1 : List (Nat × AObj) := [(24, .box [S p0.f0, S p0.f1, I p0.f2, I p0.f3, I p0.f4, I p0.f5, I p0.f6, LL I p0.f7, I p0.f8, I p0.f9, I p0.f10, LL S p0.f11, B p0.f12] false), (40, .box [I p2.f0, I p2.f1] false)]
  refine gS 9 ?_
  refine gS 0 ?_
  refine gR 7 (rg Tryz.f111 7) ?_
  refine se (mkE (s_0.append ((10, I z0.2) :: [(44, B (leI z0.2 (minI (addI .i64 (quoI .i64 (addI .i64 p2.f1 (mulI .i64 p1 60000)) 86400000) 1) p0.f4)))])) o_0 72) ?_
  refine pN ?_
  refine pS ?_
  refine gC 44 (leI z0.2 (minI (addI .i64 (quoI .i64 (addI .i64 p2.f1 (mulI .i64 p1 60000)) 86400000) 1) p0.f4)) ?_ ?_
  · refine gK ?_
    refine pN ?_
    refine pS ?_
    refine gS 8 ?_
    refine gB 1 ?_
    refine gS 10 ?_
    refine gS 0 ?_
    refine gR 9 (rg Tryz.f111 9) ?_
    refine sg 2 (mkE ((48, I z0.2) :: ((47, a136 p0) :: (s_0.append ((10, I z0.2) :: [(44, B (leI z0.2 (minI (addI .i64 (quoI .i64 (addI .i64 p2.f1 (mulI .i64 p1 60000)) 86400000) 1) p0.f4)))])))) o_0 72) ?_
    refine co 49 [] (h131 p0 z0.2) (fun x1 => ?_)
    refine se (mkE (s_0.append ((10, I z0.2) :: [(50, B (!x1))])) o_0 72) ?_
    refine pN ?_
    refine pS ?_
    refine gC 50 (!x1) ?_ ?_
    · refine gX 1 ?_
      refine pF ?_
      refine pO ?_
      refine pH ?_
      refine pN ?_
      refine pS ?_
      refine gR 8 (rg Tryz.f111 8) ?_
      refine se (mkE (s_0.append [(10, I (addI .i64 z0.2 1))]) o_0 72) ?_
      exact pL
    · refine gK ?_
      refine pN ?_
      refine pS ?_
      refine gS 11 ?_
      refine gR 10 (rg Tryz.f111 10) ?_
      refine sg 3 (mkE ((53, I z0.2) :: ((52, I p1) :: ((51, a136 p0) :: (s_0.append ((10, I z0.2) :: [(50, B (!x1))]))))) o_0 72) ?_
      refine co 54 [] (h132 p0 p1 z0.2) (fun x2 => ?_)
      refine se (mkE (s_0.append ((10, I z0.2) :: [(11, .ba 88 0)])) (o_0.append [(88, .box [I x2.f0, I x2.f1] false)]) 72) ?_
      refine pN ?_
      refine pS ?_
      refine gS 0 ?_
      refine gR 11 (rg Tryz.f111 11) ?_
      refine sg 6 (mkE ((60, B (ltI x2.f0 p2.f1)) :: ((59, B (ltI x2.f0 p2.f1)) :: ((58, I p2.f1) :: ((57, .ba 40 1) :: ((56, I x2.f0) :: ((55, .ba 88 0) :: (s_0.append ((10, I z0.2) :: [(11, .ba 88 0)])))))))) (o_0.append [(88, .box [I x2.f0, I x2.f1] false)]) 72) ?_
      refine sb 60 (ltI x2.f0 p2.f1) ?_ ?_
      · refine se (mkE (s_0.append ((10, I z0.2) :: ((11, .ba 88 0) :: [(66, B (ltI p2.f0 x2.f1))]))) (o_0.append [(88, .box [I x2.f0, I x2.f1] false)]) 72) ?_
        refine pN ?_
        refine pS ?_
        refine gC 66 (ltI p2.f0 x2.f1) ?_ ?_
        · refine gR 12 (rg Tryz.f111 12) ?_
          refine sg 3 (mkE ((69, .own 552 0) :: ((68, a92 x2) :: ((67, .own 56 0) :: (s_0.append ((10, I z0.2) :: ((11, .ba 88 0) :: [(66, B (ltI p2.f0 x2.f1))])))))) ((552, RR 93 2 a92 ([x2] : List S92) 0 false) :: (o_0.append [(88, .box [I x2.f0, I x2.f1] false)])) 72) ?_
          refine mo (some 70) (apO 108 93 2 16 56 a92 0 [552] (y := .own 552 0) (l2 := ([x2] : List S92))) (fun x3 => ?_)
          refine se (mkE (s_1.append [(10, I z0.2)]) (o_1.append [(56, RR 93 2 a92 x3 1 false)]) 72) ?_
          refine pB ?_
          refine pN ?_
          refine pS ?_
          refine gR 8 (rg Tryz.f111 8) ?_
          refine se (mkE (s_1.append [(10, I (addI .i64 z0.2 1))]) (o_1.append [(56, RR 93 2 a92 x3 1 false)]) 72) ?_
          exact pL
        · refine gK ?_
          refine pB ?_
          refine pN ?_
          refine pS ?_
          refine gR 8 (rg Tryz.f111 8) ?_
          refine se (mkE (s_0.append [(10, I (addI .i64 z0.2 1))]) o_0 72) ?_
          exact pL
      · refine se (mkE (s_0.append ((10, I z0.2) :: ((11, .ba 88 0) :: [(66, B false)]))) (o_0.append [(88, .box [I x2.f0, I x2.f1] false)]) 72) ?_
        refine pN ?_
        refine pS ?_
        refine gF (.tmp 66) ?_
        refine gK ?_
        refine pB ?_
        refine pN ?_
        refine pS ?_
        refine gR 8 (rg Tryz.f111 8) ?_
        refine se (mkE (s_0.append [(10, I (addI .i64 z0.2 1))]) o_0 72) ?_
        exact pL
  · refine gX 0 ?_
    exact pL
noncomputable def T111 (p0 : S136) (p1 : Int) (p2 : S92) : Option (List S92) := (bif p0.f12 then (some []) else (bif (leI p2.f1 p2.f0) then (some []) else ((iter (L111_7 p0 p1 p2) ([], (maxI (subI .i64 (quoI .i64 (addI .i64 p2.f0 (mulI .i64 p1 60000)) 86400000) 2) p0.f3))).bind fun y4 => (some y4.2.2))))
theorem B111 (C : Callee) (h131 : ∀ (p0 : S136) (p1 : Int), C 131 [a136 p0, I p1] = (T131 p0 p1).map B) (h132 : ∀ (p0 : S136) (p1 : Int) (p2 : Int), C 132 [a136 p0, I p1, I p2] = (T132 p0 p1 p2).map a92) (p0 : S136) (p1 : Int) (p2 : S92) : runs Tryz.prog C (cfg.fn 111) (finFn Tryz.prog (cfg.fn 111).byval Tryz.f111) [] (execA Tryz.prog C (cfg.fn 111) (nr Tryz.f111 []) (frame0 [a136 p0, I p1, a92 p2] 72 false)) = (T111 p0 p1 p2).map (fun l => AV.fr 93 2 (List.map a92 l)) := by
  unfold T111
  let s_0 : List (Nat × AV) := [(1, I p1), (3, .ba 24 0), (5, .ba 40 0)]
  let s_1 : List (Nat × AV) := [(9, I (addI .i64 (quoI .i64 (addI .i64 p2.f1 (mulI .i64 p1 60000)) 86400000) 1))]
  let o_0 : List (Nat × AObj) := [(24, .box [S p0.f0, S p0.f1, I p0.f2, I p0.f3, I p0.f4, I p0.f5, I p0.f6, LL I p0.f7, I p0.f8, I p0.f9, I p0.f10, LL S p0.f11, B p0.f12] false), (40, .box [I p2.f0, I p2.f1] false)]
  refine gS 1 ?_
  refine gR 0 (rg Tryz.f111 0) ?_
  refine se (mkE s_0 o_0 72) ?_
  refine pN ?_
  refine pS ?_
  refine gS 2 ?_
  refine gR 1 (rg Tryz.f111 1) ?_
  refine se (mkE (s_0.append [(7, .nils)]) o_0 72) ?_
  refine pN ?_
  refine pS ?_
  refine gS 4 ?_
  refine gS 0 ?_
  refine gR 2 (rg Tryz.f111 2) ?_
  refine sg 3 (mkE ((14, B p0.f12) :: ((13, B p0.f12) :: ((12, .ba 24 12) :: (s_0.append [(7, .nils)])))) o_0 72) ?_
  refine sb 14 p0.f12 ?_ ?_
  · refine se (mkE (s_0.append ((7, .nils) :: [(20, B true)])) o_0 72) ?_
    refine pN ?_
    refine pS ?_
    refine gT (.tmp 20) ?_
    refine gS 0 ?_
    refine gR 3 (rg Tryz.f111 3) ?_
    refine se (mkE [(6, .nils)] [] 72) ?_
    refine pN ?_
    refine pS ?_
    refine gE ?_
    exact pL
  · refine se (mkE (s_0.append ((7, .nils) :: [(20, B (leI p2.f1 p2.f0))])) o_0 72) ?_
    refine pN ?_
    refine pS ?_
    refine gC 20 (leI p2.f1 p2.f0) ?_ ?_
    · refine gS 0 ?_
      refine gR 3 (rg Tryz.f111 3) ?_
      refine se (mkE [(6, .nils)] [] 72) ?_
      refine pN ?_
      refine pS ?_
      refine gE ?_
      exact pL
    · refine gK ?_
      refine pN ?_
      refine pS ?_
      refine gS 5 ?_
      refine gR 4 (rg Tryz.f111 4) ?_
      refine se (mkE (s_0.append ((7, .nils) :: [(8, I (subI .i64 (quoI .i64 (addI .i64 p2.f0 (mulI .i64 p1 60000)) 86400000) 2))])) o_0 72) ?_
      refine pN ?_
      refine pS ?_
      refine gS 6 ?_
      refine gR 5 (rg Tryz.f111 5) ?_
      refine se (mkE (s_0.append ((7, .nils) :: ((8, I (subI .i64 (quoI .i64 (addI .i64 p2.f0 (mulI .i64 p1 60000)) 86400000) 2)) :: s_1))) o_0 72) ?_
      refine pN ?_
      refine pS ?_
      refine gS 13 ?_
      refine gS 7 ?_
      refine gR 6 (rg Tryz.f111 6) ?_
      refine se (mkE (s_0.append ((7, .nils) :: (s_1.append [(10, I (maxI (subI .i64 (quoI .i64 (addI .i64 p2.f0 (mulI .i64 p1 60000)) 86400000) 2) p0.f3))]))) o_0 72) ?_
      refine pN ?_
      refine pS ?_
      refine gB 0 ?_
      refine lo [(1, none), (3, none), (5, none), (7, some (93, 2)), (9, none), (10, none)] [] (L111_7 p0 p1 p2) (fun z0 : ((List S92) × Int) => (mkE (s_0.append ((7, .own 56 0) :: (s_1.append [(10, I z0.2)]))) (o_0.append [(56, RR 93 2 a92 z0.1 0 false)]) 72)) (fun (x : (Int × Bool × (List S92))) => (.exit 0, (mkE (s_0.append ((7, .own 56 0) :: (s_1.append ((10, I x.1) :: [(44, B x.2.1)])))) (o_0.append [(56, RR 93 2 a92 x.2.2 0 false)]) 72))) ([], (maxI (subI .i64 (quoI .i64 (addI .i64 p2.f0 (mulI .i64 p1 60000)) 86400000) 2) p0.f3)) (fun z => L111_7_ok C h131 h132 p0 p1 p2 z) ?_
      intro y4
      refine pH ?_
      refine pN ?_
      refine pS ?_
      refine gS 0 ?_
      refine gR 13 (rg Tryz.f111 13) ?_
      refine se (mkE [(6, .own 56 0)] [(56, RR 93 2 a92 y4.2.2 0 false)] 72) ?_
      refine pN ?_
      refine pS ?_
      refine gE ?_
      exact pL
theorem F111 (m : Nat) (hm : 5 ≤ m) (p0 : S136) (p1 : Int) (p2 : S92) : callA Tryz.prog cfg m 111 [a136 p0, I p1, a92 p2] = (T111 p0 p1 p2).map (fun l => AV.fr 93 2 (List.map a92 l)) := by
  obtain ⟨q, rfl⟩ : ∃ q, m = q + 1 := ⟨m - 1, by omega⟩
  exact (callA_body (fn := Tryz.f111) (c := body_ Tryz.f111) q _ (by kernel_rfl) (by kernel_rfl) (by kernel_rfl)).trans (B111 _ (fun p0 p1 => F131 q (by omega) p0 p1) (fun p0 p1 p2 => F132 q (by omega) p0 p1 p2) p0 p1 p2)

noncomputable def T112 (p0 : S92) (p1 : S92) : Option S92 := (some (S92.mk (maxI p0.f0 p1.f0) (minI p0.f1 p1.f1)))
theorem B112 (C : Callee) (p0 : S92) (p1 : S92) : runs Tryz.prog C (cfg.fn 112) (finFn Tryz.prog (cfg.fn 112).byval Tryz.f112) [] (execA Tryz.prog C (cfg.fn 112) (nr Tryz.f112 []) (frame0 [a92 p0, a92 p1] 16 false)) = (T112 p0 p1).map a92 := by
  unfold T112
  refine gS 1 ?_
  refine gR 0 (rg Tryz.f112 0) ?_
  refine se (mkE [(2, .ba 16 0), (3, .ba 24 0), (4, .ba 32 0)] [(16, .box [I p0.f0, I p0.f1] false), (24, .box [I p1.f0, I p1.f1] false), (32, .box [I 0, I 0] false)] 16) ?_
  refine pN ?_
  refine pS ?_
  refine gS 0 ?_
  refine gR 1 (rg Tryz.f112 1) ?_
  refine se (mkE [(4, .ba 32 0)] [(32, .box [I (maxI p0.f0 p1.f0), I (minI p0.f1 p1.f1)] false)] 16) ?_
  refine pN ?_
  refine pS ?_
  refine gE ?_
  exact pL
theorem F112 (m : Nat) (hm : 1 ≤ m) (p0 : S92) (p1 : S92) : callA Tryz.prog cfg m 112 [a92 p0, a92 p1] = (T112 p0 p1).map a92 := by
  obtain ⟨q, rfl⟩ : ∃ q, m = q + 1 := ⟨m - 1, by omega⟩
  exact (callA_body (fn := Tryz.f112) (c := body_ Tryz.f112) q _ (by kernel_rfl) (by kernel_rfl) (by kernel_rfl)).trans (B112 _ p0 p1)

noncomputable def L67_11 (p2 : S92) (x4 : (List S92)) (z0 : ((List S92) × Int)) : Option (((List S92) × Int) ⊕ (Int × Bool × (List S92))) := (bif (ltI z0.2 (lenL x4)) then ((idxO (List.length z0.1) z0.2).bind fun x5 => ((getN z0.1 x5).bind fun x6 => ((T112 x6 p2).bind fun x7 => ((idxO (List.length z0.1) z0.2).bind fun x8 => ((getN z0.1 x8).bind fun x9 => (some (.inl ((List.set z0.1 x8 x7), (addI .i64 z0.2 1))))))))) else (some (.inr (z0.2, (ltI z0.2 (lenL x4)), z0.1))))
theorem L67_11_ok (C : Callee) (h112 : ∀ (p0 : S92) (p1 : S92), C 112 [a92 p0, a92 p1] = (T112 p0 p1).map a92) (p2 : S92) (x4 : (List S92)) (z0 : ((List S92) × Int)) : runs Tryz.prog C (cfg.fn 67) (finLoop ((cfg.fn 67).keep 11) ((cfg.fn 67).al 11)) [] (execA Tryz.prog C (cfg.fn 67) (nr Tryz.f67 [false, false, true, false, true, true, true, true, true]) ((fun z0 : ((List S92) × Int) => (mkE [(30, .own 80 0), (5, .ba 40 0), (10, .own 80 0), (31, I (lenL x4)), (32, I z0.2)] [(40, .box [I p2.f0, I p2.f1] false), (80, RR 93 2 a92 z0.1 0 false)] 45)) z0)) = (L67_11 p2 x4 z0).map (Sum.elim (fun z => .inl ((fun z0 : ((List S92) × Int) => (mkE [(30, .own 80 0), (5, .ba 40 0), (10, .own 80 0), (31, I (lenL x4)), (32, I z0.2)] [(40, .box [I p2.f0, I p2.f1] false), (80, RR 93 2 a92 z0.1 0 false)] 45)) z)) (fun x => .inr ((fun (x : (Int × Bool × (List S92))) => (.exit 0, (mkE [(5, .ba 40 0), (10, .own 80 0), (30, .own 80 0), (31, I (lenL x4)), (32, I x.1), (33, B x.2.1)] [(40, .box [I p2.f0, I p2.f1] false), (80, RR 93 2 a92 x.2.2 0 false)] 45))) x))) := by
  unfold L67_11
  let s_0 : List (Nat × AV) := [(5, .ba 40 0), (10, .own 80 0), (30, .own 80 0), (31, I (lenL x4))]
  let o_0 : List (Nat × AObj) := [(40, .box [I p2.f0, I p2.f1] false), (80, RR 93 2 a92 z0.1 0 false)]
  refine gS 0 ?_
  refine gR 11 (rg Tryz.f67 11) ?_
  refine se (mkE (s_0.append ((32, I z0.2) :: [(33, B (ltI z0.2 (lenL x4)))])) o_0 45) ?_
  refine pN ?_
  refine pS ?_
  refine gS 12 ?_
  refine gC 33 (ltI z0.2 (lenL x4)) ?_ ?_
  · refine gK ?_
    refine pN ?_
    refine pS ?_
    refine gS 14 ?_
    refine gB 1 ?_
    refine gS 13 ?_
    refine gR 12 (rg Tryz.f67 12) ?_
    refine sg 1 (mkE ((34, I z0.2) :: (s_0.append ((32, I z0.2) :: [(33, B (ltI z0.2 (lenL x4)))]))) o_0 45) ?_
    refine vo 35 (addrOE 108 93 2 80 0 false a92 .i64 z0.1 z0.2) (fun x5 => ?_)
    refine vo 36 (loadOE 93 80 0 x5 0 93 2 2 true false a92 (fun q : S92 => a92 q) z0.1) (fun x6 => ?_)
    refine se (mkE [(5, .ba 40 0), (10, .own 80 0), (11, I z0.2), (12, .ba 96 0), (30, .own 80 0), (31, I (lenL x4)), (32, I z0.2)] (o_0.append [(96, .box [I x6.f0, I x6.f1] false)]) 45) ?_
    refine pN ?_
    refine pS ?_
    refine gR 13 (rg Tryz.f67 13) ?_
    refine sg 4 (mkE [(40, a92 p2), (39, a92 x6), (38, I z0.2), (37, .own 80 0), (5, .ba 40 0), (10, .own 80 0), (11, I z0.2), (12, .ba 96 0), (30, .own 80 0), (31, I (lenL x4)), (32, I z0.2)] (o_0.append [(96, .box [I x6.f0, I x6.f1] false)]) 45) ?_
    refine co 41 [] (h112 x6 p2) (fun x7 => ?_)
    refine vo 42 (addrOE 108 93 2 80 0 false a92 .i64 z0.1 z0.2) (fun x8 => ?_)
    refine mo none (stO 93 2 80 0 x8 0 a92 z0.1 [] [I x7.f0, I x7.f1] (a92 x7) (fun q : S92 => x7) 93 (.tmp 42) (.tmp 41) 2) (fun x9 => ?_)
    refine se (mkE (s_0.append [(32, I z0.2)]) [(40, .box [I p2.f0, I p2.f1] false), (80, RR 93 2 a92 (List.set z0.1 x8 x7) 0 false)] 45) ?_
    refine pB ?_
    refine pN ?_
    refine pS ?_
    refine gR 14 (rg Tryz.f67 14) ?_
    refine se (mkE (s_0.append [(32, I (addI .i64 z0.2 1))]) [(40, .box [I p2.f0, I p2.f1] false), (80, RR 93 2 a92 (List.set z0.1 x8 x7) 0 false)] 45) ?_
    exact pL
  · refine gX 0 ?_
    exact pL
noncomputable def T67 (p0 : S136) (p1 : Int) (p2 : S92) : Option ((List S92) × Int) := ((T109 ([p0] : List S136)).bind fun x1 => (bif (neI x1 0) then (some ([], x1)) else ((T70 p1 (-1440) 1440).bind fun x2 => (bif x2 then (some ([], 1)) else ((T110 p2).bind fun x3 => (bif (neI x3 0) then (some ([], x3)) else ((T111 p0 p1 p2).bind fun x4 => ((iter (L67_11 p2 x4) (x4, 0)).bind fun y10 => (some (y10.2.2, 0))))))))))
theorem B67 (C : Callee) (h109 : ∀ (p0 : (List S136)), C 109 [LL a136 p0] = (T109 p0).map I) (h110 : ∀ (p0 : S92), C 110 [a92 p0] = (T110 p0).map I) (h111 : ∀ (p0 : S136) (p1 : Int) (p2 : S92), C 111 [a136 p0, I p1, a92 p2] = (T111 p0 p1 p2).map (fun l => AV.fr 93 2 (List.map a92 l))) (h112 : ∀ (p0 : S92) (p1 : S92), C 112 [a92 p0, a92 p1] = (T112 p0 p1).map a92) (h70 : ∀ (p0 : Int) (p1 : Int) (p2 : Int), C 70 [I p0, I p1, I p2] = (T70 p0 p1 p2).map B) (p0 : S136) (p1 : Int) (p2 : S92) : runs Tryz.prog C (cfg.fn 67) (finFn Tryz.prog (cfg.fn 67).byval Tryz.f67) [] (execA Tryz.prog C (cfg.fn 67) (nr Tryz.f67 []) (frame0 [a136 p0, I p1, a92 p2] 45 false)) = (T67 p0 p1 p2).map (fun r => AV.tup [(fun l => AV.fr 93 2 (List.map a92 l)) r.1, I r.2]) := by
  unfold T67
  let s_0 : List (Nat × AV) := [(1, I p1), (3, .ba 24 0), (5, .ba 40 0)]
  let o_0 : List (Nat × AObj) := [(24, .box [S p0.f0, S p0.f1, I p0.f2, I p0.f3, I p0.f4, I p0.f5, I p0.f6, LL I p0.f7, I p0.f8, I p0.f9, I p0.f10, LL S p0.f11, B p0.f12] false), (40, .box [I p2.f0, I p2.f1] false)]
  refine gS 1 ?_
  refine gR 0 (rg Tryz.f67 0) ?_
  refine se (mkE s_0 o_0 45) ?_
  refine pN ?_
  refine pS ?_
  refine gS 4 ?_
  refine gS 2 ?_
  refine gR 1 (rg Tryz.f67 1) ?_
  refine sg 2 (mkE ((14, .own 112 0) :: ((13, a136 p0) :: s_0)) ((112, RR 137 13 a136 ([p0] : List S136) 0 false) :: o_0) 45) ?_
  refine co 15 [112] (h109 ([p0] : List S136)) (fun x1 => ?_)
  refine se (mkE (s_0.append [(8, I x1)]) o_0 45) ?_
  refine pN ?_
  refine pS ?_
  refine gS 0 ?_
  refine gR 2 (rg Tryz.f67 2) ?_
  refine se (mkE (s_0.append ((8, I x1) :: [(17, B (neI x1 0))])) o_0 45) ?_
  refine pN ?_
  refine pS ?_
  refine gC 17 (neI x1 0) ?_ ?_
  · refine gS 0 ?_
    refine gR 3 (rg Tryz.f67 3) ?_
    refine se (mkE [(6, .nils), (7, I x1)] [] 45) ?_
    refine pN ?_
    refine pS ?_
    refine gE ?_
    exact pL
  · refine gK ?_
    refine pN ?_
    refine pS ?_
    refine gS 6 ?_
    refine gS 0 ?_
    refine gR 4 (rg Tryz.f67 4) ?_
    refine sg 1 (mkE ((19, I p1) :: (s_0.append ((8, I x1) :: [(17, B (neI x1 0))]))) o_0 45) ?_
    refine co 20 [] (h70 p1 (-1440) 1440) (fun x2 => ?_)
    refine se (mkE (s_0.append [(20, B x2)]) o_0 45) ?_
    refine pN ?_
    refine pS ?_
    refine gC 20 x2 ?_ ?_
    · refine gS 0 ?_
      refine gR 5 (rg Tryz.f67 5) ?_
      refine se (mkE [(6, .nils), (7, I 1)] [] 45) ?_
      refine pN ?_
      refine pS ?_
      refine gE ?_
      exact pL
    · refine gK ?_
      refine pN ?_
      refine pS ?_
      refine gS 9 ?_
      refine gS 7 ?_
      refine gR 6 (rg Tryz.f67 6) ?_
      refine sg 1 (mkE ((21, a92 p2) :: (s_0.append [(20, B x2)])) o_0 45) ?_
      refine co 22 [] (h110 p2) (fun x3 => ?_)
      refine se (mkE (s_0.append [(9, I x3)]) o_0 45) ?_
      refine pN ?_
      refine pS ?_
      refine gS 0 ?_
      refine gR 7 (rg Tryz.f67 7) ?_
      refine se (mkE (s_0.append ((9, I x3) :: [(24, B (neI x3 0))])) o_0 45) ?_
      refine pN ?_
      refine pS ?_
      refine gC 24 (neI x3 0) ?_ ?_
      · refine gS 0 ?_
        refine gR 8 (rg Tryz.f67 8) ?_
        refine se (mkE [(6, .nils), (7, I x3)] [] 45) ?_
        refine pN ?_
        refine pS ?_
        refine gE ?_
        exact pL
      · refine gK ?_
        refine pN ?_
        refine pS ?_
        refine gS 10 ?_
        refine gR 9 (rg Tryz.f67 9) ?_
        refine sg 3 (mkE ((28, a92 p2) :: ((27, I p1) :: ((26, a136 p0) :: (s_0.append ((9, I x3) :: [(24, B (neI x3 0))]))))) o_0 45) ?_
        refine co 29 [] (h111 p0 p1 p2) (fun x4 => ?_)
        refine se (mkE [(5, .ba 40 0), (10, .own 232 0)] [(40, .box [I p2.f0, I p2.f1] false), (232, RR 93 2 a92 x4 0 false)] 45) ?_
        refine pN ?_
        refine pS ?_
        refine gS 15 ?_
        refine gS 11 ?_
        refine gR 10 (rg Tryz.f67 10) ?_
        refine sg 1 (mkE [(30, .own 232 0), (5, .ba 40 0), (10, .own 232 0)] [(40, .box [I p2.f0, I p2.f1] false), (232, RR 93 2 a92 x4 0 false)] 45) ?_
        refine eo 31 (I (lenL x4)) (lenOE 108 93 2 a92 x4) ?_
        refine se (mkE [(5, .ba 40 0), (10, .own 232 0), (30, .own 232 0), (31, I (lenL x4)), (32, I 0)] [(40, .box [I p2.f0, I p2.f1] false), (232, RR 93 2 a92 x4 0 false)] 45) ?_
        refine pN ?_
        refine pS ?_
        refine gB 0 ?_
        refine lo [(5, none), (10, some (93, 2)), (31, none), (32, none)] [(30, 10)] (L67_11 p2 x4) (fun z0 : ((List S92) × Int) => (mkE [(30, .own 80 0), (5, .ba 40 0), (10, .own 80 0), (31, I (lenL x4)), (32, I z0.2)] [(40, .box [I p2.f0, I p2.f1] false), (80, RR 93 2 a92 z0.1 0 false)] 45)) (fun (x : (Int × Bool × (List S92))) => (.exit 0, (mkE [(5, .ba 40 0), (10, .own 80 0), (30, .own 80 0), (31, I (lenL x4)), (32, I x.1), (33, B x.2.1)] [(40, .box [I p2.f0, I p2.f1] false), (80, RR 93 2 a92 x.2.2 0 false)] 45))) (x4, 0) (fun z => L67_11_ok C h112 p2 x4 z) ?_
        intro y10
        refine pH ?_
        refine pN ?_
        refine pS ?_
        refine gS 0 ?_
        refine gR 15 (rg Tryz.f67 15) ?_
        refine se (mkE [(6, .own 80 0), (7, I 0)] [(80, RR 93 2 a92 y10.2.2 0 false)] 45) ?_
        refine pN ?_
        refine pS ?_
        refine gE ?_
        exact pL
theorem F67 (m : Nat) (hm : 6 ≤ m) (p0 : S136) (p1 : Int) (p2 : S92) : callA Tryz.prog cfg m 67 [a136 p0, I p1, a92 p2] = (T67 p0 p1 p2).map (fun r => AV.tup [(fun l => AV.fr 93 2 (List.map a92 l)) r.1, I r.2]) := by
  obtain ⟨q, rfl⟩ : ∃ q, m = q + 1 := ⟨m - 1, by omega⟩
  exact (callA_body (fn := Tryz.f67) (c := body_ Tryz.f67) q _ (by kernel_rfl) (by kernel_rfl) (by kernel_rfl)).trans (B67 _ (fun p0 => F109 q (by omega) p0) (fun p0 => F110 q (by omega) p0) (fun p0 p1 p2 => F111 q (by omega) p0 p1 p2) (fun p0 p1 => F112 q (by omega) p0 p1) (fun p0 p1 p2 => F70 q (by omega) p0 p1 p2) p0 p1 p2)

noncomputable def T123 (p0 : S92) : Option Bool := (bif (leI 0 p0.f0) then (bif (ltI p0.f0 p0.f1) then (some (leI p0.f1 345686400000)) else (some false)) else (some false))
theorem B123 (C : Callee) (p0 : S92) : runs Tryz.prog C (cfg.fn 123) (finFn Tryz.prog (cfg.fn 123).byval Tryz.f123) [] (execA Tryz.prog C (cfg.fn 123) (nr Tryz.f123 []) (frame0 [a92 p0] 18 false)) = (T123 p0).map B := by
  unfold T123
  refine gS 1 ?_
  refine gR 0 (rg Tryz.f123 0) ?_
  refine se (mkE [(1, .ba 8 0)] [(8, .box [I p0.f0, I p0.f1] false)] 18) ?_
  refine pN ?_
  refine pS ?_
  refine gS 0 ?_
  refine gR 1 (rg Tryz.f123 1) ?_
  refine sg 4 (mkE [(6, B (leI 0 p0.f0)), (5, B (leI 0 p0.f0)), (4, I p0.f0), (3, .ba 8 0), (1, .ba 8 0)] [(8, .box [I p0.f0, I p0.f1] false)] 18) ?_
  refine sb 6 (leI 0 p0.f0) ?_ ?_
  · refine sg 11 (mkE [(13, B (ltI p0.f0 p0.f1)), (12, B (ltI p0.f0 p0.f1)), (11, B (ltI p0.f0 p0.f1)), (10, I p0.f1), (9, .ba 8 1), (8, I p0.f0), (7, .ba 8 0), (6, B true), (6, B (leI 0 p0.f0)), (5, B (leI 0 p0.f0)), (4, I p0.f0), (3, .ba 8 0), (1, .ba 8 0)] [(8, .box [I p0.f0, I p0.f1] false)] 18) ?_
    refine sb 13 (ltI p0.f0 p0.f1) ?_ ?_
    · refine se (mkE [(2, B (leI p0.f1 345686400000))] [] 18) ?_
      refine pN ?_
      refine pS ?_
      refine gE ?_
      exact pL
    · refine se (mkE [(2, B false)] [] 18) ?_
      refine pN ?_
      refine pS ?_
      refine gE ?_
      exact pL
  · refine se (mkE [(2, B false)] [] 18) ?_
    refine pN ?_
    refine pS ?_
    refine gE ?_
    exact pL
theorem F123 (m : Nat) (hm : 1 ≤ m) (p0 : S92) : callA Tryz.prog cfg m 123 [a92 p0] = (T123 p0).map B := by
  obtain ⟨q, rfl⟩ : ∃ q, m = q + 1 := ⟨m - 1, by omega⟩
  exact (callA_body (fn := Tryz.f123) (c := body_ Tryz.f123) q _ (by kernel_rfl) (by kernel_rfl) (by kernel_rfl)).trans (B123 _ p0)

noncomputable def T124 (p0 : (List ByteArray)) : Option Int := (bif (ltI 20 (lenL p0)) then (some 2) else ((T139 p0).bind fun x1 => (some x1)))
theorem B124 (C : Callee) (h139 : ∀ (p0 : (List ByteArray)), C 139 [LL S p0] = (T139 p0).map I) (p0 : (List ByteArray)) : runs Tryz.prog C (cfg.fn 124) (finFn Tryz.prog (cfg.fn 124).byval Tryz.f124) [] (execA Tryz.prog C (cfg.fn 124) (nr Tryz.f124 []) (frame0 [LL S p0] 8 false)) = (T124 p0).map I := by
  unfold T124
  refine gS 1 ?_
  refine gR 0 (rg Tryz.f124 0) ?_
  refine se (mkE [(0, LL S p0)] [] 8) ?_
  refine pN ?_
  refine pS ?_
  refine gS 3 ?_
  refine gS 0 ?_
  refine gR 1 (rg Tryz.f124 1) ?_
  refine sg 1 (mkE [(3, LL S p0), (0, LL S p0)] [] 8) ?_
  refine eo 4 (I (lenL p0)) (lenE 61 S p0) ?_
  refine se (mkE [(0, LL S p0), (5, B (ltI 20 (lenL p0)))] [] 8) ?_
  refine pN ?_
  refine pS ?_
  refine gC 5 (ltI 20 (lenL p0)) ?_ ?_
  · refine gS 0 ?_
    refine gR 2 (rg Tryz.f124 2) ?_
    refine se (mkE [(2, I 2)] [] 8) ?_
    refine pN ?_
    refine pS ?_
    refine gE ?_
    exact pL
  · refine gK ?_
    refine pN ?_
    refine pS ?_
    refine gS 0 ?_
    refine gR 3 (rg Tryz.f124 3) ?_
    refine sg 1 (mkE [(6, LL S p0), (0, LL S p0), (5, B (ltI 20 (lenL p0)))] [] 8) ?_
    refine co 7 [] (h139 p0) (fun x1 => ?_)
    refine se (mkE [(2, I x1)] [] 8) ?_
    refine pN ?_
    refine pS ?_
    refine gE ?_
    exact pL
theorem F124 (m : Nat) (hm : 3 ≤ m) (p0 : (List ByteArray)) : callA Tryz.prog cfg m 124 [LL S p0] = (T124 p0).map I := by
  obtain ⟨q, rfl⟩ : ∃ q, m = q + 1 := ⟨m - 1, by omega⟩
  exact (callA_body (fn := Tryz.f124) (c := body_ Tryz.f124) q _ (by kernel_rfl) (by kernel_rfl) (by kernel_rfl)).trans (B124 _ (fun p0 => F139 q (by omega) p0) p0)

end Go.Abs.TKQ
