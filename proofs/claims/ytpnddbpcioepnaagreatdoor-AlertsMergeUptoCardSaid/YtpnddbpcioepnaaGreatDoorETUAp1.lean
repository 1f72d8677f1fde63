import Derived.Test.YtpnddbpcioepnaaGreatDoorETUA0
set_option maxRecDepth 100000
set_option linter.unusedVariables false
namespace Go.Abs.TUA
open Go.RowKit Go.Proofs Go.Abs
theorem F46 (m : Nat) (hm : 1 ≤ m) (p0 : (List ByteArray)) : callA Tryz.prog cfg m 46 [LL S p0] = (appO 16 ([] : List ByteArray) p0).map (fun l => AV.fr 9 1 (List.map S l)) := by
  obtain ⟨q, rfl⟩ : ∃ q, m = q + 1 := ⟨m - 1, by omega⟩
  exact (callA_leaf (L := (leafClone Tryz.prog 9 1 16)) _ _ (by kernel_rfl)).trans (clone_leaf S _ _ (fun _ => by kernel_rfl))

theorem F47 (m : Nat) (hm : 1 ≤ m) (p0 : (List S64)) : callA Tryz.prog cfg m 47 [LL a64 p0] = (appO 32 ([] : List S64) p0).map (fun l => AV.fr 65 4 (List.map a64 l)) := by
  obtain ⟨q, rfl⟩ : ∃ q, m = q + 1 := ⟨m - 1, by omega⟩
  exact (callA_leaf (L := (leafClone Tryz.prog 65 4 32)) _ _ (by kernel_rfl)).trans (clone_leaf a64 _ _ (fun _ => by kernel_rfl))

noncomputable def L17_3 (p0 : (List S46)) (z0 : ((List S46) × Int)) : Option (((List S46) × Int) ⊕ (Int × Bool × (List S46))) := (bif (ltI z0.2 (lenL p0)) then ((listAt p0 z0.2).bind fun x1 => ((appO 16 ([] : List ByteArray) x1.f3).bind fun x2 => ((appO 32 ([] : List S64) x1.f7).bind fun x3 => ((appO 128 z0.1 ([(S46.mk x1.f0 x1.f1 x1.f2 x2 x1.f4 x1.f5 x1.f6 x3 x1.f8)] : List S46)).bind fun x4 => (some (.inl (x4, (addI .i64 z0.2 1)))))))) else (some (.inr (z0.2, (ltI z0.2 (lenL p0)), z0.1))))
theorem L17_3_ok (C : Callee) (h46 : ∀ (p0 : (List ByteArray)), C 46 [LL S p0] = (appO 16 ([] : List ByteArray) p0).map (fun l => AV.fr 9 1 (List.map S l))) (h47 : ∀ (p0 : (List S64)), C 47 [LL a64 p0] = (appO 32 ([] : List S64) p0).map (fun l => AV.fr 65 4 (List.map a64 l))) (p0 : (List S46)) (z0 : ((List S46) × Int)) : runs Tryz.prog C (cfg.fn 17) (finLoop ((cfg.fn 17).keep 3) ((cfg.fn 17).al 3)) [] (execA Tryz.prog C (cfg.fn 17) (nr Tryz.f17 [false, false, true, false, true, true]) ((fun z0 : ((List S46) × Int) => (mkE [(3, .own 24 0), (6, LL a46 p0), (7, I (lenL p0)), (8, I z0.2)] [(24, RR 47 9 a46 z0.1 0 false)] 26)) z0)) = (L17_3 p0 z0).map (Sum.elim (fun z => .inl ((fun z0 : ((List S46) × Int) => (mkE [(3, .own 24 0), (6, LL a46 p0), (7, I (lenL p0)), (8, I z0.2)] [(24, RR 47 9 a46 z0.1 0 false)] 26)) z)) (fun x => .inr ((fun (x : (Int × Bool × (List S46))) => (.exit 0, (mkE [(3, .own 24 0), (6, LL a46 p0), (7, I (lenL p0)), (8, I x.1), (9, B x.2.1)] [(24, RR 47 9 a46 x.2.2 0 false)] 26))) x))) := by
  unfold L17_3
  let s_0 : List (Nat × AV) := [(3, .own 24 0), (5, .ba 40 0), (6, LL a46 p0), (7, I (lenL p0)), (8, I z0.2)]
  let o_0 : List (Nat × AObj) := [(24, RR 47 9 a46 z0.1 0 false)]
  refine zS 0 3 (mkE [(3, .own 24 0), (6, LL a46 p0), (7, I (lenL p0)), (8, I z0.2), (9, B (ltI z0.2 (lenL p0)))] o_0 26) (gS 4 (gC 9 (ltI z0.2 (lenL p0)) ?_ ?_))
  · refine gK (zP (gS 7 (gB 1 (zR 5 4 (vo 10 (addrE 26 47 9 a46 .i64 p0 z0.2) (fun x1 => ?_))))))
    refine zN (mkE s_0 (o_0.append [(40, .box [S x1.f0, S x1.f1, I x1.f2, LL S x1.f3, I x1.f4, I x1.f5, I x1.f6, LL a64 x1.f7, S x1.f8] false)]) 26) (gS 6 (gD 5 7 (rg Tryz.f17 5) [0, 1, 2, 3, 4, 5, 6, 7, 8, 9] (dg 2 [(some 12, qe (.ba 40 3)), (some 13, qe (LL S x1.f3))] (dc 14 [] (mkE ((13, LL S x1.f3) :: ((12, .ba 40 3) :: s_0)) (o_0.append [(40, .box [S x1.f0, S x1.f1, I x1.f2, LL S x1.f3, I x1.f4, I x1.f5, I x1.f6, LL a64 x1.f7, S x1.f8] false)]) 26) (h46 x1.f3) (fun x2 => ?_)))))
    refine dg 5 [(some 12, qe (.ba 40 3)), (some 13, qe (LL S x1.f3)), (some 14, { e := { val := .own 112 0, news := [(112, RR 9 1 S x2 0 false)] } }), (some 15, qe (.ba 40 7)), (some 16, qe (LL a64 x1.f7))] (dc 17 [] (mkE ((16, LL a64 x1.f7) :: ((15, .ba 40 7) :: ((14, .own 112 0) :: ((13, LL S x1.f3) :: ((12, .ba 40 3) :: s_0))))) ((112, RR 9 1 S x2 0 false) :: (o_0.append [(40, .box [S x1.f0, S x1.f1, I x1.f2, LL S x1.f3, I x1.f4, I x1.f5, I x1.f6, LL a64 x1.f7, S x1.f8] false)])) 26) (h47 x1.f7) (fun x3 => ?_))
    refine dg 7 [(some 12, qe (.ba 40 3)), (some 13, qe (LL S x1.f3)), (some 14, { e := { val := .own 112 0, news := [(112, RR 9 1 S x2 0 false)] } }), (some 15, qe (.ba 40 7)), (some 16, qe (LL a64 x1.f7)), (some 17, { e := { val := .own 136 0, news := [(136, RR 65 4 a64 x3 0 false)] } }), (some 18, qe (.ba 40 3))] (de (mkE ((18, .ba 40 3) :: ((17, .own 136 0) :: ((16, LL a64 x1.f7) :: ((15, .ba 40 7) :: ((14, .own 112 0) :: ((13, LL S x1.f3) :: ((12, .ba 40 3) :: s_0))))))) ((136, RR 65 4 a64 x3 0 false) :: ((112, RR 9 1 S x2 0 false) :: (o_0.append [(40, .box [S x1.f0, S x1.f1, I x1.f2, LL S x1.f3, I x1.f4, I x1.f5, I x1.f6, LL a64 x1.f7, S x1.f8] false)]))) 26) (zN (mkE s_0 (o_0.append ((40, .box [S x1.f0, S x1.f1, I x1.f2, .own 112 0, I x1.f4, I x1.f5, I x1.f6, .own 136 0, S x1.f8] false) :: ((112, RR 9 1 S x2 0 false) :: [(136, RR 65 4 a64 x3 0 false)]))) 26) (gR 6 (rg Tryz.f17 6) (sg 3 (mkE ((22, .own 176 0) :: ((21, .agg [S x1.f0, S x1.f1, I x1.f2, .own 112 0, I x1.f4, I x1.f5, I x1.f6, .own 136 0, S x1.f8]) :: ((20, .own 24 0) :: s_0))) ((176, RR 47 9 a46 ([(S46.mk x1.f0 x1.f1 x1.f2 x2 x1.f4 x1.f5 x1.f6 x3 x1.f8)] : List S46) 0 false) :: ((136, RR 65 4 a64 x3 0 true) :: ((112, RR 9 1 S x2 0 true) :: (o_0.append ((40, .box [S x1.f0, S x1.f1, I x1.f2, .own 112 0, I x1.f4, I x1.f5, I x1.f6, .own 136 0, S x1.f8] false) :: ((112, RR 9 1 S x2 0 false) :: [(136, RR 65 4 a64 x3 0 false)])))))) 26) (mo (some 23) (apO 26 47 9 128 24 a46 0 [176] (y := .own 176 0) (l2 := ([(S46.mk x1.f0 x1.f1 x1.f2 x2 x1.f4 x1.f5 x1.f6 x3 x1.f8)] : List S46))) (fun x4 => ?_))))))
    exact se (mkE [(3, .own 24 1), (6, LL a46 p0), (7, I (lenL p0)), (8, I z0.2)] [(24, RR 47 9 a46 x4 1 false)] 26) (pB (zP (gR 7 (rg Tryz.f17 7) (se (mkE [(3, .own 24 1), (6, LL a46 p0), (7, I (lenL p0)), (8, I (addI .i64 z0.2 1))] [(24, RR 47 9 a46 x4 1 false)] 26) (pL)))))
  · exact gX 0 (pL)
noncomputable def T17 (p0 : (List S46)) : Option (List S46) := ((iter (L17_3 p0) ([], 0)).bind fun y5 => (some y5.2.2))
theorem B17 (C : Callee) (h46 : ∀ (p0 : (List ByteArray)), C 46 [LL S p0] = (appO 16 ([] : List ByteArray) p0).map (fun l => AV.fr 9 1 (List.map S l))) (h47 : ∀ (p0 : (List S64)), C 47 [LL a64 p0] = (appO 32 ([] : List S64) p0).map (fun l => AV.fr 65 4 (List.map a64 l))) (p0 : (List S46)) : runs Tryz.prog C (cfg.fn 17) (finFn Tryz.prog (cfg.fn 17).byval Tryz.f17) [] (execA Tryz.prog C (cfg.fn 17) (nr Tryz.f17 []) (frame0 [LL a46 p0] 26 false)) = (T17 p0).map (fun l => AV.fr 47 9 (List.map a46 l)) := by
  unfold T17
  refine zS 1 0 (mkE [(0, LL a46 p0)] [] 26) (zS 2 1 (mkE [(0, LL a46 p0), (3, .nils)] [] 26) (gS 8 (zR 3 2 (sg 1 (mkE [(6, LL a46 p0), (0, LL a46 p0), (3, .nils)] [] 26) (eo 7 (I (lenL p0)) (lenE 26 a46 p0) (zN (mkE [(3, .nils), (6, LL a46 p0), (7, I (lenL p0)), (8, I 0)] [] 26) (gB 0 (lo [(3, some (47, 9)), (6, none), (7, none), (8, none)] [] (L17_3 p0) (fun z0 : ((List S46) × Int) => (mkE [(3, .own 24 0), (6, LL a46 p0), (7, I (lenL p0)), (8, I z0.2)] [(24, RR 47 9 a46 z0.1 0 false)] 26)) (fun (x : (Int × Bool × (List S46))) => (.exit 0, (mkE [(3, .own 24 0), (6, LL a46 p0), (7, I (lenL p0)), (8, I x.1), (9, B x.2.1)] [(24, RR 47 9 a46 x.2.2 0 false)] 26))) ([], 0) (fun z => L17_3_ok C h46 h47 p0 z) ?_))))))))
  intro y5
  exact pH (zP (zF 0 8 (mkE [(2, .own 24 0)] [(24, RR 47 9 a46 y5.2.2 0 false)] 26)))
theorem F17 (m : Nat) (hm : 2 ≤ m) (p0 : (List S46)) : callA Tryz.prog cfg m 17 [LL a46 p0] = (T17 p0).map (fun l => AV.fr 47 9 (List.map a46 l)) := by
  obtain ⟨q, rfl⟩ : ∃ q, m = q + 1 := ⟨m - 1, by omega⟩
  exact (callA_body (fn := Tryz.f17) (c := body_ Tryz.f17) q _ (by kernel_rfl) (by kernel_rfl) (by kernel_rfl)).trans (B17 _ (fun p0 => F46 q (by omega) p0) (fun p0 => F47 q (by omega) p0) p0)

noncomputable def L108_2 (p0 : ByteArray) (z0 : Int) : Option (Int ⊕ ((Int × Bool) ⊕ Unit)) := (bif (ltI z0 (lenS p0)) then ((byteAt p0 z0).bind fun x1 => (bif (leI 97 x1) then (bif (leI x1 122) then (some (.inl (addI .i64 z0 1))) else (bif (ltI 0 z0) then (bif (leI 48 x1) then (bif (leI x1 57) then (some (.inl (addI .i64 z0 1))) else (bif (eqI x1 45) then (some (.inl (addI .i64 z0 1))) else (bif (!(eqI x1 95)) then (some (.inr (.inr ()))) else (some (.inl (addI .i64 z0 1)))))) else (bif (eqI x1 45) then (some (.inl (addI .i64 z0 1))) else (bif (!(eqI x1 95)) then (some (.inr (.inr ()))) else (some (.inl (addI .i64 z0 1)))))) else (some (.inr (.inr ()))))) else (bif (ltI 0 z0) then (bif (leI 48 x1) then (bif (leI x1 57) then (some (.inl (addI .i64 z0 1))) else (bif (eqI x1 45) then (some (.inl (addI .i64 z0 1))) else (bif (!(eqI x1 95)) then (some (.inr (.inr ()))) else (some (.inl (addI .i64 z0 1)))))) else (bif (eqI x1 45) then (some (.inl (addI .i64 z0 1))) else (bif (!(eqI x1 95)) then (some (.inr (.inr ()))) else (some (.inl (addI .i64 z0 1)))))) else (some (.inr (.inr ())))))) else (some (.inr (.inl (z0, (ltI z0 (lenS p0)))))))
theorem L108_2_ok (C : Callee) (p0 : ByteArray) (z0 : Int) : runs Tryz.prog C (cfg.fn 108) (finLoop ((cfg.fn 108).keep 2) ((cfg.fn 108).al 2)) [] (execA Tryz.prog C (cfg.fn 108) (nr Tryz.f108 [false, false, true, false, true]) ((fun z0 : Int => (mkE [(0, S p0), (3, I z0)] [] 48)) z0)) = (L108_2 p0 z0).map (Sum.elim (fun z => .inl ((fun z0 : Int => (mkE [(0, S p0), (3, I z0)] [] 48)) z)) (fun x => .inr ((Sum.elim (fun (x : (Int × Bool)) => (.exit 0, (mkE [(0, S p0), (3, I x.1), (8, B x.2)] [] 48))) (fun (x : Unit) => (.ret, (mkE [(2, B false)] [] 48)))) x))) := by
  unfold L108_2
  let s_0 : List (Nat × AV) := [(23, B (ltI 0 z0)), (22, B (ltI 0 z0)), (21, I z0), (20, B false)]
  let s_1 : List (Nat × AV) := [(0, S p0), (3, I z0)]
  let s_2 : List (Nat × AV) := [(0, S p0), (3, I (addI .i64 z0 1))]
  let s_3 : List (Nat × AV) := [(19, B false), (18, .und), (17, .und), (16, B false)]
  refine gS 4 (zS 0 2 (mkE (s_1.append [(8, B (ltI z0 (lenS p0)))]) [] 48) (gC 8 (ltI z0 (lenS p0)) ?_ ?_))
  · refine gK (zP (gS 3 (gB 1 (zR 5 4 (sg 2 (mkE ((12, I z0) :: ((11, S p0) :: (s_1.append [(8, B (ltI z0 (lenS p0)))]))) [] 48) (vo 13 (byteE 9 .i64 p0 z0) (fun x1 => ?_)))))))
    refine zN (mkE (s_1.append [(4, U x1)]) [] 48) (zR 0 5 (sg 3 (mkE ((16, B (leI 97 x1)) :: ((15, B (leI 97 x1)) :: ((14, U x1) :: (s_1.append [(4, U x1)])))) [] 48) (sb 16 (leI 97 x1) ?_ ?_)))
    · refine sg 7 (mkE ((20, B (leI x1 122)) :: ((19, B (leI x1 122)) :: ((18, B (leI x1 122)) :: ((17, U x1) :: ((16, B true) :: ((16, B (leI 97 x1)) :: ((15, B (leI 97 x1)) :: ((14, U x1) :: (s_1.append [(4, U x1)]))))))))) [] 48) (sb 20 (leI x1 122) ?_ ?_)
      · exact zN (mkE (s_1.append [(40, B false)]) [] 48) (gF (.tmp 40) (gK (pB (zP (gR 3 (rg Tryz.f108 3) (se (mkE s_2 [] 48) (pL)))))))
      · refine sg 10 (mkE (s_0.append ((20, B (leI x1 122)) :: ((19, B (leI x1 122)) :: ((18, B (leI x1 122)) :: ((17, U x1) :: ((16, B true) :: ((16, B (leI 97 x1)) :: ((15, B (leI 97 x1)) :: ((14, U x1) :: (s_1.append [(4, U x1)])))))))))) [] 48) (sb 23 (ltI 0 z0) ?_ ?_)
        · refine sg 13 (mkE ((26, B (leI 48 x1)) :: ((25, B (leI 48 x1)) :: ((24, U x1) :: ((23, B true) :: (s_0.append ((20, B (leI x1 122)) :: ((19, B (leI x1 122)) :: ((18, B (leI x1 122)) :: ((17, U x1) :: ((16, B true) :: ((16, B (leI 97 x1)) :: ((15, B (leI 97 x1)) :: ((14, U x1) :: (s_1.append [(4, U x1)])))))))))))))) [] 48) (sb 26 (leI 48 x1) ?_ ?_)
          · refine sg 17 (mkE ((30, B (leI x1 57)) :: ((29, B (leI x1 57)) :: ((28, B (leI x1 57)) :: ((27, U x1) :: ((26, B true) :: ((26, B (leI 48 x1)) :: ((25, B (leI 48 x1)) :: ((24, U x1) :: ((23, B true) :: (s_0.append ((20, B (leI x1 122)) :: ((19, B (leI x1 122)) :: ((18, B (leI x1 122)) :: ((17, U x1) :: ((16, B true) :: ((16, B (leI 97 x1)) :: ((15, B (leI 97 x1)) :: ((14, U x1) :: (s_1.append [(4, U x1)]))))))))))))))))))) [] 48) (sb 30 (leI x1 57) ?_ ?_)
            · exact zN (mkE (s_1.append [(40, B false)]) [] 48) (gF (.tmp 40) (gK (pB (zP (gR 3 (rg Tryz.f108 3) (se (mkE s_2 [] 48) (pL)))))))
            · refine sg 21 (mkE ((34, B (eqI x1 45)) :: ((33, B (eqI x1 45)) :: ((32, B (eqI x1 45)) :: ((31, U x1) :: ((30, B false) :: ((30, B (leI x1 57)) :: ((29, B (leI x1 57)) :: ((28, B (leI x1 57)) :: ((27, U x1) :: ((26, B true) :: ((26, B (leI 48 x1)) :: ((25, B (leI 48 x1)) :: ((24, U x1) :: ((23, B true) :: (s_0.append ((20, B (leI x1 122)) :: ((19, B (leI x1 122)) :: ((18, B (leI x1 122)) :: ((17, U x1) :: ((16, B true) :: ((16, B (leI 97 x1)) :: ((15, B (leI 97 x1)) :: ((14, U x1) :: (s_1.append [(4, U x1)])))))))))))))))))))))))) [] 48) (sb 34 (eqI x1 45) ?_ ?_)
              · exact zN (mkE (s_1.append [(40, B false)]) [] 48) (gF (.tmp 40) (gK (pB (zP (gR 3 (rg Tryz.f108 3) (se (mkE s_2 [] 48) (pL)))))))
              · refine zN (mkE (s_1.append [(40, B (!(eqI x1 95)))]) [] 48) (gC 40 (!(eqI x1 95)) ?_ ?_)
                · exact zF 0 6 (mkE [(2, B false)] [] 48)
                · exact gK (pB (zP (gR 3 (rg Tryz.f108 3) (se (mkE s_2 [] 48) (pL)))))
          · refine sg 21 (mkE ((34, B (eqI x1 45)) :: ((33, B (eqI x1 45)) :: ((32, B (eqI x1 45)) :: ((31, U x1) :: ((30, B false) :: ((29, B false) :: ((28, .und) :: ((27, .und) :: ((26, B false) :: ((26, B (leI 48 x1)) :: ((25, B (leI 48 x1)) :: ((24, U x1) :: ((23, B true) :: (s_0.append ((20, B (leI x1 122)) :: ((19, B (leI x1 122)) :: ((18, B (leI x1 122)) :: ((17, U x1) :: ((16, B true) :: ((16, B (leI 97 x1)) :: ((15, B (leI 97 x1)) :: ((14, U x1) :: (s_1.append [(4, U x1)]))))))))))))))))))))))) [] 48) (sb 34 (eqI x1 45) ?_ ?_)
            · exact zN (mkE (s_1.append [(40, B false)]) [] 48) (gF (.tmp 40) (gK (pB (zP (gR 3 (rg Tryz.f108 3) (se (mkE s_2 [] 48) (pL)))))))
            · refine zN (mkE (s_1.append [(40, B (!(eqI x1 95)))]) [] 48) (gC 40 (!(eqI x1 95)) ?_ ?_)
              · exact zF 0 6 (mkE [(2, B false)] [] 48)
              · exact gK (pB (zP (gR 3 (rg Tryz.f108 3) (se (mkE s_2 [] 48) (pL)))))
        · exact zN (mkE (s_1.append [(40, B true)]) [] 48) (gT (.tmp 40) (zF 0 6 (mkE [(2, B false)] [] 48)))
    · refine sg 10 (mkE (s_0.append (s_3.append ((16, B (leI 97 x1)) :: ((15, B (leI 97 x1)) :: ((14, U x1) :: (s_1.append [(4, U x1)])))))) [] 48) (sb 23 (ltI 0 z0) ?_ ?_)
      · refine sg 13 (mkE ((26, B (leI 48 x1)) :: ((25, B (leI 48 x1)) :: ((24, U x1) :: ((23, B true) :: (s_0.append (s_3.append ((16, B (leI 97 x1)) :: ((15, B (leI 97 x1)) :: ((14, U x1) :: (s_1.append [(4, U x1)])))))))))) [] 48) (sb 26 (leI 48 x1) ?_ ?_)
        · refine sg 17 (mkE ((30, B (leI x1 57)) :: ((29, B (leI x1 57)) :: ((28, B (leI x1 57)) :: ((27, U x1) :: ((26, B true) :: ((26, B (leI 48 x1)) :: ((25, B (leI 48 x1)) :: ((24, U x1) :: ((23, B true) :: (s_0.append (s_3.append ((16, B (leI 97 x1)) :: ((15, B (leI 97 x1)) :: ((14, U x1) :: (s_1.append [(4, U x1)]))))))))))))))) [] 48) (sb 30 (leI x1 57) ?_ ?_)
          · exact zN (mkE (s_1.append [(40, B false)]) [] 48) (gF (.tmp 40) (gK (pB (zP (gR 3 (rg Tryz.f108 3) (se (mkE s_2 [] 48) (pL)))))))
          · refine sg 21 (mkE ((34, B (eqI x1 45)) :: ((33, B (eqI x1 45)) :: ((32, B (eqI x1 45)) :: ((31, U x1) :: ((30, B false) :: ((30, B (leI x1 57)) :: ((29, B (leI x1 57)) :: ((28, B (leI x1 57)) :: ((27, U x1) :: ((26, B true) :: ((26, B (leI 48 x1)) :: ((25, B (leI 48 x1)) :: ((24, U x1) :: ((23, B true) :: (s_0.append (s_3.append ((16, B (leI 97 x1)) :: ((15, B (leI 97 x1)) :: ((14, U x1) :: (s_1.append [(4, U x1)])))))))))))))))))))) [] 48) (sb 34 (eqI x1 45) ?_ ?_)
            · exact zN (mkE (s_1.append [(40, B false)]) [] 48) (gF (.tmp 40) (gK (pB (zP (gR 3 (rg Tryz.f108 3) (se (mkE s_2 [] 48) (pL)))))))
            · refine zN (mkE (s_1.append [(40, B (!(eqI x1 95)))]) [] 48) (gC 40 (!(eqI x1 95)) ?_ ?_)
              · exact zF 0 6 (mkE [(2, B false)] [] 48)
              · exact gK (pB (zP (gR 3 (rg Tryz.f108 3) (se (mkE s_2 [] 48) (pL)))))
        · refine sg 21 (mkE ((34, B (eqI x1 45)) :: ((33, B (eqI x1 45)) :: ((32, B (eqI x1 45)) :: ((31, U x1) :: ((30, B false) :: ((29, B false) :: ((28, .und) :: ((27, .und) :: ((26, B false) :: ((26, B (leI 48 x1)) :: ((25, B (leI 48 x1)) :: ((24, U x1) :: ((23, B true) :: (s_0.append (s_3.append ((16, B (leI 97 x1)) :: ((15, B (leI 97 x1)) :: ((14, U x1) :: (s_1.append [(4, U x1)]))))))))))))))))))) [] 48) (sb 34 (eqI x1 45) ?_ ?_)
          · exact zN (mkE (s_1.append [(40, B false)]) [] 48) (gF (.tmp 40) (gK (pB (zP (gR 3 (rg Tryz.f108 3) (se (mkE s_2 [] 48) (pL)))))))
          · refine zN (mkE (s_1.append [(40, B (!(eqI x1 95)))]) [] 48) (gC 40 (!(eqI x1 95)) ?_ ?_)
            · exact zF 0 6 (mkE [(2, B false)] [] 48)
            · exact gK (pB (zP (gR 3 (rg Tryz.f108 3) (se (mkE s_2 [] 48) (pL)))))
      · exact zN (mkE (s_1.append [(40, B true)]) [] 48) (gT (.tmp 40) (zF 0 6 (mkE [(2, B false)] [] 48)))
  · exact gX 0 (pL)
noncomputable def T108 (p0 : ByteArray) : Option Bool := ((iter (L108_2 p0) 0).bind fun y2 => (Sum.elim (fun y2a => (bif (!eqS p0 (ByteArray.mk #[])) then (some (leI (lenS p0) 40)) else (some false))) (fun y2b => (some false)) y2))
theorem B108 (C : Callee) (p0 : ByteArray) : runs Tryz.prog C (cfg.fn 108) (finFn Tryz.prog (cfg.fn 108).byval Tryz.f108) [] (execA Tryz.prog C (cfg.fn 108) (nr Tryz.f108 []) (frame0 [S p0] 48 false)) = (T108 p0).map B := by
  unfold T108
  refine zS 1 0 (mkE [(0, S p0)] [] 48) (gS 7 (zS 2 1 (mkE [(0, S p0), (3, I 0)] [] 48) (gB 0 (lo [(0, none), (3, none)] [] (L108_2 p0) (fun z0 : Int => (mkE [(0, S p0), (3, I z0)] [] 48)) (Sum.elim (fun (x : (Int × Bool)) => (.exit 0, (mkE [(0, S p0), (3, I x.1), (8, B x.2)] [] 48))) (fun (x : Unit) => (.ret, (mkE [(2, B false)] [] 48)))) 0 (fun z => L108_2_ok C p0 z) ?_))))
  intro y2
  refine ss y2 (Z := (Sum.elim (fun (x : (Int × Bool)) => (.exit 0, (mkE [(0, S p0), (3, I x.1), (8, B x.2)] [] 48))) (fun (x : Unit) => (.ret, (mkE [(2, B false)] [] 48))))) (fun y2a => ?_) (fun y2b => ?_)
  · refine pH (zP (zR 0 7 (sg 3 (mkE [(43, B (!eqS p0 (ByteArray.mk #[]))), (42, B (!eqS p0 (ByteArray.mk #[]))), (41, S p0), (0, S p0), (3, I y2a.1), (8, B y2a.2)] [] 48) (sb 43 (!eqS p0 (ByteArray.mk #[])) ?_ ?_))))
    · exact zE (mkE [(2, B (leI (lenS p0) 40))] [] 48)
    · exact zE (mkE [(2, B false)] [] 48)
  · exact pL
theorem F108 (m : Nat) (hm : 1 ≤ m) (p0 : ByteArray) : callA Tryz.prog cfg m 108 [S p0] = (T108 p0).map B := by
  obtain ⟨q, rfl⟩ : ∃ q, m = q + 1 := ⟨m - 1, by omega⟩
  exact (callA_body (fn := Tryz.f108) (c := body_ Tryz.f108) q _ (by kernel_rfl) (by kernel_rfl) (by kernel_rfl)).trans (B108 _ p0)

noncomputable def T30 (p0 : Int) (p1 : Int) (p2 : Int) : Option Bool := (bif (ltI p0 p1) then (some true) else (some (ltI p2 p0)))
theorem B30 (C : Callee) (p0 : Int) (p1 : Int) (p2 : Int) : runs Tryz.prog C (cfg.fn 30) (finFn Tryz.prog (cfg.fn 30).byval Tryz.f30) [] (execA Tryz.prog C (cfg.fn 30) (nr Tryz.f30 []) (frame0 [I p0, I p1, I p2] 15 false)) = (T30 p0 p1 p2).map B := by
  unfold T30
  refine zS 1 0 (mkE [(0, I p0), (1, I p1), (2, I p2)] [] 15) (zR 0 1 (sg 4 (mkE [(10, B (ltI p0 p1)), (9, B (ltI p0 p1)), (8, I p1), (7, I p0), (0, I p0), (1, I p1), (2, I p2)] [] 15) (sb 10 (ltI p0 p1) ?_ ?_)))
  · exact zE (mkE [(6, B true)] [] 15)
  · exact zE (mkE [(6, B (ltI p2 p0))] [] 15)
theorem F30 (m : Nat) (hm : 1 ≤ m) (p0 : Int) (p1 : Int) (p2 : Int) : callA Tryz.prog cfg m 30 [I p0, I p1, I p2] = (T30 p0 p1 p2).map B := by
  obtain ⟨q, rfl⟩ : ∃ q, m = q + 1 := ⟨m - 1, by omega⟩
  exact (callA_body (fn := Tryz.f30) (c := body_ Tryz.f30) q _ (by kernel_rfl) (by kernel_rfl) (by kernel_rfl)).trans (B30 _ p0 p1 p2)

noncomputable def L140_4 (p0 : S46) (z0 : Int) : Option (Int ⊕ ((Int × Bool) ⊕ Int)) := (bif (ltI z0 (lenL p0.f3)) then ((listAt p0.f3 z0).bind fun x1 => ((T108 x1).bind fun x2 => (bif (!x2) then (some (.inr (.inr 5))) else (bif (ltI 0 z0) then ((listAt p0.f3 (subI .i64 z0 1)).bind fun x3 => (bif (ltS x1 x3 || eqS x1 x3) then (some (.inr (.inr 7))) else (bif (eqS x1 p0.f0) then (some (.inr (.inr 14))) else (some (.inl (addI .i64 z0 1)))))) else (bif (eqS x1 p0.f0) then (some (.inr (.inr 14))) else (some (.inl (addI .i64 z0 1)))))))) else (some (.inr (.inl (z0, (ltI z0 (lenL p0.f3)))))))
theorem L140_4_ok (C : Callee) (h108 : ∀ (p0 : ByteArray), C 108 [S p0] = (T108 p0).map B) (p0 : S46) (z0 : Int) : runs Tryz.prog C (cfg.fn 140) (finLoop ((cfg.fn 140).keep 4) ((cfg.fn 140).al 4)) [] (execA Tryz.prog C (cfg.fn 140) (nr Tryz.f140 [false, false, true, false, true, true]) ((fun z0 : Int => (mkE [(1, .ba 8 0), (10, LL S p0.f3), (11, I (lenL p0.f3)), (12, I z0)] [(8, .box [S p0.f0, S p0.f1, I p0.f2, LL S p0.f3, I p0.f4, I p0.f5, I p0.f6, LL a64 p0.f7, S p0.f8] false)] 48)) z0)) = (L140_4 p0 z0).map (Sum.elim (fun z => .inl ((fun z0 : Int => (mkE [(1, .ba 8 0), (10, LL S p0.f3), (11, I (lenL p0.f3)), (12, I z0)] [(8, .box [S p0.f0, S p0.f1, I p0.f2, LL S p0.f3, I p0.f4, I p0.f5, I p0.f6, LL a64 p0.f7, S p0.f8] false)] 48)) z)) (fun x => .inr ((Sum.elim (fun (x : (Int × Bool)) => (.exit 0, (mkE [(1, .ba 8 0), (10, LL S p0.f3), (11, I (lenL p0.f3)), (12, I x.1), (13, B x.2)] [(8, .box [S p0.f0, S p0.f1, I p0.f2, LL S p0.f3, I p0.f4, I p0.f5, I p0.f6, LL a64 p0.f7, S p0.f8] false)] 48))) (fun (x : Int) => (.ret, (mkE [(2, I x)] [] 48)))) x))) := by
  unfold L140_4
  let s_0 : List (Nat × AV) := [(10, LL S p0.f3), (11, I (lenL p0.f3)), (12, I z0)]
  let o_0 : List (Nat × AObj) := [(8, .box [S p0.f0, S p0.f1, I p0.f2, LL S p0.f3, I p0.f4, I p0.f5, I p0.f6, LL a64 p0.f7, S p0.f8] false)]
  refine zS 0 4 (mkE ((1, .ba 8 0) :: (s_0.append [(13, B (ltI z0 (lenL p0.f3)))])) o_0 48) (gS 5 (gC 13 (ltI z0 (lenL p0.f3)) ?_ ?_))
  · refine gK (zP (gS 12 (gB 1 (zR 6 5 (sg 1 (mkE ((14, I z0) :: ((1, .ba 8 0) :: (s_0.append [(13, B (ltI z0 (lenL p0.f3)))]))) o_0 48) (vo 15 (addrE 34 9 1 S .i64 p0.f3 z0) (fun x1 => ?_)))))))
    refine zN (mkE ((1, .ba 8 0) :: ((3, I z0) :: ((4, S x1) :: s_0))) o_0 48) (gB 2 (zR 0 6 (sg 1 (mkE ((18, S x1) :: ((1, .ba 8 0) :: ((3, I z0) :: ((4, S x1) :: s_0)))) o_0 48) (co 19 [] (h108 x1) (fun x2 => ?_)))))
    refine zN (mkE ((1, .ba 8 0) :: ((3, I z0) :: ((4, S x1) :: (s_0.append [(17, B (!x2))])))) o_0 48) (gC 17 (!x2) ?_ ?_)
    · exact zF 0 7 (mkE [(2, I 5)] [] 48)
    · refine zR 0 8 (sg 3 (mkE ((24, B (ltI 0 z0)) :: ((23, B (ltI 0 z0)) :: ((22, I z0) :: ((1, .ba 8 0) :: ((3, I z0) :: ((4, S x1) :: (s_0.append [(17, B (!x2))]))))))) o_0 48) (sb 24 (ltI 0 z0) ?_ ?_))
      · refine sg 8 (mkE ((29, I (subI .i64 z0 1)) :: ((28, I z0) :: ((27, LL S p0.f3) :: ((26, .ba 8 3) :: ((25, S x1) :: ((24, B true) :: ((24, B (ltI 0 z0)) :: ((23, B (ltI 0 z0)) :: ((22, I z0) :: ((1, .ba 8 0) :: ((3, I z0) :: ((4, S x1) :: (s_0.append [(17, B (!x2))]))))))))))))) o_0 48) (vo 30 (addrE 34 9 1 S .i64 p0.f3 (subI .i64 z0 1)) (fun x3 => ?_))
        refine zN (mkE ((1, .ba 8 0) :: ((4, S x1) :: (s_0.append [(21, B (ltS x1 x3 || eqS x1 x3))]))) o_0 48) (gC 21 (ltS x1 x3 || eqS x1 x3) ?_ ?_)
        · exact zF 0 9 (mkE [(2, I 7)] [] 48)
        · refine zS 0 10 (mkE ((1, .ba 8 0) :: (s_0.append [(34, B (eqS x1 p0.f0))])) o_0 48) (gC 34 (eqS x1 p0.f0) ?_ ?_)
          · exact zF 0 11 (mkE [(2, I 14)] [] 48)
          · exact gK (pB (pB (zP (gR 12 (rg Tryz.f140 12) (se (mkE [(1, .ba 8 0), (10, LL S p0.f3), (11, I (lenL p0.f3)), (12, I (addI .i64 z0 1))] o_0 48) (pL))))))
      · refine zN (mkE ((1, .ba 8 0) :: ((4, S x1) :: (s_0.append [(21, B false)]))) o_0 48) (gF (.tmp 21) (zS 0 10 (mkE ((1, .ba 8 0) :: (s_0.append [(34, B (eqS x1 p0.f0))])) o_0 48) (gC 34 (eqS x1 p0.f0) ?_ ?_)))
        · exact zF 0 11 (mkE [(2, I 14)] [] 48)
        · exact gK (pB (pB (zP (gR 12 (rg Tryz.f140 12) (se (mkE [(1, .ba 8 0), (10, LL S p0.f3), (11, I (lenL p0.f3)), (12, I (addI .i64 z0 1))] o_0 48) (pL))))))
  · exact gX 0 (pL)
noncomputable def T140 (p0 : S46) : Option Int := (bif (ltI 20 (lenL p0.f3)) then (some 2) else ((iter (L140_4 p0) 0).bind fun y4 => (Sum.elim (fun y4a => (bif ((eqI p0.f2 1) != (eqI (lenL p0.f3) 0)) then (some 3) else (some 0))) (fun y4b => (some y4b)) y4)))
theorem B140 (C : Callee) (h108 : ∀ (p0 : ByteArray), C 108 [S p0] = (T108 p0).map B) (p0 : S46) : runs Tryz.prog C (cfg.fn 140) (finFn Tryz.prog (cfg.fn 140).byval Tryz.f140) [] (execA Tryz.prog C (cfg.fn 140) (nr Tryz.f140 []) (frame0 [a46 p0] 48 false)) = (T140 p0).map I := by
  unfold T140
  let s_0 : List (Nat × AV) := [(1, .ba 8 0), (10, LL S p0.f3), (11, I (lenL p0.f3))]
  let o_0 : List (Nat × AObj) := [(8, .box [S p0.f0, S p0.f1, I p0.f2, LL S p0.f3, I p0.f4, I p0.f5, I p0.f6, LL a64 p0.f7, S p0.f8] false)]
  refine zS 1 0 (mkE [(1, .ba 8 0)] o_0 48) (gS 3 (zR 0 1 (sg 2 (mkE [(6, LL S p0.f3), (5, .ba 8 3), (1, .ba 8 0)] o_0 48) (eo 7 (I (lenL p0.f3)) (lenE 34 S p0.f3) (zN (mkE [(1, .ba 8 0), (8, B (ltI 20 (lenL p0.f3)))] o_0 48) (gC 8 (ltI 20 (lenL p0.f3)) ?_ ?_))))))
  · exact zF 0 2 (mkE [(2, I 2)] [] 48)
  · refine gK (zP (gS 13 (zR 4 3 (sg 2 (mkE [(10, LL S p0.f3), (9, .ba 8 3), (1, .ba 8 0), (8, B (ltI 20 (lenL p0.f3)))] o_0 48) (eo 11 (I (lenL p0.f3)) (lenE 34 S p0.f3) (zN (mkE (s_0.append [(12, I 0)]) o_0 48) (gB 0 (lo [(1, none), (10, none), (11, none), (12, none)] [] (L140_4 p0) (fun z0 : Int => (mkE (s_0.append [(12, I z0)]) o_0 48)) (Sum.elim (fun (x : (Int × Bool)) => (.exit 0, (mkE (s_0.append ((12, I x.1) :: [(13, B x.2)])) o_0 48))) (fun (x : Int) => (.ret, (mkE [(2, I x)] [] 48)))) 0 (fun z => L140_4_ok C h108 p0 z) ?_))))))))
    intro y4
    refine ss y4 (Z := (Sum.elim (fun (x : (Int × Bool)) => (.exit 0, (mkE (s_0.append ((12, I x.1) :: [(13, B x.2)])) o_0 48))) (fun (x : Int) => (.ret, (mkE [(2, I x)] [] 48))))) (fun y4a => ?_) (fun y4b => ?_)
    · refine pH (zP (gS 15 (zR 0 13 (sg 5 (mkE ((44, LL S p0.f3) :: ((43, .ba 8 3) :: ((42, B (eqI p0.f2 1)) :: ((41, I p0.f2) :: ((40, .ba 8 2) :: (s_0.append ((12, I y4a.1) :: [(13, B y4a.2)]))))))) o_0 48) (eo 45 (I (lenL p0.f3)) (lenE 34 S p0.f3) (zN (mkE [(47, B ((eqI p0.f2 1) != (eqI (lenL p0.f3) 0)))] [] 48) (gC 47 ((eqI p0.f2 1) != (eqI (lenL p0.f3) 0)) ?_ ?_)))))))
      · exact zF 0 14 (mkE [(2, I 3)] [] 48)
      · exact gK (zP (zF 0 15 (mkE [(2, I 0)] [] 48)))
    · exact pL
theorem F140 (m : Nat) (hm : 2 ≤ m) (p0 : S46) : callA Tryz.prog cfg m 140 [a46 p0] = (T140 p0).map I := by
  obtain ⟨q, rfl⟩ : ∃ q, m = q + 1 := ⟨m - 1, by omega⟩
  exact (callA_body (fn := Tryz.f140) (c := body_ Tryz.f140) q _ (by kernel_rfl) (by kernel_rfl) (by kernel_rfl)).trans (B140 _ (fun p0 => F108 q (by omega) p0) p0)

noncomputable def T31 (p0 : Int) : Option Bool := (bif (leI 0 p0) then (some (ltI p0 345686400000)) else (some false))
theorem B31 (C : Callee) (p0 : Int) : runs Tryz.prog C (cfg.fn 31) (finFn Tryz.prog (cfg.fn 31).byval Tryz.f31) [] (execA Tryz.prog C (cfg.fn 31) (nr Tryz.f31 []) (frame0 [I p0] 9 false)) = (T31 p0).map B := by
  unfold T31
  refine zS 1 0 (mkE [(0, I p0)] [] 9) (zR 0 1 (sg 3 (mkE [(5, B (leI 0 p0)), (4, B (leI 0 p0)), (3, I p0), (0, I p0)] [] 9) (sb 5 (leI 0 p0) ?_ ?_)))
  · exact zE (mkE [(2, B (ltI p0 345686400000))] [] 9)
  · exact zE (mkE [(2, B false)] [] 9)
theorem F31 (m : Nat) (hm : 1 ≤ m) (p0 : Int) : callA Tryz.prog cfg m 31 [I p0] = (T31 p0).map B := by
  obtain ⟨q, rfl⟩ : ∃ q, m = q + 1 := ⟨m - 1, by omega⟩
  exact (callA_body (fn := Tryz.f31) (c := body_ Tryz.f31) q _ (by kernel_rfl) (by kernel_rfl) (by kernel_rfl)).trans (B31 _ p0)

noncomputable def T121 (p0 : S64) : Option Int := ((T30 p0.f0 (-100000) 100000).bind fun x1 => (bif x1 then (some 1) else ((T30 p0.f1 (-100000) 100000).bind fun x2 => (bif x2 then (some 1) else ((T30 p0.f2 1 (subI .i64 100000 p0.f0)).bind fun x3 => (bif x3 then (some 1) else ((T30 p0.f3 1 (subI .i64 100000 p0.f1)).bind fun x4 => (bif x4 then (some 1) else (some 0)))))))))
theorem B121 (C : Callee) (h30 : ∀ (p0 : Int) (p1 : Int) (p2 : Int), C 30 [I p0, I p1, I p2] = (T30 p0 p1 p2).map B) (p0 : S64) : runs Tryz.prog C (cfg.fn 121) (finFn Tryz.prog (cfg.fn 121).byval Tryz.f121) [] (execA Tryz.prog C (cfg.fn 121) (nr Tryz.f121 []) (frame0 [a64 p0] 25 false)) = (T121 p0).map I := by
  unfold T121
  let s_0 : List (Nat × AV) := [(15, I (subI .i64 100000 p0.f0)), (14, I p0.f0), (13, .ba 8 0), (12, I p0.f2), (11, .ba 8 2), (1, .ba 8 0)]
  let o_0 : List (Nat × AObj) := [(8, .box [I p0.f0, I p0.f1, I p0.f2, I p0.f3] false)]
  refine zS 1 0 (mkE [(1, .ba 8 0)] o_0 25) (gS 3 (zR 0 1 (sg 2 (mkE [(4, I p0.f0), (3, .ba 8 0), (1, .ba 8 0)] o_0 25) (co 5 [] (h30 p0.f0 (-100000) 100000) (fun x1 => ?_)))))
  refine sg 4 (mkE [(6, B x1), (5, B x1), (4, I p0.f0), (3, .ba 8 0), (1, .ba 8 0)] o_0 25) (sb 6 x1 ?_ ?_)
  · exact zN (mkE [(1, .ba 8 0), (10, B true)] o_0 25) (gT (.tmp 10) (zF 0 2 (mkE [(2, I 1)] [] 25)))
  · refine sg 6 (mkE [(8, I p0.f1), (7, .ba 8 1), (6, B false), (6, B x1), (5, B x1), (4, I p0.f0), (3, .ba 8 0), (1, .ba 8 0)] o_0 25) (co 9 [] (h30 p0.f1 (-100000) 100000) (fun x2 => ?_))
    refine zN (mkE [(1, .ba 8 0), (10, B x2)] o_0 25) (gC 10 x2 ?_ ?_)
    · exact zF 0 2 (mkE [(2, I 1)] [] 25)
    · refine gK (zP (gS 5 (zR 0 3 (sg 5 (mkE (s_0.append [(10, B x2)]) o_0 25) (co 16 [] (h30 p0.f2 1 (subI .i64 100000 p0.f0)) (fun x3 => ?_))))))
      refine sg 7 (mkE ((17, B x3) :: ((16, B x3) :: (s_0.append [(10, B x2)]))) o_0 25) (sb 17 x3 ?_ ?_)
      · exact zN (mkE [(24, B true)] [] 25) (gT (.tmp 24) (zF 0 4 (mkE [(2, I 1)] [] 25)))
      · refine sg 12 (mkE ((22, I (subI .i64 100000 p0.f1)) :: ((21, I p0.f1) :: ((20, .ba 8 1) :: ((19, I p0.f3) :: ((18, .ba 8 3) :: ((17, B false) :: ((17, B x3) :: ((16, B x3) :: (s_0.append [(10, B x2)]))))))))) o_0 25) (co 23 [] (h30 p0.f3 1 (subI .i64 100000 p0.f1)) (fun x4 => ?_))
        refine zN (mkE [(24, B x4)] [] 25) (gC 24 x4 ?_ ?_)
        · exact zF 0 4 (mkE [(2, I 1)] [] 25)
        · exact gK (zP (zF 0 5 (mkE [(2, I 0)] [] 25)))
theorem F121 (m : Nat) (hm : 2 ≤ m) (p0 : S64) : callA Tryz.prog cfg m 121 [a64 p0] = (T121 p0).map I := by
  obtain ⟨q, rfl⟩ : ∃ q, m = q + 1 := ⟨m - 1, by omega⟩
  exact (callA_body (fn := Tryz.f121) (c := body_ Tryz.f121) q _ (by kernel_rfl) (by kernel_rfl) (by kernel_rfl)).trans (B121 _ (fun p0 p1 p2 => F30 q (by omega) p0 p1 p2) p0)

theorem F164 (m : Nat) (hm : 1 ≤ m) (p0 : ByteArray) : callA Tryz.prog cfg m 164 [S p0] = (validO p0).map B := by
  obtain ⟨q, rfl⟩ : ∃ q, m = q + 1 := ⟨m - 1, by omega⟩
  exact (callA_leaf (L := leafValid) _ _ (by kernel_rfl)).trans (valid_leaf _ _)

noncomputable def L193_1 (p1 : Int) (z0 : ByteArray) : Option (ByteArray ⊕ (ByteArray × Bool)) := (bif (ltI 0 (lenS z0)) then ((byteAt z0 (subI .i64 (lenS z0) 1)).bind fun x1 => (bif (eqI x1 p1) then ((cutS z0 none (some (subI .i64 (lenS z0) 1))).bind fun x2 => (some (.inl x2))) else (some (.inr (z0, (eqI x1 p1)))))) else (some (.inr (z0, false))))
theorem L193_1_ok (C : Callee) (p1 : Int) (z0 : ByteArray) : runs Tryz.prog C (cfg.fn 193) (finLoop ((cfg.fn 193).keep 1) ((cfg.fn 193).al 1)) [] (execA Tryz.prog C (cfg.fn 193) (nr Tryz.f193 [false, false, false, true]) ((fun z0 : ByteArray => (mkE [(0, S z0), (1, U p1)] [] 23)) z0)) = (L193_1 p1 z0).map (Sum.elim (fun z => .inl ((fun z0 : ByteArray => (mkE [(0, S z0), (1, U p1)] [] 23)) z)) (fun x => .inr ((fun (x : (ByteArray × Bool)) => (.exit 0, (mkE [(0, S x.1), (1, U p1), (16, B x.2)] [] 23))) x))) := by
  unfold L193_1
  refine gS 2 (zR 0 1 (sg 4 (mkE [(8, B (ltI 0 (lenS z0))), (7, B (ltI 0 (lenS z0))), (6, I (lenS z0)), (5, S z0), (0, S z0), (1, U p1)] [] 23) (sb 8 (ltI 0 (lenS z0)) ?_ ?_)))
  · refine sg 8 (mkE [(12, I (subI .i64 (lenS z0) 1)), (11, I (lenS z0)), (10, S z0), (9, S z0), (8, B true), (8, B (ltI 0 (lenS z0))), (7, B (ltI 0 (lenS z0))), (6, I (lenS z0)), (5, S z0), (0, S z0), (1, U p1)] [] 23) (vo 13 (byteE 9 .i64 z0 (subI .i64 (lenS z0) 1)) (fun x1 => ?_))
    refine zN (mkE [(0, S z0), (1, U p1), (16, B (eqI x1 p1))] [] 23) (gC 16 (eqI x1 p1) ?_ ?_)
    · refine gK (zP (gB 1 (gR 2 (rg Tryz.f193 2) (sg 4 (mkE [(20, I (subI .i64 (lenS z0) 1)), (19, I (lenS z0)), (18, S z0), (17, S z0), (0, S z0), (1, U p1), (16, B (eqI x1 p1))] [] 23) (vo 21 (cutSE 9 .i64 .i64 z0 none (some (subI .i64 (lenS z0) 1))) (fun x2 => ?_))))))
      exact se (mkE [(0, S x2), (1, U p1)] [] 23) (pB (pL))
    · exact gX 0 (pL)
  · exact zN (mkE [(0, S z0), (1, U p1), (16, B false)] [] 23) (gF (.tmp 16) (gX 0 (pL)))
noncomputable def T193 (p0 : ByteArray) (p1 : Int) : Option ByteArray := ((iter (L193_1 p1) p0).bind fun y3 => (some y3.1))
theorem B193 (C : Callee) (p0 : ByteArray) (p1 : Int) : runs Tryz.prog C (cfg.fn 193) (finFn Tryz.prog (cfg.fn 193).byval Tryz.f193) [] (execA Tryz.prog C (cfg.fn 193) (nr Tryz.f193 []) (frame0 [S p0, U p1] 23 false)) = (T193 p0 p1).map S := by
  unfold T193
  refine zS 1 0 (mkE [(0, S p0), (1, U p1)] [] 23) (gS 3 (gB 0 (lo [(0, none), (1, none)] [] (L193_1 p1) (fun z0 : ByteArray => (mkE [(0, S z0), (1, U p1)] [] 23)) (fun (x : (ByteArray × Bool)) => (.exit 0, (mkE [(0, S x.1), (1, U p1), (16, B x.2)] [] 23))) p0 (fun z => L193_1_ok C p1 z) ?_)))
  intro y3
  exact pH (zP (zF 0 3 (mkE [(4, S y3.1)] [] 23)))
theorem F193 (m : Nat) (hm : 1 ≤ m) (p0 : ByteArray) (p1 : Int) : callA Tryz.prog cfg m 193 [S p0, U p1] = (T193 p0 p1).map S := by
  obtain ⟨q, rfl⟩ : ∃ q, m = q + 1 := ⟨m - 1, by omega⟩
  exact (callA_body (fn := Tryz.f193) (c := body_ Tryz.f193) q _ (by kernel_rfl) (by kernel_rfl) (by kernel_rfl)).trans (B193 _ p0 p1)

noncomputable def L192_1 (p1 : Int) (z0 : ByteArray) : Option (ByteArray ⊕ (ByteArray × Bool)) := (bif (ltI 0 (lenS z0)) then ((byteAt z0 0).bind fun x1 => (bif (eqI x1 p1) then ((cutS z0 (some 1) none).bind fun x2 => (some (.inl x2))) else (some (.inr (z0, (eqI x1 p1)))))) else (some (.inr (z0, false))))
theorem L192_1_ok (C : Callee) (p1 : Int) (z0 : ByteArray) : runs Tryz.prog C (cfg.fn 192) (finLoop ((cfg.fn 192).keep 1) ((cfg.fn 192).al 1)) [] (execA Tryz.prog C (cfg.fn 192) (nr Tryz.f192 [false, false, false, true]) ((fun z0 : ByteArray => (mkE [(0, S z0), (1, U p1)] [] 17)) z0)) = (L192_1 p1 z0).map (Sum.elim (fun z => .inl ((fun z0 : ByteArray => (mkE [(0, S z0), (1, U p1)] [] 17)) z)) (fun x => .inr ((fun (x : (ByteArray × Bool)) => (.exit 0, (mkE [(0, S x.1), (1, U p1), (13, B x.2)] [] 17))) x))) := by
  unfold L192_1
  refine gS 2 (zR 0 1 (sg 4 (mkE [(8, B (ltI 0 (lenS z0))), (7, B (ltI 0 (lenS z0))), (6, I (lenS z0)), (5, S z0), (0, S z0), (1, U p1)] [] 17) (sb 8 (ltI 0 (lenS z0)) ?_ ?_)))
  · refine sg 5 (mkE [(9, S z0), (8, B true), (8, B (ltI 0 (lenS z0))), (7, B (ltI 0 (lenS z0))), (6, I (lenS z0)), (5, S z0), (0, S z0), (1, U p1)] [] 17) (vo 10 (byteE 9 .i64 z0 0) (fun x1 => ?_))
    refine zN (mkE [(0, S z0), (1, U p1), (13, B (eqI x1 p1))] [] 17) (gC 13 (eqI x1 p1) ?_ ?_)
    · refine gK (zP (gB 1 (gR 2 (rg Tryz.f192 2) (sg 1 (mkE [(14, S z0), (0, S z0), (1, U p1), (13, B (eqI x1 p1))] [] 17) (vo 15 (cutSE 9 .i64 .i64 z0 (some 1) none) (fun x2 => ?_))))))
      exact se (mkE [(0, S x2), (1, U p1)] [] 17) (pB (pL))
    · exact gX 0 (pL)
  · exact zN (mkE [(0, S z0), (1, U p1), (13, B false)] [] 17) (gF (.tmp 13) (gX 0 (pL)))
noncomputable def T192 (p0 : ByteArray) (p1 : Int) : Option ByteArray := ((iter (L192_1 p1) p0).bind fun y3 => (some y3.1))
theorem B192 (C : Callee) (p0 : ByteArray) (p1 : Int) : runs Tryz.prog C (cfg.fn 192) (finFn Tryz.prog (cfg.fn 192).byval Tryz.f192) [] (execA Tryz.prog C (cfg.fn 192) (nr Tryz.f192 []) (frame0 [S p0, U p1] 17 false)) = (T192 p0 p1).map S := by
  unfold T192
  refine zS 1 0 (mkE [(0, S p0), (1, U p1)] [] 17) (gS 3 (gB 0 (lo [(0, none), (1, none)] [] (L192_1 p1) (fun z0 : ByteArray => (mkE [(0, S z0), (1, U p1)] [] 17)) (fun (x : (ByteArray × Bool)) => (.exit 0, (mkE [(0, S x.1), (1, U p1), (13, B x.2)] [] 17))) p0 (fun z => L192_1_ok C p1 z) ?_)))
  intro y3
  exact pH (zP (zF 0 3 (mkE [(4, S y3.1)] [] 17)))
theorem F192 (m : Nat) (hm : 1 ≤ m) (p0 : ByteArray) (p1 : Int) : callA Tryz.prog cfg m 192 [S p0, U p1] = (T192 p0 p1).map S := by
  obtain ⟨q, rfl⟩ : ∃ q, m = q + 1 := ⟨m - 1, by omega⟩
  exact (callA_body (fn := Tryz.f192) (c := body_ Tryz.f192) q _ (by kernel_rfl) (by kernel_rfl) (by kernel_rfl)).trans (B192 _ p0 p1)

theorem F194 (m : Nat) (hm : 1 ≤ m) (p0 : ByteArray) : callA Tryz.prog cfg m 194 [S p0] = (none : Option Unit).map (fun _ => AV.und) := by
  obtain ⟨q, rfl⟩ : ∃ q, m = q + 1 := ⟨m - 1, by omega⟩
  exact (callA_leaf (L := leafNone) _ _ (by kernel_rfl)).trans (rfl)

noncomputable def T167 (p0 : ByteArray) (p1 : ByteArray) : Option ByteArray := (bif (eqS p0 (ByteArray.mk #[])) then (some p0) else (bif (eqS p1 (ByteArray.mk #[])) then (some p0) else (bif (eqI (lenS p1) 1) then ((byteAt p1 0).bind fun x1 => (bif (ltI x1 128) then ((byteAt p1 0).bind fun x2 => ((T193 p0 x2).bind fun x3 => ((byteAt p1 0).bind fun x4 => ((T192 x3 x4).bind fun x5 => (some x5))))) else none)) else none)))
theorem B167 (C : Callee) (h192 : ∀ (p0 : ByteArray) (p1 : Int), C 192 [S p0, U p1] = (T192 p0 p1).map S) (h193 : ∀ (p0 : ByteArray) (p1 : Int), C 193 [S p0, U p1] = (T193 p0 p1).map S) (h194 : ∀ (p0 : ByteArray), C 194 [S p0] = (none : Option Unit).map (fun _ => AV.und)) (p0 : ByteArray) (p1 : ByteArray) : runs Tryz.prog C (cfg.fn 167) (finFn Tryz.prog (cfg.fn 167).byval Tryz.f167) [] (execA Tryz.prog C (cfg.fn 167) (nr Tryz.f167 []) (frame0 [S p0, S p1] 43 false)) = (T167 p0 p1).map S := by
  unfold T167
  let s_0 : List (Nat × AV) := [(0, S p0), (1, S p1)]
  refine zS 1 0 (mkE s_0 [] 43) (gS 3 (zR 0 1 (sg 3 (mkE ((9, B (eqS p0 (ByteArray.mk #[]))) :: ((8, B (eqS p0 (ByteArray.mk #[]))) :: ((7, S p0) :: s_0))) [] 43) (sb 9 (eqS p0 (ByteArray.mk #[])) ?_ ?_))))
  · exact zN (mkE (s_0.append [(12, B true)]) [] 43) (gT (.tmp 12) (zF 0 2 (mkE [(4, S p0)] [] 43)))
  · refine zN (mkE (s_0.append [(12, B (eqS p1 (ByteArray.mk #[])))]) [] 43) (gC 12 (eqS p1 (ByteArray.mk #[])) ?_ ?_)
    · exact zF 0 2 (mkE [(4, S p0)] [] 43)
    · refine gK (zP (gS 5 (zR 0 3 (sg 4 (mkE ((17, B (eqI (lenS p1) 1)) :: ((16, B (eqI (lenS p1) 1)) :: ((15, I (lenS p1)) :: ((14, S p1) :: (s_0.append [(12, B (eqS p1 (ByteArray.mk #[])))]))))) [] 43) (sb 17 (eqI (lenS p1) 1) ?_ ?_)))))
      · refine sg 5 (mkE ((18, S p1) :: ((17, B true) :: ((17, B (eqI (lenS p1) 1)) :: ((16, B (eqI (lenS p1) 1)) :: ((15, I (lenS p1)) :: ((14, S p1) :: (s_0.append [(12, B (eqS p1 (ByteArray.mk #[])))]))))))) [] 43) (vo 19 (byteE 9 .i64 p1 0) (fun x1 => ?_))
        refine zN (mkE (s_0.append [(21, B (ltI x1 128))]) [] 43) (gC 21 (ltI x1 128) ?_ ?_)
        · refine gS 0 (gD 4 8 (rg Tryz.f167 4) [0, 1, 2, 3, 4, 5, 6, 7] (dg 2 [(some 22, qe (S p0)), (some 23, qe (S p1))] (dv 24 (mkE ((23, S p1) :: (s_0.append [(21, B (ltI x1 128))])) [] 43) (byteE 9 .i64 p1 0) (fun x2 => ?_))))
          refine dc 25 [] (mkE ((24, U x2) :: ((23, S p1) :: ((22, S p0) :: (s_0.append [(21, B (ltI x1 128))])))) [] 43) (h193 p0 x2) (fun x3 => ?_)
          refine dg 5 [(some 22, qe (S p0)), (some 23, qe (S p1)), (some 24, qe (U x2)), (some 25, qe (S x3)), (some 26, qe (S p1))] (dv 27 (mkE ((26, S p1) :: (s_0.append [(21, B (ltI x1 128))])) [] 43) (byteE 9 .i64 p1 0) (fun x4 => ?_))
          refine dc 28 [] (mkE ((27, U x4) :: ((26, S p1) :: ((25, S x3) :: ((24, U x2) :: ((23, S p1) :: ((22, S p0) :: (s_0.append [(21, B (ltI x1 128))]))))))) [] 43) (h192 x3 x4) (fun x5 => ?_)
          exact dg 8 [(some 22, qe (S p0)), (some 23, qe (S p1)), (some 24, qe (U x2)), (some 25, qe (S x3)), (some 26, qe (S p1)), (some 27, qe (U x4)), (some 28, qe (S x5)), (some 4, qe (S x5))] (de (mkE ((4, S x5) :: ((28, S x5) :: ((27, U x4) :: ((26, S p1) :: ((25, S x3) :: ((24, U x2) :: ((23, S p1) :: ((22, S p0) :: (s_0.append [(21, B (ltI x1 128))]))))))))) [] 43) (zE (mkE [(4, S x5)] [] 43)))
        · exact gK (zP (gS 8 (zR 6 5 (sg 1 (mkE ((30, S p1) :: (s_0.append [(21, B (ltI x1 128))])) [] 43) (nC 31 [] (h194 p1))))))
      · exact zN (mkE (s_0.append [(21, B false)]) [] 43) (gF (.tmp 21) (gK (zP (gS 8 (zR 6 5 (sg 1 (mkE ((30, S p1) :: (s_0.append [(21, B false)])) [] 43) (nC 31 [] (h194 p1))))))))
theorem F167 (m : Nat) (hm : 2 ≤ m) (p0 : ByteArray) (p1 : ByteArray) : callA Tryz.prog cfg m 167 [S p0, S p1] = (T167 p0 p1).map S := by
  obtain ⟨q, rfl⟩ : ∃ q, m = q + 1 := ⟨m - 1, by omega⟩
  exact (callA_body (fn := Tryz.f167) (c := body_ Tryz.f167) q _ (by kernel_rfl) (by kernel_rfl) (by kernel_rfl)).trans (B167 _ (fun p0 p1 => F192 q (by omega) p0 p1) (fun p0 p1 => F193 q (by omega) p0 p1) (fun p0 => F194 q (by omega) p0) p0 p1)

theorem F168 (m : Nat) (hm : 1 ≤ m) (p0 : ByteArray) (p1 : ByteArray) : callA Tryz.prog cfg m 168 [S p0, S p1] = (contO p0 p1).map B := by
  obtain ⟨q, rfl⟩ : ∃ q, m = q + 1 := ⟨m - 1, by omega⟩
  exact (callA_leaf (L := leafCont) _ _ (by kernel_rfl)).trans (cont_leaf _ _ _)

noncomputable def L141_2 (p0 : ByteArray) (z0 : Int) : Option (Int ⊕ ((Int × Bool) ⊕ Unit)) := (bif (ltI z0 (lenS p0)) then ((byteAt p0 z0).bind fun x1 => (bif (ltI x1 32) then (some (.inr (.inr ()))) else ((byteAt p0 z0).bind fun x2 => (bif (eqI x2 127) then (some (.inr (.inr ()))) else (some (.inl (addI .i64 z0 1))))))) else (some (.inr (.inl (z0, (ltI z0 (lenS p0)))))))
theorem L141_2_ok (C : Callee) (p0 : ByteArray) (z0 : Int) : runs Tryz.prog C (cfg.fn 141) (finLoop ((cfg.fn 141).keep 2) ((cfg.fn 141).al 2)) [] (execA Tryz.prog C (cfg.fn 141) (nr Tryz.f141 [false, false, true, false, true]) ((fun z0 : Int => (mkE [(0, S p0), (3, I z0)] [] 33)) z0)) = (L141_2 p0 z0).map (Sum.elim (fun z => .inl ((fun z0 : Int => (mkE [(0, S p0), (3, I z0)] [] 33)) z)) (fun x => .inr ((Sum.elim (fun (x : (Int × Bool)) => (.exit 0, (mkE [(0, S p0), (3, I x.1), (7, B x.2)] [] 33))) (fun (x : Unit) => (.ret, (mkE [(2, B false)] [] 33)))) x))) := by
  unfold L141_2
  let s_0 : List (Nat × AV) := [(11, I z0), (10, S p0), (0, S p0), (3, I z0), (7, B (ltI z0 (lenS p0)))]
  refine gS 4 (zS 0 2 (mkE [(0, S p0), (3, I z0), (7, B (ltI z0 (lenS p0)))] [] 33) (gC 7 (ltI z0 (lenS p0)) ?_ ?_))
  · refine gK (zP (gS 3 (gB 1 (zR 0 4 (sg 2 (mkE s_0 [] 33) (vo 12 (byteE 9 .i64 p0 z0) (fun x1 => ?_)))))))
    refine sg 5 (mkE ((14, B (ltI x1 32)) :: ((13, B (ltI x1 32)) :: ((12, U x1) :: s_0))) [] 33) (sb 14 (ltI x1 32) ?_ ?_)
    · exact zN (mkE [(0, S p0), (3, I z0), (19, B true)] [] 33) (gT (.tmp 19) (zF 0 5 (mkE [(2, B false)] [] 33)))
    · refine sg 7 (mkE ((16, I z0) :: ((15, S p0) :: ((14, B false) :: ((14, B (ltI x1 32)) :: ((13, B (ltI x1 32)) :: ((12, U x1) :: s_0)))))) [] 33) (vo 17 (byteE 9 .i64 p0 z0) (fun x2 => ?_))
      refine zN (mkE [(0, S p0), (3, I z0), (19, B (eqI x2 127))] [] 33) (gC 19 (eqI x2 127) ?_ ?_)
      · exact zF 0 5 (mkE [(2, B false)] [] 33)
      · exact gK (pB (zP (gR 3 (rg Tryz.f141 3) (se (mkE [(0, S p0), (3, I (addI .i64 z0 1))] [] 33) (pL)))))
  · exact gX 0 (pL)
noncomputable def T141 (p0 : ByteArray) : Option Bool := ((iter (L141_2 p0) 0).bind fun y3 => (Sum.elim (fun y3a => ((validO p0).bind fun x4 => (bif x4 then ((T167 p0 (ByteArray.mk #[32])).bind fun x5 => (bif (eqS x5 p0) then ((contO p0 (ByteArray.mk #[32, 32])).bind fun x6 => (some (!x6))) else (some false))) else (some false)))) (fun y3b => (some false)) y3))
theorem B141 (C : Callee) (h164 : ∀ (p0 : ByteArray), C 164 [S p0] = (validO p0).map B) (h167 : ∀ (p0 : ByteArray) (p1 : ByteArray), C 167 [S p0, S p1] = (T167 p0 p1).map S) (h168 : ∀ (p0 : ByteArray) (p1 : ByteArray), C 168 [S p0, S p1] = (contO p0 p1).map B) (p0 : ByteArray) : runs Tryz.prog C (cfg.fn 141) (finFn Tryz.prog (cfg.fn 141).byval Tryz.f141) [] (execA Tryz.prog C (cfg.fn 141) (nr Tryz.f141 []) (frame0 [S p0] 33 false)) = (T141 p0).map B := by
  unfold T141
  refine zS 1 0 (mkE [(0, S p0)] [] 33) (gS 6 (zS 2 1 (mkE [(0, S p0), (3, I 0)] [] 33) (gB 0 (lo [(0, none), (3, none)] [] (L141_2 p0) (fun z0 : Int => (mkE [(0, S p0), (3, I z0)] [] 33)) (Sum.elim (fun (x : (Int × Bool)) => (.exit 0, (mkE [(0, S p0), (3, I x.1), (7, B x.2)] [] 33))) (fun (x : Unit) => (.ret, (mkE [(2, B false)] [] 33)))) 0 (fun z => L141_2_ok C p0 z) ?_))))
  intro y3
  refine ss y3 (Z := (Sum.elim (fun (x : (Int × Bool)) => (.exit 0, (mkE [(0, S p0), (3, I x.1), (7, B x.2)] [] 33))) (fun (x : Unit) => (.ret, (mkE [(2, B false)] [] 33))))) (fun y3a => ?_) (fun y3b => ?_)
  · refine pH (zP (zR 0 6 (sg 1 (mkE [(20, S p0), (0, S p0), (3, I y3a.1), (7, B y3a.2)] [] 33) (co 21 [] (h164 p0) (fun x4 => ?_)))))
    refine sg 3 (mkE [(22, B x4), (21, B x4), (20, S p0), (0, S p0), (3, I y3a.1), (7, B y3a.2)] [] 33) (sb 22 x4 ?_ ?_)
    · refine sg 4 (mkE [(23, S p0), (22, B true), (22, B x4), (21, B x4), (20, S p0), (0, S p0), (3, I y3a.1), (7, B y3a.2)] [] 33) (co 24 [] (h167 p0 (ByteArray.mk #[32])) (fun x5 => ?_))
      refine sg 9 (mkE [(28, B (eqS x5 p0)), (27, B (eqS x5 p0)), (26, B (eqS x5 p0)), (25, S p0), (24, S x5), (23, S p0), (22, B true), (22, B x4), (21, B x4), (20, S p0), (0, S p0), (3, I y3a.1), (7, B y3a.2)] [] 33) (sb 28 (eqS x5 p0) ?_ ?_)
      · refine sg 10 (mkE [(29, S p0), (28, B true), (28, B (eqS x5 p0)), (27, B (eqS x5 p0)), (26, B (eqS x5 p0)), (25, S p0), (24, S x5), (23, S p0), (22, B true), (22, B x4), (21, B x4), (20, S p0), (0, S p0), (3, I y3a.1), (7, B y3a.2)] [] 33) (co 30 [] (h168 p0 (ByteArray.mk #[32, 32])) (fun x6 => ?_))
        exact zE (mkE [(2, B (!x6))] [] 33)
      · exact zE (mkE [(2, B false)] [] 33)
    · exact zE (mkE [(2, B false)] [] 33)
  · exact pL
theorem F141 (m : Nat) (hm : 3 ≤ m) (p0 : ByteArray) : callA Tryz.prog cfg m 141 [S p0] = (T141 p0).map B := by
  obtain ⟨q, rfl⟩ : ∃ q, m = q + 1 := ⟨m - 1, by omega⟩
  exact (callA_body (fn := Tryz.f141) (c := body_ Tryz.f141) q _ (by kernel_rfl) (by kernel_rfl) (by kernel_rfl)).trans (B141 _ (fun p0 => F164 q (by omega) p0) (fun p0 p1 => F167 q (by omega) p0 p1) (fun p0 p1 => F168 q (by omega) p0 p1) p0)

noncomputable def L87_13 (p0 : S46) (z0 : Int) : Option (Int ⊕ ((Int × Bool) ⊕ Int)) := (bif (ltI z0 (lenL p0.f7)) then ((listAt p0.f7 z0).bind fun x8 => ((T121 x8).bind fun x9 => (bif (neI x9 0) then (some (.inr (.inr x9))) else (some (.inl (addI .i64 z0 1)))))) else (some (.inr (.inl (z0, (ltI z0 (lenL p0.f7)))))))
theorem L87_13_ok (C : Callee) (h121 : ∀ (p0 : S64), C 121 [a64 p0] = (T121 p0).map I) (p0 : S46) (z0 : Int) : runs Tryz.prog C (cfg.fn 87) (finLoop ((cfg.fn 87).keep 13) ((cfg.fn 87).al 13)) [] (execA Tryz.prog C (cfg.fn 87) (nr Tryz.f87 [false, false, true, false, true, true, true, true, true, true]) ((fun z0 : Int => (mkE [(1, .ba 8 0), (51, LL a64 p0.f7), (52, I (lenL p0.f7)), (53, I z0)] [(8, .box [S p0.f0, S p0.f1, I p0.f2, LL S p0.f3, I p0.f4, I p0.f5, I p0.f6, LL a64 p0.f7, S p0.f8] false)] 92)) z0)) = (L87_13 p0 z0).map (Sum.elim (fun z => .inl ((fun z0 : Int => (mkE [(1, .ba 8 0), (51, LL a64 p0.f7), (52, I (lenL p0.f7)), (53, I z0)] [(8, .box [S p0.f0, S p0.f1, I p0.f2, LL S p0.f3, I p0.f4, I p0.f5, I p0.f6, LL a64 p0.f7, S p0.f8] false)] 92)) z)) (fun x => .inr ((Sum.elim (fun (x : (Int × Bool)) => (.exit 0, (mkE [(1, .ba 8 0), (51, LL a64 p0.f7), (52, I (lenL p0.f7)), (53, I x.1), (54, B x.2)] [(8, .box [S p0.f0, S p0.f1, I p0.f2, LL S p0.f3, I p0.f4, I p0.f5, I p0.f6, LL a64 p0.f7, S p0.f8] false)] 92))) (fun (x : Int) => (.ret, (mkE [(2, I x)] [] 92)))) x))) := by
  unfold L87_13
  let s_0 : List (Nat × AV) := [(51, LL a64 p0.f7), (52, I (lenL p0.f7)), (53, I z0)]
  let o_0 : List (Nat × AObj) := [(8, .box [S p0.f0, S p0.f1, I p0.f2, LL S p0.f3, I p0.f4, I p0.f5, I p0.f6, LL a64 p0.f7, S p0.f8] false)]
  refine zS 0 13 (mkE ((1, .ba 8 0) :: (s_0.append [(54, B (ltI z0 (lenL p0.f7)))])) o_0 92) (gS 14 (gC 54 (ltI z0 (lenL p0.f7)) ?_ ?_))
  · refine gK (zP (gS 18 (gB 1 (zR 15 14 (vo 55 (addrE 45 65 4 a64 .i64 p0.f7 z0) (fun x8 => ?_))))))
    refine zN (mkE ((1, .ba 8 0) :: ((5, .ba 40 0) :: s_0)) (o_0.append [(40, .box [I x8.f0, I x8.f1, I x8.f2, I x8.f3] false)]) 92) (zR 16 15 (sg 1 (mkE ((57, a64 x8) :: ((1, .ba 8 0) :: ((5, .ba 40 0) :: s_0))) (o_0.append [(40, .box [I x8.f0, I x8.f1, I x8.f2, I x8.f3] false)]) 92) (co 58 [] (h121 x8) (fun x9 => ?_))))
    refine zN (mkE ((1, .ba 8 0) :: ((6, I x9) :: s_0)) o_0 92) (zS 0 16 (mkE ((1, .ba 8 0) :: ((6, I x9) :: (s_0.append [(60, B (neI x9 0))]))) o_0 92) (gC 60 (neI x9 0) ?_ ?_))
    · exact zF 0 17 (mkE [(2, I x9)] [] 92)
    · exact gK (pB (zP (gR 18 (rg Tryz.f87 18) (se (mkE [(1, .ba 8 0), (51, LL a64 p0.f7), (52, I (lenL p0.f7)), (53, I (addI .i64 z0 1))] o_0 92) (pL)))))
  · exact gX 0 (pL)
noncomputable def T87 (p0 : S46) : Option Int := ((T108 p0.f0).bind fun x1 => (bif (!x1) then (some 5) else ((T108 p0.f1).bind fun x2 => (bif (!x2) then (some 5) else ((T30 p0.f2 1 3).bind fun x3 => (bif x3 then (some 4) else ((T140 p0).bind fun x4 => (bif (neI x4 0) then (some x4) else ((T31 p0.f4).bind fun x5 => (bif (!x5) then (some 1) else ((T30 p0.f5 (addI .i64 p0.f4 1) (addI .i64 p0.f4 2592000000)).bind fun x6 => (bif x6 then (some 1) else ((T30 p0.f6 1 9).bind fun x7 => (bif x7 then (some 1) else (bif (ltI 20 (lenL p0.f7)) then (some 2) else ((iter (L87_13 p0) 0).bind fun y10 => (Sum.elim (fun y10a => (bif ((eqI p0.f2 3) != (eqI (lenL p0.f7) 0)) then (some 3) else (bif (ltI 500 (lenS p0.f8)) then (some 2) else ((T141 p0.f8).bind fun x11 => (bif (!x11) then (some 3) else (bif (eqS p0.f8 (ByteArray.mk #[])) then (bif (!(eqI p0.f2 3)) then (some 3) else (some 0)) else (some 0))))))) (fun y10b => (some y10b)) y10)))))))))))))))))
theorem B87 (C : Callee) (h108 : ∀ (p0 : ByteArray), C 108 [S p0] = (T108 p0).map B) (h121 : ∀ (p0 : S64), C 121 [a64 p0] = (T121 p0).map I) (h140 : ∀ (p0 : S46), C 140 [a46 p0] = (T140 p0).map I) (h141 : ∀ (p0 : ByteArray), C 141 [S p0] = (T141 p0).map B) (h30 : ∀ (p0 : Int) (p1 : Int) (p2 : Int), C 30 [I p0, I p1, I p2] = (T30 p0 p1 p2).map B) (h31 : ∀ (p0 : Int), C 31 [I p0] = (T31 p0).map B) (p0 : S46) : runs Tryz.prog C (cfg.fn 87) (finFn Tryz.prog (cfg.fn 87).byval Tryz.f87) [] (execA Tryz.prog C (cfg.fn 87) (nr Tryz.f87 []) (frame0 [a46 p0] 92 false)) = (T87 p0).map I := by
  unfold T87
  let s_0 : List (Nat × AV) := [(38, I (addI .i64 p0.f4 2592000000)), (37, I p0.f4), (36, .ba 8 4), (35, I (addI .i64 p0.f4 1)), (34, I p0.f4), (33, .ba 8 4), (32, I p0.f5), (31, .ba 8 5), (30, B false)]
  let s_1 : List (Nat × AV) := [(80, S p0.f8), (79, .ba 8 8), (1, .ba 8 0), (7, B (eqI p0.f2 3)), (73, B (ltI 500 (lenS p0.f8)))]
  let s_2 : List (Nat × AV) := [(1, .ba 8 0)]
  let o_0 : List (Nat × AObj) := [(8, .box [S p0.f0, S p0.f1, I p0.f2, LL S p0.f3, I p0.f4, I p0.f5, I p0.f6, LL a64 p0.f7, S p0.f8] false)]
  refine zS 1 0 (mkE s_2 o_0 92) (gS 3 (zR 0 1 (sg 2 (mkE ((9, S p0.f0) :: ((8, .ba 8 0) :: s_2)) o_0 92) (co 10 [] (h108 p0.f0) (fun x1 => ?_)))))
  refine sg 5 (mkE ((12, B (!x1)) :: ((11, B (!x1)) :: ((10, B x1) :: ((9, S p0.f0) :: ((8, .ba 8 0) :: s_2))))) o_0 92) (sb 12 (!x1) ?_ ?_)
  · exact zN (mkE (s_2.append [(17, B true)]) o_0 92) (gT (.tmp 17) (zF 0 2 (mkE [(2, I 5)] [] 92)))
  · refine sg 7 (mkE ((14, S p0.f1) :: ((13, .ba 8 1) :: ((12, B false) :: ((12, B (!x1)) :: ((11, B (!x1)) :: ((10, B x1) :: ((9, S p0.f0) :: ((8, .ba 8 0) :: s_2)))))))) o_0 92) (co 15 [] (h108 p0.f1) (fun x2 => ?_))
    refine zN (mkE (s_2.append [(17, B (!x2))]) o_0 92) (gC 17 (!x2) ?_ ?_)
    · exact zF 0 2 (mkE [(2, I 5)] [] 92)
    · refine gK (zP (gS 5 (zR 0 3 (sg 2 (mkE ((19, I p0.f2) :: ((18, .ba 8 2) :: (s_2.append [(17, B (!x2))]))) o_0 92) (co 20 [] (h30 p0.f2 1 3) (fun x3 => ?_))))))
      refine zN (mkE (s_2.append [(20, B x3)]) o_0 92) (gC 20 x3 ?_ ?_)
      · exact zF 0 4 (mkE [(2, I 4)] [] 92)
      · refine gK (zP (gS 8 (zR 6 5 (sg 1 (mkE ((21, a46 p0) :: (s_2.append [(20, B x3)])) o_0 92) (co 22 [] (h140 p0) (fun x4 => ?_))))))
        refine zN (mkE (s_2.append [(3, I x4)]) o_0 92) (zS 0 6 (mkE (s_2.append ((3, I x4) :: [(24, B (neI x4 0))])) o_0 92) (gC 24 (neI x4 0) ?_ ?_))
        · exact zF 0 7 (mkE [(2, I x4)] [] 92)
        · refine gK (zP (gS 10 (zR 0 8 (sg 2 (mkE ((27, I p0.f4) :: ((26, .ba 8 4) :: (s_2.append ((3, I x4) :: [(24, B (neI x4 0))])))) o_0 92) (co 28 [] (h31 p0.f4) (fun x5 => ?_))))))
          refine sg 5 (mkE ((30, B (!x5)) :: ((29, B (!x5)) :: ((28, B x5) :: ((27, I p0.f4) :: ((26, .ba 8 4) :: (s_2.append ((3, I x4) :: [(24, B (neI x4 0))]))))))) o_0 92) (sb 30 (!x5) ?_ ?_)
          · exact zN (mkE (s_2.append [(45, B true)]) o_0 92) (gT (.tmp 45) (zF 0 9 (mkE [(2, I 1)] [] 92)))
          · refine sg 13 (mkE (s_0.append ((30, B (!x5)) :: ((29, B (!x5)) :: ((28, B x5) :: ((27, I p0.f4) :: ((26, .ba 8 4) :: (s_2.append ((3, I x4) :: [(24, B (neI x4 0))])))))))) o_0 92) (co 39 [] (h30 p0.f5 (addI .i64 p0.f4 1) (addI .i64 p0.f4 2592000000)) (fun x6 => ?_))
            refine sg 16 (mkE ((41, B x6) :: ((40, B x6) :: ((39, B x6) :: (s_0.append ((30, B (!x5)) :: ((29, B (!x5)) :: ((28, B x5) :: ((27, I p0.f4) :: ((26, .ba 8 4) :: (s_2.append ((3, I x4) :: [(24, B (neI x4 0))]))))))))))) o_0 92) (sb 41 x6 ?_ ?_)
            · exact zN (mkE (s_2.append [(45, B true)]) o_0 92) (gT (.tmp 45) (zF 0 9 (mkE [(2, I 1)] [] 92)))
            · refine sg 18 (mkE ((43, I p0.f6) :: ((42, .ba 8 6) :: ((41, B false) :: ((41, B x6) :: ((40, B x6) :: ((39, B x6) :: (s_0.append ((30, B (!x5)) :: ((29, B (!x5)) :: ((28, B x5) :: ((27, I p0.f4) :: ((26, .ba 8 4) :: (s_2.append ((3, I x4) :: [(24, B (neI x4 0))])))))))))))))) o_0 92) (co 44 [] (h30 p0.f6 1 9) (fun x7 => ?_))
              refine zN (mkE (s_2.append [(45, B x7)]) o_0 92) (gC 45 x7 ?_ ?_)
              · exact zF 0 9 (mkE [(2, I 1)] [] 92)
              · refine gK (zP (gS 12 (zR 0 10 (sg 2 (mkE ((47, LL a64 p0.f7) :: ((46, .ba 8 7) :: (s_2.append [(45, B x7)]))) o_0 92) (eo 48 (I (lenL p0.f7)) (lenE 45 a64 p0.f7) (zN (mkE (s_2.append [(49, B (ltI 20 (lenL p0.f7)))]) o_0 92) (gC 49 (ltI 20 (lenL p0.f7)) ?_ ?_)))))))
                · exact zF 0 11 (mkE [(2, I 2)] [] 92)
                · refine gK (zP (gS 19 (zR 13 12 (sg 2 (mkE ((51, LL a64 p0.f7) :: ((50, .ba 8 7) :: (s_2.append [(49, B (ltI 20 (lenL p0.f7)))]))) o_0 92) (eo 52 (I (lenL p0.f7)) (lenE 45 a64 p0.f7) (zN (mkE (s_2.append ((51, LL a64 p0.f7) :: ((52, I (lenL p0.f7)) :: [(53, I 0)]))) o_0 92) (gB 0 (lo [(1, none), (51, none), (52, none), (53, none)] [] (L87_13 p0) (fun z0 : Int => (mkE (s_2.append ((51, LL a64 p0.f7) :: ((52, I (lenL p0.f7)) :: [(53, I z0)]))) o_0 92)) (Sum.elim (fun (x : (Int × Bool)) => (.exit 0, (mkE (s_2.append ((51, LL a64 p0.f7) :: ((52, I (lenL p0.f7)) :: ((53, I x.1) :: [(54, B x.2)])))) o_0 92))) (fun (x : Int) => (.ret, (mkE [(2, I x)] [] 92)))) 0 (fun z => L87_13_ok C h121 p0 z) ?_))))))))
                  intro y10
                  refine ss y10 (Z := (Sum.elim (fun (x : (Int × Bool)) => (.exit 0, (mkE (s_2.append ((51, LL a64 p0.f7) :: ((52, I (lenL p0.f7)) :: ((53, I x.1) :: [(54, B x.2)])))) o_0 92))) (fun (x : Int) => (.ret, (mkE [(2, I x)] [] 92))))) (fun y10a => ?_) (fun y10b => ?_)
                  · refine pH (zP (zS 20 19 (mkE (s_2.append [(7, B (eqI p0.f2 3))]) o_0 92) (gS 26 (gB 2 (zR 0 20 (sg 3 (mkE ((69, LL a64 p0.f7) :: ((68, .ba 8 7) :: ((67, B (eqI p0.f2 3)) :: (s_2.append [(7, B (eqI p0.f2 3))])))) o_0 92) (eo 70 (I (lenL p0.f7)) (lenE 45 a64 p0.f7) (zN (mkE (s_2.append ((7, B (eqI p0.f2 3)) :: [(66, B ((eqI p0.f2 3) != (eqI (lenL p0.f7) 0)))])) o_0 92) (gC 66 ((eqI p0.f2 3) != (eqI (lenL p0.f7) 0)) ?_ ?_)))))))))
                    · exact zF 0 21 (mkE [(2, I 3)] [] 92)
                    · refine zS 0 22 (mkE (s_2.append ((7, B (eqI p0.f2 3)) :: [(73, B (ltI 500 (lenS p0.f8)))])) o_0 92) (gC 73 (ltI 500 (lenS p0.f8)) ?_ ?_)
                      · exact zF 0 23 (mkE [(2, I 2)] [] 92)
                      · refine zR 0 24 (sg 2 (mkE s_1 o_0 92) (co 81 [] (h141 p0.f8) (fun x11 => ?_)))
                        refine sg 5 (mkE ((83, B (!x11)) :: ((82, B (!x11)) :: ((81, B x11) :: s_1))) o_0 92) (sb 83 (!x11) ?_ ?_)
                        · exact zN (mkE [(78, B true)] [] 92) (gT (.tmp 78) (zF 0 25 (mkE [(2, I 3)] [] 92)))
                        · refine sg 9 (mkE ((87, B (eqS p0.f8 (ByteArray.mk #[]))) :: ((86, B (eqS p0.f8 (ByteArray.mk #[]))) :: ((85, S p0.f8) :: ((84, .ba 8 8) :: ((83, B false) :: ((83, B (!x11)) :: ((82, B (!x11)) :: ((81, B x11) :: s_1)))))))) o_0 92) (sb 87 (eqS p0.f8 (ByteArray.mk #[])) ?_ ?_)
                          · refine zN (mkE [(78, B (!(eqI p0.f2 3)))] [] 92) (gC 78 (!(eqI p0.f2 3)) ?_ ?_)
                            · exact zF 0 25 (mkE [(2, I 3)] [] 92)
                            · exact gK (pB (zP (zF 0 26 (mkE [(2, I 0)] [] 92))))
                          · exact zN (mkE [(78, B false)] [] 92) (gF (.tmp 78) (gK (pB (zP (zF 0 26 (mkE [(2, I 0)] [] 92))))))
                  · exact pL
theorem F87 (m : Nat) (hm : 4 ≤ m) (p0 : S46) : callA Tryz.prog cfg m 87 [a46 p0] = (T87 p0).map I := by
  obtain ⟨q, rfl⟩ : ∃ q, m = q + 1 := ⟨m - 1, by omega⟩
  exact (callA_body (fn := Tryz.f87) (c := body_ Tryz.f87) q _ (by kernel_rfl) (by kernel_rfl) (by kernel_rfl)).trans (B87 _ (fun p0 => F108 q (by omega) p0) (fun p0 => F121 q (by omega) p0) (fun p0 => F140 q (by omega) p0) (fun p0 => F141 q (by omega) p0) (fun p0 p1 p2 => F30 q (by omega) p0 p1 p2) (fun p0 => F31 q (by omega) p0) p0)

noncomputable def T163 (p0 : Int) : Option Bool := (some (neI p0 p0))
theorem B163 (C : Callee) (p0 : Int) : runs Tryz.prog C (cfg.fn 163) (finFn Tryz.prog (cfg.fn 163).byval Tryz.f163) [] (execA Tryz.prog C (cfg.fn 163) (nr Tryz.f163 []) (frame0 [I p0] 6 false)) = (T163 p0).map B := by
  unfold T163
  exact zS 1 0 (mkE [(0, I p0)] [] 6) (zF 0 1 (mkE [(2, B (neI p0 p0))] [] 6))
theorem F163 (m : Nat) (hm : 1 ≤ m) (p0 : Int) : callA Tryz.prog cfg m 163 [I p0] = (T163 p0).map B := by
  obtain ⟨q, rfl⟩ : ∃ q, m = q + 1 := ⟨m - 1, by omega⟩
  exact (callA_bodyQ (fn := Tryz.f163) (c := body_ Tryz.f163) q _ (by kernel_rfl) (by kernel_rfl) (by kernel_rfl)).trans (B163 _ p0)

noncomputable def T135 (p0 : Int) (p1 : Int) : Option Int := ((T163 p0).bind fun x1 => ((T163 p1).bind fun x2 => (bif x1 then (bif x2 then (some 0) else (some (-1))) else (bif x2 then (some 1) else (bif (ltI p0 p1) then (some (-1)) else (bif (ltI p1 p0) then (some 1) else (some 0)))))))
theorem B135 (C : Callee) (h163 : ∀ (p0 : Int), C 163 [I p0] = (T163 p0).map B) (p0 : Int) (p1 : Int) : runs Tryz.prog C (cfg.fn 135) (finFn Tryz.prog (cfg.fn 135).byval Tryz.f135) [] (execA Tryz.prog C (cfg.fn 135) (nr Tryz.f135 []) (frame0 [I p0, I p1] 20 false)) = (T135 p0 p1).map I := by
  unfold T135
  refine zS 1 0 (mkE [(0, I p0), (1, I p1)] [] 20) (zR 2 1 (sg 1 (mkE [(7, I p0), (0, I p0), (1, I p1)] [] 20) (co 8 [] (h163 p0) (fun x1 => ?_))))
  refine zN (mkE [(0, I p0), (1, I p1), (5, B x1)] [] 20) (zR 3 2 (sg 1 (mkE [(9, I p1), (0, I p0), (1, I p1), (5, B x1)] [] 20) (co 10 [] (h163 p1) (fun x2 => ?_))))
  refine zN (mkE [(0, I p0), (1, I p1), (5, B x1), (6, B x2)] [] 20) (gS 7 (zS 0 3 (mkE [(0, I p0), (1, I p1), (6, B x2), (11, B x1)] [] 20) (gC 11 x1 ?_ ?_)))
  · refine gS 6 (zS 0 4 (mkE [(12, B x2)] [] 20) (gC 12 x2 ?_ ?_))
    · exact zF 0 5 (mkE [(4, I 0)] [] 20)
    · exact gK (zP (zF 0 6 (mkE [(4, I (-1))] [] 20)))
  · refine gK (zP (gS 9 (zS 0 7 (mkE [(0, I p0), (1, I p1), (13, B x2)] [] 20) (gC 13 x2 ?_ ?_))))
    · exact zF 0 8 (mkE [(4, I 1)] [] 20)
    · refine gK (zP (gS 11 (zS 0 9 (mkE [(0, I p0), (1, I p1), (16, B (ltI p0 p1))] [] 20) (gC 16 (ltI p0 p1) ?_ ?_))))
      · exact zF 0 10 (mkE [(4, I (-1))] [] 20)
      · refine gK (zP (gS 13 (zS 0 11 (mkE [(19, B (ltI p1 p0))] [] 20) (gC 19 (ltI p1 p0) ?_ ?_))))
        · exact zF 0 12 (mkE [(4, I 1)] [] 20)
        · exact gK (zP (zF 0 13 (mkE [(4, I 0)] [] 20)))
theorem F135 (m : Nat) (hm : 2 ≤ m) (p0 : Int) (p1 : Int) : callA Tryz.prog cfg m 135 [I p0, I p1] = (T135 p0 p1).map I := by
  obtain ⟨q, rfl⟩ : ∃ q, m = q + 1 := ⟨m - 1, by omega⟩
  exact (callA_bodyQ (fn := Tryz.f135) (c := body_ Tryz.f135) q _ (by kernel_rfl) (by kernel_rfl) (by kernel_rfl)).trans (B135 _ (fun p0 => (guard_q (by kernel_rfl) _).trans (F163 q (by omega) p0)) p0 p1)

theorem F67 (m : Nat) (hm : 1 ≤ m) (p0 : ByteArray) (p1 : ByteArray) : callA Tryz.prog cfg m 67 [S p0, S p1] = (some (cmpS p0 p1)).map I := by
  obtain ⟨q, rfl⟩ : ∃ q, m = q + 1 := ⟨m - 1, by omega⟩
  exact (callA_leaf (L := leafCmp) _ _ (by kernel_rfl)).trans (rfl)

noncomputable def T38 (p0 : ByteArray) (p1 : ByteArray) : Option Int := ((some (cmpS p0 p1)).bind fun x1 => (some x1))
theorem B38 (C : Callee) (h67 : ∀ (p0 : ByteArray) (p1 : ByteArray), C 67 [S p0, S p1] = (some (cmpS p0 p1)).map I) (p0 : ByteArray) (p1 : ByteArray) : runs Tryz.prog C (cfg.fn 38) (finFn Tryz.prog (cfg.fn 38).byval Tryz.f38) [] (execA Tryz.prog C (cfg.fn 38) (nr Tryz.f38 []) (frame0 [S p0, S p1] 8 false)) = (T38 p0 p1).map I := by
  unfold T38
  refine zS 1 0 (mkE [(0, S p0), (1, S p1)] [] 8) (zR 0 1 (sg 2 (mkE [(6, S p1), (5, S p0), (0, S p0), (1, S p1)] [] 8) (co 7 [] (h67 p0 p1) (fun x1 => ?_))))
  exact zE (mkE [(4, I x1)] [] 8)
theorem F38 (m : Nat) (hm : 2 ≤ m) (p0 : ByteArray) (p1 : ByteArray) : callA Tryz.prog cfg m 38 [S p0, S p1] = (T38 p0 p1).map I := by
  obtain ⟨q, rfl⟩ : ∃ q, m = q + 1 := ⟨m - 1, by omega⟩
  exact (callA_bodyQ (fn := Tryz.f38) (c := body_ Tryz.f38) q _ (by kernel_rfl) (by kernel_rfl) (by kernel_rfl)).trans (B38 _ (fun p0 p1 => (guard_q (by kernel_rfl) _).trans (F67 q (by omega) p0 p1)) p0 p1)

noncomputable def L37_3 (p0 : (List Int)) (z0 : Int) : Option (Int ⊕ ((Int × Bool) ⊕ Int)) := (bif (ltI z0 (lenL p0)) then ((listAt p0 z0).bind fun x1 => (bif (neI x1 0) then (some (.inr (.inr x1))) else (some (.inl (addI .i64 z0 1))))) else (some (.inr (.inl (z0, (ltI z0 (lenL p0)))))))
theorem L37_3_ok (C : Callee) (p0 : (List Int)) (z0 : Int) : runs Tryz.prog C (cfg.fn 37) (finLoop ((cfg.fn 37).keep 3) ((cfg.fn 37).al 3)) [] (execA Tryz.prog C (cfg.fn 37) (nr Tryz.f37 [false, false, true, false, true, true]) ((fun z0 : Int => (mkE [(3, I 0), (6, LL I p0), (7, I (lenL p0)), (8, I z0)] [] 18)) z0)) = (L37_3 p0 z0).map (Sum.elim (fun z => .inl ((fun z0 : Int => (mkE [(3, I 0), (6, LL I p0), (7, I (lenL p0)), (8, I z0)] [] 18)) z)) (fun x => .inr ((Sum.elim (fun (x : (Int × Bool)) => (.exit 0, (mkE [(3, I 0), (6, LL I p0), (7, I (lenL p0)), (8, I x.1), (9, B x.2)] [] 18))) (fun (x : Int) => (.ret, (mkE [(2, I x)] [] 18)))) x))) := by
  unfold L37_3
  refine zS 0 3 (mkE [(3, I 0), (6, LL I p0), (7, I (lenL p0)), (8, I z0), (9, B (ltI z0 (lenL p0)))] [] 18) (gS 4 (gC 9 (ltI z0 (lenL p0)) ?_ ?_))
  · refine gK (zP (gS 7 (gB 1 (zR 5 4 (vo 10 (addrE 22 3 1 I .i64 p0 z0) (fun x1 => ?_))))))
    refine zN (mkE [(3, I 0), (5, I x1), (6, LL I p0), (7, I (lenL p0)), (8, I z0)] [] 18) (zS 0 5 (mkE [(3, I 0), (5, I x1), (6, LL I p0), (7, I (lenL p0)), (8, I z0), (14, B (neI x1 0))] [] 18) (gC 14 (neI x1 0) ?_ ?_))
    · exact zF 0 6 (mkE [(2, I x1)] [] 18)
    · exact gK (pB (zP (gR 7 (rg Tryz.f37 7) (se (mkE [(3, I 0), (6, LL I p0), (7, I (lenL p0)), (8, I (addI .i64 z0 1))] [] 18) (pL)))))
  · exact gX 0 (pL)
noncomputable def T37 (p0 : (List Int)) : Option Int := ((iter (L37_3 p0) 0).bind fun y2 => (Sum.elim (fun y2a => (some 0)) (fun y2b => (some y2b)) y2))
theorem B37 (C : Callee) (p0 : (List Int)) : runs Tryz.prog C (cfg.fn 37) (finFn Tryz.prog (cfg.fn 37).byval Tryz.f37) [] (execA Tryz.prog C (cfg.fn 37) (nr Tryz.f37 []) (frame0 [LL I p0] 18 false)) = (T37 p0).map I := by
  unfold T37
  refine zS 1 0 (mkE [(0, LL I p0)] [] 18) (zS 2 1 (mkE [(0, LL I p0), (3, I 0)] [] 18) (gS 8 (zR 3 2 (sg 1 (mkE [(6, LL I p0), (0, LL I p0), (3, I 0)] [] 18) (eo 7 (I (lenL p0)) (lenE 22 I p0) (zN (mkE [(3, I 0), (6, LL I p0), (7, I (lenL p0)), (8, I 0)] [] 18) (gB 0 (lo [(3, none), (6, none), (7, none), (8, none)] [] (L37_3 p0) (fun z0 : Int => (mkE [(3, I 0), (6, LL I p0), (7, I (lenL p0)), (8, I z0)] [] 18)) (Sum.elim (fun (x : (Int × Bool)) => (.exit 0, (mkE [(3, I 0), (6, LL I p0), (7, I (lenL p0)), (8, I x.1), (9, B x.2)] [] 18))) (fun (x : Int) => (.ret, (mkE [(2, I x)] [] 18)))) 0 (fun z => L37_3_ok C p0 z) ?_))))))))
  intro y2
  refine ss y2 (Z := (Sum.elim (fun (x : (Int × Bool)) => (.exit 0, (mkE [(3, I 0), (6, LL I p0), (7, I (lenL p0)), (8, I x.1), (9, B x.2)] [] 18))) (fun (x : Int) => (.ret, (mkE [(2, I x)] [] 18))))) (fun y2a => ?_) (fun y2b => ?_)
  · exact pH (zP (zF 0 8 (mkE [(2, I 0)] [] 18)))
  · exact pL
theorem F37 (m : Nat) (hm : 1 ≤ m) (p0 : (List Int)) : callA Tryz.prog cfg m 37 [LL I p0] = (T37 p0).map I := by
  obtain ⟨q, rfl⟩ : ∃ q, m = q + 1 := ⟨m - 1, by omega⟩
  exact (callA_bodyQ (fn := Tryz.f37) (c := body_ Tryz.f37) q _ (by kernel_rfl) (by kernel_rfl) (by kernel_rfl)).trans (B37 _ p0)

noncomputable def T84 (p0 : S46) (p1 : S46) : Option Int := ((T135 p0.f4 p1.f4).bind fun x1 => ((T38 p0.f0 p1.f0).bind fun x2 => ((T37 ([x1, x2] : List Int)).bind fun x3 => (some x3))))
theorem B84 (C : Callee) (h135 : ∀ (p0 : Int) (p1 : Int), C 135 [I p0, I p1] = (T135 p0 p1).map I) (h37 : ∀ (p0 : (List Int)), C 37 [LL I p0] = (T37 p0).map I) (h38 : ∀ (p0 : ByteArray) (p1 : ByteArray), C 38 [S p0, S p1] = (T38 p0 p1).map I) (p0 : S46) (p1 : S46) : runs Tryz.prog C (cfg.fn 84) (finFn Tryz.prog (cfg.fn 84).byval Tryz.f84) [] (execA Tryz.prog C (cfg.fn 84) (nr Tryz.f84 []) (frame0 [a46 p0, a46 p1] 17 false)) = (T84 p0 p1).map I := by
  unfold T84
  let d_0 : List (Option Nat × REff) := [(some 5, qe (.ba 16 4)), (some 6, qe (I p0.f4)), (some 7, qe (.ba 24 4)), (some 8, qe (I p1.f4))]
  let d_1 : List (Option Nat × REff) := [(some 10, qe (.ba 16 0)), (some 11, qe (S p0.f0)), (some 12, qe (.ba 24 0)), (some 13, qe (S p1.f0))]
  let s_0 : List (Nat × AV) := [(8, I p1.f4), (7, .ba 24 4), (6, I p0.f4), (5, .ba 16 4), (2, .ba 16 0), (3, .ba 24 0)]
  let o_0 : List (Nat × AObj) := [(16, .box [S p0.f0, S p0.f1, I p0.f2, LL S p0.f3, I p0.f4, I p0.f5, I p0.f6, LL a64 p0.f7, S p0.f8] false), (24, .box [S p1.f0, S p1.f1, I p1.f2, LL S p1.f3, I p1.f4, I p1.f5, I p1.f6, LL a64 p1.f7, S p1.f8] false)]
  refine zS 1 0 (mkE [(2, .ba 16 0), (3, .ba 24 0)] o_0 17) (gS 0 (gD 1 13 (rg Tryz.f84 1) [0, 1, 2, 3, 4, 5, 6, 7, 8, 9, 10, 11, 12] (dg 4 d_0 (dc 9 [] (mkE s_0 o_0 17) (h135 p0.f4 p1.f4) (fun x1 => ?_)))))
  refine dg 9 (d_0.append ((some 9, qe (I x1)) :: d_1)) (dc 14 [] (mkE ((13, S p1.f0) :: ((12, .ba 24 0) :: ((11, S p0.f0) :: ((10, .ba 16 0) :: ((9, I x1) :: s_0))))) o_0 17) (h38 p0.f0 p1.f0) (fun x2 => ?_))
  refine dg 11 (d_0.append ((some 9, qe (I x1)) :: (d_1.append ((some 14, qe (I x2)) :: [(some 15, { e := { val := .own 120 0, news := [(120, RR 3 1 I ([x1, x2] : List Int) 0 false)] } })])))) (dc 16 [120] (mkE ((15, .own 120 0) :: ((14, I x2) :: ((13, S p1.f0) :: ((12, .ba 24 0) :: ((11, S p0.f0) :: ((10, .ba 16 0) :: ((9, I x1) :: s_0))))))) ((120, RR 3 1 I ([x1, x2] : List Int) 0 false) :: o_0) 17) (h37 ([x1, x2] : List Int)) (fun x3 => ?_))
  exact dg 13 (d_0.append ((some 9, qe (I x1)) :: (d_1.append ((some 14, qe (I x2)) :: ((some 15, { e := { val := .own 120 0, news := [(120, RR 3 1 I ([x1, x2] : List Int) 0 false)] } }) :: ((some 16, qe (I x3)) :: [(some 4, qe (I x3))])))))) (de (mkE ((4, I x3) :: ((16, I x3) :: ((15, .own 120 0) :: ((14, I x2) :: ((13, S p1.f0) :: ((12, .ba 24 0) :: ((11, S p0.f0) :: ((10, .ba 16 0) :: ((9, I x1) :: s_0))))))))) ((120, RR 3 1 I ([x1, x2] : List Int) 0 false) :: o_0) 17) (zE (mkE [(4, I x3)] [] 17)))
theorem F84 (m : Nat) (hm : 3 ≤ m) (p0 : S46) (p1 : S46) : callA Tryz.prog cfg m 84 [a46 p0, a46 p1] = (T84 p0 p1).map I := by
  obtain ⟨q, rfl⟩ : ∃ q, m = q + 1 := ⟨m - 1, by omega⟩
  exact (callA_bodyQ (fn := Tryz.f84) (c := body_ Tryz.f84) q _ (by kernel_rfl) (by kernel_rfl) (by kernel_rfl)).trans (B84 _ (fun p0 p1 => (guard_q (by kernel_rfl) _).trans (F135 q (by omega) p0 p1)) (fun p0 => (guard_q (by kernel_rfl) _).trans (F37 q (by omega) p0)) (fun p0 p1 => (guard_q (by kernel_rfl) _).trans (F38 q (by omega) p0 p1)) p0 p1)

noncomputable def L50_4 (p0 : (List S46)) (z0 : Int) : Option (Int ⊕ ((Int × Bool) ⊕ Int)) := (bif (ltI z0 (lenL p0)) then ((listAt p0 z0).bind fun x1 => ((T87 x1).bind fun x2 => (bif (neI x2 0) then (some (.inr (.inr x2))) else (bif (ltI 0 z0) then ((listAt p0 (subI .i64 z0 1)).bind fun x3 => ((T84 x3 x1).bind fun x4 => (bif (leI 0 x4) then (some (.inr (.inr 7))) else (some (.inl (addI .i64 z0 1)))))) else (some (.inl (addI .i64 z0 1))))))) else (some (.inr (.inl (z0, (ltI z0 (lenL p0)))))))
theorem L50_4_ok (C : Callee) (h84 : ∀ (p0 : S46) (p1 : S46), C 84 [a46 p0, a46 p1] = (T84 p0 p1).map I) (h87 : ∀ (p0 : S46), C 87 [a46 p0] = (T87 p0).map I) (p0 : (List S46)) (z0 : Int) : runs Tryz.prog C (cfg.fn 50) (finLoop ((cfg.fn 50).keep 4) ((cfg.fn 50).al 4)) [] (execA Tryz.prog C (cfg.fn 50) (nr Tryz.f50 [false, false, true, false, true, true]) ((fun z0 : Int => (mkE [(0, LL a46 p0), (12, LL a46 p0), (13, I (lenL p0)), (14, I z0)] [] 52)) z0)) = (L50_4 p0 z0).map (Sum.elim (fun z => .inl ((fun z0 : Int => (mkE [(0, LL a46 p0), (12, LL a46 p0), (13, I (lenL p0)), (14, I z0)] [] 52)) z)) (fun x => .inr ((Sum.elim (fun (x : (Int × Bool)) => (.exit 0, (mkE [(0, LL a46 p0), (12, LL a46 p0), (13, I (lenL p0)), (14, I x.1), (15, B x.2)] [] 52))) (fun (x : Int) => (.ret, (mkE [(2, I x)] [] 52)))) x))) := by
  unfold L50_4
  let d_0 : List (Option Nat × REff) := [(some 24, qe (I z0)), (some 25, qe (B (ltI 0 z0))), (some 26, qe (B true)), (some 27, qe (LL a46 p0)), (some 28, qe (I z0)), (some 29, qe (I (subI .i64 z0 1)))]
  let s_0 : List (Nat × AV) := [(12, LL a46 p0), (13, I (lenL p0)), (14, I z0)]
  let s_1 : List (Nat × AV) := [(29, I (subI .i64 z0 1)), (28, I z0), (27, LL a46 p0), (26, B true), (25, B (ltI 0 z0)), (24, I z0), (0, LL a46 p0), (3, I z0), (4, .ba 32 0)]
  let s_2 : List (Nat × AV) := [(0, LL a46 p0), (3, I z0), (4, .ba 32 0)]
  refine zS 0 4 (mkE ((0, LL a46 p0) :: (s_0.append [(15, B (ltI z0 (lenL p0)))])) [] 52) (gS 5 (gC 15 (ltI z0 (lenL p0)) ?_ ?_))
  · refine gK (zP (gS 11 (gB 1 (zR 6 5 (sg 1 (mkE ((16, I z0) :: ((0, LL a46 p0) :: (s_0.append [(15, B (ltI z0 (lenL p0)))]))) [] 52) (vo 17 (addrE 26 47 9 a46 .i64 p0 z0) (fun x1 => ?_)))))))
    refine zN (mkE (s_2.append s_0) [(32, .box [S x1.f0, S x1.f1, I x1.f2, LL S x1.f3, I x1.f4, I x1.f5, I x1.f6, LL a64 x1.f7, S x1.f8] false)] 52) (gS 9 (zR 7 6 (sg 1 (mkE ((19, a46 x1) :: (s_2.append s_0)) [(32, .box [S x1.f0, S x1.f1, I x1.f2, LL S x1.f3, I x1.f4, I x1.f5, I x1.f6, LL a64 x1.f7, S x1.f8] false)] 52) (co 20 [] (h87 x1) (fun x2 => ?_)))))
    refine zN (mkE (s_2.append ((5, I x2) :: s_0)) [(32, .box [S x1.f0, S x1.f1, I x1.f2, LL S x1.f3, I x1.f4, I x1.f5, I x1.f6, LL a64 x1.f7, S x1.f8] false)] 52) (zS 0 7 (mkE (s_2.append ((5, I x2) :: (s_0.append [(22, B (neI x2 0))]))) [(32, .box [S x1.f0, S x1.f1, I x1.f2, LL S x1.f3, I x1.f4, I x1.f5, I x1.f6, LL a64 x1.f7, S x1.f8] false)] 52) (gC 22 (neI x2 0) ?_ ?_))
    · exact zF 0 8 (mkE [(2, I x2)] [] 52)
    · refine gK (zP (gS 0 (gD 9 12 (rg Tryz.f50 9) [0, 1, 2, 3, 4, 5, 6, 7, 8, 9, 10, 11] (dg 3 [(some 24, qe (I z0)), (some 25, qe (B (ltI 0 z0))), (some 26, qe (B (ltI 0 z0)))] (db 2 26 (ltI 0 z0) ?_ ?_)))))
      · refine dg 6 d_0 (dv 30 (mkE (s_1.append ((5, I x2) :: (s_0.append [(22, B (neI x2 0))]))) [(32, .box [S x1.f0, S x1.f1, I x1.f2, LL S x1.f3, I x1.f4, I x1.f5, I x1.f6, LL a64 x1.f7, S x1.f8] false)] 52) (addrE 26 47 9 a46 .i64 p0 (subI .i64 z0 1)) (fun x3 => ?_))
        refine dg 9 (d_0.append ((some 30, qe (.ia [S x3.f0, S x3.f1, I x3.f2, LL S x3.f3, I x3.f4, I x3.f5, I x3.f6, LL a64 x3.f7, S x3.f8] 0)) :: ((some 31, qe (a46 x3)) :: [(some 32, qe (a46 x1))]))) (dc 33 [] (mkE ((32, a46 x1) :: ((31, a46 x3) :: ((30, .ia [S x3.f0, S x3.f1, I x3.f2, LL S x3.f3, I x3.f4, I x3.f5, I x3.f6, LL a64 x3.f7, S x3.f8] 0) :: (s_1.append ((5, I x2) :: (s_0.append [(22, B (neI x2 0))])))))) [(32, .box [S x1.f0, S x1.f1, I x1.f2, LL S x1.f3, I x1.f4, I x1.f5, I x1.f6, LL a64 x1.f7, S x1.f8] false)] 52) (h84 x3 x1) (fun x4 => ?_))
        refine dg 12 (d_0.append ((some 30, qe (.ia [S x3.f0, S x3.f1, I x3.f2, LL S x3.f3, I x3.f4, I x3.f5, I x3.f6, LL a64 x3.f7, S x3.f8] 0)) :: ((some 31, qe (a46 x3)) :: ((some 32, qe (a46 x1)) :: ((some 33, qe (I x4)) :: ((some 34, qe (B (leI 0 x4))) :: [(some 35, qe (B (leI 0 x4)))])))))) (de (mkE ((35, B (leI 0 x4)) :: ((34, B (leI 0 x4)) :: ((33, I x4) :: ((32, a46 x1) :: ((31, a46 x3) :: ((30, .ia [S x3.f0, S x3.f1, I x3.f2, LL S x3.f3, I x3.f4, I x3.f5, I x3.f6, LL a64 x3.f7, S x3.f8] 0) :: (s_1.append ((5, I x2) :: (s_0.append [(22, B (neI x2 0))]))))))))) [(32, .box [S x1.f0, S x1.f1, I x1.f2, LL S x1.f3, I x1.f4, I x1.f5, I x1.f6, LL a64 x1.f7, S x1.f8] false)] 52) (zN (mkE ((0, LL a46 p0) :: (s_0.append [(35, B (leI 0 x4))])) [] 52) (gC 35 (leI 0 x4) ?_ ?_)))
        · exact zF 0 10 (mkE [(2, I 7)] [] 52)
        · exact gK (pB (zP (gR 11 (rg Tryz.f50 11) (se (mkE [(0, LL a46 p0), (12, LL a46 p0), (13, I (lenL p0)), (14, I (addI .i64 z0 1))] [] 52) (pL)))))
      · exact dg 12 [(some 24, qe (I z0)), (some 25, qe (B (ltI 0 z0))), (some 26, qe (B false)), (some 27, qe (.und)), (some 28, qe (.und)), (some 29, qe (.und)), (some 30, qe (.und)), (some 31, qe (.und)), (some 32, qe (.und)), (some 33, qe (.und)), (some 34, qe (.und)), (some 35, qe (B false))] (de (mkE ((35, B false) :: ((34, .und) :: ((33, .und) :: ((32, .und) :: ((31, .und) :: ((30, .und) :: ((29, .und) :: ((28, .und) :: ((27, .und) :: ((26, B false) :: ((25, B (ltI 0 z0)) :: ((24, I z0) :: (s_2.append ((5, I x2) :: (s_0.append [(22, B (neI x2 0))]))))))))))))))) [(32, .box [S x1.f0, S x1.f1, I x1.f2, LL S x1.f3, I x1.f4, I x1.f5, I x1.f6, LL a64 x1.f7, S x1.f8] false)] 52) (zN (mkE ((0, LL a46 p0) :: (s_0.append [(35, B false)])) [] 52) (gF (.tmp 35) (gK (pB (zP (gR 11 (rg Tryz.f50 11) (se (mkE [(0, LL a46 p0), (12, LL a46 p0), (13, I (lenL p0)), (14, I (addI .i64 z0 1))] [] 52) (pL)))))))))
  · exact gX 0 (pL)
noncomputable def L50_14 (p0 : (List S46)) (z1 : ((List (ByteArray × Bool)) × Int)) : Option (((List (ByteArray × Bool)) × Int) ⊕ ((Int × Bool × (List (ByteArray × Bool))) ⊕ Unit)) := (bif (ltI z1.2 (lenL p0)) then ((listAt p0 z1.2).bind fun x6 => (bif ((mgetB eqB z1.1 x6.f0).getD false) then (some (.inr (.inr ()))) else ((some (msetB eqB z1.1 x6.f0 true)).bind fun x7 => (some (.inl (x7, (addI .i64 z1.2 1))))))) else (some (.inr (.inl (z1.2, (ltI z1.2 (lenL p0)), z1.1)))))
theorem L50_14_ok (C : Callee) (p0 : (List S46)) (z1 : ((List (ByteArray × Bool)) × Int)) : runs Tryz.prog C (cfg.fn 50) (finLoop ((cfg.fn 50).keep 14) ((cfg.fn 50).al 14)) [] (execA Tryz.prog C (cfg.fn 50) (nr Tryz.f50 [false, false, true, false, true, true, true, true]) ((fun z1 : ((List (ByteArray × Bool)) × Int) => (mkE [(6, .mr 48), (38, LL a46 p0), (39, I (lenL p0)), (40, I z1.2)] [(48, MP S B z1.1 false)] 52)) z1)) = (L50_14 p0 z1).map (Sum.elim (fun z => .inl ((fun z1 : ((List (ByteArray × Bool)) × Int) => (mkE [(6, .mr 48), (38, LL a46 p0), (39, I (lenL p0)), (40, I z1.2)] [(48, MP S B z1.1 false)] 52)) z)) (fun x => .inr ((Sum.elim (fun (x : (Int × Bool × (List (ByteArray × Bool)))) => (.exit 2, (mkE [(6, .mr 48), (38, LL a46 p0), (39, I (lenL p0)), (40, I x.1), (41, B x.2.1)] [(48, MP S B x.2.2 false)] 52))) (fun (x : Unit) => (.ret, (mkE [(2, I 6)] [] 52)))) x))) := by
  unfold L50_14
  let s_0 : List (Nat × AV) := [(6, .mr 48), (8, .ba 64 0), (38, LL a46 p0), (39, I (lenL p0)), (40, I z1.2)]
  refine zS 0 14 (mkE [(6, .mr 48), (38, LL a46 p0), (39, I (lenL p0)), (40, I z1.2), (41, B (ltI z1.2 (lenL p0)))] [(48, MP S B z1.1 false)] 52) (gS 15 (gC 41 (ltI z1.2 (lenL p0)) ?_ ?_))
  · refine gK (zP (gS 19 (gB 3 (zR 16 15 (vo 42 (addrE 26 47 9 a46 .i64 p0 z1.2) (fun x6 => ?_))))))
    refine zN (mkE s_0 [(48, MP S B z1.1 false), (64, .box [S x6.f0, S x6.f1, I x6.f2, LL S x6.f3, I x6.f4, I x6.f5, I x6.f6, LL a64 x6.f7, S x6.f8] false)] 52) (gS 18 (zR 0 16 (sg 3 (mkE ((46, S x6.f0) :: ((45, .ba 64 0) :: ((44, .mr 48) :: s_0))) [(48, MP S B z1.1 false), (64, .box [S x6.f0, S x6.f1, I x6.f2, LL S x6.f3, I x6.f4, I x6.f5, I x6.f6, LL a64 x6.f7, S x6.f8] false)] 52) (eo 47 (B ((mgetB eqB z1.1 x6.f0).getD false)) (mapE 141 9 4 48 false S B eqB z1.1 x6.f0 false sameS) (zN (mkE (s_0.append [(47, B ((mgetB eqB z1.1 x6.f0).getD false))]) [(48, MP S B z1.1 false), (64, .box [S x6.f0, S x6.f1, I x6.f2, LL S x6.f3, I x6.f4, I x6.f5, I x6.f6, LL a64 x6.f7, S x6.f8] false)] 52) (gC 47 ((mgetB eqB z1.1 x6.f0).getD false) ?_ ?_))))))
    · exact zF 0 17 (mkE [(2, I 6)] [] 52)
    · refine gK (zP (gR 18 (rg Tryz.f50 18) (sg 3 (mkE ((50, S x6.f0) :: ((49, .ba 64 0) :: ((48, .mr 48) :: (s_0.append [(47, B ((mgetB eqB z1.1 x6.f0).getD false))])))) [(48, MP S B z1.1 false), (64, .box [S x6.f0, S x6.f1, I x6.f2, LL S x6.f3, I x6.f4, I x6.f5, I x6.f6, LL a64 x6.f7, S x6.f8] false)] 52) (mo none (mapO_ 141 9 4 48 S B eqB z1.1 x6.f0 (B true) true [] sameS) (fun x7 => ?_)))))
      exact se (mkE [(6, .mr 48), (38, LL a46 p0), (39, I (lenL p0)), (40, I z1.2)] [(48, MP S B x7 false)] 52) (pB (zP (gR 19 (rg Tryz.f50 19) (se (mkE [(6, .mr 48), (38, LL a46 p0), (39, I (lenL p0)), (40, I (addI .i64 z1.2 1))] [(48, MP S B x7 false)] 52) (pL)))))
  · exact gX 2 (pL)
noncomputable def T50 (p0 : (List S46)) : Option Int := (bif (ltI 300 (lenL p0)) then (some 2) else ((iter (L50_4 p0) 0).bind fun y5 => (Sum.elim (fun y5a => ((iter (L50_14 p0) (([] : (List (ByteArray × Bool))), 0)).bind fun y8 => (Sum.elim (fun y8a => (some 0)) (fun y8b => (some 6)) y8))) (fun y5b => (some y5b)) y5)))
theorem B50 (C : Callee) (h84 : ∀ (p0 : S46) (p1 : S46), C 84 [a46 p0, a46 p1] = (T84 p0 p1).map I) (h87 : ∀ (p0 : S46), C 87 [a46 p0] = (T87 p0).map I) (p0 : (List S46)) : runs Tryz.prog C (cfg.fn 50) (finFn Tryz.prog (cfg.fn 50).byval Tryz.f50) [] (execA Tryz.prog C (cfg.fn 50) (nr Tryz.f50 []) (frame0 [LL a46 p0] 52 false)) = (T50 p0).map I := by
  unfold T50
  let s_0 : List (Nat × AV) := [(0, LL a46 p0), (12, LL a46 p0), (13, I (lenL p0))]
  refine zS 1 0 (mkE [(0, LL a46 p0)] [] 52) (gS 3 (zR 0 1 (sg 1 (mkE [(9, LL a46 p0), (0, LL a46 p0)] [] 52) (eo 10 (I (lenL p0)) (lenE 26 a46 p0) (zN (mkE [(0, LL a46 p0), (11, B (ltI 300 (lenL p0)))] [] 52) (gC 11 (ltI 300 (lenL p0)) ?_ ?_))))))
  · exact zF 0 2 (mkE [(2, I 2)] [] 52)
  · refine gK (zP (gS 12 (zR 4 3 (sg 1 (mkE [(12, LL a46 p0), (0, LL a46 p0), (11, B (ltI 300 (lenL p0)))] [] 52) (eo 13 (I (lenL p0)) (lenE 26 a46 p0) (zN (mkE (s_0.append [(14, I 0)]) [] 52) (gB 0 (lo [(0, none), (12, none), (13, none), (14, none)] [] (L50_4 p0) (fun z0 : Int => (mkE (s_0.append [(14, I z0)]) [] 52)) (Sum.elim (fun (x : (Int × Bool)) => (.exit 0, (mkE (s_0.append ((14, I x.1) :: [(15, B x.2)])) [] 52))) (fun (x : Int) => (.ret, (mkE [(2, I x)] [] 52)))) 0 (fun z => L50_4_ok C h84 h87 p0 z) ?_))))))))
    intro y5
    refine ss y5 (Z := (Sum.elim (fun (x : (Int × Bool)) => (.exit 0, (mkE (s_0.append ((14, I x.1) :: [(15, B x.2)])) [] 52))) (fun (x : Int) => (.ret, (mkE [(2, I x)] [] 52))))) (fun y5a => ?_) (fun y5b => ?_)
    · refine pH (zP (zS 13 12 (mkE [(0, LL a46 p0), (6, .mr 296)] [(296, MP S B ([] : (List (ByteArray × Bool))) false)] 52) (gS 20 (zR 14 13 (sg 1 (mkE [(38, LL a46 p0), (0, LL a46 p0), (6, .mr 296)] [(296, MP S B ([] : (List (ByteArray × Bool))) false)] 52) (eo 39 (I (lenL p0)) (lenE 26 a46 p0) (zN (mkE [(6, .mr 296), (38, LL a46 p0), (39, I (lenL p0)), (40, I 0)] [(296, MP S B ([] : (List (ByteArray × Bool))) false)] 52) (gB 2 (lo [(6, none), (38, none), (39, none), (40, none)] [] (L50_14 p0) (fun z1 : ((List (ByteArray × Bool)) × Int) => (mkE [(6, .mr 48), (38, LL a46 p0), (39, I (lenL p0)), (40, I z1.2)] [(48, MP S B z1.1 false)] 52)) (Sum.elim (fun (x : (Int × Bool × (List (ByteArray × Bool)))) => (.exit 2, (mkE [(6, .mr 48), (38, LL a46 p0), (39, I (lenL p0)), (40, I x.1), (41, B x.2.1)] [(48, MP S B x.2.2 false)] 52))) (fun (x : Unit) => (.ret, (mkE [(2, I 6)] [] 52)))) (([] : (List (ByteArray × Bool))), 0) (fun z => L50_14_ok C p0 z) ?_)))))))))
      intro y8
      refine ss y8 (Z := (Sum.elim (fun (x : (Int × Bool × (List (ByteArray × Bool)))) => (.exit 2, (mkE [(6, .mr 48), (38, LL a46 p0), (39, I (lenL p0)), (40, I x.1), (41, B x.2.1)] [(48, MP S B x.2.2 false)] 52))) (fun (x : Unit) => (.ret, (mkE [(2, I 6)] [] 52))))) (fun y8a => ?_) (fun y8b => ?_)
      · exact pH (zP (zF 0 20 (mkE [(2, I 0)] [] 52)))
      · exact pL
    · exact pL
theorem F50 (m : Nat) (hm : 5 ≤ m) (p0 : (List S46)) : callA Tryz.prog cfg m 50 [LL a46 p0] = (T50 p0).map I := by
  obtain ⟨q, rfl⟩ : ∃ q, m = q + 1 := ⟨m - 1, by omega⟩
  exact (callA_body (fn := Tryz.f50) (c := body_ Tryz.f50) q _ (by kernel_rfl) (by kernel_rfl) (by kernel_rfl)).trans (B50 _ (fun p0 p1 => F84 q (by omega) p0 p1) (fun p0 => F87 q (by omega) p0) p0)

theorem F134 (m : Nat) (hm : 1 ≤ m) (p1 : Int) : callA Tryz.prog cfg m 134 [.nils, I p1] = (growO S46 128 p1).map (fun l => AV.fr 47 9 (List.map a46 l)) := by
  obtain ⟨q, rfl⟩ : ∃ q, m = q + 1 := ⟨m - 1, by omega⟩
  exact (callA_leaf (L := (leafGrow Tryz.prog 47 9 128)) _ _ (by kernel_rfl)).trans (grow_leaf 47 9 128 a46 _ p1 (by kernel_rfl))

noncomputable def L81_3 (p0 : (List (List S46))) (z0 : (Int × Int)) : Option ((Int × Int) ⊕ (Int × Int × Bool)) := (bif (ltI z0.2 (lenL p0)) then ((listAt p0 z0.2).bind fun x1 => (bif (ltI (addI .i64 z0.1 (lenL x1)) 0) then none else (some (.inl ((addI .i64 z0.1 (lenL x1)), (addI .i64 z0.2 1)))))) else (some (.inr (z0.1, z0.2, (ltI z0.2 (lenL p0))))))
theorem L81_3_ok (C : Callee) (p0 : (List (List S46))) (z0 : (Int × Int)) : runs Tryz.prog C (cfg.fn 81) (finLoop ((cfg.fn 81).keep 3) ((cfg.fn 81).al 3)) [] (execA Tryz.prog C (cfg.fn 81) (nr Tryz.f81 [false, false, true, false, true, true]) ((fun z0 : (Int × Int) => (mkE [(0, LL (LL a46) p0), (3, I z0.1), (9, LL (LL a46) p0), (10, I (lenL p0)), (11, I z0.2)] [] 36)) z0)) = (L81_3 p0 z0).map (Sum.elim (fun z => .inl ((fun z0 : (Int × Int) => (mkE [(0, LL (LL a46) p0), (3, I z0.1), (9, LL (LL a46) p0), (10, I (lenL p0)), (11, I z0.2)] [] 36)) z)) (fun x => .inr ((fun (x : (Int × Int × Bool)) => (.exit 0, (mkE [(0, LL (LL a46) p0), (3, I x.1), (9, LL (LL a46) p0), (10, I (lenL p0)), (11, I x.2.1), (12, B x.2.2)] [] 36))) x))) := by
  unfold L81_3
  let s_0 : List (Nat × AV) := [(9, LL (LL a46) p0), (10, I (lenL p0)), (11, I z0.2)]
  refine zS 0 3 (mkE ((0, LL (LL a46) p0) :: ((3, I z0.1) :: (s_0.append [(12, B (ltI z0.2 (lenL p0)))]))) [] 36) (gS 4 (gC 12 (ltI z0.2 (lenL p0)) ?_ ?_))
  · refine gK (zP (gS 8 (gB 1 (zR 5 4 (vo 13 (addrE 184 26 1 (LL a46) .i64 p0 z0.2) (fun x1 => ?_))))))
    refine zN (mkE ((0, LL (LL a46) p0) :: ((3, I z0.1) :: ((5, LL a46 x1) :: s_0))) [] 36) (zR 6 5 (sg 2 (mkE ((16, LL a46 x1) :: ((15, I z0.1) :: ((0, LL (LL a46) p0) :: ((3, I z0.1) :: ((5, LL a46 x1) :: s_0))))) [] 36) (eo 17 (I (lenL x1)) (lenE 26 a46 x1) (zN (mkE ((0, LL (LL a46) p0) :: ((3, I (addI .i64 z0.1 (lenL x1))) :: s_0)) [] 36) (zS 0 6 (mkE ((0, LL (LL a46) p0) :: ((3, I (addI .i64 z0.1 (lenL x1))) :: (s_0.append [(20, B (ltI (addI .i64 z0.1 (lenL x1)) 0))]))) [] 36) (gC 20 (ltI (addI .i64 z0.1 (lenL x1)) 0) ?_ ?_))))))
    · exact gR 7 (rg Tryz.f81 7) (nO)
    · exact gK (pB (zP (gR 8 (rg Tryz.f81 8) (se (mkE [(0, LL (LL a46) p0), (3, I (addI .i64 z0.1 (lenL x1))), (9, LL (LL a46) p0), (10, I (lenL p0)), (11, I (addI .i64 z0.2 1))] [] 36) (pL)))))
  · exact gX 0 (pL)
noncomputable def L81_11 (p0 : (List (List S46))) (z1 : ((List S46) × Int)) : Option (((List S46) × Int) ⊕ (Int × Bool × (List S46))) := (bif (ltI z1.2 (lenL p0)) then ((listAt p0 z1.2).bind fun x4 => ((appO 128 z1.1 x4).bind fun x5 => (some (.inl (x5, (addI .i64 z1.2 1)))))) else (some (.inr (z1.2, (ltI z1.2 (lenL p0)), z1.1))))
theorem L81_11_ok (C : Callee) (p0 : (List (List S46))) (z1 : ((List S46) × Int)) : runs Tryz.prog C (cfg.fn 81) (finLoop ((cfg.fn 81).keep 11) ((cfg.fn 81).al 11)) [] (execA Tryz.prog C (cfg.fn 81) (nr Tryz.f81 [false, false, true, false, true, true, true, true]) ((fun z1 : ((List S46) × Int) => (mkE [(6, .own 48 0), (25, LL (LL a46) p0), (26, I (lenL p0)), (27, I z1.2)] [(48, RR 47 9 a46 z1.1 0 false)] 36)) z1)) = (L81_11 p0 z1).map (Sum.elim (fun z => .inl ((fun z1 : ((List S46) × Int) => (mkE [(6, .own 48 0), (25, LL (LL a46) p0), (26, I (lenL p0)), (27, I z1.2)] [(48, RR 47 9 a46 z1.1 0 false)] 36)) z)) (fun x => .inr ((fun (x : (Int × Bool × (List S46))) => (.exit 2, (mkE [(6, .own 48 0), (25, LL (LL a46) p0), (26, I (lenL p0)), (27, I x.1), (28, B x.2.1)] [(48, RR 47 9 a46 x.2.2 0 false)] 36))) x))) := by
  unfold L81_11
  let s_0 : List (Nat × AV) := [(25, LL (LL a46) p0), (26, I (lenL p0)), (27, I z1.2)]
  refine zS 0 11 (mkE ((6, .own 48 0) :: (s_0.append [(28, B (ltI z1.2 (lenL p0)))])) [(48, RR 47 9 a46 z1.1 0 false)] 36) (gS 12 (gC 28 (ltI z1.2 (lenL p0)) ?_ ?_))
  · refine gK (zP (gS 14 (gB 3 (zR 13 12 (vo 29 (addrE 184 26 1 (LL a46) .i64 p0 z1.2) (fun x4 => ?_))))))
    refine zN (mkE ((6, .own 48 0) :: ((8, LL a46 x4) :: s_0)) [(48, RR 47 9 a46 z1.1 0 false)] 36) (gR 13 (rg Tryz.f81 13) (sg 2 (mkE ((32, LL a46 x4) :: ((31, .own 48 0) :: ((6, .own 48 0) :: ((8, LL a46 x4) :: s_0)))) [(48, RR 47 9 a46 z1.1 0 false)] 36) (mo (some 33) (apO 26 47 9 128 48 a46 0 [] (y := LL a46 x4) (l2 := x4)) (fun x5 => ?_))))
    exact se (mkE ((6, .own 48 1) :: s_0) [(48, RR 47 9 a46 x5 1 false)] 36) (pB (zP (gR 14 (rg Tryz.f81 14) (se (mkE [(6, .own 48 1), (25, LL (LL a46) p0), (26, I (lenL p0)), (27, I (addI .i64 z1.2 1))] [(48, RR 47 9 a46 x5 1 false)] 36) (pL)))))
  · exact gX 2 (pL)
noncomputable def T81 (p0 : (List (List S46))) : Option (List S46) := ((iter (L81_3 p0) (0, 0)).bind fun y2 => ((growO S46 128 y2.1).bind fun x3 => ((iter (L81_11 p0) (x3, 0)).bind fun y6 => (some y6.2.2))))
theorem B81 (C : Callee) (h134 : ∀ (p1 : Int), C 134 [.nils, I p1] = (growO S46 128 p1).map (fun l => AV.fr 47 9 (List.map a46 l))) (p0 : (List (List S46))) : runs Tryz.prog C (cfg.fn 81) (finFn Tryz.prog (cfg.fn 81).byval Tryz.f81) [] (execA Tryz.prog C (cfg.fn 81) (nr Tryz.f81 []) (frame0 [LL (LL a46) p0] 36 false)) = (T81 p0).map (fun l => AV.fr 47 9 (List.map a46 l)) := by
  unfold T81
  refine zS 1 0 (mkE [(0, LL (LL a46) p0)] [] 36) (zS 2 1 (mkE [(0, LL (LL a46) p0), (3, I 0)] [] 36) (gS 9 (zR 3 2 (sg 1 (mkE [(9, LL (LL a46) p0), (0, LL (LL a46) p0), (3, I 0)] [] 36) (eo 10 (I (lenL p0)) (lenE 184 (LL a46) p0) (zN (mkE [(0, LL (LL a46) p0), (3, I 0), (9, LL (LL a46) p0), (10, I (lenL p0)), (11, I 0)] [] 36) (gB 0 (lo [(0, none), (3, none), (9, none), (10, none), (11, none)] [] (L81_3 p0) (fun z0 : (Int × Int) => (mkE [(0, LL (LL a46) p0), (3, I z0.1), (9, LL (LL a46) p0), (10, I (lenL p0)), (11, I z0.2)] [] 36)) (fun (x : (Int × Int × Bool)) => (.exit 0, (mkE [(0, LL (LL a46) p0), (3, I x.1), (9, LL (LL a46) p0), (10, I (lenL p0)), (11, I x.2.1), (12, B x.2.2)] [] 36))) (0, 0) (fun z => L81_3_ok C p0 z) ?_))))))))
  intro y2
  refine pH (zP (zR 10 9 (sg 1 (mkE [(23, I y2.1), (0, LL (LL a46) p0), (3, I y2.1), (9, LL (LL a46) p0), (10, I (lenL p0)), (11, I y2.2.1), (12, B y2.2.2)] [] 36) (co 24 [] (h134 y2.1) (fun x3 => ?_)))))
  refine zN (mkE [(0, LL (LL a46) p0), (6, .own 192 0)] [(192, RR 47 9 a46 x3 0 false)] 36) (gS 15 (zR 11 10 (sg 1 (mkE [(25, LL (LL a46) p0), (0, LL (LL a46) p0), (6, .own 192 0)] [(192, RR 47 9 a46 x3 0 false)] 36) (eo 26 (I (lenL p0)) (lenE 184 (LL a46) p0) (zN (mkE [(6, .own 192 0), (25, LL (LL a46) p0), (26, I (lenL p0)), (27, I 0)] [(192, RR 47 9 a46 x3 0 false)] 36) (gB 2 (lo [(6, some (47, 9)), (25, none), (26, none), (27, none)] [] (L81_11 p0) (fun z1 : ((List S46) × Int) => (mkE [(6, .own 48 0), (25, LL (LL a46) p0), (26, I (lenL p0)), (27, I z1.2)] [(48, RR 47 9 a46 z1.1 0 false)] 36)) (fun (x : (Int × Bool × (List S46))) => (.exit 2, (mkE [(6, .own 48 0), (25, LL (LL a46) p0), (26, I (lenL p0)), (27, I x.1), (28, B x.2.1)] [(48, RR 47 9 a46 x.2.2 0 false)] 36))) (x3, 0) (fun z => L81_11_ok C p0 z) ?_)))))))
  intro y6
  exact pH (zP (zF 0 15 (mkE [(2, .own 48 0)] [(48, RR 47 9 a46 y6.2.2 0 false)] 36)))
theorem F81 (m : Nat) (hm : 2 ≤ m) (p0 : (List (List S46))) : callA Tryz.prog cfg m 81 [LL (LL a46) p0] = (T81 p0).map (fun l => AV.fr 47 9 (List.map a46 l)) := by
  obtain ⟨q, rfl⟩ : ∃ q, m = q + 1 := ⟨m - 1, by omega⟩
  exact (callA_body (fn := Tryz.f81) (c := body_ Tryz.f81) q _ (by kernel_rfl) (by kernel_rfl) (by kernel_rfl)).trans (B81 _ (fun p1 => F134 q (by omega) p1) p0)

noncomputable def T82 (p0 : S46) : Option S46 := ((appO 16 ([] : List ByteArray) p0.f3).bind fun x1 => ((appO 32 ([] : List S64) p0.f7).bind fun x2 => (some (S46.mk p0.f0 p0.f1 p0.f2 x1 p0.f4 p0.f5 p0.f6 x2 p0.f8))))
theorem B82 (C : Callee) (h46 : ∀ (p0 : (List ByteArray)), C 46 [LL S p0] = (appO 16 ([] : List ByteArray) p0).map (fun l => AV.fr 9 1 (List.map S l))) (h47 : ∀ (p0 : (List S64)), C 47 [LL a64 p0] = (appO 32 ([] : List S64) p0).map (fun l => AV.fr 65 4 (List.map a64 l))) (p0 : S46) : runs Tryz.prog C (cfg.fn 82) (finFn Tryz.prog (cfg.fn 82).byval Tryz.f82) [] (execA Tryz.prog C (cfg.fn 82) (nr Tryz.f82 []) (frame0 [a46 p0] 12 false)) = (T82 p0).map a46 := by
  unfold T82
  let o_0 : List (Nat × AObj) := [(8, .box [S p0.f0, S p0.f1, I p0.f2, LL S p0.f3, I p0.f4, I p0.f5, I p0.f6, LL a64 p0.f7, S p0.f8] false), (16, .box [S (ByteArray.mk #[]), S (ByteArray.mk #[]), I 0, .nils, I 0, I 0, I 0, .nils, S (ByteArray.mk #[])] false)]
  refine zS 1 0 (mkE [(1, .ba 8 0), (2, .ba 16 0)] o_0 12) (gS 2 (gD 1 7 (rg Tryz.f82 1) [0, 1, 2, 3, 4, 5, 6, 7, 8, 9] (dg 2 [(some 3, qe (.ba 8 3)), (some 4, qe (LL S p0.f3))] (dc 5 [] (mkE [(4, LL S p0.f3), (3, .ba 8 3), (1, .ba 8 0), (2, .ba 16 0)] o_0 12) (h46 p0.f3) (fun x1 => ?_)))))
  refine dg 5 [(some 3, qe (.ba 8 3)), (some 4, qe (LL S p0.f3)), (some 5, { e := { val := .own 40 0, news := [(40, RR 9 1 S x1 0 false)] } }), (some 6, qe (.ba 8 7)), (some 7, qe (LL a64 p0.f7))] (dc 8 [] (mkE [(7, LL a64 p0.f7), (6, .ba 8 7), (5, .own 40 0), (4, LL S p0.f3), (3, .ba 8 3), (1, .ba 8 0), (2, .ba 16 0)] ((40, RR 9 1 S x1 0 false) :: o_0) 12) (h47 p0.f7) (fun x2 => ?_))
  exact dg 7 [(some 3, qe (.ba 8 3)), (some 4, qe (LL S p0.f3)), (some 5, { e := { val := .own 40 0, news := [(40, RR 9 1 S x1 0 false)] } }), (some 6, qe (.ba 8 7)), (some 7, qe (LL a64 p0.f7)), (some 8, { e := { val := .own 64 0, news := [(64, RR 65 4 a64 x2 0 false)] } }), (some 9, qe (.ba 8 3))] (de (mkE [(9, .ba 8 3), (8, .own 64 0), (7, LL a64 p0.f7), (6, .ba 8 7), (5, .own 40 0), (4, LL S p0.f3), (3, .ba 8 3), (1, .ba 8 0), (2, .ba 16 0)] ((64, RR 65 4 a64 x2 0 false) :: ((40, RR 9 1 S x1 0 false) :: o_0)) 12) (zN (mkE [(1, .ba 8 0), (2, .ba 16 0)] [(8, .box [S p0.f0, S p0.f1, I p0.f2, .own 40 0, I p0.f4, I p0.f5, I p0.f6, .own 64 0, S p0.f8] false), (16, .box [S (ByteArray.mk #[]), S (ByteArray.mk #[]), I 0, .nils, I 0, I 0, I 0, .nils, S (ByteArray.mk #[])] false), (40, RR 9 1 S x1 0 false), (64, RR 65 4 a64 x2 0 false)] 12) (zF 0 2 (mkE [(2, .ba 16 0)] [(16, .box [S p0.f0, S p0.f1, I p0.f2, .own 40 0, I p0.f4, I p0.f5, I p0.f6, .own 64 0, S p0.f8] false), (40, RR 9 1 S x1 0 false), (64, RR 65 4 a64 x2 0 false)] 12))))
theorem F82 (m : Nat) (hm : 2 ≤ m) (p0 : S46) : callA Tryz.prog cfg m 82 [a46 p0] = (T82 p0).map a46 := by
  obtain ⟨q, rfl⟩ : ∃ q, m = q + 1 := ⟨m - 1, by omega⟩
  exact (callA_body (fn := Tryz.f82) (c := body_ Tryz.f82) q _ (by kernel_rfl) (by kernel_rfl) (by kernel_rfl)).trans (B82 _ (fun p0 => F46 q (by omega) p0) (fun p0 => F47 q (by omega) p0) p0)

noncomputable def L90_4 (p0 : (List ByteArray)) (p1 : (List ByteArray)) (z0 : Int) : Option (Int ⊕ ((Int × Bool) ⊕ Unit)) := (bif (ltI z0 (lenL p0)) then ((listAt p0 z0).bind fun x1 => ((listAt p1 z0).bind fun x2 => (bif (!eqS x1 x2) then (some (.inr (.inr ()))) else (some (.inl (addI .i64 z0 1)))))) else (some (.inr (.inl (z0, (ltI z0 (lenL p0)))))))
theorem L90_4_ok (C : Callee) (p0 : (List ByteArray)) (p1 : (List ByteArray)) (z0 : Int) : runs Tryz.prog C (cfg.fn 90) (finLoop ((cfg.fn 90).keep 4) ((cfg.fn 90).al 4)) [] (execA Tryz.prog C (cfg.fn 90) (nr Tryz.f90 [false, false, true, false, true, true]) ((fun z0 : Int => (mkE [(0, LL S p0), (1, LL S p1), (12, I (lenL p0)), (13, I z0)] [] 26)) z0)) = (L90_4 p0 p1 z0).map (Sum.elim (fun z => .inl ((fun z0 : Int => (mkE [(0, LL S p0), (1, LL S p1), (12, I (lenL p0)), (13, I z0)] [] 26)) z)) (fun x => .inr ((Sum.elim (fun (x : (Int × Bool)) => (.exit 0, (mkE [(0, LL S p0), (1, LL S p1), (12, I (lenL p0)), (13, I x.1), (14, B x.2)] [] 26))) (fun (x : Unit) => (.ret, (mkE [(4, B false)] [] 26)))) x))) := by
  unfold L90_4
  let s_0 : List (Nat × AV) := [(0, LL S p0), (1, LL S p1), (5, I z0), (12, I (lenL p0)), (13, I z0)]
  refine zS 0 4 (mkE [(0, LL S p0), (1, LL S p1), (12, I (lenL p0)), (13, I z0), (14, B (ltI z0 (lenL p0)))] [] 26) (gS 5 (gC 14 (ltI z0 (lenL p0)) ?_ ?_))
  · refine gK (zP (gS 8 (gB 1 (zS 6 5 (mkE s_0 [] 26) (gS 0 (gD 6 9 (rg Tryz.f90 6) [0, 1, 2, 3, 4, 5, 6, 7, 8] (dg 2 [(some 16, qe (LL S p0)), (some 17, qe (I z0))] (dv 18 (mkE ((17, I z0) :: ((16, LL S p0) :: s_0)) [] 26) (addrE 34 9 1 S .i64 p0 z0) (fun x1 => ?_)))))))))
    refine dg 6 [(some 16, qe (LL S p0)), (some 17, qe (I z0)), (some 18, qe (.ia [S x1] 0)), (some 19, qe (S x1)), (some 20, qe (LL S p1)), (some 21, qe (I z0))] (dv 22 (mkE ((21, I z0) :: ((20, LL S p1) :: s_0)) [] 26) (addrE 34 9 1 S .i64 p1 z0) (fun x2 => ?_))
    refine dg 9 [(some 16, qe (LL S p0)), (some 17, qe (I z0)), (some 18, qe (.ia [S x1] 0)), (some 19, qe (S x1)), (some 20, qe (LL S p1)), (some 21, qe (I z0)), (some 22, qe (.ia [S x2] 0)), (some 23, qe (S x2)), (some 24, qe (B (!eqS x1 x2)))] (de (mkE ((24, B (!eqS x1 x2)) :: ((23, S x2) :: ((22, .ia [S x2] 0) :: ((21, I z0) :: ((20, LL S p1) :: ((19, S x1) :: ((18, .ia [S x1] 0) :: ((17, I z0) :: ((16, LL S p0) :: s_0))))))))) [] 26) (zN (mkE [(0, LL S p0), (1, LL S p1), (12, I (lenL p0)), (13, I z0), (24, B (!eqS x1 x2))] [] 26) (gC 24 (!eqS x1 x2) ?_ ?_)))
    · exact zF 0 7 (mkE [(4, B false)] [] 26)
    · exact gK (pB (zP (gR 8 (rg Tryz.f90 8) (se (mkE [(0, LL S p0), (1, LL S p1), (12, I (lenL p0)), (13, I (addI .i64 z0 1))] [] 26) (pL)))))
  · exact gX 0 (pL)
noncomputable def T90 (p0 : (List ByteArray)) (p1 : (List ByteArray)) : Option Bool := (bif (neI (lenL p0) (lenL p1)) then (some false) else ((iter (L90_4 p0 p1) 0).bind fun y3 => (Sum.elim (fun y3a => (some true)) (fun y3b => (some false)) y3)))
theorem B90 (C : Callee) (p0 : (List ByteArray)) (p1 : (List ByteArray)) : runs Tryz.prog C (cfg.fn 90) (finFn Tryz.prog (cfg.fn 90).byval Tryz.f90) [] (execA Tryz.prog C (cfg.fn 90) (nr Tryz.f90 []) (frame0 [LL S p0, LL S p1] 26 false)) = (T90 p0 p1).map B := by
  unfold T90
  let s_0 : List (Nat × AV) := [(0, LL S p0), (1, LL S p1)]
  refine zS 1 0 (mkE s_0 [] 26) (gS 3 (zR 0 1 (sg 1 (mkE ((6, LL S p0) :: s_0) [] 26) (eo 7 (I (lenL p0)) (lenE 34 S p0) (sg 3 (mkE ((8, LL S p1) :: ((7, I (lenL p0)) :: ((6, LL S p0) :: s_0))) [] 26) (eo 9 (I (lenL p1)) (lenE 34 S p1) (zN (mkE (s_0.append [(10, B (neI (lenL p0) (lenL p1)))]) [] 26) (gC 10 (neI (lenL p0) (lenL p1)) ?_ ?_))))))))
  · exact zF 0 2 (mkE [(4, B false)] [] 26)
  · refine gK (zP (gS 9 (zR 4 3 (sg 1 (mkE ((11, LL S p0) :: (s_0.append [(10, B (neI (lenL p0) (lenL p1)))])) [] 26) (eo 12 (I (lenL p0)) (lenE 34 S p0) (zN (mkE (s_0.append ((12, I (lenL p0)) :: [(13, I 0)])) [] 26) (gB 0 (lo [(0, none), (1, none), (12, none), (13, none)] [] (L90_4 p0 p1) (fun z0 : Int => (mkE (s_0.append ((12, I (lenL p0)) :: [(13, I z0)])) [] 26)) (Sum.elim (fun (x : (Int × Bool)) => (.exit 0, (mkE (s_0.append ((12, I (lenL p0)) :: ((13, I x.1) :: [(14, B x.2)]))) [] 26))) (fun (x : Unit) => (.ret, (mkE [(4, B false)] [] 26)))) 0 (fun z => L90_4_ok C p0 p1 z) ?_))))))))
    intro y3
    refine ss y3 (Z := (Sum.elim (fun (x : (Int × Bool)) => (.exit 0, (mkE (s_0.append ((12, I (lenL p0)) :: ((13, I x.1) :: [(14, B x.2)]))) [] 26))) (fun (x : Unit) => (.ret, (mkE [(4, B false)] [] 26))))) (fun y3a => ?_) (fun y3b => ?_)
    · exact pH (zP (zF 0 9 (mkE [(4, B true)] [] 26)))
    · exact pL
theorem F90 (m : Nat) (hm : 1 ≤ m) (p0 : (List ByteArray)) (p1 : (List ByteArray)) : callA Tryz.prog cfg m 90 [LL S p0, LL S p1] = (T90 p0 p1).map B := by
  obtain ⟨q, rfl⟩ : ∃ q, m = q + 1 := ⟨m - 1, by omega⟩
  exact (callA_body (fn := Tryz.f90) (c := body_ Tryz.f90) q _ (by kernel_rfl) (by kernel_rfl) (by kernel_rfl)).trans (B90 _ p0 p1)

noncomputable def L91_4 (p0 : (List S64)) (p1 : (List S64)) (z0 : Int) : Option (Int ⊕ ((Int × Bool) ⊕ Unit)) := (bif (ltI z0 (lenL p0)) then ((listAt p0 z0).bind fun x1 => ((listAt p1 z0).bind fun x2 => (bif (!allB [eqI x1.f0 x2.f0, eqI x1.f1 x2.f1, eqI x1.f2 x2.f2, eqI x1.f3 x2.f3]) then (some (.inr (.inr ()))) else (some (.inl (addI .i64 z0 1)))))) else (some (.inr (.inl (z0, (ltI z0 (lenL p0)))))))
theorem L91_4_ok (C : Callee) (p0 : (List S64)) (p1 : (List S64)) (z0 : Int) : runs Tryz.prog C (cfg.fn 91) (finLoop ((cfg.fn 91).keep 4) ((cfg.fn 91).al 4)) [] (execA Tryz.prog C (cfg.fn 91) (nr Tryz.f91 [false, false, true, false, true, true]) ((fun z0 : Int => (mkE [(0, LL a64 p0), (1, LL a64 p1), (12, I (lenL p0)), (13, I z0)] [] 26)) z0)) = (L91_4 p0 p1 z0).map (Sum.elim (fun z => .inl ((fun z0 : Int => (mkE [(0, LL a64 p0), (1, LL a64 p1), (12, I (lenL p0)), (13, I z0)] [] 26)) z)) (fun x => .inr ((Sum.elim (fun (x : (Int × Bool)) => (.exit 0, (mkE [(0, LL a64 p0), (1, LL a64 p1), (12, I (lenL p0)), (13, I x.1), (14, B x.2)] [] 26))) (fun (x : Unit) => (.ret, (mkE [(4, B false)] [] 26)))) x))) := by
  unfold L91_4
  let s_0 : List (Nat × AV) := [(0, LL a64 p0), (1, LL a64 p1), (5, I z0), (12, I (lenL p0)), (13, I z0)]
  refine zS 0 4 (mkE [(0, LL a64 p0), (1, LL a64 p1), (12, I (lenL p0)), (13, I z0), (14, B (ltI z0 (lenL p0)))] [] 26) (gS 5 (gC 14 (ltI z0 (lenL p0)) ?_ ?_))
  · refine gK (zP (gS 8 (gB 1 (zS 6 5 (mkE s_0 [] 26) (gS 0 (gD 6 9 (rg Tryz.f91 6) [0, 1, 2, 3, 4, 5, 6, 7, 8] (dg 2 [(some 16, qe (LL a64 p0)), (some 17, qe (I z0))] (dv 18 (mkE ((17, I z0) :: ((16, LL a64 p0) :: s_0)) [] 26) (addrE 45 65 4 a64 .i64 p0 z0) (fun x1 => ?_)))))))))
    refine dg 6 [(some 16, qe (LL a64 p0)), (some 17, qe (I z0)), (some 18, qe (.ia [I x1.f0, I x1.f1, I x1.f2, I x1.f3] 0)), (some 19, qe (a64 x1)), (some 20, qe (LL a64 p1)), (some 21, qe (I z0))] (dv 22 (mkE ((21, I z0) :: ((20, LL a64 p1) :: s_0)) [] 26) (addrE 45 65 4 a64 .i64 p1 z0) (fun x2 => ?_))
    refine dg 8 [(some 16, qe (LL a64 p0)), (some 17, qe (I z0)), (some 18, qe (.ia [I x1.f0, I x1.f1, I x1.f2, I x1.f3] 0)), (some 19, qe (a64 x1)), (some 20, qe (LL a64 p1)), (some 21, qe (I z0)), (some 22, qe (.ia [I x2.f0, I x2.f1, I x2.f2, I x2.f3] 0)), (some 23, qe (a64 x2))] (df 24 (B (!allB [eqI x1.f0 x2.f0, eqI x1.f1 x2.f1, eqI x1.f2 x2.f2, eqI x1.f3 x2.f3])) (mkE ((23, a64 x2) :: ((22, .ia [I x2.f0, I x2.f1, I x2.f2, I x2.f3] 0) :: ((21, I z0) :: ((20, LL a64 p1) :: ((19, a64 x1) :: ((18, .ia [I x1.f0, I x1.f1, I x1.f2, I x1.f3] 0) :: ((17, I z0) :: ((16, LL a64 p0) :: s_0)))))))) [] 26) (neqE 65 (.tmp 19) (.tmp 23) [I x1.f0, I x1.f1, I x1.f2, I x1.f3] [I x2.f0, I x2.f1, I x2.f2, I x2.f3] [.int .i64 x1.f0, .int .i64 x1.f1, .int .i64 x1.f2, .int .i64 x1.f3] [.int .i64 x2.f0, .int .i64 x2.f1, .int .i64 x2.f2, .int .i64 x2.f3] [eqI x1.f0 x2.f0, eqI x1.f1 x2.f1, eqI x1.f2 x2.f2, eqI x1.f3 x2.f3]) (de (mkE ((24, B (!allB [eqI x1.f0 x2.f0, eqI x1.f1 x2.f1, eqI x1.f2 x2.f2, eqI x1.f3 x2.f3])) :: ((23, a64 x2) :: ((22, .ia [I x2.f0, I x2.f1, I x2.f2, I x2.f3] 0) :: ((21, I z0) :: ((20, LL a64 p1) :: ((19, a64 x1) :: ((18, .ia [I x1.f0, I x1.f1, I x1.f2, I x1.f3] 0) :: ((17, I z0) :: ((16, LL a64 p0) :: s_0))))))))) [] 26) (zN (mkE [(0, LL a64 p0), (1, LL a64 p1), (12, I (lenL p0)), (13, I z0), (24, B (!allB [eqI x1.f0 x2.f0, eqI x1.f1 x2.f1, eqI x1.f2 x2.f2, eqI x1.f3 x2.f3]))] [] 26) (gC 24 (!allB [eqI x1.f0 x2.f0, eqI x1.f1 x2.f1, eqI x1.f2 x2.f2, eqI x1.f3 x2.f3]) ?_ ?_))))
    · exact zF 0 7 (mkE [(4, B false)] [] 26)
    · exact gK (pB (zP (gR 8 (rg Tryz.f91 8) (se (mkE [(0, LL a64 p0), (1, LL a64 p1), (12, I (lenL p0)), (13, I (addI .i64 z0 1))] [] 26) (pL)))))
  · exact gX 0 (pL)
noncomputable def T91 (p0 : (List S64)) (p1 : (List S64)) : Option Bool := (bif (neI (lenL p0) (lenL p1)) then (some false) else ((iter (L91_4 p0 p1) 0).bind fun y3 => (Sum.elim (fun y3a => (some true)) (fun y3b => (some false)) y3)))
theorem B91 (C : Callee) (p0 : (List S64)) (p1 : (List S64)) : runs Tryz.prog C (cfg.fn 91) (finFn Tryz.prog (cfg.fn 91).byval Tryz.f91) [] (execA Tryz.prog C (cfg.fn 91) (nr Tryz.f91 []) (frame0 [LL a64 p0, LL a64 p1] 26 false)) = (T91 p0 p1).map B := by
  unfold T91
  let s_0 : List (Nat × AV) := [(0, LL a64 p0), (1, LL a64 p1)]
  refine zS 1 0 (mkE s_0 [] 26) (gS 3 (zR 0 1 (sg 1 (mkE ((6, LL a64 p0) :: s_0) [] 26) (eo 7 (I (lenL p0)) (lenE 45 a64 p0) (sg 3 (mkE ((8, LL a64 p1) :: ((7, I (lenL p0)) :: ((6, LL a64 p0) :: s_0))) [] 26) (eo 9 (I (lenL p1)) (lenE 45 a64 p1) (zN (mkE (s_0.append [(10, B (neI (lenL p0) (lenL p1)))]) [] 26) (gC 10 (neI (lenL p0) (lenL p1)) ?_ ?_))))))))
  · exact zF 0 2 (mkE [(4, B false)] [] 26)
  · refine gK (zP (gS 9 (zR 4 3 (sg 1 (mkE ((11, LL a64 p0) :: (s_0.append [(10, B (neI (lenL p0) (lenL p1)))])) [] 26) (eo 12 (I (lenL p0)) (lenE 45 a64 p0) (zN (mkE (s_0.append ((12, I (lenL p0)) :: [(13, I 0)])) [] 26) (gB 0 (lo [(0, none), (1, none), (12, none), (13, none)] [] (L91_4 p0 p1) (fun z0 : Int => (mkE (s_0.append ((12, I (lenL p0)) :: [(13, I z0)])) [] 26)) (Sum.elim (fun (x : (Int × Bool)) => (.exit 0, (mkE (s_0.append ((12, I (lenL p0)) :: ((13, I x.1) :: [(14, B x.2)]))) [] 26))) (fun (x : Unit) => (.ret, (mkE [(4, B false)] [] 26)))) 0 (fun z => L91_4_ok C p0 p1 z) ?_))))))))
    intro y3
    refine ss y3 (Z := (Sum.elim (fun (x : (Int × Bool)) => (.exit 0, (mkE (s_0.append ((12, I (lenL p0)) :: ((13, I x.1) :: [(14, B x.2)]))) [] 26))) (fun (x : Unit) => (.ret, (mkE [(4, B false)] [] 26))))) (fun y3a => ?_) (fun y3b => ?_)
    · exact pH (zP (zF 0 9 (mkE [(4, B true)] [] 26)))
    · exact pL
theorem F91 (m : Nat) (hm : 1 ≤ m) (p0 : (List S64)) (p1 : (List S64)) : callA Tryz.prog cfg m 91 [LL a64 p0, LL a64 p1] = (T91 p0 p1).map B := by
  obtain ⟨q, rfl⟩ : ∃ q, m = q + 1 := ⟨m - 1, by omega⟩
  exact (callA_body (fn := Tryz.f91) (c := body_ Tryz.f91) q _ (by kernel_rfl) (by kernel_rfl) (by kernel_rfl)).trans (B91 _ p0 p1)

noncomputable def T83 (p0 : S46) (p1 : S46) : Option Bool := (bif (eqS p0.f0 p1.f0) then (bif (eqS p0.f1 p1.f1) then (bif (eqI p0.f2 p1.f2) then ((T90 p0.f3 p1.f3).bind fun x1 => (bif x1 then (bif (eqI p0.f4 p1.f4) then (bif (eqI p0.f5 p1.f5) then (bif (eqI p0.f6 p1.f6) then ((T91 p0.f7 p1.f7).bind fun x2 => (bif x2 then (some (eqS p0.f8 p1.f8)) else (some false))) else (some false)) else (some false)) else (some false)) else (some false))) else (some false)) else (some false)) else (some false))
theorem B83 (C : Callee) (h90 : ∀ (p0 : (List ByteArray)) (p1 : (List ByteArray)), C 90 [LL S p0, LL S p1] = (T90 p0 p1).map B) (h91 : ∀ (p0 : (List S64)) (p1 : (List S64)), C 91 [LL a64 p0, LL a64 p1] = (T91 p0 p1).map B) (p0 : S46) (p1 : S46) : runs Tryz.prog C (cfg.fn 83) (finFn Tryz.prog (cfg.fn 83).byval Tryz.f83) [] (execA Tryz.prog C (cfg.fn 83) (nr Tryz.f83 []) (frame0 [a46 p0, a46 p1] 66 false)) = (T83 p0 p1).map B := by
  unfold T83
  let s_0 : List (Nat × AV) := [(24, B (eqI p0.f2 p1.f2)), (23, B (eqI p0.f2 p1.f2)), (22, B (eqI p0.f2 p1.f2)), (21, I p1.f2), (20, .ba 24 2), (19, I p0.f2), (18, .ba 16 2), (17, B true), (17, B (eqS p0.f1 p1.f1)), (16, B (eqS p0.f1 p1.f1)), (15, B (eqS p0.f1 p1.f1)), (14, S p1.f1), (13, .ba 24 1), (12, S p0.f1), (11, .ba 16 1), (10, B true), (10, B (eqS p0.f0 p1.f0)), (9, B (eqS p0.f0 p1.f0)), (8, S p1.f0), (7, .ba 24 0), (6, S p0.f0), (5, .ba 16 0), (2, .ba 16 0), (3, .ba 24 0)]
  let s_1 : List (Nat × AV) := [(52, B (eqI p0.f6 p1.f6)), (51, B (eqI p0.f6 p1.f6)), (50, B (eqI p0.f6 p1.f6)), (49, I p1.f6), (48, .ba 24 6), (47, I p0.f6), (46, .ba 16 6), (45, B true), (45, B (eqI p0.f5 p1.f5)), (44, B (eqI p0.f5 p1.f5)), (43, B (eqI p0.f5 p1.f5)), (42, I p1.f5), (41, .ba 24 5), (40, I p0.f5), (39, .ba 16 5), (38, B true), (38, B (eqI p0.f4 p1.f4)), (37, B (eqI p0.f4 p1.f4)), (36, B (eqI p0.f4 p1.f4)), (35, I p1.f4), (34, .ba 24 4), (33, I p0.f4), (32, .ba 16 4), (31, B true)]
  let s_2 : List (Nat × AV) := [(28, LL S p1.f3), (27, .ba 24 3), (26, LL S p0.f3), (25, .ba 16 3), (24, B true)]
  let s_3 : List (Nat × AV) := [(38, B (eqI p0.f4 p1.f4)), (37, B (eqI p0.f4 p1.f4)), (36, B (eqI p0.f4 p1.f4)), (35, I p1.f4), (34, .ba 24 4), (33, I p0.f4), (32, .ba 16 4), (31, B true)]
  let s_4 : List (Nat × AV) := [(10, B (eqS p0.f0 p1.f0)), (9, B (eqS p0.f0 p1.f0)), (8, S p1.f0), (7, .ba 24 0), (6, S p0.f0), (5, .ba 16 0), (2, .ba 16 0), (3, .ba 24 0)]
  let o_0 : List (Nat × AObj) := [(16, .box [S p0.f0, S p0.f1, I p0.f2, LL S p0.f3, I p0.f4, I p0.f5, I p0.f6, LL a64 p0.f7, S p0.f8] false), (24, .box [S p1.f0, S p1.f1, I p1.f2, LL S p1.f3, I p1.f4, I p1.f5, I p1.f6, LL a64 p1.f7, S p1.f8] false)]
  refine zS 1 0 (mkE [(2, .ba 16 0), (3, .ba 24 0)] o_0 66) (zR 0 1 (sg 6 (mkE s_4 o_0 66) (sb 10 (eqS p0.f0 p1.f0) ?_ ?_)))
  · refine sg 13 (mkE ((17, B (eqS p0.f1 p1.f1)) :: ((16, B (eqS p0.f1 p1.f1)) :: ((15, B (eqS p0.f1 p1.f1)) :: ((14, S p1.f1) :: ((13, .ba 24 1) :: ((12, S p0.f1) :: ((11, .ba 16 1) :: ((10, B true) :: s_4)))))))) o_0 66) (sb 17 (eqS p0.f1 p1.f1) ?_ ?_)
    · refine sg 20 (mkE s_0 o_0 66) (sb 24 (eqI p0.f2 p1.f2) ?_ ?_)
      · refine sg 24 (mkE (s_2.append s_0) o_0 66) (co 29 [] (h90 p0.f3 p1.f3) (fun x1 => ?_))
        refine sg 27 (mkE ((31, B x1) :: ((30, B x1) :: ((29, B x1) :: (s_2.append s_0)))) o_0 66) (sb 31 x1 ?_ ?_)
        · refine sg 34 (mkE (s_3.append ((31, B x1) :: ((30, B x1) :: ((29, B x1) :: (s_2.append s_0))))) o_0 66) (sb 38 (eqI p0.f4 p1.f4) ?_ ?_)
          · refine sg 41 (mkE ((45, B (eqI p0.f5 p1.f5)) :: ((44, B (eqI p0.f5 p1.f5)) :: ((43, B (eqI p0.f5 p1.f5)) :: ((42, I p1.f5) :: ((41, .ba 24 5) :: ((40, I p0.f5) :: ((39, .ba 16 5) :: ((38, B true) :: (s_3.append ((31, B x1) :: ((30, B x1) :: ((29, B x1) :: (s_2.append s_0))))))))))))) o_0 66) (sb 45 (eqI p0.f5 p1.f5) ?_ ?_)
            · refine sg 48 (mkE (s_1.append ((31, B x1) :: ((30, B x1) :: ((29, B x1) :: (s_2.append s_0))))) o_0 66) (sb 52 (eqI p0.f6 p1.f6) ?_ ?_)
              · refine sg 52 (mkE ((56, LL a64 p1.f7) :: ((55, .ba 24 7) :: ((54, LL a64 p0.f7) :: ((53, .ba 16 7) :: ((52, B true) :: (s_1.append ((31, B x1) :: ((30, B x1) :: ((29, B x1) :: (s_2.append s_0)))))))))) o_0 66) (co 57 [] (h91 p0.f7 p1.f7) (fun x2 => ?_))
                refine sg 55 (mkE ((59, B x2) :: ((58, B x2) :: ((57, B x2) :: ((56, LL a64 p1.f7) :: ((55, .ba 24 7) :: ((54, LL a64 p0.f7) :: ((53, .ba 16 7) :: ((52, B true) :: (s_1.append ((31, B x1) :: ((30, B x1) :: ((29, B x1) :: (s_2.append s_0))))))))))))) o_0 66) (sb 59 x2 ?_ ?_)
                · exact zE (mkE [(4, B (eqS p0.f8 p1.f8))] [] 66)
                · exact zE (mkE [(4, B false)] [] 66)
              · exact zE (mkE [(4, B false)] [] 66)
            · exact zE (mkE [(4, B false)] [] 66)
          · exact zE (mkE [(4, B false)] [] 66)
        · exact zE (mkE [(4, B false)] [] 66)
      · exact zE (mkE [(4, B false)] [] 66)
    · exact zE (mkE [(4, B false)] [] 66)
  · exact zE (mkE [(4, B false)] [] 66)
theorem F83 (m : Nat) (hm : 2 ≤ m) (p0 : S46) (p1 : S46) : callA Tryz.prog cfg m 83 [a46 p0, a46 p1] = (T83 p0 p1).map B := by
  obtain ⟨q, rfl⟩ : ∃ q, m = q + 1 := ⟨m - 1, by omega⟩
  exact (callA_body (fn := Tryz.f83) (c := body_ Tryz.f83) q _ (by kernel_rfl) (by kernel_rfl) (by kernel_rfl)).trans (B83 _ (fun p0 p1 => F90 q (by omega) p0 p1) (fun p0 p1 => F91 q (by omega) p0 p1) p0 p1)

theorem F26 (m : Nat) (hm : 4 ≤ m) (p0 : (List S46)) : callA Tryz.prog cfg m 26 [.fr 47 9 (List.map a46 p0), .fn 84 []] = (sortO (fun x y => T84 x y) p0).map (fun (r : (List S46)) => AV.inp (.tup []) (.fr 47 9 (List.map a46 r))) := by
  obtain ⟨q, rfl⟩ : ∃ q, m = q + 1 := ⟨m - 1, by omega⟩
  exact (callA_leaf (L := (leafSortF Tryz.prog 47 9)) _ _ (by kernel_rfl)).trans (sortF_leaf 47 9 84 [] a46 (fun x y => T84 x y) _ p0 (fun x y => F84 q (by omega) x y) (fun _ => by kernel_rfl) (by kernel_rfl))

noncomputable def L48_2 (p0 : (List S46)) (p1 : (List S46)) (z0 : Int) : Option (Int ⊕ ((Int × Bool) ⊕ Int)) := (bif (ltI z0 2) then ((listAt [p0, p1] z0).bind fun x1 => ((T50 x1).bind fun x2 => (bif (neI x2 0) then (some (.inr (.inr x2))) else (some (.inl (addI .i64 z0 1)))))) else (some (.inr (.inl (z0, (ltI z0 2))))))
theorem L48_2_ok (C : Callee) (h50 : ∀ (p0 : (List S46)), C 50 [LL a46 p0] = (T50 p0).map I) (p0 : (List S46)) (p1 : (List S46)) (z0 : Int) : runs Tryz.prog C (cfg.fn 48) (finLoop ((cfg.fn 48).keep 2) ((cfg.fn 48).al 2)) [] (execA Tryz.prog C (cfg.fn 48) (nr Tryz.f48 [false, false, true, false, true]) ((fun z0 : Int => (mkE [(0, LL a46 p0), (1, LL a46 p1), (17, .agg [LL a46 p0, LL a46 p1]), (18, I z0)] [] 68)) z0)) = (L48_2 p0 p1 z0).map (Sum.elim (fun z => .inl ((fun z0 : Int => (mkE [(0, LL a46 p0), (1, LL a46 p1), (17, .agg [LL a46 p0, LL a46 p1]), (18, I z0)] [] 68)) z)) (fun x => .inr ((Sum.elim (fun (x : (Int × Bool)) => (.exit 0, (mkE [(0, LL a46 p0), (1, LL a46 p1), (17, .agg [LL a46 p0, LL a46 p1]), (18, I x.1), (19, B x.2)] [] 68))) (fun (x : Int) => (.ret, (mkE [(4, .nils), (5, I x)] [] 68)))) x))) := by
  unfold L48_2
  let s_0 : List (Nat × AV) := [(17, .agg [LL a46 p0, LL a46 p1]), (18, I z0)]
  let s_1 : List (Nat × AV) := [(0, LL a46 p0), (1, LL a46 p1)]
  refine zS 0 2 (mkE (s_1.append (s_0.append [(19, B (ltI z0 2))])) [] 68) (gS 3 (gC 19 (ltI z0 2) ?_ ?_))
  · refine gK (zP (gS 7 (gB 1 (zR 4 3 (vo 20 (arrE 135 26 1 2 false (LL a46) .i64 z0 (.tmp 17) (.tmp 18) [LL a46 p0, LL a46 p1] [p0, p1]) (fun x1 => ?_))))))
    refine zN (mkE (s_1.append ((7, LL a46 x1) :: s_0)) [] 68) (zR 5 4 (sg 1 (mkE ((21, LL a46 x1) :: (s_1.append ((7, LL a46 x1) :: s_0))) [] 68) (co 22 [] (h50 x1) (fun x2 => ?_))))
    refine zN (mkE (s_1.append ((8, I x2) :: s_0)) [] 68) (zS 0 5 (mkE (s_1.append ((8, I x2) :: (s_0.append [(24, B (neI x2 0))]))) [] 68) (gC 24 (neI x2 0) ?_ ?_))
    · exact zF 0 6 (mkE [(4, .nils), (5, I x2)] [] 68)
    · exact gK (pB (zP (gR 7 (rg Tryz.f48 7) (se (mkE (s_1.append ((17, .agg [LL a46 p0, LL a46 p1]) :: [(18, I (addI .i64 z0 1))])) [] 68) (pL)))))
  · exact gX 0 (pL)
noncomputable def L48_11 (x4 : (List S46)) (z1 : ((List (ByteArray × S46)) × (List S46) × (List S46) × Int)) : Option (((List (ByteArray × S46)) × (List S46) × (List S46) × Int) ⊕ ((Int × Bool × (List (ByteArray × S46)) × (List S46) × (List S46)) ⊕ Unit)) := (bif (ltI z1.2.2.2 (lenL x4)) then ((idxO (List.length z1.2.2.1) z1.2.2.2).bind fun x5 => ((getN z1.2.2.1 x5).bind fun x6 => (bif (!(mgetB eqB z1.1 x6.f0).isSome) then ((some (msetB eqB z1.1 x6.f0 x6)).bind fun x7 => ((T82 x6).bind fun x8 => ((appO 128 z1.2.1 ([x8] : List S46)).bind fun x9 => (some (.inl (x7, x9, z1.2.2.1, (addI .i64 z1.2.2.2 1))))))) else ((T83 (S46.mk (((mgetB eqB z1.1 x6.f0).getD (S46.mk (ByteArray.mk #[]) (ByteArray.mk #[]) 0 [] 0 0 0 [] (ByteArray.mk #[]))).f0) (((mgetB eqB z1.1 x6.f0).getD (S46.mk (ByteArray.mk #[]) (ByteArray.mk #[]) 0 [] 0 0 0 [] (ByteArray.mk #[]))).f1) (((mgetB eqB z1.1 x6.f0).getD (S46.mk (ByteArray.mk #[]) (ByteArray.mk #[]) 0 [] 0 0 0 [] (ByteArray.mk #[]))).f2) (((mgetB eqB z1.1 x6.f0).getD (S46.mk (ByteArray.mk #[]) (ByteArray.mk #[]) 0 [] 0 0 0 [] (ByteArray.mk #[]))).f3) (((mgetB eqB z1.1 x6.f0).getD (S46.mk (ByteArray.mk #[]) (ByteArray.mk #[]) 0 [] 0 0 0 [] (ByteArray.mk #[]))).f4) (((mgetB eqB z1.1 x6.f0).getD (S46.mk (ByteArray.mk #[]) (ByteArray.mk #[]) 0 [] 0 0 0 [] (ByteArray.mk #[]))).f5) (((mgetB eqB z1.1 x6.f0).getD (S46.mk (ByteArray.mk #[]) (ByteArray.mk #[]) 0 [] 0 0 0 [] (ByteArray.mk #[]))).f6) (((mgetB eqB z1.1 x6.f0).getD (S46.mk (ByteArray.mk #[]) (ByteArray.mk #[]) 0 [] 0 0 0 [] (ByteArray.mk #[]))).f7) (((mgetB eqB z1.1 x6.f0).getD (S46.mk (ByteArray.mk #[]) (ByteArray.mk #[]) 0 [] 0 0 0 [] (ByteArray.mk #[]))).f8)) x6).bind fun x10 => (bif (!x10) then (some (.inr (.inr ()))) else (some (.inl (z1.1, z1.2.1, z1.2.2.1, (addI .i64 z1.2.2.2 1))))))))) else (some (.inr (.inl (z1.2.2.2, (ltI z1.2.2.2 (lenL x4)), z1.1, z1.2.1, z1.2.2.1)))))
set_option maxHeartbeats 4000000 in
theorem L48_11_ok (C : Callee) (h82 : ∀ (p0 : S46), C 82 [a46 p0] = (T82 p0).map a46) (h83 : ∀ (p0 : S46) (p1 : S46), C 83 [a46 p0, a46 p1] = (T83 p0 p1).map B) (x4 : (List S46)) (z1 : ((List (ByteArray × S46)) × (List S46) × (List S46) × Int)) : runs Tryz.prog C (cfg.fn 48) (finLoop ((cfg.fn 48).keep 11) ((cfg.fn 48).al 11)) [] (execA Tryz.prog C (cfg.fn 48) (nr Tryz.f48 [false, false, true, false, true, true, true, true]) ((fun z1 : ((List (ByteArray × S46)) × (List S46) × (List S46) × Int) => (mkE [(9, .mr 72), (10, .own 80 0), (31, .own 248 0), (32, I (lenL x4)), (33, I z1.2.2.2)] [(72, MP S a46 z1.1 false), (80, RR 47 9 a46 z1.2.1 0 false), (248, RR 47 9 a46 z1.2.2.1 0 false)] 68)) z1)) = (L48_11 x4 z1).map (Sum.elim (fun z => .inl ((fun z1 : ((List (ByteArray × S46)) × (List S46) × (List S46) × Int) => (mkE [(9, .mr 72), (10, .own 80 0), (31, .own 248 0), (32, I (lenL x4)), (33, I z1.2.2.2)] [(72, MP S a46 z1.1 false), (80, RR 47 9 a46 z1.2.1 0 false), (248, RR 47 9 a46 z1.2.2.1 0 false)] 68)) z)) (fun x => .inr ((Sum.elim (fun (x : (Int × Bool × (List (ByteArray × S46)) × (List S46) × (List S46))) => (.exit 2, (mkE [(9, .mr 72), (10, .own 80 0), (31, .own 248 0), (32, I (lenL x4)), (33, I x.1), (34, B x.2.1)] [(72, MP S a46 x.2.2.1 false), (80, RR 47 9 a46 x.2.2.2.1 0 false), (248, RR 47 9 a46 x.2.2.2.2 0 false)] 68))) (fun (x : Unit) => (.ret, (mkE [(4, .nils), (5, I 13)] [] 68)))) x))) := by
  unfold L48_11
  let s_0 : List (Nat × AV) := [(31, .own 248 0), (32, I (lenL x4)), (33, I z1.2.2.2)]
  let s_1 : List (Nat × AV) := [(9, .mr 72), (10, .own 80 0), (12, .ba 96 0)]
  let o_0 : List (Nat × AObj) := [(72, MP S a46 z1.1 false), (80, RR 47 9 a46 z1.2.1 0 false)]
  let o_1 : List (Nat × AObj) := [(248, RR 47 9 a46 z1.2.2.1 0 false)]
  refine zS 0 11 (mkE ((9, .mr 72) :: ((10, .own 80 0) :: (s_0.append [(34, B (ltI z1.2.2.2 (lenL x4)))]))) (o_0.append o_1) 68) (gS 12 (gC 34 (ltI z1.2.2.2 (lenL x4)) ?_ ?_))
  · refine gK (zP (gS 19 (gB 3 (zR 13 12 (vo 35 (addrOE 26 47 9 248 0 false a46 .i64 z1.2.2.1 z1.2.2.2) (fun x5 => ?_))))))
    refine vo 36 (loadOE 47 248 0 x5 0 47 9 9 true false a46 (fun q : S46 => a46 q) z1.2.2.1) (fun x6 => ?_)
    refine zN (mkE (s_1.append s_0) (o_0.append ((96, .box [S x6.f0, S x6.f1, I x6.f2, LL S x6.f3, I x6.f4, I x6.f5, I x6.f6, LL a64 x6.f7, S x6.f8] false) :: o_1)) 68) (zR 14 13 (sg 3 (mkE ((40, S x6.f0) :: ((39, .ba 96 0) :: ((38, .mr 72) :: (s_1.append s_0)))) (o_0.append ((96, .box [S x6.f0, S x6.f1, I x6.f2, LL S x6.f3, I x6.f4, I x6.f5, I x6.f6, LL a64 x6.f7, S x6.f8] false) :: o_1)) 68) (eo 41 (.tup [.agg [S ((mgetB eqB z1.1 x6.f0).getD (S46.mk (ByteArray.mk #[]) (ByteArray.mk #[]) 0 [] 0 0 0 [] (ByteArray.mk #[]))).f0, S ((mgetB eqB z1.1 x6.f0).getD (S46.mk (ByteArray.mk #[]) (ByteArray.mk #[]) 0 [] 0 0 0 [] (ByteArray.mk #[]))).f1, I ((mgetB eqB z1.1 x6.f0).getD (S46.mk (ByteArray.mk #[]) (ByteArray.mk #[]) 0 [] 0 0 0 [] (ByteArray.mk #[]))).f2, LL S ((mgetB eqB z1.1 x6.f0).getD (S46.mk (ByteArray.mk #[]) (ByteArray.mk #[]) 0 [] 0 0 0 [] (ByteArray.mk #[]))).f3, I ((mgetB eqB z1.1 x6.f0).getD (S46.mk (ByteArray.mk #[]) (ByteArray.mk #[]) 0 [] 0 0 0 [] (ByteArray.mk #[]))).f4, I ((mgetB eqB z1.1 x6.f0).getD (S46.mk (ByteArray.mk #[]) (ByteArray.mk #[]) 0 [] 0 0 0 [] (ByteArray.mk #[]))).f5, I ((mgetB eqB z1.1 x6.f0).getD (S46.mk (ByteArray.mk #[]) (ByteArray.mk #[]) 0 [] 0 0 0 [] (ByteArray.mk #[]))).f6, LL a64 ((mgetB eqB z1.1 x6.f0).getD (S46.mk (ByteArray.mk #[]) (ByteArray.mk #[]) 0 [] 0 0 0 [] (ByteArray.mk #[]))).f7, S ((mgetB eqB z1.1 x6.f0).getD (S46.mk (ByteArray.mk #[]) (ByteArray.mk #[]) 0 [] 0 0 0 [] (ByteArray.mk #[]))).f8], B (mgetB eqB z1.1 x6.f0).isSome]) (mapE2 136 9 47 72 false S a46 eqB z1.1 x6.f0 (S46.mk (ByteArray.mk #[]) (ByteArray.mk #[]) 0 [] 0 0 0 [] (ByteArray.mk #[])) sameS) (zN (mkE (s_1.append ((13, .ba 104 0) :: ((14, B (mgetB eqB z1.1 x6.f0).isSome) :: s_0))) (o_0.append ((96, .box [S x6.f0, S x6.f1, I x6.f2, LL S x6.f3, I x6.f4, I x6.f5, I x6.f6, LL a64 x6.f7, S x6.f8] false) :: ((104, .box [S ((mgetB eqB z1.1 x6.f0).getD (S46.mk (ByteArray.mk #[]) (ByteArray.mk #[]) 0 [] 0 0 0 [] (ByteArray.mk #[]))).f0, S ((mgetB eqB z1.1 x6.f0).getD (S46.mk (ByteArray.mk #[]) (ByteArray.mk #[]) 0 [] 0 0 0 [] (ByteArray.mk #[]))).f1, I ((mgetB eqB z1.1 x6.f0).getD (S46.mk (ByteArray.mk #[]) (ByteArray.mk #[]) 0 [] 0 0 0 [] (ByteArray.mk #[]))).f2, LL S ((mgetB eqB z1.1 x6.f0).getD (S46.mk (ByteArray.mk #[]) (ByteArray.mk #[]) 0 [] 0 0 0 [] (ByteArray.mk #[]))).f3, I ((mgetB eqB z1.1 x6.f0).getD (S46.mk (ByteArray.mk #[]) (ByteArray.mk #[]) 0 [] 0 0 0 [] (ByteArray.mk #[]))).f4, I ((mgetB eqB z1.1 x6.f0).getD (S46.mk (ByteArray.mk #[]) (ByteArray.mk #[]) 0 [] 0 0 0 [] (ByteArray.mk #[]))).f5, I ((mgetB eqB z1.1 x6.f0).getD (S46.mk (ByteArray.mk #[]) (ByteArray.mk #[]) 0 [] 0 0 0 [] (ByteArray.mk #[]))).f6, LL a64 ((mgetB eqB z1.1 x6.f0).getD (S46.mk (ByteArray.mk #[]) (ByteArray.mk #[]) 0 [] 0 0 0 [] (ByteArray.mk #[]))).f7, S ((mgetB eqB z1.1 x6.f0).getD (S46.mk (ByteArray.mk #[]) (ByteArray.mk #[]) 0 [] 0 0 0 [] (ByteArray.mk #[]))).f8] false) :: o_1))) 68) (gB 4 (zS 0 14 (mkE (s_1.append ((13, .ba 104 0) :: (s_0.append [(44, B (!(mgetB eqB z1.1 x6.f0).isSome))]))) (o_0.append ((96, .box [S x6.f0, S x6.f1, I x6.f2, LL S x6.f3, I x6.f4, I x6.f5, I x6.f6, LL a64 x6.f7, S x6.f8] false) :: ((104, .box [S ((mgetB eqB z1.1 x6.f0).getD (S46.mk (ByteArray.mk #[]) (ByteArray.mk #[]) 0 [] 0 0 0 [] (ByteArray.mk #[]))).f0, S ((mgetB eqB z1.1 x6.f0).getD (S46.mk (ByteArray.mk #[]) (ByteArray.mk #[]) 0 [] 0 0 0 [] (ByteArray.mk #[]))).f1, I ((mgetB eqB z1.1 x6.f0).getD (S46.mk (ByteArray.mk #[]) (ByteArray.mk #[]) 0 [] 0 0 0 [] (ByteArray.mk #[]))).f2, LL S ((mgetB eqB z1.1 x6.f0).getD (S46.mk (ByteArray.mk #[]) (ByteArray.mk #[]) 0 [] 0 0 0 [] (ByteArray.mk #[]))).f3, I ((mgetB eqB z1.1 x6.f0).getD (S46.mk (ByteArray.mk #[]) (ByteArray.mk #[]) 0 [] 0 0 0 [] (ByteArray.mk #[]))).f4, I ((mgetB eqB z1.1 x6.f0).getD (S46.mk (ByteArray.mk #[]) (ByteArray.mk #[]) 0 [] 0 0 0 [] (ByteArray.mk #[]))).f5, I ((mgetB eqB z1.1 x6.f0).getD (S46.mk (ByteArray.mk #[]) (ByteArray.mk #[]) 0 [] 0 0 0 [] (ByteArray.mk #[]))).f6, LL a64 ((mgetB eqB z1.1 x6.f0).getD (S46.mk (ByteArray.mk #[]) (ByteArray.mk #[]) 0 [] 0 0 0 [] (ByteArray.mk #[]))).f7, S ((mgetB eqB z1.1 x6.f0).getD (S46.mk (ByteArray.mk #[]) (ByteArray.mk #[]) 0 [] 0 0 0 [] (ByteArray.mk #[]))).f8] false) :: o_1))) 68) (gC 44 (!(mgetB eqB z1.1 x6.f0).isSome) ?_ ?_)))))))
    · refine zR 16 15 (sg 4 (mkE ((50, a46 x6) :: ((49, S x6.f0) :: ((48, .ba 96 0) :: ((47, .mr 72) :: (s_1.append ((13, .ba 104 0) :: (s_0.append [(44, B (!(mgetB eqB z1.1 x6.f0).isSome))]))))))) (o_0.append ((96, .box [S x6.f0, S x6.f1, I x6.f2, LL S x6.f3, I x6.f4, I x6.f5, I x6.f6, LL a64 x6.f7, S x6.f8] false) :: ((104, .box [S ((mgetB eqB z1.1 x6.f0).getD (S46.mk (ByteArray.mk #[]) (ByteArray.mk #[]) 0 [] 0 0 0 [] (ByteArray.mk #[]))).f0, S ((mgetB eqB z1.1 x6.f0).getD (S46.mk (ByteArray.mk #[]) (ByteArray.mk #[]) 0 [] 0 0 0 [] (ByteArray.mk #[]))).f1, I ((mgetB eqB z1.1 x6.f0).getD (S46.mk (ByteArray.mk #[]) (ByteArray.mk #[]) 0 [] 0 0 0 [] (ByteArray.mk #[]))).f2, LL S ((mgetB eqB z1.1 x6.f0).getD (S46.mk (ByteArray.mk #[]) (ByteArray.mk #[]) 0 [] 0 0 0 [] (ByteArray.mk #[]))).f3, I ((mgetB eqB z1.1 x6.f0).getD (S46.mk (ByteArray.mk #[]) (ByteArray.mk #[]) 0 [] 0 0 0 [] (ByteArray.mk #[]))).f4, I ((mgetB eqB z1.1 x6.f0).getD (S46.mk (ByteArray.mk #[]) (ByteArray.mk #[]) 0 [] 0 0 0 [] (ByteArray.mk #[]))).f5, I ((mgetB eqB z1.1 x6.f0).getD (S46.mk (ByteArray.mk #[]) (ByteArray.mk #[]) 0 [] 0 0 0 [] (ByteArray.mk #[]))).f6, LL a64 ((mgetB eqB z1.1 x6.f0).getD (S46.mk (ByteArray.mk #[]) (ByteArray.mk #[]) 0 [] 0 0 0 [] (ByteArray.mk #[]))).f7, S ((mgetB eqB z1.1 x6.f0).getD (S46.mk (ByteArray.mk #[]) (ByteArray.mk #[]) 0 [] 0 0 0 [] (ByteArray.mk #[]))).f8] false) :: o_1))) 68) (mo none (mapO_ 136 9 47 72 S a46 eqB z1.1 x6.f0 (a46 x6) x6 [] sameS) (fun x7 => ?_)))
      refine zN (mkE (s_1.append s_0) ((72, MP S a46 x7 false) :: ((80, RR 47 9 a46 z1.2.1 0 false) :: ((96, .box [S x6.f0, S x6.f1, I x6.f2, LL S x6.f3, I x6.f4, I x6.f5, I x6.f6, LL a64 x6.f7, S x6.f8] false) :: o_1))) 68) (gR 16 (rg Tryz.f48 16) (sg 2 (mkE ((52, a46 x6) :: ((51, .own 80 0) :: (s_1.append s_0))) ((72, MP S a46 x7 false) :: ((80, RR 47 9 a46 z1.2.1 0 false) :: ((96, .box [S x6.f0, S x6.f1, I x6.f2, LL S x6.f3, I x6.f4, I x6.f5, I x6.f6, LL a64 x6.f7, S x6.f8] false) :: o_1))) 68) (co 53 [] (h82 x6) (fun x8 => ?_))))
      refine sg 4 (mkE ((54, .own 432 0) :: ((53, a46 x8) :: ((52, a46 x6) :: ((51, .own 80 0) :: (s_1.append s_0))))) ((432, RR 47 9 a46 ([x8] : List S46) 0 false) :: ((72, MP S a46 x7 false) :: ((80, RR 47 9 a46 z1.2.1 0 false) :: ((96, .box [S x6.f0, S x6.f1, I x6.f2, LL S x6.f3, I x6.f4, I x6.f5, I x6.f6, LL a64 x6.f7, S x6.f8] false) :: o_1)))) 68) (mo (some 55) (apO 26 47 9 128 80 a46 0 [432] (y := .own 432 0) (l2 := ([x8] : List S46))) (fun x9 => ?_))
      exact se (mkE ((9, .mr 72) :: ((10, .own 80 1) :: s_0)) ((72, MP S a46 x7 false) :: ((80, RR 47 9 a46 x9 1 false) :: o_1)) 68) (pB (pB (zP (gR 19 (rg Tryz.f48 19) (se (mkE [(9, .mr 72), (10, .own 80 1), (31, .own 248 0), (32, I (lenL x4)), (33, I (addI .i64 z1.2.2.2 1))] ((72, MP S a46 x7 false) :: ((80, RR 47 9 a46 x9 1 false) :: o_1)) 68) (pL))))))
    · refine zR 0 17 (sg 2 (mkE ((58, a46 x6) :: ((57, .agg [S ((mgetB eqB z1.1 x6.f0).getD (S46.mk (ByteArray.mk #[]) (ByteArray.mk #[]) 0 [] 0 0 0 [] (ByteArray.mk #[]))).f0, S ((mgetB eqB z1.1 x6.f0).getD (S46.mk (ByteArray.mk #[]) (ByteArray.mk #[]) 0 [] 0 0 0 [] (ByteArray.mk #[]))).f1, I ((mgetB eqB z1.1 x6.f0).getD (S46.mk (ByteArray.mk #[]) (ByteArray.mk #[]) 0 [] 0 0 0 [] (ByteArray.mk #[]))).f2, LL S ((mgetB eqB z1.1 x6.f0).getD (S46.mk (ByteArray.mk #[]) (ByteArray.mk #[]) 0 [] 0 0 0 [] (ByteArray.mk #[]))).f3, I ((mgetB eqB z1.1 x6.f0).getD (S46.mk (ByteArray.mk #[]) (ByteArray.mk #[]) 0 [] 0 0 0 [] (ByteArray.mk #[]))).f4, I ((mgetB eqB z1.1 x6.f0).getD (S46.mk (ByteArray.mk #[]) (ByteArray.mk #[]) 0 [] 0 0 0 [] (ByteArray.mk #[]))).f5, I ((mgetB eqB z1.1 x6.f0).getD (S46.mk (ByteArray.mk #[]) (ByteArray.mk #[]) 0 [] 0 0 0 [] (ByteArray.mk #[]))).f6, LL a64 ((mgetB eqB z1.1 x6.f0).getD (S46.mk (ByteArray.mk #[]) (ByteArray.mk #[]) 0 [] 0 0 0 [] (ByteArray.mk #[]))).f7, S ((mgetB eqB z1.1 x6.f0).getD (S46.mk (ByteArray.mk #[]) (ByteArray.mk #[]) 0 [] 0 0 0 [] (ByteArray.mk #[]))).f8]) :: (s_1.append ((13, .ba 104 0) :: (s_0.append [(44, B (!(mgetB eqB z1.1 x6.f0).isSome))]))))) (o_0.append ((96, .box [S x6.f0, S x6.f1, I x6.f2, LL S x6.f3, I x6.f4, I x6.f5, I x6.f6, LL a64 x6.f7, S x6.f8] false) :: ((104, .box [S ((mgetB eqB z1.1 x6.f0).getD (S46.mk (ByteArray.mk #[]) (ByteArray.mk #[]) 0 [] 0 0 0 [] (ByteArray.mk #[]))).f0, S ((mgetB eqB z1.1 x6.f0).getD (S46.mk (ByteArray.mk #[]) (ByteArray.mk #[]) 0 [] 0 0 0 [] (ByteArray.mk #[]))).f1, I ((mgetB eqB z1.1 x6.f0).getD (S46.mk (ByteArray.mk #[]) (ByteArray.mk #[]) 0 [] 0 0 0 [] (ByteArray.mk #[]))).f2, LL S ((mgetB eqB z1.1 x6.f0).getD (S46.mk (ByteArray.mk #[]) (ByteArray.mk #[]) 0 [] 0 0 0 [] (ByteArray.mk #[]))).f3, I ((mgetB eqB z1.1 x6.f0).getD (S46.mk (ByteArray.mk #[]) (ByteArray.mk #[]) 0 [] 0 0 0 [] (ByteArray.mk #[]))).f4, I ((mgetB eqB z1.1 x6.f0).getD (S46.mk (ByteArray.mk #[]) (ByteArray.mk #[]) 0 [] 0 0 0 [] (ByteArray.mk #[]))).f5, I ((mgetB eqB z1.1 x6.f0).getD (S46.mk (ByteArray.mk #[]) (ByteArray.mk #[]) 0 [] 0 0 0 [] (ByteArray.mk #[]))).f6, LL a64 ((mgetB eqB z1.1 x6.f0).getD (S46.mk (ByteArray.mk #[]) (ByteArray.mk #[]) 0 [] 0 0 0 [] (ByteArray.mk #[]))).f7, S ((mgetB eqB z1.1 x6.f0).getD (S46.mk (ByteArray.mk #[]) (ByteArray.mk #[]) 0 [] 0 0 0 [] (ByteArray.mk #[]))).f8] false) :: o_1))) 68) (co 59 [] (h83 (S46.mk (((mgetB eqB z1.1 x6.f0).getD (S46.mk (ByteArray.mk #[]) (ByteArray.mk #[]) 0 [] 0 0 0 [] (ByteArray.mk #[]))).f0) (((mgetB eqB z1.1 x6.f0).getD (S46.mk (ByteArray.mk #[]) (ByteArray.mk #[]) 0 [] 0 0 0 [] (ByteArray.mk #[]))).f1) (((mgetB eqB z1.1 x6.f0).getD (S46.mk (ByteArray.mk #[]) (ByteArray.mk #[]) 0 [] 0 0 0 [] (ByteArray.mk #[]))).f2) (((mgetB eqB z1.1 x6.f0).getD (S46.mk (ByteArray.mk #[]) (ByteArray.mk #[]) 0 [] 0 0 0 [] (ByteArray.mk #[]))).f3) (((mgetB eqB z1.1 x6.f0).getD (S46.mk (ByteArray.mk #[]) (ByteArray.mk #[]) 0 [] 0 0 0 [] (ByteArray.mk #[]))).f4) (((mgetB eqB z1.1 x6.f0).getD (S46.mk (ByteArray.mk #[]) (ByteArray.mk #[]) 0 [] 0 0 0 [] (ByteArray.mk #[]))).f5) (((mgetB eqB z1.1 x6.f0).getD (S46.mk (ByteArray.mk #[]) (ByteArray.mk #[]) 0 [] 0 0 0 [] (ByteArray.mk #[]))).f6) (((mgetB eqB z1.1 x6.f0).getD (S46.mk (ByteArray.mk #[]) (ByteArray.mk #[]) 0 [] 0 0 0 [] (ByteArray.mk #[]))).f7) (((mgetB eqB z1.1 x6.f0).getD (S46.mk (ByteArray.mk #[]) (ByteArray.mk #[]) 0 [] 0 0 0 [] (ByteArray.mk #[]))).f8)) x6) (fun x10 => ?_)))
      refine zN (mkE ((9, .mr 72) :: ((10, .own 80 0) :: (s_0.append [(56, B (!x10))]))) (o_0.append o_1) 68) (gC 56 (!x10) ?_ ?_)
      · exact zF 0 18 (mkE [(4, .nils), (5, I 13)] [] 68)
      · exact gK (pB (pB (zP (gR 19 (rg Tryz.f48 19) (se (mkE [(9, .mr 72), (10, .own 80 0), (31, .own 248 0), (32, I (lenL x4)), (33, I (addI .i64 z1.2.2.2 1))] (o_0.append o_1) 68) (pL))))))
  · exact gX 2 (pL)
noncomputable def T48 (p0 : (List S46)) (p1 : (List S46)) : Option ((List S46) × Int) := ((iter (L48_2 p0 p1) 0).bind fun y3 => (Sum.elim (fun y3a => ((T81 ([p0, p1] : List (List S46))).bind fun x4 => ((iter (L48_11 x4) (([] : (List (ByteArray × S46))), [], x4, 0)).bind fun y11 => (Sum.elim (fun y11a => (bif (ltI 300 (lenL y11a.2.2.2.1)) then (some ([], 2)) else ((sortO (fun x y => T84 x y) y11a.2.2.2.1).bind fun x12 => (some (x12, 0))))) (fun y11b => (some ([], 13))) y11)))) (fun y3b => (some ([], y3b))) y3))
theorem B48 (C : Callee) (h26 : ∀ (p0 : (List S46)), C 26 [.fr 47 9 (List.map a46 p0), .fn 84 []] = (sortO (fun x y => T84 x y) p0).map (fun (r : (List S46)) => AV.inp (.tup []) (.fr 47 9 (List.map a46 r)))) (h50 : ∀ (p0 : (List S46)), C 50 [LL a46 p0] = (T50 p0).map I) (h81 : ∀ (p0 : (List (List S46))), C 81 [LL (LL a46) p0] = (T81 p0).map (fun l => AV.fr 47 9 (List.map a46 l))) (h82 : ∀ (p0 : S46), C 82 [a46 p0] = (T82 p0).map a46) (h83 : ∀ (p0 : S46) (p1 : S46), C 83 [a46 p0, a46 p1] = (T83 p0 p1).map B) (p0 : (List S46)) (p1 : (List S46)) : runs Tryz.prog C (cfg.fn 48) (finFn Tryz.prog (cfg.fn 48).byval Tryz.f48) [] (execA Tryz.prog C (cfg.fn 48) (nr Tryz.f48 []) (frame0 [LL a46 p0, LL a46 p1] 68 false)) = (T48 p0 p1).map (fun r => AV.tup [(fun l => AV.fr 47 9 (List.map a46 l)) r.1, I r.2]) := by
  unfold T48
  let s_0 : List (Nat × AV) := [(0, LL a46 p0), (1, LL a46 p1), (17, .agg [LL a46 p0, LL a46 p1])]
  let s_1 : List (Nat × AV) := [(9, .mr 72), (10, .own 80 0), (31, .own 248 0)]
  let o_0 : List (Nat × AObj) := [(216, MP S a46 ([] : (List (ByteArray × S46))) false)]
  refine zS 1 0 (mkE [(0, LL a46 p0), (1, LL a46 p1)] [] 68) (gS 8 (zS 2 1 (mkE (s_0.append [(18, I 0)]) [] 68) (gB 0 (lo [(0, none), (1, none), (17, none), (18, none)] [] (L48_2 p0 p1) (fun z0 : Int => (mkE (s_0.append [(18, I z0)]) [] 68)) (Sum.elim (fun (x : (Int × Bool)) => (.exit 0, (mkE (s_0.append ((18, I x.1) :: [(19, B x.2)])) [] 68))) (fun (x : Int) => (.ret, (mkE [(4, .nils), (5, I x)] [] 68)))) 0 (fun z => L48_2_ok C h50 p0 p1 z) ?_))))
  intro y3
  refine ss y3 (Z := (Sum.elim (fun (x : (Int × Bool)) => (.exit 0, (mkE (s_0.append ((18, I x.1) :: [(19, B x.2)])) [] 68))) (fun (x : Int) => (.ret, (mkE [(4, .nils), (5, I x)] [] 68))))) (fun y3a => ?_) (fun y3b => ?_)
  · refine pH (zP (zS 9 8 (mkE [(0, LL a46 p0), (1, LL a46 p1), (9, .mr 216)] o_0 68) (zS 10 9 (mkE [(0, LL a46 p0), (1, LL a46 p1), (9, .mr 216), (10, .nils)] o_0 68) (gS 20 (zR 11 10 (sg 3 (mkE [(30, .own 240 0), (29, LL a46 p1), (28, LL a46 p0), (0, LL a46 p0), (1, LL a46 p1), (9, .mr 216), (10, .nils)] ((240, RR 26 1 (LL a46) ([p0, p1] : List (List S46)) 0 false) :: o_0) 68) (co 31 [240] (h81 ([p0, p1] : List (List S46))) (fun x4 => ?_))))))))
    refine eo 32 (I (lenL x4)) (lenOE 26 47 9 a46 x4) (zN (mkE [(9, .mr 216), (10, .nils), (31, .own 248 0), (32, I (lenL x4)), (33, I 0)] (o_0.append [(248, RR 47 9 a46 x4 0 false)]) 68) (gB 2 (lo [(9, none), (10, some (47, 9)), (31, some (47, 9)), (32, none), (33, none)] [] (L48_11 x4) (fun z1 : ((List (ByteArray × S46)) × (List S46) × (List S46) × Int) => (mkE (s_1.append ((32, I (lenL x4)) :: [(33, I z1.2.2.2)])) [(72, MP S a46 z1.1 false), (80, RR 47 9 a46 z1.2.1 0 false), (248, RR 47 9 a46 z1.2.2.1 0 false)] 68)) (Sum.elim (fun (x : (Int × Bool × (List (ByteArray × S46)) × (List S46) × (List S46))) => (.exit 2, (mkE (s_1.append ((32, I (lenL x4)) :: ((33, I x.1) :: [(34, B x.2.1)]))) [(72, MP S a46 x.2.2.1 false), (80, RR 47 9 a46 x.2.2.2.1 0 false), (248, RR 47 9 a46 x.2.2.2.2 0 false)] 68))) (fun (x : Unit) => (.ret, (mkE [(4, .nils), (5, I 13)] [] 68)))) (([] : (List (ByteArray × S46))), [], x4, 0) (fun z => L48_11_ok C h82 h83 x4 z) ?_)))
    intro y11
    refine ss y11 (Z := (Sum.elim (fun (x : (Int × Bool × (List (ByteArray × S46)) × (List S46) × (List S46))) => (.exit 2, (mkE (s_1.append ((32, I (lenL x4)) :: ((33, I x.1) :: [(34, B x.2.1)]))) [(72, MP S a46 x.2.2.1 false), (80, RR 47 9 a46 x.2.2.2.1 0 false), (248, RR 47 9 a46 x.2.2.2.2 0 false)] 68))) (fun (x : Unit) => (.ret, (mkE [(4, .nils), (5, I 13)] [] 68))))) (fun y11a => ?_) (fun y11b => ?_)
    · refine pH (zP (gS 22 (zR 0 20 (sg 1 (mkE ((62, .own 80 0) :: (s_1.append ((32, I (lenL x4)) :: ((33, I y11a.1) :: [(34, B y11a.2.1)])))) [(72, MP S a46 y11a.2.2.1 false), (80, RR 47 9 a46 y11a.2.2.2.1 0 false), (248, RR 47 9 a46 y11a.2.2.2.2 0 false)] 68) (eo 63 (I (lenL y11a.2.2.2.1)) (lenOE 26 47 9 a46 y11a.2.2.2.1) (zN (mkE [(10, .own 80 0), (64, B (ltI 300 (lenL y11a.2.2.2.1)))] [(80, RR 47 9 a46 y11a.2.2.2.1 0 false)] 68) (gC 64 (ltI 300 (lenL y11a.2.2.2.1)) ?_ ?_)))))))
      · exact zF 0 21 (mkE [(4, .nils), (5, I 2)] [] 68)
      · refine gK (zP (zR 23 22 (sg 1 (mkE [(65, .own 80 0), (10, .own 80 0), (64, B (ltI 300 (lenL y11a.2.2.2.1)))] [(80, RR 47 9 a46 y11a.2.2.2.1 0 false)] 68) (mo (some 66) (ipR 26 47 9 80 0 a46 y11a.2.2.2.1 [.fn 84 []] [.fn 84 []] [] (fun x : (List S46) => .tup []) (fun x : (List S46) => x) (h26 y11a.2.2.2.1)) (fun x12 => ?_)))))
        exact zN (mkE [(10, .own 80 0)] [(80, RR 47 9 a46 x12 0 false)] 68) (zF 0 23 (mkE [(4, .own 80 0), (5, I 0)] [(80, RR 47 9 a46 x12 0 false)] 68))
    · exact pL
  · exact pL
theorem F48 (m : Nat) (hm : 6 ≤ m) (p0 : (List S46)) (p1 : (List S46)) : callA Tryz.prog cfg m 48 [LL a46 p0, LL a46 p1] = (T48 p0 p1).map (fun r => AV.tup [(fun l => AV.fr 47 9 (List.map a46 l)) r.1, I r.2]) := by
  obtain ⟨q, rfl⟩ : ∃ q, m = q + 1 := ⟨m - 1, by omega⟩
  exact (callA_body (fn := Tryz.f48) (c := body_ Tryz.f48) q _ (by kernel_rfl) (by kernel_rfl) (by kernel_rfl)).trans (B48 _ (fun p0 => F26 q (by omega) p0) (fun p0 => F50 q (by omega) p0) (fun p0 => F81 q (by omega) p0) (fun p0 => F82 q (by omega) p0) (fun p0 p1 => F83 q (by omega) p0 p1) p0 p1)

noncomputable def T94 (p0 : Int) (p1 : Int) (p2 : Int) : Option Bool := (bif (leI p1 p0) then (some (leI p0 p2)) else (some false))
theorem B94 (C : Callee) (p0 : Int) (p1 : Int) (p2 : Int) : runs Tryz.prog C (cfg.fn 94) (finFn Tryz.prog (cfg.fn 94).byval Tryz.f94) [] (execA Tryz.prog C (cfg.fn 94) (nr Tryz.f94 []) (frame0 [I p0, I p1, I p2] 15 false)) = (T94 p0 p1 p2).map B := by
  unfold T94
  refine zS 1 0 (mkE [(0, I p0), (1, I p1), (2, I p2)] [] 15) (zR 0 1 (sg 4 (mkE [(10, B (leI p1 p0)), (9, B (leI p1 p0)), (8, I p0), (7, I p1), (0, I p0), (1, I p1), (2, I p2)] [] 15) (sb 10 (leI p1 p0) ?_ ?_)))
  · exact zE (mkE [(6, B (leI p0 p2))] [] 15)
  · exact zE (mkE [(6, B false)] [] 15)
theorem F94 (m : Nat) (hm : 1 ≤ m) (p0 : Int) (p1 : Int) (p2 : Int) : callA Tryz.prog cfg m 94 [I p0, I p1, I p2] = (T94 p0 p1 p2).map B := by
  obtain ⟨q, rfl⟩ : ∃ q, m = q + 1 := ⟨m - 1, by omega⟩
  exact (callA_bodyQ (fn := Tryz.f94) (c := body_ Tryz.f94) q _ (by kernel_rfl) (by kernel_rfl) (by kernel_rfl)).trans (B94 _ p0 p1 p2)

theorem F200 (m : Nat) (hm : 1 ≤ m) (p0 : ByteArray) (p1 : Int) : callA Tryz.prog cfg m 200 [S p0, U p1] = (some (idxB p0 p1)).map I := by
  obtain ⟨q, rfl⟩ : ∃ q, m = q + 1 := ⟨m - 1, by omega⟩
  exact (callA_leaf (L := leafIdx) _ _ (by kernel_rfl)).trans (rfl)

noncomputable def T171 (p0 : ByteArray) (p1 : Int) : Option Int := ((some (idxB p0 p1)).bind fun x1 => (some x1))
theorem B171 (C : Callee) (h200 : ∀ (p0 : ByteArray) (p1 : Int), C 200 [S p0, U p1] = (some (idxB p0 p1)).map I) (p0 : ByteArray) (p1 : Int) : runs Tryz.prog C (cfg.fn 171) (finFn Tryz.prog (cfg.fn 171).byval Tryz.f171) [] (execA Tryz.prog C (cfg.fn 171) (nr Tryz.f171 []) (frame0 [S p0, U p1] 8 false)) = (T171 p0 p1).map I := by
  unfold T171
  refine zS 1 0 (mkE [(0, S p0), (1, U p1)] [] 8) (zR 0 1 (sg 2 (mkE [(6, U p1), (5, S p0), (0, S p0), (1, U p1)] [] 8) (co 7 [] (h200 p0 p1) (fun x1 => ?_))))
  exact zE (mkE [(4, I x1)] [] 8)
theorem F171 (m : Nat) (hm : 2 ≤ m) (p0 : ByteArray) (p1 : Int) : callA Tryz.prog cfg m 171 [S p0, U p1] = (T171 p0 p1).map I := by
  obtain ⟨q, rfl⟩ : ∃ q, m = q + 1 := ⟨m - 1, by omega⟩
  exact (callA_body (fn := Tryz.f171) (c := body_ Tryz.f171) q _ (by kernel_rfl) (by kernel_rfl) (by kernel_rfl)).trans (B171 _ (fun p0 p1 => F200 q (by omega) p0 p1) p0 p1)

noncomputable def L143_2 (p0 : ByteArray) (p1 : ByteArray) (z0 : Int) : Option (Int ⊕ ((Int × Bool) ⊕ Unit)) := (bif (ltI z0 (lenS p0)) then ((byteAt p0 z0).bind fun x1 => ((T171 p1 x1).bind fun x2 => (bif (ltI x2 0) then (some (.inr (.inr ()))) else (some (.inl (addI .i64 z0 1)))))) else (some (.inr (.inl (z0, (ltI z0 (lenS p0)))))))
theorem L143_2_ok (C : Callee) (h171 : ∀ (p0 : ByteArray) (p1 : Int), C 171 [S p0, U p1] = (T171 p0 p1).map I) (p0 : ByteArray) (p1 : ByteArray) (z0 : Int) : runs Tryz.prog C (cfg.fn 143) (finLoop ((cfg.fn 143).keep 2) ((cfg.fn 143).al 2)) [] (execA Tryz.prog C (cfg.fn 143) (nr Tryz.f143 [false, false, true, false, true]) ((fun z0 : Int => (mkE [(0, S p0), (1, S p1), (7, I (lenS p0)), (8, I z0)] [] 18)) z0)) = (L143_2 p0 p1 z0).map (Sum.elim (fun z => .inl ((fun z0 : Int => (mkE [(0, S p0), (1, S p1), (7, I (lenS p0)), (8, I z0)] [] 18)) z)) (fun x => .inr ((Sum.elim (fun (x : (Int × Bool)) => (.exit 0, (mkE [(0, S p0), (1, S p1), (7, I (lenS p0)), (8, I x.1), (9, B x.2)] [] 18))) (fun (x : Unit) => (.ret, (mkE [(4, B false)] [] 18)))) x))) := by
  unfold L143_2
  refine zS 0 2 (mkE [(0, S p0), (1, S p1), (7, I (lenS p0)), (8, I z0), (9, B (ltI z0 (lenS p0)))] [] 18) (gS 3 (gC 9 (ltI z0 (lenS p0)) ?_ ?_))
  · refine gK (zP (gS 6 (gB 1 (zS 4 3 (mkE [(0, S p0), (1, S p1), (5, I z0), (7, I (lenS p0)), (8, I z0)] [] 18) (zR 0 4 (sg 3 (mkE [(13, I z0), (12, S p0), (11, S p1), (0, S p0), (1, S p1), (5, I z0), (7, I (lenS p0)), (8, I z0)] [] 18) (vo 14 (byteE 9 .i64 p0 z0) (fun x1 => ?_))))))))
    refine co 15 [] (h171 p1 x1) (fun x2 => ?_)
    refine zN (mkE [(0, S p0), (1, S p1), (7, I (lenS p0)), (8, I z0), (16, B (ltI x2 0))] [] 18) (gC 16 (ltI x2 0) ?_ ?_)
    · exact zF 0 5 (mkE [(4, B false)] [] 18)
    · exact gK (pB (zP (gR 6 (rg Tryz.f143 6) (se (mkE [(0, S p0), (1, S p1), (7, I (lenS p0)), (8, I (addI .i64 z0 1))] [] 18) (pL)))))
  · exact gX 0 (pL)
noncomputable def T143 (p0 : ByteArray) (p1 : ByteArray) : Option Bool := ((iter (L143_2 p0 p1) 0).bind fun y3 => (Sum.elim (fun y3a => (some true)) (fun y3b => (some false)) y3))
theorem B143 (C : Callee) (h171 : ∀ (p0 : ByteArray) (p1 : Int), C 171 [S p0, U p1] = (T171 p0 p1).map I) (p0 : ByteArray) (p1 : ByteArray) : runs Tryz.prog C (cfg.fn 143) (finFn Tryz.prog (cfg.fn 143).byval Tryz.f143) [] (execA Tryz.prog C (cfg.fn 143) (nr Tryz.f143 []) (frame0 [S p0, S p1] 18 false)) = (T143 p0 p1).map B := by
  unfold T143
  refine zS 1 0 (mkE [(0, S p0), (1, S p1)] [] 18) (gS 7 (zS 2 1 (mkE [(0, S p0), (1, S p1), (7, I (lenS p0)), (8, I 0)] [] 18) (gB 0 (lo [(0, none), (1, none), (7, none), (8, none)] [] (L143_2 p0 p1) (fun z0 : Int => (mkE [(0, S p0), (1, S p1), (7, I (lenS p0)), (8, I z0)] [] 18)) (Sum.elim (fun (x : (Int × Bool)) => (.exit 0, (mkE [(0, S p0), (1, S p1), (7, I (lenS p0)), (8, I x.1), (9, B x.2)] [] 18))) (fun (x : Unit) => (.ret, (mkE [(4, B false)] [] 18)))) 0 (fun z => L143_2_ok C h171 p0 p1 z) ?_))))
  intro y3
  refine ss y3 (Z := (Sum.elim (fun (x : (Int × Bool)) => (.exit 0, (mkE [(0, S p0), (1, S p1), (7, I (lenS p0)), (8, I x.1), (9, B x.2)] [] 18))) (fun (x : Unit) => (.ret, (mkE [(4, B false)] [] 18))))) (fun y3a => ?_) (fun y3b => ?_)
  · exact pH (zP (zF 0 7 (mkE [(4, B true)] [] 18)))
  · exact pL
theorem F143 (m : Nat) (hm : 3 ≤ m) (p0 : ByteArray) (p1 : ByteArray) : callA Tryz.prog cfg m 143 [S p0, S p1] = (T143 p0 p1).map B := by
  obtain ⟨q, rfl⟩ : ∃ q, m = q + 1 := ⟨m - 1, by omega⟩
  exact (callA_body (fn := Tryz.f143) (c := body_ Tryz.f143) q _ (by kernel_rfl) (by kernel_rfl) (by kernel_rfl)).trans (B143 _ (fun p0 p1 => F171 q (by omega) p0 p1) p0 p1)

noncomputable def T93 (p0 : ByteArray) : Option Bool := ((T94 (lenS p0) 1 40).bind fun x1 => (bif x1 then ((cutS p0 none (some 1)).bind fun x2 => ((T143 x2 (ByteArray.mk #[97, 98, 99, 100, 101, 102, 103, 104, 105, 106, 107, 108, 109, 110, 111, 112, 113, 114, 115, 116, 117, 118, 119, 120, 121, 122])).bind fun x3 => (bif x3 then ((T143 p0 (ByteArray.mk #[97, 98, 99, 100, 101, 102, 103, 104, 105, 106, 107, 108, 109, 110, 111, 112, 113, 114, 115, 116, 117, 118, 119, 120, 121, 122, 48, 49, 50, 51, 52, 53, 54, 55, 56, 57, 45, 95])).bind fun x4 => (some x4)) else (some false)))) else (some false)))
theorem B93 (C : Callee) (h143 : ∀ (p0 : ByteArray) (p1 : ByteArray), C 143 [S p0, S p1] = (T143 p0 p1).map B) (h94 : ∀ (p0 : Int) (p1 : Int) (p2 : Int), C 94 [I p0, I p1, I p2] = (T94 p0 p1 p2).map B) (p0 : ByteArray) : runs Tryz.prog C (cfg.fn 93) (finFn Tryz.prog (cfg.fn 93).byval Tryz.f93) [] (execA Tryz.prog C (cfg.fn 93) (nr Tryz.f93 []) (frame0 [S p0] 15 false)) = (T93 p0).map B := by
  unfold T93
  let s_0 : List (Nat × AV) := [(4, I (lenS p0)), (3, S p0), (0, S p0)]
  refine zS 1 0 (mkE [(0, S p0)] [] 15) (zR 0 1 (sg 2 (mkE s_0 [] 15) (co 5 [] (h94 (lenS p0) 1 40) (fun x1 => ?_))))
  refine sg 4 (mkE ((6, B x1) :: ((5, B x1) :: s_0)) [] 15) (sb 6 x1 ?_ ?_)
  · refine sg 5 (mkE ((7, S p0) :: ((6, B true) :: ((6, B x1) :: ((5, B x1) :: s_0)))) [] 15) (vo 8 (cutSE 9 .i64 .i64 p0 none (some 1)) (fun x2 => ?_))
    refine co 9 [] (h143 x2 (ByteArray.mk #[97, 98, 99, 100, 101, 102, 103, 104, 105, 106, 107, 108, 109, 110, 111, 112, 113, 114, 115, 116, 117, 118, 119, 120, 121, 122])) (fun x3 => ?_)
    refine sg 9 (mkE ((11, B x3) :: ((10, B x3) :: ((9, B x3) :: ((8, S x2) :: ((7, S p0) :: ((6, B true) :: ((6, B x1) :: ((5, B x1) :: s_0)))))))) [] 15) (sb 11 x3 ?_ ?_)
    · refine sg 10 (mkE ((12, S p0) :: ((11, B true) :: ((11, B x3) :: ((10, B x3) :: ((9, B x3) :: ((8, S x2) :: ((7, S p0) :: ((6, B true) :: ((6, B x1) :: ((5, B x1) :: s_0)))))))))) [] 15) (co 13 [] (h143 p0 (ByteArray.mk #[97, 98, 99, 100, 101, 102, 103, 104, 105, 106, 107, 108, 109, 110, 111, 112, 113, 114, 115, 116, 117, 118, 119, 120, 121, 122, 48, 49, 50, 51, 52, 53, 54, 55, 56, 57, 45, 95])) (fun x4 => ?_))
      exact zE (mkE [(2, B x4)] [] 15)
    · exact zE (mkE [(2, B false)] [] 15)
  · exact zE (mkE [(2, B false)] [] 15)
theorem F93 (m : Nat) (hm : 4 ≤ m) (p0 : ByteArray) : callA Tryz.prog cfg m 93 [S p0] = (T93 p0).map B := by
  obtain ⟨q, rfl⟩ : ∃ q, m = q + 1 := ⟨m - 1, by omega⟩
  exact (callA_body (fn := Tryz.f93) (c := body_ Tryz.f93) q _ (by kernel_rfl) (by kernel_rfl) (by kernel_rfl)).trans (B93 _ (fun p0 p1 => F143 q (by omega) p0 p1) (fun p0 p1 p2 => F94 q (by omega) p0 p1 p2) p0)

noncomputable def T136 (p0 : Int) : Option Bool := ((T94 p0 0 345686399999).bind fun x1 => (some x1))
theorem B136 (C : Callee) (h94 : ∀ (p0 : Int) (p1 : Int) (p2 : Int), C 94 [I p0, I p1, I p2] = (T94 p0 p1 p2).map B) (p0 : Int) : runs Tryz.prog C (cfg.fn 136) (finFn Tryz.prog (cfg.fn 136).byval Tryz.f136) [] (execA Tryz.prog C (cfg.fn 136) (nr Tryz.f136 []) (frame0 [I p0] 5 false)) = (T136 p0).map B := by
  unfold T136
  refine zS 1 0 (mkE [(0, I p0)] [] 5) (zR 0 1 (sg 1 (mkE [(3, I p0), (0, I p0)] [] 5) (co 4 [] (h94 p0 0 345686399999) (fun x1 => ?_))))
  exact zE (mkE [(2, B x1)] [] 5)
theorem F136 (m : Nat) (hm : 2 ≤ m) (p0 : Int) : callA Tryz.prog cfg m 136 [I p0] = (T136 p0).map B := by
  obtain ⟨q, rfl⟩ : ∃ q, m = q + 1 := ⟨m - 1, by omega⟩
  exact (callA_body (fn := Tryz.f136) (c := body_ Tryz.f136) q _ (by kernel_rfl) (by kernel_rfl) (by kernel_rfl)).trans (B136 _ (fun p0 p1 p2 => F94 q (by omega) p0 p1 p2) p0)

noncomputable def T137 (p0 : S64) : Option Int := ((T94 p0.f0 (-100000) 100000).bind fun x1 => (bif (!x1) then (some 1) else ((T94 p0.f1 (-100000) 100000).bind fun x2 => (bif (!x2) then (some 1) else ((T94 p0.f2 1 (subI .i64 100000 p0.f0)).bind fun x3 => (bif (!x3) then (some 1) else ((T94 p0.f3 1 (subI .i64 100000 p0.f1)).bind fun x4 => (bif (!x4) then (some 1) else (some 0)))))))))
theorem B137 (C : Callee) (h94 : ∀ (p0 : Int) (p1 : Int) (p2 : Int), C 94 [I p0, I p1, I p2] = (T94 p0 p1 p2).map B) (p0 : S64) : runs Tryz.prog C (cfg.fn 137) (finFn Tryz.prog (cfg.fn 137).byval Tryz.f137) [] (execA Tryz.prog C (cfg.fn 137) (nr Tryz.f137 []) (frame0 [a64 p0] 31 false)) = (T137 p0).map I := by
  unfold T137
  let s_0 : List (Nat × AV) := [(18, I (subI .i64 100000 p0.f0)), (17, I p0.f0), (16, .ba 8 0), (15, I p0.f2), (14, .ba 8 2), (13, B false)]
  let s_1 : List (Nat × AV) := [(4, I p0.f0), (3, .ba 8 0), (1, .ba 8 0)]
  let s_2 : List (Nat × AV) := [(9, I p0.f1), (8, .ba 8 1), (7, B false)]
  let o_0 : List (Nat × AObj) := [(8, .box [I p0.f0, I p0.f1, I p0.f2, I p0.f3] false)]
  refine zS 1 0 (mkE [(1, .ba 8 0)] o_0 31) (gS 3 (zR 0 1 (sg 2 (mkE s_1 o_0 31) (co 5 [] (h94 p0.f0 (-100000) 100000) (fun x1 => ?_)))))
  refine sg 5 (mkE ((7, B (!x1)) :: ((6, B (!x1)) :: ((5, B x1) :: s_1))) o_0 31) (sb 7 (!x1) ?_ ?_)
  · exact zN (mkE [(30, B true)] [] 31) (gT (.tmp 30) (zF 0 2 (mkE [(2, I 1)] [] 31)))
  · refine sg 7 (mkE (s_2.append ((7, B (!x1)) :: ((6, B (!x1)) :: ((5, B x1) :: s_1)))) o_0 31) (co 10 [] (h94 p0.f1 (-100000) 100000) (fun x2 => ?_))
    refine sg 11 (mkE ((13, B (!x2)) :: ((12, B (!x2)) :: ((11, B (!x2)) :: ((10, B x2) :: (s_2.append ((7, B (!x1)) :: ((6, B (!x1)) :: ((5, B x1) :: s_1)))))))) o_0 31) (sb 13 (!x2) ?_ ?_)
    · exact zN (mkE [(30, B true)] [] 31) (gT (.tmp 30) (zF 0 2 (mkE [(2, I 1)] [] 31)))
    · refine sg 16 (mkE (s_0.append ((13, B (!x2)) :: ((12, B (!x2)) :: ((11, B (!x2)) :: ((10, B x2) :: (s_2.append ((7, B (!x1)) :: ((6, B (!x1)) :: ((5, B x1) :: s_1))))))))) o_0 31) (co 19 [] (h94 p0.f2 1 (subI .i64 100000 p0.f0)) (fun x3 => ?_))
      refine sg 20 (mkE ((22, B (!x3)) :: ((21, B (!x3)) :: ((20, B (!x3)) :: ((19, B x3) :: (s_0.append ((13, B (!x2)) :: ((12, B (!x2)) :: ((11, B (!x2)) :: ((10, B x2) :: (s_2.append ((7, B (!x1)) :: ((6, B (!x1)) :: ((5, B x1) :: s_1))))))))))))) o_0 31) (sb 22 (!x3) ?_ ?_)
      · exact zN (mkE [(30, B true)] [] 31) (gT (.tmp 30) (zF 0 2 (mkE [(2, I 1)] [] 31)))
      · refine sg 25 (mkE ((27, I (subI .i64 100000 p0.f1)) :: ((26, I p0.f1) :: ((25, .ba 8 1) :: ((24, I p0.f3) :: ((23, .ba 8 3) :: ((22, B false) :: ((22, B (!x3)) :: ((21, B (!x3)) :: ((20, B (!x3)) :: ((19, B x3) :: (s_0.append ((13, B (!x2)) :: ((12, B (!x2)) :: ((11, B (!x2)) :: ((10, B x2) :: (s_2.append ((7, B (!x1)) :: ((6, B (!x1)) :: ((5, B x1) :: s_1))))))))))))))))))) o_0 31) (co 28 [] (h94 p0.f3 1 (subI .i64 100000 p0.f1)) (fun x4 => ?_))
        refine zN (mkE [(30, B (!x4))] [] 31) (gC 30 (!x4) ?_ ?_)
        · exact zF 0 2 (mkE [(2, I 1)] [] 31)
        · exact gK (zP (zF 0 3 (mkE [(2, I 0)] [] 31)))
theorem F137 (m : Nat) (hm : 2 ≤ m) (p0 : S64) : callA Tryz.prog cfg m 137 [a64 p0] = (T137 p0).map I := by
  obtain ⟨q, rfl⟩ : ∃ q, m = q + 1 := ⟨m - 1, by omega⟩
  exact (callA_body (fn := Tryz.f137) (c := body_ Tryz.f137) q _ (by kernel_rfl) (by kernel_rfl) (by kernel_rfl)).trans (B137 _ (fun p0 p1 p2 => F94 q (by omega) p0 p1 p2) p0)

noncomputable def T166 (p0 : Int) : Option Bool := (bif (ltI p0 32) then (some true) else (some (eqI p0 127)))
theorem B166 (C : Callee) (p0 : Int) : runs Tryz.prog C (cfg.fn 166) (finFn Tryz.prog (cfg.fn 166).byval Tryz.f166) [] (execA Tryz.prog C (cfg.fn 166) (nr Tryz.f166 []) (frame0 [.int .i32 p0] 9 false)) = (T166 p0).map B := by
  unfold T166
  refine zS 1 0 (mkE [(0, .int .i32 p0)] [] 9) (zR 0 1 (sg 3 (mkE [(5, B (ltI p0 32)), (4, B (ltI p0 32)), (3, .int .i32 p0), (0, .int .i32 p0)] [] 9) (sb 5 (ltI p0 32) ?_ ?_)))
  · exact zE (mkE [(2, B true)] [] 9)
  · exact zE (mkE [(2, B (eqI p0 127))] [] 9)
theorem F166 (m : Nat) (hm : 1 ≤ m) (p0 : Int) : callA Tryz.prog cfg m 166 [.int .i32 p0] = (T166 p0).map B := by
  obtain ⟨q, rfl⟩ : ∃ q, m = q + 1 := ⟨m - 1, by omega⟩
  exact (callA_body (fn := Tryz.f166) (c := body_ Tryz.f166) q _ (by kernel_rfl) (by kernel_rfl) (by kernel_rfl)).trans (B166 _ p0)

theorem F165 (m : Nat) (hm : 2 ≤ m) (p0 : ByteArray) : callA Tryz.prog cfg m 165 [S p0, .fn 166 []] = (hasO T166 p0).map B := by
  obtain ⟨q, rfl⟩ : ∃ q, m = q + 1 := ⟨m - 1, by omega⟩
  exact (callA_leaf (L := (leafHas Tryz.prog)) _ _ (by kernel_rfl)).trans (has_leaf 166 T166 _ p0 (fun x => F166 q (by omega) x) (by kernel_rfl))

noncomputable def T138 (p0 : ByteArray) : Option Bool := ((validO p0).bind fun x1 => (bif x1 then ((hasO T166 p0).bind fun x2 => (bif (!x2) then ((T167 p0 (ByteArray.mk #[32])).bind fun x3 => (bif (eqS x3 p0) then ((contO p0 (ByteArray.mk #[32, 32])).bind fun x4 => (some (!x4))) else (some false))) else (some false))) else (some false)))
theorem B138 (C : Callee) (h164 : ∀ (p0 : ByteArray), C 164 [S p0] = (validO p0).map B) (h165 : ∀ (p0 : ByteArray), C 165 [S p0, .fn 166 []] = (hasO T166 p0).map B) (h167 : ∀ (p0 : ByteArray) (p1 : ByteArray), C 167 [S p0, S p1] = (T167 p0 p1).map S) (h168 : ∀ (p0 : ByteArray) (p1 : ByteArray), C 168 [S p0, S p1] = (contO p0 p1).map B) (p0 : ByteArray) : runs Tryz.prog C (cfg.fn 138) (finFn Tryz.prog (cfg.fn 138).byval Tryz.f138) [] (execA Tryz.prog C (cfg.fn 138) (nr Tryz.f138 []) (frame0 [S p0] 21 false)) = (T138 p0).map B := by
  unfold T138
  refine zS 1 0 (mkE [(0, S p0)] [] 21) (zR 0 1 (sg 1 (mkE [(3, S p0), (0, S p0)] [] 21) (co 4 [] (h164 p0) (fun x1 => ?_))))
  refine sg 3 (mkE [(5, B x1), (4, B x1), (3, S p0), (0, S p0)] [] 21) (sb 5 x1 ?_ ?_)
  · refine sg 4 (mkE [(6, S p0), (5, B true), (5, B x1), (4, B x1), (3, S p0), (0, S p0)] [] 21) (co 7 [] (h165 p0) (fun x2 => ?_))
    refine sg 8 (mkE [(10, B (!x2)), (9, B (!x2)), (8, B (!x2)), (7, B x2), (6, S p0), (5, B true), (5, B x1), (4, B x1), (3, S p0), (0, S p0)] [] 21) (sb 10 (!x2) ?_ ?_)
    · refine sg 9 (mkE [(11, S p0), (10, B true), (10, B (!x2)), (9, B (!x2)), (8, B (!x2)), (7, B x2), (6, S p0), (5, B true), (5, B x1), (4, B x1), (3, S p0), (0, S p0)] [] 21) (co 12 [] (h167 p0 (ByteArray.mk #[32])) (fun x3 => ?_))
      refine sg 14 (mkE [(16, B (eqS x3 p0)), (15, B (eqS x3 p0)), (14, B (eqS x3 p0)), (13, S p0), (12, S x3), (11, S p0), (10, B true), (10, B (!x2)), (9, B (!x2)), (8, B (!x2)), (7, B x2), (6, S p0), (5, B true), (5, B x1), (4, B x1), (3, S p0), (0, S p0)] [] 21) (sb 16 (eqS x3 p0) ?_ ?_)
      · refine sg 15 (mkE [(17, S p0), (16, B true), (16, B (eqS x3 p0)), (15, B (eqS x3 p0)), (14, B (eqS x3 p0)), (13, S p0), (12, S x3), (11, S p0), (10, B true), (10, B (!x2)), (9, B (!x2)), (8, B (!x2)), (7, B x2), (6, S p0), (5, B true), (5, B x1), (4, B x1), (3, S p0), (0, S p0)] [] 21) (co 18 [] (h168 p0 (ByteArray.mk #[32, 32])) (fun x4 => ?_))
        exact zE (mkE [(2, B (!x4))] [] 21)
      · exact zE (mkE [(2, B false)] [] 21)
    · exact zE (mkE [(2, B false)] [] 21)
  · exact zE (mkE [(2, B false)] [] 21)
theorem F138 (m : Nat) (hm : 3 ≤ m) (p0 : ByteArray) : callA Tryz.prog cfg m 138 [S p0] = (T138 p0).map B := by
  obtain ⟨q, rfl⟩ : ∃ q, m = q + 1 := ⟨m - 1, by omega⟩
  exact (callA_body (fn := Tryz.f138) (c := body_ Tryz.f138) q _ (by kernel_rfl) (by kernel_rfl) (by kernel_rfl)).trans (B138 _ (fun p0 => F164 q (by omega) p0) (fun p0 => F165 q (by omega) p0) (fun p0 p1 => F167 q (by omega) p0 p1) (fun p0 p1 => F168 q (by omega) p0 p1) p0)

noncomputable def L85_8 (p0 : S46) (z0 : Int) : Option (Int ⊕ ((Int × Bool) ⊕ Int)) := (bif (ltI z0 (lenL p0.f3)) then ((listAt p0.f3 z0).bind fun x4 => ((T93 x4).bind fun x5 => (bif (!x5) then (some (.inr (.inr 5))) else (bif (ltI 0 z0) then ((listAt p0.f3 (subI .i64 z0 1)).bind fun x6 => (bif (ltS x4 x6 || eqS x4 x6) then (some (.inr (.inr 7))) else (bif (eqS x4 p0.f0) then (some (.inr (.inr 14))) else (some (.inl (addI .i64 z0 1)))))) else (bif (eqS x4 p0.f0) then (some (.inr (.inr 14))) else (some (.inl (addI .i64 z0 1)))))))) else (some (.inr (.inl (z0, (ltI z0 (lenL p0.f3)))))))
theorem L85_8_ok (C : Callee) (h93 : ∀ (p0 : ByteArray), C 93 [S p0] = (T93 p0).map B) (p0 : S46) (z0 : Int) : runs Tryz.prog C (cfg.fn 85) (finLoop ((cfg.fn 85).keep 8) ((cfg.fn 85).al 8)) [] (execA Tryz.prog C (cfg.fn 85) (nr Tryz.f85 [false, false, true, false, true, true]) ((fun z0 : Int => (mkE [(1, .ba 8 0), (30, LL S p0.f3), (31, I (lenL p0.f3)), (32, I z0)] [(8, .box [S p0.f0, S p0.f1, I p0.f2, LL S p0.f3, I p0.f4, I p0.f5, I p0.f6, LL a64 p0.f7, S p0.f8] false)] 139)) z0)) = (L85_8 p0 z0).map (Sum.elim (fun z => .inl ((fun z0 : Int => (mkE [(1, .ba 8 0), (30, LL S p0.f3), (31, I (lenL p0.f3)), (32, I z0)] [(8, .box [S p0.f0, S p0.f1, I p0.f2, LL S p0.f3, I p0.f4, I p0.f5, I p0.f6, LL a64 p0.f7, S p0.f8] false)] 139)) z)) (fun x => .inr ((Sum.elim (fun (x : (Int × Bool)) => (.exit 1, (mkE [(1, .ba 8 0), (30, LL S p0.f3), (31, I (lenL p0.f3)), (32, I x.1), (33, B x.2)] [(8, .box [S p0.f0, S p0.f1, I p0.f2, LL S p0.f3, I p0.f4, I p0.f5, I p0.f6, LL a64 p0.f7, S p0.f8] false)] 139))) (fun (x : Int) => (.ret, (mkE [(2, I x)] [] 139)))) x))) := by
  unfold L85_8
  let s_0 : List (Nat × AV) := [(30, LL S p0.f3), (31, I (lenL p0.f3)), (32, I z0)]
  let o_0 : List (Nat × AObj) := [(8, .box [S p0.f0, S p0.f1, I p0.f2, LL S p0.f3, I p0.f4, I p0.f5, I p0.f6, LL a64 p0.f7, S p0.f8] false)]
  refine zS 0 8 (mkE ((1, .ba 8 0) :: (s_0.append [(33, B (ltI z0 (lenL p0.f3)))])) o_0 139) (gS 9 (gC 33 (ltI z0 (lenL p0.f3)) ?_ ?_))
  · refine gK (zP (gS 16 (gB 2 (zR 10 9 (sg 1 (mkE ((34, I z0) :: ((1, .ba 8 0) :: (s_0.append [(33, B (ltI z0 (lenL p0.f3)))]))) o_0 139) (vo 35 (addrE 34 9 1 S .i64 p0.f3 z0) (fun x4 => ?_)))))))
    refine zN (mkE ((1, .ba 8 0) :: ((3, I z0) :: ((4, S x4) :: s_0))) o_0 139) (gB 3 (zR 0 10 (sg 1 (mkE ((38, S x4) :: ((1, .ba 8 0) :: ((3, I z0) :: ((4, S x4) :: s_0)))) o_0 139) (co 39 [] (h93 x4) (fun x5 => ?_)))))
    refine zN (mkE ((1, .ba 8 0) :: ((3, I z0) :: ((4, S x4) :: (s_0.append [(37, B (!x5))])))) o_0 139) (gC 37 (!x5) ?_ ?_)
    · exact zF 0 11 (mkE [(2, I 5)] [] 139)
    · refine zR 0 12 (sg 3 (mkE ((44, B (ltI 0 z0)) :: ((43, B (ltI 0 z0)) :: ((42, I z0) :: ((1, .ba 8 0) :: ((3, I z0) :: ((4, S x4) :: (s_0.append [(37, B (!x5))]))))))) o_0 139) (sb 44 (ltI 0 z0) ?_ ?_))
      · refine sg 8 (mkE ((49, I (subI .i64 z0 1)) :: ((48, I z0) :: ((47, LL S p0.f3) :: ((46, .ba 8 3) :: ((45, S x4) :: ((44, B true) :: ((44, B (ltI 0 z0)) :: ((43, B (ltI 0 z0)) :: ((42, I z0) :: ((1, .ba 8 0) :: ((3, I z0) :: ((4, S x4) :: (s_0.append [(37, B (!x5))]))))))))))))) o_0 139) (vo 50 (addrE 34 9 1 S .i64 p0.f3 (subI .i64 z0 1)) (fun x6 => ?_))
        refine zN (mkE ((1, .ba 8 0) :: ((4, S x4) :: (s_0.append [(41, B (ltS x4 x6 || eqS x4 x6))]))) o_0 139) (gC 41 (ltS x4 x6 || eqS x4 x6) ?_ ?_)
        · exact zF 0 13 (mkE [(2, I 7)] [] 139)
        · refine zS 0 14 (mkE ((1, .ba 8 0) :: (s_0.append [(54, B (eqS x4 p0.f0))])) o_0 139) (gC 54 (eqS x4 p0.f0) ?_ ?_)
          · exact zF 0 15 (mkE [(2, I 14)] [] 139)
          · exact gK (pB (pB (zP (gR 16 (rg Tryz.f85 16) (se (mkE [(1, .ba 8 0), (30, LL S p0.f3), (31, I (lenL p0.f3)), (32, I (addI .i64 z0 1))] o_0 139) (pL))))))
      · refine zN (mkE ((1, .ba 8 0) :: ((4, S x4) :: (s_0.append [(41, B false)]))) o_0 139) (gF (.tmp 41) (zS 0 14 (mkE ((1, .ba 8 0) :: (s_0.append [(54, B (eqS x4 p0.f0))])) o_0 139) (gC 54 (eqS x4 p0.f0) ?_ ?_)))
        · exact zF 0 15 (mkE [(2, I 14)] [] 139)
        · exact gK (pB (pB (zP (gR 16 (rg Tryz.f85 16) (se (mkE [(1, .ba 8 0), (30, LL S p0.f3), (31, I (lenL p0.f3)), (32, I (addI .i64 z0 1))] o_0 139) (pL))))))
  · exact gX 1 (pL)
noncomputable def L85_24 (p0 : S46) (z1 : Int) : Option (Int ⊕ ((Int × Bool) ⊕ Int)) := (bif (ltI z1 (lenL p0.f7)) then ((listAt p0.f7 z1).bind fun x11 => ((T137 x11).bind fun x12 => (bif (neI x12 0) then (some (.inr (.inr x12))) else (some (.inl (addI .i64 z1 1)))))) else (some (.inr (.inl (z1, (ltI z1 (lenL p0.f7)))))))
theorem L85_24_ok (C : Callee) (h137 : ∀ (p0 : S64), C 137 [a64 p0] = (T137 p0).map I) (p0 : S46) (z1 : Int) : runs Tryz.prog C (cfg.fn 85) (finLoop ((cfg.fn 85).keep 24) ((cfg.fn 85).al 24)) [] (execA Tryz.prog C (cfg.fn 85) (nr Tryz.f85 [false, false, true, false, true, true, true, true]) ((fun z1 : Int => (mkE [(1, .ba 8 0), (98, LL a64 p0.f7), (99, I (lenL p0.f7)), (100, I z1)] [(8, .box [S p0.f0, S p0.f1, I p0.f2, LL S p0.f3, I p0.f4, I p0.f5, I p0.f6, LL a64 p0.f7, S p0.f8] false)] 139)) z1)) = (L85_24 p0 z1).map (Sum.elim (fun z => .inl ((fun z1 : Int => (mkE [(1, .ba 8 0), (98, LL a64 p0.f7), (99, I (lenL p0.f7)), (100, I z1)] [(8, .box [S p0.f0, S p0.f1, I p0.f2, LL S p0.f3, I p0.f4, I p0.f5, I p0.f6, LL a64 p0.f7, S p0.f8] false)] 139)) z)) (fun x => .inr ((Sum.elim (fun (x : (Int × Bool)) => (.exit 5, (mkE [(1, .ba 8 0), (98, LL a64 p0.f7), (99, I (lenL p0.f7)), (100, I x.1), (101, B x.2)] [(8, .box [S p0.f0, S p0.f1, I p0.f2, LL S p0.f3, I p0.f4, I p0.f5, I p0.f6, LL a64 p0.f7, S p0.f8] false)] 139))) (fun (x : Int) => (.ret, (mkE [(2, I x)] [] 139)))) x))) := by
  unfold L85_24
  let s_0 : List (Nat × AV) := [(98, LL a64 p0.f7), (99, I (lenL p0.f7)), (100, I z1)]
  let o_0 : List (Nat × AObj) := [(8, .box [S p0.f0, S p0.f1, I p0.f2, LL S p0.f3, I p0.f4, I p0.f5, I p0.f6, LL a64 p0.f7, S p0.f8] false)]
  refine zS 0 24 (mkE ((1, .ba 8 0) :: (s_0.append [(101, B (ltI z1 (lenL p0.f7)))])) o_0 139) (gS 25 (gC 101 (ltI z1 (lenL p0.f7)) ?_ ?_))
  · refine gK (zP (gS 29 (gB 6 (zR 26 25 (vo 102 (addrE 45 65 4 a64 .i64 p0.f7 z1) (fun x11 => ?_))))))
    refine zN (mkE ((1, .ba 8 0) :: ((6, .ba 48 0) :: s_0)) (o_0.append [(48, .box [I x11.f0, I x11.f1, I x11.f2, I x11.f3] false)]) 139) (zR 27 26 (sg 1 (mkE ((104, a64 x11) :: ((1, .ba 8 0) :: ((6, .ba 48 0) :: s_0))) (o_0.append [(48, .box [I x11.f0, I x11.f1, I x11.f2, I x11.f3] false)]) 139) (co 105 [] (h137 x11) (fun x12 => ?_))))
    refine zN (mkE ((1, .ba 8 0) :: ((7, I x12) :: s_0)) o_0 139) (zS 0 27 (mkE ((1, .ba 8 0) :: ((7, I x12) :: (s_0.append [(107, B (neI x12 0))]))) o_0 139) (gC 107 (neI x12 0) ?_ ?_))
    · exact zF 0 28 (mkE [(2, I x12)] [] 139)
    · exact gK (pB (zP (gR 29 (rg Tryz.f85 29) (se (mkE [(1, .ba 8 0), (98, LL a64 p0.f7), (99, I (lenL p0.f7)), (100, I (addI .i64 z1 1))] o_0 139) (pL)))))
  · exact gX 5 (pL)
noncomputable def T85 (p0 : S46) : Option Int := ((T93 p0.f0).bind fun x1 => (bif (!x1) then (some 5) else ((T93 p0.f1).bind fun x2 => (bif (!x2) then (some 5) else ((T94 p0.f2 1 3).bind fun x3 => (bif (!x3) then (some 4) else (bif (ltI 20 (lenL p0.f3)) then (some 2) else ((iter (L85_8 p0) 0).bind fun y7 => (Sum.elim (fun y7a => (bif ((eqI p0.f2 1) != (eqI (lenL p0.f3) 0)) then (some 3) else ((T136 p0.f4).bind fun x8 => (bif (!x8) then (some 1) else ((T94 p0.f5 (addI .i64 p0.f4 1) (addI .i64 p0.f4 2592000000)).bind fun x9 => (bif (!x9) then (some 1) else ((T94 p0.f6 1 9).bind fun x10 => (bif (!x10) then (some 1) else (bif (ltI 20 (lenL p0.f7)) then (some 2) else ((iter (L85_24 p0) 0).bind fun y13 => (Sum.elim (fun y13a => (bif ((eqI p0.f2 3) != (eqI (lenL p0.f7) 0)) then (some 3) else (bif (ltI 500 (lenS p0.f8)) then (some 2) else ((T138 p0.f8).bind fun x14 => (bif (!x14) then (some 3) else (bif (eqS p0.f8 (ByteArray.mk #[])) then (bif (neI p0.f2 3) then (some 3) else (some 0)) else (some 0))))))) (fun y13b => (some y13b)) y13))))))))))) (fun y7b => (some y7b)) y7)))))))))
theorem B85 (C : Callee) (h136 : ∀ (p0 : Int), C 136 [I p0] = (T136 p0).map B) (h137 : ∀ (p0 : S64), C 137 [a64 p0] = (T137 p0).map I) (h138 : ∀ (p0 : ByteArray), C 138 [S p0] = (T138 p0).map B) (h93 : ∀ (p0 : ByteArray), C 93 [S p0] = (T93 p0).map B) (h94 : ∀ (p0 : Int) (p1 : Int) (p2 : Int), C 94 [I p0, I p1, I p2] = (T94 p0 p1 p2).map B) (p0 : S46) : runs Tryz.prog C (cfg.fn 85) (finFn Tryz.prog (cfg.fn 85).byval Tryz.f85) [] (execA Tryz.prog C (cfg.fn 85) (nr Tryz.f85 []) (frame0 [a46 p0] 139 false)) = (T85 p0).map I := by
  unfold T85
  let s_0 : List (Nat × AV) := [(71, I p0.f4), (70, .ba 8 4), (1, .ba 8 0), (60, B ((eqI p0.f2 1) != (eqI (lenL p0.f3) 0)))]
  let s_1 : List (Nat × AV) := [(82, I (addI .i64 p0.f4 2592000000)), (81, I p0.f4), (80, .ba 8 4), (79, I (addI .i64 p0.f4 1)), (78, I p0.f4), (77, .ba 8 4), (76, I p0.f5), (75, .ba 8 5), (74, B false)]
  let s_2 : List (Nat × AV) := [(1, .ba 8 0), (98, LL a64 p0.f7), (99, I (lenL p0.f7))]
  let s_3 : List (Nat × AV) := [(1, .ba 8 0), (30, LL S p0.f3), (31, I (lenL p0.f3))]
  let s_4 : List (Nat × AV) := [(126, S p0.f8), (125, .ba 8 8), (1, .ba 8 0), (119, B (ltI 500 (lenS p0.f8)))]
  let o_0 : List (Nat × AObj) := [(8, .box [S p0.f0, S p0.f1, I p0.f2, LL S p0.f3, I p0.f4, I p0.f5, I p0.f6, LL a64 p0.f7, S p0.f8] false)]
  refine zS 1 0 (mkE [(1, .ba 8 0)] o_0 139) (gS 7 (gB 0 (zR 0 1 (sg 2 (mkE [(10, S p0.f0), (9, .ba 8 0), (1, .ba 8 0)] o_0 139) (co 11 [] (h93 p0.f0) (fun x1 => ?_))))))
  refine sg 5 (mkE [(13, B (!x1)), (12, B (!x1)), (11, B x1), (10, S p0.f0), (9, .ba 8 0), (1, .ba 8 0)] o_0 139) (sb 13 (!x1) ?_ ?_)
  · exact zN (mkE [(1, .ba 8 0), (8, B true)] o_0 139) (gT (.tmp 8) (zF 0 2 (mkE [(2, I 5)] [] 139)))
  · refine sg 7 (mkE [(15, S p0.f1), (14, .ba 8 1), (13, B false), (13, B (!x1)), (12, B (!x1)), (11, B x1), (10, S p0.f0), (9, .ba 8 0), (1, .ba 8 0)] o_0 139) (co 16 [] (h93 p0.f1) (fun x2 => ?_))
    refine zN (mkE [(1, .ba 8 0), (8, B (!x2))] o_0 139) (gC 8 (!x2) ?_ ?_)
    · exact zF 0 2 (mkE [(2, I 5)] [] 139)
    · refine zR 0 3 (sg 2 (mkE [(21, I p0.f2), (20, .ba 8 2), (1, .ba 8 0), (8, B (!x2))] o_0 139) (co 22 [] (h94 p0.f2 1 3) (fun x3 => ?_)))
      refine zN (mkE [(1, .ba 8 0), (19, B (!x3))] o_0 139) (gC 19 (!x3) ?_ ?_)
      · exact zF 0 4 (mkE [(2, I 4)] [] 139)
      · refine zR 0 5 (sg 2 (mkE [(26, LL S p0.f3), (25, .ba 8 3), (1, .ba 8 0), (19, B (!x3))] o_0 139) (eo 27 (I (lenL p0.f3)) (lenE 34 S p0.f3) (zN (mkE [(1, .ba 8 0), (24, B (ltI 20 (lenL p0.f3)))] o_0 139) (gC 24 (ltI 20 (lenL p0.f3)) ?_ ?_))))
        · exact zF 0 6 (mkE [(2, I 2)] [] 139)
        · refine gK (pB (zP (gS 17 (zR 8 7 (sg 2 (mkE [(30, LL S p0.f3), (29, .ba 8 3), (1, .ba 8 0), (24, B (ltI 20 (lenL p0.f3)))] o_0 139) (eo 31 (I (lenL p0.f3)) (lenE 34 S p0.f3) (zN (mkE (s_3.append [(32, I 0)]) o_0 139) (gB 1 (lo [(1, none), (30, none), (31, none), (32, none)] [] (L85_8 p0) (fun z0 : Int => (mkE (s_3.append [(32, I z0)]) o_0 139)) (Sum.elim (fun (x : (Int × Bool)) => (.exit 1, (mkE (s_3.append ((32, I x.1) :: [(33, B x.2)])) o_0 139))) (fun (x : Int) => (.ret, (mkE [(2, I x)] [] 139)))) 0 (fun z => L85_8_ok C h93 p0 z) ?_)))))))))
          intro y7
          refine ss y7 (Z := (Sum.elim (fun (x : (Int × Bool)) => (.exit 1, (mkE (s_3.append ((32, I x.1) :: [(33, B x.2)])) o_0 139))) (fun (x : Int) => (.ret, (mkE [(2, I x)] [] 139))))) (fun y7a => ?_) (fun y7b => ?_)
          · refine pH (zP (gS 23 (gB 4 (zR 0 17 (sg 5 (mkE ((65, LL S p0.f3) :: ((64, .ba 8 3) :: ((63, B (eqI p0.f2 1)) :: ((62, I p0.f2) :: ((61, .ba 8 2) :: (s_3.append ((32, I y7a.1) :: [(33, B y7a.2)]))))))) o_0 139) (eo 66 (I (lenL p0.f3)) (lenE 34 S p0.f3) (zN (mkE [(1, .ba 8 0), (60, B ((eqI p0.f2 1) != (eqI (lenL p0.f3) 0)))] o_0 139) (gC 60 ((eqI p0.f2 1) != (eqI (lenL p0.f3) 0)) ?_ ?_))))))))
            · exact zF 0 18 (mkE [(2, I 3)] [] 139)
            · refine zR 0 19 (sg 2 (mkE s_0 o_0 139) (co 72 [] (h136 p0.f4) (fun x8 => ?_)))
              refine sg 5 (mkE ((74, B (!x8)) :: ((73, B (!x8)) :: ((72, B x8) :: s_0))) o_0 139) (sb 74 (!x8) ?_ ?_)
              · exact zN (mkE [(1, .ba 8 0), (69, B true)] o_0 139) (gT (.tmp 69) (zF 0 20 (mkE [(2, I 1)] [] 139)))
              · refine sg 13 (mkE (s_1.append ((74, B (!x8)) :: ((73, B (!x8)) :: ((72, B x8) :: s_0)))) o_0 139) (co 83 [] (h94 p0.f5 (addI .i64 p0.f4 1) (addI .i64 p0.f4 2592000000)) (fun x9 => ?_))
                refine sg 17 (mkE ((86, B (!x9)) :: ((85, B (!x9)) :: ((84, B (!x9)) :: ((83, B x9) :: (s_1.append ((74, B (!x8)) :: ((73, B (!x8)) :: ((72, B x8) :: s_0)))))))) o_0 139) (sb 86 (!x9) ?_ ?_)
                · exact zN (mkE [(1, .ba 8 0), (69, B true)] o_0 139) (gT (.tmp 69) (zF 0 20 (mkE [(2, I 1)] [] 139)))
                · refine sg 19 (mkE ((88, I p0.f6) :: ((87, .ba 8 6) :: ((86, B false) :: ((86, B (!x9)) :: ((85, B (!x9)) :: ((84, B (!x9)) :: ((83, B x9) :: (s_1.append ((74, B (!x8)) :: ((73, B (!x8)) :: ((72, B x8) :: s_0))))))))))) o_0 139) (co 89 [] (h94 p0.f6 1 9) (fun x10 => ?_))
                  refine zN (mkE [(1, .ba 8 0), (69, B (!x10))] o_0 139) (gC 69 (!x10) ?_ ?_)
                  · exact zF 0 20 (mkE [(2, I 1)] [] 139)
                  · refine zR 0 21 (sg 2 (mkE [(94, LL a64 p0.f7), (93, .ba 8 7), (1, .ba 8 0), (69, B (!x10))] o_0 139) (eo 95 (I (lenL p0.f7)) (lenE 45 a64 p0.f7) (zN (mkE [(1, .ba 8 0), (92, B (ltI 20 (lenL p0.f7)))] o_0 139) (gC 92 (ltI 20 (lenL p0.f7)) ?_ ?_))))
                    · exact zF 0 22 (mkE [(2, I 2)] [] 139)
                    · refine gK (pB (zP (gS 30 (zR 24 23 (sg 2 (mkE [(98, LL a64 p0.f7), (97, .ba 8 7), (1, .ba 8 0), (92, B (ltI 20 (lenL p0.f7)))] o_0 139) (eo 99 (I (lenL p0.f7)) (lenE 45 a64 p0.f7) (zN (mkE (s_2.append [(100, I 0)]) o_0 139) (gB 5 (lo [(1, none), (98, none), (99, none), (100, none)] [] (L85_24 p0) (fun z1 : Int => (mkE (s_2.append [(100, I z1)]) o_0 139)) (Sum.elim (fun (x : (Int × Bool)) => (.exit 5, (mkE (s_2.append ((100, I x.1) :: [(101, B x.2)])) o_0 139))) (fun (x : Int) => (.ret, (mkE [(2, I x)] [] 139)))) 0 (fun z => L85_24_ok C h137 p0 z) ?_)))))))))
                      intro y13
                      refine ss y13 (Z := (Sum.elim (fun (x : (Int × Bool)) => (.exit 5, (mkE (s_2.append ((100, I x.1) :: [(101, B x.2)])) o_0 139))) (fun (x : Int) => (.ret, (mkE [(2, I x)] [] 139))))) (fun y13a => ?_) (fun y13b => ?_)
                      · refine pH (zP (gS 36 (gB 7 (zR 0 30 (sg 5 (mkE ((115, LL a64 p0.f7) :: ((114, .ba 8 7) :: ((113, B (eqI p0.f2 3)) :: ((112, I p0.f2) :: ((111, .ba 8 2) :: (s_2.append ((100, I y13a.1) :: [(101, B y13a.2)]))))))) o_0 139) (eo 116 (I (lenL p0.f7)) (lenE 45 a64 p0.f7) (zN (mkE [(1, .ba 8 0), (110, B ((eqI p0.f2 3) != (eqI (lenL p0.f7) 0)))] o_0 139) (gC 110 ((eqI p0.f2 3) != (eqI (lenL p0.f7) 0)) ?_ ?_))))))))
                        · exact zF 0 31 (mkE [(2, I 3)] [] 139)
                        · refine zS 0 32 (mkE [(1, .ba 8 0), (119, B (ltI 500 (lenS p0.f8)))] o_0 139) (gC 119 (ltI 500 (lenS p0.f8)) ?_ ?_)
                          · exact zF 0 33 (mkE [(2, I 2)] [] 139)
                          · refine zR 0 34 (sg 2 (mkE s_4 o_0 139) (co 127 [] (h138 p0.f8) (fun x14 => ?_)))
                            refine sg 5 (mkE ((129, B (!x14)) :: ((128, B (!x14)) :: ((127, B x14) :: s_4))) o_0 139) (sb 129 (!x14) ?_ ?_)
                            · exact zN (mkE [(124, B true)] [] 139) (gT (.tmp 124) (zF 0 35 (mkE [(2, I 3)] [] 139)))
                            · refine sg 9 (mkE ((133, B (eqS p0.f8 (ByteArray.mk #[]))) :: ((132, B (eqS p0.f8 (ByteArray.mk #[]))) :: ((131, S p0.f8) :: ((130, .ba 8 8) :: ((129, B false) :: ((129, B (!x14)) :: ((128, B (!x14)) :: ((127, B x14) :: s_4)))))))) o_0 139) (sb 133 (eqS p0.f8 (ByteArray.mk #[])) ?_ ?_)
                              · refine zN (mkE [(124, B (neI p0.f2 3))] [] 139) (gC 124 (neI p0.f2 3) ?_ ?_)
                                · exact zF 0 35 (mkE [(2, I 3)] [] 139)
                                · exact gK (pB (zP (zF 0 36 (mkE [(2, I 0)] [] 139))))
                              · exact zN (mkE [(124, B false)] [] 139) (gF (.tmp 124) (gK (pB (zP (zF 0 36 (mkE [(2, I 0)] [] 139))))))
                      · exact pL
          · exact pL
theorem F85 (m : Nat) (hm : 5 ≤ m) (p0 : S46) : callA Tryz.prog cfg m 85 [a46 p0] = (T85 p0).map I := by
  obtain ⟨q, rfl⟩ : ∃ q, m = q + 1 := ⟨m - 1, by omega⟩
  exact (callA_body (fn := Tryz.f85) (c := body_ Tryz.f85) q _ (by kernel_rfl) (by kernel_rfl) (by kernel_rfl)).trans (B85 _ (fun p0 => F136 q (by omega) p0) (fun p0 => F137 q (by omega) p0) (fun p0 => F138 q (by omega) p0) (fun p0 => F93 q (by omega) p0) (fun p0 p1 p2 => F94 q (by omega) p0 p1 p2) p0)

noncomputable def T139 (p0 : Int) : Option Int := (bif (ltI p0 0) then (some (-1)) else (bif (ltI 0 p0) then (some 1) else (some 0)))
theorem B139 (C : Callee) (p0 : Int) : runs Tryz.prog C (cfg.fn 139) (finFn Tryz.prog (cfg.fn 139).byval Tryz.f139) [] (execA Tryz.prog C (cfg.fn 139) (nr Tryz.f139 []) (frame0 [I p0] 9 false)) = (T139 p0).map I := by
  unfold T139
  refine zS 1 0 (mkE [(0, I p0)] [] 9) (gS 5 (gB 0 (zS 0 1 (mkE [(0, I p0), (3, B (ltI p0 0))] [] 9) (gC 3 (ltI p0 0) ?_ ?_))))
  · exact zF 0 2 (mkE [(2, I (-1))] [] 9)
  · refine zS 0 3 (mkE [(6, B (ltI 0 p0))] [] 9) (gC 6 (ltI 0 p0) ?_ ?_)
    · exact zF 0 4 (mkE [(2, I 1)] [] 9)
    · exact gK (pB (zP (zF 0 5 (mkE [(2, I 0)] [] 9))))
theorem F139 (m : Nat) (hm : 1 ≤ m) (p0 : Int) : callA Tryz.prog cfg m 139 [I p0] = (T139 p0).map I := by
  obtain ⟨q, rfl⟩ : ∃ q, m = q + 1 := ⟨m - 1, by omega⟩
  exact (callA_bodyQ (fn := Tryz.f139) (c := body_ Tryz.f139) q _ (by kernel_rfl) (by kernel_rfl) (by kernel_rfl)).trans (B139 _ p0)

noncomputable def T86 (p0 : S46) (p1 : S46) : Option Int := (bif (neI p0.f4 p1.f4) then ((T139 (subI .i64 p0.f4 p1.f4)).bind fun x1 => (some x1)) else ((T38 p0.f0 p1.f0).bind fun x2 => (some x2)))
theorem B86 (C : Callee) (h139 : ∀ (p0 : Int), C 139 [I p0] = (T139 p0).map I) (h38 : ∀ (p0 : ByteArray) (p1 : ByteArray), C 38 [S p0, S p1] = (T38 p0 p1).map I) (p0 : S46) (p1 : S46) : runs Tryz.prog C (cfg.fn 86) (finFn Tryz.prog (cfg.fn 86).byval Tryz.f86) [] (execA Tryz.prog C (cfg.fn 86) (nr Tryz.f86 []) (frame0 [a46 p0, a46 p1] 21 false)) = (T86 p0 p1).map I := by
  unfold T86
  let o_0 : List (Nat × AObj) := [(16, .box [S p0.f0, S p0.f1, I p0.f2, LL S p0.f3, I p0.f4, I p0.f5, I p0.f6, LL a64 p0.f7, S p0.f8] false), (24, .box [S p1.f0, S p1.f1, I p1.f2, LL S p1.f3, I p1.f4, I p1.f5, I p1.f6, LL a64 p1.f7, S p1.f8] false)]
  refine zS 1 0 (mkE [(2, .ba 16 0), (3, .ba 24 0)] o_0 21) (gS 3 (zS 0 1 (mkE [(2, .ba 16 0), (3, .ba 24 0), (9, B (neI p0.f4 p1.f4))] o_0 21) (gC 9 (neI p0.f4 p1.f4) ?_ ?_)))
  · refine zR 0 2 (sg 5 (mkE [(14, I (subI .i64 p0.f4 p1.f4)), (13, I p1.f4), (12, .ba 24 4), (11, I p0.f4), (10, .ba 16 4), (2, .ba 16 0), (3, .ba 24 0), (9, B (neI p0.f4 p1.f4))] o_0 21) (co 15 [] (h139 (subI .i64 p0.f4 p1.f4)) (fun x1 => ?_)))
    exact zE (mkE [(4, I x1)] [] 21)
  · refine gK (zP (zR 0 3 (sg 4 (mkE [(19, S p1.f0), (18, .ba 24 0), (17, S p0.f0), (16, .ba 16 0), (2, .ba 16 0), (3, .ba 24 0), (9, B (neI p0.f4 p1.f4))] o_0 21) (co 20 [] (h38 p0.f0 p1.f0) (fun x2 => ?_)))))
    exact zE (mkE [(4, I x2)] [] 21)
theorem F86 (m : Nat) (hm : 3 ≤ m) (p0 : S46) (p1 : S46) : callA Tryz.prog cfg m 86 [a46 p0, a46 p1] = (T86 p0 p1).map I := by
  obtain ⟨q, rfl⟩ : ∃ q, m = q + 1 := ⟨m - 1, by omega⟩
  exact (callA_bodyQ (fn := Tryz.f86) (c := body_ Tryz.f86) q _ (by kernel_rfl) (by kernel_rfl) (by kernel_rfl)).trans (B86 _ (fun p0 => (guard_q (by kernel_rfl) _).trans (F139 q (by omega) p0)) (fun p0 p1 => (guard_q (by kernel_rfl) _).trans (F38 q (by omega) p0 p1)) p0 p1)

noncomputable def L49_4 (p0 : (List S46)) (z0 : Int) : Option (Int ⊕ ((Int × Bool) ⊕ Int)) := (bif (ltI z0 (lenL p0)) then ((listAt p0 z0).bind fun x1 => ((T85 x1).bind fun x2 => (bif (neI x2 0) then (some (.inr (.inr x2))) else (bif (ltI 0 z0) then ((listAt p0 (subI .i64 z0 1)).bind fun x3 => ((T86 x3 x1).bind fun x4 => (bif (leI 0 x4) then (some (.inr (.inr 7))) else (some (.inl (addI .i64 z0 1)))))) else (some (.inl (addI .i64 z0 1))))))) else (some (.inr (.inl (z0, (ltI z0 (lenL p0)))))))
theorem L49_4_ok (C : Callee) (h85 : ∀ (p0 : S46), C 85 [a46 p0] = (T85 p0).map I) (h86 : ∀ (p0 : S46) (p1 : S46), C 86 [a46 p0, a46 p1] = (T86 p0 p1).map I) (p0 : (List S46)) (z0 : Int) : runs Tryz.prog C (cfg.fn 49) (finLoop ((cfg.fn 49).keep 4) ((cfg.fn 49).al 4)) [] (execA Tryz.prog C (cfg.fn 49) (nr Tryz.f49 [false, false, true, false, true, true]) ((fun z0 : Int => (mkE [(0, LL a46 p0), (12, LL a46 p0), (13, I (lenL p0)), (14, I z0)] [] 53)) z0)) = (L49_4 p0 z0).map (Sum.elim (fun z => .inl ((fun z0 : Int => (mkE [(0, LL a46 p0), (12, LL a46 p0), (13, I (lenL p0)), (14, I z0)] [] 53)) z)) (fun x => .inr ((Sum.elim (fun (x : (Int × Bool)) => (.exit 0, (mkE [(0, LL a46 p0), (12, LL a46 p0), (13, I (lenL p0)), (14, I x.1), (15, B x.2)] [] 53))) (fun (x : Int) => (.ret, (mkE [(2, I x)] [] 53)))) x))) := by
  unfold L49_4
  let d_0 : List (Option Nat × REff) := [(some 24, qe (I z0)), (some 25, qe (B (ltI 0 z0))), (some 26, qe (B true)), (some 27, qe (LL a46 p0)), (some 28, qe (I z0)), (some 29, qe (I (subI .i64 z0 1)))]
  let s_0 : List (Nat × AV) := [(12, LL a46 p0), (13, I (lenL p0)), (14, I z0)]
  let s_1 : List (Nat × AV) := [(29, I (subI .i64 z0 1)), (28, I z0), (27, LL a46 p0), (26, B true), (25, B (ltI 0 z0)), (24, I z0), (0, LL a46 p0), (3, I z0), (4, .ba 32 0)]
  let s_2 : List (Nat × AV) := [(0, LL a46 p0), (3, I z0), (4, .ba 32 0)]
  refine zS 0 4 (mkE ((0, LL a46 p0) :: (s_0.append [(15, B (ltI z0 (lenL p0)))])) [] 53) (gS 5 (gC 15 (ltI z0 (lenL p0)) ?_ ?_))
  · refine gK (zP (gS 11 (gB 1 (zR 6 5 (sg 1 (mkE ((16, I z0) :: ((0, LL a46 p0) :: (s_0.append [(15, B (ltI z0 (lenL p0)))]))) [] 53) (vo 17 (addrE 26 47 9 a46 .i64 p0 z0) (fun x1 => ?_)))))))
    refine zN (mkE (s_2.append s_0) [(32, .box [S x1.f0, S x1.f1, I x1.f2, LL S x1.f3, I x1.f4, I x1.f5, I x1.f6, LL a64 x1.f7, S x1.f8] false)] 53) (gS 9 (zR 7 6 (sg 1 (mkE ((19, a46 x1) :: (s_2.append s_0)) [(32, .box [S x1.f0, S x1.f1, I x1.f2, LL S x1.f3, I x1.f4, I x1.f5, I x1.f6, LL a64 x1.f7, S x1.f8] false)] 53) (co 20 [] (h85 x1) (fun x2 => ?_)))))
    refine zN (mkE (s_2.append ((5, I x2) :: s_0)) [(32, .box [S x1.f0, S x1.f1, I x1.f2, LL S x1.f3, I x1.f4, I x1.f5, I x1.f6, LL a64 x1.f7, S x1.f8] false)] 53) (zS 0 7 (mkE (s_2.append ((5, I x2) :: (s_0.append [(22, B (neI x2 0))]))) [(32, .box [S x1.f0, S x1.f1, I x1.f2, LL S x1.f3, I x1.f4, I x1.f5, I x1.f6, LL a64 x1.f7, S x1.f8] false)] 53) (gC 22 (neI x2 0) ?_ ?_))
    · exact zF 0 8 (mkE [(2, I x2)] [] 53)
    · refine gK (zP (gS 0 (gD 9 12 (rg Tryz.f49 9) [0, 1, 2, 3, 4, 5, 6, 7, 8, 9, 10, 11] (dg 3 [(some 24, qe (I z0)), (some 25, qe (B (ltI 0 z0))), (some 26, qe (B (ltI 0 z0)))] (db 2 26 (ltI 0 z0) ?_ ?_)))))
      · refine dg 6 d_0 (dv 30 (mkE (s_1.append ((5, I x2) :: (s_0.append [(22, B (neI x2 0))]))) [(32, .box [S x1.f0, S x1.f1, I x1.f2, LL S x1.f3, I x1.f4, I x1.f5, I x1.f6, LL a64 x1.f7, S x1.f8] false)] 53) (addrE 26 47 9 a46 .i64 p0 (subI .i64 z0 1)) (fun x3 => ?_))
        refine dg 9 (d_0.append ((some 30, qe (.ia [S x3.f0, S x3.f1, I x3.f2, LL S x3.f3, I x3.f4, I x3.f5, I x3.f6, LL a64 x3.f7, S x3.f8] 0)) :: ((some 31, qe (a46 x3)) :: [(some 32, qe (a46 x1))]))) (dc 33 [] (mkE ((32, a46 x1) :: ((31, a46 x3) :: ((30, .ia [S x3.f0, S x3.f1, I x3.f2, LL S x3.f3, I x3.f4, I x3.f5, I x3.f6, LL a64 x3.f7, S x3.f8] 0) :: (s_1.append ((5, I x2) :: (s_0.append [(22, B (neI x2 0))])))))) [(32, .box [S x1.f0, S x1.f1, I x1.f2, LL S x1.f3, I x1.f4, I x1.f5, I x1.f6, LL a64 x1.f7, S x1.f8] false)] 53) (h86 x3 x1) (fun x4 => ?_))
        refine dg 12 (d_0.append ((some 30, qe (.ia [S x3.f0, S x3.f1, I x3.f2, LL S x3.f3, I x3.f4, I x3.f5, I x3.f6, LL a64 x3.f7, S x3.f8] 0)) :: ((some 31, qe (a46 x3)) :: ((some 32, qe (a46 x1)) :: ((some 33, qe (I x4)) :: ((some 34, qe (B (leI 0 x4))) :: [(some 35, qe (B (leI 0 x4)))])))))) (de (mkE ((35, B (leI 0 x4)) :: ((34, B (leI 0 x4)) :: ((33, I x4) :: ((32, a46 x1) :: ((31, a46 x3) :: ((30, .ia [S x3.f0, S x3.f1, I x3.f2, LL S x3.f3, I x3.f4, I x3.f5, I x3.f6, LL a64 x3.f7, S x3.f8] 0) :: (s_1.append ((5, I x2) :: (s_0.append [(22, B (neI x2 0))]))))))))) [(32, .box [S x1.f0, S x1.f1, I x1.f2, LL S x1.f3, I x1.f4, I x1.f5, I x1.f6, LL a64 x1.f7, S x1.f8] false)] 53) (zN (mkE ((0, LL a46 p0) :: (s_0.append [(35, B (leI 0 x4))])) [] 53) (gC 35 (leI 0 x4) ?_ ?_)))
        · exact zF 0 10 (mkE [(2, I 7)] [] 53)
        · exact gK (pB (zP (gR 11 (rg Tryz.f49 11) (se (mkE [(0, LL a46 p0), (12, LL a46 p0), (13, I (lenL p0)), (14, I (addI .i64 z0 1))] [] 53) (pL)))))
      · exact dg 12 [(some 24, qe (I z0)), (some 25, qe (B (ltI 0 z0))), (some 26, qe (B false)), (some 27, qe (.und)), (some 28, qe (.und)), (some 29, qe (.und)), (some 30, qe (.und)), (some 31, qe (.und)), (some 32, qe (.und)), (some 33, qe (.und)), (some 34, qe (.und)), (some 35, qe (B false))] (de (mkE ((35, B false) :: ((34, .und) :: ((33, .und) :: ((32, .und) :: ((31, .und) :: ((30, .und) :: ((29, .und) :: ((28, .und) :: ((27, .und) :: ((26, B false) :: ((25, B (ltI 0 z0)) :: ((24, I z0) :: (s_2.append ((5, I x2) :: (s_0.append [(22, B (neI x2 0))]))))))))))))))) [(32, .box [S x1.f0, S x1.f1, I x1.f2, LL S x1.f3, I x1.f4, I x1.f5, I x1.f6, LL a64 x1.f7, S x1.f8] false)] 53) (zN (mkE ((0, LL a46 p0) :: (s_0.append [(35, B false)])) [] 53) (gF (.tmp 35) (gK (pB (zP (gR 11 (rg Tryz.f49 11) (se (mkE [(0, LL a46 p0), (12, LL a46 p0), (13, I (lenL p0)), (14, I (addI .i64 z0 1))] [] 53) (pL)))))))))
  · exact gX 0 (pL)
noncomputable def L49_14 (p0 : (List S46)) (z1 : ((List (ByteArray × Bool)) × Int)) : Option (((List (ByteArray × Bool)) × Int) ⊕ (Int × Bool × (List (ByteArray × Bool)))) := (bif (ltI z1.2 (lenL p0)) then ((listAt p0 z1.2).bind fun x6 => ((some (msetB eqB z1.1 x6.f0 true)).bind fun x7 => (some (.inl (x7, (addI .i64 z1.2 1)))))) else (some (.inr (z1.2, (ltI z1.2 (lenL p0)), z1.1))))
theorem L49_14_ok (C : Callee) (p0 : (List S46)) (z1 : ((List (ByteArray × Bool)) × Int)) : runs Tryz.prog C (cfg.fn 49) (finLoop ((cfg.fn 49).keep 14) ((cfg.fn 49).al 14)) [] (execA Tryz.prog C (cfg.fn 49) (nr Tryz.f49 [false, false, true, false, true, true, true, true]) ((fun z1 : ((List (ByteArray × Bool)) × Int) => (mkE [(0, LL a46 p0), (6, .mr 48), (38, LL a46 p0), (39, I (lenL p0)), (40, I z1.2)] [(48, MP S B z1.1 false)] 53)) z1)) = (L49_14 p0 z1).map (Sum.elim (fun z => .inl ((fun z1 : ((List (ByteArray × Bool)) × Int) => (mkE [(0, LL a46 p0), (6, .mr 48), (38, LL a46 p0), (39, I (lenL p0)), (40, I z1.2)] [(48, MP S B z1.1 false)] 53)) z)) (fun x => .inr ((fun (x : (Int × Bool × (List (ByteArray × Bool)))) => (.exit 2, (mkE [(0, LL a46 p0), (6, .mr 48), (38, LL a46 p0), (39, I (lenL p0)), (40, I x.1), (41, B x.2.1)] [(48, MP S B x.2.2 false)] 53))) x))) := by
  unfold L49_14
  let s_0 : List (Nat × AV) := [(38, LL a46 p0), (39, I (lenL p0)), (40, I z1.2)]
  refine zS 0 14 (mkE ((0, LL a46 p0) :: ((6, .mr 48) :: (s_0.append [(41, B (ltI z1.2 (lenL p0)))]))) [(48, MP S B z1.1 false)] 53) (gS 15 (gC 41 (ltI z1.2 (lenL p0)) ?_ ?_))
  · refine gK (zP (gS 17 (gB 3 (zR 16 15 (vo 42 (addrE 26 47 9 a46 .i64 p0 z1.2) (fun x6 => ?_))))))
    refine zN (mkE ((0, LL a46 p0) :: ((6, .mr 48) :: ((8, .ba 64 0) :: s_0))) [(48, MP S B z1.1 false), (64, .box [S x6.f0, S x6.f1, I x6.f2, LL S x6.f3, I x6.f4, I x6.f5, I x6.f6, LL a64 x6.f7, S x6.f8] false)] 53) (gR 16 (rg Tryz.f49 16) (sg 3 (mkE ((46, S x6.f0) :: ((45, .ba 64 0) :: ((44, .mr 48) :: ((0, LL a46 p0) :: ((6, .mr 48) :: ((8, .ba 64 0) :: s_0)))))) [(48, MP S B z1.1 false), (64, .box [S x6.f0, S x6.f1, I x6.f2, LL S x6.f3, I x6.f4, I x6.f5, I x6.f6, LL a64 x6.f7, S x6.f8] false)] 53) (mo none (mapO_ 141 9 4 48 S B eqB z1.1 x6.f0 (B true) true [] sameS) (fun x7 => ?_))))
    exact se (mkE ((0, LL a46 p0) :: ((6, .mr 48) :: s_0)) [(48, MP S B x7 false)] 53) (pB (zP (gR 17 (rg Tryz.f49 17) (se (mkE [(0, LL a46 p0), (6, .mr 48), (38, LL a46 p0), (39, I (lenL p0)), (40, I (addI .i64 z1.2 1))] [(48, MP S B x7 false)] 53) (pL)))))
  · exact gX 2 (pL)
noncomputable def T49 (p0 : (List S46)) : Option Int := (bif (ltI 300 (lenL p0)) then (some 2) else ((iter (L49_4 p0) 0).bind fun y5 => (Sum.elim (fun y5a => ((iter (L49_14 p0) (([] : (List (ByteArray × Bool))), 0)).bind fun y8 => (bif (ltI (lenL y8.2.2) (lenL p0)) then (some 6) else (some 0)))) (fun y5b => (some y5b)) y5)))
theorem B49 (C : Callee) (h85 : ∀ (p0 : S46), C 85 [a46 p0] = (T85 p0).map I) (h86 : ∀ (p0 : S46) (p1 : S46), C 86 [a46 p0, a46 p1] = (T86 p0 p1).map I) (p0 : (List S46)) : runs Tryz.prog C (cfg.fn 49) (finFn Tryz.prog (cfg.fn 49).byval Tryz.f49) [] (execA Tryz.prog C (cfg.fn 49) (nr Tryz.f49 []) (frame0 [LL a46 p0] 53 false)) = (T49 p0).map I := by
  unfold T49
  let s_0 : List (Nat × AV) := [(0, LL a46 p0), (6, .mr 48), (38, LL a46 p0), (39, I (lenL p0))]
  let s_1 : List (Nat × AV) := [(0, LL a46 p0), (12, LL a46 p0), (13, I (lenL p0))]
  refine zS 1 0 (mkE [(0, LL a46 p0)] [] 53) (gS 3 (zR 0 1 (sg 1 (mkE [(9, LL a46 p0), (0, LL a46 p0)] [] 53) (eo 10 (I (lenL p0)) (lenE 26 a46 p0) (zN (mkE [(0, LL a46 p0), (11, B (ltI 300 (lenL p0)))] [] 53) (gC 11 (ltI 300 (lenL p0)) ?_ ?_))))))
  · exact zF 0 2 (mkE [(2, I 2)] [] 53)
  · refine gK (zP (gS 12 (zR 4 3 (sg 1 (mkE [(12, LL a46 p0), (0, LL a46 p0), (11, B (ltI 300 (lenL p0)))] [] 53) (eo 13 (I (lenL p0)) (lenE 26 a46 p0) (zN (mkE (s_1.append [(14, I 0)]) [] 53) (gB 0 (lo [(0, none), (12, none), (13, none), (14, none)] [] (L49_4 p0) (fun z0 : Int => (mkE (s_1.append [(14, I z0)]) [] 53)) (Sum.elim (fun (x : (Int × Bool)) => (.exit 0, (mkE (s_1.append ((14, I x.1) :: [(15, B x.2)])) [] 53))) (fun (x : Int) => (.ret, (mkE [(2, I x)] [] 53)))) 0 (fun z => L49_4_ok C h85 h86 p0 z) ?_))))))))
    intro y5
    refine ss y5 (Z := (Sum.elim (fun (x : (Int × Bool)) => (.exit 0, (mkE (s_1.append ((14, I x.1) :: [(15, B x.2)])) [] 53))) (fun (x : Int) => (.ret, (mkE [(2, I x)] [] 53))))) (fun y5a => ?_) (fun y5b => ?_)
    · refine pH (zP (zS 13 12 (mkE [(0, LL a46 p0), (6, .mr 296)] [(296, MP S B ([] : (List (ByteArray × Bool))) false)] 53) (gS 18 (zR 14 13 (sg 1 (mkE [(38, LL a46 p0), (0, LL a46 p0), (6, .mr 296)] [(296, MP S B ([] : (List (ByteArray × Bool))) false)] 53) (eo 39 (I (lenL p0)) (lenE 26 a46 p0) (zN (mkE [(0, LL a46 p0), (6, .mr 296), (38, LL a46 p0), (39, I (lenL p0)), (40, I 0)] [(296, MP S B ([] : (List (ByteArray × Bool))) false)] 53) (gB 2 (lo [(0, none), (6, none), (38, none), (39, none), (40, none)] [] (L49_14 p0) (fun z1 : ((List (ByteArray × Bool)) × Int) => (mkE (s_0.append [(40, I z1.2)]) [(48, MP S B z1.1 false)] 53)) (fun (x : (Int × Bool × (List (ByteArray × Bool)))) => (.exit 2, (mkE (s_0.append ((40, I x.1) :: [(41, B x.2.1)])) [(48, MP S B x.2.2 false)] 53))) (([] : (List (ByteArray × Bool))), 0) (fun z => L49_14_ok C p0 z) ?_)))))))))
      intro y8
      refine pH (zP (gS 20 (zR 0 18 (sg 1 (mkE ((48, .mr 48) :: (s_0.append ((40, I y8.1) :: [(41, B y8.2.1)]))) [(48, MP S B y8.2.2 false)] 53) (eo 49 (I (lenL y8.2.2)) (lenME 141 48 S y8.2.2) (sg 3 (mkE ((50, LL a46 p0) :: ((49, I (lenL y8.2.2)) :: ((48, .mr 48) :: (s_0.append ((40, I y8.1) :: [(41, B y8.2.1)]))))) [(48, MP S B y8.2.2 false)] 53) (eo 51 (I (lenL p0)) (lenE 26 a46 p0) (zN (mkE [(52, B (ltI (lenL y8.2.2) (lenL p0)))] [] 53) (gC 52 (ltI (lenL y8.2.2) (lenL p0)) ?_ ?_)))))))))
      · exact zF 0 19 (mkE [(2, I 6)] [] 53)
      · exact gK (zP (zF 0 20 (mkE [(2, I 0)] [] 53)))
    · exact pL
theorem F49 (m : Nat) (hm : 6 ≤ m) (p0 : (List S46)) : callA Tryz.prog cfg m 49 [LL a46 p0] = (T49 p0).map I := by
  obtain ⟨q, rfl⟩ : ∃ q, m = q + 1 := ⟨m - 1, by omega⟩
  exact (callA_body (fn := Tryz.f49) (c := body_ Tryz.f49) q _ (by kernel_rfl) (by kernel_rfl) (by kernel_rfl)).trans (B49 _ (fun p0 => F85 q (by omega) p0) (fun p0 p1 => F86 q (by omega) p0 p1) p0)

noncomputable def L51_2 (p0 : (List Int)) (z0 : Int) : Option (Int ⊕ ((Int × Bool) ⊕ Int)) := (bif (ltI z0 (lenL p0)) then ((listAt p0 z0).bind fun x1 => (bif (neI x1 0) then (some (.inr (.inr x1))) else (some (.inl (addI .i64 z0 1))))) else (some (.inr (.inl (z0, (ltI z0 (lenL p0)))))))
theorem L51_2_ok (C : Callee) (p0 : (List Int)) (z0 : Int) : runs Tryz.prog C (cfg.fn 51) (finLoop ((cfg.fn 51).keep 2) ((cfg.fn 51).al 2)) [] (execA Tryz.prog C (cfg.fn 51) (nr Tryz.f51 [false, false, true, false, true]) ((fun z0 : Int => (mkE [(5, LL I p0), (6, I (lenL p0)), (7, I z0)] [] 15)) z0)) = (L51_2 p0 z0).map (Sum.elim (fun z => .inl ((fun z0 : Int => (mkE [(5, LL I p0), (6, I (lenL p0)), (7, I z0)] [] 15)) z)) (fun x => .inr ((Sum.elim (fun (x : (Int × Bool)) => (.exit 0, (mkE [(5, LL I p0), (6, I (lenL p0)), (7, I x.1), (8, B x.2)] [] 15))) (fun (x : Int) => (.ret, (mkE [(2, I x)] [] 15)))) x))) := by
  unfold L51_2
  refine zS 0 2 (mkE [(5, LL I p0), (6, I (lenL p0)), (7, I z0), (8, B (ltI z0 (lenL p0)))] [] 15) (gS 3 (gC 8 (ltI z0 (lenL p0)) ?_ ?_))
  · refine gK (zP (gS 6 (gB 1 (zR 4 3 (vo 9 (addrE 134 39 1 I .i64 p0 z0) (fun x1 => ?_))))))
    refine zN (mkE [(4, I x1), (5, LL I p0), (6, I (lenL p0)), (7, I z0)] [] 15) (zS 0 4 (mkE [(4, I x1), (5, LL I p0), (6, I (lenL p0)), (7, I z0), (12, B (neI x1 0))] [] 15) (gC 12 (neI x1 0) ?_ ?_))
    · exact zF 0 5 (mkE [(2, I x1)] [] 15)
    · exact gK (pB (zP (gR 6 (rg Tryz.f51 6) (se (mkE [(5, LL I p0), (6, I (lenL p0)), (7, I (addI .i64 z0 1))] [] 15) (pL)))))
  · exact gX 0 (pL)
noncomputable def T51 (p0 : (List Int)) : Option Int := ((iter (L51_2 p0) 0).bind fun y2 => (Sum.elim (fun y2a => (some 0)) (fun y2b => (some y2b)) y2))
theorem B51 (C : Callee) (p0 : (List Int)) : runs Tryz.prog C (cfg.fn 51) (finFn Tryz.prog (cfg.fn 51).byval Tryz.f51) [] (execA Tryz.prog C (cfg.fn 51) (nr Tryz.f51 []) (frame0 [LL I p0] 15 false)) = (T51 p0).map I := by
  unfold T51
  refine zS 1 0 (mkE [(0, LL I p0)] [] 15) (gS 7 (zR 2 1 (sg 1 (mkE [(5, LL I p0), (0, LL I p0)] [] 15) (eo 6 (I (lenL p0)) (lenE 134 I p0) (zN (mkE [(5, LL I p0), (6, I (lenL p0)), (7, I 0)] [] 15) (gB 0 (lo [(5, none), (6, none), (7, none)] [] (L51_2 p0) (fun z0 : Int => (mkE [(5, LL I p0), (6, I (lenL p0)), (7, I z0)] [] 15)) (Sum.elim (fun (x : (Int × Bool)) => (.exit 0, (mkE [(5, LL I p0), (6, I (lenL p0)), (7, I x.1), (8, B x.2)] [] 15))) (fun (x : Int) => (.ret, (mkE [(2, I x)] [] 15)))) 0 (fun z => L51_2_ok C p0 z) ?_)))))))
  intro y2
  refine ss y2 (Z := (Sum.elim (fun (x : (Int × Bool)) => (.exit 0, (mkE [(5, LL I p0), (6, I (lenL p0)), (7, I x.1), (8, B x.2)] [] 15))) (fun (x : Int) => (.ret, (mkE [(2, I x)] [] 15))))) (fun y2a => ?_) (fun y2b => ?_)
  · exact pH (zP (zF 0 7 (mkE [(2, I 0)] [] 15)))
  · exact pL
theorem F51 (m : Nat) (hm : 1 ≤ m) (p0 : (List Int)) : callA Tryz.prog cfg m 51 [LL I p0] = (T51 p0).map I := by
  obtain ⟨q, rfl⟩ : ∃ q, m = q + 1 := ⟨m - 1, by omega⟩
  exact (callA_body (fn := Tryz.f51) (c := body_ Tryz.f51) q _ (by kernel_rfl) (by kernel_rfl) (by kernel_rfl)).trans (B51 _ p0)

theorem F88 (m : Nat) (hm : 1 ≤ m) (p0 : (List S46)) : callA Tryz.prog cfg m 88 [LL a46 p0] = (appO 128 ([] : List S46) p0).map (fun l => AV.fr 47 9 (List.map a46 l)) := by
  obtain ⟨q, rfl⟩ : ∃ q, m = q + 1 := ⟨m - 1, by omega⟩
  exact (callA_leaf (L := (leafClone Tryz.prog 47 9 128)) _ _ (by kernel_rfl)).trans (clone_leaf a46 _ _ (fun _ => by kernel_rfl))

noncomputable def T89 (p0 : S46) (p1_c0 : ByteArray) (p1_c1 : ByteArray) (p1_c2 : Int) (p1_c3 : (List ByteArray)) (p1_c4 : Int) (p1_c5 : Int) (p1_c6 : Int) (p1_c7 : (List S64)) (p1_c8 : ByteArray) : Option Bool := (some (eqS p0.f0 p1_c0))
theorem B89 (C : Callee) (p0 : S46) (p1_c0 : ByteArray) (p1_c1 : ByteArray) (p1_c2 : Int) (p1_c3 : (List ByteArray)) (p1_c4 : Int) (p1_c5 : Int) (p1_c6 : Int) (p1_c7 : (List S64)) (p1_c8 : ByteArray) : runs Tryz.prog C (cfg.fn 89) (finFn Tryz.prog (cfg.fn 89).byval Tryz.f89) [] (execA Tryz.prog C (cfg.fn 89) (nr Tryz.f89 []) (frame0 [a46 p0, .ia [S p1_c0, S p1_c1, I p1_c2, LL S p1_c3, I p1_c4, I p1_c5, I p1_c6, LL a64 p1_c7, S p1_c8] 0] 9 false)) = (T89 p0 p1_c0 p1_c1 p1_c2 p1_c3 p1_c4 p1_c5 p1_c6 p1_c7 p1_c8).map B := by
  unfold T89
  exact zS 1 0 (mkE [(1, .ia [S p1_c0, S p1_c1, I p1_c2, LL S p1_c3, I p1_c4, I p1_c5, I p1_c6, LL a64 p1_c7, S p1_c8] 0), (2, .ba 16 0)] [(16, .box [S p0.f0, S p0.f1, I p0.f2, LL S p0.f3, I p0.f4, I p0.f5, I p0.f6, LL a64 p0.f7, S p0.f8] false)] 9) (zF 0 1 (mkE [(3, B (eqS p0.f0 p1_c0))] [] 9))
theorem F89 (m : Nat) (hm : 1 ≤ m) (p0 : S46) (p1_c0 : ByteArray) (p1_c1 : ByteArray) (p1_c2 : Int) (p1_c3 : (List ByteArray)) (p1_c4 : Int) (p1_c5 : Int) (p1_c6 : Int) (p1_c7 : (List S64)) (p1_c8 : ByteArray) : callA Tryz.prog cfg m 89 [a46 p0, .ia [S p1_c0, S p1_c1, I p1_c2, LL S p1_c3, I p1_c4, I p1_c5, I p1_c6, LL a64 p1_c7, S p1_c8] 0] = (T89 p0 p1_c0 p1_c1 p1_c2 p1_c3 p1_c4 p1_c5 p1_c6 p1_c7 p1_c8).map B := by
  obtain ⟨q, rfl⟩ : ∃ q, m = q + 1 := ⟨m - 1, by omega⟩
  exact (callA_body (fn := Tryz.f89) (c := body_ Tryz.f89) q _ (by kernel_rfl) (by kernel_rfl) (by kernel_rfl)).trans (B89 _ p0 p1_c0 p1_c1 p1_c2 p1_c3 p1_c4 p1_c5 p1_c6 p1_c7 p1_c8)

noncomputable def L11_2 (p0 : (List S46)) (p1_c0 : ByteArray) (p1_c1 : ByteArray) (p1_c2 : Int) (p1_c3 : (List ByteArray)) (p1_c4 : Int) (p1_c5 : Int) (p1_c6 : Int) (p1_c7 : (List S64)) (p1_c8 : ByteArray) (z0 : Int) : Option (Int ⊕ ((Int × Bool) ⊕ Int)) := (bif (ltI z0 (lenL p0)) then ((listAt p0 z0).bind fun x1 => ((T89 x1 p1_c0 p1_c1 p1_c2 p1_c3 p1_c4 p1_c5 p1_c6 p1_c7 p1_c8).bind fun x2 => (bif x2 then (some (.inr (.inr z0))) else (some (.inl (addI .i64 z0 1)))))) else (some (.inr (.inl (z0, (ltI z0 (lenL p0)))))))
theorem L11_2_ok (C : Callee) (h89 : ∀ (p0 : S46) (p1_c0 : ByteArray) (p1_c1 : ByteArray) (p1_c2 : Int) (p1_c3 : (List ByteArray)) (p1_c4 : Int) (p1_c5 : Int) (p1_c6 : Int) (p1_c7 : (List S64)) (p1_c8 : ByteArray), C 89 [a46 p0, .ia [S p1_c0, S p1_c1, I p1_c2, LL S p1_c3, I p1_c4, I p1_c5, I p1_c6, LL a64 p1_c7, S p1_c8] 0] = (T89 p0 p1_c0 p1_c1 p1_c2 p1_c3 p1_c4 p1_c5 p1_c6 p1_c7 p1_c8).map B) (p0 : (List S46)) (p1_c0 : ByteArray) (p1_c1 : ByteArray) (p1_c2 : Int) (p1_c3 : (List ByteArray)) (p1_c4 : Int) (p1_c5 : Int) (p1_c6 : Int) (p1_c7 : (List S64)) (p1_c8 : ByteArray) (z0 : Int) : runs Tryz.prog C (cfg.fn 11) (finLoop ((cfg.fn 11).keep 2) ((cfg.fn 11).al 2)) [] (execA Tryz.prog C (cfg.fn 11) (nr Tryz.f11 [false, false, true, false, true]) ((fun z0 : Int => (mkE [(0, LL a46 p0), (1, .fn 89 [.ia [S p1_c0, S p1_c1, I p1_c2, LL S p1_c3, I p1_c4, I p1_c5, I p1_c6, LL a64 p1_c7, S p1_c8] 0]), (7, I (lenL p0)), (8, I z0)] [] 19)) z0)) = (L11_2 p0 p1_c0 p1_c1 p1_c2 p1_c3 p1_c4 p1_c5 p1_c6 p1_c7 p1_c8 z0).map (Sum.elim (fun z => .inl ((fun z0 : Int => (mkE [(0, LL a46 p0), (1, .fn 89 [.ia [S p1_c0, S p1_c1, I p1_c2, LL S p1_c3, I p1_c4, I p1_c5, I p1_c6, LL a64 p1_c7, S p1_c8] 0]), (7, I (lenL p0)), (8, I z0)] [] 19)) z)) (fun x => .inr ((Sum.elim (fun (x : (Int × Bool)) => (.exit 0, (mkE [(0, LL a46 p0), (1, .fn 89 [.ia [S p1_c0, S p1_c1, I p1_c2, LL S p1_c3, I p1_c4, I p1_c5, I p1_c6, LL a64 p1_c7, S p1_c8] 0]), (7, I (lenL p0)), (8, I x.1), (9, B x.2)] [] 19))) (fun (x : Int) => (.ret, (mkE [(4, I x)] [] 19)))) x))) := by
  unfold L11_2
  let s_0 : List (Nat × AV) := [(0, LL a46 p0), (1, .fn 89 [.ia [S p1_c0, S p1_c1, I p1_c2, LL S p1_c3, I p1_c4, I p1_c5, I p1_c6, LL a64 p1_c7, S p1_c8] 0])]
  let s_1 : List (Nat × AV) := [(13, I z0), (12, LL a46 p0), (11, .fn 89 [.ia [S p1_c0, S p1_c1, I p1_c2, LL S p1_c3, I p1_c4, I p1_c5, I p1_c6, LL a64 p1_c7, S p1_c8] 0])]
  refine zS 0 2 (mkE (s_0.append ((7, I (lenL p0)) :: ((8, I z0) :: [(9, B (ltI z0 (lenL p0)))]))) [] 19) (gS 3 (gC 9 (ltI z0 (lenL p0)) ?_ ?_))
  · refine gK (zP (gS 6 (gB 1 (zS 4 3 (mkE (s_0.append ((5, I z0) :: ((7, I (lenL p0)) :: [(8, I z0)]))) [] 19) (zR 0 4 (sg 3 (mkE (s_1.append (s_0.append ((5, I z0) :: ((7, I (lenL p0)) :: [(8, I z0)])))) [] 19) (vo 14 (addrE 26 47 9 a46 .i64 p0 z0) (fun x1 => ?_))))))))
    refine sg 5 (mkE ((15, a46 x1) :: ((14, .ia [S x1.f0, S x1.f1, I x1.f2, LL S x1.f3, I x1.f4, I x1.f5, I x1.f6, LL a64 x1.f7, S x1.f8] 0) :: (s_1.append (s_0.append ((5, I z0) :: ((7, I (lenL p0)) :: [(8, I z0)])))))) [] 19) (co 16 [] (h89 x1 p1_c0 p1_c1 p1_c2 p1_c3 p1_c4 p1_c5 p1_c6 p1_c7 p1_c8) (fun x2 => ?_))
    refine zN (mkE (s_0.append ((5, I z0) :: ((7, I (lenL p0)) :: ((8, I z0) :: [(16, B x2)])))) [] 19) (gC 16 x2 ?_ ?_)
    · exact zF 0 5 (mkE [(4, I z0)] [] 19)
    · exact gK (pB (zP (gR 6 (rg Tryz.f11 6) (se (mkE (s_0.append ((7, I (lenL p0)) :: [(8, I (addI .i64 z0 1))])) [] 19) (pL)))))
  · exact gX 0 (pL)
noncomputable def T11 (p0 : (List S46)) (p1_c0 : ByteArray) (p1_c1 : ByteArray) (p1_c2 : Int) (p1_c3 : (List ByteArray)) (p1_c4 : Int) (p1_c5 : Int) (p1_c6 : Int) (p1_c7 : (List S64)) (p1_c8 : ByteArray) : Option Int := ((iter (L11_2 p0 p1_c0 p1_c1 p1_c2 p1_c3 p1_c4 p1_c5 p1_c6 p1_c7 p1_c8) 0).bind fun y3 => (Sum.elim (fun y3a => (some (-1))) (fun y3b => (some y3b)) y3))
theorem B11 (C : Callee) (h89 : ∀ (p0 : S46) (p1_c0 : ByteArray) (p1_c1 : ByteArray) (p1_c2 : Int) (p1_c3 : (List ByteArray)) (p1_c4 : Int) (p1_c5 : Int) (p1_c6 : Int) (p1_c7 : (List S64)) (p1_c8 : ByteArray), C 89 [a46 p0, .ia [S p1_c0, S p1_c1, I p1_c2, LL S p1_c3, I p1_c4, I p1_c5, I p1_c6, LL a64 p1_c7, S p1_c8] 0] = (T89 p0 p1_c0 p1_c1 p1_c2 p1_c3 p1_c4 p1_c5 p1_c6 p1_c7 p1_c8).map B) (p0 : (List S46)) (p1_c0 : ByteArray) (p1_c1 : ByteArray) (p1_c2 : Int) (p1_c3 : (List ByteArray)) (p1_c4 : Int) (p1_c5 : Int) (p1_c6 : Int) (p1_c7 : (List S64)) (p1_c8 : ByteArray) : runs Tryz.prog C (cfg.fn 11) (finFn Tryz.prog (cfg.fn 11).byval Tryz.f11) [] (execA Tryz.prog C (cfg.fn 11) (nr Tryz.f11 []) (frame0 [LL a46 p0, .fn 89 [.ia [S p1_c0, S p1_c1, I p1_c2, LL S p1_c3, I p1_c4, I p1_c5, I p1_c6, LL a64 p1_c7, S p1_c8] 0]] 19 false)) = (T11 p0 p1_c0 p1_c1 p1_c2 p1_c3 p1_c4 p1_c5 p1_c6 p1_c7 p1_c8).map I := by
  unfold T11
  let s_0 : List (Nat × AV) := [(0, LL a46 p0), (1, .fn 89 [.ia [S p1_c0, S p1_c1, I p1_c2, LL S p1_c3, I p1_c4, I p1_c5, I p1_c6, LL a64 p1_c7, S p1_c8] 0])]
  refine zS 1 0 (mkE s_0 [] 19) (gS 7 (zR 2 1 (sg 1 (mkE ((6, LL a46 p0) :: s_0) [] 19) (eo 7 (I (lenL p0)) (lenE 26 a46 p0) (zN (mkE (s_0.append ((7, I (lenL p0)) :: [(8, I 0)])) [] 19) (gB 0 (lo [(0, none), (1, none), (7, none), (8, none)] [] (L11_2 p0 p1_c0 p1_c1 p1_c2 p1_c3 p1_c4 p1_c5 p1_c6 p1_c7 p1_c8) (fun z0 : Int => (mkE (s_0.append ((7, I (lenL p0)) :: [(8, I z0)])) [] 19)) (Sum.elim (fun (x : (Int × Bool)) => (.exit 0, (mkE (s_0.append ((7, I (lenL p0)) :: ((8, I x.1) :: [(9, B x.2)]))) [] 19))) (fun (x : Int) => (.ret, (mkE [(4, I x)] [] 19)))) 0 (fun z => L11_2_ok C h89 p0 p1_c0 p1_c1 p1_c2 p1_c3 p1_c4 p1_c5 p1_c6 p1_c7 p1_c8 z) ?_)))))))
  intro y3
  refine ss y3 (Z := (Sum.elim (fun (x : (Int × Bool)) => (.exit 0, (mkE (s_0.append ((7, I (lenL p0)) :: ((8, I x.1) :: [(9, B x.2)]))) [] 19))) (fun (x : Int) => (.ret, (mkE [(4, I x)] [] 19))))) (fun y3a => ?_) (fun y3b => ?_)
  · exact pH (zP (zF 0 7 (mkE [(4, I (-1))] [] 19)))
  · exact pL
theorem F11 (m : Nat) (hm : 2 ≤ m) (p0 : (List S46)) (p1_c0 : ByteArray) (p1_c1 : ByteArray) (p1_c2 : Int) (p1_c3 : (List ByteArray)) (p1_c4 : Int) (p1_c5 : Int) (p1_c6 : Int) (p1_c7 : (List S64)) (p1_c8 : ByteArray) : callA Tryz.prog cfg m 11 [LL a46 p0, .fn 89 [.ia [S p1_c0, S p1_c1, I p1_c2, LL S p1_c3, I p1_c4, I p1_c5, I p1_c6, LL a64 p1_c7, S p1_c8] 0]] = (T11 p0 p1_c0 p1_c1 p1_c2 p1_c3 p1_c4 p1_c5 p1_c6 p1_c7 p1_c8).map I := by
  obtain ⟨q, rfl⟩ : ∃ q, m = q + 1 := ⟨m - 1, by omega⟩
  exact (callA_body (fn := Tryz.f11) (c := body_ Tryz.f11) q _ (by kernel_rfl) (by kernel_rfl) (by kernel_rfl)).trans (B11 _ (fun p0 p1_c0 p1_c1 p1_c2 p1_c3 p1_c4 p1_c5 p1_c6 p1_c7 p1_c8 => F89 q (by omega) p0 p1_c0 p1_c1 p1_c2 p1_c3 p1_c4 p1_c5 p1_c6 p1_c7 p1_c8) p0 p1_c0 p1_c1 p1_c2 p1_c3 p1_c4 p1_c5 p1_c6 p1_c7 p1_c8)

noncomputable def T54 (p0 : S46) (p1 : S46) : Option Bool := (bif (eqS p0.f0 p1.f0) then (bif (eqS p0.f1 p1.f1) then (bif (eqI p0.f2 p1.f2) then ((T90 p0.f3 p1.f3).bind fun x1 => (bif x1 then (bif (eqI p0.f4 p1.f4) then (bif (eqI p0.f5 p1.f5) then (bif (eqI p0.f6 p1.f6) then ((T91 p0.f7 p1.f7).bind fun x2 => (bif x2 then (some (eqS p0.f8 p1.f8)) else (some false))) else (some false)) else (some false)) else (some false)) else (some false))) else (some false)) else (some false)) else (some false))
theorem B54 (C : Callee) (h90 : ∀ (p0 : (List ByteArray)) (p1 : (List ByteArray)), C 90 [LL S p0, LL S p1] = (T90 p0 p1).map B) (h91 : ∀ (p0 : (List S64)) (p1 : (List S64)), C 91 [LL a64 p0, LL a64 p1] = (T91 p0 p1).map B) (p0 : S46) (p1 : S46) : runs Tryz.prog C (cfg.fn 54) (finFn Tryz.prog (cfg.fn 54).byval Tryz.f54) [] (execA Tryz.prog C (cfg.fn 54) (nr Tryz.f54 []) (frame0 [a46 p0, a46 p1] 66 false)) = (T54 p0 p1).map B := by
  unfold T54
  let s_0 : List (Nat × AV) := [(24, B (eqI p0.f2 p1.f2)), (23, B (eqI p0.f2 p1.f2)), (22, B (eqI p0.f2 p1.f2)), (21, I p1.f2), (20, .ba 24 2), (19, I p0.f2), (18, .ba 16 2), (17, B true), (17, B (eqS p0.f1 p1.f1)), (16, B (eqS p0.f1 p1.f1)), (15, B (eqS p0.f1 p1.f1)), (14, S p1.f1), (13, .ba 24 1), (12, S p0.f1), (11, .ba 16 1), (10, B true), (10, B (eqS p0.f0 p1.f0)), (9, B (eqS p0.f0 p1.f0)), (8, S p1.f0), (7, .ba 24 0), (6, S p0.f0), (5, .ba 16 0), (2, .ba 16 0), (3, .ba 24 0)]
  let s_1 : List (Nat × AV) := [(52, B (eqI p0.f6 p1.f6)), (51, B (eqI p0.f6 p1.f6)), (50, B (eqI p0.f6 p1.f6)), (49, I p1.f6), (48, .ba 24 6), (47, I p0.f6), (46, .ba 16 6), (45, B true), (45, B (eqI p0.f5 p1.f5)), (44, B (eqI p0.f5 p1.f5)), (43, B (eqI p0.f5 p1.f5)), (42, I p1.f5), (41, .ba 24 5), (40, I p0.f5), (39, .ba 16 5), (38, B true), (38, B (eqI p0.f4 p1.f4)), (37, B (eqI p0.f4 p1.f4)), (36, B (eqI p0.f4 p1.f4)), (35, I p1.f4), (34, .ba 24 4), (33, I p0.f4), (32, .ba 16 4), (31, B true)]
  let s_2 : List (Nat × AV) := [(28, LL S p1.f3), (27, .ba 24 3), (26, LL S p0.f3), (25, .ba 16 3), (24, B true)]
  let s_3 : List (Nat × AV) := [(38, B (eqI p0.f4 p1.f4)), (37, B (eqI p0.f4 p1.f4)), (36, B (eqI p0.f4 p1.f4)), (35, I p1.f4), (34, .ba 24 4), (33, I p0.f4), (32, .ba 16 4), (31, B true)]
  let s_4 : List (Nat × AV) := [(10, B (eqS p0.f0 p1.f0)), (9, B (eqS p0.f0 p1.f0)), (8, S p1.f0), (7, .ba 24 0), (6, S p0.f0), (5, .ba 16 0), (2, .ba 16 0), (3, .ba 24 0)]
  let o_0 : List (Nat × AObj) := [(16, .box [S p0.f0, S p0.f1, I p0.f2, LL S p0.f3, I p0.f4, I p0.f5, I p0.f6, LL a64 p0.f7, S p0.f8] false), (24, .box [S p1.f0, S p1.f1, I p1.f2, LL S p1.f3, I p1.f4, I p1.f5, I p1.f6, LL a64 p1.f7, S p1.f8] false)]
  refine zS 1 0 (mkE [(2, .ba 16 0), (3, .ba 24 0)] o_0 66) (zR 0 1 (sg 6 (mkE s_4 o_0 66) (sb 10 (eqS p0.f0 p1.f0) ?_ ?_)))
  · refine sg 13 (mkE ((17, B (eqS p0.f1 p1.f1)) :: ((16, B (eqS p0.f1 p1.f1)) :: ((15, B (eqS p0.f1 p1.f1)) :: ((14, S p1.f1) :: ((13, .ba 24 1) :: ((12, S p0.f1) :: ((11, .ba 16 1) :: ((10, B true) :: s_4)))))))) o_0 66) (sb 17 (eqS p0.f1 p1.f1) ?_ ?_)
    · refine sg 20 (mkE s_0 o_0 66) (sb 24 (eqI p0.f2 p1.f2) ?_ ?_)
      · refine sg 24 (mkE (s_2.append s_0) o_0 66) (co 29 [] (h90 p0.f3 p1.f3) (fun x1 => ?_))
        refine sg 27 (mkE ((31, B x1) :: ((30, B x1) :: ((29, B x1) :: (s_2.append s_0)))) o_0 66) (sb 31 x1 ?_ ?_)
        · refine sg 34 (mkE (s_3.append ((31, B x1) :: ((30, B x1) :: ((29, B x1) :: (s_2.append s_0))))) o_0 66) (sb 38 (eqI p0.f4 p1.f4) ?_ ?_)
          · refine sg 41 (mkE ((45, B (eqI p0.f5 p1.f5)) :: ((44, B (eqI p0.f5 p1.f5)) :: ((43, B (eqI p0.f5 p1.f5)) :: ((42, I p1.f5) :: ((41, .ba 24 5) :: ((40, I p0.f5) :: ((39, .ba 16 5) :: ((38, B true) :: (s_3.append ((31, B x1) :: ((30, B x1) :: ((29, B x1) :: (s_2.append s_0))))))))))))) o_0 66) (sb 45 (eqI p0.f5 p1.f5) ?_ ?_)
            · refine sg 48 (mkE (s_1.append ((31, B x1) :: ((30, B x1) :: ((29, B x1) :: (s_2.append s_0))))) o_0 66) (sb 52 (eqI p0.f6 p1.f6) ?_ ?_)
              · refine sg 52 (mkE ((56, LL a64 p1.f7) :: ((55, .ba 24 7) :: ((54, LL a64 p0.f7) :: ((53, .ba 16 7) :: ((52, B true) :: (s_1.append ((31, B x1) :: ((30, B x1) :: ((29, B x1) :: (s_2.append s_0)))))))))) o_0 66) (co 57 [] (h91 p0.f7 p1.f7) (fun x2 => ?_))
                refine sg 55 (mkE ((59, B x2) :: ((58, B x2) :: ((57, B x2) :: ((56, LL a64 p1.f7) :: ((55, .ba 24 7) :: ((54, LL a64 p0.f7) :: ((53, .ba 16 7) :: ((52, B true) :: (s_1.append ((31, B x1) :: ((30, B x1) :: ((29, B x1) :: (s_2.append s_0))))))))))))) o_0 66) (sb 59 x2 ?_ ?_)
                · exact zE (mkE [(4, B (eqS p0.f8 p1.f8))] [] 66)
                · exact zE (mkE [(4, B false)] [] 66)
              · exact zE (mkE [(4, B false)] [] 66)
            · exact zE (mkE [(4, B false)] [] 66)
          · exact zE (mkE [(4, B false)] [] 66)
        · exact zE (mkE [(4, B false)] [] 66)
      · exact zE (mkE [(4, B false)] [] 66)
    · exact zE (mkE [(4, B false)] [] 66)
  · exact zE (mkE [(4, B false)] [] 66)
theorem F54 (m : Nat) (hm : 2 ≤ m) (p0 : S46) (p1 : S46) : callA Tryz.prog cfg m 54 [a46 p0, a46 p1] = (T54 p0 p1).map B := by
  obtain ⟨q, rfl⟩ : ∃ q, m = q + 1 := ⟨m - 1, by omega⟩
  exact (callA_body (fn := Tryz.f54) (c := body_ Tryz.f54) q _ (by kernel_rfl) (by kernel_rfl) (by kernel_rfl)).trans (B54 _ (fun p0 p1 => F90 q (by omega) p0 p1) (fun p0 p1 => F91 q (by omega) p0 p1) p0 p1)

theorem F26_1 (m : Nat) (hm : 4 ≤ m) (p0 : (List S46)) : callA Tryz.prog cfg m 26 [.fr 47 9 (List.map a46 p0), .fn 86 []] = (sortO (fun x y => T86 x y) p0).map (fun (r : (List S46)) => AV.inp (.tup []) (.fr 47 9 (List.map a46 r))) := by
  obtain ⟨q, rfl⟩ : ∃ q, m = q + 1 := ⟨m - 1, by omega⟩
  exact (callA_leaf (L := (leafSortF Tryz.prog 47 9)) _ _ (by kernel_rfl)).trans (sortF_leaf 47 9 86 [] a46 (fun x y => T86 x y) _ p0 (fun x y => F86 q (by omega) x y) (fun _ => by kernel_rfl) (by kernel_rfl))

noncomputable def L52_3 (p1 : (List S46)) (z0 : ((List S46) × Int)) : Option (((List S46) × Int) ⊕ ((Int × Bool × (List S46)) ⊕ Unit)) := (bif (ltI z0.2 (lenL p1)) then ((listAt p1 z0.2).bind fun x2 => ((T11 z0.1 x2.f0 x2.f1 x2.f2 x2.f3 x2.f4 x2.f5 x2.f6 x2.f7 x2.f8).bind fun x3 => (bif (ltI x3 0) then ((appO 128 z0.1 ([x2] : List S46)).bind fun x4 => (some (.inl (x4, (addI .i64 z0.2 1))))) else ((idxO (List.length z0.1) x3).bind fun x5 => ((getN z0.1 x5).bind fun x6 => ((T54 x6 x2).bind fun x7 => (bif (!x7) then (some (.inr (.inr ()))) else (some (.inl (z0.1, (addI .i64 z0.2 1))))))))))) else (some (.inr (.inl (z0.2, (ltI z0.2 (lenL p1)), z0.1)))))
theorem L52_3_ok (C : Callee) (h11 : ∀ (p0 : (List S46)) (p1_c0 : ByteArray) (p1_c1 : ByteArray) (p1_c2 : Int) (p1_c3 : (List ByteArray)) (p1_c4 : Int) (p1_c5 : Int) (p1_c6 : Int) (p1_c7 : (List S64)) (p1_c8 : ByteArray), C 11 [LL a46 p0, .fn 89 [.ia [S p1_c0, S p1_c1, I p1_c2, LL S p1_c3, I p1_c4, I p1_c5, I p1_c6, LL a64 p1_c7, S p1_c8] 0]] = (T11 p0 p1_c0 p1_c1 p1_c2 p1_c3 p1_c4 p1_c5 p1_c6 p1_c7 p1_c8).map I) (h54 : ∀ (p0 : S46) (p1 : S46), C 54 [a46 p0, a46 p1] = (T54 p0 p1).map B) (p1 : (List S46)) (z0 : ((List S46) × Int)) : runs Tryz.prog C (cfg.fn 52) (finLoop ((cfg.fn 52).keep 3) ((cfg.fn 52).al 3)) [] (execA Tryz.prog C (cfg.fn 52) (nr Tryz.f52 [false, false, true, false, true, true]) ((fun z0 : ((List S46) × Int) => (mkE [(6, .own 48 0), (12, LL a46 p1), (13, I (lenL p1)), (14, I z0.2)] [(48, RR 47 9 a46 z0.1 0 false)] 41)) z0)) = (L52_3 p1 z0).map (Sum.elim (fun z => .inl ((fun z0 : ((List S46) × Int) => (mkE [(6, .own 48 0), (12, LL a46 p1), (13, I (lenL p1)), (14, I z0.2)] [(48, RR 47 9 a46 z0.1 0 false)] 41)) z)) (fun x => .inr ((Sum.elim (fun (x : (Int × Bool × (List S46))) => (.exit 0, (mkE [(6, .own 48 0), (12, LL a46 p1), (13, I (lenL p1)), (14, I x.1), (15, B x.2.1)] [(48, RR 47 9 a46 x.2.2 0 false)] 41))) (fun (x : Unit) => (.ret, (mkE [(4, .nils), (5, I 13)] [] 41)))) x))) := by
  unfold L52_3
  let s_0 : List (Nat × AV) := [(12, LL a46 p1), (13, I (lenL p1)), (14, I z0.2)]
  let s_1 : List (Nat × AV) := [(6, .own 48 0), (8, .ba 64 0)]
  let o_0 : List (Nat × AObj) := [(48, RR 47 9 a46 z0.1 0 false)]
  refine zS 0 3 (mkE ((6, .own 48 0) :: (s_0.append [(15, B (ltI z0.2 (lenL p1)))])) o_0 41) (gS 4 (gC 15 (ltI z0.2 (lenL p1)) ?_ ?_))
  · refine gK (zP (gS 10 (gB 1 (zR 5 4 (vo 16 (addrE 26 47 9 a46 .i64 p1 z0.2) (fun x2 => ?_))))))
    refine zN (mkE (s_1.append s_0) (o_0.append [(64, .box [S x2.f0, S x2.f1, I x2.f2, LL S x2.f3, I x2.f4, I x2.f5, I x2.f6, LL a64 x2.f7, S x2.f8] false)]) 41) (zR 6 5 (sg 2 (mkE ((19, .fn 89 [.ba 64 0]) :: ((18, .own 48 0) :: (s_1.append s_0))) (o_0.append [(64, .box [S x2.f0, S x2.f1, I x2.f2, LL S x2.f3, I x2.f4, I x2.f5, I x2.f6, LL a64 x2.f7, S x2.f8] false)]) 41) (co 20 [48, 64] (h11 z0.1 x2.f0 x2.f1 x2.f2 x2.f3 x2.f4 x2.f5 x2.f6 x2.f7 x2.f8) (fun x3 => ?_))))
    refine zN (mkE (s_1.append ((9, I x3) :: s_0)) (o_0.append [(64, .box [S x2.f0, S x2.f1, I x2.f2, LL S x2.f3, I x2.f4, I x2.f5, I x2.f6, LL a64 x2.f7, S x2.f8] false)]) 41) (zS 0 6 (mkE (s_1.append ((9, I x3) :: (s_0.append [(22, B (ltI x3 0))]))) (o_0.append [(64, .box [S x2.f0, S x2.f1, I x2.f2, LL S x2.f3, I x2.f4, I x2.f5, I x2.f6, LL a64 x2.f7, S x2.f8] false)]) 41) (gC 22 (ltI x3 0) ?_ ?_))
    · refine gR 7 (rg Tryz.f52 7) (sg 3 (mkE ((25, .own 200 0) :: ((24, a46 x2) :: ((23, .own 48 0) :: (s_1.append ((9, I x3) :: (s_0.append [(22, B (ltI x3 0))])))))) ((200, RR 47 9 a46 ([x2] : List S46) 0 false) :: (o_0.append [(64, .box [S x2.f0, S x2.f1, I x2.f2, LL S x2.f3, I x2.f4, I x2.f5, I x2.f6, LL a64 x2.f7, S x2.f8] false)])) 41) (mo (some 26) (apO 26 47 9 128 48 a46 0 [200] (y := .own 200 0) (l2 := ([x2] : List S46))) (fun x4 => ?_)))
      exact se (mkE ((6, .own 48 1) :: s_0) [(48, RR 47 9 a46 x4 1 false)] 41) (pB (zP (gR 10 (rg Tryz.f52 10) (se (mkE [(6, .own 48 1), (12, LL a46 p1), (13, I (lenL p1)), (14, I (addI .i64 z0.2 1))] [(48, RR 47 9 a46 x4 1 false)] 41) (pL)))))
    · refine gS 0 (gD 8 7 (rg Tryz.f52 8) [0, 1, 2, 3, 4, 5, 6] (dg 2 [(some 27, qe (.own 48 0)), (some 28, qe (I x3))] (dv 29 (mkE ((28, I x3) :: ((27, .own 48 0) :: (s_1.append ((9, I x3) :: (s_0.append [(22, B (ltI x3 0))]))))) (o_0.append [(64, .box [S x2.f0, S x2.f1, I x2.f2, LL S x2.f3, I x2.f4, I x2.f5, I x2.f6, LL a64 x2.f7, S x2.f8] false)]) 41) (addrOE 26 47 9 48 0 false a46 .i64 z0.1 x3) (fun x5 => ?_))))
      refine dv 30 (mkE ((29, .oa 48 0 x5 0) :: ((28, I x3) :: ((27, .own 48 0) :: (s_1.append ((9, I x3) :: (s_0.append [(22, B (ltI x3 0))])))))) (o_0.append [(64, .box [S x2.f0, S x2.f1, I x2.f2, LL S x2.f3, I x2.f4, I x2.f5, I x2.f6, LL a64 x2.f7, S x2.f8] false)]) 41) (loadOE 47 48 0 x5 0 47 9 9 true false a46 (fun q : S46 => a46 q) z0.1) (fun x6 => ?_)
      refine dg 5 [(some 27, qe (.own 48 0)), (some 28, qe (I x3)), (some 29, qe (.oa 48 0 x5 0)), (some 30, qe (a46 x6)), (some 31, qe (a46 x2))] (dc 32 [] (mkE ((31, a46 x2) :: ((30, a46 x6) :: ((29, .oa 48 0 x5 0) :: ((28, I x3) :: ((27, .own 48 0) :: (s_1.append ((9, I x3) :: (s_0.append [(22, B (ltI x3 0))])))))))) (o_0.append [(64, .box [S x2.f0, S x2.f1, I x2.f2, LL S x2.f3, I x2.f4, I x2.f5, I x2.f6, LL a64 x2.f7, S x2.f8] false)]) 41) (h54 x6 x2) (fun x7 => ?_))
      refine dg 7 [(some 27, qe (.own 48 0)), (some 28, qe (I x3)), (some 29, qe (.oa 48 0 x5 0)), (some 30, qe (a46 x6)), (some 31, qe (a46 x2)), (some 32, qe (B x7)), (some 33, qe (B (!x7)))] (de (mkE ((33, B (!x7)) :: ((32, B x7) :: ((31, a46 x2) :: ((30, a46 x6) :: ((29, .oa 48 0 x5 0) :: ((28, I x3) :: ((27, .own 48 0) :: (s_1.append ((9, I x3) :: (s_0.append [(22, B (ltI x3 0))])))))))))) (o_0.append [(64, .box [S x2.f0, S x2.f1, I x2.f2, LL S x2.f3, I x2.f4, I x2.f5, I x2.f6, LL a64 x2.f7, S x2.f8] false)]) 41) (zN (mkE ((6, .own 48 0) :: (s_0.append [(33, B (!x7))])) o_0 41) (gC 33 (!x7) ?_ ?_)))
      · exact zF 0 9 (mkE [(4, .nils), (5, I 13)] [] 41)
      · exact gK (pB (zP (gR 10 (rg Tryz.f52 10) (se (mkE [(6, .own 48 0), (12, LL a46 p1), (13, I (lenL p1)), (14, I (addI .i64 z0.2 1))] o_0 41) (pL)))))
  · exact gX 0 (pL)
noncomputable def T52 (p0 : (List S46)) (p1 : (List S46)) : Option ((List S46) × Int) := ((appO 128 ([] : List S46) p0).bind fun x1 => ((iter (L52_3 p1) (x1, 0)).bind fun y8 => (Sum.elim (fun y8a => ((sortO (fun x y => T86 x y) y8a.2.2).bind fun x9 => (bif (ltI 300 (lenL x9)) then (some ([], 2)) else (some (x9, 0))))) (fun y8b => (some ([], 13))) y8)))
theorem B52 (C : Callee) (h11 : ∀ (p0 : (List S46)) (p1_c0 : ByteArray) (p1_c1 : ByteArray) (p1_c2 : Int) (p1_c3 : (List ByteArray)) (p1_c4 : Int) (p1_c5 : Int) (p1_c6 : Int) (p1_c7 : (List S64)) (p1_c8 : ByteArray), C 11 [LL a46 p0, .fn 89 [.ia [S p1_c0, S p1_c1, I p1_c2, LL S p1_c3, I p1_c4, I p1_c5, I p1_c6, LL a64 p1_c7, S p1_c8] 0]] = (T11 p0 p1_c0 p1_c1 p1_c2 p1_c3 p1_c4 p1_c5 p1_c6 p1_c7 p1_c8).map I) (h26_1 : ∀ (p0 : (List S46)), C 26 [.fr 47 9 (List.map a46 p0), .fn 86 []] = (sortO (fun x y => T86 x y) p0).map (fun (r : (List S46)) => AV.inp (.tup []) (.fr 47 9 (List.map a46 r)))) (h54 : ∀ (p0 : S46) (p1 : S46), C 54 [a46 p0, a46 p1] = (T54 p0 p1).map B) (h88 : ∀ (p0 : (List S46)), C 88 [LL a46 p0] = (appO 128 ([] : List S46) p0).map (fun l => AV.fr 47 9 (List.map a46 l))) (p0 : (List S46)) (p1 : (List S46)) : runs Tryz.prog C (cfg.fn 52) (finFn Tryz.prog (cfg.fn 52).byval Tryz.f52) [] (execA Tryz.prog C (cfg.fn 52) (nr Tryz.f52 []) (frame0 [LL a46 p0, LL a46 p1] 41 false)) = (T52 p0 p1).map (fun r => AV.tup [(fun l => AV.fr 47 9 (List.map a46 l)) r.1, I r.2]) := by
  unfold T52
  let s_0 : List (Nat × AV) := [(6, .own 48 0), (12, LL a46 p1), (13, I (lenL p1))]
  refine zS 1 0 (mkE [(0, LL a46 p0), (1, LL a46 p1)] [] 41) (zR 2 1 (sg 1 (mkE [(10, LL a46 p0), (0, LL a46 p0), (1, LL a46 p1)] [] 41) (co 11 [] (h88 p0) (fun x1 => ?_))))
  refine zN (mkE [(1, LL a46 p1), (6, .own 88 0)] [(88, RR 47 9 a46 x1 0 false)] 41) (gS 11 (zR 3 2 (sg 1 (mkE [(12, LL a46 p1), (1, LL a46 p1), (6, .own 88 0)] [(88, RR 47 9 a46 x1 0 false)] 41) (eo 13 (I (lenL p1)) (lenE 26 a46 p1) (zN (mkE [(6, .own 88 0), (12, LL a46 p1), (13, I (lenL p1)), (14, I 0)] [(88, RR 47 9 a46 x1 0 false)] 41) (gB 0 (lo [(6, some (47, 9)), (12, none), (13, none), (14, none)] [] (L52_3 p1) (fun z0 : ((List S46) × Int) => (mkE (s_0.append [(14, I z0.2)]) [(48, RR 47 9 a46 z0.1 0 false)] 41)) (Sum.elim (fun (x : (Int × Bool × (List S46))) => (.exit 0, (mkE (s_0.append ((14, I x.1) :: [(15, B x.2.1)])) [(48, RR 47 9 a46 x.2.2 0 false)] 41))) (fun (x : Unit) => (.ret, (mkE [(4, .nils), (5, I 13)] [] 41)))) (x1, 0) (fun z => L52_3_ok C h11 h54 p1 z) ?_)))))))
  intro y8
  refine ss y8 (Z := (Sum.elim (fun (x : (Int × Bool × (List S46))) => (.exit 0, (mkE (s_0.append ((14, I x.1) :: [(15, B x.2.1)])) [(48, RR 47 9 a46 x.2.2 0 false)] 41))) (fun (x : Unit) => (.ret, (mkE [(4, .nils), (5, I 13)] [] 41))))) (fun y8a => ?_) (fun y8b => ?_)
  · refine pH (zP (zR 12 11 (sg 1 (mkE ((35, .own 48 0) :: (s_0.append ((14, I y8a.1) :: [(15, B y8a.2.1)]))) [(48, RR 47 9 a46 y8a.2.2 0 false)] 41) (mo (some 36) (ipR 26 47 9 48 0 a46 y8a.2.2 [.fn 86 []] [.fn 86 []] [] (fun x : (List S46) => .tup []) (fun x : (List S46) => x) (h26_1 y8a.2.2)) (fun x9 => ?_)))))
    refine zN (mkE [(6, .own 48 0)] [(48, RR 47 9 a46 x9 0 false)] 41) (gS 14 (zR 0 12 (sg 1 (mkE [(37, .own 48 0), (6, .own 48 0)] [(48, RR 47 9 a46 x9 0 false)] 41) (eo 38 (I (lenL x9)) (lenOE 26 47 9 a46 x9) (zN (mkE [(6, .own 48 0), (39, B (ltI 300 (lenL x9)))] [(48, RR 47 9 a46 x9 0 false)] 41) (gC 39 (ltI 300 (lenL x9)) ?_ ?_))))))
    · exact zF 0 13 (mkE [(4, .nils), (5, I 2)] [] 41)
    · exact gK (zP (zF 0 14 (mkE [(4, .own 48 0), (5, I 0)] [(48, RR 47 9 a46 x9 0 false)] 41)))
  · exact pL
theorem F52 (m : Nat) (hm : 5 ≤ m) (p0 : (List S46)) (p1 : (List S46)) : callA Tryz.prog cfg m 52 [LL a46 p0, LL a46 p1] = (T52 p0 p1).map (fun r => AV.tup [(fun l => AV.fr 47 9 (List.map a46 l)) r.1, I r.2]) := by
  obtain ⟨q, rfl⟩ : ∃ q, m = q + 1 := ⟨m - 1, by omega⟩
  exact (callA_body (fn := Tryz.f52) (c := body_ Tryz.f52) q _ (by kernel_rfl) (by kernel_rfl) (by kernel_rfl)).trans (B52 _ (fun p0 p1_c0 p1_c1 p1_c2 p1_c3 p1_c4 p1_c5 p1_c6 p1_c7 p1_c8 => F11 q (by omega) p0 p1_c0 p1_c1 p1_c2 p1_c3 p1_c4 p1_c5 p1_c6 p1_c7 p1_c8) (fun p0 => F26_1 q (by omega) p0) (fun p0 p1 => F54 q (by omega) p0 p1) (fun p0 => F88 q (by omega) p0) p0 p1)

noncomputable def L53_4 (p0 : (List S46)) (p1 : (List S46)) (z0 : Int) : Option (Int ⊕ ((Int × Bool) ⊕ Unit)) := (bif (ltI z0 (lenL p0)) then ((listAt p0 z0).bind fun x1 => ((listAt p1 z0).bind fun x2 => ((T54 x1 x2).bind fun x3 => (bif (!x3) then (some (.inr (.inr ()))) else (some (.inl (addI .i64 z0 1))))))) else (some (.inr (.inl (z0, (ltI z0 (lenL p0)))))))
theorem L53_4_ok (C : Callee) (h54 : ∀ (p0 : S46) (p1 : S46), C 54 [a46 p0, a46 p1] = (T54 p0 p1).map B) (p0 : (List S46)) (p1 : (List S46)) (z0 : Int) : runs Tryz.prog C (cfg.fn 53) (finLoop ((cfg.fn 53).keep 4) ((cfg.fn 53).al 4)) [] (execA Tryz.prog C (cfg.fn 53) (nr Tryz.f53 [false, false, true, false, true, true]) ((fun z0 : Int => (mkE [(1, LL a46 p1), (2, .fn 54 []), (15, LL a46 p0), (16, I (lenL p0)), (17, I z0)] [] 32)) z0)) = (L53_4 p0 p1 z0).map (Sum.elim (fun z => .inl ((fun z0 : Int => (mkE [(1, LL a46 p1), (2, .fn 54 []), (15, LL a46 p0), (16, I (lenL p0)), (17, I z0)] [] 32)) z)) (fun x => .inr ((Sum.elim (fun (x : (Int × Bool)) => (.exit 0, (mkE [(1, LL a46 p1), (2, .fn 54 []), (15, LL a46 p0), (16, I (lenL p0)), (17, I x.1), (18, B x.2)] [] 32))) (fun (x : Unit) => (.ret, (mkE [(6, B false)] [] 32)))) x))) := by
  unfold L53_4
  let s_0 : List (Nat × AV) := [(15, LL a46 p0), (16, I (lenL p0)), (17, I z0)]
  let s_1 : List (Nat × AV) := [(1, LL a46 p1), (2, .fn 54 [])]
  refine zS 0 4 (mkE (s_1.append (s_0.append [(18, B (ltI z0 (lenL p0)))])) [] 32) (gS 5 (gC 18 (ltI z0 (lenL p0)) ?_ ?_))
  · refine gK (zP (gS 9 (gB 1 (zR 6 5 (sg 1 (mkE ((19, I z0) :: (s_1.append (s_0.append [(18, B (ltI z0 (lenL p0)))]))) [] 32) (vo 20 (addrE 26 47 9 a46 .i64 p0 z0) (fun x1 => ?_)))))))
    refine zN (mkE (s_1.append ((7, I z0) :: ((8, .ba 64 0) :: s_0))) [(64, .box [S x1.f0, S x1.f1, I x1.f2, LL S x1.f3, I x1.f4, I x1.f5, I x1.f6, LL a64 x1.f7, S x1.f8] false)] 32) (zR 7 6 (sg 2 (mkE ((23, I z0) :: ((22, LL a46 p1) :: (s_1.append ((7, I z0) :: ((8, .ba 64 0) :: s_0))))) [(64, .box [S x1.f0, S x1.f1, I x1.f2, LL S x1.f3, I x1.f4, I x1.f5, I x1.f6, LL a64 x1.f7, S x1.f8] false)] 32) (vo 24 (addrE 26 47 9 a46 .i64 p1 z0) (fun x2 => ?_))))
    refine zN (mkE (s_1.append ((8, .ba 64 0) :: ((9, .ba 72 0) :: s_0))) [(64, .box [S x1.f0, S x1.f1, I x1.f2, LL S x1.f3, I x1.f4, I x1.f5, I x1.f6, LL a64 x1.f7, S x1.f8] false), (72, .box [S x2.f0, S x2.f1, I x2.f2, LL S x2.f3, I x2.f4, I x2.f5, I x2.f6, LL a64 x2.f7, S x2.f8] false)] 32) (zR 0 7 (sg 3 (mkE ((28, a46 x2) :: ((27, a46 x1) :: ((26, .fn 54 []) :: (s_1.append ((8, .ba 64 0) :: ((9, .ba 72 0) :: s_0)))))) [(64, .box [S x1.f0, S x1.f1, I x1.f2, LL S x1.f3, I x1.f4, I x1.f5, I x1.f6, LL a64 x1.f7, S x1.f8] false), (72, .box [S x2.f0, S x2.f1, I x2.f2, LL S x2.f3, I x2.f4, I x2.f5, I x2.f6, LL a64 x2.f7, S x2.f8] false)] 32) (co 29 [] (h54 x1 x2) (fun x3 => ?_))))
    refine zN (mkE (s_1.append (s_0.append [(30, B (!x3))])) [] 32) (gC 30 (!x3) ?_ ?_)
    · exact zF 0 8 (mkE [(6, B false)] [] 32)
    · exact gK (pB (zP (gR 9 (rg Tryz.f53 9) (se (mkE (s_1.append ((15, LL a46 p0) :: ((16, I (lenL p0)) :: [(17, I (addI .i64 z0 1))]))) [] 32) (pL)))))
  · exact gX 0 (pL)
noncomputable def T53 (p0 : (List S46)) (p1 : (List S46)) : Option Bool := (bif (neI (lenL p0) (lenL p1)) then (some false) else ((iter (L53_4 p0 p1) 0).bind fun y4 => (Sum.elim (fun y4a => (some true)) (fun y4b => (some false)) y4)))
theorem B53 (C : Callee) (h54 : ∀ (p0 : S46) (p1 : S46), C 54 [a46 p0, a46 p1] = (T54 p0 p1).map B) (p0 : (List S46)) (p1 : (List S46)) : runs Tryz.prog C (cfg.fn 53) (finFn Tryz.prog (cfg.fn 53).byval Tryz.f53) [] (execA Tryz.prog C (cfg.fn 53) (nr Tryz.f53 []) (frame0 [LL a46 p0, LL a46 p1, .fn 54 []] 32 false)) = (T53 p0 p1).map B := by
  unfold T53
  let s_0 : List (Nat × AV) := [(1, LL a46 p1), (2, .fn 54 [])]
  refine zS 1 0 (mkE ((0, LL a46 p0) :: s_0) [] 32) (gS 3 (zR 0 1 (sg 1 (mkE ((10, LL a46 p0) :: ((0, LL a46 p0) :: s_0)) [] 32) (eo 11 (I (lenL p0)) (lenE 26 a46 p0) (sg 3 (mkE ((12, LL a46 p1) :: ((11, I (lenL p0)) :: ((10, LL a46 p0) :: ((0, LL a46 p0) :: s_0)))) [] 32) (eo 13 (I (lenL p1)) (lenE 26 a46 p1) (zN (mkE ((0, LL a46 p0) :: (s_0.append [(14, B (neI (lenL p0) (lenL p1)))])) [] 32) (gC 14 (neI (lenL p0) (lenL p1)) ?_ ?_))))))))
  · exact zF 0 2 (mkE [(6, B false)] [] 32)
  · refine gK (zP (gS 10 (zR 4 3 (sg 1 (mkE ((15, LL a46 p0) :: ((0, LL a46 p0) :: (s_0.append [(14, B (neI (lenL p0) (lenL p1)))]))) [] 32) (eo 16 (I (lenL p0)) (lenE 26 a46 p0) (zN (mkE (s_0.append ((15, LL a46 p0) :: ((16, I (lenL p0)) :: [(17, I 0)]))) [] 32) (gB 0 (lo [(1, none), (2, none), (15, none), (16, none), (17, none)] [] (L53_4 p0 p1) (fun z0 : Int => (mkE (s_0.append ((15, LL a46 p0) :: ((16, I (lenL p0)) :: [(17, I z0)]))) [] 32)) (Sum.elim (fun (x : (Int × Bool)) => (.exit 0, (mkE (s_0.append ((15, LL a46 p0) :: ((16, I (lenL p0)) :: ((17, I x.1) :: [(18, B x.2)])))) [] 32))) (fun (x : Unit) => (.ret, (mkE [(6, B false)] [] 32)))) 0 (fun z => L53_4_ok C h54 p0 p1 z) ?_))))))))
    intro y4
    refine ss y4 (Z := (Sum.elim (fun (x : (Int × Bool)) => (.exit 0, (mkE (s_0.append ((15, LL a46 p0) :: ((16, I (lenL p0)) :: ((17, I x.1) :: [(18, B x.2)])))) [] 32))) (fun (x : Unit) => (.ret, (mkE [(6, B false)] [] 32))))) (fun y4a => ?_) (fun y4b => ?_)
    · exact pH (zP (zF 0 10 (mkE [(6, B true)] [] 32)))
    · exact pL
theorem F53 (m : Nat) (hm : 3 ≤ m) (p0 : (List S46)) (p1 : (List S46)) : callA Tryz.prog cfg m 53 [LL a46 p0, LL a46 p1, .fn 54 []] = (T53 p0 p1).map B := by
  obtain ⟨q, rfl⟩ : ∃ q, m = q + 1 := ⟨m - 1, by omega⟩
  exact (callA_body (fn := Tryz.f53) (c := body_ Tryz.f53) q _ (by kernel_rfl) (by kernel_rfl) (by kernel_rfl)).trans (B53 _ (fun p0 p1 => F54 q (by omega) p0 p1) p0 p1)

theorem Fk15 (m : Nat) (hm : 20 ≤ m) : callA Tryz.prog cfg m 15 [a46 (S46.mk (ByteArray.mk #[97]) (ByteArray.mk #[115]) 1 [] 0 5 1 ([(S64.mk 0 0 2 2)] : List S64) (ByteArray.mk #[120])), a32 (S32.mk (ByteArray.mk #[112]) 1 1)] = (some ((true, 0) : (Bool × Int))).map (fun r => AV.tup [B r.1, I r.2]) := by
  obtain ⟨q, rfl⟩ : ∃ q, m = q + 20 := ⟨m - 20, by omega⟩
  kernel_rfl

noncomputable def T55 : Option Bool := ((some ((true, 0) : (Bool × Int))).bind fun x1 => (bif (eqI x1.2 0) then (some x1.1) else (some false)))
theorem B55 (C : Callee) (hk15 : C 15 [a46 (S46.mk (ByteArray.mk #[97]) (ByteArray.mk #[115]) 1 [] 0 5 1 ([(S64.mk 0 0 2 2)] : List S64) (ByteArray.mk #[120])), a32 (S32.mk (ByteArray.mk #[112]) 1 1)] = (some ((true, 0) : (Bool × Int))).map (fun r => AV.tup [B r.1, I r.2])) : runs Tryz.prog C (cfg.fn 55) (finFn Tryz.prog (cfg.fn 55).byval Tryz.f55) [] (execA Tryz.prog C (cfg.fn 55) (nr Tryz.f55 []) (frame0 [] 18 false)) = (T55).map B := by
  unfold T55
  let o_0 : List (Nat × AObj) := [(8, .box [S (ByteArray.mk #[97]), S (ByteArray.mk #[115]), I 1, .nils, I 0, I 5, I 1, .own 40 0, S (ByteArray.mk #[120])] false), (40, RR 65 4 a64 ([(S64.mk 0 0 2 2)] : List S64) 0 false)]
  refine zS 1 0 (mkE [] [] 18) (zS 2 1 (mkE [(1, .ba 8 0)] o_0 18) (zR 3 2 (sg 2 (mkE [(9, .agg [S (ByteArray.mk #[112]), I 1, I 1]), (8, .agg [S (ByteArray.mk #[97]), S (ByteArray.mk #[115]), I 1, .nils, I 0, I 5, I 1, .own 40 0, S (ByteArray.mk #[120])]), (1, .ba 8 0)] o_0 18) (co 10 [40] (hk15) (fun x1 => ?_)))))
  refine zN (mkE [(2, B x1.1), (3, I x1.2)] [] 18) (zR 0 3 (sg 3 (mkE [(15, B (eqI x1.2 0)), (14, B (eqI x1.2 0)), (13, I x1.2), (2, B x1.1), (3, I x1.2)] [] 18) (sb 15 (eqI x1.2 0) ?_ ?_)))
  · exact zE (mkE [(0, B x1.1)] [] 18)
  · exact zE (mkE [(0, B false)] [] 18)
theorem F55 (m : Nat) (hm : 21 ≤ m) : callA Tryz.prog cfg m 55 [] = (T55).map B := by
  obtain ⟨q, rfl⟩ : ∃ q, m = q + 1 := ⟨m - 1, by omega⟩
  exact (callA_body (fn := Tryz.f55) (c := body_ Tryz.f55) q _ (by kernel_rfl) (by kernel_rfl) (by kernel_rfl)).trans (B55 _ (Fk15 q (by omega)))

noncomputable def T18 (p0 : (List S46)) (p1 : (List S46)) : Option Bool := ((T48 p0 p1).bind fun x1 => ((T49 p0).bind fun x2 => ((T50 p0).bind fun x3 => (bif (neI x3 x2) then (some false) else ((T49 p1).bind fun x4 => ((T51 ([x2, x4] : List Int)).bind fun x5 => (bif (eqI x5 0) then ((T52 p0 p1).bind fun x6 => (bif (eqI x1.2 x6.2) then ((T53 x1.1 x6.1).bind fun x7 => (bif x7 then ((T55).bind fun x8 => (some x8)) else (some false))) else (some false))) else (bif (eqI x1.2 x5) then ((T53 x1.1 []).bind fun x9 => (bif x9 then ((T55).bind fun x10 => (some x10)) else (some false))) else (some false)))))))))
theorem B18 (C : Callee) (h48 : ∀ (p0 : (List S46)) (p1 : (List S46)), C 48 [LL a46 p0, LL a46 p1] = (T48 p0 p1).map (fun r => AV.tup [(fun l => AV.fr 47 9 (List.map a46 l)) r.1, I r.2])) (h49 : ∀ (p0 : (List S46)), C 49 [LL a46 p0] = (T49 p0).map I) (h50 : ∀ (p0 : (List S46)), C 50 [LL a46 p0] = (T50 p0).map I) (h51 : ∀ (p0 : (List Int)), C 51 [LL I p0] = (T51 p0).map I) (h52 : ∀ (p0 : (List S46)) (p1 : (List S46)), C 52 [LL a46 p0, LL a46 p1] = (T52 p0 p1).map (fun r => AV.tup [(fun l => AV.fr 47 9 (List.map a46 l)) r.1, I r.2])) (h53 : ∀ (p0 : (List S46)) (p1 : (List S46)), C 53 [LL a46 p0, LL a46 p1, .fn 54 []] = (T53 p0 p1).map B) (h55 : C 55 [] = (T55).map B) (p0 : (List S46)) (p1 : (List S46)) : runs Tryz.prog C (cfg.fn 18) (finFn Tryz.prog (cfg.fn 18).byval Tryz.f18) [] (execA Tryz.prog C (cfg.fn 18) (nr Tryz.f18 []) (frame0 [LL a46 p0, LL a46 p1] 45 false)) = (T18 p0 p1).map B := by
  unfold T18
  let s_0 : List (Nat × AV) := [(0, LL a46 p0), (1, LL a46 p1), (5, .own 96 0)]
  refine zS 1 0 (mkE [(0, LL a46 p0), (1, LL a46 p1)] [] 45) (zR 2 1 (sg 2 (mkE [(11, LL a46 p1), (10, LL a46 p0), (0, LL a46 p0), (1, LL a46 p1)] [] 45) (co 12 [] (h48 p0 p1) (fun x1 => ?_))))
  refine zN (mkE (s_0.append [(6, I x1.2)]) [(96, RR 47 9 a46 x1.1 0 false)] 45) (zR 3 2 (sg 1 (mkE ((15, LL a46 p0) :: (s_0.append [(6, I x1.2)])) [(96, RR 47 9 a46 x1.1 0 false)] 45) (co 16 [] (h49 p0) (fun x2 => ?_))))
  refine zN (mkE (s_0.append ((6, I x1.2) :: [(7, I x2)])) [(96, RR 47 9 a46 x1.1 0 false)] 45) (gS 5 (zR 0 3 (sg 1 (mkE ((17, LL a46 p0) :: (s_0.append ((6, I x1.2) :: [(7, I x2)]))) [(96, RR 47 9 a46 x1.1 0 false)] 45) (co 18 [] (h50 p0) (fun x3 => ?_)))))
  refine zN (mkE (s_0.append ((6, I x1.2) :: ((7, I x2) :: [(20, B (neI x3 x2))]))) [(96, RR 47 9 a46 x1.1 0 false)] 45) (gC 20 (neI x3 x2) ?_ ?_)
  · exact zF 0 4 (mkE [(4, B false)] [] 45)
  · refine gK (zP (zS 6 5 (mkE (s_0.append ((6, I x1.2) :: ((7, I x2) :: [(8, .nils)]))) [(96, RR 47 9 a46 x1.1 0 false)] 45) (gS 9 (zR 7 6 (sg 2 (mkE ((22, LL a46 p1) :: ((21, I x2) :: (s_0.append ((6, I x1.2) :: ((7, I x2) :: [(8, .nils)]))))) [(96, RR 47 9 a46 x1.1 0 false)] 45) (co 23 [] (h49 p1) (fun x4 => ?_)))))))
    refine sg 4 (mkE ((24, .own 192 0) :: ((23, I x4) :: ((22, LL a46 p1) :: ((21, I x2) :: (s_0.append ((6, I x1.2) :: ((7, I x2) :: [(8, .nils)]))))))) [(192, RR 39 1 I ([x2, x4] : List Int) 0 false), (96, RR 47 9 a46 x1.1 0 false)] 45) (co 25 [192] (h51 ([x2, x4] : List Int)) (fun x5 => ?_))
    refine zN (mkE (s_0.append ((6, I x1.2) :: ((7, I x5) :: [(8, .nils)]))) [(96, RR 47 9 a46 x1.1 0 false)] 45) (zS 0 7 (mkE (s_0.append ((6, I x1.2) :: ((7, I x5) :: ((8, .nils) :: [(27, B (eqI x5 0))])))) [(96, RR 47 9 a46 x1.1 0 false)] 45) (gC 27 (eqI x5 0) ?_ ?_))
    · refine gR 8 (rg Tryz.f18 8) (sg 2 (mkE ((30, LL a46 p1) :: ((29, LL a46 p0) :: (s_0.append ((6, I x1.2) :: ((7, I x5) :: ((8, .nils) :: [(27, B (eqI x5 0))])))))) [(96, RR 47 9 a46 x1.1 0 false)] 45) (co 31 [] (h52 p0 p1) (fun x6 => ?_)))
      refine zN (mkE [(5, .own 96 0), (6, I x1.2), (7, I x6.2), (8, .own 248 0)] [(96, RR 47 9 a46 x1.1 0 false), (248, RR 47 9 a46 x6.1 0 false)] 45) (zR 0 9 (sg 4 (mkE [(37, B (eqI x1.2 x6.2)), (36, B (eqI x1.2 x6.2)), (35, I x6.2), (34, I x1.2), (5, .own 96 0), (6, I x1.2), (7, I x6.2), (8, .own 248 0)] [(96, RR 47 9 a46 x1.1 0 false), (248, RR 47 9 a46 x6.1 0 false)] 45) (sb 37 (eqI x1.2 x6.2) ?_ ?_)))
      · refine sg 6 (mkE [(39, .own 248 0), (38, .own 96 0), (37, B true), (37, B (eqI x1.2 x6.2)), (36, B (eqI x1.2 x6.2)), (35, I x6.2), (34, I x1.2), (5, .own 96 0), (6, I x1.2), (7, I x6.2), (8, .own 248 0)] [(96, RR 47 9 a46 x1.1 0 false), (248, RR 47 9 a46 x6.1 0 false)] 45) (co 40 [96, 248] (h53 x1.1 x6.1) (fun x7 => ?_))
        refine sg 9 (mkE [(42, B x7), (41, B x7), (40, B x7), (39, .own 248 0), (38, .own 96 0), (37, B true), (37, B (eqI x1.2 x6.2)), (36, B (eqI x1.2 x6.2)), (35, I x6.2), (34, I x1.2), (5, .own 96 0), (6, I x1.2), (7, I x6.2), (8, .own 248 0)] [(96, RR 47 9 a46 x1.1 0 false), (248, RR 47 9 a46 x6.1 0 false)] 45) (sb 42 x7 ?_ ?_)
        · refine co 43 [] (h55) (fun x8 => ?_)
          exact zE (mkE [(4, B x8)] [] 45)
        · exact zE (mkE [(4, B false)] [] 45)
      · exact zE (mkE [(4, B false)] [] 45)
    · refine gK (zP (zR 0 9 (sg 4 (mkE ((37, B (eqI x1.2 x5)) :: ((36, B (eqI x1.2 x5)) :: ((35, I x5) :: ((34, I x1.2) :: (s_0.append ((6, I x1.2) :: ((7, I x5) :: ((8, .nils) :: [(27, B (eqI x5 0))])))))))) [(96, RR 47 9 a46 x1.1 0 false)] 45) (sb 37 (eqI x1.2 x5) ?_ ?_))))
      · refine sg 6 (mkE ((39, .nils) :: ((38, .own 96 0) :: ((37, B true) :: ((37, B (eqI x1.2 x5)) :: ((36, B (eqI x1.2 x5)) :: ((35, I x5) :: ((34, I x1.2) :: (s_0.append ((6, I x1.2) :: ((7, I x5) :: ((8, .nils) :: [(27, B (eqI x5 0))]))))))))))) [(96, RR 47 9 a46 x1.1 0 false)] 45) (co 40 [96] (h53 x1.1 []) (fun x9 => ?_))
        refine sg 9 (mkE ((42, B x9) :: ((41, B x9) :: ((40, B x9) :: ((39, .nils) :: ((38, .own 96 0) :: ((37, B true) :: ((37, B (eqI x1.2 x5)) :: ((36, B (eqI x1.2 x5)) :: ((35, I x5) :: ((34, I x1.2) :: (s_0.append ((6, I x1.2) :: ((7, I x5) :: ((8, .nils) :: [(27, B (eqI x5 0))])))))))))))))) [(96, RR 47 9 a46 x1.1 0 false)] 45) (sb 42 x9 ?_ ?_)
        · refine co 43 [] (h55) (fun x10 => ?_)
          exact zE (mkE [(4, B x10)] [] 45)
        · exact zE (mkE [(4, B false)] [] 45)
      · exact zE (mkE [(4, B false)] [] 45)
theorem F18 (m : Nat) (hm : 22 ≤ m) (p0 : (List S46)) (p1 : (List S46)) : callA Tryz.prog cfg m 18 [LL a46 p0, LL a46 p1] = (T18 p0 p1).map B := by
  obtain ⟨q, rfl⟩ : ∃ q, m = q + 1 := ⟨m - 1, by omega⟩
  exact (callA_body (fn := Tryz.f18) (c := body_ Tryz.f18) q _ (by kernel_rfl) (by kernel_rfl) (by kernel_rfl)).trans (B18 _ (fun p0 p1 => F48 q (by omega) p0 p1) (fun p0 => F49 q (by omega) p0) (fun p0 => F50 q (by omega) p0) (fun p0 => F51 q (by omega) p0) (fun p0 p1 => F52 q (by omega) p0 p1) (fun p0 p1 => F53 q (by omega) p0 p1) (F55 q (by omega)) p0 p1)

noncomputable def T19 (p0 : (List S46)) (p1 : (List S46)) : Option Bool := ((T53 p0 p1).bind fun x1 => (some x1))
theorem B19 (C : Callee) (h53 : ∀ (p0 : (List S46)) (p1 : (List S46)), C 53 [LL a46 p0, LL a46 p1, .fn 54 []] = (T53 p0 p1).map B) (p0 : (List S46)) (p1 : (List S46)) : runs Tryz.prog C (cfg.fn 19) (finFn Tryz.prog (cfg.fn 19).byval Tryz.f19) [] (execA Tryz.prog C (cfg.fn 19) (nr Tryz.f19 []) (frame0 [LL a46 p0, LL a46 p1] 8 false)) = (T19 p0 p1).map B := by
  unfold T19
  refine zS 1 0 (mkE [(0, LL a46 p0), (1, LL a46 p1)] [] 8) (zR 0 1 (sg 2 (mkE [(6, LL a46 p1), (5, LL a46 p0), (0, LL a46 p0), (1, LL a46 p1)] [] 8) (co 7 [] (h53 p0 p1) (fun x1 => ?_))))
  exact zE (mkE [(4, B x1)] [] 8)
theorem F19 (m : Nat) (hm : 4 ≤ m) (p0 : (List S46)) (p1 : (List S46)) : callA Tryz.prog cfg m 19 [LL a46 p0, LL a46 p1] = (T19 p0 p1).map B := by
  obtain ⟨q, rfl⟩ : ∃ q, m = q + 1 := ⟨m - 1, by omega⟩
  exact (callA_body (fn := Tryz.f19) (c := body_ Tryz.f19) q _ (by kernel_rfl) (by kernel_rfl) (by kernel_rfl)).trans (B19 _ (fun p0 p1 => F53 q (by omega) p0 p1) p0 p1)

noncomputable def T4 (p0 : (List S46)) (p1 : (List S46)) : Option Bool := ((T17 p0).bind fun x1 => ((T17 p1).bind fun x2 => ((T18 p0 p1).bind fun x3 => (bif x3 then ((T19 p0 x1).bind fun x4 => (bif x4 then ((T19 p1 x2).bind fun x5 => (some x5)) else (some false))) else (some false)))))
theorem B4 (C : Callee) (h17 : ∀ (p0 : (List S46)), C 17 [LL a46 p0] = (T17 p0).map (fun l => AV.fr 47 9 (List.map a46 l))) (h18 : ∀ (p0 : (List S46)) (p1 : (List S46)), C 18 [LL a46 p0, LL a46 p1] = (T18 p0 p1).map B) (h19 : ∀ (p0 : (List S46)) (p1 : (List S46)), C 19 [LL a46 p0, LL a46 p1] = (T19 p0 p1).map B) (p0 : (List S46)) (p1 : (List S46)) : runs Tryz.prog C (cfg.fn 4) (finFn Tryz.prog (cfg.fn 4).byval Tryz.f4) [] (execA Tryz.prog C (cfg.fn 4) (nr Tryz.f4 []) (frame0 [LL a46 p0, LL a46 p1] 24 false)) = (T4 p0 p1).map B := by
  unfold T4
  let s_0 : List (Nat × AV) := [(12, LL a46 p1), (11, LL a46 p0), (0, LL a46 p0), (1, LL a46 p1), (5, .own 64 0), (6, .own 80 0)]
  refine zS 1 0 (mkE [(0, LL a46 p0), (1, LL a46 p1)] [] 24) (zR 2 1 (sg 1 (mkE [(7, LL a46 p0), (0, LL a46 p0), (1, LL a46 p1)] [] 24) (co 8 [] (h17 p0) (fun x1 => ?_))))
  refine sg 3 (mkE [(9, LL a46 p1), (8, .own 64 0), (7, LL a46 p0), (0, LL a46 p0), (1, LL a46 p1)] [(64, RR 47 9 a46 x1 0 false)] 24) (co 10 [] (h17 p1) (fun x2 => ?_))
  refine zN (mkE [(0, LL a46 p0), (1, LL a46 p1), (5, .own 64 0), (6, .own 80 0)] [(64, RR 47 9 a46 x1 0 false), (80, RR 47 9 a46 x2 0 false)] 24) (zR 0 2 (sg 2 (mkE s_0 [(64, RR 47 9 a46 x1 0 false), (80, RR 47 9 a46 x2 0 false)] 24) (co 13 [] (h18 p0 p1) (fun x3 => ?_))))
  refine sg 4 (mkE ((14, B x3) :: ((13, B x3) :: s_0)) [(64, RR 47 9 a46 x1 0 false), (80, RR 47 9 a46 x2 0 false)] 24) (sb 14 x3 ?_ ?_)
  · refine sg 6 (mkE ((16, .own 64 0) :: ((15, LL a46 p0) :: ((14, B true) :: ((14, B x3) :: ((13, B x3) :: s_0))))) [(64, RR 47 9 a46 x1 0 false), (80, RR 47 9 a46 x2 0 false)] 24) (co 17 [64] (h19 p0 x1) (fun x4 => ?_))
    refine sg 9 (mkE ((19, B x4) :: ((18, B x4) :: ((17, B x4) :: ((16, .own 64 0) :: ((15, LL a46 p0) :: ((14, B true) :: ((14, B x3) :: ((13, B x3) :: s_0)))))))) [(64, RR 47 9 a46 x1 0 false), (80, RR 47 9 a46 x2 0 false)] 24) (sb 19 x4 ?_ ?_)
    · refine sg 11 (mkE ((21, .own 80 0) :: ((20, LL a46 p1) :: ((19, B true) :: ((19, B x4) :: ((18, B x4) :: ((17, B x4) :: ((16, .own 64 0) :: ((15, LL a46 p0) :: ((14, B true) :: ((14, B x3) :: ((13, B x3) :: s_0))))))))))) [(64, RR 47 9 a46 x1 0 false), (80, RR 47 9 a46 x2 0 false)] 24) (co 22 [80] (h19 p1 x2) (fun x5 => ?_))
      exact zE (mkE [(4, B x5)] [] 24)
    · exact zE (mkE [(4, B false)] [] 24)
  · exact zE (mkE [(4, B false)] [] 24)
theorem F4 (m : Nat) (hm : 23 ≤ m) (p0 : (List S46)) (p1 : (List S46)) : callA Tryz.prog cfg m 4 [LL a46 p0, LL a46 p1] = (T4 p0 p1).map B := by
  obtain ⟨q, rfl⟩ : ∃ q, m = q + 1 := ⟨m - 1, by omega⟩
  exact (callA_body (fn := Tryz.f4) (c := body_ Tryz.f4) q _ (by kernel_rfl) (by kernel_rfl) (by kernel_rfl)).trans (B4 _ (fun p0 => F17 q (by omega) p0) (fun p0 p1 => F18 q (by omega) p0 p1) (fun p0 p1 => F19 q (by omega) p0 p1) p0 p1)

end Go.Abs.TUA
