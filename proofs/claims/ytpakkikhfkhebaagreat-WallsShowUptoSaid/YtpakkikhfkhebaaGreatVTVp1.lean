import Derived.Test.YtpakkikhfkhebaaGreatVTV0
set_option maxRecDepth 100000
set_option linter.unusedVariables false
namespace Go.Abs.TV
open Go.RowKit Go.Proofs Go.Abs
theorem F11 (m : Nat) (hm : 1 ≤ m) (p0 : (List S37)) : callA Tryz.prog cfg m 11 [LL a37 p0] = (appO 48 ([] : List S37) p0).map (fun l => AV.fr 38 5 (List.map a37 l)) := by
  obtain ⟨q, rfl⟩ : ∃ q, m = q + 1 := ⟨m - 1, by omega⟩
  exact (callA_leaf (L := (leafClone Tryz.prog 38 5 48)) _ _ (by kernel_rfl)).trans (clone_leaf a37 _ _ (fun _ => by kernel_rfl))

noncomputable def T5 (p0 : S23) : Option S23 := ((appO 48 ([] : List S37) p0.f3).bind fun x1 => (some (S23.mk p0.f0 p0.f1 p0.f2 x1)))
theorem B5 (C : Callee) (h11 : ∀ (p0 : (List S37)), C 11 [LL a37 p0] = (appO 48 ([] : List S37) p0).map (fun l => AV.fr 38 5 (List.map a37 l))) (p0 : S23) : runs Tryz.prog C (cfg.fn 5) (finFn Tryz.prog (cfg.fn 5).byval Tryz.f5) [] (execA Tryz.prog C (cfg.fn 5) (nr Tryz.f5 []) (frame0 [a23 p0] 8 false)) = (T5 p0).map a23 := by
  unfold T5
  refine gS 1 ?_
  refine gR 0 (rg Tryz.f5 0) ?_
  refine se (mkE [(1, .ba 8 0), (2, .ba 16 0)] [(8, .box [S p0.f0, I p0.f1, I p0.f2, LL a37 p0.f3] false), (16, .box [S (ByteArray.mk #[]), I 0, I 0, .nils] false)] 8) ?_
  refine pN ?_
  refine pS ?_
  refine gS 2 ?_
  refine gR 1 (rg Tryz.f5 1) ?_
  refine sg 2 (mkE [(4, LL a37 p0.f3), (3, .ba 8 3), (1, .ba 8 0), (2, .ba 16 0)] [(8, .box [S p0.f0, I p0.f1, I p0.f2, LL a37 p0.f3] false), (16, .box [S (ByteArray.mk #[]), I 0, I 0, .nils] false)] 8) ?_
  refine co 5 [] (h11 p0.f3) (fun x1 => ?_)
  refine se (mkE [(1, .ba 8 0), (2, .ba 16 0)] [(8, .box [S p0.f0, I p0.f1, I p0.f2, .own 40 0] false), (16, .box [S (ByteArray.mk #[]), I 0, I 0, .nils] false), (40, RR 38 5 a37 x1 0 false)] 8) ?_
  refine pN ?_
  refine pS ?_
  refine gS 0 ?_
  refine gR 2 (rg Tryz.f5 2) ?_
  refine se (mkE [(2, .ba 16 0)] [(16, .box [S p0.f0, I p0.f1, I p0.f2, .own 40 0] false), (40, RR 38 5 a37 x1 0 false)] 8) ?_
  refine pN ?_
  refine pS ?_
  refine gE ?_
  exact pL
theorem F5 (m : Nat) (hm : 2 ≤ m) (p0 : S23) : callA Tryz.prog cfg m 5 [a23 p0] = (T5 p0).map a23 := by
  obtain ⟨q, rfl⟩ : ∃ q, m = q + 1 := ⟨m - 1, by omega⟩
  exact (callA_body (fn := Tryz.f5) (c := body_ Tryz.f5) q _ (by kernel_rfl) (by kernel_rfl) (by kernel_rfl)).trans (B5 _ (fun p0 => F11 q (by omega) p0) p0)

theorem F28 (m : Nat) (hm : 1 ≤ m) (p0 : (List S64)) : callA Tryz.prog cfg m 28 [LL a64 p0] = (appO 56 ([] : List S64) p0).map (fun l => AV.fr 65 6 (List.map a64 l)) := by
  obtain ⟨q, rfl⟩ : ∃ q, m = q + 1 := ⟨m - 1, by omega⟩
  exact (callA_leaf (L := (leafClone Tryz.prog 65 6 56)) _ _ (by kernel_rfl)).trans (clone_leaf a64 _ _ (fun _ => by kernel_rfl))

noncomputable def T8 (p0 : S31) : Option S31 := ((appO 56 ([] : List S64) p0.f3).bind fun x1 => (some (S31.mk p0.f0 p0.f1 p0.f2 x1)))
theorem B8 (C : Callee) (h28 : ∀ (p0 : (List S64)), C 28 [LL a64 p0] = (appO 56 ([] : List S64) p0).map (fun l => AV.fr 65 6 (List.map a64 l))) (p0 : S31) : runs Tryz.prog C (cfg.fn 8) (finFn Tryz.prog (cfg.fn 8).byval Tryz.f8) [] (execA Tryz.prog C (cfg.fn 8) (nr Tryz.f8 []) (frame0 [a31 p0] 8 false)) = (T8 p0).map a31 := by
  unfold T8
  refine gS 1 ?_
  refine gR 0 (rg Tryz.f8 0) ?_
  refine se (mkE [(1, .ba 8 0), (2, .ba 16 0)] [(8, .box [S p0.f0, I p0.f1, I p0.f2, LL a64 p0.f3] false), (16, .box [S (ByteArray.mk #[]), I 0, I 0, .nils] false)] 8) ?_
  refine pN ?_
  refine pS ?_
  refine gS 2 ?_
  refine gR 1 (rg Tryz.f8 1) ?_
  refine sg 2 (mkE [(4, LL a64 p0.f3), (3, .ba 8 3), (1, .ba 8 0), (2, .ba 16 0)] [(8, .box [S p0.f0, I p0.f1, I p0.f2, LL a64 p0.f3] false), (16, .box [S (ByteArray.mk #[]), I 0, I 0, .nils] false)] 8) ?_
  refine co 5 [] (h28 p0.f3) (fun x1 => ?_)
  refine se (mkE [(1, .ba 8 0), (2, .ba 16 0)] [(8, .box [S p0.f0, I p0.f1, I p0.f2, .own 40 0] false), (16, .box [S (ByteArray.mk #[]), I 0, I 0, .nils] false), (40, RR 65 6 a64 x1 0 false)] 8) ?_
  refine pN ?_
  refine pS ?_
  refine gS 0 ?_
  refine gR 2 (rg Tryz.f8 2) ?_
  refine se (mkE [(2, .ba 16 0)] [(16, .box [S p0.f0, I p0.f1, I p0.f2, .own 40 0] false), (40, RR 65 6 a64 x1 0 false)] 8) ?_
  refine pN ?_
  refine pS ?_
  refine gE ?_
  exact pL
theorem F8 (m : Nat) (hm : 2 ≤ m) (p0 : S31) : callA Tryz.prog cfg m 8 [a31 p0] = (T8 p0).map a31 := by
  obtain ⟨q, rfl⟩ : ∃ q, m = q + 1 := ⟨m - 1, by omega⟩
  exact (callA_body (fn := Tryz.f8) (c := body_ Tryz.f8) q _ (by kernel_rfl) (by kernel_rfl) (by kernel_rfl)).trans (B8 _ (fun p0 => F28 q (by omega) p0) p0)

noncomputable def L50_2 (p0 : ByteArray) (z0 : Int) : Option (Int ⊕ ((Int × Bool) ⊕ Unit)) := (bif (ltI z0 (lenS p0)) then ((byteAt p0 z0).bind fun x1 => (bif (leI 97 x1) then (bif (leI x1 122) then (some (.inl (addI .i64 z0 1))) else (bif (ltI 0 z0) then (bif (leI 48 x1) then (bif (leI x1 57) then (some (.inl (addI .i64 z0 1))) else (bif (eqI x1 45) then (some (.inl (addI .i64 z0 1))) else (bif (!(eqI x1 95)) then (some (.inr (.inr ()))) else (some (.inl (addI .i64 z0 1)))))) else (bif (eqI x1 45) then (some (.inl (addI .i64 z0 1))) else (bif (!(eqI x1 95)) then (some (.inr (.inr ()))) else (some (.inl (addI .i64 z0 1)))))) else (some (.inr (.inr ()))))) else (bif (ltI 0 z0) then (bif (leI 48 x1) then (bif (leI x1 57) then (some (.inl (addI .i64 z0 1))) else (bif (eqI x1 45) then (some (.inl (addI .i64 z0 1))) else (bif (!(eqI x1 95)) then (some (.inr (.inr ()))) else (some (.inl (addI .i64 z0 1)))))) else (bif (eqI x1 45) then (some (.inl (addI .i64 z0 1))) else (bif (!(eqI x1 95)) then (some (.inr (.inr ()))) else (some (.inl (addI .i64 z0 1)))))) else (some (.inr (.inr ())))))) else (some (.inr (.inl (z0, (ltI z0 (lenS p0)))))))
theorem L50_2_ok (C : Callee) (p0 : ByteArray) (z0 : Int) : runs Tryz.prog C (cfg.fn 50) (finLoop ((cfg.fn 50).keep 2) ((cfg.fn 50).al 2)) [] (execA Tryz.prog C (cfg.fn 50) (nr Tryz.f50 [false, false, true, false, true]) ((fun z0 : Int => (mkE [(0, S p0), (3, I z0)] [] 48)) z0)) = (L50_2 p0 z0).map (Sum.elim (fun z => .inl ((fun z0 : Int => (mkE [(0, S p0), (3, I z0)] [] 48)) z)) (fun x => .inr ((Sum.elim (fun (x : (Int × Bool)) => (.exit 0, (mkE [(0, S p0), (3, I x.1), (8, B x.2)] [] 48))) (fun (x : Unit) => (.ret, (mkE [(2, B false)] [] 48)))) x))) := by
  unfold L50_2
  let s_0 : List (Nat × AV) := [(23, B (ltI 0 z0)), (22, B (ltI 0 z0)), (21, I z0), (20, B false)]
  let s_1 : List (Nat × AV) := [(0, S p0), (3, I z0)]
  let s_2 : List (Nat × AV) := [(0, S p0), (3, I (addI .i64 z0 1))]
  let s_3 : List (Nat × AV) := [(19, B false), (18, .und), (17, .und), (16, B false)]
  refine gS 4 ?_
  refine gS 0 ?_
  refine gR 2 (rg Tryz.f50 2) ?_
  refine se (mkE (s_1.append [(8, B (ltI z0 (lenS p0)))]) [] 48) ?_
  refine pN ?_
  refine pS ?_
  refine gC 8 (ltI z0 (lenS p0)) ?_ ?_
  · refine gK ?_
    refine pN ?_
    refine pS ?_
    refine gS 3 ?_
    refine gB 1 ?_
    refine gS 5 ?_
    refine gR 4 (rg Tryz.f50 4) ?_
    refine sg 2 (mkE ((12, I z0) :: ((11, S p0) :: (s_1.append [(8, B (ltI z0 (lenS p0)))]))) [] 48) ?_
    refine vo 13 (byteE 9 .i64 p0 z0) (fun x1 => ?_)
    refine se (mkE (s_1.append [(4, U x1)]) [] 48) ?_
    refine pN ?_
    refine pS ?_
    refine gS 0 ?_
    refine gR 5 (rg Tryz.f50 5) ?_
    refine sg 3 (mkE ((16, B (leI 97 x1)) :: ((15, B (leI 97 x1)) :: ((14, U x1) :: (s_1.append [(4, U x1)])))) [] 48) ?_
    refine sb 16 (leI 97 x1) ?_ ?_
    · refine sg 7 (mkE ((20, B (leI x1 122)) :: ((19, B (leI x1 122)) :: ((18, B (leI x1 122)) :: ((17, U x1) :: ((16, B true) :: ((16, B (leI 97 x1)) :: ((15, B (leI 97 x1)) :: ((14, U x1) :: (s_1.append [(4, U x1)]))))))))) [] 48) ?_
      refine sb 20 (leI x1 122) ?_ ?_
      · refine se (mkE (s_1.append [(40, B false)]) [] 48) ?_
        refine pN ?_
        refine pS ?_
        refine gF (.tmp 40) ?_
        refine gK ?_
        refine pB ?_
        refine pN ?_
        refine pS ?_
        refine gR 3 (rg Tryz.f50 3) ?_
        refine se (mkE s_2 [] 48) ?_
        exact pL
      · refine sg 10 (mkE (s_0.append ((20, B (leI x1 122)) :: ((19, B (leI x1 122)) :: ((18, B (leI x1 122)) :: ((17, U x1) :: ((16, B true) :: ((16, B (leI 97 x1)) :: ((15, B (leI 97 x1)) :: ((14, U x1) :: (s_1.append [(4, U x1)])))))))))) [] 48) ?_
        refine sb 23 (ltI 0 z0) ?_ ?_
        · refine sg 13 (mkE ((26, B (leI 48 x1)) :: ((25, B (leI 48 x1)) :: ((24, U x1) :: ((23, B true) :: (s_0.append ((20, B (leI x1 122)) :: ((19, B (leI x1 122)) :: ((18, B (leI x1 122)) :: ((17, U x1) :: ((16, B true) :: ((16, B (leI 97 x1)) :: ((15, B (leI 97 x1)) :: ((14, U x1) :: (s_1.append [(4, U x1)])))))))))))))) [] 48) ?_
          refine sb 26 (leI 48 x1) ?_ ?_
          · refine sg 17 (mkE ((30, B (leI x1 57)) :: ((29, B (leI x1 57)) :: ((28, B (leI x1 57)) :: ((27, U x1) :: ((26, B true) :: ((26, B (leI 48 x1)) :: ((25, B (leI 48 x1)) :: ((24, U x1) :: ((23, B true) :: (s_0.append ((20, B (leI x1 122)) :: ((19, B (leI x1 122)) :: ((18, B (leI x1 122)) :: ((17, U x1) :: ((16, B true) :: ((16, B (leI 97 x1)) :: ((15, B (leI 97 x1)) :: ((14, U x1) :: (s_1.append [(4, U x1)]))))))))))))))))))) [] 48) ?_
            refine sb 30 (leI x1 57) ?_ ?_
            · refine se (mkE (s_1.append [(40, B false)]) [] 48) ?_
              refine pN ?_
              refine pS ?_
              refine gF (.tmp 40) ?_
              refine gK ?_
              refine pB ?_
              refine pN ?_
              refine pS ?_
              refine gR 3 (rg Tryz.f50 3) ?_
              refine se (mkE s_2 [] 48) ?_
              exact pL
            · refine sg 21 (mkE ((34, B (eqI x1 45)) :: ((33, B (eqI x1 45)) :: ((32, B (eqI x1 45)) :: ((31, U x1) :: ((30, B false) :: ((30, B (leI x1 57)) :: ((29, B (leI x1 57)) :: ((28, B (leI x1 57)) :: ((27, U x1) :: ((26, B true) :: ((26, B (leI 48 x1)) :: ((25, B (leI 48 x1)) :: ((24, U x1) :: ((23, B true) :: (s_0.append ((20, B (leI x1 122)) :: ((19, B (leI x1 122)) :: ((18, B (leI x1 122)) :: ((17, U x1) :: ((16, B true) :: ((16, B (leI 97 x1)) :: ((15, B (leI 97 x1)) :: ((14, U x1) :: (s_1.append [(4, U x1)])))))))))))))))))))))))) [] 48) ?_
              refine sb 34 (eqI x1 45) ?_ ?_
              · refine se (mkE (s_1.append [(40, B false)]) [] 48) ?_
                refine pN ?_
                refine pS ?_
                refine gF (.tmp 40) ?_
                refine gK ?_
                refine pB ?_
                refine pN ?_
                refine pS ?_
                refine gR 3 (rg Tryz.f50 3) ?_
                refine se (mkE s_2 [] 48) ?_
                exact pL
              · refine se (mkE (s_1.append [(40, B (!(eqI x1 95)))]) [] 48) ?_
                refine pN ?_
                refine pS ?_
                refine gC 40 (!(eqI x1 95)) ?_ ?_
                · refine gS 0 ?_
                  refine gR 6 (rg Tryz.f50 6) ?_
                  refine se (mkE [(2, B false)] [] 48) ?_
                  refine pN ?_
                  refine pS ?_
                  refine gE ?_
                  exact pL
                · refine gK ?_
                  refine pB ?_
                  refine pN ?_
                  refine pS ?_
                  refine gR 3 (rg Tryz.f50 3) ?_
                  refine se (mkE s_2 [] 48) ?_
                  exact pL
          · refine sg 21 (mkE ((34, B (eqI x1 45)) :: ((33, B (eqI x1 45)) :: ((32, B (eqI x1 45)) :: ((31, U x1) :: ((30, B false) :: ((29, B false) :: ((28, .und) :: ((27, .und) :: ((26, B false) :: ((26, B (leI 48 x1)) :: ((25, B (leI 48 x1)) :: ((24, U x1) :: ((23, B true) :: (s_0.append ((20, B (leI x1 122)) :: ((19, B (leI x1 122)) :: ((18, B (leI x1 122)) :: ((17, U x1) :: ((16, B true) :: ((16, B (leI 97 x1)) :: ((15, B (leI 97 x1)) :: ((14, U x1) :: (s_1.append [(4, U x1)]))))))))))))))))))))))) [] 48) ?_
            refine sb 34 (eqI x1 45) ?_ ?_
            · refine se (mkE (s_1.append [(40, B false)]) [] 48) ?_
              refine pN ?_
              refine pS ?_
              refine gF (.tmp 40) ?_
              refine gK ?_
              refine pB ?_
              refine pN ?_
              refine pS ?_
              refine gR 3 (rg Tryz.f50 3) ?_
              refine se (mkE s_2 [] 48) ?_
              exact pL
            · refine se (mkE (s_1.append [(40, B (!(eqI x1 95)))]) [] 48) ?_
              refine pN ?_
              refine pS ?_
              refine gC 40 (!(eqI x1 95)) ?_ ?_
              · refine gS 0 ?_
                refine gR 6 (rg Tryz.f50 6) ?_
                refine se (mkE [(2, B false)] [] 48) ?_
                refine pN ?_
                refine pS ?_
                refine gE ?_
                exact pL
              · refine gK ?_
                refine pB ?_
                refine pN ?_
                refine pS ?_
                refine gR 3 (rg Tryz.f50 3) ?_
                refine se (mkE s_2 [] 48) ?_
                exact pL
        · refine se (mkE (s_1.append [(40, B true)]) [] 48) ?_
          refine pN ?_
          refine pS ?_
          refine gT (.tmp 40) ?_
          refine gS 0 ?_
          refine gR 6 (rg Tryz.f50 6) ?_
          refine se (mkE [(2, B false)] [] 48) ?_
          refine pN ?_
          refine pS ?_
          refine gE ?_
          exact pL
    · refine sg 10 (mkE (s_0.append (s_3.append ((16, B (leI 97 x1)) :: ((15, B (leI 97 x1)) :: ((14, U x1) :: (s_1.append [(4, U x1)])))))) [] 48) ?_
      refine sb 23 (ltI 0 z0) ?_ ?_
      · refine sg 13 (mkE ((26, B (leI 48 x1)) :: ((25, B (leI 48 x1)) :: ((24, U x1) :: ((23, B true) :: (s_0.append (s_3.append ((16, B (leI 97 x1)) :: ((15, B (leI 97 x1)) :: ((14, U x1) :: (s_1.append [(4, U x1)])))))))))) [] 48) ?_
        refine sb 26 (leI 48 x1) ?_ ?_
        · refine sg 17 (mkE ((30, B (leI x1 57)) :: ((29, B (leI x1 57)) :: ((28, B (leI x1 57)) :: ((27, U x1) :: ((26, B true) :: ((26, B (leI 48 x1)) :: ((25, B (leI 48 x1)) :: ((24, U x1) :: ((23, B true) :: (s_0.append (s_3.append ((16, B (leI 97 x1)) :: ((15, B (leI 97 x1)) :: ((14, U x1) :: (s_1.append [(4, U x1)]))))))))))))))) [] 48) ?_
          refine sb 30 (leI x1 57) ?_ ?_
          · refine se (mkE (s_1.append [(40, B false)]) [] 48) ?_
            refine pN ?_
            refine pS ?_
            refine gF (.tmp 40) ?_
            refine gK ?_
            refine pB ?_
            refine pN ?_
            refine pS ?_
            refine gR 3 (rg Tryz.f50 3) ?_
            refine se (mkE s_2 [] 48) ?_
            exact pL
          · refine sg 21 (mkE ((34, B (eqI x1 45)) :: ((33, B (eqI x1 45)) :: ((32, B (eqI x1 45)) :: ((31, U x1) :: ((30, B false) :: ((30, B (leI x1 57)) :: ((29, B (leI x1 57)) :: ((28, B (leI x1 57)) :: ((27, U x1) :: ((26, B true) :: ((26, B (leI 48 x1)) :: ((25, B (leI 48 x1)) :: ((24, U x1) :: ((23, B true) :: (s_0.append (s_3.append ((16, B (leI 97 x1)) :: ((15, B (leI 97 x1)) :: ((14, U x1) :: (s_1.append [(4, U x1)])))))))))))))))))))) [] 48) ?_
            refine sb 34 (eqI x1 45) ?_ ?_
            · refine se (mkE (s_1.append [(40, B false)]) [] 48) ?_
              refine pN ?_
              refine pS ?_
              refine gF (.tmp 40) ?_
              refine gK ?_
              refine pB ?_
              refine pN ?_
              refine pS ?_
              refine gR 3 (rg Tryz.f50 3) ?_
              refine se (mkE s_2 [] 48) ?_
              exact pL
            · refine se (mkE (s_1.append [(40, B (!(eqI x1 95)))]) [] 48) ?_
              refine pN ?_
              refine pS ?_
              refine gC 40 (!(eqI x1 95)) ?_ ?_
              · refine gS 0 ?_
                refine gR 6 (rg Tryz.f50 6) ?_
                refine se (mkE [(2, B false)] [] 48) ?_
                refine pN ?_
                refine pS ?_
                refine gE ?_
                exact pL
              · refine gK ?_
                refine pB ?_
                refine pN ?_
                refine pS ?_
                refine gR 3 (rg Tryz.f50 3) ?_
                refine se (mkE s_2 [] 48) ?_
                exact pL
        · refine sg 21 (mkE ((34, B (eqI x1 45)) :: ((33, B (eqI x1 45)) :: ((32, B (eqI x1 45)) :: ((31, U x1) :: ((30, B false) :: ((29, B false) :: ((28, .und) :: ((27, .und) :: ((26, B false) :: ((26, B (leI 48 x1)) :: ((25, B (leI 48 x1)) :: ((24, U x1) :: ((23, B true) :: (s_0.append (s_3.append ((16, B (leI 97 x1)) :: ((15, B (leI 97 x1)) :: ((14, U x1) :: (s_1.append [(4, U x1)]))))))))))))))))))) [] 48) ?_
          refine sb 34 (eqI x1 45) ?_ ?_
          · refine se (mkE (s_1.append [(40, B false)]) [] 48) ?_
            refine pN ?_
            refine pS ?_
            refine gF (.tmp 40) ?_
            refine gK ?_
            refine pB ?_
            refine pN ?_
            refine pS ?_
            refine gR 3 (rg Tryz.f50 3) ?_
            refine se (mkE s_2 [] 48) ?_
            exact pL
          · refine se (mkE (s_1.append [(40, B (!(eqI x1 95)))]) [] 48) ?_
            refine pN ?_
            refine pS ?_
            refine gC 40 (!(eqI x1 95)) ?_ ?_
            · refine gS 0 ?_
              refine gR 6 (rg Tryz.f50 6) ?_
              refine se (mkE [(2, B false)] [] 48) ?_
              refine pN ?_
              refine pS ?_
              refine gE ?_
              exact pL
            · refine gK ?_
              refine pB ?_
              refine pN ?_
              refine pS ?_
              refine gR 3 (rg Tryz.f50 3) ?_
              refine se (mkE s_2 [] 48) ?_
              exact pL
      · refine se (mkE (s_1.append [(40, B true)]) [] 48) ?_
        refine pN ?_
        refine pS ?_
        refine gT (.tmp 40) ?_
        refine gS 0 ?_
        refine gR 6 (rg Tryz.f50 6) ?_
        refine se (mkE [(2, B false)] [] 48) ?_
        refine pN ?_
        refine pS ?_
        refine gE ?_
        exact pL
  · refine gX 0 ?_
    exact pL
noncomputable def T50 (p0 : ByteArray) : Option Bool := ((iter (L50_2 p0) 0).bind fun y2 => (Sum.elim (fun y2a => (bif (!eqS p0 (ByteArray.mk #[])) then (some (leI (lenS p0) 40)) else (some false))) (fun y2b => (some false)) y2))
theorem B50 (C : Callee) (p0 : ByteArray) : runs Tryz.prog C (cfg.fn 50) (finFn Tryz.prog (cfg.fn 50).byval Tryz.f50) [] (execA Tryz.prog C (cfg.fn 50) (nr Tryz.f50 []) (frame0 [S p0] 48 false)) = (T50 p0).map B := by
  unfold T50
  refine gS 1 ?_
  refine gR 0 (rg Tryz.f50 0) ?_
  refine se (mkE [(0, S p0)] [] 48) ?_
  refine pN ?_
  refine pS ?_
  refine gS 7 ?_
  refine gS 2 ?_
  refine gR 1 (rg Tryz.f50 1) ?_
  refine se (mkE [(0, S p0), (3, I 0)] [] 48) ?_
  refine pN ?_
  refine pS ?_
  refine gB 0 ?_
  refine lo [(0, none), (3, none)] [] (L50_2 p0) (fun z0 : Int => (mkE [(0, S p0), (3, I z0)] [] 48)) (Sum.elim (fun (x : (Int × Bool)) => (.exit 0, (mkE [(0, S p0), (3, I x.1), (8, B x.2)] [] 48))) (fun (x : Unit) => (.ret, (mkE [(2, B false)] [] 48)))) 0 (fun z => L50_2_ok C p0 z) ?_
  intro y2
  refine ss y2 (Z := (Sum.elim (fun (x : (Int × Bool)) => (.exit 0, (mkE [(0, S p0), (3, I x.1), (8, B x.2)] [] 48))) (fun (x : Unit) => (.ret, (mkE [(2, B false)] [] 48))))) (fun y2a => ?_) (fun y2b => ?_)
  · refine pH ?_
    refine pN ?_
    refine pS ?_
    refine gS 0 ?_
    refine gR 7 (rg Tryz.f50 7) ?_
    refine sg 3 (mkE [(43, B (!eqS p0 (ByteArray.mk #[]))), (42, B (!eqS p0 (ByteArray.mk #[]))), (41, S p0), (0, S p0), (3, I y2a.1), (8, B y2a.2)] [] 48) ?_
    refine sb 43 (!eqS p0 (ByteArray.mk #[])) ?_ ?_
    · refine se (mkE [(2, B (leI (lenS p0) 40))] [] 48) ?_
      refine pN ?_
      refine pS ?_
      refine gE ?_
      exact pL
    · refine se (mkE [(2, B false)] [] 48) ?_
      refine pN ?_
      refine pS ?_
      refine gE ?_
      exact pL
  · exact pL
theorem F50 (m : Nat) (hm : 1 ≤ m) (p0 : ByteArray) : callA Tryz.prog cfg m 50 [S p0] = (T50 p0).map B := by
  obtain ⟨q, rfl⟩ : ∃ q, m = q + 1 := ⟨m - 1, by omega⟩
  exact (callA_body (fn := Tryz.f50) (c := body_ Tryz.f50) q _ (by kernel_rfl) (by kernel_rfl) (by kernel_rfl)).trans (B50 _ p0)

noncomputable def T64 (p0 : Int) (p1 : Int) (p2 : Int) : Option Bool := (bif (ltI p0 p1) then (some true) else (some (ltI p2 p0)))
theorem B64 (C : Callee) (p0 : Int) (p1 : Int) (p2 : Int) : runs Tryz.prog C (cfg.fn 64) (finFn Tryz.prog (cfg.fn 64).byval Tryz.f64) [] (execA Tryz.prog C (cfg.fn 64) (nr Tryz.f64 []) (frame0 [I p0, I p1, I p2] 15 false)) = (T64 p0 p1 p2).map B := by
  unfold T64
  refine gS 1 ?_
  refine gR 0 (rg Tryz.f64 0) ?_
  refine se (mkE [(0, I p0), (1, I p1), (2, I p2)] [] 15) ?_
  refine pN ?_
  refine pS ?_
  refine gS 0 ?_
  refine gR 1 (rg Tryz.f64 1) ?_
  refine sg 4 (mkE [(10, B (ltI p0 p1)), (9, B (ltI p0 p1)), (8, I p1), (7, I p0), (0, I p0), (1, I p1), (2, I p2)] [] 15) ?_
  refine sb 10 (ltI p0 p1) ?_ ?_
  · refine se (mkE [(6, B true)] [] 15) ?_
    refine pN ?_
    refine pS ?_
    refine gE ?_
    exact pL
  · refine se (mkE [(6, B (ltI p2 p0))] [] 15) ?_
    refine pN ?_
    refine pS ?_
    refine gE ?_
    exact pL
theorem F64 (m : Nat) (hm : 1 ≤ m) (p0 : Int) (p1 : Int) (p2 : Int) : callA Tryz.prog cfg m 64 [I p0, I p1, I p2] = (T64 p0 p1 p2).map B := by
  obtain ⟨q, rfl⟩ : ∃ q, m = q + 1 := ⟨m - 1, by omega⟩
  exact (callA_body (fn := Tryz.f64) (c := body_ Tryz.f64) q _ (by kernel_rfl) (by kernel_rfl) (by kernel_rfl)).trans (B64 _ p0 p1 p2)

noncomputable def T72 (p0 : Int) : Option Bool := ((T64 p0 1 20000).bind fun x1 => (some (!x1)))
theorem B72 (C : Callee) (h64 : ∀ (p0 : Int) (p1 : Int) (p2 : Int), C 64 [I p0, I p1, I p2] = (T64 p0 p1 p2).map B) (p0 : Int) : runs Tryz.prog C (cfg.fn 72) (finFn Tryz.prog (cfg.fn 72).byval Tryz.f72) [] (execA Tryz.prog C (cfg.fn 72) (nr Tryz.f72 []) (frame0 [I p0] 6 false)) = (T72 p0).map B := by
  unfold T72
  refine gS 1 ?_
  refine gR 0 (rg Tryz.f72 0) ?_
  refine se (mkE [(0, I p0)] [] 6) ?_
  refine pN ?_
  refine pS ?_
  refine gS 0 ?_
  refine gR 1 (rg Tryz.f72 1) ?_
  refine sg 1 (mkE [(3, I p0), (0, I p0)] [] 6) ?_
  refine co 4 [] (h64 p0 1 20000) (fun x1 => ?_)
  refine se (mkE [(2, B (!x1))] [] 6) ?_
  refine pN ?_
  refine pS ?_
  refine gE ?_
  exact pL
theorem F72 (m : Nat) (hm : 2 ≤ m) (p0 : Int) : callA Tryz.prog cfg m 72 [I p0] = (T72 p0).map B := by
  obtain ⟨q, rfl⟩ : ∃ q, m = q + 1 := ⟨m - 1, by omega⟩
  exact (callA_body (fn := Tryz.f72) (c := body_ Tryz.f72) q _ (by kernel_rfl) (by kernel_rfl) (by kernel_rfl)).trans (B72 _ (fun p0 p1 p2 => F64 q (by omega) p0 p1 p2) p0)

noncomputable def L51_2 (p0 : (List Int)) (z0 : Int) : Option (Int ⊕ ((Int × Bool) ⊕ Unit)) := (bif (ltI z0 (lenL p0)) then ((listAt p0 z0).bind fun x1 => ((T72 x1).bind fun x2 => (bif (!x2) then (some (.inr (.inr ()))) else (some (.inl (addI .i64 z0 1)))))) else (some (.inr (.inl (z0, (ltI z0 (lenL p0)))))))
theorem L51_2_ok (C : Callee) (h72 : ∀ (p0 : Int), C 72 [I p0] = (T72 p0).map B) (p0 : (List Int)) (z0 : Int) : runs Tryz.prog C (cfg.fn 51) (finLoop ((cfg.fn 51).keep 2) ((cfg.fn 51).al 2)) [] (execA Tryz.prog C (cfg.fn 51) (nr Tryz.f51 [false, false, true, false, true]) ((fun z0 : Int => (mkE [(5, LL I p0), (6, I (lenL p0)), (7, I z0)] [] 15)) z0)) = (L51_2 p0 z0).map (Sum.elim (fun z => .inl ((fun z0 : Int => (mkE [(5, LL I p0), (6, I (lenL p0)), (7, I z0)] [] 15)) z)) (fun x => .inr ((Sum.elim (fun (x : (Int × Bool)) => (.exit 0, (mkE [(5, LL I p0), (6, I (lenL p0)), (7, I x.1), (8, B x.2)] [] 15))) (fun (x : Unit) => (.ret, (mkE [(2, I 1)] [] 15)))) x))) := by
  unfold L51_2
  refine gS 0 ?_
  refine gR 2 (rg Tryz.f51 2) ?_
  refine se (mkE [(5, LL I p0), (6, I (lenL p0)), (7, I z0), (8, B (ltI z0 (lenL p0)))] [] 15) ?_
  refine pN ?_
  refine pS ?_
  refine gS 3 ?_
  refine gC 8 (ltI z0 (lenL p0)) ?_ ?_
  · refine gK ?_
    refine pN ?_
    refine pS ?_
    refine gS 6 ?_
    refine gB 1 ?_
    refine gS 4 ?_
    refine gR 3 (rg Tryz.f51 3) ?_
    refine vo 9 (addrE 102 3 1 I .i64 p0 z0) (fun x1 => ?_)
    refine se (mkE [(4, I x1), (5, LL I p0), (6, I (lenL p0)), (7, I z0)] [] 15) ?_
    refine pN ?_
    refine pS ?_
    refine gS 0 ?_
    refine gR 4 (rg Tryz.f51 4) ?_
    refine sg 1 (mkE [(11, I x1), (4, I x1), (5, LL I p0), (6, I (lenL p0)), (7, I z0)] [] 15) ?_
    refine co 12 [] (h72 x1) (fun x2 => ?_)
    refine se (mkE [(5, LL I p0), (6, I (lenL p0)), (7, I z0), (13, B (!x2))] [] 15) ?_
    refine pN ?_
    refine pS ?_
    refine gC 13 (!x2) ?_ ?_
    · refine gS 0 ?_
      refine gR 5 (rg Tryz.f51 5) ?_
      refine se (mkE [(2, I 1)] [] 15) ?_
      refine pN ?_
      refine pS ?_
      refine gE ?_
      exact pL
    · refine gK ?_
      refine pB ?_
      refine pN ?_
      refine pS ?_
      refine gR 6 (rg Tryz.f51 6) ?_
      refine se (mkE [(5, LL I p0), (6, I (lenL p0)), (7, I (addI .i64 z0 1))] [] 15) ?_
      exact pL
  · refine gX 0 ?_
    exact pL
noncomputable def T51 (p0 : (List Int)) : Option Int := ((iter (L51_2 p0) 0).bind fun y3 => (Sum.elim (fun y3a => (some 0)) (fun y3b => (some 1)) y3))
theorem B51 (C : Callee) (h72 : ∀ (p0 : Int), C 72 [I p0] = (T72 p0).map B) (p0 : (List Int)) : runs Tryz.prog C (cfg.fn 51) (finFn Tryz.prog (cfg.fn 51).byval Tryz.f51) [] (execA Tryz.prog C (cfg.fn 51) (nr Tryz.f51 []) (frame0 [LL I p0] 15 false)) = (T51 p0).map I := by
  unfold T51
  refine gS 1 ?_
  refine gR 0 (rg Tryz.f51 0) ?_
  refine se (mkE [(0, LL I p0)] [] 15) ?_
  refine pN ?_
  refine pS ?_
  refine gS 7 ?_
  refine gS 2 ?_
  refine gR 1 (rg Tryz.f51 1) ?_
  refine sg 1 (mkE [(5, LL I p0), (0, LL I p0)] [] 15) ?_
  refine eo 6 (I (lenL p0)) (lenE 102 I p0) ?_
  refine se (mkE [(5, LL I p0), (6, I (lenL p0)), (7, I 0)] [] 15) ?_
  refine pN ?_
  refine pS ?_
  refine gB 0 ?_
  refine lo [(5, none), (6, none), (7, none)] [] (L51_2 p0) (fun z0 : Int => (mkE [(5, LL I p0), (6, I (lenL p0)), (7, I z0)] [] 15)) (Sum.elim (fun (x : (Int × Bool)) => (.exit 0, (mkE [(5, LL I p0), (6, I (lenL p0)), (7, I x.1), (8, B x.2)] [] 15))) (fun (x : Unit) => (.ret, (mkE [(2, I 1)] [] 15)))) 0 (fun z => L51_2_ok C h72 p0 z) ?_
  intro y3
  refine ss y3 (Z := (Sum.elim (fun (x : (Int × Bool)) => (.exit 0, (mkE [(5, LL I p0), (6, I (lenL p0)), (7, I x.1), (8, B x.2)] [] 15))) (fun (x : Unit) => (.ret, (mkE [(2, I 1)] [] 15))))) (fun y3a => ?_) (fun y3b => ?_)
  · refine pH ?_
    refine pN ?_
    refine pS ?_
    refine gS 0 ?_
    refine gR 7 (rg Tryz.f51 7) ?_
    refine se (mkE [(2, I 0)] [] 15) ?_
    refine pN ?_
    refine pS ?_
    refine gE ?_
    exact pL
  · exact pL
theorem F51 (m : Nat) (hm : 3 ≤ m) (p0 : (List Int)) : callA Tryz.prog cfg m 51 [LL I p0] = (T51 p0).map I := by
  obtain ⟨q, rfl⟩ : ∃ q, m = q + 1 := ⟨m - 1, by omega⟩
  exact (callA_body (fn := Tryz.f51) (c := body_ Tryz.f51) q _ (by kernel_rfl) (by kernel_rfl) (by kernel_rfl)).trans (B51 _ (fun p0 => F72 q (by omega) p0) p0)

noncomputable def T43 (p0 : S25) : Option Int := ((T64 p0.f0 (-100000) 100000).bind fun x1 => (bif x1 then (some 1) else ((T64 p0.f1 (-100000) 100000).bind fun x2 => (bif x2 then (some 1) else ((T64 p0.f2 1 (subI .i64 100000 p0.f0)).bind fun x3 => (bif x3 then (some 1) else ((T64 p0.f3 1 (subI .i64 100000 p0.f1)).bind fun x4 => (bif x4 then (some 1) else (some 0)))))))))
theorem B43 (C : Callee) (h64 : ∀ (p0 : Int) (p1 : Int) (p2 : Int), C 64 [I p0, I p1, I p2] = (T64 p0 p1 p2).map B) (p0 : S25) : runs Tryz.prog C (cfg.fn 43) (finFn Tryz.prog (cfg.fn 43).byval Tryz.f43) [] (execA Tryz.prog C (cfg.fn 43) (nr Tryz.f43 []) (frame0 [a25 p0] 25 false)) = (T43 p0).map I := by
  unfold T43
  let s_0 : List (Nat × AV) := [(15, I (subI .i64 100000 p0.f0)), (14, I p0.f0), (13, .ba 8 0), (12, I p0.f2), (11, .ba 8 2), (1, .ba 8 0)]
  let o_0 : List (Nat × AObj) := [(8, .box [I p0.f0, I p0.f1, I p0.f2, I p0.f3] false)]
  refine gS 1 ?_
  refine gR 0 (rg Tryz.f43 0) ?_
  refine se (mkE [(1, .ba 8 0)] o_0 25) ?_
  refine pN ?_
  refine pS ?_
  refine gS 3 ?_
  refine gS 0 ?_
  refine gR 1 (rg Tryz.f43 1) ?_
  refine sg 2 (mkE [(4, I p0.f0), (3, .ba 8 0), (1, .ba 8 0)] o_0 25) ?_
  refine co 5 [] (h64 p0.f0 (-100000) 100000) (fun x1 => ?_)
  refine sg 4 (mkE [(6, B x1), (5, B x1), (4, I p0.f0), (3, .ba 8 0), (1, .ba 8 0)] o_0 25) ?_
  refine sb 6 x1 ?_ ?_
  · refine se (mkE [(1, .ba 8 0), (10, B true)] o_0 25) ?_
    refine pN ?_
    refine pS ?_
    refine gT (.tmp 10) ?_
    refine gS 0 ?_
    refine gR 2 (rg Tryz.f43 2) ?_
    refine se (mkE [(2, I 1)] [] 25) ?_
    refine pN ?_
    refine pS ?_
    refine gE ?_
    exact pL
  · refine sg 6 (mkE [(8, I p0.f1), (7, .ba 8 1), (6, B false), (6, B x1), (5, B x1), (4, I p0.f0), (3, .ba 8 0), (1, .ba 8 0)] o_0 25) ?_
    refine co 9 [] (h64 p0.f1 (-100000) 100000) (fun x2 => ?_)
    refine se (mkE [(1, .ba 8 0), (10, B x2)] o_0 25) ?_
    refine pN ?_
    refine pS ?_
    refine gC 10 x2 ?_ ?_
    · refine gS 0 ?_
      refine gR 2 (rg Tryz.f43 2) ?_
      refine se (mkE [(2, I 1)] [] 25) ?_
      refine pN ?_
      refine pS ?_
      refine gE ?_
      exact pL
    · refine gK ?_
      refine pN ?_
      refine pS ?_
      refine gS 5 ?_
      refine gS 0 ?_
      refine gR 3 (rg Tryz.f43 3) ?_
      refine sg 5 (mkE (s_0.append [(10, B x2)]) o_0 25) ?_
      refine co 16 [] (h64 p0.f2 1 (subI .i64 100000 p0.f0)) (fun x3 => ?_)
      refine sg 7 (mkE ((17, B x3) :: ((16, B x3) :: (s_0.append [(10, B x2)]))) o_0 25) ?_
      refine sb 17 x3 ?_ ?_
      · refine se (mkE [(24, B true)] [] 25) ?_
        refine pN ?_
        refine pS ?_
        refine gT (.tmp 24) ?_
        refine gS 0 ?_
        refine gR 4 (rg Tryz.f43 4) ?_
        refine se (mkE [(2, I 1)] [] 25) ?_
        refine pN ?_
        refine pS ?_
        refine gE ?_
        exact pL
      · refine sg 12 (mkE ((22, I (subI .i64 100000 p0.f1)) :: ((21, I p0.f1) :: ((20, .ba 8 1) :: ((19, I p0.f3) :: ((18, .ba 8 3) :: ((17, B false) :: ((17, B x3) :: ((16, B x3) :: (s_0.append [(10, B x2)]))))))))) o_0 25) ?_
        refine co 23 [] (h64 p0.f3 1 (subI .i64 100000 p0.f1)) (fun x4 => ?_)
        refine se (mkE [(24, B x4)] [] 25) ?_
        refine pN ?_
        refine pS ?_
        refine gC 24 x4 ?_ ?_
        · refine gS 0 ?_
          refine gR 4 (rg Tryz.f43 4) ?_
          refine se (mkE [(2, I 1)] [] 25) ?_
          refine pN ?_
          refine pS ?_
          refine gE ?_
          exact pL
        · refine gK ?_
          refine pN ?_
          refine pS ?_
          refine gS 0 ?_
          refine gR 5 (rg Tryz.f43 5) ?_
          refine se (mkE [(2, I 0)] [] 25) ?_
          refine pN ?_
          refine pS ?_
          refine gE ?_
          exact pL
theorem F43 (m : Nat) (hm : 2 ≤ m) (p0 : S25) : callA Tryz.prog cfg m 43 [a25 p0] = (T43 p0).map I := by
  obtain ⟨q, rfl⟩ : ∃ q, m = q + 1 := ⟨m - 1, by omega⟩
  exact (callA_body (fn := Tryz.f43) (c := body_ Tryz.f43) q _ (by kernel_rfl) (by kernel_rfl) (by kernel_rfl)).trans (B43 _ (fun p0 p1 p2 => F64 q (by omega) p0 p1 p2) p0)

noncomputable def T52 (p0 : S25) (p1 : Int) (p2 : Int) : Option Bool := (bif (leI 0 p0.f0) then (bif (leI 0 p0.f1) then (bif (leI (addI .i64 p0.f0 p0.f2) p1) then (some (leI (addI .i64 p0.f1 p0.f3) p2)) else (some false)) else (some false)) else (some false))
theorem B52 (C : Callee) (p0 : S25) (p1 : Int) (p2 : Int) : runs Tryz.prog C (cfg.fn 52) (finFn Tryz.prog (cfg.fn 52).byval Tryz.f52) [] (execA Tryz.prog C (cfg.fn 52) (nr Tryz.f52 []) (frame0 [a25 p0, I p1, I p2] 33 false)) = (T52 p0 p1 p2).map B := by
  unfold T52
  let s_0 : List (Nat × AV) := [(15, B (leI 0 p0.f1)), (14, B (leI 0 p0.f1)), (13, B (leI 0 p0.f1)), (12, I p0.f1), (11, .ba 24 1), (10, B true), (10, B (leI 0 p0.f0)), (9, B (leI 0 p0.f0)), (8, I p0.f0), (7, .ba 24 0), (1, I p1), (2, I p2), (3, .ba 24 0)]
  let o_0 : List (Nat × AObj) := [(24, .box [I p0.f0, I p0.f1, I p0.f2, I p0.f3] false)]
  refine gS 1 ?_
  refine gR 0 (rg Tryz.f52 0) ?_
  refine se (mkE [(1, I p1), (2, I p2), (3, .ba 24 0)] o_0 33) ?_
  refine pN ?_
  refine pS ?_
  refine gS 0 ?_
  refine gR 1 (rg Tryz.f52 1) ?_
  refine sg 4 (mkE [(10, B (leI 0 p0.f0)), (9, B (leI 0 p0.f0)), (8, I p0.f0), (7, .ba 24 0), (1, I p1), (2, I p2), (3, .ba 24 0)] o_0 33) ?_
  refine sb 10 (leI 0 p0.f0) ?_ ?_
  · refine sg 9 (mkE s_0 o_0 33) ?_
    refine sb 15 (leI 0 p0.f1) ?_ ?_
    · refine sg 18 (mkE ((24, B (leI (addI .i64 p0.f0 p0.f2) p1)) :: ((23, B (leI (addI .i64 p0.f0 p0.f2) p1)) :: ((22, B (leI (addI .i64 p0.f0 p0.f2) p1)) :: ((21, I p1) :: ((20, I (addI .i64 p0.f0 p0.f2)) :: ((19, I p0.f2) :: ((18, .ba 24 2) :: ((17, I p0.f0) :: ((16, .ba 24 0) :: ((15, B true) :: s_0)))))))))) o_0 33) ?_
      refine sb 24 (leI (addI .i64 p0.f0 p0.f2) p1) ?_ ?_
      · refine se (mkE [(6, B (leI (addI .i64 p0.f1 p0.f3) p2))] [] 33) ?_
        refine pN ?_
        refine pS ?_
        refine gE ?_
        exact pL
      · refine se (mkE [(6, B false)] [] 33) ?_
        refine pN ?_
        refine pS ?_
        refine gE ?_
        exact pL
    · refine se (mkE [(6, B false)] [] 33) ?_
      refine pN ?_
      refine pS ?_
      refine gE ?_
      exact pL
  · refine se (mkE [(6, B false)] [] 33) ?_
    refine pN ?_
    refine pS ?_
    refine gE ?_
    exact pL
theorem F52 (m : Nat) (hm : 1 ≤ m) (p0 : S25) (p1 : Int) (p2 : Int) : callA Tryz.prog cfg m 52 [a25 p0, I p1, I p2] = (T52 p0 p1 p2).map B := by
  obtain ⟨q, rfl⟩ : ∃ q, m = q + 1 := ⟨m - 1, by omega⟩
  exact (callA_body (fn := Tryz.f52) (c := body_ Tryz.f52) q _ (by kernel_rfl) (by kernel_rfl) (by kernel_rfl)).trans (B52 _ p0 p1 p2)

noncomputable def T44 (p0 : S25) (p1 : S25) : Option (S25 × Bool) := (bif (leI (subI .i64 (minI (addI .i64 p0.f0 p0.f2) (addI .i64 p1.f0 p1.f2)) (maxI p0.f0 p1.f0)) 0) then (some ((S25.mk 0 0 0 0), false)) else (bif (leI (subI .i64 (minI (addI .i64 p0.f1 p0.f3) (addI .i64 p1.f1 p1.f3)) (maxI p0.f1 p1.f1)) 0) then (some ((S25.mk 0 0 0 0), false)) else (some ((S25.mk (maxI p0.f0 p1.f0) (maxI p0.f1 p1.f1) (subI .i64 (minI (addI .i64 p0.f0 p0.f2) (addI .i64 p1.f0 p1.f2)) (maxI p0.f0 p1.f0)) (subI .i64 (minI (addI .i64 p0.f1 p0.f3) (addI .i64 p1.f1 p1.f3)) (maxI p0.f1 p1.f1))), true))))
theorem B44 (C : Callee) (p0 : S25) (p1 : S25) : runs Tryz.prog C (cfg.fn 44) (finFn Tryz.prog (cfg.fn 44).byval Tryz.f44) [] (execA Tryz.prog C (cfg.fn 44) (nr Tryz.f44 []) (frame0 [a25 p0, a25 p1] 58 false)) = (T44 p0 p1).map (fun r => AV.tup [a25 r.1, B r.2]) := by
  unfold T44
  let s_0 : List (Nat × AV) := [(4, .ba 32 0), (6, I (maxI p0.f0 p1.f0)), (7, I (maxI p0.f1 p1.f1)), (8, I (subI .i64 (minI (addI .i64 p0.f0 p0.f2) (addI .i64 p1.f0 p1.f2)) (maxI p0.f0 p1.f0))), (9, I (subI .i64 (minI (addI .i64 p0.f1 p0.f3) (addI .i64 p1.f1 p1.f3)) (maxI p0.f1 p1.f1)))]
  let o_0 : List (Nat × AObj) := [(32, .box [I 0, I 0, I 0, I 0] false)]
  refine gS 1 ?_
  refine gR 0 (rg Tryz.f44 0) ?_
  refine se (mkE [(2, .ba 16 0), (3, .ba 24 0), (4, .ba 32 0)] ((16, .box [I p0.f0, I p0.f1, I p0.f2, I p0.f3] false) :: ((24, .box [I p1.f0, I p1.f1, I p1.f2, I p1.f3] false) :: o_0)) 58) ?_
  refine pN ?_
  refine pS ?_
  refine gS 2 ?_
  refine dq 1 (rg Tryz.f44 1) (mkE [(2, .ba 16 0), (3, .ba 24 0), (4, .ba 32 0), (6, I (maxI p0.f0 p1.f0)), (7, I (maxI p0.f1 p1.f1))] ((16, .box [I p0.f0, I p0.f1, I p0.f2, I p0.f3] false) :: ((24, .box [I p1.f0, I p1.f1, I p1.f2, I p1.f3] false) :: o_0)) 58) ?_
  refine pN ?_
  refine pS ?_
  refine gS 3 ?_
  refine dq 2 (rg Tryz.f44 2) (mkE s_0 o_0 58) ?_
  refine pN ?_
  refine pS ?_
  refine gS 5 ?_
  refine gS 0 ?_
  refine gR 3 (rg Tryz.f44 3) ?_
  refine sg 3 (mkE ((48, B (leI (subI .i64 (minI (addI .i64 p0.f0 p0.f2) (addI .i64 p1.f0 p1.f2)) (maxI p0.f0 p1.f0)) 0)) :: ((47, B (leI (subI .i64 (minI (addI .i64 p0.f0 p0.f2) (addI .i64 p1.f0 p1.f2)) (maxI p0.f0 p1.f0)) 0)) :: ((46, I (subI .i64 (minI (addI .i64 p0.f0 p0.f2) (addI .i64 p1.f0 p1.f2)) (maxI p0.f0 p1.f0))) :: s_0))) o_0 58) ?_
  refine sb 48 (leI (subI .i64 (minI (addI .i64 p0.f0 p0.f2) (addI .i64 p1.f0 p1.f2)) (maxI p0.f0 p1.f0)) 0) ?_ ?_
  · refine se (mkE (s_0.append [(51, B true)]) o_0 58) ?_
    refine pN ?_
    refine pS ?_
    refine gT (.tmp 51) ?_
    refine gS 0 ?_
    refine gR 4 (rg Tryz.f44 4) ?_
    refine se (mkE [(4, .ba 32 0), (5, B false)] o_0 58) ?_
    refine pN ?_
    refine pS ?_
    refine gE ?_
    exact pL
  · refine se (mkE (s_0.append [(51, B (leI (subI .i64 (minI (addI .i64 p0.f1 p0.f3) (addI .i64 p1.f1 p1.f3)) (maxI p0.f1 p1.f1)) 0))]) o_0 58) ?_
    refine pN ?_
    refine pS ?_
    refine gC 51 (leI (subI .i64 (minI (addI .i64 p0.f1 p0.f3) (addI .i64 p1.f1 p1.f3)) (maxI p0.f1 p1.f1)) 0) ?_ ?_
    · refine gS 0 ?_
      refine gR 4 (rg Tryz.f44 4) ?_
      refine se (mkE [(4, .ba 32 0), (5, B false)] o_0 58) ?_
      refine pN ?_
      refine pS ?_
      refine gE ?_
      exact pL
    · refine gK ?_
      refine pN ?_
      refine pS ?_
      refine gS 0 ?_
      refine gR 5 (rg Tryz.f44 5) ?_
      refine se (mkE [(4, .ba 32 0), (5, B true)] [(32, .box [I (maxI p0.f0 p1.f0), I (maxI p0.f1 p1.f1), I (subI .i64 (minI (addI .i64 p0.f0 p0.f2) (addI .i64 p1.f0 p1.f2)) (maxI p0.f0 p1.f0)), I (subI .i64 (minI (addI .i64 p0.f1 p0.f3) (addI .i64 p1.f1 p1.f3)) (maxI p0.f1 p1.f1))] false)] 58) ?_
      refine pN ?_
      refine pS ?_
      refine gE ?_
      exact pL
theorem F44 (m : Nat) (hm : 1 ≤ m) (p0 : S25) (p1 : S25) : callA Tryz.prog cfg m 44 [a25 p0, a25 p1] = (T44 p0 p1).map (fun r => AV.tup [a25 r.1, B r.2]) := by
  obtain ⟨q, rfl⟩ : ∃ q, m = q + 1 := ⟨m - 1, by omega⟩
  exact (callA_body (fn := Tryz.f44) (c := body_ Tryz.f44) q _ (by kernel_rfl) (by kernel_rfl) (by kernel_rfl)).trans (B44 _ p0 p1)

noncomputable def L16_9 (p0 : S23) (z0 : Int) : Option (Int ⊕ ((Int × Bool) ⊕ Int)) := (bif (ltI z0 (lenL p0.f3)) then ((listAt p0.f3 z0).bind fun x3 => ((T50 x3.f0).bind fun x4 => (bif (!x4) then (some (.inr (.inr 5))) else ((T43 x3.f1).bind fun x5 => (bif (neI x5 0) then (some (.inr (.inr x5))) else ((T52 x3.f1 p0.f1 p0.f2).bind fun x6 => (bif (!x6) then (some (.inr (.inr 3))) else (bif (ltI 0 z0) then ((listAt p0.f3 (subI .i64 z0 1)).bind fun x7 => (bif (ltS x3.f0 x7.f0 || eqS x3.f0 x7.f0) then (some (.inr (.inr 7))) else (some (.inl (addI .i64 z0 1))))) else (some (.inl (addI .i64 z0 1))))))))))) else (some (.inr (.inl (z0, (ltI z0 (lenL p0.f3)))))))
theorem L16_9_ok (C : Callee) (h43 : ∀ (p0 : S25), C 43 [a25 p0] = (T43 p0).map I) (h50 : ∀ (p0 : ByteArray), C 50 [S p0] = (T50 p0).map B) (h52 : ∀ (p0 : S25) (p1 : Int) (p2 : Int), C 52 [a25 p0, I p1, I p2] = (T52 p0 p1 p2).map B) (p0 : S23) (z0 : Int) : runs Tryz.prog C (cfg.fn 16) (finLoop ((cfg.fn 16).keep 9) ((cfg.fn 16).al 9)) [] (execA Tryz.prog C (cfg.fn 16) (nr Tryz.f16 [false, false, true, false, true, true, true, true]) ((fun z0 : Int => (mkE [(1, .ba 8 0), (31, LL a37 p0.f3), (32, I (lenL p0.f3)), (33, I z0)] [(8, .box [S p0.f0, I p0.f1, I p0.f2, LL a37 p0.f3] false)] 99)) z0)) = (L16_9 p0 z0).map (Sum.elim (fun z => .inl ((fun z0 : Int => (mkE [(1, .ba 8 0), (31, LL a37 p0.f3), (32, I (lenL p0.f3)), (33, I z0)] [(8, .box [S p0.f0, I p0.f1, I p0.f2, LL a37 p0.f3] false)] 99)) z)) (fun x => .inr ((Sum.elim (fun (x : (Int × Bool)) => (.exit 0, (mkE [(1, .ba 8 0), (31, LL a37 p0.f3), (32, I (lenL p0.f3)), (33, I x.1), (34, B x.2)] [(8, .box [S p0.f0, I p0.f1, I p0.f2, LL a37 p0.f3] false)] 99))) (fun (x : Int) => (.ret, (mkE [(2, I x)] [] 99)))) x))) := by
  unfold L16_9
  let d_0 : List (Option Nat × REff) := [(some 56, qe (I z0)), (some 57, qe (B (ltI 0 z0)))]
  let s_0 : List (Nat × AV) := [(31, LL a37 p0.f3), (32, I (lenL p0.f3)), (33, I z0)]
  let s_1 : List (Nat × AV) := [(1, .ba 8 0), (4, I z0), (5, .ba 40 0)]
  let o_0 : List (Nat × AObj) := [(8, .box [S p0.f0, I p0.f1, I p0.f2, LL a37 p0.f3] false)]
  refine gS 0 ?_
  refine gR 9 (rg Tryz.f16 9) ?_
  refine se (mkE ((1, .ba 8 0) :: (s_0.append [(34, B (ltI z0 (lenL p0.f3)))])) o_0 99) ?_
  refine pN ?_
  refine pS ?_
  refine gS 10 ?_
  refine gC 34 (ltI z0 (lenL p0.f3)) ?_ ?_
  · refine gK ?_
    refine pN ?_
    refine pS ?_
    refine gS 20 ?_
    refine gB 1 ?_
    refine gS 11 ?_
    refine gR 10 (rg Tryz.f16 10) ?_
    refine sg 1 (mkE ((35, I z0) :: ((1, .ba 8 0) :: (s_0.append [(34, B (ltI z0 (lenL p0.f3)))]))) o_0 99) ?_
    refine vo 36 (addrE 22 38 5 a37 .i64 p0.f3 z0) (fun x3 => ?_)
    refine se (mkE (s_1.append s_0) (o_0.append [(40, .box [S x3.f0, I x3.f1.f0, I x3.f1.f1, I x3.f1.f2, I x3.f1.f3] false)]) 99) ?_
    refine pN ?_
    refine pS ?_
    refine gS 13 ?_
    refine gS 0 ?_
    refine gR 11 (rg Tryz.f16 11) ?_
    refine sg 2 (mkE ((39, S x3.f0) :: ((38, .ba 40 0) :: (s_1.append s_0))) (o_0.append [(40, .box [S x3.f0, I x3.f1.f0, I x3.f1.f1, I x3.f1.f2, I x3.f1.f3] false)]) 99) ?_
    refine co 40 [] (h50 x3.f0) (fun x4 => ?_)
    refine se (mkE (s_1.append (s_0.append [(41, B (!x4))])) (o_0.append [(40, .box [S x3.f0, I x3.f1.f0, I x3.f1.f1, I x3.f1.f2, I x3.f1.f3] false)]) 99) ?_
    refine pN ?_
    refine pS ?_
    refine gC 41 (!x4) ?_ ?_
    · refine gS 0 ?_
      refine gR 12 (rg Tryz.f16 12) ?_
      refine se (mkE [(2, I 5)] [] 99) ?_
      refine pN ?_
      refine pS ?_
      refine gE ?_
      exact pL
    · refine gK ?_
      refine pN ?_
      refine pS ?_
      refine gS 16 ?_
      refine gS 14 ?_
      refine gR 13 (rg Tryz.f16 13) ?_
      refine sg 2 (mkE ((43, a25 x3.f1) :: ((42, .ba 40 1) :: (s_1.append (s_0.append [(41, B (!x4))])))) (o_0.append [(40, .box [S x3.f0, I x3.f1.f0, I x3.f1.f1, I x3.f1.f2, I x3.f1.f3] false)]) 99) ?_
      refine co 44 [] (h43 x3.f1) (fun x5 => ?_)
      refine se (mkE (s_1.append ((6, I x5) :: s_0)) (o_0.append [(40, .box [S x3.f0, I x3.f1.f0, I x3.f1.f1, I x3.f1.f2, I x3.f1.f3] false)]) 99) ?_
      refine pN ?_
      refine pS ?_
      refine gS 0 ?_
      refine gR 14 (rg Tryz.f16 14) ?_
      refine se (mkE (s_1.append ((6, I x5) :: (s_0.append [(46, B (neI x5 0))]))) (o_0.append [(40, .box [S x3.f0, I x3.f1.f0, I x3.f1.f1, I x3.f1.f2, I x3.f1.f3] false)]) 99) ?_
      refine pN ?_
      refine pS ?_
      refine gC 46 (neI x5 0) ?_ ?_
      · refine gS 0 ?_
        refine gR 15 (rg Tryz.f16 15) ?_
        refine se (mkE [(2, I x5)] [] 99) ?_
        refine pN ?_
        refine pS ?_
        refine gE ?_
        exact pL
      · refine gK ?_
        refine pN ?_
        refine pS ?_
        refine gS 18 ?_
        refine gS 0 ?_
        refine gR 16 (rg Tryz.f16 16) ?_
        refine sg 6 (mkE ((53, I p0.f2) :: ((52, .ba 8 2) :: ((51, I p0.f1) :: ((50, .ba 8 1) :: ((49, a25 x3.f1) :: ((48, .ba 40 1) :: (s_1.append ((6, I x5) :: (s_0.append [(46, B (neI x5 0))]))))))))) (o_0.append [(40, .box [S x3.f0, I x3.f1.f0, I x3.f1.f1, I x3.f1.f2, I x3.f1.f3] false)]) 99) ?_
        refine co 54 [] (h52 x3.f1 p0.f1 p0.f2) (fun x6 => ?_)
        refine se (mkE (s_1.append (s_0.append [(55, B (!x6))])) (o_0.append [(40, .box [S x3.f0, I x3.f1.f0, I x3.f1.f1, I x3.f1.f2, I x3.f1.f3] false)]) 99) ?_
        refine pN ?_
        refine pS ?_
        refine gC 55 (!x6) ?_ ?_
        · refine gS 0 ?_
          refine gR 17 (rg Tryz.f16 17) ?_
          refine se (mkE [(2, I 3)] [] 99) ?_
          refine pN ?_
          refine pS ?_
          refine gE ?_
          exact pL
        · refine gK ?_
          refine pN ?_
          refine pS ?_
          refine gS 0 ?_
          refine gD 18 14 (rg Tryz.f16 18) [0, 1, 2, 3, 4, 5, 6, 7, 8, 9, 10, 11, 12, 13] ?_
          refine dg 3 (d_0.append [(some 58, qe (B (ltI 0 z0)))]) ?_
          refine db 2 58 (ltI 0 z0) ?_ ?_
          · refine dg 9 (d_0.append ((some 58, qe (B true)) :: ((some 59, qe (.ba 40 0)) :: ((some 60, qe (S x3.f0)) :: ((some 61, qe (.ba 8 3)) :: ((some 62, qe (LL a37 p0.f3)) :: ((some 63, qe (I z0)) :: [(some 64, qe (I (subI .i64 z0 1)))]))))))) ?_
            refine dv 65 (mkE ((64, I (subI .i64 z0 1)) :: ((63, I z0) :: ((62, LL a37 p0.f3) :: ((61, .ba 8 3) :: ((58, B true) :: ((57, B (ltI 0 z0)) :: ((56, I z0) :: (s_1.append (s_0.append [(55, B (!x6))]))))))))) (o_0.append [(40, .box [S x3.f0, I x3.f1.f0, I x3.f1.f1, I x3.f1.f2, I x3.f1.f3] false)]) 99) (addrE 22 38 5 a37 .i64 p0.f3 (subI .i64 z0 1)) (fun x7 => ?_)
            refine dg 14 (d_0.append ((some 58, qe (B true)) :: ((some 59, qe (.ba 40 0)) :: ((some 60, qe (S x3.f0)) :: ((some 61, qe (.ba 8 3)) :: ((some 62, qe (LL a37 p0.f3)) :: ((some 63, qe (I z0)) :: ((some 64, qe (I (subI .i64 z0 1))) :: ((some 65, qe (.ia [S x7.f0, I x7.f1.f0, I x7.f1.f1, I x7.f1.f2, I x7.f1.f3] 0)) :: ((some 66, qe (.ia [S x7.f0, I x7.f1.f0, I x7.f1.f1, I x7.f1.f2, I x7.f1.f3] 0)) :: ((some 67, qe (S x7.f0)) :: ((some 68, qe (B (ltS x3.f0 x7.f0 || eqS x3.f0 x7.f0))) :: [(some 69, qe (B (ltS x3.f0 x7.f0 || eqS x3.f0 x7.f0)))])))))))))))) ?_
            refine de (mkE ((69, B (ltS x3.f0 x7.f0 || eqS x3.f0 x7.f0)) :: ((68, B (ltS x3.f0 x7.f0 || eqS x3.f0 x7.f0)) :: ((67, S x7.f0) :: ((66, .ia [S x7.f0, I x7.f1.f0, I x7.f1.f1, I x7.f1.f2, I x7.f1.f3] 0) :: ((65, .ia [S x7.f0, I x7.f1.f0, I x7.f1.f1, I x7.f1.f2, I x7.f1.f3] 0) :: ((64, I (subI .i64 z0 1)) :: ((63, I z0) :: ((62, LL a37 p0.f3) :: ((61, .ba 8 3) :: ((60, S x3.f0) :: ((59, .ba 40 0) :: ((58, B true) :: ((57, B (ltI 0 z0)) :: ((56, I z0) :: (s_1.append (s_0.append [(55, B (!x6))])))))))))))))))) (o_0.append [(40, .box [S x3.f0, I x3.f1.f0, I x3.f1.f1, I x3.f1.f2, I x3.f1.f3] false)]) 99) ?_
            refine se (mkE ((1, .ba 8 0) :: (s_0.append [(69, B (ltS x3.f0 x7.f0 || eqS x3.f0 x7.f0))])) o_0 99) ?_
            refine pN ?_
            refine pS ?_
            refine gC 69 (ltS x3.f0 x7.f0 || eqS x3.f0 x7.f0) ?_ ?_
            · refine gS 0 ?_
              refine gR 19 (rg Tryz.f16 19) ?_
              refine se (mkE [(2, I 7)] [] 99) ?_
              refine pN ?_
              refine pS ?_
              refine gE ?_
              exact pL
            · refine gK ?_
              refine pB ?_
              refine pN ?_
              refine pS ?_
              refine gR 20 (rg Tryz.f16 20) ?_
              refine se (mkE [(1, .ba 8 0), (31, LL a37 p0.f3), (32, I (lenL p0.f3)), (33, I (addI .i64 z0 1))] o_0 99) ?_
              exact pL
          · refine dg 14 (d_0.append ((some 58, qe (B false)) :: ((some 59, qe (.und)) :: ((some 60, qe (.und)) :: ((some 61, qe (.und)) :: ((some 62, qe (.und)) :: ((some 63, qe (.und)) :: ((some 64, qe (.und)) :: ((some 65, qe (.und)) :: ((some 66, qe (.und)) :: ((some 67, qe (.und)) :: ((some 68, qe (.und)) :: [(some 69, qe (B false))])))))))))))) ?_
            refine de (mkE ((69, B false) :: ((68, .und) :: ((67, .und) :: ((66, .und) :: ((65, .und) :: ((64, .und) :: ((63, .und) :: ((62, .und) :: ((61, .und) :: ((60, .und) :: ((59, .und) :: ((58, B false) :: ((57, B (ltI 0 z0)) :: ((56, I z0) :: (s_1.append (s_0.append [(55, B (!x6))])))))))))))))))) (o_0.append [(40, .box [S x3.f0, I x3.f1.f0, I x3.f1.f1, I x3.f1.f2, I x3.f1.f3] false)]) 99) ?_
            refine se (mkE ((1, .ba 8 0) :: (s_0.append [(69, B false)])) o_0 99) ?_
            refine pN ?_
            refine pS ?_
            refine gF (.tmp 69) ?_
            refine gK ?_
            refine pB ?_
            refine pN ?_
            refine pS ?_
            refine gR 20 (rg Tryz.f16 20) ?_
            refine se (mkE [(1, .ba 8 0), (31, LL a37 p0.f3), (32, I (lenL p0.f3)), (33, I (addI .i64 z0 1))] o_0 99) ?_
            exact pL
  · refine gX 0 ?_
    exact pL
noncomputable def L16_25 (p0 : S23) (z1 : Int) (x9 : S37) (x10 : (List S37)) (z2 : Int) : Option (Int ⊕ ((Int × Bool) ⊕ Unit)) := (bif (ltI z2 (lenL x10)) then ((listAt x10 z2).bind fun x11 => ((T44 x9.f1 x11.f1).bind fun x12 => (bif x12.2 then (some (.inr (.inr ()))) else (some (.inl (addI .i64 z2 1)))))) else (some (.inr (.inl (z2, (ltI z2 (lenL x10)))))))
theorem L16_25_ok (C : Callee) (h44 : ∀ (p0 : S25) (p1 : S25), C 44 [a25 p0, a25 p1] = (T44 p0 p1).map (fun r => AV.tup [a25 r.1, B r.2])) (p0 : S23) (z1 : Int) (x9 : S37) (x10 : (List S37)) (z2 : Int) : runs Tryz.prog C (cfg.fn 16) (finLoop ((cfg.fn 16).keep 25) ((cfg.fn 16).al 25)) [] (execA Tryz.prog C (cfg.fn 16) (nr Tryz.f16 [false, false, true, true, false, false, true, true, false, false, true, false, true, true, true, true, true]) ((fun z2 : Int => (mkE [(1, .ba 8 0), (8, .ba 64 0), (72, LL a37 p0.f3), (73, I (lenL p0.f3)), (74, I z1), (82, LL a37 x10), (83, I (lenL x10)), (84, I z2)] [(8, .box [S p0.f0, I p0.f1, I p0.f2, LL a37 p0.f3] false), (64, .box [S x9.f0, I x9.f1.f0, I x9.f1.f1, I x9.f1.f2, I x9.f1.f3] false)] 99)) z2)) = (L16_25 p0 z1 x9 x10 z2).map (Sum.elim (fun z => .inl ((fun z2 : Int => (mkE [(1, .ba 8 0), (8, .ba 64 0), (72, LL a37 p0.f3), (73, I (lenL p0.f3)), (74, I z1), (82, LL a37 x10), (83, I (lenL x10)), (84, I z2)] [(8, .box [S p0.f0, I p0.f1, I p0.f2, LL a37 p0.f3] false), (64, .box [S x9.f0, I x9.f1.f0, I x9.f1.f1, I x9.f1.f2, I x9.f1.f3] false)] 99)) z)) (fun x => .inr ((Sum.elim (fun (x : (Int × Bool)) => (.exit 4, (mkE [(1, .ba 8 0), (8, .ba 64 0), (72, LL a37 p0.f3), (73, I (lenL p0.f3)), (74, I z1), (82, LL a37 x10), (83, I (lenL x10)), (84, I x.1), (85, B x.2)] [(8, .box [S p0.f0, I p0.f1, I p0.f2, LL a37 p0.f3] false), (64, .box [S x9.f0, I x9.f1.f0, I x9.f1.f1, I x9.f1.f2, I x9.f1.f3] false)] 99))) (fun (x : Unit) => (.ret, (mkE [(2, I 13)] [] 99)))) x))) := by
  unfold L16_25
  let s_0 : List (Nat × AV) := [(72, LL a37 p0.f3), (73, I (lenL p0.f3)), (74, I z1), (82, LL a37 x10), (83, I (lenL x10))]
  let o_0 : List (Nat × AObj) := [(8, .box [S p0.f0, I p0.f1, I p0.f2, LL a37 p0.f3] false), (64, .box [S x9.f0, I x9.f1.f0, I x9.f1.f1, I x9.f1.f2, I x9.f1.f3] false)]
  refine gS 0 ?_
  refine gR 25 (rg Tryz.f16 25) ?_
  refine se (mkE ((1, .ba 8 0) :: ((8, .ba 64 0) :: (s_0.append ((84, I z2) :: [(85, B (ltI z2 (lenL x10)))])))) o_0 99) ?_
  refine pN ?_
  refine pS ?_
  refine gS 26 ?_
  refine gC 85 (ltI z2 (lenL x10)) ?_ ?_
  · refine gK ?_
    refine pN ?_
    refine pS ?_
    refine gS 30 ?_
    refine gB 5 ?_
    refine gS 27 ?_
    refine gR 26 (rg Tryz.f16 26) ?_
    refine vo 86 (addrE 22 38 5 a37 .i64 x10 z2) (fun x11 => ?_)
    refine se (mkE ((1, .ba 8 0) :: ((8, .ba 64 0) :: ((10, .ba 80 0) :: (s_0.append [(84, I z2)])))) (o_0.append [(80, .box [S x11.f0, I x11.f1.f0, I x11.f1.f1, I x11.f1.f2, I x11.f1.f3] false)]) 99) ?_
    refine pN ?_
    refine pS ?_
    refine gS 28 ?_
    refine gR 27 (rg Tryz.f16 27) ?_
    refine sg 4 (mkE ((92, a25 x11.f1) :: ((91, .ba 80 1) :: ((90, a25 x9.f1) :: ((89, .ba 64 1) :: ((1, .ba 8 0) :: ((8, .ba 64 0) :: ((10, .ba 80 0) :: (s_0.append [(84, I z2)])))))))) (o_0.append [(80, .box [S x11.f0, I x11.f1.f0, I x11.f1.f1, I x11.f1.f2, I x11.f1.f3] false)]) 99) ?_
    refine co 93 [] (h44 x9.f1 x11.f1) (fun x12 => ?_)
    refine se (mkE ((1, .ba 8 0) :: ((8, .ba 64 0) :: ((12, B x12.2) :: (s_0.append [(84, I z2)])))) o_0 99) ?_
    refine pN ?_
    refine pS ?_
    refine gS 0 ?_
    refine gR 28 (rg Tryz.f16 28) ?_
    refine se (mkE ((1, .ba 8 0) :: ((8, .ba 64 0) :: (s_0.append ((84, I z2) :: [(96, B x12.2)])))) o_0 99) ?_
    refine pN ?_
    refine pS ?_
    refine gC 96 x12.2 ?_ ?_
    · refine gS 0 ?_
      refine gR 29 (rg Tryz.f16 29) ?_
      refine se (mkE [(2, I 13)] [] 99) ?_
      refine pN ?_
      refine pS ?_
      refine gE ?_
      exact pL
    · refine gK ?_
      refine pB ?_
      refine pN ?_
      refine pS ?_
      refine gR 30 (rg Tryz.f16 30) ?_
      refine se (mkE ((1, .ba 8 0) :: ((8, .ba 64 0) :: (s_0.append [(84, I (addI .i64 z2 1))]))) o_0 99) ?_
      exact pL
  · refine gX 4 ?_
    exact pL
noncomputable def L16_22 (p0 : S23) (z1 : Int) : Option (Int ⊕ ((Int × Bool) ⊕ Unit)) := (bif (ltI z1 (lenL p0.f3)) then ((listAt p0.f3 z1).bind fun x9 => ((cutL p0.f3 none (some z1)).bind fun x10 => ((iter (L16_25 p0 z1 x9 x10) 0).bind fun y13 => (Sum.elim (fun y13a => (some (.inl (addI .i64 z1 1)))) (fun y13b => (some (.inr (.inr ())))) y13)))) else (some (.inr (.inl (z1, (ltI z1 (lenL p0.f3)))))))
theorem L16_22_ok (C : Callee) (h44 : ∀ (p0 : S25) (p1 : S25), C 44 [a25 p0, a25 p1] = (T44 p0 p1).map (fun r => AV.tup [a25 r.1, B r.2])) (p0 : S23) (z1 : Int) : runs Tryz.prog C (cfg.fn 16) (finLoop ((cfg.fn 16).keep 22) ((cfg.fn 16).al 22)) [] (execA Tryz.prog C (cfg.fn 16) (nr Tryz.f16 [false, false, true, false, true, true, true, true, true]) ((fun z1 : Int => (mkE [(1, .ba 8 0), (72, LL a37 p0.f3), (73, I (lenL p0.f3)), (74, I z1)] [(8, .box [S p0.f0, I p0.f1, I p0.f2, LL a37 p0.f3] false)] 99)) z1)) = (L16_22 p0 z1).map (Sum.elim (fun z => .inl ((fun z1 : Int => (mkE [(1, .ba 8 0), (72, LL a37 p0.f3), (73, I (lenL p0.f3)), (74, I z1)] [(8, .box [S p0.f0, I p0.f1, I p0.f2, LL a37 p0.f3] false)] 99)) z)) (fun x => .inr ((Sum.elim (fun (x : (Int × Bool)) => (.exit 2, (mkE [(1, .ba 8 0), (72, LL a37 p0.f3), (73, I (lenL p0.f3)), (74, I x.1), (75, B x.2)] [(8, .box [S p0.f0, I p0.f1, I p0.f2, LL a37 p0.f3] false)] 99))) (fun (x : Unit) => (.ret, (mkE [(2, I 13)] [] 99)))) x))) := by
  unfold L16_22
  let s_0 : List (Nat × AV) := [(72, LL a37 p0.f3), (73, I (lenL p0.f3)), (74, I z1)]
  let o_0 : List (Nat × AObj) := [(8, .box [S p0.f0, I p0.f1, I p0.f2, LL a37 p0.f3] false)]
  refine gS 0 ?_
  refine gR 22 (rg Tryz.f16 22) ?_
  refine se (mkE ((1, .ba 8 0) :: (s_0.append [(75, B (ltI z1 (lenL p0.f3)))])) o_0 99) ?_
  refine pN ?_
  refine pS ?_
  refine gS 23 ?_
  refine gC 75 (ltI z1 (lenL p0.f3)) ?_ ?_
  · refine gK ?_
    refine pN ?_
    refine pS ?_
    refine gS 31 ?_
    refine gB 3 ?_
    refine gS 24 ?_
    refine gR 23 (rg Tryz.f16 23) ?_
    refine sg 1 (mkE ((76, I z1) :: ((1, .ba 8 0) :: (s_0.append [(75, B (ltI z1 (lenL p0.f3)))]))) o_0 99) ?_
    refine vo 77 (addrE 22 38 5 a37 .i64 p0.f3 z1) (fun x9 => ?_)
    refine se (mkE ((1, .ba 8 0) :: ((7, I z1) :: ((8, .ba 64 0) :: s_0))) (o_0.append [(64, .box [S x9.f0, I x9.f1.f0, I x9.f1.f1, I x9.f1.f2, I x9.f1.f3] false)]) 99) ?_
    refine pN ?_
    refine pS ?_
    refine gS 25 ?_
    refine gR 24 (rg Tryz.f16 24) ?_
    refine sg 3 (mkE ((81, I z1) :: ((80, LL a37 p0.f3) :: ((79, .ba 8 3) :: ((1, .ba 8 0) :: ((7, I z1) :: ((8, .ba 64 0) :: s_0)))))) (o_0.append [(64, .box [S x9.f0, I x9.f1.f0, I x9.f1.f1, I x9.f1.f2, I x9.f1.f3] false)]) 99) ?_
    refine vo 82 (cutLE 22 38 5 a37 .i64 .i64 p0.f3 none (some z1) (.tmp 80) none (some (.tmp 81))) (fun x10 => ?_)
    refine eo 83 (I (lenL x10)) (lenE 22 a37 x10) ?_
    refine se (mkE ((1, .ba 8 0) :: ((8, .ba 64 0) :: (s_0.append ((82, LL a37 x10) :: ((83, I (lenL x10)) :: [(84, I 0)]))))) (o_0.append [(64, .box [S x9.f0, I x9.f1.f0, I x9.f1.f1, I x9.f1.f2, I x9.f1.f3] false)]) 99) ?_
    refine pN ?_
    refine pS ?_
    refine gB 4 ?_
    refine lo [(1, none), (8, none), (72, none), (73, none), (74, none), (82, none), (83, none), (84, none)] [] (L16_25 p0 z1 x9 x10) (fun z2 : Int => (mkE ((1, .ba 8 0) :: ((8, .ba 64 0) :: (s_0.append ((82, LL a37 x10) :: ((83, I (lenL x10)) :: [(84, I z2)]))))) (o_0.append [(64, .box [S x9.f0, I x9.f1.f0, I x9.f1.f1, I x9.f1.f2, I x9.f1.f3] false)]) 99)) (Sum.elim (fun (x : (Int × Bool)) => (.exit 4, (mkE ((1, .ba 8 0) :: ((8, .ba 64 0) :: (s_0.append ((82, LL a37 x10) :: ((83, I (lenL x10)) :: ((84, I x.1) :: [(85, B x.2)])))))) (o_0.append [(64, .box [S x9.f0, I x9.f1.f0, I x9.f1.f1, I x9.f1.f2, I x9.f1.f3] false)]) 99))) (fun (x : Unit) => (.ret, (mkE [(2, I 13)] [] 99)))) 0 (fun z => L16_25_ok C h44 p0 z1 x9 x10 z) ?_
    intro y13
    refine ss y13 (Z := (Sum.elim (fun (x : (Int × Bool)) => (.exit 4, (mkE ((1, .ba 8 0) :: ((8, .ba 64 0) :: (s_0.append ((82, LL a37 x10) :: ((83, I (lenL x10)) :: ((84, I x.1) :: [(85, B x.2)])))))) (o_0.append [(64, .box [S x9.f0, I x9.f1.f0, I x9.f1.f1, I x9.f1.f2, I x9.f1.f3] false)]) 99))) (fun (x : Unit) => (.ret, (mkE [(2, I 13)] [] 99))))) (fun y13a => ?_) (fun y13b => ?_)
    · refine pH ?_
      refine pB ?_
      refine pN ?_
      refine pS ?_
      refine gR 31 (rg Tryz.f16 31) ?_
      refine se (mkE [(1, .ba 8 0), (72, LL a37 p0.f3), (73, I (lenL p0.f3)), (74, I (addI .i64 z1 1))] o_0 99) ?_
      exact pL
    · exact pL
  · refine gX 2 ?_
    exact pL
noncomputable def T16 (p0 : S23) : Option Int := ((T50 p0.f0).bind fun x1 => (bif (!x1) then (some 5) else ((T51 ([p0.f1, p0.f2] : List Int)).bind fun x2 => (bif (neI x2 0) then (some x2) else (bif (ltI 50 (lenL p0.f3)) then (some 2) else ((iter (L16_9 p0) 0).bind fun y8 => (Sum.elim (fun y8a => ((iter (L16_22 p0) 0).bind fun y14 => (Sum.elim (fun y14a => (some 0)) (fun y14b => (some 13)) y14))) (fun y8b => (some y8b)) y8)))))))
theorem B16 (C : Callee) (h43 : ∀ (p0 : S25), C 43 [a25 p0] = (T43 p0).map I) (h44 : ∀ (p0 : S25) (p1 : S25), C 44 [a25 p0, a25 p1] = (T44 p0 p1).map (fun r => AV.tup [a25 r.1, B r.2])) (h50 : ∀ (p0 : ByteArray), C 50 [S p0] = (T50 p0).map B) (h51 : ∀ (p0 : (List Int)), C 51 [LL I p0] = (T51 p0).map I) (h52 : ∀ (p0 : S25) (p1 : Int) (p2 : Int), C 52 [a25 p0, I p1, I p2] = (T52 p0 p1 p2).map B) (p0 : S23) : runs Tryz.prog C (cfg.fn 16) (finFn Tryz.prog (cfg.fn 16).byval Tryz.f16) [] (execA Tryz.prog C (cfg.fn 16) (nr Tryz.f16 []) (frame0 [a23 p0] 99 false)) = (T16 p0).map I := by
  unfold T16
  let s_0 : List (Nat × AV) := [(1, .ba 8 0), (31, LL a37 p0.f3), (32, I (lenL p0.f3))]
  let s_1 : List (Nat × AV) := [(1, .ba 8 0), (72, LL a37 p0.f3), (73, I (lenL p0.f3))]
  let o_0 : List (Nat × AObj) := [(8, .box [S p0.f0, I p0.f1, I p0.f2, LL a37 p0.f3] false)]
  refine gS 1 ?_
  refine gR 0 (rg Tryz.f16 0) ?_
  refine se (mkE [(1, .ba 8 0)] o_0 99) ?_
  refine pN ?_
  refine pS ?_
  refine gS 3 ?_
  refine gS 0 ?_
  refine gR 1 (rg Tryz.f16 1) ?_
  refine sg 2 (mkE [(14, S p0.f0), (13, .ba 8 0), (1, .ba 8 0)] o_0 99) ?_
  refine co 15 [] (h50 p0.f0) (fun x1 => ?_)
  refine se (mkE [(1, .ba 8 0), (16, B (!x1))] o_0 99) ?_
  refine pN ?_
  refine pS ?_
  refine gC 16 (!x1) ?_ ?_
  · refine gS 0 ?_
    refine gR 2 (rg Tryz.f16 2) ?_
    refine se (mkE [(2, I 5)] [] 99) ?_
    refine pN ?_
    refine pS ?_
    refine gE ?_
    exact pL
  · refine gK ?_
    refine pN ?_
    refine pS ?_
    refine gS 6 ?_
    refine gS 4 ?_
    refine gR 3 (rg Tryz.f16 3) ?_
    refine sg 5 (mkE [(21, .own 168 0), (20, I p0.f2), (19, .ba 8 2), (18, I p0.f1), (17, .ba 8 1), (1, .ba 8 0), (16, B (!x1))] ((168, RR 3 1 I ([p0.f1, p0.f2] : List Int) 0 false) :: o_0) 99) ?_
    refine co 22 [168] (h51 ([p0.f1, p0.f2] : List Int)) (fun x2 => ?_)
    refine se (mkE [(1, .ba 8 0), (3, I x2)] o_0 99) ?_
    refine pN ?_
    refine pS ?_
    refine gS 0 ?_
    refine gR 4 (rg Tryz.f16 4) ?_
    refine se (mkE [(1, .ba 8 0), (3, I x2), (24, B (neI x2 0))] o_0 99) ?_
    refine pN ?_
    refine pS ?_
    refine gC 24 (neI x2 0) ?_ ?_
    · refine gS 0 ?_
      refine gR 5 (rg Tryz.f16 5) ?_
      refine se (mkE [(2, I x2)] [] 99) ?_
      refine pN ?_
      refine pS ?_
      refine gE ?_
      exact pL
    · refine gK ?_
      refine pN ?_
      refine pS ?_
      refine gS 8 ?_
      refine gS 0 ?_
      refine gR 6 (rg Tryz.f16 6) ?_
      refine sg 2 (mkE [(27, LL a37 p0.f3), (26, .ba 8 3), (1, .ba 8 0), (3, I x2), (24, B (neI x2 0))] o_0 99) ?_
      refine eo 28 (I (lenL p0.f3)) (lenE 22 a37 p0.f3) ?_
      refine se (mkE [(1, .ba 8 0), (29, B (ltI 50 (lenL p0.f3)))] o_0 99) ?_
      refine pN ?_
      refine pS ?_
      refine gC 29 (ltI 50 (lenL p0.f3)) ?_ ?_
      · refine gS 0 ?_
        refine gR 7 (rg Tryz.f16 7) ?_
        refine se (mkE [(2, I 2)] [] 99) ?_
        refine pN ?_
        refine pS ?_
        refine gE ?_
        exact pL
      · refine gK ?_
        refine pN ?_
        refine pS ?_
        refine gS 21 ?_
        refine gS 9 ?_
        refine gR 8 (rg Tryz.f16 8) ?_
        refine sg 2 (mkE [(31, LL a37 p0.f3), (30, .ba 8 3), (1, .ba 8 0), (29, B (ltI 50 (lenL p0.f3)))] o_0 99) ?_
        refine eo 32 (I (lenL p0.f3)) (lenE 22 a37 p0.f3) ?_
        refine se (mkE (s_0.append [(33, I 0)]) o_0 99) ?_
        refine pN ?_
        refine pS ?_
        refine gB 0 ?_
        refine lo [(1, none), (31, none), (32, none), (33, none)] [] (L16_9 p0) (fun z0 : Int => (mkE (s_0.append [(33, I z0)]) o_0 99)) (Sum.elim (fun (x : (Int × Bool)) => (.exit 0, (mkE (s_0.append ((33, I x.1) :: [(34, B x.2)])) o_0 99))) (fun (x : Int) => (.ret, (mkE [(2, I x)] [] 99)))) 0 (fun z => L16_9_ok C h43 h50 h52 p0 z) ?_
        intro y8
        refine ss y8 (Z := (Sum.elim (fun (x : (Int × Bool)) => (.exit 0, (mkE (s_0.append ((33, I x.1) :: [(34, B x.2)])) o_0 99))) (fun (x : Int) => (.ret, (mkE [(2, I x)] [] 99))))) (fun y8a => ?_) (fun y8b => ?_)
        · refine pH ?_
          refine pN ?_
          refine pS ?_
          refine gS 32 ?_
          refine gS 22 ?_
          refine gR 21 (rg Tryz.f16 21) ?_
          refine sg 2 (mkE ((72, LL a37 p0.f3) :: ((71, .ba 8 3) :: (s_0.append ((33, I y8a.1) :: [(34, B y8a.2)])))) o_0 99) ?_
          refine eo 73 (I (lenL p0.f3)) (lenE 22 a37 p0.f3) ?_
          refine se (mkE (s_1.append [(74, I 0)]) o_0 99) ?_
          refine pN ?_
          refine pS ?_
          refine gB 2 ?_
          refine lo [(1, none), (72, none), (73, none), (74, none)] [] (L16_22 p0) (fun z1 : Int => (mkE (s_1.append [(74, I z1)]) o_0 99)) (Sum.elim (fun (x : (Int × Bool)) => (.exit 2, (mkE (s_1.append ((74, I x.1) :: [(75, B x.2)])) o_0 99))) (fun (x : Unit) => (.ret, (mkE [(2, I 13)] [] 99)))) 0 (fun z => L16_22_ok C h44 p0 z) ?_
          intro y14
          refine ss y14 (Z := (Sum.elim (fun (x : (Int × Bool)) => (.exit 2, (mkE (s_1.append ((74, I x.1) :: [(75, B x.2)])) o_0 99))) (fun (x : Unit) => (.ret, (mkE [(2, I 13)] [] 99))))) (fun y14a => ?_) (fun y14b => ?_)
          · refine pH ?_
            refine pN ?_
            refine pS ?_
            refine gS 0 ?_
            refine gR 32 (rg Tryz.f16 32) ?_
            refine se (mkE [(2, I 0)] [] 99) ?_
            refine pN ?_
            refine pS ?_
            refine gE ?_
            exact pL
          · exact pL
        · exact pL
theorem F16 (m : Nat) (hm : 4 ≤ m) (p0 : S23) : callA Tryz.prog cfg m 16 [a23 p0] = (T16 p0).map I := by
  obtain ⟨q, rfl⟩ : ∃ q, m = q + 1 := ⟨m - 1, by omega⟩
  exact (callA_body (fn := Tryz.f16) (c := body_ Tryz.f16) q _ (by kernel_rfl) (by kernel_rfl) (by kernel_rfl)).trans (B16 _ (fun p0 => F43 q (by omega) p0) (fun p0 p1 => F44 q (by omega) p0 p1) (fun p0 => F50 q (by omega) p0) (fun p0 => F51 q (by omega) p0) (fun p0 p1 p2 => F52 q (by omega) p0 p1 p2) p0)

noncomputable def L76_9 (p0 : S31) (z0 : Int) : Option (Int ⊕ ((Int × Bool) ⊕ Int)) := (bif (ltI z0 (lenL p0.f3)) then ((listAt p0.f3 z0).bind fun x3 => ((T50 x3.f0).bind fun x4 => (bif (!x4) then (some (.inr (.inr 5))) else ((T43 x3.f1).bind fun x5 => (bif (neI x5 0) then (some (.inr (.inr x5))) else ((T52 x3.f1 p0.f1 p0.f2).bind fun x6 => (bif (!x6) then (some (.inr (.inr 3))) else ((T64 x3.f2 0 1000).bind fun x7 => (bif x7 then (some (.inr (.inr 1))) else (bif (ltI 0 z0) then ((listAt p0.f3 (subI .i64 z0 1)).bind fun x8 => (bif (ltS x3.f0 x8.f0 || eqS x3.f0 x8.f0) then (some (.inr (.inr 7))) else (some (.inl (addI .i64 z0 1))))) else (some (.inl (addI .i64 z0 1))))))))))))) else (some (.inr (.inl (z0, (ltI z0 (lenL p0.f3)))))))
theorem L76_9_ok (C : Callee) (h43 : ∀ (p0 : S25), C 43 [a25 p0] = (T43 p0).map I) (h50 : ∀ (p0 : ByteArray), C 50 [S p0] = (T50 p0).map B) (h52 : ∀ (p0 : S25) (p1 : Int) (p2 : Int), C 52 [a25 p0, I p1, I p2] = (T52 p0 p1 p2).map B) (h64 : ∀ (p0 : Int) (p1 : Int) (p2 : Int), C 64 [I p0, I p1, I p2] = (T64 p0 p1 p2).map B) (p0 : S31) (z0 : Int) : runs Tryz.prog C (cfg.fn 76) (finLoop ((cfg.fn 76).keep 9) ((cfg.fn 76).al 9)) [] (execA Tryz.prog C (cfg.fn 76) (nr Tryz.f76 [false, false, true, false, true, true, true, true]) ((fun z0 : Int => (mkE [(1, .ba 8 0), (25, LL a64 p0.f3), (26, I (lenL p0.f3)), (27, I z0)] [(8, .box [S p0.f0, I p0.f1, I p0.f2, LL a64 p0.f3] false)] 68)) z0)) = (L76_9 p0 z0).map (Sum.elim (fun z => .inl ((fun z0 : Int => (mkE [(1, .ba 8 0), (25, LL a64 p0.f3), (26, I (lenL p0.f3)), (27, I z0)] [(8, .box [S p0.f0, I p0.f1, I p0.f2, LL a64 p0.f3] false)] 68)) z)) (fun x => .inr ((Sum.elim (fun (x : (Int × Bool)) => (.exit 0, (mkE [(1, .ba 8 0), (25, LL a64 p0.f3), (26, I (lenL p0.f3)), (27, I x.1), (28, B x.2)] [(8, .box [S p0.f0, I p0.f1, I p0.f2, LL a64 p0.f3] false)] 68))) (fun (x : Int) => (.ret, (mkE [(2, I x)] [] 68)))) x))) := by
  unfold L76_9
  let d_0 : List (Option Nat × REff) := [(some 53, qe (I z0)), (some 54, qe (B (ltI 0 z0)))]
  let s_0 : List (Nat × AV) := [(1, .ba 8 0), (4, I z0), (5, .ba 40 0), (25, LL a64 p0.f3), (26, I (lenL p0.f3)), (27, I z0)]
  let s_1 : List (Nat × AV) := [(25, LL a64 p0.f3), (26, I (lenL p0.f3)), (27, I z0)]
  let o_0 : List (Nat × AObj) := [(8, .box [S p0.f0, I p0.f1, I p0.f2, LL a64 p0.f3] false)]
  refine gS 0 ?_
  refine gR 9 (rg Tryz.f76 9) ?_
  refine se (mkE ((1, .ba 8 0) :: (s_1.append [(28, B (ltI z0 (lenL p0.f3)))])) o_0 68) ?_
  refine pN ?_
  refine pS ?_
  refine gS 10 ?_
  refine gC 28 (ltI z0 (lenL p0.f3)) ?_ ?_
  · refine gK ?_
    refine pN ?_
    refine pS ?_
    refine gS 22 ?_
    refine gB 1 ?_
    refine gS 11 ?_
    refine gR 10 (rg Tryz.f76 10) ?_
    refine sg 1 (mkE ((29, I z0) :: ((1, .ba 8 0) :: (s_1.append [(28, B (ltI z0 (lenL p0.f3)))]))) o_0 68) ?_
    refine vo 30 (addrE 30 65 6 a64 .i64 p0.f3 z0) (fun x3 => ?_)
    refine se (mkE s_0 (o_0.append [(40, .box [S x3.f0, I x3.f1.f0, I x3.f1.f1, I x3.f1.f2, I x3.f1.f3, I x3.f2] false)]) 68) ?_
    refine pN ?_
    refine pS ?_
    refine gS 13 ?_
    refine gS 0 ?_
    refine gR 11 (rg Tryz.f76 11) ?_
    refine sg 2 (mkE ((33, S x3.f0) :: ((32, .ba 40 0) :: s_0)) (o_0.append [(40, .box [S x3.f0, I x3.f1.f0, I x3.f1.f1, I x3.f1.f2, I x3.f1.f3, I x3.f2] false)]) 68) ?_
    refine co 34 [] (h50 x3.f0) (fun x4 => ?_)
    refine se (mkE (s_0.append [(35, B (!x4))]) (o_0.append [(40, .box [S x3.f0, I x3.f1.f0, I x3.f1.f1, I x3.f1.f2, I x3.f1.f3, I x3.f2] false)]) 68) ?_
    refine pN ?_
    refine pS ?_
    refine gC 35 (!x4) ?_ ?_
    · refine gS 0 ?_
      refine gR 12 (rg Tryz.f76 12) ?_
      refine se (mkE [(2, I 5)] [] 68) ?_
      refine pN ?_
      refine pS ?_
      refine gE ?_
      exact pL
    · refine gK ?_
      refine pN ?_
      refine pS ?_
      refine gS 16 ?_
      refine gS 14 ?_
      refine gR 13 (rg Tryz.f76 13) ?_
      refine sg 2 (mkE ((37, a25 x3.f1) :: ((36, .ba 40 1) :: (s_0.append [(35, B (!x4))]))) (o_0.append [(40, .box [S x3.f0, I x3.f1.f0, I x3.f1.f1, I x3.f1.f2, I x3.f1.f3, I x3.f2] false)]) 68) ?_
      refine co 38 [] (h43 x3.f1) (fun x5 => ?_)
      refine se (mkE ((1, .ba 8 0) :: ((4, I z0) :: ((5, .ba 40 0) :: ((6, I x5) :: s_1)))) (o_0.append [(40, .box [S x3.f0, I x3.f1.f0, I x3.f1.f1, I x3.f1.f2, I x3.f1.f3, I x3.f2] false)]) 68) ?_
      refine pN ?_
      refine pS ?_
      refine gS 0 ?_
      refine gR 14 (rg Tryz.f76 14) ?_
      refine se (mkE ((1, .ba 8 0) :: ((4, I z0) :: ((5, .ba 40 0) :: ((6, I x5) :: (s_1.append [(40, B (neI x5 0))]))))) (o_0.append [(40, .box [S x3.f0, I x3.f1.f0, I x3.f1.f1, I x3.f1.f2, I x3.f1.f3, I x3.f2] false)]) 68) ?_
      refine pN ?_
      refine pS ?_
      refine gC 40 (neI x5 0) ?_ ?_
      · refine gS 0 ?_
        refine gR 15 (rg Tryz.f76 15) ?_
        refine se (mkE [(2, I x5)] [] 68) ?_
        refine pN ?_
        refine pS ?_
        refine gE ?_
        exact pL
      · refine gK ?_
        refine pN ?_
        refine pS ?_
        refine gS 18 ?_
        refine gS 0 ?_
        refine gR 16 (rg Tryz.f76 16) ?_
        refine sg 6 (mkE ((47, I p0.f2) :: ((46, .ba 8 2) :: ((45, I p0.f1) :: ((44, .ba 8 1) :: ((43, a25 x3.f1) :: ((42, .ba 40 1) :: ((1, .ba 8 0) :: ((4, I z0) :: ((5, .ba 40 0) :: ((6, I x5) :: (s_1.append [(40, B (neI x5 0))]))))))))))) (o_0.append [(40, .box [S x3.f0, I x3.f1.f0, I x3.f1.f1, I x3.f1.f2, I x3.f1.f3, I x3.f2] false)]) 68) ?_
        refine co 48 [] (h52 x3.f1 p0.f1 p0.f2) (fun x6 => ?_)
        refine se (mkE (s_0.append [(49, B (!x6))]) (o_0.append [(40, .box [S x3.f0, I x3.f1.f0, I x3.f1.f1, I x3.f1.f2, I x3.f1.f3, I x3.f2] false)]) 68) ?_
        refine pN ?_
        refine pS ?_
        refine gC 49 (!x6) ?_ ?_
        · refine gS 0 ?_
          refine gR 17 (rg Tryz.f76 17) ?_
          refine se (mkE [(2, I 3)] [] 68) ?_
          refine pN ?_
          refine pS ?_
          refine gE ?_
          exact pL
        · refine gK ?_
          refine pN ?_
          refine pS ?_
          refine gS 20 ?_
          refine gS 0 ?_
          refine gR 18 (rg Tryz.f76 18) ?_
          refine sg 2 (mkE ((51, I x3.f2) :: ((50, .ba 40 5) :: (s_0.append [(49, B (!x6))]))) (o_0.append [(40, .box [S x3.f0, I x3.f1.f0, I x3.f1.f1, I x3.f1.f2, I x3.f1.f3, I x3.f2] false)]) 68) ?_
          refine co 52 [] (h64 x3.f2 0 1000) (fun x7 => ?_)
          refine se (mkE (s_0.append [(52, B x7)]) (o_0.append [(40, .box [S x3.f0, I x3.f1.f0, I x3.f1.f1, I x3.f1.f2, I x3.f1.f3, I x3.f2] false)]) 68) ?_
          refine pN ?_
          refine pS ?_
          refine gC 52 x7 ?_ ?_
          · refine gS 0 ?_
            refine gR 19 (rg Tryz.f76 19) ?_
            refine se (mkE [(2, I 1)] [] 68) ?_
            refine pN ?_
            refine pS ?_
            refine gE ?_
            exact pL
          · refine gK ?_
            refine pN ?_
            refine pS ?_
            refine gS 0 ?_
            refine gD 20 14 (rg Tryz.f76 20) [0, 1, 2, 3, 4, 5, 6, 7, 8, 9, 10, 11, 12, 13] ?_
            refine dg 3 (d_0.append [(some 55, qe (B (ltI 0 z0)))]) ?_
            refine db 2 55 (ltI 0 z0) ?_ ?_
            · refine dg 9 (d_0.append ((some 55, qe (B true)) :: ((some 56, qe (.ba 40 0)) :: ((some 57, qe (S x3.f0)) :: ((some 58, qe (.ba 8 3)) :: ((some 59, qe (LL a64 p0.f3)) :: ((some 60, qe (I z0)) :: [(some 61, qe (I (subI .i64 z0 1)))]))))))) ?_
              refine dv 62 (mkE ((61, I (subI .i64 z0 1)) :: ((60, I z0) :: ((59, LL a64 p0.f3) :: ((58, .ba 8 3) :: ((55, B true) :: ((54, B (ltI 0 z0)) :: ((53, I z0) :: (s_0.append [(52, B x7)])))))))) (o_0.append [(40, .box [S x3.f0, I x3.f1.f0, I x3.f1.f1, I x3.f1.f2, I x3.f1.f3, I x3.f2] false)]) 68) (addrE 30 65 6 a64 .i64 p0.f3 (subI .i64 z0 1)) (fun x8 => ?_)
              refine dg 14 (d_0.append ((some 55, qe (B true)) :: ((some 56, qe (.ba 40 0)) :: ((some 57, qe (S x3.f0)) :: ((some 58, qe (.ba 8 3)) :: ((some 59, qe (LL a64 p0.f3)) :: ((some 60, qe (I z0)) :: ((some 61, qe (I (subI .i64 z0 1))) :: ((some 62, qe (.ia [S x8.f0, I x8.f1.f0, I x8.f1.f1, I x8.f1.f2, I x8.f1.f3, I x8.f2] 0)) :: ((some 63, qe (.ia [S x8.f0, I x8.f1.f0, I x8.f1.f1, I x8.f1.f2, I x8.f1.f3, I x8.f2] 0)) :: ((some 64, qe (S x8.f0)) :: ((some 65, qe (B (ltS x3.f0 x8.f0 || eqS x3.f0 x8.f0))) :: [(some 66, qe (B (ltS x3.f0 x8.f0 || eqS x3.f0 x8.f0)))])))))))))))) ?_
              refine de (mkE ((66, B (ltS x3.f0 x8.f0 || eqS x3.f0 x8.f0)) :: ((65, B (ltS x3.f0 x8.f0 || eqS x3.f0 x8.f0)) :: ((64, S x8.f0) :: ((63, .ia [S x8.f0, I x8.f1.f0, I x8.f1.f1, I x8.f1.f2, I x8.f1.f3, I x8.f2] 0) :: ((62, .ia [S x8.f0, I x8.f1.f0, I x8.f1.f1, I x8.f1.f2, I x8.f1.f3, I x8.f2] 0) :: ((61, I (subI .i64 z0 1)) :: ((60, I z0) :: ((59, LL a64 p0.f3) :: ((58, .ba 8 3) :: ((57, S x3.f0) :: ((56, .ba 40 0) :: ((55, B true) :: ((54, B (ltI 0 z0)) :: ((53, I z0) :: (s_0.append [(52, B x7)]))))))))))))))) (o_0.append [(40, .box [S x3.f0, I x3.f1.f0, I x3.f1.f1, I x3.f1.f2, I x3.f1.f3, I x3.f2] false)]) 68) ?_
              refine se (mkE ((1, .ba 8 0) :: (s_1.append [(66, B (ltS x3.f0 x8.f0 || eqS x3.f0 x8.f0))])) o_0 68) ?_
              refine pN ?_
              refine pS ?_
              refine gC 66 (ltS x3.f0 x8.f0 || eqS x3.f0 x8.f0) ?_ ?_
              · refine gS 0 ?_
                refine gR 21 (rg Tryz.f76 21) ?_
                refine se (mkE [(2, I 7)] [] 68) ?_
                refine pN ?_
                refine pS ?_
                refine gE ?_
                exact pL
              · refine gK ?_
                refine pB ?_
                refine pN ?_
                refine pS ?_
                refine gR 22 (rg Tryz.f76 22) ?_
                refine se (mkE [(1, .ba 8 0), (25, LL a64 p0.f3), (26, I (lenL p0.f3)), (27, I (addI .i64 z0 1))] o_0 68) ?_
                exact pL
            · refine dg 14 (d_0.append ((some 55, qe (B false)) :: ((some 56, qe (.und)) :: ((some 57, qe (.und)) :: ((some 58, qe (.und)) :: ((some 59, qe (.und)) :: ((some 60, qe (.und)) :: ((some 61, qe (.und)) :: ((some 62, qe (.und)) :: ((some 63, qe (.und)) :: ((some 64, qe (.und)) :: ((some 65, qe (.und)) :: [(some 66, qe (B false))])))))))))))) ?_
              refine de (mkE ((66, B false) :: ((65, .und) :: ((64, .und) :: ((63, .und) :: ((62, .und) :: ((61, .und) :: ((60, .und) :: ((59, .und) :: ((58, .und) :: ((57, .und) :: ((56, .und) :: ((55, B false) :: ((54, B (ltI 0 z0)) :: ((53, I z0) :: (s_0.append [(52, B x7)]))))))))))))))) (o_0.append [(40, .box [S x3.f0, I x3.f1.f0, I x3.f1.f1, I x3.f1.f2, I x3.f1.f3, I x3.f2] false)]) 68) ?_
              refine se (mkE ((1, .ba 8 0) :: (s_1.append [(66, B false)])) o_0 68) ?_
              refine pN ?_
              refine pS ?_
              refine gF (.tmp 66) ?_
              refine gK ?_
              refine pB ?_
              refine pN ?_
              refine pS ?_
              refine gR 22 (rg Tryz.f76 22) ?_
              refine se (mkE [(1, .ba 8 0), (25, LL a64 p0.f3), (26, I (lenL p0.f3)), (27, I (addI .i64 z0 1))] o_0 68) ?_
              exact pL
  · refine gX 0 ?_
    exact pL
noncomputable def T76 (p0 : S31) : Option Int := ((T50 p0.f0).bind fun x1 => (bif (!x1) then (some 5) else ((T51 ([p0.f1, p0.f2] : List Int)).bind fun x2 => (bif (neI x2 0) then (some x2) else (bif (ltI 30 (lenL p0.f3)) then (some 2) else ((iter (L76_9 p0) 0).bind fun y9 => (Sum.elim (fun y9a => (some 0)) (fun y9b => (some y9b)) y9)))))))
theorem B76 (C : Callee) (h43 : ∀ (p0 : S25), C 43 [a25 p0] = (T43 p0).map I) (h50 : ∀ (p0 : ByteArray), C 50 [S p0] = (T50 p0).map B) (h51 : ∀ (p0 : (List Int)), C 51 [LL I p0] = (T51 p0).map I) (h52 : ∀ (p0 : S25) (p1 : Int) (p2 : Int), C 52 [a25 p0, I p1, I p2] = (T52 p0 p1 p2).map B) (h64 : ∀ (p0 : Int) (p1 : Int) (p2 : Int), C 64 [I p0, I p1, I p2] = (T64 p0 p1 p2).map B) (p0 : S31) : runs Tryz.prog C (cfg.fn 76) (finFn Tryz.prog (cfg.fn 76).byval Tryz.f76) [] (execA Tryz.prog C (cfg.fn 76) (nr Tryz.f76 []) (frame0 [a31 p0] 68 false)) = (T76 p0).map I := by
  unfold T76
  let s_0 : List (Nat × AV) := [(1, .ba 8 0), (25, LL a64 p0.f3), (26, I (lenL p0.f3))]
  let o_0 : List (Nat × AObj) := [(8, .box [S p0.f0, I p0.f1, I p0.f2, LL a64 p0.f3] false)]
  refine gS 1 ?_
  refine gR 0 (rg Tryz.f76 0) ?_
  refine se (mkE [(1, .ba 8 0)] o_0 68) ?_
  refine pN ?_
  refine pS ?_
  refine gS 3 ?_
  refine gS 0 ?_
  refine gR 1 (rg Tryz.f76 1) ?_
  refine sg 2 (mkE [(8, S p0.f0), (7, .ba 8 0), (1, .ba 8 0)] o_0 68) ?_
  refine co 9 [] (h50 p0.f0) (fun x1 => ?_)
  refine se (mkE [(1, .ba 8 0), (10, B (!x1))] o_0 68) ?_
  refine pN ?_
  refine pS ?_
  refine gC 10 (!x1) ?_ ?_
  · refine gS 0 ?_
    refine gR 2 (rg Tryz.f76 2) ?_
    refine se (mkE [(2, I 5)] [] 68) ?_
    refine pN ?_
    refine pS ?_
    refine gE ?_
    exact pL
  · refine gK ?_
    refine pN ?_
    refine pS ?_
    refine gS 6 ?_
    refine gS 4 ?_
    refine gR 3 (rg Tryz.f76 3) ?_
    refine sg 5 (mkE [(15, .own 120 0), (14, I p0.f2), (13, .ba 8 2), (12, I p0.f1), (11, .ba 8 1), (1, .ba 8 0), (10, B (!x1))] ((120, RR 3 1 I ([p0.f1, p0.f2] : List Int) 0 false) :: o_0) 68) ?_
    refine co 16 [120] (h51 ([p0.f1, p0.f2] : List Int)) (fun x2 => ?_)
    refine se (mkE [(1, .ba 8 0), (3, I x2)] o_0 68) ?_
    refine pN ?_
    refine pS ?_
    refine gS 0 ?_
    refine gR 4 (rg Tryz.f76 4) ?_
    refine se (mkE [(1, .ba 8 0), (3, I x2), (18, B (neI x2 0))] o_0 68) ?_
    refine pN ?_
    refine pS ?_
    refine gC 18 (neI x2 0) ?_ ?_
    · refine gS 0 ?_
      refine gR 5 (rg Tryz.f76 5) ?_
      refine se (mkE [(2, I x2)] [] 68) ?_
      refine pN ?_
      refine pS ?_
      refine gE ?_
      exact pL
    · refine gK ?_
      refine pN ?_
      refine pS ?_
      refine gS 8 ?_
      refine gS 0 ?_
      refine gR 6 (rg Tryz.f76 6) ?_
      refine sg 2 (mkE [(21, LL a64 p0.f3), (20, .ba 8 3), (1, .ba 8 0), (3, I x2), (18, B (neI x2 0))] o_0 68) ?_
      refine eo 22 (I (lenL p0.f3)) (lenE 30 a64 p0.f3) ?_
      refine se (mkE [(1, .ba 8 0), (23, B (ltI 30 (lenL p0.f3)))] o_0 68) ?_
      refine pN ?_
      refine pS ?_
      refine gC 23 (ltI 30 (lenL p0.f3)) ?_ ?_
      · refine gS 0 ?_
        refine gR 7 (rg Tryz.f76 7) ?_
        refine se (mkE [(2, I 2)] [] 68) ?_
        refine pN ?_
        refine pS ?_
        refine gE ?_
        exact pL
      · refine gK ?_
        refine pN ?_
        refine pS ?_
        refine gS 23 ?_
        refine gS 9 ?_
        refine gR 8 (rg Tryz.f76 8) ?_
        refine sg 2 (mkE [(25, LL a64 p0.f3), (24, .ba 8 3), (1, .ba 8 0), (23, B (ltI 30 (lenL p0.f3)))] o_0 68) ?_
        refine eo 26 (I (lenL p0.f3)) (lenE 30 a64 p0.f3) ?_
        refine se (mkE (s_0.append [(27, I 0)]) o_0 68) ?_
        refine pN ?_
        refine pS ?_
        refine gB 0 ?_
        refine lo [(1, none), (25, none), (26, none), (27, none)] [] (L76_9 p0) (fun z0 : Int => (mkE (s_0.append [(27, I z0)]) o_0 68)) (Sum.elim (fun (x : (Int × Bool)) => (.exit 0, (mkE (s_0.append ((27, I x.1) :: [(28, B x.2)])) o_0 68))) (fun (x : Int) => (.ret, (mkE [(2, I x)] [] 68)))) 0 (fun z => L76_9_ok C h43 h50 h52 h64 p0 z) ?_
        intro y9
        refine ss y9 (Z := (Sum.elim (fun (x : (Int × Bool)) => (.exit 0, (mkE (s_0.append ((27, I x.1) :: [(28, B x.2)])) o_0 68))) (fun (x : Int) => (.ret, (mkE [(2, I x)] [] 68))))) (fun y9a => ?_) (fun y9b => ?_)
        · refine pH ?_
          refine pN ?_
          refine pS ?_
          refine gS 0 ?_
          refine gR 23 (rg Tryz.f76 23) ?_
          refine se (mkE [(2, I 0)] [] 68) ?_
          refine pN ?_
          refine pS ?_
          refine gE ?_
          exact pL
        · exact pL
theorem F76 (m : Nat) (hm : 4 ≤ m) (p0 : S31) : callA Tryz.prog cfg m 76 [a31 p0] = (T76 p0).map I := by
  obtain ⟨q, rfl⟩ : ∃ q, m = q + 1 := ⟨m - 1, by omega⟩
  exact (callA_body (fn := Tryz.f76) (c := body_ Tryz.f76) q _ (by kernel_rfl) (by kernel_rfl) (by kernel_rfl)).trans (B76 _ (fun p0 => F43 q (by omega) p0) (fun p0 => F50 q (by omega) p0) (fun p0 => F51 q (by omega) p0) (fun p0 p1 p2 => F52 q (by omega) p0 p1 p2) (fun p0 p1 p2 => F64 q (by omega) p0 p1 p2) p0)

noncomputable def T107 (p0 : (List S64)) (p1 : Int) (p2 : Int) : Option Bool := ((listAt p0 p1).bind fun x1 => ((listAt p0 p2).bind fun x2 => (bif (ltI x2.f2 x1.f2) then (some true) else ((listAt p0 p1).bind fun x3 => ((listAt p0 p2).bind fun x4 => (bif (eqI x3.f2 x4.f2) then (some (ltI p2 p1)) else (some false)))))))
theorem B107 (C : Callee) (p0 : (List S64)) (p1 : Int) (p2 : Int) : runs Tryz.prog C (cfg.fn 107) (finFn Tryz.prog (cfg.fn 107).byval Tryz.f107) [] (execA Tryz.prog C (cfg.fn 107) (nr Tryz.f107 []) (frame0 [LL a64 p0, I p1, I p2] 36 false)) = (T107 p0 p1 p2).map B := by
  unfold T107
  let d_0 : List (Option Nat × REff) := [(some 7, qe (LL a64 p0)), (some 8, qe (I p1))]
  let d_1 : List (Option Nat × REff) := [(some 12, qe (LL a64 p0)), (some 13, qe (I p2))]
  let d_2 : List (Option Nat × REff) := [(some 18, qe (B false)), (some 19, qe (LL a64 p0)), (some 20, qe (I p1))]
  let d_3 : List (Option Nat × REff) := [(some 24, qe (LL a64 p0)), (some 25, qe (I p2))]
  let s_0 : List (Nat × AV) := [(8, I p1), (7, LL a64 p0), (0, LL a64 p0), (1, I p1), (2, I p2)]
  refine gS 1 ?_
  refine gR 0 (rg Tryz.f107 0) ?_
  refine se (mkE [(0, LL a64 p0), (1, I p1), (2, I p2)] [] 36) ?_
  refine pN ?_
  refine pS ?_
  refine gS 0 ?_
  refine gD 1 30 (rg Tryz.f107 1) [0, 1, 2, 3, 4, 5, 6, 7, 8, 9, 10, 11, 12, 13, 14, 15, 16, 17, 18, 19, 20, 21, 22, 23, 24, 25, 26, 27, 28, 29] ?_
  refine dg 2 d_0 ?_
  refine dv 9 (mkE s_0 [] 36) (addrE 30 65 6 a64 .i64 p0 p1) (fun x1 => ?_)
  refine dg 7 (d_0.append ((some 9, qe (.ia [S x1.f0, I x1.f1.f0, I x1.f1.f1, I x1.f1.f2, I x1.f1.f3, I x1.f2] 0)) :: ((some 10, qe (.ia [S x1.f0, I x1.f1.f0, I x1.f1.f1, I x1.f1.f2, I x1.f1.f3, I x1.f2] 5)) :: ((some 11, qe (I x1.f2)) :: d_1)))) ?_
  refine dv 14 (mkE [(13, I p2), (12, LL a64 p0), (0, LL a64 p0), (1, I p1), (2, I p2)] [] 36) (addrE 30 65 6 a64 .i64 p0 p2) (fun x2 => ?_)
  refine dg 12 (d_0.append ((some 9, qe (.ia [S x1.f0, I x1.f1.f0, I x1.f1.f1, I x1.f1.f2, I x1.f1.f3, I x1.f2] 0)) :: ((some 10, qe (.ia [S x1.f0, I x1.f1.f0, I x1.f1.f1, I x1.f1.f2, I x1.f1.f3, I x1.f2] 5)) :: ((some 11, qe (I x1.f2)) :: (d_1.append ((some 14, qe (.ia [S x2.f0, I x2.f1.f0, I x2.f1.f1, I x2.f1.f2, I x2.f1.f3, I x2.f2] 0)) :: ((some 15, qe (.ia [S x2.f0, I x2.f1.f0, I x2.f1.f1, I x2.f1.f2, I x2.f1.f3, I x2.f2] 5)) :: ((some 16, qe (I x2.f2)) :: ((some 17, qe (B (ltI x2.f2 x1.f2))) :: [(some 18, qe (B (ltI x2.f2 x1.f2)))]))))))))) ?_
  refine db 11 18 (ltI x2.f2 x1.f2) ?_ ?_
  · refine dg 30 (d_0.append ((some 9, qe (.ia [S x1.f0, I x1.f1.f0, I x1.f1.f1, I x1.f1.f2, I x1.f1.f3, I x1.f2] 0)) :: ((some 10, qe (.ia [S x1.f0, I x1.f1.f0, I x1.f1.f1, I x1.f1.f2, I x1.f1.f3, I x1.f2] 5)) :: ((some 11, qe (I x1.f2)) :: (d_1.append ((some 14, qe (.ia [S x2.f0, I x2.f1.f0, I x2.f1.f1, I x2.f1.f2, I x2.f1.f3, I x2.f2] 0)) :: ((some 15, qe (.ia [S x2.f0, I x2.f1.f0, I x2.f1.f1, I x2.f1.f2, I x2.f1.f3, I x2.f2] 5)) :: ((some 16, qe (I x2.f2)) :: ((some 17, qe (B (ltI x2.f2 x1.f2))) :: ((some 18, qe (B true)) :: ((some 19, qe (.und)) :: ((some 20, qe (.und)) :: ((some 21, qe (.und)) :: ((some 22, qe (.und)) :: ((some 23, qe (.und)) :: ((some 24, qe (.und)) :: ((some 25, qe (.und)) :: ((some 26, qe (.und)) :: ((some 27, qe (.und)) :: ((some 28, qe (.und)) :: ((some 29, qe (.und)) :: ((some 30, qe (.und)) :: ((some 31, qe (.und)) :: ((some 32, qe (.und)) :: ((some 33, qe (.und)) :: ((some 34, qe (.und)) :: ((some 35, qe (B true)) :: [(some 6, qe (B true))]))))))))))))))))))))))))))) ?_
    refine de (mkE ((6, B true) :: ((35, B true) :: ((34, .und) :: ((33, .und) :: ((32, .und) :: ((31, .und) :: ((30, .und) :: ((29, .und) :: ((28, .und) :: ((27, .und) :: ((26, .und) :: ((25, .und) :: ((24, .und) :: ((23, .und) :: ((22, .und) :: ((21, .und) :: ((20, .und) :: ((19, .und) :: ((18, B true) :: ((17, B (ltI x2.f2 x1.f2)) :: ((16, I x2.f2) :: ((15, .ia [S x2.f0, I x2.f1.f0, I x2.f1.f1, I x2.f1.f2, I x2.f1.f3, I x2.f2] 5) :: ((14, .ia [S x2.f0, I x2.f1.f0, I x2.f1.f1, I x2.f1.f2, I x2.f1.f3, I x2.f2] 0) :: ((13, I p2) :: ((12, LL a64 p0) :: ((11, I x1.f2) :: ((10, .ia [S x1.f0, I x1.f1.f0, I x1.f1.f1, I x1.f1.f2, I x1.f1.f3, I x1.f2] 5) :: ((9, .ia [S x1.f0, I x1.f1.f0, I x1.f1.f1, I x1.f1.f2, I x1.f1.f3, I x1.f2] 0) :: s_0)))))))))))))))))))))))))))) [] 36) ?_
    refine se (mkE [(6, B true)] [] 36) ?_
    refine pN ?_
    refine pS ?_
    refine gE ?_
    exact pL
  · refine dg 14 (d_0.append ((some 9, qe (.ia [S x1.f0, I x1.f1.f0, I x1.f1.f1, I x1.f1.f2, I x1.f1.f3, I x1.f2] 0)) :: ((some 10, qe (.ia [S x1.f0, I x1.f1.f0, I x1.f1.f1, I x1.f1.f2, I x1.f1.f3, I x1.f2] 5)) :: ((some 11, qe (I x1.f2)) :: (d_1.append ((some 14, qe (.ia [S x2.f0, I x2.f1.f0, I x2.f1.f1, I x2.f1.f2, I x2.f1.f3, I x2.f2] 0)) :: ((some 15, qe (.ia [S x2.f0, I x2.f1.f0, I x2.f1.f1, I x2.f1.f2, I x2.f1.f3, I x2.f2] 5)) :: ((some 16, qe (I x2.f2)) :: ((some 17, qe (B (ltI x2.f2 x1.f2))) :: d_2))))))))) ?_
    refine dv 21 (mkE ((20, I p1) :: ((19, LL a64 p0) :: ((18, B false) :: ((17, B (ltI x2.f2 x1.f2)) :: ((16, I x2.f2) :: ((15, .ia [S x2.f0, I x2.f1.f0, I x2.f1.f1, I x2.f1.f2, I x2.f1.f3, I x2.f2] 5) :: ((14, .ia [S x2.f0, I x2.f1.f0, I x2.f1.f1, I x2.f1.f2, I x2.f1.f3, I x2.f2] 0) :: ((13, I p2) :: ((12, LL a64 p0) :: ((11, I x1.f2) :: ((10, .ia [S x1.f0, I x1.f1.f0, I x1.f1.f1, I x1.f1.f2, I x1.f1.f3, I x1.f2] 5) :: ((9, .ia [S x1.f0, I x1.f1.f0, I x1.f1.f1, I x1.f1.f2, I x1.f1.f3, I x1.f2] 0) :: s_0)))))))))))) [] 36) (addrE 30 65 6 a64 .i64 p0 p1) (fun x3 => ?_)
    refine dg 19 (d_0.append ((some 9, qe (.ia [S x1.f0, I x1.f1.f0, I x1.f1.f1, I x1.f1.f2, I x1.f1.f3, I x1.f2] 0)) :: ((some 10, qe (.ia [S x1.f0, I x1.f1.f0, I x1.f1.f1, I x1.f1.f2, I x1.f1.f3, I x1.f2] 5)) :: ((some 11, qe (I x1.f2)) :: (d_1.append ((some 14, qe (.ia [S x2.f0, I x2.f1.f0, I x2.f1.f1, I x2.f1.f2, I x2.f1.f3, I x2.f2] 0)) :: ((some 15, qe (.ia [S x2.f0, I x2.f1.f0, I x2.f1.f1, I x2.f1.f2, I x2.f1.f3, I x2.f2] 5)) :: ((some 16, qe (I x2.f2)) :: ((some 17, qe (B (ltI x2.f2 x1.f2))) :: (d_2.append ((some 21, qe (.ia [S x3.f0, I x3.f1.f0, I x3.f1.f1, I x3.f1.f2, I x3.f1.f3, I x3.f2] 0)) :: ((some 22, qe (.ia [S x3.f0, I x3.f1.f0, I x3.f1.f1, I x3.f1.f2, I x3.f1.f3, I x3.f2] 5)) :: ((some 23, qe (I x3.f2)) :: d_3))))))))))))) ?_
    refine dv 26 (mkE ((25, I p2) :: ((24, LL a64 p0) :: ((18, B false) :: ((17, B (ltI x2.f2 x1.f2)) :: ((16, I x2.f2) :: ((15, .ia [S x2.f0, I x2.f1.f0, I x2.f1.f1, I x2.f1.f2, I x2.f1.f3, I x2.f2] 5) :: ((14, .ia [S x2.f0, I x2.f1.f0, I x2.f1.f1, I x2.f1.f2, I x2.f1.f3, I x2.f2] 0) :: ((13, I p2) :: ((12, LL a64 p0) :: ((11, I x1.f2) :: ((10, .ia [S x1.f0, I x1.f1.f0, I x1.f1.f1, I x1.f1.f2, I x1.f1.f3, I x1.f2] 5) :: ((9, .ia [S x1.f0, I x1.f1.f0, I x1.f1.f1, I x1.f1.f2, I x1.f1.f3, I x1.f2] 0) :: s_0)))))))))))) [] 36) (addrE 30 65 6 a64 .i64 p0 p2) (fun x4 => ?_)
    refine dg 24 (d_0.append ((some 9, qe (.ia [S x1.f0, I x1.f1.f0, I x1.f1.f1, I x1.f1.f2, I x1.f1.f3, I x1.f2] 0)) :: ((some 10, qe (.ia [S x1.f0, I x1.f1.f0, I x1.f1.f1, I x1.f1.f2, I x1.f1.f3, I x1.f2] 5)) :: ((some 11, qe (I x1.f2)) :: (d_1.append ((some 14, qe (.ia [S x2.f0, I x2.f1.f0, I x2.f1.f1, I x2.f1.f2, I x2.f1.f3, I x2.f2] 0)) :: ((some 15, qe (.ia [S x2.f0, I x2.f1.f0, I x2.f1.f1, I x2.f1.f2, I x2.f1.f3, I x2.f2] 5)) :: ((some 16, qe (I x2.f2)) :: ((some 17, qe (B (ltI x2.f2 x1.f2))) :: (d_2.append ((some 21, qe (.ia [S x3.f0, I x3.f1.f0, I x3.f1.f1, I x3.f1.f2, I x3.f1.f3, I x3.f2] 0)) :: ((some 22, qe (.ia [S x3.f0, I x3.f1.f0, I x3.f1.f1, I x3.f1.f2, I x3.f1.f3, I x3.f2] 5)) :: ((some 23, qe (I x3.f2)) :: (d_3.append ((some 26, qe (.ia [S x4.f0, I x4.f1.f0, I x4.f1.f1, I x4.f1.f2, I x4.f1.f3, I x4.f2] 0)) :: ((some 27, qe (.ia [S x4.f0, I x4.f1.f0, I x4.f1.f1, I x4.f1.f2, I x4.f1.f3, I x4.f2] 5)) :: ((some 28, qe (I x4.f2)) :: ((some 29, qe (B (eqI x3.f2 x4.f2))) :: [(some 30, qe (B (eqI x3.f2 x4.f2)))])))))))))))))))))) ?_
    refine db 23 30 (eqI x3.f2 x4.f2) ?_ ?_
    · refine dg 30 (d_0.append ((some 9, qe (.ia [S x1.f0, I x1.f1.f0, I x1.f1.f1, I x1.f1.f2, I x1.f1.f3, I x1.f2] 0)) :: ((some 10, qe (.ia [S x1.f0, I x1.f1.f0, I x1.f1.f1, I x1.f1.f2, I x1.f1.f3, I x1.f2] 5)) :: ((some 11, qe (I x1.f2)) :: (d_1.append ((some 14, qe (.ia [S x2.f0, I x2.f1.f0, I x2.f1.f1, I x2.f1.f2, I x2.f1.f3, I x2.f2] 0)) :: ((some 15, qe (.ia [S x2.f0, I x2.f1.f0, I x2.f1.f1, I x2.f1.f2, I x2.f1.f3, I x2.f2] 5)) :: ((some 16, qe (I x2.f2)) :: ((some 17, qe (B (ltI x2.f2 x1.f2))) :: (d_2.append ((some 21, qe (.ia [S x3.f0, I x3.f1.f0, I x3.f1.f1, I x3.f1.f2, I x3.f1.f3, I x3.f2] 0)) :: ((some 22, qe (.ia [S x3.f0, I x3.f1.f0, I x3.f1.f1, I x3.f1.f2, I x3.f1.f3, I x3.f2] 5)) :: ((some 23, qe (I x3.f2)) :: (d_3.append ((some 26, qe (.ia [S x4.f0, I x4.f1.f0, I x4.f1.f1, I x4.f1.f2, I x4.f1.f3, I x4.f2] 0)) :: ((some 27, qe (.ia [S x4.f0, I x4.f1.f0, I x4.f1.f1, I x4.f1.f2, I x4.f1.f3, I x4.f2] 5)) :: ((some 28, qe (I x4.f2)) :: ((some 29, qe (B (eqI x3.f2 x4.f2))) :: ((some 30, qe (B true)) :: ((some 31, qe (I p1)) :: ((some 32, qe (I p2)) :: ((some 33, qe (B (ltI p2 p1))) :: ((some 34, qe (B (ltI p2 p1))) :: ((some 35, qe (B (ltI p2 p1))) :: [(some 6, qe (B (ltI p2 p1)))])))))))))))))))))))))))) ?_
      refine de (mkE ((6, B (ltI p2 p1)) :: ((35, B (ltI p2 p1)) :: ((34, B (ltI p2 p1)) :: ((33, B (ltI p2 p1)) :: ((32, I p2) :: ((31, I p1) :: ((30, B true) :: ((29, B (eqI x3.f2 x4.f2)) :: ((28, I x4.f2) :: ((27, .ia [S x4.f0, I x4.f1.f0, I x4.f1.f1, I x4.f1.f2, I x4.f1.f3, I x4.f2] 5) :: ((26, .ia [S x4.f0, I x4.f1.f0, I x4.f1.f1, I x4.f1.f2, I x4.f1.f3, I x4.f2] 0) :: ((25, I p2) :: ((24, LL a64 p0) :: ((23, I x3.f2) :: ((22, .ia [S x3.f0, I x3.f1.f0, I x3.f1.f1, I x3.f1.f2, I x3.f1.f3, I x3.f2] 5) :: ((21, .ia [S x3.f0, I x3.f1.f0, I x3.f1.f1, I x3.f1.f2, I x3.f1.f3, I x3.f2] 0) :: ((20, I p1) :: ((19, LL a64 p0) :: ((18, B false) :: ((17, B (ltI x2.f2 x1.f2)) :: ((16, I x2.f2) :: ((15, .ia [S x2.f0, I x2.f1.f0, I x2.f1.f1, I x2.f1.f2, I x2.f1.f3, I x2.f2] 5) :: ((14, .ia [S x2.f0, I x2.f1.f0, I x2.f1.f1, I x2.f1.f2, I x2.f1.f3, I x2.f2] 0) :: ((13, I p2) :: ((12, LL a64 p0) :: ((11, I x1.f2) :: ((10, .ia [S x1.f0, I x1.f1.f0, I x1.f1.f1, I x1.f1.f2, I x1.f1.f3, I x1.f2] 5) :: ((9, .ia [S x1.f0, I x1.f1.f0, I x1.f1.f1, I x1.f1.f2, I x1.f1.f3, I x1.f2] 0) :: s_0)))))))))))))))))))))))))))) [] 36) ?_
      refine se (mkE [(6, B (ltI p2 p1))] [] 36) ?_
      refine pN ?_
      refine pS ?_
      refine gE ?_
      exact pL
    · refine dg 30 (d_0.append ((some 9, qe (.ia [S x1.f0, I x1.f1.f0, I x1.f1.f1, I x1.f1.f2, I x1.f1.f3, I x1.f2] 0)) :: ((some 10, qe (.ia [S x1.f0, I x1.f1.f0, I x1.f1.f1, I x1.f1.f2, I x1.f1.f3, I x1.f2] 5)) :: ((some 11, qe (I x1.f2)) :: (d_1.append ((some 14, qe (.ia [S x2.f0, I x2.f1.f0, I x2.f1.f1, I x2.f1.f2, I x2.f1.f3, I x2.f2] 0)) :: ((some 15, qe (.ia [S x2.f0, I x2.f1.f0, I x2.f1.f1, I x2.f1.f2, I x2.f1.f3, I x2.f2] 5)) :: ((some 16, qe (I x2.f2)) :: ((some 17, qe (B (ltI x2.f2 x1.f2))) :: (d_2.append ((some 21, qe (.ia [S x3.f0, I x3.f1.f0, I x3.f1.f1, I x3.f1.f2, I x3.f1.f3, I x3.f2] 0)) :: ((some 22, qe (.ia [S x3.f0, I x3.f1.f0, I x3.f1.f1, I x3.f1.f2, I x3.f1.f3, I x3.f2] 5)) :: ((some 23, qe (I x3.f2)) :: (d_3.append ((some 26, qe (.ia [S x4.f0, I x4.f1.f0, I x4.f1.f1, I x4.f1.f2, I x4.f1.f3, I x4.f2] 0)) :: ((some 27, qe (.ia [S x4.f0, I x4.f1.f0, I x4.f1.f1, I x4.f1.f2, I x4.f1.f3, I x4.f2] 5)) :: ((some 28, qe (I x4.f2)) :: ((some 29, qe (B (eqI x3.f2 x4.f2))) :: ((some 30, qe (B false)) :: ((some 31, qe (.und)) :: ((some 32, qe (.und)) :: ((some 33, qe (.und)) :: ((some 34, qe (B false)) :: ((some 35, qe (B false)) :: [(some 6, qe (B false))])))))))))))))))))))))))) ?_
      refine de (mkE ((6, B false) :: ((35, B false) :: ((34, B false) :: ((33, .und) :: ((32, .und) :: ((31, .und) :: ((30, B false) :: ((29, B (eqI x3.f2 x4.f2)) :: ((28, I x4.f2) :: ((27, .ia [S x4.f0, I x4.f1.f0, I x4.f1.f1, I x4.f1.f2, I x4.f1.f3, I x4.f2] 5) :: ((26, .ia [S x4.f0, I x4.f1.f0, I x4.f1.f1, I x4.f1.f2, I x4.f1.f3, I x4.f2] 0) :: ((25, I p2) :: ((24, LL a64 p0) :: ((23, I x3.f2) :: ((22, .ia [S x3.f0, I x3.f1.f0, I x3.f1.f1, I x3.f1.f2, I x3.f1.f3, I x3.f2] 5) :: ((21, .ia [S x3.f0, I x3.f1.f0, I x3.f1.f1, I x3.f1.f2, I x3.f1.f3, I x3.f2] 0) :: ((20, I p1) :: ((19, LL a64 p0) :: ((18, B false) :: ((17, B (ltI x2.f2 x1.f2)) :: ((16, I x2.f2) :: ((15, .ia [S x2.f0, I x2.f1.f0, I x2.f1.f1, I x2.f1.f2, I x2.f1.f3, I x2.f2] 5) :: ((14, .ia [S x2.f0, I x2.f1.f0, I x2.f1.f1, I x2.f1.f2, I x2.f1.f3, I x2.f2] 0) :: ((13, I p2) :: ((12, LL a64 p0) :: ((11, I x1.f2) :: ((10, .ia [S x1.f0, I x1.f1.f0, I x1.f1.f1, I x1.f1.f2, I x1.f1.f3, I x1.f2] 5) :: ((9, .ia [S x1.f0, I x1.f1.f0, I x1.f1.f1, I x1.f1.f2, I x1.f1.f3, I x1.f2] 0) :: s_0)))))))))))))))))))))))))))) [] 36) ?_
      refine se (mkE [(6, B false)] [] 36) ?_
      refine pN ?_
      refine pS ?_
      refine gE ?_
      exact pL
theorem F107 (m : Nat) (hm : 1 ≤ m) (p0 : (List S64)) (p1 : Int) (p2 : Int) : callA Tryz.prog cfg m 107 [LL a64 p0, I p1, I p2] = (T107 p0 p1 p2).map B := by
  obtain ⟨q, rfl⟩ : ∃ q, m = q + 1 := ⟨m - 1, by omega⟩
  exact (callA_body (fn := Tryz.f107) (c := body_ Tryz.f107) q _ (by kernel_rfl) (by kernel_rfl) (by kernel_rfl)).trans (B107 _ p0 p1 p2)

theorem F84 (m : Nat) (hm : 1 ≤ m) (p1 : Int) : callA Tryz.prog cfg m 84 [.nils, I p1] = (growO S25 32 p1).map (fun l => AV.fr 26 4 (List.map a25 l)) := by
  obtain ⟨q, rfl⟩ : ∃ q, m = q + 1 := ⟨m - 1, by omega⟩
  exact (callA_leaf (L := (leafGrow Tryz.prog 26 4 32)) _ _ (by kernel_rfl)).trans (grow_leaf 26 4 32 a25 _ p1 (by kernel_rfl))

noncomputable def L65_3 (p0 : (List (List S25))) (z0 : (Int × Int)) : Option ((Int × Int) ⊕ (Int × Int × Bool)) := (bif (ltI z0.2 (lenL p0)) then ((listAt p0 z0.2).bind fun x1 => (bif (ltI (addI .i64 z0.1 (lenL x1)) 0) then none else (some (.inl ((addI .i64 z0.1 (lenL x1)), (addI .i64 z0.2 1)))))) else (some (.inr (z0.1, z0.2, (ltI z0.2 (lenL p0))))))
theorem L65_3_ok (C : Callee) (p0 : (List (List S25))) (z0 : (Int × Int)) : runs Tryz.prog C (cfg.fn 65) (finLoop ((cfg.fn 65).keep 3) ((cfg.fn 65).al 3)) [] (execA Tryz.prog C (cfg.fn 65) (nr Tryz.f65 [false, false, true, false, true, true]) ((fun z0 : (Int × Int) => (mkE [(0, LL (LL a25) p0), (3, I z0.1), (9, LL (LL a25) p0), (10, I (lenL p0)), (11, I z0.2)] [] 36)) z0)) = (L65_3 p0 z0).map (Sum.elim (fun z => .inl ((fun z0 : (Int × Int) => (mkE [(0, LL (LL a25) p0), (3, I z0.1), (9, LL (LL a25) p0), (10, I (lenL p0)), (11, I z0.2)] [] 36)) z)) (fun x => .inr ((fun (x : (Int × Int × Bool)) => (.exit 0, (mkE [(0, LL (LL a25) p0), (3, I x.1), (9, LL (LL a25) p0), (10, I (lenL p0)), (11, I x.2.1), (12, B x.2.2)] [] 36))) x))) := by
  unfold L65_3
  let s_0 : List (Nat × AV) := [(9, LL (LL a25) p0), (10, I (lenL p0)), (11, I z0.2)]
  refine gS 0 ?_
  refine gR 3 (rg Tryz.f65 3) ?_
  refine se (mkE ((0, LL (LL a25) p0) :: ((3, I z0.1) :: (s_0.append [(12, B (ltI z0.2 (lenL p0)))]))) [] 36) ?_
  refine pN ?_
  refine pS ?_
  refine gS 4 ?_
  refine gC 12 (ltI z0.2 (lenL p0)) ?_ ?_
  · refine gK ?_
    refine pN ?_
    refine pS ?_
    refine gS 8 ?_
    refine gB 1 ?_
    refine gS 5 ?_
    refine gR 4 (rg Tryz.f65 4) ?_
    refine vo 13 (addrE 120 42 1 (LL a25) .i64 p0 z0.2) (fun x1 => ?_)
    refine se (mkE ((0, LL (LL a25) p0) :: ((3, I z0.1) :: ((5, LL a25 x1) :: s_0))) [] 36) ?_
    refine pN ?_
    refine pS ?_
    refine gS 6 ?_
    refine gR 5 (rg Tryz.f65 5) ?_
    refine sg 2 (mkE ((16, LL a25 x1) :: ((15, I z0.1) :: ((0, LL (LL a25) p0) :: ((3, I z0.1) :: ((5, LL a25 x1) :: s_0))))) [] 36) ?_
    refine eo 17 (I (lenL x1)) (lenE 42 a25 x1) ?_
    refine se (mkE ((0, LL (LL a25) p0) :: ((3, I (addI .i64 z0.1 (lenL x1))) :: s_0)) [] 36) ?_
    refine pN ?_
    refine pS ?_
    refine gS 0 ?_
    refine gR 6 (rg Tryz.f65 6) ?_
    refine se (mkE ((0, LL (LL a25) p0) :: ((3, I (addI .i64 z0.1 (lenL x1))) :: (s_0.append [(20, B (ltI (addI .i64 z0.1 (lenL x1)) 0))]))) [] 36) ?_
    refine pN ?_
    refine pS ?_
    refine gC 20 (ltI (addI .i64 z0.1 (lenL x1)) 0) ?_ ?_
    · refine gR 7 (rg Tryz.f65 7) ?_
      exact nO
    · refine gK ?_
      refine pB ?_
      refine pN ?_
      refine pS ?_
      refine gR 8 (rg Tryz.f65 8) ?_
      refine se (mkE [(0, LL (LL a25) p0), (3, I (addI .i64 z0.1 (lenL x1))), (9, LL (LL a25) p0), (10, I (lenL p0)), (11, I (addI .i64 z0.2 1))] [] 36) ?_
      exact pL
  · refine gX 0 ?_
    exact pL
noncomputable def L65_11 (p0 : (List (List S25))) (z1 : ((List S25) × Int)) : Option (((List S25) × Int) ⊕ (Int × Bool × (List S25))) := (bif (ltI z1.2 (lenL p0)) then ((listAt p0 z1.2).bind fun x4 => ((appO 32 z1.1 x4).bind fun x5 => (some (.inl (x5, (addI .i64 z1.2 1)))))) else (some (.inr (z1.2, (ltI z1.2 (lenL p0)), z1.1))))
theorem L65_11_ok (C : Callee) (p0 : (List (List S25))) (z1 : ((List S25) × Int)) : runs Tryz.prog C (cfg.fn 65) (finLoop ((cfg.fn 65).keep 11) ((cfg.fn 65).al 11)) [] (execA Tryz.prog C (cfg.fn 65) (nr Tryz.f65 [false, false, true, false, true, true, true, true]) ((fun z1 : ((List S25) × Int) => (mkE [(6, .own 48 0), (25, LL (LL a25) p0), (26, I (lenL p0)), (27, I z1.2)] [(48, RR 26 4 a25 z1.1 0 false)] 36)) z1)) = (L65_11 p0 z1).map (Sum.elim (fun z => .inl ((fun z1 : ((List S25) × Int) => (mkE [(6, .own 48 0), (25, LL (LL a25) p0), (26, I (lenL p0)), (27, I z1.2)] [(48, RR 26 4 a25 z1.1 0 false)] 36)) z)) (fun x => .inr ((fun (x : (Int × Bool × (List S25))) => (.exit 2, (mkE [(6, .own 48 0), (25, LL (LL a25) p0), (26, I (lenL p0)), (27, I x.1), (28, B x.2.1)] [(48, RR 26 4 a25 x.2.2 0 false)] 36))) x))) := by
  unfold L65_11
  let s_0 : List (Nat × AV) := [(25, LL (LL a25) p0), (26, I (lenL p0)), (27, I z1.2)]
  refine gS 0 ?_
  refine gR 11 (rg Tryz.f65 11) ?_
  refine se (mkE ((6, .own 48 0) :: (s_0.append [(28, B (ltI z1.2 (lenL p0)))])) [(48, RR 26 4 a25 z1.1 0 false)] 36) ?_
  refine pN ?_
  refine pS ?_
  refine gS 12 ?_
  refine gC 28 (ltI z1.2 (lenL p0)) ?_ ?_
  · refine gK ?_
    refine pN ?_
    refine pS ?_
    refine gS 14 ?_
    refine gB 3 ?_
    refine gS 13 ?_
    refine gR 12 (rg Tryz.f65 12) ?_
    refine vo 29 (addrE 120 42 1 (LL a25) .i64 p0 z1.2) (fun x4 => ?_)
    refine se (mkE ((6, .own 48 0) :: ((8, LL a25 x4) :: s_0)) [(48, RR 26 4 a25 z1.1 0 false)] 36) ?_
    refine pN ?_
    refine pS ?_
    refine gR 13 (rg Tryz.f65 13) ?_
    refine sg 2 (mkE ((32, LL a25 x4) :: ((31, .own 48 0) :: ((6, .own 48 0) :: ((8, LL a25 x4) :: s_0)))) [(48, RR 26 4 a25 z1.1 0 false)] 36) ?_
    refine mo (some 33) (apO 42 26 4 32 48 a25 0 [] (y := LL a25 x4) (l2 := x4)) (fun x5 => ?_)
    refine se (mkE ((6, .own 48 1) :: s_0) [(48, RR 26 4 a25 x5 1 false)] 36) ?_
    refine pB ?_
    refine pN ?_
    refine pS ?_
    refine gR 14 (rg Tryz.f65 14) ?_
    refine se (mkE [(6, .own 48 1), (25, LL (LL a25) p0), (26, I (lenL p0)), (27, I (addI .i64 z1.2 1))] [(48, RR 26 4 a25 x5 1 false)] 36) ?_
    exact pL
  · refine gX 2 ?_
    exact pL
noncomputable def T65 (p0 : (List (List S25))) : Option (List S25) := ((iter (L65_3 p0) (0, 0)).bind fun y2 => ((growO S25 32 y2.1).bind fun x3 => ((iter (L65_11 p0) (x3, 0)).bind fun y6 => (some y6.2.2))))
theorem B65 (C : Callee) (h84 : ∀ (p1 : Int), C 84 [.nils, I p1] = (growO S25 32 p1).map (fun l => AV.fr 26 4 (List.map a25 l))) (p0 : (List (List S25))) : runs Tryz.prog C (cfg.fn 65) (finFn Tryz.prog (cfg.fn 65).byval Tryz.f65) [] (execA Tryz.prog C (cfg.fn 65) (nr Tryz.f65 []) (frame0 [LL (LL a25) p0] 36 false)) = (T65 p0).map (fun l => AV.fr 26 4 (List.map a25 l)) := by
  unfold T65
  refine gS 1 ?_
  refine gR 0 (rg Tryz.f65 0) ?_
  refine se (mkE [(0, LL (LL a25) p0)] [] 36) ?_
  refine pN ?_
  refine pS ?_
  refine gS 2 ?_
  refine gR 1 (rg Tryz.f65 1) ?_
  refine se (mkE [(0, LL (LL a25) p0), (3, I 0)] [] 36) ?_
  refine pN ?_
  refine pS ?_
  refine gS 9 ?_
  refine gS 3 ?_
  refine gR 2 (rg Tryz.f65 2) ?_
  refine sg 1 (mkE [(9, LL (LL a25) p0), (0, LL (LL a25) p0), (3, I 0)] [] 36) ?_
  refine eo 10 (I (lenL p0)) (lenE 120 (LL a25) p0) ?_
  refine se (mkE [(0, LL (LL a25) p0), (3, I 0), (9, LL (LL a25) p0), (10, I (lenL p0)), (11, I 0)] [] 36) ?_
  refine pN ?_
  refine pS ?_
  refine gB 0 ?_
  refine lo [(0, none), (3, none), (9, none), (10, none), (11, none)] [] (L65_3 p0) (fun z0 : (Int × Int) => (mkE [(0, LL (LL a25) p0), (3, I z0.1), (9, LL (LL a25) p0), (10, I (lenL p0)), (11, I z0.2)] [] 36)) (fun (x : (Int × Int × Bool)) => (.exit 0, (mkE [(0, LL (LL a25) p0), (3, I x.1), (9, LL (LL a25) p0), (10, I (lenL p0)), (11, I x.2.1), (12, B x.2.2)] [] 36))) (0, 0) (fun z => L65_3_ok C p0 z) ?_
  intro y2
  refine pH ?_
  refine pN ?_
  refine pS ?_
  refine gS 10 ?_
  refine gR 9 (rg Tryz.f65 9) ?_
  refine sg 1 (mkE [(23, I y2.1), (0, LL (LL a25) p0), (3, I y2.1), (9, LL (LL a25) p0), (10, I (lenL p0)), (11, I y2.2.1), (12, B y2.2.2)] [] 36) ?_
  refine co 24 [] (h84 y2.1) (fun x3 => ?_)
  refine se (mkE [(0, LL (LL a25) p0), (6, .own 192 0)] [(192, RR 26 4 a25 x3 0 false)] 36) ?_
  refine pN ?_
  refine pS ?_
  refine gS 15 ?_
  refine gS 11 ?_
  refine gR 10 (rg Tryz.f65 10) ?_
  refine sg 1 (mkE [(25, LL (LL a25) p0), (0, LL (LL a25) p0), (6, .own 192 0)] [(192, RR 26 4 a25 x3 0 false)] 36) ?_
  refine eo 26 (I (lenL p0)) (lenE 120 (LL a25) p0) ?_
  refine se (mkE [(6, .own 192 0), (25, LL (LL a25) p0), (26, I (lenL p0)), (27, I 0)] [(192, RR 26 4 a25 x3 0 false)] 36) ?_
  refine pN ?_
  refine pS ?_
  refine gB 2 ?_
  refine lo [(6, some (26, 4)), (25, none), (26, none), (27, none)] [] (L65_11 p0) (fun z1 : ((List S25) × Int) => (mkE [(6, .own 48 0), (25, LL (LL a25) p0), (26, I (lenL p0)), (27, I z1.2)] [(48, RR 26 4 a25 z1.1 0 false)] 36)) (fun (x : (Int × Bool × (List S25))) => (.exit 2, (mkE [(6, .own 48 0), (25, LL (LL a25) p0), (26, I (lenL p0)), (27, I x.1), (28, B x.2.1)] [(48, RR 26 4 a25 x.2.2 0 false)] 36))) (x3, 0) (fun z => L65_11_ok C p0 z) ?_
  intro y6
  refine pH ?_
  refine pN ?_
  refine pS ?_
  refine gS 0 ?_
  refine gR 15 (rg Tryz.f65 15) ?_
  refine se (mkE [(2, .own 48 0)] [(48, RR 26 4 a25 y6.2.2 0 false)] 36) ?_
  refine pN ?_
  refine pS ?_
  refine gE ?_
  exact pL
theorem F65 (m : Nat) (hm : 2 ≤ m) (p0 : (List (List S25))) : callA Tryz.prog cfg m 65 [LL (LL a25) p0] = (T65 p0).map (fun l => AV.fr 26 4 (List.map a25 l)) := by
  obtain ⟨q, rfl⟩ : ∃ q, m = q + 1 := ⟨m - 1, by omega⟩
  exact (callA_body (fn := Tryz.f65) (c := body_ Tryz.f65) q _ (by kernel_rfl) (by kernel_rfl) (by kernel_rfl)).trans (B65 _ (fun p1 => F84 q (by omega) p1) p0)

theorem F66 (m : Nat) (hm : 1 ≤ m) (p0 : (List Int)) : callA Tryz.prog cfg m 66 [.fr 3 1 (List.map I p0)] = (sortIO p0).map (fun (r : (List Int)) => AV.inp (.tup []) (.fr 3 1 (List.map I r))) := by
  obtain ⟨q, rfl⟩ : ∃ q, m = q + 1 := ⟨m - 1, by omega⟩
  exact (callA_leaf (L := (leafSortI 3)) _ _ (by kernel_rfl)).trans (sortI_leaf 3 _ p0)

theorem F67 (m : Nat) (hm : 1 ≤ m) (p0 : (List Int)) : callA Tryz.prog cfg m 67 [.fr 3 1 (List.map I p0)] = (compIO p0).map (fun l => AV.fr 3 1 (List.map I l)) := by
  obtain ⟨q, rfl⟩ : ∃ q, m = q + 1 := ⟨m - 1, by omega⟩
  exact (callA_leaf (L := (leafCompI 3)) _ _ (by kernel_rfl)).trans (compI_leaf 3 _ p0)

noncomputable def T88 (p0 : S110) (p1 : S110) : Option Int := (some (subI .i64 p0.f0 p1.f0))
theorem B88 (C : Callee) (p0 : S110) (p1 : S110) : runs Tryz.prog C (cfg.fn 88) (finFn Tryz.prog (cfg.fn 88).byval Tryz.f88) [] (execA Tryz.prog C (cfg.fn 88) (nr Tryz.f88 []) (frame0 [a110 p0, a110 p1] 10 false)) = (T88 p0 p1).map I := by
  unfold T88
  refine gS 1 ?_
  refine gR 0 (rg Tryz.f88 0) ?_
  refine se (mkE [(2, .ba 16 0), (3, .ba 24 0)] [(16, .box [I p0.f0, I p0.f1] false), (24, .box [I p1.f0, I p1.f1] false)] 10) ?_
  refine pN ?_
  refine pS ?_
  refine gS 0 ?_
  refine gR 1 (rg Tryz.f88 1) ?_
  refine se (mkE [(4, I (subI .i64 p0.f0 p1.f0))] [] 10) ?_
  refine pN ?_
  refine pS ?_
  refine gE ?_
  exact pL
theorem F88 (m : Nat) (hm : 1 ≤ m) (p0 : S110) (p1 : S110) : callA Tryz.prog cfg m 88 [a110 p0, a110 p1] = (T88 p0 p1).map I := by
  obtain ⟨q, rfl⟩ : ∃ q, m = q + 1 := ⟨m - 1, by omega⟩
  exact (callA_body (fn := Tryz.f88) (c := body_ Tryz.f88) q _ (by kernel_rfl) (by kernel_rfl) (by kernel_rfl)).trans (B88 _ p0 p1)

theorem F87 (m : Nat) (hm : 2 ≤ m) (p0 : (List S110)) : callA Tryz.prog cfg m 87 [.fr 111 2 (List.map a110 p0), .fn 88 []] = (sortO (fun x y => T88 x y) p0).map (fun (r : (List S110)) => AV.inp (.tup []) (.fr 111 2 (List.map a110 r))) := by
  obtain ⟨q, rfl⟩ : ∃ q, m = q + 1 := ⟨m - 1, by omega⟩
  exact (callA_leaf (L := (leafSortF Tryz.prog 111 2)) _ _ (by kernel_rfl)).trans (sortF_leaf 111 2 88 [] a110 (fun x y => T88 x y) _ p0 (fun x y => F88 q (by omega) x y) (fun _ => by kernel_rfl) (by kernel_rfl))

noncomputable def L69_3 (p0 : (List S25)) (p1 : Int) (z0 : ((List S110) × Int)) : Option (((List S110) × Int) ⊕ (Int × Bool × (List S110))) := (bif (ltI z0.2 (lenL p0)) then ((listAt p0 z0.2).bind fun x1 => (bif (leI x1.f1 p1) then (bif (ltI p1 (addI .i64 x1.f1 x1.f3)) then ((appO 16 z0.1 ([(S110.mk x1.f0 (addI .i64 x1.f0 x1.f2))] : List S110)).bind fun x2 => (some (.inl (x2, (addI .i64 z0.2 1))))) else (some (.inl (z0.1, (addI .i64 z0.2 1))))) else (some (.inl (z0.1, (addI .i64 z0.2 1)))))) else (some (.inr (z0.2, (ltI z0.2 (lenL p0)), z0.1))))
theorem L69_3_ok (C : Callee) (p0 : (List S25)) (p1 : Int) (z0 : ((List S110) × Int)) : runs Tryz.prog C (cfg.fn 69) (finLoop ((cfg.fn 69).keep 3) ((cfg.fn 69).al 3)) [] (execA Tryz.prog C (cfg.fn 69) (nr Tryz.f69 [false, false, true, false, true, true]) ((fun z0 : ((List S110) × Int) => (mkE [(1, I p1), (5, .own 40 0), (12, LL a25 p0), (13, I (lenL p0)), (14, I z0.2)] [(40, RR 111 2 a110 z0.1 0 false)] 84)) z0)) = (L69_3 p0 p1 z0).map (Sum.elim (fun z => .inl ((fun z0 : ((List S110) × Int) => (mkE [(1, I p1), (5, .own 40 0), (12, LL a25 p0), (13, I (lenL p0)), (14, I z0.2)] [(40, RR 111 2 a110 z0.1 0 false)] 84)) z)) (fun x => .inr ((fun (x : (Int × Bool × (List S110))) => (.exit 0, (mkE [(1, I p1), (5, .own 40 0), (12, LL a25 p0), (13, I (lenL p0)), (14, I x.1), (15, B x.2.1)] [(40, RR 111 2 a110 x.2.2 0 false)] 84))) x))) := by
  unfold L69_3
  let s_0 : List (Nat × AV) := [(1, I p1), (5, .own 40 0), (7, .ba 56 0), (12, LL a25 p0), (13, I (lenL p0)), (14, I z0.2)]
  let o_0 : List (Nat × AObj) := [(40, RR 111 2 a110 z0.1 0 false)]
  refine gS 0 ?_
  refine gR 3 (rg Tryz.f69 3) ?_
  refine se (mkE [(1, I p1), (5, .own 40 0), (12, LL a25 p0), (13, I (lenL p0)), (14, I z0.2), (15, B (ltI z0.2 (lenL p0)))] o_0 84) ?_
  refine pN ?_
  refine pS ?_
  refine gS 4 ?_
  refine gC 15 (ltI z0.2 (lenL p0)) ?_ ?_
  · refine gK ?_
    refine pN ?_
    refine pS ?_
    refine gS 7 ?_
    refine gB 1 ?_
    refine gS 5 ?_
    refine gR 4 (rg Tryz.f69 4) ?_
    refine vo 16 (addrE 42 26 4 a25 .i64 p0 z0.2) (fun x1 => ?_)
    refine se (mkE s_0 (o_0.append [(56, .box [I x1.f0, I x1.f1, I x1.f2, I x1.f3] false)]) 84) ?_
    refine pN ?_
    refine pS ?_
    refine gS 0 ?_
    refine gR 5 (rg Tryz.f69 5) ?_
    refine sg 5 (mkE ((22, B (leI x1.f1 p1)) :: ((21, B (leI x1.f1 p1)) :: ((20, I p1) :: ((19, I x1.f1) :: ((18, .ba 56 1) :: s_0))))) (o_0.append [(56, .box [I x1.f0, I x1.f1, I x1.f2, I x1.f3] false)]) 84) ?_
    refine sb 22 (leI x1.f1 p1) ?_ ?_
    · refine se (mkE (s_0.append [(30, B (ltI p1 (addI .i64 x1.f1 x1.f3)))]) (o_0.append [(56, .box [I x1.f0, I x1.f1, I x1.f2, I x1.f3] false)]) 84) ?_
      refine pN ?_
      refine pS ?_
      refine gC 30 (ltI p1 (addI .i64 x1.f1 x1.f3)) ?_ ?_
      · refine gR 6 (rg Tryz.f69 6) ?_
        refine sg 10 (mkE ((40, .own 320 0) :: ((39, .agg [I x1.f0, I (addI .i64 x1.f0 x1.f2)]) :: ((38, I (addI .i64 x1.f0 x1.f2)) :: ((37, I x1.f2) :: ((36, .ba 56 2) :: ((35, I x1.f0) :: ((34, .ba 56 0) :: ((33, I x1.f0) :: ((32, .ba 56 0) :: ((31, .own 40 0) :: (s_0.append [(30, B (ltI p1 (addI .i64 x1.f1 x1.f3)))]))))))))))) ((320, RR 111 2 a110 ([(S110.mk x1.f0 (addI .i64 x1.f0 x1.f2))] : List S110) 0 false) :: (o_0.append [(56, .box [I x1.f0, I x1.f1, I x1.f2, I x1.f3] false)])) 84) ?_
        refine mo (some 41) (apO 106 111 2 16 40 a110 0 [320] (y := .own 320 0) (l2 := ([(S110.mk x1.f0 (addI .i64 x1.f0 x1.f2))] : List S110))) (fun x2 => ?_)
        refine se (mkE [(1, I p1), (5, .own 40 1), (12, LL a25 p0), (13, I (lenL p0)), (14, I z0.2)] [(40, RR 111 2 a110 x2 1 false)] 84) ?_
        refine pB ?_
        refine pN ?_
        refine pS ?_
        refine gR 7 (rg Tryz.f69 7) ?_
        refine se (mkE [(1, I p1), (5, .own 40 1), (12, LL a25 p0), (13, I (lenL p0)), (14, I (addI .i64 z0.2 1))] [(40, RR 111 2 a110 x2 1 false)] 84) ?_
        exact pL
      · refine gK ?_
        refine pB ?_
        refine pN ?_
        refine pS ?_
        refine gR 7 (rg Tryz.f69 7) ?_
        refine se (mkE [(1, I p1), (5, .own 40 0), (12, LL a25 p0), (13, I (lenL p0)), (14, I (addI .i64 z0.2 1))] o_0 84) ?_
        exact pL
    · refine se (mkE (s_0.append [(30, B false)]) (o_0.append [(56, .box [I x1.f0, I x1.f1, I x1.f2, I x1.f3] false)]) 84) ?_
      refine pN ?_
      refine pS ?_
      refine gF (.tmp 30) ?_
      refine gK ?_
      refine pB ?_
      refine pN ?_
      refine pS ?_
      refine gR 7 (rg Tryz.f69 7) ?_
      refine se (mkE [(1, I p1), (5, .own 40 0), (12, LL a25 p0), (13, I (lenL p0)), (14, I (addI .i64 z0.2 1))] o_0 84) ?_
      exact pL
  · refine gX 0 ?_
    exact pL
noncomputable def L69_11 (x4 : (List S110)) (z1 : ((List S110) × (List S110) × Int)) : Option (((List S110) × (List S110) × Int) ⊕ (Int × Bool × (List S110) × (List S110))) := (bif (ltI z1.2.2 (lenL x4)) then ((idxO (List.length z1.2.1) z1.2.2).bind fun x5 => ((getN z1.2.1 x5).bind fun x6 => (bif (leI 0 (subI .i64 (lenL z1.1) 1)) then ((idxO (List.length z1.1) (subI .i64 (lenL z1.1) 1)).bind fun x7 => ((getN z1.1 x7).bind fun x8 => (bif (leI x6.f0 x8.f1) then ((idxO (List.length z1.1) (subI .i64 (lenL z1.1) 1)).bind fun x9 => ((getN z1.1 x9).bind fun x10 => ((idxO (List.length z1.1) (subI .i64 (lenL z1.1) 1)).bind fun x11 => ((getN z1.1 x11).bind fun x12 => (some (.inl ((List.set z1.1 x11 (S110.mk x12.f0 (maxI x10.f1 x6.f1))), z1.2.1, (addI .i64 z1.2.2 1)))))))) else ((appO 16 z1.1 ([x6] : List S110)).bind fun x13 => (some (.inl (x13, z1.2.1, (addI .i64 z1.2.2 1)))))))) else ((appO 16 z1.1 ([x6] : List S110)).bind fun x14 => (some (.inl (x14, z1.2.1, (addI .i64 z1.2.2 1)))))))) else (some (.inr (z1.2.2, (ltI z1.2.2 (lenL x4)), z1.1, z1.2.1))))
theorem L69_11_ok (C : Callee) (x4 : (List S110)) (z1 : ((List S110) × (List S110) × Int)) : runs Tryz.prog C (cfg.fn 69) (finLoop ((cfg.fn 69).keep 11) ((cfg.fn 69).al 11)) [] (execA Tryz.prog C (cfg.fn 69) (nr Tryz.f69 [false, false, true, false, true, true, true, true, true]) ((fun z1 : ((List S110) × (List S110) × Int) => (mkE [(8, .own 64 0), (45, .own 360 0), (46, I (lenL x4)), (47, I z1.2.2)] [(64, RR 111 2 a110 z1.1 0 false), (360, RR 111 2 a110 z1.2.1 0 false)] 84)) z1)) = (L69_11 x4 z1).map (Sum.elim (fun z => .inl ((fun z1 : ((List S110) × (List S110) × Int) => (mkE [(8, .own 64 0), (45, .own 360 0), (46, I (lenL x4)), (47, I z1.2.2)] [(64, RR 111 2 a110 z1.1 0 false), (360, RR 111 2 a110 z1.2.1 0 false)] 84)) z)) (fun x => .inr ((fun (x : (Int × Bool × (List S110) × (List S110))) => (.exit 2, (mkE [(8, .own 64 0), (45, .own 360 0), (46, I (lenL x4)), (47, I x.1), (48, B x.2.1)] [(64, RR 111 2 a110 x.2.2.1 0 false), (360, RR 111 2 a110 x.2.2.2 0 false)] 84))) x))) := by
  unfold L69_11
  let d_0 : List (Option Nat × REff) := [(some 66, qe (.own 64 0)), (some 67, qe (I (subI .i64 (lenL z1.1) 1))), (some 68, qe (.own 64 0)), (some 69, qe (I (subI .i64 (lenL z1.1) 1)))]
  let d_1 : List (Option Nat × REff) := [(some 54, qe (I (subI .i64 (lenL z1.1) 1))), (some 55, qe (B (leI 0 (subI .i64 (lenL z1.1) 1))))]
  let d_2 : List (Option Nat × REff) := [(some 59, qe (.own 64 0)), (some 60, qe (I (subI .i64 (lenL z1.1) 1)))]
  let s_0 : List (Nat × AV) := [(8, .own 64 0), (10, .ba 80 0), (11, I (subI .i64 (lenL z1.1) 1)), (45, .own 360 0), (46, I (lenL x4)), (47, I z1.2.2)]
  let s_1 : List (Nat × AV) := [(45, .own 360 0), (46, I (lenL x4))]
  let s_2 : List (Nat × AV) := [(55, B (leI 0 (subI .i64 (lenL z1.1) 1))), (54, I (subI .i64 (lenL z1.1) 1))]
  let s_3 : List (Nat × AV) := [(69, I (subI .i64 (lenL z1.1) 1)), (68, .own 64 0)]
  let o_0 : List (Nat × AObj) := [(360, RR 111 2 a110 z1.2.1 0 false)]
  let o_1 : List (Nat × AObj) := [(64, RR 111 2 a110 z1.1 0 false)]
  refine gS 0 ?_
  refine gR 11 (rg Tryz.f69 11) ?_
  refine se (mkE ((8, .own 64 0) :: (s_1.append ((47, I z1.2.2) :: [(48, B (ltI z1.2.2 (lenL x4)))]))) (o_1.append o_0) 84) ?_
  refine pN ?_
  refine pS ?_
  refine gS 12 ?_
  refine gC 48 (ltI z1.2.2 (lenL x4)) ?_ ?_
  · refine gK ?_
    refine pN ?_
    refine pS ?_
    refine gS 17 ?_
    refine gB 3 ?_
    refine gS 13 ?_
    refine gR 12 (rg Tryz.f69 12) ?_
    refine vo 49 (addrOE 106 111 2 360 0 false a110 .i64 z1.2.1 z1.2.2) (fun x5 => ?_)
    refine vo 50 (loadOE 111 360 0 x5 0 111 2 2 true false a110 (fun q : S110 => a110 q) z1.2.1) (fun x6 => ?_)
    refine se (mkE ((8, .own 64 0) :: ((10, .ba 80 0) :: (s_1.append [(47, I z1.2.2)]))) (o_1.append ((80, .box [I x6.f0, I x6.f1] false) :: o_0)) 84) ?_
    refine pN ?_
    refine pS ?_
    refine gS 14 ?_
    refine gR 13 (rg Tryz.f69 13) ?_
    refine sg 1 (mkE ((51, .own 64 0) :: ((8, .own 64 0) :: ((10, .ba 80 0) :: (s_1.append [(47, I z1.2.2)])))) (o_1.append ((80, .box [I x6.f0, I x6.f1] false) :: o_0)) 84) ?_
    refine eo 52 (I (lenL z1.1)) (lenOE 106 111 2 a110 z1.1) ?_
    refine se (mkE s_0 (o_1.append ((80, .box [I x6.f0, I x6.f1] false) :: o_0)) 84) ?_
    refine pN ?_
    refine pS ?_
    refine gS 0 ?_
    refine gD 14 12 (rg Tryz.f69 14) [0, 1, 2, 3, 4, 5, 6, 7, 8, 9, 10, 11] ?_
    refine dg 3 (d_1.append [(some 56, qe (B (leI 0 (subI .i64 (lenL z1.1) 1))))]) ?_
    refine db 2 56 (leI 0 (subI .i64 (lenL z1.1) 1)) ?_ ?_
    · refine dg 7 (d_1.append ((some 56, qe (B true)) :: ((some 57, qe (.ba 80 0)) :: ((some 58, qe (I x6.f0)) :: d_2)))) ?_
      refine dv 61 (mkE ((60, I (subI .i64 (lenL z1.1) 1)) :: ((59, .own 64 0) :: ((56, B true) :: (s_2.append s_0)))) (o_1.append ((80, .box [I x6.f0, I x6.f1] false) :: o_0)) 84) (addrOE 106 111 2 64 0 false a110 .i64 z1.1 (subI .i64 (lenL z1.1) 1)) (fun x7 => ?_)
      refine dg 9 (d_1.append ((some 56, qe (B true)) :: ((some 57, qe (.ba 80 0)) :: ((some 58, qe (I x6.f0)) :: (d_2.append ((some 61, qe (.oa 64 0 x7 0)) :: [(some 62, qe (.oa 64 0 x7 1))])))))) ?_
      refine dv 63 (mkE ((62, .oa 64 0 x7 1) :: ((61, .oa 64 0 x7 0) :: ((60, I (subI .i64 (lenL z1.1) 1)) :: ((59, .own 64 0) :: ((56, B true) :: (s_2.append s_0)))))) (o_1.append ((80, .box [I x6.f0, I x6.f1] false) :: o_0)) 84) (loadOE 3 64 0 x7 1 111 2 1 false false a110 (fun q : S110 => I q.f1) z1.1) (fun x8 => ?_)
      refine dg 12 (d_1.append ((some 56, qe (B true)) :: ((some 57, qe (.ba 80 0)) :: ((some 58, qe (I x6.f0)) :: (d_2.append ((some 61, qe (.oa 64 0 x7 0)) :: ((some 62, qe (.oa 64 0 x7 1)) :: ((some 63, qe (I x8.f1)) :: ((some 64, qe (B (leI x6.f0 x8.f1))) :: [(some 65, qe (B (leI x6.f0 x8.f1)))]))))))))) ?_
      refine de (mkE ((65, B (leI x6.f0 x8.f1)) :: ((64, B (leI x6.f0 x8.f1)) :: ((63, I x8.f1) :: ((62, .oa 64 0 x7 1) :: ((61, .oa 64 0 x7 0) :: ((60, I (subI .i64 (lenL z1.1) 1)) :: ((59, .own 64 0) :: ((58, I x6.f0) :: ((57, .ba 80 0) :: ((56, B true) :: (s_2.append s_0))))))))))) (o_1.append ((80, .box [I x6.f0, I x6.f1] false) :: o_0)) 84) ?_
      refine se (mkE (s_0.append [(65, B (leI x6.f0 x8.f1))]) (o_1.append ((80, .box [I x6.f0, I x6.f1] false) :: o_0)) 84) ?_
      refine pN ?_
      refine pS ?_
      refine gC 65 (leI x6.f0 x8.f1) ?_ ?_
      · refine gD 15 12 (rg Tryz.f69 15) [0, 1, 2, 3, 4, 5, 6, 7, 8, 9, 10, 11, 12] ?_
        refine dg 4 d_0 ?_
        refine dv 70 (mkE (s_3.append (s_0.append [(65, B (leI x6.f0 x8.f1))])) (o_1.append ((80, .box [I x6.f0, I x6.f1] false) :: o_0)) 84) (addrOE 106 111 2 64 0 false a110 .i64 z1.1 (subI .i64 (lenL z1.1) 1)) (fun x9 => ?_)
        refine dg 6 (d_0.append ((some 70, qe (.oa 64 0 x9 0)) :: [(some 71, qe (.oa 64 0 x9 1))])) ?_
        refine dv 72 (mkE ((71, .oa 64 0 x9 1) :: ((70, .oa 64 0 x9 0) :: (s_3.append (s_0.append [(65, B (leI x6.f0 x8.f1))])))) (o_1.append ((80, .box [I x6.f0, I x6.f1] false) :: o_0)) 84) (loadOE 3 64 0 x9 1 111 2 1 false false a110 (fun q : S110 => I q.f1) z1.1) (fun x10 => ?_)
        refine dg 10 (d_0.append ((some 70, qe (.oa 64 0 x9 0)) :: ((some 71, qe (.oa 64 0 x9 1)) :: ((some 72, qe (I x10.f1)) :: ((some 73, qe (.ba 80 1)) :: ((some 74, qe (I x6.f1)) :: [(some 75, qe (I (maxI x10.f1 x6.f1)))])))))) ?_
        refine dv 76 (mkE ((75, I (maxI x10.f1 x6.f1)) :: ((74, I x6.f1) :: ((73, .ba 80 1) :: ((72, I x10.f1) :: ((71, .oa 64 0 x9 1) :: ((70, .oa 64 0 x9 0) :: (s_3.append ((67, I (subI .i64 (lenL z1.1) 1)) :: ((66, .own 64 0) :: (s_0.append [(65, B (leI x6.f0 x8.f1))])))))))))) (o_1.append ((80, .box [I x6.f0, I x6.f1] false) :: o_0)) 84) (addrOE 106 111 2 64 0 false a110 .i64 z1.1 (subI .i64 (lenL z1.1) 1)) (fun x11 => ?_)
        refine dg 12 (d_0.append ((some 70, qe (.oa 64 0 x9 0)) :: ((some 71, qe (.oa 64 0 x9 1)) :: ((some 72, qe (I x10.f1)) :: ((some 73, qe (.ba 80 1)) :: ((some 74, qe (I x6.f1)) :: ((some 75, qe (I (maxI x10.f1 x6.f1))) :: ((some 76, qe (.oa 64 0 x11 0)) :: [(some 77, qe (.oa 64 0 x11 1))])))))))) ?_
        refine de (mkE ((77, .oa 64 0 x11 1) :: ((76, .oa 64 0 x11 0) :: ((75, I (maxI x10.f1 x6.f1)) :: ((74, I x6.f1) :: ((73, .ba 80 1) :: ((72, I x10.f1) :: ((71, .oa 64 0 x9 1) :: ((70, .oa 64 0 x9 0) :: (s_3.append ((67, I (subI .i64 (lenL z1.1) 1)) :: ((66, .own 64 0) :: (s_0.append [(65, B (leI x6.f0 x8.f1))])))))))))))) (o_1.append ((80, .box [I x6.f0, I x6.f1] false) :: o_0)) 84) ?_
        refine mo none (stO 111 2 64 0 x11 1 a110 z1.1 [] [I (maxI x10.f1 x6.f1)] (I (maxI x10.f1 x6.f1)) (fun q : S110 => (S110.mk q.f0 (maxI x10.f1 x6.f1))) 3 (.tmp 77) (.tmp 75) 1) (fun x12 => ?_)
        refine se (mkE ((8, .own 64 0) :: (s_1.append [(47, I z1.2.2)])) ((64, RR 111 2 a110 (List.set z1.1 x11 (S110.mk x12.f0 (maxI x10.f1 x6.f1))) 0 false) :: o_0) 84) ?_
        refine pB ?_
        refine pN ?_
        refine pS ?_
        refine gR 17 (rg Tryz.f69 17) ?_
        refine se (mkE ((8, .own 64 0) :: (s_1.append [(47, I (addI .i64 z1.2.2 1))])) ((64, RR 111 2 a110 (List.set z1.1 x11 (S110.mk x12.f0 (maxI x10.f1 x6.f1))) 0 false) :: o_0) 84) ?_
        exact pL
      · refine gR 16 (rg Tryz.f69 16) ?_
        refine sg 3 (mkE ((80, .own 640 0) :: ((79, a110 x6) :: ((78, .own 64 0) :: (s_0.append [(65, B (leI x6.f0 x8.f1))])))) ((640, RR 111 2 a110 ([x6] : List S110) 0 false) :: (o_1.append ((80, .box [I x6.f0, I x6.f1] false) :: o_0))) 84) ?_
        refine mo (some 81) (apO 106 111 2 16 64 a110 0 [640] (y := .own 640 0) (l2 := ([x6] : List S110))) (fun x13 => ?_)
        refine se (mkE ((8, .own 64 1) :: (s_1.append [(47, I z1.2.2)])) ((64, RR 111 2 a110 x13 1 false) :: o_0) 84) ?_
        refine pB ?_
        refine pN ?_
        refine pS ?_
        refine gR 17 (rg Tryz.f69 17) ?_
        refine se (mkE ((8, .own 64 1) :: (s_1.append [(47, I (addI .i64 z1.2.2 1))])) ((64, RR 111 2 a110 x13 1 false) :: o_0) 84) ?_
        exact pL
    · refine dg 12 (d_1.append ((some 56, qe (B false)) :: ((some 57, qe (.und)) :: ((some 58, qe (.und)) :: ((some 59, qe (.und)) :: ((some 60, qe (.und)) :: ((some 61, qe (.und)) :: ((some 62, qe (.und)) :: ((some 63, qe (.und)) :: ((some 64, qe (.und)) :: [(some 65, qe (B false))])))))))))) ?_
      refine de (mkE ((65, B false) :: ((64, .und) :: ((63, .und) :: ((62, .und) :: ((61, .und) :: ((60, .und) :: ((59, .und) :: ((58, .und) :: ((57, .und) :: ((56, B false) :: (s_2.append s_0))))))))))) (o_1.append ((80, .box [I x6.f0, I x6.f1] false) :: o_0)) 84) ?_
      refine se (mkE (s_0.append [(65, B false)]) (o_1.append ((80, .box [I x6.f0, I x6.f1] false) :: o_0)) 84) ?_
      refine pN ?_
      refine pS ?_
      refine gF (.tmp 65) ?_
      refine gR 16 (rg Tryz.f69 16) ?_
      refine sg 3 (mkE ((80, .own 640 0) :: ((79, a110 x6) :: ((78, .own 64 0) :: (s_0.append [(65, B false)])))) ((640, RR 111 2 a110 ([x6] : List S110) 0 false) :: (o_1.append ((80, .box [I x6.f0, I x6.f1] false) :: o_0))) 84) ?_
      refine mo (some 81) (apO 106 111 2 16 64 a110 0 [640] (y := .own 640 0) (l2 := ([x6] : List S110))) (fun x14 => ?_)
      refine se (mkE ((8, .own 64 1) :: (s_1.append [(47, I z1.2.2)])) ((64, RR 111 2 a110 x14 1 false) :: o_0) 84) ?_
      refine pB ?_
      refine pN ?_
      refine pS ?_
      refine gR 17 (rg Tryz.f69 17) ?_
      refine se (mkE ((8, .own 64 1) :: (s_1.append [(47, I (addI .i64 z1.2.2 1))])) ((64, RR 111 2 a110 x14 1 false) :: o_0) 84) ?_
      exact pL
  · refine gX 2 ?_
    exact pL
noncomputable def T69 (p0 : (List S25)) (p1 : Int) : Option (List S110) := ((iter (L69_3 p0 p1) ([], 0)).bind fun y3 => ((sortO (fun x y => T88 x y) y3.2.2).bind fun x4 => ((iter (L69_11 x4) ([], x4, 0)).bind fun y15 => (some y15.2.2.1))))
theorem B69 (C : Callee) (h87 : ∀ (p0 : (List S110)), C 87 [.fr 111 2 (List.map a110 p0), .fn 88 []] = (sortO (fun x y => T88 x y) p0).map (fun (r : (List S110)) => AV.inp (.tup []) (.fr 111 2 (List.map a110 r)))) (p0 : (List S25)) (p1 : Int) : runs Tryz.prog C (cfg.fn 69) (finFn Tryz.prog (cfg.fn 69).byval Tryz.f69) [] (execA Tryz.prog C (cfg.fn 69) (nr Tryz.f69 []) (frame0 [LL a25 p0, I p1] 84 false)) = (T69 p0 p1).map (fun l => AV.fr 111 2 (List.map a110 l)) := by
  unfold T69
  refine gS 1 ?_
  refine gR 0 (rg Tryz.f69 0) ?_
  refine se (mkE [(0, LL a25 p0), (1, I p1)] [] 84) ?_
  refine pN ?_
  refine pS ?_
  refine gS 2 ?_
  refine gR 1 (rg Tryz.f69 1) ?_
  refine se (mkE [(0, LL a25 p0), (1, I p1), (5, .nils)] [] 84) ?_
  refine pN ?_
  refine pS ?_
  refine gS 8 ?_
  refine gS 3 ?_
  refine gR 2 (rg Tryz.f69 2) ?_
  refine sg 1 (mkE [(12, LL a25 p0), (0, LL a25 p0), (1, I p1), (5, .nils)] [] 84) ?_
  refine eo 13 (I (lenL p0)) (lenE 42 a25 p0) ?_
  refine se (mkE [(1, I p1), (5, .nils), (12, LL a25 p0), (13, I (lenL p0)), (14, I 0)] [] 84) ?_
  refine pN ?_
  refine pS ?_
  refine gB 0 ?_
  refine lo [(1, none), (5, some (111, 2)), (12, none), (13, none), (14, none)] [] (L69_3 p0 p1) (fun z0 : ((List S110) × Int) => (mkE [(1, I p1), (5, .own 40 0), (12, LL a25 p0), (13, I (lenL p0)), (14, I z0.2)] [(40, RR 111 2 a110 z0.1 0 false)] 84)) (fun (x : (Int × Bool × (List S110))) => (.exit 0, (mkE [(1, I p1), (5, .own 40 0), (12, LL a25 p0), (13, I (lenL p0)), (14, I x.1), (15, B x.2.1)] [(40, RR 111 2 a110 x.2.2 0 false)] 84))) ([], 0) (fun z => L69_3_ok C p0 p1 z) ?_
  intro y3
  refine pH ?_
  refine pN ?_
  refine pS ?_
  refine gS 9 ?_
  refine gR 8 (rg Tryz.f69 8) ?_
  refine sg 1 (mkE [(43, .own 40 0), (1, I p1), (5, .own 40 0), (12, LL a25 p0), (13, I (lenL p0)), (14, I y3.1), (15, B y3.2.1)] [(40, RR 111 2 a110 y3.2.2 0 false)] 84) ?_
  refine mo (some 44) (ipR 87 111 2 40 0 a110 y3.2.2 [.fn 88 []] [.fn 88 []] [] (fun x : (List S110) => .tup []) (fun x : (List S110) => x) (h87 y3.2.2)) (fun x4 => ?_)
  refine se (mkE [(5, .own 40 0)] [(40, RR 111 2 a110 x4 0 false)] 84) ?_
  refine pN ?_
  refine pS ?_
  refine gS 10 ?_
  refine gR 9 (rg Tryz.f69 9) ?_
  refine se (mkE [(5, .own 40 0), (8, .nils)] [(40, RR 111 2 a110 x4 0 false)] 84) ?_
  refine pN ?_
  refine pS ?_
  refine gS 18 ?_
  refine gS 11 ?_
  refine gR 10 (rg Tryz.f69 10) ?_
  refine sg 1 (mkE [(45, .own 40 0), (5, .own 40 0), (8, .nils)] [(40, RR 111 2 a110 x4 0 false)] 84) ?_
  refine eo 46 (I (lenL x4)) (lenOE 106 111 2 a110 x4) ?_
  refine se (mkE [(8, .nils), (45, .own 40 0), (46, I (lenL x4)), (47, I 0)] [(40, RR 111 2 a110 x4 0 false)] 84) ?_
  refine pN ?_
  refine pS ?_
  refine gB 2 ?_
  refine lo [(8, some (111, 2)), (45, some (111, 2)), (46, none), (47, none)] [] (L69_11 x4) (fun z1 : ((List S110) × (List S110) × Int) => (mkE [(8, .own 64 0), (45, .own 360 0), (46, I (lenL x4)), (47, I z1.2.2)] [(64, RR 111 2 a110 z1.1 0 false), (360, RR 111 2 a110 z1.2.1 0 false)] 84)) (fun (x : (Int × Bool × (List S110) × (List S110))) => (.exit 2, (mkE [(8, .own 64 0), (45, .own 360 0), (46, I (lenL x4)), (47, I x.1), (48, B x.2.1)] [(64, RR 111 2 a110 x.2.2.1 0 false), (360, RR 111 2 a110 x.2.2.2 0 false)] 84))) ([], x4, 0) (fun z => L69_11_ok C x4 z) ?_
  intro y15
  refine pH ?_
  refine pN ?_
  refine pS ?_
  refine gS 0 ?_
  refine gR 18 (rg Tryz.f69 18) ?_
  refine se (mkE [(4, .own 64 0)] [(64, RR 111 2 a110 y15.2.2.1 0 false)] 84) ?_
  refine pN ?_
  refine pS ?_
  refine gE ?_
  exact pL
theorem F69 (m : Nat) (hm : 3 ≤ m) (p0 : (List S25)) (p1 : Int) : callA Tryz.prog cfg m 69 [LL a25 p0, I p1] = (T69 p0 p1).map (fun l => AV.fr 111 2 (List.map a110 l)) := by
  obtain ⟨q, rfl⟩ : ∃ q, m = q + 1 := ⟨m - 1, by omega⟩
  exact (callA_body (fn := Tryz.f69) (c := body_ Tryz.f69) q _ (by kernel_rfl) (by kernel_rfl) (by kernel_rfl)).trans (B69 _ (fun p0 => F87 q (by omega) p0) p0 p1)

noncomputable def L68_6 (p0 : (List S110)) (p1 : (List S110)) (z0 : ((List S110) × Int × Int)) (x1 : S110) (z1 : Int) : Option (Int ⊕ (Int × Bool)) := (bif (ltI z1 (lenL p1)) then ((listAt p1 z1).bind fun x2 => (bif (leI x2.f1 x1.f0) then (some (.inl (addI .i64 z1 1))) else (some (.inr (z1, (leI x2.f1 x1.f0)))))) else (some (.inr (z1, false))))
theorem L68_6_ok (C : Callee) (p0 : (List S110)) (p1 : (List S110)) (z0 : ((List S110) × Int × Int)) (x1 : S110) (z1 : Int) : runs Tryz.prog C (cfg.fn 68) (finLoop ((cfg.fn 68).keep 6) ((cfg.fn 68).al 6)) [] (execA Tryz.prog C (cfg.fn 68) (nr Tryz.f68 [false, false, false, true, false, false, true, true, false, false, true, false, true, true, true]) ((fun z1 : Int => (mkE [(1, LL a110 p1), (5, .own 40 0), (6, I z1), (8, .ba 64 0), (10, LL a110 p0), (11, I (lenL p0)), (12, I z0.2.2)] [(40, RR 111 2 a110 z0.1 0 false), (64, .box [I x1.f0, I x1.f1] false)] 88)) z1)) = (L68_6 p0 p1 z0 x1 z1).map (Sum.elim (fun z => .inl ((fun z1 : Int => (mkE [(1, LL a110 p1), (5, .own 40 0), (6, I z1), (8, .ba 64 0), (10, LL a110 p0), (11, I (lenL p0)), (12, I z0.2.2)] [(40, RR 111 2 a110 z0.1 0 false), (64, .box [I x1.f0, I x1.f1] false)] 88)) z)) (fun x => .inr ((fun (x : (Int × Bool)) => (.exit 2, (mkE [(1, LL a110 p1), (5, .own 40 0), (6, I x.1), (8, .ba 64 0), (10, LL a110 p0), (11, I (lenL p0)), (12, I z0.2.2), (29, B x.2)] [(40, RR 111 2 a110 z0.1 0 false), (64, .box [I x1.f0, I x1.f1] false)] 88))) x))) := by
  unfold L68_6
  let d_0 : List (Option Nat × REff) := [(some 16, qe (I z1)), (some 17, qe (LL a110 p1)), (some 18, qe (I (lenL p1))), (some 19, qe (B (ltI z1 (lenL p1))))]
  let s_0 : List (Nat × AV) := [(1, LL a110 p1), (5, .own 40 0), (6, I z1), (8, .ba 64 0), (10, LL a110 p0), (11, I (lenL p0)), (12, I z0.2.2)]
  let s_1 : List (Nat × AV) := [(19, B (ltI z1 (lenL p1))), (18, I (lenL p1)), (17, LL a110 p1), (16, I z1)]
  let o_0 : List (Nat × AObj) := [(40, RR 111 2 a110 z0.1 0 false), (64, .box [I x1.f0, I x1.f1] false)]
  refine gS 7 ?_
  refine gS 0 ?_
  refine gD 6 14 (rg Tryz.f68 6) [0, 1, 2, 3, 4, 5, 6, 7, 8, 9, 10, 11, 12, 13] ?_
  refine dg 2 [(some 16, qe (I z1)), (some 17, qe (LL a110 p1))] ?_
  refine df 18 (I (lenL p1)) (mkE ((17, LL a110 p1) :: s_0) o_0 88) (lenE 106 a110 p1) ?_
  refine dg 5 (d_0.append [(some 20, qe (B (ltI z1 (lenL p1))))]) ?_
  refine db 4 20 (ltI z1 (lenL p1)) ?_ ?_
  · refine dg 7 (d_0.append ((some 20, qe (B true)) :: ((some 21, qe (LL a110 p1)) :: [(some 22, qe (I z1))]))) ?_
    refine dv 23 (mkE ((22, I z1) :: ((21, LL a110 p1) :: ((20, B true) :: (s_1.append s_0)))) o_0 88) (addrE 106 111 2 a110 .i64 p1 z1) (fun x2 => ?_)
    refine dg 14 (d_0.append ((some 20, qe (B true)) :: ((some 21, qe (LL a110 p1)) :: ((some 22, qe (I z1)) :: ((some 23, qe (.ia [I x2.f0, I x2.f1] 0)) :: ((some 24, qe (.ia [I x2.f0, I x2.f1] 1)) :: ((some 25, qe (I x2.f1)) :: ((some 26, qe (.ba 64 0)) :: ((some 27, qe (I x1.f0)) :: ((some 28, qe (B (leI x2.f1 x1.f0))) :: [(some 29, qe (B (leI x2.f1 x1.f0)))])))))))))) ?_
    refine de (mkE ((29, B (leI x2.f1 x1.f0)) :: ((28, B (leI x2.f1 x1.f0)) :: ((27, I x1.f0) :: ((26, .ba 64 0) :: ((25, I x2.f1) :: ((24, .ia [I x2.f0, I x2.f1] 1) :: ((23, .ia [I x2.f0, I x2.f1] 0) :: ((22, I z1) :: ((21, LL a110 p1) :: ((20, B true) :: (s_1.append s_0))))))))))) o_0 88) ?_
    refine se (mkE (s_0.append [(29, B (leI x2.f1 x1.f0))]) o_0 88) ?_
    refine pN ?_
    refine pS ?_
    refine gC 29 (leI x2.f1 x1.f0) ?_ ?_
    · refine gK ?_
      refine pN ?_
      refine pS ?_
      refine gB 3 ?_
      refine gR 7 (rg Tryz.f68 7) ?_
      refine se (mkE [(1, LL a110 p1), (5, .own 40 0), (6, I (addI .i64 z1 1)), (8, .ba 64 0), (10, LL a110 p0), (11, I (lenL p0)), (12, I z0.2.2)] o_0 88) ?_
      refine pB ?_
      exact pL
    · refine gX 2 ?_
      exact pL
  · refine dg 14 (d_0.append ((some 20, qe (B false)) :: ((some 21, qe (.und)) :: ((some 22, qe (.und)) :: ((some 23, qe (.und)) :: ((some 24, qe (.und)) :: ((some 25, qe (.und)) :: ((some 26, qe (.und)) :: ((some 27, qe (.und)) :: ((some 28, qe (.und)) :: [(some 29, qe (B false))])))))))))) ?_
    refine de (mkE ((29, B false) :: ((28, .und) :: ((27, .und) :: ((26, .und) :: ((25, .und) :: ((24, .und) :: ((23, .und) :: ((22, .und) :: ((21, .und) :: ((20, B false) :: (s_1.append s_0))))))))))) o_0 88) ?_
    refine se (mkE (s_0.append [(29, B false)]) o_0 88) ?_
    refine pN ?_
    refine pS ?_
    refine gF (.tmp 29) ?_
    refine gX 2 ?_
    exact pL
noncomputable def L68_9 (p0 : (List S110)) (p1 : (List S110)) (z0 : ((List S110) × Int × Int)) (x1 : S110) (y3 : (Int × Bool)) (z2 : ((List S110) × Int × Int)) : Option (((List S110) × Int × Int) ⊕ (Int × Bool × (List S110) × Int)) := (bif (ltI z2.2.2 (lenL p1)) then ((listAt p1 z2.2.2).bind fun x4 => (bif (ltI x4.f0 x1.f1) then ((listAt p1 z2.2.2).bind fun x5 => (bif (ltI z2.2.1 x5.f0) then ((listAt p1 z2.2.2).bind fun x6 => ((appO 16 z2.1 ([(S110.mk z2.2.1 x6.f0)] : List S110)).bind fun x7 => ((listAt p1 z2.2.2).bind fun x8 => (some (.inl (x7, (maxI z2.2.1 x8.f1), (addI .i64 z2.2.2 1))))))) else ((listAt p1 z2.2.2).bind fun x9 => (some (.inl (z2.1, (maxI z2.2.1 x9.f1), (addI .i64 z2.2.2 1))))))) else (some (.inr (z2.2.2, (ltI x4.f0 x1.f1), z2.1, z2.2.1))))) else (some (.inr (z2.2.2, false, z2.1, z2.2.1))))
theorem L68_9_ok (C : Callee) (p0 : (List S110)) (p1 : (List S110)) (z0 : ((List S110) × Int × Int)) (x1 : S110) (y3 : (Int × Bool)) (z2 : ((List S110) × Int × Int)) : runs Tryz.prog C (cfg.fn 68) (finLoop ((cfg.fn 68).keep 9) ((cfg.fn 68).al 9)) [] (execA Tryz.prog C (cfg.fn 68) (nr Tryz.f68 [false, false, true, false, true, true, false, false, true, true, false, false, true, false, true, true, true]) ((fun z2 : ((List S110) × Int × Int) => (mkE [(1, LL a110 p1), (5, .own 40 0), (6, I y3.1), (8, .ba 64 0), (9, I z2.2.2), (10, LL a110 p0), (11, I (lenL p0)), (12, I z0.2.2)] [(40, RR 111 2 a110 z2.1 0 false), (64, .box [I z2.2.1, I x1.f1] false)] 88)) z2)) = (L68_9 p0 p1 z0 x1 y3 z2).map (Sum.elim (fun z => .inl ((fun z2 : ((List S110) × Int × Int) => (mkE [(1, LL a110 p1), (5, .own 40 0), (6, I y3.1), (8, .ba 64 0), (9, I z2.2.2), (10, LL a110 p0), (11, I (lenL p0)), (12, I z0.2.2)] [(40, RR 111 2 a110 z2.1 0 false), (64, .box [I z2.2.1, I x1.f1] false)] 88)) z)) (fun x => .inr ((fun (x : (Int × Bool × (List S110) × Int)) => (.exit 4, (mkE [(1, LL a110 p1), (5, .own 40 0), (6, I y3.1), (8, .ba 64 0), (9, I x.1), (10, LL a110 p0), (11, I (lenL p0)), (12, I z0.2.2), (46, B x.2.1)] [(40, RR 111 2 a110 x.2.2.1 0 false), (64, .box [I x.2.2.2, I x1.f1] false)] 88))) x))) := by
  unfold L68_9
  let d_0 : List (Option Nat × REff) := [(some 33, qe (I z2.2.2)), (some 34, qe (LL a110 p1)), (some 35, qe (I (lenL p1))), (some 36, qe (B (ltI z2.2.2 (lenL p1))))]
  let d_1 : List (Option Nat × REff) := [(some 68, qe (.ba 64 0)), (some 69, qe (I z2.2.1)), (some 70, qe (LL a110 p1)), (some 71, qe (I z2.2.2))]
  let d_2 : List (Option Nat × REff) := [(some 57, qe (.own 40 0)), (some 58, qe (.ba 64 0)), (some 59, qe (I z2.2.1)), (some 60, qe (LL a110 p1)), (some 61, qe (I z2.2.2))]
  let s_0 : List (Nat × AV) := [(1, LL a110 p1), (5, .own 40 0), (6, I y3.1), (8, .ba 64 0), (9, I z2.2.2), (10, LL a110 p0), (11, I (lenL p0)), (12, I z0.2.2)]
  let s_1 : List (Nat × AV) := [(1, LL a110 p1), (5, .own 40 1), (6, I y3.1), (8, .ba 64 0), (9, I z2.2.2), (10, LL a110 p0), (11, I (lenL p0)), (12, I z0.2.2)]
  let s_2 : List (Nat × AV) := [(36, B (ltI z2.2.2 (lenL p1))), (35, I (lenL p1)), (34, LL a110 p1), (33, I z2.2.2)]
  let o_0 : List (Nat × AObj) := [(40, RR 111 2 a110 z2.1 0 false), (64, .box [I z2.2.1, I x1.f1] false)]
  refine gS 11 ?_
  refine gS 0 ?_
  refine gD 9 14 (rg Tryz.f68 9) [0, 1, 2, 3, 4, 5, 6, 7, 8, 9, 10, 11, 12, 13] ?_
  refine dg 2 [(some 33, qe (I z2.2.2)), (some 34, qe (LL a110 p1))] ?_
  refine df 35 (I (lenL p1)) (mkE ((34, LL a110 p1) :: s_0) o_0 88) (lenE 106 a110 p1) ?_
  refine dg 5 (d_0.append [(some 37, qe (B (ltI z2.2.2 (lenL p1))))]) ?_
  refine db 4 37 (ltI z2.2.2 (lenL p1)) ?_ ?_
  · refine dg 7 (d_0.append ((some 37, qe (B true)) :: ((some 38, qe (LL a110 p1)) :: [(some 39, qe (I z2.2.2))]))) ?_
    refine dv 40 (mkE ((39, I z2.2.2) :: ((38, LL a110 p1) :: ((37, B true) :: (s_2.append s_0)))) o_0 88) (addrE 106 111 2 a110 .i64 p1 z2.2.2) (fun x4 => ?_)
    refine dg 14 (d_0.append ((some 37, qe (B true)) :: ((some 38, qe (LL a110 p1)) :: ((some 39, qe (I z2.2.2)) :: ((some 40, qe (.ia [I x4.f0, I x4.f1] 0)) :: ((some 41, qe (.ia [I x4.f0, I x4.f1] 0)) :: ((some 42, qe (I x4.f0)) :: ((some 43, qe (.ba 64 1)) :: ((some 44, qe (I x1.f1)) :: ((some 45, qe (B (ltI x4.f0 x1.f1))) :: [(some 46, qe (B (ltI x4.f0 x1.f1)))])))))))))) ?_
    refine de (mkE ((46, B (ltI x4.f0 x1.f1)) :: ((45, B (ltI x4.f0 x1.f1)) :: ((44, I x1.f1) :: ((43, .ba 64 1) :: ((42, I x4.f0) :: ((41, .ia [I x4.f0, I x4.f1] 0) :: ((40, .ia [I x4.f0, I x4.f1] 0) :: ((39, I z2.2.2) :: ((38, LL a110 p1) :: ((37, B true) :: (s_2.append s_0))))))))))) o_0 88) ?_
    refine se (mkE (s_0.append [(46, B (ltI x4.f0 x1.f1))]) o_0 88) ?_
    refine pN ?_
    refine pS ?_
    refine gC 46 (ltI x4.f0 x1.f1) ?_ ?_
    · refine gK ?_
      refine pN ?_
      refine pS ?_
      refine gS 10 ?_
      refine gB 5 ?_
      refine gS 13 ?_
      refine gS 0 ?_
      refine gD 11 8 (rg Tryz.f68 11) [0, 1, 2, 3, 4, 5, 6, 7] ?_
      refine dg 2 [(some 49, qe (LL a110 p1)), (some 50, qe (I z2.2.2))] ?_
      refine dv 51 (mkE ((50, I z2.2.2) :: ((49, LL a110 p1) :: (s_0.append [(46, B (ltI x4.f0 x1.f1))]))) o_0 88) (addrE 106 111 2 a110 .i64 p1 z2.2.2) (fun x5 => ?_)
      refine dg 8 [(some 49, qe (LL a110 p1)), (some 50, qe (I z2.2.2)), (some 51, qe (.ia [I x5.f0, I x5.f1] 0)), (some 52, qe (.ia [I x5.f0, I x5.f1] 0)), (some 53, qe (I x5.f0)), (some 54, qe (.ba 64 0)), (some 55, qe (I z2.2.1)), (some 56, qe (B (ltI z2.2.1 x5.f0)))] ?_
      refine de (mkE ((56, B (ltI z2.2.1 x5.f0)) :: ((55, I z2.2.1) :: ((54, .ba 64 0) :: ((53, I x5.f0) :: ((52, .ia [I x5.f0, I x5.f1] 0) :: ((51, .ia [I x5.f0, I x5.f1] 0) :: ((50, I z2.2.2) :: ((49, LL a110 p1) :: (s_0.append [(46, B (ltI x4.f0 x1.f1))]))))))))) o_0 88) ?_
      refine se (mkE (s_0.append [(56, B (ltI z2.2.1 x5.f0))]) o_0 88) ?_
      refine pN ?_
      refine pS ?_
      refine gC 56 (ltI z2.2.1 x5.f0) ?_ ?_
      · refine gD 12 10 (rg Tryz.f68 12) [0, 1, 2, 3, 4, 5, 6, 7, 8, 9, 10, 11] ?_
        refine dg 5 d_2 ?_
        refine dv 62 (mkE ((61, I z2.2.2) :: ((60, LL a110 p1) :: (s_0.append [(56, B (ltI z2.2.1 x5.f0))]))) o_0 88) (addrE 106 111 2 a110 .i64 p1 z2.2.2) (fun x6 => ?_)
        refine dg 10 (d_2.append ((some 62, qe (.ia [I x6.f0, I x6.f1] 0)) :: ((some 63, qe (.ia [I x6.f0, I x6.f1] 0)) :: ((some 64, qe (I x6.f0)) :: ((some 65, qe (.agg [I z2.2.1, I x6.f0])) :: [(some 66, { e := { val := .own 528 0, news := [(528, RR 111 2 a110 ([(S110.mk z2.2.1 x6.f0)] : List S110) 0 false)] } })]))))) ?_
        refine de (mkE ((66, .own 528 0) :: ((65, .agg [I z2.2.1, I x6.f0]) :: ((64, I x6.f0) :: ((63, .ia [I x6.f0, I x6.f1] 0) :: ((62, .ia [I x6.f0, I x6.f1] 0) :: ((61, I z2.2.2) :: ((60, LL a110 p1) :: ((59, I z2.2.1) :: ((58, .ba 64 0) :: ((57, .own 40 0) :: (s_0.append [(56, B (ltI z2.2.1 x5.f0))]))))))))))) ((528, RR 111 2 a110 ([(S110.mk z2.2.1 x6.f0)] : List S110) 0 false) :: o_0) 88) ?_
        refine mo (some 67) (apO 106 111 2 16 40 a110 0 [528] (y := .own 528 0) (l2 := ([(S110.mk z2.2.1 x6.f0)] : List S110))) (fun x7 => ?_)
        refine se (mkE s_1 [(40, RR 111 2 a110 x7 1 false), (64, .box [I z2.2.1, I x1.f1] false)] 88) ?_
        refine pN ?_
        refine pS ?_
        refine gD 13 9 (rg Tryz.f68 13) [0, 1, 2, 3, 4, 5, 6, 7, 8, 9] ?_
        refine dg 4 d_1 ?_
        refine dv 72 (mkE ((71, I z2.2.2) :: ((70, LL a110 p1) :: s_1)) [(40, RR 111 2 a110 x7 1 false), (64, .box [I z2.2.1, I x1.f1] false)] 88) (addrE 106 111 2 a110 .i64 p1 z2.2.2) (fun x8 => ?_)
        refine dg 9 (d_1.append ((some 72, qe (.ia [I x8.f0, I x8.f1] 0)) :: ((some 73, qe (.ia [I x8.f0, I x8.f1] 1)) :: ((some 74, qe (I x8.f1)) :: ((some 75, qe (I (maxI z2.2.1 x8.f1))) :: [(some 76, qe (.ba 64 0))]))))) ?_
        refine de (mkE ((76, .ba 64 0) :: ((75, I (maxI z2.2.1 x8.f1)) :: ((74, I x8.f1) :: ((73, .ia [I x8.f0, I x8.f1] 1) :: ((72, .ia [I x8.f0, I x8.f1] 0) :: ((71, I z2.2.2) :: ((70, LL a110 p1) :: ((69, I z2.2.1) :: ((68, .ba 64 0) :: s_1))))))))) [(40, RR 111 2 a110 x7 1 false), (64, .box [I z2.2.1, I x1.f1] false)] 88) ?_
        refine se (mkE s_1 [(40, RR 111 2 a110 x7 1 false), (64, .box [I (maxI z2.2.1 x8.f1), I x1.f1] false)] 88) ?_
        refine pB ?_
        refine pN ?_
        refine pS ?_
        refine gR 10 (rg Tryz.f68 10) ?_
        refine se (mkE [(1, LL a110 p1), (5, .own 40 1), (6, I y3.1), (8, .ba 64 0), (9, I (addI .i64 z2.2.2 1)), (10, LL a110 p0), (11, I (lenL p0)), (12, I z0.2.2)] [(40, RR 111 2 a110 x7 1 false), (64, .box [I (maxI z2.2.1 x8.f1), I x1.f1] false)] 88) ?_
        exact pL
      · refine gK ?_
        refine pN ?_
        refine pS ?_
        refine gD 13 9 (rg Tryz.f68 13) [0, 1, 2, 3, 4, 5, 6, 7, 8, 9] ?_
        refine dg 4 d_1 ?_
        refine dv 72 (mkE ((71, I z2.2.2) :: ((70, LL a110 p1) :: (s_0.append [(56, B (ltI z2.2.1 x5.f0))]))) o_0 88) (addrE 106 111 2 a110 .i64 p1 z2.2.2) (fun x9 => ?_)
        refine dg 9 (d_1.append ((some 72, qe (.ia [I x9.f0, I x9.f1] 0)) :: ((some 73, qe (.ia [I x9.f0, I x9.f1] 1)) :: ((some 74, qe (I x9.f1)) :: ((some 75, qe (I (maxI z2.2.1 x9.f1))) :: [(some 76, qe (.ba 64 0))]))))) ?_
        refine de (mkE ((76, .ba 64 0) :: ((75, I (maxI z2.2.1 x9.f1)) :: ((74, I x9.f1) :: ((73, .ia [I x9.f0, I x9.f1] 1) :: ((72, .ia [I x9.f0, I x9.f1] 0) :: ((71, I z2.2.2) :: ((70, LL a110 p1) :: ((69, I z2.2.1) :: ((68, .ba 64 0) :: (s_0.append [(56, B (ltI z2.2.1 x5.f0))])))))))))) o_0 88) ?_
        refine se (mkE s_0 [(40, RR 111 2 a110 z2.1 0 false), (64, .box [I (maxI z2.2.1 x9.f1), I x1.f1] false)] 88) ?_
        refine pB ?_
        refine pN ?_
        refine pS ?_
        refine gR 10 (rg Tryz.f68 10) ?_
        refine se (mkE [(1, LL a110 p1), (5, .own 40 0), (6, I y3.1), (8, .ba 64 0), (9, I (addI .i64 z2.2.2 1)), (10, LL a110 p0), (11, I (lenL p0)), (12, I z0.2.2)] [(40, RR 111 2 a110 z2.1 0 false), (64, .box [I (maxI z2.2.1 x9.f1), I x1.f1] false)] 88) ?_
        exact pL
    · refine gX 4 ?_
      exact pL
  · refine dg 14 (d_0.append ((some 37, qe (B false)) :: ((some 38, qe (.und)) :: ((some 39, qe (.und)) :: ((some 40, qe (.und)) :: ((some 41, qe (.und)) :: ((some 42, qe (.und)) :: ((some 43, qe (.und)) :: ((some 44, qe (.und)) :: ((some 45, qe (.und)) :: [(some 46, qe (B false))])))))))))) ?_
    refine de (mkE ((46, B false) :: ((45, .und) :: ((44, .und) :: ((43, .und) :: ((42, .und) :: ((41, .und) :: ((40, .und) :: ((39, .und) :: ((38, .und) :: ((37, B false) :: (s_2.append s_0))))))))))) o_0 88) ?_
    refine se (mkE (s_0.append [(46, B false)]) o_0 88) ?_
    refine pN ?_
    refine pS ?_
    refine gF (.tmp 46) ?_
    refine gX 4 ?_
    exact pL
noncomputable def L68_4 (p0 : (List S110)) (p1 : (List S110)) (z0 : ((List S110) × Int × Int)) : Option (((List S110) × Int × Int) ⊕ (Int × Int × Bool × (List S110))) := (bif (ltI z0.2.2 (lenL p0)) then ((listAt p0 z0.2.2).bind fun x1 => ((iter (L68_6 p0 p1 z0 x1) z0.2.1).bind fun y3 => ((iter (L68_9 p0 p1 z0 x1 y3) (z0.1, x1.f0, y3.1)).bind fun y10 => (bif (ltI y10.2.2.2 x1.f1) then ((appO 16 y10.2.2.1 ([(S110.mk y10.2.2.2 x1.f1)] : List S110)).bind fun x11 => (some (.inl (x11, y3.1, (addI .i64 z0.2.2 1))))) else (some (.inl (y10.2.2.1, y3.1, (addI .i64 z0.2.2 1)))))))) else (some (.inr (z0.2.1, z0.2.2, (ltI z0.2.2 (lenL p0)), z0.1))))
theorem L68_4_ok (C : Callee) (p0 : (List S110)) (p1 : (List S110)) (z0 : ((List S110) × Int × Int)) : runs Tryz.prog C (cfg.fn 68) (finLoop ((cfg.fn 68).keep 4) ((cfg.fn 68).al 4)) [] (execA Tryz.prog C (cfg.fn 68) (nr Tryz.f68 [false, false, true, false, true, true, true]) ((fun z0 : ((List S110) × Int × Int) => (mkE [(1, LL a110 p1), (5, .own 40 0), (6, I z0.2.1), (10, LL a110 p0), (11, I (lenL p0)), (12, I z0.2.2)] [(40, RR 111 2 a110 z0.1 0 false)] 88)) z0)) = (L68_4 p0 p1 z0).map (Sum.elim (fun z => .inl ((fun z0 : ((List S110) × Int × Int) => (mkE [(1, LL a110 p1), (5, .own 40 0), (6, I z0.2.1), (10, LL a110 p0), (11, I (lenL p0)), (12, I z0.2.2)] [(40, RR 111 2 a110 z0.1 0 false)] 88)) z)) (fun x => .inr ((fun (x : (Int × Int × Bool × (List S110))) => (.exit 0, (mkE [(1, LL a110 p1), (5, .own 40 0), (6, I x.1), (10, LL a110 p0), (11, I (lenL p0)), (12, I x.2.1), (13, B x.2.2.1)] [(40, RR 111 2 a110 x.2.2.2 0 false)] 88))) x))) := by
  unfold L68_4
  let s_0 : List (Nat × AV) := [(10, LL a110 p0), (11, I (lenL p0)), (12, I z0.2.2)]
  let s_1 : List (Nat × AV) := [(1, LL a110 p1), (5, .own 40 0)]
  refine gS 0 ?_
  refine gR 4 (rg Tryz.f68 4) ?_
  refine se (mkE (s_1.append ((6, I z0.2.1) :: (s_0.append [(13, B (ltI z0.2.2 (lenL p0)))]))) [(40, RR 111 2 a110 z0.1 0 false)] 88) ?_
  refine pN ?_
  refine pS ?_
  refine gS 5 ?_
  refine gC 13 (ltI z0.2.2 (lenL p0)) ?_ ?_
  · refine gK ?_
    refine pN ?_
    refine pS ?_
    refine gS 16 ?_
    refine gB 1 ?_
    refine gS 6 ?_
    refine gR 5 (rg Tryz.f68 5) ?_
    refine vo 14 (addrE 106 111 2 a110 .i64 p0 z0.2.2) (fun x1 => ?_)
    refine se (mkE (s_1.append ((6, I z0.2.1) :: ((8, .ba 64 0) :: s_0))) [(40, RR 111 2 a110 z0.1 0 false), (64, .box [I x1.f0, I x1.f1] false)] 88) ?_
    refine pN ?_
    refine pS ?_
    refine gS 8 ?_
    refine gB 2 ?_
    refine lo [(1, none), (5, some (111, 2)), (6, none), (8, none), (10, none), (11, none), (12, none)] [] (L68_6 p0 p1 z0 x1) (fun z1 : Int => (mkE (s_1.append ((6, I z1) :: ((8, .ba 64 0) :: s_0))) [(40, RR 111 2 a110 z0.1 0 false), (64, .box [I x1.f0, I x1.f1] false)] 88)) (fun (x : (Int × Bool)) => (.exit 2, (mkE (s_1.append ((6, I x.1) :: ((8, .ba 64 0) :: (s_0.append [(29, B x.2)])))) [(40, RR 111 2 a110 z0.1 0 false), (64, .box [I x1.f0, I x1.f1] false)] 88))) z0.2.1 (fun z => L68_6_ok C p0 p1 z0 x1 z) ?_
    intro y3
    refine pH ?_
    refine pN ?_
    refine pS ?_
    refine gS 14 ?_
    refine gS 9 ?_
    refine gR 8 (rg Tryz.f68 8) ?_
    refine se (mkE (s_1.append ((6, I y3.1) :: ((8, .ba 64 0) :: ((9, I y3.1) :: s_0)))) [(40, RR 111 2 a110 z0.1 0 false), (64, .box [I x1.f0, I x1.f1] false)] 88) ?_
    refine pN ?_
    refine pS ?_
    refine gB 4 ?_
    refine lo [(1, none), (5, some (111, 2)), (6, none), (8, none), (9, none), (10, none), (11, none), (12, none)] [] (L68_9 p0 p1 z0 x1 y3) (fun z2 : ((List S110) × Int × Int) => (mkE (s_1.append ((6, I y3.1) :: ((8, .ba 64 0) :: ((9, I z2.2.2) :: s_0)))) [(40, RR 111 2 a110 z2.1 0 false), (64, .box [I z2.2.1, I x1.f1] false)] 88)) (fun (x : (Int × Bool × (List S110) × Int)) => (.exit 4, (mkE (s_1.append ((6, I y3.1) :: ((8, .ba 64 0) :: ((9, I x.1) :: (s_0.append [(46, B x.2.1)]))))) [(40, RR 111 2 a110 x.2.2.1 0 false), (64, .box [I x.2.2.2, I x1.f1] false)] 88))) (z0.1, x1.f0, y3.1) (fun z => L68_9_ok C p0 p1 z0 x1 y3 z) ?_
    intro y10
    refine pH ?_
    refine pN ?_
    refine pS ?_
    refine gS 0 ?_
    refine gR 14 (rg Tryz.f68 14) ?_
    refine se (mkE (s_1.append ((6, I y3.1) :: ((8, .ba 64 0) :: (s_0.append [(81, B (ltI y10.2.2.2 x1.f1))])))) [(40, RR 111 2 a110 y10.2.2.1 0 false), (64, .box [I y10.2.2.2, I x1.f1] false)] 88) ?_
    refine pN ?_
    refine pS ?_
    refine gC 81 (ltI y10.2.2.2 x1.f1) ?_ ?_
    · refine gR 15 (rg Tryz.f68 15) ?_
      refine sg 3 (mkE ((84, .own 672 0) :: ((83, .agg [I y10.2.2.2, I x1.f1]) :: ((82, .own 40 0) :: (s_1.append ((6, I y3.1) :: ((8, .ba 64 0) :: (s_0.append [(81, B (ltI y10.2.2.2 x1.f1))]))))))) [(672, RR 111 2 a110 ([(S110.mk y10.2.2.2 x1.f1)] : List S110) 0 false), (40, RR 111 2 a110 y10.2.2.1 0 false), (64, .box [I y10.2.2.2, I x1.f1] false)] 88) ?_
      refine mo (some 85) (apO 106 111 2 16 40 a110 0 [672] (y := .own 672 0) (l2 := ([(S110.mk y10.2.2.2 x1.f1)] : List S110))) (fun x11 => ?_)
      refine se (mkE ((1, LL a110 p1) :: ((5, .own 40 1) :: ((6, I y3.1) :: s_0))) [(40, RR 111 2 a110 x11 1 false)] 88) ?_
      refine pB ?_
      refine pN ?_
      refine pS ?_
      refine gR 16 (rg Tryz.f68 16) ?_
      refine se (mkE [(1, LL a110 p1), (5, .own 40 1), (6, I y3.1), (10, LL a110 p0), (11, I (lenL p0)), (12, I (addI .i64 z0.2.2 1))] [(40, RR 111 2 a110 x11 1 false)] 88) ?_
      exact pL
    · refine gK ?_
      refine pB ?_
      refine pN ?_
      refine pS ?_
      refine gR 16 (rg Tryz.f68 16) ?_
      refine se (mkE (s_1.append ((6, I y3.1) :: ((10, LL a110 p0) :: ((11, I (lenL p0)) :: [(12, I (addI .i64 z0.2.2 1))])))) [(40, RR 111 2 a110 y10.2.2.1 0 false)] 88) ?_
      exact pL
  · refine gX 0 ?_
    exact pL
noncomputable def T68 (p0 : (List S110)) (p1 : (List S110)) : Option (List S110) := ((iter (L68_4 p0 p1) ([], 0, 0)).bind fun y12 => (some y12.2.2.2))
theorem B68 (C : Callee) (p0 : (List S110)) (p1 : (List S110)) : runs Tryz.prog C (cfg.fn 68) (finFn Tryz.prog (cfg.fn 68).byval Tryz.f68) [] (execA Tryz.prog C (cfg.fn 68) (nr Tryz.f68 []) (frame0 [LL a110 p0, LL a110 p1] 88 false)) = (T68 p0 p1).map (fun l => AV.fr 111 2 (List.map a110 l)) := by
  unfold T68
  refine gS 1 ?_
  refine gR 0 (rg Tryz.f68 0) ?_
  refine se (mkE [(0, LL a110 p0), (1, LL a110 p1)] [] 88) ?_
  refine pN ?_
  refine pS ?_
  refine gS 2 ?_
  refine gR 1 (rg Tryz.f68 1) ?_
  refine se (mkE [(0, LL a110 p0), (1, LL a110 p1), (5, .nils)] [] 88) ?_
  refine pN ?_
  refine pS ?_
  refine gS 3 ?_
  refine gR 2 (rg Tryz.f68 2) ?_
  refine se (mkE [(0, LL a110 p0), (1, LL a110 p1), (5, .nils), (6, I 0)] [] 88) ?_
  refine pN ?_
  refine pS ?_
  refine gS 17 ?_
  refine gS 4 ?_
  refine gR 3 (rg Tryz.f68 3) ?_
  refine sg 1 (mkE [(10, LL a110 p0), (0, LL a110 p0), (1, LL a110 p1), (5, .nils), (6, I 0)] [] 88) ?_
  refine eo 11 (I (lenL p0)) (lenE 106 a110 p0) ?_
  refine se (mkE [(1, LL a110 p1), (5, .nils), (6, I 0), (10, LL a110 p0), (11, I (lenL p0)), (12, I 0)] [] 88) ?_
  refine pN ?_
  refine pS ?_
  refine gB 0 ?_
  refine lo [(1, none), (5, some (111, 2)), (6, none), (10, none), (11, none), (12, none)] [] (L68_4 p0 p1) (fun z0 : ((List S110) × Int × Int) => (mkE [(1, LL a110 p1), (5, .own 40 0), (6, I z0.2.1), (10, LL a110 p0), (11, I (lenL p0)), (12, I z0.2.2)] [(40, RR 111 2 a110 z0.1 0 false)] 88)) (fun (x : (Int × Int × Bool × (List S110))) => (.exit 0, (mkE [(1, LL a110 p1), (5, .own 40 0), (6, I x.1), (10, LL a110 p0), (11, I (lenL p0)), (12, I x.2.1), (13, B x.2.2.1)] [(40, RR 111 2 a110 x.2.2.2 0 false)] 88))) ([], 0, 0) (fun z => L68_4_ok C p0 p1 z) ?_
  intro y12
  refine pH ?_
  refine pN ?_
  refine pS ?_
  refine gS 0 ?_
  refine gR 17 (rg Tryz.f68 17) ?_
  refine se (mkE [(4, .own 40 0)] [(40, RR 111 2 a110 y12.2.2.2 0 false)] 88) ?_
  refine pN ?_
  refine pS ?_
  refine gE ?_
  exact pL
theorem F68 (m : Nat) (hm : 1 ≤ m) (p0 : (List S110)) (p1 : (List S110)) : callA Tryz.prog cfg m 68 [LL a110 p0, LL a110 p1] = (T68 p0 p1).map (fun l => AV.fr 111 2 (List.map a110 l)) := by
  obtain ⟨q, rfl⟩ : ∃ q, m = q + 1 := ⟨m - 1, by omega⟩
  exact (callA_body (fn := Tryz.f68) (c := body_ Tryz.f68) q _ (by kernel_rfl) (by kernel_rfl) (by kernel_rfl)).trans (B68 _ p0 p1)

noncomputable def L70_4 (p0 : (List S110)) (p1 : (List S110)) (z0 : Int) : Option (Int ⊕ ((Int × Bool) ⊕ Unit)) := (bif (ltI z0 (lenL p0)) then ((listAt p0 z0).bind fun x1 => ((listAt p1 z0).bind fun x2 => (bif (!allB [eqI x1.f0 x2.f0, eqI x1.f1 x2.f1]) then (some (.inr (.inr ()))) else (some (.inl (addI .i64 z0 1)))))) else (some (.inr (.inl (z0, (ltI z0 (lenL p0)))))))
theorem L70_4_ok (C : Callee) (p0 : (List S110)) (p1 : (List S110)) (z0 : Int) : runs Tryz.prog C (cfg.fn 70) (finLoop ((cfg.fn 70).keep 4) ((cfg.fn 70).al 4)) [] (execA Tryz.prog C (cfg.fn 70) (nr Tryz.f70 [false, false, true, false, true, true]) ((fun z0 : Int => (mkE [(0, LL a110 p0), (1, LL a110 p1), (12, I (lenL p0)), (13, I z0)] [] 26)) z0)) = (L70_4 p0 p1 z0).map (Sum.elim (fun z => .inl ((fun z0 : Int => (mkE [(0, LL a110 p0), (1, LL a110 p1), (12, I (lenL p0)), (13, I z0)] [] 26)) z)) (fun x => .inr ((Sum.elim (fun (x : (Int × Bool)) => (.exit 0, (mkE [(0, LL a110 p0), (1, LL a110 p1), (12, I (lenL p0)), (13, I x.1), (14, B x.2)] [] 26))) (fun (x : Unit) => (.ret, (mkE [(4, B false)] [] 26)))) x))) := by
  unfold L70_4
  let s_0 : List (Nat × AV) := [(0, LL a110 p0), (1, LL a110 p1), (5, I z0), (12, I (lenL p0)), (13, I z0)]
  refine gS 0 ?_
  refine gR 4 (rg Tryz.f70 4) ?_
  refine se (mkE [(0, LL a110 p0), (1, LL a110 p1), (12, I (lenL p0)), (13, I z0), (14, B (ltI z0 (lenL p0)))] [] 26) ?_
  refine pN ?_
  refine pS ?_
  refine gS 5 ?_
  refine gC 14 (ltI z0 (lenL p0)) ?_ ?_
  · refine gK ?_
    refine pN ?_
    refine pS ?_
    refine gS 8 ?_
    refine gB 1 ?_
    refine gS 6 ?_
    refine gR 5 (rg Tryz.f70 5) ?_
    refine se (mkE s_0 [] 26) ?_
    refine pN ?_
    refine pS ?_
    refine gS 0 ?_
    refine gD 6 9 (rg Tryz.f70 6) [0, 1, 2, 3, 4, 5, 6, 7, 8] ?_
    refine dg 2 [(some 16, qe (LL a110 p0)), (some 17, qe (I z0))] ?_
    refine dv 18 (mkE ((17, I z0) :: ((16, LL a110 p0) :: s_0)) [] 26) (addrE 106 111 2 a110 .i64 p0 z0) (fun x1 => ?_)
    refine dg 6 [(some 16, qe (LL a110 p0)), (some 17, qe (I z0)), (some 18, qe (.ia [I x1.f0, I x1.f1] 0)), (some 19, qe (a110 x1)), (some 20, qe (LL a110 p1)), (some 21, qe (I z0))] ?_
    refine dv 22 (mkE ((21, I z0) :: ((20, LL a110 p1) :: s_0)) [] 26) (addrE 106 111 2 a110 .i64 p1 z0) (fun x2 => ?_)
    refine dg 8 [(some 16, qe (LL a110 p0)), (some 17, qe (I z0)), (some 18, qe (.ia [I x1.f0, I x1.f1] 0)), (some 19, qe (a110 x1)), (some 20, qe (LL a110 p1)), (some 21, qe (I z0)), (some 22, qe (.ia [I x2.f0, I x2.f1] 0)), (some 23, qe (a110 x2))] ?_
    refine df 24 (B (!allB [eqI x1.f0 x2.f0, eqI x1.f1 x2.f1])) (mkE ((23, a110 x2) :: ((22, .ia [I x2.f0, I x2.f1] 0) :: ((21, I z0) :: ((20, LL a110 p1) :: ((19, a110 x1) :: ((18, .ia [I x1.f0, I x1.f1] 0) :: ((17, I z0) :: ((16, LL a110 p0) :: s_0)))))))) [] 26) (neqE 111 (.tmp 19) (.tmp 23) [I x1.f0, I x1.f1] [I x2.f0, I x2.f1] [.int .i64 x1.f0, .int .i64 x1.f1] [.int .i64 x2.f0, .int .i64 x2.f1] [eqI x1.f0 x2.f0, eqI x1.f1 x2.f1]) ?_
    refine de (mkE ((24, B (!allB [eqI x1.f0 x2.f0, eqI x1.f1 x2.f1])) :: ((23, a110 x2) :: ((22, .ia [I x2.f0, I x2.f1] 0) :: ((21, I z0) :: ((20, LL a110 p1) :: ((19, a110 x1) :: ((18, .ia [I x1.f0, I x1.f1] 0) :: ((17, I z0) :: ((16, LL a110 p0) :: s_0))))))))) [] 26) ?_
    refine se (mkE [(0, LL a110 p0), (1, LL a110 p1), (12, I (lenL p0)), (13, I z0), (24, B (!allB [eqI x1.f0 x2.f0, eqI x1.f1 x2.f1]))] [] 26) ?_
    refine pN ?_
    refine pS ?_
    refine gC 24 (!allB [eqI x1.f0 x2.f0, eqI x1.f1 x2.f1]) ?_ ?_
    · refine gS 0 ?_
      refine gR 7 (rg Tryz.f70 7) ?_
      refine se (mkE [(4, B false)] [] 26) ?_
      refine pN ?_
      refine pS ?_
      refine gE ?_
      exact pL
    · refine gK ?_
      refine pB ?_
      refine pN ?_
      refine pS ?_
      refine gR 8 (rg Tryz.f70 8) ?_
      refine se (mkE [(0, LL a110 p0), (1, LL a110 p1), (12, I (lenL p0)), (13, I (addI .i64 z0 1))] [] 26) ?_
      exact pL
  · refine gX 0 ?_
    exact pL
noncomputable def T70 (p0 : (List S110)) (p1 : (List S110)) : Option Bool := (bif (neI (lenL p0) (lenL p1)) then (some false) else ((iter (L70_4 p0 p1) 0).bind fun y3 => (Sum.elim (fun y3a => (some true)) (fun y3b => (some false)) y3)))
theorem B70 (C : Callee) (p0 : (List S110)) (p1 : (List S110)) : runs Tryz.prog C (cfg.fn 70) (finFn Tryz.prog (cfg.fn 70).byval Tryz.f70) [] (execA Tryz.prog C (cfg.fn 70) (nr Tryz.f70 []) (frame0 [LL a110 p0, LL a110 p1] 26 false)) = (T70 p0 p1).map B := by
  unfold T70
  let s_0 : List (Nat × AV) := [(0, LL a110 p0), (1, LL a110 p1)]
  refine gS 1 ?_
  refine gR 0 (rg Tryz.f70 0) ?_
  refine se (mkE s_0 [] 26) ?_
  refine pN ?_
  refine pS ?_
  refine gS 3 ?_
  refine gS 0 ?_
  refine gR 1 (rg Tryz.f70 1) ?_
  refine sg 1 (mkE ((6, LL a110 p0) :: s_0) [] 26) ?_
  refine eo 7 (I (lenL p0)) (lenE 106 a110 p0) ?_
  refine sg 3 (mkE ((8, LL a110 p1) :: ((7, I (lenL p0)) :: ((6, LL a110 p0) :: s_0))) [] 26) ?_
  refine eo 9 (I (lenL p1)) (lenE 106 a110 p1) ?_
  refine se (mkE (s_0.append [(10, B (neI (lenL p0) (lenL p1)))]) [] 26) ?_
  refine pN ?_
  refine pS ?_
  refine gC 10 (neI (lenL p0) (lenL p1)) ?_ ?_
  · refine gS 0 ?_
    refine gR 2 (rg Tryz.f70 2) ?_
    refine se (mkE [(4, B false)] [] 26) ?_
    refine pN ?_
    refine pS ?_
    refine gE ?_
    exact pL
  · refine gK ?_
    refine pN ?_
    refine pS ?_
    refine gS 9 ?_
    refine gS 4 ?_
    refine gR 3 (rg Tryz.f70 3) ?_
    refine sg 1 (mkE ((11, LL a110 p0) :: (s_0.append [(10, B (neI (lenL p0) (lenL p1)))])) [] 26) ?_
    refine eo 12 (I (lenL p0)) (lenE 106 a110 p0) ?_
    refine se (mkE (s_0.append ((12, I (lenL p0)) :: [(13, I 0)])) [] 26) ?_
    refine pN ?_
    refine pS ?_
    refine gB 0 ?_
    refine lo [(0, none), (1, none), (12, none), (13, none)] [] (L70_4 p0 p1) (fun z0 : Int => (mkE (s_0.append ((12, I (lenL p0)) :: [(13, I z0)])) [] 26)) (Sum.elim (fun (x : (Int × Bool)) => (.exit 0, (mkE (s_0.append ((12, I (lenL p0)) :: ((13, I x.1) :: [(14, B x.2)]))) [] 26))) (fun (x : Unit) => (.ret, (mkE [(4, B false)] [] 26)))) 0 (fun z => L70_4_ok C p0 p1 z) ?_
    intro y3
    refine ss y3 (Z := (Sum.elim (fun (x : (Int × Bool)) => (.exit 0, (mkE (s_0.append ((12, I (lenL p0)) :: ((13, I x.1) :: [(14, B x.2)]))) [] 26))) (fun (x : Unit) => (.ret, (mkE [(4, B false)] [] 26))))) (fun y3a => ?_) (fun y3b => ?_)
    · refine pH ?_
      refine pN ?_
      refine pS ?_
      refine gS 0 ?_
      refine gR 9 (rg Tryz.f70 9) ?_
      refine se (mkE [(4, B true)] [] 26) ?_
      refine pN ?_
      refine pS ?_
      refine gE ?_
      exact pL
    · exact pL
theorem F70 (m : Nat) (hm : 1 ≤ m) (p0 : (List S110)) (p1 : (List S110)) : callA Tryz.prog cfg m 70 [LL a110 p0, LL a110 p1] = (T70 p0 p1).map B := by
  obtain ⟨q, rfl⟩ : ∃ q, m = q + 1 := ⟨m - 1, by omega⟩
  exact (callA_body (fn := Tryz.f70) (c := body_ Tryz.f70) q _ (by kernel_rfl) (by kernel_rfl) (by kernel_rfl)).trans (B70 _ p0 p1)

noncomputable def L41_3 (p0 : (List S25)) (p1 : (List S25)) (x1 : (List S25)) (z0 : ((List Int) × (List S25) × Int)) : Option (((List Int) × (List S25) × Int) ⊕ (Int × Bool × (List Int) × (List S25))) := (bif (ltI z0.2.2 (lenL x1)) then ((idxO (List.length z0.2.1) z0.2.2).bind fun x2 => ((getN z0.2.1 x2).bind fun x3 => ((appO 8 z0.1 ([x3.f1, (addI .i64 x3.f1 x3.f3)] : List Int)).bind fun x4 => (some (.inl (x4, z0.2.1, (addI .i64 z0.2.2 1))))))) else (some (.inr (z0.2.2, (ltI z0.2.2 (lenL x1)), z0.1, z0.2.1))))
theorem L41_3_ok (C : Callee) (p0 : (List S25)) (p1 : (List S25)) (x1 : (List S25)) (z0 : ((List Int) × (List S25) × Int)) : runs Tryz.prog C (cfg.fn 41) (finLoop ((cfg.fn 41).keep 3) ((cfg.fn 41).al 3)) [] (execA Tryz.prog C (cfg.fn 41) (nr Tryz.f41 [false, false, true, false, true, true]) ((fun z0 : ((List Int) × (List S25) × Int) => (mkE [(0, LL a25 p0), (1, LL a25 p1), (5, .own 40 0), (19, .own 152 0), (20, I (lenL x1)), (21, I z0.2.2)] [(40, RR 3 1 I z0.1 0 false), (152, RR 26 4 a25 z0.2.1 0 false)] 88)) z0)) = (L41_3 p0 p1 x1 z0).map (Sum.elim (fun z => .inl ((fun z0 : ((List Int) × (List S25) × Int) => (mkE [(0, LL a25 p0), (1, LL a25 p1), (5, .own 40 0), (19, .own 152 0), (20, I (lenL x1)), (21, I z0.2.2)] [(40, RR 3 1 I z0.1 0 false), (152, RR 26 4 a25 z0.2.1 0 false)] 88)) z)) (fun x => .inr ((fun (x : (Int × Bool × (List Int) × (List S25))) => (.exit 0, (mkE [(0, LL a25 p0), (1, LL a25 p1), (5, .own 40 0), (19, .own 152 0), (20, I (lenL x1)), (21, I x.1), (22, B x.2.1)] [(40, RR 3 1 I x.2.2.1 0 false), (152, RR 26 4 a25 x.2.2.2 0 false)] 88))) x))) := by
  unfold L41_3
  let s_0 : List (Nat × AV) := [(19, .own 152 0), (20, I (lenL x1)), (21, I z0.2.2)]
  refine gS 0 ?_
  refine gR 3 (rg Tryz.f41 3) ?_
  refine se (mkE ((0, LL a25 p0) :: ((1, LL a25 p1) :: ((5, .own 40 0) :: (s_0.append [(22, B (ltI z0.2.2 (lenL x1)))])))) [(40, RR 3 1 I z0.1 0 false), (152, RR 26 4 a25 z0.2.1 0 false)] 88) ?_
  refine pN ?_
  refine pS ?_
  refine gS 4 ?_
  refine gC 22 (ltI z0.2.2 (lenL x1)) ?_ ?_
  · refine gK ?_
    refine pN ?_
    refine pS ?_
    refine gS 6 ?_
    refine gB 1 ?_
    refine gS 5 ?_
    refine gR 4 (rg Tryz.f41 4) ?_
    refine vo 23 (addrOE 42 26 4 152 0 false a25 .i64 z0.2.1 z0.2.2) (fun x2 => ?_)
    refine vo 24 (loadOE 26 152 0 x2 0 26 4 4 true false a25 (fun q : S25 => a25 q) z0.2.1) (fun x3 => ?_)
    refine se (mkE ((0, LL a25 p0) :: ((1, LL a25 p1) :: ((5, .own 40 0) :: ((7, .ba 56 0) :: s_0)))) [(40, RR 3 1 I z0.1 0 false), (56, .box [I x3.f0, I x3.f1, I x3.f2, I x3.f3] false), (152, RR 26 4 a25 z0.2.1 0 false)] 88) ?_
    refine pN ?_
    refine pS ?_
    refine gR 5 (rg Tryz.f41 5) ?_
    refine sg 9 (mkE ((33, .own 264 0) :: ((32, I (addI .i64 x3.f1 x3.f3)) :: ((31, I x3.f3) :: ((30, .ba 56 3) :: ((29, I x3.f1) :: ((28, .ba 56 1) :: ((27, I x3.f1) :: ((26, .ba 56 1) :: ((25, .own 40 0) :: ((0, LL a25 p0) :: ((1, LL a25 p1) :: ((5, .own 40 0) :: ((7, .ba 56 0) :: s_0))))))))))))) [(264, RR 3 1 I ([x3.f1, (addI .i64 x3.f1 x3.f3)] : List Int) 0 false), (40, RR 3 1 I z0.1 0 false), (56, .box [I x3.f0, I x3.f1, I x3.f2, I x3.f3] false), (152, RR 26 4 a25 z0.2.1 0 false)] 88) ?_
    refine mo (some 34) (apO 102 3 1 8 40 I 0 [264] (y := .own 264 0) (l2 := ([x3.f1, (addI .i64 x3.f1 x3.f3)] : List Int))) (fun x4 => ?_)
    refine se (mkE ((0, LL a25 p0) :: ((1, LL a25 p1) :: ((5, .own 40 1) :: s_0))) [(40, RR 3 1 I x4 1 false), (152, RR 26 4 a25 z0.2.1 0 false)] 88) ?_
    refine pB ?_
    refine pN ?_
    refine pS ?_
    refine gR 6 (rg Tryz.f41 6) ?_
    refine se (mkE [(0, LL a25 p0), (1, LL a25 p1), (5, .own 40 1), (19, .own 152 0), (20, I (lenL x1)), (21, I (addI .i64 z0.2.2 1))] [(40, RR 3 1 I x4 1 false), (152, RR 26 4 a25 z0.2.1 0 false)] 88) ?_
    exact pL
  · refine gX 0 ?_
    exact pL
noncomputable def L41_20 (p0 : (List S25)) (p1 : (List S25)) (x7 : (List Int)) (z1 : ((List Int) × (List S25) × (List S110) × Int × Int)) (x9 : Int) (x12 : (List S110)) (z2 : ((List Int) × (List S25) × Int)) : Option (((List Int) × (List S25) × Int) ⊕ (Int × Bool × (List Int) × (List S25))) := (bif (ltI z2.2.2 (lenL z1.2.2.1)) then ((listAt z1.2.2.1 z2.2.2).bind fun x14 => ((appO 32 z2.2.1 ([(S25.mk x14.f0 z1.2.2.2.1 (subI .i64 x14.f1 x14.f0) (subI .i64 x9 z1.2.2.2.1))] : List S25)).bind fun x15 => (some (.inl (z2.1, x15, (addI .i64 z2.2.2 1)))))) else (some (.inr (z2.2.2, (ltI z2.2.2 (lenL z1.2.2.1)), z2.1, z2.2.1))))
theorem L41_20_ok (C : Callee) (p0 : (List S25)) (p1 : (List S25)) (x7 : (List Int)) (z1 : ((List Int) × (List S25) × (List S110) × Int × Int)) (x9 : Int) (x12 : (List S110)) (z2 : ((List Int) × (List S25) × Int)) : runs Tryz.prog C (cfg.fn 41) (finLoop ((cfg.fn 41).keep 20) ((cfg.fn 41).al 20)) [] (execA Tryz.prog C (cfg.fn 41) (nr Tryz.f41 [false, false, true, false, true, true, true, true, false, false, true, true, false, false, true, false, true, true, true, true, true, true, true, true]) ((fun z2 : ((List Int) × (List S25) × Int) => (mkE [(40, .own 40 0), (0, LL a25 p0), (1, LL a25 p1), (5, .own 40 0), (8, .own 64 0), (10, I z1.2.2.2.1), (12, I x9), (13, LL a110 x12), (41, I (lenL x7)), (42, I z1.2.2.2.2), (62, LL a110 z1.2.2.1), (63, I (lenL z1.2.2.1)), (64, I z2.2.2)] [(40, RR 3 1 I z2.1 0 false), (64, RR 26 4 a25 z2.2.1 0 false)] 88)) z2)) = (L41_20 p0 p1 x7 z1 x9 x12 z2).map (Sum.elim (fun z => .inl ((fun z2 : ((List Int) × (List S25) × Int) => (mkE [(40, .own 40 0), (0, LL a25 p0), (1, LL a25 p1), (5, .own 40 0), (8, .own 64 0), (10, I z1.2.2.2.1), (12, I x9), (13, LL a110 x12), (41, I (lenL x7)), (42, I z1.2.2.2.2), (62, LL a110 z1.2.2.1), (63, I (lenL z1.2.2.1)), (64, I z2.2.2)] [(40, RR 3 1 I z2.1 0 false), (64, RR 26 4 a25 z2.2.1 0 false)] 88)) z)) (fun x => .inr ((fun (x : (Int × Bool × (List Int) × (List S25))) => (.exit 4, (mkE [(0, LL a25 p0), (1, LL a25 p1), (5, .own 40 0), (8, .own 64 0), (10, I z1.2.2.2.1), (12, I x9), (13, LL a110 x12), (40, .own 40 0), (41, I (lenL x7)), (42, I z1.2.2.2.2), (62, LL a110 z1.2.2.1), (63, I (lenL z1.2.2.1)), (64, I x.1), (65, B x.2.1)] [(40, RR 3 1 I x.2.2.1 0 false), (64, RR 26 4 a25 x.2.2.2 0 false)] 88))) x))) := by
  unfold L41_20
  let s_0 : List (Nat × AV) := [(40, .own 40 0), (41, I (lenL x7)), (42, I z1.2.2.2.2), (62, LL a110 z1.2.2.1), (63, I (lenL z1.2.2.1))]
  let s_1 : List (Nat × AV) := [(0, LL a25 p0), (1, LL a25 p1), (5, .own 40 0), (8, .own 64 0), (10, I z1.2.2.2.1), (12, I x9), (13, LL a110 x12)]
  refine gS 0 ?_
  refine gR 20 (rg Tryz.f41 20) ?_
  refine se (mkE (s_1.append (s_0.append ((64, I z2.2.2) :: [(65, B (ltI z2.2.2 (lenL z1.2.2.1)))]))) [(40, RR 3 1 I z2.1 0 false), (64, RR 26 4 a25 z2.2.1 0 false)] 88) ?_
  refine pN ?_
  refine pS ?_
  refine gS 21 ?_
  refine gC 65 (ltI z2.2.2 (lenL z1.2.2.1)) ?_ ?_
  · refine gK ?_
    refine pN ?_
    refine pS ?_
    refine gS 23 ?_
    refine gB 5 ?_
    refine gS 22 ?_
    refine gR 21 (rg Tryz.f41 21) ?_
    refine vo 66 (addrE 106 111 2 a110 .i64 z1.2.2.1 z2.2.2) (fun x14 => ?_)
    refine se (mkE (s_1.append ((15, .ba 120 0) :: (s_0.append [(64, I z2.2.2)]))) [(40, RR 3 1 I z2.1 0 false), (64, RR 26 4 a25 z2.2.1 0 false), (120, .box [I x14.f0, I x14.f1] false)] 88) ?_
    refine pN ?_
    refine pS ?_
    refine gR 22 (rg Tryz.f41 22) ?_
    refine sg 14 (mkE ((81, .own 648 0) :: ((80, .agg [I x14.f0, I z1.2.2.2.1, I (subI .i64 x14.f1 x14.f0), I (subI .i64 x9 z1.2.2.2.1)]) :: ((79, I (subI .i64 x9 z1.2.2.2.1)) :: ((78, I z1.2.2.2.1) :: ((77, I x9) :: ((76, I (subI .i64 x14.f1 x14.f0)) :: ((75, I x14.f0) :: ((74, .ba 120 0) :: ((73, I x14.f1) :: ((72, .ba 120 1) :: ((71, I z1.2.2.2.1) :: ((70, I x14.f0) :: ((69, .ba 120 0) :: ((68, .own 64 0) :: (s_1.append ((15, .ba 120 0) :: (s_0.append [(64, I z2.2.2)]))))))))))))))))) [(648, RR 26 4 a25 ([(S25.mk x14.f0 z1.2.2.2.1 (subI .i64 x14.f1 x14.f0) (subI .i64 x9 z1.2.2.2.1))] : List S25) 0 false), (40, RR 3 1 I z2.1 0 false), (64, RR 26 4 a25 z2.2.1 0 false), (120, .box [I x14.f0, I x14.f1] false)] 88) ?_
    refine mo (some 82) (apO 42 26 4 32 64 a25 0 [648] (y := .own 648 0) (l2 := ([(S25.mk x14.f0 z1.2.2.2.1 (subI .i64 x14.f1 x14.f0) (subI .i64 x9 z1.2.2.2.1))] : List S25))) (fun x15 => ?_)
    refine se (mkE ((0, LL a25 p0) :: ((1, LL a25 p1) :: ((5, .own 40 0) :: ((8, .own 64 1) :: ((10, I z1.2.2.2.1) :: ((12, I x9) :: ((13, LL a110 x12) :: (s_0.append [(64, I z2.2.2)])))))))) [(40, RR 3 1 I z2.1 0 false), (64, RR 26 4 a25 x15 1 false)] 88) ?_
    refine pB ?_
    refine pN ?_
    refine pS ?_
    refine gR 23 (rg Tryz.f41 23) ?_
    refine se (mkE ((0, LL a25 p0) :: ((1, LL a25 p1) :: ((5, .own 40 0) :: ((8, .own 64 1) :: ((10, I z1.2.2.2.1) :: ((12, I x9) :: ((13, LL a110 x12) :: (s_0.append [(64, I (addI .i64 z2.2.2 1))])))))))) [(40, RR 3 1 I z2.1 0 false), (64, RR 26 4 a25 x15 1 false)] 88) ?_
    exact pL
  · refine gX 4 ?_
    exact pL
noncomputable def L41_20_v1 (p0 : (List S25)) (p1 : (List S25)) (x7 : (List Int)) (z1 : ((List Int) × (List S25) × (List S110) × Int × Int)) (x9 : Int) (z2 : ((List Int) × (List S25) × Int)) : Option (((List Int) × (List S25) × Int) ⊕ (Int × Bool × (List Int) × (List S25))) := (bif (ltI z2.2.2 (lenL z1.2.2.1)) then ((listAt z1.2.2.1 z2.2.2).bind fun x18 => ((appO 32 z2.2.1 ([(S25.mk x18.f0 z1.2.2.2.1 (subI .i64 x18.f1 x18.f0) (subI .i64 x9 z1.2.2.2.1))] : List S25)).bind fun x19 => (some (.inl (z2.1, x19, (addI .i64 z2.2.2 1)))))) else (some (.inr (z2.2.2, (ltI z2.2.2 (lenL z1.2.2.1)), z2.1, z2.2.1))))
theorem L41_20_v1_ok (C : Callee) (p0 : (List S25)) (p1 : (List S25)) (x7 : (List Int)) (z1 : ((List Int) × (List S25) × (List S110) × Int × Int)) (x9 : Int) (z2 : ((List Int) × (List S25) × Int)) : runs Tryz.prog C (cfg.fn 41) (finLoop ((cfg.fn 41).keep 20) ((cfg.fn 41).al 20)) [] (execA Tryz.prog C (cfg.fn 41) (nr Tryz.f41 [false, false, true, false, true, true, true, true, false, false, true, true, false, false, true, false, true, true, true, true, true, true, true, true]) ((fun z2 : ((List Int) × (List S25) × Int) => (mkE [(40, .own 40 0), (0, LL a25 p0), (1, LL a25 p1), (5, .own 40 0), (8, .own 64 0), (10, I z1.2.2.2.1), (12, I x9), (13, LL a110 ([] : List S110)), (41, I (lenL x7)), (42, I z1.2.2.2.2), (62, LL a110 z1.2.2.1), (63, I (lenL z1.2.2.1)), (64, I z2.2.2)] [(40, RR 3 1 I z2.1 0 false), (64, RR 26 4 a25 z2.2.1 0 false)] 88)) z2)) = (L41_20_v1 p0 p1 x7 z1 x9 z2).map (Sum.elim (fun z => .inl ((fun z2 : ((List Int) × (List S25) × Int) => (mkE [(40, .own 40 0), (0, LL a25 p0), (1, LL a25 p1), (5, .own 40 0), (8, .own 64 0), (10, I z1.2.2.2.1), (12, I x9), (13, LL a110 ([] : List S110)), (41, I (lenL x7)), (42, I z1.2.2.2.2), (62, LL a110 z1.2.2.1), (63, I (lenL z1.2.2.1)), (64, I z2.2.2)] [(40, RR 3 1 I z2.1 0 false), (64, RR 26 4 a25 z2.2.1 0 false)] 88)) z)) (fun x => .inr ((fun (x : (Int × Bool × (List Int) × (List S25))) => (.exit 4, (mkE [(0, LL a25 p0), (1, LL a25 p1), (5, .own 40 0), (8, .own 64 0), (10, I z1.2.2.2.1), (12, I x9), (13, LL a110 ([] : List S110)), (40, .own 40 0), (41, I (lenL x7)), (42, I z1.2.2.2.2), (62, LL a110 z1.2.2.1), (63, I (lenL z1.2.2.1)), (64, I x.1), (65, B x.2.1)] [(40, RR 3 1 I x.2.2.1 0 false), (64, RR 26 4 a25 x.2.2.2 0 false)] 88))) x))) := by
  unfold L41_20_v1
  let s_0 : List (Nat × AV) := [(40, .own 40 0), (41, I (lenL x7)), (42, I z1.2.2.2.2), (62, LL a110 z1.2.2.1), (63, I (lenL z1.2.2.1))]
  let s_1 : List (Nat × AV) := [(0, LL a25 p0), (1, LL a25 p1), (5, .own 40 0), (8, .own 64 0), (10, I z1.2.2.2.1), (12, I x9), (13, LL a110 ([] : List S110))]
  let s_2 : List (Nat × AV) := [(0, LL a25 p0), (1, LL a25 p1), (5, .own 40 0), (8, .own 64 1), (10, I z1.2.2.2.1), (12, I x9), (13, LL a110 ([] : List S110))]
  refine gS 0 ?_
  refine gR 20 (rg Tryz.f41 20) ?_
  refine se (mkE (s_1.append (s_0.append ((64, I z2.2.2) :: [(65, B (ltI z2.2.2 (lenL z1.2.2.1)))]))) [(40, RR 3 1 I z2.1 0 false), (64, RR 26 4 a25 z2.2.1 0 false)] 88) ?_
  refine pN ?_
  refine pS ?_
  refine gS 21 ?_
  refine gC 65 (ltI z2.2.2 (lenL z1.2.2.1)) ?_ ?_
  · refine gK ?_
    refine pN ?_
    refine pS ?_
    refine gS 23 ?_
    refine gB 5 ?_
    refine gS 22 ?_
    refine gR 21 (rg Tryz.f41 21) ?_
    refine vo 66 (addrE 106 111 2 a110 .i64 z1.2.2.1 z2.2.2) (fun x18 => ?_)
    refine se (mkE (s_1.append ((15, .ba 120 0) :: (s_0.append [(64, I z2.2.2)]))) [(40, RR 3 1 I z2.1 0 false), (64, RR 26 4 a25 z2.2.1 0 false), (120, .box [I x18.f0, I x18.f1] false)] 88) ?_
    refine pN ?_
    refine pS ?_
    refine gR 22 (rg Tryz.f41 22) ?_
    refine sg 14 (mkE ((81, .own 648 0) :: ((80, .agg [I x18.f0, I z1.2.2.2.1, I (subI .i64 x18.f1 x18.f0), I (subI .i64 x9 z1.2.2.2.1)]) :: ((79, I (subI .i64 x9 z1.2.2.2.1)) :: ((78, I z1.2.2.2.1) :: ((77, I x9) :: ((76, I (subI .i64 x18.f1 x18.f0)) :: ((75, I x18.f0) :: ((74, .ba 120 0) :: ((73, I x18.f1) :: ((72, .ba 120 1) :: ((71, I z1.2.2.2.1) :: ((70, I x18.f0) :: ((69, .ba 120 0) :: ((68, .own 64 0) :: (s_1.append ((15, .ba 120 0) :: (s_0.append [(64, I z2.2.2)]))))))))))))))))) [(648, RR 26 4 a25 ([(S25.mk x18.f0 z1.2.2.2.1 (subI .i64 x18.f1 x18.f0) (subI .i64 x9 z1.2.2.2.1))] : List S25) 0 false), (40, RR 3 1 I z2.1 0 false), (64, RR 26 4 a25 z2.2.1 0 false), (120, .box [I x18.f0, I x18.f1] false)] 88) ?_
    refine mo (some 82) (apO 42 26 4 32 64 a25 0 [648] (y := .own 648 0) (l2 := ([(S25.mk x18.f0 z1.2.2.2.1 (subI .i64 x18.f1 x18.f0) (subI .i64 x9 z1.2.2.2.1))] : List S25))) (fun x19 => ?_)
    refine se (mkE (s_2.append (s_0.append [(64, I z2.2.2)])) [(40, RR 3 1 I z2.1 0 false), (64, RR 26 4 a25 x19 1 false)] 88) ?_
    refine pB ?_
    refine pN ?_
    refine pS ?_
    refine gR 23 (rg Tryz.f41 23) ?_
    refine se (mkE (s_2.append (s_0.append [(64, I (addI .i64 z2.2.2 1))])) [(40, RR 3 1 I z2.1 0 false), (64, RR 26 4 a25 x19 1 false)] 88) ?_
    exact pL
  · refine gX 4 ?_
    exact pL
noncomputable def L41_13 (p0 : (List S25)) (p1 : (List S25)) (x7 : (List Int)) (z1 : ((List Int) × (List S25) × (List S110) × Int × Int)) : Option (((List Int) × (List S25) × (List S110) × Int × Int) ⊕ ((List S110) × Int × Int × Bool × (List Int) × (List S25))) := (bif (ltI z1.2.2.2.2 (lenL x7)) then ((idxO (List.length z1.1) z1.2.2.2.2).bind fun x8 => ((getN z1.1 x8).bind fun x9 => (bif (ltI (addI .i64 z1.2.2.2.2 1) (lenL z1.1)) then ((T69 p0 x9).bind fun x10 => ((T69 p1 x9).bind fun x11 => ((T68 x10 x11).bind fun x12 => ((T70 z1.2.2.1 x12).bind fun x13 => (bif x13 then (some (.inl (z1.1, z1.2.1, z1.2.2.1, z1.2.2.2.1, (addI .i64 z1.2.2.2.2 1)))) else ((iter (L41_20 p0 p1 x7 z1 x9 x12) (z1.1, z1.2.1, 0)).bind fun y16 => (some (.inl (y16.2.2.1, y16.2.2.2, x12, x9, (addI .i64 z1.2.2.2.2 1)))))))))) else ((T70 z1.2.2.1 []).bind fun x17 => (bif x17 then (some (.inl (z1.1, z1.2.1, z1.2.2.1, z1.2.2.2.1, (addI .i64 z1.2.2.2.2 1)))) else ((iter (L41_20_v1 p0 p1 x7 z1 x9) (z1.1, z1.2.1, 0)).bind fun y20 => (some (.inl (y20.2.2.1, y20.2.2.2, ([] : List S110), x9, (addI .i64 z1.2.2.2.2 1)))))))))) else (some (.inr (z1.2.2.1, z1.2.2.2.1, z1.2.2.2.2, (ltI z1.2.2.2.2 (lenL x7)), z1.1, z1.2.1))))
theorem L41_13_ok (C : Callee) (h68 : ∀ (p0 : (List S110)) (p1 : (List S110)), C 68 [LL a110 p0, LL a110 p1] = (T68 p0 p1).map (fun l => AV.fr 111 2 (List.map a110 l))) (h69 : ∀ (p0 : (List S25)) (p1 : Int), C 69 [LL a25 p0, I p1] = (T69 p0 p1).map (fun l => AV.fr 111 2 (List.map a110 l))) (h70 : ∀ (p0 : (List S110)) (p1 : (List S110)), C 70 [LL a110 p0, LL a110 p1] = (T70 p0 p1).map B) (p0 : (List S25)) (p1 : (List S25)) (x7 : (List Int)) (z1 : ((List Int) × (List S25) × (List S110) × Int × Int)) : runs Tryz.prog C (cfg.fn 41) (finLoop ((cfg.fn 41).keep 13) ((cfg.fn 41).al 13)) [] (execA Tryz.prog C (cfg.fn 41) (nr Tryz.f41 [false, false, true, false, true, true, true, true, true, true, true, true]) ((fun z1 : ((List Int) × (List S25) × (List S110) × Int × Int) => (mkE [(40, .own 40 0), (0, LL a25 p0), (1, LL a25 p1), (5, .own 40 0), (8, .own 64 0), (9, LL a110 z1.2.2.1), (10, I z1.2.2.2.1), (41, I (lenL x7)), (42, I z1.2.2.2.2)] [(40, RR 3 1 I z1.1 0 false), (64, RR 26 4 a25 z1.2.1 0 false)] 88)) z1)) = (L41_13 p0 p1 x7 z1).map (Sum.elim (fun z => .inl ((fun z1 : ((List Int) × (List S25) × (List S110) × Int × Int) => (mkE [(40, .own 40 0), (0, LL a25 p0), (1, LL a25 p1), (5, .own 40 0), (8, .own 64 0), (9, LL a110 z1.2.2.1), (10, I z1.2.2.2.1), (41, I (lenL x7)), (42, I z1.2.2.2.2)] [(40, RR 3 1 I z1.1 0 false), (64, RR 26 4 a25 z1.2.1 0 false)] 88)) z)) (fun x => .inr ((fun (x : ((List S110) × Int × Int × Bool × (List Int) × (List S25))) => (.exit 2, (mkE [(0, LL a25 p0), (1, LL a25 p1), (5, .own 40 0), (8, .own 64 0), (9, LL a110 x.1), (10, I x.2.1), (40, .own 40 0), (41, I (lenL x7)), (42, I x.2.2.1), (43, B x.2.2.2.1)] [(40, RR 3 1 I x.2.2.2.2.1 0 false), (64, RR 26 4 a25 x.2.2.2.2.2 0 false)] 88))) x))) := by
  unfold L41_13
  let s_0 : List (Nat × AV) := [(0, LL a25 p0), (1, LL a25 p1), (5, .own 40 0), (8, .own 64 0), (9, LL a110 z1.2.2.1), (10, I z1.2.2.2.1)]
  let s_1 : List (Nat × AV) := [(40, .own 40 0), (41, I (lenL x7)), (42, I z1.2.2.2.2)]
  let s_2 : List (Nat × AV) := [(0, LL a25 p0), (1, LL a25 p1), (5, .own 40 0), (8, .own 64 0)]
  let s_3 : List (Nat × AV) := [(62, LL a110 z1.2.2.1), (63, I (lenL z1.2.2.1))]
  let s_4 : List (Nat × AV) := [(40, .own 40 0), (41, I (lenL x7)), (42, I (addI .i64 z1.2.2.2.2 1))]
  let s_5 : List (Nat × AV) := [(51, B (ltI (addI .i64 z1.2.2.2.2 1) (lenL z1.1)))]
  let o_0 : List (Nat × AObj) := [(40, RR 3 1 I z1.1 0 false), (64, RR 26 4 a25 z1.2.1 0 false)]
  refine gS 0 ?_
  refine gR 13 (rg Tryz.f41 13) ?_
  refine se (mkE (s_0.append (s_1.append [(43, B (ltI z1.2.2.2.2 (lenL x7)))])) o_0 88) ?_
  refine pN ?_
  refine pS ?_
  refine gS 14 ?_
  refine gC 43 (ltI z1.2.2.2.2 (lenL x7)) ?_ ?_
  · refine gK ?_
    refine pN ?_
    refine pS ?_
    refine gS 25 ?_
    refine gB 3 ?_
    refine gS 15 ?_
    refine gR 14 (rg Tryz.f41 14) ?_
    refine sg 1 (mkE ((44, I z1.2.2.2.2) :: (s_0.append (s_1.append [(43, B (ltI z1.2.2.2.2 (lenL x7)))]))) o_0 88) ?_
    refine vo 45 (addrOE 102 3 1 40 0 false I .i64 z1.1 z1.2.2.2.2) (fun x8 => ?_)
    refine vo 46 (loadOE 3 40 0 x8 0 3 1 1 false false I (fun q : Int => I q) z1.1) (fun x9 => ?_)
    refine se (mkE (s_0.append ((11, I z1.2.2.2.2) :: ((12, I x9) :: s_1))) o_0 88) ?_
    refine pN ?_
    refine pS ?_
    refine gS 16 ?_
    refine gR 15 (rg Tryz.f41 15) ?_
    refine se (mkE (s_0.append ((11, I z1.2.2.2.2) :: ((12, I x9) :: ((13, .nils) :: s_1)))) o_0 88) ?_
    refine pN ?_
    refine pS ?_
    refine gS 18 ?_
    refine gS 0 ?_
    refine gR 16 (rg Tryz.f41 16) ?_
    refine sg 3 (mkE ((49, .own 40 0) :: ((48, I (addI .i64 z1.2.2.2.2 1)) :: ((47, I z1.2.2.2.2) :: (s_0.append ((11, I z1.2.2.2.2) :: ((12, I x9) :: ((13, .nils) :: s_1))))))) o_0 88) ?_
    refine eo 50 (I (lenL z1.1)) (lenOE 102 3 1 I z1.1) ?_
    refine se (mkE (s_0.append ((12, I x9) :: ((13, .nils) :: (s_1.append s_5)))) o_0 88) ?_
    refine pN ?_
    refine pS ?_
    refine gC 51 (ltI (addI .i64 z1.2.2.2.2 1) (lenL z1.1)) ?_ ?_
    · refine gR 17 (rg Tryz.f41 17) ?_
      refine sg 2 (mkE ((53, I x9) :: ((52, LL a25 p0) :: (s_0.append ((12, I x9) :: ((13, .nils) :: (s_1.append s_5)))))) o_0 88) ?_
      refine co 54 [] (h69 p0 x9) (fun x10 => ?_)
      refine sg 5 (mkE ((56, I x9) :: ((55, LL a25 p1) :: ((54, .own 432 0) :: ((53, I x9) :: ((52, LL a25 p0) :: (s_0.append ((12, I x9) :: ((13, .nils) :: (s_1.append s_5))))))))) ((432, RR 111 2 a110 x10 0 false) :: o_0) 88) ?_
      refine co 57 [] (h69 p1 x9) (fun x11 => ?_)
      refine co 58 [432, 456] (h68 x10 x11) (fun x12 => ?_)
      refine se (mkE (s_0.append ((12, I x9) :: ((13, .own 464 0) :: s_1))) (o_0.append [(464, RR 111 2 a110 x12 0 false)]) 88) ?_
      refine pN ?_
      refine pS ?_
      refine gS 19 ?_
      refine gS 0 ?_
      refine gR 18 (rg Tryz.f41 18) ?_
      refine sg 2 (mkE ((60, .own 464 0) :: ((59, LL a110 z1.2.2.1) :: (s_0.append ((12, I x9) :: ((13, .own 464 0) :: s_1))))) (o_0.append [(464, RR 111 2 a110 x12 0 false)]) 88) ?_
      refine co 61 [464] (h70 z1.2.2.1 x12) (fun x13 => ?_)
      refine se (mkE (s_0.append ((12, I x9) :: ((13, .own 464 0) :: (s_1.append [(61, B x13)])))) (o_0.append [(464, RR 111 2 a110 x12 0 false)]) 88) ?_
      refine pN ?_
      refine pS ?_
      refine gC 61 x13 ?_ ?_
      · refine gX 3 ?_
        refine pF ?_
        refine pO ?_
        refine pH ?_
        refine pN ?_
        refine pS ?_
        refine gR 25 (rg Tryz.f41 25) ?_
        refine se (mkE (s_0.append s_4) o_0 88) ?_
        exact pL
      · refine gK ?_
        refine pN ?_
        refine pS ?_
        refine gS 24 ?_
        refine gS 20 ?_
        refine gR 19 (rg Tryz.f41 19) ?_
        refine sg 1 (mkE ((62, LL a110 z1.2.2.1) :: (s_0.append ((12, I x9) :: ((13, .own 464 0) :: (s_1.append [(61, B x13)]))))) (o_0.append [(464, RR 111 2 a110 x12 0 false)]) 88) ?_
        refine eo 63 (I (lenL z1.2.2.1)) (lenE 106 a110 z1.2.2.1) ?_
        refine se (mkE (s_2.append ((10, I z1.2.2.2.1) :: ((12, I x9) :: ((13, .own 464 0) :: (s_1.append (s_3.append [(64, I 0)])))))) (o_0.append [(464, RR 111 2 a110 x12 0 false)]) 88) ?_
        refine pN ?_
        refine pS ?_
        refine gB 4 ?_
        refine lo [(0, none), (1, none), (5, some (3, 1)), (8, some (26, 4)), (10, none), (12, none), (13, none), (41, none), (42, none), (62, none), (63, none), (64, none)] [(40, 5)] (L41_20 p0 p1 x7 z1 x9 x12) (fun z2 : ((List Int) × (List S25) × Int) => (mkE ((40, .own 40 0) :: (s_2.append ((10, I z1.2.2.2.1) :: ((12, I x9) :: ((13, LL a110 x12) :: ((41, I (lenL x7)) :: ((42, I z1.2.2.2.2) :: (s_3.append [(64, I z2.2.2)])))))))) [(40, RR 3 1 I z2.1 0 false), (64, RR 26 4 a25 z2.2.1 0 false)] 88)) (fun (x : (Int × Bool × (List Int) × (List S25))) => (.exit 4, (mkE (s_2.append ((10, I z1.2.2.2.1) :: ((12, I x9) :: ((13, LL a110 x12) :: (s_1.append (s_3.append ((64, I x.1) :: [(65, B x.2.1)]))))))) [(40, RR 3 1 I x.2.2.1 0 false), (64, RR 26 4 a25 x.2.2.2 0 false)] 88))) (z1.1, z1.2.1, 0) (fun z => L41_20_ok C p0 p1 x7 z1 x9 x12 z) ?_
        intro y16
        refine pH ?_
        refine pN ?_
        refine pS ?_
        refine gR 24 (rg Tryz.f41 24) ?_
        refine se (mkE (s_2.append ((9, LL a110 x12) :: ((10, I x9) :: s_1))) [(40, RR 3 1 I y16.2.2.1 0 false), (64, RR 26 4 a25 y16.2.2.2 0 false)] 88) ?_
        refine pB ?_
        refine pN ?_
        refine pS ?_
        refine gR 25 (rg Tryz.f41 25) ?_
        refine se (mkE (s_2.append ((9, LL a110 x12) :: ((10, I x9) :: s_4))) [(40, RR 3 1 I y16.2.2.1 0 false), (64, RR 26 4 a25 y16.2.2.2 0 false)] 88) ?_
        exact pL
    · refine gK ?_
      refine pN ?_
      refine pS ?_
      refine gS 19 ?_
      refine gS 0 ?_
      refine gR 18 (rg Tryz.f41 18) ?_
      refine sg 2 (mkE ((60, .nils) :: ((59, LL a110 z1.2.2.1) :: (s_0.append ((12, I x9) :: ((13, .nils) :: (s_1.append s_5)))))) o_0 88) ?_
      refine co 61 [] (h70 z1.2.2.1 []) (fun x17 => ?_)
      refine se (mkE (s_0.append ((12, I x9) :: ((13, .nils) :: (s_1.append [(61, B x17)])))) o_0 88) ?_
      refine pN ?_
      refine pS ?_
      refine gC 61 x17 ?_ ?_
      · refine gX 3 ?_
        refine pF ?_
        refine pO ?_
        refine pH ?_
        refine pN ?_
        refine pS ?_
        refine gR 25 (rg Tryz.f41 25) ?_
        refine se (mkE (s_0.append s_4) o_0 88) ?_
        exact pL
      · refine gK ?_
        refine pN ?_
        refine pS ?_
        refine gS 24 ?_
        refine gS 20 ?_
        refine gR 19 (rg Tryz.f41 19) ?_
        refine sg 1 (mkE ((62, LL a110 z1.2.2.1) :: (s_0.append ((12, I x9) :: ((13, .nils) :: (s_1.append [(61, B x17)]))))) o_0 88) ?_
        refine eo 63 (I (lenL z1.2.2.1)) (lenE 106 a110 z1.2.2.1) ?_
        refine se (mkE (s_2.append ((10, I z1.2.2.2.1) :: ((12, I x9) :: ((13, .nils) :: (s_1.append (s_3.append [(64, I 0)])))))) o_0 88) ?_
        refine pN ?_
        refine pS ?_
        refine gB 4 ?_
        refine lo [(0, none), (1, none), (5, some (3, 1)), (8, some (26, 4)), (10, none), (12, none), (13, none), (41, none), (42, none), (62, none), (63, none), (64, none)] [(40, 5)] (L41_20_v1 p0 p1 x7 z1 x9) (fun z2 : ((List Int) × (List S25) × Int) => (mkE ((40, .own 40 0) :: (s_2.append ((10, I z1.2.2.2.1) :: ((12, I x9) :: ((13, LL a110 ([] : List S110)) :: ((41, I (lenL x7)) :: ((42, I z1.2.2.2.2) :: (s_3.append [(64, I z2.2.2)])))))))) [(40, RR 3 1 I z2.1 0 false), (64, RR 26 4 a25 z2.2.1 0 false)] 88)) (fun (x : (Int × Bool × (List Int) × (List S25))) => (.exit 4, (mkE (s_2.append ((10, I z1.2.2.2.1) :: ((12, I x9) :: ((13, LL a110 ([] : List S110)) :: (s_1.append (s_3.append ((64, I x.1) :: [(65, B x.2.1)]))))))) [(40, RR 3 1 I x.2.2.1 0 false), (64, RR 26 4 a25 x.2.2.2 0 false)] 88))) (z1.1, z1.2.1, 0) (fun z => L41_20_v1_ok C p0 p1 x7 z1 x9 z) ?_
        intro y20
        refine pH ?_
        refine pN ?_
        refine pS ?_
        refine gR 24 (rg Tryz.f41 24) ?_
        refine se (mkE (s_2.append ((9, LL a110 ([] : List S110)) :: ((10, I x9) :: s_1))) [(40, RR 3 1 I y20.2.2.1 0 false), (64, RR 26 4 a25 y20.2.2.2 0 false)] 88) ?_
        refine pB ?_
        refine pN ?_
        refine pS ?_
        refine gR 25 (rg Tryz.f41 25) ?_
        refine se (mkE (s_2.append ((9, LL a110 ([] : List S110)) :: ((10, I x9) :: s_4))) [(40, RR 3 1 I y20.2.2.1 0 false), (64, RR 26 4 a25 y20.2.2.2 0 false)] 88) ?_
        exact pL
  · refine gX 2 ?_
    exact pL
noncomputable def T41 (p0 : (List S25)) (p1 : (List S25)) : Option (List S25) := ((T65 ([p0, p1] : List (List S25))).bind fun x1 => ((iter (L41_3 p0 p1 x1) ([], x1, 0)).bind fun y5 => ((sortIO y5.2.2.1).bind fun x6 => ((compIO x6).bind fun x7 => ((iter (L41_13 p0 p1 x7) (x7, [], ([] : List S110), 0, 0)).bind fun y21 => (some y21.2.2.2.2.2))))))
theorem B41 (C : Callee) (h65 : ∀ (p0 : (List (List S25))), C 65 [LL (LL a25) p0] = (T65 p0).map (fun l => AV.fr 26 4 (List.map a25 l))) (h66 : ∀ (p0 : (List Int)), C 66 [.fr 3 1 (List.map I p0)] = (sortIO p0).map (fun (r : (List Int)) => AV.inp (.tup []) (.fr 3 1 (List.map I r)))) (h67 : ∀ (p0 : (List Int)), C 67 [.fr 3 1 (List.map I p0)] = (compIO p0).map (fun l => AV.fr 3 1 (List.map I l))) (h68 : ∀ (p0 : (List S110)) (p1 : (List S110)), C 68 [LL a110 p0, LL a110 p1] = (T68 p0 p1).map (fun l => AV.fr 111 2 (List.map a110 l))) (h69 : ∀ (p0 : (List S25)) (p1 : Int), C 69 [LL a25 p0, I p1] = (T69 p0 p1).map (fun l => AV.fr 111 2 (List.map a110 l))) (h70 : ∀ (p0 : (List S110)) (p1 : (List S110)), C 70 [LL a110 p0, LL a110 p1] = (T70 p0 p1).map B) (p0 : (List S25)) (p1 : (List S25)) : runs Tryz.prog C (cfg.fn 41) (finFn Tryz.prog (cfg.fn 41).byval Tryz.f41) [] (execA Tryz.prog C (cfg.fn 41) (nr Tryz.f41 []) (frame0 [LL a25 p0, LL a25 p1] 88 false)) = (T41 p0 p1).map (fun l => AV.fr 26 4 (List.map a25 l)) := by
  unfold T41
  let s_0 : List (Nat × AV) := [(0, LL a25 p0), (1, LL a25 p1)]
  refine gS 1 ?_
  refine gR 0 (rg Tryz.f41 0) ?_
  refine se (mkE s_0 [] 88) ?_
  refine pN ?_
  refine pS ?_
  refine gS 2 ?_
  refine gR 1 (rg Tryz.f41 1) ?_
  refine se (mkE (s_0.append [(5, .nils)]) [] 88) ?_
  refine pN ?_
  refine pS ?_
  refine gS 7 ?_
  refine gS 3 ?_
  refine gR 2 (rg Tryz.f41 2) ?_
  refine sg 3 (mkE ((18, .own 144 0) :: ((17, LL a25 p1) :: ((16, LL a25 p0) :: (s_0.append [(5, .nils)])))) [(144, RR 42 1 (LL a25) ([p0, p1] : List (List S25)) 0 false)] 88) ?_
  refine co 19 [144] (h65 ([p0, p1] : List (List S25))) (fun x1 => ?_)
  refine eo 20 (I (lenL x1)) (lenOE 42 26 4 a25 x1) ?_
  refine se (mkE (s_0.append ((5, .nils) :: ((19, .own 152 0) :: ((20, I (lenL x1)) :: [(21, I 0)])))) [(152, RR 26 4 a25 x1 0 false)] 88) ?_
  refine pN ?_
  refine pS ?_
  refine gB 0 ?_
  refine lo [(0, none), (1, none), (5, some (3, 1)), (19, some (26, 4)), (20, none), (21, none)] [] (L41_3 p0 p1 x1) (fun z0 : ((List Int) × (List S25) × Int) => (mkE (s_0.append ((5, .own 40 0) :: ((19, .own 152 0) :: ((20, I (lenL x1)) :: [(21, I z0.2.2)])))) [(40, RR 3 1 I z0.1 0 false), (152, RR 26 4 a25 z0.2.1 0 false)] 88)) (fun (x : (Int × Bool × (List Int) × (List S25))) => (.exit 0, (mkE (s_0.append ((5, .own 40 0) :: ((19, .own 152 0) :: ((20, I (lenL x1)) :: ((21, I x.1) :: [(22, B x.2.1)]))))) [(40, RR 3 1 I x.2.2.1 0 false), (152, RR 26 4 a25 x.2.2.2 0 false)] 88))) ([], x1, 0) (fun z => L41_3_ok C p0 p1 x1 z) ?_
  intro y5
  refine pH ?_
  refine pN ?_
  refine pS ?_
  refine gS 8 ?_
  refine gR 7 (rg Tryz.f41 7) ?_
  refine sg 1 (mkE ((36, .own 40 0) :: (s_0.append ((5, .own 40 0) :: ((19, .own 152 0) :: ((20, I (lenL x1)) :: ((21, I y5.1) :: [(22, B y5.2.1)])))))) [(40, RR 3 1 I y5.2.2.1 0 false), (152, RR 26 4 a25 y5.2.2.2 0 false)] 88) ?_
  refine mo (some 37) (ipR 66 3 1 40 0 I y5.2.2.1 [] [] [] (fun x : (List Int) => .tup []) (fun x : (List Int) => x) (h66 y5.2.2.1)) (fun x6 => ?_)
  refine se (mkE (s_0.append [(5, .own 40 0)]) [(40, RR 3 1 I x6 0 false)] 88) ?_
  refine pN ?_
  refine pS ?_
  refine gS 9 ?_
  refine gR 8 (rg Tryz.f41 8) ?_
  refine sg 1 (mkE ((38, .own 40 0) :: (s_0.append [(5, .own 40 0)])) [(40, RR 3 1 I x6 0 false)] 88) ?_
  refine mo (some 39) (gvO 67 3 1 40 0 I x6 [] [] [] (h67 x6)) (fun x7 => ?_)
  refine se (mkE (s_0.append [(5, .own 40 1)]) [(40, RR 3 1 I x7 1 false)] 88) ?_
  refine pN ?_
  refine pS ?_
  refine gS 10 ?_
  refine gR 9 (rg Tryz.f41 9) ?_
  refine se (mkE (s_0.append ((5, .own 40 1) :: [(8, .nils)])) [(40, RR 3 1 I x7 1 false)] 88) ?_
  refine pN ?_
  refine pS ?_
  refine gS 11 ?_
  refine gR 10 (rg Tryz.f41 10) ?_
  refine se (mkE (s_0.append ((5, .own 40 1) :: ((8, .nils) :: [(9, .nils)]))) [(40, RR 3 1 I x7 1 false)] 88) ?_
  refine pN ?_
  refine pS ?_
  refine gS 12 ?_
  refine gR 11 (rg Tryz.f41 11) ?_
  refine se (mkE (s_0.append ((5, .own 40 1) :: ((8, .nils) :: ((9, .nils) :: [(10, I 0)])))) [(40, RR 3 1 I x7 1 false)] 88) ?_
  refine pN ?_
  refine pS ?_
  refine gS 26 ?_
  refine gS 13 ?_
  refine gR 12 (rg Tryz.f41 12) ?_
  refine sg 1 (mkE ((40, .own 40 1) :: (s_0.append ((5, .own 40 1) :: ((8, .nils) :: ((9, .nils) :: [(10, I 0)]))))) [(40, RR 3 1 I x7 1 false)] 88) ?_
  refine eo 41 (I (lenL x7)) (lenOE 102 3 1 I x7) ?_
  refine se (mkE (s_0.append ((5, .own 40 1) :: ((8, .nils) :: ((9, .nils) :: ((10, I 0) :: ((40, .own 40 1) :: ((41, I (lenL x7)) :: [(42, I 0)]))))))) [(40, RR 3 1 I x7 1 false)] 88) ?_
  refine pN ?_
  refine pS ?_
  refine gB 2 ?_
  refine lo [(0, none), (1, none), (5, some (3, 1)), (8, some (26, 4)), (9, none), (10, none), (41, none), (42, none)] [(40, 5)] (L41_13 p0 p1 x7) (fun z1 : ((List Int) × (List S25) × (List S110) × Int × Int) => (mkE ((40, .own 40 0) :: (s_0.append ((5, .own 40 0) :: ((8, .own 64 0) :: ((9, LL a110 z1.2.2.1) :: ((10, I z1.2.2.2.1) :: ((41, I (lenL x7)) :: [(42, I z1.2.2.2.2)]))))))) [(40, RR 3 1 I z1.1 0 false), (64, RR 26 4 a25 z1.2.1 0 false)] 88)) (fun (x : ((List S110) × Int × Int × Bool × (List Int) × (List S25))) => (.exit 2, (mkE (s_0.append ((5, .own 40 0) :: ((8, .own 64 0) :: ((9, LL a110 x.1) :: ((10, I x.2.1) :: ((40, .own 40 0) :: ((41, I (lenL x7)) :: ((42, I x.2.2.1) :: [(43, B x.2.2.2.1)])))))))) [(40, RR 3 1 I x.2.2.2.2.1 0 false), (64, RR 26 4 a25 x.2.2.2.2.2 0 false)] 88))) (x7, [], ([] : List S110), 0, 0) (fun z => L41_13_ok C h68 h69 h70 p0 p1 x7 z) ?_
  intro y21
  refine pH ?_
  refine pN ?_
  refine pS ?_
  refine gS 0 ?_
  refine gR 26 (rg Tryz.f41 26) ?_
  refine se (mkE [(4, .own 64 0)] [(64, RR 26 4 a25 y21.2.2.2.2.2 0 false)] 88) ?_
  refine pN ?_
  refine pS ?_
  refine gE ?_
  exact pL
theorem F41 (m : Nat) (hm : 4 ≤ m) (p0 : (List S25)) (p1 : (List S25)) : callA Tryz.prog cfg m 41 [LL a25 p0, LL a25 p1] = (T41 p0 p1).map (fun l => AV.fr 26 4 (List.map a25 l)) := by
  obtain ⟨q, rfl⟩ : ∃ q, m = q + 1 := ⟨m - 1, by omega⟩
  exact (callA_body (fn := Tryz.f41) (c := body_ Tryz.f41) q _ (by kernel_rfl) (by kernel_rfl) (by kernel_rfl)).trans (B41 _ (fun p0 => F65 q (by omega) p0) (fun p0 => F66 q (by omega) p0) (fun p0 => F67 q (by omega) p0) (fun p0 p1 => F68 q (by omega) p0 p1) (fun p0 p1 => F69 q (by omega) p0 p1) (fun p0 p1 => F70 q (by omega) p0 p1) p0 p1)

noncomputable def L92_3 (p0 : S31) (p1 : Int) (z0 : ((List S25) × Int)) : Option (((List S25) × Int) ⊕ (Int × Bool × (List S25))) := (bif (ltI z0.2 (lenL p0.f3)) then ((listAt p0.f3 z0.2).bind fun x1 => ((T107 p0.f3 z0.2 p1).bind fun x2 => (bif x2 then ((appO 32 z0.1 ([x1.f1] : List S25)).bind fun x3 => (some (.inl (x3, (addI .i64 z0.2 1))))) else (some (.inl (z0.1, (addI .i64 z0.2 1))))))) else (some (.inr (z0.2, (ltI z0.2 (lenL p0.f3)), z0.1))))
theorem L92_3_ok (C : Callee) (h107 : ∀ (p0 : (List S64)) (p1 : Int) (p2 : Int), C 107 [LL a64 p0, I p1, I p2] = (T107 p0 p1 p2).map B) (p0 : S31) (p1 : Int) (z0 : ((List S25) × Int)) : runs Tryz.prog C (cfg.fn 92) (finLoop ((cfg.fn 92).keep 3) ((cfg.fn 92).al 3)) [] (execA Tryz.prog C (cfg.fn 92) (nr Tryz.f92 [false, false, true, false, true, true]) ((fun z0 : ((List S25) × Int) => (mkE [(1, I p1), (2, .ba 16 0), (5, .own 40 0), (9, LL a64 p0.f3), (10, I (lenL p0.f3)), (11, I z0.2)] [(16, .box [S p0.f0, I p0.f1, I p0.f2, LL a64 p0.f3] false), (40, RR 26 4 a25 z0.1 0 false)] 36)) z0)) = (L92_3 p0 p1 z0).map (Sum.elim (fun z => .inl ((fun z0 : ((List S25) × Int) => (mkE [(1, I p1), (2, .ba 16 0), (5, .own 40 0), (9, LL a64 p0.f3), (10, I (lenL p0.f3)), (11, I z0.2)] [(16, .box [S p0.f0, I p0.f1, I p0.f2, LL a64 p0.f3] false), (40, RR 26 4 a25 z0.1 0 false)] 36)) z)) (fun x => .inr ((fun (x : (Int × Bool × (List S25))) => (.exit 0, (mkE [(1, I p1), (2, .ba 16 0), (5, .own 40 0), (9, LL a64 p0.f3), (10, I (lenL p0.f3)), (11, I x.1), (12, B x.2.1)] [(16, .box [S p0.f0, I p0.f1, I p0.f2, LL a64 p0.f3] false), (40, RR 26 4 a25 x.2.2 0 false)] 36))) x))) := by
  unfold L92_3
  let s_0 : List (Nat × AV) := [(9, LL a64 p0.f3), (10, I (lenL p0.f3)), (11, I z0.2)]
  let s_1 : List (Nat × AV) := [(1, I p1), (2, .ba 16 0), (5, .own 40 0)]
  let o_0 : List (Nat × AObj) := [(16, .box [S p0.f0, I p0.f1, I p0.f2, LL a64 p0.f3] false), (40, RR 26 4 a25 z0.1 0 false)]
  refine gS 0 ?_
  refine gR 3 (rg Tryz.f92 3) ?_
  refine se (mkE (s_1.append (s_0.append [(12, B (ltI z0.2 (lenL p0.f3)))])) o_0 36) ?_
  refine pN ?_
  refine pS ?_
  refine gS 4 ?_
  refine gC 12 (ltI z0.2 (lenL p0.f3)) ?_ ?_
  · refine gK ?_
    refine pN ?_
    refine pS ?_
    refine gS 7 ?_
    refine gB 1 ?_
    refine gS 5 ?_
    refine gR 4 (rg Tryz.f92 4) ?_
    refine sg 1 (mkE ((13, I z0.2) :: (s_1.append (s_0.append [(12, B (ltI z0.2 (lenL p0.f3)))]))) o_0 36) ?_
    refine vo 14 (addrE 30 65 6 a64 .i64 p0.f3 z0.2) (fun x1 => ?_)
    refine se (mkE (s_1.append ((6, I z0.2) :: ((7, .ba 56 0) :: s_0))) (o_0.append [(56, .box [S x1.f0, I x1.f1.f0, I x1.f1.f1, I x1.f1.f2, I x1.f1.f3, I x1.f2] false)]) 36) ?_
    refine pN ?_
    refine pS ?_
    refine gS 0 ?_
    refine gR 5 (rg Tryz.f92 5) ?_
    refine sg 4 (mkE ((19, I p1) :: ((18, I z0.2) :: ((17, LL a64 p0.f3) :: ((16, .ba 16 3) :: (s_1.append ((6, I z0.2) :: ((7, .ba 56 0) :: s_0))))))) (o_0.append [(56, .box [S x1.f0, I x1.f1.f0, I x1.f1.f1, I x1.f1.f2, I x1.f1.f3, I x1.f2] false)]) 36) ?_
    refine co 20 [] (h107 p0.f3 z0.2 p1) (fun x2 => ?_)
    refine se (mkE (s_1.append ((7, .ba 56 0) :: (s_0.append [(20, B x2)]))) (o_0.append [(56, .box [S x1.f0, I x1.f1.f0, I x1.f1.f1, I x1.f1.f2, I x1.f1.f3, I x1.f2] false)]) 36) ?_
    refine pN ?_
    refine pS ?_
    refine gC 20 x2 ?_ ?_
    · refine gR 6 (rg Tryz.f92 6) ?_
      refine sg 4 (mkE ((24, .own 192 0) :: ((23, a25 x1.f1) :: ((22, .ba 56 1) :: ((21, .own 40 0) :: (s_1.append ((7, .ba 56 0) :: (s_0.append [(20, B x2)]))))))) ((192, RR 26 4 a25 ([x1.f1] : List S25) 0 false) :: (o_0.append [(56, .box [S x1.f0, I x1.f1.f0, I x1.f1.f1, I x1.f1.f2, I x1.f1.f3, I x1.f2] false)])) 36) ?_
      refine mo (some 25) (apO 42 26 4 32 40 a25 0 [192] (y := .own 192 0) (l2 := ([x1.f1] : List S25))) (fun x3 => ?_)
      refine se (mkE ((1, I p1) :: ((2, .ba 16 0) :: ((5, .own 40 1) :: s_0))) [(16, .box [S p0.f0, I p0.f1, I p0.f2, LL a64 p0.f3] false), (40, RR 26 4 a25 x3 1 false)] 36) ?_
      refine pB ?_
      refine pN ?_
      refine pS ?_
      refine gR 7 (rg Tryz.f92 7) ?_
      refine se (mkE [(1, I p1), (2, .ba 16 0), (5, .own 40 1), (9, LL a64 p0.f3), (10, I (lenL p0.f3)), (11, I (addI .i64 z0.2 1))] [(16, .box [S p0.f0, I p0.f1, I p0.f2, LL a64 p0.f3] false), (40, RR 26 4 a25 x3 1 false)] 36) ?_
      exact pL
    · refine gK ?_
      refine pB ?_
      refine pN ?_
      refine pS ?_
      refine gR 7 (rg Tryz.f92 7) ?_
      refine se (mkE (s_1.append ((9, LL a64 p0.f3) :: ((10, I (lenL p0.f3)) :: [(11, I (addI .i64 z0.2 1))]))) o_0 36) ?_
      exact pL
  · refine gX 0 ?_
    exact pL
noncomputable def T92 (p0 : S31) (p1 : Int) : Option (List S25) := ((iter (L92_3 p0 p1) ([], 0)).bind fun y4 => ((listAt p0.f3 p1).bind fun x5 => ((T41 ([x5.f1] : List S25) y4.2.2).bind fun x6 => (some x6))))
theorem B92 (C : Callee) (h107 : ∀ (p0 : (List S64)) (p1 : Int) (p2 : Int), C 107 [LL a64 p0, I p1, I p2] = (T107 p0 p1 p2).map B) (h41 : ∀ (p0 : (List S25)) (p1 : (List S25)), C 41 [LL a25 p0, LL a25 p1] = (T41 p0 p1).map (fun l => AV.fr 26 4 (List.map a25 l))) (p0 : S31) (p1 : Int) : runs Tryz.prog C (cfg.fn 92) (finFn Tryz.prog (cfg.fn 92).byval Tryz.f92) [] (execA Tryz.prog C (cfg.fn 92) (nr Tryz.f92 []) (frame0 [a31 p0, I p1] 36 false)) = (T92 p0 p1).map (fun l => AV.fr 26 4 (List.map a25 l)) := by
  unfold T92
  let s_0 : List (Nat × AV) := [(1, I p1), (2, .ba 16 0), (5, .own 40 0), (9, LL a64 p0.f3), (10, I (lenL p0.f3))]
  let o_0 : List (Nat × AObj) := [(16, .box [S p0.f0, I p0.f1, I p0.f2, LL a64 p0.f3] false)]
  refine gS 1 ?_
  refine gR 0 (rg Tryz.f92 0) ?_
  refine se (mkE [(1, I p1), (2, .ba 16 0)] o_0 36) ?_
  refine pN ?_
  refine pS ?_
  refine gS 2 ?_
  refine gR 1 (rg Tryz.f92 1) ?_
  refine se (mkE [(1, I p1), (2, .ba 16 0), (5, .nils)] o_0 36) ?_
  refine pN ?_
  refine pS ?_
  refine gS 8 ?_
  refine gS 3 ?_
  refine gR 2 (rg Tryz.f92 2) ?_
  refine sg 2 (mkE [(9, LL a64 p0.f3), (8, .ba 16 3), (1, I p1), (2, .ba 16 0), (5, .nils)] o_0 36) ?_
  refine eo 10 (I (lenL p0.f3)) (lenE 30 a64 p0.f3) ?_
  refine se (mkE [(1, I p1), (2, .ba 16 0), (5, .nils), (9, LL a64 p0.f3), (10, I (lenL p0.f3)), (11, I 0)] o_0 36) ?_
  refine pN ?_
  refine pS ?_
  refine gB 0 ?_
  refine lo [(1, none), (2, none), (5, some (26, 4)), (9, none), (10, none), (11, none)] [] (L92_3 p0 p1) (fun z0 : ((List S25) × Int) => (mkE (s_0.append [(11, I z0.2)]) (o_0.append [(40, RR 26 4 a25 z0.1 0 false)]) 36)) (fun (x : (Int × Bool × (List S25))) => (.exit 0, (mkE (s_0.append ((11, I x.1) :: [(12, B x.2.1)])) (o_0.append [(40, RR 26 4 a25 x.2.2 0 false)]) 36))) ([], 0) (fun z => L92_3_ok C h107 p0 p1 z) ?_
  intro y4
  refine pH ?_
  refine pN ?_
  refine pS ?_
  refine gS 0 ?_
  refine gR 8 (rg Tryz.f92 8) ?_
  refine sg 3 (mkE ((29, I p1) :: ((28, LL a64 p0.f3) :: ((27, .ba 16 3) :: (s_0.append ((11, I y4.1) :: [(12, B y4.2.1)]))))) (o_0.append [(40, RR 26 4 a25 y4.2.2 0 false)]) 36) ?_
  refine vo 30 (addrE 30 65 6 a64 .i64 p0.f3 p1) (fun x5 => ?_)
  refine sg 8 (mkE ((34, .own 40 0) :: ((33, .own 264 0) :: ((32, a25 x5.f1) :: ((31, .ia [S x5.f0, I x5.f1.f0, I x5.f1.f1, I x5.f1.f2, I x5.f1.f3, I x5.f2] 1) :: ((30, .ia [S x5.f0, I x5.f1.f0, I x5.f1.f1, I x5.f1.f2, I x5.f1.f3, I x5.f2] 0) :: ((29, I p1) :: ((28, LL a64 p0.f3) :: ((27, .ba 16 3) :: (s_0.append ((11, I y4.1) :: [(12, B y4.2.1)])))))))))) ((264, RR 26 4 a25 ([x5.f1] : List S25) 0 false) :: (o_0.append [(40, RR 26 4 a25 y4.2.2 0 false)])) 36) ?_
  refine co 35 [264, 40] (h41 ([x5.f1] : List S25) y4.2.2) (fun x6 => ?_)
  refine se (mkE [(4, .own 280 0)] [(280, RR 26 4 a25 x6 0 false)] 36) ?_
  refine pN ?_
  refine pS ?_
  refine gE ?_
  exact pL
theorem F92 (m : Nat) (hm : 5 ≤ m) (p0 : S31) (p1 : Int) : callA Tryz.prog cfg m 92 [a31 p0, I p1] = (T92 p0 p1).map (fun l => AV.fr 26 4 (List.map a25 l)) := by
  obtain ⟨q, rfl⟩ : ∃ q, m = q + 1 := ⟨m - 1, by omega⟩
  exact (callA_body (fn := Tryz.f92) (c := body_ Tryz.f92) q _ (by kernel_rfl) (by kernel_rfl) (by kernel_rfl)).trans (B92 _ (fun p0 p1 p2 => F107 q (by omega) p0 p1 p2) (fun p0 p1 => F41 q (by omega) p0 p1) p0 p1)

noncomputable def L77_6 (p0 : S31) (z0 : ((List S75) × Int)) (x1 : S64) (x2 : (List S25)) (z1 : ((List S75) × (List S25) × Int)) : Option (((List S75) × (List S25) × Int) ⊕ (Int × Bool × (List S75) × (List S25))) := (bif (ltI z1.2.2 (lenL x2)) then ((idxO (List.length z1.2.1) z1.2.2).bind fun x3 => ((getN z1.2.1 x3).bind fun x4 => ((appO 48 z1.1 ([(S75.mk x1.f0 x4)] : List S75)).bind fun x5 => (some (.inl (x5, z1.2.1, (addI .i64 z1.2.2 1))))))) else (some (.inr (z1.2.2, (ltI z1.2.2 (lenL x2)), z1.1, z1.2.1))))
theorem L77_6_ok (C : Callee) (p0 : S31) (z0 : ((List S75) × Int)) (x1 : S64) (x2 : (List S25)) (z1 : ((List S75) × (List S25) × Int)) : runs Tryz.prog C (cfg.fn 77) (finLoop ((cfg.fn 77).keep 6) ((cfg.fn 77).al 6)) [] (execA Tryz.prog C (cfg.fn 77) (nr Tryz.f77 [false, false, true, true, false, false, true, true, false, false, true, false, true, true]) ((fun z1 : ((List S75) × (List S25) × Int) => (mkE [(1, .ba 8 0), (4, .own 32 0), (6, .ba 48 0), (10, LL a64 p0.f3), (11, I (lenL p0.f3)), (12, I z0.2), (19, .own 152 0), (20, I (lenL x2)), (21, I z1.2.2)] [(8, .box [S p0.f0, I p0.f1, I p0.f2, LL a64 p0.f3] false), (32, RR 76 5 a75 z1.1 0 false), (48, .box [S x1.f0, I x1.f1.f0, I x1.f1.f1, I x1.f1.f2, I x1.f1.f3, I x1.f2] false), (152, RR 26 4 a25 z1.2.1 0 false)] 38)) z1)) = (L77_6 p0 z0 x1 x2 z1).map (Sum.elim (fun z => .inl ((fun z1 : ((List S75) × (List S25) × Int) => (mkE [(1, .ba 8 0), (4, .own 32 0), (6, .ba 48 0), (10, LL a64 p0.f3), (11, I (lenL p0.f3)), (12, I z0.2), (19, .own 152 0), (20, I (lenL x2)), (21, I z1.2.2)] [(8, .box [S p0.f0, I p0.f1, I p0.f2, LL a64 p0.f3] false), (32, RR 76 5 a75 z1.1 0 false), (48, .box [S x1.f0, I x1.f1.f0, I x1.f1.f1, I x1.f1.f2, I x1.f1.f3, I x1.f2] false), (152, RR 26 4 a25 z1.2.1 0 false)] 38)) z)) (fun x => .inr ((fun (x : (Int × Bool × (List S75) × (List S25))) => (.exit 2, (mkE [(1, .ba 8 0), (4, .own 32 0), (6, .ba 48 0), (10, LL a64 p0.f3), (11, I (lenL p0.f3)), (12, I z0.2), (19, .own 152 0), (20, I (lenL x2)), (21, I x.1), (22, B x.2.1)] [(8, .box [S p0.f0, I p0.f1, I p0.f2, LL a64 p0.f3] false), (32, RR 76 5 a75 x.2.2.1 0 false), (48, .box [S x1.f0, I x1.f1.f0, I x1.f1.f1, I x1.f1.f2, I x1.f1.f3, I x1.f2] false), (152, RR 26 4 a25 x.2.2.2 0 false)] 38))) x))) := by
  unfold L77_6
  let s_0 : List (Nat × AV) := [(10, LL a64 p0.f3), (11, I (lenL p0.f3)), (12, I z0.2), (19, .own 152 0), (20, I (lenL x2))]
  let o_0 : List (Nat × AObj) := [(8, .box [S p0.f0, I p0.f1, I p0.f2, LL a64 p0.f3] false), (32, RR 76 5 a75 z1.1 0 false), (48, .box [S x1.f0, I x1.f1.f0, I x1.f1.f1, I x1.f1.f2, I x1.f1.f3, I x1.f2] false)]
  refine gS 0 ?_
  refine gR 6 (rg Tryz.f77 6) ?_
  refine se (mkE ((1, .ba 8 0) :: ((4, .own 32 0) :: ((6, .ba 48 0) :: (s_0.append ((21, I z1.2.2) :: [(22, B (ltI z1.2.2 (lenL x2)))]))))) (o_0.append [(152, RR 26 4 a25 z1.2.1 0 false)]) 38) ?_
  refine pN ?_
  refine pS ?_
  refine gS 7 ?_
  refine gC 22 (ltI z1.2.2 (lenL x2)) ?_ ?_
  · refine gK ?_
    refine pN ?_
    refine pS ?_
    refine gS 9 ?_
    refine gB 3 ?_
    refine gS 8 ?_
    refine gR 7 (rg Tryz.f77 7) ?_
    refine vo 23 (addrOE 42 26 4 152 0 false a25 .i64 z1.2.1 z1.2.2) (fun x3 => ?_)
    refine vo 24 (loadOE 26 152 0 x3 0 26 4 4 true false a25 (fun q : S25 => a25 q) z1.2.1) (fun x4 => ?_)
    refine se (mkE ((1, .ba 8 0) :: ((4, .own 32 0) :: ((6, .ba 48 0) :: ((8, .ba 64 0) :: (s_0.append [(21, I z1.2.2)]))))) (o_0.append ((64, .box [I x4.f0, I x4.f1, I x4.f2, I x4.f3] false) :: [(152, RR 26 4 a25 z1.2.1 0 false)])) 38) ?_
    refine pN ?_
    refine pS ?_
    refine gR 8 (rg Tryz.f77 8) ?_
    refine sg 6 (mkE ((30, .own 240 0) :: ((29, .agg [S x1.f0, I x4.f0, I x4.f1, I x4.f2, I x4.f3]) :: ((28, a25 x4) :: ((27, S x1.f0) :: ((26, .ba 48 0) :: ((25, .own 32 0) :: ((1, .ba 8 0) :: ((4, .own 32 0) :: ((6, .ba 48 0) :: ((8, .ba 64 0) :: (s_0.append [(21, I z1.2.2)]))))))))))) ((240, RR 76 5 a75 ([(S75.mk x1.f0 x4)] : List S75) 0 false) :: (o_0.append ((64, .box [I x4.f0, I x4.f1, I x4.f2, I x4.f3] false) :: [(152, RR 26 4 a25 z1.2.1 0 false)]))) 38) ?_
    refine mo (some 31) (apO 72 76 5 48 32 a75 0 [240] (y := .own 240 0) (l2 := ([(S75.mk x1.f0 x4)] : List S75))) (fun x5 => ?_)
    refine se (mkE ((1, .ba 8 0) :: ((4, .own 32 1) :: ((6, .ba 48 0) :: (s_0.append [(21, I z1.2.2)])))) [(8, .box [S p0.f0, I p0.f1, I p0.f2, LL a64 p0.f3] false), (32, RR 76 5 a75 x5 1 false), (48, .box [S x1.f0, I x1.f1.f0, I x1.f1.f1, I x1.f1.f2, I x1.f1.f3, I x1.f2] false), (152, RR 26 4 a25 z1.2.1 0 false)] 38) ?_
    refine pB ?_
    refine pN ?_
    refine pS ?_
    refine gR 9 (rg Tryz.f77 9) ?_
    refine se (mkE ((1, .ba 8 0) :: ((4, .own 32 1) :: ((6, .ba 48 0) :: (s_0.append [(21, I (addI .i64 z1.2.2 1))])))) [(8, .box [S p0.f0, I p0.f1, I p0.f2, LL a64 p0.f3] false), (32, RR 76 5 a75 x5 1 false), (48, .box [S x1.f0, I x1.f1.f0, I x1.f1.f1, I x1.f1.f2, I x1.f1.f3, I x1.f2] false), (152, RR 26 4 a25 z1.2.1 0 false)] 38) ?_
    exact pL
  · refine gX 2 ?_
    exact pL
noncomputable def L77_3 (p0 : S31) (z0 : ((List S75) × Int)) : Option (((List S75) × Int) ⊕ (Int × Bool × (List S75))) := (bif (ltI z0.2 (lenL p0.f3)) then ((listAt p0.f3 z0.2).bind fun x1 => ((T92 p0 z0.2).bind fun x2 => ((iter (L77_6 p0 z0 x1 x2) (z0.1, x2, 0)).bind fun y6 => (some (.inl (y6.2.2.1, (addI .i64 z0.2 1))))))) else (some (.inr (z0.2, (ltI z0.2 (lenL p0.f3)), z0.1))))
theorem L77_3_ok (C : Callee) (h92 : ∀ (p0 : S31) (p1 : Int), C 92 [a31 p0, I p1] = (T92 p0 p1).map (fun l => AV.fr 26 4 (List.map a25 l))) (p0 : S31) (z0 : ((List S75) × Int)) : runs Tryz.prog C (cfg.fn 77) (finLoop ((cfg.fn 77).keep 3) ((cfg.fn 77).al 3)) [] (execA Tryz.prog C (cfg.fn 77) (nr Tryz.f77 [false, false, true, false, true, true]) ((fun z0 : ((List S75) × Int) => (mkE [(1, .ba 8 0), (4, .own 32 0), (10, LL a64 p0.f3), (11, I (lenL p0.f3)), (12, I z0.2)] [(8, .box [S p0.f0, I p0.f1, I p0.f2, LL a64 p0.f3] false), (32, RR 76 5 a75 z0.1 0 false)] 38)) z0)) = (L77_3 p0 z0).map (Sum.elim (fun z => .inl ((fun z0 : ((List S75) × Int) => (mkE [(1, .ba 8 0), (4, .own 32 0), (10, LL a64 p0.f3), (11, I (lenL p0.f3)), (12, I z0.2)] [(8, .box [S p0.f0, I p0.f1, I p0.f2, LL a64 p0.f3] false), (32, RR 76 5 a75 z0.1 0 false)] 38)) z)) (fun x => .inr ((fun (x : (Int × Bool × (List S75))) => (.exit 0, (mkE [(1, .ba 8 0), (4, .own 32 0), (10, LL a64 p0.f3), (11, I (lenL p0.f3)), (12, I x.1), (13, B x.2.1)] [(8, .box [S p0.f0, I p0.f1, I p0.f2, LL a64 p0.f3] false), (32, RR 76 5 a75 x.2.2 0 false)] 38))) x))) := by
  unfold L77_3
  let s_0 : List (Nat × AV) := [(10, LL a64 p0.f3), (11, I (lenL p0.f3)), (12, I z0.2)]
  let s_1 : List (Nat × AV) := [(1, .ba 8 0), (4, .own 32 0)]
  let o_0 : List (Nat × AObj) := [(8, .box [S p0.f0, I p0.f1, I p0.f2, LL a64 p0.f3] false)]
  refine gS 0 ?_
  refine gR 3 (rg Tryz.f77 3) ?_
  refine se (mkE (s_1.append (s_0.append [(13, B (ltI z0.2 (lenL p0.f3)))])) (o_0.append [(32, RR 76 5 a75 z0.1 0 false)]) 38) ?_
  refine pN ?_
  refine pS ?_
  refine gS 4 ?_
  refine gC 13 (ltI z0.2 (lenL p0.f3)) ?_ ?_
  · refine gK ?_
    refine pN ?_
    refine pS ?_
    refine gS 10 ?_
    refine gB 1 ?_
    refine gS 5 ?_
    refine gR 4 (rg Tryz.f77 4) ?_
    refine sg 1 (mkE ((14, I z0.2) :: (s_1.append (s_0.append [(13, B (ltI z0.2 (lenL p0.f3)))]))) (o_0.append [(32, RR 76 5 a75 z0.1 0 false)]) 38) ?_
    refine vo 15 (addrE 30 65 6 a64 .i64 p0.f3 z0.2) (fun x1 => ?_)
    refine se (mkE (s_1.append ((5, I z0.2) :: ((6, .ba 48 0) :: s_0))) (o_0.append ((32, RR 76 5 a75 z0.1 0 false) :: [(48, .box [S x1.f0, I x1.f1.f0, I x1.f1.f1, I x1.f1.f2, I x1.f1.f3, I x1.f2] false)])) 38) ?_
    refine pN ?_
    refine pS ?_
    refine gS 6 ?_
    refine gR 5 (rg Tryz.f77 5) ?_
    refine sg 2 (mkE ((18, I z0.2) :: ((17, a31 p0) :: (s_1.append ((5, I z0.2) :: ((6, .ba 48 0) :: s_0))))) (o_0.append ((32, RR 76 5 a75 z0.1 0 false) :: [(48, .box [S x1.f0, I x1.f1.f0, I x1.f1.f1, I x1.f1.f2, I x1.f1.f3, I x1.f2] false)])) 38) ?_
    refine co 19 [] (h92 p0 z0.2) (fun x2 => ?_)
    refine eo 20 (I (lenL x2)) (lenOE 42 26 4 a25 x2) ?_
    refine se (mkE (s_1.append ((6, .ba 48 0) :: (s_0.append ((19, .own 152 0) :: ((20, I (lenL x2)) :: [(21, I 0)]))))) (o_0.append ((32, RR 76 5 a75 z0.1 0 false) :: ((48, .box [S x1.f0, I x1.f1.f0, I x1.f1.f1, I x1.f1.f2, I x1.f1.f3, I x1.f2] false) :: [(152, RR 26 4 a25 x2 0 false)]))) 38) ?_
    refine pN ?_
    refine pS ?_
    refine gB 2 ?_
    refine lo [(1, none), (4, some (76, 5)), (6, none), (10, none), (11, none), (12, none), (19, some (26, 4)), (20, none), (21, none)] [] (L77_6 p0 z0 x1 x2) (fun z1 : ((List S75) × (List S25) × Int) => (mkE (s_1.append ((6, .ba 48 0) :: (s_0.append ((19, .own 152 0) :: ((20, I (lenL x2)) :: [(21, I z1.2.2)]))))) (o_0.append ((32, RR 76 5 a75 z1.1 0 false) :: ((48, .box [S x1.f0, I x1.f1.f0, I x1.f1.f1, I x1.f1.f2, I x1.f1.f3, I x1.f2] false) :: [(152, RR 26 4 a25 z1.2.1 0 false)]))) 38)) (fun (x : (Int × Bool × (List S75) × (List S25))) => (.exit 2, (mkE (s_1.append ((6, .ba 48 0) :: (s_0.append ((19, .own 152 0) :: ((20, I (lenL x2)) :: ((21, I x.1) :: [(22, B x.2.1)])))))) (o_0.append ((32, RR 76 5 a75 x.2.2.1 0 false) :: ((48, .box [S x1.f0, I x1.f1.f0, I x1.f1.f1, I x1.f1.f2, I x1.f1.f3, I x1.f2] false) :: [(152, RR 26 4 a25 x.2.2.2 0 false)]))) 38))) (z0.1, x2, 0) (fun z => L77_6_ok C p0 z0 x1 x2 z) ?_
    intro y6
    refine pH ?_
    refine pB ?_
    refine pN ?_
    refine pS ?_
    refine gR 10 (rg Tryz.f77 10) ?_
    refine se (mkE (s_1.append ((10, LL a64 p0.f3) :: ((11, I (lenL p0.f3)) :: [(12, I (addI .i64 z0.2 1))]))) (o_0.append [(32, RR 76 5 a75 y6.2.2.1 0 false)]) 38) ?_
    exact pL
  · refine gX 0 ?_
    exact pL
noncomputable def T77 (p0 : S31) : Option ((List S75) × Int) := ((iter (L77_3 p0) ([], 0)).bind fun y7 => (bif (ltI 2000 (lenL y7.2.2)) then (some ([], 2)) else (some (y7.2.2, 0))))
theorem B77 (C : Callee) (h92 : ∀ (p0 : S31) (p1 : Int), C 92 [a31 p0, I p1] = (T92 p0 p1).map (fun l => AV.fr 26 4 (List.map a25 l))) (p0 : S31) : runs Tryz.prog C (cfg.fn 77) (finFn Tryz.prog (cfg.fn 77).byval Tryz.f77) [] (execA Tryz.prog C (cfg.fn 77) (nr Tryz.f77 []) (frame0 [a31 p0] 38 false)) = (T77 p0).map (fun r => AV.tup [(fun l => AV.fr 76 5 (List.map a75 l)) r.1, I r.2]) := by
  unfold T77
  let s_0 : List (Nat × AV) := [(1, .ba 8 0), (4, .own 32 0), (10, LL a64 p0.f3), (11, I (lenL p0.f3))]
  let o_0 : List (Nat × AObj) := [(8, .box [S p0.f0, I p0.f1, I p0.f2, LL a64 p0.f3] false)]
  refine gS 1 ?_
  refine gR 0 (rg Tryz.f77 0) ?_
  refine se (mkE [(1, .ba 8 0)] o_0 38) ?_
  refine pN ?_
  refine pS ?_
  refine gS 2 ?_
  refine gR 1 (rg Tryz.f77 1) ?_
  refine se (mkE [(1, .ba 8 0), (4, .nils)] o_0 38) ?_
  refine pN ?_
  refine pS ?_
  refine gS 11 ?_
  refine gS 3 ?_
  refine gR 2 (rg Tryz.f77 2) ?_
  refine sg 2 (mkE [(10, LL a64 p0.f3), (9, .ba 8 3), (1, .ba 8 0), (4, .nils)] o_0 38) ?_
  refine eo 11 (I (lenL p0.f3)) (lenE 30 a64 p0.f3) ?_
  refine se (mkE [(1, .ba 8 0), (4, .nils), (10, LL a64 p0.f3), (11, I (lenL p0.f3)), (12, I 0)] o_0 38) ?_
  refine pN ?_
  refine pS ?_
  refine gB 0 ?_
  refine lo [(1, none), (4, some (76, 5)), (10, none), (11, none), (12, none)] [] (L77_3 p0) (fun z0 : ((List S75) × Int) => (mkE (s_0.append [(12, I z0.2)]) (o_0.append [(32, RR 76 5 a75 z0.1 0 false)]) 38)) (fun (x : (Int × Bool × (List S75))) => (.exit 0, (mkE (s_0.append ((12, I x.1) :: [(13, B x.2.1)])) (o_0.append [(32, RR 76 5 a75 x.2.2 0 false)]) 38))) ([], 0) (fun z => L77_3_ok C h92 p0 z) ?_
  intro y7
  refine pH ?_
  refine pN ?_
  refine pS ?_
  refine gS 13 ?_
  refine gS 0 ?_
  refine gR 11 (rg Tryz.f77 11) ?_
  refine sg 1 (mkE ((34, .own 32 0) :: (s_0.append ((12, I y7.1) :: [(13, B y7.2.1)]))) (o_0.append [(32, RR 76 5 a75 y7.2.2 0 false)]) 38) ?_
  refine eo 35 (I (lenL y7.2.2)) (lenOE 72 76 5 a75 y7.2.2) ?_
  refine se (mkE [(4, .own 32 0), (36, B (ltI 2000 (lenL y7.2.2)))] [(32, RR 76 5 a75 y7.2.2 0 false)] 38) ?_
  refine pN ?_
  refine pS ?_
  refine gC 36 (ltI 2000 (lenL y7.2.2)) ?_ ?_
  · refine gS 0 ?_
    refine gR 12 (rg Tryz.f77 12) ?_
    refine se (mkE [(2, .nils), (3, I 2)] [] 38) ?_
    refine pN ?_
    refine pS ?_
    refine gE ?_
    exact pL
  · refine gK ?_
    refine pN ?_
    refine pS ?_
    refine gS 0 ?_
    refine gR 13 (rg Tryz.f77 13) ?_
    refine se (mkE [(2, .own 32 0), (3, I 0)] [(32, RR 76 5 a75 y7.2.2 0 false)] 38) ?_
    refine pN ?_
    refine pS ?_
    refine gE ?_
    exact pL
theorem F77 (m : Nat) (hm : 6 ≤ m) (p0 : S31) : callA Tryz.prog cfg m 77 [a31 p0] = (T77 p0).map (fun r => AV.tup [(fun l => AV.fr 76 5 (List.map a75 l)) r.1, I r.2]) := by
  obtain ⟨q, rfl⟩ : ∃ q, m = q + 1 := ⟨m - 1, by omega⟩
  exact (callA_body (fn := Tryz.f77) (c := body_ Tryz.f77) q _ (by kernel_rfl) (by kernel_rfl) (by kernel_rfl)).trans (B77 _ (fun p0 p1 => F92 q (by omega) p0 p1) p0)

noncomputable def T78 (p0 : S25) (p1 : Int) (p2 : Int) (p3 : Int) (p4 : Int) : Option S25 := ((quoO .i64 (mulI .i64 p0.f0 p3) p1).bind fun x1 => ((quoO .i64 (mulI .i64 p0.f1 p4) p2).bind fun x2 => ((quoO .i64 (mulI .i64 (addI .i64 p0.f0 p0.f2) p3) p1).bind fun x3 => ((quoO .i64 (mulI .i64 (addI .i64 p0.f1 p0.f3) p4) p2).bind fun x4 => (bif (eqI (subI .i64 x3 x1) 0) then (some (S25.mk 0 0 0 0)) else (bif (eqI (subI .i64 x4 x2) 0) then (some (S25.mk 0 0 0 0)) else (some (S25.mk x1 x2 (subI .i64 x3 x1) (subI .i64 x4 x2)))))))))
theorem B78 (C : Callee) (p0 : S25) (p1 : Int) (p2 : Int) (p3 : Int) (p4 : Int) : runs Tryz.prog C (cfg.fn 78) (finFn Tryz.prog (cfg.fn 78).byval Tryz.f78) [] (execA Tryz.prog C (cfg.fn 78) (nr Tryz.f78 []) (frame0 [a25 p0, I p1, I p2, I p3, I p4] 61 false)) = (T78 p0 p1 p2 p3 p4).map a25 := by
  unfold T78
  let d_0 : List (Option Nat × REff) := [(some 28, qe (.ba 40 0)), (some 29, qe (I p0.f0)), (some 30, qe (.ba 40 2)), (some 31, qe (I p0.f2)), (some 32, qe (I (addI .i64 p0.f0 p0.f2))), (some 33, qe (I p3)), (some 34, qe (I (mulI .i64 (addI .i64 p0.f0 p0.f2) p3))), (some 35, qe (I p1))]
  let d_1 : List (Option Nat × REff) := [(some 14, qe (.ba 40 0)), (some 15, qe (I p0.f0)), (some 16, qe (I p3)), (some 17, qe (I (mulI .i64 p0.f0 p3))), (some 18, qe (I p1))]
  let d_2 : List (Option Nat × REff) := [(some 39, qe (.ba 40 1)), (some 40, qe (I p0.f1)), (some 41, qe (.ba 40 3)), (some 42, qe (I p0.f3)), (some 43, qe (I (addI .i64 p0.f1 p0.f3))), (some 44, qe (I p4)), (some 45, qe (I (mulI .i64 (addI .i64 p0.f1 p0.f3) p4))), (some 46, qe (I p2))]
  let d_3 : List (Option Nat × REff) := [(some 20, qe (.ba 40 1)), (some 21, qe (I p0.f1)), (some 22, qe (I p4)), (some 23, qe (I (mulI .i64 p0.f1 p4))), (some 24, qe (I p2))]
  let s_0 : List (Nat × AV) := [(1, I p1), (2, I p2), (3, I p3), (4, I p4), (5, .ba 40 0), (10, .ba 80 0)]
  let s_1 : List (Nat × AV) := [(35, I p1), (34, I (mulI .i64 (addI .i64 p0.f0 p0.f2) p3)), (33, I p3), (32, I (addI .i64 p0.f0 p0.f2)), (31, I p0.f2), (30, .ba 40 2), (29, I p0.f0), (28, .ba 40 0)]
  let s_2 : List (Nat × AV) := [(46, I p2), (45, I (mulI .i64 (addI .i64 p0.f1 p0.f3) p4)), (44, I p4), (43, I (addI .i64 p0.f1 p0.f3)), (42, I p0.f3), (41, .ba 40 3), (40, I p0.f1), (39, .ba 40 1)]
  let o_0 : List (Nat × AObj) := [(40, .box [I p0.f0, I p0.f1, I p0.f2, I p0.f3] false), (80, .box [I 0, I 0, I 0, I 0] false)]
  let o_1 : List (Nat × AObj) := [(80, .box [I 0, I 0, I 0, I 0] false)]
  refine gS 1 ?_
  refine gR 0 (rg Tryz.f78 0) ?_
  refine se (mkE s_0 o_0 61) ?_
  refine pN ?_
  refine pS ?_
  refine gS 2 ?_
  refine gD 1 14 (rg Tryz.f78 1) [0, 1, 2, 3, 4, 5, 6, 7, 8, 9, 10, 11, 12, 13] ?_
  refine dg 5 d_1 ?_
  refine dv 19 (mkE ((18, I p1) :: ((17, I (mulI .i64 p0.f0 p3)) :: ((16, I p3) :: ((15, I p0.f0) :: ((14, .ba 40 0) :: s_0))))) o_0 61) (quoE 3 .i64 (.tmp 17) (.tmp 18) (mulI .i64 p0.f0 p3) p1) (fun x1 => ?_)
  refine dg 11 (d_1.append ((some 19, qe (I x1)) :: d_3)) ?_
  refine dv 25 (mkE ((24, I p2) :: ((23, I (mulI .i64 p0.f1 p4)) :: ((22, I p4) :: ((21, I p0.f1) :: ((20, .ba 40 1) :: s_0))))) o_0 61) (quoE 3 .i64 (.tmp 23) (.tmp 24) (mulI .i64 p0.f1 p4) p2) (fun x2 => ?_)
  refine dg 14 (d_1.append ((some 19, qe (I x1)) :: (d_3.append ((some 25, qe (I x2)) :: ((some 11, qe (I x1)) :: [(some 12, qe (I x2))]))))) ?_
  refine de (mkE ((12, I x2) :: ((11, I x1) :: ((25, I x2) :: ((24, I p2) :: ((23, I (mulI .i64 p0.f1 p4)) :: ((22, I p4) :: ((21, I p0.f1) :: ((20, .ba 40 1) :: ((19, I x1) :: ((18, I p1) :: ((17, I (mulI .i64 p0.f0 p3)) :: ((16, I p3) :: ((15, I p0.f0) :: ((14, .ba 40 0) :: s_0)))))))))))))) o_0 61) ?_
  refine se (mkE (s_0.append ((11, I x1) :: [(12, I x2)])) o_0 61) ?_
  refine pN ?_
  refine pS ?_
  refine gS 3 ?_
  refine gD 2 26 (rg Tryz.f78 2) [0, 1, 2, 3, 4, 5, 6, 7, 8, 9, 10, 11, 12, 13, 14, 15, 16, 17, 18, 19, 20, 21, 22, 23, 24, 25, 26] ?_
  refine dg 10 ((some 26, qe (I x1)) :: ((some 27, qe (I x2)) :: d_0)) ?_
  refine dv 36 (mkE (s_1.append (s_0.append ((11, I x1) :: [(12, I x2)]))) o_0 61) (quoE 3 .i64 (.tmp 34) (.tmp 35) (mulI .i64 (addI .i64 p0.f0 p0.f2) p3) p1) (fun x3 => ?_)
  refine dg 21 ((some 26, qe (I x1)) :: ((some 27, qe (I x2)) :: (d_0.append ((some 36, qe (I x3)) :: ((some 37, qe (I x1)) :: ((some 38, qe (I (subI .i64 x3 x1))) :: d_2)))))) ?_
  refine dv 47 (mkE (s_2.append (s_0.append ((11, I x1) :: [(12, I x2)]))) o_0 61) (quoE 3 .i64 (.tmp 45) (.tmp 46) (mulI .i64 (addI .i64 p0.f1 p0.f3) p4) p2) (fun x4 => ?_)
  refine dg 26 ((some 26, qe (I x1)) :: ((some 27, qe (I x2)) :: (d_0.append ((some 36, qe (I x3)) :: ((some 37, qe (I x1)) :: ((some 38, qe (I (subI .i64 x3 x1))) :: (d_2.append ((some 47, qe (I x4)) :: ((some 48, qe (I x2)) :: ((some 49, qe (I (subI .i64 x4 x2))) :: ((some 50, qe (.agg [I x1, I x2, I (subI .i64 x3 x1), I (subI .i64 x4 x2)])) :: [(some 13, { e := { val := .ba 104 0, news := [(104, .box [I 0, I 0, I 0, I 0] false)] } })]))))))))))) ?_
  refine de (mkE ((13, .ba 104 0) :: ((50, .agg [I x1, I x2, I (subI .i64 x3 x1), I (subI .i64 x4 x2)]) :: ((49, I (subI .i64 x4 x2)) :: ((48, I x2) :: ((47, I x4) :: (s_2.append ((38, I (subI .i64 x3 x1)) :: ((37, I x1) :: ((36, I x3) :: (s_1.append ((27, I x2) :: ((26, I x1) :: (s_0.append ((11, I x1) :: [(12, I x2)])))))))))))))) ((104, .box [I 0, I 0, I 0, I 0] false) :: o_0) 61) ?_
  refine se (mkE [(10, .ba 80 0), (13, .ba 104 0)] (o_1.append [(104, .box [I x1, I x2, I (subI .i64 x3 x1), I (subI .i64 x4 x2)] false)]) 61) ?_
  refine pN ?_
  refine pS ?_
  refine gS 5 ?_
  refine gS 0 ?_
  refine gR 3 (rg Tryz.f78 3) ?_
  refine sg 4 (mkE [(54, B (eqI (subI .i64 x3 x1) 0)), (53, B (eqI (subI .i64 x3 x1) 0)), (52, I (subI .i64 x3 x1)), (51, .ba 104 2), (10, .ba 80 0), (13, .ba 104 0)] (o_1.append [(104, .box [I x1, I x2, I (subI .i64 x3 x1), I (subI .i64 x4 x2)] false)]) 61) ?_
  refine sb 54 (eqI (subI .i64 x3 x1) 0) ?_ ?_
  · refine se (mkE [(10, .ba 80 0), (13, .ba 104 0), (58, B true)] (o_1.append [(104, .box [I x1, I x2, I (subI .i64 x3 x1), I (subI .i64 x4 x2)] false)]) 61) ?_
    refine pN ?_
    refine pS ?_
    refine gT (.tmp 58) ?_
    refine gS 0 ?_
    refine gR 4 (rg Tryz.f78 4) ?_
    refine se (mkE [(10, .ba 80 0)] o_1 61) ?_
    refine pN ?_
    refine pS ?_
    refine gE ?_
    exact pL
  · refine se (mkE [(10, .ba 80 0), (13, .ba 104 0), (58, B (eqI (subI .i64 x4 x2) 0))] (o_1.append [(104, .box [I x1, I x2, I (subI .i64 x3 x1), I (subI .i64 x4 x2)] false)]) 61) ?_
    refine pN ?_
    refine pS ?_
    refine gC 58 (eqI (subI .i64 x4 x2) 0) ?_ ?_
    · refine gS 0 ?_
      refine gR 4 (rg Tryz.f78 4) ?_
      refine se (mkE [(10, .ba 80 0)] o_1 61) ?_
      refine pN ?_
      refine pS ?_
      refine gE ?_
      exact pL
    · refine gK ?_
      refine pN ?_
      refine pS ?_
      refine gS 0 ?_
      refine gR 5 (rg Tryz.f78 5) ?_
      refine se (mkE [(10, .ba 80 0)] [(80, .box [I x1, I x2, I (subI .i64 x3 x1), I (subI .i64 x4 x2)] false)] 61) ?_
      refine pN ?_
      refine pS ?_
      refine gE ?_
      exact pL
theorem F78 (m : Nat) (hm : 1 ≤ m) (p0 : S25) (p1 : Int) (p2 : Int) (p3 : Int) (p4 : Int) : callA Tryz.prog cfg m 78 [a25 p0, I p1, I p2, I p3, I p4] = (T78 p0 p1 p2 p3 p4).map a25 := by
  obtain ⟨q, rfl⟩ : ∃ q, m = q + 1 := ⟨m - 1, by omega⟩
  exact (callA_body (fn := Tryz.f78) (c := body_ Tryz.f78) q _ (by kernel_rfl) (by kernel_rfl) (by kernel_rfl)).trans (B78 _ p0 p1 p2 p3 p4)

end Go.Abs.TV
