import Derived.Test.YtnaibaifmnjpnaaTB0
set_option maxRecDepth 100000
set_option linter.unusedVariables false
namespace Go.Abs.TB
open Go.RowKit Go.Proofs Go.Abs
theorem F57 (m : Nat) (hm : 1 ≤ m) (p0 : (List ByteArray)) : callA Try.prog cfg m 57 [LL S p0] = (appO 16 ([] : List ByteArray) p0).map (fun l => AV.fr 9 1 (List.map S l)) := by
  obtain ⟨q, rfl⟩ : ∃ q, m = q + 1 := ⟨m - 1, by omega⟩
  exact (callA_leaf (L := (leafClone Try.prog 9 1 16)) _ _ (by kernel_rfl)).trans (clone_leaf S _ _ (fun _ => by kernel_rfl))

noncomputable def L15_3 (p0 : (List S90)) (z0 : ((List S90) × Int)) : Option (((List S90) × Int) ⊕ (Int × Bool × (List S90))) := (bif (ltI z0.2 (lenL p0)) then ((listAt p0 z0.2).bind fun x1 => ((appO 16 ([] : List ByteArray) x1.f3).bind fun x2 => ((appO 64 z0.1 ([(S90.mk x1.f0 x1.f1 x1.f2 x2)] : List S90)).bind fun x3 => (some (.inl (x3, (addI .i64 z0.2 1))))))) else (some (.inr (z0.2, (ltI z0.2 (lenL p0)), z0.1))))
theorem L15_3_ok (C : Callee) (h57 : ∀ (p0 : (List ByteArray)), C 57 [LL S p0] = (appO 16 ([] : List ByteArray) p0).map (fun l => AV.fr 9 1 (List.map S l))) (p0 : (List S90)) (z0 : ((List S90) × Int)) : runs Try.prog C (cfg.fn 15) (finLoop ((cfg.fn 15).keep 3)) [] (execA Try.prog C (cfg.fn 15) (nr Try.f15 [false, false, true, false, true, true]) ((fun z0 : ((List S90) × Int) => (mkE [(3, .own 24 0), (6, LL a90 p0), (7, I (lenL p0)), (8, I z0.2)] [(24, RR 91 5 a90 z0.1 0 false)] 22)) z0)) = (L15_3 p0 z0).map (Sum.elim (fun z => .inl ((fun z0 : ((List S90) × Int) => (mkE [(3, .own 24 0), (6, LL a90 p0), (7, I (lenL p0)), (8, I z0.2)] [(24, RR 91 5 a90 z0.1 0 false)] 22)) z)) (fun x => .inr ((fun (x : (Int × Bool × (List S90))) => (.exit 0, (mkE [(3, .own 24 0), (6, LL a90 p0), (7, I (lenL p0)), (8, I x.1), (9, B x.2.1)] [(24, RR 91 5 a90 x.2.2 0 false)] 22))) x))) := by
  unfold L15_3
  refine gS 0 ?_
  refine gR 3 (rg Try.f15 3) ?_
  refine se (mkE [(3, .own 24 0), (6, LL a90 p0), (7, I (lenL p0)), (8, I z0.2), (9, B (ltI z0.2 (lenL p0)))] [(24, RR 91 5 a90 z0.1 0 false)] 22) ?_
  refine pN ?_
  refine pS ?_
  refine gS 4 ?_
  refine gC 9 (ltI z0.2 (lenL p0)) ?_ ?_
  · refine gK ?_
    refine pN ?_
    refine pS ?_
    refine gS 7 ?_
    refine gB 1 ?_
    refine gS 5 ?_
    refine gR 4 (rg Try.f15 4) ?_
    refine vo 10 (addrE 28 91 5 a90 .i64 p0 z0.2) (fun x1 => ?_)
    refine se (mkE [(3, .own 24 0), (5, .ba 40 0), (6, LL a90 p0), (7, I (lenL p0)), (8, I z0.2)] [(24, RR 91 5 a90 z0.1 0 false), (40, .box [S x1.f0, I x1.f1.f0, I x1.f1.f1, I x1.f2, LL S x1.f3] false)] 22) ?_
    refine pN ?_
    refine pS ?_
    refine gS 6 ?_
    refine gR 5 (rg Try.f15 5) ?_
    refine sg 2 (mkE [(13, LL S x1.f3), (12, .ba 40 4), (3, .own 24 0), (5, .ba 40 0), (6, LL a90 p0), (7, I (lenL p0)), (8, I z0.2)] [(24, RR 91 5 a90 z0.1 0 false), (40, .box [S x1.f0, I x1.f1.f0, I x1.f1.f1, I x1.f2, LL S x1.f3] false)] 22) ?_
    refine co 14 [] (h57 x1.f3) (fun x2 => ?_)
    refine se (mkE [(3, .own 24 0), (5, .ba 40 0), (6, LL a90 p0), (7, I (lenL p0)), (8, I z0.2)] [(24, RR 91 5 a90 z0.1 0 false), (40, .box [S x1.f0, I x1.f1.f0, I x1.f1.f1, I x1.f2, .own 112 0] false), (112, RR 9 1 S x2 0 false)] 22) ?_
    refine pN ?_
    refine pS ?_
    refine gR 6 (rg Try.f15 6) ?_
    refine sg 3 (mkE [(18, .own 144 0), (17, .agg [S x1.f0, I x1.f1.f0, I x1.f1.f1, I x1.f2, .own 112 0]), (16, .own 24 0), (3, .own 24 0), (5, .ba 40 0), (6, LL a90 p0), (7, I (lenL p0)), (8, I z0.2)] [(144, RR 91 5 a90 ([(S90.mk x1.f0 x1.f1 x1.f2 x2)] : List S90) 0 false), (112, RR 9 1 S x2 0 true), (24, RR 91 5 a90 z0.1 0 false), (40, .box [S x1.f0, I x1.f1.f0, I x1.f1.f1, I x1.f2, .own 112 0] false), (112, RR 9 1 S x2 0 false)] 22) ?_
    refine mo (some 19) (apO 28 91 5 64 24 a90 0 [144] (y := .own 144 0) (l2 := ([(S90.mk x1.f0 x1.f1 x1.f2 x2)] : List S90))) (fun x3 => ?_)
    refine se (mkE [(3, .own 24 1), (6, LL a90 p0), (7, I (lenL p0)), (8, I z0.2)] [(24, RR 91 5 a90 x3 1 false)] 22) ?_
    refine pB ?_
    refine pN ?_
    refine pS ?_
    refine gR 7 (rg Try.f15 7) ?_
    refine se (mkE [(3, .own 24 1), (6, LL a90 p0), (7, I (lenL p0)), (8, I (addI .i64 z0.2 1))] [(24, RR 91 5 a90 x3 1 false)] 22) ?_
    exact pL
  · refine gX 0 ?_
    exact pL
noncomputable def T15 (p0 : (List S90)) : Option (List S90) := ((iter (L15_3 p0) ([], 0)).bind fun y4 => (some y4.2.2))
theorem B15 (C : Callee) (h57 : ∀ (p0 : (List ByteArray)), C 57 [LL S p0] = (appO 16 ([] : List ByteArray) p0).map (fun l => AV.fr 9 1 (List.map S l))) (p0 : (List S90)) : runs Try.prog C (cfg.fn 15) (finFn Try.prog (cfg.fn 15).byval Try.f15) [] (execA Try.prog C (cfg.fn 15) (nr Try.f15 []) (frame0 [LL a90 p0] 22)) = (T15 p0).map (fun l => AV.fr 91 5 (List.map a90 l)) := by
  unfold T15
  refine gS 1 ?_
  refine gR 0 (rg Try.f15 0) ?_
  refine se (mkE [(0, LL a90 p0)] [] 22) ?_
  refine pN ?_
  refine pS ?_
  refine gS 2 ?_
  refine gR 1 (rg Try.f15 1) ?_
  refine se (mkE [(0, LL a90 p0), (3, .nils)] [] 22) ?_
  refine pN ?_
  refine pS ?_
  refine gS 8 ?_
  refine gS 3 ?_
  refine gR 2 (rg Try.f15 2) ?_
  refine sg 1 (mkE [(6, LL a90 p0), (0, LL a90 p0), (3, .nils)] [] 22) ?_
  refine eo 7 (I (lenL p0)) (lenE 28 a90 p0) ?_
  refine se (mkE [(3, .nils), (6, LL a90 p0), (7, I (lenL p0)), (8, I 0)] [] 22) ?_
  refine pN ?_
  refine pS ?_
  refine gB 0 ?_
  refine lo [(3, some (91, 5)), (6, none), (7, none), (8, none)] (L15_3 p0) (fun z0 : ((List S90) × Int) => (mkE [(3, .own 24 0), (6, LL a90 p0), (7, I (lenL p0)), (8, I z0.2)] [(24, RR 91 5 a90 z0.1 0 false)] 22)) (fun (x : (Int × Bool × (List S90))) => (.exit 0, (mkE [(3, .own 24 0), (6, LL a90 p0), (7, I (lenL p0)), (8, I x.1), (9, B x.2.1)] [(24, RR 91 5 a90 x.2.2 0 false)] 22))) ([], 0) (fun z => L15_3_ok C h57 p0 z) ?_
  intro y4
  refine pH ?_
  refine pN ?_
  refine pS ?_
  refine gS 0 ?_
  refine gR 8 (rg Try.f15 8) ?_
  refine se (mkE [(2, .own 24 0)] [(24, RR 91 5 a90 y4.2.2 0 false)] 22) ?_
  refine pN ?_
  refine pS ?_
  refine gE ?_
  exact pL
theorem F15 (m : Nat) (hm : 2 ≤ m) (p0 : (List S90)) : callA Try.prog cfg m 15 [LL a90 p0] = (T15 p0).map (fun l => AV.fr 91 5 (List.map a90 l)) := by
  obtain ⟨q, rfl⟩ : ∃ q, m = q + 1 := ⟨m - 1, by omega⟩
  exact (callA_body (fn := Try.f15) (c := body_ Try.f15) q _ (by kernel_rfl) (by kernel_rfl) (by kernel_rfl)).trans (B15 _ (fun p0 => F57 q (by omega) p0) p0)

noncomputable def L16_3 (p0 : (List S53)) (z0 : ((List S53) × Int)) : Option (((List S53) × Int) ⊕ (Int × Bool × (List S53))) := (bif (ltI z0.2 (lenL p0)) then ((listAt p0 z0.2).bind fun x1 => ((appO 16 ([] : List ByteArray) x1.f3).bind fun x2 => ((appO 96 z0.1 ([(S53.mk x1.f0 x1.f1 x1.f2 x2 x1.f4 x1.f5 x1.f6)] : List S53)).bind fun x3 => (some (.inl (x3, (addI .i64 z0.2 1))))))) else (some (.inr (z0.2, (ltI z0.2 (lenL p0)), z0.1))))
theorem L16_3_ok (C : Callee) (h57 : ∀ (p0 : (List ByteArray)), C 57 [LL S p0] = (appO 16 ([] : List ByteArray) p0).map (fun l => AV.fr 9 1 (List.map S l))) (p0 : (List S53)) (z0 : ((List S53) × Int)) : runs Try.prog C (cfg.fn 16) (finLoop ((cfg.fn 16).keep 3)) [] (execA Try.prog C (cfg.fn 16) (nr Try.f16 [false, false, true, false, true, true]) ((fun z0 : ((List S53) × Int) => (mkE [(3, .own 24 0), (6, LL a53 p0), (7, I (lenL p0)), (8, I z0.2)] [(24, RR 54 8 a53 z0.1 0 false)] 22)) z0)) = (L16_3 p0 z0).map (Sum.elim (fun z => .inl ((fun z0 : ((List S53) × Int) => (mkE [(3, .own 24 0), (6, LL a53 p0), (7, I (lenL p0)), (8, I z0.2)] [(24, RR 54 8 a53 z0.1 0 false)] 22)) z)) (fun x => .inr ((fun (x : (Int × Bool × (List S53))) => (.exit 0, (mkE [(3, .own 24 0), (6, LL a53 p0), (7, I (lenL p0)), (8, I x.1), (9, B x.2.1)] [(24, RR 54 8 a53 x.2.2 0 false)] 22))) x))) := by
  unfold L16_3
  refine gS 0 ?_
  refine gR 3 (rg Try.f16 3) ?_
  refine se (mkE [(3, .own 24 0), (6, LL a53 p0), (7, I (lenL p0)), (8, I z0.2), (9, B (ltI z0.2 (lenL p0)))] [(24, RR 54 8 a53 z0.1 0 false)] 22) ?_
  refine pN ?_
  refine pS ?_
  refine gS 4 ?_
  refine gC 9 (ltI z0.2 (lenL p0)) ?_ ?_
  · refine gK ?_
    refine pN ?_
    refine pS ?_
    refine gS 7 ?_
    refine gB 1 ?_
    refine gS 5 ?_
    refine gR 4 (rg Try.f16 4) ?_
    refine vo 10 (addrE 29 54 8 a53 .i64 p0 z0.2) (fun x1 => ?_)
    refine se (mkE [(3, .own 24 0), (5, .ba 40 0), (6, LL a53 p0), (7, I (lenL p0)), (8, I z0.2)] [(24, RR 54 8 a53 z0.1 0 false), (40, .box [S x1.f0, S x1.f1, I x1.f2.f0, I x1.f2.f1, LL S x1.f3, I x1.f4, I x1.f5, I x1.f6] false)] 22) ?_
    refine pN ?_
    refine pS ?_
    refine gS 6 ?_
    refine gR 5 (rg Try.f16 5) ?_
    refine sg 2 (mkE [(13, LL S x1.f3), (12, .ba 40 4), (3, .own 24 0), (5, .ba 40 0), (6, LL a53 p0), (7, I (lenL p0)), (8, I z0.2)] [(24, RR 54 8 a53 z0.1 0 false), (40, .box [S x1.f0, S x1.f1, I x1.f2.f0, I x1.f2.f1, LL S x1.f3, I x1.f4, I x1.f5, I x1.f6] false)] 22) ?_
    refine co 14 [] (h57 x1.f3) (fun x2 => ?_)
    refine se (mkE [(3, .own 24 0), (5, .ba 40 0), (6, LL a53 p0), (7, I (lenL p0)), (8, I z0.2)] [(24, RR 54 8 a53 z0.1 0 false), (40, .box [S x1.f0, S x1.f1, I x1.f2.f0, I x1.f2.f1, .own 112 0, I x1.f4, I x1.f5, I x1.f6] false), (112, RR 9 1 S x2 0 false)] 22) ?_
    refine pN ?_
    refine pS ?_
    refine gR 6 (rg Try.f16 6) ?_
    refine sg 3 (mkE [(18, .own 144 0), (17, .agg [S x1.f0, S x1.f1, I x1.f2.f0, I x1.f2.f1, .own 112 0, I x1.f4, I x1.f5, I x1.f6]), (16, .own 24 0), (3, .own 24 0), (5, .ba 40 0), (6, LL a53 p0), (7, I (lenL p0)), (8, I z0.2)] [(144, RR 54 8 a53 ([(S53.mk x1.f0 x1.f1 x1.f2 x2 x1.f4 x1.f5 x1.f6)] : List S53) 0 false), (112, RR 9 1 S x2 0 true), (24, RR 54 8 a53 z0.1 0 false), (40, .box [S x1.f0, S x1.f1, I x1.f2.f0, I x1.f2.f1, .own 112 0, I x1.f4, I x1.f5, I x1.f6] false), (112, RR 9 1 S x2 0 false)] 22) ?_
    refine mo (some 19) (apO 29 54 8 96 24 a53 0 [144] (y := .own 144 0) (l2 := ([(S53.mk x1.f0 x1.f1 x1.f2 x2 x1.f4 x1.f5 x1.f6)] : List S53))) (fun x3 => ?_)
    refine se (mkE [(3, .own 24 1), (6, LL a53 p0), (7, I (lenL p0)), (8, I z0.2)] [(24, RR 54 8 a53 x3 1 false)] 22) ?_
    refine pB ?_
    refine pN ?_
    refine pS ?_
    refine gR 7 (rg Try.f16 7) ?_
    refine se (mkE [(3, .own 24 1), (6, LL a53 p0), (7, I (lenL p0)), (8, I (addI .i64 z0.2 1))] [(24, RR 54 8 a53 x3 1 false)] 22) ?_
    exact pL
  · refine gX 0 ?_
    exact pL
noncomputable def T16 (p0 : (List S53)) : Option (List S53) := ((iter (L16_3 p0) ([], 0)).bind fun y4 => (some y4.2.2))
theorem B16 (C : Callee) (h57 : ∀ (p0 : (List ByteArray)), C 57 [LL S p0] = (appO 16 ([] : List ByteArray) p0).map (fun l => AV.fr 9 1 (List.map S l))) (p0 : (List S53)) : runs Try.prog C (cfg.fn 16) (finFn Try.prog (cfg.fn 16).byval Try.f16) [] (execA Try.prog C (cfg.fn 16) (nr Try.f16 []) (frame0 [LL a53 p0] 22)) = (T16 p0).map (fun l => AV.fr 54 8 (List.map a53 l)) := by
  unfold T16
  refine gS 1 ?_
  refine gR 0 (rg Try.f16 0) ?_
  refine se (mkE [(0, LL a53 p0)] [] 22) ?_
  refine pN ?_
  refine pS ?_
  refine gS 2 ?_
  refine gR 1 (rg Try.f16 1) ?_
  refine se (mkE [(0, LL a53 p0), (3, .nils)] [] 22) ?_
  refine pN ?_
  refine pS ?_
  refine gS 8 ?_
  refine gS 3 ?_
  refine gR 2 (rg Try.f16 2) ?_
  refine sg 1 (mkE [(6, LL a53 p0), (0, LL a53 p0), (3, .nils)] [] 22) ?_
  refine eo 7 (I (lenL p0)) (lenE 29 a53 p0) ?_
  refine se (mkE [(3, .nils), (6, LL a53 p0), (7, I (lenL p0)), (8, I 0)] [] 22) ?_
  refine pN ?_
  refine pS ?_
  refine gB 0 ?_
  refine lo [(3, some (54, 8)), (6, none), (7, none), (8, none)] (L16_3 p0) (fun z0 : ((List S53) × Int) => (mkE [(3, .own 24 0), (6, LL a53 p0), (7, I (lenL p0)), (8, I z0.2)] [(24, RR 54 8 a53 z0.1 0 false)] 22)) (fun (x : (Int × Bool × (List S53))) => (.exit 0, (mkE [(3, .own 24 0), (6, LL a53 p0), (7, I (lenL p0)), (8, I x.1), (9, B x.2.1)] [(24, RR 54 8 a53 x.2.2 0 false)] 22))) ([], 0) (fun z => L16_3_ok C h57 p0 z) ?_
  intro y4
  refine pH ?_
  refine pN ?_
  refine pS ?_
  refine gS 0 ?_
  refine gR 8 (rg Try.f16 8) ?_
  refine se (mkE [(2, .own 24 0)] [(24, RR 54 8 a53 y4.2.2 0 false)] 22) ?_
  refine pN ?_
  refine pS ?_
  refine gE ?_
  exact pL
theorem F16 (m : Nat) (hm : 2 ≤ m) (p0 : (List S53)) : callA Try.prog cfg m 16 [LL a53 p0] = (T16 p0).map (fun l => AV.fr 54 8 (List.map a53 l)) := by
  obtain ⟨q, rfl⟩ : ∃ q, m = q + 1 := ⟨m - 1, by omega⟩
  exact (callA_body (fn := Try.f16) (c := body_ Try.f16) q _ (by kernel_rfl) (by kernel_rfl) (by kernel_rfl)).trans (B16 _ (fun p0 => F57 q (by omega) p0) p0)

noncomputable def L137_2 (p0 : ByteArray) (z0 : Int) : Option (Int ⊕ ((Int × Bool) ⊕ Unit)) := (bif (ltI z0 (lenS p0)) then ((byteAt p0 z0).bind fun x1 => (bif (leI 97 x1) then (bif (leI x1 122) then (some (.inl (addI .i64 z0 1))) else (bif (ltI 0 z0) then (bif (leI 48 x1) then (bif (leI x1 57) then (some (.inl (addI .i64 z0 1))) else (bif (eqI x1 45) then (some (.inl (addI .i64 z0 1))) else (bif (!(eqI x1 95)) then (some (.inr (.inr ()))) else (some (.inl (addI .i64 z0 1)))))) else (bif (eqI x1 45) then (some (.inl (addI .i64 z0 1))) else (bif (!(eqI x1 95)) then (some (.inr (.inr ()))) else (some (.inl (addI .i64 z0 1)))))) else (some (.inr (.inr ()))))) else (bif (ltI 0 z0) then (bif (leI 48 x1) then (bif (leI x1 57) then (some (.inl (addI .i64 z0 1))) else (bif (eqI x1 45) then (some (.inl (addI .i64 z0 1))) else (bif (!(eqI x1 95)) then (some (.inr (.inr ()))) else (some (.inl (addI .i64 z0 1)))))) else (bif (eqI x1 45) then (some (.inl (addI .i64 z0 1))) else (bif (!(eqI x1 95)) then (some (.inr (.inr ()))) else (some (.inl (addI .i64 z0 1)))))) else (some (.inr (.inr ())))))) else (some (.inr (.inl (z0, (ltI z0 (lenS p0)))))))
theorem L137_2_ok (C : Callee) (p0 : ByteArray) (z0 : Int) : runs Try.prog C (cfg.fn 137) (finLoop ((cfg.fn 137).keep 2)) [] (execA Try.prog C (cfg.fn 137) (nr Try.f137 [false, false, true, false, true]) ((fun z0 : Int => (mkE [(0, S p0), (3, I z0)] [] 48)) z0)) = (L137_2 p0 z0).map (Sum.elim (fun z => .inl ((fun z0 : Int => (mkE [(0, S p0), (3, I z0)] [] 48)) z)) (fun x => .inr ((Sum.elim (fun (x : (Int × Bool)) => (.exit 0, (mkE [(0, S p0), (3, I x.1), (8, B x.2)] [] 48))) (fun (x : Unit) => (.ret, (mkE [(2, B false)] [] 48)))) x))) := by
  unfold L137_2
  refine gS 4 ?_
  refine gS 0 ?_
  refine gR 2 (rg Try.f137 2) ?_
  refine se (mkE [(0, S p0), (3, I z0), (8, B (ltI z0 (lenS p0)))] [] 48) ?_
  refine pN ?_
  refine pS ?_
  refine gC 8 (ltI z0 (lenS p0)) ?_ ?_
  · refine gK ?_
    refine pN ?_
    refine pS ?_
    refine gS 3 ?_
    refine gB 1 ?_
    refine gS 5 ?_
    refine gR 4 (rg Try.f137 4) ?_
    refine sg 2 (mkE [(12, I z0), (11, S p0), (0, S p0), (3, I z0), (8, B (ltI z0 (lenS p0)))] [] 48) ?_
    refine vo 13 (byteE 9 .i64 p0 z0) (fun x1 => ?_)
    refine se (mkE [(0, S p0), (3, I z0), (4, U x1)] [] 48) ?_
    refine pN ?_
    refine pS ?_
    refine gS 0 ?_
    refine gR 5 (rg Try.f137 5) ?_
    refine sg 3 (mkE [(16, B (leI 97 x1)), (15, B (leI 97 x1)), (14, U x1), (0, S p0), (3, I z0), (4, U x1)] [] 48) ?_
    refine sb 16 (leI 97 x1) ?_ ?_
    · refine sg 7 (mkE [(20, B (leI x1 122)), (19, B (leI x1 122)), (18, B (leI x1 122)), (17, U x1), (16, B true), (16, B (leI 97 x1)), (15, B (leI 97 x1)), (14, U x1), (0, S p0), (3, I z0), (4, U x1)] [] 48) ?_
      refine sb 20 (leI x1 122) ?_ ?_
      · refine se (mkE [(0, S p0), (3, I z0), (40, B false)] [] 48) ?_
        refine pN ?_
        refine pS ?_
        refine gF (.tmp 40) ?_
        refine gK ?_
        refine pB ?_
        refine pN ?_
        refine pS ?_
        refine gR 3 (rg Try.f137 3) ?_
        refine se (mkE [(0, S p0), (3, I (addI .i64 z0 1))] [] 48) ?_
        exact pL
      · refine sg 10 (mkE [(23, B (ltI 0 z0)), (22, B (ltI 0 z0)), (21, I z0), (20, B false), (20, B (leI x1 122)), (19, B (leI x1 122)), (18, B (leI x1 122)), (17, U x1), (16, B true), (16, B (leI 97 x1)), (15, B (leI 97 x1)), (14, U x1), (0, S p0), (3, I z0), (4, U x1)] [] 48) ?_
        refine sb 23 (ltI 0 z0) ?_ ?_
        · refine sg 13 (mkE [(26, B (leI 48 x1)), (25, B (leI 48 x1)), (24, U x1), (23, B true), (23, B (ltI 0 z0)), (22, B (ltI 0 z0)), (21, I z0), (20, B false), (20, B (leI x1 122)), (19, B (leI x1 122)), (18, B (leI x1 122)), (17, U x1), (16, B true), (16, B (leI 97 x1)), (15, B (leI 97 x1)), (14, U x1), (0, S p0), (3, I z0), (4, U x1)] [] 48) ?_
          refine sb 26 (leI 48 x1) ?_ ?_
          · refine sg 17 (mkE [(30, B (leI x1 57)), (29, B (leI x1 57)), (28, B (leI x1 57)), (27, U x1), (26, B true), (26, B (leI 48 x1)), (25, B (leI 48 x1)), (24, U x1), (23, B true), (23, B (ltI 0 z0)), (22, B (ltI 0 z0)), (21, I z0), (20, B false), (20, B (leI x1 122)), (19, B (leI x1 122)), (18, B (leI x1 122)), (17, U x1), (16, B true), (16, B (leI 97 x1)), (15, B (leI 97 x1)), (14, U x1), (0, S p0), (3, I z0), (4, U x1)] [] 48) ?_
            refine sb 30 (leI x1 57) ?_ ?_
            · refine se (mkE [(0, S p0), (3, I z0), (40, B false)] [] 48) ?_
              refine pN ?_
              refine pS ?_
              refine gF (.tmp 40) ?_
              refine gK ?_
              refine pB ?_
              refine pN ?_
              refine pS ?_
              refine gR 3 (rg Try.f137 3) ?_
              refine se (mkE [(0, S p0), (3, I (addI .i64 z0 1))] [] 48) ?_
              exact pL
            · refine sg 21 (mkE [(34, B (eqI x1 45)), (33, B (eqI x1 45)), (32, B (eqI x1 45)), (31, U x1), (30, B false), (30, B (leI x1 57)), (29, B (leI x1 57)), (28, B (leI x1 57)), (27, U x1), (26, B true), (26, B (leI 48 x1)), (25, B (leI 48 x1)), (24, U x1), (23, B true), (23, B (ltI 0 z0)), (22, B (ltI 0 z0)), (21, I z0), (20, B false), (20, B (leI x1 122)), (19, B (leI x1 122)), (18, B (leI x1 122)), (17, U x1), (16, B true), (16, B (leI 97 x1)), (15, B (leI 97 x1)), (14, U x1), (0, S p0), (3, I z0), (4, U x1)] [] 48) ?_
              refine sb 34 (eqI x1 45) ?_ ?_
              · refine se (mkE [(0, S p0), (3, I z0), (40, B false)] [] 48) ?_
                refine pN ?_
                refine pS ?_
                refine gF (.tmp 40) ?_
                refine gK ?_
                refine pB ?_
                refine pN ?_
                refine pS ?_
                refine gR 3 (rg Try.f137 3) ?_
                refine se (mkE [(0, S p0), (3, I (addI .i64 z0 1))] [] 48) ?_
                exact pL
              · refine se (mkE [(0, S p0), (3, I z0), (40, B (!(eqI x1 95)))] [] 48) ?_
                refine pN ?_
                refine pS ?_
                refine gC 40 (!(eqI x1 95)) ?_ ?_
                · refine gS 0 ?_
                  refine gR 6 (rg Try.f137 6) ?_
                  refine se (mkE [(2, B false)] [] 48) ?_
                  refine pN ?_
                  refine pS ?_
                  refine gE ?_
                  exact pL
                · refine gK ?_
                  refine pB ?_
                  refine pN ?_
                  refine pS ?_
                  refine gR 3 (rg Try.f137 3) ?_
                  refine se (mkE [(0, S p0), (3, I (addI .i64 z0 1))] [] 48) ?_
                  exact pL
          · refine sg 21 (mkE [(34, B (eqI x1 45)), (33, B (eqI x1 45)), (32, B (eqI x1 45)), (31, U x1), (30, B false), (29, B false), (28, .und), (27, .und), (26, B false), (26, B (leI 48 x1)), (25, B (leI 48 x1)), (24, U x1), (23, B true), (23, B (ltI 0 z0)), (22, B (ltI 0 z0)), (21, I z0), (20, B false), (20, B (leI x1 122)), (19, B (leI x1 122)), (18, B (leI x1 122)), (17, U x1), (16, B true), (16, B (leI 97 x1)), (15, B (leI 97 x1)), (14, U x1), (0, S p0), (3, I z0), (4, U x1)] [] 48) ?_
            refine sb 34 (eqI x1 45) ?_ ?_
            · refine se (mkE [(0, S p0), (3, I z0), (40, B false)] [] 48) ?_
              refine pN ?_
              refine pS ?_
              refine gF (.tmp 40) ?_
              refine gK ?_
              refine pB ?_
              refine pN ?_
              refine pS ?_
              refine gR 3 (rg Try.f137 3) ?_
              refine se (mkE [(0, S p0), (3, I (addI .i64 z0 1))] [] 48) ?_
              exact pL
            · refine se (mkE [(0, S p0), (3, I z0), (40, B (!(eqI x1 95)))] [] 48) ?_
              refine pN ?_
              refine pS ?_
              refine gC 40 (!(eqI x1 95)) ?_ ?_
              · refine gS 0 ?_
                refine gR 6 (rg Try.f137 6) ?_
                refine se (mkE [(2, B false)] [] 48) ?_
                refine pN ?_
                refine pS ?_
                refine gE ?_
                exact pL
              · refine gK ?_
                refine pB ?_
                refine pN ?_
                refine pS ?_
                refine gR 3 (rg Try.f137 3) ?_
                refine se (mkE [(0, S p0), (3, I (addI .i64 z0 1))] [] 48) ?_
                exact pL
        · refine se (mkE [(0, S p0), (3, I z0), (40, B true)] [] 48) ?_
          refine pN ?_
          refine pS ?_
          refine gT (.tmp 40) ?_
          refine gS 0 ?_
          refine gR 6 (rg Try.f137 6) ?_
          refine se (mkE [(2, B false)] [] 48) ?_
          refine pN ?_
          refine pS ?_
          refine gE ?_
          exact pL
    · refine sg 10 (mkE [(23, B (ltI 0 z0)), (22, B (ltI 0 z0)), (21, I z0), (20, B false), (19, B false), (18, .und), (17, .und), (16, B false), (16, B (leI 97 x1)), (15, B (leI 97 x1)), (14, U x1), (0, S p0), (3, I z0), (4, U x1)] [] 48) ?_
      refine sb 23 (ltI 0 z0) ?_ ?_
      · refine sg 13 (mkE [(26, B (leI 48 x1)), (25, B (leI 48 x1)), (24, U x1), (23, B true), (23, B (ltI 0 z0)), (22, B (ltI 0 z0)), (21, I z0), (20, B false), (19, B false), (18, .und), (17, .und), (16, B false), (16, B (leI 97 x1)), (15, B (leI 97 x1)), (14, U x1), (0, S p0), (3, I z0), (4, U x1)] [] 48) ?_
        refine sb 26 (leI 48 x1) ?_ ?_
        · refine sg 17 (mkE [(30, B (leI x1 57)), (29, B (leI x1 57)), (28, B (leI x1 57)), (27, U x1), (26, B true), (26, B (leI 48 x1)), (25, B (leI 48 x1)), (24, U x1), (23, B true), (23, B (ltI 0 z0)), (22, B (ltI 0 z0)), (21, I z0), (20, B false), (19, B false), (18, .und), (17, .und), (16, B false), (16, B (leI 97 x1)), (15, B (leI 97 x1)), (14, U x1), (0, S p0), (3, I z0), (4, U x1)] [] 48) ?_
          refine sb 30 (leI x1 57) ?_ ?_
          · refine se (mkE [(0, S p0), (3, I z0), (40, B false)] [] 48) ?_
            refine pN ?_
            refine pS ?_
            refine gF (.tmp 40) ?_
            refine gK ?_
            refine pB ?_
            refine pN ?_
            refine pS ?_
            refine gR 3 (rg Try.f137 3) ?_
            refine se (mkE [(0, S p0), (3, I (addI .i64 z0 1))] [] 48) ?_
            exact pL
          · refine sg 21 (mkE [(34, B (eqI x1 45)), (33, B (eqI x1 45)), (32, B (eqI x1 45)), (31, U x1), (30, B false), (30, B (leI x1 57)), (29, B (leI x1 57)), (28, B (leI x1 57)), (27, U x1), (26, B true), (26, B (leI 48 x1)), (25, B (leI 48 x1)), (24, U x1), (23, B true), (23, B (ltI 0 z0)), (22, B (ltI 0 z0)), (21, I z0), (20, B false), (19, B false), (18, .und), (17, .und), (16, B false), (16, B (leI 97 x1)), (15, B (leI 97 x1)), (14, U x1), (0, S p0), (3, I z0), (4, U x1)] [] 48) ?_
            refine sb 34 (eqI x1 45) ?_ ?_
            · refine se (mkE [(0, S p0), (3, I z0), (40, B false)] [] 48) ?_
              refine pN ?_
              refine pS ?_
              refine gF (.tmp 40) ?_
              refine gK ?_
              refine pB ?_
              refine pN ?_
              refine pS ?_
              refine gR 3 (rg Try.f137 3) ?_
              refine se (mkE [(0, S p0), (3, I (addI .i64 z0 1))] [] 48) ?_
              exact pL
            · refine se (mkE [(0, S p0), (3, I z0), (40, B (!(eqI x1 95)))] [] 48) ?_
              refine pN ?_
              refine pS ?_
              refine gC 40 (!(eqI x1 95)) ?_ ?_
              · refine gS 0 ?_
                refine gR 6 (rg Try.f137 6) ?_
                refine se (mkE [(2, B false)] [] 48) ?_
                refine pN ?_
                refine pS ?_
                refine gE ?_
                exact pL
              · refine gK ?_
                refine pB ?_
                refine pN ?_
                refine pS ?_
                refine gR 3 (rg Try.f137 3) ?_
                refine se (mkE [(0, S p0), (3, I (addI .i64 z0 1))] [] 48) ?_
                exact pL
        · refine sg 21 (mkE [(34, B (eqI x1 45)), (33, B (eqI x1 45)), (32, B (eqI x1 45)), (31, U x1), (30, B false), (29, B false), (28, .und), (27, .und), (26, B false), (26, B (leI 48 x1)), (25, B (leI 48 x1)), (24, U x1), (23, B true), (23, B (ltI 0 z0)), (22, B (ltI 0 z0)), (21, I z0), (20, B false), (19, B false), (18, .und), (17, .und), (16, B false), (16, B (leI 97 x1)), (15, B (leI 97 x1)), (14, U x1), (0, S p0), (3, I z0), (4, U x1)] [] 48) ?_
          refine sb 34 (eqI x1 45) ?_ ?_
          · refine se (mkE [(0, S p0), (3, I z0), (40, B false)] [] 48) ?_
            refine pN ?_
            refine pS ?_
            refine gF (.tmp 40) ?_
            refine gK ?_
            refine pB ?_
            refine pN ?_
            refine pS ?_
            refine gR 3 (rg Try.f137 3) ?_
            refine se (mkE [(0, S p0), (3, I (addI .i64 z0 1))] [] 48) ?_
            exact pL
          · refine se (mkE [(0, S p0), (3, I z0), (40, B (!(eqI x1 95)))] [] 48) ?_
            refine pN ?_
            refine pS ?_
            refine gC 40 (!(eqI x1 95)) ?_ ?_
            · refine gS 0 ?_
              refine gR 6 (rg Try.f137 6) ?_
              refine se (mkE [(2, B false)] [] 48) ?_
              refine pN ?_
              refine pS ?_
              refine gE ?_
              exact pL
            · refine gK ?_
              refine pB ?_
              refine pN ?_
              refine pS ?_
              refine gR 3 (rg Try.f137 3) ?_
              refine se (mkE [(0, S p0), (3, I (addI .i64 z0 1))] [] 48) ?_
              exact pL
      · refine se (mkE [(0, S p0), (3, I z0), (40, B true)] [] 48) ?_
        refine pN ?_
        refine pS ?_
        refine gT (.tmp 40) ?_
        refine gS 0 ?_
        refine gR 6 (rg Try.f137 6) ?_
        refine se (mkE [(2, B false)] [] 48) ?_
        refine pN ?_
        refine pS ?_
        refine gE ?_
        exact pL
  · refine gX 0 ?_
    exact pL
noncomputable def T137 (p0 : ByteArray) : Option Bool := ((iter (L137_2 p0) 0).bind fun y2 => (Sum.elim (fun y2a => (bif (!eqS p0 (ByteArray.mk #[])) then (some (leI (lenS p0) 40)) else (some false))) (fun y2b => (some false)) y2))
theorem B137 (C : Callee) (p0 : ByteArray) : runs Try.prog C (cfg.fn 137) (finFn Try.prog (cfg.fn 137).byval Try.f137) [] (execA Try.prog C (cfg.fn 137) (nr Try.f137 []) (frame0 [S p0] 48)) = (T137 p0).map B := by
  unfold T137
  refine gS 1 ?_
  refine gR 0 (rg Try.f137 0) ?_
  refine se (mkE [(0, S p0)] [] 48) ?_
  refine pN ?_
  refine pS ?_
  refine gS 7 ?_
  refine gS 2 ?_
  refine gR 1 (rg Try.f137 1) ?_
  refine se (mkE [(0, S p0), (3, I 0)] [] 48) ?_
  refine pN ?_
  refine pS ?_
  refine gB 0 ?_
  refine lo [(0, none), (3, none)] (L137_2 p0) (fun z0 : Int => (mkE [(0, S p0), (3, I z0)] [] 48)) (Sum.elim (fun (x : (Int × Bool)) => (.exit 0, (mkE [(0, S p0), (3, I x.1), (8, B x.2)] [] 48))) (fun (x : Unit) => (.ret, (mkE [(2, B false)] [] 48)))) 0 (fun z => L137_2_ok C p0 z) ?_
  intro y2
  refine ss y2 (Z := (Sum.elim (fun (x : (Int × Bool)) => (.exit 0, (mkE [(0, S p0), (3, I x.1), (8, B x.2)] [] 48))) (fun (x : Unit) => (.ret, (mkE [(2, B false)] [] 48))))) (fun y2a => ?_) (fun y2b => ?_)
  · refine pH ?_
    refine pN ?_
    refine pS ?_
    refine gS 0 ?_
    refine gR 7 (rg Try.f137 7) ?_
    refine sg 3 (mkE [(43, B (!eqS p0 (ByteArray.mk #[]))), (42, B (!eqS p0 (ByteArray.mk #[]))), (41, S p0), (0, S p0), (3, I y2a.1), (8, B y2a.2)] [] 48) ?_
    refine sb 43 (!eqS p0 (ByteArray.mk #[])) ?_ ?_
    · refine se (mkE [(2, B (leI (lenS p0) 40))] [] 48) ?_
      refine pN ?_
      refine pS ?_
      refine gE ?_
      exact pL
    · refine se (mkE [(2, B false)] [] 48) ?_
      refine pN ?_
      refine pS ?_
      refine gE ?_
      exact pL
  · exact pL
theorem F137 (m : Nat) (hm : 1 ≤ m) (p0 : ByteArray) : callA Try.prog cfg m 137 [S p0] = (T137 p0).map B := by
  obtain ⟨q, rfl⟩ : ∃ q, m = q + 1 := ⟨m - 1, by omega⟩
  exact (callA_body (fn := Try.f137) (c := body_ Try.f137) q _ (by kernel_rfl) (by kernel_rfl) (by kernel_rfl)).trans (B137 _ p0)

noncomputable def T147 (p0 : S38) : Option Bool := (bif (leI 0 p0.f0) then (bif (ltI p0.f0 p0.f1) then (some (leI p0.f1 345686400000)) else (some false)) else (some false))
theorem B147 (C : Callee) (p0 : S38) : runs Try.prog C (cfg.fn 147) (finFn Try.prog (cfg.fn 147).byval Try.f147) [] (execA Try.prog C (cfg.fn 147) (nr Try.f147 []) (frame0 [a38 p0] 18)) = (T147 p0).map B := by
  unfold T147
  refine gS 1 ?_
  refine gR 0 (rg Try.f147 0) ?_
  refine se (mkE [(1, .ba 8 0)] [(8, .box [I p0.f0, I p0.f1] false)] 18) ?_
  refine pN ?_
  refine pS ?_
  refine gS 0 ?_
  refine gR 1 (rg Try.f147 1) ?_
  refine sg 4 (mkE [(6, B (leI 0 p0.f0)), (5, B (leI 0 p0.f0)), (4, I p0.f0), (3, .ba 8 0), (1, .ba 8 0)] [(8, .box [I p0.f0, I p0.f1] false)] 18) ?_
  refine sb 6 (leI 0 p0.f0) ?_ ?_
  · refine sg 11 (mkE [(13, B (ltI p0.f0 p0.f1)), (12, B (ltI p0.f0 p0.f1)), (11, B (ltI p0.f0 p0.f1)), (10, I p0.f1), (9, .ba 8 1), (8, I p0.f0), (7, .ba 8 0), (6, B true), (6, B (leI 0 p0.f0)), (5, B (leI 0 p0.f0)), (4, I p0.f0), (3, .ba 8 0), (1, .ba 8 0)] [(8, .box [I p0.f0, I p0.f1] false)] 18) ?_
    refine sb 13 (ltI p0.f0 p0.f1) ?_ ?_
    · refine se (mkE [(2, B (leI p0.f1 345686400000))] [] 18) ?_
      refine pN ?_
      refine pS ?_
      refine gE ?_
      exact pL
    · refine se (mkE [(2, B false)] [] 18) ?_
      refine pN ?_
      refine pS ?_
      refine gE ?_
      exact pL
  · refine se (mkE [(2, B false)] [] 18) ?_
    refine pN ?_
    refine pS ?_
    refine gE ?_
    exact pL
theorem F147 (m : Nat) (hm : 1 ≤ m) (p0 : S38) : callA Try.prog cfg m 147 [a38 p0] = (T147 p0).map B := by
  obtain ⟨q, rfl⟩ : ∃ q, m = q + 1 := ⟨m - 1, by omega⟩
  exact (callA_body (fn := Try.f147) (c := body_ Try.f147) q _ (by kernel_rfl) (by kernel_rfl) (by kernel_rfl)).trans (B147 _ p0)

noncomputable def T126 (p0 : Int) (p1 : Int) (p2 : Int) : Option Bool := (bif (ltI p0 p1) then (some true) else (some (ltI p2 p0)))
theorem B126 (C : Callee) (p0 : Int) (p1 : Int) (p2 : Int) : runs Try.prog C (cfg.fn 126) (finFn Try.prog (cfg.fn 126).byval Try.f126) [] (execA Try.prog C (cfg.fn 126) (nr Try.f126 []) (frame0 [I p0, I p1, I p2] 15)) = (T126 p0 p1 p2).map B := by
  unfold T126
  refine gS 1 ?_
  refine gR 0 (rg Try.f126 0) ?_
  refine se (mkE [(0, I p0), (1, I p1), (2, I p2)] [] 15) ?_
  refine pN ?_
  refine pS ?_
  refine gS 0 ?_
  refine gR 1 (rg Try.f126 1) ?_
  refine sg 4 (mkE [(10, B (ltI p0 p1)), (9, B (ltI p0 p1)), (8, I p1), (7, I p0), (0, I p0), (1, I p1), (2, I p2)] [] 15) ?_
  refine sb 10 (ltI p0 p1) ?_ ?_
  · refine se (mkE [(6, B true)] [] 15) ?_
    refine pN ?_
    refine pS ?_
    refine gE ?_
    exact pL
  · refine se (mkE [(6, B (ltI p2 p0))] [] 15) ?_
    refine pN ?_
    refine pS ?_
    refine gE ?_
    exact pL
theorem F126 (m : Nat) (hm : 1 ≤ m) (p0 : Int) (p1 : Int) (p2 : Int) : callA Try.prog cfg m 126 [I p0, I p1, I p2] = (T126 p0 p1 p2).map B := by
  obtain ⟨q, rfl⟩ : ∃ q, m = q + 1 := ⟨m - 1, by omega⟩
  exact (callA_body (fn := Try.f126) (c := body_ Try.f126) q _ (by kernel_rfl) (by kernel_rfl) (by kernel_rfl)).trans (B126 _ p0 p1 p2)

noncomputable def L225_2 (p0 : (List ByteArray)) (z0 : Int) : Option (Int ⊕ ((Int × Bool) ⊕ Int)) := (bif (ltI z0 (lenL p0)) then ((listAt p0 z0).bind fun x1 => ((T137 x1).bind fun x2 => (bif (!x2) then (some (.inr (.inr 5))) else (bif (ltI 0 z0) then ((listAt p0 (subI .i64 z0 1)).bind fun x3 => (bif (ltS x1 x3 || eqS x1 x3) then (some (.inr (.inr 7))) else (some (.inl (addI .i64 z0 1))))) else (some (.inl (addI .i64 z0 1))))))) else (some (.inr (.inl (z0, (ltI z0 (lenL p0)))))))
theorem L225_2_ok (C : Callee) (h137 : ∀ (p0 : ByteArray), C 137 [S p0] = (T137 p0).map B) (p0 : (List ByteArray)) (z0 : Int) : runs Try.prog C (cfg.fn 225) (finLoop ((cfg.fn 225).keep 2)) [] (execA Try.prog C (cfg.fn 225) (nr Try.f225 [false, false, true, false, true]) ((fun z0 : Int => (mkE [(0, LL S p0), (5, LL S p0), (6, I (lenL p0)), (7, I z0)] [] 27)) z0)) = (L225_2 p0 z0).map (Sum.elim (fun z => .inl ((fun z0 : Int => (mkE [(0, LL S p0), (5, LL S p0), (6, I (lenL p0)), (7, I z0)] [] 27)) z)) (fun x => .inr ((Sum.elim (fun (x : (Int × Bool)) => (.exit 0, (mkE [(0, LL S p0), (5, LL S p0), (6, I (lenL p0)), (7, I x.1), (8, B x.2)] [] 27))) (fun (x : Int) => (.ret, (mkE [(2, I x)] [] 27)))) x))) := by
  unfold L225_2
  refine gS 0 ?_
  refine gR 2 (rg Try.f225 2) ?_
  refine se (mkE [(0, LL S p0), (5, LL S p0), (6, I (lenL p0)), (7, I z0), (8, B (ltI z0 (lenL p0)))] [] 27) ?_
  refine pN ?_
  refine pS ?_
  refine gS 3 ?_
  refine gC 8 (ltI z0 (lenL p0)) ?_ ?_
  · refine gK ?_
    refine pN ?_
    refine pS ?_
    refine gS 8 ?_
    refine gB 1 ?_
    refine gS 4 ?_
    refine gR 3 (rg Try.f225 3) ?_
    refine sg 1 (mkE [(9, I z0), (0, LL S p0), (5, LL S p0), (6, I (lenL p0)), (7, I z0), (8, B (ltI z0 (lenL p0)))] [] 27) ?_
    refine vo 10 (addrE 35 9 1 S .i64 p0 z0) (fun x1 => ?_)
    refine se (mkE [(0, LL S p0), (3, I z0), (4, S x1), (5, LL S p0), (6, I (lenL p0)), (7, I z0)] [] 27) ?_
    refine pN ?_
    refine pS ?_
    refine gS 6 ?_
    refine gS 0 ?_
    refine gR 4 (rg Try.f225 4) ?_
    refine sg 1 (mkE [(12, S x1), (0, LL S p0), (3, I z0), (4, S x1), (5, LL S p0), (6, I (lenL p0)), (7, I z0)] [] 27) ?_
    refine co 13 [] (h137 x1) (fun x2 => ?_)
    refine se (mkE [(0, LL S p0), (3, I z0), (4, S x1), (5, LL S p0), (6, I (lenL p0)), (7, I z0), (14, B (!x2))] [] 27) ?_
    refine pN ?_
    refine pS ?_
    refine gC 14 (!x2) ?_ ?_
    · refine gS 0 ?_
      refine gR 5 (rg Try.f225 5) ?_
      refine se (mkE [(2, I 5)] [] 27) ?_
      refine pN ?_
      refine pS ?_
      refine gE ?_
      exact pL
    · refine gK ?_
      refine pN ?_
      refine pS ?_
      refine gS 0 ?_
      refine gR 6 (rg Try.f225 6) ?_
      refine sg 3 (mkE [(17, B (ltI 0 z0)), (16, B (ltI 0 z0)), (15, I z0), (0, LL S p0), (3, I z0), (4, S x1), (5, LL S p0), (6, I (lenL p0)), (7, I z0), (14, B (!x2))] [] 27) ?_
      refine sb 17 (ltI 0 z0) ?_ ?_
      · refine sg 7 (mkE [(21, I (subI .i64 z0 1)), (20, I z0), (19, LL S p0), (18, S x1), (17, B true), (17, B (ltI 0 z0)), (16, B (ltI 0 z0)), (15, I z0), (0, LL S p0), (3, I z0), (4, S x1), (5, LL S p0), (6, I (lenL p0)), (7, I z0), (14, B (!x2))] [] 27) ?_
        refine vo 22 (addrE 35 9 1 S .i64 p0 (subI .i64 z0 1)) (fun x3 => ?_)
        refine se (mkE [(0, LL S p0), (5, LL S p0), (6, I (lenL p0)), (7, I z0), (25, B (ltS x1 x3 || eqS x1 x3))] [] 27) ?_
        refine pN ?_
        refine pS ?_
        refine gC 25 (ltS x1 x3 || eqS x1 x3) ?_ ?_
        · refine gS 0 ?_
          refine gR 7 (rg Try.f225 7) ?_
          refine se (mkE [(2, I 7)] [] 27) ?_
          refine pN ?_
          refine pS ?_
          refine gE ?_
          exact pL
        · refine gK ?_
          refine pB ?_
          refine pN ?_
          refine pS ?_
          refine gR 8 (rg Try.f225 8) ?_
          refine se (mkE [(0, LL S p0), (5, LL S p0), (6, I (lenL p0)), (7, I (addI .i64 z0 1))] [] 27) ?_
          exact pL
      · refine se (mkE [(0, LL S p0), (5, LL S p0), (6, I (lenL p0)), (7, I z0), (25, B false)] [] 27) ?_
        refine pN ?_
        refine pS ?_
        refine gF (.tmp 25) ?_
        refine gK ?_
        refine pB ?_
        refine pN ?_
        refine pS ?_
        refine gR 8 (rg Try.f225 8) ?_
        refine se (mkE [(0, LL S p0), (5, LL S p0), (6, I (lenL p0)), (7, I (addI .i64 z0 1))] [] 27) ?_
        exact pL
  · refine gX 0 ?_
    exact pL
noncomputable def T225 (p0 : (List ByteArray)) : Option Int := ((iter (L225_2 p0) 0).bind fun y4 => (Sum.elim (fun y4a => (some 0)) (fun y4b => (some y4b)) y4))
theorem B225 (C : Callee) (h137 : ∀ (p0 : ByteArray), C 137 [S p0] = (T137 p0).map B) (p0 : (List ByteArray)) : runs Try.prog C (cfg.fn 225) (finFn Try.prog (cfg.fn 225).byval Try.f225) [] (execA Try.prog C (cfg.fn 225) (nr Try.f225 []) (frame0 [LL S p0] 27)) = (T225 p0).map I := by
  unfold T225
  refine gS 1 ?_
  refine gR 0 (rg Try.f225 0) ?_
  refine se (mkE [(0, LL S p0)] [] 27) ?_
  refine pN ?_
  refine pS ?_
  refine gS 9 ?_
  refine gS 2 ?_
  refine gR 1 (rg Try.f225 1) ?_
  refine sg 1 (mkE [(5, LL S p0), (0, LL S p0)] [] 27) ?_
  refine eo 6 (I (lenL p0)) (lenE 35 S p0) ?_
  refine se (mkE [(0, LL S p0), (5, LL S p0), (6, I (lenL p0)), (7, I 0)] [] 27) ?_
  refine pN ?_
  refine pS ?_
  refine gB 0 ?_
  refine lo [(0, none), (5, none), (6, none), (7, none)] (L225_2 p0) (fun z0 : Int => (mkE [(0, LL S p0), (5, LL S p0), (6, I (lenL p0)), (7, I z0)] [] 27)) (Sum.elim (fun (x : (Int × Bool)) => (.exit 0, (mkE [(0, LL S p0), (5, LL S p0), (6, I (lenL p0)), (7, I x.1), (8, B x.2)] [] 27))) (fun (x : Int) => (.ret, (mkE [(2, I x)] [] 27)))) 0 (fun z => L225_2_ok C h137 p0 z) ?_
  intro y4
  refine ss y4 (Z := (Sum.elim (fun (x : (Int × Bool)) => (.exit 0, (mkE [(0, LL S p0), (5, LL S p0), (6, I (lenL p0)), (7, I x.1), (8, B x.2)] [] 27))) (fun (x : Int) => (.ret, (mkE [(2, I x)] [] 27))))) (fun y4a => ?_) (fun y4b => ?_)
  · refine pH ?_
    refine pN ?_
    refine pS ?_
    refine gS 0 ?_
    refine gR 9 (rg Try.f225 9) ?_
    refine se (mkE [(2, I 0)] [] 27) ?_
    refine pN ?_
    refine pS ?_
    refine gE ?_
    exact pL
  · exact pL
theorem F225 (m : Nat) (hm : 2 ≤ m) (p0 : (List ByteArray)) : callA Try.prog cfg m 225 [LL S p0] = (T225 p0).map I := by
  obtain ⟨q, rfl⟩ : ∃ q, m = q + 1 := ⟨m - 1, by omega⟩
  exact (callA_body (fn := Try.f225) (c := body_ Try.f225) q _ (by kernel_rfl) (by kernel_rfl) (by kernel_rfl)).trans (B225 _ (fun p0 => F137 q (by omega) p0) p0)

noncomputable def T148 (p0 : (List ByteArray)) : Option Int := (bif (ltI 20 (lenL p0)) then (some 2) else ((T225 p0).bind fun x1 => (some x1)))
theorem B148 (C : Callee) (h225 : ∀ (p0 : (List ByteArray)), C 225 [LL S p0] = (T225 p0).map I) (p0 : (List ByteArray)) : runs Try.prog C (cfg.fn 148) (finFn Try.prog (cfg.fn 148).byval Try.f148) [] (execA Try.prog C (cfg.fn 148) (nr Try.f148 []) (frame0 [LL S p0] 8)) = (T148 p0).map I := by
  unfold T148
  refine gS 1 ?_
  refine gR 0 (rg Try.f148 0) ?_
  refine se (mkE [(0, LL S p0)] [] 8) ?_
  refine pN ?_
  refine pS ?_
  refine gS 3 ?_
  refine gS 0 ?_
  refine gR 1 (rg Try.f148 1) ?_
  refine sg 1 (mkE [(3, LL S p0), (0, LL S p0)] [] 8) ?_
  refine eo 4 (I (lenL p0)) (lenE 35 S p0) ?_
  refine se (mkE [(0, LL S p0), (5, B (ltI 20 (lenL p0)))] [] 8) ?_
  refine pN ?_
  refine pS ?_
  refine gC 5 (ltI 20 (lenL p0)) ?_ ?_
  · refine gS 0 ?_
    refine gR 2 (rg Try.f148 2) ?_
    refine se (mkE [(2, I 2)] [] 8) ?_
    refine pN ?_
    refine pS ?_
    refine gE ?_
    exact pL
  · refine gK ?_
    refine pN ?_
    refine pS ?_
    refine gS 0 ?_
    refine gR 3 (rg Try.f148 3) ?_
    refine sg 1 (mkE [(6, LL S p0), (0, LL S p0), (5, B (ltI 20 (lenL p0)))] [] 8) ?_
    refine co 7 [] (h225 p0) (fun x1 => ?_)
    refine se (mkE [(2, I x1)] [] 8) ?_
    refine pN ?_
    refine pS ?_
    refine gE ?_
    exact pL
theorem F148 (m : Nat) (hm : 3 ≤ m) (p0 : (List ByteArray)) : callA Try.prog cfg m 148 [LL S p0] = (T148 p0).map I := by
  obtain ⟨q, rfl⟩ : ∃ q, m = q + 1 := ⟨m - 1, by omega⟩
  exact (callA_body (fn := Try.f148) (c := body_ Try.f148) q _ (by kernel_rfl) (by kernel_rfl) (by kernel_rfl)).trans (B148 _ (fun p0 => F225 q (by omega) p0) p0)

noncomputable def L58_4 (p0 : (List S90)) (z0 : Int) : Option (Int ⊕ ((Int × Bool) ⊕ Int)) := (bif (ltI z0 (lenL p0)) then ((listAt p0 z0).bind fun x1 => ((((T137 x1.f0).bind fun x2 => (bif (!x2) then (some (.inr 5)) else (bif (ltI 0 z0) then ((listAt p0 (subI .i64 z0 1)).bind fun x3 => (bif (ltS x1.f0 x3.f0 || eqS x1.f0 x3.f0) then (some (.inr 7)) else ((T147 x1.f1).bind fun x4 => (bif (!x4) then (some (.inr 1)) else ((T126 x1.f2 0 1000000).bind fun x5 => (bif x5 then (some (.inr 1)) else (some (.inl ())))))))) else ((T147 x1.f1).bind fun x6 => (bif (!x6) then (some (.inr 1)) else ((T126 x1.f2 0 1000000).bind fun x7 => (bif x7 then (some (.inr 1)) else (some (.inl ()))))))))) : Option (Unit ⊕ Int)).bind fun y8 => (Sum.elim (fun y8a => ((T148 x1.f3).bind fun x9 => (bif (neI x9 0) then (some (.inr (.inr x9))) else (some (.inl (addI .i64 z0 1)))))) (fun y8b => (some (.inr (.inr y8b)))) y8))) else (some (.inr (.inl (z0, (ltI z0 (lenL p0)))))))
theorem L58_4_ok (C : Callee) (h126 : ∀ (p0 : Int) (p1 : Int) (p2 : Int), C 126 [I p0, I p1, I p2] = (T126 p0 p1 p2).map B) (h137 : ∀ (p0 : ByteArray), C 137 [S p0] = (T137 p0).map B) (h147 : ∀ (p0 : S38), C 147 [a38 p0] = (T147 p0).map B) (h148 : ∀ (p0 : (List ByteArray)), C 148 [LL S p0] = (T148 p0).map I) (p0 : (List S90)) (z0 : Int) : runs Try.prog C (cfg.fn 58) (finLoop ((cfg.fn 58).keep 4)) [] (execA Try.prog C (cfg.fn 58) (nr Try.f58 [false, false, true, false, true, true]) ((fun z0 : Int => (mkE [(0, LL a90 p0), (9, LL a90 p0), (10, I (lenL p0)), (11, I z0)] [] 52)) z0)) = (L58_4 p0 z0).map (Sum.elim (fun z => .inl ((fun z0 : Int => (mkE [(0, LL a90 p0), (9, LL a90 p0), (10, I (lenL p0)), (11, I z0)] [] 52)) z)) (fun x => .inr ((Sum.elim (fun (x : (Int × Bool)) => (.exit 0, (mkE [(0, LL a90 p0), (9, LL a90 p0), (10, I (lenL p0)), (11, I x.1), (12, B x.2)] [] 52))) (fun (x : Int) => (.ret, (mkE [(2, I x)] [] 52)))) x))) := by
  unfold L58_4
  refine gS 0 ?_
  refine gR 4 (rg Try.f58 4) ?_
  refine se (mkE [(0, LL a90 p0), (9, LL a90 p0), (10, I (lenL p0)), (11, I z0), (12, B (ltI z0 (lenL p0)))] [] 52) ?_
  refine pN ?_
  refine pS ?_
  refine gS 5 ?_
  refine gC 12 (ltI z0 (lenL p0)) ?_ ?_
  · refine gK ?_
    refine pN ?_
    refine pS ?_
    refine gS 15 ?_
    refine gB 1 ?_
    refine gS 6 ?_
    refine gR 5 (rg Try.f58 5) ?_
    refine sg 1 (mkE [(13, I z0), (0, LL a90 p0), (9, LL a90 p0), (10, I (lenL p0)), (11, I z0), (12, B (ltI z0 (lenL p0)))] [] 52) ?_
    refine vo 14 (addrE 28 91 5 a90 .i64 p0 z0) (fun x1 => ?_)
    refine se (mkE [(0, LL a90 p0), (3, I z0), (4, .ba 32 0), (9, LL a90 p0), (10, I (lenL p0)), (11, I z0)] [(32, .box [S x1.f0, I x1.f1.f0, I x1.f1.f1, I x1.f2, LL S x1.f3] false)] 52) ?_
    refine pN ?_
    refine pS ?_
    refine jS 12 (((T137 x1.f0).bind fun x2 => (bif (!x2) then (some (.inr 5)) else (bif (ltI 0 z0) then ((listAt p0 (subI .i64 z0 1)).bind fun x3 => (bif (ltS x1.f0 x3.f0 || eqS x1.f0 x3.f0) then (some (.inr 7)) else ((T147 x1.f1).bind fun x4 => (bif (!x4) then (some (.inr 1)) else ((T126 x1.f2 0 1000000).bind fun x5 => (bif x5 then (some (.inr 1)) else (some (.inl ())))))))) else ((T147 x1.f1).bind fun x6 => (bif (!x6) then (some (.inr 1)) else ((T126 x1.f2 0 1000000).bind fun x7 => (bif x7 then (some (.inr 1)) else (some (.inl ()))))))))) : Option (Unit ⊕ Int)) (Sum.elim (fun (x : Unit) => (.normal, (mkE [(0, LL a90 p0), (4, .ba 32 0), (9, LL a90 p0), (10, I (lenL p0)), (11, I z0)] [(32, .box [S x1.f0, I x1.f1.f0, I x1.f1.f1, I x1.f2, LL S x1.f3] false)] 52))) (fun (x : Int) => (.ret, (mkE [(2, I x)] [] 52)))) ?_ (fun y8 => ?_)
    · refine gB 2 ?_
      refine gS 0 ?_
      refine gR 6 (rg Try.f58 6) ?_
      refine sg 2 (mkE [(18, S x1.f0), (17, .ba 32 0), (0, LL a90 p0), (3, I z0), (4, .ba 32 0), (9, LL a90 p0), (10, I (lenL p0)), (11, I z0)] [(32, .box [S x1.f0, I x1.f1.f0, I x1.f1.f1, I x1.f2, LL S x1.f3] false)] 52) ?_
      refine co 19 [] (h137 x1.f0) (fun x2 => ?_)
      refine se (mkE [(0, LL a90 p0), (3, I z0), (4, .ba 32 0), (9, LL a90 p0), (10, I (lenL p0)), (11, I z0), (16, B (!x2))] [(32, .box [S x1.f0, I x1.f1.f0, I x1.f1.f1, I x1.f2, LL S x1.f3] false)] 52) ?_
      refine pN ?_
      refine pS ?_
      refine gC 16 (!x2) ?_ ?_
      · refine gS 0 ?_
        refine gR 7 (rg Try.f58 7) ?_
        refine se (mkE [(2, I 5)] [] 52) ?_
        refine pN ?_
        refine pS ?_
        refine gE ?_
        exact pL
      · refine gS 0 ?_
        refine gD 8 14 (rg Try.f58 8) [0, 1, 2, 3, 4, 5, 6, 7, 8, 9, 10, 11, 12, 13] ?_
        refine dg 3 [(some 22, { val := I z0 }), (some 23, { val := B (ltI 0 z0) }), (some 24, { val := B (ltI 0 z0) })] ?_
        refine db 2 24 (ltI 0 z0) ?_ ?_
        · refine dg 8 [(some 22, { val := I z0 }), (some 23, { val := B (ltI 0 z0) }), (some 24, { val := B true }), (some 25, { val := .ba 32 0 }), (some 26, { val := S x1.f0 }), (some 27, { val := LL a90 p0 }), (some 28, { val := I z0 }), (some 29, { val := I (subI .i64 z0 1) })] ?_
          refine dv 30 (mkE [(29, I (subI .i64 z0 1)), (28, I z0), (27, LL a90 p0), (24, B true), (23, B (ltI 0 z0)), (22, I z0), (0, LL a90 p0), (3, I z0), (4, .ba 32 0), (9, LL a90 p0), (10, I (lenL p0)), (11, I z0), (16, B (!x2))] [(32, .box [S x1.f0, I x1.f1.f0, I x1.f1.f1, I x1.f2, LL S x1.f3] false)] 52) (addrE 28 91 5 a90 .i64 p0 (subI .i64 z0 1)) (fun x3 => ?_)
          refine dg 14 [(some 22, { val := I z0 }), (some 23, { val := B (ltI 0 z0) }), (some 24, { val := B true }), (some 25, { val := .ba 32 0 }), (some 26, { val := S x1.f0 }), (some 27, { val := LL a90 p0 }), (some 28, { val := I z0 }), (some 29, { val := I (subI .i64 z0 1) }), (some 30, { val := .ia [S x3.f0, I x3.f1.f0, I x3.f1.f1, I x3.f2, LL S x3.f3] 0 }), (some 31, { val := .ia [S x3.f0, I x3.f1.f0, I x3.f1.f1, I x3.f2, LL S x3.f3] 0 }), (some 32, { val := S x3.f0 }), (some 33, { val := B (ltS x1.f0 x3.f0 || eqS x1.f0 x3.f0) }), (some 34, { val := B (ltS x1.f0 x3.f0 || eqS x1.f0 x3.f0) }), (some 21, { val := B (ltS x1.f0 x3.f0 || eqS x1.f0 x3.f0) })] ?_
          refine de (mkE [(21, B (ltS x1.f0 x3.f0 || eqS x1.f0 x3.f0)), (34, B (ltS x1.f0 x3.f0 || eqS x1.f0 x3.f0)), (33, B (ltS x1.f0 x3.f0 || eqS x1.f0 x3.f0)), (32, S x3.f0), (31, .ia [S x3.f0, I x3.f1.f0, I x3.f1.f1, I x3.f2, LL S x3.f3] 0), (30, .ia [S x3.f0, I x3.f1.f0, I x3.f1.f1, I x3.f2, LL S x3.f3] 0), (29, I (subI .i64 z0 1)), (28, I z0), (27, LL a90 p0), (26, S x1.f0), (25, .ba 32 0), (24, B true), (23, B (ltI 0 z0)), (22, I z0), (0, LL a90 p0), (3, I z0), (4, .ba 32 0), (9, LL a90 p0), (10, I (lenL p0)), (11, I z0), (16, B (!x2))] [(32, .box [S x1.f0, I x1.f1.f0, I x1.f1.f1, I x1.f2, LL S x1.f3] false)] 52) ?_
          refine se (mkE [(0, LL a90 p0), (4, .ba 32 0), (9, LL a90 p0), (10, I (lenL p0)), (11, I z0), (21, B (ltS x1.f0 x3.f0 || eqS x1.f0 x3.f0))] [(32, .box [S x1.f0, I x1.f1.f0, I x1.f1.f1, I x1.f2, LL S x1.f3] false)] 52) ?_
          refine pN ?_
          refine pS ?_
          refine gC 21 (ltS x1.f0 x3.f0 || eqS x1.f0 x3.f0) ?_ ?_
          · refine gS 0 ?_
            refine gR 9 (rg Try.f58 9) ?_
            refine se (mkE [(2, I 7)] [] 52) ?_
            refine pN ?_
            refine pS ?_
            refine gE ?_
            exact pL
          · refine gS 0 ?_
            refine gR 10 (rg Try.f58 10) ?_
            refine sg 2 (mkE [(37, a38 x1.f1), (36, .ba 32 1), (0, LL a90 p0), (4, .ba 32 0), (9, LL a90 p0), (10, I (lenL p0)), (11, I z0), (21, B (ltS x1.f0 x3.f0 || eqS x1.f0 x3.f0))] [(32, .box [S x1.f0, I x1.f1.f0, I x1.f1.f1, I x1.f2, LL S x1.f3] false)] 52) ?_
            refine co 38 [] (h147 x1.f1) (fun x4 => ?_)
            refine sg 5 (mkE [(40, B (!x4)), (39, B (!x4)), (38, B x4), (37, a38 x1.f1), (36, .ba 32 1), (0, LL a90 p0), (4, .ba 32 0), (9, LL a90 p0), (10, I (lenL p0)), (11, I z0), (21, B (ltS x1.f0 x3.f0 || eqS x1.f0 x3.f0))] [(32, .box [S x1.f0, I x1.f1.f0, I x1.f1.f1, I x1.f2, LL S x1.f3] false)] 52) ?_
            refine sb 40 (!x4) ?_ ?_
            · refine se (mkE [(0, LL a90 p0), (4, .ba 32 0), (9, LL a90 p0), (10, I (lenL p0)), (11, I z0), (35, B true)] [(32, .box [S x1.f0, I x1.f1.f0, I x1.f1.f1, I x1.f2, LL S x1.f3] false)] 52) ?_
              refine pN ?_
              refine pS ?_
              refine gT (.tmp 35) ?_
              refine gS 0 ?_
              refine gR 11 (rg Try.f58 11) ?_
              refine se (mkE [(2, I 1)] [] 52) ?_
              refine pN ?_
              refine pS ?_
              refine gE ?_
              exact pL
            · refine sg 7 (mkE [(42, I x1.f2), (41, .ba 32 3), (40, B false), (40, B (!x4)), (39, B (!x4)), (38, B x4), (37, a38 x1.f1), (36, .ba 32 1), (0, LL a90 p0), (4, .ba 32 0), (9, LL a90 p0), (10, I (lenL p0)), (11, I z0), (21, B (ltS x1.f0 x3.f0 || eqS x1.f0 x3.f0))] [(32, .box [S x1.f0, I x1.f1.f0, I x1.f1.f1, I x1.f2, LL S x1.f3] false)] 52) ?_
              refine co 43 [] (h126 x1.f2 0 1000000) (fun x5 => ?_)
              refine se (mkE [(0, LL a90 p0), (4, .ba 32 0), (9, LL a90 p0), (10, I (lenL p0)), (11, I z0), (35, B x5)] [(32, .box [S x1.f0, I x1.f1.f0, I x1.f1.f1, I x1.f2, LL S x1.f3] false)] 52) ?_
              refine pN ?_
              refine pS ?_
              refine gC 35 x5 ?_ ?_
              · refine gS 0 ?_
                refine gR 11 (rg Try.f58 11) ?_
                refine se (mkE [(2, I 1)] [] 52) ?_
                refine pN ?_
                refine pS ?_
                refine gE ?_
                exact pL
              · refine gK ?_
                refine pB ?_
                refine pG (mkE [(0, LL a90 p0), (4, .ba 32 0), (9, LL a90 p0), (10, I (lenL p0)), (11, I z0)] [(32, .box [S x1.f0, I x1.f1.f0, I x1.f1.f1, I x1.f2, LL S x1.f3] false)] 52) ?_
                exact pL
        · refine dg 14 [(some 22, { val := I z0 }), (some 23, { val := B (ltI 0 z0) }), (some 24, { val := B false }), (some 25, { val := .und }), (some 26, { val := .und }), (some 27, { val := .und }), (some 28, { val := .und }), (some 29, { val := .und }), (some 30, { val := .und }), (some 31, { val := .und }), (some 32, { val := .und }), (some 33, { val := .und }), (some 34, { val := B false }), (some 21, { val := B false })] ?_
          refine de (mkE [(21, B false), (34, B false), (33, .und), (32, .und), (31, .und), (30, .und), (29, .und), (28, .und), (27, .und), (26, .und), (25, .und), (24, B false), (23, B (ltI 0 z0)), (22, I z0), (0, LL a90 p0), (3, I z0), (4, .ba 32 0), (9, LL a90 p0), (10, I (lenL p0)), (11, I z0), (16, B (!x2))] [(32, .box [S x1.f0, I x1.f1.f0, I x1.f1.f1, I x1.f2, LL S x1.f3] false)] 52) ?_
          refine se (mkE [(0, LL a90 p0), (4, .ba 32 0), (9, LL a90 p0), (10, I (lenL p0)), (11, I z0), (21, B false)] [(32, .box [S x1.f0, I x1.f1.f0, I x1.f1.f1, I x1.f2, LL S x1.f3] false)] 52) ?_
          refine pN ?_
          refine pS ?_
          refine gF (.tmp 21) ?_
          refine gS 0 ?_
          refine gR 10 (rg Try.f58 10) ?_
          refine sg 2 (mkE [(37, a38 x1.f1), (36, .ba 32 1), (0, LL a90 p0), (4, .ba 32 0), (9, LL a90 p0), (10, I (lenL p0)), (11, I z0), (21, B false)] [(32, .box [S x1.f0, I x1.f1.f0, I x1.f1.f1, I x1.f2, LL S x1.f3] false)] 52) ?_
          refine co 38 [] (h147 x1.f1) (fun x6 => ?_)
          refine sg 5 (mkE [(40, B (!x6)), (39, B (!x6)), (38, B x6), (37, a38 x1.f1), (36, .ba 32 1), (0, LL a90 p0), (4, .ba 32 0), (9, LL a90 p0), (10, I (lenL p0)), (11, I z0), (21, B false)] [(32, .box [S x1.f0, I x1.f1.f0, I x1.f1.f1, I x1.f2, LL S x1.f3] false)] 52) ?_
          refine sb 40 (!x6) ?_ ?_
          · refine se (mkE [(0, LL a90 p0), (4, .ba 32 0), (9, LL a90 p0), (10, I (lenL p0)), (11, I z0), (35, B true)] [(32, .box [S x1.f0, I x1.f1.f0, I x1.f1.f1, I x1.f2, LL S x1.f3] false)] 52) ?_
            refine pN ?_
            refine pS ?_
            refine gT (.tmp 35) ?_
            refine gS 0 ?_
            refine gR 11 (rg Try.f58 11) ?_
            refine se (mkE [(2, I 1)] [] 52) ?_
            refine pN ?_
            refine pS ?_
            refine gE ?_
            exact pL
          · refine sg 7 (mkE [(42, I x1.f2), (41, .ba 32 3), (40, B false), (40, B (!x6)), (39, B (!x6)), (38, B x6), (37, a38 x1.f1), (36, .ba 32 1), (0, LL a90 p0), (4, .ba 32 0), (9, LL a90 p0), (10, I (lenL p0)), (11, I z0), (21, B false)] [(32, .box [S x1.f0, I x1.f1.f0, I x1.f1.f1, I x1.f2, LL S x1.f3] false)] 52) ?_
            refine co 43 [] (h126 x1.f2 0 1000000) (fun x7 => ?_)
            refine se (mkE [(0, LL a90 p0), (4, .ba 32 0), (9, LL a90 p0), (10, I (lenL p0)), (11, I z0), (35, B x7)] [(32, .box [S x1.f0, I x1.f1.f0, I x1.f1.f1, I x1.f2, LL S x1.f3] false)] 52) ?_
            refine pN ?_
            refine pS ?_
            refine gC 35 x7 ?_ ?_
            · refine gS 0 ?_
              refine gR 11 (rg Try.f58 11) ?_
              refine se (mkE [(2, I 1)] [] 52) ?_
              refine pN ?_
              refine pS ?_
              refine gE ?_
              exact pL
            · refine gK ?_
              refine pB ?_
              refine pG (mkE [(0, LL a90 p0), (4, .ba 32 0), (9, LL a90 p0), (10, I (lenL p0)), (11, I z0)] [(32, .box [S x1.f0, I x1.f1.f0, I x1.f1.f1, I x1.f2, LL S x1.f3] false)] 52) ?_
              exact pL
    refine ss y8 (Z := (Sum.elim (fun (x : Unit) => (.normal, (mkE [(0, LL a90 p0), (4, .ba 32 0), (9, LL a90 p0), (10, I (lenL p0)), (11, I z0)] [(32, .box [S x1.f0, I x1.f1.f0, I x1.f1.f1, I x1.f2, LL S x1.f3] false)] 52))) (fun (x : Int) => (.ret, (mkE [(2, I x)] [] 52))))) (fun y8a => ?_) (fun y8b => ?_)
    · refine pS ?_
      refine gS 13 ?_
      refine gR 12 (rg Try.f58 12) ?_
      refine sg 2 (mkE [(46, LL S x1.f3), (45, .ba 32 4), (0, LL a90 p0), (4, .ba 32 0), (9, LL a90 p0), (10, I (lenL p0)), (11, I z0)] [(32, .box [S x1.f0, I x1.f1.f0, I x1.f1.f1, I x1.f2, LL S x1.f3] false)] 52) ?_
      refine co 47 [] (h148 x1.f3) (fun x9 => ?_)
      refine se (mkE [(0, LL a90 p0), (5, I x9), (9, LL a90 p0), (10, I (lenL p0)), (11, I z0)] [] 52) ?_
      refine pN ?_
      refine pS ?_
      refine gS 0 ?_
      refine gR 13 (rg Try.f58 13) ?_
      refine se (mkE [(0, LL a90 p0), (5, I x9), (9, LL a90 p0), (10, I (lenL p0)), (11, I z0), (49, B (neI x9 0))] [] 52) ?_
      refine pN ?_
      refine pS ?_
      refine gC 49 (neI x9 0) ?_ ?_
      · refine gS 0 ?_
        refine gR 14 (rg Try.f58 14) ?_
        refine se (mkE [(2, I x9)] [] 52) ?_
        refine pN ?_
        refine pS ?_
        refine gE ?_
        exact pL
      · refine gK ?_
        refine pB ?_
        refine pN ?_
        refine pS ?_
        refine gR 15 (rg Try.f58 15) ?_
        refine se (mkE [(0, LL a90 p0), (9, LL a90 p0), (10, I (lenL p0)), (11, I (addI .i64 z0 1))] [] 52) ?_
        exact pL
    · exact pL
  · refine gX 0 ?_
    exact pL
noncomputable def T58 (p0 : (List S90)) : Option Int := (bif (ltI 60 (lenL p0)) then (some 2) else ((iter (L58_4 p0) 0).bind fun y10 => (Sum.elim (fun y10a => (some 0)) (fun y10b => (some y10b)) y10)))
theorem B58 (C : Callee) (h126 : ∀ (p0 : Int) (p1 : Int) (p2 : Int), C 126 [I p0, I p1, I p2] = (T126 p0 p1 p2).map B) (h137 : ∀ (p0 : ByteArray), C 137 [S p0] = (T137 p0).map B) (h147 : ∀ (p0 : S38), C 147 [a38 p0] = (T147 p0).map B) (h148 : ∀ (p0 : (List ByteArray)), C 148 [LL S p0] = (T148 p0).map I) (p0 : (List S90)) : runs Try.prog C (cfg.fn 58) (finFn Try.prog (cfg.fn 58).byval Try.f58) [] (execA Try.prog C (cfg.fn 58) (nr Try.f58 []) (frame0 [LL a90 p0] 52)) = (T58 p0).map I := by
  unfold T58
  refine gS 1 ?_
  refine gR 0 (rg Try.f58 0) ?_
  refine se (mkE [(0, LL a90 p0)] [] 52) ?_
  refine pN ?_
  refine pS ?_
  refine gS 3 ?_
  refine gS 0 ?_
  refine gR 1 (rg Try.f58 1) ?_
  refine sg 1 (mkE [(6, LL a90 p0), (0, LL a90 p0)] [] 52) ?_
  refine eo 7 (I (lenL p0)) (lenE 28 a90 p0) ?_
  refine se (mkE [(0, LL a90 p0), (8, B (ltI 60 (lenL p0)))] [] 52) ?_
  refine pN ?_
  refine pS ?_
  refine gC 8 (ltI 60 (lenL p0)) ?_ ?_
  · refine gS 0 ?_
    refine gR 2 (rg Try.f58 2) ?_
    refine se (mkE [(2, I 2)] [] 52) ?_
    refine pN ?_
    refine pS ?_
    refine gE ?_
    exact pL
  · refine gK ?_
    refine pN ?_
    refine pS ?_
    refine gS 16 ?_
    refine gS 4 ?_
    refine gR 3 (rg Try.f58 3) ?_
    refine sg 1 (mkE [(9, LL a90 p0), (0, LL a90 p0), (8, B (ltI 60 (lenL p0)))] [] 52) ?_
    refine eo 10 (I (lenL p0)) (lenE 28 a90 p0) ?_
    refine se (mkE [(0, LL a90 p0), (9, LL a90 p0), (10, I (lenL p0)), (11, I 0)] [] 52) ?_
    refine pN ?_
    refine pS ?_
    refine gB 0 ?_
    refine lo [(0, none), (9, none), (10, none), (11, none)] (L58_4 p0) (fun z0 : Int => (mkE [(0, LL a90 p0), (9, LL a90 p0), (10, I (lenL p0)), (11, I z0)] [] 52)) (Sum.elim (fun (x : (Int × Bool)) => (.exit 0, (mkE [(0, LL a90 p0), (9, LL a90 p0), (10, I (lenL p0)), (11, I x.1), (12, B x.2)] [] 52))) (fun (x : Int) => (.ret, (mkE [(2, I x)] [] 52)))) 0 (fun z => L58_4_ok C h126 h137 h147 h148 p0 z) ?_
    intro y10
    refine ss y10 (Z := (Sum.elim (fun (x : (Int × Bool)) => (.exit 0, (mkE [(0, LL a90 p0), (9, LL a90 p0), (10, I (lenL p0)), (11, I x.1), (12, B x.2)] [] 52))) (fun (x : Int) => (.ret, (mkE [(2, I x)] [] 52))))) (fun y10a => ?_) (fun y10b => ?_)
    · refine pH ?_
      refine pN ?_
      refine pS ?_
      refine gS 0 ?_
      refine gR 16 (rg Try.f58 16) ?_
      refine se (mkE [(2, I 0)] [] 52) ?_
      refine pN ?_
      refine pS ?_
      refine gE ?_
      exact pL
    · exact pL
theorem F58 (m : Nat) (hm : 4 ≤ m) (p0 : (List S90)) : callA Try.prog cfg m 58 [LL a90 p0] = (T58 p0).map I := by
  obtain ⟨q, rfl⟩ : ∃ q, m = q + 1 := ⟨m - 1, by omega⟩
  exact (callA_body (fn := Try.f58) (c := body_ Try.f58) q _ (by kernel_rfl) (by kernel_rfl) (by kernel_rfl)).trans (B58 _ (fun p0 p1 p2 => F126 q (by omega) p0 p1 p2) (fun p0 => F137 q (by omega) p0) (fun p0 => F147 q (by omega) p0) (fun p0 => F148 q (by omega) p0) p0)

noncomputable def T132 (p0 : Int) (p1 : Int) (p2 : Int) : Option Bool := (bif (leI p1 p0) then (some (leI p0 p2)) else (some false))
theorem B132 (C : Callee) (p0 : Int) (p1 : Int) (p2 : Int) : runs Try.prog C (cfg.fn 132) (finFn Try.prog (cfg.fn 132).byval Try.f132) [] (execA Try.prog C (cfg.fn 132) (nr Try.f132 []) (frame0 [I p0, I p1, I p2] 15)) = (T132 p0 p1 p2).map B := by
  unfold T132
  refine gS 1 ?_
  refine gR 0 (rg Try.f132 0) ?_
  refine se (mkE [(0, I p0), (1, I p1), (2, I p2)] [] 15) ?_
  refine pN ?_
  refine pS ?_
  refine gS 0 ?_
  refine gR 1 (rg Try.f132 1) ?_
  refine sg 4 (mkE [(10, B (leI p1 p0)), (9, B (leI p1 p0)), (8, I p0), (7, I p1), (0, I p0), (1, I p1), (2, I p2)] [] 15) ?_
  refine sb 10 (leI p1 p0) ?_ ?_
  · refine se (mkE [(6, B (leI p0 p2))] [] 15) ?_
    refine pN ?_
    refine pS ?_
    refine gE ?_
    exact pL
  · refine se (mkE [(6, B false)] [] 15) ?_
    refine pN ?_
    refine pS ?_
    refine gE ?_
    exact pL
theorem F132 (m : Nat) (hm : 1 ≤ m) (p0 : Int) (p1 : Int) (p2 : Int) : callA Try.prog cfg m 132 [I p0, I p1, I p2] = (T132 p0 p1 p2).map B := by
  obtain ⟨q, rfl⟩ : ∃ q, m = q + 1 := ⟨m - 1, by omega⟩
  exact (callA_body (fn := Try.f132) (c := body_ Try.f132) q _ (by kernel_rfl) (by kernel_rfl) (by kernel_rfl)).trans (B132 _ p0 p1 p2)

theorem F264 (m : Nat) (hm : 1 ≤ m) (p0 : ByteArray) (p1 : Int) : callA Try.prog cfg m 264 [S p0, U p1] = (some (idxB p0 p1)).map I := by
  obtain ⟨q, rfl⟩ : ∃ q, m = q + 1 := ⟨m - 1, by omega⟩
  exact (callA_leaf (L := leafIdx) _ _ (by kernel_rfl)).trans (rfl)

noncomputable def T222 (p0 : ByteArray) (p1 : Int) : Option Int := ((some (idxB p0 p1)).bind fun x1 => (some x1))
theorem B222 (C : Callee) (h264 : ∀ (p0 : ByteArray) (p1 : Int), C 264 [S p0, U p1] = (some (idxB p0 p1)).map I) (p0 : ByteArray) (p1 : Int) : runs Try.prog C (cfg.fn 222) (finFn Try.prog (cfg.fn 222).byval Try.f222) [] (execA Try.prog C (cfg.fn 222) (nr Try.f222 []) (frame0 [S p0, U p1] 8)) = (T222 p0 p1).map I := by
  unfold T222
  refine gS 1 ?_
  refine gR 0 (rg Try.f222 0) ?_
  refine se (mkE [(0, S p0), (1, U p1)] [] 8) ?_
  refine pN ?_
  refine pS ?_
  refine gS 0 ?_
  refine gR 1 (rg Try.f222 1) ?_
  refine sg 2 (mkE [(6, U p1), (5, S p0), (0, S p0), (1, U p1)] [] 8) ?_
  refine co 7 [] (h264 p0 p1) (fun x1 => ?_)
  refine se (mkE [(4, I x1)] [] 8) ?_
  refine pN ?_
  refine pS ?_
  refine gE ?_
  exact pL
theorem F222 (m : Nat) (hm : 2 ≤ m) (p0 : ByteArray) (p1 : Int) : callA Try.prog cfg m 222 [S p0, U p1] = (T222 p0 p1).map I := by
  obtain ⟨q, rfl⟩ : ∃ q, m = q + 1 := ⟨m - 1, by omega⟩
  exact (callA_body (fn := Try.f222) (c := body_ Try.f222) q _ (by kernel_rfl) (by kernel_rfl) (by kernel_rfl)).trans (B222 _ (fun p0 p1 => F264 q (by omega) p0 p1) p0 p1)

noncomputable def L143_2 (p0 : ByteArray) (p1 : ByteArray) (z0 : Int) : Option (Int ⊕ ((Int × Bool) ⊕ Unit)) := (bif (ltI z0 (lenS p0)) then ((byteAt p0 z0).bind fun x1 => ((T222 p1 x1).bind fun x2 => (bif (ltI x2 0) then (some (.inr (.inr ()))) else (some (.inl (addI .i64 z0 1)))))) else (some (.inr (.inl (z0, (ltI z0 (lenS p0)))))))
theorem L143_2_ok (C : Callee) (h222 : ∀ (p0 : ByteArray) (p1 : Int), C 222 [S p0, U p1] = (T222 p0 p1).map I) (p0 : ByteArray) (p1 : ByteArray) (z0 : Int) : runs Try.prog C (cfg.fn 143) (finLoop ((cfg.fn 143).keep 2)) [] (execA Try.prog C (cfg.fn 143) (nr Try.f143 [false, false, true, false, true]) ((fun z0 : Int => (mkE [(0, S p0), (1, S p1), (7, I (lenS p0)), (8, I z0)] [] 18)) z0)) = (L143_2 p0 p1 z0).map (Sum.elim (fun z => .inl ((fun z0 : Int => (mkE [(0, S p0), (1, S p1), (7, I (lenS p0)), (8, I z0)] [] 18)) z)) (fun x => .inr ((Sum.elim (fun (x : (Int × Bool)) => (.exit 0, (mkE [(0, S p0), (1, S p1), (7, I (lenS p0)), (8, I x.1), (9, B x.2)] [] 18))) (fun (x : Unit) => (.ret, (mkE [(4, B false)] [] 18)))) x))) := by
  unfold L143_2
  refine gS 0 ?_
  refine gR 2 (rg Try.f143 2) ?_
  refine se (mkE [(0, S p0), (1, S p1), (7, I (lenS p0)), (8, I z0), (9, B (ltI z0 (lenS p0)))] [] 18) ?_
  refine pN ?_
  refine pS ?_
  refine gS 3 ?_
  refine gC 9 (ltI z0 (lenS p0)) ?_ ?_
  · refine gK ?_
    refine pN ?_
    refine pS ?_
    refine gS 6 ?_
    refine gB 1 ?_
    refine gS 4 ?_
    refine gR 3 (rg Try.f143 3) ?_
    refine se (mkE [(0, S p0), (1, S p1), (5, I z0), (7, I (lenS p0)), (8, I z0)] [] 18) ?_
    refine pN ?_
    refine pS ?_
    refine gS 0 ?_
    refine gR 4 (rg Try.f143 4) ?_
    refine sg 3 (mkE [(13, I z0), (12, S p0), (11, S p1), (0, S p0), (1, S p1), (5, I z0), (7, I (lenS p0)), (8, I z0)] [] 18) ?_
    refine vo 14 (byteE 9 .i64 p0 z0) (fun x1 => ?_)
    refine co 15 [] (h222 p1 x1) (fun x2 => ?_)
    refine se (mkE [(0, S p0), (1, S p1), (7, I (lenS p0)), (8, I z0), (16, B (ltI x2 0))] [] 18) ?_
    refine pN ?_
    refine pS ?_
    refine gC 16 (ltI x2 0) ?_ ?_
    · refine gS 0 ?_
      refine gR 5 (rg Try.f143 5) ?_
      refine se (mkE [(4, B false)] [] 18) ?_
      refine pN ?_
      refine pS ?_
      refine gE ?_
      exact pL
    · refine gK ?_
      refine pB ?_
      refine pN ?_
      refine pS ?_
      refine gR 6 (rg Try.f143 6) ?_
      refine se (mkE [(0, S p0), (1, S p1), (7, I (lenS p0)), (8, I (addI .i64 z0 1))] [] 18) ?_
      exact pL
  · refine gX 0 ?_
    exact pL
noncomputable def T143 (p0 : ByteArray) (p1 : ByteArray) : Option Bool := ((iter (L143_2 p0 p1) 0).bind fun y3 => (Sum.elim (fun y3a => (some true)) (fun y3b => (some false)) y3))
theorem B143 (C : Callee) (h222 : ∀ (p0 : ByteArray) (p1 : Int), C 222 [S p0, U p1] = (T222 p0 p1).map I) (p0 : ByteArray) (p1 : ByteArray) : runs Try.prog C (cfg.fn 143) (finFn Try.prog (cfg.fn 143).byval Try.f143) [] (execA Try.prog C (cfg.fn 143) (nr Try.f143 []) (frame0 [S p0, S p1] 18)) = (T143 p0 p1).map B := by
  unfold T143
  refine gS 1 ?_
  refine gR 0 (rg Try.f143 0) ?_
  refine se (mkE [(0, S p0), (1, S p1)] [] 18) ?_
  refine pN ?_
  refine pS ?_
  refine gS 7 ?_
  refine gS 2 ?_
  refine gR 1 (rg Try.f143 1) ?_
  refine se (mkE [(0, S p0), (1, S p1), (7, I (lenS p0)), (8, I 0)] [] 18) ?_
  refine pN ?_
  refine pS ?_
  refine gB 0 ?_
  refine lo [(0, none), (1, none), (7, none), (8, none)] (L143_2 p0 p1) (fun z0 : Int => (mkE [(0, S p0), (1, S p1), (7, I (lenS p0)), (8, I z0)] [] 18)) (Sum.elim (fun (x : (Int × Bool)) => (.exit 0, (mkE [(0, S p0), (1, S p1), (7, I (lenS p0)), (8, I x.1), (9, B x.2)] [] 18))) (fun (x : Unit) => (.ret, (mkE [(4, B false)] [] 18)))) 0 (fun z => L143_2_ok C h222 p0 p1 z) ?_
  intro y3
  refine ss y3 (Z := (Sum.elim (fun (x : (Int × Bool)) => (.exit 0, (mkE [(0, S p0), (1, S p1), (7, I (lenS p0)), (8, I x.1), (9, B x.2)] [] 18))) (fun (x : Unit) => (.ret, (mkE [(4, B false)] [] 18))))) (fun y3a => ?_) (fun y3b => ?_)
  · refine pH ?_
    refine pN ?_
    refine pS ?_
    refine gS 0 ?_
    refine gR 7 (rg Try.f143 7) ?_
    refine se (mkE [(4, B true)] [] 18) ?_
    refine pN ?_
    refine pS ?_
    refine gE ?_
    exact pL
  · exact pL
theorem F143 (m : Nat) (hm : 3 ≤ m) (p0 : ByteArray) (p1 : ByteArray) : callA Try.prog cfg m 143 [S p0, S p1] = (T143 p0 p1).map B := by
  obtain ⟨q, rfl⟩ : ∃ q, m = q + 1 := ⟨m - 1, by omega⟩
  exact (callA_body (fn := Try.f143) (c := body_ Try.f143) q _ (by kernel_rfl) (by kernel_rfl) (by kernel_rfl)).trans (B143 _ (fun p0 p1 => F222 q (by omega) p0 p1) p0 p1)

noncomputable def T51 (p0 : ByteArray) : Option Bool := ((T132 (lenS p0) 1 40).bind fun x1 => (bif x1 then ((cutS p0 none (some 1)).bind fun x2 => ((T143 x2 (ByteArray.mk #[97, 98, 99, 100, 101, 102, 103, 104, 105, 106, 107, 108, 109, 110, 111, 112, 113, 114, 115, 116, 117, 118, 119, 120, 121, 122])).bind fun x3 => (bif x3 then ((T143 p0 (ByteArray.mk #[97, 98, 99, 100, 101, 102, 103, 104, 105, 106, 107, 108, 109, 110, 111, 112, 113, 114, 115, 116, 117, 118, 119, 120, 121, 122, 48, 49, 50, 51, 52, 53, 54, 55, 56, 57, 45, 95])).bind fun x4 => (some x4)) else (some false)))) else (some false)))
theorem B51 (C : Callee) (h132 : ∀ (p0 : Int) (p1 : Int) (p2 : Int), C 132 [I p0, I p1, I p2] = (T132 p0 p1 p2).map B) (h143 : ∀ (p0 : ByteArray) (p1 : ByteArray), C 143 [S p0, S p1] = (T143 p0 p1).map B) (p0 : ByteArray) : runs Try.prog C (cfg.fn 51) (finFn Try.prog (cfg.fn 51).byval Try.f51) [] (execA Try.prog C (cfg.fn 51) (nr Try.f51 []) (frame0 [S p0] 15)) = (T51 p0).map B := by
  unfold T51
  refine gS 1 ?_
  refine gR 0 (rg Try.f51 0) ?_
  refine se (mkE [(0, S p0)] [] 15) ?_
  refine pN ?_
  refine pS ?_
  refine gS 0 ?_
  refine gR 1 (rg Try.f51 1) ?_
  refine sg 2 (mkE [(4, I (lenS p0)), (3, S p0), (0, S p0)] [] 15) ?_
  refine co 5 [] (h132 (lenS p0) 1 40) (fun x1 => ?_)
  refine sg 4 (mkE [(6, B x1), (5, B x1), (4, I (lenS p0)), (3, S p0), (0, S p0)] [] 15) ?_
  refine sb 6 x1 ?_ ?_
  · refine sg 5 (mkE [(7, S p0), (6, B true), (6, B x1), (5, B x1), (4, I (lenS p0)), (3, S p0), (0, S p0)] [] 15) ?_
    refine vo 8 (cutSE 9 .i64 .i64 p0 none (some 1)) (fun x2 => ?_)
    refine co 9 [] (h143 x2 (ByteArray.mk #[97, 98, 99, 100, 101, 102, 103, 104, 105, 106, 107, 108, 109, 110, 111, 112, 113, 114, 115, 116, 117, 118, 119, 120, 121, 122])) (fun x3 => ?_)
    refine sg 9 (mkE [(11, B x3), (10, B x3), (9, B x3), (8, S x2), (7, S p0), (6, B true), (6, B x1), (5, B x1), (4, I (lenS p0)), (3, S p0), (0, S p0)] [] 15) ?_
    refine sb 11 x3 ?_ ?_
    · refine sg 10 (mkE [(12, S p0), (11, B true), (11, B x3), (10, B x3), (9, B x3), (8, S x2), (7, S p0), (6, B true), (6, B x1), (5, B x1), (4, I (lenS p0)), (3, S p0), (0, S p0)] [] 15) ?_
      refine co 13 [] (h143 p0 (ByteArray.mk #[97, 98, 99, 100, 101, 102, 103, 104, 105, 106, 107, 108, 109, 110, 111, 112, 113, 114, 115, 116, 117, 118, 119, 120, 121, 122, 48, 49, 50, 51, 52, 53, 54, 55, 56, 57, 45, 95])) (fun x4 => ?_)
      refine se (mkE [(2, B x4)] [] 15) ?_
      refine pN ?_
      refine pS ?_
      refine gE ?_
      exact pL
    · refine se (mkE [(2, B false)] [] 15) ?_
      refine pN ?_
      refine pS ?_
      refine gE ?_
      exact pL
  · refine se (mkE [(2, B false)] [] 15) ?_
    refine pN ?_
    refine pS ?_
    refine gE ?_
    exact pL
theorem F51 (m : Nat) (hm : 4 ≤ m) (p0 : ByteArray) : callA Try.prog cfg m 51 [S p0] = (T51 p0).map B := by
  obtain ⟨q, rfl⟩ : ∃ q, m = q + 1 := ⟨m - 1, by omega⟩
  exact (callA_body (fn := Try.f51) (c := body_ Try.f51) q _ (by kernel_rfl) (by kernel_rfl) (by kernel_rfl)).trans (B51 _ (fun p0 p1 p2 => F132 q (by omega) p0 p1 p2) (fun p0 p1 => F143 q (by omega) p0 p1) p0)

noncomputable def L226_2 (p0 : (List ByteArray)) (z0 : Int) : Option (Int ⊕ ((Int × Bool) ⊕ Int)) := (bif (ltI z0 (lenL p0)) then ((listAt p0 z0).bind fun x1 => ((T51 x1).bind fun x2 => (bif (!x2) then (some (.inr (.inr 5))) else (bif (ltI 0 z0) then ((listAt p0 (subI .i64 z0 1)).bind fun x3 => (bif (ltS x1 x3 || eqS x1 x3) then (some (.inr (.inr 7))) else (some (.inl (addI .i64 z0 1))))) else (some (.inl (addI .i64 z0 1))))))) else (some (.inr (.inl (z0, (ltI z0 (lenL p0)))))))
theorem L226_2_ok (C : Callee) (h51 : ∀ (p0 : ByteArray), C 51 [S p0] = (T51 p0).map B) (p0 : (List ByteArray)) (z0 : Int) : runs Try.prog C (cfg.fn 226) (finLoop ((cfg.fn 226).keep 2)) [] (execA Try.prog C (cfg.fn 226) (nr Try.f226 [false, false, true, false, true]) ((fun z0 : Int => (mkE [(0, LL S p0), (5, LL S p0), (6, I (lenL p0)), (7, I z0)] [] 27)) z0)) = (L226_2 p0 z0).map (Sum.elim (fun z => .inl ((fun z0 : Int => (mkE [(0, LL S p0), (5, LL S p0), (6, I (lenL p0)), (7, I z0)] [] 27)) z)) (fun x => .inr ((Sum.elim (fun (x : (Int × Bool)) => (.exit 0, (mkE [(0, LL S p0), (5, LL S p0), (6, I (lenL p0)), (7, I x.1), (8, B x.2)] [] 27))) (fun (x : Int) => (.ret, (mkE [(2, I x)] [] 27)))) x))) := by
  unfold L226_2
  refine gS 0 ?_
  refine gR 2 (rg Try.f226 2) ?_
  refine se (mkE [(0, LL S p0), (5, LL S p0), (6, I (lenL p0)), (7, I z0), (8, B (ltI z0 (lenL p0)))] [] 27) ?_
  refine pN ?_
  refine pS ?_
  refine gS 3 ?_
  refine gC 8 (ltI z0 (lenL p0)) ?_ ?_
  · refine gK ?_
    refine pN ?_
    refine pS ?_
    refine gS 8 ?_
    refine gB 1 ?_
    refine gS 4 ?_
    refine gR 3 (rg Try.f226 3) ?_
    refine sg 1 (mkE [(9, I z0), (0, LL S p0), (5, LL S p0), (6, I (lenL p0)), (7, I z0), (8, B (ltI z0 (lenL p0)))] [] 27) ?_
    refine vo 10 (addrE 35 9 1 S .i64 p0 z0) (fun x1 => ?_)
    refine se (mkE [(0, LL S p0), (3, I z0), (4, S x1), (5, LL S p0), (6, I (lenL p0)), (7, I z0)] [] 27) ?_
    refine pN ?_
    refine pS ?_
    refine gS 6 ?_
    refine gS 0 ?_
    refine gR 4 (rg Try.f226 4) ?_
    refine sg 1 (mkE [(12, S x1), (0, LL S p0), (3, I z0), (4, S x1), (5, LL S p0), (6, I (lenL p0)), (7, I z0)] [] 27) ?_
    refine co 13 [] (h51 x1) (fun x2 => ?_)
    refine se (mkE [(0, LL S p0), (3, I z0), (4, S x1), (5, LL S p0), (6, I (lenL p0)), (7, I z0), (14, B (!x2))] [] 27) ?_
    refine pN ?_
    refine pS ?_
    refine gC 14 (!x2) ?_ ?_
    · refine gS 0 ?_
      refine gR 5 (rg Try.f226 5) ?_
      refine se (mkE [(2, I 5)] [] 27) ?_
      refine pN ?_
      refine pS ?_
      refine gE ?_
      exact pL
    · refine gK ?_
      refine pN ?_
      refine pS ?_
      refine gS 0 ?_
      refine gR 6 (rg Try.f226 6) ?_
      refine sg 3 (mkE [(17, B (ltI 0 z0)), (16, B (ltI 0 z0)), (15, I z0), (0, LL S p0), (3, I z0), (4, S x1), (5, LL S p0), (6, I (lenL p0)), (7, I z0), (14, B (!x2))] [] 27) ?_
      refine sb 17 (ltI 0 z0) ?_ ?_
      · refine sg 7 (mkE [(21, I (subI .i64 z0 1)), (20, I z0), (19, LL S p0), (18, S x1), (17, B true), (17, B (ltI 0 z0)), (16, B (ltI 0 z0)), (15, I z0), (0, LL S p0), (3, I z0), (4, S x1), (5, LL S p0), (6, I (lenL p0)), (7, I z0), (14, B (!x2))] [] 27) ?_
        refine vo 22 (addrE 35 9 1 S .i64 p0 (subI .i64 z0 1)) (fun x3 => ?_)
        refine se (mkE [(0, LL S p0), (5, LL S p0), (6, I (lenL p0)), (7, I z0), (25, B (ltS x1 x3 || eqS x1 x3))] [] 27) ?_
        refine pN ?_
        refine pS ?_
        refine gC 25 (ltS x1 x3 || eqS x1 x3) ?_ ?_
        · refine gS 0 ?_
          refine gR 7 (rg Try.f226 7) ?_
          refine se (mkE [(2, I 7)] [] 27) ?_
          refine pN ?_
          refine pS ?_
          refine gE ?_
          exact pL
        · refine gK ?_
          refine pB ?_
          refine pN ?_
          refine pS ?_
          refine gR 8 (rg Try.f226 8) ?_
          refine se (mkE [(0, LL S p0), (5, LL S p0), (6, I (lenL p0)), (7, I (addI .i64 z0 1))] [] 27) ?_
          exact pL
      · refine se (mkE [(0, LL S p0), (5, LL S p0), (6, I (lenL p0)), (7, I z0), (25, B false)] [] 27) ?_
        refine pN ?_
        refine pS ?_
        refine gF (.tmp 25) ?_
        refine gK ?_
        refine pB ?_
        refine pN ?_
        refine pS ?_
        refine gR 8 (rg Try.f226 8) ?_
        refine se (mkE [(0, LL S p0), (5, LL S p0), (6, I (lenL p0)), (7, I (addI .i64 z0 1))] [] 27) ?_
        exact pL
  · refine gX 0 ?_
    exact pL
noncomputable def T226 (p0 : (List ByteArray)) : Option Int := ((iter (L226_2 p0) 0).bind fun y4 => (Sum.elim (fun y4a => (some 0)) (fun y4b => (some y4b)) y4))
theorem B226 (C : Callee) (h51 : ∀ (p0 : ByteArray), C 51 [S p0] = (T51 p0).map B) (p0 : (List ByteArray)) : runs Try.prog C (cfg.fn 226) (finFn Try.prog (cfg.fn 226).byval Try.f226) [] (execA Try.prog C (cfg.fn 226) (nr Try.f226 []) (frame0 [LL S p0] 27)) = (T226 p0).map I := by
  unfold T226
  refine gS 1 ?_
  refine gR 0 (rg Try.f226 0) ?_
  refine se (mkE [(0, LL S p0)] [] 27) ?_
  refine pN ?_
  refine pS ?_
  refine gS 9 ?_
  refine gS 2 ?_
  refine gR 1 (rg Try.f226 1) ?_
  refine sg 1 (mkE [(5, LL S p0), (0, LL S p0)] [] 27) ?_
  refine eo 6 (I (lenL p0)) (lenE 35 S p0) ?_
  refine se (mkE [(0, LL S p0), (5, LL S p0), (6, I (lenL p0)), (7, I 0)] [] 27) ?_
  refine pN ?_
  refine pS ?_
  refine gB 0 ?_
  refine lo [(0, none), (5, none), (6, none), (7, none)] (L226_2 p0) (fun z0 : Int => (mkE [(0, LL S p0), (5, LL S p0), (6, I (lenL p0)), (7, I z0)] [] 27)) (Sum.elim (fun (x : (Int × Bool)) => (.exit 0, (mkE [(0, LL S p0), (5, LL S p0), (6, I (lenL p0)), (7, I x.1), (8, B x.2)] [] 27))) (fun (x : Int) => (.ret, (mkE [(2, I x)] [] 27)))) 0 (fun z => L226_2_ok C h51 p0 z) ?_
  intro y4
  refine ss y4 (Z := (Sum.elim (fun (x : (Int × Bool)) => (.exit 0, (mkE [(0, LL S p0), (5, LL S p0), (6, I (lenL p0)), (7, I x.1), (8, B x.2)] [] 27))) (fun (x : Int) => (.ret, (mkE [(2, I x)] [] 27))))) (fun y4a => ?_) (fun y4b => ?_)
  · refine pH ?_
    refine pN ?_
    refine pS ?_
    refine gS 0 ?_
    refine gR 9 (rg Try.f226 9) ?_
    refine se (mkE [(2, I 0)] [] 27) ?_
    refine pN ?_
    refine pS ?_
    refine gE ?_
    exact pL
  · exact pL
theorem F226 (m : Nat) (hm : 5 ≤ m) (p0 : (List ByteArray)) : callA Try.prog cfg m 226 [LL S p0] = (T226 p0).map I := by
  obtain ⟨q, rfl⟩ : ∃ q, m = q + 1 := ⟨m - 1, by omega⟩
  exact (callA_body (fn := Try.f226) (c := body_ Try.f226) q _ (by kernel_rfl) (by kernel_rfl) (by kernel_rfl)).trans (B226 _ (fun p0 => F51 q (by omega) p0) p0)

noncomputable def T149 (p0 : (List ByteArray)) : Option Int := (bif (ltI 20 (lenL p0)) then (some 2) else ((T226 p0).bind fun x1 => (some x1)))
theorem B149 (C : Callee) (h226 : ∀ (p0 : (List ByteArray)), C 226 [LL S p0] = (T226 p0).map I) (p0 : (List ByteArray)) : runs Try.prog C (cfg.fn 149) (finFn Try.prog (cfg.fn 149).byval Try.f149) [] (execA Try.prog C (cfg.fn 149) (nr Try.f149 []) (frame0 [LL S p0] 8)) = (T149 p0).map I := by
  unfold T149
  refine gS 1 ?_
  refine gR 0 (rg Try.f149 0) ?_
  refine se (mkE [(0, LL S p0)] [] 8) ?_
  refine pN ?_
  refine pS ?_
  refine gS 3 ?_
  refine gS 0 ?_
  refine gR 1 (rg Try.f149 1) ?_
  refine sg 1 (mkE [(3, LL S p0), (0, LL S p0)] [] 8) ?_
  refine eo 4 (I (lenL p0)) (lenE 35 S p0) ?_
  refine se (mkE [(0, LL S p0), (5, B (ltI 20 (lenL p0)))] [] 8) ?_
  refine pN ?_
  refine pS ?_
  refine gC 5 (ltI 20 (lenL p0)) ?_ ?_
  · refine gS 0 ?_
    refine gR 2 (rg Try.f149 2) ?_
    refine se (mkE [(2, I 2)] [] 8) ?_
    refine pN ?_
    refine pS ?_
    refine gE ?_
    exact pL
  · refine gK ?_
    refine pN ?_
    refine pS ?_
    refine gS 0 ?_
    refine gR 3 (rg Try.f149 3) ?_
    refine sg 1 (mkE [(6, LL S p0), (0, LL S p0), (5, B (ltI 20 (lenL p0)))] [] 8) ?_
    refine co 7 [] (h226 p0) (fun x1 => ?_)
    refine se (mkE [(2, I x1)] [] 8) ?_
    refine pN ?_
    refine pS ?_
    refine gE ?_
    exact pL
theorem F149 (m : Nat) (hm : 6 ≤ m) (p0 : (List ByteArray)) : callA Try.prog cfg m 149 [LL S p0] = (T149 p0).map I := by
  obtain ⟨q, rfl⟩ : ∃ q, m = q + 1 := ⟨m - 1, by omega⟩
  exact (callA_body (fn := Try.f149) (c := body_ Try.f149) q _ (by kernel_rfl) (by kernel_rfl) (by kernel_rfl)).trans (B149 _ (fun p0 => F226 q (by omega) p0) p0)

noncomputable def L59_5 (p0 : (List S90)) (z0 : (ByteArray × Int)) : Option ((ByteArray × Int) ⊕ ((ByteArray × Int × Bool) ⊕ Int)) := (bif (ltI z0.2 (lenL p0)) then ((listAt p0 z0.2).bind fun x1 => ((T51 x1.f0).bind fun x2 => (bif (!x2) then (some (.inr (.inr 5))) else (bif (ltS x1.f0 z0.1 || eqS x1.f0 z0.1) then (some (.inr (.inr 7))) else (bif (ltI x1.f1.f0 0) then (some (.inr (.inr 1))) else (bif (leI x1.f1.f1 x1.f1.f0) then (some (.inr (.inr 1))) else (bif (ltI 345686400000 x1.f1.f1) then (some (.inr (.inr 1))) else ((T132 x1.f2 0 1000000).bind fun x3 => (bif (!x3) then (some (.inr (.inr 1))) else ((T149 x1.f3).bind fun x4 => (bif (neI x4 0) then (some (.inr (.inr x4))) else (some (.inl (x1.f0, (addI .i64 z0.2 1))))))))))))))) else (some (.inr (.inl (z0.1, z0.2, (ltI z0.2 (lenL p0)))))))
theorem L59_5_ok (C : Callee) (h132 : ∀ (p0 : Int) (p1 : Int) (p2 : Int), C 132 [I p0, I p1, I p2] = (T132 p0 p1 p2).map B) (h149 : ∀ (p0 : (List ByteArray)), C 149 [LL S p0] = (T149 p0).map I) (h51 : ∀ (p0 : ByteArray), C 51 [S p0] = (T51 p0).map B) (p0 : (List S90)) (z0 : (ByteArray × Int)) : runs Try.prog C (cfg.fn 59) (finLoop ((cfg.fn 59).keep 5)) [] (execA Try.prog C (cfg.fn 59) (nr Try.f59 [false, false, true, false, true, true, true]) ((fun z0 : (ByteArray × Int) => (mkE [(3, S z0.1), (10, LL a90 p0), (11, I (lenL p0)), (12, I z0.2)] [] 61)) z0)) = (L59_5 p0 z0).map (Sum.elim (fun z => .inl ((fun z0 : (ByteArray × Int) => (mkE [(3, S z0.1), (10, LL a90 p0), (11, I (lenL p0)), (12, I z0.2)] [] 61)) z)) (fun x => .inr ((Sum.elim (fun (x : (ByteArray × Int × Bool)) => (.exit 0, (mkE [(3, S x.1), (10, LL a90 p0), (11, I (lenL p0)), (12, I x.2.1), (13, B x.2.2)] [] 61))) (fun (x : Int) => (.ret, (mkE [(2, I x)] [] 61)))) x))) := by
  unfold L59_5
  refine gS 0 ?_
  refine gR 5 (rg Try.f59 5) ?_
  refine se (mkE [(3, S z0.1), (10, LL a90 p0), (11, I (lenL p0)), (12, I z0.2), (13, B (ltI z0.2 (lenL p0)))] [] 61) ?_
  refine pN ?_
  refine pS ?_
  refine gS 6 ?_
  refine gC 13 (ltI z0.2 (lenL p0)) ?_ ?_
  · refine gK ?_
    refine pN ?_
    refine pS ?_
    refine gS 17 ?_
    refine gB 1 ?_
    refine gS 7 ?_
    refine gR 6 (rg Try.f59 6) ?_
    refine vo 14 (addrE 28 91 5 a90 .i64 p0 z0.2) (fun x1 => ?_)
    refine se (mkE [(3, S z0.1), (5, .ba 40 0), (10, LL a90 p0), (11, I (lenL p0)), (12, I z0.2)] [(40, .box [S x1.f0, I x1.f1.f0, I x1.f1.f1, I x1.f2, LL S x1.f3] false)] 61) ?_
    refine pN ?_
    refine pS ?_
    refine gS 13 ?_
    refine gB 2 ?_
    refine gS 0 ?_
    refine gR 7 (rg Try.f59 7) ?_
    refine sg 2 (mkE [(18, S x1.f0), (17, .ba 40 0), (3, S z0.1), (5, .ba 40 0), (10, LL a90 p0), (11, I (lenL p0)), (12, I z0.2)] [(40, .box [S x1.f0, I x1.f1.f0, I x1.f1.f1, I x1.f2, LL S x1.f3] false)] 61) ?_
    refine co 19 [] (h51 x1.f0) (fun x2 => ?_)
    refine se (mkE [(3, S z0.1), (5, .ba 40 0), (10, LL a90 p0), (11, I (lenL p0)), (12, I z0.2), (16, B (!x2))] [(40, .box [S x1.f0, I x1.f1.f0, I x1.f1.f1, I x1.f2, LL S x1.f3] false)] 61) ?_
    refine pN ?_
    refine pS ?_
    refine gC 16 (!x2) ?_ ?_
    · refine gS 0 ?_
      refine gR 8 (rg Try.f59 8) ?_
      refine se (mkE [(2, I 5)] [] 61) ?_
      refine pN ?_
      refine pS ?_
      refine gE ?_
      exact pL
    · refine gS 0 ?_
      refine gR 9 (rg Try.f59 9) ?_
      refine se (mkE [(5, .ba 40 0), (10, LL a90 p0), (11, I (lenL p0)), (12, I z0.2), (21, B (ltS x1.f0 z0.1 || eqS x1.f0 z0.1))] [(40, .box [S x1.f0, I x1.f1.f0, I x1.f1.f1, I x1.f2, LL S x1.f3] false)] 61) ?_
      refine pN ?_
      refine pS ?_
      refine gC 21 (ltS x1.f0 z0.1 || eqS x1.f0 z0.1) ?_ ?_
      · refine gS 0 ?_
        refine gR 10 (rg Try.f59 10) ?_
        refine se (mkE [(2, I 7)] [] 61) ?_
        refine pN ?_
        refine pS ?_
        refine gE ?_
        exact pL
      · refine gS 0 ?_
        refine gR 11 (rg Try.f59 11) ?_
        refine sg 5 (mkE [(31, B (ltI x1.f1.f0 0)), (30, B (ltI x1.f1.f0 0)), (29, I x1.f1.f0), (28, .ba 40 1), (27, .ba 40 1), (5, .ba 40 0), (10, LL a90 p0), (11, I (lenL p0)), (12, I z0.2), (21, B (ltS x1.f0 z0.1 || eqS x1.f0 z0.1))] [(40, .box [S x1.f0, I x1.f1.f0, I x1.f1.f1, I x1.f2, LL S x1.f3] false)] 61) ?_
        refine sb 31 (ltI x1.f1.f0 0) ?_ ?_
        · refine se (mkE [(5, .ba 40 0), (10, LL a90 p0), (11, I (lenL p0)), (12, I z0.2), (26, B true)] [(40, .box [S x1.f0, I x1.f1.f0, I x1.f1.f1, I x1.f2, LL S x1.f3] false)] 61) ?_
          refine pN ?_
          refine pS ?_
          refine gT (.tmp 26) ?_
          refine gS 0 ?_
          refine gR 12 (rg Try.f59 12) ?_
          refine se (mkE [(2, I 1)] [] 61) ?_
          refine pN ?_
          refine pS ?_
          refine gE ?_
          exact pL
        · refine sg 14 (mkE [(40, B (leI x1.f1.f1 x1.f1.f0)), (39, B (leI x1.f1.f1 x1.f1.f0)), (38, B (leI x1.f1.f1 x1.f1.f0)), (37, I x1.f1.f1), (36, .ba 40 2), (35, .ba 40 1), (34, I x1.f1.f0), (33, .ba 40 1), (32, .ba 40 1), (31, B false), (31, B (ltI x1.f1.f0 0)), (30, B (ltI x1.f1.f0 0)), (29, I x1.f1.f0), (28, .ba 40 1), (27, .ba 40 1), (5, .ba 40 0), (10, LL a90 p0), (11, I (lenL p0)), (12, I z0.2), (21, B (ltS x1.f0 z0.1 || eqS x1.f0 z0.1))] [(40, .box [S x1.f0, I x1.f1.f0, I x1.f1.f1, I x1.f2, LL S x1.f3] false)] 61) ?_
          refine sb 40 (leI x1.f1.f1 x1.f1.f0) ?_ ?_
          · refine se (mkE [(5, .ba 40 0), (10, LL a90 p0), (11, I (lenL p0)), (12, I z0.2), (26, B true)] [(40, .box [S x1.f0, I x1.f1.f0, I x1.f1.f1, I x1.f2, LL S x1.f3] false)] 61) ?_
            refine pN ?_
            refine pS ?_
            refine gT (.tmp 26) ?_
            refine gS 0 ?_
            refine gR 12 (rg Try.f59 12) ?_
            refine se (mkE [(2, I 1)] [] 61) ?_
            refine pN ?_
            refine pS ?_
            refine gE ?_
            exact pL
          · refine sg 20 (mkE [(46, B (ltI 345686400000 x1.f1.f1)), (45, B (ltI 345686400000 x1.f1.f1)), (44, B (ltI 345686400000 x1.f1.f1)), (43, I x1.f1.f1), (42, .ba 40 2), (41, .ba 40 1), (40, B false), (40, B (leI x1.f1.f1 x1.f1.f0)), (39, B (leI x1.f1.f1 x1.f1.f0)), (38, B (leI x1.f1.f1 x1.f1.f0)), (37, I x1.f1.f1), (36, .ba 40 2), (35, .ba 40 1), (34, I x1.f1.f0), (33, .ba 40 1), (32, .ba 40 1), (31, B false), (31, B (ltI x1.f1.f0 0)), (30, B (ltI x1.f1.f0 0)), (29, I x1.f1.f0), (28, .ba 40 1), (27, .ba 40 1), (5, .ba 40 0), (10, LL a90 p0), (11, I (lenL p0)), (12, I z0.2), (21, B (ltS x1.f0 z0.1 || eqS x1.f0 z0.1))] [(40, .box [S x1.f0, I x1.f1.f0, I x1.f1.f1, I x1.f2, LL S x1.f3] false)] 61) ?_
            refine sb 46 (ltI 345686400000 x1.f1.f1) ?_ ?_
            · refine se (mkE [(5, .ba 40 0), (10, LL a90 p0), (11, I (lenL p0)), (12, I z0.2), (26, B true)] [(40, .box [S x1.f0, I x1.f1.f0, I x1.f1.f1, I x1.f2, LL S x1.f3] false)] 61) ?_
              refine pN ?_
              refine pS ?_
              refine gT (.tmp 26) ?_
              refine gS 0 ?_
              refine gR 12 (rg Try.f59 12) ?_
              refine se (mkE [(2, I 1)] [] 61) ?_
              refine pN ?_
              refine pS ?_
              refine gE ?_
              exact pL
            · refine sg 22 (mkE [(48, I x1.f2), (47, .ba 40 3), (46, B false), (46, B (ltI 345686400000 x1.f1.f1)), (45, B (ltI 345686400000 x1.f1.f1)), (44, B (ltI 345686400000 x1.f1.f1)), (43, I x1.f1.f1), (42, .ba 40 2), (41, .ba 40 1), (40, B false), (40, B (leI x1.f1.f1 x1.f1.f0)), (39, B (leI x1.f1.f1 x1.f1.f0)), (38, B (leI x1.f1.f1 x1.f1.f0)), (37, I x1.f1.f1), (36, .ba 40 2), (35, .ba 40 1), (34, I x1.f1.f0), (33, .ba 40 1), (32, .ba 40 1), (31, B false), (31, B (ltI x1.f1.f0 0)), (30, B (ltI x1.f1.f0 0)), (29, I x1.f1.f0), (28, .ba 40 1), (27, .ba 40 1), (5, .ba 40 0), (10, LL a90 p0), (11, I (lenL p0)), (12, I z0.2), (21, B (ltS x1.f0 z0.1 || eqS x1.f0 z0.1))] [(40, .box [S x1.f0, I x1.f1.f0, I x1.f1.f1, I x1.f2, LL S x1.f3] false)] 61) ?_
              refine co 49 [] (h132 x1.f2 0 1000000) (fun x3 => ?_)
              refine se (mkE [(5, .ba 40 0), (10, LL a90 p0), (11, I (lenL p0)), (12, I z0.2), (26, B (!x3))] [(40, .box [S x1.f0, I x1.f1.f0, I x1.f1.f1, I x1.f2, LL S x1.f3] false)] 61) ?_
              refine pN ?_
              refine pS ?_
              refine gC 26 (!x3) ?_ ?_
              · refine gS 0 ?_
                refine gR 12 (rg Try.f59 12) ?_
                refine se (mkE [(2, I 1)] [] 61) ?_
                refine pN ?_
                refine pS ?_
                refine gE ?_
                exact pL
              · refine gK ?_
                refine pB ?_
                refine pN ?_
                refine pS ?_
                refine gS 14 ?_
                refine gR 13 (rg Try.f59 13) ?_
                refine se (mkE [(3, S x1.f0), (5, .ba 40 0), (10, LL a90 p0), (11, I (lenL p0)), (12, I z0.2)] [(40, .box [S x1.f0, I x1.f1.f0, I x1.f1.f1, I x1.f2, LL S x1.f3] false)] 61) ?_
                refine pN ?_
                refine pS ?_
                refine gS 15 ?_
                refine gR 14 (rg Try.f59 14) ?_
                refine sg 2 (mkE [(55, LL S x1.f3), (54, .ba 40 4), (3, S x1.f0), (5, .ba 40 0), (10, LL a90 p0), (11, I (lenL p0)), (12, I z0.2)] [(40, .box [S x1.f0, I x1.f1.f0, I x1.f1.f1, I x1.f2, LL S x1.f3] false)] 61) ?_
                refine co 56 [] (h149 x1.f3) (fun x4 => ?_)
                refine se (mkE [(3, S x1.f0), (6, I x4), (10, LL a90 p0), (11, I (lenL p0)), (12, I z0.2)] [] 61) ?_
                refine pN ?_
                refine pS ?_
                refine gS 0 ?_
                refine gR 15 (rg Try.f59 15) ?_
                refine se (mkE [(3, S x1.f0), (6, I x4), (10, LL a90 p0), (11, I (lenL p0)), (12, I z0.2), (58, B (neI x4 0))] [] 61) ?_
                refine pN ?_
                refine pS ?_
                refine gC 58 (neI x4 0) ?_ ?_
                · refine gS 0 ?_
                  refine gR 16 (rg Try.f59 16) ?_
                  refine se (mkE [(2, I x4)] [] 61) ?_
                  refine pN ?_
                  refine pS ?_
                  refine gE ?_
                  exact pL
                · refine gK ?_
                  refine pB ?_
                  refine pN ?_
                  refine pS ?_
                  refine gR 17 (rg Try.f59 17) ?_
                  refine se (mkE [(3, S x1.f0), (10, LL a90 p0), (11, I (lenL p0)), (12, I (addI .i64 z0.2 1))] [] 61) ?_
                  exact pL
  · refine gX 0 ?_
    exact pL
noncomputable def T59 (p0 : (List S90)) : Option Int := (bif (ltI 60 (lenL p0)) then (some 2) else ((iter (L59_5 p0) ((ByteArray.mk #[]), 0)).bind fun y5 => (Sum.elim (fun y5a => (some 0)) (fun y5b => (some y5b)) y5)))
theorem B59 (C : Callee) (h132 : ∀ (p0 : Int) (p1 : Int) (p2 : Int), C 132 [I p0, I p1, I p2] = (T132 p0 p1 p2).map B) (h149 : ∀ (p0 : (List ByteArray)), C 149 [LL S p0] = (T149 p0).map I) (h51 : ∀ (p0 : ByteArray), C 51 [S p0] = (T51 p0).map B) (p0 : (List S90)) : runs Try.prog C (cfg.fn 59) (finFn Try.prog (cfg.fn 59).byval Try.f59) [] (execA Try.prog C (cfg.fn 59) (nr Try.f59 []) (frame0 [LL a90 p0] 61)) = (T59 p0).map I := by
  unfold T59
  refine gS 1 ?_
  refine gR 0 (rg Try.f59 0) ?_
  refine se (mkE [(0, LL a90 p0)] [] 61) ?_
  refine pN ?_
  refine pS ?_
  refine gS 3 ?_
  refine gS 0 ?_
  refine gR 1 (rg Try.f59 1) ?_
  refine sg 1 (mkE [(7, LL a90 p0), (0, LL a90 p0)] [] 61) ?_
  refine eo 8 (I (lenL p0)) (lenE 28 a90 p0) ?_
  refine se (mkE [(0, LL a90 p0), (9, B (ltI 60 (lenL p0)))] [] 61) ?_
  refine pN ?_
  refine pS ?_
  refine gC 9 (ltI 60 (lenL p0)) ?_ ?_
  · refine gS 0 ?_
    refine gR 2 (rg Try.f59 2) ?_
    refine se (mkE [(2, I 2)] [] 61) ?_
    refine pN ?_
    refine pS ?_
    refine gE ?_
    exact pL
  · refine gK ?_
    refine pN ?_
    refine pS ?_
    refine gS 4 ?_
    refine gR 3 (rg Try.f59 3) ?_
    refine se (mkE [(0, LL a90 p0), (3, S (ByteArray.mk #[]))] [] 61) ?_
    refine pN ?_
    refine pS ?_
    refine gS 18 ?_
    refine gS 5 ?_
    refine gR 4 (rg Try.f59 4) ?_
    refine sg 1 (mkE [(10, LL a90 p0), (0, LL a90 p0), (3, S (ByteArray.mk #[]))] [] 61) ?_
    refine eo 11 (I (lenL p0)) (lenE 28 a90 p0) ?_
    refine se (mkE [(3, S (ByteArray.mk #[])), (10, LL a90 p0), (11, I (lenL p0)), (12, I 0)] [] 61) ?_
    refine pN ?_
    refine pS ?_
    refine gB 0 ?_
    refine lo [(3, none), (10, none), (11, none), (12, none)] (L59_5 p0) (fun z0 : (ByteArray × Int) => (mkE [(3, S z0.1), (10, LL a90 p0), (11, I (lenL p0)), (12, I z0.2)] [] 61)) (Sum.elim (fun (x : (ByteArray × Int × Bool)) => (.exit 0, (mkE [(3, S x.1), (10, LL a90 p0), (11, I (lenL p0)), (12, I x.2.1), (13, B x.2.2)] [] 61))) (fun (x : Int) => (.ret, (mkE [(2, I x)] [] 61)))) ((ByteArray.mk #[]), 0) (fun z => L59_5_ok C h132 h149 h51 p0 z) ?_
    intro y5
    refine ss y5 (Z := (Sum.elim (fun (x : (ByteArray × Int × Bool)) => (.exit 0, (mkE [(3, S x.1), (10, LL a90 p0), (11, I (lenL p0)), (12, I x.2.1), (13, B x.2.2)] [] 61))) (fun (x : Int) => (.ret, (mkE [(2, I x)] [] 61))))) (fun y5a => ?_) (fun y5b => ?_)
    · refine pH ?_
      refine pN ?_
      refine pS ?_
      refine gS 0 ?_
      refine gR 18 (rg Try.f59 18) ?_
      refine se (mkE [(2, I 0)] [] 61) ?_
      refine pN ?_
      refine pS ?_
      refine gE ?_
      exact pL
    · exact pL
theorem F59 (m : Nat) (hm : 7 ≤ m) (p0 : (List S90)) : callA Try.prog cfg m 59 [LL a90 p0] = (T59 p0).map I := by
  obtain ⟨q, rfl⟩ : ∃ q, m = q + 1 := ⟨m - 1, by omega⟩
  exact (callA_body (fn := Try.f59) (c := body_ Try.f59) q _ (by kernel_rfl) (by kernel_rfl) (by kernel_rfl)).trans (B59 _ (fun p0 p1 p2 => F132 q (by omega) p0 p1 p2) (fun p0 => F149 q (by omega) p0) (fun p0 => F51 q (by omega) p0) p0)

noncomputable def L60_4 (p0 : (List S53)) (z0 : Int) : Option (Int ⊕ ((Int × Bool) ⊕ Int)) := (bif (ltI z0 (lenL p0)) then ((listAt p0 z0).bind fun x1 => ((((T137 x1.f0).bind fun x2 => (bif (!x2) then (some (.inr 5)) else (bif (!eqS x1.f1 (ByteArray.mk #[])) then ((T137 x1.f1).bind fun x3 => (bif (!x3) then (some (.inr 5)) else (bif (ltI 0 z0) then ((listAt p0 (subI .i64 z0 1)).bind fun x4 => (bif (ltS x1.f0 x4.f0 || eqS x1.f0 x4.f0) then (some (.inr 7)) else ((T147 x1.f2).bind fun x5 => (bif (!x5) then (some (.inr 1)) else ((T126 x1.f4 0 1000000).bind fun x6 => (bif x6 then (some (.inr 1)) else ((T126 x1.f5 0 1000000).bind fun x7 => (bif x7 then (some (.inr 1)) else ((T126 x1.f6 0 1000000000).bind fun x8 => (bif x8 then (some (.inr 1)) else (some (.inl ())))))))))))) else ((T147 x1.f2).bind fun x9 => (bif (!x9) then (some (.inr 1)) else ((T126 x1.f4 0 1000000).bind fun x10 => (bif x10 then (some (.inr 1)) else ((T126 x1.f5 0 1000000).bind fun x11 => (bif x11 then (some (.inr 1)) else ((T126 x1.f6 0 1000000000).bind fun x12 => (bif x12 then (some (.inr 1)) else (some (.inl ()))))))))))))) else (bif (ltI 0 z0) then ((listAt p0 (subI .i64 z0 1)).bind fun x13 => (bif (ltS x1.f0 x13.f0 || eqS x1.f0 x13.f0) then (some (.inr 7)) else ((T147 x1.f2).bind fun x14 => (bif (!x14) then (some (.inr 1)) else ((T126 x1.f4 0 1000000).bind fun x15 => (bif x15 then (some (.inr 1)) else ((T126 x1.f5 0 1000000).bind fun x16 => (bif x16 then (some (.inr 1)) else ((T126 x1.f6 0 1000000000).bind fun x17 => (bif x17 then (some (.inr 1)) else (some (.inl ())))))))))))) else ((T147 x1.f2).bind fun x18 => (bif (!x18) then (some (.inr 1)) else ((T126 x1.f4 0 1000000).bind fun x19 => (bif x19 then (some (.inr 1)) else ((T126 x1.f5 0 1000000).bind fun x20 => (bif x20 then (some (.inr 1)) else ((T126 x1.f6 0 1000000000).bind fun x21 => (bif x21 then (some (.inr 1)) else (some (.inl ())))))))))))))) : Option (Unit ⊕ Int)).bind fun y22 => (Sum.elim (fun y22a => ((T148 x1.f3).bind fun x23 => (bif (neI x23 0) then (some (.inr (.inr x23))) else (some (.inl (addI .i64 z0 1)))))) (fun y22b => (some (.inr (.inr y22b)))) y22))) else (some (.inr (.inl (z0, (ltI z0 (lenL p0)))))))
theorem L60_4_ok (C : Callee) (h126 : ∀ (p0 : Int) (p1 : Int) (p2 : Int), C 126 [I p0, I p1, I p2] = (T126 p0 p1 p2).map B) (h137 : ∀ (p0 : ByteArray), C 137 [S p0] = (T137 p0).map B) (h147 : ∀ (p0 : S38), C 147 [a38 p0] = (T147 p0).map B) (h148 : ∀ (p0 : (List ByteArray)), C 148 [LL S p0] = (T148 p0).map I) (p0 : (List S53)) (z0 : Int) : runs Try.prog C (cfg.fn 60) (finLoop ((cfg.fn 60).keep 4)) [] (execA Try.prog C (cfg.fn 60) (nr Try.f60 [false, false, true, false, true, true]) ((fun z0 : Int => (mkE [(0, LL a53 p0), (9, LL a53 p0), (10, I (lenL p0)), (11, I z0)] [] 73)) z0)) = (L60_4 p0 z0).map (Sum.elim (fun z => .inl ((fun z0 : Int => (mkE [(0, LL a53 p0), (9, LL a53 p0), (10, I (lenL p0)), (11, I z0)] [] 73)) z)) (fun x => .inr ((Sum.elim (fun (x : (Int × Bool)) => (.exit 0, (mkE [(0, LL a53 p0), (9, LL a53 p0), (10, I (lenL p0)), (11, I x.1), (12, B x.2)] [] 73))) (fun (x : Int) => (.ret, (mkE [(2, I x)] [] 73)))) x))) := by
  unfold L60_4
  refine gS 0 ?_
  refine gR 4 (rg Try.f60 4) ?_
  refine se (mkE [(0, LL a53 p0), (9, LL a53 p0), (10, I (lenL p0)), (11, I z0), (12, B (ltI z0 (lenL p0)))] [] 73) ?_
  refine pN ?_
  refine pS ?_
  refine gS 5 ?_
  refine gC 12 (ltI z0 (lenL p0)) ?_ ?_
  · refine gK ?_
    refine pN ?_
    refine pS ?_
    refine gS 15 ?_
    refine gB 1 ?_
    refine gS 6 ?_
    refine gR 5 (rg Try.f60 5) ?_
    refine sg 1 (mkE [(13, I z0), (0, LL a53 p0), (9, LL a53 p0), (10, I (lenL p0)), (11, I z0), (12, B (ltI z0 (lenL p0)))] [] 73) ?_
    refine vo 14 (addrE 29 54 8 a53 .i64 p0 z0) (fun x1 => ?_)
    refine se (mkE [(0, LL a53 p0), (3, I z0), (4, .ba 32 0), (9, LL a53 p0), (10, I (lenL p0)), (11, I z0)] [(32, .box [S x1.f0, S x1.f1, I x1.f2.f0, I x1.f2.f1, LL S x1.f3, I x1.f4, I x1.f5, I x1.f6] false)] 73) ?_
    refine pN ?_
    refine pS ?_
    refine jS 12 (((T137 x1.f0).bind fun x2 => (bif (!x2) then (some (.inr 5)) else (bif (!eqS x1.f1 (ByteArray.mk #[])) then ((T137 x1.f1).bind fun x3 => (bif (!x3) then (some (.inr 5)) else (bif (ltI 0 z0) then ((listAt p0 (subI .i64 z0 1)).bind fun x4 => (bif (ltS x1.f0 x4.f0 || eqS x1.f0 x4.f0) then (some (.inr 7)) else ((T147 x1.f2).bind fun x5 => (bif (!x5) then (some (.inr 1)) else ((T126 x1.f4 0 1000000).bind fun x6 => (bif x6 then (some (.inr 1)) else ((T126 x1.f5 0 1000000).bind fun x7 => (bif x7 then (some (.inr 1)) else ((T126 x1.f6 0 1000000000).bind fun x8 => (bif x8 then (some (.inr 1)) else (some (.inl ())))))))))))) else ((T147 x1.f2).bind fun x9 => (bif (!x9) then (some (.inr 1)) else ((T126 x1.f4 0 1000000).bind fun x10 => (bif x10 then (some (.inr 1)) else ((T126 x1.f5 0 1000000).bind fun x11 => (bif x11 then (some (.inr 1)) else ((T126 x1.f6 0 1000000000).bind fun x12 => (bif x12 then (some (.inr 1)) else (some (.inl ()))))))))))))) else (bif (ltI 0 z0) then ((listAt p0 (subI .i64 z0 1)).bind fun x13 => (bif (ltS x1.f0 x13.f0 || eqS x1.f0 x13.f0) then (some (.inr 7)) else ((T147 x1.f2).bind fun x14 => (bif (!x14) then (some (.inr 1)) else ((T126 x1.f4 0 1000000).bind fun x15 => (bif x15 then (some (.inr 1)) else ((T126 x1.f5 0 1000000).bind fun x16 => (bif x16 then (some (.inr 1)) else ((T126 x1.f6 0 1000000000).bind fun x17 => (bif x17 then (some (.inr 1)) else (some (.inl ())))))))))))) else ((T147 x1.f2).bind fun x18 => (bif (!x18) then (some (.inr 1)) else ((T126 x1.f4 0 1000000).bind fun x19 => (bif x19 then (some (.inr 1)) else ((T126 x1.f5 0 1000000).bind fun x20 => (bif x20 then (some (.inr 1)) else ((T126 x1.f6 0 1000000000).bind fun x21 => (bif x21 then (some (.inr 1)) else (some (.inl ())))))))))))))) : Option (Unit ⊕ Int)) (Sum.elim (fun (x : Unit) => (.normal, (mkE [(0, LL a53 p0), (4, .ba 32 0), (9, LL a53 p0), (10, I (lenL p0)), (11, I z0)] [(32, .box [S x1.f0, S x1.f1, I x1.f2.f0, I x1.f2.f1, LL S x1.f3, I x1.f4, I x1.f5, I x1.f6] false)] 73))) (fun (x : Int) => (.ret, (mkE [(2, I x)] [] 73)))) ?_ (fun y22 => ?_)
    · refine gB 2 ?_
      refine gS 0 ?_
      refine gR 6 (rg Try.f60 6) ?_
      refine sg 2 (mkE [(18, S x1.f0), (17, .ba 32 0), (0, LL a53 p0), (3, I z0), (4, .ba 32 0), (9, LL a53 p0), (10, I (lenL p0)), (11, I z0)] [(32, .box [S x1.f0, S x1.f1, I x1.f2.f0, I x1.f2.f1, LL S x1.f3, I x1.f4, I x1.f5, I x1.f6] false)] 73) ?_
      refine co 19 [] (h137 x1.f0) (fun x2 => ?_)
      refine sg 5 (mkE [(21, B (!x2)), (20, B (!x2)), (19, B x2), (18, S x1.f0), (17, .ba 32 0), (0, LL a53 p0), (3, I z0), (4, .ba 32 0), (9, LL a53 p0), (10, I (lenL p0)), (11, I z0)] [(32, .box [S x1.f0, S x1.f1, I x1.f2.f0, I x1.f2.f1, LL S x1.f3, I x1.f4, I x1.f5, I x1.f6] false)] 73) ?_
      refine sb 21 (!x2) ?_ ?_
      · refine se (mkE [(0, LL a53 p0), (3, I z0), (4, .ba 32 0), (9, LL a53 p0), (10, I (lenL p0)), (11, I z0), (16, B true)] [(32, .box [S x1.f0, S x1.f1, I x1.f2.f0, I x1.f2.f1, LL S x1.f3, I x1.f4, I x1.f5, I x1.f6] false)] 73) ?_
        refine pN ?_
        refine pS ?_
        refine gT (.tmp 16) ?_
        refine gS 0 ?_
        refine gR 7 (rg Try.f60 7) ?_
        refine se (mkE [(2, I 5)] [] 73) ?_
        refine pN ?_
        refine pS ?_
        refine gE ?_
        exact pL
      · refine sg 9 (mkE [(25, B (!eqS x1.f1 (ByteArray.mk #[]))), (24, B (!eqS x1.f1 (ByteArray.mk #[]))), (23, S x1.f1), (22, .ba 32 1), (21, B false), (21, B (!x2)), (20, B (!x2)), (19, B x2), (18, S x1.f0), (17, .ba 32 0), (0, LL a53 p0), (3, I z0), (4, .ba 32 0), (9, LL a53 p0), (10, I (lenL p0)), (11, I z0)] [(32, .box [S x1.f0, S x1.f1, I x1.f2.f0, I x1.f2.f1, LL S x1.f3, I x1.f4, I x1.f5, I x1.f6] false)] 73) ?_
        refine sb 25 (!eqS x1.f1 (ByteArray.mk #[])) ?_ ?_
        · refine sg 11 (mkE [(27, S x1.f1), (26, .ba 32 1), (25, B true), (25, B (!eqS x1.f1 (ByteArray.mk #[]))), (24, B (!eqS x1.f1 (ByteArray.mk #[]))), (23, S x1.f1), (22, .ba 32 1), (21, B false), (21, B (!x2)), (20, B (!x2)), (19, B x2), (18, S x1.f0), (17, .ba 32 0), (0, LL a53 p0), (3, I z0), (4, .ba 32 0), (9, LL a53 p0), (10, I (lenL p0)), (11, I z0)] [(32, .box [S x1.f0, S x1.f1, I x1.f2.f0, I x1.f2.f1, LL S x1.f3, I x1.f4, I x1.f5, I x1.f6] false)] 73) ?_
          refine co 28 [] (h137 x1.f1) (fun x3 => ?_)
          refine se (mkE [(0, LL a53 p0), (3, I z0), (4, .ba 32 0), (9, LL a53 p0), (10, I (lenL p0)), (11, I z0), (16, B (!x3))] [(32, .box [S x1.f0, S x1.f1, I x1.f2.f0, I x1.f2.f1, LL S x1.f3, I x1.f4, I x1.f5, I x1.f6] false)] 73) ?_
          refine pN ?_
          refine pS ?_
          refine gC 16 (!x3) ?_ ?_
          · refine gS 0 ?_
            refine gR 7 (rg Try.f60 7) ?_
            refine se (mkE [(2, I 5)] [] 73) ?_
            refine pN ?_
            refine pS ?_
            refine gE ?_
            exact pL
          · refine gS 0 ?_
            refine gD 8 14 (rg Try.f60 8) [0, 1, 2, 3, 4, 5, 6, 7, 8, 9, 10, 11, 12, 13] ?_
            refine dg 3 [(some 33, { val := I z0 }), (some 34, { val := B (ltI 0 z0) }), (some 35, { val := B (ltI 0 z0) })] ?_
            refine db 2 35 (ltI 0 z0) ?_ ?_
            · refine dg 8 [(some 33, { val := I z0 }), (some 34, { val := B (ltI 0 z0) }), (some 35, { val := B true }), (some 36, { val := .ba 32 0 }), (some 37, { val := S x1.f0 }), (some 38, { val := LL a53 p0 }), (some 39, { val := I z0 }), (some 40, { val := I (subI .i64 z0 1) })] ?_
              refine dv 41 (mkE [(40, I (subI .i64 z0 1)), (39, I z0), (38, LL a53 p0), (35, B true), (34, B (ltI 0 z0)), (33, I z0), (0, LL a53 p0), (3, I z0), (4, .ba 32 0), (9, LL a53 p0), (10, I (lenL p0)), (11, I z0), (16, B (!x3))] [(32, .box [S x1.f0, S x1.f1, I x1.f2.f0, I x1.f2.f1, LL S x1.f3, I x1.f4, I x1.f5, I x1.f6] false)] 73) (addrE 29 54 8 a53 .i64 p0 (subI .i64 z0 1)) (fun x4 => ?_)
              refine dg 14 [(some 33, { val := I z0 }), (some 34, { val := B (ltI 0 z0) }), (some 35, { val := B true }), (some 36, { val := .ba 32 0 }), (some 37, { val := S x1.f0 }), (some 38, { val := LL a53 p0 }), (some 39, { val := I z0 }), (some 40, { val := I (subI .i64 z0 1) }), (some 41, { val := .ia [S x4.f0, S x4.f1, I x4.f2.f0, I x4.f2.f1, LL S x4.f3, I x4.f4, I x4.f5, I x4.f6] 0 }), (some 42, { val := .ia [S x4.f0, S x4.f1, I x4.f2.f0, I x4.f2.f1, LL S x4.f3, I x4.f4, I x4.f5, I x4.f6] 0 }), (some 43, { val := S x4.f0 }), (some 44, { val := B (ltS x1.f0 x4.f0 || eqS x1.f0 x4.f0) }), (some 45, { val := B (ltS x1.f0 x4.f0 || eqS x1.f0 x4.f0) }), (some 32, { val := B (ltS x1.f0 x4.f0 || eqS x1.f0 x4.f0) })] ?_
              refine de (mkE [(32, B (ltS x1.f0 x4.f0 || eqS x1.f0 x4.f0)), (45, B (ltS x1.f0 x4.f0 || eqS x1.f0 x4.f0)), (44, B (ltS x1.f0 x4.f0 || eqS x1.f0 x4.f0)), (43, S x4.f0), (42, .ia [S x4.f0, S x4.f1, I x4.f2.f0, I x4.f2.f1, LL S x4.f3, I x4.f4, I x4.f5, I x4.f6] 0), (41, .ia [S x4.f0, S x4.f1, I x4.f2.f0, I x4.f2.f1, LL S x4.f3, I x4.f4, I x4.f5, I x4.f6] 0), (40, I (subI .i64 z0 1)), (39, I z0), (38, LL a53 p0), (37, S x1.f0), (36, .ba 32 0), (35, B true), (34, B (ltI 0 z0)), (33, I z0), (0, LL a53 p0), (3, I z0), (4, .ba 32 0), (9, LL a53 p0), (10, I (lenL p0)), (11, I z0), (16, B (!x3))] [(32, .box [S x1.f0, S x1.f1, I x1.f2.f0, I x1.f2.f1, LL S x1.f3, I x1.f4, I x1.f5, I x1.f6] false)] 73) ?_
              refine se (mkE [(0, LL a53 p0), (4, .ba 32 0), (9, LL a53 p0), (10, I (lenL p0)), (11, I z0), (32, B (ltS x1.f0 x4.f0 || eqS x1.f0 x4.f0))] [(32, .box [S x1.f0, S x1.f1, I x1.f2.f0, I x1.f2.f1, LL S x1.f3, I x1.f4, I x1.f5, I x1.f6] false)] 73) ?_
              refine pN ?_
              refine pS ?_
              refine gC 32 (ltS x1.f0 x4.f0 || eqS x1.f0 x4.f0) ?_ ?_
              · refine gS 0 ?_
                refine gR 9 (rg Try.f60 9) ?_
                refine se (mkE [(2, I 7)] [] 73) ?_
                refine pN ?_
                refine pS ?_
                refine gE ?_
                exact pL
              · refine gS 0 ?_
                refine gR 10 (rg Try.f60 10) ?_
                refine sg 2 (mkE [(48, a38 x1.f2), (47, .ba 32 2), (0, LL a53 p0), (4, .ba 32 0), (9, LL a53 p0), (10, I (lenL p0)), (11, I z0), (32, B (ltS x1.f0 x4.f0 || eqS x1.f0 x4.f0))] [(32, .box [S x1.f0, S x1.f1, I x1.f2.f0, I x1.f2.f1, LL S x1.f3, I x1.f4, I x1.f5, I x1.f6] false)] 73) ?_
                refine co 49 [] (h147 x1.f2) (fun x5 => ?_)
                refine sg 5 (mkE [(51, B (!x5)), (50, B (!x5)), (49, B x5), (48, a38 x1.f2), (47, .ba 32 2), (0, LL a53 p0), (4, .ba 32 0), (9, LL a53 p0), (10, I (lenL p0)), (11, I z0), (32, B (ltS x1.f0 x4.f0 || eqS x1.f0 x4.f0))] [(32, .box [S x1.f0, S x1.f1, I x1.f2.f0, I x1.f2.f1, LL S x1.f3, I x1.f4, I x1.f5, I x1.f6] false)] 73) ?_
                refine sb 51 (!x5) ?_ ?_
                · refine se (mkE [(0, LL a53 p0), (4, .ba 32 0), (9, LL a53 p0), (10, I (lenL p0)), (11, I z0), (46, B true)] [(32, .box [S x1.f0, S x1.f1, I x1.f2.f0, I x1.f2.f1, LL S x1.f3, I x1.f4, I x1.f5, I x1.f6] false)] 73) ?_
                  refine pN ?_
                  refine pS ?_
                  refine gT (.tmp 46) ?_
                  refine gS 0 ?_
                  refine gR 11 (rg Try.f60 11) ?_
                  refine se (mkE [(2, I 1)] [] 73) ?_
                  refine pN ?_
                  refine pS ?_
                  refine gE ?_
                  exact pL
                · refine sg 7 (mkE [(53, I x1.f4), (52, .ba 32 5), (51, B false), (51, B (!x5)), (50, B (!x5)), (49, B x5), (48, a38 x1.f2), (47, .ba 32 2), (0, LL a53 p0), (4, .ba 32 0), (9, LL a53 p0), (10, I (lenL p0)), (11, I z0), (32, B (ltS x1.f0 x4.f0 || eqS x1.f0 x4.f0))] [(32, .box [S x1.f0, S x1.f1, I x1.f2.f0, I x1.f2.f1, LL S x1.f3, I x1.f4, I x1.f5, I x1.f6] false)] 73) ?_
                  refine co 54 [] (h126 x1.f4 0 1000000) (fun x6 => ?_)
                  refine sg 10 (mkE [(56, B x6), (55, B x6), (54, B x6), (53, I x1.f4), (52, .ba 32 5), (51, B false), (51, B (!x5)), (50, B (!x5)), (49, B x5), (48, a38 x1.f2), (47, .ba 32 2), (0, LL a53 p0), (4, .ba 32 0), (9, LL a53 p0), (10, I (lenL p0)), (11, I z0), (32, B (ltS x1.f0 x4.f0 || eqS x1.f0 x4.f0))] [(32, .box [S x1.f0, S x1.f1, I x1.f2.f0, I x1.f2.f1, LL S x1.f3, I x1.f4, I x1.f5, I x1.f6] false)] 73) ?_
                  refine sb 56 x6 ?_ ?_
                  · refine se (mkE [(0, LL a53 p0), (4, .ba 32 0), (9, LL a53 p0), (10, I (lenL p0)), (11, I z0), (46, B true)] [(32, .box [S x1.f0, S x1.f1, I x1.f2.f0, I x1.f2.f1, LL S x1.f3, I x1.f4, I x1.f5, I x1.f6] false)] 73) ?_
                    refine pN ?_
                    refine pS ?_
                    refine gT (.tmp 46) ?_
                    refine gS 0 ?_
                    refine gR 11 (rg Try.f60 11) ?_
                    refine se (mkE [(2, I 1)] [] 73) ?_
                    refine pN ?_
                    refine pS ?_
                    refine gE ?_
                    exact pL
                  · refine sg 12 (mkE [(58, I x1.f5), (57, .ba 32 6), (56, B false), (56, B x6), (55, B x6), (54, B x6), (53, I x1.f4), (52, .ba 32 5), (51, B false), (51, B (!x5)), (50, B (!x5)), (49, B x5), (48, a38 x1.f2), (47, .ba 32 2), (0, LL a53 p0), (4, .ba 32 0), (9, LL a53 p0), (10, I (lenL p0)), (11, I z0), (32, B (ltS x1.f0 x4.f0 || eqS x1.f0 x4.f0))] [(32, .box [S x1.f0, S x1.f1, I x1.f2.f0, I x1.f2.f1, LL S x1.f3, I x1.f4, I x1.f5, I x1.f6] false)] 73) ?_
                    refine co 59 [] (h126 x1.f5 0 1000000) (fun x7 => ?_)
                    refine sg 15 (mkE [(61, B x7), (60, B x7), (59, B x7), (58, I x1.f5), (57, .ba 32 6), (56, B false), (56, B x6), (55, B x6), (54, B x6), (53, I x1.f4), (52, .ba 32 5), (51, B false), (51, B (!x5)), (50, B (!x5)), (49, B x5), (48, a38 x1.f2), (47, .ba 32 2), (0, LL a53 p0), (4, .ba 32 0), (9, LL a53 p0), (10, I (lenL p0)), (11, I z0), (32, B (ltS x1.f0 x4.f0 || eqS x1.f0 x4.f0))] [(32, .box [S x1.f0, S x1.f1, I x1.f2.f0, I x1.f2.f1, LL S x1.f3, I x1.f4, I x1.f5, I x1.f6] false)] 73) ?_
                    refine sb 61 x7 ?_ ?_
                    · refine se (mkE [(0, LL a53 p0), (4, .ba 32 0), (9, LL a53 p0), (10, I (lenL p0)), (11, I z0), (46, B true)] [(32, .box [S x1.f0, S x1.f1, I x1.f2.f0, I x1.f2.f1, LL S x1.f3, I x1.f4, I x1.f5, I x1.f6] false)] 73) ?_
                      refine pN ?_
                      refine pS ?_
                      refine gT (.tmp 46) ?_
                      refine gS 0 ?_
                      refine gR 11 (rg Try.f60 11) ?_
                      refine se (mkE [(2, I 1)] [] 73) ?_
                      refine pN ?_
                      refine pS ?_
                      refine gE ?_
                      exact pL
                    · refine sg 17 (mkE [(63, I x1.f6), (62, .ba 32 7), (61, B false), (61, B x7), (60, B x7), (59, B x7), (58, I x1.f5), (57, .ba 32 6), (56, B false), (56, B x6), (55, B x6), (54, B x6), (53, I x1.f4), (52, .ba 32 5), (51, B false), (51, B (!x5)), (50, B (!x5)), (49, B x5), (48, a38 x1.f2), (47, .ba 32 2), (0, LL a53 p0), (4, .ba 32 0), (9, LL a53 p0), (10, I (lenL p0)), (11, I z0), (32, B (ltS x1.f0 x4.f0 || eqS x1.f0 x4.f0))] [(32, .box [S x1.f0, S x1.f1, I x1.f2.f0, I x1.f2.f1, LL S x1.f3, I x1.f4, I x1.f5, I x1.f6] false)] 73) ?_
                      refine co 64 [] (h126 x1.f6 0 1000000000) (fun x8 => ?_)
                      refine se (mkE [(0, LL a53 p0), (4, .ba 32 0), (9, LL a53 p0), (10, I (lenL p0)), (11, I z0), (46, B x8)] [(32, .box [S x1.f0, S x1.f1, I x1.f2.f0, I x1.f2.f1, LL S x1.f3, I x1.f4, I x1.f5, I x1.f6] false)] 73) ?_
                      refine pN ?_
                      refine pS ?_
                      refine gC 46 x8 ?_ ?_
                      · refine gS 0 ?_
                        refine gR 11 (rg Try.f60 11) ?_
                        refine se (mkE [(2, I 1)] [] 73) ?_
                        refine pN ?_
                        refine pS ?_
                        refine gE ?_
                        exact pL
                      · refine gK ?_
                        refine pB ?_
                        refine pG (mkE [(0, LL a53 p0), (4, .ba 32 0), (9, LL a53 p0), (10, I (lenL p0)), (11, I z0)] [(32, .box [S x1.f0, S x1.f1, I x1.f2.f0, I x1.f2.f1, LL S x1.f3, I x1.f4, I x1.f5, I x1.f6] false)] 73) ?_
                        exact pL
            · refine dg 14 [(some 33, { val := I z0 }), (some 34, { val := B (ltI 0 z0) }), (some 35, { val := B false }), (some 36, { val := .und }), (some 37, { val := .und }), (some 38, { val := .und }), (some 39, { val := .und }), (some 40, { val := .und }), (some 41, { val := .und }), (some 42, { val := .und }), (some 43, { val := .und }), (some 44, { val := .und }), (some 45, { val := B false }), (some 32, { val := B false })] ?_
              refine de (mkE [(32, B false), (45, B false), (44, .und), (43, .und), (42, .und), (41, .und), (40, .und), (39, .und), (38, .und), (37, .und), (36, .und), (35, B false), (34, B (ltI 0 z0)), (33, I z0), (0, LL a53 p0), (3, I z0), (4, .ba 32 0), (9, LL a53 p0), (10, I (lenL p0)), (11, I z0), (16, B (!x3))] [(32, .box [S x1.f0, S x1.f1, I x1.f2.f0, I x1.f2.f1, LL S x1.f3, I x1.f4, I x1.f5, I x1.f6] false)] 73) ?_
              refine se (mkE [(0, LL a53 p0), (4, .ba 32 0), (9, LL a53 p0), (10, I (lenL p0)), (11, I z0), (32, B false)] [(32, .box [S x1.f0, S x1.f1, I x1.f2.f0, I x1.f2.f1, LL S x1.f3, I x1.f4, I x1.f5, I x1.f6] false)] 73) ?_
              refine pN ?_
              refine pS ?_
              refine gF (.tmp 32) ?_
              refine gS 0 ?_
              refine gR 10 (rg Try.f60 10) ?_
              refine sg 2 (mkE [(48, a38 x1.f2), (47, .ba 32 2), (0, LL a53 p0), (4, .ba 32 0), (9, LL a53 p0), (10, I (lenL p0)), (11, I z0), (32, B false)] [(32, .box [S x1.f0, S x1.f1, I x1.f2.f0, I x1.f2.f1, LL S x1.f3, I x1.f4, I x1.f5, I x1.f6] false)] 73) ?_
              refine co 49 [] (h147 x1.f2) (fun x9 => ?_)
              refine sg 5 (mkE [(51, B (!x9)), (50, B (!x9)), (49, B x9), (48, a38 x1.f2), (47, .ba 32 2), (0, LL a53 p0), (4, .ba 32 0), (9, LL a53 p0), (10, I (lenL p0)), (11, I z0), (32, B false)] [(32, .box [S x1.f0, S x1.f1, I x1.f2.f0, I x1.f2.f1, LL S x1.f3, I x1.f4, I x1.f5, I x1.f6] false)] 73) ?_
              refine sb 51 (!x9) ?_ ?_
              · refine se (mkE [(0, LL a53 p0), (4, .ba 32 0), (9, LL a53 p0), (10, I (lenL p0)), (11, I z0), (46, B true)] [(32, .box [S x1.f0, S x1.f1, I x1.f2.f0, I x1.f2.f1, LL S x1.f3, I x1.f4, I x1.f5, I x1.f6] false)] 73) ?_
                refine pN ?_
                refine pS ?_
                refine gT (.tmp 46) ?_
                refine gS 0 ?_
                refine gR 11 (rg Try.f60 11) ?_
                refine se (mkE [(2, I 1)] [] 73) ?_
                refine pN ?_
                refine pS ?_
                refine gE ?_
                exact pL
              · refine sg 7 (mkE [(53, I x1.f4), (52, .ba 32 5), (51, B false), (51, B (!x9)), (50, B (!x9)), (49, B x9), (48, a38 x1.f2), (47, .ba 32 2), (0, LL a53 p0), (4, .ba 32 0), (9, LL a53 p0), (10, I (lenL p0)), (11, I z0), (32, B false)] [(32, .box [S x1.f0, S x1.f1, I x1.f2.f0, I x1.f2.f1, LL S x1.f3, I x1.f4, I x1.f5, I x1.f6] false)] 73) ?_
                refine co 54 [] (h126 x1.f4 0 1000000) (fun x10 => ?_)
                refine sg 10 (mkE [(56, B x10), (55, B x10), (54, B x10), (53, I x1.f4), (52, .ba 32 5), (51, B false), (51, B (!x9)), (50, B (!x9)), (49, B x9), (48, a38 x1.f2), (47, .ba 32 2), (0, LL a53 p0), (4, .ba 32 0), (9, LL a53 p0), (10, I (lenL p0)), (11, I z0), (32, B false)] [(32, .box [S x1.f0, S x1.f1, I x1.f2.f0, I x1.f2.f1, LL S x1.f3, I x1.f4, I x1.f5, I x1.f6] false)] 73) ?_
                refine sb 56 x10 ?_ ?_
                · refine se (mkE [(0, LL a53 p0), (4, .ba 32 0), (9, LL a53 p0), (10, I (lenL p0)), (11, I z0), (46, B true)] [(32, .box [S x1.f0, S x1.f1, I x1.f2.f0, I x1.f2.f1, LL S x1.f3, I x1.f4, I x1.f5, I x1.f6] false)] 73) ?_
                  refine pN ?_
                  refine pS ?_
                  refine gT (.tmp 46) ?_
                  refine gS 0 ?_
                  refine gR 11 (rg Try.f60 11) ?_
                  refine se (mkE [(2, I 1)] [] 73) ?_
                  refine pN ?_
                  refine pS ?_
                  refine gE ?_
                  exact pL
                · refine sg 12 (mkE [(58, I x1.f5), (57, .ba 32 6), (56, B false), (56, B x10), (55, B x10), (54, B x10), (53, I x1.f4), (52, .ba 32 5), (51, B false), (51, B (!x9)), (50, B (!x9)), (49, B x9), (48, a38 x1.f2), (47, .ba 32 2), (0, LL a53 p0), (4, .ba 32 0), (9, LL a53 p0), (10, I (lenL p0)), (11, I z0), (32, B false)] [(32, .box [S x1.f0, S x1.f1, I x1.f2.f0, I x1.f2.f1, LL S x1.f3, I x1.f4, I x1.f5, I x1.f6] false)] 73) ?_
                  refine co 59 [] (h126 x1.f5 0 1000000) (fun x11 => ?_)
                  refine sg 15 (mkE [(61, B x11), (60, B x11), (59, B x11), (58, I x1.f5), (57, .ba 32 6), (56, B false), (56, B x10), (55, B x10), (54, B x10), (53, I x1.f4), (52, .ba 32 5), (51, B false), (51, B (!x9)), (50, B (!x9)), (49, B x9), (48, a38 x1.f2), (47, .ba 32 2), (0, LL a53 p0), (4, .ba 32 0), (9, LL a53 p0), (10, I (lenL p0)), (11, I z0), (32, B false)] [(32, .box [S x1.f0, S x1.f1, I x1.f2.f0, I x1.f2.f1, LL S x1.f3, I x1.f4, I x1.f5, I x1.f6] false)] 73) ?_
                  refine sb 61 x11 ?_ ?_
                  · refine se (mkE [(0, LL a53 p0), (4, .ba 32 0), (9, LL a53 p0), (10, I (lenL p0)), (11, I z0), (46, B true)] [(32, .box [S x1.f0, S x1.f1, I x1.f2.f0, I x1.f2.f1, LL S x1.f3, I x1.f4, I x1.f5, I x1.f6] false)] 73) ?_
                    refine pN ?_
                    refine pS ?_
                    refine gT (.tmp 46) ?_
                    refine gS 0 ?_
                    refine gR 11 (rg Try.f60 11) ?_
                    refine se (mkE [(2, I 1)] [] 73) ?_
                    refine pN ?_
                    refine pS ?_
                    refine gE ?_
                    exact pL
                  · refine sg 17 (mkE [(63, I x1.f6), (62, .ba 32 7), (61, B false), (61, B x11), (60, B x11), (59, B x11), (58, I x1.f5), (57, .ba 32 6), (56, B false), (56, B x10), (55, B x10), (54, B x10), (53, I x1.f4), (52, .ba 32 5), (51, B false), (51, B (!x9)), (50, B (!x9)), (49, B x9), (48, a38 x1.f2), (47, .ba 32 2), (0, LL a53 p0), (4, .ba 32 0), (9, LL a53 p0), (10, I (lenL p0)), (11, I z0), (32, B false)] [(32, .box [S x1.f0, S x1.f1, I x1.f2.f0, I x1.f2.f1, LL S x1.f3, I x1.f4, I x1.f5, I x1.f6] false)] 73) ?_
                    refine co 64 [] (h126 x1.f6 0 1000000000) (fun x12 => ?_)
                    refine se (mkE [(0, LL a53 p0), (4, .ba 32 0), (9, LL a53 p0), (10, I (lenL p0)), (11, I z0), (46, B x12)] [(32, .box [S x1.f0, S x1.f1, I x1.f2.f0, I x1.f2.f1, LL S x1.f3, I x1.f4, I x1.f5, I x1.f6] false)] 73) ?_
                    refine pN ?_
                    refine pS ?_
                    refine gC 46 x12 ?_ ?_
                    · refine gS 0 ?_
                      refine gR 11 (rg Try.f60 11) ?_
                      refine se (mkE [(2, I 1)] [] 73) ?_
                      refine pN ?_
                      refine pS ?_
                      refine gE ?_
                      exact pL
                    · refine gK ?_
                      refine pB ?_
                      refine pG (mkE [(0, LL a53 p0), (4, .ba 32 0), (9, LL a53 p0), (10, I (lenL p0)), (11, I z0)] [(32, .box [S x1.f0, S x1.f1, I x1.f2.f0, I x1.f2.f1, LL S x1.f3, I x1.f4, I x1.f5, I x1.f6] false)] 73) ?_
                      exact pL
        · refine se (mkE [(0, LL a53 p0), (3, I z0), (4, .ba 32 0), (9, LL a53 p0), (10, I (lenL p0)), (11, I z0), (16, B false)] [(32, .box [S x1.f0, S x1.f1, I x1.f2.f0, I x1.f2.f1, LL S x1.f3, I x1.f4, I x1.f5, I x1.f6] false)] 73) ?_
          refine pN ?_
          refine pS ?_
          refine gF (.tmp 16) ?_
          refine gS 0 ?_
          refine gD 8 14 (rg Try.f60 8) [0, 1, 2, 3, 4, 5, 6, 7, 8, 9, 10, 11, 12, 13] ?_
          refine dg 3 [(some 33, { val := I z0 }), (some 34, { val := B (ltI 0 z0) }), (some 35, { val := B (ltI 0 z0) })] ?_
          refine db 2 35 (ltI 0 z0) ?_ ?_
          · refine dg 8 [(some 33, { val := I z0 }), (some 34, { val := B (ltI 0 z0) }), (some 35, { val := B true }), (some 36, { val := .ba 32 0 }), (some 37, { val := S x1.f0 }), (some 38, { val := LL a53 p0 }), (some 39, { val := I z0 }), (some 40, { val := I (subI .i64 z0 1) })] ?_
            refine dv 41 (mkE [(40, I (subI .i64 z0 1)), (39, I z0), (38, LL a53 p0), (35, B true), (34, B (ltI 0 z0)), (33, I z0), (0, LL a53 p0), (3, I z0), (4, .ba 32 0), (9, LL a53 p0), (10, I (lenL p0)), (11, I z0), (16, B false)] [(32, .box [S x1.f0, S x1.f1, I x1.f2.f0, I x1.f2.f1, LL S x1.f3, I x1.f4, I x1.f5, I x1.f6] false)] 73) (addrE 29 54 8 a53 .i64 p0 (subI .i64 z0 1)) (fun x13 => ?_)
            refine dg 14 [(some 33, { val := I z0 }), (some 34, { val := B (ltI 0 z0) }), (some 35, { val := B true }), (some 36, { val := .ba 32 0 }), (some 37, { val := S x1.f0 }), (some 38, { val := LL a53 p0 }), (some 39, { val := I z0 }), (some 40, { val := I (subI .i64 z0 1) }), (some 41, { val := .ia [S x13.f0, S x13.f1, I x13.f2.f0, I x13.f2.f1, LL S x13.f3, I x13.f4, I x13.f5, I x13.f6] 0 }), (some 42, { val := .ia [S x13.f0, S x13.f1, I x13.f2.f0, I x13.f2.f1, LL S x13.f3, I x13.f4, I x13.f5, I x13.f6] 0 }), (some 43, { val := S x13.f0 }), (some 44, { val := B (ltS x1.f0 x13.f0 || eqS x1.f0 x13.f0) }), (some 45, { val := B (ltS x1.f0 x13.f0 || eqS x1.f0 x13.f0) }), (some 32, { val := B (ltS x1.f0 x13.f0 || eqS x1.f0 x13.f0) })] ?_
            refine de (mkE [(32, B (ltS x1.f0 x13.f0 || eqS x1.f0 x13.f0)), (45, B (ltS x1.f0 x13.f0 || eqS x1.f0 x13.f0)), (44, B (ltS x1.f0 x13.f0 || eqS x1.f0 x13.f0)), (43, S x13.f0), (42, .ia [S x13.f0, S x13.f1, I x13.f2.f0, I x13.f2.f1, LL S x13.f3, I x13.f4, I x13.f5, I x13.f6] 0), (41, .ia [S x13.f0, S x13.f1, I x13.f2.f0, I x13.f2.f1, LL S x13.f3, I x13.f4, I x13.f5, I x13.f6] 0), (40, I (subI .i64 z0 1)), (39, I z0), (38, LL a53 p0), (37, S x1.f0), (36, .ba 32 0), (35, B true), (34, B (ltI 0 z0)), (33, I z0), (0, LL a53 p0), (3, I z0), (4, .ba 32 0), (9, LL a53 p0), (10, I (lenL p0)), (11, I z0), (16, B false)] [(32, .box [S x1.f0, S x1.f1, I x1.f2.f0, I x1.f2.f1, LL S x1.f3, I x1.f4, I x1.f5, I x1.f6] false)] 73) ?_
            refine se (mkE [(0, LL a53 p0), (4, .ba 32 0), (9, LL a53 p0), (10, I (lenL p0)), (11, I z0), (32, B (ltS x1.f0 x13.f0 || eqS x1.f0 x13.f0))] [(32, .box [S x1.f0, S x1.f1, I x1.f2.f0, I x1.f2.f1, LL S x1.f3, I x1.f4, I x1.f5, I x1.f6] false)] 73) ?_
            refine pN ?_
            refine pS ?_
            refine gC 32 (ltS x1.f0 x13.f0 || eqS x1.f0 x13.f0) ?_ ?_
            · refine gS 0 ?_
              refine gR 9 (rg Try.f60 9) ?_
              refine se (mkE [(2, I 7)] [] 73) ?_
              refine pN ?_
              refine pS ?_
              refine gE ?_
              exact pL
            · refine gS 0 ?_
              refine gR 10 (rg Try.f60 10) ?_
              refine sg 2 (mkE [(48, a38 x1.f2), (47, .ba 32 2), (0, LL a53 p0), (4, .ba 32 0), (9, LL a53 p0), (10, I (lenL p0)), (11, I z0), (32, B (ltS x1.f0 x13.f0 || eqS x1.f0 x13.f0))] [(32, .box [S x1.f0, S x1.f1, I x1.f2.f0, I x1.f2.f1, LL S x1.f3, I x1.f4, I x1.f5, I x1.f6] false)] 73) ?_
              refine co 49 [] (h147 x1.f2) (fun x14 => ?_)
              refine sg 5 (mkE [(51, B (!x14)), (50, B (!x14)), (49, B x14), (48, a38 x1.f2), (47, .ba 32 2), (0, LL a53 p0), (4, .ba 32 0), (9, LL a53 p0), (10, I (lenL p0)), (11, I z0), (32, B (ltS x1.f0 x13.f0 || eqS x1.f0 x13.f0))] [(32, .box [S x1.f0, S x1.f1, I x1.f2.f0, I x1.f2.f1, LL S x1.f3, I x1.f4, I x1.f5, I x1.f6] false)] 73) ?_
              refine sb 51 (!x14) ?_ ?_
              · refine se (mkE [(0, LL a53 p0), (4, .ba 32 0), (9, LL a53 p0), (10, I (lenL p0)), (11, I z0), (46, B true)] [(32, .box [S x1.f0, S x1.f1, I x1.f2.f0, I x1.f2.f1, LL S x1.f3, I x1.f4, I x1.f5, I x1.f6] false)] 73) ?_
                refine pN ?_
                refine pS ?_
                refine gT (.tmp 46) ?_
                refine gS 0 ?_
                refine gR 11 (rg Try.f60 11) ?_
                refine se (mkE [(2, I 1)] [] 73) ?_
                refine pN ?_
                refine pS ?_
                refine gE ?_
                exact pL
              · refine sg 7 (mkE [(53, I x1.f4), (52, .ba 32 5), (51, B false), (51, B (!x14)), (50, B (!x14)), (49, B x14), (48, a38 x1.f2), (47, .ba 32 2), (0, LL a53 p0), (4, .ba 32 0), (9, LL a53 p0), (10, I (lenL p0)), (11, I z0), (32, B (ltS x1.f0 x13.f0 || eqS x1.f0 x13.f0))] [(32, .box [S x1.f0, S x1.f1, I x1.f2.f0, I x1.f2.f1, LL S x1.f3, I x1.f4, I x1.f5, I x1.f6] false)] 73) ?_
                refine co 54 [] (h126 x1.f4 0 1000000) (fun x15 => ?_)
                refine sg 10 (mkE [(56, B x15), (55, B x15), (54, B x15), (53, I x1.f4), (52, .ba 32 5), (51, B false), (51, B (!x14)), (50, B (!x14)), (49, B x14), (48, a38 x1.f2), (47, .ba 32 2), (0, LL a53 p0), (4, .ba 32 0), (9, LL a53 p0), (10, I (lenL p0)), (11, I z0), (32, B (ltS x1.f0 x13.f0 || eqS x1.f0 x13.f0))] [(32, .box [S x1.f0, S x1.f1, I x1.f2.f0, I x1.f2.f1, LL S x1.f3, I x1.f4, I x1.f5, I x1.f6] false)] 73) ?_
                refine sb 56 x15 ?_ ?_
                · refine se (mkE [(0, LL a53 p0), (4, .ba 32 0), (9, LL a53 p0), (10, I (lenL p0)), (11, I z0), (46, B true)] [(32, .box [S x1.f0, S x1.f1, I x1.f2.f0, I x1.f2.f1, LL S x1.f3, I x1.f4, I x1.f5, I x1.f6] false)] 73) ?_
                  refine pN ?_
                  refine pS ?_
                  refine gT (.tmp 46) ?_
                  refine gS 0 ?_
                  refine gR 11 (rg Try.f60 11) ?_
                  refine se (mkE [(2, I 1)] [] 73) ?_
                  refine pN ?_
                  refine pS ?_
                  refine gE ?_
                  exact pL
                · refine sg 12 (mkE [(58, I x1.f5), (57, .ba 32 6), (56, B false), (56, B x15), (55, B x15), (54, B x15), (53, I x1.f4), (52, .ba 32 5), (51, B false), (51, B (!x14)), (50, B (!x14)), (49, B x14), (48, a38 x1.f2), (47, .ba 32 2), (0, LL a53 p0), (4, .ba 32 0), (9, LL a53 p0), (10, I (lenL p0)), (11, I z0), (32, B (ltS x1.f0 x13.f0 || eqS x1.f0 x13.f0))] [(32, .box [S x1.f0, S x1.f1, I x1.f2.f0, I x1.f2.f1, LL S x1.f3, I x1.f4, I x1.f5, I x1.f6] false)] 73) ?_
                  refine co 59 [] (h126 x1.f5 0 1000000) (fun x16 => ?_)
                  refine sg 15 (mkE [(61, B x16), (60, B x16), (59, B x16), (58, I x1.f5), (57, .ba 32 6), (56, B false), (56, B x15), (55, B x15), (54, B x15), (53, I x1.f4), (52, .ba 32 5), (51, B false), (51, B (!x14)), (50, B (!x14)), (49, B x14), (48, a38 x1.f2), (47, .ba 32 2), (0, LL a53 p0), (4, .ba 32 0), (9, LL a53 p0), (10, I (lenL p0)), (11, I z0), (32, B (ltS x1.f0 x13.f0 || eqS x1.f0 x13.f0))] [(32, .box [S x1.f0, S x1.f1, I x1.f2.f0, I x1.f2.f1, LL S x1.f3, I x1.f4, I x1.f5, I x1.f6] false)] 73) ?_
                  refine sb 61 x16 ?_ ?_
                  · refine se (mkE [(0, LL a53 p0), (4, .ba 32 0), (9, LL a53 p0), (10, I (lenL p0)), (11, I z0), (46, B true)] [(32, .box [S x1.f0, S x1.f1, I x1.f2.f0, I x1.f2.f1, LL S x1.f3, I x1.f4, I x1.f5, I x1.f6] false)] 73) ?_
                    refine pN ?_
                    refine pS ?_
                    refine gT (.tmp 46) ?_
                    refine gS 0 ?_
                    refine gR 11 (rg Try.f60 11) ?_
                    refine se (mkE [(2, I 1)] [] 73) ?_
                    refine pN ?_
                    refine pS ?_
                    refine gE ?_
                    exact pL
                  · refine sg 17 (mkE [(63, I x1.f6), (62, .ba 32 7), (61, B false), (61, B x16), (60, B x16), (59, B x16), (58, I x1.f5), (57, .ba 32 6), (56, B false), (56, B x15), (55, B x15), (54, B x15), (53, I x1.f4), (52, .ba 32 5), (51, B false), (51, B (!x14)), (50, B (!x14)), (49, B x14), (48, a38 x1.f2), (47, .ba 32 2), (0, LL a53 p0), (4, .ba 32 0), (9, LL a53 p0), (10, I (lenL p0)), (11, I z0), (32, B (ltS x1.f0 x13.f0 || eqS x1.f0 x13.f0))] [(32, .box [S x1.f0, S x1.f1, I x1.f2.f0, I x1.f2.f1, LL S x1.f3, I x1.f4, I x1.f5, I x1.f6] false)] 73) ?_
                    refine co 64 [] (h126 x1.f6 0 1000000000) (fun x17 => ?_)
                    refine se (mkE [(0, LL a53 p0), (4, .ba 32 0), (9, LL a53 p0), (10, I (lenL p0)), (11, I z0), (46, B x17)] [(32, .box [S x1.f0, S x1.f1, I x1.f2.f0, I x1.f2.f1, LL S x1.f3, I x1.f4, I x1.f5, I x1.f6] false)] 73) ?_
                    refine pN ?_
                    refine pS ?_
                    refine gC 46 x17 ?_ ?_
                    · refine gS 0 ?_
                      refine gR 11 (rg Try.f60 11) ?_
                      refine se (mkE [(2, I 1)] [] 73) ?_
                      refine pN ?_
                      refine pS ?_
                      refine gE ?_
                      exact pL
                    · refine gK ?_
                      refine pB ?_
                      refine pG (mkE [(0, LL a53 p0), (4, .ba 32 0), (9, LL a53 p0), (10, I (lenL p0)), (11, I z0)] [(32, .box [S x1.f0, S x1.f1, I x1.f2.f0, I x1.f2.f1, LL S x1.f3, I x1.f4, I x1.f5, I x1.f6] false)] 73) ?_
                      exact pL
          · refine dg 14 [(some 33, { val := I z0 }), (some 34, { val := B (ltI 0 z0) }), (some 35, { val := B false }), (some 36, { val := .und }), (some 37, { val := .und }), (some 38, { val := .und }), (some 39, { val := .und }), (some 40, { val := .und }), (some 41, { val := .und }), (some 42, { val := .und }), (some 43, { val := .und }), (some 44, { val := .und }), (some 45, { val := B false }), (some 32, { val := B false })] ?_
            refine de (mkE [(32, B false), (45, B false), (44, .und), (43, .und), (42, .und), (41, .und), (40, .und), (39, .und), (38, .und), (37, .und), (36, .und), (35, B false), (34, B (ltI 0 z0)), (33, I z0), (0, LL a53 p0), (3, I z0), (4, .ba 32 0), (9, LL a53 p0), (10, I (lenL p0)), (11, I z0), (16, B false)] [(32, .box [S x1.f0, S x1.f1, I x1.f2.f0, I x1.f2.f1, LL S x1.f3, I x1.f4, I x1.f5, I x1.f6] false)] 73) ?_
            refine se (mkE [(0, LL a53 p0), (4, .ba 32 0), (9, LL a53 p0), (10, I (lenL p0)), (11, I z0), (32, B false)] [(32, .box [S x1.f0, S x1.f1, I x1.f2.f0, I x1.f2.f1, LL S x1.f3, I x1.f4, I x1.f5, I x1.f6] false)] 73) ?_
            refine pN ?_
            refine pS ?_
            refine gF (.tmp 32) ?_
            refine gS 0 ?_
            refine gR 10 (rg Try.f60 10) ?_
            refine sg 2 (mkE [(48, a38 x1.f2), (47, .ba 32 2), (0, LL a53 p0), (4, .ba 32 0), (9, LL a53 p0), (10, I (lenL p0)), (11, I z0), (32, B false)] [(32, .box [S x1.f0, S x1.f1, I x1.f2.f0, I x1.f2.f1, LL S x1.f3, I x1.f4, I x1.f5, I x1.f6] false)] 73) ?_
            refine co 49 [] (h147 x1.f2) (fun x18 => ?_)
            refine sg 5 (mkE [(51, B (!x18)), (50, B (!x18)), (49, B x18), (48, a38 x1.f2), (47, .ba 32 2), (0, LL a53 p0), (4, .ba 32 0), (9, LL a53 p0), (10, I (lenL p0)), (11, I z0), (32, B false)] [(32, .box [S x1.f0, S x1.f1, I x1.f2.f0, I x1.f2.f1, LL S x1.f3, I x1.f4, I x1.f5, I x1.f6] false)] 73) ?_
            refine sb 51 (!x18) ?_ ?_
            · refine se (mkE [(0, LL a53 p0), (4, .ba 32 0), (9, LL a53 p0), (10, I (lenL p0)), (11, I z0), (46, B true)] [(32, .box [S x1.f0, S x1.f1, I x1.f2.f0, I x1.f2.f1, LL S x1.f3, I x1.f4, I x1.f5, I x1.f6] false)] 73) ?_
              refine pN ?_
              refine pS ?_
              refine gT (.tmp 46) ?_
              refine gS 0 ?_
              refine gR 11 (rg Try.f60 11) ?_
              refine se (mkE [(2, I 1)] [] 73) ?_
              refine pN ?_
              refine pS ?_
              refine gE ?_
              exact pL
            · refine sg 7 (mkE [(53, I x1.f4), (52, .ba 32 5), (51, B false), (51, B (!x18)), (50, B (!x18)), (49, B x18), (48, a38 x1.f2), (47, .ba 32 2), (0, LL a53 p0), (4, .ba 32 0), (9, LL a53 p0), (10, I (lenL p0)), (11, I z0), (32, B false)] [(32, .box [S x1.f0, S x1.f1, I x1.f2.f0, I x1.f2.f1, LL S x1.f3, I x1.f4, I x1.f5, I x1.f6] false)] 73) ?_
              refine co 54 [] (h126 x1.f4 0 1000000) (fun x19 => ?_)
              refine sg 10 (mkE [(56, B x19), (55, B x19), (54, B x19), (53, I x1.f4), (52, .ba 32 5), (51, B false), (51, B (!x18)), (50, B (!x18)), (49, B x18), (48, a38 x1.f2), (47, .ba 32 2), (0, LL a53 p0), (4, .ba 32 0), (9, LL a53 p0), (10, I (lenL p0)), (11, I z0), (32, B false)] [(32, .box [S x1.f0, S x1.f1, I x1.f2.f0, I x1.f2.f1, LL S x1.f3, I x1.f4, I x1.f5, I x1.f6] false)] 73) ?_
              refine sb 56 x19 ?_ ?_
              · refine se (mkE [(0, LL a53 p0), (4, .ba 32 0), (9, LL a53 p0), (10, I (lenL p0)), (11, I z0), (46, B true)] [(32, .box [S x1.f0, S x1.f1, I x1.f2.f0, I x1.f2.f1, LL S x1.f3, I x1.f4, I x1.f5, I x1.f6] false)] 73) ?_
                refine pN ?_
                refine pS ?_
                refine gT (.tmp 46) ?_
                refine gS 0 ?_
                refine gR 11 (rg Try.f60 11) ?_
                refine se (mkE [(2, I 1)] [] 73) ?_
                refine pN ?_
                refine pS ?_
                refine gE ?_
                exact pL
              · refine sg 12 (mkE [(58, I x1.f5), (57, .ba 32 6), (56, B false), (56, B x19), (55, B x19), (54, B x19), (53, I x1.f4), (52, .ba 32 5), (51, B false), (51, B (!x18)), (50, B (!x18)), (49, B x18), (48, a38 x1.f2), (47, .ba 32 2), (0, LL a53 p0), (4, .ba 32 0), (9, LL a53 p0), (10, I (lenL p0)), (11, I z0), (32, B false)] [(32, .box [S x1.f0, S x1.f1, I x1.f2.f0, I x1.f2.f1, LL S x1.f3, I x1.f4, I x1.f5, I x1.f6] false)] 73) ?_
                refine co 59 [] (h126 x1.f5 0 1000000) (fun x20 => ?_)
                refine sg 15 (mkE [(61, B x20), (60, B x20), (59, B x20), (58, I x1.f5), (57, .ba 32 6), (56, B false), (56, B x19), (55, B x19), (54, B x19), (53, I x1.f4), (52, .ba 32 5), (51, B false), (51, B (!x18)), (50, B (!x18)), (49, B x18), (48, a38 x1.f2), (47, .ba 32 2), (0, LL a53 p0), (4, .ba 32 0), (9, LL a53 p0), (10, I (lenL p0)), (11, I z0), (32, B false)] [(32, .box [S x1.f0, S x1.f1, I x1.f2.f0, I x1.f2.f1, LL S x1.f3, I x1.f4, I x1.f5, I x1.f6] false)] 73) ?_
                refine sb 61 x20 ?_ ?_
                · refine se (mkE [(0, LL a53 p0), (4, .ba 32 0), (9, LL a53 p0), (10, I (lenL p0)), (11, I z0), (46, B true)] [(32, .box [S x1.f0, S x1.f1, I x1.f2.f0, I x1.f2.f1, LL S x1.f3, I x1.f4, I x1.f5, I x1.f6] false)] 73) ?_
                  refine pN ?_
                  refine pS ?_
                  refine gT (.tmp 46) ?_
                  refine gS 0 ?_
                  refine gR 11 (rg Try.f60 11) ?_
                  refine se (mkE [(2, I 1)] [] 73) ?_
                  refine pN ?_
                  refine pS ?_
                  refine gE ?_
                  exact pL
                · refine sg 17 (mkE [(63, I x1.f6), (62, .ba 32 7), (61, B false), (61, B x20), (60, B x20), (59, B x20), (58, I x1.f5), (57, .ba 32 6), (56, B false), (56, B x19), (55, B x19), (54, B x19), (53, I x1.f4), (52, .ba 32 5), (51, B false), (51, B (!x18)), (50, B (!x18)), (49, B x18), (48, a38 x1.f2), (47, .ba 32 2), (0, LL a53 p0), (4, .ba 32 0), (9, LL a53 p0), (10, I (lenL p0)), (11, I z0), (32, B false)] [(32, .box [S x1.f0, S x1.f1, I x1.f2.f0, I x1.f2.f1, LL S x1.f3, I x1.f4, I x1.f5, I x1.f6] false)] 73) ?_
                  refine co 64 [] (h126 x1.f6 0 1000000000) (fun x21 => ?_)
                  refine se (mkE [(0, LL a53 p0), (4, .ba 32 0), (9, LL a53 p0), (10, I (lenL p0)), (11, I z0), (46, B x21)] [(32, .box [S x1.f0, S x1.f1, I x1.f2.f0, I x1.f2.f1, LL S x1.f3, I x1.f4, I x1.f5, I x1.f6] false)] 73) ?_
                  refine pN ?_
                  refine pS ?_
                  refine gC 46 x21 ?_ ?_
                  · refine gS 0 ?_
                    refine gR 11 (rg Try.f60 11) ?_
                    refine se (mkE [(2, I 1)] [] 73) ?_
                    refine pN ?_
                    refine pS ?_
                    refine gE ?_
                    exact pL
                  · refine gK ?_
                    refine pB ?_
                    refine pG (mkE [(0, LL a53 p0), (4, .ba 32 0), (9, LL a53 p0), (10, I (lenL p0)), (11, I z0)] [(32, .box [S x1.f0, S x1.f1, I x1.f2.f0, I x1.f2.f1, LL S x1.f3, I x1.f4, I x1.f5, I x1.f6] false)] 73) ?_
                    exact pL
    refine ss y22 (Z := (Sum.elim (fun (x : Unit) => (.normal, (mkE [(0, LL a53 p0), (4, .ba 32 0), (9, LL a53 p0), (10, I (lenL p0)), (11, I z0)] [(32, .box [S x1.f0, S x1.f1, I x1.f2.f0, I x1.f2.f1, LL S x1.f3, I x1.f4, I x1.f5, I x1.f6] false)] 73))) (fun (x : Int) => (.ret, (mkE [(2, I x)] [] 73))))) (fun y22a => ?_) (fun y22b => ?_)
    · refine pS ?_
      refine gS 13 ?_
      refine gR 12 (rg Try.f60 12) ?_
      refine sg 2 (mkE [(67, LL S x1.f3), (66, .ba 32 4), (0, LL a53 p0), (4, .ba 32 0), (9, LL a53 p0), (10, I (lenL p0)), (11, I z0)] [(32, .box [S x1.f0, S x1.f1, I x1.f2.f0, I x1.f2.f1, LL S x1.f3, I x1.f4, I x1.f5, I x1.f6] false)] 73) ?_
      refine co 68 [] (h148 x1.f3) (fun x23 => ?_)
      refine se (mkE [(0, LL a53 p0), (5, I x23), (9, LL a53 p0), (10, I (lenL p0)), (11, I z0)] [] 73) ?_
      refine pN ?_
      refine pS ?_
      refine gS 0 ?_
      refine gR 13 (rg Try.f60 13) ?_
      refine se (mkE [(0, LL a53 p0), (5, I x23), (9, LL a53 p0), (10, I (lenL p0)), (11, I z0), (70, B (neI x23 0))] [] 73) ?_
      refine pN ?_
      refine pS ?_
      refine gC 70 (neI x23 0) ?_ ?_
      · refine gS 0 ?_
        refine gR 14 (rg Try.f60 14) ?_
        refine se (mkE [(2, I x23)] [] 73) ?_
        refine pN ?_
        refine pS ?_
        refine gE ?_
        exact pL
      · refine gK ?_
        refine pB ?_
        refine pN ?_
        refine pS ?_
        refine gR 15 (rg Try.f60 15) ?_
        refine se (mkE [(0, LL a53 p0), (9, LL a53 p0), (10, I (lenL p0)), (11, I (addI .i64 z0 1))] [] 73) ?_
        exact pL
    · exact pL
  · refine gX 0 ?_
    exact pL
noncomputable def T60 (p0 : (List S53)) : Option Int := (bif (ltI 30 (lenL p0)) then (some 2) else ((iter (L60_4 p0) 0).bind fun y24 => (Sum.elim (fun y24a => (some 0)) (fun y24b => (some y24b)) y24)))
theorem B60 (C : Callee) (h126 : ∀ (p0 : Int) (p1 : Int) (p2 : Int), C 126 [I p0, I p1, I p2] = (T126 p0 p1 p2).map B) (h137 : ∀ (p0 : ByteArray), C 137 [S p0] = (T137 p0).map B) (h147 : ∀ (p0 : S38), C 147 [a38 p0] = (T147 p0).map B) (h148 : ∀ (p0 : (List ByteArray)), C 148 [LL S p0] = (T148 p0).map I) (p0 : (List S53)) : runs Try.prog C (cfg.fn 60) (finFn Try.prog (cfg.fn 60).byval Try.f60) [] (execA Try.prog C (cfg.fn 60) (nr Try.f60 []) (frame0 [LL a53 p0] 73)) = (T60 p0).map I := by
  unfold T60
  refine gS 1 ?_
  refine gR 0 (rg Try.f60 0) ?_
  refine se (mkE [(0, LL a53 p0)] [] 73) ?_
  refine pN ?_
  refine pS ?_
  refine gS 3 ?_
  refine gS 0 ?_
  refine gR 1 (rg Try.f60 1) ?_
  refine sg 1 (mkE [(6, LL a53 p0), (0, LL a53 p0)] [] 73) ?_
  refine eo 7 (I (lenL p0)) (lenE 29 a53 p0) ?_
  refine se (mkE [(0, LL a53 p0), (8, B (ltI 30 (lenL p0)))] [] 73) ?_
  refine pN ?_
  refine pS ?_
  refine gC 8 (ltI 30 (lenL p0)) ?_ ?_
  · refine gS 0 ?_
    refine gR 2 (rg Try.f60 2) ?_
    refine se (mkE [(2, I 2)] [] 73) ?_
    refine pN ?_
    refine pS ?_
    refine gE ?_
    exact pL
  · refine gK ?_
    refine pN ?_
    refine pS ?_
    refine gS 16 ?_
    refine gS 4 ?_
    refine gR 3 (rg Try.f60 3) ?_
    refine sg 1 (mkE [(9, LL a53 p0), (0, LL a53 p0), (8, B (ltI 30 (lenL p0)))] [] 73) ?_
    refine eo 10 (I (lenL p0)) (lenE 29 a53 p0) ?_
    refine se (mkE [(0, LL a53 p0), (9, LL a53 p0), (10, I (lenL p0)), (11, I 0)] [] 73) ?_
    refine pN ?_
    refine pS ?_
    refine gB 0 ?_
    refine lo [(0, none), (9, none), (10, none), (11, none)] (L60_4 p0) (fun z0 : Int => (mkE [(0, LL a53 p0), (9, LL a53 p0), (10, I (lenL p0)), (11, I z0)] [] 73)) (Sum.elim (fun (x : (Int × Bool)) => (.exit 0, (mkE [(0, LL a53 p0), (9, LL a53 p0), (10, I (lenL p0)), (11, I x.1), (12, B x.2)] [] 73))) (fun (x : Int) => (.ret, (mkE [(2, I x)] [] 73)))) 0 (fun z => L60_4_ok C h126 h137 h147 h148 p0 z) ?_
    intro y24
    refine ss y24 (Z := (Sum.elim (fun (x : (Int × Bool)) => (.exit 0, (mkE [(0, LL a53 p0), (9, LL a53 p0), (10, I (lenL p0)), (11, I x.1), (12, B x.2)] [] 73))) (fun (x : Int) => (.ret, (mkE [(2, I x)] [] 73))))) (fun y24a => ?_) (fun y24b => ?_)
    · refine pH ?_
      refine pN ?_
      refine pS ?_
      refine gS 0 ?_
      refine gR 16 (rg Try.f60 16) ?_
      refine se (mkE [(2, I 0)] [] 73) ?_
      refine pN ?_
      refine pS ?_
      refine gE ?_
      exact pL
    · exact pL
theorem F60 (m : Nat) (hm : 4 ≤ m) (p0 : (List S53)) : callA Try.prog cfg m 60 [LL a53 p0] = (T60 p0).map I := by
  obtain ⟨q, rfl⟩ : ∃ q, m = q + 1 := ⟨m - 1, by omega⟩
  exact (callA_body (fn := Try.f60) (c := body_ Try.f60) q _ (by kernel_rfl) (by kernel_rfl) (by kernel_rfl)).trans (B60 _ (fun p0 p1 p2 => F126 q (by omega) p0 p1 p2) (fun p0 => F137 q (by omega) p0) (fun p0 => F147 q (by omega) p0) (fun p0 => F148 q (by omega) p0) p0)

noncomputable def L61_5 (p0 : (List S53)) (z0 : (ByteArray × Int)) : Option ((ByteArray × Int) ⊕ ((ByteArray × Int × Bool) ⊕ Int)) := (bif (ltI z0.2 (lenL p0)) then ((listAt p0 z0.2).bind fun x1 => ((((T51 x1.f0).bind fun x2 => (bif (!x2) then (some (.inr 5)) else (bif (!eqS x1.f1 (ByteArray.mk #[])) then ((T51 x1.f1).bind fun x3 => (bif (!x3) then (some (.inr 5)) else (bif (ltS x1.f0 z0.1 || eqS x1.f0 z0.1) then (some (.inr 7)) else (bif (ltI x1.f2.f0 0) then (some (.inr 1)) else (bif (leI x1.f2.f1 x1.f2.f0) then (some (.inr 1)) else (bif (ltI 345686400000 x1.f2.f1) then (some (.inr 1)) else ((T132 x1.f4 0 1000000).bind fun x4 => (bif (!x4) then (some (.inr 1)) else ((T132 x1.f5 0 1000000).bind fun x5 => (bif (!x5) then (some (.inr 1)) else ((T132 x1.f6 0 1000000000).bind fun x6 => (bif (!x6) then (some (.inr 1)) else (some (.inl ())))))))))))))) else (bif (ltS x1.f0 z0.1 || eqS x1.f0 z0.1) then (some (.inr 7)) else (bif (ltI x1.f2.f0 0) then (some (.inr 1)) else (bif (leI x1.f2.f1 x1.f2.f0) then (some (.inr 1)) else (bif (ltI 345686400000 x1.f2.f1) then (some (.inr 1)) else ((T132 x1.f4 0 1000000).bind fun x7 => (bif (!x7) then (some (.inr 1)) else ((T132 x1.f5 0 1000000).bind fun x8 => (bif (!x8) then (some (.inr 1)) else ((T132 x1.f6 0 1000000000).bind fun x9 => (bif (!x9) then (some (.inr 1)) else (some (.inl ()))))))))))))))) : Option (Unit ⊕ Int)).bind fun y10 => (Sum.elim (fun y10a => ((T149 x1.f3).bind fun x11 => (bif (neI x11 0) then (some (.inr (.inr x11))) else (some (.inl (x1.f0, (addI .i64 z0.2 1))))))) (fun y10b => (some (.inr (.inr y10b)))) y10))) else (some (.inr (.inl (z0.1, z0.2, (ltI z0.2 (lenL p0)))))))
theorem L61_5_ok (C : Callee) (h132 : ∀ (p0 : Int) (p1 : Int) (p2 : Int), C 132 [I p0, I p1, I p2] = (T132 p0 p1 p2).map B) (h149 : ∀ (p0 : (List ByteArray)), C 149 [LL S p0] = (T149 p0).map I) (h51 : ∀ (p0 : ByteArray), C 51 [S p0] = (T51 p0).map B) (p0 : (List S53)) (z0 : (ByteArray × Int)) : runs Try.prog C (cfg.fn 61) (finLoop ((cfg.fn 61).keep 5)) [] (execA Try.prog C (cfg.fn 61) (nr Try.f61 [false, false, true, false, true, true, true]) ((fun z0 : (ByteArray × Int) => (mkE [(3, S z0.1), (10, LL a53 p0), (11, I (lenL p0)), (12, I z0.2)] [] 84)) z0)) = (L61_5 p0 z0).map (Sum.elim (fun z => .inl ((fun z0 : (ByteArray × Int) => (mkE [(3, S z0.1), (10, LL a53 p0), (11, I (lenL p0)), (12, I z0.2)] [] 84)) z)) (fun x => .inr ((Sum.elim (fun (x : (ByteArray × Int × Bool)) => (.exit 0, (mkE [(3, S x.1), (10, LL a53 p0), (11, I (lenL p0)), (12, I x.2.1), (13, B x.2.2)] [] 84))) (fun (x : Int) => (.ret, (mkE [(2, I x)] [] 84)))) x))) := by
  unfold L61_5
  refine gS 0 ?_
  refine gR 5 (rg Try.f61 5) ?_
  refine se (mkE [(3, S z0.1), (10, LL a53 p0), (11, I (lenL p0)), (12, I z0.2), (13, B (ltI z0.2 (lenL p0)))] [] 84) ?_
  refine pN ?_
  refine pS ?_
  refine gS 6 ?_
  refine gC 13 (ltI z0.2 (lenL p0)) ?_ ?_
  · refine gK ?_
    refine pN ?_
    refine pS ?_
    refine gS 17 ?_
    refine gB 1 ?_
    refine gS 7 ?_
    refine gR 6 (rg Try.f61 6) ?_
    refine vo 14 (addrE 29 54 8 a53 .i64 p0 z0.2) (fun x1 => ?_)
    refine se (mkE [(3, S z0.1), (5, .ba 40 0), (10, LL a53 p0), (11, I (lenL p0)), (12, I z0.2)] [(40, .box [S x1.f0, S x1.f1, I x1.f2.f0, I x1.f2.f1, LL S x1.f3, I x1.f4, I x1.f5, I x1.f6] false)] 84) ?_
    refine pN ?_
    refine pS ?_
    refine jS 13 (((T51 x1.f0).bind fun x2 => (bif (!x2) then (some (.inr 5)) else (bif (!eqS x1.f1 (ByteArray.mk #[])) then ((T51 x1.f1).bind fun x3 => (bif (!x3) then (some (.inr 5)) else (bif (ltS x1.f0 z0.1 || eqS x1.f0 z0.1) then (some (.inr 7)) else (bif (ltI x1.f2.f0 0) then (some (.inr 1)) else (bif (leI x1.f2.f1 x1.f2.f0) then (some (.inr 1)) else (bif (ltI 345686400000 x1.f2.f1) then (some (.inr 1)) else ((T132 x1.f4 0 1000000).bind fun x4 => (bif (!x4) then (some (.inr 1)) else ((T132 x1.f5 0 1000000).bind fun x5 => (bif (!x5) then (some (.inr 1)) else ((T132 x1.f6 0 1000000000).bind fun x6 => (bif (!x6) then (some (.inr 1)) else (some (.inl ())))))))))))))) else (bif (ltS x1.f0 z0.1 || eqS x1.f0 z0.1) then (some (.inr 7)) else (bif (ltI x1.f2.f0 0) then (some (.inr 1)) else (bif (leI x1.f2.f1 x1.f2.f0) then (some (.inr 1)) else (bif (ltI 345686400000 x1.f2.f1) then (some (.inr 1)) else ((T132 x1.f4 0 1000000).bind fun x7 => (bif (!x7) then (some (.inr 1)) else ((T132 x1.f5 0 1000000).bind fun x8 => (bif (!x8) then (some (.inr 1)) else ((T132 x1.f6 0 1000000000).bind fun x9 => (bif (!x9) then (some (.inr 1)) else (some (.inl ()))))))))))))))) : Option (Unit ⊕ Int)) (Sum.elim (fun (x : Unit) => (.normal, (mkE [(5, .ba 40 0), (10, LL a53 p0), (11, I (lenL p0)), (12, I z0.2)] [(40, .box [S x1.f0, S x1.f1, I x1.f2.f0, I x1.f2.f1, LL S x1.f3, I x1.f4, I x1.f5, I x1.f6] false)] 84))) (fun (x : Int) => (.ret, (mkE [(2, I x)] [] 84)))) ?_ (fun y10 => ?_)
    · refine gB 2 ?_
      refine gS 0 ?_
      refine gR 7 (rg Try.f61 7) ?_
      refine sg 2 (mkE [(18, S x1.f0), (17, .ba 40 0), (3, S z0.1), (5, .ba 40 0), (10, LL a53 p0), (11, I (lenL p0)), (12, I z0.2)] [(40, .box [S x1.f0, S x1.f1, I x1.f2.f0, I x1.f2.f1, LL S x1.f3, I x1.f4, I x1.f5, I x1.f6] false)] 84) ?_
      refine co 19 [] (h51 x1.f0) (fun x2 => ?_)
      refine sg 5 (mkE [(21, B (!x2)), (20, B (!x2)), (19, B x2), (18, S x1.f0), (17, .ba 40 0), (3, S z0.1), (5, .ba 40 0), (10, LL a53 p0), (11, I (lenL p0)), (12, I z0.2)] [(40, .box [S x1.f0, S x1.f1, I x1.f2.f0, I x1.f2.f1, LL S x1.f3, I x1.f4, I x1.f5, I x1.f6] false)] 84) ?_
      refine sb 21 (!x2) ?_ ?_
      · refine se (mkE [(3, S z0.1), (5, .ba 40 0), (10, LL a53 p0), (11, I (lenL p0)), (12, I z0.2), (16, B true)] [(40, .box [S x1.f0, S x1.f1, I x1.f2.f0, I x1.f2.f1, LL S x1.f3, I x1.f4, I x1.f5, I x1.f6] false)] 84) ?_
        refine pN ?_
        refine pS ?_
        refine gT (.tmp 16) ?_
        refine gS 0 ?_
        refine gR 8 (rg Try.f61 8) ?_
        refine se (mkE [(2, I 5)] [] 84) ?_
        refine pN ?_
        refine pS ?_
        refine gE ?_
        exact pL
      · refine sg 9 (mkE [(25, B (!eqS x1.f1 (ByteArray.mk #[]))), (24, B (!eqS x1.f1 (ByteArray.mk #[]))), (23, S x1.f1), (22, .ba 40 1), (21, B false), (21, B (!x2)), (20, B (!x2)), (19, B x2), (18, S x1.f0), (17, .ba 40 0), (3, S z0.1), (5, .ba 40 0), (10, LL a53 p0), (11, I (lenL p0)), (12, I z0.2)] [(40, .box [S x1.f0, S x1.f1, I x1.f2.f0, I x1.f2.f1, LL S x1.f3, I x1.f4, I x1.f5, I x1.f6] false)] 84) ?_
        refine sb 25 (!eqS x1.f1 (ByteArray.mk #[])) ?_ ?_
        · refine sg 11 (mkE [(27, S x1.f1), (26, .ba 40 1), (25, B true), (25, B (!eqS x1.f1 (ByteArray.mk #[]))), (24, B (!eqS x1.f1 (ByteArray.mk #[]))), (23, S x1.f1), (22, .ba 40 1), (21, B false), (21, B (!x2)), (20, B (!x2)), (19, B x2), (18, S x1.f0), (17, .ba 40 0), (3, S z0.1), (5, .ba 40 0), (10, LL a53 p0), (11, I (lenL p0)), (12, I z0.2)] [(40, .box [S x1.f0, S x1.f1, I x1.f2.f0, I x1.f2.f1, LL S x1.f3, I x1.f4, I x1.f5, I x1.f6] false)] 84) ?_
          refine co 28 [] (h51 x1.f1) (fun x3 => ?_)
          refine se (mkE [(3, S z0.1), (5, .ba 40 0), (10, LL a53 p0), (11, I (lenL p0)), (12, I z0.2), (16, B (!x3))] [(40, .box [S x1.f0, S x1.f1, I x1.f2.f0, I x1.f2.f1, LL S x1.f3, I x1.f4, I x1.f5, I x1.f6] false)] 84) ?_
          refine pN ?_
          refine pS ?_
          refine gC 16 (!x3) ?_ ?_
          · refine gS 0 ?_
            refine gR 8 (rg Try.f61 8) ?_
            refine se (mkE [(2, I 5)] [] 84) ?_
            refine pN ?_
            refine pS ?_
            refine gE ?_
            exact pL
          · refine gS 0 ?_
            refine gR 9 (rg Try.f61 9) ?_
            refine se (mkE [(5, .ba 40 0), (10, LL a53 p0), (11, I (lenL p0)), (12, I z0.2), (32, B (ltS x1.f0 z0.1 || eqS x1.f0 z0.1))] [(40, .box [S x1.f0, S x1.f1, I x1.f2.f0, I x1.f2.f1, LL S x1.f3, I x1.f4, I x1.f5, I x1.f6] false)] 84) ?_
            refine pN ?_
            refine pS ?_
            refine gC 32 (ltS x1.f0 z0.1 || eqS x1.f0 z0.1) ?_ ?_
            · refine gS 0 ?_
              refine gR 10 (rg Try.f61 10) ?_
              refine se (mkE [(2, I 7)] [] 84) ?_
              refine pN ?_
              refine pS ?_
              refine gE ?_
              exact pL
            · refine gS 0 ?_
              refine gR 11 (rg Try.f61 11) ?_
              refine sg 5 (mkE [(42, B (ltI x1.f2.f0 0)), (41, B (ltI x1.f2.f0 0)), (40, I x1.f2.f0), (39, .ba 40 2), (38, .ba 40 2), (5, .ba 40 0), (10, LL a53 p0), (11, I (lenL p0)), (12, I z0.2), (32, B (ltS x1.f0 z0.1 || eqS x1.f0 z0.1))] [(40, .box [S x1.f0, S x1.f1, I x1.f2.f0, I x1.f2.f1, LL S x1.f3, I x1.f4, I x1.f5, I x1.f6] false)] 84) ?_
              refine sb 42 (ltI x1.f2.f0 0) ?_ ?_
              · refine se (mkE [(5, .ba 40 0), (10, LL a53 p0), (11, I (lenL p0)), (12, I z0.2), (37, B true)] [(40, .box [S x1.f0, S x1.f1, I x1.f2.f0, I x1.f2.f1, LL S x1.f3, I x1.f4, I x1.f5, I x1.f6] false)] 84) ?_
                refine pN ?_
                refine pS ?_
                refine gT (.tmp 37) ?_
                refine gS 0 ?_
                refine gR 12 (rg Try.f61 12) ?_
                refine se (mkE [(2, I 1)] [] 84) ?_
                refine pN ?_
                refine pS ?_
                refine gE ?_
                exact pL
              · refine sg 14 (mkE [(51, B (leI x1.f2.f1 x1.f2.f0)), (50, B (leI x1.f2.f1 x1.f2.f0)), (49, B (leI x1.f2.f1 x1.f2.f0)), (48, I x1.f2.f1), (47, .ba 40 3), (46, .ba 40 2), (45, I x1.f2.f0), (44, .ba 40 2), (43, .ba 40 2), (42, B false), (42, B (ltI x1.f2.f0 0)), (41, B (ltI x1.f2.f0 0)), (40, I x1.f2.f0), (39, .ba 40 2), (38, .ba 40 2), (5, .ba 40 0), (10, LL a53 p0), (11, I (lenL p0)), (12, I z0.2), (32, B (ltS x1.f0 z0.1 || eqS x1.f0 z0.1))] [(40, .box [S x1.f0, S x1.f1, I x1.f2.f0, I x1.f2.f1, LL S x1.f3, I x1.f4, I x1.f5, I x1.f6] false)] 84) ?_
                refine sb 51 (leI x1.f2.f1 x1.f2.f0) ?_ ?_
                · refine se (mkE [(5, .ba 40 0), (10, LL a53 p0), (11, I (lenL p0)), (12, I z0.2), (37, B true)] [(40, .box [S x1.f0, S x1.f1, I x1.f2.f0, I x1.f2.f1, LL S x1.f3, I x1.f4, I x1.f5, I x1.f6] false)] 84) ?_
                  refine pN ?_
                  refine pS ?_
                  refine gT (.tmp 37) ?_
                  refine gS 0 ?_
                  refine gR 12 (rg Try.f61 12) ?_
                  refine se (mkE [(2, I 1)] [] 84) ?_
                  refine pN ?_
                  refine pS ?_
                  refine gE ?_
                  exact pL
                · refine sg 20 (mkE [(57, B (ltI 345686400000 x1.f2.f1)), (56, B (ltI 345686400000 x1.f2.f1)), (55, B (ltI 345686400000 x1.f2.f1)), (54, I x1.f2.f1), (53, .ba 40 3), (52, .ba 40 2), (51, B false), (51, B (leI x1.f2.f1 x1.f2.f0)), (50, B (leI x1.f2.f1 x1.f2.f0)), (49, B (leI x1.f2.f1 x1.f2.f0)), (48, I x1.f2.f1), (47, .ba 40 3), (46, .ba 40 2), (45, I x1.f2.f0), (44, .ba 40 2), (43, .ba 40 2), (42, B false), (42, B (ltI x1.f2.f0 0)), (41, B (ltI x1.f2.f0 0)), (40, I x1.f2.f0), (39, .ba 40 2), (38, .ba 40 2), (5, .ba 40 0), (10, LL a53 p0), (11, I (lenL p0)), (12, I z0.2), (32, B (ltS x1.f0 z0.1 || eqS x1.f0 z0.1))] [(40, .box [S x1.f0, S x1.f1, I x1.f2.f0, I x1.f2.f1, LL S x1.f3, I x1.f4, I x1.f5, I x1.f6] false)] 84) ?_
                  refine sb 57 (ltI 345686400000 x1.f2.f1) ?_ ?_
                  · refine se (mkE [(5, .ba 40 0), (10, LL a53 p0), (11, I (lenL p0)), (12, I z0.2), (37, B true)] [(40, .box [S x1.f0, S x1.f1, I x1.f2.f0, I x1.f2.f1, LL S x1.f3, I x1.f4, I x1.f5, I x1.f6] false)] 84) ?_
                    refine pN ?_
                    refine pS ?_
                    refine gT (.tmp 37) ?_
                    refine gS 0 ?_
                    refine gR 12 (rg Try.f61 12) ?_
                    refine se (mkE [(2, I 1)] [] 84) ?_
                    refine pN ?_
                    refine pS ?_
                    refine gE ?_
                    exact pL
                  · refine sg 22 (mkE [(59, I x1.f4), (58, .ba 40 5), (57, B false), (57, B (ltI 345686400000 x1.f2.f1)), (56, B (ltI 345686400000 x1.f2.f1)), (55, B (ltI 345686400000 x1.f2.f1)), (54, I x1.f2.f1), (53, .ba 40 3), (52, .ba 40 2), (51, B false), (51, B (leI x1.f2.f1 x1.f2.f0)), (50, B (leI x1.f2.f1 x1.f2.f0)), (49, B (leI x1.f2.f1 x1.f2.f0)), (48, I x1.f2.f1), (47, .ba 40 3), (46, .ba 40 2), (45, I x1.f2.f0), (44, .ba 40 2), (43, .ba 40 2), (42, B false), (42, B (ltI x1.f2.f0 0)), (41, B (ltI x1.f2.f0 0)), (40, I x1.f2.f0), (39, .ba 40 2), (38, .ba 40 2), (5, .ba 40 0), (10, LL a53 p0), (11, I (lenL p0)), (12, I z0.2), (32, B (ltS x1.f0 z0.1 || eqS x1.f0 z0.1))] [(40, .box [S x1.f0, S x1.f1, I x1.f2.f0, I x1.f2.f1, LL S x1.f3, I x1.f4, I x1.f5, I x1.f6] false)] 84) ?_
                    refine co 60 [] (h132 x1.f4 0 1000000) (fun x4 => ?_)
                    refine sg 26 (mkE [(63, B (!x4)), (62, B (!x4)), (61, B (!x4)), (60, B x4), (59, I x1.f4), (58, .ba 40 5), (57, B false), (57, B (ltI 345686400000 x1.f2.f1)), (56, B (ltI 345686400000 x1.f2.f1)), (55, B (ltI 345686400000 x1.f2.f1)), (54, I x1.f2.f1), (53, .ba 40 3), (52, .ba 40 2), (51, B false), (51, B (leI x1.f2.f1 x1.f2.f0)), (50, B (leI x1.f2.f1 x1.f2.f0)), (49, B (leI x1.f2.f1 x1.f2.f0)), (48, I x1.f2.f1), (47, .ba 40 3), (46, .ba 40 2), (45, I x1.f2.f0), (44, .ba 40 2), (43, .ba 40 2), (42, B false), (42, B (ltI x1.f2.f0 0)), (41, B (ltI x1.f2.f0 0)), (40, I x1.f2.f0), (39, .ba 40 2), (38, .ba 40 2), (5, .ba 40 0), (10, LL a53 p0), (11, I (lenL p0)), (12, I z0.2), (32, B (ltS x1.f0 z0.1 || eqS x1.f0 z0.1))] [(40, .box [S x1.f0, S x1.f1, I x1.f2.f0, I x1.f2.f1, LL S x1.f3, I x1.f4, I x1.f5, I x1.f6] false)] 84) ?_
                    refine sb 63 (!x4) ?_ ?_
                    · refine se (mkE [(5, .ba 40 0), (10, LL a53 p0), (11, I (lenL p0)), (12, I z0.2), (37, B true)] [(40, .box [S x1.f0, S x1.f1, I x1.f2.f0, I x1.f2.f1, LL S x1.f3, I x1.f4, I x1.f5, I x1.f6] false)] 84) ?_
                      refine pN ?_
                      refine pS ?_
                      refine gT (.tmp 37) ?_
                      refine gS 0 ?_
                      refine gR 12 (rg Try.f61 12) ?_
                      refine se (mkE [(2, I 1)] [] 84) ?_
                      refine pN ?_
                      refine pS ?_
                      refine gE ?_
                      exact pL
                    · refine sg 28 (mkE [(65, I x1.f5), (64, .ba 40 6), (63, B false), (63, B (!x4)), (62, B (!x4)), (61, B (!x4)), (60, B x4), (59, I x1.f4), (58, .ba 40 5), (57, B false), (57, B (ltI 345686400000 x1.f2.f1)), (56, B (ltI 345686400000 x1.f2.f1)), (55, B (ltI 345686400000 x1.f2.f1)), (54, I x1.f2.f1), (53, .ba 40 3), (52, .ba 40 2), (51, B false), (51, B (leI x1.f2.f1 x1.f2.f0)), (50, B (leI x1.f2.f1 x1.f2.f0)), (49, B (leI x1.f2.f1 x1.f2.f0)), (48, I x1.f2.f1), (47, .ba 40 3), (46, .ba 40 2), (45, I x1.f2.f0), (44, .ba 40 2), (43, .ba 40 2), (42, B false), (42, B (ltI x1.f2.f0 0)), (41, B (ltI x1.f2.f0 0)), (40, I x1.f2.f0), (39, .ba 40 2), (38, .ba 40 2), (5, .ba 40 0), (10, LL a53 p0), (11, I (lenL p0)), (12, I z0.2), (32, B (ltS x1.f0 z0.1 || eqS x1.f0 z0.1))] [(40, .box [S x1.f0, S x1.f1, I x1.f2.f0, I x1.f2.f1, LL S x1.f3, I x1.f4, I x1.f5, I x1.f6] false)] 84) ?_
                      refine co 66 [] (h132 x1.f5 0 1000000) (fun x5 => ?_)
                      refine sg 32 (mkE [(69, B (!x5)), (68, B (!x5)), (67, B (!x5)), (66, B x5), (65, I x1.f5), (64, .ba 40 6), (63, B false), (63, B (!x4)), (62, B (!x4)), (61, B (!x4)), (60, B x4), (59, I x1.f4), (58, .ba 40 5), (57, B false), (57, B (ltI 345686400000 x1.f2.f1)), (56, B (ltI 345686400000 x1.f2.f1)), (55, B (ltI 345686400000 x1.f2.f1)), (54, I x1.f2.f1), (53, .ba 40 3), (52, .ba 40 2), (51, B false), (51, B (leI x1.f2.f1 x1.f2.f0)), (50, B (leI x1.f2.f1 x1.f2.f0)), (49, B (leI x1.f2.f1 x1.f2.f0)), (48, I x1.f2.f1), (47, .ba 40 3), (46, .ba 40 2), (45, I x1.f2.f0), (44, .ba 40 2), (43, .ba 40 2), (42, B false), (42, B (ltI x1.f2.f0 0)), (41, B (ltI x1.f2.f0 0)), (40, I x1.f2.f0), (39, .ba 40 2), (38, .ba 40 2), (5, .ba 40 0), (10, LL a53 p0), (11, I (lenL p0)), (12, I z0.2), (32, B (ltS x1.f0 z0.1 || eqS x1.f0 z0.1))] [(40, .box [S x1.f0, S x1.f1, I x1.f2.f0, I x1.f2.f1, LL S x1.f3, I x1.f4, I x1.f5, I x1.f6] false)] 84) ?_
                      refine sb 69 (!x5) ?_ ?_
                      · refine se (mkE [(5, .ba 40 0), (10, LL a53 p0), (11, I (lenL p0)), (12, I z0.2), (37, B true)] [(40, .box [S x1.f0, S x1.f1, I x1.f2.f0, I x1.f2.f1, LL S x1.f3, I x1.f4, I x1.f5, I x1.f6] false)] 84) ?_
                        refine pN ?_
                        refine pS ?_
                        refine gT (.tmp 37) ?_
                        refine gS 0 ?_
                        refine gR 12 (rg Try.f61 12) ?_
                        refine se (mkE [(2, I 1)] [] 84) ?_
                        refine pN ?_
                        refine pS ?_
                        refine gE ?_
                        exact pL
                      · refine sg 34 (mkE [(71, I x1.f6), (70, .ba 40 7), (69, B false), (69, B (!x5)), (68, B (!x5)), (67, B (!x5)), (66, B x5), (65, I x1.f5), (64, .ba 40 6), (63, B false), (63, B (!x4)), (62, B (!x4)), (61, B (!x4)), (60, B x4), (59, I x1.f4), (58, .ba 40 5), (57, B false), (57, B (ltI 345686400000 x1.f2.f1)), (56, B (ltI 345686400000 x1.f2.f1)), (55, B (ltI 345686400000 x1.f2.f1)), (54, I x1.f2.f1), (53, .ba 40 3), (52, .ba 40 2), (51, B false), (51, B (leI x1.f2.f1 x1.f2.f0)), (50, B (leI x1.f2.f1 x1.f2.f0)), (49, B (leI x1.f2.f1 x1.f2.f0)), (48, I x1.f2.f1), (47, .ba 40 3), (46, .ba 40 2), (45, I x1.f2.f0), (44, .ba 40 2), (43, .ba 40 2), (42, B false), (42, B (ltI x1.f2.f0 0)), (41, B (ltI x1.f2.f0 0)), (40, I x1.f2.f0), (39, .ba 40 2), (38, .ba 40 2), (5, .ba 40 0), (10, LL a53 p0), (11, I (lenL p0)), (12, I z0.2), (32, B (ltS x1.f0 z0.1 || eqS x1.f0 z0.1))] [(40, .box [S x1.f0, S x1.f1, I x1.f2.f0, I x1.f2.f1, LL S x1.f3, I x1.f4, I x1.f5, I x1.f6] false)] 84) ?_
                        refine co 72 [] (h132 x1.f6 0 1000000000) (fun x6 => ?_)
                        refine se (mkE [(5, .ba 40 0), (10, LL a53 p0), (11, I (lenL p0)), (12, I z0.2), (37, B (!x6))] [(40, .box [S x1.f0, S x1.f1, I x1.f2.f0, I x1.f2.f1, LL S x1.f3, I x1.f4, I x1.f5, I x1.f6] false)] 84) ?_
                        refine pN ?_
                        refine pS ?_
                        refine gC 37 (!x6) ?_ ?_
                        · refine gS 0 ?_
                          refine gR 12 (rg Try.f61 12) ?_
                          refine se (mkE [(2, I 1)] [] 84) ?_
                          refine pN ?_
                          refine pS ?_
                          refine gE ?_
                          exact pL
                        · refine gK ?_
                          refine pB ?_
                          refine pG (mkE [(5, .ba 40 0), (10, LL a53 p0), (11, I (lenL p0)), (12, I z0.2)] [(40, .box [S x1.f0, S x1.f1, I x1.f2.f0, I x1.f2.f1, LL S x1.f3, I x1.f4, I x1.f5, I x1.f6] false)] 84) ?_
                          exact pL
        · refine se (mkE [(3, S z0.1), (5, .ba 40 0), (10, LL a53 p0), (11, I (lenL p0)), (12, I z0.2), (16, B false)] [(40, .box [S x1.f0, S x1.f1, I x1.f2.f0, I x1.f2.f1, LL S x1.f3, I x1.f4, I x1.f5, I x1.f6] false)] 84) ?_
          refine pN ?_
          refine pS ?_
          refine gF (.tmp 16) ?_
          refine gS 0 ?_
          refine gR 9 (rg Try.f61 9) ?_
          refine se (mkE [(5, .ba 40 0), (10, LL a53 p0), (11, I (lenL p0)), (12, I z0.2), (32, B (ltS x1.f0 z0.1 || eqS x1.f0 z0.1))] [(40, .box [S x1.f0, S x1.f1, I x1.f2.f0, I x1.f2.f1, LL S x1.f3, I x1.f4, I x1.f5, I x1.f6] false)] 84) ?_
          refine pN ?_
          refine pS ?_
          refine gC 32 (ltS x1.f0 z0.1 || eqS x1.f0 z0.1) ?_ ?_
          · refine gS 0 ?_
            refine gR 10 (rg Try.f61 10) ?_
            refine se (mkE [(2, I 7)] [] 84) ?_
            refine pN ?_
            refine pS ?_
            refine gE ?_
            exact pL
          · refine gS 0 ?_
            refine gR 11 (rg Try.f61 11) ?_
            refine sg 5 (mkE [(42, B (ltI x1.f2.f0 0)), (41, B (ltI x1.f2.f0 0)), (40, I x1.f2.f0), (39, .ba 40 2), (38, .ba 40 2), (5, .ba 40 0), (10, LL a53 p0), (11, I (lenL p0)), (12, I z0.2), (32, B (ltS x1.f0 z0.1 || eqS x1.f0 z0.1))] [(40, .box [S x1.f0, S x1.f1, I x1.f2.f0, I x1.f2.f1, LL S x1.f3, I x1.f4, I x1.f5, I x1.f6] false)] 84) ?_
            refine sb 42 (ltI x1.f2.f0 0) ?_ ?_
            · refine se (mkE [(5, .ba 40 0), (10, LL a53 p0), (11, I (lenL p0)), (12, I z0.2), (37, B true)] [(40, .box [S x1.f0, S x1.f1, I x1.f2.f0, I x1.f2.f1, LL S x1.f3, I x1.f4, I x1.f5, I x1.f6] false)] 84) ?_
              refine pN ?_
              refine pS ?_
              refine gT (.tmp 37) ?_
              refine gS 0 ?_
              refine gR 12 (rg Try.f61 12) ?_
              refine se (mkE [(2, I 1)] [] 84) ?_
              refine pN ?_
              refine pS ?_
              refine gE ?_
              exact pL
            · refine sg 14 (mkE [(51, B (leI x1.f2.f1 x1.f2.f0)), (50, B (leI x1.f2.f1 x1.f2.f0)), (49, B (leI x1.f2.f1 x1.f2.f0)), (48, I x1.f2.f1), (47, .ba 40 3), (46, .ba 40 2), (45, I x1.f2.f0), (44, .ba 40 2), (43, .ba 40 2), (42, B false), (42, B (ltI x1.f2.f0 0)), (41, B (ltI x1.f2.f0 0)), (40, I x1.f2.f0), (39, .ba 40 2), (38, .ba 40 2), (5, .ba 40 0), (10, LL a53 p0), (11, I (lenL p0)), (12, I z0.2), (32, B (ltS x1.f0 z0.1 || eqS x1.f0 z0.1))] [(40, .box [S x1.f0, S x1.f1, I x1.f2.f0, I x1.f2.f1, LL S x1.f3, I x1.f4, I x1.f5, I x1.f6] false)] 84) ?_
              refine sb 51 (leI x1.f2.f1 x1.f2.f0) ?_ ?_
              · refine se (mkE [(5, .ba 40 0), (10, LL a53 p0), (11, I (lenL p0)), (12, I z0.2), (37, B true)] [(40, .box [S x1.f0, S x1.f1, I x1.f2.f0, I x1.f2.f1, LL S x1.f3, I x1.f4, I x1.f5, I x1.f6] false)] 84) ?_
                refine pN ?_
                refine pS ?_
                refine gT (.tmp 37) ?_
                refine gS 0 ?_
                refine gR 12 (rg Try.f61 12) ?_
                refine se (mkE [(2, I 1)] [] 84) ?_
                refine pN ?_
                refine pS ?_
                refine gE ?_
                exact pL
              · refine sg 20 (mkE [(57, B (ltI 345686400000 x1.f2.f1)), (56, B (ltI 345686400000 x1.f2.f1)), (55, B (ltI 345686400000 x1.f2.f1)), (54, I x1.f2.f1), (53, .ba 40 3), (52, .ba 40 2), (51, B false), (51, B (leI x1.f2.f1 x1.f2.f0)), (50, B (leI x1.f2.f1 x1.f2.f0)), (49, B (leI x1.f2.f1 x1.f2.f0)), (48, I x1.f2.f1), (47, .ba 40 3), (46, .ba 40 2), (45, I x1.f2.f0), (44, .ba 40 2), (43, .ba 40 2), (42, B false), (42, B (ltI x1.f2.f0 0)), (41, B (ltI x1.f2.f0 0)), (40, I x1.f2.f0), (39, .ba 40 2), (38, .ba 40 2), (5, .ba 40 0), (10, LL a53 p0), (11, I (lenL p0)), (12, I z0.2), (32, B (ltS x1.f0 z0.1 || eqS x1.f0 z0.1))] [(40, .box [S x1.f0, S x1.f1, I x1.f2.f0, I x1.f2.f1, LL S x1.f3, I x1.f4, I x1.f5, I x1.f6] false)] 84) ?_
                refine sb 57 (ltI 345686400000 x1.f2.f1) ?_ ?_
                · refine se (mkE [(5, .ba 40 0), (10, LL a53 p0), (11, I (lenL p0)), (12, I z0.2), (37, B true)] [(40, .box [S x1.f0, S x1.f1, I x1.f2.f0, I x1.f2.f1, LL S x1.f3, I x1.f4, I x1.f5, I x1.f6] false)] 84) ?_
                  refine pN ?_
                  refine pS ?_
                  refine gT (.tmp 37) ?_
                  refine gS 0 ?_
                  refine gR 12 (rg Try.f61 12) ?_
                  refine se (mkE [(2, I 1)] [] 84) ?_
                  refine pN ?_
                  refine pS ?_
                  refine gE ?_
                  exact pL
                · refine sg 22 (mkE [(59, I x1.f4), (58, .ba 40 5), (57, B false), (57, B (ltI 345686400000 x1.f2.f1)), (56, B (ltI 345686400000 x1.f2.f1)), (55, B (ltI 345686400000 x1.f2.f1)), (54, I x1.f2.f1), (53, .ba 40 3), (52, .ba 40 2), (51, B false), (51, B (leI x1.f2.f1 x1.f2.f0)), (50, B (leI x1.f2.f1 x1.f2.f0)), (49, B (leI x1.f2.f1 x1.f2.f0)), (48, I x1.f2.f1), (47, .ba 40 3), (46, .ba 40 2), (45, I x1.f2.f0), (44, .ba 40 2), (43, .ba 40 2), (42, B false), (42, B (ltI x1.f2.f0 0)), (41, B (ltI x1.f2.f0 0)), (40, I x1.f2.f0), (39, .ba 40 2), (38, .ba 40 2), (5, .ba 40 0), (10, LL a53 p0), (11, I (lenL p0)), (12, I z0.2), (32, B (ltS x1.f0 z0.1 || eqS x1.f0 z0.1))] [(40, .box [S x1.f0, S x1.f1, I x1.f2.f0, I x1.f2.f1, LL S x1.f3, I x1.f4, I x1.f5, I x1.f6] false)] 84) ?_
                  refine co 60 [] (h132 x1.f4 0 1000000) (fun x7 => ?_)
                  refine sg 26 (mkE [(63, B (!x7)), (62, B (!x7)), (61, B (!x7)), (60, B x7), (59, I x1.f4), (58, .ba 40 5), (57, B false), (57, B (ltI 345686400000 x1.f2.f1)), (56, B (ltI 345686400000 x1.f2.f1)), (55, B (ltI 345686400000 x1.f2.f1)), (54, I x1.f2.f1), (53, .ba 40 3), (52, .ba 40 2), (51, B false), (51, B (leI x1.f2.f1 x1.f2.f0)), (50, B (leI x1.f2.f1 x1.f2.f0)), (49, B (leI x1.f2.f1 x1.f2.f0)), (48, I x1.f2.f1), (47, .ba 40 3), (46, .ba 40 2), (45, I x1.f2.f0), (44, .ba 40 2), (43, .ba 40 2), (42, B false), (42, B (ltI x1.f2.f0 0)), (41, B (ltI x1.f2.f0 0)), (40, I x1.f2.f0), (39, .ba 40 2), (38, .ba 40 2), (5, .ba 40 0), (10, LL a53 p0), (11, I (lenL p0)), (12, I z0.2), (32, B (ltS x1.f0 z0.1 || eqS x1.f0 z0.1))] [(40, .box [S x1.f0, S x1.f1, I x1.f2.f0, I x1.f2.f1, LL S x1.f3, I x1.f4, I x1.f5, I x1.f6] false)] 84) ?_
                  refine sb 63 (!x7) ?_ ?_
                  · refine se (mkE [(5, .ba 40 0), (10, LL a53 p0), (11, I (lenL p0)), (12, I z0.2), (37, B true)] [(40, .box [S x1.f0, S x1.f1, I x1.f2.f0, I x1.f2.f1, LL S x1.f3, I x1.f4, I x1.f5, I x1.f6] false)] 84) ?_
                    refine pN ?_
                    refine pS ?_
                    refine gT (.tmp 37) ?_
                    refine gS 0 ?_
                    refine gR 12 (rg Try.f61 12) ?_
                    refine se (mkE [(2, I 1)] [] 84) ?_
                    refine pN ?_
                    refine pS ?_
                    refine gE ?_
                    exact pL
                  · refine sg 28 (mkE [(65, I x1.f5), (64, .ba 40 6), (63, B false), (63, B (!x7)), (62, B (!x7)), (61, B (!x7)), (60, B x7), (59, I x1.f4), (58, .ba 40 5), (57, B false), (57, B (ltI 345686400000 x1.f2.f1)), (56, B (ltI 345686400000 x1.f2.f1)), (55, B (ltI 345686400000 x1.f2.f1)), (54, I x1.f2.f1), (53, .ba 40 3), (52, .ba 40 2), (51, B false), (51, B (leI x1.f2.f1 x1.f2.f0)), (50, B (leI x1.f2.f1 x1.f2.f0)), (49, B (leI x1.f2.f1 x1.f2.f0)), (48, I x1.f2.f1), (47, .ba 40 3), (46, .ba 40 2), (45, I x1.f2.f0), (44, .ba 40 2), (43, .ba 40 2), (42, B false), (42, B (ltI x1.f2.f0 0)), (41, B (ltI x1.f2.f0 0)), (40, I x1.f2.f0), (39, .ba 40 2), (38, .ba 40 2), (5, .ba 40 0), (10, LL a53 p0), (11, I (lenL p0)), (12, I z0.2), (32, B (ltS x1.f0 z0.1 || eqS x1.f0 z0.1))] [(40, .box [S x1.f0, S x1.f1, I x1.f2.f0, I x1.f2.f1, LL S x1.f3, I x1.f4, I x1.f5, I x1.f6] false)] 84) ?_
                    refine co 66 [] (h132 x1.f5 0 1000000) (fun x8 => ?_)
                    refine sg 32 (mkE [(69, B (!x8)), (68, B (!x8)), (67, B (!x8)), (66, B x8), (65, I x1.f5), (64, .ba 40 6), (63, B false), (63, B (!x7)), (62, B (!x7)), (61, B (!x7)), (60, B x7), (59, I x1.f4), (58, .ba 40 5), (57, B false), (57, B (ltI 345686400000 x1.f2.f1)), (56, B (ltI 345686400000 x1.f2.f1)), (55, B (ltI 345686400000 x1.f2.f1)), (54, I x1.f2.f1), (53, .ba 40 3), (52, .ba 40 2), (51, B false), (51, B (leI x1.f2.f1 x1.f2.f0)), (50, B (leI x1.f2.f1 x1.f2.f0)), (49, B (leI x1.f2.f1 x1.f2.f0)), (48, I x1.f2.f1), (47, .ba 40 3), (46, .ba 40 2), (45, I x1.f2.f0), (44, .ba 40 2), (43, .ba 40 2), (42, B false), (42, B (ltI x1.f2.f0 0)), (41, B (ltI x1.f2.f0 0)), (40, I x1.f2.f0), (39, .ba 40 2), (38, .ba 40 2), (5, .ba 40 0), (10, LL a53 p0), (11, I (lenL p0)), (12, I z0.2), (32, B (ltS x1.f0 z0.1 || eqS x1.f0 z0.1))] [(40, .box [S x1.f0, S x1.f1, I x1.f2.f0, I x1.f2.f1, LL S x1.f3, I x1.f4, I x1.f5, I x1.f6] false)] 84) ?_
                    refine sb 69 (!x8) ?_ ?_
                    · refine se (mkE [(5, .ba 40 0), (10, LL a53 p0), (11, I (lenL p0)), (12, I z0.2), (37, B true)] [(40, .box [S x1.f0, S x1.f1, I x1.f2.f0, I x1.f2.f1, LL S x1.f3, I x1.f4, I x1.f5, I x1.f6] false)] 84) ?_
                      refine pN ?_
                      refine pS ?_
                      refine gT (.tmp 37) ?_
                      refine gS 0 ?_
                      refine gR 12 (rg Try.f61 12) ?_
                      refine se (mkE [(2, I 1)] [] 84) ?_
                      refine pN ?_
                      refine pS ?_
                      refine gE ?_
                      exact pL
                    · refine sg 34 (mkE [(71, I x1.f6), (70, .ba 40 7), (69, B false), (69, B (!x8)), (68, B (!x8)), (67, B (!x8)), (66, B x8), (65, I x1.f5), (64, .ba 40 6), (63, B false), (63, B (!x7)), (62, B (!x7)), (61, B (!x7)), (60, B x7), (59, I x1.f4), (58, .ba 40 5), (57, B false), (57, B (ltI 345686400000 x1.f2.f1)), (56, B (ltI 345686400000 x1.f2.f1)), (55, B (ltI 345686400000 x1.f2.f1)), (54, I x1.f2.f1), (53, .ba 40 3), (52, .ba 40 2), (51, B false), (51, B (leI x1.f2.f1 x1.f2.f0)), (50, B (leI x1.f2.f1 x1.f2.f0)), (49, B (leI x1.f2.f1 x1.f2.f0)), (48, I x1.f2.f1), (47, .ba 40 3), (46, .ba 40 2), (45, I x1.f2.f0), (44, .ba 40 2), (43, .ba 40 2), (42, B false), (42, B (ltI x1.f2.f0 0)), (41, B (ltI x1.f2.f0 0)), (40, I x1.f2.f0), (39, .ba 40 2), (38, .ba 40 2), (5, .ba 40 0), (10, LL a53 p0), (11, I (lenL p0)), (12, I z0.2), (32, B (ltS x1.f0 z0.1 || eqS x1.f0 z0.1))] [(40, .box [S x1.f0, S x1.f1, I x1.f2.f0, I x1.f2.f1, LL S x1.f3, I x1.f4, I x1.f5, I x1.f6] false)] 84) ?_
                      refine co 72 [] (h132 x1.f6 0 1000000000) (fun x9 => ?_)
                      refine se (mkE [(5, .ba 40 0), (10, LL a53 p0), (11, I (lenL p0)), (12, I z0.2), (37, B (!x9))] [(40, .box [S x1.f0, S x1.f1, I x1.f2.f0, I x1.f2.f1, LL S x1.f3, I x1.f4, I x1.f5, I x1.f6] false)] 84) ?_
                      refine pN ?_
                      refine pS ?_
                      refine gC 37 (!x9) ?_ ?_
                      · refine gS 0 ?_
                        refine gR 12 (rg Try.f61 12) ?_
                        refine se (mkE [(2, I 1)] [] 84) ?_
                        refine pN ?_
                        refine pS ?_
                        refine gE ?_
                        exact pL
                      · refine gK ?_
                        refine pB ?_
                        refine pG (mkE [(5, .ba 40 0), (10, LL a53 p0), (11, I (lenL p0)), (12, I z0.2)] [(40, .box [S x1.f0, S x1.f1, I x1.f2.f0, I x1.f2.f1, LL S x1.f3, I x1.f4, I x1.f5, I x1.f6] false)] 84) ?_
                        exact pL
    refine ss y10 (Z := (Sum.elim (fun (x : Unit) => (.normal, (mkE [(5, .ba 40 0), (10, LL a53 p0), (11, I (lenL p0)), (12, I z0.2)] [(40, .box [S x1.f0, S x1.f1, I x1.f2.f0, I x1.f2.f1, LL S x1.f3, I x1.f4, I x1.f5, I x1.f6] false)] 84))) (fun (x : Int) => (.ret, (mkE [(2, I x)] [] 84))))) (fun y10a => ?_) (fun y10b => ?_)
    · refine pS ?_
      refine gS 14 ?_
      refine gR 13 (rg Try.f61 13) ?_
      refine se (mkE [(3, S x1.f0), (5, .ba 40 0), (10, LL a53 p0), (11, I (lenL p0)), (12, I z0.2)] [(40, .box [S x1.f0, S x1.f1, I x1.f2.f0, I x1.f2.f1, LL S x1.f3, I x1.f4, I x1.f5, I x1.f6] false)] 84) ?_
      refine pN ?_
      refine pS ?_
      refine gS 15 ?_
      refine gR 14 (rg Try.f61 14) ?_
      refine sg 2 (mkE [(78, LL S x1.f3), (77, .ba 40 4), (3, S x1.f0), (5, .ba 40 0), (10, LL a53 p0), (11, I (lenL p0)), (12, I z0.2)] [(40, .box [S x1.f0, S x1.f1, I x1.f2.f0, I x1.f2.f1, LL S x1.f3, I x1.f4, I x1.f5, I x1.f6] false)] 84) ?_
      refine co 79 [] (h149 x1.f3) (fun x11 => ?_)
      refine se (mkE [(3, S x1.f0), (6, I x11), (10, LL a53 p0), (11, I (lenL p0)), (12, I z0.2)] [] 84) ?_
      refine pN ?_
      refine pS ?_
      refine gS 0 ?_
      refine gR 15 (rg Try.f61 15) ?_
      refine se (mkE [(3, S x1.f0), (6, I x11), (10, LL a53 p0), (11, I (lenL p0)), (12, I z0.2), (81, B (neI x11 0))] [] 84) ?_
      refine pN ?_
      refine pS ?_
      refine gC 81 (neI x11 0) ?_ ?_
      · refine gS 0 ?_
        refine gR 16 (rg Try.f61 16) ?_
        refine se (mkE [(2, I x11)] [] 84) ?_
        refine pN ?_
        refine pS ?_
        refine gE ?_
        exact pL
      · refine gK ?_
        refine pB ?_
        refine pN ?_
        refine pS ?_
        refine gR 17 (rg Try.f61 17) ?_
        refine se (mkE [(3, S x1.f0), (10, LL a53 p0), (11, I (lenL p0)), (12, I (addI .i64 z0.2 1))] [] 84) ?_
        exact pL
    · exact pL
  · refine gX 0 ?_
    exact pL
noncomputable def T61 (p0 : (List S53)) : Option Int := (bif (ltI 30 (lenL p0)) then (some 2) else ((iter (L61_5 p0) ((ByteArray.mk #[]), 0)).bind fun y12 => (Sum.elim (fun y12a => (some 0)) (fun y12b => (some y12b)) y12)))
theorem B61 (C : Callee) (h132 : ∀ (p0 : Int) (p1 : Int) (p2 : Int), C 132 [I p0, I p1, I p2] = (T132 p0 p1 p2).map B) (h149 : ∀ (p0 : (List ByteArray)), C 149 [LL S p0] = (T149 p0).map I) (h51 : ∀ (p0 : ByteArray), C 51 [S p0] = (T51 p0).map B) (p0 : (List S53)) : runs Try.prog C (cfg.fn 61) (finFn Try.prog (cfg.fn 61).byval Try.f61) [] (execA Try.prog C (cfg.fn 61) (nr Try.f61 []) (frame0 [LL a53 p0] 84)) = (T61 p0).map I := by
  unfold T61
  refine gS 1 ?_
  refine gR 0 (rg Try.f61 0) ?_
  refine se (mkE [(0, LL a53 p0)] [] 84) ?_
  refine pN ?_
  refine pS ?_
  refine gS 3 ?_
  refine gS 0 ?_
  refine gR 1 (rg Try.f61 1) ?_
  refine sg 1 (mkE [(7, LL a53 p0), (0, LL a53 p0)] [] 84) ?_
  refine eo 8 (I (lenL p0)) (lenE 29 a53 p0) ?_
  refine se (mkE [(0, LL a53 p0), (9, B (ltI 30 (lenL p0)))] [] 84) ?_
  refine pN ?_
  refine pS ?_
  refine gC 9 (ltI 30 (lenL p0)) ?_ ?_
  · refine gS 0 ?_
    refine gR 2 (rg Try.f61 2) ?_
    refine se (mkE [(2, I 2)] [] 84) ?_
    refine pN ?_
    refine pS ?_
    refine gE ?_
    exact pL
  · refine gK ?_
    refine pN ?_
    refine pS ?_
    refine gS 4 ?_
    refine gR 3 (rg Try.f61 3) ?_
    refine se (mkE [(0, LL a53 p0), (3, S (ByteArray.mk #[]))] [] 84) ?_
    refine pN ?_
    refine pS ?_
    refine gS 18 ?_
    refine gS 5 ?_
    refine gR 4 (rg Try.f61 4) ?_
    refine sg 1 (mkE [(10, LL a53 p0), (0, LL a53 p0), (3, S (ByteArray.mk #[]))] [] 84) ?_
    refine eo 11 (I (lenL p0)) (lenE 29 a53 p0) ?_
    refine se (mkE [(3, S (ByteArray.mk #[])), (10, LL a53 p0), (11, I (lenL p0)), (12, I 0)] [] 84) ?_
    refine pN ?_
    refine pS ?_
    refine gB 0 ?_
    refine lo [(3, none), (10, none), (11, none), (12, none)] (L61_5 p0) (fun z0 : (ByteArray × Int) => (mkE [(3, S z0.1), (10, LL a53 p0), (11, I (lenL p0)), (12, I z0.2)] [] 84)) (Sum.elim (fun (x : (ByteArray × Int × Bool)) => (.exit 0, (mkE [(3, S x.1), (10, LL a53 p0), (11, I (lenL p0)), (12, I x.2.1), (13, B x.2.2)] [] 84))) (fun (x : Int) => (.ret, (mkE [(2, I x)] [] 84)))) ((ByteArray.mk #[]), 0) (fun z => L61_5_ok C h132 h149 h51 p0 z) ?_
    intro y12
    refine ss y12 (Z := (Sum.elim (fun (x : (ByteArray × Int × Bool)) => (.exit 0, (mkE [(3, S x.1), (10, LL a53 p0), (11, I (lenL p0)), (12, I x.2.1), (13, B x.2.2)] [] 84))) (fun (x : Int) => (.ret, (mkE [(2, I x)] [] 84))))) (fun y12a => ?_) (fun y12b => ?_)
    · refine pH ?_
      refine pN ?_
      refine pS ?_
      refine gS 0 ?_
      refine gR 18 (rg Try.f61 18) ?_
      refine se (mkE [(2, I 0)] [] 84) ?_
      refine pN ?_
      refine pS ?_
      refine gE ?_
      exact pL
    · exact pL
theorem F61 (m : Nat) (hm : 7 ≤ m) (p0 : (List S53)) : callA Try.prog cfg m 61 [LL a53 p0] = (T61 p0).map I := by
  obtain ⟨q, rfl⟩ : ∃ q, m = q + 1 := ⟨m - 1, by omega⟩
  exact (callA_body (fn := Try.f61) (c := body_ Try.f61) q _ (by kernel_rfl) (by kernel_rfl) (by kernel_rfl)).trans (B61 _ (fun p0 p1 p2 => F132 q (by omega) p0 p1 p2) (fun p0 => F149 q (by omega) p0) (fun p0 => F51 q (by omega) p0) p0)

noncomputable def L49_2 (p0 : (List Int)) (z0 : Int) : Option (Int ⊕ ((Int × Bool) ⊕ Int)) := (bif (ltI z0 (lenL p0)) then ((listAt p0 z0).bind fun x1 => (bif (neI x1 0) then (some (.inr (.inr x1))) else (some (.inl (addI .i64 z0 1))))) else (some (.inr (.inl (z0, (ltI z0 (lenL p0)))))))
theorem L49_2_ok (C : Callee) (p0 : (List Int)) (z0 : Int) : runs Try.prog C (cfg.fn 49) (finLoop ((cfg.fn 49).keep 2)) [] (execA Try.prog C (cfg.fn 49) (nr Try.f49 [false, false, true, false, true]) ((fun z0 : Int => (mkE [(5, LL I p0), (6, I (lenL p0)), (7, I z0)] [] 15)) z0)) = (L49_2 p0 z0).map (Sum.elim (fun z => .inl ((fun z0 : Int => (mkE [(5, LL I p0), (6, I (lenL p0)), (7, I z0)] [] 15)) z)) (fun x => .inr ((Sum.elim (fun (x : (Int × Bool)) => (.exit 0, (mkE [(5, LL I p0), (6, I (lenL p0)), (7, I x.1), (8, B x.2)] [] 15))) (fun (x : Int) => (.ret, (mkE [(2, I x)] [] 15)))) x))) := by
  unfold L49_2
  refine gS 0 ?_
  refine gR 2 (rg Try.f49 2) ?_
  refine se (mkE [(5, LL I p0), (6, I (lenL p0)), (7, I z0), (8, B (ltI z0 (lenL p0)))] [] 15) ?_
  refine pN ?_
  refine pS ?_
  refine gS 3 ?_
  refine gC 8 (ltI z0 (lenL p0)) ?_ ?_
  · refine gK ?_
    refine pN ?_
    refine pS ?_
    refine gS 6 ?_
    refine gB 1 ?_
    refine gS 4 ?_
    refine gR 3 (rg Try.f49 3) ?_
    refine vo 9 (addrE 189 69 1 I .i64 p0 z0) (fun x1 => ?_)
    refine se (mkE [(4, I x1), (5, LL I p0), (6, I (lenL p0)), (7, I z0)] [] 15) ?_
    refine pN ?_
    refine pS ?_
    refine gS 0 ?_
    refine gR 4 (rg Try.f49 4) ?_
    refine se (mkE [(4, I x1), (5, LL I p0), (6, I (lenL p0)), (7, I z0), (12, B (neI x1 0))] [] 15) ?_
    refine pN ?_
    refine pS ?_
    refine gC 12 (neI x1 0) ?_ ?_
    · refine gS 0 ?_
      refine gR 5 (rg Try.f49 5) ?_
      refine se (mkE [(2, I x1)] [] 15) ?_
      refine pN ?_
      refine pS ?_
      refine gE ?_
      exact pL
    · refine gK ?_
      refine pB ?_
      refine pN ?_
      refine pS ?_
      refine gR 6 (rg Try.f49 6) ?_
      refine se (mkE [(5, LL I p0), (6, I (lenL p0)), (7, I (addI .i64 z0 1))] [] 15) ?_
      exact pL
  · refine gX 0 ?_
    exact pL
noncomputable def T49 (p0 : (List Int)) : Option Int := ((iter (L49_2 p0) 0).bind fun y2 => (Sum.elim (fun y2a => (some 0)) (fun y2b => (some y2b)) y2))
theorem B49 (C : Callee) (p0 : (List Int)) : runs Try.prog C (cfg.fn 49) (finFn Try.prog (cfg.fn 49).byval Try.f49) [] (execA Try.prog C (cfg.fn 49) (nr Try.f49 []) (frame0 [LL I p0] 15)) = (T49 p0).map I := by
  unfold T49
  refine gS 1 ?_
  refine gR 0 (rg Try.f49 0) ?_
  refine se (mkE [(0, LL I p0)] [] 15) ?_
  refine pN ?_
  refine pS ?_
  refine gS 7 ?_
  refine gS 2 ?_
  refine gR 1 (rg Try.f49 1) ?_
  refine sg 1 (mkE [(5, LL I p0), (0, LL I p0)] [] 15) ?_
  refine eo 6 (I (lenL p0)) (lenE 189 I p0) ?_
  refine se (mkE [(5, LL I p0), (6, I (lenL p0)), (7, I 0)] [] 15) ?_
  refine pN ?_
  refine pS ?_
  refine gB 0 ?_
  refine lo [(5, none), (6, none), (7, none)] (L49_2 p0) (fun z0 : Int => (mkE [(5, LL I p0), (6, I (lenL p0)), (7, I z0)] [] 15)) (Sum.elim (fun (x : (Int × Bool)) => (.exit 0, (mkE [(5, LL I p0), (6, I (lenL p0)), (7, I x.1), (8, B x.2)] [] 15))) (fun (x : Int) => (.ret, (mkE [(2, I x)] [] 15)))) 0 (fun z => L49_2_ok C p0 z) ?_
  intro y2
  refine ss y2 (Z := (Sum.elim (fun (x : (Int × Bool)) => (.exit 0, (mkE [(5, LL I p0), (6, I (lenL p0)), (7, I x.1), (8, B x.2)] [] 15))) (fun (x : Int) => (.ret, (mkE [(2, I x)] [] 15))))) (fun y2a => ?_) (fun y2b => ?_)
  · refine pH ?_
    refine pN ?_
    refine pS ?_
    refine gS 0 ?_
    refine gR 7 (rg Try.f49 7) ?_
    refine se (mkE [(2, I 0)] [] 15) ?_
    refine pN ?_
    refine pS ?_
    refine gE ?_
    exact pL
  · exact pL
theorem F49 (m : Nat) (hm : 1 ≤ m) (p0 : (List Int)) : callA Try.prog cfg m 49 [LL I p0] = (T49 p0).map I := by
  obtain ⟨q, rfl⟩ : ∃ q, m = q + 1 := ⟨m - 1, by omega⟩
  exact (callA_body (fn := Try.f49) (c := body_ Try.f49) q _ (by kernel_rfl) (by kernel_rfl) (by kernel_rfl)).trans (B49 _ p0)

noncomputable def T150 (p0 : (List S90)) (p1 : (List S53)) : Option Int := ((T58 p0).bind fun x1 => (bif (neI x1 0) then (some x1) else ((T60 p1).bind fun x2 => (some x2))))
theorem B150 (C : Callee) (h58 : ∀ (p0 : (List S90)), C 58 [LL a90 p0] = (T58 p0).map I) (h60 : ∀ (p0 : (List S53)), C 60 [LL a53 p0] = (T60 p0).map I) (p0 : (List S90)) (p1 : (List S53)) : runs Try.prog C (cfg.fn 150) (finFn Try.prog (cfg.fn 150).byval Try.f150) [] (execA Try.prog C (cfg.fn 150) (nr Try.f150 []) (frame0 [LL a90 p0, LL a53 p1] 13)) = (T150 p0 p1).map I := by
  unfold T150
  refine gS 1 ?_
  refine gR 0 (rg Try.f150 0) ?_
  refine se (mkE [(0, LL a90 p0), (1, LL a53 p1)] [] 13) ?_
  refine pN ?_
  refine pS ?_
  refine gS 4 ?_
  refine gS 2 ?_
  refine gR 1 (rg Try.f150 1) ?_
  refine sg 1 (mkE [(6, LL a90 p0), (0, LL a90 p0), (1, LL a53 p1)] [] 13) ?_
  refine co 7 [] (h58 p0) (fun x1 => ?_)
  refine se (mkE [(1, LL a53 p1), (5, I x1)] [] 13) ?_
  refine pN ?_
  refine pS ?_
  refine gS 0 ?_
  refine gR 2 (rg Try.f150 2) ?_
  refine se (mkE [(1, LL a53 p1), (5, I x1), (9, B (neI x1 0))] [] 13) ?_
  refine pN ?_
  refine pS ?_
  refine gC 9 (neI x1 0) ?_ ?_
  · refine gS 0 ?_
    refine gR 3 (rg Try.f150 3) ?_
    refine se (mkE [(4, I x1)] [] 13) ?_
    refine pN ?_
    refine pS ?_
    refine gE ?_
    exact pL
  · refine gK ?_
    refine pN ?_
    refine pS ?_
    refine gS 0 ?_
    refine gR 4 (rg Try.f150 4) ?_
    refine sg 1 (mkE [(11, LL a53 p1), (1, LL a53 p1), (5, I x1), (9, B (neI x1 0))] [] 13) ?_
    refine co 12 [] (h60 p1) (fun x2 => ?_)
    refine se (mkE [(4, I x2)] [] 13) ?_
    refine pN ?_
    refine pS ?_
    refine gE ?_
    exact pL
theorem F150 (m : Nat) (hm : 5 ≤ m) (p0 : (List S90)) (p1 : (List S53)) : callA Try.prog cfg m 150 [LL a90 p0, LL a53 p1] = (T150 p0 p1).map I := by
  obtain ⟨q, rfl⟩ : ∃ q, m = q + 1 := ⟨m - 1, by omega⟩
  exact (callA_body (fn := Try.f150) (c := body_ Try.f150) q _ (by kernel_rfl) (by kernel_rfl) (by kernel_rfl)).trans (B150 _ (fun p0 => F58 q (by omega) p0) (fun p0 => F60 q (by omega) p0) p0 p1)

noncomputable def T270 (p0 : ByteArray) : Option Bool := (some (!eqS p0 p0))
theorem B270 (C : Callee) (p0 : ByteArray) : runs Try.prog C (cfg.fn 270) (finFn Try.prog (cfg.fn 270).byval Try.f270) [] (execA Try.prog C (cfg.fn 270) (nr Try.f270 []) (frame0 [S p0] 6)) = (T270 p0).map B := by
  unfold T270
  refine gS 1 ?_
  refine gR 0 (rg Try.f270 0) ?_
  refine se (mkE [(0, S p0)] [] 6) ?_
  refine pN ?_
  refine pS ?_
  refine gS 0 ?_
  refine gR 1 (rg Try.f270 1) ?_
  refine se (mkE [(2, B (!eqS p0 p0))] [] 6) ?_
  refine pN ?_
  refine pS ?_
  refine gE ?_
  exact pL
theorem F270 (m : Nat) (hm : 1 ≤ m) (p0 : ByteArray) : callA Try.prog cfg m 270 [S p0] = (T270 p0).map B := by
  obtain ⟨q, rfl⟩ : ∃ q, m = q + 1 := ⟨m - 1, by omega⟩
  exact (callA_body (fn := Try.f270) (c := body_ Try.f270) q _ (by kernel_rfl) (by kernel_rfl) (by kernel_rfl)).trans (B270 _ p0)

noncomputable def T266 (p0 : ByteArray) (p1 : ByteArray) : Option Bool := ((T270 p0).bind fun x1 => (bif x1 then ((T270 p1).bind fun x2 => (bif (!x2) then (some true) else (some (ltS p0 p1)))) else (some (ltS p0 p1))))
theorem B266 (C : Callee) (h270 : ∀ (p0 : ByteArray), C 270 [S p0] = (T270 p0).map B) (p0 : ByteArray) (p1 : ByteArray) : runs Try.prog C (cfg.fn 266) (finFn Try.prog (cfg.fn 266).byval Try.f266) [] (execA Try.prog C (cfg.fn 266) (nr Try.f266 []) (frame0 [S p0, S p1] 17)) = (T266 p0 p1).map B := by
  unfold T266
  refine gS 1 ?_
  refine gR 0 (rg Try.f266 0) ?_
  refine se (mkE [(0, S p0), (1, S p1)] [] 17) ?_
  refine pN ?_
  refine pS ?_
  refine gS 0 ?_
  refine gR 1 (rg Try.f266 1) ?_
  refine sg 1 (mkE [(5, S p0), (0, S p0), (1, S p1)] [] 17) ?_
  refine co 6 [] (h270 p0) (fun x1 => ?_)
  refine sg 3 (mkE [(7, B x1), (6, B x1), (5, S p0), (0, S p0), (1, S p1)] [] 17) ?_
  refine sb 7 x1 ?_ ?_
  · refine sg 4 (mkE [(8, S p1), (7, B true), (7, B x1), (6, B x1), (5, S p0), (0, S p0), (1, S p1)] [] 17) ?_
    refine co 9 [] (h270 p1) (fun x2 => ?_)
    refine sg 8 (mkE [(12, B (!x2)), (11, B (!x2)), (10, B (!x2)), (9, B x2), (8, S p1), (7, B true), (7, B x1), (6, B x1), (5, S p0), (0, S p0), (1, S p1)] [] 17) ?_
    refine sb 12 (!x2) ?_ ?_
    · refine se (mkE [(4, B true)] [] 17) ?_
      refine pN ?_
      refine pS ?_
      refine gE ?_
      exact pL
    · refine se (mkE [(4, B (ltS p0 p1))] [] 17) ?_
      refine pN ?_
      refine pS ?_
      refine gE ?_
      exact pL
  · refine se (mkE [(4, B (ltS p0 p1))] [] 17) ?_
    refine pN ?_
    refine pS ?_
    refine gE ?_
    exact pL
theorem F266 (m : Nat) (hm : 2 ≤ m) (p0 : ByteArray) (p1 : ByteArray) : callA Try.prog cfg m 266 [S p0, S p1] = (T266 p0 p1).map B := by
  obtain ⟨q, rfl⟩ : ∃ q, m = q + 1 := ⟨m - 1, by omega⟩
  exact (callA_body (fn := Try.f266) (c := body_ Try.f266) q _ (by kernel_rfl) (by kernel_rfl) (by kernel_rfl)).trans (B266 _ (fun p0 => F270 q (by omega) p0) p0 p1)

noncomputable def T267 (p0 : ByteArray) : Option Bool := (some (!eqS p0 p0))
theorem B267 (C : Callee) (p0 : ByteArray) : runs Try.prog C (cfg.fn 267) (finFn Try.prog (cfg.fn 267).byval Try.f267) [] (execA Try.prog C (cfg.fn 267) (nr Try.f267 []) (frame0 [S p0] 6)) = (T267 p0).map B := by
  unfold T267
  refine gS 1 ?_
  refine gR 0 (rg Try.f267 0) ?_
  refine se (mkE [(0, S p0)] [] 6) ?_
  refine pN ?_
  refine pS ?_
  refine gS 0 ?_
  refine gR 1 (rg Try.f267 1) ?_
  refine se (mkE [(2, B (!eqS p0 p0))] [] 6) ?_
  refine pN ?_
  refine pS ?_
  refine gE ?_
  exact pL
theorem F267 (m : Nat) (hm : 1 ≤ m) (p0 : ByteArray) : callA Try.prog cfg m 267 [S p0] = (T267 p0).map B := by
  obtain ⟨q, rfl⟩ : ∃ q, m = q + 1 := ⟨m - 1, by omega⟩
  exact (callA_body (fn := Try.f267) (c := body_ Try.f267) q _ (by kernel_rfl) (by kernel_rfl) (by kernel_rfl)).trans (B267 _ p0)

noncomputable def L227_3 (p0 : (List ByteArray)) (p1 : ByteArray) (z0 : (Int × Int)) : Option ((Int × Int) ⊕ (Int × Int × Bool)) := (bif (ltI z0.1 z0.2) then ((listAt p0 (cvI .i64 (shrI (cvI .u64 (addI .i64 z0.1 z0.2)) 1))).bind fun x1 => ((T266 x1 p1).bind fun x2 => (bif x2 then (some (.inl ((addI .i64 (cvI .i64 (shrI (cvI .u64 (addI .i64 z0.1 z0.2)) 1)) 1), z0.2))) else (some (.inl (z0.1, (cvI .i64 (shrI (cvI .u64 (addI .i64 z0.1 z0.2)) 1)))))))) else (some (.inr (z0.1, z0.2, (ltI z0.1 z0.2)))))
theorem L227_3_ok (C : Callee) (h266 : ∀ (p0 : ByteArray) (p1 : ByteArray), C 266 [S p0, S p1] = (T266 p0 p1).map B) (p0 : (List ByteArray)) (p1 : ByteArray) (z0 : (Int × Int)) : runs Try.prog C (cfg.fn 227) (finLoop ((cfg.fn 227).keep 3)) [] (execA Try.prog C (cfg.fn 227) (nr Try.f227 [false, false, false, true, true, true]) ((fun z0 : (Int × Int) => (mkE [(0, LL S p0), (1, S p1), (6, I (lenL p0)), (7, I z0.1), (8, I z0.2)] [] 54)) z0)) = (L227_3 p0 p1 z0).map (Sum.elim (fun z => .inl ((fun z0 : (Int × Int) => (mkE [(0, LL S p0), (1, S p1), (6, I (lenL p0)), (7, I z0.1), (8, I z0.2)] [] 54)) z)) (fun x => .inr ((fun (x : (Int × Int × Bool)) => (.exit 0, (mkE [(0, LL S p0), (1, S p1), (6, I (lenL p0)), (7, I x.1), (8, I x.2.1), (15, B x.2.2)] [] 54))) x))) := by
  unfold L227_3
  refine gS 4 ?_
  refine gS 0 ?_
  refine gR 3 (rg Try.f227 3) ?_
  refine se (mkE [(0, LL S p0), (1, S p1), (6, I (lenL p0)), (7, I z0.1), (8, I z0.2), (15, B (ltI z0.1 z0.2))] [] 54) ?_
  refine pN ?_
  refine pS ?_
  refine gC 15 (ltI z0.1 z0.2) ?_ ?_
  · refine gK ?_
    refine pN ?_
    refine pS ?_
    refine gB 1 ?_
    refine gS 5 ?_
    refine gR 4 (rg Try.f227 4) ?_
    refine se (mkE [(0, LL S p0), (1, S p1), (6, I (lenL p0)), (7, I z0.1), (8, I z0.2), (9, I (cvI .i64 (shrI (cvI .u64 (addI .i64 z0.1 z0.2)) 1)))] [] 54) ?_
    refine pN ?_
    refine pS ?_
    refine gS 0 ?_
    refine gR 5 (rg Try.f227 5) ?_
    refine sg 2 (mkE [(23, I (cvI .i64 (shrI (cvI .u64 (addI .i64 z0.1 z0.2)) 1))), (22, LL S p0), (0, LL S p0), (1, S p1), (6, I (lenL p0)), (7, I z0.1), (8, I z0.2), (9, I (cvI .i64 (shrI (cvI .u64 (addI .i64 z0.1 z0.2)) 1)))] [] 54) ?_
    refine vo 24 (addrE 35 9 1 S .i64 p0 (cvI .i64 (shrI (cvI .u64 (addI .i64 z0.1 z0.2)) 1))) (fun x1 => ?_)
    refine sg 5 (mkE [(26, S p1), (25, S x1), (24, .ia [S x1] 0), (23, I (cvI .i64 (shrI (cvI .u64 (addI .i64 z0.1 z0.2)) 1))), (22, LL S p0), (0, LL S p0), (1, S p1), (6, I (lenL p0)), (7, I z0.1), (8, I z0.2), (9, I (cvI .i64 (shrI (cvI .u64 (addI .i64 z0.1 z0.2)) 1)))] [] 54) ?_
    refine co 27 [] (h266 x1 p1) (fun x2 => ?_)
    refine se (mkE [(0, LL S p0), (1, S p1), (6, I (lenL p0)), (7, I z0.1), (8, I z0.2), (9, I (cvI .i64 (shrI (cvI .u64 (addI .i64 z0.1 z0.2)) 1))), (27, B x2)] [] 54) ?_
    refine pN ?_
    refine pS ?_
    refine gC 27 x2 ?_ ?_
    · refine gR 6 (rg Try.f227 6) ?_
      refine se (mkE [(0, LL S p0), (1, S p1), (6, I (lenL p0)), (7, I (addI .i64 (cvI .i64 (shrI (cvI .u64 (addI .i64 z0.1 z0.2)) 1)) 1)), (8, I z0.2)] [] 54) ?_
      refine pB ?_
      exact pL
    · refine gR 7 (rg Try.f227 7) ?_
      refine se (mkE [(0, LL S p0), (1, S p1), (6, I (lenL p0)), (7, I z0.1), (8, I (cvI .i64 (shrI (cvI .u64 (addI .i64 z0.1 z0.2)) 1)))] [] 54) ?_
      refine pB ?_
      exact pL
  · refine gX 0 ?_
    exact pL
noncomputable def T227 (p0 : (List ByteArray)) (p1 : ByteArray) : Option (Int × Bool) := ((iter (L227_3 p0 p1) (0, (lenL p0))).bind fun y3 => (bif (ltI y3.1 (lenL p0)) then ((listAt p0 y3.1).bind fun x4 => (bif (eqS x4 p1) then (some (y3.1, true)) else ((listAt p0 y3.1).bind fun x5 => ((T267 x5).bind fun x6 => (bif x6 then ((T267 p1).bind fun x7 => (some (y3.1, x7))) else (some (y3.1, false))))))) else (some (y3.1, false))))
theorem B227 (C : Callee) (h266 : ∀ (p0 : ByteArray) (p1 : ByteArray), C 266 [S p0, S p1] = (T266 p0 p1).map B) (h267 : ∀ (p0 : ByteArray), C 267 [S p0] = (T267 p0).map B) (p0 : (List ByteArray)) (p1 : ByteArray) : runs Try.prog C (cfg.fn 227) (finFn Try.prog (cfg.fn 227).byval Try.f227) [] (execA Try.prog C (cfg.fn 227) (nr Try.f227 []) (frame0 [LL S p0, S p1] 54)) = (T227 p0 p1).map (fun r => AV.tup [I r.1, B r.2]) := by
  unfold T227
  refine gS 1 ?_
  refine gR 0 (rg Try.f227 0) ?_
  refine se (mkE [(0, LL S p0), (1, S p1)] [] 54) ?_
  refine pN ?_
  refine pS ?_
  refine gS 2 ?_
  refine gR 1 (rg Try.f227 1) ?_
  refine sg 1 (mkE [(10, LL S p0), (0, LL S p0), (1, S p1)] [] 54) ?_
  refine eo 11 (I (lenL p0)) (lenE 35 S p0) ?_
  refine se (mkE [(0, LL S p0), (1, S p1), (6, I (lenL p0))] [] 54) ?_
  refine pN ?_
  refine pS ?_
  refine gS 3 ?_
  refine gR 2 (rg Try.f227 2) ?_
  refine se (mkE [(0, LL S p0), (1, S p1), (6, I (lenL p0)), (7, I 0), (8, I (lenL p0))] [] 54) ?_
  refine pN ?_
  refine pS ?_
  refine gS 8 ?_
  refine gB 0 ?_
  refine lo [(0, none), (1, none), (6, none), (7, none), (8, none)] (L227_3 p0 p1) (fun z0 : (Int × Int) => (mkE [(0, LL S p0), (1, S p1), (6, I (lenL p0)), (7, I z0.1), (8, I z0.2)] [] 54)) (fun (x : (Int × Int × Bool)) => (.exit 0, (mkE [(0, LL S p0), (1, S p1), (6, I (lenL p0)), (7, I x.1), (8, I x.2.1), (15, B x.2.2)] [] 54))) (0, (lenL p0)) (fun z => L227_3_ok C h266 p0 p1 z) ?_
  intro y3
  refine pH ?_
  refine pN ?_
  refine pS ?_
  refine gS 0 ?_
  refine gR 8 (rg Try.f227 8) ?_
  refine sg 5 (mkE [(35, B (ltI y3.1 (lenL p0))), (34, B (ltI y3.1 (lenL p0))), (33, I (lenL p0)), (32, I y3.1), (31, I y3.1), (0, LL S p0), (1, S p1), (6, I (lenL p0)), (7, I y3.1), (8, I y3.2.1), (15, B y3.2.2)] [] 54) ?_
  refine sb 35 (ltI y3.1 (lenL p0)) ?_ ?_
  · refine sg 7 (mkE [(37, I y3.1), (36, LL S p0), (35, B true), (35, B (ltI y3.1 (lenL p0))), (34, B (ltI y3.1 (lenL p0))), (33, I (lenL p0)), (32, I y3.1), (31, I y3.1), (0, LL S p0), (1, S p1), (6, I (lenL p0)), (7, I y3.1), (8, I y3.2.1), (15, B y3.2.2)] [] 54) ?_
    refine vo 38 (addrE 35 9 1 S .i64 p0 y3.1) (fun x4 => ?_)
    refine sg 12 (mkE [(42, B (eqS x4 p1)), (41, B (eqS x4 p1)), (40, S p1), (39, S x4), (38, .ia [S x4] 0), (37, I y3.1), (36, LL S p0), (35, B true), (35, B (ltI y3.1 (lenL p0))), (34, B (ltI y3.1 (lenL p0))), (33, I (lenL p0)), (32, I y3.1), (31, I y3.1), (0, LL S p0), (1, S p1), (6, I (lenL p0)), (7, I y3.1), (8, I y3.2.1), (15, B y3.2.2)] [] 54) ?_
    refine sb 42 (eqS x4 p1) ?_ ?_
    · refine se (mkE [(4, I y3.1), (5, B true)] [] 54) ?_
      refine pN ?_
      refine pS ?_
      refine gE ?_
      exact pL
    · refine sg 14 (mkE [(44, I y3.1), (43, LL S p0), (42, B false), (42, B (eqS x4 p1)), (41, B (eqS x4 p1)), (40, S p1), (39, S x4), (38, .ia [S x4] 0), (37, I y3.1), (36, LL S p0), (35, B true), (35, B (ltI y3.1 (lenL p0))), (34, B (ltI y3.1 (lenL p0))), (33, I (lenL p0)), (32, I y3.1), (31, I y3.1), (0, LL S p0), (1, S p1), (6, I (lenL p0)), (7, I y3.1), (8, I y3.2.1), (15, B y3.2.2)] [] 54) ?_
      refine vo 45 (addrE 35 9 1 S .i64 p0 y3.1) (fun x5 => ?_)
      refine sg 16 (mkE [(46, S x5), (45, .ia [S x5] 0), (44, I y3.1), (43, LL S p0), (42, B false), (42, B (eqS x4 p1)), (41, B (eqS x4 p1)), (40, S p1), (39, S x4), (38, .ia [S x4] 0), (37, I y3.1), (36, LL S p0), (35, B true), (35, B (ltI y3.1 (lenL p0))), (34, B (ltI y3.1 (lenL p0))), (33, I (lenL p0)), (32, I y3.1), (31, I y3.1), (0, LL S p0), (1, S p1), (6, I (lenL p0)), (7, I y3.1), (8, I y3.2.1), (15, B y3.2.2)] [] 54) ?_
      refine co 47 [] (h267 x5) (fun x6 => ?_)
      refine sg 18 (mkE [(48, B x6), (47, B x6), (46, S x5), (45, .ia [S x5] 0), (44, I y3.1), (43, LL S p0), (42, B false), (42, B (eqS x4 p1)), (41, B (eqS x4 p1)), (40, S p1), (39, S x4), (38, .ia [S x4] 0), (37, I y3.1), (36, LL S p0), (35, B true), (35, B (ltI y3.1 (lenL p0))), (34, B (ltI y3.1 (lenL p0))), (33, I (lenL p0)), (32, I y3.1), (31, I y3.1), (0, LL S p0), (1, S p1), (6, I (lenL p0)), (7, I y3.1), (8, I y3.2.1), (15, B y3.2.2)] [] 54) ?_
      refine sb 48 x6 ?_ ?_
      · refine sg 19 (mkE [(49, S p1), (48, B true), (48, B x6), (47, B x6), (46, S x5), (45, .ia [S x5] 0), (44, I y3.1), (43, LL S p0), (42, B false), (42, B (eqS x4 p1)), (41, B (eqS x4 p1)), (40, S p1), (39, S x4), (38, .ia [S x4] 0), (37, I y3.1), (36, LL S p0), (35, B true), (35, B (ltI y3.1 (lenL p0))), (34, B (ltI y3.1 (lenL p0))), (33, I (lenL p0)), (32, I y3.1), (31, I y3.1), (0, LL S p0), (1, S p1), (6, I (lenL p0)), (7, I y3.1), (8, I y3.2.1), (15, B y3.2.2)] [] 54) ?_
        refine co 50 [] (h267 p1) (fun x7 => ?_)
        refine se (mkE [(4, I y3.1), (5, B x7)] [] 54) ?_
        refine pN ?_
        refine pS ?_
        refine gE ?_
        exact pL
      · refine se (mkE [(4, I y3.1), (5, B false)] [] 54) ?_
        refine pN ?_
        refine pS ?_
        refine gE ?_
        exact pL
  · refine se (mkE [(4, I y3.1), (5, B false)] [] 54) ?_
    refine pN ?_
    refine pS ?_
    refine gE ?_
    exact pL
theorem F227 (m : Nat) (hm : 3 ≤ m) (p0 : (List ByteArray)) (p1 : ByteArray) : callA Try.prog cfg m 227 [LL S p0, S p1] = (T227 p0 p1).map (fun r => AV.tup [I r.1, B r.2]) := by
  obtain ⟨q, rfl⟩ : ∃ q, m = q + 1 := ⟨m - 1, by omega⟩
  exact (callA_body (fn := Try.f227) (c := body_ Try.f227) q _ (by kernel_rfl) (by kernel_rfl) (by kernel_rfl)).trans (B227 _ (fun p0 p1 => F266 q (by omega) p0 p1) (fun p0 => F267 q (by omega) p0) p0 p1)

noncomputable def L151_4 (p0 : S53) (p1 : S90) (z0 : Int) : Option (Int ⊕ ((Int × Bool) ⊕ Unit)) := (bif (ltI z0 (lenL p0.f3)) then ((listAt p0.f3 z0).bind fun x1 => ((T227 p1.f3 x1).bind fun x2 => (bif (!x2.2) then (some (.inr (.inr ()))) else (some (.inl (addI .i64 z0 1)))))) else (some (.inr (.inl (z0, (ltI z0 (lenL p0.f3)))))))
theorem L151_4_ok (C : Callee) (h227 : ∀ (p0 : (List ByteArray)) (p1 : ByteArray), C 227 [LL S p0, S p1] = (T227 p0 p1).map (fun r => AV.tup [I r.1, B r.2])) (p0 : S53) (p1 : S90) (z0 : Int) : runs Try.prog C (cfg.fn 151) (finLoop ((cfg.fn 151).keep 4)) [] (execA Try.prog C (cfg.fn 151) (nr Try.f151 [false, false, true, false, true, true]) ((fun z0 : Int => (mkE [(3, .ba 24 0), (26, LL S p0.f3), (27, I (lenL p0.f3)), (28, I z0)] [(24, .box [S p1.f0, I p1.f1.f0, I p1.f1.f1, I p1.f2, LL S p1.f3] false)] 42)) z0)) = (L151_4 p0 p1 z0).map (Sum.elim (fun z => .inl ((fun z0 : Int => (mkE [(3, .ba 24 0), (26, LL S p0.f3), (27, I (lenL p0.f3)), (28, I z0)] [(24, .box [S p1.f0, I p1.f1.f0, I p1.f1.f1, I p1.f2, LL S p1.f3] false)] 42)) z)) (fun x => .inr ((Sum.elim (fun (x : (Int × Bool)) => (.exit 0, (mkE [(3, .ba 24 0), (26, LL S p0.f3), (27, I (lenL p0.f3)), (28, I x.1), (29, B x.2)] [(24, .box [S p1.f0, I p1.f1.f0, I p1.f1.f1, I p1.f2, LL S p1.f3] false)] 42))) (fun (x : Unit) => (.ret, (mkE [(4, B false)] [] 42)))) x))) := by
  unfold L151_4
  refine gS 0 ?_
  refine gR 4 (rg Try.f151 4) ?_
  refine se (mkE [(3, .ba 24 0), (26, LL S p0.f3), (27, I (lenL p0.f3)), (28, I z0), (29, B (ltI z0 (lenL p0.f3)))] [(24, .box [S p1.f0, I p1.f1.f0, I p1.f1.f1, I p1.f2, LL S p1.f3] false)] 42) ?_
  refine pN ?_
  refine pS ?_
  refine gS 5 ?_
  refine gC 29 (ltI z0 (lenL p0.f3)) ?_ ?_
  · refine gK ?_
    refine pN ?_
    refine pS ?_
    refine gS 9 ?_
    refine gB 1 ?_
    refine gS 6 ?_
    refine gR 5 (rg Try.f151 5) ?_
    refine vo 30 (addrE 35 9 1 S .i64 p0.f3 z0) (fun x1 => ?_)
    refine se (mkE [(3, .ba 24 0), (6, S x1), (26, LL S p0.f3), (27, I (lenL p0.f3)), (28, I z0)] [(24, .box [S p1.f0, I p1.f1.f0, I p1.f1.f1, I p1.f2, LL S p1.f3] false)] 42) ?_
    refine pN ?_
    refine pS ?_
    refine gS 7 ?_
    refine gR 6 (rg Try.f151 6) ?_
    refine sg 3 (mkE [(35, S x1), (34, LL S p1.f3), (33, .ba 24 4), (3, .ba 24 0), (6, S x1), (26, LL S p0.f3), (27, I (lenL p0.f3)), (28, I z0)] [(24, .box [S p1.f0, I p1.f1.f0, I p1.f1.f1, I p1.f2, LL S p1.f3] false)] 42) ?_
    refine co 36 [] (h227 p1.f3 x1) (fun x2 => ?_)
    refine se (mkE [(3, .ba 24 0), (8, B x2.2), (26, LL S p0.f3), (27, I (lenL p0.f3)), (28, I z0)] [(24, .box [S p1.f0, I p1.f1.f0, I p1.f1.f1, I p1.f2, LL S p1.f3] false)] 42) ?_
    refine pN ?_
    refine pS ?_
    refine gS 0 ?_
    refine gR 7 (rg Try.f151 7) ?_
    refine se (mkE [(3, .ba 24 0), (26, LL S p0.f3), (27, I (lenL p0.f3)), (28, I z0), (40, B (!x2.2))] [(24, .box [S p1.f0, I p1.f1.f0, I p1.f1.f1, I p1.f2, LL S p1.f3] false)] 42) ?_
    refine pN ?_
    refine pS ?_
    refine gC 40 (!x2.2) ?_ ?_
    · refine gS 0 ?_
      refine gR 8 (rg Try.f151 8) ?_
      refine se (mkE [(4, B false)] [] 42) ?_
      refine pN ?_
      refine pS ?_
      refine gE ?_
      exact pL
    · refine gK ?_
      refine pB ?_
      refine pN ?_
      refine pS ?_
      refine gR 9 (rg Try.f151 9) ?_
      refine se (mkE [(3, .ba 24 0), (26, LL S p0.f3), (27, I (lenL p0.f3)), (28, I (addI .i64 z0 1))] [(24, .box [S p1.f0, I p1.f1.f0, I p1.f1.f1, I p1.f2, LL S p1.f3] false)] 42) ?_
      exact pL
  · refine gX 0 ?_
    exact pL
noncomputable def T151 (p0 : S53) (p1 : S90) : Option Bool := (bif (ltI p1.f1.f0 p0.f2.f0) then (some false) else (bif (ltI p0.f2.f1 p1.f1.f1) then (some false) else ((iter (L151_4 p0 p1) 0).bind fun y3 => (Sum.elim (fun y3a => (some true)) (fun y3b => (some false)) y3))))
theorem B151 (C : Callee) (h227 : ∀ (p0 : (List ByteArray)) (p1 : ByteArray), C 227 [LL S p0, S p1] = (T227 p0 p1).map (fun r => AV.tup [I r.1, B r.2])) (p0 : S53) (p1 : S90) : runs Try.prog C (cfg.fn 151) (finFn Try.prog (cfg.fn 151).byval Try.f151) [] (execA Try.prog C (cfg.fn 151) (nr Try.f151 []) (frame0 [a53 p0, a90 p1] 42)) = (T151 p0 p1).map B := by
  unfold T151
  refine gS 1 ?_
  refine gR 0 (rg Try.f151 0) ?_
  refine se (mkE [(2, .ba 16 0), (3, .ba 24 0)] [(16, .box [S p0.f0, S p0.f1, I p0.f2.f0, I p0.f2.f1, LL S p0.f3, I p0.f4, I p0.f5, I p0.f6] false), (24, .box [S p1.f0, I p1.f1.f0, I p1.f1.f1, I p1.f2, LL S p1.f3] false)] 42) ?_
  refine pN ?_
  refine pS ?_
  refine gS 3 ?_
  refine gS 0 ?_
  refine gR 1 (rg Try.f151 1) ?_
  refine sg 8 (mkE [(16, B (ltI p1.f1.f0 p0.f2.f0)), (15, B (ltI p1.f1.f0 p0.f2.f0)), (14, I p0.f2.f0), (13, .ba 16 2), (12, .ba 16 2), (11, I p1.f1.f0), (10, .ba 24 1), (9, .ba 24 1), (2, .ba 16 0), (3, .ba 24 0)] [(16, .box [S p0.f0, S p0.f1, I p0.f2.f0, I p0.f2.f1, LL S p0.f3, I p0.f4, I p0.f5, I p0.f6] false), (24, .box [S p1.f0, I p1.f1.f0, I p1.f1.f1, I p1.f2, LL S p1.f3] false)] 42) ?_
  refine sb 16 (ltI p1.f1.f0 p0.f2.f0) ?_ ?_
  · refine se (mkE [(2, .ba 16 0), (3, .ba 24 0), (24, B true)] [(16, .box [S p0.f0, S p0.f1, I p0.f2.f0, I p0.f2.f1, LL S p0.f3, I p0.f4, I p0.f5, I p0.f6] false), (24, .box [S p1.f0, I p1.f1.f0, I p1.f1.f1, I p1.f2, LL S p1.f3] false)] 42) ?_
    refine pN ?_
    refine pS ?_
    refine gT (.tmp 24) ?_
    refine gS 0 ?_
    refine gR 2 (rg Try.f151 2) ?_
    refine se (mkE [(4, B false)] [] 42) ?_
    refine pN ?_
    refine pS ?_
    refine gE ?_
    exact pL
  · refine se (mkE [(2, .ba 16 0), (3, .ba 24 0), (24, B (ltI p0.f2.f1 p1.f1.f1))] [(16, .box [S p0.f0, S p0.f1, I p0.f2.f0, I p0.f2.f1, LL S p0.f3, I p0.f4, I p0.f5, I p0.f6] false), (24, .box [S p1.f0, I p1.f1.f0, I p1.f1.f1, I p1.f2, LL S p1.f3] false)] 42) ?_
    refine pN ?_
    refine pS ?_
    refine gC 24 (ltI p0.f2.f1 p1.f1.f1) ?_ ?_
    · refine gS 0 ?_
      refine gR 2 (rg Try.f151 2) ?_
      refine se (mkE [(4, B false)] [] 42) ?_
      refine pN ?_
      refine pS ?_
      refine gE ?_
      exact pL
    · refine gK ?_
      refine pN ?_
      refine pS ?_
      refine gS 10 ?_
      refine gS 4 ?_
      refine gR 3 (rg Try.f151 3) ?_
      refine sg 2 (mkE [(26, LL S p0.f3), (25, .ba 16 4), (2, .ba 16 0), (3, .ba 24 0), (24, B (ltI p0.f2.f1 p1.f1.f1))] [(16, .box [S p0.f0, S p0.f1, I p0.f2.f0, I p0.f2.f1, LL S p0.f3, I p0.f4, I p0.f5, I p0.f6] false), (24, .box [S p1.f0, I p1.f1.f0, I p1.f1.f1, I p1.f2, LL S p1.f3] false)] 42) ?_
      refine eo 27 (I (lenL p0.f3)) (lenE 35 S p0.f3) ?_
      refine se (mkE [(3, .ba 24 0), (26, LL S p0.f3), (27, I (lenL p0.f3)), (28, I 0)] [(24, .box [S p1.f0, I p1.f1.f0, I p1.f1.f1, I p1.f2, LL S p1.f3] false)] 42) ?_
      refine pN ?_
      refine pS ?_
      refine gB 0 ?_
      refine lo [(3, none), (26, none), (27, none), (28, none)] (L151_4 p0 p1) (fun z0 : Int => (mkE [(3, .ba 24 0), (26, LL S p0.f3), (27, I (lenL p0.f3)), (28, I z0)] [(24, .box [S p1.f0, I p1.f1.f0, I p1.f1.f1, I p1.f2, LL S p1.f3] false)] 42)) (Sum.elim (fun (x : (Int × Bool)) => (.exit 0, (mkE [(3, .ba 24 0), (26, LL S p0.f3), (27, I (lenL p0.f3)), (28, I x.1), (29, B x.2)] [(24, .box [S p1.f0, I p1.f1.f0, I p1.f1.f1, I p1.f2, LL S p1.f3] false)] 42))) (fun (x : Unit) => (.ret, (mkE [(4, B false)] [] 42)))) 0 (fun z => L151_4_ok C h227 p0 p1 z) ?_
      intro y3
      refine ss y3 (Z := (Sum.elim (fun (x : (Int × Bool)) => (.exit 0, (mkE [(3, .ba 24 0), (26, LL S p0.f3), (27, I (lenL p0.f3)), (28, I x.1), (29, B x.2)] [(24, .box [S p1.f0, I p1.f1.f0, I p1.f1.f1, I p1.f2, LL S p1.f3] false)] 42))) (fun (x : Unit) => (.ret, (mkE [(4, B false)] [] 42))))) (fun y3a => ?_) (fun y3b => ?_)
      · refine pH ?_
        refine pN ?_
        refine pS ?_
        refine gS 0 ?_
        refine gR 10 (rg Try.f151 10) ?_
        refine se (mkE [(4, B true)] [] 42) ?_
        refine pN ?_
        refine pS ?_
        refine gE ?_
        exact pL
      · exact pL
theorem F151 (m : Nat) (hm : 4 ≤ m) (p0 : S53) (p1 : S90) : callA Try.prog cfg m 151 [a53 p0, a90 p1] = (T151 p0 p1).map B := by
  obtain ⟨q, rfl⟩ : ∃ q, m = q + 1 := ⟨m - 1, by omega⟩
  exact (callA_body (fn := Try.f151) (c := body_ Try.f151) q _ (by kernel_rfl) (by kernel_rfl) (by kernel_rfl)).trans (B151 _ (fun p0 p1 => F227 q (by omega) p0 p1) p0 p1)

noncomputable def L62_6 (p0 : (List S90)) (p1 : S53) (z0 : (Int × Int)) : Option ((Int × Int) ⊕ (Int × Int × Bool)) := (bif (ltI z0.2 (lenL p0)) then ((listAt p0 z0.2).bind fun x2 => ((T151 p1 x2).bind fun x3 => (bif x3 then (some (.inl ((addI .i64 z0.1 (minI x2.f2 p1.f5)), (addI .i64 z0.2 1)))) else (some (.inl (z0.1, (addI .i64 z0.2 1))))))) else (some (.inr (z0.1, z0.2, (ltI z0.2 (lenL p0))))))
theorem L62_6_ok (C : Callee) (h151 : ∀ (p0 : S53) (p1 : S90), C 151 [a53 p0, a90 p1] = (T151 p0 p1).map B) (p0 : (List S90)) (p1 : S53) (z0 : (Int × Int)) : runs Try.prog C (cfg.fn 62) (finLoop ((cfg.fn 62).keep 6)) [] (execA Try.prog C (cfg.fn 62) (nr Try.f62 [false, false, true, false, true, true, true]) ((fun z0 : (Int × Int) => (mkE [(3, .ba 24 0), (7, I z0.1), (17, LL a90 p0), (18, I (lenL p0)), (19, I z0.2)] [(24, .box [S p1.f0, S p1.f1, I p1.f2.f0, I p1.f2.f1, LL S p1.f3, I p1.f4, I p1.f5, I p1.f6] false)] 35)) z0)) = (L62_6 p0 p1 z0).map (Sum.elim (fun z => .inl ((fun z0 : (Int × Int) => (mkE [(3, .ba 24 0), (7, I z0.1), (17, LL a90 p0), (18, I (lenL p0)), (19, I z0.2)] [(24, .box [S p1.f0, S p1.f1, I p1.f2.f0, I p1.f2.f1, LL S p1.f3, I p1.f4, I p1.f5, I p1.f6] false)] 35)) z)) (fun x => .inr ((fun (x : (Int × Int × Bool)) => (.exit 0, (mkE [(3, .ba 24 0), (7, I x.1), (17, LL a90 p0), (18, I (lenL p0)), (19, I x.2.1), (20, B x.2.2)] [(24, .box [S p1.f0, S p1.f1, I p1.f2.f0, I p1.f2.f1, LL S p1.f3, I p1.f4, I p1.f5, I p1.f6] false)] 35))) x))) := by
  unfold L62_6
  refine gS 0 ?_
  refine gR 6 (rg Try.f62 6) ?_
  refine se (mkE [(3, .ba 24 0), (7, I z0.1), (17, LL a90 p0), (18, I (lenL p0)), (19, I z0.2), (20, B (ltI z0.2 (lenL p0)))] [(24, .box [S p1.f0, S p1.f1, I p1.f2.f0, I p1.f2.f1, LL S p1.f3, I p1.f4, I p1.f5, I p1.f6] false)] 35) ?_
  refine pN ?_
  refine pS ?_
  refine gS 7 ?_
  refine gC 20 (ltI z0.2 (lenL p0)) ?_ ?_
  · refine gK ?_
    refine pN ?_
    refine pS ?_
    refine gS 10 ?_
    refine gB 1 ?_
    refine gS 8 ?_
    refine gR 7 (rg Try.f62 7) ?_
    refine vo 21 (addrE 28 91 5 a90 .i64 p0 z0.2) (fun x2 => ?_)
    refine se (mkE [(3, .ba 24 0), (7, I z0.1), (9, .ba 72 0), (17, LL a90 p0), (18, I (lenL p0)), (19, I z0.2)] [(24, .box [S p1.f0, S p1.f1, I p1.f2.f0, I p1.f2.f1, LL S p1.f3, I p1.f4, I p1.f5, I p1.f6] false), (72, .box [S x2.f0, I x2.f1.f0, I x2.f1.f1, I x2.f2, LL S x2.f3] false)] 35) ?_
    refine pN ?_
    refine pS ?_
    refine gS 0 ?_
    refine gR 8 (rg Try.f62 8) ?_
    refine sg 2 (mkE [(24, a90 x2), (23, a53 p1), (3, .ba 24 0), (7, I z0.1), (9, .ba 72 0), (17, LL a90 p0), (18, I (lenL p0)), (19, I z0.2)] [(24, .box [S p1.f0, S p1.f1, I p1.f2.f0, I p1.f2.f1, LL S p1.f3, I p1.f4, I p1.f5, I p1.f6] false), (72, .box [S x2.f0, I x2.f1.f0, I x2.f1.f1, I x2.f2, LL S x2.f3] false)] 35) ?_
    refine co 25 [] (h151 p1 x2) (fun x3 => ?_)
    refine se (mkE [(3, .ba 24 0), (7, I z0.1), (9, .ba 72 0), (17, LL a90 p0), (18, I (lenL p0)), (19, I z0.2), (25, B x3)] [(24, .box [S p1.f0, S p1.f1, I p1.f2.f0, I p1.f2.f1, LL S p1.f3, I p1.f4, I p1.f5, I p1.f6] false), (72, .box [S x2.f0, I x2.f1.f0, I x2.f1.f1, I x2.f2, LL S x2.f3] false)] 35) ?_
    refine pN ?_
    refine pS ?_
    refine gC 25 x3 ?_ ?_
    · refine gR 9 (rg Try.f62 9) ?_
      refine se (mkE [(3, .ba 24 0), (7, I (addI .i64 z0.1 (minI x2.f2 p1.f5))), (17, LL a90 p0), (18, I (lenL p0)), (19, I z0.2)] [(24, .box [S p1.f0, S p1.f1, I p1.f2.f0, I p1.f2.f1, LL S p1.f3, I p1.f4, I p1.f5, I p1.f6] false)] 35) ?_
      refine pB ?_
      refine pN ?_
      refine pS ?_
      refine gR 10 (rg Try.f62 10) ?_
      refine se (mkE [(3, .ba 24 0), (7, I (addI .i64 z0.1 (minI x2.f2 p1.f5))), (17, LL a90 p0), (18, I (lenL p0)), (19, I (addI .i64 z0.2 1))] [(24, .box [S p1.f0, S p1.f1, I p1.f2.f0, I p1.f2.f1, LL S p1.f3, I p1.f4, I p1.f5, I p1.f6] false)] 35) ?_
      exact pL
    · refine gK ?_
      refine pB ?_
      refine pN ?_
      refine pS ?_
      refine gR 10 (rg Try.f62 10) ?_
      refine se (mkE [(3, .ba 24 0), (7, I z0.1), (17, LL a90 p0), (18, I (lenL p0)), (19, I (addI .i64 z0.2 1))] [(24, .box [S p1.f0, S p1.f1, I p1.f2.f0, I p1.f2.f1, LL S p1.f3, I p1.f4, I p1.f5, I p1.f6] false)] 35) ?_
      exact pL
  · refine gX 0 ?_
    exact pL
noncomputable def T62 (p0 : (List S90)) (p1 : S53) : Option (Int × Int) := ((T150 p0 ([p1] : List S53)).bind fun x1 => (bif (neI x1 0) then (some (0, x1)) else ((iter (L62_6 p0 p1) (0, 0)).bind fun y4 => (some (y4.1, 0)))))
theorem B62 (C : Callee) (h150 : ∀ (p0 : (List S90)) (p1 : (List S53)), C 150 [LL a90 p0, LL a53 p1] = (T150 p0 p1).map I) (h151 : ∀ (p0 : S53) (p1 : S90), C 151 [a53 p0, a90 p1] = (T151 p0 p1).map B) (p0 : (List S90)) (p1 : S53) : runs Try.prog C (cfg.fn 62) (finFn Try.prog (cfg.fn 62).byval Try.f62) [] (execA Try.prog C (cfg.fn 62) (nr Try.f62 []) (frame0 [LL a90 p0, a53 p1] 35)) = (T62 p0 p1).map (fun r => AV.tup [I r.1, I r.2]) := by
  unfold T62
  refine gS 1 ?_
  refine gR 0 (rg Try.f62 0) ?_
  refine se (mkE [(0, LL a90 p0), (3, .ba 24 0)] [(24, .box [S p1.f0, S p1.f1, I p1.f2.f0, I p1.f2.f1, LL S p1.f3, I p1.f4, I p1.f5, I p1.f6] false)] 35) ?_
  refine pN ?_
  refine pS ?_
  refine gS 4 ?_
  refine gS 2 ?_
  refine gR 1 (rg Try.f62 1) ?_
  refine sg 3 (mkE [(12, .own 96 0), (11, a53 p1), (10, LL a90 p0), (0, LL a90 p0), (3, .ba 24 0)] [(96, RR 54 8 a53 ([p1] : List S53) 0 false), (24, .box [S p1.f0, S p1.f1, I p1.f2.f0, I p1.f2.f1, LL S p1.f3, I p1.f4, I p1.f5, I p1.f6] false)] 35) ?_
  refine co 13 [96] (h150 p0 ([p1] : List S53)) (fun x1 => ?_)
  refine se (mkE [(0, LL a90 p0), (3, .ba 24 0), (6, I x1)] [(24, .box [S p1.f0, S p1.f1, I p1.f2.f0, I p1.f2.f1, LL S p1.f3, I p1.f4, I p1.f5, I p1.f6] false)] 35) ?_
  refine pN ?_
  refine pS ?_
  refine gS 0 ?_
  refine gR 2 (rg Try.f62 2) ?_
  refine se (mkE [(0, LL a90 p0), (3, .ba 24 0), (6, I x1), (15, B (neI x1 0))] [(24, .box [S p1.f0, S p1.f1, I p1.f2.f0, I p1.f2.f1, LL S p1.f3, I p1.f4, I p1.f5, I p1.f6] false)] 35) ?_
  refine pN ?_
  refine pS ?_
  refine gC 15 (neI x1 0) ?_ ?_
  · refine gS 0 ?_
    refine gR 3 (rg Try.f62 3) ?_
    refine se (mkE [(4, I 0), (5, I x1)] [] 35) ?_
    refine pN ?_
    refine pS ?_
    refine gE ?_
    exact pL
  · refine gK ?_
    refine pN ?_
    refine pS ?_
    refine gS 5 ?_
    refine gR 4 (rg Try.f62 4) ?_
    refine se (mkE [(0, LL a90 p0), (3, .ba 24 0), (7, I 0)] [(24, .box [S p1.f0, S p1.f1, I p1.f2.f0, I p1.f2.f1, LL S p1.f3, I p1.f4, I p1.f5, I p1.f6] false)] 35) ?_
    refine pN ?_
    refine pS ?_
    refine gS 11 ?_
    refine gS 6 ?_
    refine gR 5 (rg Try.f62 5) ?_
    refine sg 1 (mkE [(17, LL a90 p0), (0, LL a90 p0), (3, .ba 24 0), (7, I 0)] [(24, .box [S p1.f0, S p1.f1, I p1.f2.f0, I p1.f2.f1, LL S p1.f3, I p1.f4, I p1.f5, I p1.f6] false)] 35) ?_
    refine eo 18 (I (lenL p0)) (lenE 28 a90 p0) ?_
    refine se (mkE [(3, .ba 24 0), (7, I 0), (17, LL a90 p0), (18, I (lenL p0)), (19, I 0)] [(24, .box [S p1.f0, S p1.f1, I p1.f2.f0, I p1.f2.f1, LL S p1.f3, I p1.f4, I p1.f5, I p1.f6] false)] 35) ?_
    refine pN ?_
    refine pS ?_
    refine gB 0 ?_
    refine lo [(3, none), (7, none), (17, none), (18, none), (19, none)] (L62_6 p0 p1) (fun z0 : (Int × Int) => (mkE [(3, .ba 24 0), (7, I z0.1), (17, LL a90 p0), (18, I (lenL p0)), (19, I z0.2)] [(24, .box [S p1.f0, S p1.f1, I p1.f2.f0, I p1.f2.f1, LL S p1.f3, I p1.f4, I p1.f5, I p1.f6] false)] 35)) (fun (x : (Int × Int × Bool)) => (.exit 0, (mkE [(3, .ba 24 0), (7, I x.1), (17, LL a90 p0), (18, I (lenL p0)), (19, I x.2.1), (20, B x.2.2)] [(24, .box [S p1.f0, S p1.f1, I p1.f2.f0, I p1.f2.f1, LL S p1.f3, I p1.f4, I p1.f5, I p1.f6] false)] 35))) (0, 0) (fun z => L62_6_ok C h151 p0 p1 z) ?_
    intro y4
    refine pH ?_
    refine pN ?_
    refine pS ?_
    refine gS 0 ?_
    refine gR 11 (rg Try.f62 11) ?_
    refine se (mkE [(4, I y4.1), (5, I 0)] [] 35) ?_
    refine pN ?_
    refine pS ?_
    refine gE ?_
    exact pL
theorem F62 (m : Nat) (hm : 6 ≤ m) (p0 : (List S90)) (p1 : S53) : callA Try.prog cfg m 62 [LL a90 p0, a53 p1] = (T62 p0 p1).map (fun r => AV.tup [I r.1, I r.2]) := by
  obtain ⟨q, rfl⟩ : ∃ q, m = q + 1 := ⟨m - 1, by omega⟩
  exact (callA_body (fn := Try.f62) (c := body_ Try.f62) q _ (by kernel_rfl) (by kernel_rfl) (by kernel_rfl)).trans (B62 _ (fun p0 p1 => F150 q (by omega) p0 p1) (fun p0 p1 => F151 q (by omega) p0 p1) p0 p1)

noncomputable def L229_2 (p0 : (List ByteArray)) (p1 : ByteArray) (z0 : Int) : Option (Int ⊕ ((Int × Bool) ⊕ Int)) := (bif (ltI z0 (lenL p0)) then ((listAt p0 z0).bind fun x1 => (bif (eqS p1 x1) then (some (.inr (.inr z0))) else (some (.inl (addI .i64 z0 1))))) else (some (.inr (.inl (z0, (ltI z0 (lenL p0)))))))
theorem L229_2_ok (C : Callee) (p0 : (List ByteArray)) (p1 : ByteArray) (z0 : Int) : runs Try.prog C (cfg.fn 229) (finLoop ((cfg.fn 229).keep 2)) [] (execA Try.prog C (cfg.fn 229) (nr Try.f229 [false, false, true, false, true]) ((fun z0 : Int => (mkE [(0, LL S p0), (1, S p1), (7, I (lenL p0)), (8, I z0)] [] 19)) z0)) = (L229_2 p0 p1 z0).map (Sum.elim (fun z => .inl ((fun z0 : Int => (mkE [(0, LL S p0), (1, S p1), (7, I (lenL p0)), (8, I z0)] [] 19)) z)) (fun x => .inr ((Sum.elim (fun (x : (Int × Bool)) => (.exit 0, (mkE [(0, LL S p0), (1, S p1), (7, I (lenL p0)), (8, I x.1), (9, B x.2)] [] 19))) (fun (x : Int) => (.ret, (mkE [(4, I x)] [] 19)))) x))) := by
  unfold L229_2
  refine gS 0 ?_
  refine gR 2 (rg Try.f229 2) ?_
  refine se (mkE [(0, LL S p0), (1, S p1), (7, I (lenL p0)), (8, I z0), (9, B (ltI z0 (lenL p0)))] [] 19) ?_
  refine pN ?_
  refine pS ?_
  refine gS 3 ?_
  refine gC 9 (ltI z0 (lenL p0)) ?_ ?_
  · refine gK ?_
    refine pN ?_
    refine pS ?_
    refine gS 6 ?_
    refine gB 1 ?_
    refine gS 4 ?_
    refine gR 3 (rg Try.f229 3) ?_
    refine se (mkE [(0, LL S p0), (1, S p1), (5, I z0), (7, I (lenL p0)), (8, I z0)] [] 19) ?_
    refine pN ?_
    refine pS ?_
    refine gS 0 ?_
    refine gR 4 (rg Try.f229 4) ?_
    refine sg 3 (mkE [(13, I z0), (12, LL S p0), (11, S p1), (0, LL S p0), (1, S p1), (5, I z0), (7, I (lenL p0)), (8, I z0)] [] 19) ?_
    refine vo 14 (addrE 35 9 1 S .i64 p0 z0) (fun x1 => ?_)
    refine se (mkE [(0, LL S p0), (1, S p1), (5, I z0), (7, I (lenL p0)), (8, I z0), (16, B (eqS p1 x1))] [] 19) ?_
    refine pN ?_
    refine pS ?_
    refine gC 16 (eqS p1 x1) ?_ ?_
    · refine gS 0 ?_
      refine gR 5 (rg Try.f229 5) ?_
      refine se (mkE [(4, I z0)] [] 19) ?_
      refine pN ?_
      refine pS ?_
      refine gE ?_
      exact pL
    · refine gK ?_
      refine pB ?_
      refine pN ?_
      refine pS ?_
      refine gR 6 (rg Try.f229 6) ?_
      refine se (mkE [(0, LL S p0), (1, S p1), (7, I (lenL p0)), (8, I (addI .i64 z0 1))] [] 19) ?_
      exact pL
  · refine gX 0 ?_
    exact pL
noncomputable def T229 (p0 : (List ByteArray)) (p1 : ByteArray) : Option Int := ((iter (L229_2 p0 p1) 0).bind fun y2 => (Sum.elim (fun y2a => (some (-1))) (fun y2b => (some y2b)) y2))
theorem B229 (C : Callee) (p0 : (List ByteArray)) (p1 : ByteArray) : runs Try.prog C (cfg.fn 229) (finFn Try.prog (cfg.fn 229).byval Try.f229) [] (execA Try.prog C (cfg.fn 229) (nr Try.f229 []) (frame0 [LL S p0, S p1] 19)) = (T229 p0 p1).map I := by
  unfold T229
  refine gS 1 ?_
  refine gR 0 (rg Try.f229 0) ?_
  refine se (mkE [(0, LL S p0), (1, S p1)] [] 19) ?_
  refine pN ?_
  refine pS ?_
  refine gS 7 ?_
  refine gS 2 ?_
  refine gR 1 (rg Try.f229 1) ?_
  refine sg 1 (mkE [(6, LL S p0), (0, LL S p0), (1, S p1)] [] 19) ?_
  refine eo 7 (I (lenL p0)) (lenE 35 S p0) ?_
  refine se (mkE [(0, LL S p0), (1, S p1), (7, I (lenL p0)), (8, I 0)] [] 19) ?_
  refine pN ?_
  refine pS ?_
  refine gB 0 ?_
  refine lo [(0, none), (1, none), (7, none), (8, none)] (L229_2 p0 p1) (fun z0 : Int => (mkE [(0, LL S p0), (1, S p1), (7, I (lenL p0)), (8, I z0)] [] 19)) (Sum.elim (fun (x : (Int × Bool)) => (.exit 0, (mkE [(0, LL S p0), (1, S p1), (7, I (lenL p0)), (8, I x.1), (9, B x.2)] [] 19))) (fun (x : Int) => (.ret, (mkE [(4, I x)] [] 19)))) 0 (fun z => L229_2_ok C p0 p1 z) ?_
  intro y2
  refine ss y2 (Z := (Sum.elim (fun (x : (Int × Bool)) => (.exit 0, (mkE [(0, LL S p0), (1, S p1), (7, I (lenL p0)), (8, I x.1), (9, B x.2)] [] 19))) (fun (x : Int) => (.ret, (mkE [(4, I x)] [] 19))))) (fun y2a => ?_) (fun y2b => ?_)
  · refine pH ?_
    refine pN ?_
    refine pS ?_
    refine gS 0 ?_
    refine gR 7 (rg Try.f229 7) ?_
    refine se (mkE [(4, I (-1))] [] 19) ?_
    refine pN ?_
    refine pS ?_
    refine gE ?_
    exact pL
  · exact pL
theorem F229 (m : Nat) (hm : 1 ≤ m) (p0 : (List ByteArray)) (p1 : ByteArray) : callA Try.prog cfg m 229 [LL S p0, S p1] = (T229 p0 p1).map I := by
  obtain ⟨q, rfl⟩ : ∃ q, m = q + 1 := ⟨m - 1, by omega⟩
  exact (callA_body (fn := Try.f229) (c := body_ Try.f229) q _ (by kernel_rfl) (by kernel_rfl) (by kernel_rfl)).trans (B229 _ p0 p1)

noncomputable def T154 (p0 : (List ByteArray)) (p1 : ByteArray) : Option Bool := ((T229 p0 p1).bind fun x1 => (some (leI 0 x1)))
theorem B154 (C : Callee) (h229 : ∀ (p0 : (List ByteArray)) (p1 : ByteArray), C 229 [LL S p0, S p1] = (T229 p0 p1).map I) (p0 : (List ByteArray)) (p1 : ByteArray) : runs Try.prog C (cfg.fn 154) (finFn Try.prog (cfg.fn 154).byval Try.f154) [] (execA Try.prog C (cfg.fn 154) (nr Try.f154 []) (frame0 [LL S p0, S p1] 9)) = (T154 p0 p1).map B := by
  unfold T154
  refine gS 1 ?_
  refine gR 0 (rg Try.f154 0) ?_
  refine se (mkE [(0, LL S p0), (1, S p1)] [] 9) ?_
  refine pN ?_
  refine pS ?_
  refine gS 0 ?_
  refine gR 1 (rg Try.f154 1) ?_
  refine sg 2 (mkE [(6, S p1), (5, LL S p0), (0, LL S p0), (1, S p1)] [] 9) ?_
  refine co 7 [] (h229 p0 p1) (fun x1 => ?_)
  refine se (mkE [(4, B (leI 0 x1))] [] 9) ?_
  refine pN ?_
  refine pS ?_
  refine gE ?_
  exact pL
theorem F154 (m : Nat) (hm : 2 ≤ m) (p0 : (List ByteArray)) (p1 : ByteArray) : callA Try.prog cfg m 154 [LL S p0, S p1] = (T154 p0 p1).map B := by
  obtain ⟨q, rfl⟩ : ∃ q, m = q + 1 := ⟨m - 1, by omega⟩
  exact (callA_body (fn := Try.f154) (c := body_ Try.f154) q _ (by kernel_rfl) (by kernel_rfl) (by kernel_rfl)).trans (B154 _ (fun p0 p1 => F229 q (by omega) p0 p1) p0 p1)

noncomputable def T153 (p0 : ByteArray) (p1_c0 : ByteArray) (p1_c1 : Int) (p1_c2 : Int) (p1_c3 : Int) (p1_c4 : (List ByteArray)) : Option Bool := ((T154 p1_c4 p0).bind fun x1 => (some (!x1)))
theorem B153 (C : Callee) (h154 : ∀ (p0 : (List ByteArray)) (p1 : ByteArray), C 154 [LL S p0, S p1] = (T154 p0 p1).map B) (p0 : ByteArray) (p1_c0 : ByteArray) (p1_c1 : Int) (p1_c2 : Int) (p1_c3 : Int) (p1_c4 : (List ByteArray)) : runs Try.prog C (cfg.fn 153) (finFn Try.prog (cfg.fn 153).byval Try.f153) [] (execA Try.prog C (cfg.fn 153) (nr Try.f153 []) (frame0 [S p0, .ia [S p1_c0, I p1_c1, I p1_c2, I p1_c3, LL S p1_c4] 0] 9)) = (T153 p0 p1_c0 p1_c1 p1_c2 p1_c3 p1_c4).map B := by
  unfold T153
  refine gS 1 ?_
  refine gR 0 (rg Try.f153 0) ?_
  refine se (mkE [(0, S p0), (1, .ia [S p1_c0, I p1_c1, I p1_c2, I p1_c3, LL S p1_c4] 0)] [] 9) ?_
  refine pN ?_
  refine pS ?_
  refine gS 0 ?_
  refine gR 1 (rg Try.f153 1) ?_
  refine sg 3 (mkE [(6, S p0), (5, LL S p1_c4), (4, .ia [S p1_c0, I p1_c1, I p1_c2, I p1_c3, LL S p1_c4] 4), (0, S p0), (1, .ia [S p1_c0, I p1_c1, I p1_c2, I p1_c3, LL S p1_c4] 0)] [] 9) ?_
  refine co 7 [] (h154 p1_c4 p0) (fun x1 => ?_)
  refine se (mkE [(3, B (!x1))] [] 9) ?_
  refine pN ?_
  refine pS ?_
  refine gE ?_
  exact pL
theorem F153 (m : Nat) (hm : 3 ≤ m) (p0 : ByteArray) (p1_c0 : ByteArray) (p1_c1 : Int) (p1_c2 : Int) (p1_c3 : Int) (p1_c4 : (List ByteArray)) : callA Try.prog cfg m 153 [S p0, .ia [S p1_c0, I p1_c1, I p1_c2, I p1_c3, LL S p1_c4] 0] = (T153 p0 p1_c0 p1_c1 p1_c2 p1_c3 p1_c4).map B := by
  obtain ⟨q, rfl⟩ : ∃ q, m = q + 1 := ⟨m - 1, by omega⟩
  exact (callA_body (fn := Try.f153) (c := body_ Try.f153) q _ (by kernel_rfl) (by kernel_rfl) (by kernel_rfl)).trans (B153 _ (fun p0 p1 => F154 q (by omega) p0 p1) p0 p1_c0 p1_c1 p1_c2 p1_c3 p1_c4)

noncomputable def L228_2 (p0 : (List ByteArray)) (p1_c0 : ByteArray) (p1_c1 : Int) (p1_c2 : Int) (p1_c3 : Int) (p1_c4 : (List ByteArray)) (z0 : Int) : Option (Int ⊕ ((Int × Bool) ⊕ Int)) := (bif (ltI z0 (lenL p0)) then ((listAt p0 z0).bind fun x1 => ((T153 x1 p1_c0 p1_c1 p1_c2 p1_c3 p1_c4).bind fun x2 => (bif x2 then (some (.inr (.inr z0))) else (some (.inl (addI .i64 z0 1)))))) else (some (.inr (.inl (z0, (ltI z0 (lenL p0)))))))
theorem L228_2_ok (C : Callee) (h153 : ∀ (p0 : ByteArray) (p1_c0 : ByteArray) (p1_c1 : Int) (p1_c2 : Int) (p1_c3 : Int) (p1_c4 : (List ByteArray)), C 153 [S p0, .ia [S p1_c0, I p1_c1, I p1_c2, I p1_c3, LL S p1_c4] 0] = (T153 p0 p1_c0 p1_c1 p1_c2 p1_c3 p1_c4).map B) (p0 : (List ByteArray)) (p1_c0 : ByteArray) (p1_c1 : Int) (p1_c2 : Int) (p1_c3 : Int) (p1_c4 : (List ByteArray)) (z0 : Int) : runs Try.prog C (cfg.fn 228) (finLoop ((cfg.fn 228).keep 2)) [] (execA Try.prog C (cfg.fn 228) (nr Try.f228 [false, false, true, false, true]) ((fun z0 : Int => (mkE [(0, LL S p0), (1, .fn 153 [.ia [S p1_c0, I p1_c1, I p1_c2, I p1_c3, LL S p1_c4] 0]), (7, I (lenL p0)), (8, I z0)] [] 19)) z0)) = (L228_2 p0 p1_c0 p1_c1 p1_c2 p1_c3 p1_c4 z0).map (Sum.elim (fun z => .inl ((fun z0 : Int => (mkE [(0, LL S p0), (1, .fn 153 [.ia [S p1_c0, I p1_c1, I p1_c2, I p1_c3, LL S p1_c4] 0]), (7, I (lenL p0)), (8, I z0)] [] 19)) z)) (fun x => .inr ((Sum.elim (fun (x : (Int × Bool)) => (.exit 0, (mkE [(0, LL S p0), (1, .fn 153 [.ia [S p1_c0, I p1_c1, I p1_c2, I p1_c3, LL S p1_c4] 0]), (7, I (lenL p0)), (8, I x.1), (9, B x.2)] [] 19))) (fun (x : Int) => (.ret, (mkE [(4, I x)] [] 19)))) x))) := by
  unfold L228_2
  refine gS 0 ?_
  refine gR 2 (rg Try.f228 2) ?_
  refine se (mkE [(0, LL S p0), (1, .fn 153 [.ia [S p1_c0, I p1_c1, I p1_c2, I p1_c3, LL S p1_c4] 0]), (7, I (lenL p0)), (8, I z0), (9, B (ltI z0 (lenL p0)))] [] 19) ?_
  refine pN ?_
  refine pS ?_
  refine gS 3 ?_
  refine gC 9 (ltI z0 (lenL p0)) ?_ ?_
  · refine gK ?_
    refine pN ?_
    refine pS ?_
    refine gS 6 ?_
    refine gB 1 ?_
    refine gS 4 ?_
    refine gR 3 (rg Try.f228 3) ?_
    refine se (mkE [(0, LL S p0), (1, .fn 153 [.ia [S p1_c0, I p1_c1, I p1_c2, I p1_c3, LL S p1_c4] 0]), (5, I z0), (7, I (lenL p0)), (8, I z0)] [] 19) ?_
    refine pN ?_
    refine pS ?_
    refine gS 0 ?_
    refine gR 4 (rg Try.f228 4) ?_
    refine sg 3 (mkE [(13, I z0), (12, LL S p0), (11, .fn 153 [.ia [S p1_c0, I p1_c1, I p1_c2, I p1_c3, LL S p1_c4] 0]), (0, LL S p0), (1, .fn 153 [.ia [S p1_c0, I p1_c1, I p1_c2, I p1_c3, LL S p1_c4] 0]), (5, I z0), (7, I (lenL p0)), (8, I z0)] [] 19) ?_
    refine vo 14 (addrE 35 9 1 S .i64 p0 z0) (fun x1 => ?_)
    refine sg 5 (mkE [(15, S x1), (14, .ia [S x1] 0), (13, I z0), (12, LL S p0), (11, .fn 153 [.ia [S p1_c0, I p1_c1, I p1_c2, I p1_c3, LL S p1_c4] 0]), (0, LL S p0), (1, .fn 153 [.ia [S p1_c0, I p1_c1, I p1_c2, I p1_c3, LL S p1_c4] 0]), (5, I z0), (7, I (lenL p0)), (8, I z0)] [] 19) ?_
    refine co 16 [] (h153 x1 p1_c0 p1_c1 p1_c2 p1_c3 p1_c4) (fun x2 => ?_)
    refine se (mkE [(0, LL S p0), (1, .fn 153 [.ia [S p1_c0, I p1_c1, I p1_c2, I p1_c3, LL S p1_c4] 0]), (5, I z0), (7, I (lenL p0)), (8, I z0), (16, B x2)] [] 19) ?_
    refine pN ?_
    refine pS ?_
    refine gC 16 x2 ?_ ?_
    · refine gS 0 ?_
      refine gR 5 (rg Try.f228 5) ?_
      refine se (mkE [(4, I z0)] [] 19) ?_
      refine pN ?_
      refine pS ?_
      refine gE ?_
      exact pL
    · refine gK ?_
      refine pB ?_
      refine pN ?_
      refine pS ?_
      refine gR 6 (rg Try.f228 6) ?_
      refine se (mkE [(0, LL S p0), (1, .fn 153 [.ia [S p1_c0, I p1_c1, I p1_c2, I p1_c3, LL S p1_c4] 0]), (7, I (lenL p0)), (8, I (addI .i64 z0 1))] [] 19) ?_
      exact pL
  · refine gX 0 ?_
    exact pL
noncomputable def T228 (p0 : (List ByteArray)) (p1_c0 : ByteArray) (p1_c1 : Int) (p1_c2 : Int) (p1_c3 : Int) (p1_c4 : (List ByteArray)) : Option Int := ((iter (L228_2 p0 p1_c0 p1_c1 p1_c2 p1_c3 p1_c4) 0).bind fun y3 => (Sum.elim (fun y3a => (some (-1))) (fun y3b => (some y3b)) y3))
theorem B228 (C : Callee) (h153 : ∀ (p0 : ByteArray) (p1_c0 : ByteArray) (p1_c1 : Int) (p1_c2 : Int) (p1_c3 : Int) (p1_c4 : (List ByteArray)), C 153 [S p0, .ia [S p1_c0, I p1_c1, I p1_c2, I p1_c3, LL S p1_c4] 0] = (T153 p0 p1_c0 p1_c1 p1_c2 p1_c3 p1_c4).map B) (p0 : (List ByteArray)) (p1_c0 : ByteArray) (p1_c1 : Int) (p1_c2 : Int) (p1_c3 : Int) (p1_c4 : (List ByteArray)) : runs Try.prog C (cfg.fn 228) (finFn Try.prog (cfg.fn 228).byval Try.f228) [] (execA Try.prog C (cfg.fn 228) (nr Try.f228 []) (frame0 [LL S p0, .fn 153 [.ia [S p1_c0, I p1_c1, I p1_c2, I p1_c3, LL S p1_c4] 0]] 19)) = (T228 p0 p1_c0 p1_c1 p1_c2 p1_c3 p1_c4).map I := by
  unfold T228
  refine gS 1 ?_
  refine gR 0 (rg Try.f228 0) ?_
  refine se (mkE [(0, LL S p0), (1, .fn 153 [.ia [S p1_c0, I p1_c1, I p1_c2, I p1_c3, LL S p1_c4] 0])] [] 19) ?_
  refine pN ?_
  refine pS ?_
  refine gS 7 ?_
  refine gS 2 ?_
  refine gR 1 (rg Try.f228 1) ?_
  refine sg 1 (mkE [(6, LL S p0), (0, LL S p0), (1, .fn 153 [.ia [S p1_c0, I p1_c1, I p1_c2, I p1_c3, LL S p1_c4] 0])] [] 19) ?_
  refine eo 7 (I (lenL p0)) (lenE 35 S p0) ?_
  refine se (mkE [(0, LL S p0), (1, .fn 153 [.ia [S p1_c0, I p1_c1, I p1_c2, I p1_c3, LL S p1_c4] 0]), (7, I (lenL p0)), (8, I 0)] [] 19) ?_
  refine pN ?_
  refine pS ?_
  refine gB 0 ?_
  refine lo [(0, none), (1, none), (7, none), (8, none)] (L228_2 p0 p1_c0 p1_c1 p1_c2 p1_c3 p1_c4) (fun z0 : Int => (mkE [(0, LL S p0), (1, .fn 153 [.ia [S p1_c0, I p1_c1, I p1_c2, I p1_c3, LL S p1_c4] 0]), (7, I (lenL p0)), (8, I z0)] [] 19)) (Sum.elim (fun (x : (Int × Bool)) => (.exit 0, (mkE [(0, LL S p0), (1, .fn 153 [.ia [S p1_c0, I p1_c1, I p1_c2, I p1_c3, LL S p1_c4] 0]), (7, I (lenL p0)), (8, I x.1), (9, B x.2)] [] 19))) (fun (x : Int) => (.ret, (mkE [(4, I x)] [] 19)))) 0 (fun z => L228_2_ok C h153 p0 p1_c0 p1_c1 p1_c2 p1_c3 p1_c4 z) ?_
  intro y3
  refine ss y3 (Z := (Sum.elim (fun (x : (Int × Bool)) => (.exit 0, (mkE [(0, LL S p0), (1, .fn 153 [.ia [S p1_c0, I p1_c1, I p1_c2, I p1_c3, LL S p1_c4] 0]), (7, I (lenL p0)), (8, I x.1), (9, B x.2)] [] 19))) (fun (x : Int) => (.ret, (mkE [(4, I x)] [] 19))))) (fun y3a => ?_) (fun y3b => ?_)
  · refine pH ?_
    refine pN ?_
    refine pS ?_
    refine gS 0 ?_
    refine gR 7 (rg Try.f228 7) ?_
    refine se (mkE [(4, I (-1))] [] 19) ?_
    refine pN ?_
    refine pS ?_
    refine gE ?_
    exact pL
  · exact pL
theorem F228 (m : Nat) (hm : 4 ≤ m) (p0 : (List ByteArray)) (p1_c0 : ByteArray) (p1_c1 : Int) (p1_c2 : Int) (p1_c3 : Int) (p1_c4 : (List ByteArray)) : callA Try.prog cfg m 228 [LL S p0, .fn 153 [.ia [S p1_c0, I p1_c1, I p1_c2, I p1_c3, LL S p1_c4] 0]] = (T228 p0 p1_c0 p1_c1 p1_c2 p1_c3 p1_c4).map I := by
  obtain ⟨q, rfl⟩ : ∃ q, m = q + 1 := ⟨m - 1, by omega⟩
  exact (callA_body (fn := Try.f228) (c := body_ Try.f228) q _ (by kernel_rfl) (by kernel_rfl) (by kernel_rfl)).trans (B228 _ (fun p0 p1_c0 p1_c1 p1_c2 p1_c3 p1_c4 => F153 q (by omega) p0 p1_c0 p1_c1 p1_c2 p1_c3 p1_c4) p0 p1_c0 p1_c1 p1_c2 p1_c3 p1_c4)

noncomputable def T152 (p0 : (List ByteArray)) (p1_c0 : ByteArray) (p1_c1 : Int) (p1_c2 : Int) (p1_c3 : Int) (p1_c4 : (List ByteArray)) : Option Bool := ((T228 p0 p1_c0 p1_c1 p1_c2 p1_c3 p1_c4).bind fun x1 => (some (leI 0 x1)))
theorem B152 (C : Callee) (h228 : ∀ (p0 : (List ByteArray)) (p1_c0 : ByteArray) (p1_c1 : Int) (p1_c2 : Int) (p1_c3 : Int) (p1_c4 : (List ByteArray)), C 228 [LL S p0, .fn 153 [.ia [S p1_c0, I p1_c1, I p1_c2, I p1_c3, LL S p1_c4] 0]] = (T228 p0 p1_c0 p1_c1 p1_c2 p1_c3 p1_c4).map I) (p0 : (List ByteArray)) (p1_c0 : ByteArray) (p1_c1 : Int) (p1_c2 : Int) (p1_c3 : Int) (p1_c4 : (List ByteArray)) : runs Try.prog C (cfg.fn 152) (finFn Try.prog (cfg.fn 152).byval Try.f152) [] (execA Try.prog C (cfg.fn 152) (nr Try.f152 []) (frame0 [LL S p0, .fn 153 [.ia [S p1_c0, I p1_c1, I p1_c2, I p1_c3, LL S p1_c4] 0]] 9)) = (T152 p0 p1_c0 p1_c1 p1_c2 p1_c3 p1_c4).map B := by
  unfold T152
  refine gS 1 ?_
  refine gR 0 (rg Try.f152 0) ?_
  refine se (mkE [(0, LL S p0), (1, .fn 153 [.ia [S p1_c0, I p1_c1, I p1_c2, I p1_c3, LL S p1_c4] 0])] [] 9) ?_
  refine pN ?_
  refine pS ?_
  refine gS 0 ?_
  refine gR 1 (rg Try.f152 1) ?_
  refine sg 2 (mkE [(6, .fn 153 [.ia [S p1_c0, I p1_c1, I p1_c2, I p1_c3, LL S p1_c4] 0]), (5, LL S p0), (0, LL S p0), (1, .fn 153 [.ia [S p1_c0, I p1_c1, I p1_c2, I p1_c3, LL S p1_c4] 0])] [] 9) ?_
  refine co 7 [] (h228 p0 p1_c0 p1_c1 p1_c2 p1_c3 p1_c4) (fun x1 => ?_)
  refine se (mkE [(4, B (leI 0 x1))] [] 9) ?_
  refine pN ?_
  refine pS ?_
  refine gE ?_
  exact pL
theorem F152 (m : Nat) (hm : 5 ≤ m) (p0 : (List ByteArray)) (p1_c0 : ByteArray) (p1_c1 : Int) (p1_c2 : Int) (p1_c3 : Int) (p1_c4 : (List ByteArray)) : callA Try.prog cfg m 152 [LL S p0, .fn 153 [.ia [S p1_c0, I p1_c1, I p1_c2, I p1_c3, LL S p1_c4] 0]] = (T152 p0 p1_c0 p1_c1 p1_c2 p1_c3 p1_c4).map B := by
  obtain ⟨q, rfl⟩ : ∃ q, m = q + 1 := ⟨m - 1, by omega⟩
  exact (callA_body (fn := Try.f152) (c := body_ Try.f152) q _ (by kernel_rfl) (by kernel_rfl) (by kernel_rfl)).trans (B152 _ (fun p0 p1_c0 p1_c1 p1_c2 p1_c3 p1_c4 => F228 q (by omega) p0 p1_c0 p1_c1 p1_c2 p1_c3 p1_c4) p0 p1_c0 p1_c1 p1_c2 p1_c3 p1_c4)

noncomputable def T65 (p0 : S53) (p1 : S90) : Option Bool := (bif (leI p0.f2.f0 p1.f1.f0) then (bif (leI p1.f1.f1 p0.f2.f1) then ((T152 p0.f3 p1.f0 p1.f1.f0 p1.f1.f1 p1.f2 p1.f3).bind fun x1 => (some (!x1))) else (some false)) else (some false))
theorem B65 (C : Callee) (h152 : ∀ (p0 : (List ByteArray)) (p1_c0 : ByteArray) (p1_c1 : Int) (p1_c2 : Int) (p1_c3 : Int) (p1_c4 : (List ByteArray)), C 152 [LL S p0, .fn 153 [.ia [S p1_c0, I p1_c1, I p1_c2, I p1_c3, LL S p1_c4] 0]] = (T152 p0 p1_c0 p1_c1 p1_c2 p1_c3 p1_c4).map B) (p0 : S53) (p1 : S90) : runs Try.prog C (cfg.fn 65) (finFn Try.prog (cfg.fn 65).byval Try.f65) [] (execA Try.prog C (cfg.fn 65) (nr Try.f65 []) (frame0 [a53 p0, a90 p1] 28)) = (T65 p0 p1).map B := by
  unfold T65
  refine gS 1 ?_
  refine gR 0 (rg Try.f65 0) ?_
  refine se (mkE [(2, .ba 16 0), (3, .ba 24 0)] [(16, .box [S p0.f0, S p0.f1, I p0.f2.f0, I p0.f2.f1, LL S p0.f3, I p0.f4, I p0.f5, I p0.f6] false), (24, .box [S p1.f0, I p1.f1.f0, I p1.f1.f1, I p1.f2, LL S p1.f3] false)] 28) ?_
  refine pN ?_
  refine pS ?_
  refine gS 0 ?_
  refine gR 1 (rg Try.f65 1) ?_
  refine sg 8 (mkE [(12, B (leI p0.f2.f0 p1.f1.f0)), (11, B (leI p0.f2.f0 p1.f1.f0)), (10, I p1.f1.f0), (9, .ba 24 1), (8, .ba 24 1), (7, I p0.f2.f0), (6, .ba 16 2), (5, .ba 16 2), (2, .ba 16 0), (3, .ba 24 0)] [(16, .box [S p0.f0, S p0.f1, I p0.f2.f0, I p0.f2.f1, LL S p0.f3, I p0.f4, I p0.f5, I p0.f6] false), (24, .box [S p1.f0, I p1.f1.f0, I p1.f1.f1, I p1.f2, LL S p1.f3] false)] 28) ?_
  refine sb 12 (leI p0.f2.f0 p1.f1.f0) ?_ ?_
  · refine sg 17 (mkE [(21, B (leI p1.f1.f1 p0.f2.f1)), (20, B (leI p1.f1.f1 p0.f2.f1)), (19, B (leI p1.f1.f1 p0.f2.f1)), (18, I p0.f2.f1), (17, .ba 16 3), (16, .ba 16 2), (15, I p1.f1.f1), (14, .ba 24 2), (13, .ba 24 1), (12, B true), (12, B (leI p0.f2.f0 p1.f1.f0)), (11, B (leI p0.f2.f0 p1.f1.f0)), (10, I p1.f1.f0), (9, .ba 24 1), (8, .ba 24 1), (7, I p0.f2.f0), (6, .ba 16 2), (5, .ba 16 2), (2, .ba 16 0), (3, .ba 24 0)] [(16, .box [S p0.f0, S p0.f1, I p0.f2.f0, I p0.f2.f1, LL S p0.f3, I p0.f4, I p0.f5, I p0.f6] false), (24, .box [S p1.f0, I p1.f1.f0, I p1.f1.f1, I p1.f2, LL S p1.f3] false)] 28) ?_
    refine sb 21 (leI p1.f1.f1 p0.f2.f1) ?_ ?_
    · refine sg 20 (mkE [(24, .fn 153 [.ba 24 0]), (23, LL S p0.f3), (22, .ba 16 4), (21, B true), (21, B (leI p1.f1.f1 p0.f2.f1)), (20, B (leI p1.f1.f1 p0.f2.f1)), (19, B (leI p1.f1.f1 p0.f2.f1)), (18, I p0.f2.f1), (17, .ba 16 3), (16, .ba 16 2), (15, I p1.f1.f1), (14, .ba 24 2), (13, .ba 24 1), (12, B true), (12, B (leI p0.f2.f0 p1.f1.f0)), (11, B (leI p0.f2.f0 p1.f1.f0)), (10, I p1.f1.f0), (9, .ba 24 1), (8, .ba 24 1), (7, I p0.f2.f0), (6, .ba 16 2), (5, .ba 16 2), (2, .ba 16 0), (3, .ba 24 0)] [(16, .box [S p0.f0, S p0.f1, I p0.f2.f0, I p0.f2.f1, LL S p0.f3, I p0.f4, I p0.f5, I p0.f6] false), (24, .box [S p1.f0, I p1.f1.f0, I p1.f1.f1, I p1.f2, LL S p1.f3] false)] 28) ?_
      refine co 25 [24] (h152 p0.f3 p1.f0 p1.f1.f0 p1.f1.f1 p1.f2 p1.f3) (fun x1 => ?_)
      refine se (mkE [(4, B (!x1))] [] 28) ?_
      refine pN ?_
      refine pS ?_
      refine gE ?_
      exact pL
    · refine se (mkE [(4, B false)] [] 28) ?_
      refine pN ?_
      refine pS ?_
      refine gE ?_
      exact pL
  · refine se (mkE [(4, B false)] [] 28) ?_
    refine pN ?_
    refine pS ?_
    refine gE ?_
    exact pL
theorem F65 (m : Nat) (hm : 6 ≤ m) (p0 : S53) (p1 : S90) : callA Try.prog cfg m 65 [a53 p0, a90 p1] = (T65 p0 p1).map B := by
  obtain ⟨q, rfl⟩ : ∃ q, m = q + 1 := ⟨m - 1, by omega⟩
  exact (callA_body (fn := Try.f65) (c := body_ Try.f65) q _ (by kernel_rfl) (by kernel_rfl) (by kernel_rfl)).trans (B65 _ (fun p0 p1_c0 p1_c1 p1_c2 p1_c3 p1_c4 => F152 q (by omega) p0 p1_c0 p1_c1 p1_c2 p1_c3 p1_c4) p0 p1)

noncomputable def L63_3 (p0 : (List S90)) (p1 : S53) (z0 : (Int × Int)) : Option ((Int × Int) ⊕ (Int × Int × Bool)) := (bif (ltI z0.2 (lenL p0)) then ((listAt p0 z0.2).bind fun x1 => ((T65 p1 x1).bind fun x2 => (bif x2 then (some (.inl ((addI .i64 z0.1 (minI x1.f2 p1.f5)), (addI .i64 z0.2 1)))) else (some (.inl (z0.1, (addI .i64 z0.2 1))))))) else (some (.inr (z0.1, z0.2, (ltI z0.2 (lenL p0))))))
theorem L63_3_ok (C : Callee) (h65 : ∀ (p0 : S53) (p1 : S90), C 65 [a53 p0, a90 p1] = (T65 p0 p1).map B) (p0 : (List S90)) (p1 : S53) (z0 : (Int × Int)) : runs Try.prog C (cfg.fn 63) (finLoop ((cfg.fn 63).keep 3)) [] (execA Try.prog C (cfg.fn 63) (nr Try.f63 [false, false, true, false, true, true]) ((fun z0 : (Int × Int) => (mkE [(3, .ba 24 0), (5, I z0.1), (8, LL a90 p0), (9, I (lenL p0)), (10, I z0.2)] [(24, .box [S p1.f0, S p1.f1, I p1.f2.f0, I p1.f2.f1, LL S p1.f3, I p1.f4, I p1.f5, I p1.f6] false)] 26)) z0)) = (L63_3 p0 p1 z0).map (Sum.elim (fun z => .inl ((fun z0 : (Int × Int) => (mkE [(3, .ba 24 0), (5, I z0.1), (8, LL a90 p0), (9, I (lenL p0)), (10, I z0.2)] [(24, .box [S p1.f0, S p1.f1, I p1.f2.f0, I p1.f2.f1, LL S p1.f3, I p1.f4, I p1.f5, I p1.f6] false)] 26)) z)) (fun x => .inr ((fun (x : (Int × Int × Bool)) => (.exit 0, (mkE [(3, .ba 24 0), (5, I x.1), (8, LL a90 p0), (9, I (lenL p0)), (10, I x.2.1), (11, B x.2.2)] [(24, .box [S p1.f0, S p1.f1, I p1.f2.f0, I p1.f2.f1, LL S p1.f3, I p1.f4, I p1.f5, I p1.f6] false)] 26))) x))) := by
  unfold L63_3
  refine gS 0 ?_
  refine gR 3 (rg Try.f63 3) ?_
  refine se (mkE [(3, .ba 24 0), (5, I z0.1), (8, LL a90 p0), (9, I (lenL p0)), (10, I z0.2), (11, B (ltI z0.2 (lenL p0)))] [(24, .box [S p1.f0, S p1.f1, I p1.f2.f0, I p1.f2.f1, LL S p1.f3, I p1.f4, I p1.f5, I p1.f6] false)] 26) ?_
  refine pN ?_
  refine pS ?_
  refine gS 4 ?_
  refine gC 11 (ltI z0.2 (lenL p0)) ?_ ?_
  · refine gK ?_
    refine pN ?_
    refine pS ?_
    refine gS 7 ?_
    refine gB 1 ?_
    refine gS 5 ?_
    refine gR 4 (rg Try.f63 4) ?_
    refine vo 12 (addrE 28 91 5 a90 .i64 p0 z0.2) (fun x1 => ?_)
    refine se (mkE [(3, .ba 24 0), (5, I z0.1), (7, .ba 56 0), (8, LL a90 p0), (9, I (lenL p0)), (10, I z0.2)] [(24, .box [S p1.f0, S p1.f1, I p1.f2.f0, I p1.f2.f1, LL S p1.f3, I p1.f4, I p1.f5, I p1.f6] false), (56, .box [S x1.f0, I x1.f1.f0, I x1.f1.f1, I x1.f2, LL S x1.f3] false)] 26) ?_
    refine pN ?_
    refine pS ?_
    refine gS 0 ?_
    refine gR 5 (rg Try.f63 5) ?_
    refine sg 2 (mkE [(15, a90 x1), (14, a53 p1), (3, .ba 24 0), (5, I z0.1), (7, .ba 56 0), (8, LL a90 p0), (9, I (lenL p0)), (10, I z0.2)] [(24, .box [S p1.f0, S p1.f1, I p1.f2.f0, I p1.f2.f1, LL S p1.f3, I p1.f4, I p1.f5, I p1.f6] false), (56, .box [S x1.f0, I x1.f1.f0, I x1.f1.f1, I x1.f2, LL S x1.f3] false)] 26) ?_
    refine co 16 [] (h65 p1 x1) (fun x2 => ?_)
    refine se (mkE [(3, .ba 24 0), (5, I z0.1), (7, .ba 56 0), (8, LL a90 p0), (9, I (lenL p0)), (10, I z0.2), (16, B x2)] [(24, .box [S p1.f0, S p1.f1, I p1.f2.f0, I p1.f2.f1, LL S p1.f3, I p1.f4, I p1.f5, I p1.f6] false), (56, .box [S x1.f0, I x1.f1.f0, I x1.f1.f1, I x1.f2, LL S x1.f3] false)] 26) ?_
    refine pN ?_
    refine pS ?_
    refine gC 16 x2 ?_ ?_
    · refine gR 6 (rg Try.f63 6) ?_
      refine se (mkE [(3, .ba 24 0), (5, I (addI .i64 z0.1 (minI x1.f2 p1.f5))), (8, LL a90 p0), (9, I (lenL p0)), (10, I z0.2)] [(24, .box [S p1.f0, S p1.f1, I p1.f2.f0, I p1.f2.f1, LL S p1.f3, I p1.f4, I p1.f5, I p1.f6] false)] 26) ?_
      refine pB ?_
      refine pN ?_
      refine pS ?_
      refine gR 7 (rg Try.f63 7) ?_
      refine se (mkE [(3, .ba 24 0), (5, I (addI .i64 z0.1 (minI x1.f2 p1.f5))), (8, LL a90 p0), (9, I (lenL p0)), (10, I (addI .i64 z0.2 1))] [(24, .box [S p1.f0, S p1.f1, I p1.f2.f0, I p1.f2.f1, LL S p1.f3, I p1.f4, I p1.f5, I p1.f6] false)] 26) ?_
      exact pL
    · refine gK ?_
      refine pB ?_
      refine pN ?_
      refine pS ?_
      refine gR 7 (rg Try.f63 7) ?_
      refine se (mkE [(3, .ba 24 0), (5, I z0.1), (8, LL a90 p0), (9, I (lenL p0)), (10, I (addI .i64 z0.2 1))] [(24, .box [S p1.f0, S p1.f1, I p1.f2.f0, I p1.f2.f1, LL S p1.f3, I p1.f4, I p1.f5, I p1.f6] false)] 26) ?_
      exact pL
  · refine gX 0 ?_
    exact pL
noncomputable def T63 (p0 : (List S90)) (p1 : S53) : Option Int := ((iter (L63_3 p0 p1) (0, 0)).bind fun y3 => (some y3.1))
theorem B63 (C : Callee) (h65 : ∀ (p0 : S53) (p1 : S90), C 65 [a53 p0, a90 p1] = (T65 p0 p1).map B) (p0 : (List S90)) (p1 : S53) : runs Try.prog C (cfg.fn 63) (finFn Try.prog (cfg.fn 63).byval Try.f63) [] (execA Try.prog C (cfg.fn 63) (nr Try.f63 []) (frame0 [LL a90 p0, a53 p1] 26)) = (T63 p0 p1).map I := by
  unfold T63
  refine gS 1 ?_
  refine gR 0 (rg Try.f63 0) ?_
  refine se (mkE [(0, LL a90 p0), (3, .ba 24 0)] [(24, .box [S p1.f0, S p1.f1, I p1.f2.f0, I p1.f2.f1, LL S p1.f3, I p1.f4, I p1.f5, I p1.f6] false)] 26) ?_
  refine pN ?_
  refine pS ?_
  refine gS 2 ?_
  refine gR 1 (rg Try.f63 1) ?_
  refine se (mkE [(0, LL a90 p0), (3, .ba 24 0), (5, I 0)] [(24, .box [S p1.f0, S p1.f1, I p1.f2.f0, I p1.f2.f1, LL S p1.f3, I p1.f4, I p1.f5, I p1.f6] false)] 26) ?_
  refine pN ?_
  refine pS ?_
  refine gS 8 ?_
  refine gS 3 ?_
  refine gR 2 (rg Try.f63 2) ?_
  refine sg 1 (mkE [(8, LL a90 p0), (0, LL a90 p0), (3, .ba 24 0), (5, I 0)] [(24, .box [S p1.f0, S p1.f1, I p1.f2.f0, I p1.f2.f1, LL S p1.f3, I p1.f4, I p1.f5, I p1.f6] false)] 26) ?_
  refine eo 9 (I (lenL p0)) (lenE 28 a90 p0) ?_
  refine se (mkE [(3, .ba 24 0), (5, I 0), (8, LL a90 p0), (9, I (lenL p0)), (10, I 0)] [(24, .box [S p1.f0, S p1.f1, I p1.f2.f0, I p1.f2.f1, LL S p1.f3, I p1.f4, I p1.f5, I p1.f6] false)] 26) ?_
  refine pN ?_
  refine pS ?_
  refine gB 0 ?_
  refine lo [(3, none), (5, none), (8, none), (9, none), (10, none)] (L63_3 p0 p1) (fun z0 : (Int × Int) => (mkE [(3, .ba 24 0), (5, I z0.1), (8, LL a90 p0), (9, I (lenL p0)), (10, I z0.2)] [(24, .box [S p1.f0, S p1.f1, I p1.f2.f0, I p1.f2.f1, LL S p1.f3, I p1.f4, I p1.f5, I p1.f6] false)] 26)) (fun (x : (Int × Int × Bool)) => (.exit 0, (mkE [(3, .ba 24 0), (5, I x.1), (8, LL a90 p0), (9, I (lenL p0)), (10, I x.2.1), (11, B x.2.2)] [(24, .box [S p1.f0, S p1.f1, I p1.f2.f0, I p1.f2.f1, LL S p1.f3, I p1.f4, I p1.f5, I p1.f6] false)] 26))) (0, 0) (fun z => L63_3_ok C h65 p0 p1 z) ?_
  intro y3
  refine pH ?_
  refine pN ?_
  refine pS ?_
  refine gS 0 ?_
  refine gR 8 (rg Try.f63 8) ?_
  refine se (mkE [(4, I y3.1)] [] 26) ?_
  refine pN ?_
  refine pS ?_
  refine gE ?_
  exact pL
theorem F63 (m : Nat) (hm : 7 ≤ m) (p0 : (List S90)) (p1 : S53) : callA Try.prog cfg m 63 [LL a90 p0, a53 p1] = (T63 p0 p1).map I := by
  obtain ⟨q, rfl⟩ : ∃ q, m = q + 1 := ⟨m - 1, by omega⟩
  exact (callA_body (fn := Try.f63) (c := body_ Try.f63) q _ (by kernel_rfl) (by kernel_rfl) (by kernel_rfl)).trans (B63 _ (fun p0 p1 => F65 q (by omega) p0 p1) p0 p1)

noncomputable def T64 (p0 : S53) (p1 : S90) : Option (Bool × Int) := ((T150 ([p1] : List S90) ([p0] : List S53)).bind fun x1 => (bif (neI x1 0) then (some (false, x1)) else ((T151 p0 p1).bind fun x2 => (some (x2, 0)))))
theorem B64 (C : Callee) (h150 : ∀ (p0 : (List S90)) (p1 : (List S53)), C 150 [LL a90 p0, LL a53 p1] = (T150 p0 p1).map I) (h151 : ∀ (p0 : S53) (p1 : S90), C 151 [a53 p0, a90 p1] = (T151 p0 p1).map B) (p0 : S53) (p1 : S90) : runs Try.prog C (cfg.fn 64) (finFn Try.prog (cfg.fn 64).byval Try.f64) [] (execA Try.prog C (cfg.fn 64) (nr Try.f64 []) (frame0 [a53 p0, a90 p1] 18)) = (T64 p0 p1).map (fun r => AV.tup [B r.1, I r.2]) := by
  unfold T64
  refine gS 1 ?_
  refine gR 0 (rg Try.f64 0) ?_
  refine se (mkE [(2, .ba 16 0), (3, .ba 24 0)] [(16, .box [S p0.f0, S p0.f1, I p0.f2.f0, I p0.f2.f1, LL S p0.f3, I p0.f4, I p0.f5, I p0.f6] false), (24, .box [S p1.f0, I p1.f1.f0, I p1.f1.f1, I p1.f2, LL S p1.f3] false)] 18) ?_
  refine pN ?_
  refine pS ?_
  refine gS 4 ?_
  refine gS 2 ?_
  refine gR 1 (rg Try.f64 1) ?_
  refine sg 4 (mkE [(10, .own 80 0), (9, a53 p0), (8, .own 64 0), (7, a90 p1), (2, .ba 16 0), (3, .ba 24 0)] [(80, RR 54 8 a53 ([p0] : List S53) 0 false), (64, RR 91 5 a90 ([p1] : List S90) 0 false), (16, .box [S p0.f0, S p0.f1, I p0.f2.f0, I p0.f2.f1, LL S p0.f3, I p0.f4, I p0.f5, I p0.f6] false), (24, .box [S p1.f0, I p1.f1.f0, I p1.f1.f1, I p1.f2, LL S p1.f3] false)] 18) ?_
  refine co 11 [64, 80] (h150 ([p1] : List S90) ([p0] : List S53)) (fun x1 => ?_)
  refine se (mkE [(2, .ba 16 0), (3, .ba 24 0), (6, I x1)] [(16, .box [S p0.f0, S p0.f1, I p0.f2.f0, I p0.f2.f1, LL S p0.f3, I p0.f4, I p0.f5, I p0.f6] false), (24, .box [S p1.f0, I p1.f1.f0, I p1.f1.f1, I p1.f2, LL S p1.f3] false)] 18) ?_
  refine pN ?_
  refine pS ?_
  refine gS 0 ?_
  refine gR 2 (rg Try.f64 2) ?_
  refine se (mkE [(2, .ba 16 0), (3, .ba 24 0), (6, I x1), (13, B (neI x1 0))] [(16, .box [S p0.f0, S p0.f1, I p0.f2.f0, I p0.f2.f1, LL S p0.f3, I p0.f4, I p0.f5, I p0.f6] false), (24, .box [S p1.f0, I p1.f1.f0, I p1.f1.f1, I p1.f2, LL S p1.f3] false)] 18) ?_
  refine pN ?_
  refine pS ?_
  refine gC 13 (neI x1 0) ?_ ?_
  · refine gS 0 ?_
    refine gR 3 (rg Try.f64 3) ?_
    refine se (mkE [(4, B false), (5, I x1)] [] 18) ?_
    refine pN ?_
    refine pS ?_
    refine gE ?_
    exact pL
  · refine gK ?_
    refine pN ?_
    refine pS ?_
    refine gS 0 ?_
    refine gR 4 (rg Try.f64 4) ?_
    refine sg 2 (mkE [(16, a90 p1), (15, a53 p0), (2, .ba 16 0), (3, .ba 24 0), (6, I x1), (13, B (neI x1 0))] [(16, .box [S p0.f0, S p0.f1, I p0.f2.f0, I p0.f2.f1, LL S p0.f3, I p0.f4, I p0.f5, I p0.f6] false), (24, .box [S p1.f0, I p1.f1.f0, I p1.f1.f1, I p1.f2, LL S p1.f3] false)] 18) ?_
    refine co 17 [] (h151 p0 p1) (fun x2 => ?_)
    refine se (mkE [(4, B x2), (5, I 0)] [] 18) ?_
    refine pN ?_
    refine pS ?_
    refine gE ?_
    exact pL
theorem F64 (m : Nat) (hm : 6 ≤ m) (p0 : S53) (p1 : S90) : callA Try.prog cfg m 64 [a53 p0, a90 p1] = (T64 p0 p1).map (fun r => AV.tup [B r.1, I r.2]) := by
  obtain ⟨q, rfl⟩ : ∃ q, m = q + 1 := ⟨m - 1, by omega⟩
  exact (callA_body (fn := Try.f64) (c := body_ Try.f64) q _ (by kernel_rfl) (by kernel_rfl) (by kernel_rfl)).trans (B64 _ (fun p0 p1 => F150 q (by omega) p0 p1) (fun p0 p1 => F151 q (by omega) p0 p1) p0 p1)

noncomputable def T141 (p0 : Int) : Option Bool := (bif (leI 0 p0) then (some (ltI p0 345686400000)) else (some false))
theorem B141 (C : Callee) (p0 : Int) : runs Try.prog C (cfg.fn 141) (finFn Try.prog (cfg.fn 141).byval Try.f141) [] (execA Try.prog C (cfg.fn 141) (nr Try.f141 []) (frame0 [I p0] 9)) = (T141 p0).map B := by
  unfold T141
  refine gS 1 ?_
  refine gR 0 (rg Try.f141 0) ?_
  refine se (mkE [(0, I p0)] [] 9) ?_
  refine pN ?_
  refine pS ?_
  refine gS 0 ?_
  refine gR 1 (rg Try.f141 1) ?_
  refine sg 3 (mkE [(5, B (leI 0 p0)), (4, B (leI 0 p0)), (3, I p0), (0, I p0)] [] 9) ?_
  refine sb 5 (leI 0 p0) ?_ ?_
  · refine se (mkE [(2, B (ltI p0 345686400000))] [] 9) ?_
    refine pN ?_
    refine pS ?_
    refine gE ?_
    exact pL
  · refine se (mkE [(2, B false)] [] 9) ?_
    refine pN ?_
    refine pS ?_
    refine gE ?_
    exact pL
theorem F141 (m : Nat) (hm : 1 ≤ m) (p0 : Int) : callA Try.prog cfg m 141 [I p0] = (T141 p0).map B := by
  obtain ⟨q, rfl⟩ : ∃ q, m = q + 1 := ⟨m - 1, by omega⟩
  exact (callA_body (fn := Try.f141) (c := body_ Try.f141) q _ (by kernel_rfl) (by kernel_rfl) (by kernel_rfl)).trans (B141 _ p0)

noncomputable def T230 (p0 : S53) (p1 : Int) : Option Int := (bif (ltI p1 p0.f2.f0) then (some 0) else (bif (leI p0.f2.f1 p1) then (some p0.f4) else ((quoO .i64 (mulI .i64 p0.f4 (subI .i64 p1 p0.f2.f0)) (subI .i64 p0.f2.f1 p0.f2.f0)).bind fun x1 => (some x1))))
theorem B230 (C : Callee) (p0 : S53) (p1 : Int) : runs Try.prog C (cfg.fn 230) (finFn Try.prog (cfg.fn 230).byval Try.f230) [] (execA Try.prog C (cfg.fn 230) (nr Try.f230 []) (frame0 [a53 p0, I p1] 35)) = (T230 p0 p1).map I := by
  unfold T230
  refine gS 1 ?_
  refine gR 0 (rg Try.f230 0) ?_
  refine se (mkE [(1, I p1), (2, .ba 16 0)] [(16, .box [S p0.f0, S p0.f1, I p0.f2.f0, I p0.f2.f1, LL S p0.f3, I p0.f4, I p0.f5, I p0.f6] false)] 35) ?_
  refine pN ?_
  refine pS ?_
  refine gS 5 ?_
  refine gB 0 ?_
  refine gS 0 ?_
  refine gR 1 (rg Try.f230 1) ?_
  refine se (mkE [(1, I p1), (2, .ba 16 0), (5, B (ltI p1 p0.f2.f0))] [(16, .box [S p0.f0, S p0.f1, I p0.f2.f0, I p0.f2.f1, LL S p0.f3, I p0.f4, I p0.f5, I p0.f6] false)] 35) ?_
  refine pN ?_
  refine pS ?_
  refine gC 5 (ltI p1 p0.f2.f0) ?_ ?_
  · refine gS 0 ?_
    refine gR 2 (rg Try.f230 2) ?_
    refine se (mkE [(4, I 0)] [] 35) ?_
    refine pN ?_
    refine pS ?_
    refine gE ?_
    exact pL
  · refine gS 0 ?_
    refine gR 3 (rg Try.f230 3) ?_
    refine se (mkE [(1, I p1), (2, .ba 16 0), (11, B (leI p0.f2.f1 p1))] [(16, .box [S p0.f0, S p0.f1, I p0.f2.f0, I p0.f2.f1, LL S p0.f3, I p0.f4, I p0.f5, I p0.f6] false)] 35) ?_
    refine pN ?_
    refine pS ?_
    refine gC 11 (leI p0.f2.f1 p1) ?_ ?_
    · refine gS 0 ?_
      refine gR 4 (rg Try.f230 4) ?_
      refine se (mkE [(4, I p0.f4)] [] 35) ?_
      refine pN ?_
      refine pS ?_
      refine gE ?_
      exact pL
    · refine gK ?_
      refine pB ?_
      refine pN ?_
      refine pS ?_
      refine gS 0 ?_
      refine gR 5 (rg Try.f230 5) ?_
      refine sg 15 (mkE [(33, I (subI .i64 p0.f2.f1 p0.f2.f0)), (32, I p0.f2.f0), (31, .ba 16 2), (30, .ba 16 2), (29, I p0.f2.f1), (28, .ba 16 3), (27, .ba 16 2), (26, I (mulI .i64 p0.f4 (subI .i64 p1 p0.f2.f0))), (25, I (subI .i64 p1 p0.f2.f0)), (24, I p0.f2.f0), (23, .ba 16 2), (22, .ba 16 2), (21, I p1), (20, I p0.f4), (19, .ba 16 5), (1, I p1), (2, .ba 16 0), (11, B (leI p0.f2.f1 p1))] [(16, .box [S p0.f0, S p0.f1, I p0.f2.f0, I p0.f2.f1, LL S p0.f3, I p0.f4, I p0.f5, I p0.f6] false)] 35) ?_
      refine vo 34 (quoE 3 .i64 (.tmp 26) (.tmp 33) (mulI .i64 p0.f4 (subI .i64 p1 p0.f2.f0)) (subI .i64 p0.f2.f1 p0.f2.f0)) (fun x1 => ?_)
      refine se (mkE [(4, I x1)] [] 35) ?_
      refine pN ?_
      refine pS ?_
      refine gE ?_
      exact pL
theorem F230 (m : Nat) (hm : 1 ≤ m) (p0 : S53) (p1 : Int) : callA Try.prog cfg m 230 [a53 p0, I p1] = (T230 p0 p1).map I := by
  obtain ⟨q, rfl⟩ : ∃ q, m = q + 1 := ⟨m - 1, by omega⟩
  exact (callA_body (fn := Try.f230) (c := body_ Try.f230) q _ (by kernel_rfl) (by kernel_rfl) (by kernel_rfl)).trans (B230 _ p0 p1)

noncomputable def T155 (p0 : S53) (p1 : Int) : Option (Int × Int) := ((T60 ([p0] : List S53)).bind fun x1 => (bif (neI x1 0) then (some (0, x1)) else ((T141 p1).bind fun x2 => (bif (!x2) then (some (0, 1)) else ((T230 p0 p1).bind fun x3 => (some (x3, 0)))))))
theorem B155 (C : Callee) (h141 : ∀ (p0 : Int), C 141 [I p0] = (T141 p0).map B) (h230 : ∀ (p0 : S53) (p1 : Int), C 230 [a53 p0, I p1] = (T230 p0 p1).map I) (h60 : ∀ (p0 : (List S53)), C 60 [LL a53 p0] = (T60 p0).map I) (p0 : S53) (p1 : Int) : runs Try.prog C (cfg.fn 155) (finFn Try.prog (cfg.fn 155).byval Try.f155) [] (execA Try.prog C (cfg.fn 155) (nr Try.f155 []) (frame0 [a53 p0, I p1] 19)) = (T155 p0 p1).map (fun r => AV.tup [I r.1, I r.2]) := by
  unfold T155
  refine gS 1 ?_
  refine gR 0 (rg Try.f155 0) ?_
  refine se (mkE [(1, I p1), (2, .ba 16 0)] [(16, .box [S p0.f0, S p0.f1, I p0.f2.f0, I p0.f2.f1, LL S p0.f3, I p0.f4, I p0.f5, I p0.f6] false)] 19) ?_
  refine pN ?_
  refine pS ?_
  refine gS 4 ?_
  refine gS 2 ?_
  refine gR 1 (rg Try.f155 1) ?_
  refine sg 2 (mkE [(8, .own 64 0), (7, a53 p0), (1, I p1), (2, .ba 16 0)] [(64, RR 54 8 a53 ([p0] : List S53) 0 false), (16, .box [S p0.f0, S p0.f1, I p0.f2.f0, I p0.f2.f1, LL S p0.f3, I p0.f4, I p0.f5, I p0.f6] false)] 19) ?_
  refine co 9 [64] (h60 ([p0] : List S53)) (fun x1 => ?_)
  refine se (mkE [(1, I p1), (2, .ba 16 0), (6, I x1)] [(16, .box [S p0.f0, S p0.f1, I p0.f2.f0, I p0.f2.f1, LL S p0.f3, I p0.f4, I p0.f5, I p0.f6] false)] 19) ?_
  refine pN ?_
  refine pS ?_
  refine gS 0 ?_
  refine gR 2 (rg Try.f155 2) ?_
  refine se (mkE [(1, I p1), (2, .ba 16 0), (6, I x1), (11, B (neI x1 0))] [(16, .box [S p0.f0, S p0.f1, I p0.f2.f0, I p0.f2.f1, LL S p0.f3, I p0.f4, I p0.f5, I p0.f6] false)] 19) ?_
  refine pN ?_
  refine pS ?_
  refine gC 11 (neI x1 0) ?_ ?_
  · refine gS 0 ?_
    refine gR 3 (rg Try.f155 3) ?_
    refine se (mkE [(4, I 0), (5, I x1)] [] 19) ?_
    refine pN ?_
    refine pS ?_
    refine gE ?_
    exact pL
  · refine gK ?_
    refine pN ?_
    refine pS ?_
    refine gS 6 ?_
    refine gS 0 ?_
    refine gR 4 (rg Try.f155 4) ?_
    refine sg 1 (mkE [(13, I p1), (1, I p1), (2, .ba 16 0), (6, I x1), (11, B (neI x1 0))] [(16, .box [S p0.f0, S p0.f1, I p0.f2.f0, I p0.f2.f1, LL S p0.f3, I p0.f4, I p0.f5, I p0.f6] false)] 19) ?_
    refine co 14 [] (h141 p1) (fun x2 => ?_)
    refine se (mkE [(1, I p1), (2, .ba 16 0), (15, B (!x2))] [(16, .box [S p0.f0, S p0.f1, I p0.f2.f0, I p0.f2.f1, LL S p0.f3, I p0.f4, I p0.f5, I p0.f6] false)] 19) ?_
    refine pN ?_
    refine pS ?_
    refine gC 15 (!x2) ?_ ?_
    · refine gS 0 ?_
      refine gR 5 (rg Try.f155 5) ?_
      refine se (mkE [(4, I 0), (5, I 1)] [] 19) ?_
      refine pN ?_
      refine pS ?_
      refine gE ?_
      exact pL
    · refine gK ?_
      refine pN ?_
      refine pS ?_
      refine gS 0 ?_
      refine gR 6 (rg Try.f155 6) ?_
      refine sg 2 (mkE [(17, I p1), (16, a53 p0), (1, I p1), (2, .ba 16 0), (15, B (!x2))] [(16, .box [S p0.f0, S p0.f1, I p0.f2.f0, I p0.f2.f1, LL S p0.f3, I p0.f4, I p0.f5, I p0.f6] false)] 19) ?_
      refine co 18 [] (h230 p0 p1) (fun x3 => ?_)
      refine se (mkE [(4, I x3), (5, I 0)] [] 19) ?_
      refine pN ?_
      refine pS ?_
      refine gE ?_
      exact pL
theorem F155 (m : Nat) (hm : 5 ≤ m) (p0 : S53) (p1 : Int) : callA Try.prog cfg m 155 [a53 p0, I p1] = (T155 p0 p1).map (fun r => AV.tup [I r.1, I r.2]) := by
  obtain ⟨q, rfl⟩ : ∃ q, m = q + 1 := ⟨m - 1, by omega⟩
  exact (callA_body (fn := Try.f155) (c := body_ Try.f155) q _ (by kernel_rfl) (by kernel_rfl) (by kernel_rfl)).trans (B155 _ (fun p0 => F141 q (by omega) p0) (fun p0 p1 => F230 q (by omega) p0 p1) (fun p0 => F60 q (by omega) p0) p0 p1)

noncomputable def T66 : Option Bool := ((T155 (S53.mk (ByteArray.mk #[97]) (ByteArray.mk #[]) (S38.mk 0 100) [] 10 0 0) 50).bind fun x1 => (bif (eqI x1.2 0) then (some (eqI x1.1 5)) else (some false)))
theorem B66 (C : Callee) (h155 : ∀ (p0 : S53) (p1 : Int), C 155 [a53 p0, I p1] = (T155 p0 p1).map (fun r => AV.tup [I r.1, I r.2])) : runs Try.prog C (cfg.fn 66) (finFn Try.prog (cfg.fn 66).byval Try.f66) [] (execA Try.prog C (cfg.fn 66) (nr Try.f66 []) (frame0 [] 15)) = (T66).map B := by
  unfold T66
  refine gS 1 ?_
  refine gR 0 (rg Try.f66 0) ?_
  refine se (mkE [] [] 15) ?_
  refine pN ?_
  refine pS ?_
  refine gS 2 ?_
  refine gR 1 (rg Try.f66 1) ?_
  refine sg 2 (mkE [(5, .agg [S (ByteArray.mk #[97]), S (ByteArray.mk #[]), I 0, I 100, .nils, I 10, I 0, I 0]), (4, .agg [I 0, I 100])] [] 15) ?_
  refine co 6 [] (h155 (S53.mk (ByteArray.mk #[97]) (ByteArray.mk #[]) (S38.mk 0 100) [] 10 0 0) 50) (fun x1 => ?_)
  refine se (mkE [(1, I x1.1), (2, I x1.2)] [] 15) ?_
  refine pN ?_
  refine pS ?_
  refine gS 0 ?_
  refine gR 2 (rg Try.f66 2) ?_
  refine sg 3 (mkE [(11, B (eqI x1.2 0)), (10, B (eqI x1.2 0)), (9, I x1.2), (1, I x1.1), (2, I x1.2)] [] 15) ?_
  refine sb 11 (eqI x1.2 0) ?_ ?_
  · refine se (mkE [(0, B (eqI x1.1 5))] [] 15) ?_
    refine pN ?_
    refine pS ?_
    refine gE ?_
    exact pL
  · refine se (mkE [(0, B false)] [] 15) ?_
    refine pN ?_
    refine pS ?_
    refine gE ?_
    exact pL
theorem F66 (m : Nat) (hm : 6 ≤ m) : callA Try.prog cfg m 66 [] = (T66).map B := by
  obtain ⟨q, rfl⟩ : ∃ q, m = q + 1 := ⟨m - 1, by omega⟩
  exact (callA_body (fn := Try.f66) (c := body_ Try.f66) q _ (by kernel_rfl) (by kernel_rfl) (by kernel_rfl)).trans (B66 _ (fun p0 p1 => F155 q (by omega) p0 p1))

end Go.Abs.TB
