import Derived.Test.YtnaibaifmnjpnaaDTD0
set_option maxRecDepth 100000
set_option linter.unusedVariables false
namespace Go.Abs.TD
open Go.RowKit Go.Proofs Go.Abs
theorem F57 (m : Nat) (hm : 1 ≤ m) (p0 : (List ByteArray)) : callA Try.prog cfg m 57 [LL S p0] = (appO 16 ([] : List ByteArray) p0).map (fun l => AV.fr 9 1 (List.map S l)) := by
  obtain ⟨q, rfl⟩ : ∃ q, m = q + 1 := ⟨m - 1, by omega⟩
  exact (callA_leaf (L := (leafClone Try.prog 9 1 16)) _ _ (by kernel_rfl)).trans (clone_leaf S _ _ (fun _ => by kernel_rfl))

noncomputable def L15_3 (p0 : (List S90)) (z0 : ((List S90) × Int)) : Option (((List S90) × Int) ⊕ (Int × Bool × (List S90))) := (bif (ltI z0.2 (lenL p0)) then ((listAt p0 z0.2).bind fun x1 => ((appO 16 ([] : List ByteArray) x1.f3).bind fun x2 => ((appO 64 z0.1 ([(S90.mk x1.f0 x1.f1 x1.f2 x2)] : List S90)).bind fun x3 => (some (.inl (x3, (addI .i64 z0.2 1))))))) else (some (.inr (z0.2, (ltI z0.2 (lenL p0)), z0.1))))
theorem L15_3_ok (C : Callee) (h57 : ∀ (p0 : (List ByteArray)), C 57 [LL S p0] = (appO 16 ([] : List ByteArray) p0).map (fun l => AV.fr 9 1 (List.map S l))) (p0 : (List S90)) (z0 : ((List S90) × Int)) : runs Try.prog C (cfg.fn 15) (finLoop ((cfg.fn 15).keep 3) ((cfg.fn 15).al 3)) [] (execA Try.prog C (cfg.fn 15) (nr Try.f15 [false, false, true, false, true, true]) ((fun z0 : ((List S90) × Int) => (mkE [(3, .own 24 0), (6, LL a90 p0), (7, I (lenL p0)), (8, I z0.2)] [(24, RR 91 5 a90 z0.1 0 false)] 22)) z0)) = (L15_3 p0 z0).map (Sum.elim (fun z => .inl ((fun z0 : ((List S90) × Int) => (mkE [(3, .own 24 0), (6, LL a90 p0), (7, I (lenL p0)), (8, I z0.2)] [(24, RR 91 5 a90 z0.1 0 false)] 22)) z)) (fun x => .inr ((fun (x : (Int × Bool × (List S90))) => (.exit 0, (mkE [(3, .own 24 0), (6, LL a90 p0), (7, I (lenL p0)), (8, I x.1), (9, B x.2.1)] [(24, RR 91 5 a90 x.2.2 0 false)] 22))) x))) := by
  unfold L15_3
  let s_0 : List (Nat × AV) := [(3, .own 24 0), (5, .ba 40 0), (6, LL a90 p0), (7, I (lenL p0)), (8, I z0.2)]
  refine gS 0 ?_
  refine gR 3 (rg Try.f15 3) ?_
  refine se (mkE [(3, .own 24 0), (6, LL a90 p0), (7, I (lenL p0)), (8, I z0.2), (9, B (ltI z0.2 (lenL p0)))] [(24, RR 91 5 a90 z0.1 0 false)] 22) ?_
  refine pN ?_
  refine pS ?_
  refine gS 4 ?_
  refine gC 9 (ltI z0.2 (lenL p0)) ?_ ?_
  · refine gK ?_
    refine pN ?_
    refine pS ?_
    refine gS 7 ?_
    refine gB 1 ?_
    refine gS 5 ?_
    refine gR 4 (rg Try.f15 4) ?_
    refine vo 10 (addrE 28 91 5 a90 .i64 p0 z0.2) (fun x1 => ?_)
    refine se (mkE s_0 [(24, RR 91 5 a90 z0.1 0 false), (40, .box [S x1.f0, I x1.f1.f0, I x1.f1.f1, I x1.f2, LL S x1.f3] false)] 22) ?_
    refine pN ?_
    refine pS ?_
    refine gS 6 ?_
    refine gR 5 (rg Try.f15 5) ?_
    refine sg 2 (mkE ((13, LL S x1.f3) :: ((12, .ba 40 4) :: s_0)) [(24, RR 91 5 a90 z0.1 0 false), (40, .box [S x1.f0, I x1.f1.f0, I x1.f1.f1, I x1.f2, LL S x1.f3] false)] 22) ?_
    refine co 14 [] (h57 x1.f3) (fun x2 => ?_)
    refine se (mkE s_0 [(24, RR 91 5 a90 z0.1 0 false), (40, .box [S x1.f0, I x1.f1.f0, I x1.f1.f1, I x1.f2, .own 112 0] false), (112, RR 9 1 S x2 0 false)] 22) ?_
    refine pN ?_
    refine pS ?_
    refine gR 6 (rg Try.f15 6) ?_
    refine sg 3 (mkE ((18, .own 144 0) :: ((17, .agg [S x1.f0, I x1.f1.f0, I x1.f1.f1, I x1.f2, .own 112 0]) :: ((16, .own 24 0) :: s_0))) [(144, RR 91 5 a90 ([(S90.mk x1.f0 x1.f1 x1.f2 x2)] : List S90) 0 false), (112, RR 9 1 S x2 0 true), (24, RR 91 5 a90 z0.1 0 false), (40, .box [S x1.f0, I x1.f1.f0, I x1.f1.f1, I x1.f2, .own 112 0] false), (112, RR 9 1 S x2 0 false)] 22) ?_
    refine mo (some 19) (apO 28 91 5 64 24 a90 0 [144] (y := .own 144 0) (l2 := ([(S90.mk x1.f0 x1.f1 x1.f2 x2)] : List S90))) (fun x3 => ?_)
    refine se (mkE [(3, .own 24 1), (6, LL a90 p0), (7, I (lenL p0)), (8, I z0.2)] [(24, RR 91 5 a90 x3 1 false)] 22) ?_
    refine pB ?_
    refine pN ?_
    refine pS ?_
    refine gR 7 (rg Try.f15 7) ?_
    refine se (mkE [(3, .own 24 1), (6, LL a90 p0), (7, I (lenL p0)), (8, I (addI .i64 z0.2 1))] [(24, RR 91 5 a90 x3 1 false)] 22) ?_
    exact pL
  · refine gX 0 ?_
    exact pL
noncomputable def T15 (p0 : (List S90)) : Option (List S90) := ((iter (L15_3 p0) ([], 0)).bind fun y4 => (some y4.2.2))
theorem B15 (C : Callee) (h57 : ∀ (p0 : (List ByteArray)), C 57 [LL S p0] = (appO 16 ([] : List ByteArray) p0).map (fun l => AV.fr 9 1 (List.map S l))) (p0 : (List S90)) : runs Try.prog C (cfg.fn 15) (finFn Try.prog (cfg.fn 15).byval Try.f15) [] (execA Try.prog C (cfg.fn 15) (nr Try.f15 []) (frame0 [LL a90 p0] 22 false)) = (T15 p0).map (fun l => AV.fr 91 5 (List.map a90 l)) := by
  unfold T15
  refine gS 1 ?_
  refine gR 0 (rg Try.f15 0) ?_
  refine se (mkE [(0, LL a90 p0)] [] 22) ?_
  refine pN ?_
  refine pS ?_
  refine gS 2 ?_
  refine gR 1 (rg Try.f15 1) ?_
  refine se (mkE [(0, LL a90 p0), (3, .nils)] [] 22) ?_
  refine pN ?_
  refine pS ?_
  refine gS 8 ?_
  refine gS 3 ?_
  refine gR 2 (rg Try.f15 2) ?_
  refine sg 1 (mkE [(6, LL a90 p0), (0, LL a90 p0), (3, .nils)] [] 22) ?_
  refine eo 7 (I (lenL p0)) (lenE 28 a90 p0) ?_
  refine se (mkE [(3, .nils), (6, LL a90 p0), (7, I (lenL p0)), (8, I 0)] [] 22) ?_
  refine pN ?_
  refine pS ?_
  refine gB 0 ?_
  refine lo [(3, some (91, 5)), (6, none), (7, none), (8, none)] [] (L15_3 p0) (fun z0 : ((List S90) × Int) => (mkE [(3, .own 24 0), (6, LL a90 p0), (7, I (lenL p0)), (8, I z0.2)] [(24, RR 91 5 a90 z0.1 0 false)] 22)) (fun (x : (Int × Bool × (List S90))) => (.exit 0, (mkE [(3, .own 24 0), (6, LL a90 p0), (7, I (lenL p0)), (8, I x.1), (9, B x.2.1)] [(24, RR 91 5 a90 x.2.2 0 false)] 22))) ([], 0) (fun z => L15_3_ok C h57 p0 z) ?_
  intro y4
  refine pH ?_
  refine pN ?_
  refine pS ?_
  refine gS 0 ?_
  refine gR 8 (rg Try.f15 8) ?_
  refine se (mkE [(2, .own 24 0)] [(24, RR 91 5 a90 y4.2.2 0 false)] 22) ?_
  refine pN ?_
  refine pS ?_
  refine gE ?_
  exact pL
theorem F15 (m : Nat) (hm : 2 ≤ m) (p0 : (List S90)) : callA Try.prog cfg m 15 [LL a90 p0] = (T15 p0).map (fun l => AV.fr 91 5 (List.map a90 l)) := by
  obtain ⟨q, rfl⟩ : ∃ q, m = q + 1 := ⟨m - 1, by omega⟩
  exact (callA_body (fn := Try.f15) (c := body_ Try.f15) q _ (by kernel_rfl) (by kernel_rfl) (by kernel_rfl)).trans (B15 _ (fun p0 => F57 q (by omega) p0) p0)

noncomputable def L16_3 (p0 : (List S53)) (z0 : ((List S53) × Int)) : Option (((List S53) × Int) ⊕ (Int × Bool × (List S53))) := (bif (ltI z0.2 (lenL p0)) then ((listAt p0 z0.2).bind fun x1 => ((appO 16 ([] : List ByteArray) x1.f3).bind fun x2 => ((appO 96 z0.1 ([(S53.mk x1.f0 x1.f1 x1.f2 x2 x1.f4 x1.f5 x1.f6)] : List S53)).bind fun x3 => (some (.inl (x3, (addI .i64 z0.2 1))))))) else (some (.inr (z0.2, (ltI z0.2 (lenL p0)), z0.1))))
theorem L16_3_ok (C : Callee) (h57 : ∀ (p0 : (List ByteArray)), C 57 [LL S p0] = (appO 16 ([] : List ByteArray) p0).map (fun l => AV.fr 9 1 (List.map S l))) (p0 : (List S53)) (z0 : ((List S53) × Int)) : runs Try.prog C (cfg.fn 16) (finLoop ((cfg.fn 16).keep 3) ((cfg.fn 16).al 3)) [] (execA Try.prog C (cfg.fn 16) (nr Try.f16 [false, false, true, false, true, true]) ((fun z0 : ((List S53) × Int) => (mkE [(3, .own 24 0), (6, LL a53 p0), (7, I (lenL p0)), (8, I z0.2)] [(24, RR 54 8 a53 z0.1 0 false)] 22)) z0)) = (L16_3 p0 z0).map (Sum.elim (fun z => .inl ((fun z0 : ((List S53) × Int) => (mkE [(3, .own 24 0), (6, LL a53 p0), (7, I (lenL p0)), (8, I z0.2)] [(24, RR 54 8 a53 z0.1 0 false)] 22)) z)) (fun x => .inr ((fun (x : (Int × Bool × (List S53))) => (.exit 0, (mkE [(3, .own 24 0), (6, LL a53 p0), (7, I (lenL p0)), (8, I x.1), (9, B x.2.1)] [(24, RR 54 8 a53 x.2.2 0 false)] 22))) x))) := by
  unfold L16_3
  let s_0 : List (Nat × AV) := [(3, .own 24 0), (5, .ba 40 0), (6, LL a53 p0), (7, I (lenL p0)), (8, I z0.2)]
  refine gS 0 ?_
  refine gR 3 (rg Try.f16 3) ?_
  refine se (mkE [(3, .own 24 0), (6, LL a53 p0), (7, I (lenL p0)), (8, I z0.2), (9, B (ltI z0.2 (lenL p0)))] [(24, RR 54 8 a53 z0.1 0 false)] 22) ?_
  refine pN ?_
  refine pS ?_
  refine gS 4 ?_
  refine gC 9 (ltI z0.2 (lenL p0)) ?_ ?_
  · refine gK ?_
    refine pN ?_
    refine pS ?_
    refine gS 7 ?_
    refine gB 1 ?_
    refine gS 5 ?_
    refine gR 4 (rg Try.f16 4) ?_
    refine vo 10 (addrE 29 54 8 a53 .i64 p0 z0.2) (fun x1 => ?_)
    refine se (mkE s_0 [(24, RR 54 8 a53 z0.1 0 false), (40, .box [S x1.f0, S x1.f1, I x1.f2.f0, I x1.f2.f1, LL S x1.f3, I x1.f4, I x1.f5, I x1.f6] false)] 22) ?_
    refine pN ?_
    refine pS ?_
    refine gS 6 ?_
    refine gR 5 (rg Try.f16 5) ?_
    refine sg 2 (mkE ((13, LL S x1.f3) :: ((12, .ba 40 4) :: s_0)) [(24, RR 54 8 a53 z0.1 0 false), (40, .box [S x1.f0, S x1.f1, I x1.f2.f0, I x1.f2.f1, LL S x1.f3, I x1.f4, I x1.f5, I x1.f6] false)] 22) ?_
    refine co 14 [] (h57 x1.f3) (fun x2 => ?_)
    refine se (mkE s_0 [(24, RR 54 8 a53 z0.1 0 false), (40, .box [S x1.f0, S x1.f1, I x1.f2.f0, I x1.f2.f1, .own 112 0, I x1.f4, I x1.f5, I x1.f6] false), (112, RR 9 1 S x2 0 false)] 22) ?_
    refine pN ?_
    refine pS ?_
    refine gR 6 (rg Try.f16 6) ?_
    refine sg 3 (mkE ((18, .own 144 0) :: ((17, .agg [S x1.f0, S x1.f1, I x1.f2.f0, I x1.f2.f1, .own 112 0, I x1.f4, I x1.f5, I x1.f6]) :: ((16, .own 24 0) :: s_0))) [(144, RR 54 8 a53 ([(S53.mk x1.f0 x1.f1 x1.f2 x2 x1.f4 x1.f5 x1.f6)] : List S53) 0 false), (112, RR 9 1 S x2 0 true), (24, RR 54 8 a53 z0.1 0 false), (40, .box [S x1.f0, S x1.f1, I x1.f2.f0, I x1.f2.f1, .own 112 0, I x1.f4, I x1.f5, I x1.f6] false), (112, RR 9 1 S x2 0 false)] 22) ?_
    refine mo (some 19) (apO 29 54 8 96 24 a53 0 [144] (y := .own 144 0) (l2 := ([(S53.mk x1.f0 x1.f1 x1.f2 x2 x1.f4 x1.f5 x1.f6)] : List S53))) (fun x3 => ?_)
    refine se (mkE [(3, .own 24 1), (6, LL a53 p0), (7, I (lenL p0)), (8, I z0.2)] [(24, RR 54 8 a53 x3 1 false)] 22) ?_
    refine pB ?_
    refine pN ?_
    refine pS ?_
    refine gR 7 (rg Try.f16 7) ?_
    refine se (mkE [(3, .own 24 1), (6, LL a53 p0), (7, I (lenL p0)), (8, I (addI .i64 z0.2 1))] [(24, RR 54 8 a53 x3 1 false)] 22) ?_
    exact pL
  · refine gX 0 ?_
    exact pL
noncomputable def T16 (p0 : (List S53)) : Option (List S53) := ((iter (L16_3 p0) ([], 0)).bind fun y4 => (some y4.2.2))
theorem B16 (C : Callee) (h57 : ∀ (p0 : (List ByteArray)), C 57 [LL S p0] = (appO 16 ([] : List ByteArray) p0).map (fun l => AV.fr 9 1 (List.map S l))) (p0 : (List S53)) : runs Try.prog C (cfg.fn 16) (finFn Try.prog (cfg.fn 16).byval Try.f16) [] (execA Try.prog C (cfg.fn 16) (nr Try.f16 []) (frame0 [LL a53 p0] 22 false)) = (T16 p0).map (fun l => AV.fr 54 8 (List.map a53 l)) := by
  unfold T16
  refine gS 1 ?_
  refine gR 0 (rg Try.f16 0) ?_
  refine se (mkE [(0, LL a53 p0)] [] 22) ?_
  refine pN ?_
  refine pS ?_
  refine gS 2 ?_
  refine gR 1 (rg Try.f16 1) ?_
  refine se (mkE [(0, LL a53 p0), (3, .nils)] [] 22) ?_
  refine pN ?_
  refine pS ?_
  refine gS 8 ?_
  refine gS 3 ?_
  refine gR 2 (rg Try.f16 2) ?_
  refine sg 1 (mkE [(6, LL a53 p0), (0, LL a53 p0), (3, .nils)] [] 22) ?_
  refine eo 7 (I (lenL p0)) (lenE 29 a53 p0) ?_
  refine se (mkE [(3, .nils), (6, LL a53 p0), (7, I (lenL p0)), (8, I 0)] [] 22) ?_
  refine pN ?_
  refine pS ?_
  refine gB 0 ?_
  refine lo [(3, some (54, 8)), (6, none), (7, none), (8, none)] [] (L16_3 p0) (fun z0 : ((List S53) × Int) => (mkE [(3, .own 24 0), (6, LL a53 p0), (7, I (lenL p0)), (8, I z0.2)] [(24, RR 54 8 a53 z0.1 0 false)] 22)) (fun (x : (Int × Bool × (List S53))) => (.exit 0, (mkE [(3, .own 24 0), (6, LL a53 p0), (7, I (lenL p0)), (8, I x.1), (9, B x.2.1)] [(24, RR 54 8 a53 x.2.2 0 false)] 22))) ([], 0) (fun z => L16_3_ok C h57 p0 z) ?_
  intro y4
  refine pH ?_
  refine pN ?_
  refine pS ?_
  refine gS 0 ?_
  refine gR 8 (rg Try.f16 8) ?_
  refine se (mkE [(2, .own 24 0)] [(24, RR 54 8 a53 y4.2.2 0 false)] 22) ?_
  refine pN ?_
  refine pS ?_
  refine gE ?_
  exact pL
theorem F16 (m : Nat) (hm : 2 ≤ m) (p0 : (List S53)) : callA Try.prog cfg m 16 [LL a53 p0] = (T16 p0).map (fun l => AV.fr 54 8 (List.map a53 l)) := by
  obtain ⟨q, rfl⟩ : ∃ q, m = q + 1 := ⟨m - 1, by omega⟩
  exact (callA_body (fn := Try.f16) (c := body_ Try.f16) q _ (by kernel_rfl) (by kernel_rfl) (by kernel_rfl)).trans (B16 _ (fun p0 => F57 q (by omega) p0) p0)

theorem F25 (m : Nat) (hm : 1 ≤ m) (p0 : (List S49)) : callA Try.prog cfg m 25 [LL a49 p0] = (appO 40 ([] : List S49) p0).map (fun l => AV.fr 50 3 (List.map a49 l)) := by
  obtain ⟨q, rfl⟩ : ∃ q, m = q + 1 := ⟨m - 1, by omega⟩
  exact (callA_leaf (L := (leafClone Try.prog 50 3 40)) _ _ (by kernel_rfl)).trans (clone_leaf a49 _ _ (fun _ => by kernel_rfl))

noncomputable def T132 (p0 : Int) (p1 : Int) (p2 : Int) : Option Bool := (bif (leI p1 p0) then (some (leI p0 p2)) else (some false))
theorem B132 (C : Callee) (p0 : Int) (p1 : Int) (p2 : Int) : runs Try.prog C (cfg.fn 132) (finFn Try.prog (cfg.fn 132).byval Try.f132) [] (execA Try.prog C (cfg.fn 132) (nr Try.f132 []) (frame0 [I p0, I p1, I p2] 15 false)) = (T132 p0 p1 p2).map B := by
  unfold T132
  refine gS 1 ?_
  refine gR 0 (rg Try.f132 0) ?_
  refine se (mkE [(0, I p0), (1, I p1), (2, I p2)] [] 15) ?_
  refine pN ?_
  refine pS ?_
  refine gS 0 ?_
  refine gR 1 (rg Try.f132 1) ?_
  refine sg 4 (mkE [(10, B (leI p1 p0)), (9, B (leI p1 p0)), (8, I p0), (7, I p1), (0, I p0), (1, I p1), (2, I p2)] [] 15) ?_
  refine sb 10 (leI p1 p0) ?_ ?_
  · refine se (mkE [(6, B (leI p0 p2))] [] 15) ?_
    refine pN ?_
    refine pS ?_
    refine gE ?_
    exact pL
  · refine se (mkE [(6, B false)] [] 15) ?_
    refine pN ?_
    refine pS ?_
    refine gE ?_
    exact pL
theorem F132 (m : Nat) (hm : 1 ≤ m) (p0 : Int) (p1 : Int) (p2 : Int) : callA Try.prog cfg m 132 [I p0, I p1, I p2] = (T132 p0 p1 p2).map B := by
  obtain ⟨q, rfl⟩ : ∃ q, m = q + 1 := ⟨m - 1, by omega⟩
  exact (callA_body (fn := Try.f132) (c := body_ Try.f132) q _ (by kernel_rfl) (by kernel_rfl) (by kernel_rfl)).trans (B132 _ p0 p1 p2)

theorem F264 (m : Nat) (hm : 1 ≤ m) (p0 : ByteArray) (p1 : Int) : callA Try.prog cfg m 264 [S p0, U p1] = (some (idxB p0 p1)).map I := by
  obtain ⟨q, rfl⟩ : ∃ q, m = q + 1 := ⟨m - 1, by omega⟩
  exact (callA_leaf (L := leafIdx) _ _ (by kernel_rfl)).trans (rfl)

noncomputable def T222 (p0 : ByteArray) (p1 : Int) : Option Int := ((some (idxB p0 p1)).bind fun x1 => (some x1))
theorem B222 (C : Callee) (h264 : ∀ (p0 : ByteArray) (p1 : Int), C 264 [S p0, U p1] = (some (idxB p0 p1)).map I) (p0 : ByteArray) (p1 : Int) : runs Try.prog C (cfg.fn 222) (finFn Try.prog (cfg.fn 222).byval Try.f222) [] (execA Try.prog C (cfg.fn 222) (nr Try.f222 []) (frame0 [S p0, U p1] 8 false)) = (T222 p0 p1).map I := by
  unfold T222
  refine gS 1 ?_
  refine gR 0 (rg Try.f222 0) ?_
  refine se (mkE [(0, S p0), (1, U p1)] [] 8) ?_
  refine pN ?_
  refine pS ?_
  refine gS 0 ?_
  refine gR 1 (rg Try.f222 1) ?_
  refine sg 2 (mkE [(6, U p1), (5, S p0), (0, S p0), (1, U p1)] [] 8) ?_
  refine co 7 [] (h264 p0 p1) (fun x1 => ?_)
  refine se (mkE [(4, I x1)] [] 8) ?_
  refine pN ?_
  refine pS ?_
  refine gE ?_
  exact pL
theorem F222 (m : Nat) (hm : 2 ≤ m) (p0 : ByteArray) (p1 : Int) : callA Try.prog cfg m 222 [S p0, U p1] = (T222 p0 p1).map I := by
  obtain ⟨q, rfl⟩ : ∃ q, m = q + 1 := ⟨m - 1, by omega⟩
  exact (callA_body (fn := Try.f222) (c := body_ Try.f222) q _ (by kernel_rfl) (by kernel_rfl) (by kernel_rfl)).trans (B222 _ (fun p0 p1 => F264 q (by omega) p0 p1) p0 p1)

noncomputable def L143_2 (p0 : ByteArray) (p1 : ByteArray) (z0 : Int) : Option (Int ⊕ ((Int × Bool) ⊕ Unit)) := (bif (ltI z0 (lenS p0)) then ((byteAt p0 z0).bind fun x1 => ((T222 p1 x1).bind fun x2 => (bif (ltI x2 0) then (some (.inr (.inr ()))) else (some (.inl (addI .i64 z0 1)))))) else (some (.inr (.inl (z0, (ltI z0 (lenS p0)))))))
theorem L143_2_ok (C : Callee) (h222 : ∀ (p0 : ByteArray) (p1 : Int), C 222 [S p0, U p1] = (T222 p0 p1).map I) (p0 : ByteArray) (p1 : ByteArray) (z0 : Int) : runs Try.prog C (cfg.fn 143) (finLoop ((cfg.fn 143).keep 2) ((cfg.fn 143).al 2)) [] (execA Try.prog C (cfg.fn 143) (nr Try.f143 [false, false, true, false, true]) ((fun z0 : Int => (mkE [(0, S p0), (1, S p1), (7, I (lenS p0)), (8, I z0)] [] 18)) z0)) = (L143_2 p0 p1 z0).map (Sum.elim (fun z => .inl ((fun z0 : Int => (mkE [(0, S p0), (1, S p1), (7, I (lenS p0)), (8, I z0)] [] 18)) z)) (fun x => .inr ((Sum.elim (fun (x : (Int × Bool)) => (.exit 0, (mkE [(0, S p0), (1, S p1), (7, I (lenS p0)), (8, I x.1), (9, B x.2)] [] 18))) (fun (x : Unit) => (.ret, (mkE [(4, B false)] [] 18)))) x))) := by
  unfold L143_2
  refine gS 0 ?_
  refine gR 2 (rg Try.f143 2) ?_
  refine se (mkE [(0, S p0), (1, S p1), (7, I (lenS p0)), (8, I z0), (9, B (ltI z0 (lenS p0)))] [] 18) ?_
  refine pN ?_
  refine pS ?_
  refine gS 3 ?_
  refine gC 9 (ltI z0 (lenS p0)) ?_ ?_
  · refine gK ?_
    refine pN ?_
    refine pS ?_
    refine gS 6 ?_
    refine gB 1 ?_
    refine gS 4 ?_
    refine gR 3 (rg Try.f143 3) ?_
    refine se (mkE [(0, S p0), (1, S p1), (5, I z0), (7, I (lenS p0)), (8, I z0)] [] 18) ?_
    refine pN ?_
    refine pS ?_
    refine gS 0 ?_
    refine gR 4 (rg Try.f143 4) ?_
    refine sg 3 (mkE [(13, I z0), (12, S p0), (11, S p1), (0, S p0), (1, S p1), (5, I z0), (7, I (lenS p0)), (8, I z0)] [] 18) ?_
    refine vo 14 (byteE 9 .i64 p0 z0) (fun x1 => ?_)
    refine co 15 [] (h222 p1 x1) (fun x2 => ?_)
    refine se (mkE [(0, S p0), (1, S p1), (7, I (lenS p0)), (8, I z0), (16, B (ltI x2 0))] [] 18) ?_
    refine pN ?_
    refine pS ?_
    refine gC 16 (ltI x2 0) ?_ ?_
    · refine gS 0 ?_
      refine gR 5 (rg Try.f143 5) ?_
      refine se (mkE [(4, B false)] [] 18) ?_
      refine pN ?_
      refine pS ?_
      refine gE ?_
      exact pL
    · refine gK ?_
      refine pB ?_
      refine pN ?_
      refine pS ?_
      refine gR 6 (rg Try.f143 6) ?_
      refine se (mkE [(0, S p0), (1, S p1), (7, I (lenS p0)), (8, I (addI .i64 z0 1))] [] 18) ?_
      exact pL
  · refine gX 0 ?_
    exact pL
noncomputable def T143 (p0 : ByteArray) (p1 : ByteArray) : Option Bool := ((iter (L143_2 p0 p1) 0).bind fun y3 => (Sum.elim (fun y3a => (some true)) (fun y3b => (some false)) y3))
theorem B143 (C : Callee) (h222 : ∀ (p0 : ByteArray) (p1 : Int), C 222 [S p0, U p1] = (T222 p0 p1).map I) (p0 : ByteArray) (p1 : ByteArray) : runs Try.prog C (cfg.fn 143) (finFn Try.prog (cfg.fn 143).byval Try.f143) [] (execA Try.prog C (cfg.fn 143) (nr Try.f143 []) (frame0 [S p0, S p1] 18 false)) = (T143 p0 p1).map B := by
  unfold T143
  refine gS 1 ?_
  refine gR 0 (rg Try.f143 0) ?_
  refine se (mkE [(0, S p0), (1, S p1)] [] 18) ?_
  refine pN ?_
  refine pS ?_
  refine gS 7 ?_
  refine gS 2 ?_
  refine gR 1 (rg Try.f143 1) ?_
  refine se (mkE [(0, S p0), (1, S p1), (7, I (lenS p0)), (8, I 0)] [] 18) ?_
  refine pN ?_
  refine pS ?_
  refine gB 0 ?_
  refine lo [(0, none), (1, none), (7, none), (8, none)] [] (L143_2 p0 p1) (fun z0 : Int => (mkE [(0, S p0), (1, S p1), (7, I (lenS p0)), (8, I z0)] [] 18)) (Sum.elim (fun (x : (Int × Bool)) => (.exit 0, (mkE [(0, S p0), (1, S p1), (7, I (lenS p0)), (8, I x.1), (9, B x.2)] [] 18))) (fun (x : Unit) => (.ret, (mkE [(4, B false)] [] 18)))) 0 (fun z => L143_2_ok C h222 p0 p1 z) ?_
  intro y3
  refine ss y3 (Z := (Sum.elim (fun (x : (Int × Bool)) => (.exit 0, (mkE [(0, S p0), (1, S p1), (7, I (lenS p0)), (8, I x.1), (9, B x.2)] [] 18))) (fun (x : Unit) => (.ret, (mkE [(4, B false)] [] 18))))) (fun y3a => ?_) (fun y3b => ?_)
  · refine pH ?_
    refine pN ?_
    refine pS ?_
    refine gS 0 ?_
    refine gR 7 (rg Try.f143 7) ?_
    refine se (mkE [(4, B true)] [] 18) ?_
    refine pN ?_
    refine pS ?_
    refine gE ?_
    exact pL
  · exact pL
theorem F143 (m : Nat) (hm : 3 ≤ m) (p0 : ByteArray) (p1 : ByteArray) : callA Try.prog cfg m 143 [S p0, S p1] = (T143 p0 p1).map B := by
  obtain ⟨q, rfl⟩ : ∃ q, m = q + 1 := ⟨m - 1, by omega⟩
  exact (callA_body (fn := Try.f143) (c := body_ Try.f143) q _ (by kernel_rfl) (by kernel_rfl) (by kernel_rfl)).trans (B143 _ (fun p0 p1 => F222 q (by omega) p0 p1) p0 p1)

noncomputable def T51 (p0 : ByteArray) : Option Bool := ((T132 (lenS p0) 1 40).bind fun x1 => (bif x1 then ((cutS p0 none (some 1)).bind fun x2 => ((T143 x2 (ByteArray.mk #[97, 98, 99, 100, 101, 102, 103, 104, 105, 106, 107, 108, 109, 110, 111, 112, 113, 114, 115, 116, 117, 118, 119, 120, 121, 122])).bind fun x3 => (bif x3 then ((T143 p0 (ByteArray.mk #[97, 98, 99, 100, 101, 102, 103, 104, 105, 106, 107, 108, 109, 110, 111, 112, 113, 114, 115, 116, 117, 118, 119, 120, 121, 122, 48, 49, 50, 51, 52, 53, 54, 55, 56, 57, 45, 95])).bind fun x4 => (some x4)) else (some false)))) else (some false)))
theorem B51 (C : Callee) (h132 : ∀ (p0 : Int) (p1 : Int) (p2 : Int), C 132 [I p0, I p1, I p2] = (T132 p0 p1 p2).map B) (h143 : ∀ (p0 : ByteArray) (p1 : ByteArray), C 143 [S p0, S p1] = (T143 p0 p1).map B) (p0 : ByteArray) : runs Try.prog C (cfg.fn 51) (finFn Try.prog (cfg.fn 51).byval Try.f51) [] (execA Try.prog C (cfg.fn 51) (nr Try.f51 []) (frame0 [S p0] 15 false)) = (T51 p0).map B := by
  unfold T51
  let s_0 : List (Nat × AV) := [(4, I (lenS p0)), (3, S p0), (0, S p0)]
  refine gS 1 ?_
  refine gR 0 (rg Try.f51 0) ?_
  refine se (mkE [(0, S p0)] [] 15) ?_
  refine pN ?_
  refine pS ?_
  refine gS 0 ?_
  refine gR 1 (rg Try.f51 1) ?_
  refine sg 2 (mkE s_0 [] 15) ?_
  refine co 5 [] (h132 (lenS p0) 1 40) (fun x1 => ?_)
  refine sg 4 (mkE ((6, B x1) :: ((5, B x1) :: s_0)) [] 15) ?_
  refine sb 6 x1 ?_ ?_
  · refine sg 5 (mkE ((7, S p0) :: ((6, B true) :: ((6, B x1) :: ((5, B x1) :: s_0)))) [] 15) ?_
    refine vo 8 (cutSE 9 .i64 .i64 p0 none (some 1)) (fun x2 => ?_)
    refine co 9 [] (h143 x2 (ByteArray.mk #[97, 98, 99, 100, 101, 102, 103, 104, 105, 106, 107, 108, 109, 110, 111, 112, 113, 114, 115, 116, 117, 118, 119, 120, 121, 122])) (fun x3 => ?_)
    refine sg 9 (mkE ((11, B x3) :: ((10, B x3) :: ((9, B x3) :: ((8, S x2) :: ((7, S p0) :: ((6, B true) :: ((6, B x1) :: ((5, B x1) :: s_0)))))))) [] 15) ?_
    refine sb 11 x3 ?_ ?_
    · refine sg 10 (mkE ((12, S p0) :: ((11, B true) :: ((11, B x3) :: ((10, B x3) :: ((9, B x3) :: ((8, S x2) :: ((7, S p0) :: ((6, B true) :: ((6, B x1) :: ((5, B x1) :: s_0)))))))))) [] 15) ?_
      refine co 13 [] (h143 p0 (ByteArray.mk #[97, 98, 99, 100, 101, 102, 103, 104, 105, 106, 107, 108, 109, 110, 111, 112, 113, 114, 115, 116, 117, 118, 119, 120, 121, 122, 48, 49, 50, 51, 52, 53, 54, 55, 56, 57, 45, 95])) (fun x4 => ?_)
      refine se (mkE [(2, B x4)] [] 15) ?_
      refine pN ?_
      refine pS ?_
      refine gE ?_
      exact pL
    · refine se (mkE [(2, B false)] [] 15) ?_
      refine pN ?_
      refine pS ?_
      refine gE ?_
      exact pL
  · refine se (mkE [(2, B false)] [] 15) ?_
    refine pN ?_
    refine pS ?_
    refine gE ?_
    exact pL
theorem F51 (m : Nat) (hm : 4 ≤ m) (p0 : ByteArray) : callA Try.prog cfg m 51 [S p0] = (T51 p0).map B := by
  obtain ⟨q, rfl⟩ : ∃ q, m = q + 1 := ⟨m - 1, by omega⟩
  exact (callA_body (fn := Try.f51) (c := body_ Try.f51) q _ (by kernel_rfl) (by kernel_rfl) (by kernel_rfl)).trans (B51 _ (fun p0 p1 p2 => F132 q (by omega) p0 p1 p2) (fun p0 p1 => F143 q (by omega) p0 p1) p0)

noncomputable def L226_2 (p0 : (List ByteArray)) (z0 : Int) : Option (Int ⊕ ((Int × Bool) ⊕ Int)) := (bif (ltI z0 (lenL p0)) then ((listAt p0 z0).bind fun x1 => ((T51 x1).bind fun x2 => (bif (!x2) then (some (.inr (.inr 5))) else (bif (ltI 0 z0) then ((listAt p0 (subI .i64 z0 1)).bind fun x3 => (bif (ltS x1 x3 || eqS x1 x3) then (some (.inr (.inr 7))) else (some (.inl (addI .i64 z0 1))))) else (some (.inl (addI .i64 z0 1))))))) else (some (.inr (.inl (z0, (ltI z0 (lenL p0)))))))
theorem L226_2_ok (C : Callee) (h51 : ∀ (p0 : ByteArray), C 51 [S p0] = (T51 p0).map B) (p0 : (List ByteArray)) (z0 : Int) : runs Try.prog C (cfg.fn 226) (finLoop ((cfg.fn 226).keep 2) ((cfg.fn 226).al 2)) [] (execA Try.prog C (cfg.fn 226) (nr Try.f226 [false, false, true, false, true]) ((fun z0 : Int => (mkE [(0, LL S p0), (5, LL S p0), (6, I (lenL p0)), (7, I z0)] [] 27)) z0)) = (L226_2 p0 z0).map (Sum.elim (fun z => .inl ((fun z0 : Int => (mkE [(0, LL S p0), (5, LL S p0), (6, I (lenL p0)), (7, I z0)] [] 27)) z)) (fun x => .inr ((Sum.elim (fun (x : (Int × Bool)) => (.exit 0, (mkE [(0, LL S p0), (5, LL S p0), (6, I (lenL p0)), (7, I x.1), (8, B x.2)] [] 27))) (fun (x : Int) => (.ret, (mkE [(2, I x)] [] 27)))) x))) := by
  unfold L226_2
  let s_0 : List (Nat × AV) := [(5, LL S p0), (6, I (lenL p0)), (7, I z0)]
  refine gS 0 ?_
  refine gR 2 (rg Try.f226 2) ?_
  refine se (mkE ((0, LL S p0) :: (s_0.append [(8, B (ltI z0 (lenL p0)))])) [] 27) ?_
  refine pN ?_
  refine pS ?_
  refine gS 3 ?_
  refine gC 8 (ltI z0 (lenL p0)) ?_ ?_
  · refine gK ?_
    refine pN ?_
    refine pS ?_
    refine gS 8 ?_
    refine gB 1 ?_
    refine gS 4 ?_
    refine gR 3 (rg Try.f226 3) ?_
    refine sg 1 (mkE ((9, I z0) :: ((0, LL S p0) :: (s_0.append [(8, B (ltI z0 (lenL p0)))]))) [] 27) ?_
    refine vo 10 (addrE 35 9 1 S .i64 p0 z0) (fun x1 => ?_)
    refine se (mkE ((0, LL S p0) :: ((3, I z0) :: ((4, S x1) :: s_0))) [] 27) ?_
    refine pN ?_
    refine pS ?_
    refine gS 6 ?_
    refine gS 0 ?_
    refine gR 4 (rg Try.f226 4) ?_
    refine sg 1 (mkE ((12, S x1) :: ((0, LL S p0) :: ((3, I z0) :: ((4, S x1) :: s_0)))) [] 27) ?_
    refine co 13 [] (h51 x1) (fun x2 => ?_)
    refine se (mkE ((0, LL S p0) :: ((3, I z0) :: ((4, S x1) :: (s_0.append [(14, B (!x2))])))) [] 27) ?_
    refine pN ?_
    refine pS ?_
    refine gC 14 (!x2) ?_ ?_
    · refine gS 0 ?_
      refine gR 5 (rg Try.f226 5) ?_
      refine se (mkE [(2, I 5)] [] 27) ?_
      refine pN ?_
      refine pS ?_
      refine gE ?_
      exact pL
    · refine gK ?_
      refine pN ?_
      refine pS ?_
      refine gS 0 ?_
      refine gR 6 (rg Try.f226 6) ?_
      refine sg 3 (mkE ((17, B (ltI 0 z0)) :: ((16, B (ltI 0 z0)) :: ((15, I z0) :: ((0, LL S p0) :: ((3, I z0) :: ((4, S x1) :: (s_0.append [(14, B (!x2))]))))))) [] 27) ?_
      refine sb 17 (ltI 0 z0) ?_ ?_
      · refine sg 7 (mkE ((21, I (subI .i64 z0 1)) :: ((20, I z0) :: ((19, LL S p0) :: ((18, S x1) :: ((17, B true) :: ((17, B (ltI 0 z0)) :: ((16, B (ltI 0 z0)) :: ((15, I z0) :: ((0, LL S p0) :: ((3, I z0) :: ((4, S x1) :: (s_0.append [(14, B (!x2))])))))))))))) [] 27) ?_
        refine vo 22 (addrE 35 9 1 S .i64 p0 (subI .i64 z0 1)) (fun x3 => ?_)
        refine se (mkE ((0, LL S p0) :: (s_0.append [(25, B (ltS x1 x3 || eqS x1 x3))])) [] 27) ?_
        refine pN ?_
        refine pS ?_
        refine gC 25 (ltS x1 x3 || eqS x1 x3) ?_ ?_
        · refine gS 0 ?_
          refine gR 7 (rg Try.f226 7) ?_
          refine se (mkE [(2, I 7)] [] 27) ?_
          refine pN ?_
          refine pS ?_
          refine gE ?_
          exact pL
        · refine gK ?_
          refine pB ?_
          refine pN ?_
          refine pS ?_
          refine gR 8 (rg Try.f226 8) ?_
          refine se (mkE [(0, LL S p0), (5, LL S p0), (6, I (lenL p0)), (7, I (addI .i64 z0 1))] [] 27) ?_
          exact pL
      · refine se (mkE ((0, LL S p0) :: (s_0.append [(25, B false)])) [] 27) ?_
        refine pN ?_
        refine pS ?_
        refine gF (.tmp 25) ?_
        refine gK ?_
        refine pB ?_
        refine pN ?_
        refine pS ?_
        refine gR 8 (rg Try.f226 8) ?_
        refine se (mkE [(0, LL S p0), (5, LL S p0), (6, I (lenL p0)), (7, I (addI .i64 z0 1))] [] 27) ?_
        exact pL
  · refine gX 0 ?_
    exact pL
noncomputable def T226 (p0 : (List ByteArray)) : Option Int := ((iter (L226_2 p0) 0).bind fun y4 => (Sum.elim (fun y4a => (some 0)) (fun y4b => (some y4b)) y4))
theorem B226 (C : Callee) (h51 : ∀ (p0 : ByteArray), C 51 [S p0] = (T51 p0).map B) (p0 : (List ByteArray)) : runs Try.prog C (cfg.fn 226) (finFn Try.prog (cfg.fn 226).byval Try.f226) [] (execA Try.prog C (cfg.fn 226) (nr Try.f226 []) (frame0 [LL S p0] 27 false)) = (T226 p0).map I := by
  unfold T226
  refine gS 1 ?_
  refine gR 0 (rg Try.f226 0) ?_
  refine se (mkE [(0, LL S p0)] [] 27) ?_
  refine pN ?_
  refine pS ?_
  refine gS 9 ?_
  refine gS 2 ?_
  refine gR 1 (rg Try.f226 1) ?_
  refine sg 1 (mkE [(5, LL S p0), (0, LL S p0)] [] 27) ?_
  refine eo 6 (I (lenL p0)) (lenE 35 S p0) ?_
  refine se (mkE [(0, LL S p0), (5, LL S p0), (6, I (lenL p0)), (7, I 0)] [] 27) ?_
  refine pN ?_
  refine pS ?_
  refine gB 0 ?_
  refine lo [(0, none), (5, none), (6, none), (7, none)] [] (L226_2 p0) (fun z0 : Int => (mkE [(0, LL S p0), (5, LL S p0), (6, I (lenL p0)), (7, I z0)] [] 27)) (Sum.elim (fun (x : (Int × Bool)) => (.exit 0, (mkE [(0, LL S p0), (5, LL S p0), (6, I (lenL p0)), (7, I x.1), (8, B x.2)] [] 27))) (fun (x : Int) => (.ret, (mkE [(2, I x)] [] 27)))) 0 (fun z => L226_2_ok C h51 p0 z) ?_
  intro y4
  refine ss y4 (Z := (Sum.elim (fun (x : (Int × Bool)) => (.exit 0, (mkE [(0, LL S p0), (5, LL S p0), (6, I (lenL p0)), (7, I x.1), (8, B x.2)] [] 27))) (fun (x : Int) => (.ret, (mkE [(2, I x)] [] 27))))) (fun y4a => ?_) (fun y4b => ?_)
  · refine pH ?_
    refine pN ?_
    refine pS ?_
    refine gS 0 ?_
    refine gR 9 (rg Try.f226 9) ?_
    refine se (mkE [(2, I 0)] [] 27) ?_
    refine pN ?_
    refine pS ?_
    refine gE ?_
    exact pL
  · exact pL
theorem F226 (m : Nat) (hm : 5 ≤ m) (p0 : (List ByteArray)) : callA Try.prog cfg m 226 [LL S p0] = (T226 p0).map I := by
  obtain ⟨q, rfl⟩ : ∃ q, m = q + 1 := ⟨m - 1, by omega⟩
  exact (callA_body (fn := Try.f226) (c := body_ Try.f226) q _ (by kernel_rfl) (by kernel_rfl) (by kernel_rfl)).trans (B226 _ (fun p0 => F51 q (by omega) p0) p0)

noncomputable def T149 (p0 : (List ByteArray)) : Option Int := (bif (ltI 20 (lenL p0)) then (some 2) else ((T226 p0).bind fun x1 => (some x1)))
theorem B149 (C : Callee) (h226 : ∀ (p0 : (List ByteArray)), C 226 [LL S p0] = (T226 p0).map I) (p0 : (List ByteArray)) : runs Try.prog C (cfg.fn 149) (finFn Try.prog (cfg.fn 149).byval Try.f149) [] (execA Try.prog C (cfg.fn 149) (nr Try.f149 []) (frame0 [LL S p0] 8 false)) = (T149 p0).map I := by
  unfold T149
  refine gS 1 ?_
  refine gR 0 (rg Try.f149 0) ?_
  refine se (mkE [(0, LL S p0)] [] 8) ?_
  refine pN ?_
  refine pS ?_
  refine gS 3 ?_
  refine gS 0 ?_
  refine gR 1 (rg Try.f149 1) ?_
  refine sg 1 (mkE [(3, LL S p0), (0, LL S p0)] [] 8) ?_
  refine eo 4 (I (lenL p0)) (lenE 35 S p0) ?_
  refine se (mkE [(0, LL S p0), (5, B (ltI 20 (lenL p0)))] [] 8) ?_
  refine pN ?_
  refine pS ?_
  refine gC 5 (ltI 20 (lenL p0)) ?_ ?_
  · refine gS 0 ?_
    refine gR 2 (rg Try.f149 2) ?_
    refine se (mkE [(2, I 2)] [] 8) ?_
    refine pN ?_
    refine pS ?_
    refine gE ?_
    exact pL
  · refine gK ?_
    refine pN ?_
    refine pS ?_
    refine gS 0 ?_
    refine gR 3 (rg Try.f149 3) ?_
    refine sg 1 (mkE [(6, LL S p0), (0, LL S p0), (5, B (ltI 20 (lenL p0)))] [] 8) ?_
    refine co 7 [] (h226 p0) (fun x1 => ?_)
    refine se (mkE [(2, I x1)] [] 8) ?_
    refine pN ?_
    refine pS ?_
    refine gE ?_
    exact pL
theorem F149 (m : Nat) (hm : 6 ≤ m) (p0 : (List ByteArray)) : callA Try.prog cfg m 149 [LL S p0] = (T149 p0).map I := by
  obtain ⟨q, rfl⟩ : ∃ q, m = q + 1 := ⟨m - 1, by omega⟩
  exact (callA_body (fn := Try.f149) (c := body_ Try.f149) q _ (by kernel_rfl) (by kernel_rfl) (by kernel_rfl)).trans (B149 _ (fun p0 => F226 q (by omega) p0) p0)

noncomputable def L59_5 (p0 : (List S90)) (z0 : (ByteArray × Int)) : Option ((ByteArray × Int) ⊕ ((ByteArray × Int × Bool) ⊕ Int)) := (bif (ltI z0.2 (lenL p0)) then ((listAt p0 z0.2).bind fun x1 => ((T51 x1.f0).bind fun x2 => (bif (!x2) then (some (.inr (.inr 5))) else (bif (ltS x1.f0 z0.1 || eqS x1.f0 z0.1) then (some (.inr (.inr 7))) else (bif (ltI x1.f1.f0 0) then (some (.inr (.inr 1))) else (bif (leI x1.f1.f1 x1.f1.f0) then (some (.inr (.inr 1))) else (bif (ltI 345686400000 x1.f1.f1) then (some (.inr (.inr 1))) else ((T132 x1.f2 0 1000000).bind fun x3 => (bif (!x3) then (some (.inr (.inr 1))) else ((T149 x1.f3).bind fun x4 => (bif (neI x4 0) then (some (.inr (.inr x4))) else (some (.inl (x1.f0, (addI .i64 z0.2 1))))))))))))))) else (some (.inr (.inl (z0.1, z0.2, (ltI z0.2 (lenL p0)))))))
theorem L59_5_ok (C : Callee) (h132 : ∀ (p0 : Int) (p1 : Int) (p2 : Int), C 132 [I p0, I p1, I p2] = (T132 p0 p1 p2).map B) (h149 : ∀ (p0 : (List ByteArray)), C 149 [LL S p0] = (T149 p0).map I) (h51 : ∀ (p0 : ByteArray), C 51 [S p0] = (T51 p0).map B) (p0 : (List S90)) (z0 : (ByteArray × Int)) : runs Try.prog C (cfg.fn 59) (finLoop ((cfg.fn 59).keep 5) ((cfg.fn 59).al 5)) [] (execA Try.prog C (cfg.fn 59) (nr Try.f59 [false, false, true, false, true, true, true]) ((fun z0 : (ByteArray × Int) => (mkE [(3, S z0.1), (10, LL a90 p0), (11, I (lenL p0)), (12, I z0.2)] [] 61)) z0)) = (L59_5 p0 z0).map (Sum.elim (fun z => .inl ((fun z0 : (ByteArray × Int) => (mkE [(3, S z0.1), (10, LL a90 p0), (11, I (lenL p0)), (12, I z0.2)] [] 61)) z)) (fun x => .inr ((Sum.elim (fun (x : (ByteArray × Int × Bool)) => (.exit 0, (mkE [(3, S x.1), (10, LL a90 p0), (11, I (lenL p0)), (12, I x.2.1), (13, B x.2.2)] [] 61))) (fun (x : Int) => (.ret, (mkE [(2, I x)] [] 61)))) x))) := by
  unfold L59_5
  let s_0 : List (Nat × AV) := [(5, .ba 40 0), (10, LL a90 p0), (11, I (lenL p0)), (12, I z0.2)]
  refine gS 0 ?_
  refine gR 5 (rg Try.f59 5) ?_
  refine se (mkE [(3, S z0.1), (10, LL a90 p0), (11, I (lenL p0)), (12, I z0.2), (13, B (ltI z0.2 (lenL p0)))] [] 61) ?_
  refine pN ?_
  refine pS ?_
  refine gS 6 ?_
  refine gC 13 (ltI z0.2 (lenL p0)) ?_ ?_
  · refine gK ?_
    refine pN ?_
    refine pS ?_
    refine gS 17 ?_
    refine gB 1 ?_
    refine gS 7 ?_
    refine gR 6 (rg Try.f59 6) ?_
    refine vo 14 (addrE 28 91 5 a90 .i64 p0 z0.2) (fun x1 => ?_)
    refine se (mkE ((3, S z0.1) :: s_0) [(40, .box [S x1.f0, I x1.f1.f0, I x1.f1.f1, I x1.f2, LL S x1.f3] false)] 61) ?_
    refine pN ?_
    refine pS ?_
    refine gS 13 ?_
    refine gB 2 ?_
    refine gS 0 ?_
    refine gR 7 (rg Try.f59 7) ?_
    refine sg 2 (mkE ((18, S x1.f0) :: ((17, .ba 40 0) :: ((3, S z0.1) :: s_0))) [(40, .box [S x1.f0, I x1.f1.f0, I x1.f1.f1, I x1.f2, LL S x1.f3] false)] 61) ?_
    refine co 19 [] (h51 x1.f0) (fun x2 => ?_)
    refine se (mkE ((3, S z0.1) :: (s_0.append [(16, B (!x2))])) [(40, .box [S x1.f0, I x1.f1.f0, I x1.f1.f1, I x1.f2, LL S x1.f3] false)] 61) ?_
    refine pN ?_
    refine pS ?_
    refine gC 16 (!x2) ?_ ?_
    · refine gS 0 ?_
      refine gR 8 (rg Try.f59 8) ?_
      refine se (mkE [(2, I 5)] [] 61) ?_
      refine pN ?_
      refine pS ?_
      refine gE ?_
      exact pL
    · refine gS 0 ?_
      refine gR 9 (rg Try.f59 9) ?_
      refine se (mkE (s_0.append [(21, B (ltS x1.f0 z0.1 || eqS x1.f0 z0.1))]) [(40, .box [S x1.f0, I x1.f1.f0, I x1.f1.f1, I x1.f2, LL S x1.f3] false)] 61) ?_
      refine pN ?_
      refine pS ?_
      refine gC 21 (ltS x1.f0 z0.1 || eqS x1.f0 z0.1) ?_ ?_
      · refine gS 0 ?_
        refine gR 10 (rg Try.f59 10) ?_
        refine se (mkE [(2, I 7)] [] 61) ?_
        refine pN ?_
        refine pS ?_
        refine gE ?_
        exact pL
      · refine gS 0 ?_
        refine gR 11 (rg Try.f59 11) ?_
        refine sg 5 (mkE ((31, B (ltI x1.f1.f0 0)) :: ((30, B (ltI x1.f1.f0 0)) :: ((29, I x1.f1.f0) :: ((28, .ba 40 1) :: ((27, .ba 40 1) :: (s_0.append [(21, B (ltS x1.f0 z0.1 || eqS x1.f0 z0.1))])))))) [(40, .box [S x1.f0, I x1.f1.f0, I x1.f1.f1, I x1.f2, LL S x1.f3] false)] 61) ?_
        refine sb 31 (ltI x1.f1.f0 0) ?_ ?_
        · refine se (mkE (s_0.append [(26, B true)]) [(40, .box [S x1.f0, I x1.f1.f0, I x1.f1.f1, I x1.f2, LL S x1.f3] false)] 61) ?_
          refine pN ?_
          refine pS ?_
          refine gT (.tmp 26) ?_
          refine gS 0 ?_
          refine gR 12 (rg Try.f59 12) ?_
          refine se (mkE [(2, I 1)] [] 61) ?_
          refine pN ?_
          refine pS ?_
          refine gE ?_
          exact pL
        · refine sg 14 (mkE ((40, B (leI x1.f1.f1 x1.f1.f0)) :: ((39, B (leI x1.f1.f1 x1.f1.f0)) :: ((38, B (leI x1.f1.f1 x1.f1.f0)) :: ((37, I x1.f1.f1) :: ((36, .ba 40 2) :: ((35, .ba 40 1) :: ((34, I x1.f1.f0) :: ((33, .ba 40 1) :: ((32, .ba 40 1) :: ((31, B false) :: ((31, B (ltI x1.f1.f0 0)) :: ((30, B (ltI x1.f1.f0 0)) :: ((29, I x1.f1.f0) :: ((28, .ba 40 1) :: ((27, .ba 40 1) :: (s_0.append [(21, B (ltS x1.f0 z0.1 || eqS x1.f0 z0.1))])))))))))))))))) [(40, .box [S x1.f0, I x1.f1.f0, I x1.f1.f1, I x1.f2, LL S x1.f3] false)] 61) ?_
          refine sb 40 (leI x1.f1.f1 x1.f1.f0) ?_ ?_
          · refine se (mkE (s_0.append [(26, B true)]) [(40, .box [S x1.f0, I x1.f1.f0, I x1.f1.f1, I x1.f2, LL S x1.f3] false)] 61) ?_
            refine pN ?_
            refine pS ?_
            refine gT (.tmp 26) ?_
            refine gS 0 ?_
            refine gR 12 (rg Try.f59 12) ?_
            refine se (mkE [(2, I 1)] [] 61) ?_
            refine pN ?_
            refine pS ?_
            refine gE ?_
            exact pL
          · refine sg 20 (mkE ((46, B (ltI 345686400000 x1.f1.f1)) :: ((45, B (ltI 345686400000 x1.f1.f1)) :: ((44, B (ltI 345686400000 x1.f1.f1)) :: ((43, I x1.f1.f1) :: ((42, .ba 40 2) :: ((41, .ba 40 1) :: ((40, B false) :: ((40, B (leI x1.f1.f1 x1.f1.f0)) :: ((39, B (leI x1.f1.f1 x1.f1.f0)) :: ((38, B (leI x1.f1.f1 x1.f1.f0)) :: ((37, I x1.f1.f1) :: ((36, .ba 40 2) :: ((35, .ba 40 1) :: ((34, I x1.f1.f0) :: ((33, .ba 40 1) :: ((32, .ba 40 1) :: ((31, B false) :: ((31, B (ltI x1.f1.f0 0)) :: ((30, B (ltI x1.f1.f0 0)) :: ((29, I x1.f1.f0) :: ((28, .ba 40 1) :: ((27, .ba 40 1) :: (s_0.append [(21, B (ltS x1.f0 z0.1 || eqS x1.f0 z0.1))]))))))))))))))))))))))) [(40, .box [S x1.f0, I x1.f1.f0, I x1.f1.f1, I x1.f2, LL S x1.f3] false)] 61) ?_
            refine sb 46 (ltI 345686400000 x1.f1.f1) ?_ ?_
            · refine se (mkE (s_0.append [(26, B true)]) [(40, .box [S x1.f0, I x1.f1.f0, I x1.f1.f1, I x1.f2, LL S x1.f3] false)] 61) ?_
              refine pN ?_
              refine pS ?_
              refine gT (.tmp 26) ?_
              refine gS 0 ?_
              refine gR 12 (rg Try.f59 12) ?_
              refine se (mkE [(2, I 1)] [] 61) ?_
              refine pN ?_
              refine pS ?_
              refine gE ?_
              exact pL
            · refine sg 22 (mkE ((48, I x1.f2) :: ((47, .ba 40 3) :: ((46, B false) :: ((46, B (ltI 345686400000 x1.f1.f1)) :: ((45, B (ltI 345686400000 x1.f1.f1)) :: ((44, B (ltI 345686400000 x1.f1.f1)) :: ((43, I x1.f1.f1) :: ((42, .ba 40 2) :: ((41, .ba 40 1) :: ((40, B false) :: ((40, B (leI x1.f1.f1 x1.f1.f0)) :: ((39, B (leI x1.f1.f1 x1.f1.f0)) :: ((38, B (leI x1.f1.f1 x1.f1.f0)) :: ((37, I x1.f1.f1) :: ((36, .ba 40 2) :: ((35, .ba 40 1) :: ((34, I x1.f1.f0) :: ((33, .ba 40 1) :: ((32, .ba 40 1) :: ((31, B false) :: ((31, B (ltI x1.f1.f0 0)) :: ((30, B (ltI x1.f1.f0 0)) :: ((29, I x1.f1.f0) :: ((28, .ba 40 1) :: ((27, .ba 40 1) :: (s_0.append [(21, B (ltS x1.f0 z0.1 || eqS x1.f0 z0.1))])))))))))))))))))))))))))) [(40, .box [S x1.f0, I x1.f1.f0, I x1.f1.f1, I x1.f2, LL S x1.f3] false)] 61) ?_
              refine co 49 [] (h132 x1.f2 0 1000000) (fun x3 => ?_)
              refine se (mkE (s_0.append [(26, B (!x3))]) [(40, .box [S x1.f0, I x1.f1.f0, I x1.f1.f1, I x1.f2, LL S x1.f3] false)] 61) ?_
              refine pN ?_
              refine pS ?_
              refine gC 26 (!x3) ?_ ?_
              · refine gS 0 ?_
                refine gR 12 (rg Try.f59 12) ?_
                refine se (mkE [(2, I 1)] [] 61) ?_
                refine pN ?_
                refine pS ?_
                refine gE ?_
                exact pL
              · refine gK ?_
                refine pB ?_
                refine pN ?_
                refine pS ?_
                refine gS 14 ?_
                refine gR 13 (rg Try.f59 13) ?_
                refine se (mkE ((3, S x1.f0) :: s_0) [(40, .box [S x1.f0, I x1.f1.f0, I x1.f1.f1, I x1.f2, LL S x1.f3] false)] 61) ?_
                refine pN ?_
                refine pS ?_
                refine gS 15 ?_
                refine gR 14 (rg Try.f59 14) ?_
                refine sg 2 (mkE ((55, LL S x1.f3) :: ((54, .ba 40 4) :: ((3, S x1.f0) :: s_0))) [(40, .box [S x1.f0, I x1.f1.f0, I x1.f1.f1, I x1.f2, LL S x1.f3] false)] 61) ?_
                refine co 56 [] (h149 x1.f3) (fun x4 => ?_)
                refine se (mkE [(3, S x1.f0), (6, I x4), (10, LL a90 p0), (11, I (lenL p0)), (12, I z0.2)] [] 61) ?_
                refine pN ?_
                refine pS ?_
                refine gS 0 ?_
                refine gR 15 (rg Try.f59 15) ?_
                refine se (mkE [(3, S x1.f0), (6, I x4), (10, LL a90 p0), (11, I (lenL p0)), (12, I z0.2), (58, B (neI x4 0))] [] 61) ?_
                refine pN ?_
                refine pS ?_
                refine gC 58 (neI x4 0) ?_ ?_
                · refine gS 0 ?_
                  refine gR 16 (rg Try.f59 16) ?_
                  refine se (mkE [(2, I x4)] [] 61) ?_
                  refine pN ?_
                  refine pS ?_
                  refine gE ?_
                  exact pL
                · refine gK ?_
                  refine pB ?_
                  refine pN ?_
                  refine pS ?_
                  refine gR 17 (rg Try.f59 17) ?_
                  refine se (mkE [(3, S x1.f0), (10, LL a90 p0), (11, I (lenL p0)), (12, I (addI .i64 z0.2 1))] [] 61) ?_
                  exact pL
  · refine gX 0 ?_
    exact pL
noncomputable def T59 (p0 : (List S90)) : Option Int := (bif (ltI 60 (lenL p0)) then (some 2) else ((iter (L59_5 p0) ((ByteArray.mk #[]), 0)).bind fun y5 => (Sum.elim (fun y5a => (some 0)) (fun y5b => (some y5b)) y5)))
theorem B59 (C : Callee) (h132 : ∀ (p0 : Int) (p1 : Int) (p2 : Int), C 132 [I p0, I p1, I p2] = (T132 p0 p1 p2).map B) (h149 : ∀ (p0 : (List ByteArray)), C 149 [LL S p0] = (T149 p0).map I) (h51 : ∀ (p0 : ByteArray), C 51 [S p0] = (T51 p0).map B) (p0 : (List S90)) : runs Try.prog C (cfg.fn 59) (finFn Try.prog (cfg.fn 59).byval Try.f59) [] (execA Try.prog C (cfg.fn 59) (nr Try.f59 []) (frame0 [LL a90 p0] 61 false)) = (T59 p0).map I := by
  unfold T59
  refine gS 1 ?_
  refine gR 0 (rg Try.f59 0) ?_
  refine se (mkE [(0, LL a90 p0)] [] 61) ?_
  refine pN ?_
  refine pS ?_
  refine gS 3 ?_
  refine gS 0 ?_
  refine gR 1 (rg Try.f59 1) ?_
  refine sg 1 (mkE [(7, LL a90 p0), (0, LL a90 p0)] [] 61) ?_
  refine eo 8 (I (lenL p0)) (lenE 28 a90 p0) ?_
  refine se (mkE [(0, LL a90 p0), (9, B (ltI 60 (lenL p0)))] [] 61) ?_
  refine pN ?_
  refine pS ?_
  refine gC 9 (ltI 60 (lenL p0)) ?_ ?_
  · refine gS 0 ?_
    refine gR 2 (rg Try.f59 2) ?_
    refine se (mkE [(2, I 2)] [] 61) ?_
    refine pN ?_
    refine pS ?_
    refine gE ?_
    exact pL
  · refine gK ?_
    refine pN ?_
    refine pS ?_
    refine gS 4 ?_
    refine gR 3 (rg Try.f59 3) ?_
    refine se (mkE [(0, LL a90 p0), (3, S (ByteArray.mk #[]))] [] 61) ?_
    refine pN ?_
    refine pS ?_
    refine gS 18 ?_
    refine gS 5 ?_
    refine gR 4 (rg Try.f59 4) ?_
    refine sg 1 (mkE [(10, LL a90 p0), (0, LL a90 p0), (3, S (ByteArray.mk #[]))] [] 61) ?_
    refine eo 11 (I (lenL p0)) (lenE 28 a90 p0) ?_
    refine se (mkE [(3, S (ByteArray.mk #[])), (10, LL a90 p0), (11, I (lenL p0)), (12, I 0)] [] 61) ?_
    refine pN ?_
    refine pS ?_
    refine gB 0 ?_
    refine lo [(3, none), (10, none), (11, none), (12, none)] [] (L59_5 p0) (fun z0 : (ByteArray × Int) => (mkE [(3, S z0.1), (10, LL a90 p0), (11, I (lenL p0)), (12, I z0.2)] [] 61)) (Sum.elim (fun (x : (ByteArray × Int × Bool)) => (.exit 0, (mkE [(3, S x.1), (10, LL a90 p0), (11, I (lenL p0)), (12, I x.2.1), (13, B x.2.2)] [] 61))) (fun (x : Int) => (.ret, (mkE [(2, I x)] [] 61)))) ((ByteArray.mk #[]), 0) (fun z => L59_5_ok C h132 h149 h51 p0 z) ?_
    intro y5
    refine ss y5 (Z := (Sum.elim (fun (x : (ByteArray × Int × Bool)) => (.exit 0, (mkE [(3, S x.1), (10, LL a90 p0), (11, I (lenL p0)), (12, I x.2.1), (13, B x.2.2)] [] 61))) (fun (x : Int) => (.ret, (mkE [(2, I x)] [] 61))))) (fun y5a => ?_) (fun y5b => ?_)
    · refine pH ?_
      refine pN ?_
      refine pS ?_
      refine gS 0 ?_
      refine gR 18 (rg Try.f59 18) ?_
      refine se (mkE [(2, I 0)] [] 61) ?_
      refine pN ?_
      refine pS ?_
      refine gE ?_
      exact pL
    · exact pL
theorem F59 (m : Nat) (hm : 7 ≤ m) (p0 : (List S90)) : callA Try.prog cfg m 59 [LL a90 p0] = (T59 p0).map I := by
  obtain ⟨q, rfl⟩ : ∃ q, m = q + 1 := ⟨m - 1, by omega⟩
  exact (callA_body (fn := Try.f59) (c := body_ Try.f59) q _ (by kernel_rfl) (by kernel_rfl) (by kernel_rfl)).trans (B59 _ (fun p0 p1 p2 => F132 q (by omega) p0 p1 p2) (fun p0 => F149 q (by omega) p0) (fun p0 => F51 q (by omega) p0) p0)

noncomputable def L61_5 (p0 : (List S53)) (z0 : (ByteArray × Int)) : Option ((ByteArray × Int) ⊕ ((ByteArray × Int × Bool) ⊕ Int)) := (bif (ltI z0.2 (lenL p0)) then ((listAt p0 z0.2).bind fun x1 => ((((T51 x1.f0).bind fun x2 => (bif (!x2) then (some (.inr 5)) else (bif (!eqS x1.f1 (ByteArray.mk #[])) then ((T51 x1.f1).bind fun x3 => (bif (!x3) then (some (.inr 5)) else (bif (ltS x1.f0 z0.1 || eqS x1.f0 z0.1) then (some (.inr 7)) else (bif (ltI x1.f2.f0 0) then (some (.inr 1)) else (bif (leI x1.f2.f1 x1.f2.f0) then (some (.inr 1)) else (bif (ltI 345686400000 x1.f2.f1) then (some (.inr 1)) else ((T132 x1.f4 0 1000000).bind fun x4 => (bif (!x4) then (some (.inr 1)) else ((T132 x1.f5 0 1000000).bind fun x5 => (bif (!x5) then (some (.inr 1)) else ((T132 x1.f6 0 1000000000).bind fun x6 => (bif (!x6) then (some (.inr 1)) else (some (.inl ())))))))))))))) else (bif (ltS x1.f0 z0.1 || eqS x1.f0 z0.1) then (some (.inr 7)) else (bif (ltI x1.f2.f0 0) then (some (.inr 1)) else (bif (leI x1.f2.f1 x1.f2.f0) then (some (.inr 1)) else (bif (ltI 345686400000 x1.f2.f1) then (some (.inr 1)) else ((T132 x1.f4 0 1000000).bind fun x7 => (bif (!x7) then (some (.inr 1)) else ((T132 x1.f5 0 1000000).bind fun x8 => (bif (!x8) then (some (.inr 1)) else ((T132 x1.f6 0 1000000000).bind fun x9 => (bif (!x9) then (some (.inr 1)) else (some (.inl ()))))))))))))))) : Option (Unit ⊕ Int)).bind fun y10 => (Sum.elim (fun y10a => ((T149 x1.f3).bind fun x11 => (bif (neI x11 0) then (some (.inr (.inr x11))) else (some (.inl (x1.f0, (addI .i64 z0.2 1))))))) (fun y10b => (some (.inr (.inr y10b)))) y10))) else (some (.inr (.inl (z0.1, z0.2, (ltI z0.2 (lenL p0)))))))
theorem L61_5_ok (C : Callee) (h132 : ∀ (p0 : Int) (p1 : Int) (p2 : Int), C 132 [I p0, I p1, I p2] = (T132 p0 p1 p2).map B) (h149 : ∀ (p0 : (List ByteArray)), C 149 [LL S p0] = (T149 p0).map I) (h51 : ∀ (p0 : ByteArray), C 51 [S p0] = (T51 p0).map B) (p0 : (List S53)) (z0 : (ByteArray × Int)) : runs Try.prog C (cfg.fn 61) (finLoop ((cfg.fn 61).keep 5) ((cfg.fn 61).al 5)) [] (execA Try.prog C (cfg.fn 61) (nr Try.f61 [false, false, true, false, true, true, true]) ((fun z0 : (ByteArray × Int) => (mkE [(3, S z0.1), (10, LL a53 p0), (11, I (lenL p0)), (12, I z0.2)] [] 84)) z0)) = (L61_5 p0 z0).map (Sum.elim (fun z => .inl ((fun z0 : (ByteArray × Int) => (mkE [(3, S z0.1), (10, LL a53 p0), (11, I (lenL p0)), (12, I z0.2)] [] 84)) z)) (fun x => .inr ((Sum.elim (fun (x : (ByteArray × Int × Bool)) => (.exit 0, (mkE [(3, S x.1), (10, LL a53 p0), (11, I (lenL p0)), (12, I x.2.1), (13, B x.2.2)] [] 84))) (fun (x : Int) => (.ret, (mkE [(2, I x)] [] 84)))) x))) := by
  unfold L61_5
  let s_0 : List (Nat × AV) := [(5, .ba 40 0), (10, LL a53 p0), (11, I (lenL p0)), (12, I z0.2)]
  let s_1 : List (Nat × AV) := [(44, .ba 40 2), (43, .ba 40 2), (42, B false)]
  let s_2 : List (Nat × AV) := [(53, .ba 40 3), (52, .ba 40 2), (51, B false)]
  let s_3 : List (Nat × AV) := [(39, .ba 40 2), (38, .ba 40 2)]
  let s_4 : List (Nat × AV) := [(47, .ba 40 3), (46, .ba 40 2)]
  let s_5 : List (Nat × AV) := [(58, .ba 40 5), (57, B false)]
  refine gS 0 ?_
  refine gR 5 (rg Try.f61 5) ?_
  refine se (mkE [(3, S z0.1), (10, LL a53 p0), (11, I (lenL p0)), (12, I z0.2), (13, B (ltI z0.2 (lenL p0)))] [] 84) ?_
  refine pN ?_
  refine pS ?_
  refine gS 6 ?_
  refine gC 13 (ltI z0.2 (lenL p0)) ?_ ?_
  · refine gK ?_
    refine pN ?_
    refine pS ?_
    refine gS 17 ?_
    refine gB 1 ?_
    refine gS 7 ?_
    refine gR 6 (rg Try.f61 6) ?_
    refine vo 14 (addrE 29 54 8 a53 .i64 p0 z0.2) (fun x1 => ?_)
    refine se (mkE ((3, S z0.1) :: s_0) [(40, .box [S x1.f0, S x1.f1, I x1.f2.f0, I x1.f2.f1, LL S x1.f3, I x1.f4, I x1.f5, I x1.f6] false)] 84) ?_
    refine pN ?_
    refine pS ?_
    refine jS 13 (((T51 x1.f0).bind fun x2 => (bif (!x2) then (some (.inr 5)) else (bif (!eqS x1.f1 (ByteArray.mk #[])) then ((T51 x1.f1).bind fun x3 => (bif (!x3) then (some (.inr 5)) else (bif (ltS x1.f0 z0.1 || eqS x1.f0 z0.1) then (some (.inr 7)) else (bif (ltI x1.f2.f0 0) then (some (.inr 1)) else (bif (leI x1.f2.f1 x1.f2.f0) then (some (.inr 1)) else (bif (ltI 345686400000 x1.f2.f1) then (some (.inr 1)) else ((T132 x1.f4 0 1000000).bind fun x4 => (bif (!x4) then (some (.inr 1)) else ((T132 x1.f5 0 1000000).bind fun x5 => (bif (!x5) then (some (.inr 1)) else ((T132 x1.f6 0 1000000000).bind fun x6 => (bif (!x6) then (some (.inr 1)) else (some (.inl ())))))))))))))) else (bif (ltS x1.f0 z0.1 || eqS x1.f0 z0.1) then (some (.inr 7)) else (bif (ltI x1.f2.f0 0) then (some (.inr 1)) else (bif (leI x1.f2.f1 x1.f2.f0) then (some (.inr 1)) else (bif (ltI 345686400000 x1.f2.f1) then (some (.inr 1)) else ((T132 x1.f4 0 1000000).bind fun x7 => (bif (!x7) then (some (.inr 1)) else ((T132 x1.f5 0 1000000).bind fun x8 => (bif (!x8) then (some (.inr 1)) else ((T132 x1.f6 0 1000000000).bind fun x9 => (bif (!x9) then (some (.inr 1)) else (some (.inl ()))))))))))))))) : Option (Unit ⊕ Int)) (Sum.elim (fun (x : Unit) => (.normal, (mkE s_0 [(40, .box [S x1.f0, S x1.f1, I x1.f2.f0, I x1.f2.f1, LL S x1.f3, I x1.f4, I x1.f5, I x1.f6] false)] 84))) (fun (x : Int) => (.ret, (mkE [(2, I x)] [] 84)))) ?_ (fun y10 => ?_)
    · refine gB 2 ?_
      refine gS 0 ?_
      refine gR 7 (rg Try.f61 7) ?_
      refine sg 2 (mkE ((18, S x1.f0) :: ((17, .ba 40 0) :: ((3, S z0.1) :: s_0))) [(40, .box [S x1.f0, S x1.f1, I x1.f2.f0, I x1.f2.f1, LL S x1.f3, I x1.f4, I x1.f5, I x1.f6] false)] 84) ?_
      refine co 19 [] (h51 x1.f0) (fun x2 => ?_)
      refine sg 5 (mkE ((21, B (!x2)) :: ((20, B (!x2)) :: ((19, B x2) :: ((18, S x1.f0) :: ((17, .ba 40 0) :: ((3, S z0.1) :: s_0)))))) [(40, .box [S x1.f0, S x1.f1, I x1.f2.f0, I x1.f2.f1, LL S x1.f3, I x1.f4, I x1.f5, I x1.f6] false)] 84) ?_
      refine sb 21 (!x2) ?_ ?_
      · refine se (mkE ((3, S z0.1) :: (s_0.append [(16, B true)])) [(40, .box [S x1.f0, S x1.f1, I x1.f2.f0, I x1.f2.f1, LL S x1.f3, I x1.f4, I x1.f5, I x1.f6] false)] 84) ?_
        refine pN ?_
        refine pS ?_
        refine gT (.tmp 16) ?_
        refine gS 0 ?_
        refine gR 8 (rg Try.f61 8) ?_
        refine se (mkE [(2, I 5)] [] 84) ?_
        refine pN ?_
        refine pS ?_
        refine gE ?_
        exact pL
      · refine sg 9 (mkE ((25, B (!eqS x1.f1 (ByteArray.mk #[]))) :: ((24, B (!eqS x1.f1 (ByteArray.mk #[]))) :: ((23, S x1.f1) :: ((22, .ba 40 1) :: ((21, B false) :: ((21, B (!x2)) :: ((20, B (!x2)) :: ((19, B x2) :: ((18, S x1.f0) :: ((17, .ba 40 0) :: ((3, S z0.1) :: s_0))))))))))) [(40, .box [S x1.f0, S x1.f1, I x1.f2.f0, I x1.f2.f1, LL S x1.f3, I x1.f4, I x1.f5, I x1.f6] false)] 84) ?_
        refine sb 25 (!eqS x1.f1 (ByteArray.mk #[])) ?_ ?_
        · refine sg 11 (mkE ((27, S x1.f1) :: ((26, .ba 40 1) :: ((25, B true) :: ((25, B (!eqS x1.f1 (ByteArray.mk #[]))) :: ((24, B (!eqS x1.f1 (ByteArray.mk #[]))) :: ((23, S x1.f1) :: ((22, .ba 40 1) :: ((21, B false) :: ((21, B (!x2)) :: ((20, B (!x2)) :: ((19, B x2) :: ((18, S x1.f0) :: ((17, .ba 40 0) :: ((3, S z0.1) :: s_0)))))))))))))) [(40, .box [S x1.f0, S x1.f1, I x1.f2.f0, I x1.f2.f1, LL S x1.f3, I x1.f4, I x1.f5, I x1.f6] false)] 84) ?_
          refine co 28 [] (h51 x1.f1) (fun x3 => ?_)
          refine se (mkE ((3, S z0.1) :: (s_0.append [(16, B (!x3))])) [(40, .box [S x1.f0, S x1.f1, I x1.f2.f0, I x1.f2.f1, LL S x1.f3, I x1.f4, I x1.f5, I x1.f6] false)] 84) ?_
          refine pN ?_
          refine pS ?_
          refine gC 16 (!x3) ?_ ?_
          · refine gS 0 ?_
            refine gR 8 (rg Try.f61 8) ?_
            refine se (mkE [(2, I 5)] [] 84) ?_
            refine pN ?_
            refine pS ?_
            refine gE ?_
            exact pL
          · refine gS 0 ?_
            refine gR 9 (rg Try.f61 9) ?_
            refine se (mkE (s_0.append [(32, B (ltS x1.f0 z0.1 || eqS x1.f0 z0.1))]) [(40, .box [S x1.f0, S x1.f1, I x1.f2.f0, I x1.f2.f1, LL S x1.f3, I x1.f4, I x1.f5, I x1.f6] false)] 84) ?_
            refine pN ?_
            refine pS ?_
            refine gC 32 (ltS x1.f0 z0.1 || eqS x1.f0 z0.1) ?_ ?_
            · refine gS 0 ?_
              refine gR 10 (rg Try.f61 10) ?_
              refine se (mkE [(2, I 7)] [] 84) ?_
              refine pN ?_
              refine pS ?_
              refine gE ?_
              exact pL
            · refine gS 0 ?_
              refine gR 11 (rg Try.f61 11) ?_
              refine sg 5 (mkE ((42, B (ltI x1.f2.f0 0)) :: ((41, B (ltI x1.f2.f0 0)) :: ((40, I x1.f2.f0) :: (s_3.append (s_0.append [(32, B (ltS x1.f0 z0.1 || eqS x1.f0 z0.1))]))))) [(40, .box [S x1.f0, S x1.f1, I x1.f2.f0, I x1.f2.f1, LL S x1.f3, I x1.f4, I x1.f5, I x1.f6] false)] 84) ?_
              refine sb 42 (ltI x1.f2.f0 0) ?_ ?_
              · refine se (mkE (s_0.append [(37, B true)]) [(40, .box [S x1.f0, S x1.f1, I x1.f2.f0, I x1.f2.f1, LL S x1.f3, I x1.f4, I x1.f5, I x1.f6] false)] 84) ?_
                refine pN ?_
                refine pS ?_
                refine gT (.tmp 37) ?_
                refine gS 0 ?_
                refine gR 12 (rg Try.f61 12) ?_
                refine se (mkE [(2, I 1)] [] 84) ?_
                refine pN ?_
                refine pS ?_
                refine gE ?_
                exact pL
              · refine sg 14 (mkE ((51, B (leI x1.f2.f1 x1.f2.f0)) :: ((50, B (leI x1.f2.f1 x1.f2.f0)) :: ((49, B (leI x1.f2.f1 x1.f2.f0)) :: ((48, I x1.f2.f1) :: (s_4.append ((45, I x1.f2.f0) :: (s_1.append ((42, B (ltI x1.f2.f0 0)) :: ((41, B (ltI x1.f2.f0 0)) :: ((40, I x1.f2.f0) :: (s_3.append (s_0.append [(32, B (ltS x1.f0 z0.1 || eqS x1.f0 z0.1))])))))))))))) [(40, .box [S x1.f0, S x1.f1, I x1.f2.f0, I x1.f2.f1, LL S x1.f3, I x1.f4, I x1.f5, I x1.f6] false)] 84) ?_
                refine sb 51 (leI x1.f2.f1 x1.f2.f0) ?_ ?_
                · refine se (mkE (s_0.append [(37, B true)]) [(40, .box [S x1.f0, S x1.f1, I x1.f2.f0, I x1.f2.f1, LL S x1.f3, I x1.f4, I x1.f5, I x1.f6] false)] 84) ?_
                  refine pN ?_
                  refine pS ?_
                  refine gT (.tmp 37) ?_
                  refine gS 0 ?_
                  refine gR 12 (rg Try.f61 12) ?_
                  refine se (mkE [(2, I 1)] [] 84) ?_
                  refine pN ?_
                  refine pS ?_
                  refine gE ?_
                  exact pL
                · refine sg 20 (mkE ((57, B (ltI 345686400000 x1.f2.f1)) :: ((56, B (ltI 345686400000 x1.f2.f1)) :: ((55, B (ltI 345686400000 x1.f2.f1)) :: ((54, I x1.f2.f1) :: (s_2.append ((51, B (leI x1.f2.f1 x1.f2.f0)) :: ((50, B (leI x1.f2.f1 x1.f2.f0)) :: ((49, B (leI x1.f2.f1 x1.f2.f0)) :: ((48, I x1.f2.f1) :: (s_4.append ((45, I x1.f2.f0) :: (s_1.append ((42, B (ltI x1.f2.f0 0)) :: ((41, B (ltI x1.f2.f0 0)) :: ((40, I x1.f2.f0) :: (s_3.append (s_0.append [(32, B (ltS x1.f0 z0.1 || eqS x1.f0 z0.1))]))))))))))))))))) [(40, .box [S x1.f0, S x1.f1, I x1.f2.f0, I x1.f2.f1, LL S x1.f3, I x1.f4, I x1.f5, I x1.f6] false)] 84) ?_
                  refine sb 57 (ltI 345686400000 x1.f2.f1) ?_ ?_
                  · refine se (mkE (s_0.append [(37, B true)]) [(40, .box [S x1.f0, S x1.f1, I x1.f2.f0, I x1.f2.f1, LL S x1.f3, I x1.f4, I x1.f5, I x1.f6] false)] 84) ?_
                    refine pN ?_
                    refine pS ?_
                    refine gT (.tmp 37) ?_
                    refine gS 0 ?_
                    refine gR 12 (rg Try.f61 12) ?_
                    refine se (mkE [(2, I 1)] [] 84) ?_
                    refine pN ?_
                    refine pS ?_
                    refine gE ?_
                    exact pL
                  · refine sg 22 (mkE ((59, I x1.f4) :: (s_5.append ((57, B (ltI 345686400000 x1.f2.f1)) :: ((56, B (ltI 345686400000 x1.f2.f1)) :: ((55, B (ltI 345686400000 x1.f2.f1)) :: ((54, I x1.f2.f1) :: (s_2.append ((51, B (leI x1.f2.f1 x1.f2.f0)) :: ((50, B (leI x1.f2.f1 x1.f2.f0)) :: ((49, B (leI x1.f2.f1 x1.f2.f0)) :: ((48, I x1.f2.f1) :: (s_4.append ((45, I x1.f2.f0) :: (s_1.append ((42, B (ltI x1.f2.f0 0)) :: ((41, B (ltI x1.f2.f0 0)) :: ((40, I x1.f2.f0) :: (s_3.append (s_0.append [(32, B (ltS x1.f0 z0.1 || eqS x1.f0 z0.1))]))))))))))))))))))) [(40, .box [S x1.f0, S x1.f1, I x1.f2.f0, I x1.f2.f1, LL S x1.f3, I x1.f4, I x1.f5, I x1.f6] false)] 84) ?_
                    refine co 60 [] (h132 x1.f4 0 1000000) (fun x4 => ?_)
                    refine sg 26 (mkE ((63, B (!x4)) :: ((62, B (!x4)) :: ((61, B (!x4)) :: ((60, B x4) :: ((59, I x1.f4) :: (s_5.append ((57, B (ltI 345686400000 x1.f2.f1)) :: ((56, B (ltI 345686400000 x1.f2.f1)) :: ((55, B (ltI 345686400000 x1.f2.f1)) :: ((54, I x1.f2.f1) :: (s_2.append ((51, B (leI x1.f2.f1 x1.f2.f0)) :: ((50, B (leI x1.f2.f1 x1.f2.f0)) :: ((49, B (leI x1.f2.f1 x1.f2.f0)) :: ((48, I x1.f2.f1) :: (s_4.append ((45, I x1.f2.f0) :: (s_1.append ((42, B (ltI x1.f2.f0 0)) :: ((41, B (ltI x1.f2.f0 0)) :: ((40, I x1.f2.f0) :: (s_3.append (s_0.append [(32, B (ltS x1.f0 z0.1 || eqS x1.f0 z0.1))]))))))))))))))))))))))) [(40, .box [S x1.f0, S x1.f1, I x1.f2.f0, I x1.f2.f1, LL S x1.f3, I x1.f4, I x1.f5, I x1.f6] false)] 84) ?_
                    refine sb 63 (!x4) ?_ ?_
                    · refine se (mkE (s_0.append [(37, B true)]) [(40, .box [S x1.f0, S x1.f1, I x1.f2.f0, I x1.f2.f1, LL S x1.f3, I x1.f4, I x1.f5, I x1.f6] false)] 84) ?_
                      refine pN ?_
                      refine pS ?_
                      refine gT (.tmp 37) ?_
                      refine gS 0 ?_
                      refine gR 12 (rg Try.f61 12) ?_
                      refine se (mkE [(2, I 1)] [] 84) ?_
                      refine pN ?_
                      refine pS ?_
                      refine gE ?_
                      exact pL
                    · refine sg 28 (mkE ((65, I x1.f5) :: ((64, .ba 40 6) :: ((63, B false) :: ((63, B (!x4)) :: ((62, B (!x4)) :: ((61, B (!x4)) :: ((60, B x4) :: ((59, I x1.f4) :: (s_5.append ((57, B (ltI 345686400000 x1.f2.f1)) :: ((56, B (ltI 345686400000 x1.f2.f1)) :: ((55, B (ltI 345686400000 x1.f2.f1)) :: ((54, I x1.f2.f1) :: (s_2.append ((51, B (leI x1.f2.f1 x1.f2.f0)) :: ((50, B (leI x1.f2.f1 x1.f2.f0)) :: ((49, B (leI x1.f2.f1 x1.f2.f0)) :: ((48, I x1.f2.f1) :: (s_4.append ((45, I x1.f2.f0) :: (s_1.append ((42, B (ltI x1.f2.f0 0)) :: ((41, B (ltI x1.f2.f0 0)) :: ((40, I x1.f2.f0) :: (s_3.append (s_0.append [(32, B (ltS x1.f0 z0.1 || eqS x1.f0 z0.1))])))))))))))))))))))))))))) [(40, .box [S x1.f0, S x1.f1, I x1.f2.f0, I x1.f2.f1, LL S x1.f3, I x1.f4, I x1.f5, I x1.f6] false)] 84) ?_
                      refine co 66 [] (h132 x1.f5 0 1000000) (fun x5 => ?_)
                      refine sg 32 (mkE ((69, B (!x5)) :: ((68, B (!x5)) :: ((67, B (!x5)) :: ((66, B x5) :: ((65, I x1.f5) :: ((64, .ba 40 6) :: ((63, B false) :: ((63, B (!x4)) :: ((62, B (!x4)) :: ((61, B (!x4)) :: ((60, B x4) :: ((59, I x1.f4) :: (s_5.append ((57, B (ltI 345686400000 x1.f2.f1)) :: ((56, B (ltI 345686400000 x1.f2.f1)) :: ((55, B (ltI 345686400000 x1.f2.f1)) :: ((54, I x1.f2.f1) :: (s_2.append ((51, B (leI x1.f2.f1 x1.f2.f0)) :: ((50, B (leI x1.f2.f1 x1.f2.f0)) :: ((49, B (leI x1.f2.f1 x1.f2.f0)) :: ((48, I x1.f2.f1) :: (s_4.append ((45, I x1.f2.f0) :: (s_1.append ((42, B (ltI x1.f2.f0 0)) :: ((41, B (ltI x1.f2.f0 0)) :: ((40, I x1.f2.f0) :: (s_3.append (s_0.append [(32, B (ltS x1.f0 z0.1 || eqS x1.f0 z0.1))])))))))))))))))))))))))))))))) [(40, .box [S x1.f0, S x1.f1, I x1.f2.f0, I x1.f2.f1, LL S x1.f3, I x1.f4, I x1.f5, I x1.f6] false)] 84) ?_
                      refine sb 69 (!x5) ?_ ?_
                      · refine se (mkE (s_0.append [(37, B true)]) [(40, .box [S x1.f0, S x1.f1, I x1.f2.f0, I x1.f2.f1, LL S x1.f3, I x1.f4, I x1.f5, I x1.f6] false)] 84) ?_
                        refine pN ?_
                        refine pS ?_
                        refine gT (.tmp 37) ?_
                        refine gS 0 ?_
                        refine gR 12 (rg Try.f61 12) ?_
                        refine se (mkE [(2, I 1)] [] 84) ?_
                        refine pN ?_
                        refine pS ?_
                        refine gE ?_
                        exact pL
                      · refine sg 34 (mkE ((71, I x1.f6) :: ((70, .ba 40 7) :: ((69, B false) :: ((69, B (!x5)) :: ((68, B (!x5)) :: ((67, B (!x5)) :: ((66, B x5) :: ((65, I x1.f5) :: ((64, .ba 40 6) :: ((63, B false) :: ((63, B (!x4)) :: ((62, B (!x4)) :: ((61, B (!x4)) :: ((60, B x4) :: ((59, I x1.f4) :: (s_5.append ((57, B (ltI 345686400000 x1.f2.f1)) :: ((56, B (ltI 345686400000 x1.f2.f1)) :: ((55, B (ltI 345686400000 x1.f2.f1)) :: ((54, I x1.f2.f1) :: (s_2.append ((51, B (leI x1.f2.f1 x1.f2.f0)) :: ((50, B (leI x1.f2.f1 x1.f2.f0)) :: ((49, B (leI x1.f2.f1 x1.f2.f0)) :: ((48, I x1.f2.f1) :: (s_4.append ((45, I x1.f2.f0) :: (s_1.append ((42, B (ltI x1.f2.f0 0)) :: ((41, B (ltI x1.f2.f0 0)) :: ((40, I x1.f2.f0) :: (s_3.append (s_0.append [(32, B (ltS x1.f0 z0.1 || eqS x1.f0 z0.1))]))))))))))))))))))))))))))))))))) [(40, .box [S x1.f0, S x1.f1, I x1.f2.f0, I x1.f2.f1, LL S x1.f3, I x1.f4, I x1.f5, I x1.f6] false)] 84) ?_
                        refine co 72 [] (h132 x1.f6 0 1000000000) (fun x6 => ?_)
                        refine se (mkE (s_0.append [(37, B (!x6))]) [(40, .box [S x1.f0, S x1.f1, I x1.f2.f0, I x1.f2.f1, LL S x1.f3, I x1.f4, I x1.f5, I x1.f6] false)] 84) ?_
                        refine pN ?_
                        refine pS ?_
                        refine gC 37 (!x6) ?_ ?_
                        · refine gS 0 ?_
                          refine gR 12 (rg Try.f61 12) ?_
                          refine se (mkE [(2, I 1)] [] 84) ?_
                          refine pN ?_
                          refine pS ?_
                          refine gE ?_
                          exact pL
                        · refine gK ?_
                          refine pB ?_
                          refine pG (mkE s_0 [(40, .box [S x1.f0, S x1.f1, I x1.f2.f0, I x1.f2.f1, LL S x1.f3, I x1.f4, I x1.f5, I x1.f6] false)] 84) ?_
                          exact pL
        · refine se (mkE ((3, S z0.1) :: (s_0.append [(16, B false)])) [(40, .box [S x1.f0, S x1.f1, I x1.f2.f0, I x1.f2.f1, LL S x1.f3, I x1.f4, I x1.f5, I x1.f6] false)] 84) ?_
          refine pN ?_
          refine pS ?_
          refine gF (.tmp 16) ?_
          refine gS 0 ?_
          refine gR 9 (rg Try.f61 9) ?_
          refine se (mkE (s_0.append [(32, B (ltS x1.f0 z0.1 || eqS x1.f0 z0.1))]) [(40, .box [S x1.f0, S x1.f1, I x1.f2.f0, I x1.f2.f1, LL S x1.f3, I x1.f4, I x1.f5, I x1.f6] false)] 84) ?_
          refine pN ?_
          refine pS ?_
          refine gC 32 (ltS x1.f0 z0.1 || eqS x1.f0 z0.1) ?_ ?_
          · refine gS 0 ?_
            refine gR 10 (rg Try.f61 10) ?_
            refine se (mkE [(2, I 7)] [] 84) ?_
            refine pN ?_
            refine pS ?_
            refine gE ?_
            exact pL
          · refine gS 0 ?_
            refine gR 11 (rg Try.f61 11) ?_
            refine sg 5 (mkE ((42, B (ltI x1.f2.f0 0)) :: ((41, B (ltI x1.f2.f0 0)) :: ((40, I x1.f2.f0) :: (s_3.append (s_0.append [(32, B (ltS x1.f0 z0.1 || eqS x1.f0 z0.1))]))))) [(40, .box [S x1.f0, S x1.f1, I x1.f2.f0, I x1.f2.f1, LL S x1.f3, I x1.f4, I x1.f5, I x1.f6] false)] 84) ?_
            refine sb 42 (ltI x1.f2.f0 0) ?_ ?_
            · refine se (mkE (s_0.append [(37, B true)]) [(40, .box [S x1.f0, S x1.f1, I x1.f2.f0, I x1.f2.f1, LL S x1.f3, I x1.f4, I x1.f5, I x1.f6] false)] 84) ?_
              refine pN ?_
              refine pS ?_
              refine gT (.tmp 37) ?_
              refine gS 0 ?_
              refine gR 12 (rg Try.f61 12) ?_
              refine se (mkE [(2, I 1)] [] 84) ?_
              refine pN ?_
              refine pS ?_
              refine gE ?_
              exact pL
            · refine sg 14 (mkE ((51, B (leI x1.f2.f1 x1.f2.f0)) :: ((50, B (leI x1.f2.f1 x1.f2.f0)) :: ((49, B (leI x1.f2.f1 x1.f2.f0)) :: ((48, I x1.f2.f1) :: (s_4.append ((45, I x1.f2.f0) :: (s_1.append ((42, B (ltI x1.f2.f0 0)) :: ((41, B (ltI x1.f2.f0 0)) :: ((40, I x1.f2.f0) :: (s_3.append (s_0.append [(32, B (ltS x1.f0 z0.1 || eqS x1.f0 z0.1))])))))))))))) [(40, .box [S x1.f0, S x1.f1, I x1.f2.f0, I x1.f2.f1, LL S x1.f3, I x1.f4, I x1.f5, I x1.f6] false)] 84) ?_
              refine sb 51 (leI x1.f2.f1 x1.f2.f0) ?_ ?_
              · refine se (mkE (s_0.append [(37, B true)]) [(40, .box [S x1.f0, S x1.f1, I x1.f2.f0, I x1.f2.f1, LL S x1.f3, I x1.f4, I x1.f5, I x1.f6] false)] 84) ?_
                refine pN ?_
                refine pS ?_
                refine gT (.tmp 37) ?_
                refine gS 0 ?_
                refine gR 12 (rg Try.f61 12) ?_
                refine se (mkE [(2, I 1)] [] 84) ?_
                refine pN ?_
                refine pS ?_
                refine gE ?_
                exact pL
              · refine sg 20 (mkE ((57, B (ltI 345686400000 x1.f2.f1)) :: ((56, B (ltI 345686400000 x1.f2.f1)) :: ((55, B (ltI 345686400000 x1.f2.f1)) :: ((54, I x1.f2.f1) :: (s_2.append ((51, B (leI x1.f2.f1 x1.f2.f0)) :: ((50, B (leI x1.f2.f1 x1.f2.f0)) :: ((49, B (leI x1.f2.f1 x1.f2.f0)) :: ((48, I x1.f2.f1) :: (s_4.append ((45, I x1.f2.f0) :: (s_1.append ((42, B (ltI x1.f2.f0 0)) :: ((41, B (ltI x1.f2.f0 0)) :: ((40, I x1.f2.f0) :: (s_3.append (s_0.append [(32, B (ltS x1.f0 z0.1 || eqS x1.f0 z0.1))]))))))))))))))))) [(40, .box [S x1.f0, S x1.f1, I x1.f2.f0, I x1.f2.f1, LL S x1.f3, I x1.f4, I x1.f5, I x1.f6] false)] 84) ?_
                refine sb 57 (ltI 345686400000 x1.f2.f1) ?_ ?_
                · refine se (mkE (s_0.append [(37, B true)]) [(40, .box [S x1.f0, S x1.f1, I x1.f2.f0, I x1.f2.f1, LL S x1.f3, I x1.f4, I x1.f5, I x1.f6] false)] 84) ?_
                  refine pN ?_
                  refine pS ?_
                  refine gT (.tmp 37) ?_
                  refine gS 0 ?_
                  refine gR 12 (rg Try.f61 12) ?_
                  refine se (mkE [(2, I 1)] [] 84) ?_
                  refine pN ?_
                  refine pS ?_
                  refine gE ?_
                  exact pL
                · refine sg 22 (mkE ((59, I x1.f4) :: (s_5.append ((57, B (ltI 345686400000 x1.f2.f1)) :: ((56, B (ltI 345686400000 x1.f2.f1)) :: ((55, B (ltI 345686400000 x1.f2.f1)) :: ((54, I x1.f2.f1) :: (s_2.append ((51, B (leI x1.f2.f1 x1.f2.f0)) :: ((50, B (leI x1.f2.f1 x1.f2.f0)) :: ((49, B (leI x1.f2.f1 x1.f2.f0)) :: ((48, I x1.f2.f1) :: (s_4.append ((45, I x1.f2.f0) :: (s_1.append ((42, B (ltI x1.f2.f0 0)) :: ((41, B (ltI x1.f2.f0 0)) :: ((40, I x1.f2.f0) :: (s_3.append (s_0.append [(32, B (ltS x1.f0 z0.1 || eqS x1.f0 z0.1))]))))))))))))))))))) [(40, .box [S x1.f0, S x1.f1, I x1.f2.f0, I x1.f2.f1, LL S x1.f3, I x1.f4, I x1.f5, I x1.f6] false)] 84) ?_
                  refine co 60 [] (h132 x1.f4 0 1000000) (fun x7 => ?_)
                  refine sg 26 (mkE ((63, B (!x7)) :: ((62, B (!x7)) :: ((61, B (!x7)) :: ((60, B x7) :: ((59, I x1.f4) :: (s_5.append ((57, B (ltI 345686400000 x1.f2.f1)) :: ((56, B (ltI 345686400000 x1.f2.f1)) :: ((55, B (ltI 345686400000 x1.f2.f1)) :: ((54, I x1.f2.f1) :: (s_2.append ((51, B (leI x1.f2.f1 x1.f2.f0)) :: ((50, B (leI x1.f2.f1 x1.f2.f0)) :: ((49, B (leI x1.f2.f1 x1.f2.f0)) :: ((48, I x1.f2.f1) :: (s_4.append ((45, I x1.f2.f0) :: (s_1.append ((42, B (ltI x1.f2.f0 0)) :: ((41, B (ltI x1.f2.f0 0)) :: ((40, I x1.f2.f0) :: (s_3.append (s_0.append [(32, B (ltS x1.f0 z0.1 || eqS x1.f0 z0.1))]))))))))))))))))))))))) [(40, .box [S x1.f0, S x1.f1, I x1.f2.f0, I x1.f2.f1, LL S x1.f3, I x1.f4, I x1.f5, I x1.f6] false)] 84) ?_
                  refine sb 63 (!x7) ?_ ?_
                  · refine se (mkE (s_0.append [(37, B true)]) [(40, .box [S x1.f0, S x1.f1, I x1.f2.f0, I x1.f2.f1, LL S x1.f3, I x1.f4, I x1.f5, I x1.f6] false)] 84) ?_
                    refine pN ?_
                    refine pS ?_
                    refine gT (.tmp 37) ?_
                    refine gS 0 ?_
                    refine gR 12 (rg Try.f61 12) ?_
                    refine se (mkE [(2, I 1)] [] 84) ?_
                    refine pN ?_
                    refine pS ?_
                    refine gE ?_
                    exact pL
                  · refine sg 28 (mkE ((65, I x1.f5) :: ((64, .ba 40 6) :: ((63, B false) :: ((63, B (!x7)) :: ((62, B (!x7)) :: ((61, B (!x7)) :: ((60, B x7) :: ((59, I x1.f4) :: (s_5.append ((57, B (ltI 345686400000 x1.f2.f1)) :: ((56, B (ltI 345686400000 x1.f2.f1)) :: ((55, B (ltI 345686400000 x1.f2.f1)) :: ((54, I x1.f2.f1) :: (s_2.append ((51, B (leI x1.f2.f1 x1.f2.f0)) :: ((50, B (leI x1.f2.f1 x1.f2.f0)) :: ((49, B (leI x1.f2.f1 x1.f2.f0)) :: ((48, I x1.f2.f1) :: (s_4.append ((45, I x1.f2.f0) :: (s_1.append ((42, B (ltI x1.f2.f0 0)) :: ((41, B (ltI x1.f2.f0 0)) :: ((40, I x1.f2.f0) :: (s_3.append (s_0.append [(32, B (ltS x1.f0 z0.1 || eqS x1.f0 z0.1))])))))))))))))))))))))))))) [(40, .box [S x1.f0, S x1.f1, I x1.f2.f0, I x1.f2.f1, LL S x1.f3, I x1.f4, I x1.f5, I x1.f6] false)] 84) ?_
                    refine co 66 [] (h132 x1.f5 0 1000000) (fun x8 => ?_)
                    refine sg 32 (mkE ((69, B (!x8)) :: ((68, B (!x8)) :: ((67, B (!x8)) :: ((66, B x8) :: ((65, I x1.f5) :: ((64, .ba 40 6) :: ((63, B false) :: ((63, B (!x7)) :: ((62, B (!x7)) :: ((61, B (!x7)) :: ((60, B x7) :: ((59, I x1.f4) :: (s_5.append ((57, B (ltI 345686400000 x1.f2.f1)) :: ((56, B (ltI 345686400000 x1.f2.f1)) :: ((55, B (ltI 345686400000 x1.f2.f1)) :: ((54, I x1.f2.f1) :: (s_2.append ((51, B (leI x1.f2.f1 x1.f2.f0)) :: ((50, B (leI x1.f2.f1 x1.f2.f0)) :: ((49, B (leI x1.f2.f1 x1.f2.f0)) :: ((48, I x1.f2.f1) :: (s_4.append ((45, I x1.f2.f0) :: (s_1.append ((42, B (ltI x1.f2.f0 0)) :: ((41, B (ltI x1.f2.f0 0)) :: ((40, I x1.f2.f0) :: (s_3.append (s_0.append [(32, B (ltS x1.f0 z0.1 || eqS x1.f0 z0.1))])))))))))))))))))))))))))))))) [(40, .box [S x1.f0, S x1.f1, I x1.f2.f0, I x1.f2.f1, LL S x1.f3, I x1.f4, I x1.f5, I x1.f6] false)] 84) ?_
                    refine sb 69 (!x8) ?_ ?_
                    · refine se (mkE (s_0.append [(37, B true)]) [(40, .box [S x1.f0, S x1.f1, I x1.f2.f0, I x1.f2.f1, LL S x1.f3, I x1.f4, I x1.f5, I x1.f6] false)] 84) ?_
                      refine pN ?_
                      refine pS ?_
                      refine gT (.tmp 37) ?_
                      refine gS 0 ?_
                      refine gR 12 (rg Try.f61 12) ?_
                      refine se (mkE [(2, I 1)] [] 84) ?_
                      refine pN ?_
                      refine pS ?_
                      refine gE ?_
                      exact pL
                    · refine sg 34 (mkE ((71, I x1.f6) :: ((70, .ba 40 7) :: ((69, B false) :: ((69, B (!x8)) :: ((68, B (!x8)) :: ((67, B (!x8)) :: ((66, B x8) :: ((65, I x1.f5) :: ((64, .ba 40 6) :: ((63, B false) :: ((63, B (!x7)) :: ((62, B (!x7)) :: ((61, B (!x7)) :: ((60, B x7) :: ((59, I x1.f4) :: (s_5.append ((57, B (ltI 345686400000 x1.f2.f1)) :: ((56, B (ltI 345686400000 x1.f2.f1)) :: ((55, B (ltI 345686400000 x1.f2.f1)) :: ((54, I x1.f2.f1) :: (s_2.append ((51, B (leI x1.f2.f1 x1.f2.f0)) :: ((50, B (leI x1.f2.f1 x1.f2.f0)) :: ((49, B (leI x1.f2.f1 x1.f2.f0)) :: ((48, I x1.f2.f1) :: (s_4.append ((45, I x1.f2.f0) :: (s_1.append ((42, B (ltI x1.f2.f0 0)) :: ((41, B (ltI x1.f2.f0 0)) :: ((40, I x1.f2.f0) :: (s_3.append (s_0.append [(32, B (ltS x1.f0 z0.1 || eqS x1.f0 z0.1))]))))))))))))))))))))))))))))))))) [(40, .box [S x1.f0, S x1.f1, I x1.f2.f0, I x1.f2.f1, LL S x1.f3, I x1.f4, I x1.f5, I x1.f6] false)] 84) ?_
                      refine co 72 [] (h132 x1.f6 0 1000000000) (fun x9 => ?_)
                      refine se (mkE (s_0.append [(37, B (!x9))]) [(40, .box [S x1.f0, S x1.f1, I x1.f2.f0, I x1.f2.f1, LL S x1.f3, I x1.f4, I x1.f5, I x1.f6] false)] 84) ?_
                      refine pN ?_
                      refine pS ?_
                      refine gC 37 (!x9) ?_ ?_
                      · refine gS 0 ?_
                        refine gR 12 (rg Try.f61 12) ?_
                        refine se (mkE [(2, I 1)] [] 84) ?_
                        refine pN ?_
                        refine pS ?_
                        refine gE ?_
                        exact pL
                      · refine gK ?_
                        refine pB ?_
                        refine pG (mkE s_0 [(40, .box [S x1.f0, S x1.f1, I x1.f2.f0, I x1.f2.f1, LL S x1.f3, I x1.f4, I x1.f5, I x1.f6] false)] 84) ?_
                        exact pL
    refine ss y10 (Z := (Sum.elim (fun (x : Unit) => (.normal, (mkE s_0 [(40, .box [S x1.f0, S x1.f1, I x1.f2.f0, I x1.f2.f1, LL S x1.f3, I x1.f4, I x1.f5, I x1.f6] false)] 84))) (fun (x : Int) => (.ret, (mkE [(2, I x)] [] 84))))) (fun y10a => ?_) (fun y10b => ?_)
    · refine pS ?_
      refine gS 14 ?_
      refine gR 13 (rg Try.f61 13) ?_
      refine se (mkE ((3, S x1.f0) :: s_0) [(40, .box [S x1.f0, S x1.f1, I x1.f2.f0, I x1.f2.f1, LL S x1.f3, I x1.f4, I x1.f5, I x1.f6] false)] 84) ?_
      refine pN ?_
      refine pS ?_
      refine gS 15 ?_
      refine gR 14 (rg Try.f61 14) ?_
      refine sg 2 (mkE ((78, LL S x1.f3) :: ((77, .ba 40 4) :: ((3, S x1.f0) :: s_0))) [(40, .box [S x1.f0, S x1.f1, I x1.f2.f0, I x1.f2.f1, LL S x1.f3, I x1.f4, I x1.f5, I x1.f6] false)] 84) ?_
      refine co 79 [] (h149 x1.f3) (fun x11 => ?_)
      refine se (mkE [(3, S x1.f0), (6, I x11), (10, LL a53 p0), (11, I (lenL p0)), (12, I z0.2)] [] 84) ?_
      refine pN ?_
      refine pS ?_
      refine gS 0 ?_
      refine gR 15 (rg Try.f61 15) ?_
      refine se (mkE [(3, S x1.f0), (6, I x11), (10, LL a53 p0), (11, I (lenL p0)), (12, I z0.2), (81, B (neI x11 0))] [] 84) ?_
      refine pN ?_
      refine pS ?_
      refine gC 81 (neI x11 0) ?_ ?_
      · refine gS 0 ?_
        refine gR 16 (rg Try.f61 16) ?_
        refine se (mkE [(2, I x11)] [] 84) ?_
        refine pN ?_
        refine pS ?_
        refine gE ?_
        exact pL
      · refine gK ?_
        refine pB ?_
        refine pN ?_
        refine pS ?_
        refine gR 17 (rg Try.f61 17) ?_
        refine se (mkE [(3, S x1.f0), (10, LL a53 p0), (11, I (lenL p0)), (12, I (addI .i64 z0.2 1))] [] 84) ?_
        exact pL
    · exact pL
  · refine gX 0 ?_
    exact pL
noncomputable def T61 (p0 : (List S53)) : Option Int := (bif (ltI 30 (lenL p0)) then (some 2) else ((iter (L61_5 p0) ((ByteArray.mk #[]), 0)).bind fun y12 => (Sum.elim (fun y12a => (some 0)) (fun y12b => (some y12b)) y12)))
theorem B61 (C : Callee) (h132 : ∀ (p0 : Int) (p1 : Int) (p2 : Int), C 132 [I p0, I p1, I p2] = (T132 p0 p1 p2).map B) (h149 : ∀ (p0 : (List ByteArray)), C 149 [LL S p0] = (T149 p0).map I) (h51 : ∀ (p0 : ByteArray), C 51 [S p0] = (T51 p0).map B) (p0 : (List S53)) : runs Try.prog C (cfg.fn 61) (finFn Try.prog (cfg.fn 61).byval Try.f61) [] (execA Try.prog C (cfg.fn 61) (nr Try.f61 []) (frame0 [LL a53 p0] 84 false)) = (T61 p0).map I := by
  unfold T61
  refine gS 1 ?_
  refine gR 0 (rg Try.f61 0) ?_
  refine se (mkE [(0, LL a53 p0)] [] 84) ?_
  refine pN ?_
  refine pS ?_
  refine gS 3 ?_
  refine gS 0 ?_
  refine gR 1 (rg Try.f61 1) ?_
  refine sg 1 (mkE [(7, LL a53 p0), (0, LL a53 p0)] [] 84) ?_
  refine eo 8 (I (lenL p0)) (lenE 29 a53 p0) ?_
  refine se (mkE [(0, LL a53 p0), (9, B (ltI 30 (lenL p0)))] [] 84) ?_
  refine pN ?_
  refine pS ?_
  refine gC 9 (ltI 30 (lenL p0)) ?_ ?_
  · refine gS 0 ?_
    refine gR 2 (rg Try.f61 2) ?_
    refine se (mkE [(2, I 2)] [] 84) ?_
    refine pN ?_
    refine pS ?_
    refine gE ?_
    exact pL
  · refine gK ?_
    refine pN ?_
    refine pS ?_
    refine gS 4 ?_
    refine gR 3 (rg Try.f61 3) ?_
    refine se (mkE [(0, LL a53 p0), (3, S (ByteArray.mk #[]))] [] 84) ?_
    refine pN ?_
    refine pS ?_
    refine gS 18 ?_
    refine gS 5 ?_
    refine gR 4 (rg Try.f61 4) ?_
    refine sg 1 (mkE [(10, LL a53 p0), (0, LL a53 p0), (3, S (ByteArray.mk #[]))] [] 84) ?_
    refine eo 11 (I (lenL p0)) (lenE 29 a53 p0) ?_
    refine se (mkE [(3, S (ByteArray.mk #[])), (10, LL a53 p0), (11, I (lenL p0)), (12, I 0)] [] 84) ?_
    refine pN ?_
    refine pS ?_
    refine gB 0 ?_
    refine lo [(3, none), (10, none), (11, none), (12, none)] [] (L61_5 p0) (fun z0 : (ByteArray × Int) => (mkE [(3, S z0.1), (10, LL a53 p0), (11, I (lenL p0)), (12, I z0.2)] [] 84)) (Sum.elim (fun (x : (ByteArray × Int × Bool)) => (.exit 0, (mkE [(3, S x.1), (10, LL a53 p0), (11, I (lenL p0)), (12, I x.2.1), (13, B x.2.2)] [] 84))) (fun (x : Int) => (.ret, (mkE [(2, I x)] [] 84)))) ((ByteArray.mk #[]), 0) (fun z => L61_5_ok C h132 h149 h51 p0 z) ?_
    intro y12
    refine ss y12 (Z := (Sum.elim (fun (x : (ByteArray × Int × Bool)) => (.exit 0, (mkE [(3, S x.1), (10, LL a53 p0), (11, I (lenL p0)), (12, I x.2.1), (13, B x.2.2)] [] 84))) (fun (x : Int) => (.ret, (mkE [(2, I x)] [] 84))))) (fun y12a => ?_) (fun y12b => ?_)
    · refine pH ?_
      refine pN ?_
      refine pS ?_
      refine gS 0 ?_
      refine gR 18 (rg Try.f61 18) ?_
      refine se (mkE [(2, I 0)] [] 84) ?_
      refine pN ?_
      refine pS ?_
      refine gE ?_
      exact pL
    · exact pL
theorem F61 (m : Nat) (hm : 7 ≤ m) (p0 : (List S53)) : callA Try.prog cfg m 61 [LL a53 p0] = (T61 p0).map I := by
  obtain ⟨q, rfl⟩ : ∃ q, m = q + 1 := ⟨m - 1, by omega⟩
  exact (callA_body (fn := Try.f61) (c := body_ Try.f61) q _ (by kernel_rfl) (by kernel_rfl) (by kernel_rfl)).trans (B61 _ (fun p0 p1 p2 => F132 q (by omega) p0 p1 p2) (fun p0 => F149 q (by omega) p0) (fun p0 => F51 q (by omega) p0) p0)

noncomputable def L49_2 (p0 : (List Int)) (z0 : Int) : Option (Int ⊕ ((Int × Bool) ⊕ Int)) := (bif (ltI z0 (lenL p0)) then ((listAt p0 z0).bind fun x1 => (bif (neI x1 0) then (some (.inr (.inr x1))) else (some (.inl (addI .i64 z0 1))))) else (some (.inr (.inl (z0, (ltI z0 (lenL p0)))))))
theorem L49_2_ok (C : Callee) (p0 : (List Int)) (z0 : Int) : runs Try.prog C (cfg.fn 49) (finLoop ((cfg.fn 49).keep 2) ((cfg.fn 49).al 2)) [] (execA Try.prog C (cfg.fn 49) (nr Try.f49 [false, false, true, false, true]) ((fun z0 : Int => (mkE [(5, LL I p0), (6, I (lenL p0)), (7, I z0)] [] 15)) z0)) = (L49_2 p0 z0).map (Sum.elim (fun z => .inl ((fun z0 : Int => (mkE [(5, LL I p0), (6, I (lenL p0)), (7, I z0)] [] 15)) z)) (fun x => .inr ((Sum.elim (fun (x : (Int × Bool)) => (.exit 0, (mkE [(5, LL I p0), (6, I (lenL p0)), (7, I x.1), (8, B x.2)] [] 15))) (fun (x : Int) => (.ret, (mkE [(2, I x)] [] 15)))) x))) := by
  unfold L49_2
  refine gS 0 ?_
  refine gR 2 (rg Try.f49 2) ?_
  refine se (mkE [(5, LL I p0), (6, I (lenL p0)), (7, I z0), (8, B (ltI z0 (lenL p0)))] [] 15) ?_
  refine pN ?_
  refine pS ?_
  refine gS 3 ?_
  refine gC 8 (ltI z0 (lenL p0)) ?_ ?_
  · refine gK ?_
    refine pN ?_
    refine pS ?_
    refine gS 6 ?_
    refine gB 1 ?_
    refine gS 4 ?_
    refine gR 3 (rg Try.f49 3) ?_
    refine vo 9 (addrE 189 69 1 I .i64 p0 z0) (fun x1 => ?_)
    refine se (mkE [(4, I x1), (5, LL I p0), (6, I (lenL p0)), (7, I z0)] [] 15) ?_
    refine pN ?_
    refine pS ?_
    refine gS 0 ?_
    refine gR 4 (rg Try.f49 4) ?_
    refine se (mkE [(4, I x1), (5, LL I p0), (6, I (lenL p0)), (7, I z0), (12, B (neI x1 0))] [] 15) ?_
    refine pN ?_
    refine pS ?_
    refine gC 12 (neI x1 0) ?_ ?_
    · refine gS 0 ?_
      refine gR 5 (rg Try.f49 5) ?_
      refine se (mkE [(2, I x1)] [] 15) ?_
      refine pN ?_
      refine pS ?_
      refine gE ?_
      exact pL
    · refine gK ?_
      refine pB ?_
      refine pN ?_
      refine pS ?_
      refine gR 6 (rg Try.f49 6) ?_
      refine se (mkE [(5, LL I p0), (6, I (lenL p0)), (7, I (addI .i64 z0 1))] [] 15) ?_
      exact pL
  · refine gX 0 ?_
    exact pL
noncomputable def T49 (p0 : (List Int)) : Option Int := ((iter (L49_2 p0) 0).bind fun y2 => (Sum.elim (fun y2a => (some 0)) (fun y2b => (some y2b)) y2))
theorem B49 (C : Callee) (p0 : (List Int)) : runs Try.prog C (cfg.fn 49) (finFn Try.prog (cfg.fn 49).byval Try.f49) [] (execA Try.prog C (cfg.fn 49) (nr Try.f49 []) (frame0 [LL I p0] 15 false)) = (T49 p0).map I := by
  unfold T49
  refine gS 1 ?_
  refine gR 0 (rg Try.f49 0) ?_
  refine se (mkE [(0, LL I p0)] [] 15) ?_
  refine pN ?_
  refine pS ?_
  refine gS 7 ?_
  refine gS 2 ?_
  refine gR 1 (rg Try.f49 1) ?_
  refine sg 1 (mkE [(5, LL I p0), (0, LL I p0)] [] 15) ?_
  refine eo 6 (I (lenL p0)) (lenE 189 I p0) ?_
  refine se (mkE [(5, LL I p0), (6, I (lenL p0)), (7, I 0)] [] 15) ?_
  refine pN ?_
  refine pS ?_
  refine gB 0 ?_
  refine lo [(5, none), (6, none), (7, none)] [] (L49_2 p0) (fun z0 : Int => (mkE [(5, LL I p0), (6, I (lenL p0)), (7, I z0)] [] 15)) (Sum.elim (fun (x : (Int × Bool)) => (.exit 0, (mkE [(5, LL I p0), (6, I (lenL p0)), (7, I x.1), (8, B x.2)] [] 15))) (fun (x : Int) => (.ret, (mkE [(2, I x)] [] 15)))) 0 (fun z => L49_2_ok C p0 z) ?_
  intro y2
  refine ss y2 (Z := (Sum.elim (fun (x : (Int × Bool)) => (.exit 0, (mkE [(5, LL I p0), (6, I (lenL p0)), (7, I x.1), (8, B x.2)] [] 15))) (fun (x : Int) => (.ret, (mkE [(2, I x)] [] 15))))) (fun y2a => ?_) (fun y2b => ?_)
  · refine pH ?_
    refine pN ?_
    refine pS ?_
    refine gS 0 ?_
    refine gR 7 (rg Try.f49 7) ?_
    refine se (mkE [(2, I 0)] [] 15) ?_
    refine pN ?_
    refine pS ?_
    refine gE ?_
    exact pL
  · exact pL
theorem F49 (m : Nat) (hm : 1 ≤ m) (p0 : (List Int)) : callA Try.prog cfg m 49 [LL I p0] = (T49 p0).map I := by
  obtain ⟨q, rfl⟩ : ∃ q, m = q + 1 := ⟨m - 1, by omega⟩
  exact (callA_body (fn := Try.f49) (c := body_ Try.f49) q _ (by kernel_rfl) (by kernel_rfl) (by kernel_rfl)).trans (B49 _ p0)

noncomputable def T167 (p0 : S53) (p1_c0 : ByteArray) (p1_c1 : ByteArray) (p1_c2 : Int) : Option Bool := (some (eqS p0.f0 p1_c0))
theorem B167 (C : Callee) (p0 : S53) (p1_c0 : ByteArray) (p1_c1 : ByteArray) (p1_c2 : Int) : runs Try.prog C (cfg.fn 167) (finFn Try.prog (cfg.fn 167).byval Try.f167) [] (execA Try.prog C (cfg.fn 167) (nr Try.f167 []) (frame0 [a53 p0, .ia [S p1_c0, S p1_c1, I p1_c2] 0] 9 false)) = (T167 p0 p1_c0 p1_c1 p1_c2).map B := by
  unfold T167
  refine gS 1 ?_
  refine gR 0 (rg Try.f167 0) ?_
  refine se (mkE [(1, .ia [S p1_c0, S p1_c1, I p1_c2] 0), (2, .ba 16 0)] [(16, .box [S p0.f0, S p0.f1, I p0.f2.f0, I p0.f2.f1, LL S p0.f3, I p0.f4, I p0.f5, I p0.f6] false)] 9) ?_
  refine pN ?_
  refine pS ?_
  refine gS 0 ?_
  refine gR 1 (rg Try.f167 1) ?_
  refine se (mkE [(3, B (eqS p0.f0 p1_c0))] [] 9) ?_
  refine pN ?_
  refine pS ?_
  refine gE ?_
  exact pL
theorem F167 (m : Nat) (hm : 1 ≤ m) (p0 : S53) (p1_c0 : ByteArray) (p1_c1 : ByteArray) (p1_c2 : Int) : callA Try.prog cfg m 167 [a53 p0, .ia [S p1_c0, S p1_c1, I p1_c2] 0] = (T167 p0 p1_c0 p1_c1 p1_c2).map B := by
  obtain ⟨q, rfl⟩ : ∃ q, m = q + 1 := ⟨m - 1, by omega⟩
  exact (callA_body (fn := Try.f167) (c := body_ Try.f167) q _ (by kernel_rfl) (by kernel_rfl) (by kernel_rfl)).trans (B167 _ p0 p1_c0 p1_c1 p1_c2)

noncomputable def L166_2 (p0 : (List S53)) (p1_c0 : ByteArray) (p1_c1 : ByteArray) (p1_c2 : Int) (z0 : Int) : Option (Int ⊕ ((Int × Bool) ⊕ Int)) := (bif (ltI z0 (lenL p0)) then ((listAt p0 z0).bind fun x1 => ((T167 x1 p1_c0 p1_c1 p1_c2).bind fun x2 => (bif x2 then (some (.inr (.inr z0))) else (some (.inl (addI .i64 z0 1)))))) else (some (.inr (.inl (z0, (ltI z0 (lenL p0)))))))
theorem L166_2_ok (C : Callee) (h167 : ∀ (p0 : S53) (p1_c0 : ByteArray) (p1_c1 : ByteArray) (p1_c2 : Int), C 167 [a53 p0, .ia [S p1_c0, S p1_c1, I p1_c2] 0] = (T167 p0 p1_c0 p1_c1 p1_c2).map B) (p0 : (List S53)) (p1_c0 : ByteArray) (p1_c1 : ByteArray) (p1_c2 : Int) (z0 : Int) : runs Try.prog C (cfg.fn 166) (finLoop ((cfg.fn 166).keep 2) ((cfg.fn 166).al 2)) [] (execA Try.prog C (cfg.fn 166) (nr Try.f166 [false, false, true, false, true]) ((fun z0 : Int => (mkE [(0, LL a53 p0), (1, .fn 167 [.ia [S p1_c0, S p1_c1, I p1_c2] 0]), (7, I (lenL p0)), (8, I z0)] [] 19)) z0)) = (L166_2 p0 p1_c0 p1_c1 p1_c2 z0).map (Sum.elim (fun z => .inl ((fun z0 : Int => (mkE [(0, LL a53 p0), (1, .fn 167 [.ia [S p1_c0, S p1_c1, I p1_c2] 0]), (7, I (lenL p0)), (8, I z0)] [] 19)) z)) (fun x => .inr ((Sum.elim (fun (x : (Int × Bool)) => (.exit 0, (mkE [(0, LL a53 p0), (1, .fn 167 [.ia [S p1_c0, S p1_c1, I p1_c2] 0]), (7, I (lenL p0)), (8, I x.1), (9, B x.2)] [] 19))) (fun (x : Int) => (.ret, (mkE [(4, I x)] [] 19)))) x))) := by
  unfold L166_2
  let s_0 : List (Nat × AV) := [(0, LL a53 p0), (1, .fn 167 [.ia [S p1_c0, S p1_c1, I p1_c2] 0]), (5, I z0), (7, I (lenL p0)), (8, I z0)]
  refine gS 0 ?_
  refine gR 2 (rg Try.f166 2) ?_
  refine se (mkE [(0, LL a53 p0), (1, .fn 167 [.ia [S p1_c0, S p1_c1, I p1_c2] 0]), (7, I (lenL p0)), (8, I z0), (9, B (ltI z0 (lenL p0)))] [] 19) ?_
  refine pN ?_
  refine pS ?_
  refine gS 3 ?_
  refine gC 9 (ltI z0 (lenL p0)) ?_ ?_
  · refine gK ?_
    refine pN ?_
    refine pS ?_
    refine gS 6 ?_
    refine gB 1 ?_
    refine gS 4 ?_
    refine gR 3 (rg Try.f166 3) ?_
    refine se (mkE s_0 [] 19) ?_
    refine pN ?_
    refine pS ?_
    refine gS 0 ?_
    refine gR 4 (rg Try.f166 4) ?_
    refine sg 3 (mkE ((13, I z0) :: ((12, LL a53 p0) :: ((11, .fn 167 [.ia [S p1_c0, S p1_c1, I p1_c2] 0]) :: s_0))) [] 19) ?_
    refine vo 14 (addrE 29 54 8 a53 .i64 p0 z0) (fun x1 => ?_)
    refine sg 5 (mkE ((15, a53 x1) :: ((14, .ia [S x1.f0, S x1.f1, I x1.f2.f0, I x1.f2.f1, LL S x1.f3, I x1.f4, I x1.f5, I x1.f6] 0) :: ((13, I z0) :: ((12, LL a53 p0) :: ((11, .fn 167 [.ia [S p1_c0, S p1_c1, I p1_c2] 0]) :: s_0))))) [] 19) ?_
    refine co 16 [] (h167 x1 p1_c0 p1_c1 p1_c2) (fun x2 => ?_)
    refine se (mkE (s_0.append [(16, B x2)]) [] 19) ?_
    refine pN ?_
    refine pS ?_
    refine gC 16 x2 ?_ ?_
    · refine gS 0 ?_
      refine gR 5 (rg Try.f166 5) ?_
      refine se (mkE [(4, I z0)] [] 19) ?_
      refine pN ?_
      refine pS ?_
      refine gE ?_
      exact pL
    · refine gK ?_
      refine pB ?_
      refine pN ?_
      refine pS ?_
      refine gR 6 (rg Try.f166 6) ?_
      refine se (mkE [(0, LL a53 p0), (1, .fn 167 [.ia [S p1_c0, S p1_c1, I p1_c2] 0]), (7, I (lenL p0)), (8, I (addI .i64 z0 1))] [] 19) ?_
      exact pL
  · refine gX 0 ?_
    exact pL
noncomputable def T166 (p0 : (List S53)) (p1_c0 : ByteArray) (p1_c1 : ByteArray) (p1_c2 : Int) : Option Int := ((iter (L166_2 p0 p1_c0 p1_c1 p1_c2) 0).bind fun y3 => (Sum.elim (fun y3a => (some (-1))) (fun y3b => (some y3b)) y3))
theorem B166 (C : Callee) (h167 : ∀ (p0 : S53) (p1_c0 : ByteArray) (p1_c1 : ByteArray) (p1_c2 : Int), C 167 [a53 p0, .ia [S p1_c0, S p1_c1, I p1_c2] 0] = (T167 p0 p1_c0 p1_c1 p1_c2).map B) (p0 : (List S53)) (p1_c0 : ByteArray) (p1_c1 : ByteArray) (p1_c2 : Int) : runs Try.prog C (cfg.fn 166) (finFn Try.prog (cfg.fn 166).byval Try.f166) [] (execA Try.prog C (cfg.fn 166) (nr Try.f166 []) (frame0 [LL a53 p0, .fn 167 [.ia [S p1_c0, S p1_c1, I p1_c2] 0]] 19 false)) = (T166 p0 p1_c0 p1_c1 p1_c2).map I := by
  unfold T166
  let s_0 : List (Nat × AV) := [(0, LL a53 p0), (1, .fn 167 [.ia [S p1_c0, S p1_c1, I p1_c2] 0])]
  refine gS 1 ?_
  refine gR 0 (rg Try.f166 0) ?_
  refine se (mkE s_0 [] 19) ?_
  refine pN ?_
  refine pS ?_
  refine gS 7 ?_
  refine gS 2 ?_
  refine gR 1 (rg Try.f166 1) ?_
  refine sg 1 (mkE ((6, LL a53 p0) :: s_0) [] 19) ?_
  refine eo 7 (I (lenL p0)) (lenE 29 a53 p0) ?_
  refine se (mkE (s_0.append ((7, I (lenL p0)) :: [(8, I 0)])) [] 19) ?_
  refine pN ?_
  refine pS ?_
  refine gB 0 ?_
  refine lo [(0, none), (1, none), (7, none), (8, none)] [] (L166_2 p0 p1_c0 p1_c1 p1_c2) (fun z0 : Int => (mkE (s_0.append ((7, I (lenL p0)) :: [(8, I z0)])) [] 19)) (Sum.elim (fun (x : (Int × Bool)) => (.exit 0, (mkE (s_0.append ((7, I (lenL p0)) :: ((8, I x.1) :: [(9, B x.2)]))) [] 19))) (fun (x : Int) => (.ret, (mkE [(4, I x)] [] 19)))) 0 (fun z => L166_2_ok C h167 p0 p1_c0 p1_c1 p1_c2 z) ?_
  intro y3
  refine ss y3 (Z := (Sum.elim (fun (x : (Int × Bool)) => (.exit 0, (mkE (s_0.append ((7, I (lenL p0)) :: ((8, I x.1) :: [(9, B x.2)]))) [] 19))) (fun (x : Int) => (.ret, (mkE [(4, I x)] [] 19))))) (fun y3a => ?_) (fun y3b => ?_)
  · refine pH ?_
    refine pN ?_
    refine pS ?_
    refine gS 0 ?_
    refine gR 7 (rg Try.f166 7) ?_
    refine se (mkE [(4, I (-1))] [] 19) ?_
    refine pN ?_
    refine pS ?_
    refine gE ?_
    exact pL
  · exact pL
theorem F166 (m : Nat) (hm : 2 ≤ m) (p0 : (List S53)) (p1_c0 : ByteArray) (p1_c1 : ByteArray) (p1_c2 : Int) : callA Try.prog cfg m 166 [LL a53 p0, .fn 167 [.ia [S p1_c0, S p1_c1, I p1_c2] 0]] = (T166 p0 p1_c0 p1_c1 p1_c2).map I := by
  obtain ⟨q, rfl⟩ : ∃ q, m = q + 1 := ⟨m - 1, by omega⟩
  exact (callA_body (fn := Try.f166) (c := body_ Try.f166) q _ (by kernel_rfl) (by kernel_rfl) (by kernel_rfl)).trans (B166 _ (fun p0 p1_c0 p1_c1 p1_c2 => F167 q (by omega) p0 p1_c0 p1_c1 p1_c2) p0 p1_c0 p1_c1 p1_c2)

noncomputable def T169 (p0 : S90) (p1_c0 : ByteArray) (p1_c1 : ByteArray) (p1_c2 : Int) : Option Bool := (some (eqS p0.f0 p1_c1))
theorem B169 (C : Callee) (p0 : S90) (p1_c0 : ByteArray) (p1_c1 : ByteArray) (p1_c2 : Int) : runs Try.prog C (cfg.fn 169) (finFn Try.prog (cfg.fn 169).byval Try.f169) [] (execA Try.prog C (cfg.fn 169) (nr Try.f169 []) (frame0 [a90 p0, .ia [S p1_c0, S p1_c1, I p1_c2] 0] 9 false)) = (T169 p0 p1_c0 p1_c1 p1_c2).map B := by
  unfold T169
  refine gS 1 ?_
  refine gR 0 (rg Try.f169 0) ?_
  refine se (mkE [(1, .ia [S p1_c0, S p1_c1, I p1_c2] 0), (2, .ba 16 0)] [(16, .box [S p0.f0, I p0.f1.f0, I p0.f1.f1, I p0.f2, LL S p0.f3] false)] 9) ?_
  refine pN ?_
  refine pS ?_
  refine gS 0 ?_
  refine gR 1 (rg Try.f169 1) ?_
  refine se (mkE [(3, B (eqS p0.f0 p1_c1))] [] 9) ?_
  refine pN ?_
  refine pS ?_
  refine gE ?_
  exact pL
theorem F169 (m : Nat) (hm : 1 ≤ m) (p0 : S90) (p1_c0 : ByteArray) (p1_c1 : ByteArray) (p1_c2 : Int) : callA Try.prog cfg m 169 [a90 p0, .ia [S p1_c0, S p1_c1, I p1_c2] 0] = (T169 p0 p1_c0 p1_c1 p1_c2).map B := by
  obtain ⟨q, rfl⟩ : ∃ q, m = q + 1 := ⟨m - 1, by omega⟩
  exact (callA_body (fn := Try.f169) (c := body_ Try.f169) q _ (by kernel_rfl) (by kernel_rfl) (by kernel_rfl)).trans (B169 _ p0 p1_c0 p1_c1 p1_c2)

noncomputable def L168_2 (p0 : (List S90)) (p1_c0 : ByteArray) (p1_c1 : ByteArray) (p1_c2 : Int) (z0 : Int) : Option (Int ⊕ ((Int × Bool) ⊕ Int)) := (bif (ltI z0 (lenL p0)) then ((listAt p0 z0).bind fun x1 => ((T169 x1 p1_c0 p1_c1 p1_c2).bind fun x2 => (bif x2 then (some (.inr (.inr z0))) else (some (.inl (addI .i64 z0 1)))))) else (some (.inr (.inl (z0, (ltI z0 (lenL p0)))))))
theorem L168_2_ok (C : Callee) (h169 : ∀ (p0 : S90) (p1_c0 : ByteArray) (p1_c1 : ByteArray) (p1_c2 : Int), C 169 [a90 p0, .ia [S p1_c0, S p1_c1, I p1_c2] 0] = (T169 p0 p1_c0 p1_c1 p1_c2).map B) (p0 : (List S90)) (p1_c0 : ByteArray) (p1_c1 : ByteArray) (p1_c2 : Int) (z0 : Int) : runs Try.prog C (cfg.fn 168) (finLoop ((cfg.fn 168).keep 2) ((cfg.fn 168).al 2)) [] (execA Try.prog C (cfg.fn 168) (nr Try.f168 [false, false, true, false, true]) ((fun z0 : Int => (mkE [(0, LL a90 p0), (1, .fn 169 [.ia [S p1_c0, S p1_c1, I p1_c2] 0]), (7, I (lenL p0)), (8, I z0)] [] 19)) z0)) = (L168_2 p0 p1_c0 p1_c1 p1_c2 z0).map (Sum.elim (fun z => .inl ((fun z0 : Int => (mkE [(0, LL a90 p0), (1, .fn 169 [.ia [S p1_c0, S p1_c1, I p1_c2] 0]), (7, I (lenL p0)), (8, I z0)] [] 19)) z)) (fun x => .inr ((Sum.elim (fun (x : (Int × Bool)) => (.exit 0, (mkE [(0, LL a90 p0), (1, .fn 169 [.ia [S p1_c0, S p1_c1, I p1_c2] 0]), (7, I (lenL p0)), (8, I x.1), (9, B x.2)] [] 19))) (fun (x : Int) => (.ret, (mkE [(4, I x)] [] 19)))) x))) := by
  unfold L168_2
  let s_0 : List (Nat × AV) := [(0, LL a90 p0), (1, .fn 169 [.ia [S p1_c0, S p1_c1, I p1_c2] 0]), (5, I z0), (7, I (lenL p0)), (8, I z0)]
  refine gS 0 ?_
  refine gR 2 (rg Try.f168 2) ?_
  refine se (mkE [(0, LL a90 p0), (1, .fn 169 [.ia [S p1_c0, S p1_c1, I p1_c2] 0]), (7, I (lenL p0)), (8, I z0), (9, B (ltI z0 (lenL p0)))] [] 19) ?_
  refine pN ?_
  refine pS ?_
  refine gS 3 ?_
  refine gC 9 (ltI z0 (lenL p0)) ?_ ?_
  · refine gK ?_
    refine pN ?_
    refine pS ?_
    refine gS 6 ?_
    refine gB 1 ?_
    refine gS 4 ?_
    refine gR 3 (rg Try.f168 3) ?_
    refine se (mkE s_0 [] 19) ?_
    refine pN ?_
    refine pS ?_
    refine gS 0 ?_
    refine gR 4 (rg Try.f168 4) ?_
    refine sg 3 (mkE ((13, I z0) :: ((12, LL a90 p0) :: ((11, .fn 169 [.ia [S p1_c0, S p1_c1, I p1_c2] 0]) :: s_0))) [] 19) ?_
    refine vo 14 (addrE 28 91 5 a90 .i64 p0 z0) (fun x1 => ?_)
    refine sg 5 (mkE ((15, a90 x1) :: ((14, .ia [S x1.f0, I x1.f1.f0, I x1.f1.f1, I x1.f2, LL S x1.f3] 0) :: ((13, I z0) :: ((12, LL a90 p0) :: ((11, .fn 169 [.ia [S p1_c0, S p1_c1, I p1_c2] 0]) :: s_0))))) [] 19) ?_
    refine co 16 [] (h169 x1 p1_c0 p1_c1 p1_c2) (fun x2 => ?_)
    refine se (mkE (s_0.append [(16, B x2)]) [] 19) ?_
    refine pN ?_
    refine pS ?_
    refine gC 16 x2 ?_ ?_
    · refine gS 0 ?_
      refine gR 5 (rg Try.f168 5) ?_
      refine se (mkE [(4, I z0)] [] 19) ?_
      refine pN ?_
      refine pS ?_
      refine gE ?_
      exact pL
    · refine gK ?_
      refine pB ?_
      refine pN ?_
      refine pS ?_
      refine gR 6 (rg Try.f168 6) ?_
      refine se (mkE [(0, LL a90 p0), (1, .fn 169 [.ia [S p1_c0, S p1_c1, I p1_c2] 0]), (7, I (lenL p0)), (8, I (addI .i64 z0 1))] [] 19) ?_
      exact pL
  · refine gX 0 ?_
    exact pL
noncomputable def T168 (p0 : (List S90)) (p1_c0 : ByteArray) (p1_c1 : ByteArray) (p1_c2 : Int) : Option Int := ((iter (L168_2 p0 p1_c0 p1_c1 p1_c2) 0).bind fun y3 => (Sum.elim (fun y3a => (some (-1))) (fun y3b => (some y3b)) y3))
theorem B168 (C : Callee) (h169 : ∀ (p0 : S90) (p1_c0 : ByteArray) (p1_c1 : ByteArray) (p1_c2 : Int), C 169 [a90 p0, .ia [S p1_c0, S p1_c1, I p1_c2] 0] = (T169 p0 p1_c0 p1_c1 p1_c2).map B) (p0 : (List S90)) (p1_c0 : ByteArray) (p1_c1 : ByteArray) (p1_c2 : Int) : runs Try.prog C (cfg.fn 168) (finFn Try.prog (cfg.fn 168).byval Try.f168) [] (execA Try.prog C (cfg.fn 168) (nr Try.f168 []) (frame0 [LL a90 p0, .fn 169 [.ia [S p1_c0, S p1_c1, I p1_c2] 0]] 19 false)) = (T168 p0 p1_c0 p1_c1 p1_c2).map I := by
  unfold T168
  let s_0 : List (Nat × AV) := [(0, LL a90 p0), (1, .fn 169 [.ia [S p1_c0, S p1_c1, I p1_c2] 0])]
  refine gS 1 ?_
  refine gR 0 (rg Try.f168 0) ?_
  refine se (mkE s_0 [] 19) ?_
  refine pN ?_
  refine pS ?_
  refine gS 7 ?_
  refine gS 2 ?_
  refine gR 1 (rg Try.f168 1) ?_
  refine sg 1 (mkE ((6, LL a90 p0) :: s_0) [] 19) ?_
  refine eo 7 (I (lenL p0)) (lenE 28 a90 p0) ?_
  refine se (mkE (s_0.append ((7, I (lenL p0)) :: [(8, I 0)])) [] 19) ?_
  refine pN ?_
  refine pS ?_
  refine gB 0 ?_
  refine lo [(0, none), (1, none), (7, none), (8, none)] [] (L168_2 p0 p1_c0 p1_c1 p1_c2) (fun z0 : Int => (mkE (s_0.append ((7, I (lenL p0)) :: [(8, I z0)])) [] 19)) (Sum.elim (fun (x : (Int × Bool)) => (.exit 0, (mkE (s_0.append ((7, I (lenL p0)) :: ((8, I x.1) :: [(9, B x.2)]))) [] 19))) (fun (x : Int) => (.ret, (mkE [(4, I x)] [] 19)))) 0 (fun z => L168_2_ok C h169 p0 p1_c0 p1_c1 p1_c2 z) ?_
  intro y3
  refine ss y3 (Z := (Sum.elim (fun (x : (Int × Bool)) => (.exit 0, (mkE (s_0.append ((7, I (lenL p0)) :: ((8, I x.1) :: [(9, B x.2)]))) [] 19))) (fun (x : Int) => (.ret, (mkE [(4, I x)] [] 19))))) (fun y3a => ?_) (fun y3b => ?_)
  · refine pH ?_
    refine pN ?_
    refine pS ?_
    refine gS 0 ?_
    refine gR 7 (rg Try.f168 7) ?_
    refine se (mkE [(4, I (-1))] [] 19) ?_
    refine pN ?_
    refine pS ?_
    refine gE ?_
    exact pL
  · exact pL
theorem F168 (m : Nat) (hm : 2 ≤ m) (p0 : (List S90)) (p1_c0 : ByteArray) (p1_c1 : ByteArray) (p1_c2 : Int) : callA Try.prog cfg m 168 [LL a90 p0, .fn 169 [.ia [S p1_c0, S p1_c1, I p1_c2] 0]] = (T168 p0 p1_c0 p1_c1 p1_c2).map I := by
  obtain ⟨q, rfl⟩ : ∃ q, m = q + 1 := ⟨m - 1, by omega⟩
  exact (callA_body (fn := Try.f168) (c := body_ Try.f168) q _ (by kernel_rfl) (by kernel_rfl) (by kernel_rfl)).trans (B168 _ (fun p0 p1_c0 p1_c1 p1_c2 => F169 q (by omega) p0 p1_c0 p1_c1 p1_c2) p0 p1_c0 p1_c1 p1_c2)

noncomputable def L229_2 (p0 : (List ByteArray)) (p1 : ByteArray) (z0 : Int) : Option (Int ⊕ ((Int × Bool) ⊕ Int)) := (bif (ltI z0 (lenL p0)) then ((listAt p0 z0).bind fun x1 => (bif (eqS p1 x1) then (some (.inr (.inr z0))) else (some (.inl (addI .i64 z0 1))))) else (some (.inr (.inl (z0, (ltI z0 (lenL p0)))))))
theorem L229_2_ok (C : Callee) (p0 : (List ByteArray)) (p1 : ByteArray) (z0 : Int) : runs Try.prog C (cfg.fn 229) (finLoop ((cfg.fn 229).keep 2) ((cfg.fn 229).al 2)) [] (execA Try.prog C (cfg.fn 229) (nr Try.f229 [false, false, true, false, true]) ((fun z0 : Int => (mkE [(0, LL S p0), (1, S p1), (7, I (lenL p0)), (8, I z0)] [] 19)) z0)) = (L229_2 p0 p1 z0).map (Sum.elim (fun z => .inl ((fun z0 : Int => (mkE [(0, LL S p0), (1, S p1), (7, I (lenL p0)), (8, I z0)] [] 19)) z)) (fun x => .inr ((Sum.elim (fun (x : (Int × Bool)) => (.exit 0, (mkE [(0, LL S p0), (1, S p1), (7, I (lenL p0)), (8, I x.1), (9, B x.2)] [] 19))) (fun (x : Int) => (.ret, (mkE [(4, I x)] [] 19)))) x))) := by
  unfold L229_2
  refine gS 0 ?_
  refine gR 2 (rg Try.f229 2) ?_
  refine se (mkE [(0, LL S p0), (1, S p1), (7, I (lenL p0)), (8, I z0), (9, B (ltI z0 (lenL p0)))] [] 19) ?_
  refine pN ?_
  refine pS ?_
  refine gS 3 ?_
  refine gC 9 (ltI z0 (lenL p0)) ?_ ?_
  · refine gK ?_
    refine pN ?_
    refine pS ?_
    refine gS 6 ?_
    refine gB 1 ?_
    refine gS 4 ?_
    refine gR 3 (rg Try.f229 3) ?_
    refine se (mkE [(0, LL S p0), (1, S p1), (5, I z0), (7, I (lenL p0)), (8, I z0)] [] 19) ?_
    refine pN ?_
    refine pS ?_
    refine gS 0 ?_
    refine gR 4 (rg Try.f229 4) ?_
    refine sg 3 (mkE [(13, I z0), (12, LL S p0), (11, S p1), (0, LL S p0), (1, S p1), (5, I z0), (7, I (lenL p0)), (8, I z0)] [] 19) ?_
    refine vo 14 (addrE 35 9 1 S .i64 p0 z0) (fun x1 => ?_)
    refine se (mkE [(0, LL S p0), (1, S p1), (5, I z0), (7, I (lenL p0)), (8, I z0), (16, B (eqS p1 x1))] [] 19) ?_
    refine pN ?_
    refine pS ?_
    refine gC 16 (eqS p1 x1) ?_ ?_
    · refine gS 0 ?_
      refine gR 5 (rg Try.f229 5) ?_
      refine se (mkE [(4, I z0)] [] 19) ?_
      refine pN ?_
      refine pS ?_
      refine gE ?_
      exact pL
    · refine gK ?_
      refine pB ?_
      refine pN ?_
      refine pS ?_
      refine gR 6 (rg Try.f229 6) ?_
      refine se (mkE [(0, LL S p0), (1, S p1), (7, I (lenL p0)), (8, I (addI .i64 z0 1))] [] 19) ?_
      exact pL
  · refine gX 0 ?_
    exact pL
noncomputable def T229 (p0 : (List ByteArray)) (p1 : ByteArray) : Option Int := ((iter (L229_2 p0 p1) 0).bind fun y2 => (Sum.elim (fun y2a => (some (-1))) (fun y2b => (some y2b)) y2))
theorem B229 (C : Callee) (p0 : (List ByteArray)) (p1 : ByteArray) : runs Try.prog C (cfg.fn 229) (finFn Try.prog (cfg.fn 229).byval Try.f229) [] (execA Try.prog C (cfg.fn 229) (nr Try.f229 []) (frame0 [LL S p0, S p1] 19 false)) = (T229 p0 p1).map I := by
  unfold T229
  refine gS 1 ?_
  refine gR 0 (rg Try.f229 0) ?_
  refine se (mkE [(0, LL S p0), (1, S p1)] [] 19) ?_
  refine pN ?_
  refine pS ?_
  refine gS 7 ?_
  refine gS 2 ?_
  refine gR 1 (rg Try.f229 1) ?_
  refine sg 1 (mkE [(6, LL S p0), (0, LL S p0), (1, S p1)] [] 19) ?_
  refine eo 7 (I (lenL p0)) (lenE 35 S p0) ?_
  refine se (mkE [(0, LL S p0), (1, S p1), (7, I (lenL p0)), (8, I 0)] [] 19) ?_
  refine pN ?_
  refine pS ?_
  refine gB 0 ?_
  refine lo [(0, none), (1, none), (7, none), (8, none)] [] (L229_2 p0 p1) (fun z0 : Int => (mkE [(0, LL S p0), (1, S p1), (7, I (lenL p0)), (8, I z0)] [] 19)) (Sum.elim (fun (x : (Int × Bool)) => (.exit 0, (mkE [(0, LL S p0), (1, S p1), (7, I (lenL p0)), (8, I x.1), (9, B x.2)] [] 19))) (fun (x : Int) => (.ret, (mkE [(4, I x)] [] 19)))) 0 (fun z => L229_2_ok C p0 p1 z) ?_
  intro y2
  refine ss y2 (Z := (Sum.elim (fun (x : (Int × Bool)) => (.exit 0, (mkE [(0, LL S p0), (1, S p1), (7, I (lenL p0)), (8, I x.1), (9, B x.2)] [] 19))) (fun (x : Int) => (.ret, (mkE [(4, I x)] [] 19))))) (fun y2a => ?_) (fun y2b => ?_)
  · refine pH ?_
    refine pN ?_
    refine pS ?_
    refine gS 0 ?_
    refine gR 7 (rg Try.f229 7) ?_
    refine se (mkE [(4, I (-1))] [] 19) ?_
    refine pN ?_
    refine pS ?_
    refine gE ?_
    exact pL
  · exact pL
theorem F229 (m : Nat) (hm : 1 ≤ m) (p0 : (List ByteArray)) (p1 : ByteArray) : callA Try.prog cfg m 229 [LL S p0, S p1] = (T229 p0 p1).map I := by
  obtain ⟨q, rfl⟩ : ∃ q, m = q + 1 := ⟨m - 1, by omega⟩
  exact (callA_body (fn := Try.f229) (c := body_ Try.f229) q _ (by kernel_rfl) (by kernel_rfl) (by kernel_rfl)).trans (B229 _ p0 p1)

noncomputable def T154 (p0 : (List ByteArray)) (p1 : ByteArray) : Option Bool := ((T229 p0 p1).bind fun x1 => (some (leI 0 x1)))
theorem B154 (C : Callee) (h229 : ∀ (p0 : (List ByteArray)) (p1 : ByteArray), C 229 [LL S p0, S p1] = (T229 p0 p1).map I) (p0 : (List ByteArray)) (p1 : ByteArray) : runs Try.prog C (cfg.fn 154) (finFn Try.prog (cfg.fn 154).byval Try.f154) [] (execA Try.prog C (cfg.fn 154) (nr Try.f154 []) (frame0 [LL S p0, S p1] 9 false)) = (T154 p0 p1).map B := by
  unfold T154
  refine gS 1 ?_
  refine gR 0 (rg Try.f154 0) ?_
  refine se (mkE [(0, LL S p0), (1, S p1)] [] 9) ?_
  refine pN ?_
  refine pS ?_
  refine gS 0 ?_
  refine gR 1 (rg Try.f154 1) ?_
  refine sg 2 (mkE [(6, S p1), (5, LL S p0), (0, LL S p0), (1, S p1)] [] 9) ?_
  refine co 7 [] (h229 p0 p1) (fun x1 => ?_)
  refine se (mkE [(4, B (leI 0 x1))] [] 9) ?_
  refine pN ?_
  refine pS ?_
  refine gE ?_
  exact pL
theorem F154 (m : Nat) (hm : 2 ≤ m) (p0 : (List ByteArray)) (p1 : ByteArray) : callA Try.prog cfg m 154 [LL S p0, S p1] = (T154 p0 p1).map B := by
  obtain ⟨q, rfl⟩ : ∃ q, m = q + 1 := ⟨m - 1, by omega⟩
  exact (callA_body (fn := Try.f154) (c := body_ Try.f154) q _ (by kernel_rfl) (by kernel_rfl) (by kernel_rfl)).trans (B154 _ (fun p0 p1 => F229 q (by omega) p0 p1) p0 p1)

noncomputable def T153 (p0 : ByteArray) (p1_c0 : ByteArray) (p1_c1 : Int) (p1_c2 : Int) (p1_c3 : Int) (p1_c4 : (List ByteArray)) : Option Bool := ((T154 p1_c4 p0).bind fun x1 => (some (!x1)))
theorem B153 (C : Callee) (h154 : ∀ (p0 : (List ByteArray)) (p1 : ByteArray), C 154 [LL S p0, S p1] = (T154 p0 p1).map B) (p0 : ByteArray) (p1_c0 : ByteArray) (p1_c1 : Int) (p1_c2 : Int) (p1_c3 : Int) (p1_c4 : (List ByteArray)) : runs Try.prog C (cfg.fn 153) (finFn Try.prog (cfg.fn 153).byval Try.f153) [] (execA Try.prog C (cfg.fn 153) (nr Try.f153 []) (frame0 [S p0, .ia [S p1_c0, I p1_c1, I p1_c2, I p1_c3, LL S p1_c4] 0] 9 false)) = (T153 p0 p1_c0 p1_c1 p1_c2 p1_c3 p1_c4).map B := by
  unfold T153
  refine gS 1 ?_
  refine gR 0 (rg Try.f153 0) ?_
  refine se (mkE [(0, S p0), (1, .ia [S p1_c0, I p1_c1, I p1_c2, I p1_c3, LL S p1_c4] 0)] [] 9) ?_
  refine pN ?_
  refine pS ?_
  refine gS 0 ?_
  refine gR 1 (rg Try.f153 1) ?_
  refine sg 3 (mkE [(6, S p0), (5, LL S p1_c4), (4, .ia [S p1_c0, I p1_c1, I p1_c2, I p1_c3, LL S p1_c4] 4), (0, S p0), (1, .ia [S p1_c0, I p1_c1, I p1_c2, I p1_c3, LL S p1_c4] 0)] [] 9) ?_
  refine co 7 [] (h154 p1_c4 p0) (fun x1 => ?_)
  refine se (mkE [(3, B (!x1))] [] 9) ?_
  refine pN ?_
  refine pS ?_
  refine gE ?_
  exact pL
theorem F153 (m : Nat) (hm : 3 ≤ m) (p0 : ByteArray) (p1_c0 : ByteArray) (p1_c1 : Int) (p1_c2 : Int) (p1_c3 : Int) (p1_c4 : (List ByteArray)) : callA Try.prog cfg m 153 [S p0, .ia [S p1_c0, I p1_c1, I p1_c2, I p1_c3, LL S p1_c4] 0] = (T153 p0 p1_c0 p1_c1 p1_c2 p1_c3 p1_c4).map B := by
  obtain ⟨q, rfl⟩ : ∃ q, m = q + 1 := ⟨m - 1, by omega⟩
  exact (callA_body (fn := Try.f153) (c := body_ Try.f153) q _ (by kernel_rfl) (by kernel_rfl) (by kernel_rfl)).trans (B153 _ (fun p0 p1 => F154 q (by omega) p0 p1) p0 p1_c0 p1_c1 p1_c2 p1_c3 p1_c4)

noncomputable def L228_2 (p0 : (List ByteArray)) (p1_c0 : ByteArray) (p1_c1 : Int) (p1_c2 : Int) (p1_c3 : Int) (p1_c4 : (List ByteArray)) (z0 : Int) : Option (Int ⊕ ((Int × Bool) ⊕ Int)) := (bif (ltI z0 (lenL p0)) then ((listAt p0 z0).bind fun x1 => ((T153 x1 p1_c0 p1_c1 p1_c2 p1_c3 p1_c4).bind fun x2 => (bif x2 then (some (.inr (.inr z0))) else (some (.inl (addI .i64 z0 1)))))) else (some (.inr (.inl (z0, (ltI z0 (lenL p0)))))))
theorem L228_2_ok (C : Callee) (h153 : ∀ (p0 : ByteArray) (p1_c0 : ByteArray) (p1_c1 : Int) (p1_c2 : Int) (p1_c3 : Int) (p1_c4 : (List ByteArray)), C 153 [S p0, .ia [S p1_c0, I p1_c1, I p1_c2, I p1_c3, LL S p1_c4] 0] = (T153 p0 p1_c0 p1_c1 p1_c2 p1_c3 p1_c4).map B) (p0 : (List ByteArray)) (p1_c0 : ByteArray) (p1_c1 : Int) (p1_c2 : Int) (p1_c3 : Int) (p1_c4 : (List ByteArray)) (z0 : Int) : runs Try.prog C (cfg.fn 228) (finLoop ((cfg.fn 228).keep 2) ((cfg.fn 228).al 2)) [] (execA Try.prog C (cfg.fn 228) (nr Try.f228 [false, false, true, false, true]) ((fun z0 : Int => (mkE [(0, LL S p0), (1, .fn 153 [.ia [S p1_c0, I p1_c1, I p1_c2, I p1_c3, LL S p1_c4] 0]), (7, I (lenL p0)), (8, I z0)] [] 19)) z0)) = (L228_2 p0 p1_c0 p1_c1 p1_c2 p1_c3 p1_c4 z0).map (Sum.elim (fun z => .inl ((fun z0 : Int => (mkE [(0, LL S p0), (1, .fn 153 [.ia [S p1_c0, I p1_c1, I p1_c2, I p1_c3, LL S p1_c4] 0]), (7, I (lenL p0)), (8, I z0)] [] 19)) z)) (fun x => .inr ((Sum.elim (fun (x : (Int × Bool)) => (.exit 0, (mkE [(0, LL S p0), (1, .fn 153 [.ia [S p1_c0, I p1_c1, I p1_c2, I p1_c3, LL S p1_c4] 0]), (7, I (lenL p0)), (8, I x.1), (9, B x.2)] [] 19))) (fun (x : Int) => (.ret, (mkE [(4, I x)] [] 19)))) x))) := by
  unfold L228_2
  let s_0 : List (Nat × AV) := [(0, LL S p0), (1, .fn 153 [.ia [S p1_c0, I p1_c1, I p1_c2, I p1_c3, LL S p1_c4] 0])]
  refine gS 0 ?_
  refine gR 2 (rg Try.f228 2) ?_
  refine se (mkE (s_0.append ((7, I (lenL p0)) :: ((8, I z0) :: [(9, B (ltI z0 (lenL p0)))]))) [] 19) ?_
  refine pN ?_
  refine pS ?_
  refine gS 3 ?_
  refine gC 9 (ltI z0 (lenL p0)) ?_ ?_
  · refine gK ?_
    refine pN ?_
    refine pS ?_
    refine gS 6 ?_
    refine gB 1 ?_
    refine gS 4 ?_
    refine gR 3 (rg Try.f228 3) ?_
    refine se (mkE (s_0.append ((5, I z0) :: ((7, I (lenL p0)) :: [(8, I z0)]))) [] 19) ?_
    refine pN ?_
    refine pS ?_
    refine gS 0 ?_
    refine gR 4 (rg Try.f228 4) ?_
    refine sg 3 (mkE ((13, I z0) :: ((12, LL S p0) :: ((11, .fn 153 [.ia [S p1_c0, I p1_c1, I p1_c2, I p1_c3, LL S p1_c4] 0]) :: (s_0.append ((5, I z0) :: ((7, I (lenL p0)) :: [(8, I z0)])))))) [] 19) ?_
    refine vo 14 (addrE 35 9 1 S .i64 p0 z0) (fun x1 => ?_)
    refine sg 5 (mkE ((15, S x1) :: ((14, .ia [S x1] 0) :: ((13, I z0) :: ((12, LL S p0) :: ((11, .fn 153 [.ia [S p1_c0, I p1_c1, I p1_c2, I p1_c3, LL S p1_c4] 0]) :: (s_0.append ((5, I z0) :: ((7, I (lenL p0)) :: [(8, I z0)])))))))) [] 19) ?_
    refine co 16 [] (h153 x1 p1_c0 p1_c1 p1_c2 p1_c3 p1_c4) (fun x2 => ?_)
    refine se (mkE (s_0.append ((5, I z0) :: ((7, I (lenL p0)) :: ((8, I z0) :: [(16, B x2)])))) [] 19) ?_
    refine pN ?_
    refine pS ?_
    refine gC 16 x2 ?_ ?_
    · refine gS 0 ?_
      refine gR 5 (rg Try.f228 5) ?_
      refine se (mkE [(4, I z0)] [] 19) ?_
      refine pN ?_
      refine pS ?_
      refine gE ?_
      exact pL
    · refine gK ?_
      refine pB ?_
      refine pN ?_
      refine pS ?_
      refine gR 6 (rg Try.f228 6) ?_
      refine se (mkE (s_0.append ((7, I (lenL p0)) :: [(8, I (addI .i64 z0 1))])) [] 19) ?_
      exact pL
  · refine gX 0 ?_
    exact pL
noncomputable def T228 (p0 : (List ByteArray)) (p1_c0 : ByteArray) (p1_c1 : Int) (p1_c2 : Int) (p1_c3 : Int) (p1_c4 : (List ByteArray)) : Option Int := ((iter (L228_2 p0 p1_c0 p1_c1 p1_c2 p1_c3 p1_c4) 0).bind fun y3 => (Sum.elim (fun y3a => (some (-1))) (fun y3b => (some y3b)) y3))
theorem B228 (C : Callee) (h153 : ∀ (p0 : ByteArray) (p1_c0 : ByteArray) (p1_c1 : Int) (p1_c2 : Int) (p1_c3 : Int) (p1_c4 : (List ByteArray)), C 153 [S p0, .ia [S p1_c0, I p1_c1, I p1_c2, I p1_c3, LL S p1_c4] 0] = (T153 p0 p1_c0 p1_c1 p1_c2 p1_c3 p1_c4).map B) (p0 : (List ByteArray)) (p1_c0 : ByteArray) (p1_c1 : Int) (p1_c2 : Int) (p1_c3 : Int) (p1_c4 : (List ByteArray)) : runs Try.prog C (cfg.fn 228) (finFn Try.prog (cfg.fn 228).byval Try.f228) [] (execA Try.prog C (cfg.fn 228) (nr Try.f228 []) (frame0 [LL S p0, .fn 153 [.ia [S p1_c0, I p1_c1, I p1_c2, I p1_c3, LL S p1_c4] 0]] 19 false)) = (T228 p0 p1_c0 p1_c1 p1_c2 p1_c3 p1_c4).map I := by
  unfold T228
  let s_0 : List (Nat × AV) := [(0, LL S p0), (1, .fn 153 [.ia [S p1_c0, I p1_c1, I p1_c2, I p1_c3, LL S p1_c4] 0])]
  refine gS 1 ?_
  refine gR 0 (rg Try.f228 0) ?_
  refine se (mkE s_0 [] 19) ?_
  refine pN ?_
  refine pS ?_
  refine gS 7 ?_
  refine gS 2 ?_
  refine gR 1 (rg Try.f228 1) ?_
  refine sg 1 (mkE ((6, LL S p0) :: s_0) [] 19) ?_
  refine eo 7 (I (lenL p0)) (lenE 35 S p0) ?_
  refine se (mkE (s_0.append ((7, I (lenL p0)) :: [(8, I 0)])) [] 19) ?_
  refine pN ?_
  refine pS ?_
  refine gB 0 ?_
  refine lo [(0, none), (1, none), (7, none), (8, none)] [] (L228_2 p0 p1_c0 p1_c1 p1_c2 p1_c3 p1_c4) (fun z0 : Int => (mkE (s_0.append ((7, I (lenL p0)) :: [(8, I z0)])) [] 19)) (Sum.elim (fun (x : (Int × Bool)) => (.exit 0, (mkE (s_0.append ((7, I (lenL p0)) :: ((8, I x.1) :: [(9, B x.2)]))) [] 19))) (fun (x : Int) => (.ret, (mkE [(4, I x)] [] 19)))) 0 (fun z => L228_2_ok C h153 p0 p1_c0 p1_c1 p1_c2 p1_c3 p1_c4 z) ?_
  intro y3
  refine ss y3 (Z := (Sum.elim (fun (x : (Int × Bool)) => (.exit 0, (mkE (s_0.append ((7, I (lenL p0)) :: ((8, I x.1) :: [(9, B x.2)]))) [] 19))) (fun (x : Int) => (.ret, (mkE [(4, I x)] [] 19))))) (fun y3a => ?_) (fun y3b => ?_)
  · refine pH ?_
    refine pN ?_
    refine pS ?_
    refine gS 0 ?_
    refine gR 7 (rg Try.f228 7) ?_
    refine se (mkE [(4, I (-1))] [] 19) ?_
    refine pN ?_
    refine pS ?_
    refine gE ?_
    exact pL
  · exact pL
theorem F228 (m : Nat) (hm : 4 ≤ m) (p0 : (List ByteArray)) (p1_c0 : ByteArray) (p1_c1 : Int) (p1_c2 : Int) (p1_c3 : Int) (p1_c4 : (List ByteArray)) : callA Try.prog cfg m 228 [LL S p0, .fn 153 [.ia [S p1_c0, I p1_c1, I p1_c2, I p1_c3, LL S p1_c4] 0]] = (T228 p0 p1_c0 p1_c1 p1_c2 p1_c3 p1_c4).map I := by
  obtain ⟨q, rfl⟩ : ∃ q, m = q + 1 := ⟨m - 1, by omega⟩
  exact (callA_body (fn := Try.f228) (c := body_ Try.f228) q _ (by kernel_rfl) (by kernel_rfl) (by kernel_rfl)).trans (B228 _ (fun p0 p1_c0 p1_c1 p1_c2 p1_c3 p1_c4 => F153 q (by omega) p0 p1_c0 p1_c1 p1_c2 p1_c3 p1_c4) p0 p1_c0 p1_c1 p1_c2 p1_c3 p1_c4)

noncomputable def T152 (p0 : (List ByteArray)) (p1_c0 : ByteArray) (p1_c1 : Int) (p1_c2 : Int) (p1_c3 : Int) (p1_c4 : (List ByteArray)) : Option Bool := ((T228 p0 p1_c0 p1_c1 p1_c2 p1_c3 p1_c4).bind fun x1 => (some (leI 0 x1)))
theorem B152 (C : Callee) (h228 : ∀ (p0 : (List ByteArray)) (p1_c0 : ByteArray) (p1_c1 : Int) (p1_c2 : Int) (p1_c3 : Int) (p1_c4 : (List ByteArray)), C 228 [LL S p0, .fn 153 [.ia [S p1_c0, I p1_c1, I p1_c2, I p1_c3, LL S p1_c4] 0]] = (T228 p0 p1_c0 p1_c1 p1_c2 p1_c3 p1_c4).map I) (p0 : (List ByteArray)) (p1_c0 : ByteArray) (p1_c1 : Int) (p1_c2 : Int) (p1_c3 : Int) (p1_c4 : (List ByteArray)) : runs Try.prog C (cfg.fn 152) (finFn Try.prog (cfg.fn 152).byval Try.f152) [] (execA Try.prog C (cfg.fn 152) (nr Try.f152 []) (frame0 [LL S p0, .fn 153 [.ia [S p1_c0, I p1_c1, I p1_c2, I p1_c3, LL S p1_c4] 0]] 9 false)) = (T152 p0 p1_c0 p1_c1 p1_c2 p1_c3 p1_c4).map B := by
  unfold T152
  refine gS 1 ?_
  refine gR 0 (rg Try.f152 0) ?_
  refine se (mkE [(0, LL S p0), (1, .fn 153 [.ia [S p1_c0, I p1_c1, I p1_c2, I p1_c3, LL S p1_c4] 0])] [] 9) ?_
  refine pN ?_
  refine pS ?_
  refine gS 0 ?_
  refine gR 1 (rg Try.f152 1) ?_
  refine sg 2 (mkE [(6, .fn 153 [.ia [S p1_c0, I p1_c1, I p1_c2, I p1_c3, LL S p1_c4] 0]), (5, LL S p0), (0, LL S p0), (1, .fn 153 [.ia [S p1_c0, I p1_c1, I p1_c2, I p1_c3, LL S p1_c4] 0])] [] 9) ?_
  refine co 7 [] (h228 p0 p1_c0 p1_c1 p1_c2 p1_c3 p1_c4) (fun x1 => ?_)
  refine se (mkE [(4, B (leI 0 x1))] [] 9) ?_
  refine pN ?_
  refine pS ?_
  refine gE ?_
  exact pL
theorem F152 (m : Nat) (hm : 5 ≤ m) (p0 : (List ByteArray)) (p1_c0 : ByteArray) (p1_c1 : Int) (p1_c2 : Int) (p1_c3 : Int) (p1_c4 : (List ByteArray)) : callA Try.prog cfg m 152 [LL S p0, .fn 153 [.ia [S p1_c0, I p1_c1, I p1_c2, I p1_c3, LL S p1_c4] 0]] = (T152 p0 p1_c0 p1_c1 p1_c2 p1_c3 p1_c4).map B := by
  obtain ⟨q, rfl⟩ : ∃ q, m = q + 1 := ⟨m - 1, by omega⟩
  exact (callA_body (fn := Try.f152) (c := body_ Try.f152) q _ (by kernel_rfl) (by kernel_rfl) (by kernel_rfl)).trans (B152 _ (fun p0 p1_c0 p1_c1 p1_c2 p1_c3 p1_c4 => F228 q (by omega) p0 p1_c0 p1_c1 p1_c2 p1_c3 p1_c4) p0 p1_c0 p1_c1 p1_c2 p1_c3 p1_c4)

noncomputable def T65 (p0 : S53) (p1 : S90) : Option Bool := (bif (leI p0.f2.f0 p1.f1.f0) then (bif (leI p1.f1.f1 p0.f2.f1) then ((T152 p0.f3 p1.f0 p1.f1.f0 p1.f1.f1 p1.f2 p1.f3).bind fun x1 => (some (!x1))) else (some false)) else (some false))
theorem B65 (C : Callee) (h152 : ∀ (p0 : (List ByteArray)) (p1_c0 : ByteArray) (p1_c1 : Int) (p1_c2 : Int) (p1_c3 : Int) (p1_c4 : (List ByteArray)), C 152 [LL S p0, .fn 153 [.ia [S p1_c0, I p1_c1, I p1_c2, I p1_c3, LL S p1_c4] 0]] = (T152 p0 p1_c0 p1_c1 p1_c2 p1_c3 p1_c4).map B) (p0 : S53) (p1 : S90) : runs Try.prog C (cfg.fn 65) (finFn Try.prog (cfg.fn 65).byval Try.f65) [] (execA Try.prog C (cfg.fn 65) (nr Try.f65 []) (frame0 [a53 p0, a90 p1] 28 false)) = (T65 p0 p1).map B := by
  unfold T65
  let s_0 : List (Nat × AV) := [(21, B (leI p1.f1.f1 p0.f2.f1)), (20, B (leI p1.f1.f1 p0.f2.f1)), (19, B (leI p1.f1.f1 p0.f2.f1)), (18, I p0.f2.f1), (17, .ba 16 3), (16, .ba 16 2), (15, I p1.f1.f1), (14, .ba 24 2), (13, .ba 24 1), (12, B true), (12, B (leI p0.f2.f0 p1.f1.f0)), (11, B (leI p0.f2.f0 p1.f1.f0)), (10, I p1.f1.f0), (9, .ba 24 1), (8, .ba 24 1), (7, I p0.f2.f0), (6, .ba 16 2), (5, .ba 16 2), (2, .ba 16 0), (3, .ba 24 0)]
  let o_0 : List (Nat × AObj) := [(16, .box [S p0.f0, S p0.f1, I p0.f2.f0, I p0.f2.f1, LL S p0.f3, I p0.f4, I p0.f5, I p0.f6] false), (24, .box [S p1.f0, I p1.f1.f0, I p1.f1.f1, I p1.f2, LL S p1.f3] false)]
  refine gS 1 ?_
  refine gR 0 (rg Try.f65 0) ?_
  refine se (mkE [(2, .ba 16 0), (3, .ba 24 0)] o_0 28) ?_
  refine pN ?_
  refine pS ?_
  refine gS 0 ?_
  refine gR 1 (rg Try.f65 1) ?_
  refine sg 8 (mkE [(12, B (leI p0.f2.f0 p1.f1.f0)), (11, B (leI p0.f2.f0 p1.f1.f0)), (10, I p1.f1.f0), (9, .ba 24 1), (8, .ba 24 1), (7, I p0.f2.f0), (6, .ba 16 2), (5, .ba 16 2), (2, .ba 16 0), (3, .ba 24 0)] o_0 28) ?_
  refine sb 12 (leI p0.f2.f0 p1.f1.f0) ?_ ?_
  · refine sg 17 (mkE s_0 o_0 28) ?_
    refine sb 21 (leI p1.f1.f1 p0.f2.f1) ?_ ?_
    · refine sg 20 (mkE ((24, .fn 153 [.ba 24 0]) :: ((23, LL S p0.f3) :: ((22, .ba 16 4) :: ((21, B true) :: s_0)))) o_0 28) ?_
      refine co 25 [24] (h152 p0.f3 p1.f0 p1.f1.f0 p1.f1.f1 p1.f2 p1.f3) (fun x1 => ?_)
      refine se (mkE [(4, B (!x1))] [] 28) ?_
      refine pN ?_
      refine pS ?_
      refine gE ?_
      exact pL
    · refine se (mkE [(4, B false)] [] 28) ?_
      refine pN ?_
      refine pS ?_
      refine gE ?_
      exact pL
  · refine se (mkE [(4, B false)] [] 28) ?_
    refine pN ?_
    refine pS ?_
    refine gE ?_
    exact pL
theorem F65 (m : Nat) (hm : 6 ≤ m) (p0 : S53) (p1 : S90) : callA Try.prog cfg m 65 [a53 p0, a90 p1] = (T65 p0 p1).map B := by
  obtain ⟨q, rfl⟩ : ∃ q, m = q + 1 := ⟨m - 1, by omega⟩
  exact (callA_body (fn := Try.f65) (c := body_ Try.f65) q _ (by kernel_rfl) (by kernel_rfl) (by kernel_rfl)).trans (B65 _ (fun p0 p1_c0 p1_c1 p1_c2 p1_c3 p1_c4 => F152 q (by omega) p0 p1_c0 p1_c1 p1_c2 p1_c3 p1_c4) p0 p1)

noncomputable def T270 (p0 : ByteArray) : Option Bool := (some (!eqS p0 p0))
theorem B270 (C : Callee) (p0 : ByteArray) : runs Try.prog C (cfg.fn 270) (finFn Try.prog (cfg.fn 270).byval Try.f270) [] (execA Try.prog C (cfg.fn 270) (nr Try.f270 []) (frame0 [S p0] 6 false)) = (T270 p0).map B := by
  unfold T270
  refine gS 1 ?_
  refine gR 0 (rg Try.f270 0) ?_
  refine se (mkE [(0, S p0)] [] 6) ?_
  refine pN ?_
  refine pS ?_
  refine gS 0 ?_
  refine gR 1 (rg Try.f270 1) ?_
  refine se (mkE [(2, B (!eqS p0 p0))] [] 6) ?_
  refine pN ?_
  refine pS ?_
  refine gE ?_
  exact pL
theorem F270 (m : Nat) (hm : 1 ≤ m) (p0 : ByteArray) : callA Try.prog cfg m 270 [S p0] = (T270 p0).map B := by
  obtain ⟨q, rfl⟩ : ∃ q, m = q + 1 := ⟨m - 1, by omega⟩
  exact (callA_body (fn := Try.f270) (c := body_ Try.f270) q _ (by kernel_rfl) (by kernel_rfl) (by kernel_rfl)).trans (B270 _ p0)

noncomputable def T235 (p0 : ByteArray) (p1 : ByteArray) : Option Int := ((T270 p0).bind fun x1 => ((T270 p1).bind fun x2 => (bif x1 then (bif x2 then (some 0) else (some (-1))) else (bif x2 then (some 1) else (bif (ltS p0 p1) then (some (-1)) else (bif (!(ltS p0 p1 || eqS p0 p1)) then (some 1) else (some 0)))))))
theorem B235 (C : Callee) (h270 : ∀ (p0 : ByteArray), C 270 [S p0] = (T270 p0).map B) (p0 : ByteArray) (p1 : ByteArray) : runs Try.prog C (cfg.fn 235) (finFn Try.prog (cfg.fn 235).byval Try.f235) [] (execA Try.prog C (cfg.fn 235) (nr Try.f235 []) (frame0 [S p0, S p1] 20 false)) = (T235 p0 p1).map I := by
  unfold T235
  refine gS 1 ?_
  refine gR 0 (rg Try.f235 0) ?_
  refine se (mkE [(0, S p0), (1, S p1)] [] 20) ?_
  refine pN ?_
  refine pS ?_
  refine gS 2 ?_
  refine gR 1 (rg Try.f235 1) ?_
  refine sg 1 (mkE [(7, S p0), (0, S p0), (1, S p1)] [] 20) ?_
  refine co 8 [] (h270 p0) (fun x1 => ?_)
  refine se (mkE [(0, S p0), (1, S p1), (5, B x1)] [] 20) ?_
  refine pN ?_
  refine pS ?_
  refine gS 3 ?_
  refine gR 2 (rg Try.f235 2) ?_
  refine sg 1 (mkE [(9, S p1), (0, S p0), (1, S p1), (5, B x1)] [] 20) ?_
  refine co 10 [] (h270 p1) (fun x2 => ?_)
  refine se (mkE [(0, S p0), (1, S p1), (5, B x1), (6, B x2)] [] 20) ?_
  refine pN ?_
  refine pS ?_
  refine gS 7 ?_
  refine gS 0 ?_
  refine gR 3 (rg Try.f235 3) ?_
  refine se (mkE [(0, S p0), (1, S p1), (6, B x2), (11, B x1)] [] 20) ?_
  refine pN ?_
  refine pS ?_
  refine gC 11 x1 ?_ ?_
  · refine gS 6 ?_
    refine gS 0 ?_
    refine gR 4 (rg Try.f235 4) ?_
    refine se (mkE [(12, B x2)] [] 20) ?_
    refine pN ?_
    refine pS ?_
    refine gC 12 x2 ?_ ?_
    · refine gS 0 ?_
      refine gR 5 (rg Try.f235 5) ?_
      refine se (mkE [(4, I 0)] [] 20) ?_
      refine pN ?_
      refine pS ?_
      refine gE ?_
      exact pL
    · refine gK ?_
      refine pN ?_
      refine pS ?_
      refine gS 0 ?_
      refine gR 6 (rg Try.f235 6) ?_
      refine se (mkE [(4, I (-1))] [] 20) ?_
      refine pN ?_
      refine pS ?_
      refine gE ?_
      exact pL
  · refine gK ?_
    refine pN ?_
    refine pS ?_
    refine gS 9 ?_
    refine gS 0 ?_
    refine gR 7 (rg Try.f235 7) ?_
    refine se (mkE [(0, S p0), (1, S p1), (13, B x2)] [] 20) ?_
    refine pN ?_
    refine pS ?_
    refine gC 13 x2 ?_ ?_
    · refine gS 0 ?_
      refine gR 8 (rg Try.f235 8) ?_
      refine se (mkE [(4, I 1)] [] 20) ?_
      refine pN ?_
      refine pS ?_
      refine gE ?_
      exact pL
    · refine gK ?_
      refine pN ?_
      refine pS ?_
      refine gS 11 ?_
      refine gS 0 ?_
      refine gR 9 (rg Try.f235 9) ?_
      refine se (mkE [(0, S p0), (1, S p1), (16, B (ltS p0 p1))] [] 20) ?_
      refine pN ?_
      refine pS ?_
      refine gC 16 (ltS p0 p1) ?_ ?_
      · refine gS 0 ?_
        refine gR 10 (rg Try.f235 10) ?_
        refine se (mkE [(4, I (-1))] [] 20) ?_
        refine pN ?_
        refine pS ?_
        refine gE ?_
        exact pL
      · refine gK ?_
        refine pN ?_
        refine pS ?_
        refine gS 13 ?_
        refine gS 0 ?_
        refine gR 11 (rg Try.f235 11) ?_
        refine se (mkE [(19, B (!(ltS p0 p1 || eqS p0 p1)))] [] 20) ?_
        refine pN ?_
        refine pS ?_
        refine gC 19 (!(ltS p0 p1 || eqS p0 p1)) ?_ ?_
        · refine gS 0 ?_
          refine gR 12 (rg Try.f235 12) ?_
          refine se (mkE [(4, I 1)] [] 20) ?_
          refine pN ?_
          refine pS ?_
          refine gE ?_
          exact pL
        · refine gK ?_
          refine pN ?_
          refine pS ?_
          refine gS 0 ?_
          refine gR 13 (rg Try.f235 13) ?_
          refine se (mkE [(4, I 0)] [] 20) ?_
          refine pN ?_
          refine pS ?_
          refine gE ?_
          exact pL
theorem F235 (m : Nat) (hm : 2 ≤ m) (p0 : ByteArray) (p1 : ByteArray) : callA Try.prog cfg m 235 [S p0, S p1] = (T235 p0 p1).map I := by
  obtain ⟨q, rfl⟩ : ∃ q, m = q + 1 := ⟨m - 1, by omega⟩
  exact (callA_body (fn := Try.f235) (c := body_ Try.f235) q _ (by kernel_rfl) (by kernel_rfl) (by kernel_rfl)).trans (B235 _ (fun p0 => F270 q (by omega) p0) p0 p1)

noncomputable def L170_2 (p0 : (List ByteArray)) (p1 : (List ByteArray)) (z0 : Int) : Option (Int ⊕ ((Int × Bool) ⊕ Int)) := (bif (ltI z0 (lenL p0)) then ((listAt p0 z0).bind fun x1 => (bif (leI (lenL p1) z0) then (some (.inr (.inr 1))) else ((listAt p1 z0).bind fun x2 => ((T235 x1 x2).bind fun x3 => (bif (neI x3 0) then (some (.inr (.inr x3))) else (some (.inl (addI .i64 z0 1)))))))) else (some (.inr (.inl (z0, (ltI z0 (lenL p0)))))))
theorem L170_2_ok (C : Callee) (h235 : ∀ (p0 : ByteArray) (p1 : ByteArray), C 235 [S p0, S p1] = (T235 p0 p1).map I) (p0 : (List ByteArray)) (p1 : (List ByteArray)) (z0 : Int) : runs Try.prog C (cfg.fn 170) (finLoop ((cfg.fn 170).keep 2) ((cfg.fn 170).al 2)) [] (execA Try.prog C (cfg.fn 170) (nr Try.f170 [false, false, true, false, true]) ((fun z0 : Int => (mkE [(0, LL S p0), (1, LL S p1), (9, LL S p0), (10, I (lenL p0)), (11, I z0)] [] 36)) z0)) = (L170_2 p0 p1 z0).map (Sum.elim (fun z => .inl ((fun z0 : Int => (mkE [(0, LL S p0), (1, LL S p1), (9, LL S p0), (10, I (lenL p0)), (11, I z0)] [] 36)) z)) (fun x => .inr ((Sum.elim (fun (x : (Int × Bool)) => (.exit 0, (mkE [(0, LL S p0), (1, LL S p1), (9, LL S p0), (10, I (lenL p0)), (11, I x.1), (12, B x.2)] [] 36))) (fun (x : Int) => (.ret, (mkE [(4, I x)] [] 36)))) x))) := by
  unfold L170_2
  let s_0 : List (Nat × AV) := [(9, LL S p0), (10, I (lenL p0)), (11, I z0)]
  let s_1 : List (Nat × AV) := [(0, LL S p0), (1, LL S p1)]
  refine gS 0 ?_
  refine gR 2 (rg Try.f170 2) ?_
  refine se (mkE (s_1.append (s_0.append [(12, B (ltI z0 (lenL p0)))])) [] 36) ?_
  refine pN ?_
  refine pS ?_
  refine gS 3 ?_
  refine gC 12 (ltI z0 (lenL p0)) ?_ ?_
  · refine gK ?_
    refine pN ?_
    refine pS ?_
    refine gS 10 ?_
    refine gB 1 ?_
    refine gS 4 ?_
    refine gR 3 (rg Try.f170 3) ?_
    refine sg 1 (mkE ((13, I z0) :: (s_1.append (s_0.append [(12, B (ltI z0 (lenL p0)))]))) [] 36) ?_
    refine vo 14 (addrE 35 9 1 S .i64 p0 z0) (fun x1 => ?_)
    refine se (mkE (s_1.append ((5, I z0) :: ((6, S x1) :: s_0))) [] 36) ?_
    refine pN ?_
    refine pS ?_
    refine gS 6 ?_
    refine gS 0 ?_
    refine gR 4 (rg Try.f170 4) ?_
    refine sg 2 (mkE ((17, LL S p1) :: ((16, I z0) :: (s_1.append ((5, I z0) :: ((6, S x1) :: s_0))))) [] 36) ?_
    refine eo 18 (I (lenL p1)) (lenE 35 S p1) ?_
    refine se (mkE (s_1.append ((5, I z0) :: ((6, S x1) :: (s_0.append [(19, B (leI (lenL p1) z0))])))) [] 36) ?_
    refine pN ?_
    refine pS ?_
    refine gC 19 (leI (lenL p1) z0) ?_ ?_
    · refine gS 0 ?_
      refine gR 5 (rg Try.f170 5) ?_
      refine se (mkE [(4, I 1)] [] 36) ?_
      refine pN ?_
      refine pS ?_
      refine gE ?_
      exact pL
    · refine gK ?_
      refine pN ?_
      refine pS ?_
      refine gS 7 ?_
      refine gR 6 (rg Try.f170 6) ?_
      refine sg 2 (mkE ((21, I z0) :: ((20, LL S p1) :: (s_1.append ((5, I z0) :: ((6, S x1) :: (s_0.append [(19, B (leI (lenL p1) z0))])))))) [] 36) ?_
      refine vo 22 (addrE 35 9 1 S .i64 p1 z0) (fun x2 => ?_)
      refine se (mkE (s_1.append ((6, S x1) :: ((7, S x2) :: s_0))) [] 36) ?_
      refine pN ?_
      refine pS ?_
      refine gS 8 ?_
      refine gR 7 (rg Try.f170 7) ?_
      refine sg 2 (mkE ((25, S x2) :: ((24, S x1) :: (s_1.append ((6, S x1) :: ((7, S x2) :: s_0))))) [] 36) ?_
      refine co 26 [] (h235 x1 x2) (fun x3 => ?_)
      refine se (mkE (s_1.append ((8, I x3) :: s_0)) [] 36) ?_
      refine pN ?_
      refine pS ?_
      refine gS 0 ?_
      refine gR 8 (rg Try.f170 8) ?_
      refine se (mkE (s_1.append ((8, I x3) :: (s_0.append [(28, B (neI x3 0))]))) [] 36) ?_
      refine pN ?_
      refine pS ?_
      refine gC 28 (neI x3 0) ?_ ?_
      · refine gS 0 ?_
        refine gR 9 (rg Try.f170 9) ?_
        refine se (mkE [(4, I x3)] [] 36) ?_
        refine pN ?_
        refine pS ?_
        refine gE ?_
        exact pL
      · refine gK ?_
        refine pB ?_
        refine pN ?_
        refine pS ?_
        refine gR 10 (rg Try.f170 10) ?_
        refine se (mkE (s_1.append ((9, LL S p0) :: ((10, I (lenL p0)) :: [(11, I (addI .i64 z0 1))]))) [] 36) ?_
        exact pL
  · refine gX 0 ?_
    exact pL
noncomputable def T170 (p0 : (List ByteArray)) (p1 : (List ByteArray)) : Option Int := ((iter (L170_2 p0 p1) 0).bind fun y4 => (Sum.elim (fun y4a => (bif (ltI (lenL p0) (lenL p1)) then (some (-1)) else (some 0))) (fun y4b => (some y4b)) y4))
theorem B170 (C : Callee) (h235 : ∀ (p0 : ByteArray) (p1 : ByteArray), C 235 [S p0, S p1] = (T235 p0 p1).map I) (p0 : (List ByteArray)) (p1 : (List ByteArray)) : runs Try.prog C (cfg.fn 170) (finFn Try.prog (cfg.fn 170).byval Try.f170) [] (execA Try.prog C (cfg.fn 170) (nr Try.f170 []) (frame0 [LL S p0, LL S p1] 36 false)) = (T170 p0 p1).map I := by
  unfold T170
  let s_0 : List (Nat × AV) := [(0, LL S p0), (1, LL S p1), (9, LL S p0), (10, I (lenL p0))]
  refine gS 1 ?_
  refine gR 0 (rg Try.f170 0) ?_
  refine se (mkE [(0, LL S p0), (1, LL S p1)] [] 36) ?_
  refine pN ?_
  refine pS ?_
  refine gS 11 ?_
  refine gS 2 ?_
  refine gR 1 (rg Try.f170 1) ?_
  refine sg 1 (mkE [(9, LL S p0), (0, LL S p0), (1, LL S p1)] [] 36) ?_
  refine eo 10 (I (lenL p0)) (lenE 35 S p0) ?_
  refine se (mkE (s_0.append [(11, I 0)]) [] 36) ?_
  refine pN ?_
  refine pS ?_
  refine gB 0 ?_
  refine lo [(0, none), (1, none), (9, none), (10, none), (11, none)] [] (L170_2 p0 p1) (fun z0 : Int => (mkE (s_0.append [(11, I z0)]) [] 36)) (Sum.elim (fun (x : (Int × Bool)) => (.exit 0, (mkE (s_0.append ((11, I x.1) :: [(12, B x.2)])) [] 36))) (fun (x : Int) => (.ret, (mkE [(4, I x)] [] 36)))) 0 (fun z => L170_2_ok C h235 p0 p1 z) ?_
  intro y4
  refine ss y4 (Z := (Sum.elim (fun (x : (Int × Bool)) => (.exit 0, (mkE (s_0.append ((11, I x.1) :: [(12, B x.2)])) [] 36))) (fun (x : Int) => (.ret, (mkE [(4, I x)] [] 36))))) (fun y4a => ?_) (fun y4b => ?_)
  · refine pH ?_
    refine pN ?_
    refine pS ?_
    refine gS 13 ?_
    refine gS 0 ?_
    refine gR 11 (rg Try.f170 11) ?_
    refine sg 1 (mkE ((31, LL S p0) :: (s_0.append ((11, I y4a.1) :: [(12, B y4a.2)]))) [] 36) ?_
    refine eo 32 (I (lenL p0)) (lenE 35 S p0) ?_
    refine sg 3 (mkE ((33, LL S p1) :: ((32, I (lenL p0)) :: ((31, LL S p0) :: (s_0.append ((11, I y4a.1) :: [(12, B y4a.2)]))))) [] 36) ?_
    refine eo 34 (I (lenL p1)) (lenE 35 S p1) ?_
    refine se (mkE [(35, B (ltI (lenL p0) (lenL p1)))] [] 36) ?_
    refine pN ?_
    refine pS ?_
    refine gC 35 (ltI (lenL p0) (lenL p1)) ?_ ?_
    · refine gS 0 ?_
      refine gR 12 (rg Try.f170 12) ?_
      refine se (mkE [(4, I (-1))] [] 36) ?_
      refine pN ?_
      refine pS ?_
      refine gE ?_
      exact pL
    · refine gK ?_
      refine pN ?_
      refine pS ?_
      refine gS 0 ?_
      refine gR 13 (rg Try.f170 13) ?_
      refine se (mkE [(4, I 0)] [] 36) ?_
      refine pN ?_
      refine pS ?_
      refine gE ?_
      exact pL
  · exact pL
theorem F170 (m : Nat) (hm : 3 ≤ m) (p0 : (List ByteArray)) (p1 : (List ByteArray)) : callA Try.prog cfg m 170 [LL S p0, LL S p1] = (T170 p0 p1).map I := by
  obtain ⟨q, rfl⟩ : ∃ q, m = q + 1 := ⟨m - 1, by omega⟩
  exact (callA_body (fn := Try.f170) (c := body_ Try.f170) q _ (by kernel_rfl) (by kernel_rfl) (by kernel_rfl)).trans (B170 _ (fun p0 p1 => F235 q (by omega) p0 p1) p0 p1)

noncomputable def L85_5 (p0 : (List S90)) (p1 : (List S53)) (p2 : (List S49)) (z0 : ((List (ByteArray × Int)) × (List (ByteArray × Int)) × Int)) : Option (((List (ByteArray × Int)) × (List (ByteArray × Int)) × Int) ⊕ ((Int × Bool × (List (ByteArray × Int)) × (List (ByteArray × Int))) ⊕ Int)) := (bif (ltI z0.2.2 (lenL p2)) then ((listAt p2 z0.2.2).bind fun x1 => ((T166 p1 x1.f0 x1.f1 x1.f2).bind fun x2 => ((T168 p0 x1.f0 x1.f1 x1.f2).bind fun x3 => (((bif (ltI x2 0) then (some (.inr 8)) else (bif (ltI x3 0) then (some (.inr 8)) else ((listAt p1 x2).bind fun x4 => ((listAt p0 x3).bind fun x5 => ((T65 x4 x5).bind fun x6 => (bif (!x6) then (some (.inr 16)) else ((listAt p1 x2).bind fun x7 => ((T132 x1.f2 1 x7.f5).bind fun x8 => (bif (!x8) then (some (.inr 1)) else (bif (ltI 0 z0.2.2) then ((listAt p2 (subI .i64 z0.2.2 1)).bind fun x9 => ((listAt p2 (subI .i64 z0.2.2 1)).bind fun x10 => ((T170 ([x9.f0, x10.f1] : List ByteArray) ([x1.f0, x1.f1] : List ByteArray)).bind fun x11 => (bif (leI 0 x11) then (some (.inr 7)) else (some (.inl ())))))) else (some (.inl ())))))))))))) : Option (Unit ⊕ Int)).bind fun y12 => (Sum.elim (fun y12a => ((some (msetB eqB z0.1 x1.f1 (addI .i64 ((mgetB eqB z0.1 x1.f1).getD 0) x1.f2))).bind fun x13 => ((some (msetB eqB z0.2.1 x1.f0 (addI .i64 ((mgetB eqB z0.2.1 x1.f0).getD 0) x1.f2))).bind fun x14 => (some (.inl (x13, x14, (addI .i64 z0.2.2 1))))))) (fun y12b => (some (.inr (.inr y12b)))) y12))))) else (some (.inr (.inl (z0.2.2, (ltI z0.2.2 (lenL p2)), z0.1, z0.2.1)))))
theorem L85_5_ok (C : Callee) (h132 : ∀ (p0 : Int) (p1 : Int) (p2 : Int), C 132 [I p0, I p1, I p2] = (T132 p0 p1 p2).map B) (h166 : ∀ (p0 : (List S53)) (p1_c0 : ByteArray) (p1_c1 : ByteArray) (p1_c2 : Int), C 166 [LL a53 p0, .fn 167 [.ia [S p1_c0, S p1_c1, I p1_c2] 0]] = (T166 p0 p1_c0 p1_c1 p1_c2).map I) (h168 : ∀ (p0 : (List S90)) (p1_c0 : ByteArray) (p1_c1 : ByteArray) (p1_c2 : Int), C 168 [LL a90 p0, .fn 169 [.ia [S p1_c0, S p1_c1, I p1_c2] 0]] = (T168 p0 p1_c0 p1_c1 p1_c2).map I) (h170 : ∀ (p0 : (List ByteArray)) (p1 : (List ByteArray)), C 170 [LL S p0, LL S p1] = (T170 p0 p1).map I) (h65 : ∀ (p0 : S53) (p1 : S90), C 65 [a53 p0, a90 p1] = (T65 p0 p1).map B) (p0 : (List S90)) (p1 : (List S53)) (p2 : (List S49)) (z0 : ((List (ByteArray × Int)) × (List (ByteArray × Int)) × Int)) : runs Try.prog C (cfg.fn 85) (finLoop ((cfg.fn 85).keep 5) ((cfg.fn 85).al 5)) [] (execA Try.prog C (cfg.fn 85) (nr Try.f85 [false, false, true, false, true, true, true]) ((fun z0 : ((List (ByteArray × Int)) × (List (ByteArray × Int)) × Int) => (mkE [(0, LL a90 p0), (1, LL a53 p1), (2, LL a49 p2), (7, .mr 56), (8, .mr 64), (22, LL a49 p2), (23, I (lenL p2)), (24, I z0.2.2)] [(56, MP S I z0.1 false), (64, MP S I z0.2.1 false)] 131)) z0)) = (L85_5 p0 p1 p2 z0).map (Sum.elim (fun z => .inl ((fun z0 : ((List (ByteArray × Int)) × (List (ByteArray × Int)) × Int) => (mkE [(0, LL a90 p0), (1, LL a53 p1), (2, LL a49 p2), (7, .mr 56), (8, .mr 64), (22, LL a49 p2), (23, I (lenL p2)), (24, I z0.2.2)] [(56, MP S I z0.1 false), (64, MP S I z0.2.1 false)] 131)) z)) (fun x => .inr ((Sum.elim (fun (x : (Int × Bool × (List (ByteArray × Int)) × (List (ByteArray × Int)))) => (.exit 0, (mkE [(0, LL a90 p0), (1, LL a53 p1), (2, LL a49 p2), (7, .mr 56), (8, .mr 64), (22, LL a49 p2), (23, I (lenL p2)), (24, I x.1), (25, B x.2.1)] [(56, MP S I x.2.2.1 false), (64, MP S I x.2.2.2 false)] 131))) (fun (x : Int) => (.ret, (mkE [(6, I x)] [] 131)))) x))) := by
  unfold L85_5
  let d_0 : List (Option Nat × REff) := [(some 64, qe (I z0.2.2)), (some 65, qe (B (ltI 0 z0.2.2))), (some 66, qe (B true)), (some 67, qe (LL a49 p2)), (some 68, qe (I z0.2.2)), (some 69, qe (I (subI .i64 z0.2.2 1)))]
  let d_1 : List (Option Nat × REff) := [(some 73, qe (LL a49 p2)), (some 74, qe (I z0.2.2)), (some 75, qe (I (subI .i64 z0.2.2 1)))]
  let s_0 : List (Nat × AV) := [(0, LL a90 p0), (1, LL a53 p1), (2, LL a49 p2), (7, .mr 56), (8, .mr 64)]
  let s_1 : List (Nat × AV) := [(22, LL a49 p2), (23, I (lenL p2)), (24, I z0.2.2)]
  let s_2 : List (Nat × AV) := [(9, I z0.2.2), (10, .ba 80 0)]
  let s_3 : List (Nat × AV) := [(69, I (subI .i64 z0.2.2 1)), (68, I z0.2.2), (67, LL a49 p2), (66, B true), (65, B (ltI 0 z0.2.2)), (64, I z0.2.2)]
  let o_0 : List (Nat × AObj) := [(56, MP S I z0.1 false), (64, MP S I z0.2.1 false)]
  refine gS 0 ?_
  refine gR 5 (rg Try.f85 5) ?_
  refine se (mkE (s_0.append (s_1.append [(25, B (ltI z0.2.2 (lenL p2)))])) o_0 131) ?_
  refine pN ?_
  refine pS ?_
  refine gS 6 ?_
  refine gC 25 (ltI z0.2.2 (lenL p2)) ?_ ?_
  · refine gK ?_
    refine pN ?_
    refine pS ?_
    refine gS 19 ?_
    refine gB 1 ?_
    refine gS 7 ?_
    refine gR 6 (rg Try.f85 6) ?_
    refine sg 1 (mkE ((26, I z0.2.2) :: (s_0.append (s_1.append [(25, B (ltI z0.2.2 (lenL p2)))]))) o_0 131) ?_
    refine vo 27 (addrE 47 50 3 a49 .i64 p2 z0.2.2) (fun x1 => ?_)
    refine se (mkE (s_0.append (s_2.append s_1)) (o_0.append [(80, .box [S x1.f0, S x1.f1, I x1.f2] false)]) 131) ?_
    refine pN ?_
    refine pS ?_
    refine gS 8 ?_
    refine gR 7 (rg Try.f85 7) ?_
    refine sg 2 (mkE ((30, .fn 167 [.ba 80 0]) :: ((29, LL a53 p1) :: (s_0.append (s_2.append s_1)))) (o_0.append [(80, .box [S x1.f0, S x1.f1, I x1.f2] false)]) 131) ?_
    refine co 31 [80] (h166 p1 x1.f0 x1.f1 x1.f2) (fun x2 => ?_)
    refine se (mkE (s_0.append (s_2.append ((11, I x2) :: s_1))) (o_0.append [(80, .box [S x1.f0, S x1.f1, I x1.f2] false)]) 131) ?_
    refine pN ?_
    refine pS ?_
    refine gS 9 ?_
    refine gR 8 (rg Try.f85 8) ?_
    refine sg 2 (mkE ((33, .fn 169 [.ba 80 0]) :: ((32, LL a90 p0) :: (s_0.append (s_2.append ((11, I x2) :: s_1))))) (o_0.append [(80, .box [S x1.f0, S x1.f1, I x1.f2] false)]) 131) ?_
    refine co 34 [80] (h168 p0 x1.f0 x1.f1 x1.f2) (fun x3 => ?_)
    refine se (mkE (s_0.append (s_2.append ((11, I x2) :: ((12, I x3) :: s_1)))) (o_0.append [(80, .box [S x1.f0, S x1.f1, I x1.f2] false)]) 131) ?_
    refine pN ?_
    refine pS ?_
    refine jS 17 ((bif (ltI x2 0) then (some (.inr 8)) else (bif (ltI x3 0) then (some (.inr 8)) else ((listAt p1 x2).bind fun x4 => ((listAt p0 x3).bind fun x5 => ((T65 x4 x5).bind fun x6 => (bif (!x6) then (some (.inr 16)) else ((listAt p1 x2).bind fun x7 => ((T132 x1.f2 1 x7.f5).bind fun x8 => (bif (!x8) then (some (.inr 1)) else (bif (ltI 0 z0.2.2) then ((listAt p2 (subI .i64 z0.2.2 1)).bind fun x9 => ((listAt p2 (subI .i64 z0.2.2 1)).bind fun x10 => ((T170 ([x9.f0, x10.f1] : List ByteArray) ([x1.f0, x1.f1] : List ByteArray)).bind fun x11 => (bif (leI 0 x11) then (some (.inr 7)) else (some (.inl ())))))) else (some (.inl ())))))))))))) : Option (Unit ⊕ Int)) (Sum.elim (fun (x : Unit) => (.normal, (mkE (s_0.append ((10, .ba 80 0) :: s_1)) (o_0.append [(80, .box [S x1.f0, S x1.f1, I x1.f2] false)]) 131))) (fun (x : Int) => (.ret, (mkE [(6, I x)] [] 131)))) ?_ (fun y12 => ?_)
    · refine gB 2 ?_
      refine gS 0 ?_
      refine gR 9 (rg Try.f85 9) ?_
      refine sg 3 (mkE ((38, B (ltI x2 0)) :: ((37, B (ltI x2 0)) :: ((36, I x2) :: (s_0.append (s_2.append ((11, I x2) :: ((12, I x3) :: s_1))))))) (o_0.append [(80, .box [S x1.f0, S x1.f1, I x1.f2] false)]) 131) ?_
      refine sb 38 (ltI x2 0) ?_ ?_
      · refine se (mkE (s_0.append (s_2.append ((11, I x2) :: ((12, I x3) :: (s_1.append [(35, B true)]))))) (o_0.append [(80, .box [S x1.f0, S x1.f1, I x1.f2] false)]) 131) ?_
        refine pN ?_
        refine pS ?_
        refine gT (.tmp 35) ?_
        refine gS 0 ?_
        refine gR 10 (rg Try.f85 10) ?_
        refine se (mkE [(6, I 8)] [] 131) ?_
        refine pN ?_
        refine pS ?_
        refine gE ?_
        exact pL
      · refine se (mkE (s_0.append (s_2.append ((11, I x2) :: ((12, I x3) :: (s_1.append [(35, B (ltI x3 0))]))))) (o_0.append [(80, .box [S x1.f0, S x1.f1, I x1.f2] false)]) 131) ?_
        refine pN ?_
        refine pS ?_
        refine gC 35 (ltI x3 0) ?_ ?_
        · refine gS 0 ?_
          refine gR 10 (rg Try.f85 10) ?_
          refine se (mkE [(6, I 8)] [] 131) ?_
          refine pN ?_
          refine pS ?_
          refine gE ?_
          exact pL
        · refine gS 0 ?_
          refine gD 11 11 (rg Try.f85 11) [0, 1, 2, 3, 4, 5, 6, 7, 8, 9, 10] ?_
          refine dg 2 [(some 43, qe (LL a53 p1)), (some 44, qe (I x2))] ?_
          refine dv 45 (mkE ((44, I x2) :: ((43, LL a53 p1) :: (s_0.append (s_2.append ((11, I x2) :: ((12, I x3) :: (s_1.append [(35, B (ltI x3 0))]))))))) (o_0.append [(80, .box [S x1.f0, S x1.f1, I x1.f2] false)]) 131) (addrE 29 54 8 a53 .i64 p1 x2) (fun x4 => ?_)
          refine dg 6 [(some 43, qe (LL a53 p1)), (some 44, qe (I x2)), (some 45, qe (.ia [S x4.f0, S x4.f1, I x4.f2.f0, I x4.f2.f1, LL S x4.f3, I x4.f4, I x4.f5, I x4.f6] 0)), (some 46, qe (a53 x4)), (some 47, qe (LL a90 p0)), (some 48, qe (I x3))] ?_
          refine dv 49 (mkE ((48, I x3) :: ((47, LL a90 p0) :: (s_0.append (s_2.append ((11, I x2) :: ((12, I x3) :: (s_1.append [(35, B (ltI x3 0))]))))))) (o_0.append [(80, .box [S x1.f0, S x1.f1, I x1.f2] false)]) 131) (addrE 28 91 5 a90 .i64 p0 x3) (fun x5 => ?_)
          refine dg 8 [(some 43, qe (LL a53 p1)), (some 44, qe (I x2)), (some 45, qe (.ia [S x4.f0, S x4.f1, I x4.f2.f0, I x4.f2.f1, LL S x4.f3, I x4.f4, I x4.f5, I x4.f6] 0)), (some 46, qe (a53 x4)), (some 47, qe (LL a90 p0)), (some 48, qe (I x3)), (some 49, qe (.ia [S x5.f0, I x5.f1.f0, I x5.f1.f1, I x5.f2, LL S x5.f3] 0)), (some 50, qe (a90 x5))] ?_
          refine dc 51 [] (mkE ((50, a90 x5) :: ((49, .ia [S x5.f0, I x5.f1.f0, I x5.f1.f1, I x5.f2, LL S x5.f3] 0) :: ((48, I x3) :: ((47, LL a90 p0) :: ((46, a53 x4) :: ((45, .ia [S x4.f0, S x4.f1, I x4.f2.f0, I x4.f2.f1, LL S x4.f3, I x4.f4, I x4.f5, I x4.f6] 0) :: ((44, I x2) :: ((43, LL a53 p1) :: (s_0.append (s_2.append ((11, I x2) :: ((12, I x3) :: (s_1.append [(35, B (ltI x3 0))]))))))))))))) (o_0.append [(80, .box [S x1.f0, S x1.f1, I x1.f2] false)]) 131) (h65 x4 x5) (fun x6 => ?_)
          refine dg 11 [(some 43, qe (LL a53 p1)), (some 44, qe (I x2)), (some 45, qe (.ia [S x4.f0, S x4.f1, I x4.f2.f0, I x4.f2.f1, LL S x4.f3, I x4.f4, I x4.f5, I x4.f6] 0)), (some 46, qe (a53 x4)), (some 47, qe (LL a90 p0)), (some 48, qe (I x3)), (some 49, qe (.ia [S x5.f0, I x5.f1.f0, I x5.f1.f1, I x5.f2, LL S x5.f3] 0)), (some 50, qe (a90 x5)), (some 51, qe (B x6)), (some 52, qe (B (!x6))), (some 42, qe (B (!x6)))] ?_
          refine de (mkE ((42, B (!x6)) :: ((52, B (!x6)) :: ((51, B x6) :: ((50, a90 x5) :: ((49, .ia [S x5.f0, I x5.f1.f0, I x5.f1.f1, I x5.f2, LL S x5.f3] 0) :: ((48, I x3) :: ((47, LL a90 p0) :: ((46, a53 x4) :: ((45, .ia [S x4.f0, S x4.f1, I x4.f2.f0, I x4.f2.f1, LL S x4.f3, I x4.f4, I x4.f5, I x4.f6] 0) :: ((44, I x2) :: ((43, LL a53 p1) :: (s_0.append (s_2.append ((11, I x2) :: ((12, I x3) :: (s_1.append [(35, B (ltI x3 0))])))))))))))))))) (o_0.append [(80, .box [S x1.f0, S x1.f1, I x1.f2] false)]) 131) ?_
          refine se (mkE (s_0.append (s_2.append ((11, I x2) :: (s_1.append [(42, B (!x6))])))) (o_0.append [(80, .box [S x1.f0, S x1.f1, I x1.f2] false)]) 131) ?_
          refine pN ?_
          refine pS ?_
          refine gC 42 (!x6) ?_ ?_
          · refine gS 0 ?_
            refine gR 12 (rg Try.f85 12) ?_
            refine se (mkE [(6, I 16)] [] 131) ?_
            refine pN ?_
            refine pS ?_
            refine gE ?_
            exact pL
          · refine gS 0 ?_
            refine gD 13 10 (rg Try.f85 13) [0, 1, 2, 3, 4, 5, 6, 7, 8, 9] ?_
            refine dg 4 [(some 54, qe (.ba 80 2)), (some 55, qe (I x1.f2)), (some 56, qe (LL a53 p1)), (some 57, qe (I x2))] ?_
            refine dv 58 (mkE ((57, I x2) :: ((56, LL a53 p1) :: (s_0.append (s_2.append ((11, I x2) :: (s_1.append [(42, B (!x6))])))))) (o_0.append [(80, .box [S x1.f0, S x1.f1, I x1.f2] false)]) 131) (addrE 29 54 8 a53 .i64 p1 x2) (fun x7 => ?_)
            refine dg 7 [(some 54, qe (.ba 80 2)), (some 55, qe (I x1.f2)), (some 56, qe (LL a53 p1)), (some 57, qe (I x2)), (some 58, qe (.ia [S x7.f0, S x7.f1, I x7.f2.f0, I x7.f2.f1, LL S x7.f3, I x7.f4, I x7.f5, I x7.f6] 0)), (some 59, qe (.ia [S x7.f0, S x7.f1, I x7.f2.f0, I x7.f2.f1, LL S x7.f3, I x7.f4, I x7.f5, I x7.f6] 6)), (some 60, qe (I x7.f5))] ?_
            refine dc 61 [] (mkE ((60, I x7.f5) :: ((59, .ia [S x7.f0, S x7.f1, I x7.f2.f0, I x7.f2.f1, LL S x7.f3, I x7.f4, I x7.f5, I x7.f6] 6) :: ((58, .ia [S x7.f0, S x7.f1, I x7.f2.f0, I x7.f2.f1, LL S x7.f3, I x7.f4, I x7.f5, I x7.f6] 0) :: ((57, I x2) :: ((56, LL a53 p1) :: ((55, I x1.f2) :: ((54, .ba 80 2) :: (s_0.append (s_2.append ((11, I x2) :: (s_1.append [(42, B (!x6))]))))))))))) (o_0.append [(80, .box [S x1.f0, S x1.f1, I x1.f2] false)]) 131) (h132 x1.f2 1 x7.f5) (fun x8 => ?_)
            refine dg 10 [(some 54, qe (.ba 80 2)), (some 55, qe (I x1.f2)), (some 56, qe (LL a53 p1)), (some 57, qe (I x2)), (some 58, qe (.ia [S x7.f0, S x7.f1, I x7.f2.f0, I x7.f2.f1, LL S x7.f3, I x7.f4, I x7.f5, I x7.f6] 0)), (some 59, qe (.ia [S x7.f0, S x7.f1, I x7.f2.f0, I x7.f2.f1, LL S x7.f3, I x7.f4, I x7.f5, I x7.f6] 6)), (some 60, qe (I x7.f5)), (some 61, qe (B x8)), (some 62, qe (B (!x8))), (some 53, qe (B (!x8)))] ?_
            refine de (mkE ((53, B (!x8)) :: ((62, B (!x8)) :: ((61, B x8) :: ((60, I x7.f5) :: ((59, .ia [S x7.f0, S x7.f1, I x7.f2.f0, I x7.f2.f1, LL S x7.f3, I x7.f4, I x7.f5, I x7.f6] 6) :: ((58, .ia [S x7.f0, S x7.f1, I x7.f2.f0, I x7.f2.f1, LL S x7.f3, I x7.f4, I x7.f5, I x7.f6] 0) :: ((57, I x2) :: ((56, LL a53 p1) :: ((55, I x1.f2) :: ((54, .ba 80 2) :: (s_0.append (s_2.append ((11, I x2) :: (s_1.append [(42, B (!x6))])))))))))))))) (o_0.append [(80, .box [S x1.f0, S x1.f1, I x1.f2] false)]) 131) ?_
            refine se (mkE (s_0.append (s_2.append (s_1.append [(53, B (!x8))]))) (o_0.append [(80, .box [S x1.f0, S x1.f1, I x1.f2] false)]) 131) ?_
            refine pN ?_
            refine pS ?_
            refine gC 53 (!x8) ?_ ?_
            · refine gS 0 ?_
              refine gR 14 (rg Try.f85 14) ?_
              refine se (mkE [(6, I 1)] [] 131) ?_
              refine pN ?_
              refine pS ?_
              refine gE ?_
              exact pL
            · refine gS 0 ?_
              refine gD 15 25 (rg Try.f85 15) [0, 1, 2, 3, 4, 5, 6, 7, 8, 9, 10, 11, 12, 13, 14, 15, 16, 17, 18, 19, 20, 21, 22, 23, 24] ?_
              refine dg 3 [(some 64, qe (I z0.2.2)), (some 65, qe (B (ltI 0 z0.2.2))), (some 66, qe (B (ltI 0 z0.2.2)))] ?_
              refine db 2 66 (ltI 0 z0.2.2) ?_ ?_
              · refine dg 6 d_0 ?_
                refine dv 70 (mkE (s_3.append (s_0.append (s_2.append (s_1.append [(53, B (!x8))])))) (o_0.append [(80, .box [S x1.f0, S x1.f1, I x1.f2] false)]) 131) (addrE 47 50 3 a49 .i64 p2 (subI .i64 z0.2.2 1)) (fun x9 => ?_)
                refine dg 12 (d_0.append ((some 70, qe (.ia [S x9.f0, S x9.f1, I x9.f2] 0)) :: ((some 71, qe (.ia [S x9.f0, S x9.f1, I x9.f2] 0)) :: ((some 72, qe (S x9.f0)) :: d_1)))) ?_
                refine dv 76 (mkE ((75, I (subI .i64 z0.2.2 1)) :: ((74, I z0.2.2) :: ((73, LL a49 p2) :: ((66, B true) :: ((65, B (ltI 0 z0.2.2)) :: ((64, I z0.2.2) :: (s_0.append (s_2.append (s_1.append [(53, B (!x8))]))))))))) (o_0.append [(80, .box [S x1.f0, S x1.f1, I x1.f2] false)]) 131) (addrE 47 50 3 a49 .i64 p2 (subI .i64 z0.2.2 1)) (fun x10 => ?_)
                refine dg 21 (d_0.append ((some 70, qe (.ia [S x9.f0, S x9.f1, I x9.f2] 0)) :: ((some 71, qe (.ia [S x9.f0, S x9.f1, I x9.f2] 0)) :: ((some 72, qe (S x9.f0)) :: (d_1.append ((some 76, qe (.ia [S x10.f0, S x10.f1, I x10.f2] 0)) :: ((some 77, qe (.ia [S x10.f0, S x10.f1, I x10.f2] 1)) :: ((some 78, qe (S x10.f1)) :: ((some 79, { e := { val := .own 632 0, news := [(632, RR 9 1 S ([x9.f0, x10.f1] : List ByteArray) 0 false)] } }) :: ((some 80, qe (.ba 80 0)) :: ((some 81, qe (S x1.f0)) :: ((some 82, qe (.ba 80 1)) :: ((some 83, qe (S x1.f1)) :: [(some 84, { e := { val := .own 672 0, news := [(672, RR 9 1 S ([x1.f0, x1.f1] : List ByteArray) 0 false)] } })]))))))))))))) ?_
                refine dc 85 [632, 672] (mkE ((84, .own 672 0) :: ((83, S x1.f1) :: ((82, .ba 80 1) :: ((81, S x1.f0) :: ((80, .ba 80 0) :: ((79, .own 632 0) :: ((78, S x10.f1) :: ((77, .ia [S x10.f0, S x10.f1, I x10.f2] 1) :: ((76, .ia [S x10.f0, S x10.f1, I x10.f2] 0) :: ((75, I (subI .i64 z0.2.2 1)) :: ((74, I z0.2.2) :: ((73, LL a49 p2) :: ((72, S x9.f0) :: ((71, .ia [S x9.f0, S x9.f1, I x9.f2] 0) :: ((70, .ia [S x9.f0, S x9.f1, I x9.f2] 0) :: (s_3.append (s_0.append (s_2.append (s_1.append [(53, B (!x8))]))))))))))))))))))) ((672, RR 9 1 S ([x1.f0, x1.f1] : List ByteArray) 0 false) :: ((632, RR 9 1 S ([x9.f0, x10.f1] : List ByteArray) 0 false) :: (o_0.append [(80, .box [S x1.f0, S x1.f1, I x1.f2] false)]))) 131) (h170 ([x9.f0, x10.f1] : List ByteArray) ([x1.f0, x1.f1] : List ByteArray)) (fun x11 => ?_)
                refine dg 25 (d_0.append ((some 70, qe (.ia [S x9.f0, S x9.f1, I x9.f2] 0)) :: ((some 71, qe (.ia [S x9.f0, S x9.f1, I x9.f2] 0)) :: ((some 72, qe (S x9.f0)) :: (d_1.append ((some 76, qe (.ia [S x10.f0, S x10.f1, I x10.f2] 0)) :: ((some 77, qe (.ia [S x10.f0, S x10.f1, I x10.f2] 1)) :: ((some 78, qe (S x10.f1)) :: ((some 79, { e := { val := .own 632 0, news := [(632, RR 9 1 S ([x9.f0, x10.f1] : List ByteArray) 0 false)] } }) :: ((some 80, qe (.ba 80 0)) :: ((some 81, qe (S x1.f0)) :: ((some 82, qe (.ba 80 1)) :: ((some 83, qe (S x1.f1)) :: ((some 84, { e := { val := .own 672 0, news := [(672, RR 9 1 S ([x1.f0, x1.f1] : List ByteArray) 0 false)] } }) :: ((some 85, qe (I x11)) :: ((some 86, qe (B (leI 0 x11))) :: ((some 87, qe (B (leI 0 x11))) :: [(some 63, qe (B (leI 0 x11)))]))))))))))))))))) ?_
                refine de (mkE ((63, B (leI 0 x11)) :: ((87, B (leI 0 x11)) :: ((86, B (leI 0 x11)) :: ((85, I x11) :: ((84, .own 672 0) :: ((83, S x1.f1) :: ((82, .ba 80 1) :: ((81, S x1.f0) :: ((80, .ba 80 0) :: ((79, .own 632 0) :: ((78, S x10.f1) :: ((77, .ia [S x10.f0, S x10.f1, I x10.f2] 1) :: ((76, .ia [S x10.f0, S x10.f1, I x10.f2] 0) :: ((75, I (subI .i64 z0.2.2 1)) :: ((74, I z0.2.2) :: ((73, LL a49 p2) :: ((72, S x9.f0) :: ((71, .ia [S x9.f0, S x9.f1, I x9.f2] 0) :: ((70, .ia [S x9.f0, S x9.f1, I x9.f2] 0) :: (s_3.append (s_0.append (s_2.append (s_1.append [(53, B (!x8))]))))))))))))))))))))))) ((672, RR 9 1 S ([x1.f0, x1.f1] : List ByteArray) 0 false) :: ((632, RR 9 1 S ([x9.f0, x10.f1] : List ByteArray) 0 false) :: (o_0.append [(80, .box [S x1.f0, S x1.f1, I x1.f2] false)]))) 131) ?_
                refine se (mkE (s_0.append ((10, .ba 80 0) :: (s_1.append [(63, B (leI 0 x11))]))) (o_0.append [(80, .box [S x1.f0, S x1.f1, I x1.f2] false)]) 131) ?_
                refine pN ?_
                refine pS ?_
                refine gC 63 (leI 0 x11) ?_ ?_
                · refine gS 0 ?_
                  refine gR 16 (rg Try.f85 16) ?_
                  refine se (mkE [(6, I 7)] [] 131) ?_
                  refine pN ?_
                  refine pS ?_
                  refine gE ?_
                  exact pL
                · refine gK ?_
                  refine pB ?_
                  refine pG (mkE (s_0.append ((10, .ba 80 0) :: s_1)) (o_0.append [(80, .box [S x1.f0, S x1.f1, I x1.f2] false)]) 131) ?_
                  exact pL
              · refine dg 25 [(some 64, qe (I z0.2.2)), (some 65, qe (B (ltI 0 z0.2.2))), (some 66, qe (B false)), (some 67, qe (.und)), (some 68, qe (.und)), (some 69, qe (.und)), (some 70, qe (.und)), (some 71, qe (.und)), (some 72, qe (.und)), (some 73, qe (.und)), (some 74, qe (.und)), (some 75, qe (.und)), (some 76, qe (.und)), (some 77, qe (.und)), (some 78, qe (.und)), (some 79, qe (.und)), (some 80, qe (.und)), (some 81, qe (.und)), (some 82, qe (.und)), (some 83, qe (.und)), (some 84, qe (.und)), (some 85, qe (.und)), (some 86, qe (.und)), (some 87, qe (B false)), (some 63, qe (B false))] ?_
                refine de (mkE ((63, B false) :: ((87, B false) :: ((86, .und) :: ((85, .und) :: ((84, .und) :: ((83, .und) :: ((82, .und) :: ((81, .und) :: ((80, .und) :: ((79, .und) :: ((78, .und) :: ((77, .und) :: ((76, .und) :: ((75, .und) :: ((74, .und) :: ((73, .und) :: ((72, .und) :: ((71, .und) :: ((70, .und) :: ((69, .und) :: ((68, .und) :: ((67, .und) :: ((66, B false) :: ((65, B (ltI 0 z0.2.2)) :: ((64, I z0.2.2) :: (s_0.append (s_2.append (s_1.append [(53, B (!x8))])))))))))))))))))))))))))))) (o_0.append [(80, .box [S x1.f0, S x1.f1, I x1.f2] false)]) 131) ?_
                refine se (mkE (s_0.append ((10, .ba 80 0) :: (s_1.append [(63, B false)]))) (o_0.append [(80, .box [S x1.f0, S x1.f1, I x1.f2] false)]) 131) ?_
                refine pN ?_
                refine pS ?_
                refine gF (.tmp 63) ?_
                refine gK ?_
                refine pB ?_
                refine pG (mkE (s_0.append ((10, .ba 80 0) :: s_1)) (o_0.append [(80, .box [S x1.f0, S x1.f1, I x1.f2] false)]) 131) ?_
                exact pL
    refine ss y12 (Z := (Sum.elim (fun (x : Unit) => (.normal, (mkE (s_0.append ((10, .ba 80 0) :: s_1)) (o_0.append [(80, .box [S x1.f0, S x1.f1, I x1.f2] false)]) 131))) (fun (x : Int) => (.ret, (mkE [(6, I x)] [] 131))))) (fun y12a => ?_) (fun y12b => ?_)
    · refine pS ?_
      refine gS 18 ?_
      refine gR 17 (rg Try.f85 17) ?_
      refine sg 3 (mkE ((90, S x1.f1) :: ((89, .ba 80 1) :: ((88, .mr 56) :: (s_0.append ((10, .ba 80 0) :: s_1))))) (o_0.append [(80, .box [S x1.f0, S x1.f1, I x1.f2] false)]) 131) ?_
      refine eo 91 (I ((mgetB eqB z0.1 x1.f1).getD 0)) (mapE 202 9 3 56 false S I eqB z0.1 x1.f1 0 sameS) ?_
      refine sg 7 (mkE ((94, I (addI .i64 ((mgetB eqB z0.1 x1.f1).getD 0) x1.f2)) :: ((93, I x1.f2) :: ((92, .ba 80 2) :: ((91, I ((mgetB eqB z0.1 x1.f1).getD 0)) :: ((90, S x1.f1) :: ((89, .ba 80 1) :: ((88, .mr 56) :: (s_0.append ((10, .ba 80 0) :: s_1))))))))) (o_0.append [(80, .box [S x1.f0, S x1.f1, I x1.f2] false)]) 131) ?_
      refine mo none (mapO_ 202 9 3 56 S I eqB z0.1 x1.f1 (I (addI .i64 ((mgetB eqB z0.1 x1.f1).getD 0) x1.f2)) (addI .i64 ((mgetB eqB z0.1 x1.f1).getD 0) x1.f2) [] sameS) (fun x13 => ?_)
      refine se (mkE (s_0.append ((10, .ba 80 0) :: s_1)) [(56, MP S I x13 false), (64, MP S I z0.2.1 false), (80, .box [S x1.f0, S x1.f1, I x1.f2] false)] 131) ?_
      refine pN ?_
      refine pS ?_
      refine gR 18 (rg Try.f85 18) ?_
      refine sg 3 (mkE ((97, S x1.f0) :: ((96, .ba 80 0) :: ((95, .mr 64) :: (s_0.append ((10, .ba 80 0) :: s_1))))) [(56, MP S I x13 false), (64, MP S I z0.2.1 false), (80, .box [S x1.f0, S x1.f1, I x1.f2] false)] 131) ?_
      refine eo 98 (I ((mgetB eqB z0.2.1 x1.f0).getD 0)) (mapE 202 9 3 64 false S I eqB z0.2.1 x1.f0 0 sameS) ?_
      refine sg 7 (mkE ((101, I (addI .i64 ((mgetB eqB z0.2.1 x1.f0).getD 0) x1.f2)) :: ((100, I x1.f2) :: ((99, .ba 80 2) :: ((98, I ((mgetB eqB z0.2.1 x1.f0).getD 0)) :: ((97, S x1.f0) :: ((96, .ba 80 0) :: ((95, .mr 64) :: (s_0.append ((10, .ba 80 0) :: s_1))))))))) [(56, MP S I x13 false), (64, MP S I z0.2.1 false), (80, .box [S x1.f0, S x1.f1, I x1.f2] false)] 131) ?_
      refine mo none (mapO_ 202 9 3 64 S I eqB z0.2.1 x1.f0 (I (addI .i64 ((mgetB eqB z0.2.1 x1.f0).getD 0) x1.f2)) (addI .i64 ((mgetB eqB z0.2.1 x1.f0).getD 0) x1.f2) [] sameS) (fun x14 => ?_)
      refine se (mkE (s_0.append s_1) [(56, MP S I x13 false), (64, MP S I x14 false)] 131) ?_
      refine pB ?_
      refine pN ?_
      refine pS ?_
      refine gR 19 (rg Try.f85 19) ?_
      refine se (mkE (s_0.append ((22, LL a49 p2) :: ((23, I (lenL p2)) :: [(24, I (addI .i64 z0.2.2 1))]))) [(56, MP S I x13 false), (64, MP S I x14 false)] 131) ?_
      exact pL
    · exact pL
  · refine gX 0 ?_
    exact pL
noncomputable def L85_21 (p0 : (List S90)) (p1 : (List S53)) (z1 : ((List (ByteArray × Int)) × (List (ByteArray × Int)) × Int)) : Option (((List (ByteArray × Int)) × (List (ByteArray × Int)) × Int) ⊕ ((Int × Bool × (List (ByteArray × Int)) × (List (ByteArray × Int))) ⊕ Unit)) := (bif (ltI z1.2.2 (lenL p0)) then ((listAt p0 z1.2.2).bind fun x16 => (bif (ltI x16.f2 ((mgetB eqB z1.1 x16.f0).getD 0)) then (some (.inr (.inr ()))) else (some (.inl (z1.1, z1.2.1, (addI .i64 z1.2.2 1)))))) else (some (.inr (.inl (z1.2.2, (ltI z1.2.2 (lenL p0)), z1.1, z1.2.1)))))
theorem L85_21_ok (C : Callee) (p0 : (List S90)) (p1 : (List S53)) (z1 : ((List (ByteArray × Int)) × (List (ByteArray × Int)) × Int)) : runs Try.prog C (cfg.fn 85) (finLoop ((cfg.fn 85).keep 21) ((cfg.fn 85).al 21)) [] (execA Try.prog C (cfg.fn 85) (nr Try.f85 [false, false, true, false, true, true, true, true]) ((fun z1 : ((List (ByteArray × Int)) × (List (ByteArray × Int)) × Int) => (mkE [(1, LL a53 p1), (7, .mr 56), (8, .mr 64), (103, LL a90 p0), (104, I (lenL p0)), (105, I z1.2.2)] [(56, MP S I z1.1 false), (64, MP S I z1.2.1 false)] 131)) z1)) = (L85_21 p0 p1 z1).map (Sum.elim (fun z => .inl ((fun z1 : ((List (ByteArray × Int)) × (List (ByteArray × Int)) × Int) => (mkE [(1, LL a53 p1), (7, .mr 56), (8, .mr 64), (103, LL a90 p0), (104, I (lenL p0)), (105, I z1.2.2)] [(56, MP S I z1.1 false), (64, MP S I z1.2.1 false)] 131)) z)) (fun x => .inr ((Sum.elim (fun (x : (Int × Bool × (List (ByteArray × Int)) × (List (ByteArray × Int)))) => (.exit 3, (mkE [(1, LL a53 p1), (7, .mr 56), (8, .mr 64), (103, LL a90 p0), (104, I (lenL p0)), (105, I x.1), (106, B x.2.1)] [(56, MP S I x.2.2.1 false), (64, MP S I x.2.2.2 false)] 131))) (fun (x : Unit) => (.ret, (mkE [(6, I 12)] [] 131)))) x))) := by
  unfold L85_21
  let s_0 : List (Nat × AV) := [(1, LL a53 p1), (7, .mr 56), (8, .mr 64), (103, LL a90 p0), (104, I (lenL p0))]
  let o_0 : List (Nat × AObj) := [(56, MP S I z1.1 false), (64, MP S I z1.2.1 false)]
  refine gS 0 ?_
  refine gR 21 (rg Try.f85 21) ?_
  refine se (mkE (s_0.append ((105, I z1.2.2) :: [(106, B (ltI z1.2.2 (lenL p0)))])) o_0 131) ?_
  refine pN ?_
  refine pS ?_
  refine gS 22 ?_
  refine gC 106 (ltI z1.2.2 (lenL p0)) ?_ ?_
  · refine gK ?_
    refine pN ?_
    refine pS ?_
    refine gS 25 ?_
    refine gB 4 ?_
    refine gS 23 ?_
    refine gR 22 (rg Try.f85 22) ?_
    refine vo 107 (addrE 28 91 5 a90 .i64 p0 z1.2.2) (fun x16 => ?_)
    refine se (mkE [(1, LL a53 p1), (7, .mr 56), (8, .mr 64), (14, .ba 112 0), (103, LL a90 p0), (104, I (lenL p0)), (105, I z1.2.2)] (o_0.append [(112, .box [S x16.f0, I x16.f1.f0, I x16.f1.f1, I x16.f2, LL S x16.f3] false)]) 131) ?_
    refine pN ?_
    refine pS ?_
    refine gS 0 ?_
    refine gR 23 (rg Try.f85 23) ?_
    refine sg 3 (mkE [(111, S x16.f0), (110, .ba 112 0), (109, .mr 56), (1, LL a53 p1), (7, .mr 56), (8, .mr 64), (14, .ba 112 0), (103, LL a90 p0), (104, I (lenL p0)), (105, I z1.2.2)] (o_0.append [(112, .box [S x16.f0, I x16.f1.f0, I x16.f1.f1, I x16.f2, LL S x16.f3] false)]) 131) ?_
    refine eo 112 (I ((mgetB eqB z1.1 x16.f0).getD 0)) (mapE 202 9 3 56 false S I eqB z1.1 x16.f0 0 sameS) ?_
    refine se (mkE (s_0.append ((105, I z1.2.2) :: [(115, B (ltI x16.f2 ((mgetB eqB z1.1 x16.f0).getD 0)))])) o_0 131) ?_
    refine pN ?_
    refine pS ?_
    refine gC 115 (ltI x16.f2 ((mgetB eqB z1.1 x16.f0).getD 0)) ?_ ?_
    · refine gS 0 ?_
      refine gR 24 (rg Try.f85 24) ?_
      refine se (mkE [(6, I 12)] [] 131) ?_
      refine pN ?_
      refine pS ?_
      refine gE ?_
      exact pL
    · refine gK ?_
      refine pB ?_
      refine pN ?_
      refine pS ?_
      refine gR 25 (rg Try.f85 25) ?_
      refine se (mkE (s_0.append [(105, I (addI .i64 z1.2.2 1))]) o_0 131) ?_
      exact pL
  · refine gX 3 ?_
    exact pL
noncomputable def L85_27 (p1 : (List S53)) (z2 : ((List (ByteArray × Int)) × Int)) : Option (((List (ByteArray × Int)) × Int) ⊕ ((Int × Bool × (List (ByteArray × Int))) ⊕ Unit)) := (bif (ltI z2.2 (lenL p1)) then ((listAt p1 z2.2).bind fun x18 => (bif (ltI x18.f4 ((mgetB eqB z2.1 x18.f0).getD 0)) then (some (.inr (.inr ()))) else (some (.inl (z2.1, (addI .i64 z2.2 1)))))) else (some (.inr (.inl (z2.2, (ltI z2.2 (lenL p1)), z2.1)))))
theorem L85_27_ok (C : Callee) (p1 : (List S53)) (z2 : ((List (ByteArray × Int)) × Int)) : runs Try.prog C (cfg.fn 85) (finLoop ((cfg.fn 85).keep 27) ((cfg.fn 85).al 27)) [] (execA Try.prog C (cfg.fn 85) (nr Try.f85 [false, false, true, false, true, true, true, true, true]) ((fun z2 : ((List (ByteArray × Int)) × Int) => (mkE [(8, .mr 64), (117, LL a53 p1), (118, I (lenL p1)), (119, I z2.2)] [(64, MP S I z2.1 false)] 131)) z2)) = (L85_27 p1 z2).map (Sum.elim (fun z => .inl ((fun z2 : ((List (ByteArray × Int)) × Int) => (mkE [(8, .mr 64), (117, LL a53 p1), (118, I (lenL p1)), (119, I z2.2)] [(64, MP S I z2.1 false)] 131)) z)) (fun x => .inr ((Sum.elim (fun (x : (Int × Bool × (List (ByteArray × Int)))) => (.exit 5, (mkE [(8, .mr 64), (117, LL a53 p1), (118, I (lenL p1)), (119, I x.1), (120, B x.2.1)] [(64, MP S I x.2.2 false)] 131))) (fun (x : Unit) => (.ret, (mkE [(6, I 12)] [] 131)))) x))) := by
  unfold L85_27
  let s_0 : List (Nat × AV) := [(117, LL a53 p1), (118, I (lenL p1)), (119, I z2.2)]
  refine gS 0 ?_
  refine gR 27 (rg Try.f85 27) ?_
  refine se (mkE ((8, .mr 64) :: (s_0.append [(120, B (ltI z2.2 (lenL p1)))])) [(64, MP S I z2.1 false)] 131) ?_
  refine pN ?_
  refine pS ?_
  refine gS 28 ?_
  refine gC 120 (ltI z2.2 (lenL p1)) ?_ ?_
  · refine gK ?_
    refine pN ?_
    refine pS ?_
    refine gS 31 ?_
    refine gB 6 ?_
    refine gS 29 ?_
    refine gR 28 (rg Try.f85 28) ?_
    refine vo 121 (addrE 29 54 8 a53 .i64 p1 z2.2) (fun x18 => ?_)
    refine se (mkE ((8, .mr 64) :: ((16, .ba 128 0) :: s_0)) [(64, MP S I z2.1 false), (128, .box [S x18.f0, S x18.f1, I x18.f2.f0, I x18.f2.f1, LL S x18.f3, I x18.f4, I x18.f5, I x18.f6] false)] 131) ?_
    refine pN ?_
    refine pS ?_
    refine gS 0 ?_
    refine gR 29 (rg Try.f85 29) ?_
    refine sg 3 (mkE ((125, S x18.f0) :: ((124, .ba 128 0) :: ((123, .mr 64) :: ((8, .mr 64) :: ((16, .ba 128 0) :: s_0))))) [(64, MP S I z2.1 false), (128, .box [S x18.f0, S x18.f1, I x18.f2.f0, I x18.f2.f1, LL S x18.f3, I x18.f4, I x18.f5, I x18.f6] false)] 131) ?_
    refine eo 126 (I ((mgetB eqB z2.1 x18.f0).getD 0)) (mapE 202 9 3 64 false S I eqB z2.1 x18.f0 0 sameS) ?_
    refine se (mkE ((8, .mr 64) :: (s_0.append [(129, B (ltI x18.f4 ((mgetB eqB z2.1 x18.f0).getD 0)))])) [(64, MP S I z2.1 false)] 131) ?_
    refine pN ?_
    refine pS ?_
    refine gC 129 (ltI x18.f4 ((mgetB eqB z2.1 x18.f0).getD 0)) ?_ ?_
    · refine gS 0 ?_
      refine gR 30 (rg Try.f85 30) ?_
      refine se (mkE [(6, I 12)] [] 131) ?_
      refine pN ?_
      refine pS ?_
      refine gE ?_
      exact pL
    · refine gK ?_
      refine pB ?_
      refine pN ?_
      refine pS ?_
      refine gR 31 (rg Try.f85 31) ?_
      refine se (mkE [(8, .mr 64), (117, LL a53 p1), (118, I (lenL p1)), (119, I (addI .i64 z2.2 1))] [(64, MP S I z2.1 false)] 131) ?_
      exact pL
  · refine gX 5 ?_
    exact pL
noncomputable def T85 (p0 : (List S90)) (p1 : (List S53)) (p2 : (List S49)) : Option Int := (bif (ltI 1800 (lenL p2)) then (some 2) else ((iter (L85_5 p0 p1 p2) (([] : (List (ByteArray × Int))), ([] : (List (ByteArray × Int))), 0)).bind fun y15 => (Sum.elim (fun y15a => ((iter (L85_21 p0 p1) (y15a.2.2.1, y15a.2.2.2, 0)).bind fun y17 => (Sum.elim (fun y17a => ((iter (L85_27 p1) (y17a.2.2.2, 0)).bind fun y19 => (Sum.elim (fun y19a => (some 0)) (fun y19b => (some 12)) y19))) (fun y17b => (some 12)) y17))) (fun y15b => (some y15b)) y15)))
theorem B85 (C : Callee) (h132 : ∀ (p0 : Int) (p1 : Int) (p2 : Int), C 132 [I p0, I p1, I p2] = (T132 p0 p1 p2).map B) (h166 : ∀ (p0 : (List S53)) (p1_c0 : ByteArray) (p1_c1 : ByteArray) (p1_c2 : Int), C 166 [LL a53 p0, .fn 167 [.ia [S p1_c0, S p1_c1, I p1_c2] 0]] = (T166 p0 p1_c0 p1_c1 p1_c2).map I) (h168 : ∀ (p0 : (List S90)) (p1_c0 : ByteArray) (p1_c1 : ByteArray) (p1_c2 : Int), C 168 [LL a90 p0, .fn 169 [.ia [S p1_c0, S p1_c1, I p1_c2] 0]] = (T168 p0 p1_c0 p1_c1 p1_c2).map I) (h170 : ∀ (p0 : (List ByteArray)) (p1 : (List ByteArray)), C 170 [LL S p0, LL S p1] = (T170 p0 p1).map I) (h65 : ∀ (p0 : S53) (p1 : S90), C 65 [a53 p0, a90 p1] = (T65 p0 p1).map B) (p0 : (List S90)) (p1 : (List S53)) (p2 : (List S49)) : runs Try.prog C (cfg.fn 85) (finFn Try.prog (cfg.fn 85).byval Try.f85) [] (execA Try.prog C (cfg.fn 85) (nr Try.f85 []) (frame0 [LL a90 p0, LL a53 p1, LL a49 p2] 131 false)) = (T85 p0 p1 p2).map I := by
  unfold T85
  let s_0 : List (Nat × AV) := [(0, LL a90 p0), (1, LL a53 p1), (2, LL a49 p2)]
  let s_1 : List (Nat × AV) := [(1, LL a53 p1), (7, .mr 56), (8, .mr 64), (103, LL a90 p0), (104, I (lenL p0))]
  let s_2 : List (Nat × AV) := [(7, .mr 56), (8, .mr 64), (22, LL a49 p2), (23, I (lenL p2))]
  let s_3 : List (Nat × AV) := [(8, .mr 64), (117, LL a53 p1), (118, I (lenL p1))]
  let o_0 : List (Nat × AObj) := [(160, MP S I ([] : (List (ByteArray × Int))) false), (168, MP S I ([] : (List (ByteArray × Int))) false)]
  refine gS 1 ?_
  refine gR 0 (rg Try.f85 0) ?_
  refine se (mkE s_0 [] 131) ?_
  refine pN ?_
  refine pS ?_
  refine gS 3 ?_
  refine gS 0 ?_
  refine gR 1 (rg Try.f85 1) ?_
  refine sg 1 (mkE ((17, LL a49 p2) :: s_0) [] 131) ?_
  refine eo 18 (I (lenL p2)) (lenE 47 a49 p2) ?_
  refine se (mkE (s_0.append [(19, B (ltI 1800 (lenL p2)))]) [] 131) ?_
  refine pN ?_
  refine pS ?_
  refine gC 19 (ltI 1800 (lenL p2)) ?_ ?_
  · refine gS 0 ?_
    refine gR 2 (rg Try.f85 2) ?_
    refine se (mkE [(6, I 2)] [] 131) ?_
    refine pN ?_
    refine pS ?_
    refine gE ?_
    exact pL
  · refine gK ?_
    refine pN ?_
    refine pS ?_
    refine gS 4 ?_
    refine gR 3 (rg Try.f85 3) ?_
    refine se (mkE (s_0.append ((7, .mr 160) :: [(8, .mr 168)])) o_0 131) ?_
    refine pN ?_
    refine pS ?_
    refine gS 20 ?_
    refine gS 5 ?_
    refine gR 4 (rg Try.f85 4) ?_
    refine sg 1 (mkE ((22, LL a49 p2) :: (s_0.append ((7, .mr 160) :: [(8, .mr 168)]))) o_0 131) ?_
    refine eo 23 (I (lenL p2)) (lenE 47 a49 p2) ?_
    refine se (mkE (s_0.append ((7, .mr 160) :: ((8, .mr 168) :: ((22, LL a49 p2) :: ((23, I (lenL p2)) :: [(24, I 0)]))))) o_0 131) ?_
    refine pN ?_
    refine pS ?_
    refine gB 0 ?_
    refine lo [(0, none), (1, none), (2, none), (7, none), (8, none), (22, none), (23, none), (24, none)] [] (L85_5 p0 p1 p2) (fun z0 : ((List (ByteArray × Int)) × (List (ByteArray × Int)) × Int) => (mkE (s_0.append (s_2.append [(24, I z0.2.2)])) [(56, MP S I z0.1 false), (64, MP S I z0.2.1 false)] 131)) (Sum.elim (fun (x : (Int × Bool × (List (ByteArray × Int)) × (List (ByteArray × Int)))) => (.exit 0, (mkE (s_0.append (s_2.append ((24, I x.1) :: [(25, B x.2.1)]))) [(56, MP S I x.2.2.1 false), (64, MP S I x.2.2.2 false)] 131))) (fun (x : Int) => (.ret, (mkE [(6, I x)] [] 131)))) (([] : (List (ByteArray × Int))), ([] : (List (ByteArray × Int))), 0) (fun z => L85_5_ok C h132 h166 h168 h170 h65 p0 p1 p2 z) ?_
    intro y15
    refine ss y15 (Z := (Sum.elim (fun (x : (Int × Bool × (List (ByteArray × Int)) × (List (ByteArray × Int)))) => (.exit 0, (mkE (s_0.append (s_2.append ((24, I x.1) :: [(25, B x.2.1)]))) [(56, MP S I x.2.2.1 false), (64, MP S I x.2.2.2 false)] 131))) (fun (x : Int) => (.ret, (mkE [(6, I x)] [] 131))))) (fun y15a => ?_) (fun y15b => ?_)
    · refine pH ?_
      refine pN ?_
      refine pS ?_
      refine gS 26 ?_
      refine gS 21 ?_
      refine gR 20 (rg Try.f85 20) ?_
      refine sg 1 (mkE ((103, LL a90 p0) :: (s_0.append (s_2.append ((24, I y15a.1) :: [(25, B y15a.2.1)])))) [(56, MP S I y15a.2.2.1 false), (64, MP S I y15a.2.2.2 false)] 131) ?_
      refine eo 104 (I (lenL p0)) (lenE 28 a90 p0) ?_
      refine se (mkE (s_1.append [(105, I 0)]) [(56, MP S I y15a.2.2.1 false), (64, MP S I y15a.2.2.2 false)] 131) ?_
      refine pN ?_
      refine pS ?_
      refine gB 3 ?_
      refine lo [(1, none), (7, none), (8, none), (103, none), (104, none), (105, none)] [] (L85_21 p0 p1) (fun z1 : ((List (ByteArray × Int)) × (List (ByteArray × Int)) × Int) => (mkE (s_1.append [(105, I z1.2.2)]) [(56, MP S I z1.1 false), (64, MP S I z1.2.1 false)] 131)) (Sum.elim (fun (x : (Int × Bool × (List (ByteArray × Int)) × (List (ByteArray × Int)))) => (.exit 3, (mkE (s_1.append ((105, I x.1) :: [(106, B x.2.1)])) [(56, MP S I x.2.2.1 false), (64, MP S I x.2.2.2 false)] 131))) (fun (x : Unit) => (.ret, (mkE [(6, I 12)] [] 131)))) (y15a.2.2.1, y15a.2.2.2, 0) (fun z => L85_21_ok C p0 p1 z) ?_
      intro y17
      refine ss y17 (Z := (Sum.elim (fun (x : (Int × Bool × (List (ByteArray × Int)) × (List (ByteArray × Int)))) => (.exit 3, (mkE (s_1.append ((105, I x.1) :: [(106, B x.2.1)])) [(56, MP S I x.2.2.1 false), (64, MP S I x.2.2.2 false)] 131))) (fun (x : Unit) => (.ret, (mkE [(6, I 12)] [] 131))))) (fun y17a => ?_) (fun y17b => ?_)
      · refine pH ?_
        refine pN ?_
        refine pS ?_
        refine gS 32 ?_
        refine gS 27 ?_
        refine gR 26 (rg Try.f85 26) ?_
        refine sg 1 (mkE ((117, LL a53 p1) :: (s_1.append ((105, I y17a.1) :: [(106, B y17a.2.1)]))) [(56, MP S I y17a.2.2.1 false), (64, MP S I y17a.2.2.2 false)] 131) ?_
        refine eo 118 (I (lenL p1)) (lenE 29 a53 p1) ?_
        refine se (mkE (s_3.append [(119, I 0)]) [(64, MP S I y17a.2.2.2 false)] 131) ?_
        refine pN ?_
        refine pS ?_
        refine gB 5 ?_
        refine lo [(8, none), (117, none), (118, none), (119, none)] [] (L85_27 p1) (fun z2 : ((List (ByteArray × Int)) × Int) => (mkE (s_3.append [(119, I z2.2)]) [(64, MP S I z2.1 false)] 131)) (Sum.elim (fun (x : (Int × Bool × (List (ByteArray × Int)))) => (.exit 5, (mkE (s_3.append ((119, I x.1) :: [(120, B x.2.1)])) [(64, MP S I x.2.2 false)] 131))) (fun (x : Unit) => (.ret, (mkE [(6, I 12)] [] 131)))) (y17a.2.2.2, 0) (fun z => L85_27_ok C p1 z) ?_
        intro y19
        refine ss y19 (Z := (Sum.elim (fun (x : (Int × Bool × (List (ByteArray × Int)))) => (.exit 5, (mkE (s_3.append ((119, I x.1) :: [(120, B x.2.1)])) [(64, MP S I x.2.2 false)] 131))) (fun (x : Unit) => (.ret, (mkE [(6, I 12)] [] 131))))) (fun y19a => ?_) (fun y19b => ?_)
        · refine pH ?_
          refine pN ?_
          refine pS ?_
          refine gS 0 ?_
          refine gR 32 (rg Try.f85 32) ?_
          refine se (mkE [(6, I 0)] [] 131) ?_
          refine pN ?_
          refine pS ?_
          refine gE ?_
          exact pL
        · exact pL
      · exact pL
    · exact pL
theorem F85 (m : Nat) (hm : 7 ≤ m) (p0 : (List S90)) (p1 : (List S53)) (p2 : (List S49)) : callA Try.prog cfg m 85 [LL a90 p0, LL a53 p1, LL a49 p2] = (T85 p0 p1 p2).map I := by
  obtain ⟨q, rfl⟩ : ∃ q, m = q + 1 := ⟨m - 1, by omega⟩
  exact (callA_body (fn := Try.f85) (c := body_ Try.f85) q _ (by kernel_rfl) (by kernel_rfl) (by kernel_rfl)).trans (B85 _ (fun p0 p1 p2 => F132 q (by omega) p0 p1 p2) (fun p0 p1_c0 p1_c1 p1_c2 => F166 q (by omega) p0 p1_c0 p1_c1 p1_c2) (fun p0 p1_c0 p1_c1 p1_c2 => F168 q (by omega) p0 p1_c0 p1_c1 p1_c2) (fun p0 p1 => F170 q (by omega) p0 p1) (fun p0 p1 => F65 q (by omega) p0 p1) p0 p1 p2)

noncomputable def L137_2 (p0 : ByteArray) (z0 : Int) : Option (Int ⊕ ((Int × Bool) ⊕ Unit)) := (bif (ltI z0 (lenS p0)) then ((byteAt p0 z0).bind fun x1 => (bif (leI 97 x1) then (bif (leI x1 122) then (some (.inl (addI .i64 z0 1))) else (bif (ltI 0 z0) then (bif (leI 48 x1) then (bif (leI x1 57) then (some (.inl (addI .i64 z0 1))) else (bif (eqI x1 45) then (some (.inl (addI .i64 z0 1))) else (bif (!(eqI x1 95)) then (some (.inr (.inr ()))) else (some (.inl (addI .i64 z0 1)))))) else (bif (eqI x1 45) then (some (.inl (addI .i64 z0 1))) else (bif (!(eqI x1 95)) then (some (.inr (.inr ()))) else (some (.inl (addI .i64 z0 1)))))) else (some (.inr (.inr ()))))) else (bif (ltI 0 z0) then (bif (leI 48 x1) then (bif (leI x1 57) then (some (.inl (addI .i64 z0 1))) else (bif (eqI x1 45) then (some (.inl (addI .i64 z0 1))) else (bif (!(eqI x1 95)) then (some (.inr (.inr ()))) else (some (.inl (addI .i64 z0 1)))))) else (bif (eqI x1 45) then (some (.inl (addI .i64 z0 1))) else (bif (!(eqI x1 95)) then (some (.inr (.inr ()))) else (some (.inl (addI .i64 z0 1)))))) else (some (.inr (.inr ())))))) else (some (.inr (.inl (z0, (ltI z0 (lenS p0)))))))
theorem L137_2_ok (C : Callee) (p0 : ByteArray) (z0 : Int) : runs Try.prog C (cfg.fn 137) (finLoop ((cfg.fn 137).keep 2) ((cfg.fn 137).al 2)) [] (execA Try.prog C (cfg.fn 137) (nr Try.f137 [false, false, true, false, true]) ((fun z0 : Int => (mkE [(0, S p0), (3, I z0)] [] 48)) z0)) = (L137_2 p0 z0).map (Sum.elim (fun z => .inl ((fun z0 : Int => (mkE [(0, S p0), (3, I z0)] [] 48)) z)) (fun x => .inr ((Sum.elim (fun (x : (Int × Bool)) => (.exit 0, (mkE [(0, S p0), (3, I x.1), (8, B x.2)] [] 48))) (fun (x : Unit) => (.ret, (mkE [(2, B false)] [] 48)))) x))) := by
  unfold L137_2
  let s_0 : List (Nat × AV) := [(23, B (ltI 0 z0)), (22, B (ltI 0 z0)), (21, I z0), (20, B false)]
  let s_1 : List (Nat × AV) := [(0, S p0), (3, I z0)]
  let s_2 : List (Nat × AV) := [(0, S p0), (3, I (addI .i64 z0 1))]
  let s_3 : List (Nat × AV) := [(19, B false), (18, .und), (17, .und), (16, B false)]
  refine gS 4 ?_
  refine gS 0 ?_
  refine gR 2 (rg Try.f137 2) ?_
  refine se (mkE (s_1.append [(8, B (ltI z0 (lenS p0)))]) [] 48) ?_
  refine pN ?_
  refine pS ?_
  refine gC 8 (ltI z0 (lenS p0)) ?_ ?_
  · refine gK ?_
    refine pN ?_
    refine pS ?_
    refine gS 3 ?_
    refine gB 1 ?_
    refine gS 5 ?_
    refine gR 4 (rg Try.f137 4) ?_
    refine sg 2 (mkE ((12, I z0) :: ((11, S p0) :: (s_1.append [(8, B (ltI z0 (lenS p0)))]))) [] 48) ?_
    refine vo 13 (byteE 9 .i64 p0 z0) (fun x1 => ?_)
    refine se (mkE (s_1.append [(4, U x1)]) [] 48) ?_
    refine pN ?_
    refine pS ?_
    refine gS 0 ?_
    refine gR 5 (rg Try.f137 5) ?_
    refine sg 3 (mkE ((16, B (leI 97 x1)) :: ((15, B (leI 97 x1)) :: ((14, U x1) :: (s_1.append [(4, U x1)])))) [] 48) ?_
    refine sb 16 (leI 97 x1) ?_ ?_
    · refine sg 7 (mkE ((20, B (leI x1 122)) :: ((19, B (leI x1 122)) :: ((18, B (leI x1 122)) :: ((17, U x1) :: ((16, B true) :: ((16, B (leI 97 x1)) :: ((15, B (leI 97 x1)) :: ((14, U x1) :: (s_1.append [(4, U x1)]))))))))) [] 48) ?_
      refine sb 20 (leI x1 122) ?_ ?_
      · refine se (mkE (s_1.append [(40, B false)]) [] 48) ?_
        refine pN ?_
        refine pS ?_
        refine gF (.tmp 40) ?_
        refine gK ?_
        refine pB ?_
        refine pN ?_
        refine pS ?_
        refine gR 3 (rg Try.f137 3) ?_
        refine se (mkE s_2 [] 48) ?_
        exact pL
      · refine sg 10 (mkE (s_0.append ((20, B (leI x1 122)) :: ((19, B (leI x1 122)) :: ((18, B (leI x1 122)) :: ((17, U x1) :: ((16, B true) :: ((16, B (leI 97 x1)) :: ((15, B (leI 97 x1)) :: ((14, U x1) :: (s_1.append [(4, U x1)])))))))))) [] 48) ?_
        refine sb 23 (ltI 0 z0) ?_ ?_
        · refine sg 13 (mkE ((26, B (leI 48 x1)) :: ((25, B (leI 48 x1)) :: ((24, U x1) :: ((23, B true) :: (s_0.append ((20, B (leI x1 122)) :: ((19, B (leI x1 122)) :: ((18, B (leI x1 122)) :: ((17, U x1) :: ((16, B true) :: ((16, B (leI 97 x1)) :: ((15, B (leI 97 x1)) :: ((14, U x1) :: (s_1.append [(4, U x1)])))))))))))))) [] 48) ?_
          refine sb 26 (leI 48 x1) ?_ ?_
          · refine sg 17 (mkE ((30, B (leI x1 57)) :: ((29, B (leI x1 57)) :: ((28, B (leI x1 57)) :: ((27, U x1) :: ((26, B true) :: ((26, B (leI 48 x1)) :: ((25, B (leI 48 x1)) :: ((24, U x1) :: ((23, B true) :: (s_0.append ((20, B (leI x1 122)) :: ((19, B (leI x1 122)) :: ((18, B (leI x1 122)) :: ((17, U x1) :: ((16, B true) :: ((16, B (leI 97 x1)) :: ((15, B (leI 97 x1)) :: ((14, U x1) :: (s_1.append [(4, U x1)]))))))))))))))))))) [] 48) ?_
            refine sb 30 (leI x1 57) ?_ ?_
            · refine se (mkE (s_1.append [(40, B false)]) [] 48) ?_
              refine pN ?_
              refine pS ?_
              refine gF (.tmp 40) ?_
              refine gK ?_
              refine pB ?_
              refine pN ?_
              refine pS ?_
              refine gR 3 (rg Try.f137 3) ?_
              refine se (mkE s_2 [] 48) ?_
              exact pL
            · refine sg 21 (mkE ((34, B (eqI x1 45)) :: ((33, B (eqI x1 45)) :: ((32, B (eqI x1 45)) :: ((31, U x1) :: ((30, B false) :: ((30, B (leI x1 57)) :: ((29, B (leI x1 57)) :: ((28, B (leI x1 57)) :: ((27, U x1) :: ((26, B true) :: ((26, B (leI 48 x1)) :: ((25, B (leI 48 x1)) :: ((24, U x1) :: ((23, B true) :: (s_0.append ((20, B (leI x1 122)) :: ((19, B (leI x1 122)) :: ((18, B (leI x1 122)) :: ((17, U x1) :: ((16, B true) :: ((16, B (leI 97 x1)) :: ((15, B (leI 97 x1)) :: ((14, U x1) :: (s_1.append [(4, U x1)])))))))))))))))))))))))) [] 48) ?_
              refine sb 34 (eqI x1 45) ?_ ?_
              · refine se (mkE (s_1.append [(40, B false)]) [] 48) ?_
                refine pN ?_
                refine pS ?_
                refine gF (.tmp 40) ?_
                refine gK ?_
                refine pB ?_
                refine pN ?_
                refine pS ?_
                refine gR 3 (rg Try.f137 3) ?_
                refine se (mkE s_2 [] 48) ?_
                exact pL
              · refine se (mkE (s_1.append [(40, B (!(eqI x1 95)))]) [] 48) ?_
                refine pN ?_
                refine pS ?_
                refine gC 40 (!(eqI x1 95)) ?_ ?_
                · refine gS 0 ?_
                  refine gR 6 (rg Try.f137 6) ?_
                  refine se (mkE [(2, B false)] [] 48) ?_
                  refine pN ?_
                  refine pS ?_
                  refine gE ?_
                  exact pL
                · refine gK ?_
                  refine pB ?_
                  refine pN ?_
                  refine pS ?_
                  refine gR 3 (rg Try.f137 3) ?_
                  refine se (mkE s_2 [] 48) ?_
                  exact pL
          · refine sg 21 (mkE ((34, B (eqI x1 45)) :: ((33, B (eqI x1 45)) :: ((32, B (eqI x1 45)) :: ((31, U x1) :: ((30, B false) :: ((29, B false) :: ((28, .und) :: ((27, .und) :: ((26, B false) :: ((26, B (leI 48 x1)) :: ((25, B (leI 48 x1)) :: ((24, U x1) :: ((23, B true) :: (s_0.append ((20, B (leI x1 122)) :: ((19, B (leI x1 122)) :: ((18, B (leI x1 122)) :: ((17, U x1) :: ((16, B true) :: ((16, B (leI 97 x1)) :: ((15, B (leI 97 x1)) :: ((14, U x1) :: (s_1.append [(4, U x1)]))))))))))))))))))))))) [] 48) ?_
            refine sb 34 (eqI x1 45) ?_ ?_
            · refine se (mkE (s_1.append [(40, B false)]) [] 48) ?_
              refine pN ?_
              refine pS ?_
              refine gF (.tmp 40) ?_
              refine gK ?_
              refine pB ?_
              refine pN ?_
              refine pS ?_
              refine gR 3 (rg Try.f137 3) ?_
              refine se (mkE s_2 [] 48) ?_
              exact pL
            · refine se (mkE (s_1.append [(40, B (!(eqI x1 95)))]) [] 48) ?_
              refine pN ?_
              refine pS ?_
              refine gC 40 (!(eqI x1 95)) ?_ ?_
              · refine gS 0 ?_
                refine gR 6 (rg Try.f137 6) ?_
                refine se (mkE [(2, B false)] [] 48) ?_
                refine pN ?_
                refine pS ?_
                refine gE ?_
                exact pL
              · refine gK ?_
                refine pB ?_
                refine pN ?_
                refine pS ?_
                refine gR 3 (rg Try.f137 3) ?_
                refine se (mkE s_2 [] 48) ?_
                exact pL
        · refine se (mkE (s_1.append [(40, B true)]) [] 48) ?_
          refine pN ?_
          refine pS ?_
          refine gT (.tmp 40) ?_
          refine gS 0 ?_
          refine gR 6 (rg Try.f137 6) ?_
          refine se (mkE [(2, B false)] [] 48) ?_
          refine pN ?_
          refine pS ?_
          refine gE ?_
          exact pL
    · refine sg 10 (mkE (s_0.append (s_3.append ((16, B (leI 97 x1)) :: ((15, B (leI 97 x1)) :: ((14, U x1) :: (s_1.append [(4, U x1)])))))) [] 48) ?_
      refine sb 23 (ltI 0 z0) ?_ ?_
      · refine sg 13 (mkE ((26, B (leI 48 x1)) :: ((25, B (leI 48 x1)) :: ((24, U x1) :: ((23, B true) :: (s_0.append (s_3.append ((16, B (leI 97 x1)) :: ((15, B (leI 97 x1)) :: ((14, U x1) :: (s_1.append [(4, U x1)])))))))))) [] 48) ?_
        refine sb 26 (leI 48 x1) ?_ ?_
        · refine sg 17 (mkE ((30, B (leI x1 57)) :: ((29, B (leI x1 57)) :: ((28, B (leI x1 57)) :: ((27, U x1) :: ((26, B true) :: ((26, B (leI 48 x1)) :: ((25, B (leI 48 x1)) :: ((24, U x1) :: ((23, B true) :: (s_0.append (s_3.append ((16, B (leI 97 x1)) :: ((15, B (leI 97 x1)) :: ((14, U x1) :: (s_1.append [(4, U x1)]))))))))))))))) [] 48) ?_
          refine sb 30 (leI x1 57) ?_ ?_
          · refine se (mkE (s_1.append [(40, B false)]) [] 48) ?_
            refine pN ?_
            refine pS ?_
            refine gF (.tmp 40) ?_
            refine gK ?_
            refine pB ?_
            refine pN ?_
            refine pS ?_
            refine gR 3 (rg Try.f137 3) ?_
            refine se (mkE s_2 [] 48) ?_
            exact pL
          · refine sg 21 (mkE ((34, B (eqI x1 45)) :: ((33, B (eqI x1 45)) :: ((32, B (eqI x1 45)) :: ((31, U x1) :: ((30, B false) :: ((30, B (leI x1 57)) :: ((29, B (leI x1 57)) :: ((28, B (leI x1 57)) :: ((27, U x1) :: ((26, B true) :: ((26, B (leI 48 x1)) :: ((25, B (leI 48 x1)) :: ((24, U x1) :: ((23, B true) :: (s_0.append (s_3.append ((16, B (leI 97 x1)) :: ((15, B (leI 97 x1)) :: ((14, U x1) :: (s_1.append [(4, U x1)])))))))))))))))))))) [] 48) ?_
            refine sb 34 (eqI x1 45) ?_ ?_
            · refine se (mkE (s_1.append [(40, B false)]) [] 48) ?_
              refine pN ?_
              refine pS ?_
              refine gF (.tmp 40) ?_
              refine gK ?_
              refine pB ?_
              refine pN ?_
              refine pS ?_
              refine gR 3 (rg Try.f137 3) ?_
              refine se (mkE s_2 [] 48) ?_
              exact pL
            · refine se (mkE (s_1.append [(40, B (!(eqI x1 95)))]) [] 48) ?_
              refine pN ?_
              refine pS ?_
              refine gC 40 (!(eqI x1 95)) ?_ ?_
              · refine gS 0 ?_
                refine gR 6 (rg Try.f137 6) ?_
                refine se (mkE [(2, B false)] [] 48) ?_
                refine pN ?_
                refine pS ?_
                refine gE ?_
                exact pL
              · refine gK ?_
                refine pB ?_
                refine pN ?_
                refine pS ?_
                refine gR 3 (rg Try.f137 3) ?_
                refine se (mkE s_2 [] 48) ?_
                exact pL
        · refine sg 21 (mkE ((34, B (eqI x1 45)) :: ((33, B (eqI x1 45)) :: ((32, B (eqI x1 45)) :: ((31, U x1) :: ((30, B false) :: ((29, B false) :: ((28, .und) :: ((27, .und) :: ((26, B false) :: ((26, B (leI 48 x1)) :: ((25, B (leI 48 x1)) :: ((24, U x1) :: ((23, B true) :: (s_0.append (s_3.append ((16, B (leI 97 x1)) :: ((15, B (leI 97 x1)) :: ((14, U x1) :: (s_1.append [(4, U x1)]))))))))))))))))))) [] 48) ?_
          refine sb 34 (eqI x1 45) ?_ ?_
          · refine se (mkE (s_1.append [(40, B false)]) [] 48) ?_
            refine pN ?_
            refine pS ?_
            refine gF (.tmp 40) ?_
            refine gK ?_
            refine pB ?_
            refine pN ?_
            refine pS ?_
            refine gR 3 (rg Try.f137 3) ?_
            refine se (mkE s_2 [] 48) ?_
            exact pL
          · refine se (mkE (s_1.append [(40, B (!(eqI x1 95)))]) [] 48) ?_
            refine pN ?_
            refine pS ?_
            refine gC 40 (!(eqI x1 95)) ?_ ?_
            · refine gS 0 ?_
              refine gR 6 (rg Try.f137 6) ?_
              refine se (mkE [(2, B false)] [] 48) ?_
              refine pN ?_
              refine pS ?_
              refine gE ?_
              exact pL
            · refine gK ?_
              refine pB ?_
              refine pN ?_
              refine pS ?_
              refine gR 3 (rg Try.f137 3) ?_
              refine se (mkE s_2 [] 48) ?_
              exact pL
      · refine se (mkE (s_1.append [(40, B true)]) [] 48) ?_
        refine pN ?_
        refine pS ?_
        refine gT (.tmp 40) ?_
        refine gS 0 ?_
        refine gR 6 (rg Try.f137 6) ?_
        refine se (mkE [(2, B false)] [] 48) ?_
        refine pN ?_
        refine pS ?_
        refine gE ?_
        exact pL
  · refine gX 0 ?_
    exact pL
noncomputable def T137 (p0 : ByteArray) : Option Bool := ((iter (L137_2 p0) 0).bind fun y2 => (Sum.elim (fun y2a => (bif (!eqS p0 (ByteArray.mk #[])) then (some (leI (lenS p0) 40)) else (some false))) (fun y2b => (some false)) y2))
theorem B137 (C : Callee) (p0 : ByteArray) : runs Try.prog C (cfg.fn 137) (finFn Try.prog (cfg.fn 137).byval Try.f137) [] (execA Try.prog C (cfg.fn 137) (nr Try.f137 []) (frame0 [S p0] 48 false)) = (T137 p0).map B := by
  unfold T137
  refine gS 1 ?_
  refine gR 0 (rg Try.f137 0) ?_
  refine se (mkE [(0, S p0)] [] 48) ?_
  refine pN ?_
  refine pS ?_
  refine gS 7 ?_
  refine gS 2 ?_
  refine gR 1 (rg Try.f137 1) ?_
  refine se (mkE [(0, S p0), (3, I 0)] [] 48) ?_
  refine pN ?_
  refine pS ?_
  refine gB 0 ?_
  refine lo [(0, none), (3, none)] [] (L137_2 p0) (fun z0 : Int => (mkE [(0, S p0), (3, I z0)] [] 48)) (Sum.elim (fun (x : (Int × Bool)) => (.exit 0, (mkE [(0, S p0), (3, I x.1), (8, B x.2)] [] 48))) (fun (x : Unit) => (.ret, (mkE [(2, B false)] [] 48)))) 0 (fun z => L137_2_ok C p0 z) ?_
  intro y2
  refine ss y2 (Z := (Sum.elim (fun (x : (Int × Bool)) => (.exit 0, (mkE [(0, S p0), (3, I x.1), (8, B x.2)] [] 48))) (fun (x : Unit) => (.ret, (mkE [(2, B false)] [] 48))))) (fun y2a => ?_) (fun y2b => ?_)
  · refine pH ?_
    refine pN ?_
    refine pS ?_
    refine gS 0 ?_
    refine gR 7 (rg Try.f137 7) ?_
    refine sg 3 (mkE [(43, B (!eqS p0 (ByteArray.mk #[]))), (42, B (!eqS p0 (ByteArray.mk #[]))), (41, S p0), (0, S p0), (3, I y2a.1), (8, B y2a.2)] [] 48) ?_
    refine sb 43 (!eqS p0 (ByteArray.mk #[])) ?_ ?_
    · refine se (mkE [(2, B (leI (lenS p0) 40))] [] 48) ?_
      refine pN ?_
      refine pS ?_
      refine gE ?_
      exact pL
    · refine se (mkE [(2, B false)] [] 48) ?_
      refine pN ?_
      refine pS ?_
      refine gE ?_
      exact pL
  · exact pL
theorem F137 (m : Nat) (hm : 1 ≤ m) (p0 : ByteArray) : callA Try.prog cfg m 137 [S p0] = (T137 p0).map B := by
  obtain ⟨q, rfl⟩ : ∃ q, m = q + 1 := ⟨m - 1, by omega⟩
  exact (callA_body (fn := Try.f137) (c := body_ Try.f137) q _ (by kernel_rfl) (by kernel_rfl) (by kernel_rfl)).trans (B137 _ p0)

noncomputable def T147 (p0 : S38) : Option Bool := (bif (leI 0 p0.f0) then (bif (ltI p0.f0 p0.f1) then (some (leI p0.f1 345686400000)) else (some false)) else (some false))
theorem B147 (C : Callee) (p0 : S38) : runs Try.prog C (cfg.fn 147) (finFn Try.prog (cfg.fn 147).byval Try.f147) [] (execA Try.prog C (cfg.fn 147) (nr Try.f147 []) (frame0 [a38 p0] 18 false)) = (T147 p0).map B := by
  unfold T147
  refine gS 1 ?_
  refine gR 0 (rg Try.f147 0) ?_
  refine se (mkE [(1, .ba 8 0)] [(8, .box [I p0.f0, I p0.f1] false)] 18) ?_
  refine pN ?_
  refine pS ?_
  refine gS 0 ?_
  refine gR 1 (rg Try.f147 1) ?_
  refine sg 4 (mkE [(6, B (leI 0 p0.f0)), (5, B (leI 0 p0.f0)), (4, I p0.f0), (3, .ba 8 0), (1, .ba 8 0)] [(8, .box [I p0.f0, I p0.f1] false)] 18) ?_
  refine sb 6 (leI 0 p0.f0) ?_ ?_
  · refine sg 11 (mkE [(13, B (ltI p0.f0 p0.f1)), (12, B (ltI p0.f0 p0.f1)), (11, B (ltI p0.f0 p0.f1)), (10, I p0.f1), (9, .ba 8 1), (8, I p0.f0), (7, .ba 8 0), (6, B true), (6, B (leI 0 p0.f0)), (5, B (leI 0 p0.f0)), (4, I p0.f0), (3, .ba 8 0), (1, .ba 8 0)] [(8, .box [I p0.f0, I p0.f1] false)] 18) ?_
    refine sb 13 (ltI p0.f0 p0.f1) ?_ ?_
    · refine se (mkE [(2, B (leI p0.f1 345686400000))] [] 18) ?_
      refine pN ?_
      refine pS ?_
      refine gE ?_
      exact pL
    · refine se (mkE [(2, B false)] [] 18) ?_
      refine pN ?_
      refine pS ?_
      refine gE ?_
      exact pL
  · refine se (mkE [(2, B false)] [] 18) ?_
    refine pN ?_
    refine pS ?_
    refine gE ?_
    exact pL
theorem F147 (m : Nat) (hm : 1 ≤ m) (p0 : S38) : callA Try.prog cfg m 147 [a38 p0] = (T147 p0).map B := by
  obtain ⟨q, rfl⟩ : ∃ q, m = q + 1 := ⟨m - 1, by omega⟩
  exact (callA_body (fn := Try.f147) (c := body_ Try.f147) q _ (by kernel_rfl) (by kernel_rfl) (by kernel_rfl)).trans (B147 _ p0)

noncomputable def T126 (p0 : Int) (p1 : Int) (p2 : Int) : Option Bool := (bif (ltI p0 p1) then (some true) else (some (ltI p2 p0)))
theorem B126 (C : Callee) (p0 : Int) (p1 : Int) (p2 : Int) : runs Try.prog C (cfg.fn 126) (finFn Try.prog (cfg.fn 126).byval Try.f126) [] (execA Try.prog C (cfg.fn 126) (nr Try.f126 []) (frame0 [I p0, I p1, I p2] 15 false)) = (T126 p0 p1 p2).map B := by
  unfold T126
  refine gS 1 ?_
  refine gR 0 (rg Try.f126 0) ?_
  refine se (mkE [(0, I p0), (1, I p1), (2, I p2)] [] 15) ?_
  refine pN ?_
  refine pS ?_
  refine gS 0 ?_
  refine gR 1 (rg Try.f126 1) ?_
  refine sg 4 (mkE [(10, B (ltI p0 p1)), (9, B (ltI p0 p1)), (8, I p1), (7, I p0), (0, I p0), (1, I p1), (2, I p2)] [] 15) ?_
  refine sb 10 (ltI p0 p1) ?_ ?_
  · refine se (mkE [(6, B true)] [] 15) ?_
    refine pN ?_
    refine pS ?_
    refine gE ?_
    exact pL
  · refine se (mkE [(6, B (ltI p2 p0))] [] 15) ?_
    refine pN ?_
    refine pS ?_
    refine gE ?_
    exact pL
theorem F126 (m : Nat) (hm : 1 ≤ m) (p0 : Int) (p1 : Int) (p2 : Int) : callA Try.prog cfg m 126 [I p0, I p1, I p2] = (T126 p0 p1 p2).map B := by
  obtain ⟨q, rfl⟩ : ∃ q, m = q + 1 := ⟨m - 1, by omega⟩
  exact (callA_body (fn := Try.f126) (c := body_ Try.f126) q _ (by kernel_rfl) (by kernel_rfl) (by kernel_rfl)).trans (B126 _ p0 p1 p2)

noncomputable def L225_2 (p0 : (List ByteArray)) (z0 : Int) : Option (Int ⊕ ((Int × Bool) ⊕ Int)) := (bif (ltI z0 (lenL p0)) then ((listAt p0 z0).bind fun x1 => ((T137 x1).bind fun x2 => (bif (!x2) then (some (.inr (.inr 5))) else (bif (ltI 0 z0) then ((listAt p0 (subI .i64 z0 1)).bind fun x3 => (bif (ltS x1 x3 || eqS x1 x3) then (some (.inr (.inr 7))) else (some (.inl (addI .i64 z0 1))))) else (some (.inl (addI .i64 z0 1))))))) else (some (.inr (.inl (z0, (ltI z0 (lenL p0)))))))
theorem L225_2_ok (C : Callee) (h137 : ∀ (p0 : ByteArray), C 137 [S p0] = (T137 p0).map B) (p0 : (List ByteArray)) (z0 : Int) : runs Try.prog C (cfg.fn 225) (finLoop ((cfg.fn 225).keep 2) ((cfg.fn 225).al 2)) [] (execA Try.prog C (cfg.fn 225) (nr Try.f225 [false, false, true, false, true]) ((fun z0 : Int => (mkE [(0, LL S p0), (5, LL S p0), (6, I (lenL p0)), (7, I z0)] [] 27)) z0)) = (L225_2 p0 z0).map (Sum.elim (fun z => .inl ((fun z0 : Int => (mkE [(0, LL S p0), (5, LL S p0), (6, I (lenL p0)), (7, I z0)] [] 27)) z)) (fun x => .inr ((Sum.elim (fun (x : (Int × Bool)) => (.exit 0, (mkE [(0, LL S p0), (5, LL S p0), (6, I (lenL p0)), (7, I x.1), (8, B x.2)] [] 27))) (fun (x : Int) => (.ret, (mkE [(2, I x)] [] 27)))) x))) := by
  unfold L225_2
  let s_0 : List (Nat × AV) := [(5, LL S p0), (6, I (lenL p0)), (7, I z0)]
  refine gS 0 ?_
  refine gR 2 (rg Try.f225 2) ?_
  refine se (mkE ((0, LL S p0) :: (s_0.append [(8, B (ltI z0 (lenL p0)))])) [] 27) ?_
  refine pN ?_
  refine pS ?_
  refine gS 3 ?_
  refine gC 8 (ltI z0 (lenL p0)) ?_ ?_
  · refine gK ?_
    refine pN ?_
    refine pS ?_
    refine gS 8 ?_
    refine gB 1 ?_
    refine gS 4 ?_
    refine gR 3 (rg Try.f225 3) ?_
    refine sg 1 (mkE ((9, I z0) :: ((0, LL S p0) :: (s_0.append [(8, B (ltI z0 (lenL p0)))]))) [] 27) ?_
    refine vo 10 (addrE 35 9 1 S .i64 p0 z0) (fun x1 => ?_)
    refine se (mkE ((0, LL S p0) :: ((3, I z0) :: ((4, S x1) :: s_0))) [] 27) ?_
    refine pN ?_
    refine pS ?_
    refine gS 6 ?_
    refine gS 0 ?_
    refine gR 4 (rg Try.f225 4) ?_
    refine sg 1 (mkE ((12, S x1) :: ((0, LL S p0) :: ((3, I z0) :: ((4, S x1) :: s_0)))) [] 27) ?_
    refine co 13 [] (h137 x1) (fun x2 => ?_)
    refine se (mkE ((0, LL S p0) :: ((3, I z0) :: ((4, S x1) :: (s_0.append [(14, B (!x2))])))) [] 27) ?_
    refine pN ?_
    refine pS ?_
    refine gC 14 (!x2) ?_ ?_
    · refine gS 0 ?_
      refine gR 5 (rg Try.f225 5) ?_
      refine se (mkE [(2, I 5)] [] 27) ?_
      refine pN ?_
      refine pS ?_
      refine gE ?_
      exact pL
    · refine gK ?_
      refine pN ?_
      refine pS ?_
      refine gS 0 ?_
      refine gR 6 (rg Try.f225 6) ?_
      refine sg 3 (mkE ((17, B (ltI 0 z0)) :: ((16, B (ltI 0 z0)) :: ((15, I z0) :: ((0, LL S p0) :: ((3, I z0) :: ((4, S x1) :: (s_0.append [(14, B (!x2))]))))))) [] 27) ?_
      refine sb 17 (ltI 0 z0) ?_ ?_
      · refine sg 7 (mkE ((21, I (subI .i64 z0 1)) :: ((20, I z0) :: ((19, LL S p0) :: ((18, S x1) :: ((17, B true) :: ((17, B (ltI 0 z0)) :: ((16, B (ltI 0 z0)) :: ((15, I z0) :: ((0, LL S p0) :: ((3, I z0) :: ((4, S x1) :: (s_0.append [(14, B (!x2))])))))))))))) [] 27) ?_
        refine vo 22 (addrE 35 9 1 S .i64 p0 (subI .i64 z0 1)) (fun x3 => ?_)
        refine se (mkE ((0, LL S p0) :: (s_0.append [(25, B (ltS x1 x3 || eqS x1 x3))])) [] 27) ?_
        refine pN ?_
        refine pS ?_
        refine gC 25 (ltS x1 x3 || eqS x1 x3) ?_ ?_
        · refine gS 0 ?_
          refine gR 7 (rg Try.f225 7) ?_
          refine se (mkE [(2, I 7)] [] 27) ?_
          refine pN ?_
          refine pS ?_
          refine gE ?_
          exact pL
        · refine gK ?_
          refine pB ?_
          refine pN ?_
          refine pS ?_
          refine gR 8 (rg Try.f225 8) ?_
          refine se (mkE [(0, LL S p0), (5, LL S p0), (6, I (lenL p0)), (7, I (addI .i64 z0 1))] [] 27) ?_
          exact pL
      · refine se (mkE ((0, LL S p0) :: (s_0.append [(25, B false)])) [] 27) ?_
        refine pN ?_
        refine pS ?_
        refine gF (.tmp 25) ?_
        refine gK ?_
        refine pB ?_
        refine pN ?_
        refine pS ?_
        refine gR 8 (rg Try.f225 8) ?_
        refine se (mkE [(0, LL S p0), (5, LL S p0), (6, I (lenL p0)), (7, I (addI .i64 z0 1))] [] 27) ?_
        exact pL
  · refine gX 0 ?_
    exact pL
noncomputable def T225 (p0 : (List ByteArray)) : Option Int := ((iter (L225_2 p0) 0).bind fun y4 => (Sum.elim (fun y4a => (some 0)) (fun y4b => (some y4b)) y4))
theorem B225 (C : Callee) (h137 : ∀ (p0 : ByteArray), C 137 [S p0] = (T137 p0).map B) (p0 : (List ByteArray)) : runs Try.prog C (cfg.fn 225) (finFn Try.prog (cfg.fn 225).byval Try.f225) [] (execA Try.prog C (cfg.fn 225) (nr Try.f225 []) (frame0 [LL S p0] 27 false)) = (T225 p0).map I := by
  unfold T225
  refine gS 1 ?_
  refine gR 0 (rg Try.f225 0) ?_
  refine se (mkE [(0, LL S p0)] [] 27) ?_
  refine pN ?_
  refine pS ?_
  refine gS 9 ?_
  refine gS 2 ?_
  refine gR 1 (rg Try.f225 1) ?_
  refine sg 1 (mkE [(5, LL S p0), (0, LL S p0)] [] 27) ?_
  refine eo 6 (I (lenL p0)) (lenE 35 S p0) ?_
  refine se (mkE [(0, LL S p0), (5, LL S p0), (6, I (lenL p0)), (7, I 0)] [] 27) ?_
  refine pN ?_
  refine pS ?_
  refine gB 0 ?_
  refine lo [(0, none), (5, none), (6, none), (7, none)] [] (L225_2 p0) (fun z0 : Int => (mkE [(0, LL S p0), (5, LL S p0), (6, I (lenL p0)), (7, I z0)] [] 27)) (Sum.elim (fun (x : (Int × Bool)) => (.exit 0, (mkE [(0, LL S p0), (5, LL S p0), (6, I (lenL p0)), (7, I x.1), (8, B x.2)] [] 27))) (fun (x : Int) => (.ret, (mkE [(2, I x)] [] 27)))) 0 (fun z => L225_2_ok C h137 p0 z) ?_
  intro y4
  refine ss y4 (Z := (Sum.elim (fun (x : (Int × Bool)) => (.exit 0, (mkE [(0, LL S p0), (5, LL S p0), (6, I (lenL p0)), (7, I x.1), (8, B x.2)] [] 27))) (fun (x : Int) => (.ret, (mkE [(2, I x)] [] 27))))) (fun y4a => ?_) (fun y4b => ?_)
  · refine pH ?_
    refine pN ?_
    refine pS ?_
    refine gS 0 ?_
    refine gR 9 (rg Try.f225 9) ?_
    refine se (mkE [(2, I 0)] [] 27) ?_
    refine pN ?_
    refine pS ?_
    refine gE ?_
    exact pL
  · exact pL
theorem F225 (m : Nat) (hm : 2 ≤ m) (p0 : (List ByteArray)) : callA Try.prog cfg m 225 [LL S p0] = (T225 p0).map I := by
  obtain ⟨q, rfl⟩ : ∃ q, m = q + 1 := ⟨m - 1, by omega⟩
  exact (callA_body (fn := Try.f225) (c := body_ Try.f225) q _ (by kernel_rfl) (by kernel_rfl) (by kernel_rfl)).trans (B225 _ (fun p0 => F137 q (by omega) p0) p0)

noncomputable def T148 (p0 : (List ByteArray)) : Option Int := (bif (ltI 20 (lenL p0)) then (some 2) else ((T225 p0).bind fun x1 => (some x1)))
theorem B148 (C : Callee) (h225 : ∀ (p0 : (List ByteArray)), C 225 [LL S p0] = (T225 p0).map I) (p0 : (List ByteArray)) : runs Try.prog C (cfg.fn 148) (finFn Try.prog (cfg.fn 148).byval Try.f148) [] (execA Try.prog C (cfg.fn 148) (nr Try.f148 []) (frame0 [LL S p0] 8 false)) = (T148 p0).map I := by
  unfold T148
  refine gS 1 ?_
  refine gR 0 (rg Try.f148 0) ?_
  refine se (mkE [(0, LL S p0)] [] 8) ?_
  refine pN ?_
  refine pS ?_
  refine gS 3 ?_
  refine gS 0 ?_
  refine gR 1 (rg Try.f148 1) ?_
  refine sg 1 (mkE [(3, LL S p0), (0, LL S p0)] [] 8) ?_
  refine eo 4 (I (lenL p0)) (lenE 35 S p0) ?_
  refine se (mkE [(0, LL S p0), (5, B (ltI 20 (lenL p0)))] [] 8) ?_
  refine pN ?_
  refine pS ?_
  refine gC 5 (ltI 20 (lenL p0)) ?_ ?_
  · refine gS 0 ?_
    refine gR 2 (rg Try.f148 2) ?_
    refine se (mkE [(2, I 2)] [] 8) ?_
    refine pN ?_
    refine pS ?_
    refine gE ?_
    exact pL
  · refine gK ?_
    refine pN ?_
    refine pS ?_
    refine gS 0 ?_
    refine gR 3 (rg Try.f148 3) ?_
    refine sg 1 (mkE [(6, LL S p0), (0, LL S p0), (5, B (ltI 20 (lenL p0)))] [] 8) ?_
    refine co 7 [] (h225 p0) (fun x1 => ?_)
    refine se (mkE [(2, I x1)] [] 8) ?_
    refine pN ?_
    refine pS ?_
    refine gE ?_
    exact pL
theorem F148 (m : Nat) (hm : 3 ≤ m) (p0 : (List ByteArray)) : callA Try.prog cfg m 148 [LL S p0] = (T148 p0).map I := by
  obtain ⟨q, rfl⟩ : ∃ q, m = q + 1 := ⟨m - 1, by omega⟩
  exact (callA_body (fn := Try.f148) (c := body_ Try.f148) q _ (by kernel_rfl) (by kernel_rfl) (by kernel_rfl)).trans (B148 _ (fun p0 => F225 q (by omega) p0) p0)

noncomputable def L58_4 (p0 : (List S90)) (z0 : Int) : Option (Int ⊕ ((Int × Bool) ⊕ Int)) := (bif (ltI z0 (lenL p0)) then ((listAt p0 z0).bind fun x1 => ((((T137 x1.f0).bind fun x2 => (bif (!x2) then (some (.inr 5)) else (bif (ltI 0 z0) then ((listAt p0 (subI .i64 z0 1)).bind fun x3 => (bif (ltS x1.f0 x3.f0 || eqS x1.f0 x3.f0) then (some (.inr 7)) else ((T147 x1.f1).bind fun x4 => (bif (!x4) then (some (.inr 1)) else ((T126 x1.f2 0 1000000).bind fun x5 => (bif x5 then (some (.inr 1)) else (some (.inl ())))))))) else ((T147 x1.f1).bind fun x6 => (bif (!x6) then (some (.inr 1)) else ((T126 x1.f2 0 1000000).bind fun x7 => (bif x7 then (some (.inr 1)) else (some (.inl ()))))))))) : Option (Unit ⊕ Int)).bind fun y8 => (Sum.elim (fun y8a => ((T148 x1.f3).bind fun x9 => (bif (neI x9 0) then (some (.inr (.inr x9))) else (some (.inl (addI .i64 z0 1)))))) (fun y8b => (some (.inr (.inr y8b)))) y8))) else (some (.inr (.inl (z0, (ltI z0 (lenL p0)))))))
theorem L58_4_ok (C : Callee) (h126 : ∀ (p0 : Int) (p1 : Int) (p2 : Int), C 126 [I p0, I p1, I p2] = (T126 p0 p1 p2).map B) (h137 : ∀ (p0 : ByteArray), C 137 [S p0] = (T137 p0).map B) (h147 : ∀ (p0 : S38), C 147 [a38 p0] = (T147 p0).map B) (h148 : ∀ (p0 : (List ByteArray)), C 148 [LL S p0] = (T148 p0).map I) (p0 : (List S90)) (z0 : Int) : runs Try.prog C (cfg.fn 58) (finLoop ((cfg.fn 58).keep 4) ((cfg.fn 58).al 4)) [] (execA Try.prog C (cfg.fn 58) (nr Try.f58 [false, false, true, false, true, true]) ((fun z0 : Int => (mkE [(0, LL a90 p0), (9, LL a90 p0), (10, I (lenL p0)), (11, I z0)] [] 52)) z0)) = (L58_4 p0 z0).map (Sum.elim (fun z => .inl ((fun z0 : Int => (mkE [(0, LL a90 p0), (9, LL a90 p0), (10, I (lenL p0)), (11, I z0)] [] 52)) z)) (fun x => .inr ((Sum.elim (fun (x : (Int × Bool)) => (.exit 0, (mkE [(0, LL a90 p0), (9, LL a90 p0), (10, I (lenL p0)), (11, I x.1), (12, B x.2)] [] 52))) (fun (x : Int) => (.ret, (mkE [(2, I x)] [] 52)))) x))) := by
  unfold L58_4
  let d_0 : List (Option Nat × REff) := [(some 22, qe (I z0)), (some 23, qe (B (ltI 0 z0)))]
  let s_0 : List (Nat × AV) := [(4, .ba 32 0), (9, LL a90 p0), (10, I (lenL p0)), (11, I z0)]
  let s_1 : List (Nat × AV) := [(0, LL a90 p0)]
  refine gS 0 ?_
  refine gR 4 (rg Try.f58 4) ?_
  refine se (mkE (s_1.append ((9, LL a90 p0) :: ((10, I (lenL p0)) :: ((11, I z0) :: [(12, B (ltI z0 (lenL p0)))])))) [] 52) ?_
  refine pN ?_
  refine pS ?_
  refine gS 5 ?_
  refine gC 12 (ltI z0 (lenL p0)) ?_ ?_
  · refine gK ?_
    refine pN ?_
    refine pS ?_
    refine gS 15 ?_
    refine gB 1 ?_
    refine gS 6 ?_
    refine gR 5 (rg Try.f58 5) ?_
    refine sg 1 (mkE ((13, I z0) :: (s_1.append ((9, LL a90 p0) :: ((10, I (lenL p0)) :: ((11, I z0) :: [(12, B (ltI z0 (lenL p0)))]))))) [] 52) ?_
    refine vo 14 (addrE 28 91 5 a90 .i64 p0 z0) (fun x1 => ?_)
    refine se (mkE (s_1.append ((3, I z0) :: s_0)) [(32, .box [S x1.f0, I x1.f1.f0, I x1.f1.f1, I x1.f2, LL S x1.f3] false)] 52) ?_
    refine pN ?_
    refine pS ?_
    refine jS 12 (((T137 x1.f0).bind fun x2 => (bif (!x2) then (some (.inr 5)) else (bif (ltI 0 z0) then ((listAt p0 (subI .i64 z0 1)).bind fun x3 => (bif (ltS x1.f0 x3.f0 || eqS x1.f0 x3.f0) then (some (.inr 7)) else ((T147 x1.f1).bind fun x4 => (bif (!x4) then (some (.inr 1)) else ((T126 x1.f2 0 1000000).bind fun x5 => (bif x5 then (some (.inr 1)) else (some (.inl ())))))))) else ((T147 x1.f1).bind fun x6 => (bif (!x6) then (some (.inr 1)) else ((T126 x1.f2 0 1000000).bind fun x7 => (bif x7 then (some (.inr 1)) else (some (.inl ()))))))))) : Option (Unit ⊕ Int)) (Sum.elim (fun (x : Unit) => (.normal, (mkE (s_1.append s_0) [(32, .box [S x1.f0, I x1.f1.f0, I x1.f1.f1, I x1.f2, LL S x1.f3] false)] 52))) (fun (x : Int) => (.ret, (mkE [(2, I x)] [] 52)))) ?_ (fun y8 => ?_)
    · refine gB 2 ?_
      refine gS 0 ?_
      refine gR 6 (rg Try.f58 6) ?_
      refine sg 2 (mkE ((18, S x1.f0) :: ((17, .ba 32 0) :: (s_1.append ((3, I z0) :: s_0)))) [(32, .box [S x1.f0, I x1.f1.f0, I x1.f1.f1, I x1.f2, LL S x1.f3] false)] 52) ?_
      refine co 19 [] (h137 x1.f0) (fun x2 => ?_)
      refine se (mkE (s_1.append ((3, I z0) :: (s_0.append [(16, B (!x2))]))) [(32, .box [S x1.f0, I x1.f1.f0, I x1.f1.f1, I x1.f2, LL S x1.f3] false)] 52) ?_
      refine pN ?_
      refine pS ?_
      refine gC 16 (!x2) ?_ ?_
      · refine gS 0 ?_
        refine gR 7 (rg Try.f58 7) ?_
        refine se (mkE [(2, I 5)] [] 52) ?_
        refine pN ?_
        refine pS ?_
        refine gE ?_
        exact pL
      · refine gS 0 ?_
        refine gD 8 14 (rg Try.f58 8) [0, 1, 2, 3, 4, 5, 6, 7, 8, 9, 10, 11, 12, 13] ?_
        refine dg 3 (d_0.append [(some 24, qe (B (ltI 0 z0)))]) ?_
        refine db 2 24 (ltI 0 z0) ?_ ?_
        · refine dg 8 (d_0.append ((some 24, qe (B true)) :: ((some 25, qe (.ba 32 0)) :: ((some 26, qe (S x1.f0)) :: ((some 27, qe (LL a90 p0)) :: ((some 28, qe (I z0)) :: [(some 29, qe (I (subI .i64 z0 1)))])))))) ?_
          refine dv 30 (mkE ((29, I (subI .i64 z0 1)) :: ((28, I z0) :: ((27, LL a90 p0) :: ((24, B true) :: ((23, B (ltI 0 z0)) :: ((22, I z0) :: (s_1.append ((3, I z0) :: (s_0.append [(16, B (!x2))]))))))))) [(32, .box [S x1.f0, I x1.f1.f0, I x1.f1.f1, I x1.f2, LL S x1.f3] false)] 52) (addrE 28 91 5 a90 .i64 p0 (subI .i64 z0 1)) (fun x3 => ?_)
          refine dg 14 (d_0.append ((some 24, qe (B true)) :: ((some 25, qe (.ba 32 0)) :: ((some 26, qe (S x1.f0)) :: ((some 27, qe (LL a90 p0)) :: ((some 28, qe (I z0)) :: ((some 29, qe (I (subI .i64 z0 1))) :: ((some 30, qe (.ia [S x3.f0, I x3.f1.f0, I x3.f1.f1, I x3.f2, LL S x3.f3] 0)) :: ((some 31, qe (.ia [S x3.f0, I x3.f1.f0, I x3.f1.f1, I x3.f2, LL S x3.f3] 0)) :: ((some 32, qe (S x3.f0)) :: ((some 33, qe (B (ltS x1.f0 x3.f0 || eqS x1.f0 x3.f0))) :: ((some 34, qe (B (ltS x1.f0 x3.f0 || eqS x1.f0 x3.f0))) :: [(some 21, qe (B (ltS x1.f0 x3.f0 || eqS x1.f0 x3.f0)))])))))))))))) ?_
          refine de (mkE ((21, B (ltS x1.f0 x3.f0 || eqS x1.f0 x3.f0)) :: ((34, B (ltS x1.f0 x3.f0 || eqS x1.f0 x3.f0)) :: ((33, B (ltS x1.f0 x3.f0 || eqS x1.f0 x3.f0)) :: ((32, S x3.f0) :: ((31, .ia [S x3.f0, I x3.f1.f0, I x3.f1.f1, I x3.f2, LL S x3.f3] 0) :: ((30, .ia [S x3.f0, I x3.f1.f0, I x3.f1.f1, I x3.f2, LL S x3.f3] 0) :: ((29, I (subI .i64 z0 1)) :: ((28, I z0) :: ((27, LL a90 p0) :: ((26, S x1.f0) :: ((25, .ba 32 0) :: ((24, B true) :: ((23, B (ltI 0 z0)) :: ((22, I z0) :: (s_1.append ((3, I z0) :: (s_0.append [(16, B (!x2))]))))))))))))))))) [(32, .box [S x1.f0, I x1.f1.f0, I x1.f1.f1, I x1.f2, LL S x1.f3] false)] 52) ?_
          refine se (mkE (s_1.append (s_0.append [(21, B (ltS x1.f0 x3.f0 || eqS x1.f0 x3.f0))])) [(32, .box [S x1.f0, I x1.f1.f0, I x1.f1.f1, I x1.f2, LL S x1.f3] false)] 52) ?_
          refine pN ?_
          refine pS ?_
          refine gC 21 (ltS x1.f0 x3.f0 || eqS x1.f0 x3.f0) ?_ ?_
          · refine gS 0 ?_
            refine gR 9 (rg Try.f58 9) ?_
            refine se (mkE [(2, I 7)] [] 52) ?_
            refine pN ?_
            refine pS ?_
            refine gE ?_
            exact pL
          · refine gS 0 ?_
            refine gR 10 (rg Try.f58 10) ?_
            refine sg 2 (mkE ((37, a38 x1.f1) :: ((36, .ba 32 1) :: (s_1.append (s_0.append [(21, B (ltS x1.f0 x3.f0 || eqS x1.f0 x3.f0))])))) [(32, .box [S x1.f0, I x1.f1.f0, I x1.f1.f1, I x1.f2, LL S x1.f3] false)] 52) ?_
            refine co 38 [] (h147 x1.f1) (fun x4 => ?_)
            refine sg 5 (mkE ((40, B (!x4)) :: ((39, B (!x4)) :: ((38, B x4) :: ((37, a38 x1.f1) :: ((36, .ba 32 1) :: (s_1.append (s_0.append [(21, B (ltS x1.f0 x3.f0 || eqS x1.f0 x3.f0))]))))))) [(32, .box [S x1.f0, I x1.f1.f0, I x1.f1.f1, I x1.f2, LL S x1.f3] false)] 52) ?_
            refine sb 40 (!x4) ?_ ?_
            · refine se (mkE (s_1.append (s_0.append [(35, B true)])) [(32, .box [S x1.f0, I x1.f1.f0, I x1.f1.f1, I x1.f2, LL S x1.f3] false)] 52) ?_
              refine pN ?_
              refine pS ?_
              refine gT (.tmp 35) ?_
              refine gS 0 ?_
              refine gR 11 (rg Try.f58 11) ?_
              refine se (mkE [(2, I 1)] [] 52) ?_
              refine pN ?_
              refine pS ?_
              refine gE ?_
              exact pL
            · refine sg 7 (mkE ((42, I x1.f2) :: ((41, .ba 32 3) :: ((40, B false) :: ((40, B (!x4)) :: ((39, B (!x4)) :: ((38, B x4) :: ((37, a38 x1.f1) :: ((36, .ba 32 1) :: (s_1.append (s_0.append [(21, B (ltS x1.f0 x3.f0 || eqS x1.f0 x3.f0))])))))))))) [(32, .box [S x1.f0, I x1.f1.f0, I x1.f1.f1, I x1.f2, LL S x1.f3] false)] 52) ?_
              refine co 43 [] (h126 x1.f2 0 1000000) (fun x5 => ?_)
              refine se (mkE (s_1.append (s_0.append [(35, B x5)])) [(32, .box [S x1.f0, I x1.f1.f0, I x1.f1.f1, I x1.f2, LL S x1.f3] false)] 52) ?_
              refine pN ?_
              refine pS ?_
              refine gC 35 x5 ?_ ?_
              · refine gS 0 ?_
                refine gR 11 (rg Try.f58 11) ?_
                refine se (mkE [(2, I 1)] [] 52) ?_
                refine pN ?_
                refine pS ?_
                refine gE ?_
                exact pL
              · refine gK ?_
                refine pB ?_
                refine pG (mkE (s_1.append s_0) [(32, .box [S x1.f0, I x1.f1.f0, I x1.f1.f1, I x1.f2, LL S x1.f3] false)] 52) ?_
                exact pL
        · refine dg 14 (d_0.append ((some 24, qe (B false)) :: ((some 25, qe (.und)) :: ((some 26, qe (.und)) :: ((some 27, qe (.und)) :: ((some 28, qe (.und)) :: ((some 29, qe (.und)) :: ((some 30, qe (.und)) :: ((some 31, qe (.und)) :: ((some 32, qe (.und)) :: ((some 33, qe (.und)) :: ((some 34, qe (B false)) :: [(some 21, qe (B false))])))))))))))) ?_
          refine de (mkE ((21, B false) :: ((34, B false) :: ((33, .und) :: ((32, .und) :: ((31, .und) :: ((30, .und) :: ((29, .und) :: ((28, .und) :: ((27, .und) :: ((26, .und) :: ((25, .und) :: ((24, B false) :: ((23, B (ltI 0 z0)) :: ((22, I z0) :: (s_1.append ((3, I z0) :: (s_0.append [(16, B (!x2))]))))))))))))))))) [(32, .box [S x1.f0, I x1.f1.f0, I x1.f1.f1, I x1.f2, LL S x1.f3] false)] 52) ?_
          refine se (mkE (s_1.append (s_0.append [(21, B false)])) [(32, .box [S x1.f0, I x1.f1.f0, I x1.f1.f1, I x1.f2, LL S x1.f3] false)] 52) ?_
          refine pN ?_
          refine pS ?_
          refine gF (.tmp 21) ?_
          refine gS 0 ?_
          refine gR 10 (rg Try.f58 10) ?_
          refine sg 2 (mkE ((37, a38 x1.f1) :: ((36, .ba 32 1) :: (s_1.append (s_0.append [(21, B false)])))) [(32, .box [S x1.f0, I x1.f1.f0, I x1.f1.f1, I x1.f2, LL S x1.f3] false)] 52) ?_
          refine co 38 [] (h147 x1.f1) (fun x6 => ?_)
          refine sg 5 (mkE ((40, B (!x6)) :: ((39, B (!x6)) :: ((38, B x6) :: ((37, a38 x1.f1) :: ((36, .ba 32 1) :: (s_1.append (s_0.append [(21, B false)]))))))) [(32, .box [S x1.f0, I x1.f1.f0, I x1.f1.f1, I x1.f2, LL S x1.f3] false)] 52) ?_
          refine sb 40 (!x6) ?_ ?_
          · refine se (mkE (s_1.append (s_0.append [(35, B true)])) [(32, .box [S x1.f0, I x1.f1.f0, I x1.f1.f1, I x1.f2, LL S x1.f3] false)] 52) ?_
            refine pN ?_
            refine pS ?_
            refine gT (.tmp 35) ?_
            refine gS 0 ?_
            refine gR 11 (rg Try.f58 11) ?_
            refine se (mkE [(2, I 1)] [] 52) ?_
            refine pN ?_
            refine pS ?_
            refine gE ?_
            exact pL
          · refine sg 7 (mkE ((42, I x1.f2) :: ((41, .ba 32 3) :: ((40, B false) :: ((40, B (!x6)) :: ((39, B (!x6)) :: ((38, B x6) :: ((37, a38 x1.f1) :: ((36, .ba 32 1) :: (s_1.append (s_0.append [(21, B false)])))))))))) [(32, .box [S x1.f0, I x1.f1.f0, I x1.f1.f1, I x1.f2, LL S x1.f3] false)] 52) ?_
            refine co 43 [] (h126 x1.f2 0 1000000) (fun x7 => ?_)
            refine se (mkE (s_1.append (s_0.append [(35, B x7)])) [(32, .box [S x1.f0, I x1.f1.f0, I x1.f1.f1, I x1.f2, LL S x1.f3] false)] 52) ?_
            refine pN ?_
            refine pS ?_
            refine gC 35 x7 ?_ ?_
            · refine gS 0 ?_
              refine gR 11 (rg Try.f58 11) ?_
              refine se (mkE [(2, I 1)] [] 52) ?_
              refine pN ?_
              refine pS ?_
              refine gE ?_
              exact pL
            · refine gK ?_
              refine pB ?_
              refine pG (mkE (s_1.append s_0) [(32, .box [S x1.f0, I x1.f1.f0, I x1.f1.f1, I x1.f2, LL S x1.f3] false)] 52) ?_
              exact pL
    refine ss y8 (Z := (Sum.elim (fun (x : Unit) => (.normal, (mkE (s_1.append s_0) [(32, .box [S x1.f0, I x1.f1.f0, I x1.f1.f1, I x1.f2, LL S x1.f3] false)] 52))) (fun (x : Int) => (.ret, (mkE [(2, I x)] [] 52))))) (fun y8a => ?_) (fun y8b => ?_)
    · refine pS ?_
      refine gS 13 ?_
      refine gR 12 (rg Try.f58 12) ?_
      refine sg 2 (mkE ((46, LL S x1.f3) :: ((45, .ba 32 4) :: (s_1.append s_0))) [(32, .box [S x1.f0, I x1.f1.f0, I x1.f1.f1, I x1.f2, LL S x1.f3] false)] 52) ?_
      refine co 47 [] (h148 x1.f3) (fun x9 => ?_)
      refine se (mkE (s_1.append ((5, I x9) :: ((9, LL a90 p0) :: ((10, I (lenL p0)) :: [(11, I z0)])))) [] 52) ?_
      refine pN ?_
      refine pS ?_
      refine gS 0 ?_
      refine gR 13 (rg Try.f58 13) ?_
      refine se (mkE (s_1.append ((5, I x9) :: ((9, LL a90 p0) :: ((10, I (lenL p0)) :: ((11, I z0) :: [(49, B (neI x9 0))]))))) [] 52) ?_
      refine pN ?_
      refine pS ?_
      refine gC 49 (neI x9 0) ?_ ?_
      · refine gS 0 ?_
        refine gR 14 (rg Try.f58 14) ?_
        refine se (mkE [(2, I x9)] [] 52) ?_
        refine pN ?_
        refine pS ?_
        refine gE ?_
        exact pL
      · refine gK ?_
        refine pB ?_
        refine pN ?_
        refine pS ?_
        refine gR 15 (rg Try.f58 15) ?_
        refine se (mkE (s_1.append ((9, LL a90 p0) :: ((10, I (lenL p0)) :: [(11, I (addI .i64 z0 1))]))) [] 52) ?_
        exact pL
    · exact pL
  · refine gX 0 ?_
    exact pL
noncomputable def T58 (p0 : (List S90)) : Option Int := (bif (ltI 60 (lenL p0)) then (some 2) else ((iter (L58_4 p0) 0).bind fun y10 => (Sum.elim (fun y10a => (some 0)) (fun y10b => (some y10b)) y10)))
theorem B58 (C : Callee) (h126 : ∀ (p0 : Int) (p1 : Int) (p2 : Int), C 126 [I p0, I p1, I p2] = (T126 p0 p1 p2).map B) (h137 : ∀ (p0 : ByteArray), C 137 [S p0] = (T137 p0).map B) (h147 : ∀ (p0 : S38), C 147 [a38 p0] = (T147 p0).map B) (h148 : ∀ (p0 : (List ByteArray)), C 148 [LL S p0] = (T148 p0).map I) (p0 : (List S90)) : runs Try.prog C (cfg.fn 58) (finFn Try.prog (cfg.fn 58).byval Try.f58) [] (execA Try.prog C (cfg.fn 58) (nr Try.f58 []) (frame0 [LL a90 p0] 52 false)) = (T58 p0).map I := by
  unfold T58
  let s_0 : List (Nat × AV) := [(0, LL a90 p0), (9, LL a90 p0), (10, I (lenL p0))]
  refine gS 1 ?_
  refine gR 0 (rg Try.f58 0) ?_
  refine se (mkE [(0, LL a90 p0)] [] 52) ?_
  refine pN ?_
  refine pS ?_
  refine gS 3 ?_
  refine gS 0 ?_
  refine gR 1 (rg Try.f58 1) ?_
  refine sg 1 (mkE [(6, LL a90 p0), (0, LL a90 p0)] [] 52) ?_
  refine eo 7 (I (lenL p0)) (lenE 28 a90 p0) ?_
  refine se (mkE [(0, LL a90 p0), (8, B (ltI 60 (lenL p0)))] [] 52) ?_
  refine pN ?_
  refine pS ?_
  refine gC 8 (ltI 60 (lenL p0)) ?_ ?_
  · refine gS 0 ?_
    refine gR 2 (rg Try.f58 2) ?_
    refine se (mkE [(2, I 2)] [] 52) ?_
    refine pN ?_
    refine pS ?_
    refine gE ?_
    exact pL
  · refine gK ?_
    refine pN ?_
    refine pS ?_
    refine gS 16 ?_
    refine gS 4 ?_
    refine gR 3 (rg Try.f58 3) ?_
    refine sg 1 (mkE [(9, LL a90 p0), (0, LL a90 p0), (8, B (ltI 60 (lenL p0)))] [] 52) ?_
    refine eo 10 (I (lenL p0)) (lenE 28 a90 p0) ?_
    refine se (mkE (s_0.append [(11, I 0)]) [] 52) ?_
    refine pN ?_
    refine pS ?_
    refine gB 0 ?_
    refine lo [(0, none), (9, none), (10, none), (11, none)] [] (L58_4 p0) (fun z0 : Int => (mkE (s_0.append [(11, I z0)]) [] 52)) (Sum.elim (fun (x : (Int × Bool)) => (.exit 0, (mkE (s_0.append ((11, I x.1) :: [(12, B x.2)])) [] 52))) (fun (x : Int) => (.ret, (mkE [(2, I x)] [] 52)))) 0 (fun z => L58_4_ok C h126 h137 h147 h148 p0 z) ?_
    intro y10
    refine ss y10 (Z := (Sum.elim (fun (x : (Int × Bool)) => (.exit 0, (mkE (s_0.append ((11, I x.1) :: [(12, B x.2)])) [] 52))) (fun (x : Int) => (.ret, (mkE [(2, I x)] [] 52))))) (fun y10a => ?_) (fun y10b => ?_)
    · refine pH ?_
      refine pN ?_
      refine pS ?_
      refine gS 0 ?_
      refine gR 16 (rg Try.f58 16) ?_
      refine se (mkE [(2, I 0)] [] 52) ?_
      refine pN ?_
      refine pS ?_
      refine gE ?_
      exact pL
    · exact pL
theorem F58 (m : Nat) (hm : 4 ≤ m) (p0 : (List S90)) : callA Try.prog cfg m 58 [LL a90 p0] = (T58 p0).map I := by
  obtain ⟨q, rfl⟩ : ∃ q, m = q + 1 := ⟨m - 1, by omega⟩
  exact (callA_body (fn := Try.f58) (c := body_ Try.f58) q _ (by kernel_rfl) (by kernel_rfl) (by kernel_rfl)).trans (B58 _ (fun p0 p1 p2 => F126 q (by omega) p0 p1 p2) (fun p0 => F137 q (by omega) p0) (fun p0 => F147 q (by omega) p0) (fun p0 => F148 q (by omega) p0) p0)

end Go.Abs.TD
