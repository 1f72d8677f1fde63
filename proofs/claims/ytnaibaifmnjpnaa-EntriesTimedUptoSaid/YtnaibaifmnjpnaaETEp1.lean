import Derived.Test.YtnaibaifmnjpnaaETE0
set_option maxRecDepth 100000
set_option linter.unusedVariables false
namespace Go.Abs.TE
open Go.RowKit Go.Proofs Go.Abs
theorem F57 (m : Nat) (hm : 1 ≤ m) (p0 : (List ByteArray)) : callA Try.prog cfg m 57 [LL S p0] = (appO 16 ([] : List ByteArray) p0).map (fun l => AV.fr 9 1 (List.map S l)) := by
  obtain ⟨q, rfl⟩ : ∃ q, m = q + 1 := ⟨m - 1, by omega⟩
  exact (callA_leaf (L := (leafClone Try.prog 9 1 16)) _ _ (by kernel_rfl)).trans (clone_leaf S _ _ (fun _ => by kernel_rfl))

noncomputable def L20_3 (p0 : (List S36)) (z0 : ((List S36) × Int)) : Option (((List S36) × Int) ⊕ (Int × Bool × (List S36))) := (bif (ltI z0.2 (lenL p0)) then ((listAt p0 z0.2).bind fun x1 => ((appO 16 ([] : List ByteArray) x1.f3).bind fun x2 => ((appO 64 z0.1 ([(S36.mk x1.f0 x1.f1 x1.f2 x2)] : List S36)).bind fun x3 => (some (.inl (x3, (addI .i64 z0.2 1))))))) else (some (.inr (z0.2, (ltI z0.2 (lenL p0)), z0.1))))
theorem L20_3_ok (C : Callee) (h57 : ∀ (p0 : (List ByteArray)), C 57 [LL S p0] = (appO 16 ([] : List ByteArray) p0).map (fun l => AV.fr 9 1 (List.map S l))) (p0 : (List S36)) (z0 : ((List S36) × Int)) : runs Try.prog C (cfg.fn 20) (finLoop ((cfg.fn 20).keep 3) ((cfg.fn 20).al 3)) [] (execA Try.prog C (cfg.fn 20) (nr Try.f20 [false, false, true, false, true, true]) ((fun z0 : ((List S36) × Int) => (mkE [(3, .own 24 0), (6, LL a36 p0), (7, I (lenL p0)), (8, I z0.2)] [(24, RR 37 4 a36 z0.1 0 false)] 22)) z0)) = (L20_3 p0 z0).map (Sum.elim (fun z => .inl ((fun z0 : ((List S36) × Int) => (mkE [(3, .own 24 0), (6, LL a36 p0), (7, I (lenL p0)), (8, I z0.2)] [(24, RR 37 4 a36 z0.1 0 false)] 22)) z)) (fun x => .inr ((fun (x : (Int × Bool × (List S36))) => (.exit 0, (mkE [(3, .own 24 0), (6, LL a36 p0), (7, I (lenL p0)), (8, I x.1), (9, B x.2.1)] [(24, RR 37 4 a36 x.2.2 0 false)] 22))) x))) := by
  unfold L20_3
  refine gS 0 ?_
  refine gR 3 (rg Try.f20 3) ?_
  refine se (mkE [(3, .own 24 0), (6, LL a36 p0), (7, I (lenL p0)), (8, I z0.2), (9, B (ltI z0.2 (lenL p0)))] [(24, RR 37 4 a36 z0.1 0 false)] 22) ?_
  refine pN ?_
  refine pS ?_
  refine gS 4 ?_
  refine gC 9 (ltI z0.2 (lenL p0)) ?_ ?_
  · refine gK ?_
    refine pN ?_
    refine pS ?_
    refine gS 7 ?_
    refine gB 1 ?_
    refine gS 5 ?_
    refine gR 4 (rg Try.f20 4) ?_
    refine vo 10 (addrE 41 37 4 a36 .i64 p0 z0.2) (fun x1 => ?_)
    refine se (mkE [(3, .own 24 0), (5, .ba 40 0), (6, LL a36 p0), (7, I (lenL p0)), (8, I z0.2)] [(24, RR 37 4 a36 z0.1 0 false), (40, .box [S x1.f0, S x1.f1, I x1.f2, LL S x1.f3] false)] 22) ?_
    refine pN ?_
    refine pS ?_
    refine gS 6 ?_
    refine gR 5 (rg Try.f20 5) ?_
    refine sg 2 (mkE [(13, LL S x1.f3), (12, .ba 40 3), (3, .own 24 0), (5, .ba 40 0), (6, LL a36 p0), (7, I (lenL p0)), (8, I z0.2)] [(24, RR 37 4 a36 z0.1 0 false), (40, .box [S x1.f0, S x1.f1, I x1.f2, LL S x1.f3] false)] 22) ?_
    refine co 14 [] (h57 x1.f3) (fun x2 => ?_)
    refine se (mkE [(3, .own 24 0), (5, .ba 40 0), (6, LL a36 p0), (7, I (lenL p0)), (8, I z0.2)] [(24, RR 37 4 a36 z0.1 0 false), (40, .box [S x1.f0, S x1.f1, I x1.f2, .own 112 0] false), (112, RR 9 1 S x2 0 false)] 22) ?_
    refine pN ?_
    refine pS ?_
    refine gR 6 (rg Try.f20 6) ?_
    refine sg 3 (mkE [(18, .own 144 0), (17, .agg [S x1.f0, S x1.f1, I x1.f2, .own 112 0]), (16, .own 24 0), (3, .own 24 0), (5, .ba 40 0), (6, LL a36 p0), (7, I (lenL p0)), (8, I z0.2)] [(144, RR 37 4 a36 ([(S36.mk x1.f0 x1.f1 x1.f2 x2)] : List S36) 0 false), (112, RR 9 1 S x2 0 true), (24, RR 37 4 a36 z0.1 0 false), (40, .box [S x1.f0, S x1.f1, I x1.f2, .own 112 0] false), (112, RR 9 1 S x2 0 false)] 22) ?_
    refine mo (some 19) (apO 41 37 4 64 24 a36 0 [144] (y := .own 144 0) (l2 := ([(S36.mk x1.f0 x1.f1 x1.f2 x2)] : List S36))) (fun x3 => ?_)
    refine se (mkE [(3, .own 24 1), (6, LL a36 p0), (7, I (lenL p0)), (8, I z0.2)] [(24, RR 37 4 a36 x3 1 false)] 22) ?_
    refine pB ?_
    refine pN ?_
    refine pS ?_
    refine gR 7 (rg Try.f20 7) ?_
    refine se (mkE [(3, .own 24 1), (6, LL a36 p0), (7, I (lenL p0)), (8, I (addI .i64 z0.2 1))] [(24, RR 37 4 a36 x3 1 false)] 22) ?_
    exact pL
  · refine gX 0 ?_
    exact pL
noncomputable def T20 (p0 : (List S36)) : Option (List S36) := ((iter (L20_3 p0) ([], 0)).bind fun y4 => (some y4.2.2))
theorem B20 (C : Callee) (h57 : ∀ (p0 : (List ByteArray)), C 57 [LL S p0] = (appO 16 ([] : List ByteArray) p0).map (fun l => AV.fr 9 1 (List.map S l))) (p0 : (List S36)) : runs Try.prog C (cfg.fn 20) (finFn Try.prog (cfg.fn 20).byval Try.f20) [] (execA Try.prog C (cfg.fn 20) (nr Try.f20 []) (frame0 [LL a36 p0] 22)) = (T20 p0).map (fun l => AV.fr 37 4 (List.map a36 l)) := by
  unfold T20
  refine gS 1 ?_
  refine gR 0 (rg Try.f20 0) ?_
  refine se (mkE [(0, LL a36 p0)] [] 22) ?_
  refine pN ?_
  refine pS ?_
  refine gS 2 ?_
  refine gR 1 (rg Try.f20 1) ?_
  refine se (mkE [(0, LL a36 p0), (3, .nils)] [] 22) ?_
  refine pN ?_
  refine pS ?_
  refine gS 8 ?_
  refine gS 3 ?_
  refine gR 2 (rg Try.f20 2) ?_
  refine sg 1 (mkE [(6, LL a36 p0), (0, LL a36 p0), (3, .nils)] [] 22) ?_
  refine eo 7 (I (lenL p0)) (lenE 41 a36 p0) ?_
  refine se (mkE [(3, .nils), (6, LL a36 p0), (7, I (lenL p0)), (8, I 0)] [] 22) ?_
  refine pN ?_
  refine pS ?_
  refine gB 0 ?_
  refine lo [(3, some (37, 4)), (6, none), (7, none), (8, none)] [] (L20_3 p0) (fun z0 : ((List S36) × Int) => (mkE [(3, .own 24 0), (6, LL a36 p0), (7, I (lenL p0)), (8, I z0.2)] [(24, RR 37 4 a36 z0.1 0 false)] 22)) (fun (x : (Int × Bool × (List S36))) => (.exit 0, (mkE [(3, .own 24 0), (6, LL a36 p0), (7, I (lenL p0)), (8, I x.1), (9, B x.2.1)] [(24, RR 37 4 a36 x.2.2 0 false)] 22))) ([], 0) (fun z => L20_3_ok C h57 p0 z) ?_
  intro y4
  refine pH ?_
  refine pN ?_
  refine pS ?_
  refine gS 0 ?_
  refine gR 8 (rg Try.f20 8) ?_
  refine se (mkE [(2, .own 24 0)] [(24, RR 37 4 a36 y4.2.2 0 false)] 22) ?_
  refine pN ?_
  refine pS ?_
  refine gE ?_
  exact pL
theorem F20 (m : Nat) (hm : 2 ≤ m) (p0 : (List S36)) : callA Try.prog cfg m 20 [LL a36 p0] = (T20 p0).map (fun l => AV.fr 37 4 (List.map a36 l)) := by
  obtain ⟨q, rfl⟩ : ∃ q, m = q + 1 := ⟨m - 1, by omega⟩
  exact (callA_body (fn := Try.f20) (c := body_ Try.f20) q _ (by kernel_rfl) (by kernel_rfl) (by kernel_rfl)).trans (B20 _ (fun p0 => F57 q (by omega) p0) p0)

theorem F71 (m : Nat) (hm : 1 ≤ m) (p0 : (List Int)) : callA Try.prog cfg m 71 [LL I p0] = (appO 8 ([] : List Int) p0).map (fun l => AV.fr 3 1 (List.map I l)) := by
  obtain ⟨q, rfl⟩ : ∃ q, m = q + 1 := ⟨m - 1, by omega⟩
  exact (callA_leaf (L := (leafClone Try.prog 3 1 8)) _ _ (by kernel_rfl)).trans (clone_leaf I _ _ (fun _ => by kernel_rfl))

noncomputable def L21_3 (p0 : (List S105)) (z0 : ((List S105) × Int)) : Option (((List S105) × Int) ⊕ (Int × Bool × (List S105))) := (bif (ltI z0.2 (lenL p0)) then ((listAt p0 z0.2).bind fun x1 => ((appO 8 ([] : List Int) x1.f7).bind fun x2 => ((appO 16 ([] : List ByteArray) x1.f11).bind fun x3 => ((appO 152 z0.1 ([(S105.mk x1.f0 x1.f1 x1.f2 x1.f3 x1.f4 x1.f5 x1.f6 x2 x1.f8 x1.f9 x1.f10 x3 x1.f12)] : List S105)).bind fun x4 => (some (.inl (x4, (addI .i64 z0.2 1)))))))) else (some (.inr (z0.2, (ltI z0.2 (lenL p0)), z0.1))))
theorem L21_3_ok (C : Callee) (h57 : ∀ (p0 : (List ByteArray)), C 57 [LL S p0] = (appO 16 ([] : List ByteArray) p0).map (fun l => AV.fr 9 1 (List.map S l))) (h71 : ∀ (p0 : (List Int)), C 71 [LL I p0] = (appO 8 ([] : List Int) p0).map (fun l => AV.fr 3 1 (List.map I l))) (p0 : (List S105)) (z0 : ((List S105) × Int)) : runs Try.prog C (cfg.fn 21) (finLoop ((cfg.fn 21).keep 3) ((cfg.fn 21).al 3)) [] (execA Try.prog C (cfg.fn 21) (nr Try.f21 [false, false, true, false, true, true]) ((fun z0 : ((List S105) × Int) => (mkE [(3, .own 24 0), (6, LL a105 p0), (7, I (lenL p0)), (8, I z0.2)] [(24, RR 106 13 a105 z0.1 0 false)] 26)) z0)) = (L21_3 p0 z0).map (Sum.elim (fun z => .inl ((fun z0 : ((List S105) × Int) => (mkE [(3, .own 24 0), (6, LL a105 p0), (7, I (lenL p0)), (8, I z0.2)] [(24, RR 106 13 a105 z0.1 0 false)] 26)) z)) (fun x => .inr ((fun (x : (Int × Bool × (List S105))) => (.exit 0, (mkE [(3, .own 24 0), (6, LL a105 p0), (7, I (lenL p0)), (8, I x.1), (9, B x.2.1)] [(24, RR 106 13 a105 x.2.2 0 false)] 26))) x))) := by
  unfold L21_3
  refine gS 0 ?_
  refine gR 3 (rg Try.f21 3) ?_
  refine se (mkE [(3, .own 24 0), (6, LL a105 p0), (7, I (lenL p0)), (8, I z0.2), (9, B (ltI z0.2 (lenL p0)))] [(24, RR 106 13 a105 z0.1 0 false)] 26) ?_
  refine pN ?_
  refine pS ?_
  refine gS 4 ?_
  refine gC 9 (ltI z0.2 (lenL p0)) ?_ ?_
  · refine gK ?_
    refine pN ?_
    refine pS ?_
    refine gS 7 ?_
    refine gB 1 ?_
    refine gS 5 ?_
    refine gR 4 (rg Try.f21 4) ?_
    refine vo 10 (addrE 40 106 13 a105 .i64 p0 z0.2) (fun x1 => ?_)
    refine se (mkE [(3, .own 24 0), (5, .ba 40 0), (6, LL a105 p0), (7, I (lenL p0)), (8, I z0.2)] [(24, RR 106 13 a105 z0.1 0 false), (40, .box [S x1.f0, S x1.f1, I x1.f2, I x1.f3, I x1.f4, I x1.f5, I x1.f6, LL I x1.f7, I x1.f8, I x1.f9, I x1.f10, LL S x1.f11, B x1.f12] false)] 26) ?_
    refine pN ?_
    refine pS ?_
    refine gS 6 ?_
    refine gD 5 7 (rg Try.f21 5) [0, 1, 2, 3, 4, 5, 6, 7, 8, 9] ?_
    refine dg 2 [(some 12, qe (.ba 40 7)), (some 13, qe (LL I x1.f7))] ?_
    refine dc 14 [] (mkE [(13, LL I x1.f7), (12, .ba 40 7), (3, .own 24 0), (5, .ba 40 0), (6, LL a105 p0), (7, I (lenL p0)), (8, I z0.2)] [(24, RR 106 13 a105 z0.1 0 false), (40, .box [S x1.f0, S x1.f1, I x1.f2, I x1.f3, I x1.f4, I x1.f5, I x1.f6, LL I x1.f7, I x1.f8, I x1.f9, I x1.f10, LL S x1.f11, B x1.f12] false)] 26) (h71 x1.f7) (fun x2 => ?_)
    refine dg 5 [(some 12, qe (.ba 40 7)), (some 13, qe (LL I x1.f7)), (some 14, { e := { val := .own 112 0, news := [(112, RR 3 1 I x2 0 false)] } }), (some 15, qe (.ba 40 11)), (some 16, qe (LL S x1.f11))] ?_
    refine dc 17 [] (mkE [(16, LL S x1.f11), (15, .ba 40 11), (14, .own 112 0), (13, LL I x1.f7), (12, .ba 40 7), (3, .own 24 0), (5, .ba 40 0), (6, LL a105 p0), (7, I (lenL p0)), (8, I z0.2)] [(112, RR 3 1 I x2 0 false), (24, RR 106 13 a105 z0.1 0 false), (40, .box [S x1.f0, S x1.f1, I x1.f2, I x1.f3, I x1.f4, I x1.f5, I x1.f6, LL I x1.f7, I x1.f8, I x1.f9, I x1.f10, LL S x1.f11, B x1.f12] false)] 26) (h57 x1.f11) (fun x3 => ?_)
    refine dg 7 [(some 12, qe (.ba 40 7)), (some 13, qe (LL I x1.f7)), (some 14, { e := { val := .own 112 0, news := [(112, RR 3 1 I x2 0 false)] } }), (some 15, qe (.ba 40 11)), (some 16, qe (LL S x1.f11)), (some 17, { e := { val := .own 136 0, news := [(136, RR 9 1 S x3 0 false)] } }), (some 18, qe (.ba 40 7))] ?_
    refine de (mkE [(18, .ba 40 7), (17, .own 136 0), (16, LL S x1.f11), (15, .ba 40 11), (14, .own 112 0), (13, LL I x1.f7), (12, .ba 40 7), (3, .own 24 0), (5, .ba 40 0), (6, LL a105 p0), (7, I (lenL p0)), (8, I z0.2)] [(136, RR 9 1 S x3 0 false), (112, RR 3 1 I x2 0 false), (24, RR 106 13 a105 z0.1 0 false), (40, .box [S x1.f0, S x1.f1, I x1.f2, I x1.f3, I x1.f4, I x1.f5, I x1.f6, LL I x1.f7, I x1.f8, I x1.f9, I x1.f10, LL S x1.f11, B x1.f12] false)] 26) ?_
    refine se (mkE [(3, .own 24 0), (5, .ba 40 0), (6, LL a105 p0), (7, I (lenL p0)), (8, I z0.2)] [(24, RR 106 13 a105 z0.1 0 false), (40, .box [S x1.f0, S x1.f1, I x1.f2, I x1.f3, I x1.f4, I x1.f5, I x1.f6, .own 112 0, I x1.f8, I x1.f9, I x1.f10, .own 136 0, B x1.f12] false), (112, RR 3 1 I x2 0 false), (136, RR 9 1 S x3 0 false)] 26) ?_
    refine pN ?_
    refine pS ?_
    refine gR 6 (rg Try.f21 6) ?_
    refine sg 3 (mkE [(22, .own 176 0), (21, .agg [S x1.f0, S x1.f1, I x1.f2, I x1.f3, I x1.f4, I x1.f5, I x1.f6, .own 112 0, I x1.f8, I x1.f9, I x1.f10, .own 136 0, B x1.f12]), (20, .own 24 0), (3, .own 24 0), (5, .ba 40 0), (6, LL a105 p0), (7, I (lenL p0)), (8, I z0.2)] [(176, RR 106 13 a105 ([(S105.mk x1.f0 x1.f1 x1.f2 x1.f3 x1.f4 x1.f5 x1.f6 x2 x1.f8 x1.f9 x1.f10 x3 x1.f12)] : List S105) 0 false), (136, RR 9 1 S x3 0 true), (112, RR 3 1 I x2 0 true), (24, RR 106 13 a105 z0.1 0 false), (40, .box [S x1.f0, S x1.f1, I x1.f2, I x1.f3, I x1.f4, I x1.f5, I x1.f6, .own 112 0, I x1.f8, I x1.f9, I x1.f10, .own 136 0, B x1.f12] false), (112, RR 3 1 I x2 0 false), (136, RR 9 1 S x3 0 false)] 26) ?_
    refine mo (some 23) (apO 40 106 13 152 24 a105 0 [176] (y := .own 176 0) (l2 := ([(S105.mk x1.f0 x1.f1 x1.f2 x1.f3 x1.f4 x1.f5 x1.f6 x2 x1.f8 x1.f9 x1.f10 x3 x1.f12)] : List S105))) (fun x4 => ?_)
    refine se (mkE [(3, .own 24 1), (6, LL a105 p0), (7, I (lenL p0)), (8, I z0.2)] [(24, RR 106 13 a105 x4 1 false)] 26) ?_
    refine pB ?_
    refine pN ?_
    refine pS ?_
    refine gR 7 (rg Try.f21 7) ?_
    refine se (mkE [(3, .own 24 1), (6, LL a105 p0), (7, I (lenL p0)), (8, I (addI .i64 z0.2 1))] [(24, RR 106 13 a105 x4 1 false)] 26) ?_
    exact pL
  · refine gX 0 ?_
    exact pL
noncomputable def T21 (p0 : (List S105)) : Option (List S105) := ((iter (L21_3 p0) ([], 0)).bind fun y5 => (some y5.2.2))
theorem B21 (C : Callee) (h57 : ∀ (p0 : (List ByteArray)), C 57 [LL S p0] = (appO 16 ([] : List ByteArray) p0).map (fun l => AV.fr 9 1 (List.map S l))) (h71 : ∀ (p0 : (List Int)), C 71 [LL I p0] = (appO 8 ([] : List Int) p0).map (fun l => AV.fr 3 1 (List.map I l))) (p0 : (List S105)) : runs Try.prog C (cfg.fn 21) (finFn Try.prog (cfg.fn 21).byval Try.f21) [] (execA Try.prog C (cfg.fn 21) (nr Try.f21 []) (frame0 [LL a105 p0] 26)) = (T21 p0).map (fun l => AV.fr 106 13 (List.map a105 l)) := by
  unfold T21
  refine gS 1 ?_
  refine gR 0 (rg Try.f21 0) ?_
  refine se (mkE [(0, LL a105 p0)] [] 26) ?_
  refine pN ?_
  refine pS ?_
  refine gS 2 ?_
  refine gR 1 (rg Try.f21 1) ?_
  refine se (mkE [(0, LL a105 p0), (3, .nils)] [] 26) ?_
  refine pN ?_
  refine pS ?_
  refine gS 8 ?_
  refine gS 3 ?_
  refine gR 2 (rg Try.f21 2) ?_
  refine sg 1 (mkE [(6, LL a105 p0), (0, LL a105 p0), (3, .nils)] [] 26) ?_
  refine eo 7 (I (lenL p0)) (lenE 40 a105 p0) ?_
  refine se (mkE [(3, .nils), (6, LL a105 p0), (7, I (lenL p0)), (8, I 0)] [] 26) ?_
  refine pN ?_
  refine pS ?_
  refine gB 0 ?_
  refine lo [(3, some (106, 13)), (6, none), (7, none), (8, none)] [] (L21_3 p0) (fun z0 : ((List S105) × Int) => (mkE [(3, .own 24 0), (6, LL a105 p0), (7, I (lenL p0)), (8, I z0.2)] [(24, RR 106 13 a105 z0.1 0 false)] 26)) (fun (x : (Int × Bool × (List S105))) => (.exit 0, (mkE [(3, .own 24 0), (6, LL a105 p0), (7, I (lenL p0)), (8, I x.1), (9, B x.2.1)] [(24, RR 106 13 a105 x.2.2 0 false)] 26))) ([], 0) (fun z => L21_3_ok C h57 h71 p0 z) ?_
  intro y5
  refine pH ?_
  refine pN ?_
  refine pS ?_
  refine gS 0 ?_
  refine gR 8 (rg Try.f21 8) ?_
  refine se (mkE [(2, .own 24 0)] [(24, RR 106 13 a105 y5.2.2 0 false)] 26) ?_
  refine pN ?_
  refine pS ?_
  refine gE ?_
  exact pL
theorem F21 (m : Nat) (hm : 2 ≤ m) (p0 : (List S105)) : callA Try.prog cfg m 21 [LL a105 p0] = (T21 p0).map (fun l => AV.fr 106 13 (List.map a105 l)) := by
  obtain ⟨q, rfl⟩ : ∃ q, m = q + 1 := ⟨m - 1, by omega⟩
  exact (callA_body (fn := Try.f21) (c := body_ Try.f21) q _ (by kernel_rfl) (by kernel_rfl) (by kernel_rfl)).trans (B21 _ (fun p0 => F57 q (by omega) p0) (fun p0 => F71 q (by omega) p0) p0)

noncomputable def L137_2 (p0 : ByteArray) (z0 : Int) : Option (Int ⊕ ((Int × Bool) ⊕ Unit)) := (bif (ltI z0 (lenS p0)) then ((byteAt p0 z0).bind fun x1 => (bif (leI 97 x1) then (bif (leI x1 122) then (some (.inl (addI .i64 z0 1))) else (bif (ltI 0 z0) then (bif (leI 48 x1) then (bif (leI x1 57) then (some (.inl (addI .i64 z0 1))) else (bif (eqI x1 45) then (some (.inl (addI .i64 z0 1))) else (bif (!(eqI x1 95)) then (some (.inr (.inr ()))) else (some (.inl (addI .i64 z0 1)))))) else (bif (eqI x1 45) then (some (.inl (addI .i64 z0 1))) else (bif (!(eqI x1 95)) then (some (.inr (.inr ()))) else (some (.inl (addI .i64 z0 1)))))) else (some (.inr (.inr ()))))) else (bif (ltI 0 z0) then (bif (leI 48 x1) then (bif (leI x1 57) then (some (.inl (addI .i64 z0 1))) else (bif (eqI x1 45) then (some (.inl (addI .i64 z0 1))) else (bif (!(eqI x1 95)) then (some (.inr (.inr ()))) else (some (.inl (addI .i64 z0 1)))))) else (bif (eqI x1 45) then (some (.inl (addI .i64 z0 1))) else (bif (!(eqI x1 95)) then (some (.inr (.inr ()))) else (some (.inl (addI .i64 z0 1)))))) else (some (.inr (.inr ())))))) else (some (.inr (.inl (z0, (ltI z0 (lenS p0)))))))
theorem L137_2_ok (C : Callee) (p0 : ByteArray) (z0 : Int) : runs Try.prog C (cfg.fn 137) (finLoop ((cfg.fn 137).keep 2) ((cfg.fn 137).al 2)) [] (execA Try.prog C (cfg.fn 137) (nr Try.f137 [false, false, true, false, true]) ((fun z0 : Int => (mkE [(0, S p0), (3, I z0)] [] 48)) z0)) = (L137_2 p0 z0).map (Sum.elim (fun z => .inl ((fun z0 : Int => (mkE [(0, S p0), (3, I z0)] [] 48)) z)) (fun x => .inr ((Sum.elim (fun (x : (Int × Bool)) => (.exit 0, (mkE [(0, S p0), (3, I x.1), (8, B x.2)] [] 48))) (fun (x : Unit) => (.ret, (mkE [(2, B false)] [] 48)))) x))) := by
  unfold L137_2
  refine gS 4 ?_
  refine gS 0 ?_
  refine gR 2 (rg Try.f137 2) ?_
  refine se (mkE [(0, S p0), (3, I z0), (8, B (ltI z0 (lenS p0)))] [] 48) ?_
  refine pN ?_
  refine pS ?_
  refine gC 8 (ltI z0 (lenS p0)) ?_ ?_
  · refine gK ?_
    refine pN ?_
    refine pS ?_
    refine gS 3 ?_
    refine gB 1 ?_
    refine gS 5 ?_
    refine gR 4 (rg Try.f137 4) ?_
    refine sg 2 (mkE [(12, I z0), (11, S p0), (0, S p0), (3, I z0), (8, B (ltI z0 (lenS p0)))] [] 48) ?_
    refine vo 13 (byteE 9 .i64 p0 z0) (fun x1 => ?_)
    refine se (mkE [(0, S p0), (3, I z0), (4, U x1)] [] 48) ?_
    refine pN ?_
    refine pS ?_
    refine gS 0 ?_
    refine gR 5 (rg Try.f137 5) ?_
    refine sg 3 (mkE [(16, B (leI 97 x1)), (15, B (leI 97 x1)), (14, U x1), (0, S p0), (3, I z0), (4, U x1)] [] 48) ?_
    refine sb 16 (leI 97 x1) ?_ ?_
    · refine sg 7 (mkE [(20, B (leI x1 122)), (19, B (leI x1 122)), (18, B (leI x1 122)), (17, U x1), (16, B true), (16, B (leI 97 x1)), (15, B (leI 97 x1)), (14, U x1), (0, S p0), (3, I z0), (4, U x1)] [] 48) ?_
      refine sb 20 (leI x1 122) ?_ ?_
      · refine se (mkE [(0, S p0), (3, I z0), (40, B false)] [] 48) ?_
        refine pN ?_
        refine pS ?_
        refine gF (.tmp 40) ?_
        refine gK ?_
        refine pB ?_
        refine pN ?_
        refine pS ?_
        refine gR 3 (rg Try.f137 3) ?_
        refine se (mkE [(0, S p0), (3, I (addI .i64 z0 1))] [] 48) ?_
        exact pL
      · refine sg 10 (mkE [(23, B (ltI 0 z0)), (22, B (ltI 0 z0)), (21, I z0), (20, B false), (20, B (leI x1 122)), (19, B (leI x1 122)), (18, B (leI x1 122)), (17, U x1), (16, B true), (16, B (leI 97 x1)), (15, B (leI 97 x1)), (14, U x1), (0, S p0), (3, I z0), (4, U x1)] [] 48) ?_
        refine sb 23 (ltI 0 z0) ?_ ?_
        · refine sg 13 (mkE [(26, B (leI 48 x1)), (25, B (leI 48 x1)), (24, U x1), (23, B true), (23, B (ltI 0 z0)), (22, B (ltI 0 z0)), (21, I z0), (20, B false), (20, B (leI x1 122)), (19, B (leI x1 122)), (18, B (leI x1 122)), (17, U x1), (16, B true), (16, B (leI 97 x1)), (15, B (leI 97 x1)), (14, U x1), (0, S p0), (3, I z0), (4, U x1)] [] 48) ?_
          refine sb 26 (leI 48 x1) ?_ ?_
          · refine sg 17 (mkE [(30, B (leI x1 57)), (29, B (leI x1 57)), (28, B (leI x1 57)), (27, U x1), (26, B true), (26, B (leI 48 x1)), (25, B (leI 48 x1)), (24, U x1), (23, B true), (23, B (ltI 0 z0)), (22, B (ltI 0 z0)), (21, I z0), (20, B false), (20, B (leI x1 122)), (19, B (leI x1 122)), (18, B (leI x1 122)), (17, U x1), (16, B true), (16, B (leI 97 x1)), (15, B (leI 97 x1)), (14, U x1), (0, S p0), (3, I z0), (4, U x1)] [] 48) ?_
            refine sb 30 (leI x1 57) ?_ ?_
            · refine se (mkE [(0, S p0), (3, I z0), (40, B false)] [] 48) ?_
              refine pN ?_
              refine pS ?_
              refine gF (.tmp 40) ?_
              refine gK ?_
              refine pB ?_
              refine pN ?_
              refine pS ?_
              refine gR 3 (rg Try.f137 3) ?_
              refine se (mkE [(0, S p0), (3, I (addI .i64 z0 1))] [] 48) ?_
              exact pL
            · refine sg 21 (mkE [(34, B (eqI x1 45)), (33, B (eqI x1 45)), (32, B (eqI x1 45)), (31, U x1), (30, B false), (30, B (leI x1 57)), (29, B (leI x1 57)), (28, B (leI x1 57)), (27, U x1), (26, B true), (26, B (leI 48 x1)), (25, B (leI 48 x1)), (24, U x1), (23, B true), (23, B (ltI 0 z0)), (22, B (ltI 0 z0)), (21, I z0), (20, B false), (20, B (leI x1 122)), (19, B (leI x1 122)), (18, B (leI x1 122)), (17, U x1), (16, B true), (16, B (leI 97 x1)), (15, B (leI 97 x1)), (14, U x1), (0, S p0), (3, I z0), (4, U x1)] [] 48) ?_
              refine sb 34 (eqI x1 45) ?_ ?_
              · refine se (mkE [(0, S p0), (3, I z0), (40, B false)] [] 48) ?_
                refine pN ?_
                refine pS ?_
                refine gF (.tmp 40) ?_
                refine gK ?_
                refine pB ?_
                refine pN ?_
                refine pS ?_
                refine gR 3 (rg Try.f137 3) ?_
                refine se (mkE [(0, S p0), (3, I (addI .i64 z0 1))] [] 48) ?_
                exact pL
              · refine se (mkE [(0, S p0), (3, I z0), (40, B (!(eqI x1 95)))] [] 48) ?_
                refine pN ?_
                refine pS ?_
                refine gC 40 (!(eqI x1 95)) ?_ ?_
                · refine gS 0 ?_
                  refine gR 6 (rg Try.f137 6) ?_
                  refine se (mkE [(2, B false)] [] 48) ?_
                  refine pN ?_
                  refine pS ?_
                  refine gE ?_
                  exact pL
                · refine gK ?_
                  refine pB ?_
                  refine pN ?_
                  refine pS ?_
                  refine gR 3 (rg Try.f137 3) ?_
                  refine se (mkE [(0, S p0), (3, I (addI .i64 z0 1))] [] 48) ?_
                  exact pL
          · refine sg 21 (mkE [(34, B (eqI x1 45)), (33, B (eqI x1 45)), (32, B (eqI x1 45)), (31, U x1), (30, B false), (29, B false), (28, .und), (27, .und), (26, B false), (26, B (leI 48 x1)), (25, B (leI 48 x1)), (24, U x1), (23, B true), (23, B (ltI 0 z0)), (22, B (ltI 0 z0)), (21, I z0), (20, B false), (20, B (leI x1 122)), (19, B (leI x1 122)), (18, B (leI x1 122)), (17, U x1), (16, B true), (16, B (leI 97 x1)), (15, B (leI 97 x1)), (14, U x1), (0, S p0), (3, I z0), (4, U x1)] [] 48) ?_
            refine sb 34 (eqI x1 45) ?_ ?_
            · refine se (mkE [(0, S p0), (3, I z0), (40, B false)] [] 48) ?_
              refine pN ?_
              refine pS ?_
              refine gF (.tmp 40) ?_
              refine gK ?_
              refine pB ?_
              refine pN ?_
              refine pS ?_
              refine gR 3 (rg Try.f137 3) ?_
              refine se (mkE [(0, S p0), (3, I (addI .i64 z0 1))] [] 48) ?_
              exact pL
            · refine se (mkE [(0, S p0), (3, I z0), (40, B (!(eqI x1 95)))] [] 48) ?_
              refine pN ?_
              refine pS ?_
              refine gC 40 (!(eqI x1 95)) ?_ ?_
              · refine gS 0 ?_
                refine gR 6 (rg Try.f137 6) ?_
                refine se (mkE [(2, B false)] [] 48) ?_
                refine pN ?_
                refine pS ?_
                refine gE ?_
                exact pL
              · refine gK ?_
                refine pB ?_
                refine pN ?_
                refine pS ?_
                refine gR 3 (rg Try.f137 3) ?_
                refine se (mkE [(0, S p0), (3, I (addI .i64 z0 1))] [] 48) ?_
                exact pL
        · refine se (mkE [(0, S p0), (3, I z0), (40, B true)] [] 48) ?_
          refine pN ?_
          refine pS ?_
          refine gT (.tmp 40) ?_
          refine gS 0 ?_
          refine gR 6 (rg Try.f137 6) ?_
          refine se (mkE [(2, B false)] [] 48) ?_
          refine pN ?_
          refine pS ?_
          refine gE ?_
          exact pL
    · refine sg 10 (mkE [(23, B (ltI 0 z0)), (22, B (ltI 0 z0)), (21, I z0), (20, B false), (19, B false), (18, .und), (17, .und), (16, B false), (16, B (leI 97 x1)), (15, B (leI 97 x1)), (14, U x1), (0, S p0), (3, I z0), (4, U x1)] [] 48) ?_
      refine sb 23 (ltI 0 z0) ?_ ?_
      · refine sg 13 (mkE [(26, B (leI 48 x1)), (25, B (leI 48 x1)), (24, U x1), (23, B true), (23, B (ltI 0 z0)), (22, B (ltI 0 z0)), (21, I z0), (20, B false), (19, B false), (18, .und), (17, .und), (16, B false), (16, B (leI 97 x1)), (15, B (leI 97 x1)), (14, U x1), (0, S p0), (3, I z0), (4, U x1)] [] 48) ?_
        refine sb 26 (leI 48 x1) ?_ ?_
        · refine sg 17 (mkE [(30, B (leI x1 57)), (29, B (leI x1 57)), (28, B (leI x1 57)), (27, U x1), (26, B true), (26, B (leI 48 x1)), (25, B (leI 48 x1)), (24, U x1), (23, B true), (23, B (ltI 0 z0)), (22, B (ltI 0 z0)), (21, I z0), (20, B false), (19, B false), (18, .und), (17, .und), (16, B false), (16, B (leI 97 x1)), (15, B (leI 97 x1)), (14, U x1), (0, S p0), (3, I z0), (4, U x1)] [] 48) ?_
          refine sb 30 (leI x1 57) ?_ ?_
          · refine se (mkE [(0, S p0), (3, I z0), (40, B false)] [] 48) ?_
            refine pN ?_
            refine pS ?_
            refine gF (.tmp 40) ?_
            refine gK ?_
            refine pB ?_
            refine pN ?_
            refine pS ?_
            refine gR 3 (rg Try.f137 3) ?_
            refine se (mkE [(0, S p0), (3, I (addI .i64 z0 1))] [] 48) ?_
            exact pL
          · refine sg 21 (mkE [(34, B (eqI x1 45)), (33, B (eqI x1 45)), (32, B (eqI x1 45)), (31, U x1), (30, B false), (30, B (leI x1 57)), (29, B (leI x1 57)), (28, B (leI x1 57)), (27, U x1), (26, B true), (26, B (leI 48 x1)), (25, B (leI 48 x1)), (24, U x1), (23, B true), (23, B (ltI 0 z0)), (22, B (ltI 0 z0)), (21, I z0), (20, B false), (19, B false), (18, .und), (17, .und), (16, B false), (16, B (leI 97 x1)), (15, B (leI 97 x1)), (14, U x1), (0, S p0), (3, I z0), (4, U x1)] [] 48) ?_
            refine sb 34 (eqI x1 45) ?_ ?_
            · refine se (mkE [(0, S p0), (3, I z0), (40, B false)] [] 48) ?_
              refine pN ?_
              refine pS ?_
              refine gF (.tmp 40) ?_
              refine gK ?_
              refine pB ?_
              refine pN ?_
              refine pS ?_
              refine gR 3 (rg Try.f137 3) ?_
              refine se (mkE [(0, S p0), (3, I (addI .i64 z0 1))] [] 48) ?_
              exact pL
            · refine se (mkE [(0, S p0), (3, I z0), (40, B (!(eqI x1 95)))] [] 48) ?_
              refine pN ?_
              refine pS ?_
              refine gC 40 (!(eqI x1 95)) ?_ ?_
              · refine gS 0 ?_
                refine gR 6 (rg Try.f137 6) ?_
                refine se (mkE [(2, B false)] [] 48) ?_
                refine pN ?_
                refine pS ?_
                refine gE ?_
                exact pL
              · refine gK ?_
                refine pB ?_
                refine pN ?_
                refine pS ?_
                refine gR 3 (rg Try.f137 3) ?_
                refine se (mkE [(0, S p0), (3, I (addI .i64 z0 1))] [] 48) ?_
                exact pL
        · refine sg 21 (mkE [(34, B (eqI x1 45)), (33, B (eqI x1 45)), (32, B (eqI x1 45)), (31, U x1), (30, B false), (29, B false), (28, .und), (27, .und), (26, B false), (26, B (leI 48 x1)), (25, B (leI 48 x1)), (24, U x1), (23, B true), (23, B (ltI 0 z0)), (22, B (ltI 0 z0)), (21, I z0), (20, B false), (19, B false), (18, .und), (17, .und), (16, B false), (16, B (leI 97 x1)), (15, B (leI 97 x1)), (14, U x1), (0, S p0), (3, I z0), (4, U x1)] [] 48) ?_
          refine sb 34 (eqI x1 45) ?_ ?_
          · refine se (mkE [(0, S p0), (3, I z0), (40, B false)] [] 48) ?_
            refine pN ?_
            refine pS ?_
            refine gF (.tmp 40) ?_
            refine gK ?_
            refine pB ?_
            refine pN ?_
            refine pS ?_
            refine gR 3 (rg Try.f137 3) ?_
            refine se (mkE [(0, S p0), (3, I (addI .i64 z0 1))] [] 48) ?_
            exact pL
          · refine se (mkE [(0, S p0), (3, I z0), (40, B (!(eqI x1 95)))] [] 48) ?_
            refine pN ?_
            refine pS ?_
            refine gC 40 (!(eqI x1 95)) ?_ ?_
            · refine gS 0 ?_
              refine gR 6 (rg Try.f137 6) ?_
              refine se (mkE [(2, B false)] [] 48) ?_
              refine pN ?_
              refine pS ?_
              refine gE ?_
              exact pL
            · refine gK ?_
              refine pB ?_
              refine pN ?_
              refine pS ?_
              refine gR 3 (rg Try.f137 3) ?_
              refine se (mkE [(0, S p0), (3, I (addI .i64 z0 1))] [] 48) ?_
              exact pL
      · refine se (mkE [(0, S p0), (3, I z0), (40, B true)] [] 48) ?_
        refine pN ?_
        refine pS ?_
        refine gT (.tmp 40) ?_
        refine gS 0 ?_
        refine gR 6 (rg Try.f137 6) ?_
        refine se (mkE [(2, B false)] [] 48) ?_
        refine pN ?_
        refine pS ?_
        refine gE ?_
        exact pL
  · refine gX 0 ?_
    exact pL
noncomputable def T137 (p0 : ByteArray) : Option Bool := ((iter (L137_2 p0) 0).bind fun y2 => (Sum.elim (fun y2a => (bif (!eqS p0 (ByteArray.mk #[])) then (some (leI (lenS p0) 40)) else (some false))) (fun y2b => (some false)) y2))
theorem B137 (C : Callee) (p0 : ByteArray) : runs Try.prog C (cfg.fn 137) (finFn Try.prog (cfg.fn 137).byval Try.f137) [] (execA Try.prog C (cfg.fn 137) (nr Try.f137 []) (frame0 [S p0] 48)) = (T137 p0).map B := by
  unfold T137
  refine gS 1 ?_
  refine gR 0 (rg Try.f137 0) ?_
  refine se (mkE [(0, S p0)] [] 48) ?_
  refine pN ?_
  refine pS ?_
  refine gS 7 ?_
  refine gS 2 ?_
  refine gR 1 (rg Try.f137 1) ?_
  refine se (mkE [(0, S p0), (3, I 0)] [] 48) ?_
  refine pN ?_
  refine pS ?_
  refine gB 0 ?_
  refine lo [(0, none), (3, none)] [] (L137_2 p0) (fun z0 : Int => (mkE [(0, S p0), (3, I z0)] [] 48)) (Sum.elim (fun (x : (Int × Bool)) => (.exit 0, (mkE [(0, S p0), (3, I x.1), (8, B x.2)] [] 48))) (fun (x : Unit) => (.ret, (mkE [(2, B false)] [] 48)))) 0 (fun z => L137_2_ok C p0 z) ?_
  intro y2
  refine ss y2 (Z := (Sum.elim (fun (x : (Int × Bool)) => (.exit 0, (mkE [(0, S p0), (3, I x.1), (8, B x.2)] [] 48))) (fun (x : Unit) => (.ret, (mkE [(2, B false)] [] 48))))) (fun y2a => ?_) (fun y2b => ?_)
  · refine pH ?_
    refine pN ?_
    refine pS ?_
    refine gS 0 ?_
    refine gR 7 (rg Try.f137 7) ?_
    refine sg 3 (mkE [(43, B (!eqS p0 (ByteArray.mk #[]))), (42, B (!eqS p0 (ByteArray.mk #[]))), (41, S p0), (0, S p0), (3, I y2a.1), (8, B y2a.2)] [] 48) ?_
    refine sb 43 (!eqS p0 (ByteArray.mk #[])) ?_ ?_
    · refine se (mkE [(2, B (leI (lenS p0) 40))] [] 48) ?_
      refine pN ?_
      refine pS ?_
      refine gE ?_
      exact pL
    · refine se (mkE [(2, B false)] [] 48) ?_
      refine pN ?_
      refine pS ?_
      refine gE ?_
      exact pL
  · exact pL
theorem F137 (m : Nat) (hm : 1 ≤ m) (p0 : ByteArray) : callA Try.prog cfg m 137 [S p0] = (T137 p0).map B := by
  obtain ⟨q, rfl⟩ : ∃ q, m = q + 1 := ⟨m - 1, by omega⟩
  exact (callA_body (fn := Try.f137) (c := body_ Try.f137) q _ (by kernel_rfl) (by kernel_rfl) (by kernel_rfl)).trans (B137 _ p0)

noncomputable def T126 (p0 : Int) (p1 : Int) (p2 : Int) : Option Bool := (bif (ltI p0 p1) then (some true) else (some (ltI p2 p0)))
theorem B126 (C : Callee) (p0 : Int) (p1 : Int) (p2 : Int) : runs Try.prog C (cfg.fn 126) (finFn Try.prog (cfg.fn 126).byval Try.f126) [] (execA Try.prog C (cfg.fn 126) (nr Try.f126 []) (frame0 [I p0, I p1, I p2] 15)) = (T126 p0 p1 p2).map B := by
  unfold T126
  refine gS 1 ?_
  refine gR 0 (rg Try.f126 0) ?_
  refine se (mkE [(0, I p0), (1, I p1), (2, I p2)] [] 15) ?_
  refine pN ?_
  refine pS ?_
  refine gS 0 ?_
  refine gR 1 (rg Try.f126 1) ?_
  refine sg 4 (mkE [(10, B (ltI p0 p1)), (9, B (ltI p0 p1)), (8, I p1), (7, I p0), (0, I p0), (1, I p1), (2, I p2)] [] 15) ?_
  refine sb 10 (ltI p0 p1) ?_ ?_
  · refine se (mkE [(6, B true)] [] 15) ?_
    refine pN ?_
    refine pS ?_
    refine gE ?_
    exact pL
  · refine se (mkE [(6, B (ltI p2 p0))] [] 15) ?_
    refine pN ?_
    refine pS ?_
    refine gE ?_
    exact pL
theorem F126 (m : Nat) (hm : 1 ≤ m) (p0 : Int) (p1 : Int) (p2 : Int) : callA Try.prog cfg m 126 [I p0, I p1, I p2] = (T126 p0 p1 p2).map B := by
  obtain ⟨q, rfl⟩ : ∃ q, m = q + 1 := ⟨m - 1, by omega⟩
  exact (callA_body (fn := Try.f126) (c := body_ Try.f126) q _ (by kernel_rfl) (by kernel_rfl) (by kernel_rfl)).trans (B126 _ p0 p1 p2)

noncomputable def T292 (p0 : Int) : Option Bool := (bif (leI 0 p0) then (some (leI p0 4000)) else (some false))
theorem B292 (C : Callee) (p0 : Int) : runs Try.prog C (cfg.fn 292) (finFn Try.prog (cfg.fn 292).byval Try.f292) [] (execA Try.prog C (cfg.fn 292) (nr Try.f292 []) (frame0 [I p0] 9)) = (T292 p0).map B := by
  unfold T292
  refine gS 1 ?_
  refine gR 0 (rg Try.f292 0) ?_
  refine se (mkE [(0, I p0)] [] 9) ?_
  refine pN ?_
  refine pS ?_
  refine gS 0 ?_
  refine gR 1 (rg Try.f292 1) ?_
  refine sg 3 (mkE [(5, B (leI 0 p0)), (4, B (leI 0 p0)), (3, I p0), (0, I p0)] [] 9) ?_
  refine sb 5 (leI 0 p0) ?_ ?_
  · refine se (mkE [(2, B (leI p0 4000))] [] 9) ?_
    refine pN ?_
    refine pS ?_
    refine gE ?_
    exact pL
  · refine se (mkE [(2, B false)] [] 9) ?_
    refine pN ?_
    refine pS ?_
    refine gE ?_
    exact pL
theorem F292 (m : Nat) (hm : 1 ≤ m) (p0 : Int) : callA Try.prog cfg m 292 [I p0] = (T292 p0).map B := by
  obtain ⟨q, rfl⟩ : ∃ q, m = q + 1 := ⟨m - 1, by omega⟩
  exact (callA_body (fn := Try.f292) (c := body_ Try.f292) q _ (by kernel_rfl) (by kernel_rfl) (by kernel_rfl)).trans (B292 _ p0)

noncomputable def L268_4 (p0 : (List Int)) (z0 : Int) : Option (Int ⊕ ((Int × Bool) ⊕ Int)) := (bif (ltI z0 (lenL p0)) then ((listAt p0 z0).bind fun x1 => ((T292 x1).bind fun x2 => (bif (!x2) then (some (.inr (.inr 1))) else (bif (ltI 0 z0) then ((listAt p0 (subI .i64 z0 1)).bind fun x3 => (bif (leI x1 x3) then (some (.inr (.inr 7))) else (some (.inl (addI .i64 z0 1))))) else (some (.inl (addI .i64 z0 1))))))) else (some (.inr (.inl (z0, (ltI z0 (lenL p0)))))))
theorem L268_4_ok (C : Callee) (h292 : ∀ (p0 : Int), C 292 [I p0] = (T292 p0).map B) (p0 : (List Int)) (z0 : Int) : runs Try.prog C (cfg.fn 268) (finLoop ((cfg.fn 268).keep 4) ((cfg.fn 268).al 4)) [] (execA Try.prog C (cfg.fn 268) (nr Try.f268 [false, false, true, false, true, true]) ((fun z0 : Int => (mkE [(0, LL I p0), (8, LL I p0), (9, I (lenL p0)), (10, I z0)] [] 30)) z0)) = (L268_4 p0 z0).map (Sum.elim (fun z => .inl ((fun z0 : Int => (mkE [(0, LL I p0), (8, LL I p0), (9, I (lenL p0)), (10, I z0)] [] 30)) z)) (fun x => .inr ((Sum.elim (fun (x : (Int × Bool)) => (.exit 0, (mkE [(0, LL I p0), (8, LL I p0), (9, I (lenL p0)), (10, I x.1), (11, B x.2)] [] 30))) (fun (x : Int) => (.ret, (mkE [(2, I x)] [] 30)))) x))) := by
  unfold L268_4
  refine gS 0 ?_
  refine gR 4 (rg Try.f268 4) ?_
  refine se (mkE [(0, LL I p0), (8, LL I p0), (9, I (lenL p0)), (10, I z0), (11, B (ltI z0 (lenL p0)))] [] 30) ?_
  refine pN ?_
  refine pS ?_
  refine gS 5 ?_
  refine gC 11 (ltI z0 (lenL p0)) ?_ ?_
  · refine gK ?_
    refine pN ?_
    refine pS ?_
    refine gS 10 ?_
    refine gB 1 ?_
    refine gS 6 ?_
    refine gR 5 (rg Try.f268 5) ?_
    refine sg 1 (mkE [(12, I z0), (0, LL I p0), (8, LL I p0), (9, I (lenL p0)), (10, I z0), (11, B (ltI z0 (lenL p0)))] [] 30) ?_
    refine vo 13 (addrE 104 3 1 I .i64 p0 z0) (fun x1 => ?_)
    refine se (mkE [(0, LL I p0), (3, I z0), (4, I x1), (8, LL I p0), (9, I (lenL p0)), (10, I z0)] [] 30) ?_
    refine pN ?_
    refine pS ?_
    refine gS 8 ?_
    refine gS 0 ?_
    refine gR 6 (rg Try.f268 6) ?_
    refine sg 1 (mkE [(15, I x1), (0, LL I p0), (3, I z0), (4, I x1), (8, LL I p0), (9, I (lenL p0)), (10, I z0)] [] 30) ?_
    refine co 16 [] (h292 x1) (fun x2 => ?_)
    refine se (mkE [(0, LL I p0), (3, I z0), (4, I x1), (8, LL I p0), (9, I (lenL p0)), (10, I z0), (17, B (!x2))] [] 30) ?_
    refine pN ?_
    refine pS ?_
    refine gC 17 (!x2) ?_ ?_
    · refine gS 0 ?_
      refine gR 7 (rg Try.f268 7) ?_
      refine se (mkE [(2, I 1)] [] 30) ?_
      refine pN ?_
      refine pS ?_
      refine gE ?_
      exact pL
    · refine gK ?_
      refine pN ?_
      refine pS ?_
      refine gS 0 ?_
      refine gR 8 (rg Try.f268 8) ?_
      refine sg 3 (mkE [(20, B (ltI 0 z0)), (19, B (ltI 0 z0)), (18, I z0), (0, LL I p0), (3, I z0), (4, I x1), (8, LL I p0), (9, I (lenL p0)), (10, I z0), (17, B (!x2))] [] 30) ?_
      refine sb 20 (ltI 0 z0) ?_ ?_
      · refine sg 7 (mkE [(24, I (subI .i64 z0 1)), (23, I z0), (22, LL I p0), (21, I x1), (20, B true), (20, B (ltI 0 z0)), (19, B (ltI 0 z0)), (18, I z0), (0, LL I p0), (3, I z0), (4, I x1), (8, LL I p0), (9, I (lenL p0)), (10, I z0), (17, B (!x2))] [] 30) ?_
        refine vo 25 (addrE 104 3 1 I .i64 p0 (subI .i64 z0 1)) (fun x3 => ?_)
        refine se (mkE [(0, LL I p0), (8, LL I p0), (9, I (lenL p0)), (10, I z0), (28, B (leI x1 x3))] [] 30) ?_
        refine pN ?_
        refine pS ?_
        refine gC 28 (leI x1 x3) ?_ ?_
        · refine gS 0 ?_
          refine gR 9 (rg Try.f268 9) ?_
          refine se (mkE [(2, I 7)] [] 30) ?_
          refine pN ?_
          refine pS ?_
          refine gE ?_
          exact pL
        · refine gK ?_
          refine pB ?_
          refine pN ?_
          refine pS ?_
          refine gR 10 (rg Try.f268 10) ?_
          refine se (mkE [(0, LL I p0), (8, LL I p0), (9, I (lenL p0)), (10, I (addI .i64 z0 1))] [] 30) ?_
          exact pL
      · refine se (mkE [(0, LL I p0), (8, LL I p0), (9, I (lenL p0)), (10, I z0), (28, B false)] [] 30) ?_
        refine pN ?_
        refine pS ?_
        refine gF (.tmp 28) ?_
        refine gK ?_
        refine pB ?_
        refine pN ?_
        refine pS ?_
        refine gR 10 (rg Try.f268 10) ?_
        refine se (mkE [(0, LL I p0), (8, LL I p0), (9, I (lenL p0)), (10, I (addI .i64 z0 1))] [] 30) ?_
        exact pL
  · refine gX 0 ?_
    exact pL
noncomputable def T268 (p0 : (List Int)) : Option Int := (bif (ltI 100 (lenL p0)) then (some 2) else ((iter (L268_4 p0) 0).bind fun y4 => (Sum.elim (fun y4a => (some 0)) (fun y4b => (some y4b)) y4)))
theorem B268 (C : Callee) (h292 : ∀ (p0 : Int), C 292 [I p0] = (T292 p0).map B) (p0 : (List Int)) : runs Try.prog C (cfg.fn 268) (finFn Try.prog (cfg.fn 268).byval Try.f268) [] (execA Try.prog C (cfg.fn 268) (nr Try.f268 []) (frame0 [LL I p0] 30)) = (T268 p0).map I := by
  unfold T268
  refine gS 1 ?_
  refine gR 0 (rg Try.f268 0) ?_
  refine se (mkE [(0, LL I p0)] [] 30) ?_
  refine pN ?_
  refine pS ?_
  refine gS 3 ?_
  refine gS 0 ?_
  refine gR 1 (rg Try.f268 1) ?_
  refine sg 1 (mkE [(5, LL I p0), (0, LL I p0)] [] 30) ?_
  refine eo 6 (I (lenL p0)) (lenE 104 I p0) ?_
  refine se (mkE [(0, LL I p0), (7, B (ltI 100 (lenL p0)))] [] 30) ?_
  refine pN ?_
  refine pS ?_
  refine gC 7 (ltI 100 (lenL p0)) ?_ ?_
  · refine gS 0 ?_
    refine gR 2 (rg Try.f268 2) ?_
    refine se (mkE [(2, I 2)] [] 30) ?_
    refine pN ?_
    refine pS ?_
    refine gE ?_
    exact pL
  · refine gK ?_
    refine pN ?_
    refine pS ?_
    refine gS 11 ?_
    refine gS 4 ?_
    refine gR 3 (rg Try.f268 3) ?_
    refine sg 1 (mkE [(8, LL I p0), (0, LL I p0), (7, B (ltI 100 (lenL p0)))] [] 30) ?_
    refine eo 9 (I (lenL p0)) (lenE 104 I p0) ?_
    refine se (mkE [(0, LL I p0), (8, LL I p0), (9, I (lenL p0)), (10, I 0)] [] 30) ?_
    refine pN ?_
    refine pS ?_
    refine gB 0 ?_
    refine lo [(0, none), (8, none), (9, none), (10, none)] [] (L268_4 p0) (fun z0 : Int => (mkE [(0, LL I p0), (8, LL I p0), (9, I (lenL p0)), (10, I z0)] [] 30)) (Sum.elim (fun (x : (Int × Bool)) => (.exit 0, (mkE [(0, LL I p0), (8, LL I p0), (9, I (lenL p0)), (10, I x.1), (11, B x.2)] [] 30))) (fun (x : Int) => (.ret, (mkE [(2, I x)] [] 30)))) 0 (fun z => L268_4_ok C h292 p0 z) ?_
    intro y4
    refine ss y4 (Z := (Sum.elim (fun (x : (Int × Bool)) => (.exit 0, (mkE [(0, LL I p0), (8, LL I p0), (9, I (lenL p0)), (10, I x.1), (11, B x.2)] [] 30))) (fun (x : Int) => (.ret, (mkE [(2, I x)] [] 30))))) (fun y4a => ?_) (fun y4b => ?_)
    · refine pH ?_
      refine pN ?_
      refine pS ?_
      refine gS 0 ?_
      refine gR 11 (rg Try.f268 11) ?_
      refine se (mkE [(2, I 0)] [] 30) ?_
      refine pN ?_
      refine pS ?_
      refine gE ?_
      exact pL
    · exact pL
theorem F268 (m : Nat) (hm : 2 ≤ m) (p0 : (List Int)) : callA Try.prog cfg m 268 [LL I p0] = (T268 p0).map I := by
  obtain ⟨q, rfl⟩ : ∃ q, m = q + 1 := ⟨m - 1, by omega⟩
  exact (callA_body (fn := Try.f268) (c := body_ Try.f268) q _ (by kernel_rfl) (by kernel_rfl) (by kernel_rfl)).trans (B268 _ (fun p0 => F292 q (by omega) p0) p0)

noncomputable def L225_2 (p0 : (List ByteArray)) (z0 : Int) : Option (Int ⊕ ((Int × Bool) ⊕ Int)) := (bif (ltI z0 (lenL p0)) then ((listAt p0 z0).bind fun x1 => ((T137 x1).bind fun x2 => (bif (!x2) then (some (.inr (.inr 5))) else (bif (ltI 0 z0) then ((listAt p0 (subI .i64 z0 1)).bind fun x3 => (bif (ltS x1 x3 || eqS x1 x3) then (some (.inr (.inr 7))) else (some (.inl (addI .i64 z0 1))))) else (some (.inl (addI .i64 z0 1))))))) else (some (.inr (.inl (z0, (ltI z0 (lenL p0)))))))
theorem L225_2_ok (C : Callee) (h137 : ∀ (p0 : ByteArray), C 137 [S p0] = (T137 p0).map B) (p0 : (List ByteArray)) (z0 : Int) : runs Try.prog C (cfg.fn 225) (finLoop ((cfg.fn 225).keep 2) ((cfg.fn 225).al 2)) [] (execA Try.prog C (cfg.fn 225) (nr Try.f225 [false, false, true, false, true]) ((fun z0 : Int => (mkE [(0, LL S p0), (5, LL S p0), (6, I (lenL p0)), (7, I z0)] [] 27)) z0)) = (L225_2 p0 z0).map (Sum.elim (fun z => .inl ((fun z0 : Int => (mkE [(0, LL S p0), (5, LL S p0), (6, I (lenL p0)), (7, I z0)] [] 27)) z)) (fun x => .inr ((Sum.elim (fun (x : (Int × Bool)) => (.exit 0, (mkE [(0, LL S p0), (5, LL S p0), (6, I (lenL p0)), (7, I x.1), (8, B x.2)] [] 27))) (fun (x : Int) => (.ret, (mkE [(2, I x)] [] 27)))) x))) := by
  unfold L225_2
  refine gS 0 ?_
  refine gR 2 (rg Try.f225 2) ?_
  refine se (mkE [(0, LL S p0), (5, LL S p0), (6, I (lenL p0)), (7, I z0), (8, B (ltI z0 (lenL p0)))] [] 27) ?_
  refine pN ?_
  refine pS ?_
  refine gS 3 ?_
  refine gC 8 (ltI z0 (lenL p0)) ?_ ?_
  · refine gK ?_
    refine pN ?_
    refine pS ?_
    refine gS 8 ?_
    refine gB 1 ?_
    refine gS 4 ?_
    refine gR 3 (rg Try.f225 3) ?_
    refine sg 1 (mkE [(9, I z0), (0, LL S p0), (5, LL S p0), (6, I (lenL p0)), (7, I z0), (8, B (ltI z0 (lenL p0)))] [] 27) ?_
    refine vo 10 (addrE 35 9 1 S .i64 p0 z0) (fun x1 => ?_)
    refine se (mkE [(0, LL S p0), (3, I z0), (4, S x1), (5, LL S p0), (6, I (lenL p0)), (7, I z0)] [] 27) ?_
    refine pN ?_
    refine pS ?_
    refine gS 6 ?_
    refine gS 0 ?_
    refine gR 4 (rg Try.f225 4) ?_
    refine sg 1 (mkE [(12, S x1), (0, LL S p0), (3, I z0), (4, S x1), (5, LL S p0), (6, I (lenL p0)), (7, I z0)] [] 27) ?_
    refine co 13 [] (h137 x1) (fun x2 => ?_)
    refine se (mkE [(0, LL S p0), (3, I z0), (4, S x1), (5, LL S p0), (6, I (lenL p0)), (7, I z0), (14, B (!x2))] [] 27) ?_
    refine pN ?_
    refine pS ?_
    refine gC 14 (!x2) ?_ ?_
    · refine gS 0 ?_
      refine gR 5 (rg Try.f225 5) ?_
      refine se (mkE [(2, I 5)] [] 27) ?_
      refine pN ?_
      refine pS ?_
      refine gE ?_
      exact pL
    · refine gK ?_
      refine pN ?_
      refine pS ?_
      refine gS 0 ?_
      refine gR 6 (rg Try.f225 6) ?_
      refine sg 3 (mkE [(17, B (ltI 0 z0)), (16, B (ltI 0 z0)), (15, I z0), (0, LL S p0), (3, I z0), (4, S x1), (5, LL S p0), (6, I (lenL p0)), (7, I z0), (14, B (!x2))] [] 27) ?_
      refine sb 17 (ltI 0 z0) ?_ ?_
      · refine sg 7 (mkE [(21, I (subI .i64 z0 1)), (20, I z0), (19, LL S p0), (18, S x1), (17, B true), (17, B (ltI 0 z0)), (16, B (ltI 0 z0)), (15, I z0), (0, LL S p0), (3, I z0), (4, S x1), (5, LL S p0), (6, I (lenL p0)), (7, I z0), (14, B (!x2))] [] 27) ?_
        refine vo 22 (addrE 35 9 1 S .i64 p0 (subI .i64 z0 1)) (fun x3 => ?_)
        refine se (mkE [(0, LL S p0), (5, LL S p0), (6, I (lenL p0)), (7, I z0), (25, B (ltS x1 x3 || eqS x1 x3))] [] 27) ?_
        refine pN ?_
        refine pS ?_
        refine gC 25 (ltS x1 x3 || eqS x1 x3) ?_ ?_
        · refine gS 0 ?_
          refine gR 7 (rg Try.f225 7) ?_
          refine se (mkE [(2, I 7)] [] 27) ?_
          refine pN ?_
          refine pS ?_
          refine gE ?_
          exact pL
        · refine gK ?_
          refine pB ?_
          refine pN ?_
          refine pS ?_
          refine gR 8 (rg Try.f225 8) ?_
          refine se (mkE [(0, LL S p0), (5, LL S p0), (6, I (lenL p0)), (7, I (addI .i64 z0 1))] [] 27) ?_
          exact pL
      · refine se (mkE [(0, LL S p0), (5, LL S p0), (6, I (lenL p0)), (7, I z0), (25, B false)] [] 27) ?_
        refine pN ?_
        refine pS ?_
        refine gF (.tmp 25) ?_
        refine gK ?_
        refine pB ?_
        refine pN ?_
        refine pS ?_
        refine gR 8 (rg Try.f225 8) ?_
        refine se (mkE [(0, LL S p0), (5, LL S p0), (6, I (lenL p0)), (7, I (addI .i64 z0 1))] [] 27) ?_
        exact pL
  · refine gX 0 ?_
    exact pL
noncomputable def T225 (p0 : (List ByteArray)) : Option Int := ((iter (L225_2 p0) 0).bind fun y4 => (Sum.elim (fun y4a => (some 0)) (fun y4b => (some y4b)) y4))
theorem B225 (C : Callee) (h137 : ∀ (p0 : ByteArray), C 137 [S p0] = (T137 p0).map B) (p0 : (List ByteArray)) : runs Try.prog C (cfg.fn 225) (finFn Try.prog (cfg.fn 225).byval Try.f225) [] (execA Try.prog C (cfg.fn 225) (nr Try.f225 []) (frame0 [LL S p0] 27)) = (T225 p0).map I := by
  unfold T225
  refine gS 1 ?_
  refine gR 0 (rg Try.f225 0) ?_
  refine se (mkE [(0, LL S p0)] [] 27) ?_
  refine pN ?_
  refine pS ?_
  refine gS 9 ?_
  refine gS 2 ?_
  refine gR 1 (rg Try.f225 1) ?_
  refine sg 1 (mkE [(5, LL S p0), (0, LL S p0)] [] 27) ?_
  refine eo 6 (I (lenL p0)) (lenE 35 S p0) ?_
  refine se (mkE [(0, LL S p0), (5, LL S p0), (6, I (lenL p0)), (7, I 0)] [] 27) ?_
  refine pN ?_
  refine pS ?_
  refine gB 0 ?_
  refine lo [(0, none), (5, none), (6, none), (7, none)] [] (L225_2 p0) (fun z0 : Int => (mkE [(0, LL S p0), (5, LL S p0), (6, I (lenL p0)), (7, I z0)] [] 27)) (Sum.elim (fun (x : (Int × Bool)) => (.exit 0, (mkE [(0, LL S p0), (5, LL S p0), (6, I (lenL p0)), (7, I x.1), (8, B x.2)] [] 27))) (fun (x : Int) => (.ret, (mkE [(2, I x)] [] 27)))) 0 (fun z => L225_2_ok C h137 p0 z) ?_
  intro y4
  refine ss y4 (Z := (Sum.elim (fun (x : (Int × Bool)) => (.exit 0, (mkE [(0, LL S p0), (5, LL S p0), (6, I (lenL p0)), (7, I x.1), (8, B x.2)] [] 27))) (fun (x : Int) => (.ret, (mkE [(2, I x)] [] 27))))) (fun y4a => ?_) (fun y4b => ?_)
  · refine pH ?_
    refine pN ?_
    refine pS ?_
    refine gS 0 ?_
    refine gR 9 (rg Try.f225 9) ?_
    refine se (mkE [(2, I 0)] [] 27) ?_
    refine pN ?_
    refine pS ?_
    refine gE ?_
    exact pL
  · exact pL
theorem F225 (m : Nat) (hm : 2 ≤ m) (p0 : (List ByteArray)) : callA Try.prog cfg m 225 [LL S p0] = (T225 p0).map I := by
  obtain ⟨q, rfl⟩ : ∃ q, m = q + 1 := ⟨m - 1, by omega⟩
  exact (callA_body (fn := Try.f225) (c := body_ Try.f225) q _ (by kernel_rfl) (by kernel_rfl) (by kernel_rfl)).trans (B225 _ (fun p0 => F137 q (by omega) p0) p0)

noncomputable def T234 (p0 : (List ByteArray)) : Option Int := (bif (ltI 20 (lenL p0)) then (some 2) else ((T225 p0).bind fun x1 => (some x1)))
theorem B234 (C : Callee) (h225 : ∀ (p0 : (List ByteArray)), C 225 [LL S p0] = (T225 p0).map I) (p0 : (List ByteArray)) : runs Try.prog C (cfg.fn 234) (finFn Try.prog (cfg.fn 234).byval Try.f234) [] (execA Try.prog C (cfg.fn 234) (nr Try.f234 []) (frame0 [LL S p0] 8)) = (T234 p0).map I := by
  unfold T234
  refine gS 1 ?_
  refine gR 0 (rg Try.f234 0) ?_
  refine se (mkE [(0, LL S p0)] [] 8) ?_
  refine pN ?_
  refine pS ?_
  refine gS 3 ?_
  refine gS 0 ?_
  refine gR 1 (rg Try.f234 1) ?_
  refine sg 1 (mkE [(3, LL S p0), (0, LL S p0)] [] 8) ?_
  refine eo 4 (I (lenL p0)) (lenE 35 S p0) ?_
  refine se (mkE [(0, LL S p0), (5, B (ltI 20 (lenL p0)))] [] 8) ?_
  refine pN ?_
  refine pS ?_
  refine gC 5 (ltI 20 (lenL p0)) ?_ ?_
  · refine gS 0 ?_
    refine gR 2 (rg Try.f234 2) ?_
    refine se (mkE [(2, I 2)] [] 8) ?_
    refine pN ?_
    refine pS ?_
    refine gE ?_
    exact pL
  · refine gK ?_
    refine pN ?_
    refine pS ?_
    refine gS 0 ?_
    refine gR 3 (rg Try.f234 3) ?_
    refine sg 1 (mkE [(6, LL S p0), (0, LL S p0), (5, B (ltI 20 (lenL p0)))] [] 8) ?_
    refine co 7 [] (h225 p0) (fun x1 => ?_)
    refine se (mkE [(2, I x1)] [] 8) ?_
    refine pN ?_
    refine pS ?_
    refine gE ?_
    exact pL
theorem F234 (m : Nat) (hm : 3 ≤ m) (p0 : (List ByteArray)) : callA Try.prog cfg m 234 [LL S p0] = (T234 p0).map I := by
  obtain ⟨q, rfl⟩ : ∃ q, m = q + 1 := ⟨m - 1, by omega⟩
  exact (callA_body (fn := Try.f234) (c := body_ Try.f234) q _ (by kernel_rfl) (by kernel_rfl) (by kernel_rfl)).trans (B234 _ (fun p0 => F225 q (by omega) p0) p0)

noncomputable def T231 (p0 : S105) : Option Int := ((T137 p0.f0).bind fun x1 => (bif (!x1) then (some 5) else ((T137 p0.f1).bind fun x2 => (bif (!x2) then (some 5) else ((T126 p0.f2 0 1000000).bind fun x3 => (bif x3 then (some 1) else ((T126 p0.f3 0 p0.f4).bind fun x4 => (bif x4 then (some 1) else (bif (ltI 4000 p0.f4) then (some 1) else ((T126 p0.f5 1 400).bind fun x5 => (bif x5 then (some 1) else ((T126 p0.f6 1 127).bind fun x6 => (bif x6 then (some 1) else ((T268 p0.f7).bind fun x7 => (bif (neI x7 0) then (some x7) else ((T126 p0.f8 0 1439).bind fun x8 => (bif x8 then (some 1) else ((T126 p0.f9 0 1439).bind fun x9 => (bif x9 then (some 1) else ((T126 p0.f10 0 9).bind fun x10 => (bif x10 then (some 1) else ((T234 p0.f11).bind fun x11 => (some x11)))))))))))))))))))))))
theorem B231 (C : Callee) (h126 : ∀ (p0 : Int) (p1 : Int) (p2 : Int), C 126 [I p0, I p1, I p2] = (T126 p0 p1 p2).map B) (h137 : ∀ (p0 : ByteArray), C 137 [S p0] = (T137 p0).map B) (h234 : ∀ (p0 : (List ByteArray)), C 234 [LL S p0] = (T234 p0).map I) (h268 : ∀ (p0 : (List Int)), C 268 [LL I p0] = (T268 p0).map I) (p0 : S105) : runs Try.prog C (cfg.fn 231) (finFn Try.prog (cfg.fn 231).byval Try.f231) [] (execA Try.prog C (cfg.fn 231) (nr Try.f231 []) (frame0 [a105 p0] 61)) = (T231 p0).map I := by
  unfold T231
  refine gS 1 ?_
  refine gR 0 (rg Try.f231 0) ?_
  refine se (mkE [(1, .ba 8 0)] [(8, .box [S p0.f0, S p0.f1, I p0.f2, I p0.f3, I p0.f4, I p0.f5, I p0.f6, LL I p0.f7, I p0.f8, I p0.f9, I p0.f10, LL S p0.f11, B p0.f12] false)] 61) ?_
  refine pN ?_
  refine pS ?_
  refine gS 3 ?_
  refine gS 0 ?_
  refine gR 1 (rg Try.f231 1) ?_
  refine sg 2 (mkE [(5, S p0.f0), (4, .ba 8 0), (1, .ba 8 0)] [(8, .box [S p0.f0, S p0.f1, I p0.f2, I p0.f3, I p0.f4, I p0.f5, I p0.f6, LL I p0.f7, I p0.f8, I p0.f9, I p0.f10, LL S p0.f11, B p0.f12] false)] 61) ?_
  refine co 6 [] (h137 p0.f0) (fun x1 => ?_)
  refine sg 5 (mkE [(8, B (!x1)), (7, B (!x1)), (6, B x1), (5, S p0.f0), (4, .ba 8 0), (1, .ba 8 0)] [(8, .box [S p0.f0, S p0.f1, I p0.f2, I p0.f3, I p0.f4, I p0.f5, I p0.f6, LL I p0.f7, I p0.f8, I p0.f9, I p0.f10, LL S p0.f11, B p0.f12] false)] 61) ?_
  refine sb 8 (!x1) ?_ ?_
  · refine se (mkE [(1, .ba 8 0), (13, B true)] [(8, .box [S p0.f0, S p0.f1, I p0.f2, I p0.f3, I p0.f4, I p0.f5, I p0.f6, LL I p0.f7, I p0.f8, I p0.f9, I p0.f10, LL S p0.f11, B p0.f12] false)] 61) ?_
    refine pN ?_
    refine pS ?_
    refine gT (.tmp 13) ?_
    refine gS 0 ?_
    refine gR 2 (rg Try.f231 2) ?_
    refine se (mkE [(2, I 5)] [] 61) ?_
    refine pN ?_
    refine pS ?_
    refine gE ?_
    exact pL
  · refine sg 7 (mkE [(10, S p0.f1), (9, .ba 8 1), (8, B false), (8, B (!x1)), (7, B (!x1)), (6, B x1), (5, S p0.f0), (4, .ba 8 0), (1, .ba 8 0)] [(8, .box [S p0.f0, S p0.f1, I p0.f2, I p0.f3, I p0.f4, I p0.f5, I p0.f6, LL I p0.f7, I p0.f8, I p0.f9, I p0.f10, LL S p0.f11, B p0.f12] false)] 61) ?_
    refine co 11 [] (h137 p0.f1) (fun x2 => ?_)
    refine se (mkE [(1, .ba 8 0), (13, B (!x2))] [(8, .box [S p0.f0, S p0.f1, I p0.f2, I p0.f3, I p0.f4, I p0.f5, I p0.f6, LL I p0.f7, I p0.f8, I p0.f9, I p0.f10, LL S p0.f11, B p0.f12] false)] 61) ?_
    refine pN ?_
    refine pS ?_
    refine gC 13 (!x2) ?_ ?_
    · refine gS 0 ?_
      refine gR 2 (rg Try.f231 2) ?_
      refine se (mkE [(2, I 5)] [] 61) ?_
      refine pN ?_
      refine pS ?_
      refine gE ?_
      exact pL
    · refine gK ?_
      refine pN ?_
      refine pS ?_
      refine gS 5 ?_
      refine gS 0 ?_
      refine gR 3 (rg Try.f231 3) ?_
      refine sg 2 (mkE [(15, I p0.f2), (14, .ba 8 2), (1, .ba 8 0), (13, B (!x2))] [(8, .box [S p0.f0, S p0.f1, I p0.f2, I p0.f3, I p0.f4, I p0.f5, I p0.f6, LL I p0.f7, I p0.f8, I p0.f9, I p0.f10, LL S p0.f11, B p0.f12] false)] 61) ?_
      refine co 16 [] (h126 p0.f2 0 1000000) (fun x3 => ?_)
      refine sg 4 (mkE [(17, B x3), (16, B x3), (15, I p0.f2), (14, .ba 8 2), (1, .ba 8 0), (13, B (!x2))] [(8, .box [S p0.f0, S p0.f1, I p0.f2, I p0.f3, I p0.f4, I p0.f5, I p0.f6, LL I p0.f7, I p0.f8, I p0.f9, I p0.f10, LL S p0.f11, B p0.f12] false)] 61) ?_
      refine sb 17 x3 ?_ ?_
      · refine se (mkE [(1, .ba 8 0), (38, B true)] [(8, .box [S p0.f0, S p0.f1, I p0.f2, I p0.f3, I p0.f4, I p0.f5, I p0.f6, LL I p0.f7, I p0.f8, I p0.f9, I p0.f10, LL S p0.f11, B p0.f12] false)] 61) ?_
        refine pN ?_
        refine pS ?_
        refine gT (.tmp 38) ?_
        refine gS 0 ?_
        refine gR 4 (rg Try.f231 4) ?_
        refine se (mkE [(2, I 1)] [] 61) ?_
        refine pN ?_
        refine pS ?_
        refine gE ?_
        exact pL
      · refine sg 8 (mkE [(21, I p0.f4), (20, .ba 8 4), (19, I p0.f3), (18, .ba 8 3), (17, B false), (17, B x3), (16, B x3), (15, I p0.f2), (14, .ba 8 2), (1, .ba 8 0), (13, B (!x2))] [(8, .box [S p0.f0, S p0.f1, I p0.f2, I p0.f3, I p0.f4, I p0.f5, I p0.f6, LL I p0.f7, I p0.f8, I p0.f9, I p0.f10, LL S p0.f11, B p0.f12] false)] 61) ?_
        refine co 22 [] (h126 p0.f3 0 p0.f4) (fun x4 => ?_)
        refine sg 11 (mkE [(24, B x4), (23, B x4), (22, B x4), (21, I p0.f4), (20, .ba 8 4), (19, I p0.f3), (18, .ba 8 3), (17, B false), (17, B x3), (16, B x3), (15, I p0.f2), (14, .ba 8 2), (1, .ba 8 0), (13, B (!x2))] [(8, .box [S p0.f0, S p0.f1, I p0.f2, I p0.f3, I p0.f4, I p0.f5, I p0.f6, LL I p0.f7, I p0.f8, I p0.f9, I p0.f10, LL S p0.f11, B p0.f12] false)] 61) ?_
        refine sb 24 x4 ?_ ?_
        · refine se (mkE [(1, .ba 8 0), (38, B true)] [(8, .box [S p0.f0, S p0.f1, I p0.f2, I p0.f3, I p0.f4, I p0.f5, I p0.f6, LL I p0.f7, I p0.f8, I p0.f9, I p0.f10, LL S p0.f11, B p0.f12] false)] 61) ?_
          refine pN ?_
          refine pS ?_
          refine gT (.tmp 38) ?_
          refine gS 0 ?_
          refine gR 4 (rg Try.f231 4) ?_
          refine se (mkE [(2, I 1)] [] 61) ?_
          refine pN ?_
          refine pS ?_
          refine gE ?_
          exact pL
        · refine sg 16 (mkE [(29, B (ltI 4000 p0.f4)), (28, B (ltI 4000 p0.f4)), (27, B (ltI 4000 p0.f4)), (26, I p0.f4), (25, .ba 8 4), (24, B false), (24, B x4), (23, B x4), (22, B x4), (21, I p0.f4), (20, .ba 8 4), (19, I p0.f3), (18, .ba 8 3), (17, B false), (17, B x3), (16, B x3), (15, I p0.f2), (14, .ba 8 2), (1, .ba 8 0), (13, B (!x2))] [(8, .box [S p0.f0, S p0.f1, I p0.f2, I p0.f3, I p0.f4, I p0.f5, I p0.f6, LL I p0.f7, I p0.f8, I p0.f9, I p0.f10, LL S p0.f11, B p0.f12] false)] 61) ?_
          refine sb 29 (ltI 4000 p0.f4) ?_ ?_
          · refine se (mkE [(1, .ba 8 0), (38, B true)] [(8, .box [S p0.f0, S p0.f1, I p0.f2, I p0.f3, I p0.f4, I p0.f5, I p0.f6, LL I p0.f7, I p0.f8, I p0.f9, I p0.f10, LL S p0.f11, B p0.f12] false)] 61) ?_
            refine pN ?_
            refine pS ?_
            refine gT (.tmp 38) ?_
            refine gS 0 ?_
            refine gR 4 (rg Try.f231 4) ?_
            refine se (mkE [(2, I 1)] [] 61) ?_
            refine pN ?_
            refine pS ?_
            refine gE ?_
            exact pL
          · refine sg 18 (mkE [(31, I p0.f5), (30, .ba 8 5), (29, B false), (29, B (ltI 4000 p0.f4)), (28, B (ltI 4000 p0.f4)), (27, B (ltI 4000 p0.f4)), (26, I p0.f4), (25, .ba 8 4), (24, B false), (24, B x4), (23, B x4), (22, B x4), (21, I p0.f4), (20, .ba 8 4), (19, I p0.f3), (18, .ba 8 3), (17, B false), (17, B x3), (16, B x3), (15, I p0.f2), (14, .ba 8 2), (1, .ba 8 0), (13, B (!x2))] [(8, .box [S p0.f0, S p0.f1, I p0.f2, I p0.f3, I p0.f4, I p0.f5, I p0.f6, LL I p0.f7, I p0.f8, I p0.f9, I p0.f10, LL S p0.f11, B p0.f12] false)] 61) ?_
            refine co 32 [] (h126 p0.f5 1 400) (fun x5 => ?_)
            refine sg 21 (mkE [(34, B x5), (33, B x5), (32, B x5), (31, I p0.f5), (30, .ba 8 5), (29, B false), (29, B (ltI 4000 p0.f4)), (28, B (ltI 4000 p0.f4)), (27, B (ltI 4000 p0.f4)), (26, I p0.f4), (25, .ba 8 4), (24, B false), (24, B x4), (23, B x4), (22, B x4), (21, I p0.f4), (20, .ba 8 4), (19, I p0.f3), (18, .ba 8 3), (17, B false), (17, B x3), (16, B x3), (15, I p0.f2), (14, .ba 8 2), (1, .ba 8 0), (13, B (!x2))] [(8, .box [S p0.f0, S p0.f1, I p0.f2, I p0.f3, I p0.f4, I p0.f5, I p0.f6, LL I p0.f7, I p0.f8, I p0.f9, I p0.f10, LL S p0.f11, B p0.f12] false)] 61) ?_
            refine sb 34 x5 ?_ ?_
            · refine se (mkE [(1, .ba 8 0), (38, B true)] [(8, .box [S p0.f0, S p0.f1, I p0.f2, I p0.f3, I p0.f4, I p0.f5, I p0.f6, LL I p0.f7, I p0.f8, I p0.f9, I p0.f10, LL S p0.f11, B p0.f12] false)] 61) ?_
              refine pN ?_
              refine pS ?_
              refine gT (.tmp 38) ?_
              refine gS 0 ?_
              refine gR 4 (rg Try.f231 4) ?_
              refine se (mkE [(2, I 1)] [] 61) ?_
              refine pN ?_
              refine pS ?_
              refine gE ?_
              exact pL
            · refine sg 23 (mkE [(36, I p0.f6), (35, .ba 8 6), (34, B false), (34, B x5), (33, B x5), (32, B x5), (31, I p0.f5), (30, .ba 8 5), (29, B false), (29, B (ltI 4000 p0.f4)), (28, B (ltI 4000 p0.f4)), (27, B (ltI 4000 p0.f4)), (26, I p0.f4), (25, .ba 8 4), (24, B false), (24, B x4), (23, B x4), (22, B x4), (21, I p0.f4), (20, .ba 8 4), (19, I p0.f3), (18, .ba 8 3), (17, B false), (17, B x3), (16, B x3), (15, I p0.f2), (14, .ba 8 2), (1, .ba 8 0), (13, B (!x2))] [(8, .box [S p0.f0, S p0.f1, I p0.f2, I p0.f3, I p0.f4, I p0.f5, I p0.f6, LL I p0.f7, I p0.f8, I p0.f9, I p0.f10, LL S p0.f11, B p0.f12] false)] 61) ?_
              refine co 37 [] (h126 p0.f6 1 127) (fun x6 => ?_)
              refine se (mkE [(1, .ba 8 0), (38, B x6)] [(8, .box [S p0.f0, S p0.f1, I p0.f2, I p0.f3, I p0.f4, I p0.f5, I p0.f6, LL I p0.f7, I p0.f8, I p0.f9, I p0.f10, LL S p0.f11, B p0.f12] false)] 61) ?_
              refine pN ?_
              refine pS ?_
              refine gC 38 x6 ?_ ?_
              · refine gS 0 ?_
                refine gR 4 (rg Try.f231 4) ?_
                refine se (mkE [(2, I 1)] [] 61) ?_
                refine pN ?_
                refine pS ?_
                refine gE ?_
                exact pL
              · refine gK ?_
                refine pN ?_
                refine pS ?_
                refine gS 8 ?_
                refine gS 6 ?_
                refine gR 5 (rg Try.f231 5) ?_
                refine sg 2 (mkE [(40, LL I p0.f7), (39, .ba 8 7), (1, .ba 8 0), (38, B x6)] [(8, .box [S p0.f0, S p0.f1, I p0.f2, I p0.f3, I p0.f4, I p0.f5, I p0.f6, LL I p0.f7, I p0.f8, I p0.f9, I p0.f10, LL S p0.f11, B p0.f12] false)] 61) ?_
                refine co 41 [] (h268 p0.f7) (fun x7 => ?_)
                refine se (mkE [(1, .ba 8 0), (3, I x7)] [(8, .box [S p0.f0, S p0.f1, I p0.f2, I p0.f3, I p0.f4, I p0.f5, I p0.f6, LL I p0.f7, I p0.f8, I p0.f9, I p0.f10, LL S p0.f11, B p0.f12] false)] 61) ?_
                refine pN ?_
                refine pS ?_
                refine gS 0 ?_
                refine gR 6 (rg Try.f231 6) ?_
                refine se (mkE [(1, .ba 8 0), (3, I x7), (43, B (neI x7 0))] [(8, .box [S p0.f0, S p0.f1, I p0.f2, I p0.f3, I p0.f4, I p0.f5, I p0.f6, LL I p0.f7, I p0.f8, I p0.f9, I p0.f10, LL S p0.f11, B p0.f12] false)] 61) ?_
                refine pN ?_
                refine pS ?_
                refine gC 43 (neI x7 0) ?_ ?_
                · refine gS 0 ?_
                  refine gR 7 (rg Try.f231 7) ?_
                  refine se (mkE [(2, I x7)] [] 61) ?_
                  refine pN ?_
                  refine pS ?_
                  refine gE ?_
                  exact pL
                · refine gK ?_
                  refine pN ?_
                  refine pS ?_
                  refine gS 10 ?_
                  refine gS 0 ?_
                  refine gR 8 (rg Try.f231 8) ?_
                  refine sg 2 (mkE [(46, I p0.f8), (45, .ba 8 8), (1, .ba 8 0), (3, I x7), (43, B (neI x7 0))] [(8, .box [S p0.f0, S p0.f1, I p0.f2, I p0.f3, I p0.f4, I p0.f5, I p0.f6, LL I p0.f7, I p0.f8, I p0.f9, I p0.f10, LL S p0.f11, B p0.f12] false)] 61) ?_
                  refine co 47 [] (h126 p0.f8 0 1439) (fun x8 => ?_)
                  refine sg 4 (mkE [(48, B x8), (47, B x8), (46, I p0.f8), (45, .ba 8 8), (1, .ba 8 0), (3, I x7), (43, B (neI x7 0))] [(8, .box [S p0.f0, S p0.f1, I p0.f2, I p0.f3, I p0.f4, I p0.f5, I p0.f6, LL I p0.f7, I p0.f8, I p0.f9, I p0.f10, LL S p0.f11, B p0.f12] false)] 61) ?_
                  refine sb 48 x8 ?_ ?_
                  · refine se (mkE [(1, .ba 8 0), (57, B true)] [(8, .box [S p0.f0, S p0.f1, I p0.f2, I p0.f3, I p0.f4, I p0.f5, I p0.f6, LL I p0.f7, I p0.f8, I p0.f9, I p0.f10, LL S p0.f11, B p0.f12] false)] 61) ?_
                    refine pN ?_
                    refine pS ?_
                    refine gT (.tmp 57) ?_
                    refine gS 0 ?_
                    refine gR 9 (rg Try.f231 9) ?_
                    refine se (mkE [(2, I 1)] [] 61) ?_
                    refine pN ?_
                    refine pS ?_
                    refine gE ?_
                    exact pL
                  · refine sg 6 (mkE [(50, I p0.f9), (49, .ba 8 9), (48, B false), (48, B x8), (47, B x8), (46, I p0.f8), (45, .ba 8 8), (1, .ba 8 0), (3, I x7), (43, B (neI x7 0))] [(8, .box [S p0.f0, S p0.f1, I p0.f2, I p0.f3, I p0.f4, I p0.f5, I p0.f6, LL I p0.f7, I p0.f8, I p0.f9, I p0.f10, LL S p0.f11, B p0.f12] false)] 61) ?_
                    refine co 51 [] (h126 p0.f9 0 1439) (fun x9 => ?_)
                    refine sg 9 (mkE [(53, B x9), (52, B x9), (51, B x9), (50, I p0.f9), (49, .ba 8 9), (48, B false), (48, B x8), (47, B x8), (46, I p0.f8), (45, .ba 8 8), (1, .ba 8 0), (3, I x7), (43, B (neI x7 0))] [(8, .box [S p0.f0, S p0.f1, I p0.f2, I p0.f3, I p0.f4, I p0.f5, I p0.f6, LL I p0.f7, I p0.f8, I p0.f9, I p0.f10, LL S p0.f11, B p0.f12] false)] 61) ?_
                    refine sb 53 x9 ?_ ?_
                    · refine se (mkE [(1, .ba 8 0), (57, B true)] [(8, .box [S p0.f0, S p0.f1, I p0.f2, I p0.f3, I p0.f4, I p0.f5, I p0.f6, LL I p0.f7, I p0.f8, I p0.f9, I p0.f10, LL S p0.f11, B p0.f12] false)] 61) ?_
                      refine pN ?_
                      refine pS ?_
                      refine gT (.tmp 57) ?_
                      refine gS 0 ?_
                      refine gR 9 (rg Try.f231 9) ?_
                      refine se (mkE [(2, I 1)] [] 61) ?_
                      refine pN ?_
                      refine pS ?_
                      refine gE ?_
                      exact pL
                    · refine sg 11 (mkE [(55, I p0.f10), (54, .ba 8 10), (53, B false), (53, B x9), (52, B x9), (51, B x9), (50, I p0.f9), (49, .ba 8 9), (48, B false), (48, B x8), (47, B x8), (46, I p0.f8), (45, .ba 8 8), (1, .ba 8 0), (3, I x7), (43, B (neI x7 0))] [(8, .box [S p0.f0, S p0.f1, I p0.f2, I p0.f3, I p0.f4, I p0.f5, I p0.f6, LL I p0.f7, I p0.f8, I p0.f9, I p0.f10, LL S p0.f11, B p0.f12] false)] 61) ?_
                      refine co 56 [] (h126 p0.f10 0 9) (fun x10 => ?_)
                      refine se (mkE [(1, .ba 8 0), (57, B x10)] [(8, .box [S p0.f0, S p0.f1, I p0.f2, I p0.f3, I p0.f4, I p0.f5, I p0.f6, LL I p0.f7, I p0.f8, I p0.f9, I p0.f10, LL S p0.f11, B p0.f12] false)] 61) ?_
                      refine pN ?_
                      refine pS ?_
                      refine gC 57 x10 ?_ ?_
                      · refine gS 0 ?_
                        refine gR 9 (rg Try.f231 9) ?_
                        refine se (mkE [(2, I 1)] [] 61) ?_
                        refine pN ?_
                        refine pS ?_
                        refine gE ?_
                        exact pL
                      · refine gK ?_
                        refine pN ?_
                        refine pS ?_
                        refine gS 0 ?_
                        refine gR 10 (rg Try.f231 10) ?_
                        refine sg 2 (mkE [(59, LL S p0.f11), (58, .ba 8 11), (1, .ba 8 0), (57, B x10)] [(8, .box [S p0.f0, S p0.f1, I p0.f2, I p0.f3, I p0.f4, I p0.f5, I p0.f6, LL I p0.f7, I p0.f8, I p0.f9, I p0.f10, LL S p0.f11, B p0.f12] false)] 61) ?_
                        refine co 60 [] (h234 p0.f11) (fun x11 => ?_)
                        refine se (mkE [(2, I x11)] [] 61) ?_
                        refine pN ?_
                        refine pS ?_
                        refine gE ?_
                        exact pL
theorem F231 (m : Nat) (hm : 4 ≤ m) (p0 : S105) : callA Try.prog cfg m 231 [a105 p0] = (T231 p0).map I := by
  obtain ⟨q, rfl⟩ : ∃ q, m = q + 1 := ⟨m - 1, by omega⟩
  exact (callA_body (fn := Try.f231) (c := body_ Try.f231) q _ (by kernel_rfl) (by kernel_rfl) (by kernel_rfl)).trans (B231 _ (fun p0 p1 p2 => F126 q (by omega) p0 p1 p2) (fun p0 => F137 q (by omega) p0) (fun p0 => F234 q (by omega) p0) (fun p0 => F268 q (by omega) p0) p0)

noncomputable def L156_4 (p0 : (List S105)) (z0 : Int) : Option (Int ⊕ ((Int × Bool) ⊕ Int)) := (bif (ltI z0 (lenL p0)) then ((listAt p0 z0).bind fun x1 => ((T231 x1).bind fun x2 => (bif (neI x2 0) then (some (.inr (.inr x2))) else (bif (ltI 0 z0) then ((listAt p0 (subI .i64 z0 1)).bind fun x3 => (bif (ltS x1.f0 x3.f0 || eqS x1.f0 x3.f0) then (some (.inr (.inr 7))) else (some (.inl (addI .i64 z0 1))))) else (some (.inl (addI .i64 z0 1))))))) else (some (.inr (.inl (z0, (ltI z0 (lenL p0)))))))
theorem L156_4_ok (C : Callee) (h231 : ∀ (p0 : S105), C 231 [a105 p0] = (T231 p0).map I) (p0 : (List S105)) (z0 : Int) : runs Try.prog C (cfg.fn 156) (finLoop ((cfg.fn 156).keep 4) ((cfg.fn 156).al 4)) [] (execA Try.prog C (cfg.fn 156) (nr Try.f156 [false, false, true, false, true, true]) ((fun z0 : Int => (mkE [(0, LL a105 p0), (9, LL a105 p0), (10, I (lenL p0)), (11, I z0)] [] 35)) z0)) = (L156_4 p0 z0).map (Sum.elim (fun z => .inl ((fun z0 : Int => (mkE [(0, LL a105 p0), (9, LL a105 p0), (10, I (lenL p0)), (11, I z0)] [] 35)) z)) (fun x => .inr ((Sum.elim (fun (x : (Int × Bool)) => (.exit 0, (mkE [(0, LL a105 p0), (9, LL a105 p0), (10, I (lenL p0)), (11, I x.1), (12, B x.2)] [] 35))) (fun (x : Int) => (.ret, (mkE [(2, I x)] [] 35)))) x))) := by
  unfold L156_4
  refine gS 0 ?_
  refine gR 4 (rg Try.f156 4) ?_
  refine se (mkE [(0, LL a105 p0), (9, LL a105 p0), (10, I (lenL p0)), (11, I z0), (12, B (ltI z0 (lenL p0)))] [] 35) ?_
  refine pN ?_
  refine pS ?_
  refine gS 5 ?_
  refine gC 12 (ltI z0 (lenL p0)) ?_ ?_
  · refine gK ?_
    refine pN ?_
    refine pS ?_
    refine gS 11 ?_
    refine gB 1 ?_
    refine gS 6 ?_
    refine gR 5 (rg Try.f156 5) ?_
    refine sg 1 (mkE [(13, I z0), (0, LL a105 p0), (9, LL a105 p0), (10, I (lenL p0)), (11, I z0), (12, B (ltI z0 (lenL p0)))] [] 35) ?_
    refine vo 14 (addrE 40 106 13 a105 .i64 p0 z0) (fun x1 => ?_)
    refine se (mkE [(0, LL a105 p0), (3, I z0), (4, .ba 32 0), (9, LL a105 p0), (10, I (lenL p0)), (11, I z0)] [(32, .box [S x1.f0, S x1.f1, I x1.f2, I x1.f3, I x1.f4, I x1.f5, I x1.f6, LL I x1.f7, I x1.f8, I x1.f9, I x1.f10, LL S x1.f11, B x1.f12] false)] 35) ?_
    refine pN ?_
    refine pS ?_
    refine gS 9 ?_
    refine gS 7 ?_
    refine gR 6 (rg Try.f156 6) ?_
    refine sg 1 (mkE [(16, a105 x1), (0, LL a105 p0), (3, I z0), (4, .ba 32 0), (9, LL a105 p0), (10, I (lenL p0)), (11, I z0)] [(32, .box [S x1.f0, S x1.f1, I x1.f2, I x1.f3, I x1.f4, I x1.f5, I x1.f6, LL I x1.f7, I x1.f8, I x1.f9, I x1.f10, LL S x1.f11, B x1.f12] false)] 35) ?_
    refine co 17 [] (h231 x1) (fun x2 => ?_)
    refine se (mkE [(0, LL a105 p0), (3, I z0), (4, .ba 32 0), (5, I x2), (9, LL a105 p0), (10, I (lenL p0)), (11, I z0)] [(32, .box [S x1.f0, S x1.f1, I x1.f2, I x1.f3, I x1.f4, I x1.f5, I x1.f6, LL I x1.f7, I x1.f8, I x1.f9, I x1.f10, LL S x1.f11, B x1.f12] false)] 35) ?_
    refine pN ?_
    refine pS ?_
    refine gS 0 ?_
    refine gR 7 (rg Try.f156 7) ?_
    refine se (mkE [(0, LL a105 p0), (3, I z0), (4, .ba 32 0), (5, I x2), (9, LL a105 p0), (10, I (lenL p0)), (11, I z0), (19, B (neI x2 0))] [(32, .box [S x1.f0, S x1.f1, I x1.f2, I x1.f3, I x1.f4, I x1.f5, I x1.f6, LL I x1.f7, I x1.f8, I x1.f9, I x1.f10, LL S x1.f11, B x1.f12] false)] 35) ?_
    refine pN ?_
    refine pS ?_
    refine gC 19 (neI x2 0) ?_ ?_
    · refine gS 0 ?_
      refine gR 8 (rg Try.f156 8) ?_
      refine se (mkE [(2, I x2)] [] 35) ?_
      refine pN ?_
      refine pS ?_
      refine gE ?_
      exact pL
    · refine gK ?_
      refine pN ?_
      refine pS ?_
      refine gS 0 ?_
      refine gD 9 13 (rg Try.f156 9) [0, 1, 2, 3, 4, 5, 6, 7, 8, 9, 10, 11, 12] ?_
      refine dg 3 [(some 21, qe (I z0)), (some 22, qe (B (ltI 0 z0))), (some 23, qe (B (ltI 0 z0)))] ?_
      refine db 2 23 (ltI 0 z0) ?_ ?_
      · refine dg 8 [(some 21, qe (I z0)), (some 22, qe (B (ltI 0 z0))), (some 23, qe (B true)), (some 24, qe (.ba 32 0)), (some 25, qe (S x1.f0)), (some 26, qe (LL a105 p0)), (some 27, qe (I z0)), (some 28, qe (I (subI .i64 z0 1)))] ?_
        refine dv 29 (mkE [(28, I (subI .i64 z0 1)), (27, I z0), (26, LL a105 p0), (23, B true), (22, B (ltI 0 z0)), (21, I z0), (0, LL a105 p0), (3, I z0), (4, .ba 32 0), (5, I x2), (9, LL a105 p0), (10, I (lenL p0)), (11, I z0), (19, B (neI x2 0))] [(32, .box [S x1.f0, S x1.f1, I x1.f2, I x1.f3, I x1.f4, I x1.f5, I x1.f6, LL I x1.f7, I x1.f8, I x1.f9, I x1.f10, LL S x1.f11, B x1.f12] false)] 35) (addrE 40 106 13 a105 .i64 p0 (subI .i64 z0 1)) (fun x3 => ?_)
        refine dg 13 [(some 21, qe (I z0)), (some 22, qe (B (ltI 0 z0))), (some 23, qe (B true)), (some 24, qe (.ba 32 0)), (some 25, qe (S x1.f0)), (some 26, qe (LL a105 p0)), (some 27, qe (I z0)), (some 28, qe (I (subI .i64 z0 1))), (some 29, qe (.ia [S x3.f0, S x3.f1, I x3.f2, I x3.f3, I x3.f4, I x3.f5, I x3.f6, LL I x3.f7, I x3.f8, I x3.f9, I x3.f10, LL S x3.f11, B x3.f12] 0)), (some 30, qe (.ia [S x3.f0, S x3.f1, I x3.f2, I x3.f3, I x3.f4, I x3.f5, I x3.f6, LL I x3.f7, I x3.f8, I x3.f9, I x3.f10, LL S x3.f11, B x3.f12] 0)), (some 31, qe (S x3.f0)), (some 32, qe (B (ltS x1.f0 x3.f0 || eqS x1.f0 x3.f0))), (some 33, qe (B (ltS x1.f0 x3.f0 || eqS x1.f0 x3.f0)))] ?_
        refine de (mkE [(33, B (ltS x1.f0 x3.f0 || eqS x1.f0 x3.f0)), (32, B (ltS x1.f0 x3.f0 || eqS x1.f0 x3.f0)), (31, S x3.f0), (30, .ia [S x3.f0, S x3.f1, I x3.f2, I x3.f3, I x3.f4, I x3.f5, I x3.f6, LL I x3.f7, I x3.f8, I x3.f9, I x3.f10, LL S x3.f11, B x3.f12] 0), (29, .ia [S x3.f0, S x3.f1, I x3.f2, I x3.f3, I x3.f4, I x3.f5, I x3.f6, LL I x3.f7, I x3.f8, I x3.f9, I x3.f10, LL S x3.f11, B x3.f12] 0), (28, I (subI .i64 z0 1)), (27, I z0), (26, LL a105 p0), (25, S x1.f0), (24, .ba 32 0), (23, B true), (22, B (ltI 0 z0)), (21, I z0), (0, LL a105 p0), (3, I z0), (4, .ba 32 0), (5, I x2), (9, LL a105 p0), (10, I (lenL p0)), (11, I z0), (19, B (neI x2 0))] [(32, .box [S x1.f0, S x1.f1, I x1.f2, I x1.f3, I x1.f4, I x1.f5, I x1.f6, LL I x1.f7, I x1.f8, I x1.f9, I x1.f10, LL S x1.f11, B x1.f12] false)] 35) ?_
        refine se (mkE [(0, LL a105 p0), (9, LL a105 p0), (10, I (lenL p0)), (11, I z0), (33, B (ltS x1.f0 x3.f0 || eqS x1.f0 x3.f0))] [] 35) ?_
        refine pN ?_
        refine pS ?_
        refine gC 33 (ltS x1.f0 x3.f0 || eqS x1.f0 x3.f0) ?_ ?_
        · refine gS 0 ?_
          refine gR 10 (rg Try.f156 10) ?_
          refine se (mkE [(2, I 7)] [] 35) ?_
          refine pN ?_
          refine pS ?_
          refine gE ?_
          exact pL
        · refine gK ?_
          refine pB ?_
          refine pN ?_
          refine pS ?_
          refine gR 11 (rg Try.f156 11) ?_
          refine se (mkE [(0, LL a105 p0), (9, LL a105 p0), (10, I (lenL p0)), (11, I (addI .i64 z0 1))] [] 35) ?_
          exact pL
      · refine dg 13 [(some 21, qe (I z0)), (some 22, qe (B (ltI 0 z0))), (some 23, qe (B false)), (some 24, qe (.und)), (some 25, qe (.und)), (some 26, qe (.und)), (some 27, qe (.und)), (some 28, qe (.und)), (some 29, qe (.und)), (some 30, qe (.und)), (some 31, qe (.und)), (some 32, qe (.und)), (some 33, qe (B false))] ?_
        refine de (mkE [(33, B false), (32, .und), (31, .und), (30, .und), (29, .und), (28, .und), (27, .und), (26, .und), (25, .und), (24, .und), (23, B false), (22, B (ltI 0 z0)), (21, I z0), (0, LL a105 p0), (3, I z0), (4, .ba 32 0), (5, I x2), (9, LL a105 p0), (10, I (lenL p0)), (11, I z0), (19, B (neI x2 0))] [(32, .box [S x1.f0, S x1.f1, I x1.f2, I x1.f3, I x1.f4, I x1.f5, I x1.f6, LL I x1.f7, I x1.f8, I x1.f9, I x1.f10, LL S x1.f11, B x1.f12] false)] 35) ?_
        refine se (mkE [(0, LL a105 p0), (9, LL a105 p0), (10, I (lenL p0)), (11, I z0), (33, B false)] [] 35) ?_
        refine pN ?_
        refine pS ?_
        refine gF (.tmp 33) ?_
        refine gK ?_
        refine pB ?_
        refine pN ?_
        refine pS ?_
        refine gR 11 (rg Try.f156 11) ?_
        refine se (mkE [(0, LL a105 p0), (9, LL a105 p0), (10, I (lenL p0)), (11, I (addI .i64 z0 1))] [] 35) ?_
        exact pL
  · refine gX 0 ?_
    exact pL
noncomputable def T156 (p0 : (List S105)) : Option Int := (bif (ltI 200 (lenL p0)) then (some 2) else ((iter (L156_4 p0) 0).bind fun y4 => (Sum.elim (fun y4a => (some 0)) (fun y4b => (some y4b)) y4)))
theorem B156 (C : Callee) (h231 : ∀ (p0 : S105), C 231 [a105 p0] = (T231 p0).map I) (p0 : (List S105)) : runs Try.prog C (cfg.fn 156) (finFn Try.prog (cfg.fn 156).byval Try.f156) [] (execA Try.prog C (cfg.fn 156) (nr Try.f156 []) (frame0 [LL a105 p0] 35)) = (T156 p0).map I := by
  unfold T156
  refine gS 1 ?_
  refine gR 0 (rg Try.f156 0) ?_
  refine se (mkE [(0, LL a105 p0)] [] 35) ?_
  refine pN ?_
  refine pS ?_
  refine gS 3 ?_
  refine gS 0 ?_
  refine gR 1 (rg Try.f156 1) ?_
  refine sg 1 (mkE [(6, LL a105 p0), (0, LL a105 p0)] [] 35) ?_
  refine eo 7 (I (lenL p0)) (lenE 40 a105 p0) ?_
  refine se (mkE [(0, LL a105 p0), (8, B (ltI 200 (lenL p0)))] [] 35) ?_
  refine pN ?_
  refine pS ?_
  refine gC 8 (ltI 200 (lenL p0)) ?_ ?_
  · refine gS 0 ?_
    refine gR 2 (rg Try.f156 2) ?_
    refine se (mkE [(2, I 2)] [] 35) ?_
    refine pN ?_
    refine pS ?_
    refine gE ?_
    exact pL
  · refine gK ?_
    refine pN ?_
    refine pS ?_
    refine gS 12 ?_
    refine gS 4 ?_
    refine gR 3 (rg Try.f156 3) ?_
    refine sg 1 (mkE [(9, LL a105 p0), (0, LL a105 p0), (8, B (ltI 200 (lenL p0)))] [] 35) ?_
    refine eo 10 (I (lenL p0)) (lenE 40 a105 p0) ?_
    refine se (mkE [(0, LL a105 p0), (9, LL a105 p0), (10, I (lenL p0)), (11, I 0)] [] 35) ?_
    refine pN ?_
    refine pS ?_
    refine gB 0 ?_
    refine lo [(0, none), (9, none), (10, none), (11, none)] [] (L156_4 p0) (fun z0 : Int => (mkE [(0, LL a105 p0), (9, LL a105 p0), (10, I (lenL p0)), (11, I z0)] [] 35)) (Sum.elim (fun (x : (Int × Bool)) => (.exit 0, (mkE [(0, LL a105 p0), (9, LL a105 p0), (10, I (lenL p0)), (11, I x.1), (12, B x.2)] [] 35))) (fun (x : Int) => (.ret, (mkE [(2, I x)] [] 35)))) 0 (fun z => L156_4_ok C h231 p0 z) ?_
    intro y4
    refine ss y4 (Z := (Sum.elim (fun (x : (Int × Bool)) => (.exit 0, (mkE [(0, LL a105 p0), (9, LL a105 p0), (10, I (lenL p0)), (11, I x.1), (12, B x.2)] [] 35))) (fun (x : Int) => (.ret, (mkE [(2, I x)] [] 35))))) (fun y4a => ?_) (fun y4b => ?_)
    · refine pH ?_
      refine pN ?_
      refine pS ?_
      refine gS 0 ?_
      refine gR 12 (rg Try.f156 12) ?_
      refine se (mkE [(2, I 0)] [] 35) ?_
      refine pN ?_
      refine pS ?_
      refine gE ?_
      exact pL
    · exact pL
theorem F156 (m : Nat) (hm : 5 ≤ m) (p0 : (List S105)) : callA Try.prog cfg m 156 [LL a105 p0] = (T156 p0).map I := by
  obtain ⟨q, rfl⟩ : ∃ q, m = q + 1 := ⟨m - 1, by omega⟩
  exact (callA_body (fn := Try.f156) (c := body_ Try.f156) q _ (by kernel_rfl) (by kernel_rfl) (by kernel_rfl)).trans (B156 _ (fun p0 => F231 q (by omega) p0) p0)

noncomputable def T157 (p0 : S38) : Option Int := ((T126 p0.f0 0 p0.f1).bind fun x1 => (bif x1 then (some 1) else (bif (ltI 345686400000 p0.f1) then (some 1) else (bif (ltI 34560000000 (subI .i64 p0.f1 p0.f0)) then (some 2) else (some 0)))))
theorem B157 (C : Callee) (h126 : ∀ (p0 : Int) (p1 : Int) (p2 : Int), C 126 [I p0, I p1, I p2] = (T126 p0 p1 p2).map B) (p0 : S38) : runs Try.prog C (cfg.fn 157) (finFn Try.prog (cfg.fn 157).byval Try.f157) [] (execA Try.prog C (cfg.fn 157) (nr Try.f157 []) (frame0 [a38 p0] 19)) = (T157 p0).map I := by
  unfold T157
  refine gS 1 ?_
  refine gR 0 (rg Try.f157 0) ?_
  refine se (mkE [(1, .ba 8 0)] [(8, .box [I p0.f0, I p0.f1] false)] 19) ?_
  refine pN ?_
  refine pS ?_
  refine gS 3 ?_
  refine gS 0 ?_
  refine gR 1 (rg Try.f157 1) ?_
  refine sg 4 (mkE [(6, I p0.f1), (5, .ba 8 1), (4, I p0.f0), (3, .ba 8 0), (1, .ba 8 0)] [(8, .box [I p0.f0, I p0.f1] false)] 19) ?_
  refine co 7 [] (h126 p0.f0 0 p0.f1) (fun x1 => ?_)
  refine sg 6 (mkE [(8, B x1), (7, B x1), (6, I p0.f1), (5, .ba 8 1), (4, I p0.f0), (3, .ba 8 0), (1, .ba 8 0)] [(8, .box [I p0.f0, I p0.f1] false)] 19) ?_
  refine sb 8 x1 ?_ ?_
  · refine se (mkE [(1, .ba 8 0), (12, B true)] [(8, .box [I p0.f0, I p0.f1] false)] 19) ?_
    refine pN ?_
    refine pS ?_
    refine gT (.tmp 12) ?_
    refine gS 0 ?_
    refine gR 2 (rg Try.f157 2) ?_
    refine se (mkE [(2, I 1)] [] 19) ?_
    refine pN ?_
    refine pS ?_
    refine gE ?_
    exact pL
  · refine se (mkE [(1, .ba 8 0), (12, B (ltI 345686400000 p0.f1))] [(8, .box [I p0.f0, I p0.f1] false)] 19) ?_
    refine pN ?_
    refine pS ?_
    refine gC 12 (ltI 345686400000 p0.f1) ?_ ?_
    · refine gS 0 ?_
      refine gR 2 (rg Try.f157 2) ?_
      refine se (mkE [(2, I 1)] [] 19) ?_
      refine pN ?_
      refine pS ?_
      refine gE ?_
      exact pL
    · refine gK ?_
      refine pN ?_
      refine pS ?_
      refine gS 5 ?_
      refine gS 0 ?_
      refine gR 3 (rg Try.f157 3) ?_
      refine se (mkE [(18, B (ltI 34560000000 (subI .i64 p0.f1 p0.f0)))] [] 19) ?_
      refine pN ?_
      refine pS ?_
      refine gC 18 (ltI 34560000000 (subI .i64 p0.f1 p0.f0)) ?_ ?_
      · refine gS 0 ?_
        refine gR 4 (rg Try.f157 4) ?_
        refine se (mkE [(2, I 2)] [] 19) ?_
        refine pN ?_
        refine pS ?_
        refine gE ?_
        exact pL
      · refine gK ?_
        refine pN ?_
        refine pS ?_
        refine gS 0 ?_
        refine gR 5 (rg Try.f157 5) ?_
        refine se (mkE [(2, I 0)] [] 19) ?_
        refine pN ?_
        refine pS ?_
        refine gE ?_
        exact pL
theorem F157 (m : Nat) (hm : 2 ≤ m) (p0 : S38) : callA Try.prog cfg m 157 [a38 p0] = (T157 p0).map I := by
  obtain ⟨q, rfl⟩ : ∃ q, m = q + 1 := ⟨m - 1, by omega⟩
  exact (callA_body (fn := Try.f157) (c := body_ Try.f157) q _ (by kernel_rfl) (by kernel_rfl) (by kernel_rfl)).trans (B157 _ (fun p0 p1 p2 => F126 q (by omega) p0 p1 p2) p0)

noncomputable def T247 (p0 : Int) : Option Bool := (some (neI p0 p0))
theorem B247 (C : Callee) (p0 : Int) : runs Try.prog C (cfg.fn 247) (finFn Try.prog (cfg.fn 247).byval Try.f247) [] (execA Try.prog C (cfg.fn 247) (nr Try.f247 []) (frame0 [I p0] 6)) = (T247 p0).map B := by
  unfold T247
  refine gS 1 ?_
  refine gR 0 (rg Try.f247 0) ?_
  refine se (mkE [(0, I p0)] [] 6) ?_
  refine pN ?_
  refine pS ?_
  refine gS 0 ?_
  refine gR 1 (rg Try.f247 1) ?_
  refine se (mkE [(2, B (neI p0 p0))] [] 6) ?_
  refine pN ?_
  refine pS ?_
  refine gE ?_
  exact pL
theorem F247 (m : Nat) (hm : 1 ≤ m) (p0 : Int) : callA Try.prog cfg m 247 [I p0] = (T247 p0).map B := by
  obtain ⟨q, rfl⟩ : ∃ q, m = q + 1 := ⟨m - 1, by omega⟩
  exact (callA_body (fn := Try.f247) (c := body_ Try.f247) q _ (by kernel_rfl) (by kernel_rfl) (by kernel_rfl)).trans (B247 _ p0)

noncomputable def T293 (p0 : Int) (p1 : Int) : Option Bool := ((T247 p0).bind fun x1 => (bif x1 then ((T247 p1).bind fun x2 => (bif (!x2) then (some true) else (some (ltI p0 p1)))) else (some (ltI p0 p1))))
theorem B293 (C : Callee) (h247 : ∀ (p0 : Int), C 247 [I p0] = (T247 p0).map B) (p0 : Int) (p1 : Int) : runs Try.prog C (cfg.fn 293) (finFn Try.prog (cfg.fn 293).byval Try.f293) [] (execA Try.prog C (cfg.fn 293) (nr Try.f293 []) (frame0 [I p0, I p1] 17)) = (T293 p0 p1).map B := by
  unfold T293
  refine gS 1 ?_
  refine gR 0 (rg Try.f293 0) ?_
  refine se (mkE [(0, I p0), (1, I p1)] [] 17) ?_
  refine pN ?_
  refine pS ?_
  refine gS 0 ?_
  refine gR 1 (rg Try.f293 1) ?_
  refine sg 1 (mkE [(5, I p0), (0, I p0), (1, I p1)] [] 17) ?_
  refine co 6 [] (h247 p0) (fun x1 => ?_)
  refine sg 3 (mkE [(7, B x1), (6, B x1), (5, I p0), (0, I p0), (1, I p1)] [] 17) ?_
  refine sb 7 x1 ?_ ?_
  · refine sg 4 (mkE [(8, I p1), (7, B true), (7, B x1), (6, B x1), (5, I p0), (0, I p0), (1, I p1)] [] 17) ?_
    refine co 9 [] (h247 p1) (fun x2 => ?_)
    refine sg 8 (mkE [(12, B (!x2)), (11, B (!x2)), (10, B (!x2)), (9, B x2), (8, I p1), (7, B true), (7, B x1), (6, B x1), (5, I p0), (0, I p0), (1, I p1)] [] 17) ?_
    refine sb 12 (!x2) ?_ ?_
    · refine se (mkE [(4, B true)] [] 17) ?_
      refine pN ?_
      refine pS ?_
      refine gE ?_
      exact pL
    · refine se (mkE [(4, B (ltI p0 p1))] [] 17) ?_
      refine pN ?_
      refine pS ?_
      refine gE ?_
      exact pL
  · refine se (mkE [(4, B (ltI p0 p1))] [] 17) ?_
    refine pN ?_
    refine pS ?_
    refine gE ?_
    exact pL
theorem F293 (m : Nat) (hm : 2 ≤ m) (p0 : Int) (p1 : Int) : callA Try.prog cfg m 293 [I p0, I p1] = (T293 p0 p1).map B := by
  obtain ⟨q, rfl⟩ : ∃ q, m = q + 1 := ⟨m - 1, by omega⟩
  exact (callA_body (fn := Try.f293) (c := body_ Try.f293) q _ (by kernel_rfl) (by kernel_rfl) (by kernel_rfl)).trans (B293 _ (fun p0 => F247 q (by omega) p0) p0 p1)

noncomputable def T294 (p0 : Int) : Option Bool := (some (neI p0 p0))
theorem B294 (C : Callee) (p0 : Int) : runs Try.prog C (cfg.fn 294) (finFn Try.prog (cfg.fn 294).byval Try.f294) [] (execA Try.prog C (cfg.fn 294) (nr Try.f294 []) (frame0 [I p0] 6)) = (T294 p0).map B := by
  unfold T294
  refine gS 1 ?_
  refine gR 0 (rg Try.f294 0) ?_
  refine se (mkE [(0, I p0)] [] 6) ?_
  refine pN ?_
  refine pS ?_
  refine gS 0 ?_
  refine gR 1 (rg Try.f294 1) ?_
  refine se (mkE [(2, B (neI p0 p0))] [] 6) ?_
  refine pN ?_
  refine pS ?_
  refine gE ?_
  exact pL
theorem F294 (m : Nat) (hm : 1 ≤ m) (p0 : Int) : callA Try.prog cfg m 294 [I p0] = (T294 p0).map B := by
  obtain ⟨q, rfl⟩ : ∃ q, m = q + 1 := ⟨m - 1, by omega⟩
  exact (callA_body (fn := Try.f294) (c := body_ Try.f294) q _ (by kernel_rfl) (by kernel_rfl) (by kernel_rfl)).trans (B294 _ p0)

noncomputable def L269_3 (p0 : (List Int)) (p1 : Int) (z0 : (Int × Int)) : Option ((Int × Int) ⊕ (Int × Int × Bool)) := (bif (ltI z0.1 z0.2) then ((listAt p0 (cvI .i64 (shrI (cvI .u64 (addI .i64 z0.1 z0.2)) 1))).bind fun x1 => ((T293 x1 p1).bind fun x2 => (bif x2 then (some (.inl ((addI .i64 (cvI .i64 (shrI (cvI .u64 (addI .i64 z0.1 z0.2)) 1)) 1), z0.2))) else (some (.inl (z0.1, (cvI .i64 (shrI (cvI .u64 (addI .i64 z0.1 z0.2)) 1)))))))) else (some (.inr (z0.1, z0.2, (ltI z0.1 z0.2)))))
theorem L269_3_ok (C : Callee) (h293 : ∀ (p0 : Int) (p1 : Int), C 293 [I p0, I p1] = (T293 p0 p1).map B) (p0 : (List Int)) (p1 : Int) (z0 : (Int × Int)) : runs Try.prog C (cfg.fn 269) (finLoop ((cfg.fn 269).keep 3) ((cfg.fn 269).al 3)) [] (execA Try.prog C (cfg.fn 269) (nr Try.f269 [false, false, false, true, true, true]) ((fun z0 : (Int × Int) => (mkE [(0, LL I p0), (1, I p1), (6, I (lenL p0)), (7, I z0.1), (8, I z0.2)] [] 54)) z0)) = (L269_3 p0 p1 z0).map (Sum.elim (fun z => .inl ((fun z0 : (Int × Int) => (mkE [(0, LL I p0), (1, I p1), (6, I (lenL p0)), (7, I z0.1), (8, I z0.2)] [] 54)) z)) (fun x => .inr ((fun (x : (Int × Int × Bool)) => (.exit 0, (mkE [(0, LL I p0), (1, I p1), (6, I (lenL p0)), (7, I x.1), (8, I x.2.1), (15, B x.2.2)] [] 54))) x))) := by
  unfold L269_3
  refine gS 4 ?_
  refine gS 0 ?_
  refine gR 3 (rg Try.f269 3) ?_
  refine se (mkE [(0, LL I p0), (1, I p1), (6, I (lenL p0)), (7, I z0.1), (8, I z0.2), (15, B (ltI z0.1 z0.2))] [] 54) ?_
  refine pN ?_
  refine pS ?_
  refine gC 15 (ltI z0.1 z0.2) ?_ ?_
  · refine gK ?_
    refine pN ?_
    refine pS ?_
    refine gB 1 ?_
    refine gS 5 ?_
    refine gR 4 (rg Try.f269 4) ?_
    refine se (mkE [(0, LL I p0), (1, I p1), (6, I (lenL p0)), (7, I z0.1), (8, I z0.2), (9, I (cvI .i64 (shrI (cvI .u64 (addI .i64 z0.1 z0.2)) 1)))] [] 54) ?_
    refine pN ?_
    refine pS ?_
    refine gS 0 ?_
    refine gR 5 (rg Try.f269 5) ?_
    refine sg 2 (mkE [(23, I (cvI .i64 (shrI (cvI .u64 (addI .i64 z0.1 z0.2)) 1))), (22, LL I p0), (0, LL I p0), (1, I p1), (6, I (lenL p0)), (7, I z0.1), (8, I z0.2), (9, I (cvI .i64 (shrI (cvI .u64 (addI .i64 z0.1 z0.2)) 1)))] [] 54) ?_
    refine vo 24 (addrE 104 3 1 I .i64 p0 (cvI .i64 (shrI (cvI .u64 (addI .i64 z0.1 z0.2)) 1))) (fun x1 => ?_)
    refine sg 5 (mkE [(26, I p1), (25, I x1), (24, .ia [I x1] 0), (23, I (cvI .i64 (shrI (cvI .u64 (addI .i64 z0.1 z0.2)) 1))), (22, LL I p0), (0, LL I p0), (1, I p1), (6, I (lenL p0)), (7, I z0.1), (8, I z0.2), (9, I (cvI .i64 (shrI (cvI .u64 (addI .i64 z0.1 z0.2)) 1)))] [] 54) ?_
    refine co 27 [] (h293 x1 p1) (fun x2 => ?_)
    refine se (mkE [(0, LL I p0), (1, I p1), (6, I (lenL p0)), (7, I z0.1), (8, I z0.2), (9, I (cvI .i64 (shrI (cvI .u64 (addI .i64 z0.1 z0.2)) 1))), (27, B x2)] [] 54) ?_
    refine pN ?_
    refine pS ?_
    refine gC 27 x2 ?_ ?_
    · refine gR 6 (rg Try.f269 6) ?_
      refine se (mkE [(0, LL I p0), (1, I p1), (6, I (lenL p0)), (7, I (addI .i64 (cvI .i64 (shrI (cvI .u64 (addI .i64 z0.1 z0.2)) 1)) 1)), (8, I z0.2)] [] 54) ?_
      refine pB ?_
      exact pL
    · refine gR 7 (rg Try.f269 7) ?_
      refine se (mkE [(0, LL I p0), (1, I p1), (6, I (lenL p0)), (7, I z0.1), (8, I (cvI .i64 (shrI (cvI .u64 (addI .i64 z0.1 z0.2)) 1)))] [] 54) ?_
      refine pB ?_
      exact pL
  · refine gX 0 ?_
    exact pL
noncomputable def T269 (p0 : (List Int)) (p1 : Int) : Option (Int × Bool) := ((iter (L269_3 p0 p1) (0, (lenL p0))).bind fun y3 => (bif (ltI y3.1 (lenL p0)) then ((listAt p0 y3.1).bind fun x4 => (bif (eqI x4 p1) then (some (y3.1, true)) else ((listAt p0 y3.1).bind fun x5 => ((T294 x5).bind fun x6 => (bif x6 then ((T294 p1).bind fun x7 => (some (y3.1, x7))) else (some (y3.1, false))))))) else (some (y3.1, false))))
theorem B269 (C : Callee) (h293 : ∀ (p0 : Int) (p1 : Int), C 293 [I p0, I p1] = (T293 p0 p1).map B) (h294 : ∀ (p0 : Int), C 294 [I p0] = (T294 p0).map B) (p0 : (List Int)) (p1 : Int) : runs Try.prog C (cfg.fn 269) (finFn Try.prog (cfg.fn 269).byval Try.f269) [] (execA Try.prog C (cfg.fn 269) (nr Try.f269 []) (frame0 [LL I p0, I p1] 54)) = (T269 p0 p1).map (fun r => AV.tup [I r.1, B r.2]) := by
  unfold T269
  refine gS 1 ?_
  refine gR 0 (rg Try.f269 0) ?_
  refine se (mkE [(0, LL I p0), (1, I p1)] [] 54) ?_
  refine pN ?_
  refine pS ?_
  refine gS 2 ?_
  refine gR 1 (rg Try.f269 1) ?_
  refine sg 1 (mkE [(10, LL I p0), (0, LL I p0), (1, I p1)] [] 54) ?_
  refine eo 11 (I (lenL p0)) (lenE 104 I p0) ?_
  refine se (mkE [(0, LL I p0), (1, I p1), (6, I (lenL p0))] [] 54) ?_
  refine pN ?_
  refine pS ?_
  refine gS 3 ?_
  refine gR 2 (rg Try.f269 2) ?_
  refine se (mkE [(0, LL I p0), (1, I p1), (6, I (lenL p0)), (7, I 0), (8, I (lenL p0))] [] 54) ?_
  refine pN ?_
  refine pS ?_
  refine gS 8 ?_
  refine gB 0 ?_
  refine lo [(0, none), (1, none), (6, none), (7, none), (8, none)] [] (L269_3 p0 p1) (fun z0 : (Int × Int) => (mkE [(0, LL I p0), (1, I p1), (6, I (lenL p0)), (7, I z0.1), (8, I z0.2)] [] 54)) (fun (x : (Int × Int × Bool)) => (.exit 0, (mkE [(0, LL I p0), (1, I p1), (6, I (lenL p0)), (7, I x.1), (8, I x.2.1), (15, B x.2.2)] [] 54))) (0, (lenL p0)) (fun z => L269_3_ok C h293 p0 p1 z) ?_
  intro y3
  refine pH ?_
  refine pN ?_
  refine pS ?_
  refine gS 0 ?_
  refine gR 8 (rg Try.f269 8) ?_
  refine sg 5 (mkE [(35, B (ltI y3.1 (lenL p0))), (34, B (ltI y3.1 (lenL p0))), (33, I (lenL p0)), (32, I y3.1), (31, I y3.1), (0, LL I p0), (1, I p1), (6, I (lenL p0)), (7, I y3.1), (8, I y3.2.1), (15, B y3.2.2)] [] 54) ?_
  refine sb 35 (ltI y3.1 (lenL p0)) ?_ ?_
  · refine sg 7 (mkE [(37, I y3.1), (36, LL I p0), (35, B true), (35, B (ltI y3.1 (lenL p0))), (34, B (ltI y3.1 (lenL p0))), (33, I (lenL p0)), (32, I y3.1), (31, I y3.1), (0, LL I p0), (1, I p1), (6, I (lenL p0)), (7, I y3.1), (8, I y3.2.1), (15, B y3.2.2)] [] 54) ?_
    refine vo 38 (addrE 104 3 1 I .i64 p0 y3.1) (fun x4 => ?_)
    refine sg 12 (mkE [(42, B (eqI x4 p1)), (41, B (eqI x4 p1)), (40, I p1), (39, I x4), (38, .ia [I x4] 0), (37, I y3.1), (36, LL I p0), (35, B true), (35, B (ltI y3.1 (lenL p0))), (34, B (ltI y3.1 (lenL p0))), (33, I (lenL p0)), (32, I y3.1), (31, I y3.1), (0, LL I p0), (1, I p1), (6, I (lenL p0)), (7, I y3.1), (8, I y3.2.1), (15, B y3.2.2)] [] 54) ?_
    refine sb 42 (eqI x4 p1) ?_ ?_
    · refine se (mkE [(4, I y3.1), (5, B true)] [] 54) ?_
      refine pN ?_
      refine pS ?_
      refine gE ?_
      exact pL
    · refine sg 14 (mkE [(44, I y3.1), (43, LL I p0), (42, B false), (42, B (eqI x4 p1)), (41, B (eqI x4 p1)), (40, I p1), (39, I x4), (38, .ia [I x4] 0), (37, I y3.1), (36, LL I p0), (35, B true), (35, B (ltI y3.1 (lenL p0))), (34, B (ltI y3.1 (lenL p0))), (33, I (lenL p0)), (32, I y3.1), (31, I y3.1), (0, LL I p0), (1, I p1), (6, I (lenL p0)), (7, I y3.1), (8, I y3.2.1), (15, B y3.2.2)] [] 54) ?_
      refine vo 45 (addrE 104 3 1 I .i64 p0 y3.1) (fun x5 => ?_)
      refine sg 16 (mkE [(46, I x5), (45, .ia [I x5] 0), (44, I y3.1), (43, LL I p0), (42, B false), (42, B (eqI x4 p1)), (41, B (eqI x4 p1)), (40, I p1), (39, I x4), (38, .ia [I x4] 0), (37, I y3.1), (36, LL I p0), (35, B true), (35, B (ltI y3.1 (lenL p0))), (34, B (ltI y3.1 (lenL p0))), (33, I (lenL p0)), (32, I y3.1), (31, I y3.1), (0, LL I p0), (1, I p1), (6, I (lenL p0)), (7, I y3.1), (8, I y3.2.1), (15, B y3.2.2)] [] 54) ?_
      refine co 47 [] (h294 x5) (fun x6 => ?_)
      refine sg 18 (mkE [(48, B x6), (47, B x6), (46, I x5), (45, .ia [I x5] 0), (44, I y3.1), (43, LL I p0), (42, B false), (42, B (eqI x4 p1)), (41, B (eqI x4 p1)), (40, I p1), (39, I x4), (38, .ia [I x4] 0), (37, I y3.1), (36, LL I p0), (35, B true), (35, B (ltI y3.1 (lenL p0))), (34, B (ltI y3.1 (lenL p0))), (33, I (lenL p0)), (32, I y3.1), (31, I y3.1), (0, LL I p0), (1, I p1), (6, I (lenL p0)), (7, I y3.1), (8, I y3.2.1), (15, B y3.2.2)] [] 54) ?_
      refine sb 48 x6 ?_ ?_
      · refine sg 19 (mkE [(49, I p1), (48, B true), (48, B x6), (47, B x6), (46, I x5), (45, .ia [I x5] 0), (44, I y3.1), (43, LL I p0), (42, B false), (42, B (eqI x4 p1)), (41, B (eqI x4 p1)), (40, I p1), (39, I x4), (38, .ia [I x4] 0), (37, I y3.1), (36, LL I p0), (35, B true), (35, B (ltI y3.1 (lenL p0))), (34, B (ltI y3.1 (lenL p0))), (33, I (lenL p0)), (32, I y3.1), (31, I y3.1), (0, LL I p0), (1, I p1), (6, I (lenL p0)), (7, I y3.1), (8, I y3.2.1), (15, B y3.2.2)] [] 54) ?_
        refine co 50 [] (h294 p1) (fun x7 => ?_)
        refine se (mkE [(4, I y3.1), (5, B x7)] [] 54) ?_
        refine pN ?_
        refine pS ?_
        refine gE ?_
        exact pL
      · refine se (mkE [(4, I y3.1), (5, B false)] [] 54) ?_
        refine pN ?_
        refine pS ?_
        refine gE ?_
        exact pL
  · refine se (mkE [(4, I y3.1), (5, B false)] [] 54) ?_
    refine pN ?_
    refine pS ?_
    refine gE ?_
    exact pL
theorem F269 (m : Nat) (hm : 3 ≤ m) (p0 : (List Int)) (p1 : Int) : callA Try.prog cfg m 269 [LL I p0, I p1] = (T269 p0 p1).map (fun r => AV.tup [I r.1, B r.2]) := by
  obtain ⟨q, rfl⟩ : ∃ q, m = q + 1 := ⟨m - 1, by omega⟩
  exact (callA_body (fn := Try.f269) (c := body_ Try.f269) q _ (by kernel_rfl) (by kernel_rfl) (by kernel_rfl)).trans (B269 _ (fun p0 p1 => F293 q (by omega) p0 p1) (fun p0 => F294 q (by omega) p0) p0 p1)

noncomputable def T232 (p0 : S105) (p1 : Int) : Option Bool := ((T126 p1 p0.f3 p0.f4).bind fun x1 => (bif x1 then (some false) else ((remO .i64 (subI .i64 p1 p0.f3) p0.f5).bind fun x2 => (bif (neI x2 0) then (some false) else ((shlO .i64 1 (remI .i64 p1 7)).bind fun x3 => (bif (eqI (bitI .and .i64 p0.f6 x3) 0) then (some false) else ((T269 p0.f7 p1).bind fun x4 => (some (!x4.2)))))))))
theorem B232 (C : Callee) (h126 : ∀ (p0 : Int) (p1 : Int) (p2 : Int), C 126 [I p0, I p1, I p2] = (T126 p0 p1 p2).map B) (h269 : ∀ (p0 : (List Int)) (p1 : Int), C 269 [LL I p0, I p1] = (T269 p0 p1).map (fun r => AV.tup [I r.1, B r.2])) (p0 : S105) (p1 : Int) : runs Try.prog C (cfg.fn 232) (finFn Try.prog (cfg.fn 232).byval Try.f232) [] (execA Try.prog C (cfg.fn 232) (nr Try.f232 []) (frame0 [a105 p0, I p1] 41)) = (T232 p0 p1).map B := by
  unfold T232
  refine gS 1 ?_
  refine gR 0 (rg Try.f232 0) ?_
  refine se (mkE [(1, I p1), (2, .ba 16 0)] [(16, .box [S p0.f0, S p0.f1, I p0.f2, I p0.f3, I p0.f4, I p0.f5, I p0.f6, LL I p0.f7, I p0.f8, I p0.f9, I p0.f10, LL S p0.f11, B p0.f12] false)] 41) ?_
  refine pN ?_
  refine pS ?_
  refine gS 3 ?_
  refine gS 0 ?_
  refine gD 1 25 (rg Try.f232 1) [0, 1, 2, 3, 4, 5, 6, 7, 8, 9, 10, 11, 12, 13, 14, 15, 16, 17, 18, 19, 20, 21, 22, 23, 24] ?_
  refine dg 5 [(some 7, qe (I p1)), (some 8, qe (.ba 16 3)), (some 9, qe (I p0.f3)), (some 10, qe (.ba 16 4)), (some 11, qe (I p0.f4))] ?_
  refine dc 12 [] (mkE [(11, I p0.f4), (10, .ba 16 4), (9, I p0.f3), (8, .ba 16 3), (7, I p1), (1, I p1), (2, .ba 16 0)] [(16, .box [S p0.f0, S p0.f1, I p0.f2, I p0.f3, I p0.f4, I p0.f5, I p0.f6, LL I p0.f7, I p0.f8, I p0.f9, I p0.f10, LL S p0.f11, B p0.f12] false)] 41) (h126 p1 p0.f3 p0.f4) (fun x1 => ?_)
  refine dg 7 [(some 7, qe (I p1)), (some 8, qe (.ba 16 3)), (some 9, qe (I p0.f3)), (some 10, qe (.ba 16 4)), (some 11, qe (I p0.f4)), (some 12, qe (B x1)), (some 13, qe (B x1))] ?_
  refine db 6 13 x1 ?_ ?_
  · refine dg 25 [(some 7, qe (I p1)), (some 8, qe (.ba 16 3)), (some 9, qe (I p0.f3)), (some 10, qe (.ba 16 4)), (some 11, qe (I p0.f4)), (some 12, qe (B x1)), (some 13, qe (B true)), (some 14, qe (.und)), (some 15, qe (.und)), (some 16, qe (.und)), (some 17, qe (.und)), (some 18, qe (.und)), (some 19, qe (.und)), (some 20, qe (.und)), (some 21, qe (.und)), (some 22, qe (B true)), (some 23, qe (B true)), (some 24, qe (.und)), (some 25, qe (.und)), (some 26, qe (.und)), (some 27, qe (.und)), (some 28, qe (.und)), (some 29, qe (.und)), (some 30, qe (.und)), (some 31, qe (B true))] ?_
    refine de (mkE [(31, B true), (30, .und), (29, .und), (28, .und), (27, .und), (26, .und), (25, .und), (24, .und), (23, B true), (22, B true), (21, .und), (20, .und), (19, .und), (18, .und), (17, .und), (16, .und), (15, .und), (14, .und), (13, B true), (12, B x1), (11, I p0.f4), (10, .ba 16 4), (9, I p0.f3), (8, .ba 16 3), (7, I p1), (1, I p1), (2, .ba 16 0)] [(16, .box [S p0.f0, S p0.f1, I p0.f2, I p0.f3, I p0.f4, I p0.f5, I p0.f6, LL I p0.f7, I p0.f8, I p0.f9, I p0.f10, LL S p0.f11, B p0.f12] false)] 41) ?_
    refine se (mkE [(1, I p1), (2, .ba 16 0), (31, B true)] [(16, .box [S p0.f0, S p0.f1, I p0.f2, I p0.f3, I p0.f4, I p0.f5, I p0.f6, LL I p0.f7, I p0.f8, I p0.f9, I p0.f10, LL S p0.f11, B p0.f12] false)] 41) ?_
    refine pN ?_
    refine pS ?_
    refine gT (.tmp 31) ?_
    refine gS 0 ?_
    refine gR 2 (rg Try.f232 2) ?_
    refine se (mkE [(4, B false)] [] 41) ?_
    refine pN ?_
    refine pS ?_
    refine gE ?_
    exact pL
  · refine dg 13 [(some 7, qe (I p1)), (some 8, qe (.ba 16 3)), (some 9, qe (I p0.f3)), (some 10, qe (.ba 16 4)), (some 11, qe (I p0.f4)), (some 12, qe (B x1)), (some 13, qe (B false)), (some 14, qe (I p1)), (some 15, qe (.ba 16 3)), (some 16, qe (I p0.f3)), (some 17, qe (I (subI .i64 p1 p0.f3))), (some 18, qe (.ba 16 5)), (some 19, qe (I p0.f5))] ?_
    refine dv 20 (mkE [(19, I p0.f5), (18, .ba 16 5), (17, I (subI .i64 p1 p0.f3)), (16, I p0.f3), (15, .ba 16 3), (14, I p1), (13, B false), (12, B x1), (11, I p0.f4), (10, .ba 16 4), (9, I p0.f3), (8, .ba 16 3), (7, I p1), (1, I p1), (2, .ba 16 0)] [(16, .box [S p0.f0, S p0.f1, I p0.f2, I p0.f3, I p0.f4, I p0.f5, I p0.f6, LL I p0.f7, I p0.f8, I p0.f9, I p0.f10, LL S p0.f11, B p0.f12] false)] 41) (remE 3 .i64 (.tmp 17) (.tmp 19) (subI .i64 p1 p0.f3) p0.f5) (fun x2 => ?_)
    refine dg 17 [(some 7, qe (I p1)), (some 8, qe (.ba 16 3)), (some 9, qe (I p0.f3)), (some 10, qe (.ba 16 4)), (some 11, qe (I p0.f4)), (some 12, qe (B x1)), (some 13, qe (B false)), (some 14, qe (I p1)), (some 15, qe (.ba 16 3)), (some 16, qe (I p0.f3)), (some 17, qe (I (subI .i64 p1 p0.f3))), (some 18, qe (.ba 16 5)), (some 19, qe (I p0.f5)), (some 20, qe (I x2)), (some 21, qe (B (neI x2 0))), (some 22, qe (B (neI x2 0))), (some 23, qe (B (neI x2 0)))] ?_
    refine db 16 23 (neI x2 0) ?_ ?_
    · refine dg 25 [(some 7, qe (I p1)), (some 8, qe (.ba 16 3)), (some 9, qe (I p0.f3)), (some 10, qe (.ba 16 4)), (some 11, qe (I p0.f4)), (some 12, qe (B x1)), (some 13, qe (B false)), (some 14, qe (I p1)), (some 15, qe (.ba 16 3)), (some 16, qe (I p0.f3)), (some 17, qe (I (subI .i64 p1 p0.f3))), (some 18, qe (.ba 16 5)), (some 19, qe (I p0.f5)), (some 20, qe (I x2)), (some 21, qe (B (neI x2 0))), (some 22, qe (B (neI x2 0))), (some 23, qe (B true)), (some 24, qe (.und)), (some 25, qe (.und)), (some 26, qe (.und)), (some 27, qe (.und)), (some 28, qe (.und)), (some 29, qe (.und)), (some 30, qe (.und)), (some 31, qe (B true))] ?_
      refine de (mkE [(31, B true), (30, .und), (29, .und), (28, .und), (27, .und), (26, .und), (25, .und), (24, .und), (23, B true), (22, B (neI x2 0)), (21, B (neI x2 0)), (20, I x2), (19, I p0.f5), (18, .ba 16 5), (17, I (subI .i64 p1 p0.f3)), (16, I p0.f3), (15, .ba 16 3), (14, I p1), (13, B false), (12, B x1), (11, I p0.f4), (10, .ba 16 4), (9, I p0.f3), (8, .ba 16 3), (7, I p1), (1, I p1), (2, .ba 16 0)] [(16, .box [S p0.f0, S p0.f1, I p0.f2, I p0.f3, I p0.f4, I p0.f5, I p0.f6, LL I p0.f7, I p0.f8, I p0.f9, I p0.f10, LL S p0.f11, B p0.f12] false)] 41) ?_
      refine se (mkE [(1, I p1), (2, .ba 16 0), (31, B true)] [(16, .box [S p0.f0, S p0.f1, I p0.f2, I p0.f3, I p0.f4, I p0.f5, I p0.f6, LL I p0.f7, I p0.f8, I p0.f9, I p0.f10, LL S p0.f11, B p0.f12] false)] 41) ?_
      refine pN ?_
      refine pS ?_
      refine gT (.tmp 31) ?_
      refine gS 0 ?_
      refine gR 2 (rg Try.f232 2) ?_
      refine se (mkE [(4, B false)] [] 41) ?_
      refine pN ?_
      refine pS ?_
      refine gE ?_
      exact pL
    · refine dg 21 [(some 7, qe (I p1)), (some 8, qe (.ba 16 3)), (some 9, qe (I p0.f3)), (some 10, qe (.ba 16 4)), (some 11, qe (I p0.f4)), (some 12, qe (B x1)), (some 13, qe (B false)), (some 14, qe (I p1)), (some 15, qe (.ba 16 3)), (some 16, qe (I p0.f3)), (some 17, qe (I (subI .i64 p1 p0.f3))), (some 18, qe (.ba 16 5)), (some 19, qe (I p0.f5)), (some 20, qe (I x2)), (some 21, qe (B (neI x2 0))), (some 22, qe (B (neI x2 0))), (some 23, qe (B false)), (some 24, qe (.ba 16 6)), (some 25, qe (I p0.f6)), (some 26, qe (I p1)), (some 27, qe (I (remI .i64 p1 7)))] ?_
      refine dv 28 (mkE [(27, I (remI .i64 p1 7)), (26, I p1), (23, B false), (22, B (neI x2 0)), (21, B (neI x2 0)), (20, I x2), (19, I p0.f5), (18, .ba 16 5), (17, I (subI .i64 p1 p0.f3)), (16, I p0.f3), (15, .ba 16 3), (14, I p1), (13, B false), (12, B x1), (11, I p0.f4), (10, .ba 16 4), (9, I p0.f3), (8, .ba 16 3), (7, I p1), (1, I p1), (2, .ba 16 0)] [(16, .box [S p0.f0, S p0.f1, I p0.f2, I p0.f3, I p0.f4, I p0.f5, I p0.f6, LL I p0.f7, I p0.f8, I p0.f9, I p0.f10, LL S p0.f11, B p0.f12] false)] 41) (shlE 3 .i64 .i64 (.const (.int .i64 1)) (.tmp 27) 1 (remI .i64 p1 7)) (fun x3 => ?_)
      refine dg 25 [(some 7, qe (I p1)), (some 8, qe (.ba 16 3)), (some 9, qe (I p0.f3)), (some 10, qe (.ba 16 4)), (some 11, qe (I p0.f4)), (some 12, qe (B x1)), (some 13, qe (B false)), (some 14, qe (I p1)), (some 15, qe (.ba 16 3)), (some 16, qe (I p0.f3)), (some 17, qe (I (subI .i64 p1 p0.f3))), (some 18, qe (.ba 16 5)), (some 19, qe (I p0.f5)), (some 20, qe (I x2)), (some 21, qe (B (neI x2 0))), (some 22, qe (B (neI x2 0))), (some 23, qe (B false)), (some 24, qe (.ba 16 6)), (some 25, qe (I p0.f6)), (some 26, qe (I p1)), (some 27, qe (I (remI .i64 p1 7))), (some 28, qe (I x3)), (some 29, qe (I (bitI .and .i64 p0.f6 x3))), (some 30, qe (B (eqI (bitI .and .i64 p0.f6 x3) 0))), (some 31, qe (B (eqI (bitI .and .i64 p0.f6 x3) 0)))] ?_
      refine de (mkE [(31, B (eqI (bitI .and .i64 p0.f6 x3) 0)), (30, B (eqI (bitI .and .i64 p0.f6 x3) 0)), (29, I (bitI .and .i64 p0.f6 x3)), (28, I x3), (27, I (remI .i64 p1 7)), (26, I p1), (25, I p0.f6), (24, .ba 16 6), (23, B false), (22, B (neI x2 0)), (21, B (neI x2 0)), (20, I x2), (19, I p0.f5), (18, .ba 16 5), (17, I (subI .i64 p1 p0.f3)), (16, I p0.f3), (15, .ba 16 3), (14, I p1), (13, B false), (12, B x1), (11, I p0.f4), (10, .ba 16 4), (9, I p0.f3), (8, .ba 16 3), (7, I p1), (1, I p1), (2, .ba 16 0)] [(16, .box [S p0.f0, S p0.f1, I p0.f2, I p0.f3, I p0.f4, I p0.f5, I p0.f6, LL I p0.f7, I p0.f8, I p0.f9, I p0.f10, LL S p0.f11, B p0.f12] false)] 41) ?_
      refine se (mkE [(1, I p1), (2, .ba 16 0), (31, B (eqI (bitI .and .i64 p0.f6 x3) 0))] [(16, .box [S p0.f0, S p0.f1, I p0.f2, I p0.f3, I p0.f4, I p0.f5, I p0.f6, LL I p0.f7, I p0.f8, I p0.f9, I p0.f10, LL S p0.f11, B p0.f12] false)] 41) ?_
      refine pN ?_
      refine pS ?_
      refine gC 31 (eqI (bitI .and .i64 p0.f6 x3) 0) ?_ ?_
      · refine gS 0 ?_
        refine gR 2 (rg Try.f232 2) ?_
        refine se (mkE [(4, B false)] [] 41) ?_
        refine pN ?_
        refine pS ?_
        refine gE ?_
        exact pL
      · refine gK ?_
        refine pN ?_
        refine pS ?_
        refine gS 4 ?_
        refine gR 3 (rg Try.f232 3) ?_
        refine sg 3 (mkE [(35, I p1), (34, LL I p0.f7), (33, .ba 16 7), (1, I p1), (2, .ba 16 0), (31, B (eqI (bitI .and .i64 p0.f6 x3) 0))] [(16, .box [S p0.f0, S p0.f1, I p0.f2, I p0.f3, I p0.f4, I p0.f5, I p0.f6, LL I p0.f7, I p0.f8, I p0.f9, I p0.f10, LL S p0.f11, B p0.f12] false)] 41) ?_
        refine co 36 [] (h269 p0.f7 p1) (fun x4 => ?_)
        refine se (mkE [(6, B x4.2)] [] 41) ?_
        refine pN ?_
        refine pS ?_
        refine gS 0 ?_
        refine gR 4 (rg Try.f232 4) ?_
        refine se (mkE [(4, B (!x4.2))] [] 41) ?_
        refine pN ?_
        refine pS ?_
        refine gE ?_
        exact pL
theorem F232 (m : Nat) (hm : 4 ≤ m) (p0 : S105) (p1 : Int) : callA Try.prog cfg m 232 [a105 p0, I p1] = (T232 p0 p1).map B := by
  obtain ⟨q, rfl⟩ : ∃ q, m = q + 1 := ⟨m - 1, by omega⟩
  exact (callA_body (fn := Try.f232) (c := body_ Try.f232) q _ (by kernel_rfl) (by kernel_rfl) (by kernel_rfl)).trans (B232 _ (fun p0 p1 p2 => F126 q (by omega) p0 p1 p2) (fun p0 p1 => F269 q (by omega) p0 p1) p0 p1)

noncomputable def T233 (p0 : S105) (p1 : Int) (p2 : Int) : Option S38 := (bif (leI (subI .i64 p0.f9 p0.f8) 0) then (some (S38.mk (mulI .i64 (subI .i64 (addI .i64 (mulI .i64 p2 1440) p0.f8) p1) 60000) (addI .i64 (mulI .i64 (subI .i64 (addI .i64 (mulI .i64 p2 1440) p0.f8) p1) 60000) (mulI .i64 (addI .i64 (subI .i64 p0.f9 p0.f8) 1440) 60000)))) else (some (S38.mk (mulI .i64 (subI .i64 (addI .i64 (mulI .i64 p2 1440) p0.f8) p1) 60000) (addI .i64 (mulI .i64 (subI .i64 (addI .i64 (mulI .i64 p2 1440) p0.f8) p1) 60000) (mulI .i64 (subI .i64 p0.f9 p0.f8) 60000)))))
theorem B233 (C : Callee) (p0 : S105) (p1 : Int) (p2 : Int) : runs Try.prog C (cfg.fn 233) (finFn Try.prog (cfg.fn 233).byval Try.f233) [] (execA Try.prog C (cfg.fn 233) (nr Try.f233 []) (frame0 [a105 p0, I p1, I p2] 32)) = (T233 p0 p1 p2).map a38 := by
  unfold T233
  refine gS 1 ?_
  refine gR 0 (rg Try.f233 0) ?_
  refine se (mkE [(1, I p1), (2, I p2), (3, .ba 24 0), (6, .ba 48 0)] [(24, .box [S p0.f0, S p0.f1, I p0.f2, I p0.f3, I p0.f4, I p0.f5, I p0.f6, LL I p0.f7, I p0.f8, I p0.f9, I p0.f10, LL S p0.f11, B p0.f12] false), (48, .box [I 0, I 0] false)] 32) ?_
  refine pN ?_
  refine pS ?_
  refine gS 2 ?_
  refine gR 1 (rg Try.f233 1) ?_
  refine se (mkE [(1, I p1), (2, I p2), (3, .ba 24 0), (6, .ba 48 0), (7, I (subI .i64 p0.f9 p0.f8))] [(24, .box [S p0.f0, S p0.f1, I p0.f2, I p0.f3, I p0.f4, I p0.f5, I p0.f6, LL I p0.f7, I p0.f8, I p0.f9, I p0.f10, LL S p0.f11, B p0.f12] false), (48, .box [I 0, I 0] false)] 32) ?_
  refine pN ?_
  refine pS ?_
  refine gS 4 ?_
  refine gS 0 ?_
  refine gR 2 (rg Try.f233 2) ?_
  refine se (mkE [(1, I p1), (2, I p2), (3, .ba 24 0), (6, .ba 48 0), (7, I (subI .i64 p0.f9 p0.f8)), (15, B (leI (subI .i64 p0.f9 p0.f8) 0))] [(24, .box [S p0.f0, S p0.f1, I p0.f2, I p0.f3, I p0.f4, I p0.f5, I p0.f6, LL I p0.f7, I p0.f8, I p0.f9, I p0.f10, LL S p0.f11, B p0.f12] false), (48, .box [I 0, I 0] false)] 32) ?_
  refine pN ?_
  refine pS ?_
  refine gC 15 (leI (subI .i64 p0.f9 p0.f8) 0) ?_ ?_
  · refine gR 3 (rg Try.f233 3) ?_
    refine se (mkE [(1, I p1), (2, I p2), (3, .ba 24 0), (6, .ba 48 0), (7, I (addI .i64 (subI .i64 p0.f9 p0.f8) 1440))] [(24, .box [S p0.f0, S p0.f1, I p0.f2, I p0.f3, I p0.f4, I p0.f5, I p0.f6, LL I p0.f7, I p0.f8, I p0.f9, I p0.f10, LL S p0.f11, B p0.f12] false), (48, .box [I 0, I 0] false)] 32) ?_
    refine pN ?_
    refine pS ?_
    refine gS 5 ?_
    refine gR 4 (rg Try.f233 4) ?_
    refine se (mkE [(6, .ba 48 0), (7, I (addI .i64 (subI .i64 p0.f9 p0.f8) 1440)), (8, I (mulI .i64 (subI .i64 (addI .i64 (mulI .i64 p2 1440) p0.f8) p1) 60000))] [(48, .box [I 0, I 0] false)] 32) ?_
    refine pN ?_
    refine pS ?_
    refine gS 0 ?_
    refine gR 5 (rg Try.f233 5) ?_
    refine se (mkE [(6, .ba 48 0)] [(48, .box [I (mulI .i64 (subI .i64 (addI .i64 (mulI .i64 p2 1440) p0.f8) p1) 60000), I (addI .i64 (mulI .i64 (subI .i64 (addI .i64 (mulI .i64 p2 1440) p0.f8) p1) 60000) (mulI .i64 (addI .i64 (subI .i64 p0.f9 p0.f8) 1440) 60000))] false)] 32) ?_
    refine pN ?_
    refine pS ?_
    refine gE ?_
    exact pL
  · refine gK ?_
    refine pN ?_
    refine pS ?_
    refine gS 5 ?_
    refine gR 4 (rg Try.f233 4) ?_
    refine se (mkE [(6, .ba 48 0), (7, I (subI .i64 p0.f9 p0.f8)), (8, I (mulI .i64 (subI .i64 (addI .i64 (mulI .i64 p2 1440) p0.f8) p1) 60000))] [(48, .box [I 0, I 0] false)] 32) ?_
    refine pN ?_
    refine pS ?_
    refine gS 0 ?_
    refine gR 5 (rg Try.f233 5) ?_
    refine se (mkE [(6, .ba 48 0)] [(48, .box [I (mulI .i64 (subI .i64 (addI .i64 (mulI .i64 p2 1440) p0.f8) p1) 60000), I (addI .i64 (mulI .i64 (subI .i64 (addI .i64 (mulI .i64 p2 1440) p0.f8) p1) 60000) (mulI .i64 (subI .i64 p0.f9 p0.f8) 60000))] false)] 32) ?_
    refine pN ?_
    refine pS ?_
    refine gE ?_
    exact pL
theorem F233 (m : Nat) (hm : 1 ≤ m) (p0 : S105) (p1 : Int) (p2 : Int) : callA Try.prog cfg m 233 [a105 p0, I p1, I p2] = (T233 p0 p1 p2).map a38 := by
  obtain ⟨q, rfl⟩ : ∃ q, m = q + 1 := ⟨m - 1, by omega⟩
  exact (callA_body (fn := Try.f233) (c := body_ Try.f233) q _ (by kernel_rfl) (by kernel_rfl) (by kernel_rfl)).trans (B233 _ p0 p1 p2)

noncomputable def L158_7 (p0 : S105) (p1 : Int) (p2 : S38) (z0 : ((List S38) × Int)) : Option (((List S38) × Int) ⊕ (Int × Bool × (List S38))) := (bif (leI z0.2 (minI (addI .i64 (quoI .i64 (addI .i64 p2.f1 (mulI .i64 p1 60000)) 86400000) 1) p0.f4)) then ((T232 p0 z0.2).bind fun x1 => (bif (!x1) then (some (.inl (z0.1, (addI .i64 z0.2 1)))) else ((T233 p0 p1 z0.2).bind fun x2 => (bif (ltI x2.f0 p2.f1) then (bif (ltI p2.f0 x2.f1) then ((appO 16 z0.1 ([x2] : List S38)).bind fun x3 => (some (.inl (x3, (addI .i64 z0.2 1))))) else (some (.inl (z0.1, (addI .i64 z0.2 1))))) else (some (.inl (z0.1, (addI .i64 z0.2 1)))))))) else (some (.inr (z0.2, (leI z0.2 (minI (addI .i64 (quoI .i64 (addI .i64 p2.f1 (mulI .i64 p1 60000)) 86400000) 1) p0.f4)), z0.1))))
theorem L158_7_ok (C : Callee) (h232 : ∀ (p0 : S105) (p1 : Int), C 232 [a105 p0, I p1] = (T232 p0 p1).map B) (h233 : ∀ (p0 : S105) (p1 : Int) (p2 : Int), C 233 [a105 p0, I p1, I p2] = (T233 p0 p1 p2).map a38) (p0 : S105) (p1 : Int) (p2 : S38) (z0 : ((List S38) × Int)) : runs Try.prog C (cfg.fn 158) (finLoop ((cfg.fn 158).keep 7) ((cfg.fn 158).al 7)) [] (execA Try.prog C (cfg.fn 158) (nr Try.f158 [false, false, true, false, true, true, true, true, true]) ((fun z0 : ((List S38) × Int) => (mkE [(1, I p1), (3, .ba 24 0), (5, .ba 40 0), (7, .own 56 0), (9, I (addI .i64 (quoI .i64 (addI .i64 p2.f1 (mulI .i64 p1 60000)) 86400000) 1)), (10, I z0.2)] [(24, .box [S p0.f0, S p0.f1, I p0.f2, I p0.f3, I p0.f4, I p0.f5, I p0.f6, LL I p0.f7, I p0.f8, I p0.f9, I p0.f10, LL S p0.f11, B p0.f12] false), (40, .box [I p2.f0, I p2.f1] false), (56, RR 39 2 a38 z0.1 0 false)] 72)) z0)) = (L158_7 p0 p1 p2 z0).map (Sum.elim (fun z => .inl ((fun z0 : ((List S38) × Int) => (mkE [(1, I p1), (3, .ba 24 0), (5, .ba 40 0), (7, .own 56 0), (9, I (addI .i64 (quoI .i64 (addI .i64 p2.f1 (mulI .i64 p1 60000)) 86400000) 1)), (10, I z0.2)] [(24, .box [S p0.f0, S p0.f1, I p0.f2, I p0.f3, I p0.f4, I p0.f5, I p0.f6, LL I p0.f7, I p0.f8, I p0.f9, I p0.f10, LL S p0.f11, B p0.f12] false), (40, .box [I p2.f0, I p2.f1] false), (56, RR 39 2 a38 z0.1 0 false)] 72)) z)) (fun x => .inr ((fun (x : (Int × Bool × (List S38))) => (.exit 0, (mkE [(1, I p1), (3, .ba 24 0), (5, .ba 40 0), (7, .own 56 0), (9, I (addI .i64 (quoI .i64 (addI .i64 p2.f1 (mulI .i64 p1 60000)) 86400000) 1)), (10, I x.1), (44, B x.2.1)] [(24, .box [S p0.f0, S p0.f1, I p0.f2, I p0.f3, I p0.f4, I p0.f5, I p0.f6, LL I p0.f7, I p0.f8, I p0.f9, I p0.f10, LL S p0.f11, B p0.f12] false), (40, .box [I p2.f0, I p2.f1] false), (56, RR 39 2 a38 x.2.2 0 false)] 72))) x))) := by
  unfold L158_7
  refine gS 9 ?_
  refine gS 0 ?_
  refine gR 7 (rg Try.f158 7) ?_
  refine se (mkE [(1, I p1), (3, .ba 24 0), (5, .ba 40 0), (7, .own 56 0), (9, I (addI .i64 (quoI .i64 (addI .i64 p2.f1 (mulI .i64 p1 60000)) 86400000) 1)), (10, I z0.2), (44, B (leI z0.2 (minI (addI .i64 (quoI .i64 (addI .i64 p2.f1 (mulI .i64 p1 60000)) 86400000) 1) p0.f4)))] [(24, .box [S p0.f0, S p0.f1, I p0.f2, I p0.f3, I p0.f4, I p0.f5, I p0.f6, LL I p0.f7, I p0.f8, I p0.f9, I p0.f10, LL S p0.f11, B p0.f12] false), (40, .box [I p2.f0, I p2.f1] false), (56, RR 39 2 a38 z0.1 0 false)] 72) ?_
  refine pN ?_
  refine pS ?_
  refine gC 44 (leI z0.2 (minI (addI .i64 (quoI .i64 (addI .i64 p2.f1 (mulI .i64 p1 60000)) 86400000) 1) p0.f4)) ?_ ?_
  · refine gK ?_
    refine pN ?_
    refine pS ?_
    refine gS 8 ?_
    refine gB 1 ?_
    refine gS 10 ?_
    refine gS 0 ?_
    refine gR 9 (rg Try.f158 9) ?_
    refine sg 2 (mkE [(48, I z0.2), (47, a105 p0), (1, I p1), (3, .ba 24 0), (5, .ba 40 0), (7, .own 56 0), (9, I (addI .i64 (quoI .i64 (addI .i64 p2.f1 (mulI .i64 p1 60000)) 86400000) 1)), (10, I z0.2), (44, B (leI z0.2 (minI (addI .i64 (quoI .i64 (addI .i64 p2.f1 (mulI .i64 p1 60000)) 86400000) 1) p0.f4)))] [(24, .box [S p0.f0, S p0.f1, I p0.f2, I p0.f3, I p0.f4, I p0.f5, I p0.f6, LL I p0.f7, I p0.f8, I p0.f9, I p0.f10, LL S p0.f11, B p0.f12] false), (40, .box [I p2.f0, I p2.f1] false), (56, RR 39 2 a38 z0.1 0 false)] 72) ?_
    refine co 49 [] (h232 p0 z0.2) (fun x1 => ?_)
    refine se (mkE [(1, I p1), (3, .ba 24 0), (5, .ba 40 0), (7, .own 56 0), (9, I (addI .i64 (quoI .i64 (addI .i64 p2.f1 (mulI .i64 p1 60000)) 86400000) 1)), (10, I z0.2), (50, B (!x1))] [(24, .box [S p0.f0, S p0.f1, I p0.f2, I p0.f3, I p0.f4, I p0.f5, I p0.f6, LL I p0.f7, I p0.f8, I p0.f9, I p0.f10, LL S p0.f11, B p0.f12] false), (40, .box [I p2.f0, I p2.f1] false), (56, RR 39 2 a38 z0.1 0 false)] 72) ?_
    refine pN ?_
    refine pS ?_
    refine gC 50 (!x1) ?_ ?_
    · refine gX 1 ?_
      refine pF ?_
      refine pO ?_
      refine pH ?_
      refine pN ?_
      refine pS ?_
      refine gR 8 (rg Try.f158 8) ?_
      refine se (mkE [(1, I p1), (3, .ba 24 0), (5, .ba 40 0), (7, .own 56 0), (9, I (addI .i64 (quoI .i64 (addI .i64 p2.f1 (mulI .i64 p1 60000)) 86400000) 1)), (10, I (addI .i64 z0.2 1))] [(24, .box [S p0.f0, S p0.f1, I p0.f2, I p0.f3, I p0.f4, I p0.f5, I p0.f6, LL I p0.f7, I p0.f8, I p0.f9, I p0.f10, LL S p0.f11, B p0.f12] false), (40, .box [I p2.f0, I p2.f1] false), (56, RR 39 2 a38 z0.1 0 false)] 72) ?_
      exact pL
    · refine gK ?_
      refine pN ?_
      refine pS ?_
      refine gS 11 ?_
      refine gR 10 (rg Try.f158 10) ?_
      refine sg 3 (mkE [(53, I z0.2), (52, I p1), (51, a105 p0), (1, I p1), (3, .ba 24 0), (5, .ba 40 0), (7, .own 56 0), (9, I (addI .i64 (quoI .i64 (addI .i64 p2.f1 (mulI .i64 p1 60000)) 86400000) 1)), (10, I z0.2), (50, B (!x1))] [(24, .box [S p0.f0, S p0.f1, I p0.f2, I p0.f3, I p0.f4, I p0.f5, I p0.f6, LL I p0.f7, I p0.f8, I p0.f9, I p0.f10, LL S p0.f11, B p0.f12] false), (40, .box [I p2.f0, I p2.f1] false), (56, RR 39 2 a38 z0.1 0 false)] 72) ?_
      refine co 54 [] (h233 p0 p1 z0.2) (fun x2 => ?_)
      refine se (mkE [(1, I p1), (3, .ba 24 0), (5, .ba 40 0), (7, .own 56 0), (9, I (addI .i64 (quoI .i64 (addI .i64 p2.f1 (mulI .i64 p1 60000)) 86400000) 1)), (10, I z0.2), (11, .ba 88 0)] [(24, .box [S p0.f0, S p0.f1, I p0.f2, I p0.f3, I p0.f4, I p0.f5, I p0.f6, LL I p0.f7, I p0.f8, I p0.f9, I p0.f10, LL S p0.f11, B p0.f12] false), (40, .box [I p2.f0, I p2.f1] false), (56, RR 39 2 a38 z0.1 0 false), (88, .box [I x2.f0, I x2.f1] false)] 72) ?_
      refine pN ?_
      refine pS ?_
      refine gS 0 ?_
      refine gR 11 (rg Try.f158 11) ?_
      refine sg 6 (mkE [(60, B (ltI x2.f0 p2.f1)), (59, B (ltI x2.f0 p2.f1)), (58, I p2.f1), (57, .ba 40 1), (56, I x2.f0), (55, .ba 88 0), (1, I p1), (3, .ba 24 0), (5, .ba 40 0), (7, .own 56 0), (9, I (addI .i64 (quoI .i64 (addI .i64 p2.f1 (mulI .i64 p1 60000)) 86400000) 1)), (10, I z0.2), (11, .ba 88 0)] [(24, .box [S p0.f0, S p0.f1, I p0.f2, I p0.f3, I p0.f4, I p0.f5, I p0.f6, LL I p0.f7, I p0.f8, I p0.f9, I p0.f10, LL S p0.f11, B p0.f12] false), (40, .box [I p2.f0, I p2.f1] false), (56, RR 39 2 a38 z0.1 0 false), (88, .box [I x2.f0, I x2.f1] false)] 72) ?_
      refine sb 60 (ltI x2.f0 p2.f1) ?_ ?_
      · refine se (mkE [(1, I p1), (3, .ba 24 0), (5, .ba 40 0), (7, .own 56 0), (9, I (addI .i64 (quoI .i64 (addI .i64 p2.f1 (mulI .i64 p1 60000)) 86400000) 1)), (10, I z0.2), (11, .ba 88 0), (66, B (ltI p2.f0 x2.f1))] [(24, .box [S p0.f0, S p0.f1, I p0.f2, I p0.f3, I p0.f4, I p0.f5, I p0.f6, LL I p0.f7, I p0.f8, I p0.f9, I p0.f10, LL S p0.f11, B p0.f12] false), (40, .box [I p2.f0, I p2.f1] false), (56, RR 39 2 a38 z0.1 0 false), (88, .box [I x2.f0, I x2.f1] false)] 72) ?_
        refine pN ?_
        refine pS ?_
        refine gC 66 (ltI p2.f0 x2.f1) ?_ ?_
        · refine gR 12 (rg Try.f158 12) ?_
          refine sg 3 (mkE [(69, .own 552 0), (68, a38 x2), (67, .own 56 0), (1, I p1), (3, .ba 24 0), (5, .ba 40 0), (7, .own 56 0), (9, I (addI .i64 (quoI .i64 (addI .i64 p2.f1 (mulI .i64 p1 60000)) 86400000) 1)), (10, I z0.2), (11, .ba 88 0), (66, B (ltI p2.f0 x2.f1))] [(552, RR 39 2 a38 ([x2] : List S38) 0 false), (24, .box [S p0.f0, S p0.f1, I p0.f2, I p0.f3, I p0.f4, I p0.f5, I p0.f6, LL I p0.f7, I p0.f8, I p0.f9, I p0.f10, LL S p0.f11, B p0.f12] false), (40, .box [I p2.f0, I p2.f1] false), (56, RR 39 2 a38 z0.1 0 false), (88, .box [I x2.f0, I x2.f1] false)] 72) ?_
          refine mo (some 70) (apO 108 39 2 16 56 a38 0 [552] (y := .own 552 0) (l2 := ([x2] : List S38))) (fun x3 => ?_)
          refine se (mkE [(1, I p1), (3, .ba 24 0), (5, .ba 40 0), (7, .own 56 1), (9, I (addI .i64 (quoI .i64 (addI .i64 p2.f1 (mulI .i64 p1 60000)) 86400000) 1)), (10, I z0.2)] [(24, .box [S p0.f0, S p0.f1, I p0.f2, I p0.f3, I p0.f4, I p0.f5, I p0.f6, LL I p0.f7, I p0.f8, I p0.f9, I p0.f10, LL S p0.f11, B p0.f12] false), (40, .box [I p2.f0, I p2.f1] false), (56, RR 39 2 a38 x3 1 false)] 72) ?_
          refine pB ?_
          refine pN ?_
          refine pS ?_
          refine gR 8 (rg Try.f158 8) ?_
          refine se (mkE [(1, I p1), (3, .ba 24 0), (5, .ba 40 0), (7, .own 56 1), (9, I (addI .i64 (quoI .i64 (addI .i64 p2.f1 (mulI .i64 p1 60000)) 86400000) 1)), (10, I (addI .i64 z0.2 1))] [(24, .box [S p0.f0, S p0.f1, I p0.f2, I p0.f3, I p0.f4, I p0.f5, I p0.f6, LL I p0.f7, I p0.f8, I p0.f9, I p0.f10, LL S p0.f11, B p0.f12] false), (40, .box [I p2.f0, I p2.f1] false), (56, RR 39 2 a38 x3 1 false)] 72) ?_
          exact pL
        · refine gK ?_
          refine pB ?_
          refine pN ?_
          refine pS ?_
          refine gR 8 (rg Try.f158 8) ?_
          refine se (mkE [(1, I p1), (3, .ba 24 0), (5, .ba 40 0), (7, .own 56 0), (9, I (addI .i64 (quoI .i64 (addI .i64 p2.f1 (mulI .i64 p1 60000)) 86400000) 1)), (10, I (addI .i64 z0.2 1))] [(24, .box [S p0.f0, S p0.f1, I p0.f2, I p0.f3, I p0.f4, I p0.f5, I p0.f6, LL I p0.f7, I p0.f8, I p0.f9, I p0.f10, LL S p0.f11, B p0.f12] false), (40, .box [I p2.f0, I p2.f1] false), (56, RR 39 2 a38 z0.1 0 false)] 72) ?_
          exact pL
      · refine se (mkE [(1, I p1), (3, .ba 24 0), (5, .ba 40 0), (7, .own 56 0), (9, I (addI .i64 (quoI .i64 (addI .i64 p2.f1 (mulI .i64 p1 60000)) 86400000) 1)), (10, I z0.2), (11, .ba 88 0), (66, B false)] [(24, .box [S p0.f0, S p0.f1, I p0.f2, I p0.f3, I p0.f4, I p0.f5, I p0.f6, LL I p0.f7, I p0.f8, I p0.f9, I p0.f10, LL S p0.f11, B p0.f12] false), (40, .box [I p2.f0, I p2.f1] false), (56, RR 39 2 a38 z0.1 0 false), (88, .box [I x2.f0, I x2.f1] false)] 72) ?_
        refine pN ?_
        refine pS ?_
        refine gF (.tmp 66) ?_
        refine gK ?_
        refine pB ?_
        refine pN ?_
        refine pS ?_
        refine gR 8 (rg Try.f158 8) ?_
        refine se (mkE [(1, I p1), (3, .ba 24 0), (5, .ba 40 0), (7, .own 56 0), (9, I (addI .i64 (quoI .i64 (addI .i64 p2.f1 (mulI .i64 p1 60000)) 86400000) 1)), (10, I (addI .i64 z0.2 1))] [(24, .box [S p0.f0, S p0.f1, I p0.f2, I p0.f3, I p0.f4, I p0.f5, I p0.f6, LL I p0.f7, I p0.f8, I p0.f9, I p0.f10, LL S p0.f11, B p0.f12] false), (40, .box [I p2.f0, I p2.f1] false), (56, RR 39 2 a38 z0.1 0 false)] 72) ?_
        exact pL
  · refine gX 0 ?_
    exact pL
noncomputable def T158 (p0 : S105) (p1 : Int) (p2 : S38) : Option (List S38) := (bif p0.f12 then (some []) else (bif (leI p2.f1 p2.f0) then (some []) else ((iter (L158_7 p0 p1 p2) ([], (maxI (subI .i64 (quoI .i64 (addI .i64 p2.f0 (mulI .i64 p1 60000)) 86400000) 2) p0.f3))).bind fun y4 => (some y4.2.2))))
theorem B158 (C : Callee) (h232 : ∀ (p0 : S105) (p1 : Int), C 232 [a105 p0, I p1] = (T232 p0 p1).map B) (h233 : ∀ (p0 : S105) (p1 : Int) (p2 : Int), C 233 [a105 p0, I p1, I p2] = (T233 p0 p1 p2).map a38) (p0 : S105) (p1 : Int) (p2 : S38) : runs Try.prog C (cfg.fn 158) (finFn Try.prog (cfg.fn 158).byval Try.f158) [] (execA Try.prog C (cfg.fn 158) (nr Try.f158 []) (frame0 [a105 p0, I p1, a38 p2] 72)) = (T158 p0 p1 p2).map (fun l => AV.fr 39 2 (List.map a38 l)) := by
  unfold T158
  refine gS 1 ?_
  refine gR 0 (rg Try.f158 0) ?_
  refine se (mkE [(1, I p1), (3, .ba 24 0), (5, .ba 40 0)] [(24, .box [S p0.f0, S p0.f1, I p0.f2, I p0.f3, I p0.f4, I p0.f5, I p0.f6, LL I p0.f7, I p0.f8, I p0.f9, I p0.f10, LL S p0.f11, B p0.f12] false), (40, .box [I p2.f0, I p2.f1] false)] 72) ?_
  refine pN ?_
  refine pS ?_
  refine gS 2 ?_
  refine gR 1 (rg Try.f158 1) ?_
  refine se (mkE [(1, I p1), (3, .ba 24 0), (5, .ba 40 0), (7, .nils)] [(24, .box [S p0.f0, S p0.f1, I p0.f2, I p0.f3, I p0.f4, I p0.f5, I p0.f6, LL I p0.f7, I p0.f8, I p0.f9, I p0.f10, LL S p0.f11, B p0.f12] false), (40, .box [I p2.f0, I p2.f1] false)] 72) ?_
  refine pN ?_
  refine pS ?_
  refine gS 4 ?_
  refine gS 0 ?_
  refine gR 2 (rg Try.f158 2) ?_
  refine sg 3 (mkE [(14, B p0.f12), (13, B p0.f12), (12, .ba 24 12), (1, I p1), (3, .ba 24 0), (5, .ba 40 0), (7, .nils)] [(24, .box [S p0.f0, S p0.f1, I p0.f2, I p0.f3, I p0.f4, I p0.f5, I p0.f6, LL I p0.f7, I p0.f8, I p0.f9, I p0.f10, LL S p0.f11, B p0.f12] false), (40, .box [I p2.f0, I p2.f1] false)] 72) ?_
  refine sb 14 p0.f12 ?_ ?_
  · refine se (mkE [(1, I p1), (3, .ba 24 0), (5, .ba 40 0), (7, .nils), (20, B true)] [(24, .box [S p0.f0, S p0.f1, I p0.f2, I p0.f3, I p0.f4, I p0.f5, I p0.f6, LL I p0.f7, I p0.f8, I p0.f9, I p0.f10, LL S p0.f11, B p0.f12] false), (40, .box [I p2.f0, I p2.f1] false)] 72) ?_
    refine pN ?_
    refine pS ?_
    refine gT (.tmp 20) ?_
    refine gS 0 ?_
    refine gR 3 (rg Try.f158 3) ?_
    refine se (mkE [(6, .nils)] [] 72) ?_
    refine pN ?_
    refine pS ?_
    refine gE ?_
    exact pL
  · refine se (mkE [(1, I p1), (3, .ba 24 0), (5, .ba 40 0), (7, .nils), (20, B (leI p2.f1 p2.f0))] [(24, .box [S p0.f0, S p0.f1, I p0.f2, I p0.f3, I p0.f4, I p0.f5, I p0.f6, LL I p0.f7, I p0.f8, I p0.f9, I p0.f10, LL S p0.f11, B p0.f12] false), (40, .box [I p2.f0, I p2.f1] false)] 72) ?_
    refine pN ?_
    refine pS ?_
    refine gC 20 (leI p2.f1 p2.f0) ?_ ?_
    · refine gS 0 ?_
      refine gR 3 (rg Try.f158 3) ?_
      refine se (mkE [(6, .nils)] [] 72) ?_
      refine pN ?_
      refine pS ?_
      refine gE ?_
      exact pL
    · refine gK ?_
      refine pN ?_
      refine pS ?_
      refine gS 5 ?_
      refine gR 4 (rg Try.f158 4) ?_
      refine se (mkE [(1, I p1), (3, .ba 24 0), (5, .ba 40 0), (7, .nils), (8, I (subI .i64 (quoI .i64 (addI .i64 p2.f0 (mulI .i64 p1 60000)) 86400000) 2))] [(24, .box [S p0.f0, S p0.f1, I p0.f2, I p0.f3, I p0.f4, I p0.f5, I p0.f6, LL I p0.f7, I p0.f8, I p0.f9, I p0.f10, LL S p0.f11, B p0.f12] false), (40, .box [I p2.f0, I p2.f1] false)] 72) ?_
      refine pN ?_
      refine pS ?_
      refine gS 6 ?_
      refine gR 5 (rg Try.f158 5) ?_
      refine se (mkE [(1, I p1), (3, .ba 24 0), (5, .ba 40 0), (7, .nils), (8, I (subI .i64 (quoI .i64 (addI .i64 p2.f0 (mulI .i64 p1 60000)) 86400000) 2)), (9, I (addI .i64 (quoI .i64 (addI .i64 p2.f1 (mulI .i64 p1 60000)) 86400000) 1))] [(24, .box [S p0.f0, S p0.f1, I p0.f2, I p0.f3, I p0.f4, I p0.f5, I p0.f6, LL I p0.f7, I p0.f8, I p0.f9, I p0.f10, LL S p0.f11, B p0.f12] false), (40, .box [I p2.f0, I p2.f1] false)] 72) ?_
      refine pN ?_
      refine pS ?_
      refine gS 13 ?_
      refine gS 7 ?_
      refine gR 6 (rg Try.f158 6) ?_
      refine se (mkE [(1, I p1), (3, .ba 24 0), (5, .ba 40 0), (7, .nils), (9, I (addI .i64 (quoI .i64 (addI .i64 p2.f1 (mulI .i64 p1 60000)) 86400000) 1)), (10, I (maxI (subI .i64 (quoI .i64 (addI .i64 p2.f0 (mulI .i64 p1 60000)) 86400000) 2) p0.f3))] [(24, .box [S p0.f0, S p0.f1, I p0.f2, I p0.f3, I p0.f4, I p0.f5, I p0.f6, LL I p0.f7, I p0.f8, I p0.f9, I p0.f10, LL S p0.f11, B p0.f12] false), (40, .box [I p2.f0, I p2.f1] false)] 72) ?_
      refine pN ?_
      refine pS ?_
      refine gB 0 ?_
      refine lo [(1, none), (3, none), (5, none), (7, some (39, 2)), (9, none), (10, none)] [] (L158_7 p0 p1 p2) (fun z0 : ((List S38) × Int) => (mkE [(1, I p1), (3, .ba 24 0), (5, .ba 40 0), (7, .own 56 0), (9, I (addI .i64 (quoI .i64 (addI .i64 p2.f1 (mulI .i64 p1 60000)) 86400000) 1)), (10, I z0.2)] [(24, .box [S p0.f0, S p0.f1, I p0.f2, I p0.f3, I p0.f4, I p0.f5, I p0.f6, LL I p0.f7, I p0.f8, I p0.f9, I p0.f10, LL S p0.f11, B p0.f12] false), (40, .box [I p2.f0, I p2.f1] false), (56, RR 39 2 a38 z0.1 0 false)] 72)) (fun (x : (Int × Bool × (List S38))) => (.exit 0, (mkE [(1, I p1), (3, .ba 24 0), (5, .ba 40 0), (7, .own 56 0), (9, I (addI .i64 (quoI .i64 (addI .i64 p2.f1 (mulI .i64 p1 60000)) 86400000) 1)), (10, I x.1), (44, B x.2.1)] [(24, .box [S p0.f0, S p0.f1, I p0.f2, I p0.f3, I p0.f4, I p0.f5, I p0.f6, LL I p0.f7, I p0.f8, I p0.f9, I p0.f10, LL S p0.f11, B p0.f12] false), (40, .box [I p2.f0, I p2.f1] false), (56, RR 39 2 a38 x.2.2 0 false)] 72))) ([], (maxI (subI .i64 (quoI .i64 (addI .i64 p2.f0 (mulI .i64 p1 60000)) 86400000) 2) p0.f3)) (fun z => L158_7_ok C h232 h233 p0 p1 p2 z) ?_
      intro y4
      refine pH ?_
      refine pN ?_
      refine pS ?_
      refine gS 0 ?_
      refine gR 13 (rg Try.f158 13) ?_
      refine se (mkE [(6, .own 56 0)] [(56, RR 39 2 a38 y4.2.2 0 false)] 72) ?_
      refine pN ?_
      refine pS ?_
      refine gE ?_
      exact pL
theorem F158 (m : Nat) (hm : 5 ≤ m) (p0 : S105) (p1 : Int) (p2 : S38) : callA Try.prog cfg m 158 [a105 p0, I p1, a38 p2] = (T158 p0 p1 p2).map (fun l => AV.fr 39 2 (List.map a38 l)) := by
  obtain ⟨q, rfl⟩ : ∃ q, m = q + 1 := ⟨m - 1, by omega⟩
  exact (callA_body (fn := Try.f158) (c := body_ Try.f158) q _ (by kernel_rfl) (by kernel_rfl) (by kernel_rfl)).trans (B158 _ (fun p0 p1 => F232 q (by omega) p0 p1) (fun p0 p1 p2 => F233 q (by omega) p0 p1 p2) p0 p1 p2)

noncomputable def T159 (p0 : S38) (p1 : S38) : Option S38 := (some (S38.mk (maxI p0.f0 p1.f0) (minI p0.f1 p1.f1)))
theorem B159 (C : Callee) (p0 : S38) (p1 : S38) : runs Try.prog C (cfg.fn 159) (finFn Try.prog (cfg.fn 159).byval Try.f159) [] (execA Try.prog C (cfg.fn 159) (nr Try.f159 []) (frame0 [a38 p0, a38 p1] 16)) = (T159 p0 p1).map a38 := by
  unfold T159
  refine gS 1 ?_
  refine gR 0 (rg Try.f159 0) ?_
  refine se (mkE [(2, .ba 16 0), (3, .ba 24 0), (4, .ba 32 0)] [(16, .box [I p0.f0, I p0.f1] false), (24, .box [I p1.f0, I p1.f1] false), (32, .box [I 0, I 0] false)] 16) ?_
  refine pN ?_
  refine pS ?_
  refine gS 0 ?_
  refine gR 1 (rg Try.f159 1) ?_
  refine se (mkE [(4, .ba 32 0)] [(32, .box [I (maxI p0.f0 p1.f0), I (minI p0.f1 p1.f1)] false)] 16) ?_
  refine pN ?_
  refine pS ?_
  refine gE ?_
  exact pL
theorem F159 (m : Nat) (hm : 1 ≤ m) (p0 : S38) (p1 : S38) : callA Try.prog cfg m 159 [a38 p0, a38 p1] = (T159 p0 p1).map a38 := by
  obtain ⟨q, rfl⟩ : ∃ q, m = q + 1 := ⟨m - 1, by omega⟩
  exact (callA_body (fn := Try.f159) (c := body_ Try.f159) q _ (by kernel_rfl) (by kernel_rfl) (by kernel_rfl)).trans (B159 _ p0 p1)

noncomputable def L72_11 (p2 : S38) (x4 : (List S38)) (z0 : ((List S38) × Int)) : Option (((List S38) × Int) ⊕ (Int × Bool × (List S38))) := (bif (ltI z0.2 (lenL x4)) then ((idxO (List.length z0.1) z0.2).bind fun x5 => ((getN z0.1 x5).bind fun x6 => ((T159 x6 p2).bind fun x7 => ((idxO (List.length z0.1) z0.2).bind fun x8 => ((getN z0.1 x8).bind fun x9 => (some (.inl ((List.set z0.1 x8 x7), (addI .i64 z0.2 1))))))))) else (some (.inr (z0.2, (ltI z0.2 (lenL x4)), z0.1))))
theorem L72_11_ok (C : Callee) (h159 : ∀ (p0 : S38) (p1 : S38), C 159 [a38 p0, a38 p1] = (T159 p0 p1).map a38) (p2 : S38) (x4 : (List S38)) (z0 : ((List S38) × Int)) : runs Try.prog C (cfg.fn 72) (finLoop ((cfg.fn 72).keep 11) ((cfg.fn 72).al 11)) [] (execA Try.prog C (cfg.fn 72) (nr Try.f72 [false, false, true, false, true, true, true, true, true]) ((fun z0 : ((List S38) × Int) => (mkE [(30, .own 80 0), (5, .ba 40 0), (10, .own 80 0), (31, I (lenL x4)), (32, I z0.2)] [(40, .box [I p2.f0, I p2.f1] false), (80, RR 39 2 a38 z0.1 0 false)] 45)) z0)) = (L72_11 p2 x4 z0).map (Sum.elim (fun z => .inl ((fun z0 : ((List S38) × Int) => (mkE [(30, .own 80 0), (5, .ba 40 0), (10, .own 80 0), (31, I (lenL x4)), (32, I z0.2)] [(40, .box [I p2.f0, I p2.f1] false), (80, RR 39 2 a38 z0.1 0 false)] 45)) z)) (fun x => .inr ((fun (x : (Int × Bool × (List S38))) => (.exit 0, (mkE [(5, .ba 40 0), (10, .own 80 0), (30, .own 80 0), (31, I (lenL x4)), (32, I x.1), (33, B x.2.1)] [(40, .box [I p2.f0, I p2.f1] false), (80, RR 39 2 a38 x.2.2 0 false)] 45))) x))) := by
  unfold L72_11
  refine gS 0 ?_
  refine gR 11 (rg Try.f72 11) ?_
  refine se (mkE [(5, .ba 40 0), (10, .own 80 0), (30, .own 80 0), (31, I (lenL x4)), (32, I z0.2), (33, B (ltI z0.2 (lenL x4)))] [(40, .box [I p2.f0, I p2.f1] false), (80, RR 39 2 a38 z0.1 0 false)] 45) ?_
  refine pN ?_
  refine pS ?_
  refine gS 12 ?_
  refine gC 33 (ltI z0.2 (lenL x4)) ?_ ?_
  · refine gK ?_
    refine pN ?_
    refine pS ?_
    refine gS 14 ?_
    refine gB 1 ?_
    refine gS 13 ?_
    refine gR 12 (rg Try.f72 12) ?_
    refine sg 1 (mkE [(34, I z0.2), (5, .ba 40 0), (10, .own 80 0), (30, .own 80 0), (31, I (lenL x4)), (32, I z0.2), (33, B (ltI z0.2 (lenL x4)))] [(40, .box [I p2.f0, I p2.f1] false), (80, RR 39 2 a38 z0.1 0 false)] 45) ?_
    refine vo 35 (addrOE 108 39 2 80 0 false a38 .i64 z0.1 z0.2) (fun x5 => ?_)
    refine vo 36 (loadOE 39 80 0 x5 0 39 2 2 true false a38 (fun q : S38 => a38 q) z0.1) (fun x6 => ?_)
    refine se (mkE [(5, .ba 40 0), (10, .own 80 0), (11, I z0.2), (12, .ba 96 0), (30, .own 80 0), (31, I (lenL x4)), (32, I z0.2)] [(40, .box [I p2.f0, I p2.f1] false), (80, RR 39 2 a38 z0.1 0 false), (96, .box [I x6.f0, I x6.f1] false)] 45) ?_
    refine pN ?_
    refine pS ?_
    refine gR 13 (rg Try.f72 13) ?_
    refine sg 4 (mkE [(40, a38 p2), (39, a38 x6), (38, I z0.2), (37, .own 80 0), (5, .ba 40 0), (10, .own 80 0), (11, I z0.2), (12, .ba 96 0), (30, .own 80 0), (31, I (lenL x4)), (32, I z0.2)] [(40, .box [I p2.f0, I p2.f1] false), (80, RR 39 2 a38 z0.1 0 false), (96, .box [I x6.f0, I x6.f1] false)] 45) ?_
    refine co 41 [] (h159 x6 p2) (fun x7 => ?_)
    refine vo 42 (addrOE 108 39 2 80 0 false a38 .i64 z0.1 z0.2) (fun x8 => ?_)
    refine mo none (stO 39 2 80 0 x8 0 a38 z0.1 [] [I x7.f0, I x7.f1] (a38 x7) (fun q : S38 => x7) 39 (.tmp 42) (.tmp 41) 2) (fun x9 => ?_)
    refine se (mkE [(5, .ba 40 0), (10, .own 80 0), (30, .own 80 0), (31, I (lenL x4)), (32, I z0.2)] [(40, .box [I p2.f0, I p2.f1] false), (80, RR 39 2 a38 (List.set z0.1 x8 x7) 0 false)] 45) ?_
    refine pB ?_
    refine pN ?_
    refine pS ?_
    refine gR 14 (rg Try.f72 14) ?_
    refine se (mkE [(5, .ba 40 0), (10, .own 80 0), (30, .own 80 0), (31, I (lenL x4)), (32, I (addI .i64 z0.2 1))] [(40, .box [I p2.f0, I p2.f1] false), (80, RR 39 2 a38 (List.set z0.1 x8 x7) 0 false)] 45) ?_
    exact pL
  · refine gX 0 ?_
    exact pL
noncomputable def T72 (p0 : S105) (p1 : Int) (p2 : S38) : Option ((List S38) × Int) := ((T156 ([p0] : List S105)).bind fun x1 => (bif (neI x1 0) then (some ([], x1)) else ((T126 p1 (-1440) 1440).bind fun x2 => (bif x2 then (some ([], 1)) else ((T157 p2).bind fun x3 => (bif (neI x3 0) then (some ([], x3)) else ((T158 p0 p1 p2).bind fun x4 => ((iter (L72_11 p2 x4) (x4, 0)).bind fun y10 => (some (y10.2.2, 0))))))))))
theorem B72 (C : Callee) (h126 : ∀ (p0 : Int) (p1 : Int) (p2 : Int), C 126 [I p0, I p1, I p2] = (T126 p0 p1 p2).map B) (h156 : ∀ (p0 : (List S105)), C 156 [LL a105 p0] = (T156 p0).map I) (h157 : ∀ (p0 : S38), C 157 [a38 p0] = (T157 p0).map I) (h158 : ∀ (p0 : S105) (p1 : Int) (p2 : S38), C 158 [a105 p0, I p1, a38 p2] = (T158 p0 p1 p2).map (fun l => AV.fr 39 2 (List.map a38 l))) (h159 : ∀ (p0 : S38) (p1 : S38), C 159 [a38 p0, a38 p1] = (T159 p0 p1).map a38) (p0 : S105) (p1 : Int) (p2 : S38) : runs Try.prog C (cfg.fn 72) (finFn Try.prog (cfg.fn 72).byval Try.f72) [] (execA Try.prog C (cfg.fn 72) (nr Try.f72 []) (frame0 [a105 p0, I p1, a38 p2] 45)) = (T72 p0 p1 p2).map (fun r => AV.tup [(fun l => AV.fr 39 2 (List.map a38 l)) r.1, I r.2]) := by
  unfold T72
  refine gS 1 ?_
  refine gR 0 (rg Try.f72 0) ?_
  refine se (mkE [(1, I p1), (3, .ba 24 0), (5, .ba 40 0)] [(24, .box [S p0.f0, S p0.f1, I p0.f2, I p0.f3, I p0.f4, I p0.f5, I p0.f6, LL I p0.f7, I p0.f8, I p0.f9, I p0.f10, LL S p0.f11, B p0.f12] false), (40, .box [I p2.f0, I p2.f1] false)] 45) ?_
  refine pN ?_
  refine pS ?_
  refine gS 4 ?_
  refine gS 2 ?_
  refine gR 1 (rg Try.f72 1) ?_
  refine sg 2 (mkE [(14, .own 112 0), (13, a105 p0), (1, I p1), (3, .ba 24 0), (5, .ba 40 0)] [(112, RR 106 13 a105 ([p0] : List S105) 0 false), (24, .box [S p0.f0, S p0.f1, I p0.f2, I p0.f3, I p0.f4, I p0.f5, I p0.f6, LL I p0.f7, I p0.f8, I p0.f9, I p0.f10, LL S p0.f11, B p0.f12] false), (40, .box [I p2.f0, I p2.f1] false)] 45) ?_
  refine co 15 [112] (h156 ([p0] : List S105)) (fun x1 => ?_)
  refine se (mkE [(1, I p1), (3, .ba 24 0), (5, .ba 40 0), (8, I x1)] [(24, .box [S p0.f0, S p0.f1, I p0.f2, I p0.f3, I p0.f4, I p0.f5, I p0.f6, LL I p0.f7, I p0.f8, I p0.f9, I p0.f10, LL S p0.f11, B p0.f12] false), (40, .box [I p2.f0, I p2.f1] false)] 45) ?_
  refine pN ?_
  refine pS ?_
  refine gS 0 ?_
  refine gR 2 (rg Try.f72 2) ?_
  refine se (mkE [(1, I p1), (3, .ba 24 0), (5, .ba 40 0), (8, I x1), (17, B (neI x1 0))] [(24, .box [S p0.f0, S p0.f1, I p0.f2, I p0.f3, I p0.f4, I p0.f5, I p0.f6, LL I p0.f7, I p0.f8, I p0.f9, I p0.f10, LL S p0.f11, B p0.f12] false), (40, .box [I p2.f0, I p2.f1] false)] 45) ?_
  refine pN ?_
  refine pS ?_
  refine gC 17 (neI x1 0) ?_ ?_
  · refine gS 0 ?_
    refine gR 3 (rg Try.f72 3) ?_
    refine se (mkE [(6, .nils), (7, I x1)] [] 45) ?_
    refine pN ?_
    refine pS ?_
    refine gE ?_
    exact pL
  · refine gK ?_
    refine pN ?_
    refine pS ?_
    refine gS 6 ?_
    refine gS 0 ?_
    refine gR 4 (rg Try.f72 4) ?_
    refine sg 1 (mkE [(19, I p1), (1, I p1), (3, .ba 24 0), (5, .ba 40 0), (8, I x1), (17, B (neI x1 0))] [(24, .box [S p0.f0, S p0.f1, I p0.f2, I p0.f3, I p0.f4, I p0.f5, I p0.f6, LL I p0.f7, I p0.f8, I p0.f9, I p0.f10, LL S p0.f11, B p0.f12] false), (40, .box [I p2.f0, I p2.f1] false)] 45) ?_
    refine co 20 [] (h126 p1 (-1440) 1440) (fun x2 => ?_)
    refine se (mkE [(1, I p1), (3, .ba 24 0), (5, .ba 40 0), (20, B x2)] [(24, .box [S p0.f0, S p0.f1, I p0.f2, I p0.f3, I p0.f4, I p0.f5, I p0.f6, LL I p0.f7, I p0.f8, I p0.f9, I p0.f10, LL S p0.f11, B p0.f12] false), (40, .box [I p2.f0, I p2.f1] false)] 45) ?_
    refine pN ?_
    refine pS ?_
    refine gC 20 x2 ?_ ?_
    · refine gS 0 ?_
      refine gR 5 (rg Try.f72 5) ?_
      refine se (mkE [(6, .nils), (7, I 1)] [] 45) ?_
      refine pN ?_
      refine pS ?_
      refine gE ?_
      exact pL
    · refine gK ?_
      refine pN ?_
      refine pS ?_
      refine gS 9 ?_
      refine gS 7 ?_
      refine gR 6 (rg Try.f72 6) ?_
      refine sg 1 (mkE [(21, a38 p2), (1, I p1), (3, .ba 24 0), (5, .ba 40 0), (20, B x2)] [(24, .box [S p0.f0, S p0.f1, I p0.f2, I p0.f3, I p0.f4, I p0.f5, I p0.f6, LL I p0.f7, I p0.f8, I p0.f9, I p0.f10, LL S p0.f11, B p0.f12] false), (40, .box [I p2.f0, I p2.f1] false)] 45) ?_
      refine co 22 [] (h157 p2) (fun x3 => ?_)
      refine se (mkE [(1, I p1), (3, .ba 24 0), (5, .ba 40 0), (9, I x3)] [(24, .box [S p0.f0, S p0.f1, I p0.f2, I p0.f3, I p0.f4, I p0.f5, I p0.f6, LL I p0.f7, I p0.f8, I p0.f9, I p0.f10, LL S p0.f11, B p0.f12] false), (40, .box [I p2.f0, I p2.f1] false)] 45) ?_
      refine pN ?_
      refine pS ?_
      refine gS 0 ?_
      refine gR 7 (rg Try.f72 7) ?_
      refine se (mkE [(1, I p1), (3, .ba 24 0), (5, .ba 40 0), (9, I x3), (24, B (neI x3 0))] [(24, .box [S p0.f0, S p0.f1, I p0.f2, I p0.f3, I p0.f4, I p0.f5, I p0.f6, LL I p0.f7, I p0.f8, I p0.f9, I p0.f10, LL S p0.f11, B p0.f12] false), (40, .box [I p2.f0, I p2.f1] false)] 45) ?_
      refine pN ?_
      refine pS ?_
      refine gC 24 (neI x3 0) ?_ ?_
      · refine gS 0 ?_
        refine gR 8 (rg Try.f72 8) ?_
        refine se (mkE [(6, .nils), (7, I x3)] [] 45) ?_
        refine pN ?_
        refine pS ?_
        refine gE ?_
        exact pL
      · refine gK ?_
        refine pN ?_
        refine pS ?_
        refine gS 10 ?_
        refine gR 9 (rg Try.f72 9) ?_
        refine sg 3 (mkE [(28, a38 p2), (27, I p1), (26, a105 p0), (1, I p1), (3, .ba 24 0), (5, .ba 40 0), (9, I x3), (24, B (neI x3 0))] [(24, .box [S p0.f0, S p0.f1, I p0.f2, I p0.f3, I p0.f4, I p0.f5, I p0.f6, LL I p0.f7, I p0.f8, I p0.f9, I p0.f10, LL S p0.f11, B p0.f12] false), (40, .box [I p2.f0, I p2.f1] false)] 45) ?_
        refine co 29 [] (h158 p0 p1 p2) (fun x4 => ?_)
        refine se (mkE [(5, .ba 40 0), (10, .own 232 0)] [(40, .box [I p2.f0, I p2.f1] false), (232, RR 39 2 a38 x4 0 false)] 45) ?_
        refine pN ?_
        refine pS ?_
        refine gS 15 ?_
        refine gS 11 ?_
        refine gR 10 (rg Try.f72 10) ?_
        refine sg 1 (mkE [(30, .own 232 0), (5, .ba 40 0), (10, .own 232 0)] [(40, .box [I p2.f0, I p2.f1] false), (232, RR 39 2 a38 x4 0 false)] 45) ?_
        refine eo 31 (I (lenL x4)) (lenOE 108 39 2 a38 x4) ?_
        refine se (mkE [(5, .ba 40 0), (10, .own 232 0), (30, .own 232 0), (31, I (lenL x4)), (32, I 0)] [(40, .box [I p2.f0, I p2.f1] false), (232, RR 39 2 a38 x4 0 false)] 45) ?_
        refine pN ?_
        refine pS ?_
        refine gB 0 ?_
        refine lo [(5, none), (10, some (39, 2)), (31, none), (32, none)] [(30, 10)] (L72_11 p2 x4) (fun z0 : ((List S38) × Int) => (mkE [(30, .own 80 0), (5, .ba 40 0), (10, .own 80 0), (31, I (lenL x4)), (32, I z0.2)] [(40, .box [I p2.f0, I p2.f1] false), (80, RR 39 2 a38 z0.1 0 false)] 45)) (fun (x : (Int × Bool × (List S38))) => (.exit 0, (mkE [(5, .ba 40 0), (10, .own 80 0), (30, .own 80 0), (31, I (lenL x4)), (32, I x.1), (33, B x.2.1)] [(40, .box [I p2.f0, I p2.f1] false), (80, RR 39 2 a38 x.2.2 0 false)] 45))) (x4, 0) (fun z => L72_11_ok C h159 p2 x4 z) ?_
        intro y10
        refine pH ?_
        refine pN ?_
        refine pS ?_
        refine gS 0 ?_
        refine gR 15 (rg Try.f72 15) ?_
        refine se (mkE [(6, .own 80 0), (7, I 0)] [(80, RR 39 2 a38 y10.2.2 0 false)] 45) ?_
        refine pN ?_
        refine pS ?_
        refine gE ?_
        exact pL
theorem F72 (m : Nat) (hm : 6 ≤ m) (p0 : S105) (p1 : Int) (p2 : S38) : callA Try.prog cfg m 72 [a105 p0, I p1, a38 p2] = (T72 p0 p1 p2).map (fun r => AV.tup [(fun l => AV.fr 39 2 (List.map a38 l)) r.1, I r.2]) := by
  obtain ⟨q, rfl⟩ : ∃ q, m = q + 1 := ⟨m - 1, by omega⟩
  exact (callA_body (fn := Try.f72) (c := body_ Try.f72) q _ (by kernel_rfl) (by kernel_rfl) (by kernel_rfl)).trans (B72 _ (fun p0 p1 p2 => F126 q (by omega) p0 p1 p2) (fun p0 => F156 q (by omega) p0) (fun p0 => F157 q (by omega) p0) (fun p0 p1 p2 => F158 q (by omega) p0 p1 p2) (fun p0 p1 => F159 q (by omega) p0 p1) p0 p1 p2)

noncomputable def T160 (p0 : S36) : Option Int := ((T137 p0.f0).bind fun x1 => (bif (!x1) then (some 5) else ((T137 p0.f1).bind fun x2 => (bif (!x2) then (some 5) else ((T126 p0.f2 (-1440) 1440).bind fun x3 => (bif x3 then (some 1) else ((T234 p0.f3).bind fun x4 => (some x4))))))))
theorem B160 (C : Callee) (h126 : ∀ (p0 : Int) (p1 : Int) (p2 : Int), C 126 [I p0, I p1, I p2] = (T126 p0 p1 p2).map B) (h137 : ∀ (p0 : ByteArray), C 137 [S p0] = (T137 p0).map B) (h234 : ∀ (p0 : (List ByteArray)), C 234 [LL S p0] = (T234 p0).map I) (p0 : S36) : runs Try.prog C (cfg.fn 160) (finFn Try.prog (cfg.fn 160).byval Try.f160) [] (execA Try.prog C (cfg.fn 160) (nr Try.f160 []) (frame0 [a36 p0] 19)) = (T160 p0).map I := by
  unfold T160
  refine gS 1 ?_
  refine gR 0 (rg Try.f160 0) ?_
  refine se (mkE [(1, .ba 8 0)] [(8, .box [S p0.f0, S p0.f1, I p0.f2, LL S p0.f3] false)] 19) ?_
  refine pN ?_
  refine pS ?_
  refine gS 3 ?_
  refine gS 0 ?_
  refine gR 1 (rg Try.f160 1) ?_
  refine sg 2 (mkE [(4, S p0.f0), (3, .ba 8 0), (1, .ba 8 0)] [(8, .box [S p0.f0, S p0.f1, I p0.f2, LL S p0.f3] false)] 19) ?_
  refine co 5 [] (h137 p0.f0) (fun x1 => ?_)
  refine sg 5 (mkE [(7, B (!x1)), (6, B (!x1)), (5, B x1), (4, S p0.f0), (3, .ba 8 0), (1, .ba 8 0)] [(8, .box [S p0.f0, S p0.f1, I p0.f2, LL S p0.f3] false)] 19) ?_
  refine sb 7 (!x1) ?_ ?_
  · refine se (mkE [(1, .ba 8 0), (12, B true)] [(8, .box [S p0.f0, S p0.f1, I p0.f2, LL S p0.f3] false)] 19) ?_
    refine pN ?_
    refine pS ?_
    refine gT (.tmp 12) ?_
    refine gS 0 ?_
    refine gR 2 (rg Try.f160 2) ?_
    refine se (mkE [(2, I 5)] [] 19) ?_
    refine pN ?_
    refine pS ?_
    refine gE ?_
    exact pL
  · refine sg 7 (mkE [(9, S p0.f1), (8, .ba 8 1), (7, B false), (7, B (!x1)), (6, B (!x1)), (5, B x1), (4, S p0.f0), (3, .ba 8 0), (1, .ba 8 0)] [(8, .box [S p0.f0, S p0.f1, I p0.f2, LL S p0.f3] false)] 19) ?_
    refine co 10 [] (h137 p0.f1) (fun x2 => ?_)
    refine se (mkE [(1, .ba 8 0), (12, B (!x2))] [(8, .box [S p0.f0, S p0.f1, I p0.f2, LL S p0.f3] false)] 19) ?_
    refine pN ?_
    refine pS ?_
    refine gC 12 (!x2) ?_ ?_
    · refine gS 0 ?_
      refine gR 2 (rg Try.f160 2) ?_
      refine se (mkE [(2, I 5)] [] 19) ?_
      refine pN ?_
      refine pS ?_
      refine gE ?_
      exact pL
    · refine gK ?_
      refine pN ?_
      refine pS ?_
      refine gS 5 ?_
      refine gS 0 ?_
      refine gR 3 (rg Try.f160 3) ?_
      refine sg 2 (mkE [(14, I p0.f2), (13, .ba 8 2), (1, .ba 8 0), (12, B (!x2))] [(8, .box [S p0.f0, S p0.f1, I p0.f2, LL S p0.f3] false)] 19) ?_
      refine co 15 [] (h126 p0.f2 (-1440) 1440) (fun x3 => ?_)
      refine se (mkE [(1, .ba 8 0), (15, B x3)] [(8, .box [S p0.f0, S p0.f1, I p0.f2, LL S p0.f3] false)] 19) ?_
      refine pN ?_
      refine pS ?_
      refine gC 15 x3 ?_ ?_
      · refine gS 0 ?_
        refine gR 4 (rg Try.f160 4) ?_
        refine se (mkE [(2, I 1)] [] 19) ?_
        refine pN ?_
        refine pS ?_
        refine gE ?_
        exact pL
      · refine gK ?_
        refine pN ?_
        refine pS ?_
        refine gS 0 ?_
        refine gR 5 (rg Try.f160 5) ?_
        refine sg 2 (mkE [(17, LL S p0.f3), (16, .ba 8 3), (1, .ba 8 0), (15, B x3)] [(8, .box [S p0.f0, S p0.f1, I p0.f2, LL S p0.f3] false)] 19) ?_
        refine co 18 [] (h234 p0.f3) (fun x4 => ?_)
        refine se (mkE [(2, I x4)] [] 19) ?_
        refine pN ?_
        refine pS ?_
        refine gE ?_
        exact pL
theorem F160 (m : Nat) (hm : 4 ≤ m) (p0 : S36) : callA Try.prog cfg m 160 [a36 p0] = (T160 p0).map I := by
  obtain ⟨q, rfl⟩ : ∃ q, m = q + 1 := ⟨m - 1, by omega⟩
  exact (callA_body (fn := Try.f160) (c := body_ Try.f160) q _ (by kernel_rfl) (by kernel_rfl) (by kernel_rfl)).trans (B160 _ (fun p0 p1 p2 => F126 q (by omega) p0 p1 p2) (fun p0 => F137 q (by omega) p0) (fun p0 => F234 q (by omega) p0) p0)

noncomputable def T270 (p0 : ByteArray) : Option Bool := (some (!eqS p0 p0))
theorem B270 (C : Callee) (p0 : ByteArray) : runs Try.prog C (cfg.fn 270) (finFn Try.prog (cfg.fn 270).byval Try.f270) [] (execA Try.prog C (cfg.fn 270) (nr Try.f270 []) (frame0 [S p0] 6)) = (T270 p0).map B := by
  unfold T270
  refine gS 1 ?_
  refine gR 0 (rg Try.f270 0) ?_
  refine se (mkE [(0, S p0)] [] 6) ?_
  refine pN ?_
  refine pS ?_
  refine gS 0 ?_
  refine gR 1 (rg Try.f270 1) ?_
  refine se (mkE [(2, B (!eqS p0 p0))] [] 6) ?_
  refine pN ?_
  refine pS ?_
  refine gE ?_
  exact pL
theorem F270 (m : Nat) (hm : 1 ≤ m) (p0 : ByteArray) : callA Try.prog cfg m 270 [S p0] = (T270 p0).map B := by
  obtain ⟨q, rfl⟩ : ∃ q, m = q + 1 := ⟨m - 1, by omega⟩
  exact (callA_body (fn := Try.f270) (c := body_ Try.f270) q _ (by kernel_rfl) (by kernel_rfl) (by kernel_rfl)).trans (B270 _ p0)

noncomputable def T266 (p0 : ByteArray) (p1 : ByteArray) : Option Bool := ((T270 p0).bind fun x1 => (bif x1 then ((T270 p1).bind fun x2 => (bif (!x2) then (some true) else (some (ltS p0 p1)))) else (some (ltS p0 p1))))
theorem B266 (C : Callee) (h270 : ∀ (p0 : ByteArray), C 270 [S p0] = (T270 p0).map B) (p0 : ByteArray) (p1 : ByteArray) : runs Try.prog C (cfg.fn 266) (finFn Try.prog (cfg.fn 266).byval Try.f266) [] (execA Try.prog C (cfg.fn 266) (nr Try.f266 []) (frame0 [S p0, S p1] 17)) = (T266 p0 p1).map B := by
  unfold T266
  refine gS 1 ?_
  refine gR 0 (rg Try.f266 0) ?_
  refine se (mkE [(0, S p0), (1, S p1)] [] 17) ?_
  refine pN ?_
  refine pS ?_
  refine gS 0 ?_
  refine gR 1 (rg Try.f266 1) ?_
  refine sg 1 (mkE [(5, S p0), (0, S p0), (1, S p1)] [] 17) ?_
  refine co 6 [] (h270 p0) (fun x1 => ?_)
  refine sg 3 (mkE [(7, B x1), (6, B x1), (5, S p0), (0, S p0), (1, S p1)] [] 17) ?_
  refine sb 7 x1 ?_ ?_
  · refine sg 4 (mkE [(8, S p1), (7, B true), (7, B x1), (6, B x1), (5, S p0), (0, S p0), (1, S p1)] [] 17) ?_
    refine co 9 [] (h270 p1) (fun x2 => ?_)
    refine sg 8 (mkE [(12, B (!x2)), (11, B (!x2)), (10, B (!x2)), (9, B x2), (8, S p1), (7, B true), (7, B x1), (6, B x1), (5, S p0), (0, S p0), (1, S p1)] [] 17) ?_
    refine sb 12 (!x2) ?_ ?_
    · refine se (mkE [(4, B true)] [] 17) ?_
      refine pN ?_
      refine pS ?_
      refine gE ?_
      exact pL
    · refine se (mkE [(4, B (ltS p0 p1))] [] 17) ?_
      refine pN ?_
      refine pS ?_
      refine gE ?_
      exact pL
  · refine se (mkE [(4, B (ltS p0 p1))] [] 17) ?_
    refine pN ?_
    refine pS ?_
    refine gE ?_
    exact pL
theorem F266 (m : Nat) (hm : 2 ≤ m) (p0 : ByteArray) (p1 : ByteArray) : callA Try.prog cfg m 266 [S p0, S p1] = (T266 p0 p1).map B := by
  obtain ⟨q, rfl⟩ : ∃ q, m = q + 1 := ⟨m - 1, by omega⟩
  exact (callA_body (fn := Try.f266) (c := body_ Try.f266) q _ (by kernel_rfl) (by kernel_rfl) (by kernel_rfl)).trans (B266 _ (fun p0 => F270 q (by omega) p0) p0 p1)

noncomputable def T267 (p0 : ByteArray) : Option Bool := (some (!eqS p0 p0))
theorem B267 (C : Callee) (p0 : ByteArray) : runs Try.prog C (cfg.fn 267) (finFn Try.prog (cfg.fn 267).byval Try.f267) [] (execA Try.prog C (cfg.fn 267) (nr Try.f267 []) (frame0 [S p0] 6)) = (T267 p0).map B := by
  unfold T267
  refine gS 1 ?_
  refine gR 0 (rg Try.f267 0) ?_
  refine se (mkE [(0, S p0)] [] 6) ?_
  refine pN ?_
  refine pS ?_
  refine gS 0 ?_
  refine gR 1 (rg Try.f267 1) ?_
  refine se (mkE [(2, B (!eqS p0 p0))] [] 6) ?_
  refine pN ?_
  refine pS ?_
  refine gE ?_
  exact pL
theorem F267 (m : Nat) (hm : 1 ≤ m) (p0 : ByteArray) : callA Try.prog cfg m 267 [S p0] = (T267 p0).map B := by
  obtain ⟨q, rfl⟩ : ∃ q, m = q + 1 := ⟨m - 1, by omega⟩
  exact (callA_body (fn := Try.f267) (c := body_ Try.f267) q _ (by kernel_rfl) (by kernel_rfl) (by kernel_rfl)).trans (B267 _ p0)

noncomputable def L227_3 (p0 : (List ByteArray)) (p1 : ByteArray) (z0 : (Int × Int)) : Option ((Int × Int) ⊕ (Int × Int × Bool)) := (bif (ltI z0.1 z0.2) then ((listAt p0 (cvI .i64 (shrI (cvI .u64 (addI .i64 z0.1 z0.2)) 1))).bind fun x1 => ((T266 x1 p1).bind fun x2 => (bif x2 then (some (.inl ((addI .i64 (cvI .i64 (shrI (cvI .u64 (addI .i64 z0.1 z0.2)) 1)) 1), z0.2))) else (some (.inl (z0.1, (cvI .i64 (shrI (cvI .u64 (addI .i64 z0.1 z0.2)) 1)))))))) else (some (.inr (z0.1, z0.2, (ltI z0.1 z0.2)))))
theorem L227_3_ok (C : Callee) (h266 : ∀ (p0 : ByteArray) (p1 : ByteArray), C 266 [S p0, S p1] = (T266 p0 p1).map B) (p0 : (List ByteArray)) (p1 : ByteArray) (z0 : (Int × Int)) : runs Try.prog C (cfg.fn 227) (finLoop ((cfg.fn 227).keep 3) ((cfg.fn 227).al 3)) [] (execA Try.prog C (cfg.fn 227) (nr Try.f227 [false, false, false, true, true, true]) ((fun z0 : (Int × Int) => (mkE [(0, LL S p0), (1, S p1), (6, I (lenL p0)), (7, I z0.1), (8, I z0.2)] [] 54)) z0)) = (L227_3 p0 p1 z0).map (Sum.elim (fun z => .inl ((fun z0 : (Int × Int) => (mkE [(0, LL S p0), (1, S p1), (6, I (lenL p0)), (7, I z0.1), (8, I z0.2)] [] 54)) z)) (fun x => .inr ((fun (x : (Int × Int × Bool)) => (.exit 0, (mkE [(0, LL S p0), (1, S p1), (6, I (lenL p0)), (7, I x.1), (8, I x.2.1), (15, B x.2.2)] [] 54))) x))) := by
  unfold L227_3
  refine gS 4 ?_
  refine gS 0 ?_
  refine gR 3 (rg Try.f227 3) ?_
  refine se (mkE [(0, LL S p0), (1, S p1), (6, I (lenL p0)), (7, I z0.1), (8, I z0.2), (15, B (ltI z0.1 z0.2))] [] 54) ?_
  refine pN ?_
  refine pS ?_
  refine gC 15 (ltI z0.1 z0.2) ?_ ?_
  · refine gK ?_
    refine pN ?_
    refine pS ?_
    refine gB 1 ?_
    refine gS 5 ?_
    refine gR 4 (rg Try.f227 4) ?_
    refine se (mkE [(0, LL S p0), (1, S p1), (6, I (lenL p0)), (7, I z0.1), (8, I z0.2), (9, I (cvI .i64 (shrI (cvI .u64 (addI .i64 z0.1 z0.2)) 1)))] [] 54) ?_
    refine pN ?_
    refine pS ?_
    refine gS 0 ?_
    refine gR 5 (rg Try.f227 5) ?_
    refine sg 2 (mkE [(23, I (cvI .i64 (shrI (cvI .u64 (addI .i64 z0.1 z0.2)) 1))), (22, LL S p0), (0, LL S p0), (1, S p1), (6, I (lenL p0)), (7, I z0.1), (8, I z0.2), (9, I (cvI .i64 (shrI (cvI .u64 (addI .i64 z0.1 z0.2)) 1)))] [] 54) ?_
    refine vo 24 (addrE 35 9 1 S .i64 p0 (cvI .i64 (shrI (cvI .u64 (addI .i64 z0.1 z0.2)) 1))) (fun x1 => ?_)
    refine sg 5 (mkE [(26, S p1), (25, S x1), (24, .ia [S x1] 0), (23, I (cvI .i64 (shrI (cvI .u64 (addI .i64 z0.1 z0.2)) 1))), (22, LL S p0), (0, LL S p0), (1, S p1), (6, I (lenL p0)), (7, I z0.1), (8, I z0.2), (9, I (cvI .i64 (shrI (cvI .u64 (addI .i64 z0.1 z0.2)) 1)))] [] 54) ?_
    refine co 27 [] (h266 x1 p1) (fun x2 => ?_)
    refine se (mkE [(0, LL S p0), (1, S p1), (6, I (lenL p0)), (7, I z0.1), (8, I z0.2), (9, I (cvI .i64 (shrI (cvI .u64 (addI .i64 z0.1 z0.2)) 1))), (27, B x2)] [] 54) ?_
    refine pN ?_
    refine pS ?_
    refine gC 27 x2 ?_ ?_
    · refine gR 6 (rg Try.f227 6) ?_
      refine se (mkE [(0, LL S p0), (1, S p1), (6, I (lenL p0)), (7, I (addI .i64 (cvI .i64 (shrI (cvI .u64 (addI .i64 z0.1 z0.2)) 1)) 1)), (8, I z0.2)] [] 54) ?_
      refine pB ?_
      exact pL
    · refine gR 7 (rg Try.f227 7) ?_
      refine se (mkE [(0, LL S p0), (1, S p1), (6, I (lenL p0)), (7, I z0.1), (8, I (cvI .i64 (shrI (cvI .u64 (addI .i64 z0.1 z0.2)) 1)))] [] 54) ?_
      refine pB ?_
      exact pL
  · refine gX 0 ?_
    exact pL
noncomputable def T227 (p0 : (List ByteArray)) (p1 : ByteArray) : Option (Int × Bool) := ((iter (L227_3 p0 p1) (0, (lenL p0))).bind fun y3 => (bif (ltI y3.1 (lenL p0)) then ((listAt p0 y3.1).bind fun x4 => (bif (eqS x4 p1) then (some (y3.1, true)) else ((listAt p0 y3.1).bind fun x5 => ((T267 x5).bind fun x6 => (bif x6 then ((T267 p1).bind fun x7 => (some (y3.1, x7))) else (some (y3.1, false))))))) else (some (y3.1, false))))
theorem B227 (C : Callee) (h266 : ∀ (p0 : ByteArray) (p1 : ByteArray), C 266 [S p0, S p1] = (T266 p0 p1).map B) (h267 : ∀ (p0 : ByteArray), C 267 [S p0] = (T267 p0).map B) (p0 : (List ByteArray)) (p1 : ByteArray) : runs Try.prog C (cfg.fn 227) (finFn Try.prog (cfg.fn 227).byval Try.f227) [] (execA Try.prog C (cfg.fn 227) (nr Try.f227 []) (frame0 [LL S p0, S p1] 54)) = (T227 p0 p1).map (fun r => AV.tup [I r.1, B r.2]) := by
  unfold T227
  refine gS 1 ?_
  refine gR 0 (rg Try.f227 0) ?_
  refine se (mkE [(0, LL S p0), (1, S p1)] [] 54) ?_
  refine pN ?_
  refine pS ?_
  refine gS 2 ?_
  refine gR 1 (rg Try.f227 1) ?_
  refine sg 1 (mkE [(10, LL S p0), (0, LL S p0), (1, S p1)] [] 54) ?_
  refine eo 11 (I (lenL p0)) (lenE 35 S p0) ?_
  refine se (mkE [(0, LL S p0), (1, S p1), (6, I (lenL p0))] [] 54) ?_
  refine pN ?_
  refine pS ?_
  refine gS 3 ?_
  refine gR 2 (rg Try.f227 2) ?_
  refine se (mkE [(0, LL S p0), (1, S p1), (6, I (lenL p0)), (7, I 0), (8, I (lenL p0))] [] 54) ?_
  refine pN ?_
  refine pS ?_
  refine gS 8 ?_
  refine gB 0 ?_
  refine lo [(0, none), (1, none), (6, none), (7, none), (8, none)] [] (L227_3 p0 p1) (fun z0 : (Int × Int) => (mkE [(0, LL S p0), (1, S p1), (6, I (lenL p0)), (7, I z0.1), (8, I z0.2)] [] 54)) (fun (x : (Int × Int × Bool)) => (.exit 0, (mkE [(0, LL S p0), (1, S p1), (6, I (lenL p0)), (7, I x.1), (8, I x.2.1), (15, B x.2.2)] [] 54))) (0, (lenL p0)) (fun z => L227_3_ok C h266 p0 p1 z) ?_
  intro y3
  refine pH ?_
  refine pN ?_
  refine pS ?_
  refine gS 0 ?_
  refine gR 8 (rg Try.f227 8) ?_
  refine sg 5 (mkE [(35, B (ltI y3.1 (lenL p0))), (34, B (ltI y3.1 (lenL p0))), (33, I (lenL p0)), (32, I y3.1), (31, I y3.1), (0, LL S p0), (1, S p1), (6, I (lenL p0)), (7, I y3.1), (8, I y3.2.1), (15, B y3.2.2)] [] 54) ?_
  refine sb 35 (ltI y3.1 (lenL p0)) ?_ ?_
  · refine sg 7 (mkE [(37, I y3.1), (36, LL S p0), (35, B true), (35, B (ltI y3.1 (lenL p0))), (34, B (ltI y3.1 (lenL p0))), (33, I (lenL p0)), (32, I y3.1), (31, I y3.1), (0, LL S p0), (1, S p1), (6, I (lenL p0)), (7, I y3.1), (8, I y3.2.1), (15, B y3.2.2)] [] 54) ?_
    refine vo 38 (addrE 35 9 1 S .i64 p0 y3.1) (fun x4 => ?_)
    refine sg 12 (mkE [(42, B (eqS x4 p1)), (41, B (eqS x4 p1)), (40, S p1), (39, S x4), (38, .ia [S x4] 0), (37, I y3.1), (36, LL S p0), (35, B true), (35, B (ltI y3.1 (lenL p0))), (34, B (ltI y3.1 (lenL p0))), (33, I (lenL p0)), (32, I y3.1), (31, I y3.1), (0, LL S p0), (1, S p1), (6, I (lenL p0)), (7, I y3.1), (8, I y3.2.1), (15, B y3.2.2)] [] 54) ?_
    refine sb 42 (eqS x4 p1) ?_ ?_
    · refine se (mkE [(4, I y3.1), (5, B true)] [] 54) ?_
      refine pN ?_
      refine pS ?_
      refine gE ?_
      exact pL
    · refine sg 14 (mkE [(44, I y3.1), (43, LL S p0), (42, B false), (42, B (eqS x4 p1)), (41, B (eqS x4 p1)), (40, S p1), (39, S x4), (38, .ia [S x4] 0), (37, I y3.1), (36, LL S p0), (35, B true), (35, B (ltI y3.1 (lenL p0))), (34, B (ltI y3.1 (lenL p0))), (33, I (lenL p0)), (32, I y3.1), (31, I y3.1), (0, LL S p0), (1, S p1), (6, I (lenL p0)), (7, I y3.1), (8, I y3.2.1), (15, B y3.2.2)] [] 54) ?_
      refine vo 45 (addrE 35 9 1 S .i64 p0 y3.1) (fun x5 => ?_)
      refine sg 16 (mkE [(46, S x5), (45, .ia [S x5] 0), (44, I y3.1), (43, LL S p0), (42, B false), (42, B (eqS x4 p1)), (41, B (eqS x4 p1)), (40, S p1), (39, S x4), (38, .ia [S x4] 0), (37, I y3.1), (36, LL S p0), (35, B true), (35, B (ltI y3.1 (lenL p0))), (34, B (ltI y3.1 (lenL p0))), (33, I (lenL p0)), (32, I y3.1), (31, I y3.1), (0, LL S p0), (1, S p1), (6, I (lenL p0)), (7, I y3.1), (8, I y3.2.1), (15, B y3.2.2)] [] 54) ?_
      refine co 47 [] (h267 x5) (fun x6 => ?_)
      refine sg 18 (mkE [(48, B x6), (47, B x6), (46, S x5), (45, .ia [S x5] 0), (44, I y3.1), (43, LL S p0), (42, B false), (42, B (eqS x4 p1)), (41, B (eqS x4 p1)), (40, S p1), (39, S x4), (38, .ia [S x4] 0), (37, I y3.1), (36, LL S p0), (35, B true), (35, B (ltI y3.1 (lenL p0))), (34, B (ltI y3.1 (lenL p0))), (33, I (lenL p0)), (32, I y3.1), (31, I y3.1), (0, LL S p0), (1, S p1), (6, I (lenL p0)), (7, I y3.1), (8, I y3.2.1), (15, B y3.2.2)] [] 54) ?_
      refine sb 48 x6 ?_ ?_
      · refine sg 19 (mkE [(49, S p1), (48, B true), (48, B x6), (47, B x6), (46, S x5), (45, .ia [S x5] 0), (44, I y3.1), (43, LL S p0), (42, B false), (42, B (eqS x4 p1)), (41, B (eqS x4 p1)), (40, S p1), (39, S x4), (38, .ia [S x4] 0), (37, I y3.1), (36, LL S p0), (35, B true), (35, B (ltI y3.1 (lenL p0))), (34, B (ltI y3.1 (lenL p0))), (33, I (lenL p0)), (32, I y3.1), (31, I y3.1), (0, LL S p0), (1, S p1), (6, I (lenL p0)), (7, I y3.1), (8, I y3.2.1), (15, B y3.2.2)] [] 54) ?_
        refine co 50 [] (h267 p1) (fun x7 => ?_)
        refine se (mkE [(4, I y3.1), (5, B x7)] [] 54) ?_
        refine pN ?_
        refine pS ?_
        refine gE ?_
        exact pL
      · refine se (mkE [(4, I y3.1), (5, B false)] [] 54) ?_
        refine pN ?_
        refine pS ?_
        refine gE ?_
        exact pL
  · refine se (mkE [(4, I y3.1), (5, B false)] [] 54) ?_
    refine pN ?_
    refine pS ?_
    refine gE ?_
    exact pL
theorem F227 (m : Nat) (hm : 3 ≤ m) (p0 : (List ByteArray)) (p1 : ByteArray) : callA Try.prog cfg m 227 [LL S p0, S p1] = (T227 p0 p1).map (fun r => AV.tup [I r.1, B r.2]) := by
  obtain ⟨q, rfl⟩ : ∃ q, m = q + 1 := ⟨m - 1, by omega⟩
  exact (callA_body (fn := Try.f227) (c := body_ Try.f227) q _ (by kernel_rfl) (by kernel_rfl) (by kernel_rfl)).trans (B227 _ (fun p0 p1 => F266 q (by omega) p0 p1) (fun p0 => F267 q (by omega) p0) p0 p1)

noncomputable def L161_2 (p0 : S105) (p1 : S36) (z0 : Int) : Option (Int ⊕ ((Int × Bool) ⊕ Unit)) := (bif (ltI z0 (lenL p0.f11)) then ((listAt p0.f11 z0).bind fun x1 => ((T227 p1.f3 x1).bind fun x2 => (bif (!x2.2) then (some (.inr (.inr ()))) else (some (.inl (addI .i64 z0 1)))))) else (some (.inr (.inl (z0, (ltI z0 (lenL p0.f11)))))))
theorem L161_2_ok (C : Callee) (h227 : ∀ (p0 : (List ByteArray)) (p1 : ByteArray), C 227 [LL S p0, S p1] = (T227 p0 p1).map (fun r => AV.tup [I r.1, B r.2])) (p0 : S105) (p1 : S36) (z0 : Int) : runs Try.prog C (cfg.fn 161) (finLoop ((cfg.fn 161).keep 2) ((cfg.fn 161).al 2)) [] (execA Try.prog C (cfg.fn 161) (nr Try.f161 [false, false, true, false, true]) ((fun z0 : Int => (mkE [(3, .ba 24 0), (10, LL S p0.f11), (11, I (lenL p0.f11)), (12, I z0)] [(24, .box [S p1.f0, S p1.f1, I p1.f2, LL S p1.f3] false)] 26)) z0)) = (L161_2 p0 p1 z0).map (Sum.elim (fun z => .inl ((fun z0 : Int => (mkE [(3, .ba 24 0), (10, LL S p0.f11), (11, I (lenL p0.f11)), (12, I z0)] [(24, .box [S p1.f0, S p1.f1, I p1.f2, LL S p1.f3] false)] 26)) z)) (fun x => .inr ((Sum.elim (fun (x : (Int × Bool)) => (.exit 0, (mkE [(3, .ba 24 0), (10, LL S p0.f11), (11, I (lenL p0.f11)), (12, I x.1), (13, B x.2)] [(24, .box [S p1.f0, S p1.f1, I p1.f2, LL S p1.f3] false)] 26))) (fun (x : Unit) => (.ret, (mkE [(4, B false)] [] 26)))) x))) := by
  unfold L161_2
  refine gS 0 ?_
  refine gR 2 (rg Try.f161 2) ?_
  refine se (mkE [(3, .ba 24 0), (10, LL S p0.f11), (11, I (lenL p0.f11)), (12, I z0), (13, B (ltI z0 (lenL p0.f11)))] [(24, .box [S p1.f0, S p1.f1, I p1.f2, LL S p1.f3] false)] 26) ?_
  refine pN ?_
  refine pS ?_
  refine gS 3 ?_
  refine gC 13 (ltI z0 (lenL p0.f11)) ?_ ?_
  · refine gK ?_
    refine pN ?_
    refine pS ?_
    refine gS 7 ?_
    refine gB 1 ?_
    refine gS 4 ?_
    refine gR 3 (rg Try.f161 3) ?_
    refine vo 14 (addrE 35 9 1 S .i64 p0.f11 z0) (fun x1 => ?_)
    refine se (mkE [(3, .ba 24 0), (6, S x1), (10, LL S p0.f11), (11, I (lenL p0.f11)), (12, I z0)] [(24, .box [S p1.f0, S p1.f1, I p1.f2, LL S p1.f3] false)] 26) ?_
    refine pN ?_
    refine pS ?_
    refine gS 5 ?_
    refine gR 4 (rg Try.f161 4) ?_
    refine sg 3 (mkE [(19, S x1), (18, LL S p1.f3), (17, .ba 24 3), (3, .ba 24 0), (6, S x1), (10, LL S p0.f11), (11, I (lenL p0.f11)), (12, I z0)] [(24, .box [S p1.f0, S p1.f1, I p1.f2, LL S p1.f3] false)] 26) ?_
    refine co 20 [] (h227 p1.f3 x1) (fun x2 => ?_)
    refine se (mkE [(3, .ba 24 0), (8, B x2.2), (10, LL S p0.f11), (11, I (lenL p0.f11)), (12, I z0)] [(24, .box [S p1.f0, S p1.f1, I p1.f2, LL S p1.f3] false)] 26) ?_
    refine pN ?_
    refine pS ?_
    refine gS 0 ?_
    refine gR 5 (rg Try.f161 5) ?_
    refine se (mkE [(3, .ba 24 0), (10, LL S p0.f11), (11, I (lenL p0.f11)), (12, I z0), (24, B (!x2.2))] [(24, .box [S p1.f0, S p1.f1, I p1.f2, LL S p1.f3] false)] 26) ?_
    refine pN ?_
    refine pS ?_
    refine gC 24 (!x2.2) ?_ ?_
    · refine gS 0 ?_
      refine gR 6 (rg Try.f161 6) ?_
      refine se (mkE [(4, B false)] [] 26) ?_
      refine pN ?_
      refine pS ?_
      refine gE ?_
      exact pL
    · refine gK ?_
      refine pB ?_
      refine pN ?_
      refine pS ?_
      refine gR 7 (rg Try.f161 7) ?_
      refine se (mkE [(3, .ba 24 0), (10, LL S p0.f11), (11, I (lenL p0.f11)), (12, I (addI .i64 z0 1))] [(24, .box [S p1.f0, S p1.f1, I p1.f2, LL S p1.f3] false)] 26) ?_
      exact pL
  · refine gX 0 ?_
    exact pL
noncomputable def T161 (p0 : S105) (p1 : S36) : Option Bool := ((iter (L161_2 p0 p1) 0).bind fun y3 => (Sum.elim (fun y3a => (some true)) (fun y3b => (some false)) y3))
theorem B161 (C : Callee) (h227 : ∀ (p0 : (List ByteArray)) (p1 : ByteArray), C 227 [LL S p0, S p1] = (T227 p0 p1).map (fun r => AV.tup [I r.1, B r.2])) (p0 : S105) (p1 : S36) : runs Try.prog C (cfg.fn 161) (finFn Try.prog (cfg.fn 161).byval Try.f161) [] (execA Try.prog C (cfg.fn 161) (nr Try.f161 []) (frame0 [a105 p0, a36 p1] 26)) = (T161 p0 p1).map B := by
  unfold T161
  refine gS 1 ?_
  refine gR 0 (rg Try.f161 0) ?_
  refine se (mkE [(2, .ba 16 0), (3, .ba 24 0)] [(16, .box [S p0.f0, S p0.f1, I p0.f2, I p0.f3, I p0.f4, I p0.f5, I p0.f6, LL I p0.f7, I p0.f8, I p0.f9, I p0.f10, LL S p0.f11, B p0.f12] false), (24, .box [S p1.f0, S p1.f1, I p1.f2, LL S p1.f3] false)] 26) ?_
  refine pN ?_
  refine pS ?_
  refine gS 8 ?_
  refine gS 2 ?_
  refine gR 1 (rg Try.f161 1) ?_
  refine sg 2 (mkE [(10, LL S p0.f11), (9, .ba 16 11), (2, .ba 16 0), (3, .ba 24 0)] [(16, .box [S p0.f0, S p0.f1, I p0.f2, I p0.f3, I p0.f4, I p0.f5, I p0.f6, LL I p0.f7, I p0.f8, I p0.f9, I p0.f10, LL S p0.f11, B p0.f12] false), (24, .box [S p1.f0, S p1.f1, I p1.f2, LL S p1.f3] false)] 26) ?_
  refine eo 11 (I (lenL p0.f11)) (lenE 35 S p0.f11) ?_
  refine se (mkE [(3, .ba 24 0), (10, LL S p0.f11), (11, I (lenL p0.f11)), (12, I 0)] [(24, .box [S p1.f0, S p1.f1, I p1.f2, LL S p1.f3] false)] 26) ?_
  refine pN ?_
  refine pS ?_
  refine gB 0 ?_
  refine lo [(3, none), (10, none), (11, none), (12, none)] [] (L161_2 p0 p1) (fun z0 : Int => (mkE [(3, .ba 24 0), (10, LL S p0.f11), (11, I (lenL p0.f11)), (12, I z0)] [(24, .box [S p1.f0, S p1.f1, I p1.f2, LL S p1.f3] false)] 26)) (Sum.elim (fun (x : (Int × Bool)) => (.exit 0, (mkE [(3, .ba 24 0), (10, LL S p0.f11), (11, I (lenL p0.f11)), (12, I x.1), (13, B x.2)] [(24, .box [S p1.f0, S p1.f1, I p1.f2, LL S p1.f3] false)] 26))) (fun (x : Unit) => (.ret, (mkE [(4, B false)] [] 26)))) 0 (fun z => L161_2_ok C h227 p0 p1 z) ?_
  intro y3
  refine ss y3 (Z := (Sum.elim (fun (x : (Int × Bool)) => (.exit 0, (mkE [(3, .ba 24 0), (10, LL S p0.f11), (11, I (lenL p0.f11)), (12, I x.1), (13, B x.2)] [(24, .box [S p1.f0, S p1.f1, I p1.f2, LL S p1.f3] false)] 26))) (fun (x : Unit) => (.ret, (mkE [(4, B false)] [] 26))))) (fun y3a => ?_) (fun y3b => ?_)
  · refine pH ?_
    refine pN ?_
    refine pS ?_
    refine gS 0 ?_
    refine gR 8 (rg Try.f161 8) ?_
    refine se (mkE [(4, B true)] [] 26) ?_
    refine pN ?_
    refine pS ?_
    refine gE ?_
    exact pL
  · exact pL
theorem F161 (m : Nat) (hm : 4 ≤ m) (p0 : S105) (p1 : S36) : callA Try.prog cfg m 161 [a105 p0, a36 p1] = (T161 p0 p1).map B := by
  obtain ⟨q, rfl⟩ : ∃ q, m = q + 1 := ⟨m - 1, by omega⟩
  exact (callA_body (fn := Try.f161) (c := body_ Try.f161) q _ (by kernel_rfl) (by kernel_rfl) (by kernel_rfl)).trans (B161 _ (fun p0 p1 => F227 q (by omega) p0 p1) p0 p1)

noncomputable def T73 (p0 : S105) (p1 : S36) : Option (Bool × Int) := ((T156 ([p0] : List S105)).bind fun x1 => (bif (neI x1 0) then (some (false, x1)) else ((T160 p1).bind fun x2 => (bif (neI x2 0) then (some (false, x2)) else ((T161 p0 p1).bind fun x3 => (some (x3, 0)))))))
theorem B73 (C : Callee) (h156 : ∀ (p0 : (List S105)), C 156 [LL a105 p0] = (T156 p0).map I) (h160 : ∀ (p0 : S36), C 160 [a36 p0] = (T160 p0).map I) (h161 : ∀ (p0 : S105) (p1 : S36), C 161 [a105 p0, a36 p1] = (T161 p0 p1).map B) (p0 : S105) (p1 : S36) : runs Try.prog C (cfg.fn 73) (finFn Try.prog (cfg.fn 73).byval Try.f73) [] (execA Try.prog C (cfg.fn 73) (nr Try.f73 []) (frame0 [a105 p0, a36 p1] 22)) = (T73 p0 p1).map (fun r => AV.tup [B r.1, I r.2]) := by
  unfold T73
  refine gS 1 ?_
  refine gR 0 (rg Try.f73 0) ?_
  refine se (mkE [(2, .ba 16 0), (3, .ba 24 0)] [(16, .box [S p0.f0, S p0.f1, I p0.f2, I p0.f3, I p0.f4, I p0.f5, I p0.f6, LL I p0.f7, I p0.f8, I p0.f9, I p0.f10, LL S p0.f11, B p0.f12] false), (24, .box [S p1.f0, S p1.f1, I p1.f2, LL S p1.f3] false)] 22) ?_
  refine pN ?_
  refine pS ?_
  refine gS 4 ?_
  refine gS 2 ?_
  refine gR 1 (rg Try.f73 1) ?_
  refine sg 2 (mkE [(9, .own 72 0), (8, a105 p0), (2, .ba 16 0), (3, .ba 24 0)] [(72, RR 106 13 a105 ([p0] : List S105) 0 false), (16, .box [S p0.f0, S p0.f1, I p0.f2, I p0.f3, I p0.f4, I p0.f5, I p0.f6, LL I p0.f7, I p0.f8, I p0.f9, I p0.f10, LL S p0.f11, B p0.f12] false), (24, .box [S p1.f0, S p1.f1, I p1.f2, LL S p1.f3] false)] 22) ?_
  refine co 10 [72] (h156 ([p0] : List S105)) (fun x1 => ?_)
  refine se (mkE [(2, .ba 16 0), (3, .ba 24 0), (6, I x1)] [(16, .box [S p0.f0, S p0.f1, I p0.f2, I p0.f3, I p0.f4, I p0.f5, I p0.f6, LL I p0.f7, I p0.f8, I p0.f9, I p0.f10, LL S p0.f11, B p0.f12] false), (24, .box [S p1.f0, S p1.f1, I p1.f2, LL S p1.f3] false)] 22) ?_
  refine pN ?_
  refine pS ?_
  refine gS 0 ?_
  refine gR 2 (rg Try.f73 2) ?_
  refine se (mkE [(2, .ba 16 0), (3, .ba 24 0), (6, I x1), (12, B (neI x1 0))] [(16, .box [S p0.f0, S p0.f1, I p0.f2, I p0.f3, I p0.f4, I p0.f5, I p0.f6, LL I p0.f7, I p0.f8, I p0.f9, I p0.f10, LL S p0.f11, B p0.f12] false), (24, .box [S p1.f0, S p1.f1, I p1.f2, LL S p1.f3] false)] 22) ?_
  refine pN ?_
  refine pS ?_
  refine gC 12 (neI x1 0) ?_ ?_
  · refine gS 0 ?_
    refine gR 3 (rg Try.f73 3) ?_
    refine se (mkE [(4, B false), (5, I x1)] [] 22) ?_
    refine pN ?_
    refine pS ?_
    refine gE ?_
    exact pL
  · refine gK ?_
    refine pN ?_
    refine pS ?_
    refine gS 7 ?_
    refine gS 5 ?_
    refine gR 4 (rg Try.f73 4) ?_
    refine sg 1 (mkE [(14, a36 p1), (2, .ba 16 0), (3, .ba 24 0), (6, I x1), (12, B (neI x1 0))] [(16, .box [S p0.f0, S p0.f1, I p0.f2, I p0.f3, I p0.f4, I p0.f5, I p0.f6, LL I p0.f7, I p0.f8, I p0.f9, I p0.f10, LL S p0.f11, B p0.f12] false), (24, .box [S p1.f0, S p1.f1, I p1.f2, LL S p1.f3] false)] 22) ?_
    refine co 15 [] (h160 p1) (fun x2 => ?_)
    refine se (mkE [(2, .ba 16 0), (3, .ba 24 0), (7, I x2)] [(16, .box [S p0.f0, S p0.f1, I p0.f2, I p0.f3, I p0.f4, I p0.f5, I p0.f6, LL I p0.f7, I p0.f8, I p0.f9, I p0.f10, LL S p0.f11, B p0.f12] false), (24, .box [S p1.f0, S p1.f1, I p1.f2, LL S p1.f3] false)] 22) ?_
    refine pN ?_
    refine pS ?_
    refine gS 0 ?_
    refine gR 5 (rg Try.f73 5) ?_
    refine se (mkE [(2, .ba 16 0), (3, .ba 24 0), (7, I x2), (17, B (neI x2 0))] [(16, .box [S p0.f0, S p0.f1, I p0.f2, I p0.f3, I p0.f4, I p0.f5, I p0.f6, LL I p0.f7, I p0.f8, I p0.f9, I p0.f10, LL S p0.f11, B p0.f12] false), (24, .box [S p1.f0, S p1.f1, I p1.f2, LL S p1.f3] false)] 22) ?_
    refine pN ?_
    refine pS ?_
    refine gC 17 (neI x2 0) ?_ ?_
    · refine gS 0 ?_
      refine gR 6 (rg Try.f73 6) ?_
      refine se (mkE [(4, B false), (5, I x2)] [] 22) ?_
      refine pN ?_
      refine pS ?_
      refine gE ?_
      exact pL
    · refine gK ?_
      refine pN ?_
      refine pS ?_
      refine gS 0 ?_
      refine gR 7 (rg Try.f73 7) ?_
      refine sg 2 (mkE [(20, a36 p1), (19, a105 p0), (2, .ba 16 0), (3, .ba 24 0), (7, I x2), (17, B (neI x2 0))] [(16, .box [S p0.f0, S p0.f1, I p0.f2, I p0.f3, I p0.f4, I p0.f5, I p0.f6, LL I p0.f7, I p0.f8, I p0.f9, I p0.f10, LL S p0.f11, B p0.f12] false), (24, .box [S p1.f0, S p1.f1, I p1.f2, LL S p1.f3] false)] 22) ?_
      refine co 21 [] (h161 p0 p1) (fun x3 => ?_)
      refine se (mkE [(4, B x3), (5, I 0)] [] 22) ?_
      refine pN ?_
      refine pS ?_
      refine gE ?_
      exact pL
theorem F73 (m : Nat) (hm : 6 ≤ m) (p0 : S105) (p1 : S36) : callA Try.prog cfg m 73 [a105 p0, a36 p1] = (T73 p0 p1).map (fun r => AV.tup [B r.1, I r.2]) := by
  obtain ⟨q, rfl⟩ : ∃ q, m = q + 1 := ⟨m - 1, by omega⟩
  exact (callA_body (fn := Try.f73) (c := body_ Try.f73) q _ (by kernel_rfl) (by kernel_rfl) (by kernel_rfl)).trans (B73 _ (fun p0 => F156 q (by omega) p0) (fun p0 => F160 q (by omega) p0) (fun p0 p1 => F161 q (by omega) p0 p1) p0 p1)

noncomputable def T132 (p0 : Int) (p1 : Int) (p2 : Int) : Option Bool := (bif (leI p1 p0) then (some (leI p0 p2)) else (some false))
theorem B132 (C : Callee) (p0 : Int) (p1 : Int) (p2 : Int) : runs Try.prog C (cfg.fn 132) (finFn Try.prog (cfg.fn 132).byval Try.f132) [] (execA Try.prog C (cfg.fn 132) (nr Try.f132 []) (frame0 [I p0, I p1, I p2] 15)) = (T132 p0 p1 p2).map B := by
  unfold T132
  refine gS 1 ?_
  refine gR 0 (rg Try.f132 0) ?_
  refine se (mkE [(0, I p0), (1, I p1), (2, I p2)] [] 15) ?_
  refine pN ?_
  refine pS ?_
  refine gS 0 ?_
  refine gR 1 (rg Try.f132 1) ?_
  refine sg 4 (mkE [(10, B (leI p1 p0)), (9, B (leI p1 p0)), (8, I p0), (7, I p1), (0, I p0), (1, I p1), (2, I p2)] [] 15) ?_
  refine sb 10 (leI p1 p0) ?_ ?_
  · refine se (mkE [(6, B (leI p0 p2))] [] 15) ?_
    refine pN ?_
    refine pS ?_
    refine gE ?_
    exact pL
  · refine se (mkE [(6, B false)] [] 15) ?_
    refine pN ?_
    refine pS ?_
    refine gE ?_
    exact pL
theorem F132 (m : Nat) (hm : 1 ≤ m) (p0 : Int) (p1 : Int) (p2 : Int) : callA Try.prog cfg m 132 [I p0, I p1, I p2] = (T132 p0 p1 p2).map B := by
  obtain ⟨q, rfl⟩ : ∃ q, m = q + 1 := ⟨m - 1, by omega⟩
  exact (callA_body (fn := Try.f132) (c := body_ Try.f132) q _ (by kernel_rfl) (by kernel_rfl) (by kernel_rfl)).trans (B132 _ p0 p1 p2)

theorem F264 (m : Nat) (hm : 1 ≤ m) (p0 : ByteArray) (p1 : Int) : callA Try.prog cfg m 264 [S p0, U p1] = (some (idxB p0 p1)).map I := by
  obtain ⟨q, rfl⟩ : ∃ q, m = q + 1 := ⟨m - 1, by omega⟩
  exact (callA_leaf (L := leafIdx) _ _ (by kernel_rfl)).trans (rfl)

noncomputable def T222 (p0 : ByteArray) (p1 : Int) : Option Int := ((some (idxB p0 p1)).bind fun x1 => (some x1))
theorem B222 (C : Callee) (h264 : ∀ (p0 : ByteArray) (p1 : Int), C 264 [S p0, U p1] = (some (idxB p0 p1)).map I) (p0 : ByteArray) (p1 : Int) : runs Try.prog C (cfg.fn 222) (finFn Try.prog (cfg.fn 222).byval Try.f222) [] (execA Try.prog C (cfg.fn 222) (nr Try.f222 []) (frame0 [S p0, U p1] 8)) = (T222 p0 p1).map I := by
  unfold T222
  refine gS 1 ?_
  refine gR 0 (rg Try.f222 0) ?_
  refine se (mkE [(0, S p0), (1, U p1)] [] 8) ?_
  refine pN ?_
  refine pS ?_
  refine gS 0 ?_
  refine gR 1 (rg Try.f222 1) ?_
  refine sg 2 (mkE [(6, U p1), (5, S p0), (0, S p0), (1, U p1)] [] 8) ?_
  refine co 7 [] (h264 p0 p1) (fun x1 => ?_)
  refine se (mkE [(4, I x1)] [] 8) ?_
  refine pN ?_
  refine pS ?_
  refine gE ?_
  exact pL
theorem F222 (m : Nat) (hm : 2 ≤ m) (p0 : ByteArray) (p1 : Int) : callA Try.prog cfg m 222 [S p0, U p1] = (T222 p0 p1).map I := by
  obtain ⟨q, rfl⟩ : ∃ q, m = q + 1 := ⟨m - 1, by omega⟩
  exact (callA_body (fn := Try.f222) (c := body_ Try.f222) q _ (by kernel_rfl) (by kernel_rfl) (by kernel_rfl)).trans (B222 _ (fun p0 p1 => F264 q (by omega) p0 p1) p0 p1)

noncomputable def L143_2 (p0 : ByteArray) (p1 : ByteArray) (z0 : Int) : Option (Int ⊕ ((Int × Bool) ⊕ Unit)) := (bif (ltI z0 (lenS p0)) then ((byteAt p0 z0).bind fun x1 => ((T222 p1 x1).bind fun x2 => (bif (ltI x2 0) then (some (.inr (.inr ()))) else (some (.inl (addI .i64 z0 1)))))) else (some (.inr (.inl (z0, (ltI z0 (lenS p0)))))))
theorem L143_2_ok (C : Callee) (h222 : ∀ (p0 : ByteArray) (p1 : Int), C 222 [S p0, U p1] = (T222 p0 p1).map I) (p0 : ByteArray) (p1 : ByteArray) (z0 : Int) : runs Try.prog C (cfg.fn 143) (finLoop ((cfg.fn 143).keep 2) ((cfg.fn 143).al 2)) [] (execA Try.prog C (cfg.fn 143) (nr Try.f143 [false, false, true, false, true]) ((fun z0 : Int => (mkE [(0, S p0), (1, S p1), (7, I (lenS p0)), (8, I z0)] [] 18)) z0)) = (L143_2 p0 p1 z0).map (Sum.elim (fun z => .inl ((fun z0 : Int => (mkE [(0, S p0), (1, S p1), (7, I (lenS p0)), (8, I z0)] [] 18)) z)) (fun x => .inr ((Sum.elim (fun (x : (Int × Bool)) => (.exit 0, (mkE [(0, S p0), (1, S p1), (7, I (lenS p0)), (8, I x.1), (9, B x.2)] [] 18))) (fun (x : Unit) => (.ret, (mkE [(4, B false)] [] 18)))) x))) := by
  unfold L143_2
  refine gS 0 ?_
  refine gR 2 (rg Try.f143 2) ?_
  refine se (mkE [(0, S p0), (1, S p1), (7, I (lenS p0)), (8, I z0), (9, B (ltI z0 (lenS p0)))] [] 18) ?_
  refine pN ?_
  refine pS ?_
  refine gS 3 ?_
  refine gC 9 (ltI z0 (lenS p0)) ?_ ?_
  · refine gK ?_
    refine pN ?_
    refine pS ?_
    refine gS 6 ?_
    refine gB 1 ?_
    refine gS 4 ?_
    refine gR 3 (rg Try.f143 3) ?_
    refine se (mkE [(0, S p0), (1, S p1), (5, I z0), (7, I (lenS p0)), (8, I z0)] [] 18) ?_
    refine pN ?_
    refine pS ?_
    refine gS 0 ?_
    refine gR 4 (rg Try.f143 4) ?_
    refine sg 3 (mkE [(13, I z0), (12, S p0), (11, S p1), (0, S p0), (1, S p1), (5, I z0), (7, I (lenS p0)), (8, I z0)] [] 18) ?_
    refine vo 14 (byteE 9 .i64 p0 z0) (fun x1 => ?_)
    refine co 15 [] (h222 p1 x1) (fun x2 => ?_)
    refine se (mkE [(0, S p0), (1, S p1), (7, I (lenS p0)), (8, I z0), (16, B (ltI x2 0))] [] 18) ?_
    refine pN ?_
    refine pS ?_
    refine gC 16 (ltI x2 0) ?_ ?_
    · refine gS 0 ?_
      refine gR 5 (rg Try.f143 5) ?_
      refine se (mkE [(4, B false)] [] 18) ?_
      refine pN ?_
      refine pS ?_
      refine gE ?_
      exact pL
    · refine gK ?_
      refine pB ?_
      refine pN ?_
      refine pS ?_
      refine gR 6 (rg Try.f143 6) ?_
      refine se (mkE [(0, S p0), (1, S p1), (7, I (lenS p0)), (8, I (addI .i64 z0 1))] [] 18) ?_
      exact pL
  · refine gX 0 ?_
    exact pL
noncomputable def T143 (p0 : ByteArray) (p1 : ByteArray) : Option Bool := ((iter (L143_2 p0 p1) 0).bind fun y3 => (Sum.elim (fun y3a => (some true)) (fun y3b => (some false)) y3))
theorem B143 (C : Callee) (h222 : ∀ (p0 : ByteArray) (p1 : Int), C 222 [S p0, U p1] = (T222 p0 p1).map I) (p0 : ByteArray) (p1 : ByteArray) : runs Try.prog C (cfg.fn 143) (finFn Try.prog (cfg.fn 143).byval Try.f143) [] (execA Try.prog C (cfg.fn 143) (nr Try.f143 []) (frame0 [S p0, S p1] 18)) = (T143 p0 p1).map B := by
  unfold T143
  refine gS 1 ?_
  refine gR 0 (rg Try.f143 0) ?_
  refine se (mkE [(0, S p0), (1, S p1)] [] 18) ?_
  refine pN ?_
  refine pS ?_
  refine gS 7 ?_
  refine gS 2 ?_
  refine gR 1 (rg Try.f143 1) ?_
  refine se (mkE [(0, S p0), (1, S p1), (7, I (lenS p0)), (8, I 0)] [] 18) ?_
  refine pN ?_
  refine pS ?_
  refine gB 0 ?_
  refine lo [(0, none), (1, none), (7, none), (8, none)] [] (L143_2 p0 p1) (fun z0 : Int => (mkE [(0, S p0), (1, S p1), (7, I (lenS p0)), (8, I z0)] [] 18)) (Sum.elim (fun (x : (Int × Bool)) => (.exit 0, (mkE [(0, S p0), (1, S p1), (7, I (lenS p0)), (8, I x.1), (9, B x.2)] [] 18))) (fun (x : Unit) => (.ret, (mkE [(4, B false)] [] 18)))) 0 (fun z => L143_2_ok C h222 p0 p1 z) ?_
  intro y3
  refine ss y3 (Z := (Sum.elim (fun (x : (Int × Bool)) => (.exit 0, (mkE [(0, S p0), (1, S p1), (7, I (lenS p0)), (8, I x.1), (9, B x.2)] [] 18))) (fun (x : Unit) => (.ret, (mkE [(4, B false)] [] 18))))) (fun y3a => ?_) (fun y3b => ?_)
  · refine pH ?_
    refine pN ?_
    refine pS ?_
    refine gS 0 ?_
    refine gR 7 (rg Try.f143 7) ?_
    refine se (mkE [(4, B true)] [] 18) ?_
    refine pN ?_
    refine pS ?_
    refine gE ?_
    exact pL
  · exact pL
theorem F143 (m : Nat) (hm : 3 ≤ m) (p0 : ByteArray) (p1 : ByteArray) : callA Try.prog cfg m 143 [S p0, S p1] = (T143 p0 p1).map B := by
  obtain ⟨q, rfl⟩ : ∃ q, m = q + 1 := ⟨m - 1, by omega⟩
  exact (callA_body (fn := Try.f143) (c := body_ Try.f143) q _ (by kernel_rfl) (by kernel_rfl) (by kernel_rfl)).trans (B143 _ (fun p0 p1 => F222 q (by omega) p0 p1) p0 p1)

noncomputable def T51 (p0 : ByteArray) : Option Bool := ((T132 (lenS p0) 1 40).bind fun x1 => (bif x1 then ((cutS p0 none (some 1)).bind fun x2 => ((T143 x2 (ByteArray.mk #[97, 98, 99, 100, 101, 102, 103, 104, 105, 106, 107, 108, 109, 110, 111, 112, 113, 114, 115, 116, 117, 118, 119, 120, 121, 122])).bind fun x3 => (bif x3 then ((T143 p0 (ByteArray.mk #[97, 98, 99, 100, 101, 102, 103, 104, 105, 106, 107, 108, 109, 110, 111, 112, 113, 114, 115, 116, 117, 118, 119, 120, 121, 122, 48, 49, 50, 51, 52, 53, 54, 55, 56, 57, 45, 95])).bind fun x4 => (some x4)) else (some false)))) else (some false)))
theorem B51 (C : Callee) (h132 : ∀ (p0 : Int) (p1 : Int) (p2 : Int), C 132 [I p0, I p1, I p2] = (T132 p0 p1 p2).map B) (h143 : ∀ (p0 : ByteArray) (p1 : ByteArray), C 143 [S p0, S p1] = (T143 p0 p1).map B) (p0 : ByteArray) : runs Try.prog C (cfg.fn 51) (finFn Try.prog (cfg.fn 51).byval Try.f51) [] (execA Try.prog C (cfg.fn 51) (nr Try.f51 []) (frame0 [S p0] 15)) = (T51 p0).map B := by
  unfold T51
  refine gS 1 ?_
  refine gR 0 (rg Try.f51 0) ?_
  refine se (mkE [(0, S p0)] [] 15) ?_
  refine pN ?_
  refine pS ?_
  refine gS 0 ?_
  refine gR 1 (rg Try.f51 1) ?_
  refine sg 2 (mkE [(4, I (lenS p0)), (3, S p0), (0, S p0)] [] 15) ?_
  refine co 5 [] (h132 (lenS p0) 1 40) (fun x1 => ?_)
  refine sg 4 (mkE [(6, B x1), (5, B x1), (4, I (lenS p0)), (3, S p0), (0, S p0)] [] 15) ?_
  refine sb 6 x1 ?_ ?_
  · refine sg 5 (mkE [(7, S p0), (6, B true), (6, B x1), (5, B x1), (4, I (lenS p0)), (3, S p0), (0, S p0)] [] 15) ?_
    refine vo 8 (cutSE 9 .i64 .i64 p0 none (some 1)) (fun x2 => ?_)
    refine co 9 [] (h143 x2 (ByteArray.mk #[97, 98, 99, 100, 101, 102, 103, 104, 105, 106, 107, 108, 109, 110, 111, 112, 113, 114, 115, 116, 117, 118, 119, 120, 121, 122])) (fun x3 => ?_)
    refine sg 9 (mkE [(11, B x3), (10, B x3), (9, B x3), (8, S x2), (7, S p0), (6, B true), (6, B x1), (5, B x1), (4, I (lenS p0)), (3, S p0), (0, S p0)] [] 15) ?_
    refine sb 11 x3 ?_ ?_
    · refine sg 10 (mkE [(12, S p0), (11, B true), (11, B x3), (10, B x3), (9, B x3), (8, S x2), (7, S p0), (6, B true), (6, B x1), (5, B x1), (4, I (lenS p0)), (3, S p0), (0, S p0)] [] 15) ?_
      refine co 13 [] (h143 p0 (ByteArray.mk #[97, 98, 99, 100, 101, 102, 103, 104, 105, 106, 107, 108, 109, 110, 111, 112, 113, 114, 115, 116, 117, 118, 119, 120, 121, 122, 48, 49, 50, 51, 52, 53, 54, 55, 56, 57, 45, 95])) (fun x4 => ?_)
      refine se (mkE [(2, B x4)] [] 15) ?_
      refine pN ?_
      refine pS ?_
      refine gE ?_
      exact pL
    · refine se (mkE [(2, B false)] [] 15) ?_
      refine pN ?_
      refine pS ?_
      refine gE ?_
      exact pL
  · refine se (mkE [(2, B false)] [] 15) ?_
    refine pN ?_
    refine pS ?_
    refine gE ?_
    exact pL
theorem F51 (m : Nat) (hm : 4 ≤ m) (p0 : ByteArray) : callA Try.prog cfg m 51 [S p0] = (T51 p0).map B := by
  obtain ⟨q, rfl⟩ : ∃ q, m = q + 1 := ⟨m - 1, by omega⟩
  exact (callA_body (fn := Try.f51) (c := body_ Try.f51) q _ (by kernel_rfl) (by kernel_rfl) (by kernel_rfl)).trans (B51 _ (fun p0 p1 p2 => F132 q (by omega) p0 p1 p2) (fun p0 p1 => F143 q (by omega) p0 p1) p0)

noncomputable def L226_2 (p0 : (List ByteArray)) (z0 : Int) : Option (Int ⊕ ((Int × Bool) ⊕ Int)) := (bif (ltI z0 (lenL p0)) then ((listAt p0 z0).bind fun x1 => ((T51 x1).bind fun x2 => (bif (!x2) then (some (.inr (.inr 5))) else (bif (ltI 0 z0) then ((listAt p0 (subI .i64 z0 1)).bind fun x3 => (bif (ltS x1 x3 || eqS x1 x3) then (some (.inr (.inr 7))) else (some (.inl (addI .i64 z0 1))))) else (some (.inl (addI .i64 z0 1))))))) else (some (.inr (.inl (z0, (ltI z0 (lenL p0)))))))
theorem L226_2_ok (C : Callee) (h51 : ∀ (p0 : ByteArray), C 51 [S p0] = (T51 p0).map B) (p0 : (List ByteArray)) (z0 : Int) : runs Try.prog C (cfg.fn 226) (finLoop ((cfg.fn 226).keep 2) ((cfg.fn 226).al 2)) [] (execA Try.prog C (cfg.fn 226) (nr Try.f226 [false, false, true, false, true]) ((fun z0 : Int => (mkE [(0, LL S p0), (5, LL S p0), (6, I (lenL p0)), (7, I z0)] [] 27)) z0)) = (L226_2 p0 z0).map (Sum.elim (fun z => .inl ((fun z0 : Int => (mkE [(0, LL S p0), (5, LL S p0), (6, I (lenL p0)), (7, I z0)] [] 27)) z)) (fun x => .inr ((Sum.elim (fun (x : (Int × Bool)) => (.exit 0, (mkE [(0, LL S p0), (5, LL S p0), (6, I (lenL p0)), (7, I x.1), (8, B x.2)] [] 27))) (fun (x : Int) => (.ret, (mkE [(2, I x)] [] 27)))) x))) := by
  unfold L226_2
  refine gS 0 ?_
  refine gR 2 (rg Try.f226 2) ?_
  refine se (mkE [(0, LL S p0), (5, LL S p0), (6, I (lenL p0)), (7, I z0), (8, B (ltI z0 (lenL p0)))] [] 27) ?_
  refine pN ?_
  refine pS ?_
  refine gS 3 ?_
  refine gC 8 (ltI z0 (lenL p0)) ?_ ?_
  · refine gK ?_
    refine pN ?_
    refine pS ?_
    refine gS 8 ?_
    refine gB 1 ?_
    refine gS 4 ?_
    refine gR 3 (rg Try.f226 3) ?_
    refine sg 1 (mkE [(9, I z0), (0, LL S p0), (5, LL S p0), (6, I (lenL p0)), (7, I z0), (8, B (ltI z0 (lenL p0)))] [] 27) ?_
    refine vo 10 (addrE 35 9 1 S .i64 p0 z0) (fun x1 => ?_)
    refine se (mkE [(0, LL S p0), (3, I z0), (4, S x1), (5, LL S p0), (6, I (lenL p0)), (7, I z0)] [] 27) ?_
    refine pN ?_
    refine pS ?_
    refine gS 6 ?_
    refine gS 0 ?_
    refine gR 4 (rg Try.f226 4) ?_
    refine sg 1 (mkE [(12, S x1), (0, LL S p0), (3, I z0), (4, S x1), (5, LL S p0), (6, I (lenL p0)), (7, I z0)] [] 27) ?_
    refine co 13 [] (h51 x1) (fun x2 => ?_)
    refine se (mkE [(0, LL S p0), (3, I z0), (4, S x1), (5, LL S p0), (6, I (lenL p0)), (7, I z0), (14, B (!x2))] [] 27) ?_
    refine pN ?_
    refine pS ?_
    refine gC 14 (!x2) ?_ ?_
    · refine gS 0 ?_
      refine gR 5 (rg Try.f226 5) ?_
      refine se (mkE [(2, I 5)] [] 27) ?_
      refine pN ?_
      refine pS ?_
      refine gE ?_
      exact pL
    · refine gK ?_
      refine pN ?_
      refine pS ?_
      refine gS 0 ?_
      refine gR 6 (rg Try.f226 6) ?_
      refine sg 3 (mkE [(17, B (ltI 0 z0)), (16, B (ltI 0 z0)), (15, I z0), (0, LL S p0), (3, I z0), (4, S x1), (5, LL S p0), (6, I (lenL p0)), (7, I z0), (14, B (!x2))] [] 27) ?_
      refine sb 17 (ltI 0 z0) ?_ ?_
      · refine sg 7 (mkE [(21, I (subI .i64 z0 1)), (20, I z0), (19, LL S p0), (18, S x1), (17, B true), (17, B (ltI 0 z0)), (16, B (ltI 0 z0)), (15, I z0), (0, LL S p0), (3, I z0), (4, S x1), (5, LL S p0), (6, I (lenL p0)), (7, I z0), (14, B (!x2))] [] 27) ?_
        refine vo 22 (addrE 35 9 1 S .i64 p0 (subI .i64 z0 1)) (fun x3 => ?_)
        refine se (mkE [(0, LL S p0), (5, LL S p0), (6, I (lenL p0)), (7, I z0), (25, B (ltS x1 x3 || eqS x1 x3))] [] 27) ?_
        refine pN ?_
        refine pS ?_
        refine gC 25 (ltS x1 x3 || eqS x1 x3) ?_ ?_
        · refine gS 0 ?_
          refine gR 7 (rg Try.f226 7) ?_
          refine se (mkE [(2, I 7)] [] 27) ?_
          refine pN ?_
          refine pS ?_
          refine gE ?_
          exact pL
        · refine gK ?_
          refine pB ?_
          refine pN ?_
          refine pS ?_
          refine gR 8 (rg Try.f226 8) ?_
          refine se (mkE [(0, LL S p0), (5, LL S p0), (6, I (lenL p0)), (7, I (addI .i64 z0 1))] [] 27) ?_
          exact pL
      · refine se (mkE [(0, LL S p0), (5, LL S p0), (6, I (lenL p0)), (7, I z0), (25, B false)] [] 27) ?_
        refine pN ?_
        refine pS ?_
        refine gF (.tmp 25) ?_
        refine gK ?_
        refine pB ?_
        refine pN ?_
        refine pS ?_
        refine gR 8 (rg Try.f226 8) ?_
        refine se (mkE [(0, LL S p0), (5, LL S p0), (6, I (lenL p0)), (7, I (addI .i64 z0 1))] [] 27) ?_
        exact pL
  · refine gX 0 ?_
    exact pL
noncomputable def T226 (p0 : (List ByteArray)) : Option Int := ((iter (L226_2 p0) 0).bind fun y4 => (Sum.elim (fun y4a => (some 0)) (fun y4b => (some y4b)) y4))
theorem B226 (C : Callee) (h51 : ∀ (p0 : ByteArray), C 51 [S p0] = (T51 p0).map B) (p0 : (List ByteArray)) : runs Try.prog C (cfg.fn 226) (finFn Try.prog (cfg.fn 226).byval Try.f226) [] (execA Try.prog C (cfg.fn 226) (nr Try.f226 []) (frame0 [LL S p0] 27)) = (T226 p0).map I := by
  unfold T226
  refine gS 1 ?_
  refine gR 0 (rg Try.f226 0) ?_
  refine se (mkE [(0, LL S p0)] [] 27) ?_
  refine pN ?_
  refine pS ?_
  refine gS 9 ?_
  refine gS 2 ?_
  refine gR 1 (rg Try.f226 1) ?_
  refine sg 1 (mkE [(5, LL S p0), (0, LL S p0)] [] 27) ?_
  refine eo 6 (I (lenL p0)) (lenE 35 S p0) ?_
  refine se (mkE [(0, LL S p0), (5, LL S p0), (6, I (lenL p0)), (7, I 0)] [] 27) ?_
  refine pN ?_
  refine pS ?_
  refine gB 0 ?_
  refine lo [(0, none), (5, none), (6, none), (7, none)] [] (L226_2 p0) (fun z0 : Int => (mkE [(0, LL S p0), (5, LL S p0), (6, I (lenL p0)), (7, I z0)] [] 27)) (Sum.elim (fun (x : (Int × Bool)) => (.exit 0, (mkE [(0, LL S p0), (5, LL S p0), (6, I (lenL p0)), (7, I x.1), (8, B x.2)] [] 27))) (fun (x : Int) => (.ret, (mkE [(2, I x)] [] 27)))) 0 (fun z => L226_2_ok C h51 p0 z) ?_
  intro y4
  refine ss y4 (Z := (Sum.elim (fun (x : (Int × Bool)) => (.exit 0, (mkE [(0, LL S p0), (5, LL S p0), (6, I (lenL p0)), (7, I x.1), (8, B x.2)] [] 27))) (fun (x : Int) => (.ret, (mkE [(2, I x)] [] 27))))) (fun y4a => ?_) (fun y4b => ?_)
  · refine pH ?_
    refine pN ?_
    refine pS ?_
    refine gS 0 ?_
    refine gR 9 (rg Try.f226 9) ?_
    refine se (mkE [(2, I 0)] [] 27) ?_
    refine pN ?_
    refine pS ?_
    refine gE ?_
    exact pL
  · exact pL
theorem F226 (m : Nat) (hm : 5 ≤ m) (p0 : (List ByteArray)) : callA Try.prog cfg m 226 [LL S p0] = (T226 p0).map I := by
  obtain ⟨q, rfl⟩ : ∃ q, m = q + 1 := ⟨m - 1, by omega⟩
  exact (callA_body (fn := Try.f226) (c := body_ Try.f226) q _ (by kernel_rfl) (by kernel_rfl) (by kernel_rfl)).trans (B226 _ (fun p0 => F51 q (by omega) p0) p0)

noncomputable def T149 (p0 : (List ByteArray)) : Option Int := (bif (ltI 20 (lenL p0)) then (some 2) else ((T226 p0).bind fun x1 => (some x1)))
theorem B149 (C : Callee) (h226 : ∀ (p0 : (List ByteArray)), C 226 [LL S p0] = (T226 p0).map I) (p0 : (List ByteArray)) : runs Try.prog C (cfg.fn 149) (finFn Try.prog (cfg.fn 149).byval Try.f149) [] (execA Try.prog C (cfg.fn 149) (nr Try.f149 []) (frame0 [LL S p0] 8)) = (T149 p0).map I := by
  unfold T149
  refine gS 1 ?_
  refine gR 0 (rg Try.f149 0) ?_
  refine se (mkE [(0, LL S p0)] [] 8) ?_
  refine pN ?_
  refine pS ?_
  refine gS 3 ?_
  refine gS 0 ?_
  refine gR 1 (rg Try.f149 1) ?_
  refine sg 1 (mkE [(3, LL S p0), (0, LL S p0)] [] 8) ?_
  refine eo 4 (I (lenL p0)) (lenE 35 S p0) ?_
  refine se (mkE [(0, LL S p0), (5, B (ltI 20 (lenL p0)))] [] 8) ?_
  refine pN ?_
  refine pS ?_
  refine gC 5 (ltI 20 (lenL p0)) ?_ ?_
  · refine gS 0 ?_
    refine gR 2 (rg Try.f149 2) ?_
    refine se (mkE [(2, I 2)] [] 8) ?_
    refine pN ?_
    refine pS ?_
    refine gE ?_
    exact pL
  · refine gK ?_
    refine pN ?_
    refine pS ?_
    refine gS 0 ?_
    refine gR 3 (rg Try.f149 3) ?_
    refine sg 1 (mkE [(6, LL S p0), (0, LL S p0), (5, B (ltI 20 (lenL p0)))] [] 8) ?_
    refine co 7 [] (h226 p0) (fun x1 => ?_)
    refine se (mkE [(2, I x1)] [] 8) ?_
    refine pN ?_
    refine pS ?_
    refine gE ?_
    exact pL
theorem F149 (m : Nat) (hm : 6 ≤ m) (p0 : (List ByteArray)) : callA Try.prog cfg m 149 [LL S p0] = (T149 p0).map I := by
  obtain ⟨q, rfl⟩ : ∃ q, m = q + 1 := ⟨m - 1, by omega⟩
  exact (callA_body (fn := Try.f149) (c := body_ Try.f149) q _ (by kernel_rfl) (by kernel_rfl) (by kernel_rfl)).trans (B149 _ (fun p0 => F226 q (by omega) p0) p0)

noncomputable def L162_8 (p0 : S105) (z0 : Int) : Option (Int ⊕ ((Int × Bool) ⊕ Int)) := (bif (ltI z0 (lenL p0.f7)) then ((listAt p0.f7 z0).bind fun x7 => ((T132 x7 0 4000).bind fun x8 => (bif (!x8) then (some (.inr (.inr 1))) else (bif (ltI 0 z0) then ((listAt p0.f7 (subI .i64 z0 1)).bind fun x9 => (bif (leI x7 x9) then (some (.inr (.inr 7))) else (some (.inl (addI .i64 z0 1))))) else (some (.inl (addI .i64 z0 1))))))) else (some (.inr (.inl (z0, (ltI z0 (lenL p0.f7)))))))
theorem L162_8_ok (C : Callee) (h132 : ∀ (p0 : Int) (p1 : Int) (p2 : Int), C 132 [I p0, I p1, I p2] = (T132 p0 p1 p2).map B) (p0 : S105) (z0 : Int) : runs Try.prog C (cfg.fn 162) (finLoop ((cfg.fn 162).keep 8) ((cfg.fn 162).al 8)) [] (execA Try.prog C (cfg.fn 162) (nr Try.f162 [false, false, true, false, true, true]) ((fun z0 : Int => (mkE [(1, .ba 8 0), (52, LL I p0.f7), (53, I (lenL p0.f7)), (54, I z0)] [(8, .box [S p0.f0, S p0.f1, I p0.f2, I p0.f3, I p0.f4, I p0.f5, I p0.f6, LL I p0.f7, I p0.f8, I p0.f9, I p0.f10, LL S p0.f11, B p0.f12] false)] 94)) z0)) = (L162_8 p0 z0).map (Sum.elim (fun z => .inl ((fun z0 : Int => (mkE [(1, .ba 8 0), (52, LL I p0.f7), (53, I (lenL p0.f7)), (54, I z0)] [(8, .box [S p0.f0, S p0.f1, I p0.f2, I p0.f3, I p0.f4, I p0.f5, I p0.f6, LL I p0.f7, I p0.f8, I p0.f9, I p0.f10, LL S p0.f11, B p0.f12] false)] 94)) z)) (fun x => .inr ((Sum.elim (fun (x : (Int × Bool)) => (.exit 1, (mkE [(1, .ba 8 0), (52, LL I p0.f7), (53, I (lenL p0.f7)), (54, I x.1), (55, B x.2)] [(8, .box [S p0.f0, S p0.f1, I p0.f2, I p0.f3, I p0.f4, I p0.f5, I p0.f6, LL I p0.f7, I p0.f8, I p0.f9, I p0.f10, LL S p0.f11, B p0.f12] false)] 94))) (fun (x : Int) => (.ret, (mkE [(2, I x)] [] 94)))) x))) := by
  unfold L162_8
  refine gS 0 ?_
  refine gR 8 (rg Try.f162 8) ?_
  refine se (mkE [(1, .ba 8 0), (52, LL I p0.f7), (53, I (lenL p0.f7)), (54, I z0), (55, B (ltI z0 (lenL p0.f7)))] [(8, .box [S p0.f0, S p0.f1, I p0.f2, I p0.f3, I p0.f4, I p0.f5, I p0.f6, LL I p0.f7, I p0.f8, I p0.f9, I p0.f10, LL S p0.f11, B p0.f12] false)] 94) ?_
  refine pN ?_
  refine pS ?_
  refine gS 9 ?_
  refine gC 55 (ltI z0 (lenL p0.f7)) ?_ ?_
  · refine gK ?_
    refine pN ?_
    refine pS ?_
    refine gS 14 ?_
    refine gB 2 ?_
    refine gS 10 ?_
    refine gR 9 (rg Try.f162 9) ?_
    refine sg 1 (mkE [(56, I z0), (1, .ba 8 0), (52, LL I p0.f7), (53, I (lenL p0.f7)), (54, I z0), (55, B (ltI z0 (lenL p0.f7)))] [(8, .box [S p0.f0, S p0.f1, I p0.f2, I p0.f3, I p0.f4, I p0.f5, I p0.f6, LL I p0.f7, I p0.f8, I p0.f9, I p0.f10, LL S p0.f11, B p0.f12] false)] 94) ?_
    refine vo 57 (addrE 104 3 1 I .i64 p0.f7 z0) (fun x7 => ?_)
    refine se (mkE [(1, .ba 8 0), (3, I z0), (4, I x7), (52, LL I p0.f7), (53, I (lenL p0.f7)), (54, I z0)] [(8, .box [S p0.f0, S p0.f1, I p0.f2, I p0.f3, I p0.f4, I p0.f5, I p0.f6, LL I p0.f7, I p0.f8, I p0.f9, I p0.f10, LL S p0.f11, B p0.f12] false)] 94) ?_
    refine pN ?_
    refine pS ?_
    refine gS 12 ?_
    refine gS 0 ?_
    refine gR 10 (rg Try.f162 10) ?_
    refine sg 1 (mkE [(59, I x7), (1, .ba 8 0), (3, I z0), (4, I x7), (52, LL I p0.f7), (53, I (lenL p0.f7)), (54, I z0)] [(8, .box [S p0.f0, S p0.f1, I p0.f2, I p0.f3, I p0.f4, I p0.f5, I p0.f6, LL I p0.f7, I p0.f8, I p0.f9, I p0.f10, LL S p0.f11, B p0.f12] false)] 94) ?_
    refine co 60 [] (h132 x7 0 4000) (fun x8 => ?_)
    refine se (mkE [(1, .ba 8 0), (3, I z0), (4, I x7), (52, LL I p0.f7), (53, I (lenL p0.f7)), (54, I z0), (61, B (!x8))] [(8, .box [S p0.f0, S p0.f1, I p0.f2, I p0.f3, I p0.f4, I p0.f5, I p0.f6, LL I p0.f7, I p0.f8, I p0.f9, I p0.f10, LL S p0.f11, B p0.f12] false)] 94) ?_
    refine pN ?_
    refine pS ?_
    refine gC 61 (!x8) ?_ ?_
    · refine gS 0 ?_
      refine gR 11 (rg Try.f162 11) ?_
      refine se (mkE [(2, I 1)] [] 94) ?_
      refine pN ?_
      refine pS ?_
      refine gE ?_
      exact pL
    · refine gK ?_
      refine pN ?_
      refine pS ?_
      refine gS 0 ?_
      refine gR 12 (rg Try.f162 12) ?_
      refine sg 3 (mkE [(64, B (ltI 0 z0)), (63, B (ltI 0 z0)), (62, I z0), (1, .ba 8 0), (3, I z0), (4, I x7), (52, LL I p0.f7), (53, I (lenL p0.f7)), (54, I z0), (61, B (!x8))] [(8, .box [S p0.f0, S p0.f1, I p0.f2, I p0.f3, I p0.f4, I p0.f5, I p0.f6, LL I p0.f7, I p0.f8, I p0.f9, I p0.f10, LL S p0.f11, B p0.f12] false)] 94) ?_
      refine sb 64 (ltI 0 z0) ?_ ?_
      · refine sg 8 (mkE [(69, I (subI .i64 z0 1)), (68, I z0), (67, LL I p0.f7), (66, .ba 8 7), (65, I x7), (64, B true), (64, B (ltI 0 z0)), (63, B (ltI 0 z0)), (62, I z0), (1, .ba 8 0), (3, I z0), (4, I x7), (52, LL I p0.f7), (53, I (lenL p0.f7)), (54, I z0), (61, B (!x8))] [(8, .box [S p0.f0, S p0.f1, I p0.f2, I p0.f3, I p0.f4, I p0.f5, I p0.f6, LL I p0.f7, I p0.f8, I p0.f9, I p0.f10, LL S p0.f11, B p0.f12] false)] 94) ?_
        refine vo 70 (addrE 104 3 1 I .i64 p0.f7 (subI .i64 z0 1)) (fun x9 => ?_)
        refine se (mkE [(1, .ba 8 0), (52, LL I p0.f7), (53, I (lenL p0.f7)), (54, I z0), (73, B (leI x7 x9))] [(8, .box [S p0.f0, S p0.f1, I p0.f2, I p0.f3, I p0.f4, I p0.f5, I p0.f6, LL I p0.f7, I p0.f8, I p0.f9, I p0.f10, LL S p0.f11, B p0.f12] false)] 94) ?_
        refine pN ?_
        refine pS ?_
        refine gC 73 (leI x7 x9) ?_ ?_
        · refine gS 0 ?_
          refine gR 13 (rg Try.f162 13) ?_
          refine se (mkE [(2, I 7)] [] 94) ?_
          refine pN ?_
          refine pS ?_
          refine gE ?_
          exact pL
        · refine gK ?_
          refine pB ?_
          refine pN ?_
          refine pS ?_
          refine gR 14 (rg Try.f162 14) ?_
          refine se (mkE [(1, .ba 8 0), (52, LL I p0.f7), (53, I (lenL p0.f7)), (54, I (addI .i64 z0 1))] [(8, .box [S p0.f0, S p0.f1, I p0.f2, I p0.f3, I p0.f4, I p0.f5, I p0.f6, LL I p0.f7, I p0.f8, I p0.f9, I p0.f10, LL S p0.f11, B p0.f12] false)] 94) ?_
          exact pL
      · refine se (mkE [(1, .ba 8 0), (52, LL I p0.f7), (53, I (lenL p0.f7)), (54, I z0), (73, B false)] [(8, .box [S p0.f0, S p0.f1, I p0.f2, I p0.f3, I p0.f4, I p0.f5, I p0.f6, LL I p0.f7, I p0.f8, I p0.f9, I p0.f10, LL S p0.f11, B p0.f12] false)] 94) ?_
        refine pN ?_
        refine pS ?_
        refine gF (.tmp 73) ?_
        refine gK ?_
        refine pB ?_
        refine pN ?_
        refine pS ?_
        refine gR 14 (rg Try.f162 14) ?_
        refine se (mkE [(1, .ba 8 0), (52, LL I p0.f7), (53, I (lenL p0.f7)), (54, I (addI .i64 z0 1))] [(8, .box [S p0.f0, S p0.f1, I p0.f2, I p0.f3, I p0.f4, I p0.f5, I p0.f6, LL I p0.f7, I p0.f8, I p0.f9, I p0.f10, LL S p0.f11, B p0.f12] false)] 94) ?_
        exact pL
  · refine gX 1 ?_
    exact pL
noncomputable def T162 (p0 : S105) : Option Int := ((T51 p0.f0).bind fun x1 => (bif (!x1) then (some 5) else ((T51 p0.f1).bind fun x2 => (bif (!x2) then (some 5) else ((T132 p0.f2 0 1000000).bind fun x3 => (bif (!x3) then (some 1) else ((T132 p0.f3 0 p0.f4).bind fun x4 => (bif (!x4) then (some 1) else (bif (ltI 4000 p0.f4) then (some 1) else ((T132 p0.f5 1 400).bind fun x5 => (bif (!x5) then (some 1) else ((T132 p0.f6 1 127).bind fun x6 => (bif (!x6) then (some 1) else (bif (ltI 100 (lenL p0.f7)) then (some 2) else ((iter (L162_8 p0) 0).bind fun y10 => (Sum.elim (fun y10a => ((T132 p0.f8 0 1439).bind fun x11 => (bif (!x11) then (some 1) else ((T132 p0.f9 0 1439).bind fun x12 => (bif (!x12) then (some 1) else ((T132 p0.f10 0 9).bind fun x13 => (bif (!x13) then (some 1) else ((T149 p0.f11).bind fun x14 => (some x14))))))))) (fun y10b => (some y10b)) y10))))))))))))))))
theorem B162 (C : Callee) (h132 : ∀ (p0 : Int) (p1 : Int) (p2 : Int), C 132 [I p0, I p1, I p2] = (T132 p0 p1 p2).map B) (h149 : ∀ (p0 : (List ByteArray)), C 149 [LL S p0] = (T149 p0).map I) (h51 : ∀ (p0 : ByteArray), C 51 [S p0] = (T51 p0).map B) (p0 : S105) : runs Try.prog C (cfg.fn 162) (finFn Try.prog (cfg.fn 162).byval Try.f162) [] (execA Try.prog C (cfg.fn 162) (nr Try.f162 []) (frame0 [a105 p0] 94)) = (T162 p0).map I := by
  unfold T162
  refine gS 1 ?_
  refine gR 0 (rg Try.f162 0) ?_
  refine se (mkE [(1, .ba 8 0)] [(8, .box [S p0.f0, S p0.f1, I p0.f2, I p0.f3, I p0.f4, I p0.f5, I p0.f6, LL I p0.f7, I p0.f8, I p0.f9, I p0.f10, LL S p0.f11, B p0.f12] false)] 94) ?_
  refine pN ?_
  refine pS ?_
  refine gS 7 ?_
  refine gB 0 ?_
  refine gS 0 ?_
  refine gR 1 (rg Try.f162 1) ?_
  refine sg 2 (mkE [(7, S p0.f0), (6, .ba 8 0), (1, .ba 8 0)] [(8, .box [S p0.f0, S p0.f1, I p0.f2, I p0.f3, I p0.f4, I p0.f5, I p0.f6, LL I p0.f7, I p0.f8, I p0.f9, I p0.f10, LL S p0.f11, B p0.f12] false)] 94) ?_
  refine co 8 [] (h51 p0.f0) (fun x1 => ?_)
  refine sg 5 (mkE [(10, B (!x1)), (9, B (!x1)), (8, B x1), (7, S p0.f0), (6, .ba 8 0), (1, .ba 8 0)] [(8, .box [S p0.f0, S p0.f1, I p0.f2, I p0.f3, I p0.f4, I p0.f5, I p0.f6, LL I p0.f7, I p0.f8, I p0.f9, I p0.f10, LL S p0.f11, B p0.f12] false)] 94) ?_
  refine sb 10 (!x1) ?_ ?_
  · refine se (mkE [(1, .ba 8 0), (5, B true)] [(8, .box [S p0.f0, S p0.f1, I p0.f2, I p0.f3, I p0.f4, I p0.f5, I p0.f6, LL I p0.f7, I p0.f8, I p0.f9, I p0.f10, LL S p0.f11, B p0.f12] false)] 94) ?_
    refine pN ?_
    refine pS ?_
    refine gT (.tmp 5) ?_
    refine gS 0 ?_
    refine gR 2 (rg Try.f162 2) ?_
    refine se (mkE [(2, I 5)] [] 94) ?_
    refine pN ?_
    refine pS ?_
    refine gE ?_
    exact pL
  · refine sg 7 (mkE [(12, S p0.f1), (11, .ba 8 1), (10, B false), (10, B (!x1)), (9, B (!x1)), (8, B x1), (7, S p0.f0), (6, .ba 8 0), (1, .ba 8 0)] [(8, .box [S p0.f0, S p0.f1, I p0.f2, I p0.f3, I p0.f4, I p0.f5, I p0.f6, LL I p0.f7, I p0.f8, I p0.f9, I p0.f10, LL S p0.f11, B p0.f12] false)] 94) ?_
    refine co 13 [] (h51 p0.f1) (fun x2 => ?_)
    refine se (mkE [(1, .ba 8 0), (5, B (!x2))] [(8, .box [S p0.f0, S p0.f1, I p0.f2, I p0.f3, I p0.f4, I p0.f5, I p0.f6, LL I p0.f7, I p0.f8, I p0.f9, I p0.f10, LL S p0.f11, B p0.f12] false)] 94) ?_
    refine pN ?_
    refine pS ?_
    refine gC 5 (!x2) ?_ ?_
    · refine gS 0 ?_
      refine gR 2 (rg Try.f162 2) ?_
      refine se (mkE [(2, I 5)] [] 94) ?_
      refine pN ?_
      refine pS ?_
      refine gE ?_
      exact pL
    · refine gS 0 ?_
      refine gR 3 (rg Try.f162 3) ?_
      refine sg 2 (mkE [(18, I p0.f2), (17, .ba 8 2), (1, .ba 8 0), (5, B (!x2))] [(8, .box [S p0.f0, S p0.f1, I p0.f2, I p0.f3, I p0.f4, I p0.f5, I p0.f6, LL I p0.f7, I p0.f8, I p0.f9, I p0.f10, LL S p0.f11, B p0.f12] false)] 94) ?_
      refine co 19 [] (h132 p0.f2 0 1000000) (fun x3 => ?_)
      refine sg 5 (mkE [(21, B (!x3)), (20, B (!x3)), (19, B x3), (18, I p0.f2), (17, .ba 8 2), (1, .ba 8 0), (5, B (!x2))] [(8, .box [S p0.f0, S p0.f1, I p0.f2, I p0.f3, I p0.f4, I p0.f5, I p0.f6, LL I p0.f7, I p0.f8, I p0.f9, I p0.f10, LL S p0.f11, B p0.f12] false)] 94) ?_
      refine sb 21 (!x3) ?_ ?_
      · refine se (mkE [(1, .ba 8 0), (16, B true)] [(8, .box [S p0.f0, S p0.f1, I p0.f2, I p0.f3, I p0.f4, I p0.f5, I p0.f6, LL I p0.f7, I p0.f8, I p0.f9, I p0.f10, LL S p0.f11, B p0.f12] false)] 94) ?_
        refine pN ?_
        refine pS ?_
        refine gT (.tmp 16) ?_
        refine gS 0 ?_
        refine gR 4 (rg Try.f162 4) ?_
        refine se (mkE [(2, I 1)] [] 94) ?_
        refine pN ?_
        refine pS ?_
        refine gE ?_
        exact pL
      · refine sg 9 (mkE [(25, I p0.f4), (24, .ba 8 4), (23, I p0.f3), (22, .ba 8 3), (21, B false), (21, B (!x3)), (20, B (!x3)), (19, B x3), (18, I p0.f2), (17, .ba 8 2), (1, .ba 8 0), (5, B (!x2))] [(8, .box [S p0.f0, S p0.f1, I p0.f2, I p0.f3, I p0.f4, I p0.f5, I p0.f6, LL I p0.f7, I p0.f8, I p0.f9, I p0.f10, LL S p0.f11, B p0.f12] false)] 94) ?_
        refine co 26 [] (h132 p0.f3 0 p0.f4) (fun x4 => ?_)
        refine sg 13 (mkE [(29, B (!x4)), (28, B (!x4)), (27, B (!x4)), (26, B x4), (25, I p0.f4), (24, .ba 8 4), (23, I p0.f3), (22, .ba 8 3), (21, B false), (21, B (!x3)), (20, B (!x3)), (19, B x3), (18, I p0.f2), (17, .ba 8 2), (1, .ba 8 0), (5, B (!x2))] [(8, .box [S p0.f0, S p0.f1, I p0.f2, I p0.f3, I p0.f4, I p0.f5, I p0.f6, LL I p0.f7, I p0.f8, I p0.f9, I p0.f10, LL S p0.f11, B p0.f12] false)] 94) ?_
        refine sb 29 (!x4) ?_ ?_
        · refine se (mkE [(1, .ba 8 0), (16, B true)] [(8, .box [S p0.f0, S p0.f1, I p0.f2, I p0.f3, I p0.f4, I p0.f5, I p0.f6, LL I p0.f7, I p0.f8, I p0.f9, I p0.f10, LL S p0.f11, B p0.f12] false)] 94) ?_
          refine pN ?_
          refine pS ?_
          refine gT (.tmp 16) ?_
          refine gS 0 ?_
          refine gR 4 (rg Try.f162 4) ?_
          refine se (mkE [(2, I 1)] [] 94) ?_
          refine pN ?_
          refine pS ?_
          refine gE ?_
          exact pL
        · refine sg 18 (mkE [(34, B (ltI 4000 p0.f4)), (33, B (ltI 4000 p0.f4)), (32, B (ltI 4000 p0.f4)), (31, I p0.f4), (30, .ba 8 4), (29, B false), (29, B (!x4)), (28, B (!x4)), (27, B (!x4)), (26, B x4), (25, I p0.f4), (24, .ba 8 4), (23, I p0.f3), (22, .ba 8 3), (21, B false), (21, B (!x3)), (20, B (!x3)), (19, B x3), (18, I p0.f2), (17, .ba 8 2), (1, .ba 8 0), (5, B (!x2))] [(8, .box [S p0.f0, S p0.f1, I p0.f2, I p0.f3, I p0.f4, I p0.f5, I p0.f6, LL I p0.f7, I p0.f8, I p0.f9, I p0.f10, LL S p0.f11, B p0.f12] false)] 94) ?_
          refine sb 34 (ltI 4000 p0.f4) ?_ ?_
          · refine se (mkE [(1, .ba 8 0), (16, B true)] [(8, .box [S p0.f0, S p0.f1, I p0.f2, I p0.f3, I p0.f4, I p0.f5, I p0.f6, LL I p0.f7, I p0.f8, I p0.f9, I p0.f10, LL S p0.f11, B p0.f12] false)] 94) ?_
            refine pN ?_
            refine pS ?_
            refine gT (.tmp 16) ?_
            refine gS 0 ?_
            refine gR 4 (rg Try.f162 4) ?_
            refine se (mkE [(2, I 1)] [] 94) ?_
            refine pN ?_
            refine pS ?_
            refine gE ?_
            exact pL
          · refine sg 20 (mkE [(36, I p0.f5), (35, .ba 8 5), (34, B false), (34, B (ltI 4000 p0.f4)), (33, B (ltI 4000 p0.f4)), (32, B (ltI 4000 p0.f4)), (31, I p0.f4), (30, .ba 8 4), (29, B false), (29, B (!x4)), (28, B (!x4)), (27, B (!x4)), (26, B x4), (25, I p0.f4), (24, .ba 8 4), (23, I p0.f3), (22, .ba 8 3), (21, B false), (21, B (!x3)), (20, B (!x3)), (19, B x3), (18, I p0.f2), (17, .ba 8 2), (1, .ba 8 0), (5, B (!x2))] [(8, .box [S p0.f0, S p0.f1, I p0.f2, I p0.f3, I p0.f4, I p0.f5, I p0.f6, LL I p0.f7, I p0.f8, I p0.f9, I p0.f10, LL S p0.f11, B p0.f12] false)] 94) ?_
            refine co 37 [] (h132 p0.f5 1 400) (fun x5 => ?_)
            refine sg 24 (mkE [(40, B (!x5)), (39, B (!x5)), (38, B (!x5)), (37, B x5), (36, I p0.f5), (35, .ba 8 5), (34, B false), (34, B (ltI 4000 p0.f4)), (33, B (ltI 4000 p0.f4)), (32, B (ltI 4000 p0.f4)), (31, I p0.f4), (30, .ba 8 4), (29, B false), (29, B (!x4)), (28, B (!x4)), (27, B (!x4)), (26, B x4), (25, I p0.f4), (24, .ba 8 4), (23, I p0.f3), (22, .ba 8 3), (21, B false), (21, B (!x3)), (20, B (!x3)), (19, B x3), (18, I p0.f2), (17, .ba 8 2), (1, .ba 8 0), (5, B (!x2))] [(8, .box [S p0.f0, S p0.f1, I p0.f2, I p0.f3, I p0.f4, I p0.f5, I p0.f6, LL I p0.f7, I p0.f8, I p0.f9, I p0.f10, LL S p0.f11, B p0.f12] false)] 94) ?_
            refine sb 40 (!x5) ?_ ?_
            · refine se (mkE [(1, .ba 8 0), (16, B true)] [(8, .box [S p0.f0, S p0.f1, I p0.f2, I p0.f3, I p0.f4, I p0.f5, I p0.f6, LL I p0.f7, I p0.f8, I p0.f9, I p0.f10, LL S p0.f11, B p0.f12] false)] 94) ?_
              refine pN ?_
              refine pS ?_
              refine gT (.tmp 16) ?_
              refine gS 0 ?_
              refine gR 4 (rg Try.f162 4) ?_
              refine se (mkE [(2, I 1)] [] 94) ?_
              refine pN ?_
              refine pS ?_
              refine gE ?_
              exact pL
            · refine sg 26 (mkE [(42, I p0.f6), (41, .ba 8 6), (40, B false), (40, B (!x5)), (39, B (!x5)), (38, B (!x5)), (37, B x5), (36, I p0.f5), (35, .ba 8 5), (34, B false), (34, B (ltI 4000 p0.f4)), (33, B (ltI 4000 p0.f4)), (32, B (ltI 4000 p0.f4)), (31, I p0.f4), (30, .ba 8 4), (29, B false), (29, B (!x4)), (28, B (!x4)), (27, B (!x4)), (26, B x4), (25, I p0.f4), (24, .ba 8 4), (23, I p0.f3), (22, .ba 8 3), (21, B false), (21, B (!x3)), (20, B (!x3)), (19, B x3), (18, I p0.f2), (17, .ba 8 2), (1, .ba 8 0), (5, B (!x2))] [(8, .box [S p0.f0, S p0.f1, I p0.f2, I p0.f3, I p0.f4, I p0.f5, I p0.f6, LL I p0.f7, I p0.f8, I p0.f9, I p0.f10, LL S p0.f11, B p0.f12] false)] 94) ?_
              refine co 43 [] (h132 p0.f6 1 127) (fun x6 => ?_)
              refine se (mkE [(1, .ba 8 0), (16, B (!x6))] [(8, .box [S p0.f0, S p0.f1, I p0.f2, I p0.f3, I p0.f4, I p0.f5, I p0.f6, LL I p0.f7, I p0.f8, I p0.f9, I p0.f10, LL S p0.f11, B p0.f12] false)] 94) ?_
              refine pN ?_
              refine pS ?_
              refine gC 16 (!x6) ?_ ?_
              · refine gS 0 ?_
                refine gR 4 (rg Try.f162 4) ?_
                refine se (mkE [(2, I 1)] [] 94) ?_
                refine pN ?_
                refine pS ?_
                refine gE ?_
                exact pL
              · refine gS 0 ?_
                refine gR 5 (rg Try.f162 5) ?_
                refine sg 2 (mkE [(48, LL I p0.f7), (47, .ba 8 7), (1, .ba 8 0), (16, B (!x6))] [(8, .box [S p0.f0, S p0.f1, I p0.f2, I p0.f3, I p0.f4, I p0.f5, I p0.f6, LL I p0.f7, I p0.f8, I p0.f9, I p0.f10, LL S p0.f11, B p0.f12] false)] 94) ?_
                refine eo 49 (I (lenL p0.f7)) (lenE 104 I p0.f7) ?_
                refine se (mkE [(1, .ba 8 0), (46, B (ltI 100 (lenL p0.f7)))] [(8, .box [S p0.f0, S p0.f1, I p0.f2, I p0.f3, I p0.f4, I p0.f5, I p0.f6, LL I p0.f7, I p0.f8, I p0.f9, I p0.f10, LL S p0.f11, B p0.f12] false)] 94) ?_
                refine pN ?_
                refine pS ?_
                refine gC 46 (ltI 100 (lenL p0.f7)) ?_ ?_
                · refine gS 0 ?_
                  refine gR 6 (rg Try.f162 6) ?_
                  refine se (mkE [(2, I 2)] [] 94) ?_
                  refine pN ?_
                  refine pS ?_
                  refine gE ?_
                  exact pL
                · refine gK ?_
                  refine pB ?_
                  refine pN ?_
                  refine pS ?_
                  refine gS 15 ?_
                  refine gS 8 ?_
                  refine gR 7 (rg Try.f162 7) ?_
                  refine sg 2 (mkE [(52, LL I p0.f7), (51, .ba 8 7), (1, .ba 8 0), (46, B (ltI 100 (lenL p0.f7)))] [(8, .box [S p0.f0, S p0.f1, I p0.f2, I p0.f3, I p0.f4, I p0.f5, I p0.f6, LL I p0.f7, I p0.f8, I p0.f9, I p0.f10, LL S p0.f11, B p0.f12] false)] 94) ?_
                  refine eo 53 (I (lenL p0.f7)) (lenE 104 I p0.f7) ?_
                  refine se (mkE [(1, .ba 8 0), (52, LL I p0.f7), (53, I (lenL p0.f7)), (54, I 0)] [(8, .box [S p0.f0, S p0.f1, I p0.f2, I p0.f3, I p0.f4, I p0.f5, I p0.f6, LL I p0.f7, I p0.f8, I p0.f9, I p0.f10, LL S p0.f11, B p0.f12] false)] 94) ?_
                  refine pN ?_
                  refine pS ?_
                  refine gB 1 ?_
                  refine lo [(1, none), (52, none), (53, none), (54, none)] [] (L162_8 p0) (fun z0 : Int => (mkE [(1, .ba 8 0), (52, LL I p0.f7), (53, I (lenL p0.f7)), (54, I z0)] [(8, .box [S p0.f0, S p0.f1, I p0.f2, I p0.f3, I p0.f4, I p0.f5, I p0.f6, LL I p0.f7, I p0.f8, I p0.f9, I p0.f10, LL S p0.f11, B p0.f12] false)] 94)) (Sum.elim (fun (x : (Int × Bool)) => (.exit 1, (mkE [(1, .ba 8 0), (52, LL I p0.f7), (53, I (lenL p0.f7)), (54, I x.1), (55, B x.2)] [(8, .box [S p0.f0, S p0.f1, I p0.f2, I p0.f3, I p0.f4, I p0.f5, I p0.f6, LL I p0.f7, I p0.f8, I p0.f9, I p0.f10, LL S p0.f11, B p0.f12] false)] 94))) (fun (x : Int) => (.ret, (mkE [(2, I x)] [] 94)))) 0 (fun z => L162_8_ok C h132 p0 z) ?_
                  intro y10
                  refine ss y10 (Z := (Sum.elim (fun (x : (Int × Bool)) => (.exit 1, (mkE [(1, .ba 8 0), (52, LL I p0.f7), (53, I (lenL p0.f7)), (54, I x.1), (55, B x.2)] [(8, .box [S p0.f0, S p0.f1, I p0.f2, I p0.f3, I p0.f4, I p0.f5, I p0.f6, LL I p0.f7, I p0.f8, I p0.f9, I p0.f10, LL S p0.f11, B p0.f12] false)] 94))) (fun (x : Int) => (.ret, (mkE [(2, I x)] [] 94))))) (fun y10a => ?_) (fun y10b => ?_)
                  · refine pH ?_
                    refine pN ?_
                    refine pS ?_
                    refine gS 17 ?_
                    refine gS 0 ?_
                    refine gR 15 (rg Try.f162 15) ?_
                    refine sg 2 (mkE [(76, I p0.f8), (75, .ba 8 8), (1, .ba 8 0), (52, LL I p0.f7), (53, I (lenL p0.f7)), (54, I y10a.1), (55, B y10a.2)] [(8, .box [S p0.f0, S p0.f1, I p0.f2, I p0.f3, I p0.f4, I p0.f5, I p0.f6, LL I p0.f7, I p0.f8, I p0.f9, I p0.f10, LL S p0.f11, B p0.f12] false)] 94) ?_
                    refine co 77 [] (h132 p0.f8 0 1439) (fun x11 => ?_)
                    refine sg 5 (mkE [(79, B (!x11)), (78, B (!x11)), (77, B x11), (76, I p0.f8), (75, .ba 8 8), (1, .ba 8 0), (52, LL I p0.f7), (53, I (lenL p0.f7)), (54, I y10a.1), (55, B y10a.2)] [(8, .box [S p0.f0, S p0.f1, I p0.f2, I p0.f3, I p0.f4, I p0.f5, I p0.f6, LL I p0.f7, I p0.f8, I p0.f9, I p0.f10, LL S p0.f11, B p0.f12] false)] 94) ?_
                    refine sb 79 (!x11) ?_ ?_
                    · refine se (mkE [(1, .ba 8 0), (90, B true)] [(8, .box [S p0.f0, S p0.f1, I p0.f2, I p0.f3, I p0.f4, I p0.f5, I p0.f6, LL I p0.f7, I p0.f8, I p0.f9, I p0.f10, LL S p0.f11, B p0.f12] false)] 94) ?_
                      refine pN ?_
                      refine pS ?_
                      refine gT (.tmp 90) ?_
                      refine gS 0 ?_
                      refine gR 16 (rg Try.f162 16) ?_
                      refine se (mkE [(2, I 1)] [] 94) ?_
                      refine pN ?_
                      refine pS ?_
                      refine gE ?_
                      exact pL
                    · refine sg 7 (mkE [(81, I p0.f9), (80, .ba 8 9), (79, B false), (79, B (!x11)), (78, B (!x11)), (77, B x11), (76, I p0.f8), (75, .ba 8 8), (1, .ba 8 0), (52, LL I p0.f7), (53, I (lenL p0.f7)), (54, I y10a.1), (55, B y10a.2)] [(8, .box [S p0.f0, S p0.f1, I p0.f2, I p0.f3, I p0.f4, I p0.f5, I p0.f6, LL I p0.f7, I p0.f8, I p0.f9, I p0.f10, LL S p0.f11, B p0.f12] false)] 94) ?_
                      refine co 82 [] (h132 p0.f9 0 1439) (fun x12 => ?_)
                      refine sg 11 (mkE [(85, B (!x12)), (84, B (!x12)), (83, B (!x12)), (82, B x12), (81, I p0.f9), (80, .ba 8 9), (79, B false), (79, B (!x11)), (78, B (!x11)), (77, B x11), (76, I p0.f8), (75, .ba 8 8), (1, .ba 8 0), (52, LL I p0.f7), (53, I (lenL p0.f7)), (54, I y10a.1), (55, B y10a.2)] [(8, .box [S p0.f0, S p0.f1, I p0.f2, I p0.f3, I p0.f4, I p0.f5, I p0.f6, LL I p0.f7, I p0.f8, I p0.f9, I p0.f10, LL S p0.f11, B p0.f12] false)] 94) ?_
                      refine sb 85 (!x12) ?_ ?_
                      · refine se (mkE [(1, .ba 8 0), (90, B true)] [(8, .box [S p0.f0, S p0.f1, I p0.f2, I p0.f3, I p0.f4, I p0.f5, I p0.f6, LL I p0.f7, I p0.f8, I p0.f9, I p0.f10, LL S p0.f11, B p0.f12] false)] 94) ?_
                        refine pN ?_
                        refine pS ?_
                        refine gT (.tmp 90) ?_
                        refine gS 0 ?_
                        refine gR 16 (rg Try.f162 16) ?_
                        refine se (mkE [(2, I 1)] [] 94) ?_
                        refine pN ?_
                        refine pS ?_
                        refine gE ?_
                        exact pL
                      · refine sg 13 (mkE [(87, I p0.f10), (86, .ba 8 10), (85, B false), (85, B (!x12)), (84, B (!x12)), (83, B (!x12)), (82, B x12), (81, I p0.f9), (80, .ba 8 9), (79, B false), (79, B (!x11)), (78, B (!x11)), (77, B x11), (76, I p0.f8), (75, .ba 8 8), (1, .ba 8 0), (52, LL I p0.f7), (53, I (lenL p0.f7)), (54, I y10a.1), (55, B y10a.2)] [(8, .box [S p0.f0, S p0.f1, I p0.f2, I p0.f3, I p0.f4, I p0.f5, I p0.f6, LL I p0.f7, I p0.f8, I p0.f9, I p0.f10, LL S p0.f11, B p0.f12] false)] 94) ?_
                        refine co 88 [] (h132 p0.f10 0 9) (fun x13 => ?_)
                        refine se (mkE [(1, .ba 8 0), (90, B (!x13))] [(8, .box [S p0.f0, S p0.f1, I p0.f2, I p0.f3, I p0.f4, I p0.f5, I p0.f6, LL I p0.f7, I p0.f8, I p0.f9, I p0.f10, LL S p0.f11, B p0.f12] false)] 94) ?_
                        refine pN ?_
                        refine pS ?_
                        refine gC 90 (!x13) ?_ ?_
                        · refine gS 0 ?_
                          refine gR 16 (rg Try.f162 16) ?_
                          refine se (mkE [(2, I 1)] [] 94) ?_
                          refine pN ?_
                          refine pS ?_
                          refine gE ?_
                          exact pL
                        · refine gK ?_
                          refine pN ?_
                          refine pS ?_
                          refine gS 0 ?_
                          refine gR 17 (rg Try.f162 17) ?_
                          refine sg 2 (mkE [(92, LL S p0.f11), (91, .ba 8 11), (1, .ba 8 0), (90, B (!x13))] [(8, .box [S p0.f0, S p0.f1, I p0.f2, I p0.f3, I p0.f4, I p0.f5, I p0.f6, LL I p0.f7, I p0.f8, I p0.f9, I p0.f10, LL S p0.f11, B p0.f12] false)] 94) ?_
                          refine co 93 [] (h149 p0.f11) (fun x14 => ?_)
                          refine se (mkE [(2, I x14)] [] 94) ?_
                          refine pN ?_
                          refine pS ?_
                          refine gE ?_
                          exact pL
                  · exact pL
theorem F162 (m : Nat) (hm : 7 ≤ m) (p0 : S105) : callA Try.prog cfg m 162 [a105 p0] = (T162 p0).map I := by
  obtain ⟨q, rfl⟩ : ∃ q, m = q + 1 := ⟨m - 1, by omega⟩
  exact (callA_body (fn := Try.f162) (c := body_ Try.f162) q _ (by kernel_rfl) (by kernel_rfl) (by kernel_rfl)).trans (B162 _ (fun p0 p1 p2 => F132 q (by omega) p0 p1 p2) (fun p0 => F149 q (by omega) p0) (fun p0 => F51 q (by omega) p0) p0)

noncomputable def L74_5 (p0 : (List S105)) (z0 : (ByteArray × Int)) : Option ((ByteArray × Int) ⊕ ((ByteArray × Int × Bool) ⊕ Int)) := (bif (ltI z0.2 (lenL p0)) then ((listAt p0 z0.2).bind fun x1 => ((T162 x1).bind fun x2 => (bif (neI x2 0) then (some (.inr (.inr x2))) else (bif (ltS x1.f0 z0.1 || eqS x1.f0 z0.1) then (some (.inr (.inr 7))) else (some (.inl (x1.f0, (addI .i64 z0.2 1)))))))) else (some (.inr (.inl (z0.1, z0.2, (ltI z0.2 (lenL p0)))))))
theorem L74_5_ok (C : Callee) (h162 : ∀ (p0 : S105), C 162 [a105 p0] = (T162 p0).map I) (p0 : (List S105)) (z0 : (ByteArray × Int)) : runs Try.prog C (cfg.fn 74) (finLoop ((cfg.fn 74).keep 5) ((cfg.fn 74).al 5)) [] (execA Try.prog C (cfg.fn 74) (nr Try.f74 [false, false, true, false, true, true, true]) ((fun z0 : (ByteArray × Int) => (mkE [(3, S z0.1), (10, LL a105 p0), (11, I (lenL p0)), (12, I z0.2)] [] 28)) z0)) = (L74_5 p0 z0).map (Sum.elim (fun z => .inl ((fun z0 : (ByteArray × Int) => (mkE [(3, S z0.1), (10, LL a105 p0), (11, I (lenL p0)), (12, I z0.2)] [] 28)) z)) (fun x => .inr ((Sum.elim (fun (x : (ByteArray × Int × Bool)) => (.exit 0, (mkE [(3, S x.1), (10, LL a105 p0), (11, I (lenL p0)), (12, I x.2.1), (13, B x.2.2)] [] 28))) (fun (x : Int) => (.ret, (mkE [(2, I x)] [] 28)))) x))) := by
  unfold L74_5
  refine gS 0 ?_
  refine gR 5 (rg Try.f74 5) ?_
  refine se (mkE [(3, S z0.1), (10, LL a105 p0), (11, I (lenL p0)), (12, I z0.2), (13, B (ltI z0.2 (lenL p0)))] [] 28) ?_
  refine pN ?_
  refine pS ?_
  refine gS 6 ?_
  refine gC 13 (ltI z0.2 (lenL p0)) ?_ ?_
  · refine gK ?_
    refine pN ?_
    refine pS ?_
    refine gS 13 ?_
    refine gB 1 ?_
    refine gS 7 ?_
    refine gR 6 (rg Try.f74 6) ?_
    refine vo 14 (addrE 40 106 13 a105 .i64 p0 z0.2) (fun x1 => ?_)
    refine se (mkE [(3, S z0.1), (5, .ba 40 0), (10, LL a105 p0), (11, I (lenL p0)), (12, I z0.2)] [(40, .box [S x1.f0, S x1.f1, I x1.f2, I x1.f3, I x1.f4, I x1.f5, I x1.f6, LL I x1.f7, I x1.f8, I x1.f9, I x1.f10, LL S x1.f11, B x1.f12] false)] 28) ?_
    refine pN ?_
    refine pS ?_
    refine gS 10 ?_
    refine gS 8 ?_
    refine gR 7 (rg Try.f74 7) ?_
    refine sg 1 (mkE [(16, a105 x1), (3, S z0.1), (5, .ba 40 0), (10, LL a105 p0), (11, I (lenL p0)), (12, I z0.2)] [(40, .box [S x1.f0, S x1.f1, I x1.f2, I x1.f3, I x1.f4, I x1.f5, I x1.f6, LL I x1.f7, I x1.f8, I x1.f9, I x1.f10, LL S x1.f11, B x1.f12] false)] 28) ?_
    refine co 17 [] (h162 x1) (fun x2 => ?_)
    refine se (mkE [(3, S z0.1), (5, .ba 40 0), (6, I x2), (10, LL a105 p0), (11, I (lenL p0)), (12, I z0.2)] [(40, .box [S x1.f0, S x1.f1, I x1.f2, I x1.f3, I x1.f4, I x1.f5, I x1.f6, LL I x1.f7, I x1.f8, I x1.f9, I x1.f10, LL S x1.f11, B x1.f12] false)] 28) ?_
    refine pN ?_
    refine pS ?_
    refine gS 0 ?_
    refine gR 8 (rg Try.f74 8) ?_
    refine se (mkE [(3, S z0.1), (5, .ba 40 0), (6, I x2), (10, LL a105 p0), (11, I (lenL p0)), (12, I z0.2), (19, B (neI x2 0))] [(40, .box [S x1.f0, S x1.f1, I x1.f2, I x1.f3, I x1.f4, I x1.f5, I x1.f6, LL I x1.f7, I x1.f8, I x1.f9, I x1.f10, LL S x1.f11, B x1.f12] false)] 28) ?_
    refine pN ?_
    refine pS ?_
    refine gC 19 (neI x2 0) ?_ ?_
    · refine gS 0 ?_
      refine gR 9 (rg Try.f74 9) ?_
      refine se (mkE [(2, I x2)] [] 28) ?_
      refine pN ?_
      refine pS ?_
      refine gE ?_
      exact pL
    · refine gK ?_
      refine pN ?_
      refine pS ?_
      refine gS 12 ?_
      refine gS 0 ?_
      refine gR 10 (rg Try.f74 10) ?_
      refine se (mkE [(5, .ba 40 0), (10, LL a105 p0), (11, I (lenL p0)), (12, I z0.2), (24, B (ltS x1.f0 z0.1 || eqS x1.f0 z0.1))] [(40, .box [S x1.f0, S x1.f1, I x1.f2, I x1.f3, I x1.f4, I x1.f5, I x1.f6, LL I x1.f7, I x1.f8, I x1.f9, I x1.f10, LL S x1.f11, B x1.f12] false)] 28) ?_
      refine pN ?_
      refine pS ?_
      refine gC 24 (ltS x1.f0 z0.1 || eqS x1.f0 z0.1) ?_ ?_
      · refine gS 0 ?_
        refine gR 11 (rg Try.f74 11) ?_
        refine se (mkE [(2, I 7)] [] 28) ?_
        refine pN ?_
        refine pS ?_
        refine gE ?_
        exact pL
      · refine gK ?_
        refine pN ?_
        refine pS ?_
        refine gR 12 (rg Try.f74 12) ?_
        refine se (mkE [(3, S x1.f0), (10, LL a105 p0), (11, I (lenL p0)), (12, I z0.2)] [] 28) ?_
        refine pB ?_
        refine pN ?_
        refine pS ?_
        refine gR 13 (rg Try.f74 13) ?_
        refine se (mkE [(3, S x1.f0), (10, LL a105 p0), (11, I (lenL p0)), (12, I (addI .i64 z0.2 1))] [] 28) ?_
        exact pL
  · refine gX 0 ?_
    exact pL
noncomputable def T74 (p0 : (List S105)) : Option Int := (bif (ltI 200 (lenL p0)) then (some 2) else ((iter (L74_5 p0) ((ByteArray.mk #[]), 0)).bind fun y3 => (Sum.elim (fun y3a => (some 0)) (fun y3b => (some y3b)) y3)))
theorem B74 (C : Callee) (h162 : ∀ (p0 : S105), C 162 [a105 p0] = (T162 p0).map I) (p0 : (List S105)) : runs Try.prog C (cfg.fn 74) (finFn Try.prog (cfg.fn 74).byval Try.f74) [] (execA Try.prog C (cfg.fn 74) (nr Try.f74 []) (frame0 [LL a105 p0] 28)) = (T74 p0).map I := by
  unfold T74
  refine gS 1 ?_
  refine gR 0 (rg Try.f74 0) ?_
  refine se (mkE [(0, LL a105 p0)] [] 28) ?_
  refine pN ?_
  refine pS ?_
  refine gS 3 ?_
  refine gS 0 ?_
  refine gR 1 (rg Try.f74 1) ?_
  refine sg 1 (mkE [(7, LL a105 p0), (0, LL a105 p0)] [] 28) ?_
  refine eo 8 (I (lenL p0)) (lenE 40 a105 p0) ?_
  refine se (mkE [(0, LL a105 p0), (9, B (ltI 200 (lenL p0)))] [] 28) ?_
  refine pN ?_
  refine pS ?_
  refine gC 9 (ltI 200 (lenL p0)) ?_ ?_
  · refine gS 0 ?_
    refine gR 2 (rg Try.f74 2) ?_
    refine se (mkE [(2, I 2)] [] 28) ?_
    refine pN ?_
    refine pS ?_
    refine gE ?_
    exact pL
  · refine gK ?_
    refine pN ?_
    refine pS ?_
    refine gS 4 ?_
    refine gR 3 (rg Try.f74 3) ?_
    refine se (mkE [(0, LL a105 p0), (3, S (ByteArray.mk #[]))] [] 28) ?_
    refine pN ?_
    refine pS ?_
    refine gS 14 ?_
    refine gS 5 ?_
    refine gR 4 (rg Try.f74 4) ?_
    refine sg 1 (mkE [(10, LL a105 p0), (0, LL a105 p0), (3, S (ByteArray.mk #[]))] [] 28) ?_
    refine eo 11 (I (lenL p0)) (lenE 40 a105 p0) ?_
    refine se (mkE [(3, S (ByteArray.mk #[])), (10, LL a105 p0), (11, I (lenL p0)), (12, I 0)] [] 28) ?_
    refine pN ?_
    refine pS ?_
    refine gB 0 ?_
    refine lo [(3, none), (10, none), (11, none), (12, none)] [] (L74_5 p0) (fun z0 : (ByteArray × Int) => (mkE [(3, S z0.1), (10, LL a105 p0), (11, I (lenL p0)), (12, I z0.2)] [] 28)) (Sum.elim (fun (x : (ByteArray × Int × Bool)) => (.exit 0, (mkE [(3, S x.1), (10, LL a105 p0), (11, I (lenL p0)), (12, I x.2.1), (13, B x.2.2)] [] 28))) (fun (x : Int) => (.ret, (mkE [(2, I x)] [] 28)))) ((ByteArray.mk #[]), 0) (fun z => L74_5_ok C h162 p0 z) ?_
    intro y3
    refine ss y3 (Z := (Sum.elim (fun (x : (ByteArray × Int × Bool)) => (.exit 0, (mkE [(3, S x.1), (10, LL a105 p0), (11, I (lenL p0)), (12, I x.2.1), (13, B x.2.2)] [] 28))) (fun (x : Int) => (.ret, (mkE [(2, I x)] [] 28))))) (fun y3a => ?_) (fun y3b => ?_)
    · refine pH ?_
      refine pN ?_
      refine pS ?_
      refine gS 0 ?_
      refine gR 14 (rg Try.f74 14) ?_
      refine se (mkE [(2, I 0)] [] 28) ?_
      refine pN ?_
      refine pS ?_
      refine gE ?_
      exact pL
    · exact pL
theorem F74 (m : Nat) (hm : 8 ≤ m) (p0 : (List S105)) : callA Try.prog cfg m 74 [LL a105 p0] = (T74 p0).map I := by
  obtain ⟨q, rfl⟩ : ∃ q, m = q + 1 := ⟨m - 1, by omega⟩
  exact (callA_body (fn := Try.f74) (c := body_ Try.f74) q _ (by kernel_rfl) (by kernel_rfl) (by kernel_rfl)).trans (B74 _ (fun p0 => F162 q (by omega) p0) p0)

noncomputable def T50 (p0 : Bool) (p1 : Int) : Option Int := (bif p0 then (some p1) else (some 0))
theorem B50 (C : Callee) (p0 : Bool) (p1 : Int) : runs Try.prog C (cfg.fn 50) (finFn Try.prog (cfg.fn 50).byval Try.f50) [] (execA Try.prog C (cfg.fn 50) (nr Try.f50 []) (frame0 [B p0, I p1] 7)) = (T50 p0 p1).map I := by
  unfold T50
  refine gS 1 ?_
  refine gR 0 (rg Try.f50 0) ?_
  refine se (mkE [(0, B p0), (1, I p1)] [] 7) ?_
  refine pN ?_
  refine pS ?_
  refine gS 3 ?_
  refine gS 0 ?_
  refine gR 1 (rg Try.f50 1) ?_
  refine se (mkE [(1, I p1), (5, B p0)] [] 7) ?_
  refine pN ?_
  refine pS ?_
  refine gC 5 p0 ?_ ?_
  · refine gS 0 ?_
    refine gR 2 (rg Try.f50 2) ?_
    refine se (mkE [(4, I p1)] [] 7) ?_
    refine pN ?_
    refine pS ?_
    refine gE ?_
    exact pL
  · refine gK ?_
    refine pN ?_
    refine pS ?_
    refine gS 0 ?_
    refine gR 3 (rg Try.f50 3) ?_
    refine se (mkE [(4, I 0)] [] 7) ?_
    refine pN ?_
    refine pS ?_
    refine gE ?_
    exact pL
theorem F50 (m : Nat) (hm : 1 ≤ m) (p0 : Bool) (p1 : Int) : callA Try.prog cfg m 50 [B p0, I p1] = (T50 p0 p1).map I := by
  obtain ⟨q, rfl⟩ : ∃ q, m = q + 1 := ⟨m - 1, by omega⟩
  exact (callA_body (fn := Try.f50) (c := body_ Try.f50) q _ (by kernel_rfl) (by kernel_rfl) (by kernel_rfl)).trans (B50 _ p0 p1)

noncomputable def T106 (p0 : S38) : Option Int := ((T132 p0.f0 0 p0.f1).bind fun x1 => (bif (!x1) then (some 1) else (bif (ltI 345686400000 p0.f1) then (some 1) else (some 0))))
theorem B106 (C : Callee) (h132 : ∀ (p0 : Int) (p1 : Int) (p2 : Int), C 132 [I p0, I p1, I p2] = (T132 p0 p1 p2).map B) (p0 : S38) : runs Try.prog C (cfg.fn 106) (finFn Try.prog (cfg.fn 106).byval Try.f106) [] (execA Try.prog C (cfg.fn 106) (nr Try.f106 []) (frame0 [a38 p0] 14)) = (T106 p0).map I := by
  unfold T106
  refine gS 1 ?_
  refine gR 0 (rg Try.f106 0) ?_
  refine se (mkE [(1, .ba 8 0)] [(8, .box [I p0.f0, I p0.f1] false)] 14) ?_
  refine pN ?_
  refine pS ?_
  refine gS 3 ?_
  refine gS 0 ?_
  refine gR 1 (rg Try.f106 1) ?_
  refine sg 4 (mkE [(6, I p0.f1), (5, .ba 8 1), (4, I p0.f0), (3, .ba 8 0), (1, .ba 8 0)] [(8, .box [I p0.f0, I p0.f1] false)] 14) ?_
  refine co 7 [] (h132 p0.f0 0 p0.f1) (fun x1 => ?_)
  refine sg 7 (mkE [(9, B (!x1)), (8, B (!x1)), (7, B x1), (6, I p0.f1), (5, .ba 8 1), (4, I p0.f0), (3, .ba 8 0), (1, .ba 8 0)] [(8, .box [I p0.f0, I p0.f1] false)] 14) ?_
  refine sb 9 (!x1) ?_ ?_
  · refine se (mkE [(13, B true)] [] 14) ?_
    refine pN ?_
    refine pS ?_
    refine gT (.tmp 13) ?_
    refine gS 0 ?_
    refine gR 2 (rg Try.f106 2) ?_
    refine se (mkE [(2, I 1)] [] 14) ?_
    refine pN ?_
    refine pS ?_
    refine gE ?_
    exact pL
  · refine se (mkE [(13, B (ltI 345686400000 p0.f1))] [] 14) ?_
    refine pN ?_
    refine pS ?_
    refine gC 13 (ltI 345686400000 p0.f1) ?_ ?_
    · refine gS 0 ?_
      refine gR 2 (rg Try.f106 2) ?_
      refine se (mkE [(2, I 1)] [] 14) ?_
      refine pN ?_
      refine pS ?_
      refine gE ?_
      exact pL
    · refine gK ?_
      refine pN ?_
      refine pS ?_
      refine gS 0 ?_
      refine gR 3 (rg Try.f106 3) ?_
      refine se (mkE [(2, I 0)] [] 14) ?_
      refine pN ?_
      refine pS ?_
      refine gE ?_
      exact pL
theorem F106 (m : Nat) (hm : 2 ≤ m) (p0 : S38) : callA Try.prog cfg m 106 [a38 p0] = (T106 p0).map I := by
  obtain ⟨q, rfl⟩ : ∃ q, m = q + 1 := ⟨m - 1, by omega⟩
  exact (callA_body (fn := Try.f106) (c := body_ Try.f106) q _ (by kernel_rfl) (by kernel_rfl) (by kernel_rfl)).trans (B106 _ (fun p0 p1 p2 => F132 q (by omega) p0 p1 p2) p0)

noncomputable def T75 (p0 : S38) : Option Int := ((T106 p0).bind fun x1 => (bif (neI x1 0) then (some x1) else (bif (ltI 34560000000 (subI .i64 p0.f1 p0.f0)) then (some 2) else (some 0))))
theorem B75 (C : Callee) (h106 : ∀ (p0 : S38), C 106 [a38 p0] = (T106 p0).map I) (p0 : S38) : runs Try.prog C (cfg.fn 75) (finFn Try.prog (cfg.fn 75).byval Try.f75) [] (execA Try.prog C (cfg.fn 75) (nr Try.f75 []) (frame0 [a38 p0] 15)) = (T75 p0).map I := by
  unfold T75
  refine gS 1 ?_
  refine gR 0 (rg Try.f75 0) ?_
  refine se (mkE [(1, .ba 8 0)] [(8, .box [I p0.f0, I p0.f1] false)] 15) ?_
  refine pN ?_
  refine pS ?_
  refine gS 4 ?_
  refine gS 2 ?_
  refine gR 1 (rg Try.f75 1) ?_
  refine sg 1 (mkE [(4, a38 p0), (1, .ba 8 0)] [(8, .box [I p0.f0, I p0.f1] false)] 15) ?_
  refine co 5 [] (h106 p0) (fun x1 => ?_)
  refine se (mkE [(1, .ba 8 0), (3, I x1)] [(8, .box [I p0.f0, I p0.f1] false)] 15) ?_
  refine pN ?_
  refine pS ?_
  refine gS 0 ?_
  refine gR 2 (rg Try.f75 2) ?_
  refine se (mkE [(1, .ba 8 0), (3, I x1), (7, B (neI x1 0))] [(8, .box [I p0.f0, I p0.f1] false)] 15) ?_
  refine pN ?_
  refine pS ?_
  refine gC 7 (neI x1 0) ?_ ?_
  · refine gS 0 ?_
    refine gR 3 (rg Try.f75 3) ?_
    refine se (mkE [(2, I x1)] [] 15) ?_
    refine pN ?_
    refine pS ?_
    refine gE ?_
    exact pL
  · refine gK ?_
    refine pN ?_
    refine pS ?_
    refine gS 6 ?_
    refine gS 0 ?_
    refine gR 4 (rg Try.f75 4) ?_
    refine se (mkE [(14, B (ltI 34560000000 (subI .i64 p0.f1 p0.f0)))] [] 15) ?_
    refine pN ?_
    refine pS ?_
    refine gC 14 (ltI 34560000000 (subI .i64 p0.f1 p0.f0)) ?_ ?_
    · refine gS 0 ?_
      refine gR 5 (rg Try.f75 5) ?_
      refine se (mkE [(2, I 2)] [] 15) ?_
      refine pN ?_
      refine pS ?_
      refine gE ?_
      exact pL
    · refine gK ?_
      refine pN ?_
      refine pS ?_
      refine gS 0 ?_
      refine gR 6 (rg Try.f75 6) ?_
      refine se (mkE [(2, I 0)] [] 15) ?_
      refine pN ?_
      refine pS ?_
      refine gE ?_
      exact pL
theorem F75 (m : Nat) (hm : 3 ≤ m) (p0 : S38) : callA Try.prog cfg m 75 [a38 p0] = (T75 p0).map I := by
  obtain ⟨q, rfl⟩ : ∃ q, m = q + 1 := ⟨m - 1, by omega⟩
  exact (callA_body (fn := Try.f75) (c := body_ Try.f75) q _ (by kernel_rfl) (by kernel_rfl) (by kernel_rfl)).trans (B75 _ (fun p0 => F106 q (by omega) p0) p0)

noncomputable def L49_2 (p0 : (List Int)) (z0 : Int) : Option (Int ⊕ ((Int × Bool) ⊕ Int)) := (bif (ltI z0 (lenL p0)) then ((listAt p0 z0).bind fun x1 => (bif (neI x1 0) then (some (.inr (.inr x1))) else (some (.inl (addI .i64 z0 1))))) else (some (.inr (.inl (z0, (ltI z0 (lenL p0)))))))
theorem L49_2_ok (C : Callee) (p0 : (List Int)) (z0 : Int) : runs Try.prog C (cfg.fn 49) (finLoop ((cfg.fn 49).keep 2) ((cfg.fn 49).al 2)) [] (execA Try.prog C (cfg.fn 49) (nr Try.f49 [false, false, true, false, true]) ((fun z0 : Int => (mkE [(5, LL I p0), (6, I (lenL p0)), (7, I z0)] [] 15)) z0)) = (L49_2 p0 z0).map (Sum.elim (fun z => .inl ((fun z0 : Int => (mkE [(5, LL I p0), (6, I (lenL p0)), (7, I z0)] [] 15)) z)) (fun x => .inr ((Sum.elim (fun (x : (Int × Bool)) => (.exit 0, (mkE [(5, LL I p0), (6, I (lenL p0)), (7, I x.1), (8, B x.2)] [] 15))) (fun (x : Int) => (.ret, (mkE [(2, I x)] [] 15)))) x))) := by
  unfold L49_2
  refine gS 0 ?_
  refine gR 2 (rg Try.f49 2) ?_
  refine se (mkE [(5, LL I p0), (6, I (lenL p0)), (7, I z0), (8, B (ltI z0 (lenL p0)))] [] 15) ?_
  refine pN ?_
  refine pS ?_
  refine gS 3 ?_
  refine gC 8 (ltI z0 (lenL p0)) ?_ ?_
  · refine gK ?_
    refine pN ?_
    refine pS ?_
    refine gS 6 ?_
    refine gB 1 ?_
    refine gS 4 ?_
    refine gR 3 (rg Try.f49 3) ?_
    refine vo 9 (addrE 189 69 1 I .i64 p0 z0) (fun x1 => ?_)
    refine se (mkE [(4, I x1), (5, LL I p0), (6, I (lenL p0)), (7, I z0)] [] 15) ?_
    refine pN ?_
    refine pS ?_
    refine gS 0 ?_
    refine gR 4 (rg Try.f49 4) ?_
    refine se (mkE [(4, I x1), (5, LL I p0), (6, I (lenL p0)), (7, I z0), (12, B (neI x1 0))] [] 15) ?_
    refine pN ?_
    refine pS ?_
    refine gC 12 (neI x1 0) ?_ ?_
    · refine gS 0 ?_
      refine gR 5 (rg Try.f49 5) ?_
      refine se (mkE [(2, I x1)] [] 15) ?_
      refine pN ?_
      refine pS ?_
      refine gE ?_
      exact pL
    · refine gK ?_
      refine pB ?_
      refine pN ?_
      refine pS ?_
      refine gR 6 (rg Try.f49 6) ?_
      refine se (mkE [(5, LL I p0), (6, I (lenL p0)), (7, I (addI .i64 z0 1))] [] 15) ?_
      exact pL
  · refine gX 0 ?_
    exact pL
noncomputable def T49 (p0 : (List Int)) : Option Int := ((iter (L49_2 p0) 0).bind fun y2 => (Sum.elim (fun y2a => (some 0)) (fun y2b => (some y2b)) y2))
theorem B49 (C : Callee) (p0 : (List Int)) : runs Try.prog C (cfg.fn 49) (finFn Try.prog (cfg.fn 49).byval Try.f49) [] (execA Try.prog C (cfg.fn 49) (nr Try.f49 []) (frame0 [LL I p0] 15)) = (T49 p0).map I := by
  unfold T49
  refine gS 1 ?_
  refine gR 0 (rg Try.f49 0) ?_
  refine se (mkE [(0, LL I p0)] [] 15) ?_
  refine pN ?_
  refine pS ?_
  refine gS 7 ?_
  refine gS 2 ?_
  refine gR 1 (rg Try.f49 1) ?_
  refine sg 1 (mkE [(5, LL I p0), (0, LL I p0)] [] 15) ?_
  refine eo 6 (I (lenL p0)) (lenE 189 I p0) ?_
  refine se (mkE [(5, LL I p0), (6, I (lenL p0)), (7, I 0)] [] 15) ?_
  refine pN ?_
  refine pS ?_
  refine gB 0 ?_
  refine lo [(5, none), (6, none), (7, none)] [] (L49_2 p0) (fun z0 : Int => (mkE [(5, LL I p0), (6, I (lenL p0)), (7, I z0)] [] 15)) (Sum.elim (fun (x : (Int × Bool)) => (.exit 0, (mkE [(5, LL I p0), (6, I (lenL p0)), (7, I x.1), (8, B x.2)] [] 15))) (fun (x : Int) => (.ret, (mkE [(2, I x)] [] 15)))) 0 (fun z => L49_2_ok C p0 z) ?_
  intro y2
  refine ss y2 (Z := (Sum.elim (fun (x : (Int × Bool)) => (.exit 0, (mkE [(5, LL I p0), (6, I (lenL p0)), (7, I x.1), (8, B x.2)] [] 15))) (fun (x : Int) => (.ret, (mkE [(2, I x)] [] 15))))) (fun y2a => ?_) (fun y2b => ?_)
  · refine pH ?_
    refine pN ?_
    refine pS ?_
    refine gS 0 ?_
    refine gR 7 (rg Try.f49 7) ?_
    refine se (mkE [(2, I 0)] [] 15) ?_
    refine pN ?_
    refine pS ?_
    refine gE ?_
    exact pL
  · exact pL
theorem F49 (m : Nat) (hm : 1 ≤ m) (p0 : (List Int)) : callA Try.prog cfg m 49 [LL I p0] = (T49 p0).map I := by
  obtain ⟨q, rfl⟩ : ∃ q, m = q + 1 := ⟨m - 1, by omega⟩
  exact (callA_body (fn := Try.f49) (c := body_ Try.f49) q _ (by kernel_rfl) (by kernel_rfl) (by kernel_rfl)).trans (B49 _ p0)

noncomputable def T76 (p0 : S36) : Option Int := ((T51 p0.f0).bind fun x1 => (bif (!x1) then (some 5) else ((T51 p0.f1).bind fun x2 => (bif (!x2) then (some 5) else ((T132 p0.f2 (-1440) 1440).bind fun x3 => (bif (!x3) then (some 1) else ((T149 p0.f3).bind fun x4 => (some x4))))))))
theorem B76 (C : Callee) (h132 : ∀ (p0 : Int) (p1 : Int) (p2 : Int), C 132 [I p0, I p1, I p2] = (T132 p0 p1 p2).map B) (h149 : ∀ (p0 : (List ByteArray)), C 149 [LL S p0] = (T149 p0).map I) (h51 : ∀ (p0 : ByteArray), C 51 [S p0] = (T51 p0).map B) (p0 : S36) : runs Try.prog C (cfg.fn 76) (finFn Try.prog (cfg.fn 76).byval Try.f76) [] (execA Try.prog C (cfg.fn 76) (nr Try.f76 []) (frame0 [a36 p0] 22)) = (T76 p0).map I := by
  unfold T76
  refine gS 1 ?_
  refine gR 0 (rg Try.f76 0) ?_
  refine se (mkE [(1, .ba 8 0)] [(8, .box [S p0.f0, S p0.f1, I p0.f2, LL S p0.f3] false)] 22) ?_
  refine pN ?_
  refine pS ?_
  refine gS 5 ?_
  refine gB 0 ?_
  refine gS 0 ?_
  refine gR 1 (rg Try.f76 1) ?_
  refine sg 2 (mkE [(5, S p0.f0), (4, .ba 8 0), (1, .ba 8 0)] [(8, .box [S p0.f0, S p0.f1, I p0.f2, LL S p0.f3] false)] 22) ?_
  refine co 6 [] (h51 p0.f0) (fun x1 => ?_)
  refine sg 5 (mkE [(8, B (!x1)), (7, B (!x1)), (6, B x1), (5, S p0.f0), (4, .ba 8 0), (1, .ba 8 0)] [(8, .box [S p0.f0, S p0.f1, I p0.f2, LL S p0.f3] false)] 22) ?_
  refine sb 8 (!x1) ?_ ?_
  · refine se (mkE [(1, .ba 8 0), (3, B true)] [(8, .box [S p0.f0, S p0.f1, I p0.f2, LL S p0.f3] false)] 22) ?_
    refine pN ?_
    refine pS ?_
    refine gT (.tmp 3) ?_
    refine gS 0 ?_
    refine gR 2 (rg Try.f76 2) ?_
    refine se (mkE [(2, I 5)] [] 22) ?_
    refine pN ?_
    refine pS ?_
    refine gE ?_
    exact pL
  · refine sg 7 (mkE [(10, S p0.f1), (9, .ba 8 1), (8, B false), (8, B (!x1)), (7, B (!x1)), (6, B x1), (5, S p0.f0), (4, .ba 8 0), (1, .ba 8 0)] [(8, .box [S p0.f0, S p0.f1, I p0.f2, LL S p0.f3] false)] 22) ?_
    refine co 11 [] (h51 p0.f1) (fun x2 => ?_)
    refine se (mkE [(1, .ba 8 0), (3, B (!x2))] [(8, .box [S p0.f0, S p0.f1, I p0.f2, LL S p0.f3] false)] 22) ?_
    refine pN ?_
    refine pS ?_
    refine gC 3 (!x2) ?_ ?_
    · refine gS 0 ?_
      refine gR 2 (rg Try.f76 2) ?_
      refine se (mkE [(2, I 5)] [] 22) ?_
      refine pN ?_
      refine pS ?_
      refine gE ?_
      exact pL
    · refine gS 0 ?_
      refine gR 3 (rg Try.f76 3) ?_
      refine sg 2 (mkE [(16, I p0.f2), (15, .ba 8 2), (1, .ba 8 0), (3, B (!x2))] [(8, .box [S p0.f0, S p0.f1, I p0.f2, LL S p0.f3] false)] 22) ?_
      refine co 17 [] (h132 p0.f2 (-1440) 1440) (fun x3 => ?_)
      refine se (mkE [(1, .ba 8 0), (14, B (!x3))] [(8, .box [S p0.f0, S p0.f1, I p0.f2, LL S p0.f3] false)] 22) ?_
      refine pN ?_
      refine pS ?_
      refine gC 14 (!x3) ?_ ?_
      · refine gS 0 ?_
        refine gR 4 (rg Try.f76 4) ?_
        refine se (mkE [(2, I 1)] [] 22) ?_
        refine pN ?_
        refine pS ?_
        refine gE ?_
        exact pL
      · refine gK ?_
        refine pB ?_
        refine pN ?_
        refine pS ?_
        refine gS 0 ?_
        refine gR 5 (rg Try.f76 5) ?_
        refine sg 2 (mkE [(20, LL S p0.f3), (19, .ba 8 3), (1, .ba 8 0), (14, B (!x3))] [(8, .box [S p0.f0, S p0.f1, I p0.f2, LL S p0.f3] false)] 22) ?_
        refine co 21 [] (h149 p0.f3) (fun x4 => ?_)
        refine se (mkE [(2, I x4)] [] 22) ?_
        refine pN ?_
        refine pS ?_
        refine gE ?_
        exact pL
theorem F76 (m : Nat) (hm : 7 ≤ m) (p0 : S36) : callA Try.prog cfg m 76 [a36 p0] = (T76 p0).map I := by
  obtain ⟨q, rfl⟩ : ∃ q, m = q + 1 := ⟨m - 1, by omega⟩
  exact (callA_body (fn := Try.f76) (c := body_ Try.f76) q _ (by kernel_rfl) (by kernel_rfl) (by kernel_rfl)).trans (B76 _ (fun p0 p1 p2 => F132 q (by omega) p0 p1 p2) (fun p0 => F149 q (by omega) p0) (fun p0 => F51 q (by omega) p0) p0)

noncomputable def T163 (p0 : S105) (p1 : Int) (p2 : Int) : Option S38 := (bif (leI p0.f9 p0.f8) then (some (S38.mk (addI .i64 (subI .i64 (mulI .i64 p2 86400000) (mulI .i64 p1 60000)) (mulI .i64 p0.f8 60000)) (addI .i64 (subI .i64 (mulI .i64 p2 86400000) (mulI .i64 p1 60000)) (mulI .i64 (addI .i64 p0.f9 1440) 60000)))) else (some (S38.mk (addI .i64 (subI .i64 (mulI .i64 p2 86400000) (mulI .i64 p1 60000)) (mulI .i64 p0.f8 60000)) (addI .i64 (subI .i64 (mulI .i64 p2 86400000) (mulI .i64 p1 60000)) (mulI .i64 p0.f9 60000)))))
theorem B163 (C : Callee) (p0 : S105) (p1 : Int) (p2 : Int) : runs Try.prog C (cfg.fn 163) (finFn Try.prog (cfg.fn 163).byval Try.f163) [] (execA Try.prog C (cfg.fn 163) (nr Try.f163 []) (frame0 [a105 p0, I p1, I p2] 32)) = (T163 p0 p1 p2).map a38 := by
  unfold T163
  refine gS 1 ?_
  refine gR 0 (rg Try.f163 0) ?_
  refine se (mkE [(1, I p1), (2, I p2), (3, .ba 24 0), (6, .ba 48 0)] [(24, .box [S p0.f0, S p0.f1, I p0.f2, I p0.f3, I p0.f4, I p0.f5, I p0.f6, LL I p0.f7, I p0.f8, I p0.f9, I p0.f10, LL S p0.f11, B p0.f12] false), (48, .box [I 0, I 0] false)] 32) ?_
  refine pN ?_
  refine pS ?_
  refine gS 2 ?_
  refine gR 1 (rg Try.f163 1) ?_
  refine se (mkE [(1, I p1), (2, I p2), (3, .ba 24 0), (6, .ba 48 0), (7, I p0.f9)] [(24, .box [S p0.f0, S p0.f1, I p0.f2, I p0.f3, I p0.f4, I p0.f5, I p0.f6, LL I p0.f7, I p0.f8, I p0.f9, I p0.f10, LL S p0.f11, B p0.f12] false), (48, .box [I 0, I 0] false)] 32) ?_
  refine pN ?_
  refine pS ?_
  refine gS 4 ?_
  refine gS 0 ?_
  refine gR 2 (rg Try.f163 2) ?_
  refine se (mkE [(1, I p1), (2, I p2), (3, .ba 24 0), (6, .ba 48 0), (7, I p0.f9), (14, B (leI p0.f9 p0.f8))] [(24, .box [S p0.f0, S p0.f1, I p0.f2, I p0.f3, I p0.f4, I p0.f5, I p0.f6, LL I p0.f7, I p0.f8, I p0.f9, I p0.f10, LL S p0.f11, B p0.f12] false), (48, .box [I 0, I 0] false)] 32) ?_
  refine pN ?_
  refine pS ?_
  refine gC 14 (leI p0.f9 p0.f8) ?_ ?_
  · refine gR 3 (rg Try.f163 3) ?_
    refine se (mkE [(1, I p1), (2, I p2), (3, .ba 24 0), (6, .ba 48 0), (7, I (addI .i64 p0.f9 1440))] [(24, .box [S p0.f0, S p0.f1, I p0.f2, I p0.f3, I p0.f4, I p0.f5, I p0.f6, LL I p0.f7, I p0.f8, I p0.f9, I p0.f10, LL S p0.f11, B p0.f12] false), (48, .box [I 0, I 0] false)] 32) ?_
    refine pN ?_
    refine pS ?_
    refine gS 5 ?_
    refine gR 4 (rg Try.f163 4) ?_
    refine se (mkE [(3, .ba 24 0), (6, .ba 48 0), (7, I (addI .i64 p0.f9 1440)), (8, I (subI .i64 (mulI .i64 p2 86400000) (mulI .i64 p1 60000)))] [(24, .box [S p0.f0, S p0.f1, I p0.f2, I p0.f3, I p0.f4, I p0.f5, I p0.f6, LL I p0.f7, I p0.f8, I p0.f9, I p0.f10, LL S p0.f11, B p0.f12] false), (48, .box [I 0, I 0] false)] 32) ?_
    refine pN ?_
    refine pS ?_
    refine gS 0 ?_
    refine gR 5 (rg Try.f163 5) ?_
    refine se (mkE [(6, .ba 48 0)] [(48, .box [I (addI .i64 (subI .i64 (mulI .i64 p2 86400000) (mulI .i64 p1 60000)) (mulI .i64 p0.f8 60000)), I (addI .i64 (subI .i64 (mulI .i64 p2 86400000) (mulI .i64 p1 60000)) (mulI .i64 (addI .i64 p0.f9 1440) 60000))] false)] 32) ?_
    refine pN ?_
    refine pS ?_
    refine gE ?_
    exact pL
  · refine gK ?_
    refine pN ?_
    refine pS ?_
    refine gS 5 ?_
    refine gR 4 (rg Try.f163 4) ?_
    refine se (mkE [(3, .ba 24 0), (6, .ba 48 0), (7, I p0.f9), (8, I (subI .i64 (mulI .i64 p2 86400000) (mulI .i64 p1 60000)))] [(24, .box [S p0.f0, S p0.f1, I p0.f2, I p0.f3, I p0.f4, I p0.f5, I p0.f6, LL I p0.f7, I p0.f8, I p0.f9, I p0.f10, LL S p0.f11, B p0.f12] false), (48, .box [I 0, I 0] false)] 32) ?_
    refine pN ?_
    refine pS ?_
    refine gS 0 ?_
    refine gR 5 (rg Try.f163 5) ?_
    refine se (mkE [(6, .ba 48 0)] [(48, .box [I (addI .i64 (subI .i64 (mulI .i64 p2 86400000) (mulI .i64 p1 60000)) (mulI .i64 p0.f8 60000)), I (addI .i64 (subI .i64 (mulI .i64 p2 86400000) (mulI .i64 p1 60000)) (mulI .i64 p0.f9 60000))] false)] 32) ?_
    refine pN ?_
    refine pS ?_
    refine gE ?_
    exact pL
theorem F163 (m : Nat) (hm : 1 ≤ m) (p0 : S105) (p1 : Int) (p2 : Int) : callA Try.prog cfg m 163 [a105 p0, I p1, I p2] = (T163 p0 p1 p2).map a38 := by
  obtain ⟨q, rfl⟩ : ∃ q, m = q + 1 := ⟨m - 1, by omega⟩
  exact (callA_body (fn := Try.f163) (c := body_ Try.f163) q _ (by kernel_rfl) (by kernel_rfl) (by kernel_rfl)).trans (B163 _ p0 p1 p2)

noncomputable def L249_2 (p0 : (List Int)) (p1 : Int) (z0 : Int) : Option (Int ⊕ ((Int × Bool) ⊕ Int)) := (bif (ltI z0 (lenL p0)) then ((listAt p0 z0).bind fun x1 => (bif (eqI p1 x1) then (some (.inr (.inr z0))) else (some (.inl (addI .i64 z0 1))))) else (some (.inr (.inl (z0, (ltI z0 (lenL p0)))))))
theorem L249_2_ok (C : Callee) (p0 : (List Int)) (p1 : Int) (z0 : Int) : runs Try.prog C (cfg.fn 249) (finLoop ((cfg.fn 249).keep 2) ((cfg.fn 249).al 2)) [] (execA Try.prog C (cfg.fn 249) (nr Try.f249 [false, false, true, false, true]) ((fun z0 : Int => (mkE [(0, LL I p0), (1, I p1), (7, I (lenL p0)), (8, I z0)] [] 19)) z0)) = (L249_2 p0 p1 z0).map (Sum.elim (fun z => .inl ((fun z0 : Int => (mkE [(0, LL I p0), (1, I p1), (7, I (lenL p0)), (8, I z0)] [] 19)) z)) (fun x => .inr ((Sum.elim (fun (x : (Int × Bool)) => (.exit 0, (mkE [(0, LL I p0), (1, I p1), (7, I (lenL p0)), (8, I x.1), (9, B x.2)] [] 19))) (fun (x : Int) => (.ret, (mkE [(4, I x)] [] 19)))) x))) := by
  unfold L249_2
  refine gS 0 ?_
  refine gR 2 (rg Try.f249 2) ?_
  refine se (mkE [(0, LL I p0), (1, I p1), (7, I (lenL p0)), (8, I z0), (9, B (ltI z0 (lenL p0)))] [] 19) ?_
  refine pN ?_
  refine pS ?_
  refine gS 3 ?_
  refine gC 9 (ltI z0 (lenL p0)) ?_ ?_
  · refine gK ?_
    refine pN ?_
    refine pS ?_
    refine gS 6 ?_
    refine gB 1 ?_
    refine gS 4 ?_
    refine gR 3 (rg Try.f249 3) ?_
    refine se (mkE [(0, LL I p0), (1, I p1), (5, I z0), (7, I (lenL p0)), (8, I z0)] [] 19) ?_
    refine pN ?_
    refine pS ?_
    refine gS 0 ?_
    refine gR 4 (rg Try.f249 4) ?_
    refine sg 3 (mkE [(13, I z0), (12, LL I p0), (11, I p1), (0, LL I p0), (1, I p1), (5, I z0), (7, I (lenL p0)), (8, I z0)] [] 19) ?_
    refine vo 14 (addrE 104 3 1 I .i64 p0 z0) (fun x1 => ?_)
    refine se (mkE [(0, LL I p0), (1, I p1), (5, I z0), (7, I (lenL p0)), (8, I z0), (16, B (eqI p1 x1))] [] 19) ?_
    refine pN ?_
    refine pS ?_
    refine gC 16 (eqI p1 x1) ?_ ?_
    · refine gS 0 ?_
      refine gR 5 (rg Try.f249 5) ?_
      refine se (mkE [(4, I z0)] [] 19) ?_
      refine pN ?_
      refine pS ?_
      refine gE ?_
      exact pL
    · refine gK ?_
      refine pB ?_
      refine pN ?_
      refine pS ?_
      refine gR 6 (rg Try.f249 6) ?_
      refine se (mkE [(0, LL I p0), (1, I p1), (7, I (lenL p0)), (8, I (addI .i64 z0 1))] [] 19) ?_
      exact pL
  · refine gX 0 ?_
    exact pL
noncomputable def T249 (p0 : (List Int)) (p1 : Int) : Option Int := ((iter (L249_2 p0 p1) 0).bind fun y2 => (Sum.elim (fun y2a => (some (-1))) (fun y2b => (some y2b)) y2))
theorem B249 (C : Callee) (p0 : (List Int)) (p1 : Int) : runs Try.prog C (cfg.fn 249) (finFn Try.prog (cfg.fn 249).byval Try.f249) [] (execA Try.prog C (cfg.fn 249) (nr Try.f249 []) (frame0 [LL I p0, I p1] 19)) = (T249 p0 p1).map I := by
  unfold T249
  refine gS 1 ?_
  refine gR 0 (rg Try.f249 0) ?_
  refine se (mkE [(0, LL I p0), (1, I p1)] [] 19) ?_
  refine pN ?_
  refine pS ?_
  refine gS 7 ?_
  refine gS 2 ?_
  refine gR 1 (rg Try.f249 1) ?_
  refine sg 1 (mkE [(6, LL I p0), (0, LL I p0), (1, I p1)] [] 19) ?_
  refine eo 7 (I (lenL p0)) (lenE 104 I p0) ?_
  refine se (mkE [(0, LL I p0), (1, I p1), (7, I (lenL p0)), (8, I 0)] [] 19) ?_
  refine pN ?_
  refine pS ?_
  refine gB 0 ?_
  refine lo [(0, none), (1, none), (7, none), (8, none)] [] (L249_2 p0 p1) (fun z0 : Int => (mkE [(0, LL I p0), (1, I p1), (7, I (lenL p0)), (8, I z0)] [] 19)) (Sum.elim (fun (x : (Int × Bool)) => (.exit 0, (mkE [(0, LL I p0), (1, I p1), (7, I (lenL p0)), (8, I x.1), (9, B x.2)] [] 19))) (fun (x : Int) => (.ret, (mkE [(4, I x)] [] 19)))) 0 (fun z => L249_2_ok C p0 p1 z) ?_
  intro y2
  refine ss y2 (Z := (Sum.elim (fun (x : (Int × Bool)) => (.exit 0, (mkE [(0, LL I p0), (1, I p1), (7, I (lenL p0)), (8, I x.1), (9, B x.2)] [] 19))) (fun (x : Int) => (.ret, (mkE [(4, I x)] [] 19))))) (fun y2a => ?_) (fun y2b => ?_)
  · refine pH ?_
    refine pN ?_
    refine pS ?_
    refine gS 0 ?_
    refine gR 7 (rg Try.f249 7) ?_
    refine se (mkE [(4, I (-1))] [] 19) ?_
    refine pN ?_
    refine pS ?_
    refine gE ?_
    exact pL
  · exact pL
theorem F249 (m : Nat) (hm : 1 ≤ m) (p0 : (List Int)) (p1 : Int) : callA Try.prog cfg m 249 [LL I p0, I p1] = (T249 p0 p1).map I := by
  obtain ⟨q, rfl⟩ : ∃ q, m = q + 1 := ⟨m - 1, by omega⟩
  exact (callA_body (fn := Try.f249) (c := body_ Try.f249) q _ (by kernel_rfl) (by kernel_rfl) (by kernel_rfl)).trans (B249 _ p0 p1)

noncomputable def T209 (p0 : (List Int)) (p1 : Int) : Option Bool := ((T249 p0 p1).bind fun x1 => (some (leI 0 x1)))
theorem B209 (C : Callee) (h249 : ∀ (p0 : (List Int)) (p1 : Int), C 249 [LL I p0, I p1] = (T249 p0 p1).map I) (p0 : (List Int)) (p1 : Int) : runs Try.prog C (cfg.fn 209) (finFn Try.prog (cfg.fn 209).byval Try.f209) [] (execA Try.prog C (cfg.fn 209) (nr Try.f209 []) (frame0 [LL I p0, I p1] 9)) = (T209 p0 p1).map B := by
  unfold T209
  refine gS 1 ?_
  refine gR 0 (rg Try.f209 0) ?_
  refine se (mkE [(0, LL I p0), (1, I p1)] [] 9) ?_
  refine pN ?_
  refine pS ?_
  refine gS 0 ?_
  refine gR 1 (rg Try.f209 1) ?_
  refine sg 2 (mkE [(6, I p1), (5, LL I p0), (0, LL I p0), (1, I p1)] [] 9) ?_
  refine co 7 [] (h249 p0 p1) (fun x1 => ?_)
  refine se (mkE [(4, B (leI 0 x1))] [] 9) ?_
  refine pN ?_
  refine pS ?_
  refine gE ?_
  exact pL
theorem F209 (m : Nat) (hm : 2 ≤ m) (p0 : (List Int)) (p1 : Int) : callA Try.prog cfg m 209 [LL I p0, I p1] = (T209 p0 p1).map B := by
  obtain ⟨q, rfl⟩ : ∃ q, m = q + 1 := ⟨m - 1, by omega⟩
  exact (callA_body (fn := Try.f209) (c := body_ Try.f209) q _ (by kernel_rfl) (by kernel_rfl) (by kernel_rfl)).trans (B209 _ (fun p0 p1 => F249 q (by omega) p0 p1) p0 p1)

noncomputable def T164 (p0 : S105) (p1 : Int) : Option Bool := ((T132 p1 p0.f3 p0.f4).bind fun x1 => (bif x1 then ((remO .i64 (subI .i64 p1 p0.f3) p0.f5).bind fun x2 => (bif (eqI x2 0) then ((shrO .i64 p0.f6 (remI .i64 p1 7)).bind fun x3 => (bif (eqI (bitI .and .i64 x3 1) 1) then ((T209 p0.f7 p1).bind fun x4 => (some (!x4))) else (some false))) else (some false))) else (some false)))
theorem B164 (C : Callee) (h132 : ∀ (p0 : Int) (p1 : Int) (p2 : Int), C 132 [I p0, I p1, I p2] = (T132 p0 p1 p2).map B) (h209 : ∀ (p0 : (List Int)) (p1 : Int), C 209 [LL I p0, I p1] = (T209 p0 p1).map B) (p0 : S105) (p1 : Int) : runs Try.prog C (cfg.fn 164) (finFn Try.prog (cfg.fn 164).byval Try.f164) [] (execA Try.prog C (cfg.fn 164) (nr Try.f164 []) (frame0 [a105 p0, I p1] 37)) = (T164 p0 p1).map B := by
  unfold T164
  refine gS 1 ?_
  refine gR 0 (rg Try.f164 0) ?_
  refine se (mkE [(1, I p1), (2, .ba 16 0)] [(16, .box [S p0.f0, S p0.f1, I p0.f2, I p0.f3, I p0.f4, I p0.f5, I p0.f6, LL I p0.f7, I p0.f8, I p0.f9, I p0.f10, LL S p0.f11, B p0.f12] false)] 37) ?_
  refine pN ?_
  refine pS ?_
  refine gS 0 ?_
  refine gR 1 (rg Try.f164 1) ?_
  refine sg 5 (mkE [(9, I p0.f4), (8, .ba 16 4), (7, I p0.f3), (6, .ba 16 3), (5, I p1), (1, I p1), (2, .ba 16 0)] [(16, .box [S p0.f0, S p0.f1, I p0.f2, I p0.f3, I p0.f4, I p0.f5, I p0.f6, LL I p0.f7, I p0.f8, I p0.f9, I p0.f10, LL S p0.f11, B p0.f12] false)] 37) ?_
  refine co 10 [] (h132 p1 p0.f3 p0.f4) (fun x1 => ?_)
  refine sg 7 (mkE [(11, B x1), (10, B x1), (9, I p0.f4), (8, .ba 16 4), (7, I p0.f3), (6, .ba 16 3), (5, I p1), (1, I p1), (2, .ba 16 0)] [(16, .box [S p0.f0, S p0.f1, I p0.f2, I p0.f3, I p0.f4, I p0.f5, I p0.f6, LL I p0.f7, I p0.f8, I p0.f9, I p0.f10, LL S p0.f11, B p0.f12] false)] 37) ?_
  refine sb 11 x1 ?_ ?_
  · refine sg 13 (mkE [(17, I p0.f5), (16, .ba 16 5), (15, I (subI .i64 p1 p0.f3)), (14, I p0.f3), (13, .ba 16 3), (12, I p1), (11, B true), (11, B x1), (10, B x1), (9, I p0.f4), (8, .ba 16 4), (7, I p0.f3), (6, .ba 16 3), (5, I p1), (1, I p1), (2, .ba 16 0)] [(16, .box [S p0.f0, S p0.f1, I p0.f2, I p0.f3, I p0.f4, I p0.f5, I p0.f6, LL I p0.f7, I p0.f8, I p0.f9, I p0.f10, LL S p0.f11, B p0.f12] false)] 37) ?_
    refine vo 18 (remE 3 .i64 (.tmp 15) (.tmp 17) (subI .i64 p1 p0.f3) p0.f5) (fun x2 => ?_)
    refine sg 17 (mkE [(21, B (eqI x2 0)), (20, B (eqI x2 0)), (19, B (eqI x2 0)), (18, I x2), (17, I p0.f5), (16, .ba 16 5), (15, I (subI .i64 p1 p0.f3)), (14, I p0.f3), (13, .ba 16 3), (12, I p1), (11, B true), (11, B x1), (10, B x1), (9, I p0.f4), (8, .ba 16 4), (7, I p0.f3), (6, .ba 16 3), (5, I p1), (1, I p1), (2, .ba 16 0)] [(16, .box [S p0.f0, S p0.f1, I p0.f2, I p0.f3, I p0.f4, I p0.f5, I p0.f6, LL I p0.f7, I p0.f8, I p0.f9, I p0.f10, LL S p0.f11, B p0.f12] false)] 37) ?_
    refine sb 21 (eqI x2 0) ?_ ?_
    · refine sg 21 (mkE [(25, I (remI .i64 p1 7)), (24, I p1), (23, I p0.f6), (22, .ba 16 6), (21, B true), (21, B (eqI x2 0)), (20, B (eqI x2 0)), (19, B (eqI x2 0)), (18, I x2), (17, I p0.f5), (16, .ba 16 5), (15, I (subI .i64 p1 p0.f3)), (14, I p0.f3), (13, .ba 16 3), (12, I p1), (11, B true), (11, B x1), (10, B x1), (9, I p0.f4), (8, .ba 16 4), (7, I p0.f3), (6, .ba 16 3), (5, I p1), (1, I p1), (2, .ba 16 0)] [(16, .box [S p0.f0, S p0.f1, I p0.f2, I p0.f3, I p0.f4, I p0.f5, I p0.f6, LL I p0.f7, I p0.f8, I p0.f9, I p0.f10, LL S p0.f11, B p0.f12] false)] 37) ?_
      refine vo 26 (shrE 3 .i64 .i64 (.tmp 23) (.tmp 25) p0.f6 (remI .i64 p1 7)) (fun x3 => ?_)
      refine sg 26 (mkE [(30, B (eqI (bitI .and .i64 x3 1) 1)), (29, B (eqI (bitI .and .i64 x3 1) 1)), (28, B (eqI (bitI .and .i64 x3 1) 1)), (27, I (bitI .and .i64 x3 1)), (26, I x3), (25, I (remI .i64 p1 7)), (24, I p1), (23, I p0.f6), (22, .ba 16 6), (21, B true), (21, B (eqI x2 0)), (20, B (eqI x2 0)), (19, B (eqI x2 0)), (18, I x2), (17, I p0.f5), (16, .ba 16 5), (15, I (subI .i64 p1 p0.f3)), (14, I p0.f3), (13, .ba 16 3), (12, I p1), (11, B true), (11, B x1), (10, B x1), (9, I p0.f4), (8, .ba 16 4), (7, I p0.f3), (6, .ba 16 3), (5, I p1), (1, I p1), (2, .ba 16 0)] [(16, .box [S p0.f0, S p0.f1, I p0.f2, I p0.f3, I p0.f4, I p0.f5, I p0.f6, LL I p0.f7, I p0.f8, I p0.f9, I p0.f10, LL S p0.f11, B p0.f12] false)] 37) ?_
      refine sb 30 (eqI (bitI .and .i64 x3 1) 1) ?_ ?_
      · refine sg 29 (mkE [(33, I p1), (32, LL I p0.f7), (31, .ba 16 7), (30, B true), (30, B (eqI (bitI .and .i64 x3 1) 1)), (29, B (eqI (bitI .and .i64 x3 1) 1)), (28, B (eqI (bitI .and .i64 x3 1) 1)), (27, I (bitI .and .i64 x3 1)), (26, I x3), (25, I (remI .i64 p1 7)), (24, I p1), (23, I p0.f6), (22, .ba 16 6), (21, B true), (21, B (eqI x2 0)), (20, B (eqI x2 0)), (19, B (eqI x2 0)), (18, I x2), (17, I p0.f5), (16, .ba 16 5), (15, I (subI .i64 p1 p0.f3)), (14, I p0.f3), (13, .ba 16 3), (12, I p1), (11, B true), (11, B x1), (10, B x1), (9, I p0.f4), (8, .ba 16 4), (7, I p0.f3), (6, .ba 16 3), (5, I p1), (1, I p1), (2, .ba 16 0)] [(16, .box [S p0.f0, S p0.f1, I p0.f2, I p0.f3, I p0.f4, I p0.f5, I p0.f6, LL I p0.f7, I p0.f8, I p0.f9, I p0.f10, LL S p0.f11, B p0.f12] false)] 37) ?_
        refine co 34 [] (h209 p0.f7 p1) (fun x4 => ?_)
        refine se (mkE [(4, B (!x4))] [] 37) ?_
        refine pN ?_
        refine pS ?_
        refine gE ?_
        exact pL
      · refine se (mkE [(4, B false)] [] 37) ?_
        refine pN ?_
        refine pS ?_
        refine gE ?_
        exact pL
    · refine se (mkE [(4, B false)] [] 37) ?_
      refine pN ?_
      refine pS ?_
      refine gE ?_
      exact pL
  · refine se (mkE [(4, B false)] [] 37) ?_
    refine pN ?_
    refine pS ?_
    refine gE ?_
    exact pL
theorem F164 (m : Nat) (hm : 3 ≤ m) (p0 : S105) (p1 : Int) : callA Try.prog cfg m 164 [a105 p0, I p1] = (T164 p0 p1).map B := by
  obtain ⟨q, rfl⟩ : ∃ q, m = q + 1 := ⟨m - 1, by omega⟩
  exact (callA_body (fn := Try.f164) (c := body_ Try.f164) q _ (by kernel_rfl) (by kernel_rfl) (by kernel_rfl)).trans (B164 _ (fun p0 p1 p2 => F132 q (by omega) p0 p1 p2) (fun p0 p1 => F209 q (by omega) p0 p1) p0 p1)

end Go.Abs.TE
