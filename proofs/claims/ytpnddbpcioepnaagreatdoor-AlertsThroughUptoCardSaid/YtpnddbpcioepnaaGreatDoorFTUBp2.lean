import Derived.Test.YtpnddbpcioepnaaGreatDoorFTUBp1
set_option maxRecDepth 100000
set_option linter.unusedVariables false
namespace Go.Abs.TUB
open Go.RowKit Go.Proofs Go.Abs
noncomputable def L49_4(p0:(List S46))(z0:Int):Option (Int⊕((Int×Bool)⊕Int)):=(bif (ltI z0 (lenL p0))then((listAt p0 z0).bind fun x1=>((T85 x1).bind fun x2=>(bif (neI x2 0)then(some (.inr (.inr x2)))else(bif (ltI 0 z0)then((listAt p0 (subI .i64 z0 1)).bind fun x3=>((T86 x3 x1).bind fun x4=>(bif (leI 0 x4)then(some (.inr (.inr 7)))else(some (.inl (addI .i64 z0 1))))))else(some (.inl (addI .i64 z0 1)))))))else(some (.inr (.inl (z0,(ltI z0 (lenL p0)))))))
abbrev H85(C:Callee):Prop:=∀(p0:S46),C 85 [a46 p0]=(T85 p0).map I
abbrev H86(C:Callee):Prop:=∀(p0:S46)(p1:S46),C 86 [a46 p0,a46 p1]=(T86 p0 p1).map I
theorem L49_4_ok(C:Callee)(h85:H85 C)(h86:H86 C)(p0:(List S46))(z0:Int):rL C 49 Tryz.f49 4 [false,false,true,false,true,true] (fun z0:Int=>(mkE [(0,LL a46 p0),(12,LL a46 p0),(13,I (lenL p0)),(14,I z0)] [] 53)) (Sum.elim (fun(x:(Int×Bool))=>(.exit 0,(mkE [(0,LL a46 p0),(12,LL a46 p0),(13,I (lenL p0)),(14,I x.1),(15,B x.2)] [] 53))) (fun(x:Int)=>(.ret,(mkE [(2,I x)] [] 53)))) (L49_4 p0 z0) z0:=by
 unfold L49_4
 let d_0:List (Option Nat×REff):=[(some 24,qe (I z0)),(some 25,qe (B (ltI 0 z0))),(some 26,qe (B true)),(some 27,qe (LL a46 p0)),(some 28,qe (I z0)),(some 29,qe (I (subI .i64 z0 1)))]
 let s_0:List (Nat×AV):=[(12,LL a46 p0),(13,I (lenL p0)),(14,I z0)]
 let s_1:List (Nat×AV):=[(29,I (subI .i64 z0 1)),(28,I z0),(27,LL a46 p0),(26,B true),(25,B (ltI 0 z0)),(24,I z0),(0,LL a46 p0),(3,I z0),(4,.ba 32 0)]
 let s_2:List (Nat×AV):=[(0,LL a46 p0),(3,I z0),(4,.ba 32 0)]
 refine zS 0 4 (mkE ((0,LL a46 p0)::(s_0.append [(15,B (ltI z0 (lenL p0)))])) [] 53) (gS 5 (gC 15 (ltI z0 (lenL p0)) ?_ ?_))
 ·refine gK (zP (gS 11 (gB 1 (zR 6 5 (sg 1 (mkE ((16,I z0)::((0,LL a46 p0)::(s_0.append [(15,B (ltI z0 (lenL p0)))]))) [] 53) (vo 17 (addrE 26 47 9 a46 .i64 p0 z0) (fun x1=>?_)))))))
  refine zN (mkE (s_2.append s_0) [(32,.box [S x1.f0,S x1.f1,I x1.f2,LL S x1.f3,I x1.f4,I x1.f5,I x1.f6,LL a64 x1.f7,S x1.f8] false)] 53) (gS 9 (zR 7 6 (sg 1 (mkE ((19,a46 x1)::(s_2.append s_0)) [(32,.box [S x1.f0,S x1.f1,I x1.f2,LL S x1.f3,I x1.f4,I x1.f5,I x1.f6,LL a64 x1.f7,S x1.f8] false)] 53) (co 20 [] (h85 x1) (fun x2=>?_)))))
  refine zN (mkE (s_2.append ((5,I x2)::s_0)) [(32,.box [S x1.f0,S x1.f1,I x1.f2,LL S x1.f3,I x1.f4,I x1.f5,I x1.f6,LL a64 x1.f7,S x1.f8] false)] 53) (zS 0 7 (mkE (s_2.append ((5,I x2)::(s_0.append [(22,B (neI x2 0))]))) [(32,.box [S x1.f0,S x1.f1,I x1.f2,LL S x1.f3,I x1.f4,I x1.f5,I x1.f6,LL a64 x1.f7,S x1.f8] false)] 53) (gC 22 (neI x2 0) ?_ ?_))
  ·exact zF 0 8 (mkE [(2,I x2)] [] 53)
  ·refine gK (zP (gS 0 (gD 9 12 (rg Tryz.f49 9) [0,1,2,3,4,5,6,7,8,9,10,11] (dg 3 [(some 24,qe (I z0)),(some 25,qe (B (ltI 0 z0))),(some 26,qe (B (ltI 0 z0)))] (db 2 26 (ltI 0 z0) ?_ ?_)))))
   ·refine dg 6 d_0 (dv 30 (mkE (s_1.append ((5,I x2)::(s_0.append [(22,B (neI x2 0))]))) [(32,.box [S x1.f0,S x1.f1,I x1.f2,LL S x1.f3,I x1.f4,I x1.f5,I x1.f6,LL a64 x1.f7,S x1.f8] false)] 53) (addrE 26 47 9 a46 .i64 p0 (subI .i64 z0 1)) (fun x3=>?_))
    refine dg 9 (d_0.append ((some 30,qe (.ia [S x3.f0,S x3.f1,I x3.f2,LL S x3.f3,I x3.f4,I x3.f5,I x3.f6,LL a64 x3.f7,S x3.f8] 0))::((some 31,qe (a46 x3))::[(some 32,qe (a46 x1))]))) (dc 33 [] (mkE ((32,a46 x1)::((31,a46 x3)::((30,.ia [S x3.f0,S x3.f1,I x3.f2,LL S x3.f3,I x3.f4,I x3.f5,I x3.f6,LL a64 x3.f7,S x3.f8] 0)::(s_1.append ((5,I x2)::(s_0.append [(22,B (neI x2 0))])))))) [(32,.box [S x1.f0,S x1.f1,I x1.f2,LL S x1.f3,I x1.f4,I x1.f5,I x1.f6,LL a64 x1.f7,S x1.f8] false)] 53) (h86 x3 x1) (fun x4=>?_))
    refine dg 12 (d_0.append ((some 30,qe (.ia [S x3.f0,S x3.f1,I x3.f2,LL S x3.f3,I x3.f4,I x3.f5,I x3.f6,LL a64 x3.f7,S x3.f8] 0))::((some 31,qe (a46 x3))::((some 32,qe (a46 x1))::((some 33,qe (I x4))::((some 34,qe (B (leI 0 x4)))::[(some 35,qe (B (leI 0 x4)))])))))) (de (mkE ((35,B (leI 0 x4))::((34,B (leI 0 x4))::((33,I x4)::((32,a46 x1)::((31,a46 x3)::((30,.ia [S x3.f0,S x3.f1,I x3.f2,LL S x3.f3,I x3.f4,I x3.f5,I x3.f6,LL a64 x3.f7,S x3.f8] 0)::(s_1.append ((5,I x2)::(s_0.append [(22,B (neI x2 0))]))))))))) [(32,.box [S x1.f0,S x1.f1,I x1.f2,LL S x1.f3,I x1.f4,I x1.f5,I x1.f6,LL a64 x1.f7,S x1.f8] false)] 53) (zN (mkE ((0,LL a46 p0)::(s_0.append [(35,B (leI 0 x4))])) [] 53) (gC 35 (leI 0 x4) ?_ ?_)))
    ·exact zF 0 10 (mkE [(2,I 7)] [] 53)
    ·exact gK (pB (zP (gR 11 (rg Tryz.f49 11) (se (mkE [(0,LL a46 p0),(12,LL a46 p0),(13,I (lenL p0)),(14,I (addI .i64 z0 1))] [] 53) (pL)))))
   ·exact dg 12 [(some 24,qe (I z0)),(some 25,qe (B (ltI 0 z0))),(some 26,qe (B false)),(some 27,qe (.und)),(some 28,qe (.und)),(some 29,qe (.und)),(some 30,qe (.und)),(some 31,qe (.und)),(some 32,qe (.und)),(some 33,qe (.und)),(some 34,qe (.und)),(some 35,qe (B false))] (de (mkE ((35,B false)::((34,.und)::((33,.und)::((32,.und)::((31,.und)::((30,.und)::((29,.und)::((28,.und)::((27,.und)::((26,B false)::((25,B (ltI 0 z0))::((24,I z0)::(s_2.append ((5,I x2)::(s_0.append [(22,B (neI x2 0))]))))))))))))))) [(32,.box [S x1.f0,S x1.f1,I x1.f2,LL S x1.f3,I x1.f4,I x1.f5,I x1.f6,LL a64 x1.f7,S x1.f8] false)] 53) (zN (mkE ((0,LL a46 p0)::(s_0.append [(35,B false)])) [] 53) (gF (.tmp 35) (gK (pB (zP (gR 11 (rg Tryz.f49 11) (se (mkE [(0,LL a46 p0),(12,LL a46 p0),(13,I (lenL p0)),(14,I (addI .i64 z0 1))] [] 53) (pL)))))))))
 ·exact gX 0 (pL)
noncomputable def L49_14(p0:(List S46))(z1:((List (ByteArray×Bool))×Int)):Option (((List (ByteArray×Bool))×Int)⊕(Int×Bool×(List (ByteArray×Bool)))):=(bif (ltI z1.2 (lenL p0))then((listAt p0 z1.2).bind fun x6=>((some (msetB eqB z1.1 x6.f0 true)).bind fun x7=>(some (.inl (x7,(addI .i64 z1.2 1))))))else(some (.inr (z1.2,(ltI z1.2 (lenL p0)),z1.1))))
theorem L49_14_ok(C:Callee)(p0:(List S46))(z1:((List (ByteArray×Bool))×Int)):rL C 49 Tryz.f49 14 [false,false,true,false,true,true,true,true] (fun z1:((List (ByteArray×Bool))×Int)=>(mkE [(0,LL a46 p0),(6,.mr 48),(38,LL a46 p0),(39,I (lenL p0)),(40,I z1.2)] [(48,MP S B z1.1 false)] 53)) (fun(x:(Int×Bool×(List (ByteArray×Bool))))=>(.exit 2,(mkE [(0,LL a46 p0),(6,.mr 48),(38,LL a46 p0),(39,I (lenL p0)),(40,I x.1),(41,B x.2.1)] [(48,MP S B x.2.2 false)] 53))) (L49_14 p0 z1) z1:=by
 unfold L49_14
 let s_0:List (Nat×AV):=[(38,LL a46 p0),(39,I (lenL p0)),(40,I z1.2)]
 refine zS 0 14 (mkE ((0,LL a46 p0)::((6,.mr 48)::(s_0.append [(41,B (ltI z1.2 (lenL p0)))]))) [(48,MP S B z1.1 false)] 53) (gS 15 (gC 41 (ltI z1.2 (lenL p0)) ?_ ?_))
 ·refine gK (zP (gS 17 (gB 3 (zR 16 15 (vo 42 (addrE 26 47 9 a46 .i64 p0 z1.2) (fun x6=>?_))))))
  refine zN (mkE ((0,LL a46 p0)::((6,.mr 48)::((8,.ba 64 0)::s_0))) [(48,MP S B z1.1 false),(64,.box [S x6.f0,S x6.f1,I x6.f2,LL S x6.f3,I x6.f4,I x6.f5,I x6.f6,LL a64 x6.f7,S x6.f8] false)] 53) (gR 16 (rg Tryz.f49 16) (sg 3 (mkE ((46,S x6.f0)::((45,.ba 64 0)::((44,.mr 48)::((0,LL a46 p0)::((6,.mr 48)::((8,.ba 64 0)::s_0)))))) [(48,MP S B z1.1 false),(64,.box [S x6.f0,S x6.f1,I x6.f2,LL S x6.f3,I x6.f4,I x6.f5,I x6.f6,LL a64 x6.f7,S x6.f8] false)] 53) (mo none (mapO_ 141 9 4 48 S B eqB z1.1 x6.f0 (B true) true [] sameS) (fun x7=>?_))))
  exact se (mkE ((0,LL a46 p0)::((6,.mr 48)::s_0)) [(48,MP S B x7 false)] 53) (pB (zP (gR 17 (rg Tryz.f49 17) (se (mkE [(0,LL a46 p0),(6,.mr 48),(38,LL a46 p0),(39,I (lenL p0)),(40,I (addI .i64 z1.2 1))] [(48,MP S B x7 false)] 53) (pL)))))
 ·exact gX 2 (pL)
noncomputable def T49(p0:(List S46)):Option Int:=(bif (ltI 300 (lenL p0))then(some 2)else((iter (L49_4 p0) 0).bind fun y5=>(Sum.elim (fun y5a=>((iter (L49_14 p0) (([]:(List (ByteArray×Bool))),0)).bind fun y8=>(bif (ltI (lenL y8.2.2) (lenL p0))then(some 6)else(some 0)))) (fun y5b=>(some y5b)) y5)))
theorem B49(C:Callee)(h85:H85 C)(h86:H86 C)(p0:(List S46)):rB C 49 Tryz.f49 (frame0 [LL a46 p0] 53 false) ((T49 p0).map I):=by
 unfold T49
 let s_0:List (Nat×AV):=[(0,LL a46 p0),(6,.mr 48),(38,LL a46 p0),(39,I (lenL p0))]
 let s_1:List (Nat×AV):=[(0,LL a46 p0),(12,LL a46 p0),(13,I (lenL p0))]
 refine zS 1 0 (mkE [(0,LL a46 p0)] [] 53) (gS 3 (zR 0 1 (sg 1 (mkE [(9,LL a46 p0),(0,LL a46 p0)] [] 53) (eo 10 (I (lenL p0)) (lenE 26 a46 p0) (zN (mkE [(0,LL a46 p0),(11,B (ltI 300 (lenL p0)))] [] 53) (gC 11 (ltI 300 (lenL p0)) ?_ ?_))))))
 ·exact zF 0 2 (mkE [(2,I 2)] [] 53)
 ·refine gK (zP (gS 12 (zR 4 3 (sg 1 (mkE [(12,LL a46 p0),(0,LL a46 p0),(11,B (ltI 300 (lenL p0)))] [] 53) (eo 13 (I (lenL p0)) (lenE 26 a46 p0) (zN (mkE (s_1.append [(14,I 0)]) [] 53) (gB 0 (lo [(0,none),(12,none),(13,none),(14,none)] [] (L49_4 p0) (fun z0:Int=>(mkE (s_1.append [(14,I z0)]) [] 53)) (Sum.elim (fun(x:(Int×Bool))=>(.exit 0,(mkE (s_1.append ((14,I x.1)::[(15,B x.2)])) [] 53))) (fun(x:Int)=>(.ret,(mkE [(2,I x)] [] 53)))) 0 (fun z=>L49_4_ok C h85 h86 p0 z) ?_))))))))
  intro y5
  refine ss y5 (Z:=(Sum.elim (fun(x:(Int×Bool))=>(.exit 0,(mkE (s_1.append ((14,I x.1)::[(15,B x.2)])) [] 53))) (fun(x:Int)=>(.ret,(mkE [(2,I x)] [] 53))))) (fun y5a=>?_) (fun y5b=>?_)
  ·refine pH (zP (zS 13 12 (mkE [(0,LL a46 p0),(6,.mr 296)] [(296,MP S B ([]:(List (ByteArray×Bool))) false)] 53) (gS 18 (zR 14 13 (sg 1 (mkE [(38,LL a46 p0),(0,LL a46 p0),(6,.mr 296)] [(296,MP S B ([]:(List (ByteArray×Bool))) false)] 53) (eo 39 (I (lenL p0)) (lenE 26 a46 p0) (zN (mkE [(0,LL a46 p0),(6,.mr 296),(38,LL a46 p0),(39,I (lenL p0)),(40,I 0)] [(296,MP S B ([]:(List (ByteArray×Bool))) false)] 53) (gB 2 (lo [(0,none),(6,none),(38,none),(39,none),(40,none)] [] (L49_14 p0) (fun z1:((List (ByteArray×Bool))×Int)=>(mkE (s_0.append [(40,I z1.2)]) [(48,MP S B z1.1 false)] 53)) (fun(x:(Int×Bool×(List (ByteArray×Bool))))=>(.exit 2,(mkE (s_0.append ((40,I x.1)::[(41,B x.2.1)])) [(48,MP S B x.2.2 false)] 53))) (([]:(List (ByteArray×Bool))),0) (fun z=>L49_14_ok C p0 z) ?_)))))))))
   intro y8
   refine pH (zP (gS 20 (zR 0 18 (sg 1 (mkE ((48,.mr 48)::(s_0.append ((40,I y8.1)::[(41,B y8.2.1)]))) [(48,MP S B y8.2.2 false)] 53) (eo 49 (I (lenL y8.2.2)) (lenME 141 48 S y8.2.2) (sg 3 (mkE ((50,LL a46 p0)::((49,I (lenL y8.2.2))::((48,.mr 48)::(s_0.append ((40,I y8.1)::[(41,B y8.2.1)]))))) [(48,MP S B y8.2.2 false)] 53) (eo 51 (I (lenL p0)) (lenE 26 a46 p0) (zN (mkE [(52,B (ltI (lenL y8.2.2) (lenL p0)))] [] 53) (gC 52 (ltI (lenL y8.2.2) (lenL p0)) ?_ ?_)))))))))
   ·exact zF 0 19 (mkE [(2,I 6)] [] 53)
   ·exact gK (zP (zF 0 20 (mkE [(2,I 0)] [] 53)))
  ·exact pL
theorem F49(m:Nat)(hm:6≤m)(p0:(List S46)):callA Tryz.prog cfg m 49 [LL a46 p0]=(T49 p0).map I:=by
 obtain⟨q,rfl⟩:=sucK hm
 exact(callA_body (fn:=Tryz.f49) (c:=body_ Tryz.f49) q _ (by kernel_rfl) (by kernel_rfl) (by kernel_rfl)).trans (B49 _ (fun p0=>F85 q (by omega) p0) (fun p0 p1=>F86 q (by omega) p0 p1) p0)
noncomputable def L57_5(p0:(List S32))(z0:(ByteArray×Int)):Option ((ByteArray×Int)⊕((ByteArray×Int×Bool)⊕Int)):=(bif (ltI z0.2 (lenL p0))then((listAt p0 z0.2).bind fun x1=>((T93 x1.f0).bind fun x2=>(bif (!x2)then(some (.inr (.inr 5)))else((T94 x1.f1 (-100000) 100000).bind fun x3=>(bif (!x3)then(some (.inr (.inr 1)))else((T94 x1.f2 (-100000) 100000).bind fun x4=>(bif (!x4)then(some (.inr (.inr 1)))else(bif (ltS x1.f0 z0.1||eqS x1.f0 z0.1)then(some (.inr (.inr 7)))else(some (.inl (x1.f0,(addI .i64 z0.2 1))))))))))))else(some (.inr (.inl (z0.1,z0.2,(ltI z0.2 (lenL p0)))))))
theorem L57_5_ok(C:Callee)(h93:H93 C)(h94:H94 C)(p0:(List S32))(z0:(ByteArray×Int)):rL C 57 Tryz.f57 5 [false,false,true,false,true,true,true] (fun z0:(ByteArray×Int)=>(mkE [(3,S z0.1),(9,LL a32 p0),(10,I (lenL p0)),(11,I z0.2)] [] 39)) (Sum.elim (fun(x:(ByteArray×Int×Bool))=>(.exit 0,(mkE [(3,S x.1),(9,LL a32 p0),(10,I (lenL p0)),(11,I x.2.1),(12,B x.2.2)] [] 39))) (fun(x:Int)=>(.ret,(mkE [(2,I x)] [] 39)))) (L57_5 p0 z0) z0:=by
 unfold L57_5
 let s_0:List (Nat×AV):=[(3,S z0.1),(5,.ba 40 0),(9,LL a32 p0),(10,I (lenL p0)),(11,I z0.2)]
 refine zS 0 5 (mkE [(3,S z0.1),(9,LL a32 p0),(10,I (lenL p0)),(11,I z0.2),(12,B (ltI z0.2 (lenL p0)))] [] 39) (gS 6 (gC 12 (ltI z0.2 (lenL p0)) ?_ ?_))
 ·refine gK (zP (gS 14 (gB 1 (zR 7 6 (vo 13 (addrE 28 33 3 a32 .i64 p0 z0.2) (fun x1=>?_))))))
  refine zN (mkE s_0 [(40,.box [S x1.f0,I x1.f1,I x1.f2] false)] 39) (gS 13 (gB 2 (zR 0 7 (sg 2 (mkE ((17,S x1.f0)::((16,.ba 40 0)::s_0)) [(40,.box [S x1.f0,I x1.f1,I x1.f2] false)] 39) (co 18 [] (h93 x1.f0) (fun x2=>?_))))))
  refine zN (mkE (s_0.append [(15,B (!x2))]) [(40,.box [S x1.f0,I x1.f1,I x1.f2] false)] 39) (gC 15 (!x2) ?_ ?_)
  ·exact zF 0 8 (mkE [(2,I 5)] [] 39)
  ·refine zR 0 9 (sg 2 (mkE ((22,I x1.f1)::((21,.ba 40 1)::(s_0.append [(15,B (!x2))]))) [(40,.box [S x1.f0,I x1.f1,I x1.f2] false)] 39) (co 23 [] (h94 x1.f1 (-100000) 100000) (fun x3=>?_)))
   refine sg 5 (mkE ((25,B (!x3))::((24,B (!x3))::((23,B x3)::((22,I x1.f1)::((21,.ba 40 1)::(s_0.append [(15,B (!x2))])))))) [(40,.box [S x1.f0,I x1.f1,I x1.f2] false)] 39) (sb 25 (!x3) ?_ ?_)
   ·exact zN (mkE (s_0.append [(20,B true)]) [(40,.box [S x1.f0,I x1.f1,I x1.f2] false)] 39) (gT (.tmp 20) (zF 0 10 (mkE [(2,I 1)] [] 39)))
   ·refine sg 7 (mkE ((27,I x1.f2)::((26,.ba 40 2)::((25,B false)::((25,B (!x3))::((24,B (!x3))::((23,B x3)::((22,I x1.f1)::((21,.ba 40 1)::(s_0.append [(15,B (!x2))]))))))))) [(40,.box [S x1.f0,I x1.f1,I x1.f2] false)] 39) (co 28 [] (h94 x1.f2 (-100000) 100000) (fun x4=>?_))
    refine zN (mkE (s_0.append [(20,B (!x4))]) [(40,.box [S x1.f0,I x1.f1,I x1.f2] false)] 39) (gC 20 (!x4) ?_ ?_)
    ·exact zF 0 10 (mkE [(2,I 1)] [] 39)
    ·refine zS 0 11 (mkE [(5,.ba 40 0),(9,LL a32 p0),(10,I (lenL p0)),(11,I z0.2),(31,B (ltS x1.f0 z0.1||eqS x1.f0 z0.1))] [(40,.box [S x1.f0,I x1.f1,I x1.f2] false)] 39) (gC 31 (ltS x1.f0 z0.1||eqS x1.f0 z0.1) ?_ ?_)
     ·exact zF 0 12 (mkE [(2,I 7)] [] 39)
     ·exact gK (pB (zP (gR 13 (rg Tryz.f57 13) (se (mkE [(3,S x1.f0),(9,LL a32 p0),(10,I (lenL p0)),(11,I z0.2)] [] 39) (pB (zP (gR 14 (rg Tryz.f57 14) (se (mkE [(3,S x1.f0),(9,LL a32 p0),(10,I (lenL p0)),(11,I (addI .i64 z0.2 1))] [] 39) (pL)))))))))
 ·exact gX 0 (pL)
noncomputable def T57(p0:(List S32)):Option Int:=(bif (ltI 500 (lenL p0))then(some 2)else((iter (L57_5 p0) ((ByteArray.mk #[]),0)).bind fun y5=>(Sum.elim (fun y5a=>(some 0)) (fun y5b=>(some y5b)) y5)))
theorem B57(C:Callee)(h93:H93 C)(h94:H94 C)(p0:(List S32)):rB C 57 Tryz.f57 (frame0 [LL a32 p0] 39 false) ((T57 p0).map I):=by
 unfold T57
 refine zS 1 0 (mkE [(0,LL a32 p0)] [] 39) (gS 3 (zR 0 1 (sg 1 (mkE [(6,LL a32 p0),(0,LL a32 p0)] [] 39) (eo 7 (I (lenL p0)) (lenE 28 a32 p0) (zN (mkE [(0,LL a32 p0),(8,B (ltI 500 (lenL p0)))] [] 39) (gC 8 (ltI 500 (lenL p0)) ?_ ?_))))))
 ·exact zF 0 2 (mkE [(2,I 2)] [] 39)
 ·refine gK (zP (zS 4 3 (mkE [(0,LL a32 p0),(3,S (ByteArray.mk #[]))] [] 39) (gS 15 (zR 5 4 (sg 1 (mkE [(9,LL a32 p0),(0,LL a32 p0),(3,S (ByteArray.mk #[]))] [] 39) (eo 10 (I (lenL p0)) (lenE 28 a32 p0) (zN (mkE [(3,S (ByteArray.mk #[])),(9,LL a32 p0),(10,I (lenL p0)),(11,I 0)] [] 39) (gB 0 (lo [(3,none),(9,none),(10,none),(11,none)] [] (L57_5 p0) (fun z0:(ByteArray×Int)=>(mkE [(3,S z0.1),(9,LL a32 p0),(10,I (lenL p0)),(11,I z0.2)] [] 39)) (Sum.elim (fun(x:(ByteArray×Int×Bool))=>(.exit 0,(mkE [(3,S x.1),(9,LL a32 p0),(10,I (lenL p0)),(11,I x.2.1),(12,B x.2.2)] [] 39))) (fun(x:Int)=>(.ret,(mkE [(2,I x)] [] 39)))) ((ByteArray.mk #[]),0) (fun z=>L57_5_ok C h93 h94 p0 z) ?_)))))))))
  intro y5
  refine ss y5 (Z:=(Sum.elim (fun(x:(ByteArray×Int×Bool))=>(.exit 0,(mkE [(3,S x.1),(9,LL a32 p0),(10,I (lenL p0)),(11,I x.2.1),(12,B x.2.2)] [] 39))) (fun(x:Int)=>(.ret,(mkE [(2,I x)] [] 39))))) (fun y5a=>?_) (fun y5b=>?_)
  ·exact pH (zP (zF 0 15 (mkE [(2,I 0)] [] 39)))
  ·exact pL
theorem F57(m:Nat)(hm:5≤m)(p0:(List S32)):callA Tryz.prog cfg m 57 [LL a32 p0]=(T57 p0).map I:=by
 obtain⟨q,rfl⟩:=sucK hm
 exact(callA_body (fn:=Tryz.f57) (c:=body_ Tryz.f57) q _ (by kernel_rfl) (by kernel_rfl) (by kernel_rfl)).trans (B57 _ (fun p0=>F93 q (by omega) p0) (fun p0 p1 p2=>F94 q (by omega) p0 p1 p2) p0)
noncomputable def T58(p0:S57):Option Int:=((T94 p0.f0 0 p0.f1).bind fun x1=>(bif (!x1)then(some 1)else(bif (ltI 345686400000 p0.f1)then(some 1)else(some 0))))
theorem B58(C:Callee)(h94:H94 C)(p0:S57):rB C 58 Tryz.f58 (frame0 [a57 p0] 14 false) ((T58 p0).map I):=by
 unfold T58
 refine zS 1 0 (mkE [(1,.ba 8 0)] [(8,.box [I p0.f0,I p0.f1] false)] 14) (gS 3 (zR 0 1 (sg 4 (mkE [(6,I p0.f1),(5,.ba 8 1),(4,I p0.f0),(3,.ba 8 0),(1,.ba 8 0)] [(8,.box [I p0.f0,I p0.f1] false)] 14) (co 7 [] (h94 p0.f0 0 p0.f1) (fun x1=>?_)))))
 refine sg 7 (mkE [(9,B (!x1)),(8,B (!x1)),(7,B x1),(6,I p0.f1),(5,.ba 8 1),(4,I p0.f0),(3,.ba 8 0),(1,.ba 8 0)] [(8,.box [I p0.f0,I p0.f1] false)] 14) (sb 9 (!x1) ?_ ?_)
 ·exact zN (mkE [(13,B true)] [] 14) (gT (.tmp 13) (zF 0 2 (mkE [(2,I 1)] [] 14)))
 ·refine zN (mkE [(13,B (ltI 345686400000 p0.f1))] [] 14) (gC 13 (ltI 345686400000 p0.f1) ?_ ?_)
  ·exact zF 0 2 (mkE [(2,I 1)] [] 14)
  ·exact gK (zP (zF 0 3 (mkE [(2,I 0)] [] 14)))
theorem F58(m:Nat)(hm:2≤m)(p0:S57):callA Tryz.prog cfg m 58 [a57 p0]=(T58 p0).map I:=by
 obtain⟨q,rfl⟩:=sucK hm
 exact(callA_body (fn:=Tryz.f58) (c:=body_ Tryz.f58) q _ (by kernel_rfl) (by kernel_rfl) (by kernel_rfl)).trans (B58 _ (fun p0 p1 p2=>F94 q (by omega) p0 p1 p2) p0)
noncomputable def L51_2(p0:(List Int))(z0:Int):Option (Int⊕((Int×Bool)⊕Int)):=(bif (ltI z0 (lenL p0))then((listAt p0 z0).bind fun x1=>(bif (neI x1 0)then(some (.inr (.inr x1)))else(some (.inl (addI .i64 z0 1)))))else(some (.inr (.inl (z0,(ltI z0 (lenL p0)))))))
theorem L51_2_ok(C:Callee)(p0:(List Int))(z0:Int):rL C 51 Tryz.f51 2 [false,false,true,false,true] (fun z0:Int=>(mkE [(5,LL I p0),(6,I (lenL p0)),(7,I z0)] [] 15)) (Sum.elim (fun(x:(Int×Bool))=>(.exit 0,(mkE [(5,LL I p0),(6,I (lenL p0)),(7,I x.1),(8,B x.2)] [] 15))) (fun(x:Int)=>(.ret,(mkE [(2,I x)] [] 15)))) (L51_2 p0 z0) z0:=by
 unfold L51_2
 refine zS 0 2 (mkE [(5,LL I p0),(6,I (lenL p0)),(7,I z0),(8,B (ltI z0 (lenL p0)))] [] 15) (gS 3 (gC 8 (ltI z0 (lenL p0)) ?_ ?_))
 ·refine gK (zP (gS 6 (gB 1 (zR 4 3 (vo 9 (addrE 134 39 1 I .i64 p0 z0) (fun x1=>?_))))))
  refine zN (mkE [(4,I x1),(5,LL I p0),(6,I (lenL p0)),(7,I z0)] [] 15) (zS 0 4 (mkE [(4,I x1),(5,LL I p0),(6,I (lenL p0)),(7,I z0),(12,B (neI x1 0))] [] 15) (gC 12 (neI x1 0) ?_ ?_))
  ·exact zF 0 5 (mkE [(2,I x1)] [] 15)
  ·exact gK (pB (zP (gR 6 (rg Tryz.f51 6) (se (mkE [(5,LL I p0),(6,I (lenL p0)),(7,I (addI .i64 z0 1))] [] 15) (pL)))))
 ·exact gX 0 (pL)
noncomputable def T51(p0:(List Int)):Option Int:=((iter (L51_2 p0) 0).bind fun y2=>(Sum.elim (fun y2a=>(some 0)) (fun y2b=>(some y2b)) y2))
theorem B51(C:Callee)(p0:(List Int)):rB C 51 Tryz.f51 (frame0 [LL I p0] 15 false) ((T51 p0).map I):=by
 unfold T51
 refine zS 1 0 (mkE [(0,LL I p0)] [] 15) (gS 7 (zR 2 1 (sg 1 (mkE [(5,LL I p0),(0,LL I p0)] [] 15) (eo 6 (I (lenL p0)) (lenE 134 I p0) (zN (mkE [(5,LL I p0),(6,I (lenL p0)),(7,I 0)] [] 15) (gB 0 (lo [(5,none),(6,none),(7,none)] [] (L51_2 p0) (fun z0:Int=>(mkE [(5,LL I p0),(6,I (lenL p0)),(7,I z0)] [] 15)) (Sum.elim (fun(x:(Int×Bool))=>(.exit 0,(mkE [(5,LL I p0),(6,I (lenL p0)),(7,I x.1),(8,B x.2)] [] 15))) (fun(x:Int)=>(.ret,(mkE [(2,I x)] [] 15)))) 0 (fun z=>L51_2_ok C p0 z) ?_)))))))
 intro y2
 refine ss y2 (Z:=(Sum.elim (fun(x:(Int×Bool))=>(.exit 0,(mkE [(5,LL I p0),(6,I (lenL p0)),(7,I x.1),(8,B x.2)] [] 15))) (fun(x:Int)=>(.ret,(mkE [(2,I x)] [] 15))))) (fun y2a=>?_) (fun y2b=>?_)
 ·exact pH (zP (zF 0 7 (mkE [(2,I 0)] [] 15)))
 ·exact pL
theorem F51(m:Nat)(hm:1≤m)(p0:(List Int)):callA Tryz.prog cfg m 51 [LL I p0]=(T51 p0).map I:=by
 obtain⟨q,rfl⟩:=sucK hm
 exact(callA_body (fn:=Tryz.f51) (c:=body_ Tryz.f51) q _ (by kernel_rfl) (by kernel_rfl) (by kernel_rfl)).trans (B51 _ p0)
noncomputable def L235_2(p0:(List ByteArray))(p1:ByteArray)(z0:Int):Option (Int⊕((Int×Bool)⊕Int)):=(bif (ltI z0 (lenL p0))then((listAt p0 z0).bind fun x1=>(bif (eqS p1 x1)then(some (.inr (.inr z0)))else(some (.inl (addI .i64 z0 1)))))else(some (.inr (.inl (z0,(ltI z0 (lenL p0)))))))
theorem L235_2_ok(C:Callee)(p0:(List ByteArray))(p1:ByteArray)(z0:Int):rL C 235 Tryz.f235 2 [false,false,true,false,true] (fun z0:Int=>(mkE [(0,LL S p0),(1,S p1),(7,I (lenL p0)),(8,I z0)] [] 19)) (Sum.elim (fun(x:(Int×Bool))=>(.exit 0,(mkE [(0,LL S p0),(1,S p1),(7,I (lenL p0)),(8,I x.1),(9,B x.2)] [] 19))) (fun(x:Int)=>(.ret,(mkE [(4,I x)] [] 19)))) (L235_2 p0 p1 z0) z0:=by
 unfold L235_2
 refine zS 0 2 (mkE [(0,LL S p0),(1,S p1),(7,I (lenL p0)),(8,I z0),(9,B (ltI z0 (lenL p0)))] [] 19) (gS 3 (gC 9 (ltI z0 (lenL p0)) ?_ ?_))
 ·refine gK (zP (gS 6 (gB 1 (zS 4 3 (mkE [(0,LL S p0),(1,S p1),(5,I z0),(7,I (lenL p0)),(8,I z0)] [] 19) (zR 0 4 (sg 3 (mkE [(13,I z0),(12,LL S p0),(11,S p1),(0,LL S p0),(1,S p1),(5,I z0),(7,I (lenL p0)),(8,I z0)] [] 19) (vo 14 (addrE 34 9 1 S .i64 p0 z0) (fun x1=>?_))))))))
  refine zN (mkE [(0,LL S p0),(1,S p1),(5,I z0),(7,I (lenL p0)),(8,I z0),(16,B (eqS p1 x1))] [] 19) (gC 16 (eqS p1 x1) ?_ ?_)
  ·exact zF 0 5 (mkE [(4,I z0)] [] 19)
  ·exact gK (pB (zP (gR 6 (rg Tryz.f235 6) (se (mkE [(0,LL S p0),(1,S p1),(7,I (lenL p0)),(8,I (addI .i64 z0 1))] [] 19) (pL)))))
 ·exact gX 0 (pL)
noncomputable def T235(p0:(List ByteArray))(p1:ByteArray):Option Int:=((iter (L235_2 p0 p1) 0).bind fun y2=>(Sum.elim (fun y2a=>(some (-1))) (fun y2b=>(some y2b)) y2))
theorem B235(C:Callee)(p0:(List ByteArray))(p1:ByteArray):rB C 235 Tryz.f235 (frame0 [LL S p0,S p1] 19 false) ((T235 p0 p1).map I):=by
 unfold T235
 refine zS 1 0 (mkE [(0,LL S p0),(1,S p1)] [] 19) (gS 7 (zR 2 1 (sg 1 (mkE [(6,LL S p0),(0,LL S p0),(1,S p1)] [] 19) (eo 7 (I (lenL p0)) (lenE 34 S p0) (zN (mkE [(0,LL S p0),(1,S p1),(7,I (lenL p0)),(8,I 0)] [] 19) (gB 0 (lo [(0,none),(1,none),(7,none),(8,none)] [] (L235_2 p0 p1) (fun z0:Int=>(mkE [(0,LL S p0),(1,S p1),(7,I (lenL p0)),(8,I z0)] [] 19)) (Sum.elim (fun(x:(Int×Bool))=>(.exit 0,(mkE [(0,LL S p0),(1,S p1),(7,I (lenL p0)),(8,I x.1),(9,B x.2)] [] 19))) (fun(x:Int)=>(.ret,(mkE [(4,I x)] [] 19)))) 0 (fun z=>L235_2_ok C p0 p1 z) ?_)))))))
 intro y2
 refine ss y2 (Z:=(Sum.elim (fun(x:(Int×Bool))=>(.exit 0,(mkE [(0,LL S p0),(1,S p1),(7,I (lenL p0)),(8,I x.1),(9,B x.2)] [] 19))) (fun(x:Int)=>(.ret,(mkE [(4,I x)] [] 19))))) (fun y2a=>?_) (fun y2b=>?_)
 ·exact pH (zP (zF 0 7 (mkE [(4,I (-1))] [] 19)))
 ·exact pL
theorem F235(m:Nat)(hm:1≤m)(p0:(List ByteArray))(p1:ByteArray):callA Tryz.prog cfg m 235 [LL S p0,S p1]=(T235 p0 p1).map I:=by
 obtain⟨q,rfl⟩:=sucK hm
 exact(callA_body (fn:=Tryz.f235) (c:=body_ Tryz.f235) q _ (by kernel_rfl) (by kernel_rfl) (by kernel_rfl)).trans (B235 _ p0 p1)
noncomputable def T222(p0:(List ByteArray))(p1:ByteArray):Option Bool:=((T235 p0 p1).bind fun x1=>(some (leI 0 x1)))
theorem B222(C:Callee)(h235:∀(p0:(List ByteArray))(p1:ByteArray),C 235 [LL S p0,S p1]=(T235 p0 p1).map I)(p0:(List ByteArray))(p1:ByteArray):rB C 222 Tryz.f222 (frame0 [LL S p0,S p1] 9 false) ((T222 p0 p1).map B):=by
 unfold T222
 refine zS 1 0 (mkE [(0,LL S p0),(1,S p1)] [] 9) (zR 0 1 (sg 2 (mkE [(6,S p1),(5,LL S p0),(0,LL S p0),(1,S p1)] [] 9) (co 7 [] (h235 p0 p1) (fun x1=>?_))))
 exact zE (mkE [(4,B (leI 0 x1))] [] 9)
theorem F222(m:Nat)(hm:2≤m)(p0:(List ByteArray))(p1:ByteArray):callA Tryz.prog cfg m 222 [LL S p0,S p1]=(T222 p0 p1).map B:=by
 obtain⟨q,rfl⟩:=sucK hm
 exact(callA_body (fn:=Tryz.f222) (c:=body_ Tryz.f222) q _ (by kernel_rfl) (by kernel_rfl) (by kernel_rfl)).trans (B222 _ (fun p0 p1=>F235 q (by omega) p0 p1) p0 p1)
noncomputable def T237(p0:S46)(p1_c0:ByteArray)(p2_c0:ByteArray)(p2_c1:ByteArray)(p2_c2:Int)(p2_c3:(List ByteArray))(p2_c4:Int)(p2_c5:Int)(p2_c6:Int)(p2_c7:(List S64))(p2_c8:ByteArray):Option Bool:=(bif (eqS p0.f0 p1_c0)then(bif (eqS p0.f1 p2_c1)then((T86 p0 (S46.mk p2_c0 p2_c1 p2_c2 p2_c3 p2_c4 p2_c5 p2_c6 p2_c7 p2_c8)).bind fun x1=>(some (ltI x1 0)))else(some false))else(some false))
theorem B237(C:Callee)(h86:H86 C)(p0:S46)(p1_c0:ByteArray)(p2_c0:ByteArray)(p2_c1:ByteArray)(p2_c2:Int)(p2_c3:(List ByteArray))(p2_c4:Int)(p2_c5:Int)(p2_c6:Int)(p2_c7:(List S64))(p2_c8:ByteArray):rB C 237 Tryz.f237 (frame0 [a46 p0,.ia [S p1_c0] 0,.ia [S p2_c0,S p2_c1,I p2_c2,LL S p2_c3,I p2_c4,I p2_c5,I p2_c6,LL a64 p2_c7,S p2_c8] 0] 22 false) ((T237 p0 p1_c0 p2_c0 p2_c1 p2_c2 p2_c3 p2_c4 p2_c5 p2_c6 p2_c7 p2_c8).map B):=by
 unfold T237
 let s_0:List (Nat×AV):=[(16,B (eqS p0.f1 p2_c1)),(15,B (eqS p0.f1 p2_c1)),(14,B (eqS p0.f1 p2_c1)),(13,S p2_c1),(12,.ia [S p2_c0,S p2_c1,I p2_c2,LL S p2_c3,I p2_c4,I p2_c5,I p2_c6,LL a64 p2_c7,S p2_c8] 1),(11,S p0.f1),(10,.ba 24 1),(9,B true),(9,B (eqS p0.f0 p1_c0)),(8,B (eqS p0.f0 p1_c0)),(7,S p1_c0),(6,S p0.f0),(5,.ba 24 0),(1,.ia [S p1_c0] 0),(2,.ia [S p2_c0,S p2_c1,I p2_c2,LL S p2_c3,I p2_c4,I p2_c5,I p2_c6,LL a64 p2_c7,S p2_c8] 0),(3,.ba 24 0)]
 let s_1:List (Nat×AV):=[(1,.ia [S p1_c0] 0),(2,.ia [S p2_c0,S p2_c1,I p2_c2,LL S p2_c3,I p2_c4,I p2_c5,I p2_c6,LL a64 p2_c7,S p2_c8] 0),(3,.ba 24 0)]
 let o_0:List (Nat×AObj):=[(24,.box [S p0.f0,S p0.f1,I p0.f2,LL S p0.f3,I p0.f4,I p0.f5,I p0.f6,LL a64 p0.f7,S p0.f8] false)]
 refine zS 1 0 (mkE s_1 o_0 22) (zR 0 1 (sg 5 (mkE ((9,B (eqS p0.f0 p1_c0))::((8,B (eqS p0.f0 p1_c0))::((7,S p1_c0)::((6,S p0.f0)::((5,.ba 24 0)::s_1))))) o_0 22) (sb 9 (eqS p0.f0 p1_c0) ?_ ?_)))
 ·refine sg 12 (mkE s_0 o_0 22) (sb 16 (eqS p0.f1 p2_c1) ?_ ?_)
  ·refine sg 14 (mkE ((18,.agg [S p2_c0,S p2_c1,I p2_c2,LL S p2_c3,I p2_c4,I p2_c5,I p2_c6,LL a64 p2_c7,S p2_c8])::((17,a46 p0)::((16,B true)::s_0))) o_0 22) (co 19 [] (h86 p0 (S46.mk p2_c0 p2_c1 p2_c2 p2_c3 p2_c4 p2_c5 p2_c6 p2_c7 p2_c8)) (fun x1=>?_))
   exact zE (mkE [(4,B (ltI x1 0))] [] 22)
  ·exact zE (mkE [(4,B false)] [] 22)
 ·exact zE (mkE [(4,B false)] [] 22)
theorem F237(m:Nat)(hm:4≤m)(p0:S46)(p1_c0:ByteArray)(p2_c0:ByteArray)(p2_c1:ByteArray)(p2_c2:Int)(p2_c3:(List ByteArray))(p2_c4:Int)(p2_c5:Int)(p2_c6:Int)(p2_c7:(List S64))(p2_c8:ByteArray):callA Tryz.prog cfg m 237 [a46 p0,.ia [S p1_c0] 0,.ia [S p2_c0,S p2_c1,I p2_c2,LL S p2_c3,I p2_c4,I p2_c5,I p2_c6,LL a64 p2_c7,S p2_c8] 0]=(T237 p0 p1_c0 p2_c0 p2_c1 p2_c2 p2_c3 p2_c4 p2_c5 p2_c6 p2_c7 p2_c8).map B:=by
 obtain⟨q,rfl⟩:=sucK hm
 exact(callA_body (fn:=Tryz.f237) (c:=body_ Tryz.f237) q _ (by kernel_rfl) (by kernel_rfl) (by kernel_rfl)).trans (B237 _ (fun p0 p1=>F86 q (by omega) p0 p1) p0 p1_c0 p2_c0 p2_c1 p2_c2 p2_c3 p2_c4 p2_c5 p2_c6 p2_c7 p2_c8)
noncomputable def L11_1_2(p0:(List S46))(p1_c0:ByteArray)(p1_c1:ByteArray)(p1_c2:ByteArray)(p1_c3:Int)(p1_c4:(List ByteArray))(p1_c5:Int)(p1_c6:Int)(p1_c7:Int)(p1_c8:(List S64))(p1_c9:ByteArray)(z0:Int):Option (Int⊕((Int×Bool)⊕Int)):=(bif (ltI z0 (lenL p0))then((listAt p0 z0).bind fun x1=>((T237 x1 p1_c0 p1_c1 p1_c2 p1_c3 p1_c4 p1_c5 p1_c6 p1_c7 p1_c8 p1_c9).bind fun x2=>(bif x2 then(some (.inr (.inr z0)))else(some (.inl (addI .i64 z0 1))))))else(some (.inr (.inl (z0,(ltI z0 (lenL p0)))))))
abbrev H237(C:Callee):Prop:=∀(p0:S46)(p1_c0:ByteArray)(p2_c0:ByteArray)(p2_c1:ByteArray)(p2_c2:Int)(p2_c3:(List ByteArray))(p2_c4:Int)(p2_c5:Int)(p2_c6:Int)(p2_c7:(List S64))(p2_c8:ByteArray),C 237 [a46 p0,.ia [S p1_c0] 0,.ia [S p2_c0,S p2_c1,I p2_c2,LL S p2_c3,I p2_c4,I p2_c5,I p2_c6,LL a64 p2_c7,S p2_c8] 0]=(T237 p0 p1_c0 p2_c0 p2_c1 p2_c2 p2_c3 p2_c4 p2_c5 p2_c6 p2_c7 p2_c8).map B
theorem L11_1_2_ok(C:Callee)(h237:H237 C)(p0:(List S46))(p1_c0:ByteArray)(p1_c1:ByteArray)(p1_c2:ByteArray)(p1_c3:Int)(p1_c4:(List ByteArray))(p1_c5:Int)(p1_c6:Int)(p1_c7:Int)(p1_c8:(List S64))(p1_c9:ByteArray)(z0:Int):rL C 11 Tryz.f11 2 [false,false,true,false,true] (fun z0:Int=>(mkE [(0,LL a46 p0),(1,.fn 237 [.ia [S p1_c0] 0,.ia [S p1_c1,S p1_c2,I p1_c3,LL S p1_c4,I p1_c5,I p1_c6,I p1_c7,LL a64 p1_c8,S p1_c9] 0]),(7,I (lenL p0)),(8,I z0)] [] 19)) (Sum.elim (fun(x:(Int×Bool))=>(.exit 0,(mkE [(0,LL a46 p0),(1,.fn 237 [.ia [S p1_c0] 0,.ia [S p1_c1,S p1_c2,I p1_c3,LL S p1_c4,I p1_c5,I p1_c6,I p1_c7,LL a64 p1_c8,S p1_c9] 0]),(7,I (lenL p0)),(8,I x.1),(9,B x.2)] [] 19))) (fun(x:Int)=>(.ret,(mkE [(4,I x)] [] 19)))) (L11_1_2 p0 p1_c0 p1_c1 p1_c2 p1_c3 p1_c4 p1_c5 p1_c6 p1_c7 p1_c8 p1_c9 z0) z0:=by
 unfold L11_1_2
 let s_0:List (Nat×AV):=[(0,LL a46 p0),(1,.fn 237 [.ia [S p1_c0] 0,.ia [S p1_c1,S p1_c2,I p1_c3,LL S p1_c4,I p1_c5,I p1_c6,I p1_c7,LL a64 p1_c8,S p1_c9] 0])]
 let s_1:List (Nat×AV):=[(13,I z0),(12,LL a46 p0),(11,.fn 237 [.ia [S p1_c0] 0,.ia [S p1_c1,S p1_c2,I p1_c3,LL S p1_c4,I p1_c5,I p1_c6,I p1_c7,LL a64 p1_c8,S p1_c9] 0])]
 refine zS 0 2 (mkE (s_0.append ((7,I (lenL p0))::((8,I z0)::[(9,B (ltI z0 (lenL p0)))]))) [] 19) (gS 3 (gC 9 (ltI z0 (lenL p0)) ?_ ?_))
 ·refine gK (zP (gS 6 (gB 1 (zS 4 3 (mkE (s_0.append ((5,I z0)::((7,I (lenL p0))::[(8,I z0)]))) [] 19) (zR 0 4 (sg 3 (mkE (s_1.append (s_0.append ((5,I z0)::((7,I (lenL p0))::[(8,I z0)])))) [] 19) (vo 14 (addrE 26 47 9 a46 .i64 p0 z0) (fun x1=>?_))))))))
  refine sg 5 (mkE ((15,a46 x1)::((14,.ia [S x1.f0,S x1.f1,I x1.f2,LL S x1.f3,I x1.f4,I x1.f5,I x1.f6,LL a64 x1.f7,S x1.f8] 0)::(s_1.append (s_0.append ((5,I z0)::((7,I (lenL p0))::[(8,I z0)])))))) [] 19) (co 16 [] (h237 x1 p1_c0 p1_c1 p1_c2 p1_c3 p1_c4 p1_c5 p1_c6 p1_c7 p1_c8 p1_c9) (fun x2=>?_))
  refine zN (mkE (s_0.append ((5,I z0)::((7,I (lenL p0))::((8,I z0)::[(16,B x2)])))) [] 19) (gC 16 x2 ?_ ?_)
  ·exact zF 0 5 (mkE [(4,I z0)] [] 19)
  ·exact gK (pB (zP (gR 6 (rg Tryz.f11 6) (se (mkE (s_0.append ((7,I (lenL p0))::[(8,I (addI .i64 z0 1))])) [] 19) (pL)))))
 ·exact gX 0 (pL)
noncomputable def T11_1(p0:(List S46))(p1_c0:ByteArray)(p1_c1:ByteArray)(p1_c2:ByteArray)(p1_c3:Int)(p1_c4:(List ByteArray))(p1_c5:Int)(p1_c6:Int)(p1_c7:Int)(p1_c8:(List S64))(p1_c9:ByteArray):Option Int:=((iter (L11_1_2 p0 p1_c0 p1_c1 p1_c2 p1_c3 p1_c4 p1_c5 p1_c6 p1_c7 p1_c8 p1_c9) 0).bind fun y3=>(Sum.elim (fun y3a=>(some (-1))) (fun y3b=>(some y3b)) y3))
theorem B11_1(C:Callee)(h237:H237 C)(p0:(List S46))(p1_c0:ByteArray)(p1_c1:ByteArray)(p1_c2:ByteArray)(p1_c3:Int)(p1_c4:(List ByteArray))(p1_c5:Int)(p1_c6:Int)(p1_c7:Int)(p1_c8:(List S64))(p1_c9:ByteArray):runs Tryz.prog C (cfg.fn 11) (finFn Tryz.prog (cfg.fn 11).byval Tryz.f11) [] (execA Tryz.prog C (cfg.fn 11) (nr Tryz.f11 []) (frame0 [LL a46 p0,.fn 237 [.ia [S p1_c0] 0,.ia [S p1_c1,S p1_c2,I p1_c3,LL S p1_c4,I p1_c5,I p1_c6,I p1_c7,LL a64 p1_c8,S p1_c9] 0]] 19 false))=(T11_1 p0 p1_c0 p1_c1 p1_c2 p1_c3 p1_c4 p1_c5 p1_c6 p1_c7 p1_c8 p1_c9).map I:=by
 unfold T11_1
 let s_0:List (Nat×AV):=[(0,LL a46 p0),(1,.fn 237 [.ia [S p1_c0] 0,.ia [S p1_c1,S p1_c2,I p1_c3,LL S p1_c4,I p1_c5,I p1_c6,I p1_c7,LL a64 p1_c8,S p1_c9] 0])]
 refine zS 1 0 (mkE s_0 [] 19) (gS 7 (zR 2 1 (sg 1 (mkE ((6,LL a46 p0)::s_0) [] 19) (eo 7 (I (lenL p0)) (lenE 26 a46 p0) (zN (mkE (s_0.append ((7,I (lenL p0))::[(8,I 0)])) [] 19) (gB 0 (lo [(0,none),(1,none),(7,none),(8,none)] [] (L11_1_2 p0 p1_c0 p1_c1 p1_c2 p1_c3 p1_c4 p1_c5 p1_c6 p1_c7 p1_c8 p1_c9) (fun z0:Int=>(mkE (s_0.append ((7,I (lenL p0))::[(8,I z0)])) [] 19)) (Sum.elim (fun(x:(Int×Bool))=>(.exit 0,(mkE (s_0.append ((7,I (lenL p0))::((8,I x.1)::[(9,B x.2)]))) [] 19))) (fun(x:Int)=>(.ret,(mkE [(4,I x)] [] 19)))) 0 (fun z=>L11_1_2_ok C h237 p0 p1_c0 p1_c1 p1_c2 p1_c3 p1_c4 p1_c5 p1_c6 p1_c7 p1_c8 p1_c9 z) ?_)))))))
 intro y3
 refine ss y3 (Z:=(Sum.elim (fun(x:(Int×Bool))=>(.exit 0,(mkE (s_0.append ((7,I (lenL p0))::((8,I x.1)::[(9,B x.2)]))) [] 19))) (fun(x:Int)=>(.ret,(mkE [(4,I x)] [] 19))))) (fun y3a=>?_) (fun y3b=>?_)
 ·exact pH (zP (zF 0 7 (mkE [(4,I (-1))] [] 19)))
 ·exact pL
theorem F11_1(m:Nat)(hm:5≤m)(p0:(List S46))(p1_c0:ByteArray)(p1_c1:ByteArray)(p1_c2:ByteArray)(p1_c3:Int)(p1_c4:(List ByteArray))(p1_c5:Int)(p1_c6:Int)(p1_c7:Int)(p1_c8:(List S64))(p1_c9:ByteArray):callA Tryz.prog cfg m 11 [LL a46 p0,.fn 237 [.ia [S p1_c0] 0,.ia [S p1_c1,S p1_c2,I p1_c3,LL S p1_c4,I p1_c5,I p1_c6,I p1_c7,LL a64 p1_c8,S p1_c9] 0]]=(T11_1 p0 p1_c0 p1_c1 p1_c2 p1_c3 p1_c4 p1_c5 p1_c6 p1_c7 p1_c8 p1_c9).map I:=by
 obtain⟨q,rfl⟩:=sucK hm
 exact(callA_body (fn:=Tryz.f11) (c:=body_ Tryz.f11) q _ (by kernel_rfl) (by kernel_rfl) (by kernel_rfl)).trans (B11_1 _ (fun p0 p1_c0 p2_c0 p2_c1 p2_c2 p2_c3 p2_c4 p2_c5 p2_c6 p2_c7 p2_c8=>F237 q (by omega) p0 p1_c0 p2_c0 p2_c1 p2_c2 p2_c3 p2_c4 p2_c5 p2_c6 p2_c7 p2_c8) p0 p1_c0 p1_c1 p1_c2 p1_c3 p1_c4 p1_c5 p1_c6 p1_c7 p1_c8 p1_c9)
noncomputable def T236(p0:(List S46))(p1_c0:ByteArray)(p1_c1:ByteArray)(p1_c2:ByteArray)(p1_c3:Int)(p1_c4:(List ByteArray))(p1_c5:Int)(p1_c6:Int)(p1_c7:Int)(p1_c8:(List S64))(p1_c9:ByteArray):Option Bool:=((T11_1 p0 p1_c0 p1_c1 p1_c2 p1_c3 p1_c4 p1_c5 p1_c6 p1_c7 p1_c8 p1_c9).bind fun x1=>(some (leI 0 x1)))
theorem B236(C:Callee)(h11_1:∀(p0:(List S46))(p1_c0:ByteArray)(p1_c1:ByteArray)(p1_c2:ByteArray)(p1_c3:Int)(p1_c4:(List ByteArray))(p1_c5:Int)(p1_c6:Int)(p1_c7:Int)(p1_c8:(List S64))(p1_c9:ByteArray),C 11 [LL a46 p0,.fn 237 [.ia [S p1_c0] 0,.ia [S p1_c1,S p1_c2,I p1_c3,LL S p1_c4,I p1_c5,I p1_c6,I p1_c7,LL a64 p1_c8,S p1_c9] 0]]=(T11_1 p0 p1_c0 p1_c1 p1_c2 p1_c3 p1_c4 p1_c5 p1_c6 p1_c7 p1_c8 p1_c9).map I)(p0:(List S46))(p1_c0:ByteArray)(p1_c1:ByteArray)(p1_c2:ByteArray)(p1_c3:Int)(p1_c4:(List ByteArray))(p1_c5:Int)(p1_c6:Int)(p1_c7:Int)(p1_c8:(List S64))(p1_c9:ByteArray):rB C 236 Tryz.f236 (frame0 [LL a46 p0,.fn 237 [.ia [S p1_c0] 0,.ia [S p1_c1,S p1_c2,I p1_c3,LL S p1_c4,I p1_c5,I p1_c6,I p1_c7,LL a64 p1_c8,S p1_c9] 0]] 9 false) ((T236 p0 p1_c0 p1_c1 p1_c2 p1_c3 p1_c4 p1_c5 p1_c6 p1_c7 p1_c8 p1_c9).map B):=by
 unfold T236
 let s_0:List (Nat×AV):=[(0,LL a46 p0),(1,.fn 237 [.ia [S p1_c0] 0,.ia [S p1_c1,S p1_c2,I p1_c3,LL S p1_c4,I p1_c5,I p1_c6,I p1_c7,LL a64 p1_c8,S p1_c9] 0])]
 refine zS 1 0 (mkE s_0 [] 9) (zR 0 1 (sg 2 (mkE ((6,.fn 237 [.ia [S p1_c0] 0,.ia [S p1_c1,S p1_c2,I p1_c3,LL S p1_c4,I p1_c5,I p1_c6,I p1_c7,LL a64 p1_c8,S p1_c9] 0])::((5,LL a46 p0)::s_0)) [] 9) (co 7 [] (h11_1 p0 p1_c0 p1_c1 p1_c2 p1_c3 p1_c4 p1_c5 p1_c6 p1_c7 p1_c8 p1_c9) (fun x1=>?_))))
 exact zE (mkE [(4,B (leI 0 x1))] [] 9)
theorem F236(m:Nat)(hm:6≤m)(p0:(List S46))(p1_c0:ByteArray)(p1_c1:ByteArray)(p1_c2:ByteArray)(p1_c3:Int)(p1_c4:(List ByteArray))(p1_c5:Int)(p1_c6:Int)(p1_c7:Int)(p1_c8:(List S64))(p1_c9:ByteArray):callA Tryz.prog cfg m 236 [LL a46 p0,.fn 237 [.ia [S p1_c0] 0,.ia [S p1_c1,S p1_c2,I p1_c3,LL S p1_c4,I p1_c5,I p1_c6,I p1_c7,LL a64 p1_c8,S p1_c9] 0]]=(T236 p0 p1_c0 p1_c1 p1_c2 p1_c3 p1_c4 p1_c5 p1_c6 p1_c7 p1_c8 p1_c9).map B:=by
 obtain⟨q,rfl⟩:=sucK hm
 exact(callA_body (fn:=Tryz.f236) (c:=body_ Tryz.f236) q _ (by kernel_rfl) (by kernel_rfl) (by kernel_rfl)).trans (B236 _ (fun p0 p1_c0 p1_c1 p1_c2 p1_c3 p1_c4 p1_c5 p1_c6 p1_c7 p1_c8 p1_c9=>F11_1 q (by omega) p0 p1_c0 p1_c1 p1_c2 p1_c3 p1_c4 p1_c5 p1_c6 p1_c7 p1_c8 p1_c9) p0 p1_c0 p1_c1 p1_c2 p1_c3 p1_c4 p1_c5 p1_c6 p1_c7 p1_c8 p1_c9)
noncomputable def T223(p0:(List S46))(p1:S46)(p2:ByteArray):Option Bool:=((T236 p0 p2 p1.f0 p1.f1 p1.f2 p1.f3 p1.f4 p1.f5 p1.f6 p1.f7 p1.f8).bind fun x1=>(some x1))
theorem B223(C:Callee)(h236:∀(p0:(List S46))(p1_c0:ByteArray)(p1_c1:ByteArray)(p1_c2:ByteArray)(p1_c3:Int)(p1_c4:(List ByteArray))(p1_c5:Int)(p1_c6:Int)(p1_c7:Int)(p1_c8:(List S64))(p1_c9:ByteArray),C 236 [LL a46 p0,.fn 237 [.ia [S p1_c0] 0,.ia [S p1_c1,S p1_c2,I p1_c3,LL S p1_c4,I p1_c5,I p1_c6,I p1_c7,LL a64 p1_c8,S p1_c9] 0]]=(T236 p0 p1_c0 p1_c1 p1_c2 p1_c3 p1_c4 p1_c5 p1_c6 p1_c7 p1_c8 p1_c9).map B)(p0:(List S46))(p1:S46)(p2:ByteArray):rB C 223 Tryz.f223 (frame0 [LL a46 p0,a46 p1,S p2] 10 false) ((T223 p0 p1 p2).map B):=by
 unfold T223
 let o_0:List (Nat×AObj):=[(32,.box [S p1.f0,S p1.f1,I p1.f2,LL S p1.f3,I p1.f4,I p1.f5,I p1.f6,LL a64 p1.f7,S p1.f8] false),(40,.box [S p2] false)]
 refine zS 1 0 (mkE [(0,LL a46 p0),(4,.ba 32 0),(5,.ba 40 0)] o_0 10) (zR 0 1 (sg 2 (mkE [(8,.fn 237 [.ba 40 0,.ba 32 0]),(7,LL a46 p0),(0,LL a46 p0),(4,.ba 32 0),(5,.ba 40 0)] o_0 10) (co 9 [40,32] (h236 p0 p2 p1.f0 p1.f1 p1.f2 p1.f3 p1.f4 p1.f5 p1.f6 p1.f7 p1.f8) (fun x1=>?_))))
 exact zE (mkE [(6,B x1)] [] 10)
theorem F223(m:Nat)(hm:7≤m)(p0:(List S46))(p1:S46)(p2:ByteArray):callA Tryz.prog cfg m 223 [LL a46 p0,a46 p1,S p2]=(T223 p0 p1 p2).map B:=by
 obtain⟨q,rfl⟩:=sucK hm
 exact(callA_body (fn:=Tryz.f223) (c:=body_ Tryz.f223) q _ (by kernel_rfl) (by kernel_rfl) (by kernel_rfl)).trans (B223 _ (fun p0 p1_c0 p1_c1 p1_c2 p1_c3 p1_c4 p1_c5 p1_c6 p1_c7 p1_c8 p1_c9=>F236 q (by omega) p0 p1_c0 p1_c1 p1_c2 p1_c3 p1_c4 p1_c5 p1_c6 p1_c7 p1_c8 p1_c9) p0 p1 p2)
noncomputable def L204_3(p0:(List S46))(p1:S46)(z0:(Int×Int)):Option ((Int×Int)⊕(Int×Int×Bool)):=(bif (ltI z0.2 (lenL p0))then((listAt p0 z0.2).bind fun x1=>((T222 x1.f3 p1.f0).bind fun x2=>(bif x2 then((T223 p0 x1 p1.f0).bind fun x3=>(bif x3 then(some (.inl ((minI z0.1 x1.f4),(addI .i64 z0.2 1))))else(some (.inl (z0.1,(addI .i64 z0.2 1))))))else(some (.inl (z0.1,(addI .i64 z0.2 1)))))))else(some (.inr (z0.1,z0.2,(ltI z0.2 (lenL p0))))))
abbrev H222(C:Callee):Prop:=∀(p0:(List ByteArray))(p1:ByteArray),C 222 [LL S p0,S p1]=(T222 p0 p1).map B
abbrev H223(C:Callee):Prop:=∀(p0:(List S46))(p1:S46)(p2:ByteArray),C 223 [LL a46 p0,a46 p1,S p2]=(T223 p0 p1 p2).map B
theorem L204_3_ok(C:Callee)(h222:H222 C)(h223:H223 C)(p0:(List S46))(p1:S46)(z0:(Int×Int)):rL C 204 Tryz.f204 3 [false,false,true,false,true,true] (fun z0:(Int×Int)=>(mkE [(0,LL a46 p0),(3,.ba 24 0),(5,I z0.1),(10,LL a46 p0),(11,I (lenL p0)),(12,I z0.2)] [(24,.box [S p1.f0,S p1.f1,I p1.f2,LL S p1.f3,I p1.f4,I p1.f5,I p1.f6,LL a64 p1.f7,S p1.f8] false)] 34)) (fun(x:(Int×Int×Bool))=>(.exit 0,(mkE [(0,LL a46 p0),(3,.ba 24 0),(5,I x.1),(10,LL a46 p0),(11,I (lenL p0)),(12,I x.2.1),(13,B x.2.2)] [(24,.box [S p1.f0,S p1.f1,I p1.f2,LL S p1.f3,I p1.f4,I p1.f5,I p1.f6,LL a64 p1.f7,S p1.f8] false)] 34))) (L204_3 p0 p1 z0) z0:=by
 unfold L204_3
 let s_0:List (Nat×AV):=[(0,LL a46 p0),(3,.ba 24 0),(5,I z0.1),(7,.ba 56 0),(10,LL a46 p0),(11,I (lenL p0)),(12,I z0.2)]
 let s_1:List (Nat×AV):=[(0,LL a46 p0),(3,.ba 24 0),(5,I z0.1),(10,LL a46 p0),(11,I (lenL p0))]
 let o_0:List (Nat×AObj):=[(24,.box [S p1.f0,S p1.f1,I p1.f2,LL S p1.f3,I p1.f4,I p1.f5,I p1.f6,LL a64 p1.f7,S p1.f8] false)]
 refine zS 0 3 (mkE (s_1.append ((12,I z0.2)::[(13,B (ltI z0.2 (lenL p0)))])) o_0 34) (gS 4 (gC 13 (ltI z0.2 (lenL p0)) ?_ ?_))
 ·refine gK (zP (gS 7 (gB 1 (zR 5 4 (vo 14 (addrE 26 47 9 a46 .i64 p0 z0.2) (fun x1=>?_))))))
  refine zN (mkE s_0 (o_0.append [(56,.box [S x1.f0,S x1.f1,I x1.f2,LL S x1.f3,I x1.f4,I x1.f5,I x1.f6,LL a64 x1.f7,S x1.f8] false)]) 34) (zR 0 5 (sg 4 (mkE ((19,S p1.f0)::((18,.ba 24 0)::((17,LL S x1.f3)::((16,.ba 56 3)::s_0)))) (o_0.append [(56,.box [S x1.f0,S x1.f1,I x1.f2,LL S x1.f3,I x1.f4,I x1.f5,I x1.f6,LL a64 x1.f7,S x1.f8] false)]) 34) (co 20 [] (h222 x1.f3 p1.f0) (fun x2=>?_))))
  refine sg 6 (mkE ((21,B x2)::((20,B x2)::((19,S p1.f0)::((18,.ba 24 0)::((17,LL S x1.f3)::((16,.ba 56 3)::s_0)))))) (o_0.append [(56,.box [S x1.f0,S x1.f1,I x1.f2,LL S x1.f3,I x1.f4,I x1.f5,I x1.f6,LL a64 x1.f7,S x1.f8] false)]) 34) (sb 21 x2 ?_ ?_)
  ·refine sg 10 (mkE ((25,S p1.f0)::((24,.ba 24 0)::((23,a46 x1)::((22,LL a46 p0)::((21,B true)::((21,B x2)::((20,B x2)::((19,S p1.f0)::((18,.ba 24 0)::((17,LL S x1.f3)::((16,.ba 56 3)::s_0))))))))))) (o_0.append [(56,.box [S x1.f0,S x1.f1,I x1.f2,LL S x1.f3,I x1.f4,I x1.f5,I x1.f6,LL a64 x1.f7,S x1.f8] false)]) 34) (co 26 [] (h223 p0 x1 p1.f0) (fun x3=>?_))
   refine zN (mkE (s_0.append [(27,B x3)]) (o_0.append [(56,.box [S x1.f0,S x1.f1,I x1.f2,LL S x1.f3,I x1.f4,I x1.f5,I x1.f6,LL a64 x1.f7,S x1.f8] false)]) 34) (gC 27 x3 ?_ ?_)
   ·exact gR 6 (rg Tryz.f204 6) (se (mkE [(0,LL a46 p0),(3,.ba 24 0),(5,I (minI z0.1 x1.f4)),(10,LL a46 p0),(11,I (lenL p0)),(12,I z0.2)] o_0 34) (pB (zP (gR 7 (rg Tryz.f204 7) (se (mkE [(0,LL a46 p0),(3,.ba 24 0),(5,I (minI z0.1 x1.f4)),(10,LL a46 p0),(11,I (lenL p0)),(12,I (addI .i64 z0.2 1))] o_0 34) (pL))))))
   ·exact gK (pB (zP (gR 7 (rg Tryz.f204 7) (se (mkE (s_1.append [(12,I (addI .i64 z0.2 1))]) o_0 34) (pL)))))
  ·exact zN (mkE (s_0.append [(27,B false)]) (o_0.append [(56,.box [S x1.f0,S x1.f1,I x1.f2,LL S x1.f3,I x1.f4,I x1.f5,I x1.f6,LL a64 x1.f7,S x1.f8] false)]) 34) (gF (.tmp 27) (gK (pB (zP (gR 7 (rg Tryz.f204 7) (se (mkE (s_1.append [(12,I (addI .i64 z0.2 1))]) o_0 34) (pL)))))))
 ·exact gX 0 (pL)
noncomputable def T204(p0:(List S46))(p1:S46):Option Int:=((iter (L204_3 p0 p1) (p1.f5,0)).bind fun y4=>(some y4.1))
theorem B204(C:Callee)(h222:H222 C)(h223:H223 C)(p0:(List S46))(p1:S46):rB C 204 Tryz.f204 (frame0 [LL a46 p0,a46 p1] 34 false) ((T204 p0 p1).map I):=by
 unfold T204
 let o_0:List (Nat×AObj):=[(24,.box [S p1.f0,S p1.f1,I p1.f2,LL S p1.f3,I p1.f4,I p1.f5,I p1.f6,LL a64 p1.f7,S p1.f8] false)]
 refine zS 1 0 (mkE [(0,LL a46 p0),(3,.ba 24 0)] o_0 34) (zS 2 1 (mkE [(0,LL a46 p0),(3,.ba 24 0),(5,I p1.f5)] o_0 34) (gS 8 (zR 3 2 (sg 1 (mkE [(10,LL a46 p0),(0,LL a46 p0),(3,.ba 24 0),(5,I p1.f5)] o_0 34) (eo 11 (I (lenL p0)) (lenE 26 a46 p0) (zN (mkE [(0,LL a46 p0),(3,.ba 24 0),(5,I p1.f5),(10,LL a46 p0),(11,I (lenL p0)),(12,I 0)] o_0 34) (gB 0 (lo [(0,none),(3,none),(5,none),(10,none),(11,none),(12,none)] [] (L204_3 p0 p1) (fun z0:(Int×Int)=>(mkE [(0,LL a46 p0),(3,.ba 24 0),(5,I z0.1),(10,LL a46 p0),(11,I (lenL p0)),(12,I z0.2)] o_0 34)) (fun(x:(Int×Int×Bool))=>(.exit 0,(mkE [(0,LL a46 p0),(3,.ba 24 0),(5,I x.1),(10,LL a46 p0),(11,I (lenL p0)),(12,I x.2.1),(13,B x.2.2)] o_0 34))) (p1.f5,0) (fun z=>L204_3_ok C h222 h223 p0 p1 z) ?_))))))))
 intro y4
 exact pH (zP (zF 0 8 (mkE [(4,I y4.1)] [] 34)))
theorem F204(m:Nat)(hm:8≤m)(p0:(List S46))(p1:S46):callA Tryz.prog cfg m 204 [LL a46 p0,a46 p1]=(T204 p0 p1).map I:=by
 obtain⟨q,rfl⟩:=sucK hm
 exact(callA_body (fn:=Tryz.f204) (c:=body_ Tryz.f204) q _ (by kernel_rfl) (by kernel_rfl) (by kernel_rfl)).trans (B204 _ (fun p0 p1=>F222 q (by omega) p0 p1) (fun p0 p1 p2=>F223 q (by omega) p0 p1 p2) p0 p1)
noncomputable def T181(p0:(List S46))(p1:S46)(p2:Int):Option Bool:=(bif (neI p1.f2 3)then(bif (leI p1.f4 p2)then((T204 p0 p1).bind fun x1=>(some (ltI p2 x1)))else(some false))else(some false))
theorem B181(C:Callee)(h204:∀(p0:(List S46))(p1:S46),C 204 [LL a46 p0,a46 p1]=(T204 p0 p1).map I)(p0:(List S46))(p1:S46)(p2:Int):rB C 181 Tryz.f181 (frame0 [LL a46 p0,a46 p1,I p2] 23 false) ((T181 p0 p1 p2).map B):=by
 unfold T181
 let s_0:List (Nat×AV):=[(16,B (leI p1.f4 p2)),(15,B (leI p1.f4 p2)),(14,B (leI p1.f4 p2)),(13,I p2),(12,I p1.f4),(11,.ba 32 4),(10,B true),(10,B (neI p1.f2 3)),(9,B (neI p1.f2 3)),(8,I p1.f2),(7,.ba 32 2),(0,LL a46 p0),(2,I p2),(4,.ba 32 0)]
 let o_0:List (Nat×AObj):=[(32,.box [S p1.f0,S p1.f1,I p1.f2,LL S p1.f3,I p1.f4,I p1.f5,I p1.f6,LL a64 p1.f7,S p1.f8] false)]
 refine zS 1 0 (mkE [(0,LL a46 p0),(2,I p2),(4,.ba 32 0)] o_0 23) (zR 0 1 (sg 4 (mkE [(10,B (neI p1.f2 3)),(9,B (neI p1.f2 3)),(8,I p1.f2),(7,.ba 32 2),(0,LL a46 p0),(2,I p2),(4,.ba 32 0)] o_0 23) (sb 10 (neI p1.f2 3) ?_ ?_)))
 ·refine sg 10 (mkE s_0 o_0 23) (sb 16 (leI p1.f4 p2) ?_ ?_)
  ·refine sg 13 (mkE ((19,a46 p1)::((18,LL a46 p0)::((17,I p2)::((16,B true)::s_0)))) o_0 23) (co 20 [] (h204 p0 p1) (fun x1=>?_))
   exact zE (mkE [(6,B (ltI p2 x1))] [] 23)
  ·exact zE (mkE [(6,B false)] [] 23)
 ·exact zE (mkE [(6,B false)] [] 23)
theorem F181(m:Nat)(hm:9≤m)(p0:(List S46))(p1:S46)(p2:Int):callA Tryz.prog cfg m 181 [LL a46 p0,a46 p1,I p2]=(T181 p0 p1 p2).map B:=by
 obtain⟨q,rfl⟩:=sucK hm
 exact(callA_body (fn:=Tryz.f181) (c:=body_ Tryz.f181) q _ (by kernel_rfl) (by kernel_rfl) (by kernel_rfl)).trans (B181 _ (fun p0 p1=>F204 q (by omega) p0 p1) p0 p1 p2)
noncomputable def T225(p0:S64)(p1:Int)(p2:Int):Option Bool:=((T94 p1 p0.f0 (subI .i64 (addI .i64 p0.f0 p0.f2) 1)).bind fun x1=>(bif x1 then((T94 p2 p0.f1 (subI .i64 (addI .i64 p0.f1 p0.f3) 1)).bind fun x2=>(some x2))else(some false)))
theorem B225(C:Callee)(h94:H94 C)(p0:S64)(p1:Int)(p2:Int):rB C 225 Tryz.f225 (frame0 [a64 p0,I p1,I p2] 29 false) ((T225 p0 p1 p2).map B):=by
 unfold T225
 let s_0:List (Nat×AV):=[(15,I (subI .i64 (addI .i64 p0.f0 p0.f2) 1)),(14,I (addI .i64 p0.f0 p0.f2)),(13,I p0.f2),(12,.ba 24 2),(11,I p0.f0),(10,.ba 24 0),(9,I p0.f0),(8,.ba 24 0),(7,I p1),(1,I p1),(2,I p2),(3,.ba 24 0)]
 let o_0:List (Nat×AObj):=[(24,.box [I p0.f0,I p0.f1,I p0.f2,I p0.f3] false)]
 refine zS 1 0 (mkE [(1,I p1),(2,I p2),(3,.ba 24 0)] o_0 29) (zR 0 1 (sg 9 (mkE s_0 o_0 29) (co 16 [] (h94 p1 p0.f0 (subI .i64 (addI .i64 p0.f0 p0.f2) 1)) (fun x1=>?_))))
 refine sg 11 (mkE ((17,B x1)::((16,B x1)::s_0)) o_0 29) (sb 17 x1 ?_ ?_)
 ·refine sg 20 (mkE ((26,I (subI .i64 (addI .i64 p0.f1 p0.f3) 1))::((25,I (addI .i64 p0.f1 p0.f3))::((24,I p0.f3)::((23,.ba 24 3)::((22,I p0.f1)::((21,.ba 24 1)::((20,I p0.f1)::((19,.ba 24 1)::((18,I p2)::((17,B true)::((17,B x1)::((16,B x1)::s_0)))))))))))) o_0 29) (co 27 [] (h94 p2 p0.f1 (subI .i64 (addI .i64 p0.f1 p0.f3) 1)) (fun x2=>?_))
  exact zE (mkE [(6,B x2)] [] 29)
 ·exact zE (mkE [(6,B false)] [] 29)
theorem F225(m:Nat)(hm:2≤m)(p0:S64)(p1:Int)(p2:Int):callA Tryz.prog cfg m 225 [a64 p0,I p1,I p2]=(T225 p0 p1 p2).map B:=by
 obtain⟨q,rfl⟩:=sucK hm
 exact(callA_body (fn:=Tryz.f225) (c:=body_ Tryz.f225) q _ (by kernel_rfl) (by kernel_rfl) (by kernel_rfl)).trans (B225 _ (fun p0 p1 p2=>F94 q (by omega) p0 p1 p2) p0 p1 p2)
noncomputable def T224(p0:S64)(p1_c0:Int)(p2_c0:Int):Option Bool:=((T225 p0 p1_c0 p2_c0).bind fun x1=>(some x1))
theorem B224(C:Callee)(h225:∀(p0:S64)(p1:Int)(p2:Int),C 225 [a64 p0,I p1,I p2]=(T225 p0 p1 p2).map B)(p0:S64)(p1_c0:Int)(p2_c0:Int):rB C 224 Tryz.f224 (frame0 [a64 p0,.ia [I p1_c0] 0,.ia [I p2_c0] 0] 9 false) ((T224 p0 p1_c0 p2_c0).map B):=by
 unfold T224
 refine zS 1 0 (mkE [(1,.ia [I p1_c0] 0),(2,.ia [I p2_c0] 0),(3,.ba 24 0)] [(24,.box [I p0.f0,I p0.f1,I p0.f2,I p0.f3] false)] 9) (zR 0 1 (sg 3 (mkE [(7,I p2_c0),(6,I p1_c0),(5,a64 p0),(1,.ia [I p1_c0] 0),(2,.ia [I p2_c0] 0),(3,.ba 24 0)] [(24,.box [I p0.f0,I p0.f1,I p0.f2,I p0.f3] false)] 9) (co 8 [] (h225 p0 p1_c0 p2_c0) (fun x1=>?_))))
 exact zE (mkE [(4,B x1)] [] 9)
theorem F224(m:Nat)(hm:3≤m)(p0:S64)(p1_c0:Int)(p2_c0:Int):callA Tryz.prog cfg m 224 [a64 p0,.ia [I p1_c0] 0,.ia [I p2_c0] 0]=(T224 p0 p1_c0 p2_c0).map B:=by
 obtain⟨q,rfl⟩:=sucK hm
 exact(callA_body (fn:=Tryz.f224) (c:=body_ Tryz.f224) q _ (by kernel_rfl) (by kernel_rfl) (by kernel_rfl)).trans (B224 _ (fun p0 p1 p2=>F225 q (by omega) p0 p1 p2) p0 p1_c0 p2_c0)
noncomputable def L120_1_2(p0:(List S64))(p1_c0:Int)(p1_c1:Int)(z0:Int):Option (Int⊕((Int×Bool)⊕Int)):=(bif (ltI z0 (lenL p0))then((listAt p0 z0).bind fun x1=>((T224 x1 p1_c0 p1_c1).bind fun x2=>(bif x2 then(some (.inr (.inr z0)))else(some (.inl (addI .i64 z0 1))))))else(some (.inr (.inl (z0,(ltI z0 (lenL p0)))))))
abbrev H224(C:Callee):Prop:=∀(p0:S64)(p1_c0:Int)(p2_c0:Int),C 224 [a64 p0,.ia [I p1_c0] 0,.ia [I p2_c0] 0]=(T224 p0 p1_c0 p2_c0).map B
theorem L120_1_2_ok(C:Callee)(h224:H224 C)(p0:(List S64))(p1_c0:Int)(p1_c1:Int)(z0:Int):rL C 120 Tryz.f120 2 [false,false,true,false,true] (fun z0:Int=>(mkE [(0,LL a64 p0),(1,.fn 224 [.ia [I p1_c0] 0,.ia [I p1_c1] 0]),(7,I (lenL p0)),(8,I z0)] [] 19)) (Sum.elim (fun(x:(Int×Bool))=>(.exit 0,(mkE [(0,LL a64 p0),(1,.fn 224 [.ia [I p1_c0] 0,.ia [I p1_c1] 0]),(7,I (lenL p0)),(8,I x.1),(9,B x.2)] [] 19))) (fun(x:Int)=>(.ret,(mkE [(4,I x)] [] 19)))) (L120_1_2 p0 p1_c0 p1_c1 z0) z0:=by
 unfold L120_1_2
 let s_0:List (Nat×AV):=[(0,LL a64 p0),(1,.fn 224 [.ia [I p1_c0] 0,.ia [I p1_c1] 0]),(5,I z0),(7,I (lenL p0)),(8,I z0)]
 refine zS 0 2 (mkE [(0,LL a64 p0),(1,.fn 224 [.ia [I p1_c0] 0,.ia [I p1_c1] 0]),(7,I (lenL p0)),(8,I z0),(9,B (ltI z0 (lenL p0)))] [] 19) (gS 3 (gC 9 (ltI z0 (lenL p0)) ?_ ?_))
 ·refine gK (zP (gS 6 (gB 1 (zS 4 3 (mkE s_0 [] 19) (zR 0 4 (sg 3 (mkE ((13,I z0)::((12,LL a64 p0)::((11,.fn 224 [.ia [I p1_c0] 0,.ia [I p1_c1] 0])::s_0))) [] 19) (vo 14 (addrE 45 65 4 a64 .i64 p0 z0) (fun x1=>?_))))))))
  refine sg 5 (mkE ((15,a64 x1)::((14,.ia [I x1.f0,I x1.f1,I x1.f2,I x1.f3] 0)::((13,I z0)::((12,LL a64 p0)::((11,.fn 224 [.ia [I p1_c0] 0,.ia [I p1_c1] 0])::s_0))))) [] 19) (co 16 [] (h224 x1 p1_c0 p1_c1) (fun x2=>?_))
  refine zN (mkE (s_0.append [(16,B x2)]) [] 19) (gC 16 x2 ?_ ?_)
  ·exact zF 0 5 (mkE [(4,I z0)] [] 19)
  ·exact gK (pB (zP (gR 6 (rg Tryz.f120 6) (se (mkE [(0,LL a64 p0),(1,.fn 224 [.ia [I p1_c0] 0,.ia [I p1_c1] 0]),(7,I (lenL p0)),(8,I (addI .i64 z0 1))] [] 19) (pL)))))
 ·exact gX 0 (pL)
noncomputable def T120_1(p0:(List S64))(p1_c0:Int)(p1_c1:Int):Option Int:=((iter (L120_1_2 p0 p1_c0 p1_c1) 0).bind fun y3=>(Sum.elim (fun y3a=>(some (-1))) (fun y3b=>(some y3b)) y3))
theorem B120_1(C:Callee)(h224:H224 C)(p0:(List S64))(p1_c0:Int)(p1_c1:Int):runs Tryz.prog C (cfg.fn 120) (finFn Tryz.prog (cfg.fn 120).byval Tryz.f120) [] (execA Tryz.prog C (cfg.fn 120) (nr Tryz.f120 []) (frame0 [LL a64 p0,.fn 224 [.ia [I p1_c0] 0,.ia [I p1_c1] 0]] 19 false))=(T120_1 p0 p1_c0 p1_c1).map I:=by
 unfold T120_1
 let s_0:List (Nat×AV):=[(0,LL a64 p0),(1,.fn 224 [.ia [I p1_c0] 0,.ia [I p1_c1] 0])]
 refine zS 1 0 (mkE s_0 [] 19) (gS 7 (zR 2 1 (sg 1 (mkE ((6,LL a64 p0)::s_0) [] 19) (eo 7 (I (lenL p0)) (lenE 45 a64 p0) (zN (mkE (s_0.append ((7,I (lenL p0))::[(8,I 0)])) [] 19) (gB 0 (lo [(0,none),(1,none),(7,none),(8,none)] [] (L120_1_2 p0 p1_c0 p1_c1) (fun z0:Int=>(mkE (s_0.append ((7,I (lenL p0))::[(8,I z0)])) [] 19)) (Sum.elim (fun(x:(Int×Bool))=>(.exit 0,(mkE (s_0.append ((7,I (lenL p0))::((8,I x.1)::[(9,B x.2)]))) [] 19))) (fun(x:Int)=>(.ret,(mkE [(4,I x)] [] 19)))) 0 (fun z=>L120_1_2_ok C h224 p0 p1_c0 p1_c1 z) ?_)))))))
 intro y3
 refine ss y3 (Z:=(Sum.elim (fun(x:(Int×Bool))=>(.exit 0,(mkE (s_0.append ((7,I (lenL p0))::((8,I x.1)::[(9,B x.2)]))) [] 19))) (fun(x:Int)=>(.ret,(mkE [(4,I x)] [] 19))))) (fun y3a=>?_) (fun y3b=>?_)
 ·exact pH (zP (zF 0 7 (mkE [(4,I (-1))] [] 19)))
 ·exact pL
theorem F120_1(m:Nat)(hm:4≤m)(p0:(List S64))(p1_c0:Int)(p1_c1:Int):callA Tryz.prog cfg m 120 [LL a64 p0,.fn 224 [.ia [I p1_c0] 0,.ia [I p1_c1] 0]]=(T120_1 p0 p1_c0 p1_c1).map I:=by
 obtain⟨q,rfl⟩:=sucK hm
 exact(callA_body (fn:=Tryz.f120) (c:=body_ Tryz.f120) q _ (by kernel_rfl) (by kernel_rfl) (by kernel_rfl)).trans (B120_1 _ (fun p0 p1_c0 p2_c0=>F224 q (by omega) p0 p1_c0 p2_c0) p0 p1_c0 p1_c1)
noncomputable def T69_1(p0:(List S64))(p1_c0:Int)(p1_c1:Int):Option Bool:=((T120_1 p0 p1_c0 p1_c1).bind fun x1=>(some (leI 0 x1)))
theorem B69_1(C:Callee)(h120_1:∀(p0:(List S64))(p1_c0:Int)(p1_c1:Int),C 120 [LL a64 p0,.fn 224 [.ia [I p1_c0] 0,.ia [I p1_c1] 0]]=(T120_1 p0 p1_c0 p1_c1).map I)(p0:(List S64))(p1_c0:Int)(p1_c1:Int):runs Tryz.prog C (cfg.fn 69) (finFn Tryz.prog (cfg.fn 69).byval Tryz.f69) [] (execA Tryz.prog C (cfg.fn 69) (nr Tryz.f69 []) (frame0 [LL a64 p0,.fn 224 [.ia [I p1_c0] 0,.ia [I p1_c1] 0]] 9 false))=(T69_1 p0 p1_c0 p1_c1).map B:=by
 unfold T69_1
 refine zS 1 0 (mkE [(0,LL a64 p0),(1,.fn 224 [.ia [I p1_c0] 0,.ia [I p1_c1] 0])] [] 9) (zR 0 1 (sg 2 (mkE [(6,.fn 224 [.ia [I p1_c0] 0,.ia [I p1_c1] 0]),(5,LL a64 p0),(0,LL a64 p0),(1,.fn 224 [.ia [I p1_c0] 0,.ia [I p1_c1] 0])] [] 9) (co 7 [] (h120_1 p0 p1_c0 p1_c1) (fun x1=>?_))))
 exact zE (mkE [(4,B (leI 0 x1))] [] 9)
theorem F69_1(m:Nat)(hm:5≤m)(p0:(List S64))(p1_c0:Int)(p1_c1:Int):callA Tryz.prog cfg m 69 [LL a64 p0,.fn 224 [.ia [I p1_c0] 0,.ia [I p1_c1] 0]]=(T69_1 p0 p1_c0 p1_c1).map B:=by
 obtain⟨q,rfl⟩:=sucK hm
 exact(callA_body (fn:=Tryz.f69) (c:=body_ Tryz.f69) q _ (by kernel_rfl) (by kernel_rfl) (by kernel_rfl)).trans (B69_1 _ (fun p0 p1_c0 p1_c1=>F120_1 q (by omega) p0 p1_c0 p1_c1) p0 p1_c0 p1_c1)
noncomputable def T205(p0:(List S64))(p1:Int)(p2:Int):Option Bool:=((T69_1 p0 p1 p2).bind fun x1=>(some x1))
theorem B205(C:Callee)(h69_1:∀(p0:(List S64))(p1_c0:Int)(p1_c1:Int),C 69 [LL a64 p0,.fn 224 [.ia [I p1_c0] 0,.ia [I p1_c1] 0]]=(T69_1 p0 p1_c0 p1_c1).map B)(p0:(List S64))(p1:Int)(p2:Int):rB C 205 Tryz.f205 (frame0 [LL a64 p0,I p1,I p2] 10 false) ((T205 p0 p1 p2).map B):=by
 unfold T205
 refine zS 1 0 (mkE [(0,LL a64 p0),(4,.ba 32 0),(5,.ba 40 0)] [(32,.box [I p1] false),(40,.box [I p2] false)] 10) (zR 0 1 (sg 2 (mkE [(8,.fn 224 [.ba 32 0,.ba 40 0]),(7,LL a64 p0),(0,LL a64 p0),(4,.ba 32 0),(5,.ba 40 0)] [(32,.box [I p1] false),(40,.box [I p2] false)] 10) (co 9 [32,40] (h69_1 p0 p1 p2) (fun x1=>?_))))
 exact zE (mkE [(6,B x1)] [] 10)
theorem F205(m:Nat)(hm:6≤m)(p0:(List S64))(p1:Int)(p2:Int):callA Tryz.prog cfg m 205 [LL a64 p0,I p1,I p2]=(T205 p0 p1 p2).map B:=by
 obtain⟨q,rfl⟩:=sucK hm
 exact(callA_body (fn:=Tryz.f205) (c:=body_ Tryz.f205) q _ (by kernel_rfl) (by kernel_rfl) (by kernel_rfl)).trans (B205 _ (fun p0 p1_c0 p1_c1=>F69_1 q (by omega) p0 p1_c0 p1_c1) p0 p1 p2)
noncomputable def T182(p0:S46)(p1:S32):Option Bool:=((T205 p0.f7 p1.f1 p1.f2).bind fun x1=>(some x1))
theorem B182(C:Callee)(h205:∀(p0:(List S64))(p1:Int)(p2:Int),C 205 [LL a64 p0,I p1,I p2]=(T205 p0 p1 p2).map B)(p0:S46)(p1:S32):rB C 182 Tryz.f182 (frame0 [a46 p0,a32 p1] 12 false) ((T182 p0 p1).map B):=by
 unfold T182
 let o_0:List (Nat×AObj):=[(16,.box [S p0.f0,S p0.f1,I p0.f2,LL S p0.f3,I p0.f4,I p0.f5,I p0.f6,LL a64 p0.f7,S p0.f8] false),(24,.box [S p1.f0,I p1.f1,I p1.f2] false)]
 refine zS 1 0 (mkE [(2,.ba 16 0),(3,.ba 24 0)] o_0 12) (zR 0 1 (sg 6 (mkE [(10,I p1.f2),(9,.ba 24 2),(8,I p1.f1),(7,.ba 24 1),(6,LL a64 p0.f7),(5,.ba 16 7),(2,.ba 16 0),(3,.ba 24 0)] o_0 12) (co 11 [] (h205 p0.f7 p1.f1 p1.f2) (fun x1=>?_))))
 exact zE (mkE [(4,B x1)] [] 12)
theorem F182(m:Nat)(hm:7≤m)(p0:S46)(p1:S32):callA Tryz.prog cfg m 182 [a46 p0,a32 p1]=(T182 p0 p1).map B:=by
 obtain⟨q,rfl⟩:=sucK hm
 exact(callA_body (fn:=Tryz.f182) (c:=body_ Tryz.f182) q _ (by kernel_rfl) (by kernel_rfl) (by kernel_rfl)).trans (B182 _ (fun p0 p1 p2=>F205 q (by omega) p0 p1 p2) p0 p1)
noncomputable def L184_2(p0:(List Int))(p1:(List Int))(z0:Int):Option (Int⊕((Int×Bool)⊕Int)):=(bif (ltI z0 (lenL p0))then((listAt p0 z0).bind fun x1=>(bif (leI (lenL p1) z0)then(some (.inr (.inr 1)))else((listAt p1 z0).bind fun x2=>((T135 x1 x2).bind fun x3=>(bif (neI x3 0)then(some (.inr (.inr x3)))else(some (.inl (addI .i64 z0 1))))))))else(some (.inr (.inl (z0,(ltI z0 (lenL p0)))))))
theorem L184_2_ok(C:Callee)(h135:H135 C)(p0:(List Int))(p1:(List Int))(z0:Int):rL C 184 Tryz.f184 2 [false,false,true,false,true] (fun z0:Int=>(mkE [(0,LL I p0),(1,LL I p1),(9,LL I p0),(10,I (lenL p0)),(11,I z0)] [] 36)) (Sum.elim (fun(x:(Int×Bool))=>(.exit 0,(mkE [(0,LL I p0),(1,LL I p1),(9,LL I p0),(10,I (lenL p0)),(11,I x.1),(12,B x.2)] [] 36))) (fun(x:Int)=>(.ret,(mkE [(4,I x)] [] 36)))) (L184_2 p0 p1 z0) z0:=by
 unfold L184_2
 let s_0:List (Nat×AV):=[(9,LL I p0),(10,I (lenL p0)),(11,I z0)]
 let s_1:List (Nat×AV):=[(0,LL I p0),(1,LL I p1)]
 refine zS 0 2 (mkE (s_1.append (s_0.append [(12,B (ltI z0 (lenL p0)))])) [] 36) (gS 3 (gC 12 (ltI z0 (lenL p0)) ?_ ?_))
 ·refine gK (zP (gS 10 (gB 1 (zR 4 3 (sg 1 (mkE ((13,I z0)::(s_1.append (s_0.append [(12,B (ltI z0 (lenL p0)))]))) [] 36) (vo 14 (addrE 22 3 1 I .i64 p0 z0) (fun x1=>?_)))))))
  refine zN (mkE (s_1.append ((5,I z0)::((6,I x1)::s_0))) [] 36) (gS 6 (zR 0 4 (sg 2 (mkE ((17,LL I p1)::((16,I z0)::(s_1.append ((5,I z0)::((6,I x1)::s_0))))) [] 36) (eo 18 (I (lenL p1)) (lenE 22 I p1) (zN (mkE (s_1.append ((5,I z0)::((6,I x1)::(s_0.append [(19,B (leI (lenL p1) z0))])))) [] 36) (gC 19 (leI (lenL p1) z0) ?_ ?_))))))
  ·exact zF 0 5 (mkE [(4,I 1)] [] 36)
  ·refine gK (zP (zR 7 6 (sg 2 (mkE ((21,I z0)::((20,LL I p1)::(s_1.append ((5,I z0)::((6,I x1)::(s_0.append [(19,B (leI (lenL p1) z0))])))))) [] 36) (vo 22 (addrE 22 3 1 I .i64 p1 z0) (fun x2=>?_)))))
   refine zN (mkE (s_1.append ((6,I x1)::((7,I x2)::s_0))) [] 36) (zR 8 7 (sg 2 (mkE ((25,I x2)::((24,I x1)::(s_1.append ((6,I x1)::((7,I x2)::s_0))))) [] 36) (co 26 [] (h135 x1 x2) (fun x3=>?_))))
   refine zN (mkE (s_1.append ((8,I x3)::s_0)) [] 36) (zS 0 8 (mkE (s_1.append ((8,I x3)::(s_0.append [(28,B (neI x3 0))]))) [] 36) (gC 28 (neI x3 0) ?_ ?_))
   ·exact zF 0 9 (mkE [(4,I x3)] [] 36)
   ·exact gK (pB (zP (gR 10 (rg Tryz.f184 10) (se (mkE (s_1.append ((9,LL I p0)::((10,I (lenL p0))::[(11,I (addI .i64 z0 1))]))) [] 36) (pL)))))
 ·exact gX 0 (pL)
noncomputable def T184(p0:(List Int))(p1:(List Int)):Option Int:=((iter (L184_2 p0 p1) 0).bind fun y4=>(Sum.elim (fun y4a=>(bif (ltI (lenL p0) (lenL p1))then(some (-1))else(some 0))) (fun y4b=>(some y4b)) y4))
theorem B184(C:Callee)(h135:H135 C)(p0:(List Int))(p1:(List Int)):rB C 184 Tryz.f184 (frame0 [LL I p0,LL I p1] 36 false) ((T184 p0 p1).map I):=by
 unfold T184
 let s_0:List (Nat×AV):=[(0,LL I p0),(1,LL I p1),(9,LL I p0),(10,I (lenL p0))]
 refine zS 1 0 (mkE [(0,LL I p0),(1,LL I p1)] [] 36) (gS 11 (zR 2 1 (sg 1 (mkE [(9,LL I p0),(0,LL I p0),(1,LL I p1)] [] 36) (eo 10 (I (lenL p0)) (lenE 22 I p0) (zN (mkE (s_0.append [(11,I 0)]) [] 36) (gB 0 (lo [(0,none),(1,none),(9,none),(10,none),(11,none)] [] (L184_2 p0 p1) (fun z0:Int=>(mkE (s_0.append [(11,I z0)]) [] 36)) (Sum.elim (fun(x:(Int×Bool))=>(.exit 0,(mkE (s_0.append ((11,I x.1)::[(12,B x.2)])) [] 36))) (fun(x:Int)=>(.ret,(mkE [(4,I x)] [] 36)))) 0 (fun z=>L184_2_ok C h135 p0 p1 z) ?_)))))))
 intro y4
 refine ss y4 (Z:=(Sum.elim (fun(x:(Int×Bool))=>(.exit 0,(mkE (s_0.append ((11,I x.1)::[(12,B x.2)])) [] 36))) (fun(x:Int)=>(.ret,(mkE [(4,I x)] [] 36))))) (fun y4a=>?_) (fun y4b=>?_)
 ·refine pH (zP (gS 13 (zR 0 11 (sg 1 (mkE ((31,LL I p0)::(s_0.append ((11,I y4a.1)::[(12,B y4a.2)]))) [] 36) (eo 32 (I (lenL p0)) (lenE 22 I p0) (sg 3 (mkE ((33,LL I p1)::((32,I (lenL p0))::((31,LL I p0)::(s_0.append ((11,I y4a.1)::[(12,B y4a.2)]))))) [] 36) (eo 34 (I (lenL p1)) (lenE 22 I p1) (zN (mkE [(35,B (ltI (lenL p0) (lenL p1)))] [] 36) (gC 35 (ltI (lenL p0) (lenL p1)) ?_ ?_)))))))))
  ·exact zF 0 12 (mkE [(4,I (-1))] [] 36)
  ·exact gK (zP (zF 0 13 (mkE [(4,I 0)] [] 36)))
 ·exact pL
theorem F184(m:Nat)(hm:3≤m)(p0:(List Int))(p1:(List Int)):callA Tryz.prog cfg m 184 [LL I p0,LL I p1]=(T184 p0 p1).map I:=by
 obtain⟨q,rfl⟩:=sucK hm
 exact(callA_bodyQ (fn:=Tryz.f184) (c:=body_ Tryz.f184) q _ (by kernel_rfl) (by kernel_rfl) (by kernel_rfl)).trans (B184 _ (fun p0 p1=>(guard_q (by kernel_rfl) _).trans (F135 q (by omega) p0 p1)) p0 p1)
noncomputable def T183(p0:S46)(p1:S46):Option Int:=((T184 ([p1.f6,p1.f4]:List Int) ([p0.f6,p0.f4]:List Int)).bind fun x1=>(bif (neI x1 0)then(some x1)else((T38 p0.f0 p1.f0).bind fun x2=>(some x2))))
theorem B183(C:Callee)(h184:∀(p0:(List Int))(p1:(List Int)),C 184 [LL I p0,LL I p1]=(T184 p0 p1).map I)(h38:H38 C)(p0:S46)(p1:S46):rB C 183 Tryz.f183 (frame0 [a46 p0,a46 p1] 25 false) ((T183 p0 p1).map I):=by
 unfold T183
 let o_0:List (Nat×AObj):=[(16,.box [S p0.f0,S p0.f1,I p0.f2,LL S p0.f3,I p0.f4,I p0.f5,I p0.f6,LL a64 p0.f7,S p0.f8] false),(24,.box [S p1.f0,S p1.f1,I p1.f2,LL S p1.f3,I p1.f4,I p1.f5,I p1.f6,LL a64 p1.f7,S p1.f8] false)]
 refine zS 1 0 (mkE [(2,.ba 16 0),(3,.ba 24 0)] o_0 25) (gS 4 (zR 2 1 (sg 10 (mkE [(15,.own 120 0),(14,I p0.f4),(13,.ba 16 4),(12,I p0.f6),(11,.ba 16 6),(10,.own 80 0),(9,I p1.f4),(8,.ba 24 4),(7,I p1.f6),(6,.ba 24 6),(2,.ba 16 0),(3,.ba 24 0)] ((120,RR 3 1 I ([p0.f6,p0.f4]:List Int) 0 false)::((80,RR 3 1 I ([p1.f6,p1.f4]:List Int) 0 false)::o_0)) 25) (co 16 [80,120] (h184 ([p1.f6,p1.f4]:List Int) ([p0.f6,p0.f4]:List Int)) (fun x1=>?_)))))
 refine zN (mkE [(2,.ba 16 0),(3,.ba 24 0),(5,I x1)] o_0 25) (zS 0 2 (mkE [(2,.ba 16 0),(3,.ba 24 0),(5,I x1),(18,B (neI x1 0))] o_0 25) (gC 18 (neI x1 0) ?_ ?_))
 ·exact zF 0 3 (mkE [(4,I x1)] [] 25)
 ·refine gK (zP (zR 0 4 (sg 4 (mkE [(23,S p1.f0),(22,.ba 24 0),(21,S p0.f0),(20,.ba 16 0),(2,.ba 16 0),(3,.ba 24 0),(5,I x1),(18,B (neI x1 0))] o_0 25) (co 24 [] (h38 p0.f0 p1.f0) (fun x2=>?_)))))
  exact zE (mkE [(4,I x2)] [] 25)
theorem F183(m:Nat)(hm:4≤m)(p0:S46)(p1:S46):callA Tryz.prog cfg m 183 [a46 p0,a46 p1]=(T183 p0 p1).map I:=by
 obtain⟨q,rfl⟩:=sucK hm
 exact(callA_bodyQ (fn:=Tryz.f183) (c:=body_ Tryz.f183) q _ (by kernel_rfl) (by kernel_rfl) (by kernel_rfl)).trans (B183 _ (fun p0 p1=>(guard_q (by kernel_rfl) _).trans (F184 q (by omega) p0 p1)) (fun p0 p1=>(guard_q (by kernel_rfl) _).trans (F38 q (by omega) p0 p1)) p0 p1)
theorem F26_1(m:Nat)(hm:5≤m)(p0:(List S46)):callA Tryz.prog cfg m 26 [.fr 47 9 (List.map a46 p0),.fn 183 []]=(sortO (fun x y=>T183 x y) p0).map (fun(r:(List S46))=>AV.inp (.tup []) (.fr 47 9 (List.map a46 r))):=by
 obtain⟨q,rfl⟩:=sucK hm
 exact(callA_leaf (L:=(leafSortF Tryz.prog 47 9)) _ _ (by kernel_rfl)).trans (sortF_leaf 47 9 183 [] a46 (fun x y=>T183 x y) _ p0 (fun x y=>F183 q (by omega) x y) (fun _=>by kernel_rfl) (by kernel_rfl))
noncomputable def L145_3(p0:(List S46))(p1:S32)(p2:Int)(z0:((List S46)×Int)):Option (((List S46)×Int)⊕(Int×Bool×(List S46))):=(bif (ltI z0.2 (lenL p0))then((listAt p0 z0.2).bind fun x1=>((T181 p0 x1 p2).bind fun x2=>(bif x2 then((T182 x1 p1).bind fun x3=>(bif x3 then((appO 128 z0.1 ([x1]:List S46)).bind fun x4=>(some (.inl (x4,(addI .i64 z0.2 1)))))else(some (.inl (z0.1,(addI .i64 z0.2 1))))))else(some (.inl (z0.1,(addI .i64 z0.2 1)))))))else(some (.inr (z0.2,(ltI z0.2 (lenL p0)),z0.1))))
abbrev H181(C:Callee):Prop:=∀(p0:(List S46))(p1:S46)(p2:Int),C 181 [LL a46 p0,a46 p1,I p2]=(T181 p0 p1 p2).map B
abbrev H182(C:Callee):Prop:=∀(p0:S46)(p1:S32),C 182 [a46 p0,a32 p1]=(T182 p0 p1).map B
theorem L145_3_ok(C:Callee)(h181:H181 C)(h182:H182 C)(p0:(List S46))(p1:S32)(p2:Int)(z0:((List S46)×Int)):rL C 145 Tryz.f145 3 [false,false,true,false,true,true] (fun z0:((List S46)×Int)=>(mkE [(0,LL a46 p0),(2,I p2),(4,.ba 32 0),(7,.own 56 0),(13,LL a46 p0),(14,I (lenL p0)),(15,I z0.2)] [(32,.box [S p1.f0,I p1.f1,I p1.f2] false),(56,RR 47 9 a46 z0.1 0 false)] 48)) (fun(x:(Int×Bool×(List S46)))=>(.exit 0,(mkE [(0,LL a46 p0),(2,I p2),(4,.ba 32 0),(7,.own 56 0),(13,LL a46 p0),(14,I (lenL p0)),(15,I x.1),(16,B x.2.1)] [(32,.box [S p1.f0,I p1.f1,I p1.f2] false),(56,RR 47 9 a46 x.2.2 0 false)] 48))) (L145_3 p0 p1 p2 z0) z0:=by
 unfold L145_3
 let s_0:List (Nat×AV):=[(0,LL a46 p0),(2,I p2),(4,.ba 32 0),(7,.own 56 0),(9,.ba 72 0),(13,LL a46 p0),(14,I (lenL p0)),(15,I z0.2)]
 let s_1:List (Nat×AV):=[(0,LL a46 p0),(2,I p2),(4,.ba 32 0),(7,.own 56 0),(13,LL a46 p0),(14,I (lenL p0))]
 let o_0:List (Nat×AObj):=[(32,.box [S p1.f0,I p1.f1,I p1.f2] false),(56,RR 47 9 a46 z0.1 0 false)]
 refine zS 0 3 (mkE (s_1.append ((15,I z0.2)::[(16,B (ltI z0.2 (lenL p0)))])) o_0 48) (gS 4 (gC 16 (ltI z0.2 (lenL p0)) ?_ ?_))
 ·refine gK (zP (gS 7 (gB 1 (zR 5 4 (vo 17 (addrE 26 47 9 a46 .i64 p0 z0.2) (fun x1=>?_))))))
  refine zN (mkE s_0 (o_0.append [(72,.box [S x1.f0,S x1.f1,I x1.f2,LL S x1.f3,I x1.f4,I x1.f5,I x1.f6,LL a64 x1.f7,S x1.f8] false)]) 48) (zR 0 5 (sg 3 (mkE ((21,I p2)::((20,a46 x1)::((19,LL a46 p0)::s_0))) (o_0.append [(72,.box [S x1.f0,S x1.f1,I x1.f2,LL S x1.f3,I x1.f4,I x1.f5,I x1.f6,LL a64 x1.f7,S x1.f8] false)]) 48) (co 22 [] (h181 p0 x1 p2) (fun x2=>?_))))
  refine sg 5 (mkE ((23,B x2)::((22,B x2)::((21,I p2)::((20,a46 x1)::((19,LL a46 p0)::s_0))))) (o_0.append [(72,.box [S x1.f0,S x1.f1,I x1.f2,LL S x1.f3,I x1.f4,I x1.f5,I x1.f6,LL a64 x1.f7,S x1.f8] false)]) 48) (sb 23 x2 ?_ ?_)
  ·refine sg 7 (mkE ((25,a32 p1)::((24,a46 x1)::((23,B true)::((23,B x2)::((22,B x2)::((21,I p2)::((20,a46 x1)::((19,LL a46 p0)::s_0)))))))) (o_0.append [(72,.box [S x1.f0,S x1.f1,I x1.f2,LL S x1.f3,I x1.f4,I x1.f5,I x1.f6,LL a64 x1.f7,S x1.f8] false)]) 48) (co 26 [] (h182 x1 p1) (fun x3=>?_))
   refine zN (mkE (s_0.append [(27,B x3)]) (o_0.append [(72,.box [S x1.f0,S x1.f1,I x1.f2,LL S x1.f3,I x1.f4,I x1.f5,I x1.f6,LL a64 x1.f7,S x1.f8] false)]) 48) (gC 27 x3 ?_ ?_)
   ·refine gR 6 (rg Tryz.f145 6) (sg 3 (mkE ((30,.own 240 0)::((29,a46 x1)::((28,.own 56 0)::(s_0.append [(27,B x3)])))) ((240,RR 47 9 a46 ([x1]:List S46) 0 false)::(o_0.append [(72,.box [S x1.f0,S x1.f1,I x1.f2,LL S x1.f3,I x1.f4,I x1.f5,I x1.f6,LL a64 x1.f7,S x1.f8] false)])) 48) (mo (some 31) (apO 26 47 9 128 56 a46 0 [240] (y:= .own 240 0) (l2:=([x1]:List S46))) (fun x4=>?_)))
    exact se (mkE [(0,LL a46 p0),(2,I p2),(4,.ba 32 0),(7,.own 56 1),(13,LL a46 p0),(14,I (lenL p0)),(15,I z0.2)] [(32,.box [S p1.f0,I p1.f1,I p1.f2] false),(56,RR 47 9 a46 x4 1 false)] 48) (pB (zP (gR 7 (rg Tryz.f145 7) (se (mkE [(0,LL a46 p0),(2,I p2),(4,.ba 32 0),(7,.own 56 1),(13,LL a46 p0),(14,I (lenL p0)),(15,I (addI .i64 z0.2 1))] [(32,.box [S p1.f0,I p1.f1,I p1.f2] false),(56,RR 47 9 a46 x4 1 false)] 48) (pL)))))
   ·exact gK (pB (zP (gR 7 (rg Tryz.f145 7) (se (mkE (s_1.append [(15,I (addI .i64 z0.2 1))]) o_0 48) (pL)))))
  ·exact zN (mkE (s_0.append [(27,B false)]) (o_0.append [(72,.box [S x1.f0,S x1.f1,I x1.f2,LL S x1.f3,I x1.f4,I x1.f5,I x1.f6,LL a64 x1.f7,S x1.f8] false)]) 48) (gF (.tmp 27) (gK (pB (zP (gR 7 (rg Tryz.f145 7) (se (mkE (s_1.append [(15,I (addI .i64 z0.2 1))]) o_0 48) (pL)))))))
 ·exact gX 0 (pL)
noncomputable def L145_11(x6:(List S46))(z1:((List ByteArray)×(List S46)×Int)):Option (((List ByteArray)×(List S46)×Int)⊕(Int×Bool×(List ByteArray)×(List S46))):=(bif (ltI z1.2.2 (lenL x6))then((idxO (List.length z1.2.1) z1.2.2).bind fun x7=>((getN z1.2.1 x7).bind fun x8=>((appO 16 z1.1 ([x8.f0]:List ByteArray)).bind fun x9=>(some (.inl (x9,z1.2.1,(addI .i64 z1.2.2 1)))))))else(some (.inr (z1.2.2,(ltI z1.2.2 (lenL x6)),z1.1,z1.2.1))))
theorem L145_11_ok(C:Callee)(x6:(List S46))(z1:((List ByteArray)×(List S46)×Int)):rL C 145 Tryz.f145 11 [false,false,true,false,true,true,true,true,true] (fun z1:((List ByteArray)×(List S46)×Int)=>(mkE [(10,.own 80 0),(35,.own 280 0),(36,I (lenL x6)),(37,I z1.2.2)] [(80,RR 9 1 S z1.1 0 false),(280,RR 47 9 a46 z1.2.1 0 false)] 48)) (fun(x:(Int×Bool×(List ByteArray)×(List S46)))=>(.exit 2,(mkE [(10,.own 80 0),(35,.own 280 0),(36,I (lenL x6)),(37,I x.1),(38,B x.2.1)] [(80,RR 9 1 S x.2.2.1 0 false),(280,RR 47 9 a46 x.2.2.2 0 false)] 48))) (L145_11 x6 z1) z1:=by
 unfold L145_11
 let s_0:List (Nat×AV):=[(35,.own 280 0),(36,I (lenL x6)),(37,I z1.2.2)]
 refine zS 0 11 (mkE ((10,.own 80 0)::(s_0.append [(38,B (ltI z1.2.2 (lenL x6)))])) [(80,RR 9 1 S z1.1 0 false),(280,RR 47 9 a46 z1.2.1 0 false)] 48) (gS 12 (gC 38 (ltI z1.2.2 (lenL x6)) ?_ ?_))
 ·refine gK (zP (gS 14 (gB 3 (zR 13 12 (vo 39 (addrOE 26 47 9 280 0 false a46 .i64 z1.2.1 z1.2.2) (fun x7=>?_))))))
  refine vo 40 (loadOE 47 280 0 x7 0 47 9 9 true false a46 (fun q:S46=>a46 q) z1.2.1) (fun x8=>?_)
  refine zN (mkE ((10,.own 80 0)::((12,.ba 96 0)::s_0)) [(80,RR 9 1 S z1.1 0 false),(96,.box [S x8.f0,S x8.f1,I x8.f2,LL S x8.f3,I x8.f4,I x8.f5,I x8.f6,LL a64 x8.f7,S x8.f8] false),(280,RR 47 9 a46 z1.2.1 0 false)] 48) (gR 13 (rg Tryz.f145 13) (sg 4 (mkE ((44,.own 352 0)::((43,S x8.f0)::((42,.ba 96 0)::((41,.own 80 0)::((10,.own 80 0)::((12,.ba 96 0)::s_0)))))) [(352,RR 9 1 S ([x8.f0]:List ByteArray) 0 false),(80,RR 9 1 S z1.1 0 false),(96,.box [S x8.f0,S x8.f1,I x8.f2,LL S x8.f3,I x8.f4,I x8.f5,I x8.f6,LL a64 x8.f7,S x8.f8] false),(280,RR 47 9 a46 z1.2.1 0 false)] 48) (mo (some 45) (apO 34 9 1 16 80 S 0 [352] (y:= .own 352 0) (l2:=([x8.f0]:List ByteArray))) (fun x9=>?_))))
  exact se (mkE ((10,.own 80 1)::s_0) [(80,RR 9 1 S x9 1 false),(280,RR 47 9 a46 z1.2.1 0 false)] 48) (pB (zP (gR 14 (rg Tryz.f145 14) (se (mkE [(10,.own 80 1),(35,.own 280 0),(36,I (lenL x6)),(37,I (addI .i64 z1.2.2 1))] [(80,RR 9 1 S x9 1 false),(280,RR 47 9 a46 z1.2.1 0 false)] 48) (pL)))))
 ·exact gX 2 (pL)
noncomputable def T145(p0:(List S46))(p1:S32)(p2:Int):Option (List ByteArray):=((iter (L145_3 p0 p1 p2) ([],0)).bind fun y5=>((sortO (fun x y=>T183 x y) y5.2.2).bind fun x6=>((iter (L145_11 x6) ([],x6,0)).bind fun y10=>(some y10.2.2.1))))
theorem B145(C:Callee)(h181:H181 C)(h182:H182 C)(h26_1:∀(p0:(List S46)),C 26 [.fr 47 9 (List.map a46 p0),.fn 183 []]=(sortO (fun x y=>T183 x y) p0).map (fun(r:(List S46))=>AV.inp (.tup []) (.fr 47 9 (List.map a46 r))))(p0:(List S46))(p1:S32)(p2:Int):rB C 145 Tryz.f145 (frame0 [LL a46 p0,a32 p1,I p2] 48 false) ((T145 p0 p1 p2).map (fun l=>AV.fr 9 1 (List.map S l))):=by
 unfold T145
 let s_0:List (Nat×AV):=[(0,LL a46 p0),(2,I p2),(4,.ba 32 0)]
 let o_0:List (Nat×AObj):=[(32,.box [S p1.f0,I p1.f1,I p1.f2] false)]
 refine zS 1 0 (mkE s_0 o_0 48) (zS 2 1 (mkE (s_0.append [(7,.nils)]) o_0 48) (gS 8 (zR 3 2 (sg 1 (mkE ((13,LL a46 p0)::(s_0.append [(7,.nils)])) o_0 48) (eo 14 (I (lenL p0)) (lenE 26 a46 p0) (zN (mkE (s_0.append ((7,.nils)::((13,LL a46 p0)::((14,I (lenL p0))::[(15,I 0)])))) o_0 48) (gB 0 (lo [(0,none),(2,none),(4,none),(7,some (47,9)),(13,none),(14,none),(15,none)] [] (L145_3 p0 p1 p2) (fun z0:((List S46)×Int)=>(mkE (s_0.append ((7,.own 56 0)::((13,LL a46 p0)::((14,I (lenL p0))::[(15,I z0.2)])))) (o_0.append [(56,RR 47 9 a46 z0.1 0 false)]) 48)) (fun(x:(Int×Bool×(List S46)))=>(.exit 0,(mkE (s_0.append ((7,.own 56 0)::((13,LL a46 p0)::((14,I (lenL p0))::((15,I x.1)::[(16,B x.2.1)]))))) (o_0.append [(56,RR 47 9 a46 x.2.2 0 false)]) 48))) ([],0) (fun z=>L145_3_ok C h181 h182 p0 p1 p2 z) ?_))))))))
 intro y5
 refine pH (zP (zR 9 8 (sg 1 (mkE ((33,.own 56 0)::(s_0.append ((7,.own 56 0)::((13,LL a46 p0)::((14,I (lenL p0))::((15,I y5.1)::[(16,B y5.2.1)])))))) (o_0.append [(56,RR 47 9 a46 y5.2.2 0 false)]) 48) (mo (some 34) (ipR 26 47 9 56 0 a46 y5.2.2 [.fn 183 []] [.fn 183 []] [] (fun x:(List S46)=> .tup []) (fun x:(List S46)=>x) (h26_1 y5.2.2)) (fun x6=>?_)))))
 refine zN (mkE [(7,.own 56 0)] [(56,RR 47 9 a46 x6 0 false)] 48) (zS 10 9 (mkE [(7,.own 56 0),(10,.nils)] [(56,RR 47 9 a46 x6 0 false)] 48) (gS 15 (zR 11 10 (sg 1 (mkE [(35,.own 56 0),(7,.own 56 0),(10,.nils)] [(56,RR 47 9 a46 x6 0 false)] 48) (eo 36 (I (lenL x6)) (lenOE 26 47 9 a46 x6) (zN (mkE [(10,.nils),(35,.own 56 0),(36,I (lenL x6)),(37,I 0)] [(56,RR 47 9 a46 x6 0 false)] 48) (gB 2 (lo [(10,some (9,1)),(35,some (47,9)),(36,none),(37,none)] [] (L145_11 x6) (fun z1:((List ByteArray)×(List S46)×Int)=>(mkE [(10,.own 80 0),(35,.own 280 0),(36,I (lenL x6)),(37,I z1.2.2)] [(80,RR 9 1 S z1.1 0 false),(280,RR 47 9 a46 z1.2.1 0 false)] 48)) (fun(x:(Int×Bool×(List ByteArray)×(List S46)))=>(.exit 2,(mkE [(10,.own 80 0),(35,.own 280 0),(36,I (lenL x6)),(37,I x.1),(38,B x.2.1)] [(80,RR 9 1 S x.2.2.1 0 false),(280,RR 47 9 a46 x.2.2.2 0 false)] 48))) ([],x6,0) (fun z=>L145_11_ok C x6 z) ?_))))))))
 intro y10
 exact pH (zP (zF 0 15 (mkE [(6,.own 80 0)] [(80,RR 9 1 S y10.2.2.1 0 false)] 48)))
theorem F145(m:Nat)(hm:10≤m)(p0:(List S46))(p1:S32)(p2:Int):callA Tryz.prog cfg m 145 [LL a46 p0,a32 p1,I p2]=(T145 p0 p1 p2).map (fun l=>AV.fr 9 1 (List.map S l)):=by
 obtain⟨q,rfl⟩:=sucK hm
 exact(callA_body (fn:=Tryz.f145) (c:=body_ Tryz.f145) q _ (by kernel_rfl) (by kernel_rfl) (by kernel_rfl)).trans (B145 _ (fun p0 p1 p2=>F181 q (by omega) p0 p1 p2) (fun p0 p1=>F182 q (by omega) p0 p1) (fun p0=>F26_1 q (by omega) p0) p0 p1 p2)
noncomputable def T97(p0:(List S46))(p1:S32)(p2:Int):Option (ByteArray×Bool):=((T145 p0 p1 p2).bind fun x1=>(bif (eqI (lenL x1) 0)then(some ((ByteArray.mk #[]),false))else((idxO (List.length x1) 0).bind fun x2=>((getN x1 x2).bind fun x3=>(some (x3,true))))))
theorem B97(C:Callee)(h145:∀(p0:(List S46))(p1:S32)(p2:Int),C 145 [LL a46 p0,a32 p1,I p2]=(T145 p0 p1 p2).map (fun l=>AV.fr 9 1 (List.map S l)))(p0:(List S46))(p1:S32)(p2:Int):rB C 97 Tryz.f97 (frame0 [LL a46 p0,a32 p1,I p2] 19 false) ((T97 p0 p1 p2).map (fun r=>AV.tup [S r.1,B r.2])):=by
 unfold T97
 refine zS 1 0 (mkE [(0,LL a46 p0),(2,I p2),(4,.ba 32 0)] [(32,.box [S p1.f0,I p1.f1,I p1.f2] false)] 19) (zR 2 1 (sg 3 (mkE [(11,I p2),(10,a32 p1),(9,LL a46 p0),(0,LL a46 p0),(2,I p2),(4,.ba 32 0)] [(32,.box [S p1.f0,I p1.f1,I p1.f2] false)] 19) (co 12 [] (h145 p0 p1 p2) (fun x1=>?_))))
 refine zN (mkE [(8,.own 96 0)] [(96,RR 9 1 S x1 0 false)] 19) (gS 4 (zR 0 2 (sg 1 (mkE [(13,.own 96 0),(8,.own 96 0)] [(96,RR 9 1 S x1 0 false)] 19) (eo 14 (I (lenL x1)) (lenOE 34 9 1 S x1) (zN (mkE [(8,.own 96 0),(15,B (eqI (lenL x1) 0))] [(96,RR 9 1 S x1 0 false)] 19) (gC 15 (eqI (lenL x1) 0) ?_ ?_))))))
 ·exact zF 0 3 (mkE [(6,S (ByteArray.mk #[])),(7,B false)] [] 19)
 ·refine gK (zP (zR 0 4 (sg 1 (mkE [(16,.own 96 0),(8,.own 96 0),(15,B (eqI (lenL x1) 0))] [(96,RR 9 1 S x1 0 false)] 19) (vo 17 (addrOE 34 9 1 96 0 false S .i64 x1 0) (fun x2=>?_)))))
  refine vo 18 (loadOE 9 96 0 x2 0 9 1 1 false false S (fun q:ByteArray=>S q) x1) (fun x3=>?_)
  exact zE (mkE [(6,S x3),(7,B true)] [] 19)
theorem F97(m:Nat)(hm:11≤m)(p0:(List S46))(p1:S32)(p2:Int):callA Tryz.prog cfg m 97 [LL a46 p0,a32 p1,I p2]=(T97 p0 p1 p2).map (fun r=>AV.tup [S r.1,B r.2]):=by
 obtain⟨q,rfl⟩:=sucK hm
 exact(callA_body (fn:=Tryz.f97) (c:=body_ Tryz.f97) q _ (by kernel_rfl) (by kernel_rfl) (by kernel_rfl)).trans (B97 _ (fun p0 p1 p2=>F145 q (by omega) p0 p1 p2) p0 p1 p2)
noncomputable def L59_6(p0:(List S46))(p1:S32)(p2:S57)(z0:((List Int)×Int))(x1:S46)(z1:((List Int)×Int)):Option (((List Int)×Int)⊕(Int×Bool×(List Int))):=(bif (ltI z1.2 (lenL ([x1.f4,x1.f5]:List Int)))then((listAt ([x1.f4,x1.f5]:List Int) z1.2).bind fun x2=>(bif (ltI p2.f0 x2)then(bif (ltI x2 p2.f1)then((appO 8 z1.1 ([x2]:List Int)).bind fun x3=>(some (.inl (x3,(addI .i64 z1.2 1)))))else(some (.inl (z1.1,(addI .i64 z1.2 1)))))else(some (.inl (z1.1,(addI .i64 z1.2 1))))))else(some (.inr (z1.2,(ltI z1.2 (lenL ([x1.f4,x1.f5]:List Int))),z1.1))))
theorem L59_6_ok(C:Callee)(p0:(List S46))(p1:S32)(p2:S57)(z0:((List Int)×Int))(x1:S46)(z1:((List Int)×Int)):rL C 59 Tryz.f59 6 [false,false,true,true,false,false,true,true,false,false,true,false,true,true] (fun z1:((List Int)×Int)=>(mkE [(0,LL a46 p0),(4,.ba 32 0),(5,.ba 40 0),(7,.own 56 0),(22,LL a46 p0),(23,I (lenL p0)),(24,I z0.2),(32,LL I ([x1.f4,x1.f5]:List Int)),(33,I (lenL ([x1.f4,x1.f5]:List Int))),(34,I z1.2)] [(32,.box [S p1.f0,I p1.f1,I p1.f2] false),(40,.box [I p2.f0,I p2.f1] false),(56,RR 3 1 I z1.1 0 false)] 114)) (fun(x:(Int×Bool×(List Int)))=>(.exit 2,(mkE [(0,LL a46 p0),(4,.ba 32 0),(5,.ba 40 0),(7,.own 56 0),(22,LL a46 p0),(23,I (lenL p0)),(24,I z0.2),(32,LL I ([x1.f4,x1.f5]:List Int)),(33,I (lenL ([x1.f4,x1.f5]:List Int))),(34,I x.1),(35,B x.2.1)] [(32,.box [S p1.f0,I p1.f1,I p1.f2] false),(40,.box [I p2.f0,I p2.f1] false),(56,RR 3 1 I x.2.2 0 false)] 114))) (L59_6 p0 p1 p2 z0 x1 z1) z1:=by
 unfold L59_6
 let s_0:List (Nat×AV):=[(22,LL a46 p0),(23,I (lenL p0)),(24,I z0.2),(32,LL I ([x1.f4,x1.f5]:List Int)),(33,I (lenL ([x1.f4,x1.f5]:List Int)))]
 let s_1:List (Nat×AV):=[(0,LL a46 p0),(4,.ba 32 0),(5,.ba 40 0),(7,.own 56 0)]
 let o_0:List (Nat×AObj):=[(32,.box [S p1.f0,I p1.f1,I p1.f2] false),(40,.box [I p2.f0,I p2.f1] false),(56,RR 3 1 I z1.1 0 false)]
 refine zS 0 6 (mkE (s_1.append (s_0.append ((34,I z1.2)::[(35,B (ltI z1.2 (lenL ([x1.f4,x1.f5]:List Int))))]))) o_0 114) (gS 7 (gC 35 (ltI z1.2 (lenL ([x1.f4,x1.f5]:List Int))) ?_ ?_))
 ·refine gK (zP (gS 10 (gB 3 (zR 8 7 (vo 36 (addrE 22 3 1 I .i64 ([x1.f4,x1.f5]:List Int) z1.2) (fun x2=>?_))))))
  refine zN (mkE (s_1.append ((11,I x2)::(s_0.append [(34,I z1.2)]))) o_0 114) (zR 0 8 (sg 5 (mkE ((42,B (ltI p2.f0 x2))::((41,B (ltI p2.f0 x2))::((40,I x2)::((39,I p2.f0)::((38,.ba 40 0)::(s_1.append ((11,I x2)::(s_0.append [(34,I z1.2)])))))))) o_0 114) (sb 42 (ltI p2.f0 x2) ?_ ?_)))
  ·refine zN (mkE (s_1.append ((11,I x2)::(s_0.append ((34,I z1.2)::[(47,B (ltI x2 p2.f1))])))) o_0 114) (gC 47 (ltI x2 p2.f1) ?_ ?_)
   ·refine gR 9 (rg Tryz.f59 9) (sg 3 (mkE ((50,.own 400 0)::((49,I x2)::((48,.own 56 0)::(s_1.append ((11,I x2)::(s_0.append ((34,I z1.2)::[(47,B (ltI x2 p2.f1))]))))))) ((400,RR 3 1 I ([x2]:List Int) 0 false)::o_0) 114) (mo (some 51) (apO 22 3 1 8 56 I 0 [400] (y:= .own 400 0) (l2:=([x2]:List Int))) (fun x3=>?_)))
    exact se (mkE ((0,LL a46 p0)::((4,.ba 32 0)::((5,.ba 40 0)::((7,.own 56 1)::(s_0.append [(34,I z1.2)]))))) [(32,.box [S p1.f0,I p1.f1,I p1.f2] false),(40,.box [I p2.f0,I p2.f1] false),(56,RR 3 1 I x3 1 false)] 114) (pB (zP (gR 10 (rg Tryz.f59 10) (se (mkE ((0,LL a46 p0)::((4,.ba 32 0)::((5,.ba 40 0)::((7,.own 56 1)::(s_0.append [(34,I (addI .i64 z1.2 1))]))))) [(32,.box [S p1.f0,I p1.f1,I p1.f2] false),(40,.box [I p2.f0,I p2.f1] false),(56,RR 3 1 I x3 1 false)] 114) (pL)))))
   ·exact gK (pB (zP (gR 10 (rg Tryz.f59 10) (se (mkE (s_1.append (s_0.append [(34,I (addI .i64 z1.2 1))])) o_0 114) (pL)))))
  ·exact zN (mkE (s_1.append ((11,I x2)::(s_0.append ((34,I z1.2)::[(47,B false)])))) o_0 114) (gF (.tmp 47) (gK (pB (zP (gR 10 (rg Tryz.f59 10) (se (mkE (s_1.append (s_0.append [(34,I (addI .i64 z1.2 1))])) o_0 114) (pL)))))))
 ·exact gX 2 (pL)
noncomputable def L59_3(p0:(List S46))(p1:S32)(p2:S57)(z0:((List Int)×Int)):Option (((List Int)×Int)⊕(Int×Bool×(List Int))):=(bif (ltI z0.2 (lenL p0))then((listAt p0 z0.2).bind fun x1=>((iter (L59_6 p0 p1 p2 z0 x1) (z0.1,0)).bind fun y4=>(some (.inl (y4.2.2,(addI .i64 z0.2 1))))))else(some (.inr (z0.2,(ltI z0.2 (lenL p0)),z0.1))))
theorem L59_3_ok(C:Callee)(p0:(List S46))(p1:S32)(p2:S57)(z0:((List Int)×Int)):rL C 59 Tryz.f59 3 [false,false,true,false,true,true] (fun z0:((List Int)×Int)=>(mkE [(0,LL a46 p0),(4,.ba 32 0),(5,.ba 40 0),(7,.own 56 0),(22,LL a46 p0),(23,I (lenL p0)),(24,I z0.2)] [(32,.box [S p1.f0,I p1.f1,I p1.f2] false),(40,.box [I p2.f0,I p2.f1] false),(56,RR 3 1 I z0.1 0 false)] 114)) (fun(x:(Int×Bool×(List Int)))=>(.exit 0,(mkE [(0,LL a46 p0),(4,.ba 32 0),(5,.ba 40 0),(7,.own 56 0),(22,LL a46 p0),(23,I (lenL p0)),(24,I x.1),(25,B x.2.1)] [(32,.box [S p1.f0,I p1.f1,I p1.f2] false),(40,.box [I p2.f0,I p2.f1] false),(56,RR 3 1 I x.2.2 0 false)] 114))) (L59_3 p0 p1 p2 z0) z0:=by
 unfold L59_3
 let s_0:List (Nat×AV):=[(0,LL a46 p0),(4,.ba 32 0),(5,.ba 40 0),(7,.own 56 0),(22,LL a46 p0),(23,I (lenL p0))]
 let s_1:List (Nat×AV):=[(0,LL a46 p0),(4,.ba 32 0),(5,.ba 40 0),(7,.own 56 0),(9,.ba 72 0),(22,LL a46 p0),(23,I (lenL p0)),(24,I z0.2)]
 let o_0:List (Nat×AObj):=[(32,.box [S p1.f0,I p1.f1,I p1.f2] false),(40,.box [I p2.f0,I p2.f1] false)]
 refine zS 0 3 (mkE (s_0.append ((24,I z0.2)::[(25,B (ltI z0.2 (lenL p0)))])) (o_0.append [(56,RR 3 1 I z0.1 0 false)]) 114) (gS 4 (gC 25 (ltI z0.2 (lenL p0)) ?_ ?_))
 ·refine gK (zP (gS 11 (gB 1 (zR 5 4 (vo 26 (addrE 26 47 9 a46 .i64 p0 z0.2) (fun x1=>?_))))))
  refine zN (mkE s_1 (o_0.append ((56,RR 3 1 I z0.1 0 false)::[(72,.box [S x1.f0,S x1.f1,I x1.f2,LL S x1.f3,I x1.f4,I x1.f5,I x1.f6,LL a64 x1.f7,S x1.f8] false)])) 114) (zR 6 5 (sg 5 (mkE ((32,.own 256 0)::((31,I x1.f5)::((30,.ba 72 5)::((29,I x1.f4)::((28,.ba 72 4)::s_1))))) ((256,RR 3 1 I ([x1.f4,x1.f5]:List Int) 0 false)::(o_0.append ((56,RR 3 1 I z0.1 0 false)::[(72,.box [S x1.f0,S x1.f1,I x1.f2,LL S x1.f3,I x1.f4,I x1.f5,I x1.f6,LL a64 x1.f7,S x1.f8] false)]))) 114) (eo 33 (I (lenL ([x1.f4,x1.f5]:List Int))) (lenOE 22 3 1 I ([x1.f4,x1.f5]:List Int)) (zN (mkE (s_0.append ((24,I z0.2)::((32,.own 256 0)::((33,I (lenL ([x1.f4,x1.f5]:List Int)))::[(34,I 0)])))) (o_0.append ((56,RR 3 1 I z0.1 0 false)::[(256,RR 3 1 I ([x1.f4,x1.f5]:List Int) 0 false)])) 114) (gB 2 (lo [(0,none),(4,none),(5,none),(7,some (3,1)),(22,none),(23,none),(24,none),(32,none),(33,none),(34,none)] [] (L59_6 p0 p1 p2 z0 x1) (fun z1:((List Int)×Int)=>(mkE (s_0.append ((24,I z0.2)::((32,LL I ([x1.f4,x1.f5]:List Int))::((33,I (lenL ([x1.f4,x1.f5]:List Int)))::[(34,I z1.2)])))) (o_0.append [(56,RR 3 1 I z1.1 0 false)]) 114)) (fun(x:(Int×Bool×(List Int)))=>(.exit 2,(mkE (s_0.append ((24,I z0.2)::((32,LL I ([x1.f4,x1.f5]:List Int))::((33,I (lenL ([x1.f4,x1.f5]:List Int)))::((34,I x.1)::[(35,B x.2.1)]))))) (o_0.append [(56,RR 3 1 I x.2.2 0 false)]) 114))) (z0.1,0) (fun z=>L59_6_ok C p0 p1 p2 z0 x1 z) ?_))))))
  intro y4
  exact pH (pB (zP (gR 11 (rg Tryz.f59 11) (se (mkE (s_0.append [(24,I (addI .i64 z0.2 1))]) (o_0.append [(56,RR 3 1 I y4.2.2 0 false)]) 114) (pL)))))
 ·exact gX 0 (pL)
noncomputable def L59_16(p0:(List S46))(p1:S32)(z1:((List Int)×(List S113)×Int)):Option (((List Int)×(List S113)×Int)⊕(Int×Bool×(List Int)×(List S113))):=(bif (ltI z1.2.2 (lenL z1.1))then((idxO (List.length z1.1) (subI .i64 z1.2.2 1)).bind fun x8=>((getN z1.1 x8).bind fun x9=>((T97 p0 p1 x9).bind fun x10=>(bif (leI 0 (subI .i64 (lenL z1.2.1) 1))then((idxO (List.length z1.2.1) (subI .i64 (lenL z1.2.1) 1)).bind fun x11=>((getN z1.2.1 x11).bind fun x12=>(bif (eqS x12.f1 x10.1)then((idxO (List.length z1.1) z1.2.2).bind fun x13=>((getN z1.1 x13).bind fun x14=>((idxO (List.length z1.2.1) (subI .i64 (lenL z1.2.1) 1)).bind fun x15=>((getN z1.2.1 x15).bind fun x16=>(some (.inl (z1.1,(List.set z1.2.1 x15 (S113.mk (S57.mk x16.f0.f0 x14) x16.f1)),(addI .i64 z1.2.2 1))))))))else((idxO (List.length z1.1) (subI .i64 z1.2.2 1)).bind fun x17=>((getN z1.1 x17).bind fun x18=>((idxO (List.length z1.1) z1.2.2).bind fun x19=>((getN z1.1 x19).bind fun x20=>((appO 32 z1.2.1 ([(S113.mk (S57.mk x18 x20) x10.1)]:List S113)).bind fun x21=>(some (.inl (z1.1,x21,(addI .i64 z1.2.2 1))))))))))))else((idxO (List.length z1.1) (subI .i64 z1.2.2 1)).bind fun x22=>((getN z1.1 x22).bind fun x23=>((idxO (List.length z1.1) z1.2.2).bind fun x24=>((getN z1.1 x24).bind fun x25=>((appO 32 z1.2.1 ([(S113.mk (S57.mk x23 x25) x10.1)]:List S113)).bind fun x26=>(some (.inl (z1.1,x26,(addI .i64 z1.2.2 1)))))))))))))else(some (.inr (z1.2.2,(ltI z1.2.2 (lenL z1.1)),z1.1,z1.2.1))))
abbrev H97(C:Callee):Prop:=∀(p0:(List S46))(p1:S32)(p2:Int),C 97 [LL a46 p0,a32 p1,I p2]=(T97 p0 p1 p2).map (fun r=>AV.tup [S r.1,B r.2])
theorem L59_16_ok(C:Callee)(h97:H97 C)(p0:(List S46))(p1:S32)(z1:((List Int)×(List S113)×Int)):rL C 59 Tryz.f59 16 [false,false,true,false,true,true,true,true,true,true] (fun z1:((List Int)×(List S113)×Int)=>(mkE [(0,LL a46 p0),(4,.ba 32 0),(7,.own 56 0),(12,.own 96 0),(13,I z1.2.2)] [(32,.box [S p1.f0,I p1.f1,I p1.f2] false),(56,RR 3 1 I z1.1 0 false),(96,RR 114 3 a113 z1.2.1 0 false)] 114)) (fun(x:(Int×Bool×(List Int)×(List S113)))=>(.exit 4,(mkE [(0,LL a46 p0),(4,.ba 32 0),(7,.own 56 0),(12,.own 96 0),(13,I x.1),(61,B x.2.1)] [(32,.box [S p1.f0,I p1.f1,I p1.f2] false),(56,RR 3 1 I x.2.2.1 0 false),(96,RR 114 3 a113 x.2.2.2 0 false)] 114))) (L59_16 p0 p1 z1) z1:=by
 unfold L59_16
 let d_0:List (Option Nat×REff):=[(some 98,qe (.own 96 0)),(some 99,qe (.own 56 0)),(some 100,qe (I z1.2.2)),(some 101,qe (I (subI .i64 z1.2.2 1)))]
 let d_1:List (Option Nat×REff):=[(some 104,qe (.own 56 0)),(some 105,qe (I z1.2.2))]
 let d_2:List (Option Nat×REff):=[(some 65,qe (LL a46 p0)),(some 66,qe (a32 p1)),(some 67,qe (.own 56 0)),(some 68,qe (I z1.2.2)),(some 69,qe (I (subI .i64 z1.2.2 1)))]
 let s_0:List (Nat×AV):=[(0,LL a46 p0),(4,.ba 32 0),(7,.own 56 0),(12,.own 96 0),(13,I z1.2.2)]
 let s_1:List (Nat×AV):=[(16,I (subI .i64 (lenL z1.2.1) 1))]
 let s_2:List (Nat×AV):=[(101,I (subI .i64 z1.2.2 1)),(100,I z1.2.2),(99,.own 56 0)]
 let s_3:List (Nat×AV):=[(80,B (leI 0 (subI .i64 (lenL z1.2.1) 1))),(79,B (leI 0 (subI .i64 (lenL z1.2.1) 1))),(78,I (subI .i64 (lenL z1.2.1) 1))]
 let s_4:List (Nat×AV):=[(0,LL a46 p0),(4,.ba 32 0),(7,.own 56 0),(12,.own 96 1)]
 let s_5:List (Nat×AV):=[(69,I (subI .i64 z1.2.2 1)),(68,I z1.2.2),(67,.own 56 0)]
 let s_6:List (Nat×AV):=[(105,I z1.2.2),(104,.own 56 0)]
 let o_0:List (Nat×AObj):=[(32,.box [S p1.f0,I p1.f1,I p1.f2] false),(56,RR 3 1 I z1.1 0 false),(96,RR 114 3 a113 z1.2.1 0 false)]
 let o_1:List (Nat×AObj):=[(32,.box [S p1.f0,I p1.f1,I p1.f2] false),(56,RR 3 1 I z1.1 0 false)]
 refine gS 18 (zR 0 16 (sg 2 (mkE ((59,.own 56 0)::((58,I z1.2.2)::s_0)) o_0 114) (eo 60 (I (lenL z1.1)) (lenOE 22 3 1 I z1.1) (zN (mkE (s_0.append [(61,B (ltI z1.2.2 (lenL z1.1)))]) o_0 114) (gC 61 (ltI z1.2.2 (lenL z1.1)) ?_ ?_)))))
 ·refine gK (zP (gS 17 (gB 5 (gS 19 (gD 18 13 (rg Tryz.f59 18) [0,1,2,3,4,5,6,7,8,9,10,11,12] (dg 5 d_2 (dv 70 (mkE (s_5.append (s_0.append [(61,B (ltI z1.2.2 (lenL z1.1)))])) o_0 114) (addrOE 22 3 1 56 0 false I .i64 z1.1 (subI .i64 z1.2.2 1)) (fun x8=>?_))))))))
  refine dv 71 (mkE ((70,.oa 56 0 x8 0)::(s_5.append (s_0.append [(61,B (ltI z1.2.2 (lenL z1.1)))]))) o_0 114) (loadOE 3 56 0 x8 0 3 1 1 false false I (fun q:Int=>I q) z1.1) (fun x9=>?_)
  refine dc 72 [] (mkE ((71,I x9)::((70,.oa 56 0 x8 0)::(s_5.append ((66,a32 p1)::((65,LL a46 p0)::(s_0.append [(61,B (ltI z1.2.2 (lenL z1.1)))])))))) o_0 114) (h97 p0 p1 x9) (fun x10=>?_)
  refine dg 13 (d_2.append ((some 70,qe (.oa 56 0 x8 0))::((some 71,qe (I x9))::((some 72,qe (.tup [S x10.1,B x10.2]))::((some 64,qe (.tup [S x10.1,B x10.2]))::((some 73,qe (S x10.1))::((some 74,qe (B x10.2))::((some 14,qe (S x10.1))::[(some 15,qe (B x10.2))])))))))) (de (mkE ((15,B x10.2)::((14,S x10.1)::((74,B x10.2)::((73,S x10.1)::((64,.tup [S x10.1,B x10.2])::((72,.tup [S x10.1,B x10.2])::((71,I x9)::((70,.oa 56 0 x8 0)::(s_5.append ((66,a32 p1)::((65,LL a46 p0)::(s_0.append [(61,B (ltI z1.2.2 (lenL z1.1)))])))))))))))) o_0 114) (zN (mkE (s_0.append [(14,S x10.1)]) o_0 114) (gS 22 (zR 20 19 (sg 1 (mkE ((75,.own 96 0)::(s_0.append [(14,S x10.1)])) o_0 114) (eo 76 (I (lenL z1.2.1)) (lenOE 106 114 3 a113 z1.2.1) (zN (mkE (s_0.append ((14,S x10.1)::s_1)) o_0 114) (zR 0 20 (sg 3 (mkE (s_3.append (s_0.append ((14,S x10.1)::s_1))) o_0 114) (sb 80 (leI 0 (subI .i64 (lenL z1.2.1) 1)) ?_ ?_))))))))))
  ·refine sg 5 (mkE ((82,I (subI .i64 (lenL z1.2.1) 1))::((81,.own 96 0)::((80,B true)::(s_3.append (s_0.append ((14,S x10.1)::s_1)))))) o_0 114) (vo 83 (addrOE 106 114 3 96 0 false a113 .i64 z1.2.1 (subI .i64 (lenL z1.2.1) 1)) (fun x11=>?_))
   refine sg 7 (mkE ((84,.oa 96 0 x11 2)::((83,.oa 96 0 x11 0)::((82,I (subI .i64 (lenL z1.2.1) 1))::((81,.own 96 0)::((80,B true)::(s_3.append (s_0.append ((14,S x10.1)::s_1)))))))) o_0 114) (vo 85 (loadOE 9 96 0 x11 2 114 3 1 false false a113 (fun q:S113=>S q.f1) z1.2.1) (fun x12=>?_))
   refine zN (mkE (s_0.append ((14,S x10.1)::(s_1.append [(88,B (eqS x12.f1 x10.1))]))) o_0 114) (gC 88 (eqS x12.f1 x10.1) ?_ ?_)
   ·refine zR 0 21 (sg 4 (mkE ((92,I z1.2.2)::((91,.own 56 0)::((90,I (subI .i64 (lenL z1.2.1) 1))::((89,.own 96 0)::(s_0.append ((14,S x10.1)::(s_1.append [(88,B (eqS x12.f1 x10.1))]))))))) o_0 114) (vo 93 (addrOE 22 3 1 56 0 false I .i64 z1.1 z1.2.2) (fun x13=>?_)))
    refine vo 94 (loadOE 3 56 0 x13 0 3 1 1 false false I (fun q:Int=>I q) z1.1) (fun x14=>?_)
    refine vo 95 (addrOE 106 114 3 96 0 false a113 .i64 z1.2.1 (subI .i64 (lenL z1.2.1) 1)) (fun x15=>?_)
    refine sg 9 (mkE ((97,.oa 96 0 x15 1)::((96,.oa 96 0 x15 0)::((95,.oa 96 0 x15 0)::((94,I x14)::((93,.oa 56 0 x13 0)::((92,I z1.2.2)::((91,.own 56 0)::((90,I (subI .i64 (lenL z1.2.1) 1))::((89,.own 96 0)::(s_0.append ((14,S x10.1)::(s_1.append [(88,B (eqS x12.f1 x10.1))])))))))))))) o_0 114) (mo none (stO 114 3 96 0 x15 1 a113 z1.2.1 [] [I x14] (I x14) (fun q:S113=>(S113.mk (S57.mk q.f0.f0 x14) q.f1)) 3 (.tmp 97) (.tmp 94) 1) (fun x16=>?_))
    exact zN (mkE s_0 (o_1.append [(96,RR 114 3 a113 (List.set z1.2.1 x15 (S113.mk (S57.mk x16.f0.f0 x14) x16.f1)) 0 false)]) 114) (gX 5 (pF (pO (pH (zP (gR 17 (rg Tryz.f59 17) (se (mkE [(0,LL a46 p0),(4,.ba 32 0),(7,.own 56 0),(12,.own 96 0),(13,I (addI .i64 z1.2.2 1))] (o_1.append [(96,RR 114 3 a113 (List.set z1.2.1 x15 (S113.mk (S57.mk x16.f0.f0 x14) x16.f1)) 0 false)]) 114) (pL))))))))
   ·refine gK (zP (gD 22 14 (rg Tryz.f59 22) [0,1,2,3,4,5,6,7,8,9,10,11,12,13,14,15] (dg 4 d_0 (dv 102 (mkE (s_2.append (s_0.append ((14,S x10.1)::(s_1.append [(88,B (eqS x12.f1 x10.1))])))) o_0 114) (addrOE 22 3 1 56 0 false I .i64 z1.1 (subI .i64 z1.2.2 1)) (fun x17=>?_)))))
    refine dv 103 (mkE ((102,.oa 56 0 x17 0)::(s_2.append (s_0.append ((14,S x10.1)::(s_1.append [(88,B (eqS x12.f1 x10.1))]))))) o_0 114) (loadOE 3 56 0 x17 0 3 1 1 false false I (fun q:Int=>I q) z1.1) (fun x18=>?_)
    refine dg 8 (d_0.append ((some 102,qe (.oa 56 0 x17 0))::((some 103,qe (I x18))::d_1))) (dv 106 (mkE (s_6.append (s_0.append ((14,S x10.1)::(s_1.append [(88,B (eqS x12.f1 x10.1))])))) o_0 114) (addrOE 22 3 1 56 0 false I .i64 z1.1 z1.2.2) (fun x19=>?_))
    refine dv 107 (mkE ((106,.oa 56 0 x19 0)::(s_6.append (s_0.append ((14,S x10.1)::(s_1.append [(88,B (eqS x12.f1 x10.1))]))))) o_0 114) (loadOE 3 56 0 x19 0 3 1 1 false false I (fun q:Int=>I q) z1.1) (fun x20=>?_)
    refine dg 14 (d_0.append ((some 102,qe (.oa 56 0 x17 0))::((some 103,qe (I x18))::(d_1.append ((some 106,qe (.oa 56 0 x19 0))::((some 107,qe (I x20))::((some 108,qe (.agg [I x18,I x20]))::((some 109,qe (S x10.1))::((some 110,qe (.agg [I x18,I x20,S x10.1]))::[(some 111,{ e:={ val:= .own 888 0,news:=[(888,RR 114 3 a113 ([(S113.mk (S57.mk x18 x20) x10.1)]:List S113) 0 false)] } })]))))))))) (de (mkE ((111,.own 888 0)::((110,.agg [I x18,I x20,S x10.1])::((109,S x10.1)::((108,.agg [I x18,I x20])::((107,I x20)::((106,.oa 56 0 x19 0)::(s_6.append ((103,I x18)::((102,.oa 56 0 x17 0)::(s_2.append ((98,.own 96 0)::(s_0.append ((14,S x10.1)::(s_1.append [(88,B (eqS x12.f1 x10.1))])))))))))))))) ((888,RR 114 3 a113 ([(S113.mk (S57.mk x18 x20) x10.1)]:List S113) 0 false)::o_0) 114) (mo (some 112) (apO 106 114 3 32 96 a113 0 [888] (y:= .own 888 0) (l2:=([(S113.mk (S57.mk x18 x20) x10.1)]:List S113))) (fun x21=>?_)))
    exact se (mkE (s_4.append [(13,I z1.2.2)]) (o_1.append [(96,RR 114 3 a113 x21 1 false)]) 114) (pB (zP (gR 17 (rg Tryz.f59 17) (se (mkE (s_4.append [(13,I (addI .i64 z1.2.2 1))]) (o_1.append [(96,RR 114 3 a113 x21 1 false)]) 114) (pL)))))
  ·refine zN (mkE (s_0.append ((14,S x10.1)::(s_1.append [(88,B false)]))) o_0 114) (gF (.tmp 88) (gK (zP (gD 22 14 (rg Tryz.f59 22) [0,1,2,3,4,5,6,7,8,9,10,11,12,13,14,15] (dg 4 d_0 (dv 102 (mkE (s_2.append (s_0.append ((14,S x10.1)::(s_1.append [(88,B false)])))) o_0 114) (addrOE 22 3 1 56 0 false I .i64 z1.1 (subI .i64 z1.2.2 1)) (fun x22=>?_)))))))
   refine dv 103 (mkE ((102,.oa 56 0 x22 0)::(s_2.append (s_0.append ((14,S x10.1)::(s_1.append [(88,B false)]))))) o_0 114) (loadOE 3 56 0 x22 0 3 1 1 false false I (fun q:Int=>I q) z1.1) (fun x23=>?_)
   refine dg 8 (d_0.append ((some 102,qe (.oa 56 0 x22 0))::((some 103,qe (I x23))::d_1))) (dv 106 (mkE (s_6.append (s_0.append ((14,S x10.1)::(s_1.append [(88,B false)])))) o_0 114) (addrOE 22 3 1 56 0 false I .i64 z1.1 z1.2.2) (fun x24=>?_))
   refine dv 107 (mkE ((106,.oa 56 0 x24 0)::(s_6.append (s_0.append ((14,S x10.1)::(s_1.append [(88,B false)]))))) o_0 114) (loadOE 3 56 0 x24 0 3 1 1 false false I (fun q:Int=>I q) z1.1) (fun x25=>?_)
   refine dg 14 (d_0.append ((some 102,qe (.oa 56 0 x22 0))::((some 103,qe (I x23))::(d_1.append ((some 106,qe (.oa 56 0 x24 0))::((some 107,qe (I x25))::((some 108,qe (.agg [I x23,I x25]))::((some 109,qe (S x10.1))::((some 110,qe (.agg [I x23,I x25,S x10.1]))::[(some 111,{ e:={ val:= .own 888 0,news:=[(888,RR 114 3 a113 ([(S113.mk (S57.mk x23 x25) x10.1)]:List S113) 0 false)] } })]))))))))) (de (mkE ((111,.own 888 0)::((110,.agg [I x23,I x25,S x10.1])::((109,S x10.1)::((108,.agg [I x23,I x25])::((107,I x25)::((106,.oa 56 0 x24 0)::(s_6.append ((103,I x23)::((102,.oa 56 0 x22 0)::(s_2.append ((98,.own 96 0)::(s_0.append ((14,S x10.1)::(s_1.append [(88,B false)])))))))))))))) ((888,RR 114 3 a113 ([(S113.mk (S57.mk x23 x25) x10.1)]:List S113) 0 false)::o_0) 114) (mo (some 112) (apO 106 114 3 32 96 a113 0 [888] (y:= .own 888 0) (l2:=([(S113.mk (S57.mk x23 x25) x10.1)]:List S113))) (fun x26=>?_)))
   exact se (mkE (s_4.append [(13,I z1.2.2)]) (o_1.append [(96,RR 114 3 a113 x26 1 false)]) 114) (pB (zP (gR 17 (rg Tryz.f59 17) (se (mkE (s_4.append [(13,I (addI .i64 z1.2.2 1))]) (o_1.append [(96,RR 114 3 a113 x26 1 false)]) 114) (pL)))))
 ·exact gX 4 (pL)
noncomputable def T59(p0:(List S46))(p1:S32)(p2:S57):Option (List S113):=((iter (L59_3 p0 p1 p2) (([p2.f0,p2.f1]:List Int),0)).bind fun y5=>((sortIO y5.2.2).bind fun x6=>((compIO x6).bind fun x7=>((iter (L59_16 p0 p1) (x7,[],1)).bind fun y27=>(some y27.2.2.2)))))
theorem B59(C:Callee)(h95:H95 C)(h96:H96 C)(h97:H97 C)(p0:(List S46))(p1:S32)(p2:S57):rB C 59 Tryz.f59 (frame0 [LL a46 p0,a32 p1,a57 p2] 114 false) ((T59 p0 p1 p2).map (fun l=>AV.fr 114 3 (List.map a113 l))):=by
 unfold T59
 let s_0:List (Nat×AV):=[(0,LL a46 p0),(4,.ba 32 0)]
 let s_1:List (Nat×AV):=[(5,.ba 40 0),(7,.own 56 0),(22,LL a46 p0),(23,I (lenL p0))]
 let o_0:List (Nat×AObj):=[(32,.box [S p1.f0,I p1.f1,I p1.f2] false)]
 let o_1:List (Nat×AObj):=[(40,.box [I p2.f0,I p2.f1] false)]
 refine zS 1 0 (mkE (s_0.append [(5,.ba 40 0)]) (o_0.append o_1) 114) (zS 2 1 (mkE (s_0.append ((5,.ba 40 0)::[(7,.own 168 0)])) (o_0.append (o_1.append [(168,RR 3 1 I ([p2.f0,p2.f1]:List Int) 0 false)])) 114) (gS 12 (zR 3 2 (sg 1 (mkE ((22,LL a46 p0)::(s_0.append ((5,.ba 40 0)::[(7,.own 168 0)]))) (o_0.append (o_1.append [(168,RR 3 1 I ([p2.f0,p2.f1]:List Int) 0 false)])) 114) (eo 23 (I (lenL p0)) (lenE 26 a46 p0) (zN (mkE (s_0.append ((5,.ba 40 0)::((7,.own 168 0)::((22,LL a46 p0)::((23,I (lenL p0))::[(24,I 0)]))))) (o_0.append (o_1.append [(168,RR 3 1 I ([p2.f0,p2.f1]:List Int) 0 false)])) 114) (gB 0 (lo [(0,none),(4,none),(5,none),(7,some (3,1)),(22,none),(23,none),(24,none)] [] (L59_3 p0 p1 p2) (fun z0:((List Int)×Int)=>(mkE (s_0.append (s_1.append [(24,I z0.2)])) (o_0.append (o_1.append [(56,RR 3 1 I z0.1 0 false)])) 114)) (fun(x:(Int×Bool×(List Int)))=>(.exit 0,(mkE (s_0.append (s_1.append ((24,I x.1)::[(25,B x.2.1)]))) (o_0.append (o_1.append [(56,RR 3 1 I x.2.2 0 false)])) 114))) (([p2.f0,p2.f1]:List Int),0) (fun z=>L59_3_ok C p0 p1 p2 z) ?_))))))))
 intro y5
 refine pH (zP (zR 13 12 (sg 1 (mkE ((54,.own 56 0)::(s_0.append (s_1.append ((24,I y5.1)::[(25,B y5.2.1)])))) (o_0.append (o_1.append [(56,RR 3 1 I y5.2.2 0 false)])) 114) (mo (some 55) (ipR 95 3 1 56 0 I y5.2.2 [] [] [] (fun x:(List Int)=> .tup []) (fun x:(List Int)=>x) (h95 y5.2.2)) (fun x6=>?_)))))
 refine zN (mkE (s_0.append [(7,.own 56 0)]) (o_0.append [(56,RR 3 1 I x6 0 false)]) 114) (zR 14 13 (sg 1 (mkE ((56,.own 56 0)::(s_0.append [(7,.own 56 0)])) (o_0.append [(56,RR 3 1 I x6 0 false)]) 114) (mo (some 57) (gvO 96 3 1 56 0 I x6 [] [] [] (h96 x6)) (fun x7=>?_))))
 refine zN (mkE (s_0.append [(7,.own 56 1)]) (o_0.append [(56,RR 3 1 I x7 1 false)]) 114) (zS 15 14 (mkE (s_0.append ((7,.own 56 1)::[(12,.nils)])) (o_0.append [(56,RR 3 1 I x7 1 false)]) 114) (gS 23 (zS 16 15 (mkE (s_0.append ((7,.own 56 1)::((12,.nils)::[(13,I 1)]))) (o_0.append [(56,RR 3 1 I x7 1 false)]) 114) (gB 4 (lo [(0,none),(4,none),(7,some (3,1)),(12,some (114,3)),(13,none)] [] (L59_16 p0 p1) (fun z1:((List Int)×(List S113)×Int)=>(mkE (s_0.append ((7,.own 56 0)::((12,.own 96 0)::[(13,I z1.2.2)]))) (o_0.append ((56,RR 3 1 I z1.1 0 false)::[(96,RR 114 3 a113 z1.2.1 0 false)])) 114)) (fun(x:(Int×Bool×(List Int)×(List S113)))=>(.exit 4,(mkE (s_0.append ((7,.own 56 0)::((12,.own 96 0)::((13,I x.1)::[(61,B x.2.1)])))) (o_0.append ((56,RR 3 1 I x.2.2.1 0 false)::[(96,RR 114 3 a113 x.2.2.2 0 false)])) 114))) (x7,[],1) (fun z=>L59_16_ok C h97 p0 p1 z) ?_)))))
 intro y27
 exact pH (zP (zF 0 23 (mkE [(6,.own 96 0)] [(96,RR 114 3 a113 y27.2.2.2 0 false)] 114)))
theorem F59(m:Nat)(hm:12≤m)(p0:(List S46))(p1:S32)(p2:S57):callA Tryz.prog cfg m 59 [LL a46 p0,a32 p1,a57 p2]=(T59 p0 p1 p2).map (fun l=>AV.fr 114 3 (List.map a113 l)):=by
 obtain⟨q,rfl⟩:=sucK hm
 exact(callA_body (fn:=Tryz.f59) (c:=body_ Tryz.f59) q _ (by kernel_rfl) (by kernel_rfl) (by kernel_rfl)).trans (B59 _ (fun p0=>F95 q (by omega) p0) (fun p0=>F96 q (by omega) p0) (fun p0 p1 p2=>F97 q (by omega) p0 p1 p2) p0 p1 p2)
noncomputable def L60_4(p0:(List S113))(p1:(List S113))(z0:Int):Option (Int⊕((Int×Bool)⊕Unit)):=(bif (ltI z0 (lenL p0))then((listAt p0 z0).bind fun x1=>((listAt p1 z0).bind fun x2=>(bif (!allB [allB [eqI x1.f0.f0 x2.f0.f0,eqI x1.f0.f1 x2.f0.f1],eqB x1.f1 x2.f1])then(some (.inr (.inr ())))else(some (.inl (addI .i64 z0 1))))))else(some (.inr (.inl (z0,(ltI z0 (lenL p0)))))))
theorem L60_4_ok(C:Callee)(p0:(List S113))(p1:(List S113))(z0:Int):rL C 60 Tryz.f60 4 [false,false,true,false,true,true] (fun z0:Int=>(mkE [(0,LL a113 p0),(1,LL a113 p1),(12,I (lenL p0)),(13,I z0)] [] 26)) (Sum.elim (fun(x:(Int×Bool))=>(.exit 0,(mkE [(0,LL a113 p0),(1,LL a113 p1),(12,I (lenL p0)),(13,I x.1),(14,B x.2)] [] 26))) (fun(x:Unit)=>(.ret,(mkE [(4,B false)] [] 26)))) (L60_4 p0 p1 z0) z0:=by
 unfold L60_4
 let s_0:List (Nat×AV):=[(0,LL a113 p0),(1,LL a113 p1),(5,I z0),(12,I (lenL p0)),(13,I z0)]
 refine zS 0 4 (mkE [(0,LL a113 p0),(1,LL a113 p1),(12,I (lenL p0)),(13,I z0),(14,B (ltI z0 (lenL p0)))] [] 26) (gS 5 (gC 14 (ltI z0 (lenL p0)) ?_ ?_))
 ·refine gK (zP (gS 8 (gB 1 (zS 6 5 (mkE s_0 [] 26) (gS 0 (gD 6 9 (rg Tryz.f60 6) [0,1,2,3,4,5,6,7,8] (dg 2 [(some 16,qe (LL a113 p0)),(some 17,qe (I z0))] (dv 18 (mkE ((17,I z0)::((16,LL a113 p0)::s_0)) [] 26) (addrE 106 114 3 a113 .i64 p0 z0) (fun x1=>?_)))))))))
  refine dg 6 [(some 16,qe (LL a113 p0)),(some 17,qe (I z0)),(some 18,qe (.ia [I x1.f0.f0,I x1.f0.f1,S x1.f1] 0)),(some 19,qe (a113 x1)),(some 20,qe (LL a113 p1)),(some 21,qe (I z0))] (dv 22 (mkE ((21,I z0)::((20,LL a113 p1)::s_0)) [] 26) (addrE 106 114 3 a113 .i64 p1 z0) (fun x2=>?_))
  refine dg 8 [(some 16,qe (LL a113 p0)),(some 17,qe (I z0)),(some 18,qe (.ia [I x1.f0.f0,I x1.f0.f1,S x1.f1] 0)),(some 19,qe (a113 x1)),(some 20,qe (LL a113 p1)),(some 21,qe (I z0)),(some 22,qe (.ia [I x2.f0.f0,I x2.f0.f1,S x2.f1] 0)),(some 23,qe (a113 x2))] (df 24 (B (!allB [allB [eqI x1.f0.f0 x2.f0.f0,eqI x1.f0.f1 x2.f0.f1],eqB x1.f1 x2.f1])) (mkE ((23,a113 x2)::((22,.ia [I x2.f0.f0,I x2.f0.f1,S x2.f1] 0)::((21,I z0)::((20,LL a113 p1)::((19,a113 x1)::((18,.ia [I x1.f0.f0,I x1.f0.f1,S x1.f1] 0)::((17,I z0)::((16,LL a113 p0)::s_0)))))))) [] 26) (neqE 114 (.tmp 19) (.tmp 23) [I x1.f0.f0,I x1.f0.f1,S x1.f1] [I x2.f0.f0,I x2.f0.f1,S x2.f1] [.int .i64 x1.f0.f0,.int .i64 x1.f0.f1,.string x1.f1] [.int .i64 x2.f0.f0,.int .i64 x2.f0.f1,.string x2.f1] [allB [eqI x1.f0.f0 x2.f0.f0,eqI x1.f0.f1 x2.f0.f1],eqB x1.f1 x2.f1] (hb:=(hb_of (hb_step 0 (by kernel_rfl) (fieldEq_sub 9998 [.int .i64 x1.f0.f0,.int .i64 x1.f0.f1] [.int .i64 x2.f0.f0,.int .i64 x2.f0.f1] [eqI x1.f0.f0 x2.f0.f0,eqI x1.f0.f1 x2.f0.f1] (by kernel_rfl) (by kernel_rfl) (by kernel_rfl) (by kernel_rfl) (by kernel_rfl) (by kernel_rfl)) (hb_step 1 (by kernel_rfl) (by kernel_rfl) (hb_end 2 (by kernel_rfl))))))) (de (mkE ((24,B (!allB [allB [eqI x1.f0.f0 x2.f0.f0,eqI x1.f0.f1 x2.f0.f1],eqB x1.f1 x2.f1]))::((23,a113 x2)::((22,.ia [I x2.f0.f0,I x2.f0.f1,S x2.f1] 0)::((21,I z0)::((20,LL a113 p1)::((19,a113 x1)::((18,.ia [I x1.f0.f0,I x1.f0.f1,S x1.f1] 0)::((17,I z0)::((16,LL a113 p0)::s_0))))))))) [] 26) (zN (mkE [(0,LL a113 p0),(1,LL a113 p1),(12,I (lenL p0)),(13,I z0),(24,B (!allB [allB [eqI x1.f0.f0 x2.f0.f0,eqI x1.f0.f1 x2.f0.f1],eqB x1.f1 x2.f1]))] [] 26) (gC 24 (!allB [allB [eqI x1.f0.f0 x2.f0.f0,eqI x1.f0.f1 x2.f0.f1],eqB x1.f1 x2.f1]) ?_ ?_))))
  ·exact zF 0 7 (mkE [(4,B false)] [] 26)
  ·exact gK (pB (zP (gR 8 (rg Tryz.f60 8) (se (mkE [(0,LL a113 p0),(1,LL a113 p1),(12,I (lenL p0)),(13,I (addI .i64 z0 1))] [] 26) (pL)))))
 ·exact gX 0 (pL)
noncomputable def T60(p0:(List S113))(p1:(List S113)):Option Bool:=(bif (neI (lenL p0) (lenL p1))then(some false)else((iter (L60_4 p0 p1) 0).bind fun y3=>(Sum.elim (fun y3a=>(some true)) (fun y3b=>(some false)) y3)))
theorem B60(C:Callee)(p0:(List S113))(p1:(List S113)):rB C 60 Tryz.f60 (frame0 [LL a113 p0,LL a113 p1] 26 false) ((T60 p0 p1).map B):=by
 unfold T60
 let s_0:List (Nat×AV):=[(0,LL a113 p0),(1,LL a113 p1)]
 refine zS 1 0 (mkE s_0 [] 26) (gS 3 (zR 0 1 (sg 1 (mkE ((6,LL a113 p0)::s_0) [] 26) (eo 7 (I (lenL p0)) (lenE 106 a113 p0) (sg 3 (mkE ((8,LL a113 p1)::((7,I (lenL p0))::((6,LL a113 p0)::s_0))) [] 26) (eo 9 (I (lenL p1)) (lenE 106 a113 p1) (zN (mkE (s_0.append [(10,B (neI (lenL p0) (lenL p1)))]) [] 26) (gC 10 (neI (lenL p0) (lenL p1)) ?_ ?_))))))))
 ·exact zF 0 2 (mkE [(4,B false)] [] 26)
 ·refine gK (zP (gS 9 (zR 4 3 (sg 1 (mkE ((11,LL a113 p0)::(s_0.append [(10,B (neI (lenL p0) (lenL p1)))])) [] 26) (eo 12 (I (lenL p0)) (lenE 106 a113 p0) (zN (mkE (s_0.append ((12,I (lenL p0))::[(13,I 0)])) [] 26) (gB 0 (lo [(0,none),(1,none),(12,none),(13,none)] [] (L60_4 p0 p1) (fun z0:Int=>(mkE (s_0.append ((12,I (lenL p0))::[(13,I z0)])) [] 26)) (Sum.elim (fun(x:(Int×Bool))=>(.exit 0,(mkE (s_0.append ((12,I (lenL p0))::((13,I x.1)::[(14,B x.2)]))) [] 26))) (fun(x:Unit)=>(.ret,(mkE [(4,B false)] [] 26)))) 0 (fun z=>L60_4_ok C p0 p1 z) ?_))))))))
  intro y3
  refine ss y3 (Z:=(Sum.elim (fun(x:(Int×Bool))=>(.exit 0,(mkE (s_0.append ((12,I (lenL p0))::((13,I x.1)::[(14,B x.2)]))) [] 26))) (fun(x:Unit)=>(.ret,(mkE [(4,B false)] [] 26))))) (fun y3a=>?_) (fun y3b=>?_)
  ·exact pH (zP (zF 0 9 (mkE [(4,B true)] [] 26)))
  ·exact pL
theorem F60(m:Nat)(hm:1≤m)(p0:(List S113))(p1:(List S113)):callA Tryz.prog cfg m 60 [LL a113 p0,LL a113 p1]=(T60 p0 p1).map B:=by
 obtain⟨q,rfl⟩:=sucK hm
 exact(callA_body (fn:=Tryz.f60) (c:=body_ Tryz.f60) q _ (by kernel_rfl) (by kernel_rfl) (by kernel_rfl)).trans (B60 _ p0 p1)
theorem Fk15(m:Nat)(hm:20≤m):callA Tryz.prog cfg m 15 [a46 (S46.mk (ByteArray.mk #[97]) (ByteArray.mk #[115]) 1 [] 0 5 1 ([(S64.mk 0 0 2 2)]:List S64) (ByteArray.mk #[120])),a32 (S32.mk (ByteArray.mk #[112]) 1 1)]=(some ((true,0):(Bool×Int))).map (fun r=>AV.tup [B r.1,I r.2]):=by
 obtain⟨q,rfl⟩:∃q,m=q+20:=⟨m-20,by omega⟩
 kernel_rfl
noncomputable def T55:Option Bool:=((some ((true,0):(Bool×Int))).bind fun x1=>(bif (eqI x1.2 0)then(some x1.1)else(some false)))
theorem B55(C:Callee)(hk15:C 15 [a46 (S46.mk (ByteArray.mk #[97]) (ByteArray.mk #[115]) 1 [] 0 5 1 ([(S64.mk 0 0 2 2)]:List S64) (ByteArray.mk #[120])),a32 (S32.mk (ByteArray.mk #[112]) 1 1)]=(some ((true,0):(Bool×Int))).map (fun r=>AV.tup [B r.1,I r.2])):rB C 55 Tryz.f55 (frame0 [] 18 false) ((T55).map B):=by
 unfold T55
 let o_0:List (Nat×AObj):=[(8,.box [S (ByteArray.mk #[97]),S (ByteArray.mk #[115]),I 1,.nils,I 0,I 5,I 1,.own 40 0,S (ByteArray.mk #[120])] false),(40,RR 65 4 a64 ([(S64.mk 0 0 2 2)]:List S64) 0 false)]
 refine zS 1 0 (mkE [] [] 18) (zS 2 1 (mkE [(1,.ba 8 0)] o_0 18) (zR 3 2 (sg 2 (mkE [(9,.agg [S (ByteArray.mk #[112]),I 1,I 1]),(8,.agg [S (ByteArray.mk #[97]),S (ByteArray.mk #[115]),I 1,.nils,I 0,I 5,I 1,.own 40 0,S (ByteArray.mk #[120])]),(1,.ba 8 0)] o_0 18) (co 10 [40] (hk15) (fun x1=>?_)))))
 refine zN (mkE [(2,B x1.1),(3,I x1.2)] [] 18) (zR 0 3 (sg 3 (mkE [(15,B (eqI x1.2 0)),(14,B (eqI x1.2 0)),(13,I x1.2),(2,B x1.1),(3,I x1.2)] [] 18) (sb 15 (eqI x1.2 0) ?_ ?_)))
 ·exact zE (mkE [(0,B x1.1)] [] 18)
 ·exact zE (mkE [(0,B false)] [] 18)
theorem F55(m:Nat)(hm:21≤m):callA Tryz.prog cfg m 55 []=(T55).map B:=by
 obtain⟨q,rfl⟩:=sucK hm
 exact(callA_body (fn:=Tryz.f55) (c:=body_ Tryz.f55) q _ (by kernel_rfl) (by kernel_rfl) (by kernel_rfl)).trans (B55 _ (Fk15 q (by omega)))
noncomputable def L21_2(p0:(List S46))(p1:S57)(p2:(List S32))(z0:Int):Option (Int⊕((Int×Bool)⊕Unit)):=(bif (ltI z0 (lenL p2))then((listAt p2 z0).bind fun x1=>((T56 p0 x1 p1).bind fun x2=>((T49 p0).bind fun x3=>((T57 ([x1]:List S32)).bind fun x4=>((T58 p1).bind fun x5=>((T51 ([x3,x4,x5]:List Int)).bind fun x6=>(bif (eqI x6 0)then((T59 p0 x1 p1).bind fun x7=>(bif (neI x2.2 x6)then(some (.inr (.inr ())))else((T60 x2.1 x7).bind fun x8=>(bif (!x8)then(some (.inr (.inr ())))else(some (.inl (addI .i64 z0 1)))))))else(bif (neI x2.2 x6)then(some (.inr (.inr ())))else((T60 x2.1 []).bind fun x9=>(bif (!x9)then(some (.inr (.inr ())))else(some (.inl (addI .i64 z0 1)))))))))))))else(some (.inr (.inl (z0,(ltI z0 (lenL p2)))))))
abbrev H49(C:Callee):Prop:=∀(p0:(List S46)),C 49 [LL a46 p0]=(T49 p0).map I
abbrev H51(C:Callee):Prop:=∀(p0:(List Int)),C 51 [LL I p0]=(T51 p0).map I
abbrev H56(C:Callee):Prop:=∀(p0:(List S46))(p1:S32)(p2:S57),C 56 [LL a46 p0,a32 p1,a57 p2]=(T56 p0 p1 p2).map (fun r=>AV.tup [(fun l=>AV.fr 114 3 (List.map a113 l)) r.1,I r.2])
abbrev H57(C:Callee):Prop:=∀(p0:(List S32)),C 57 [LL a32 p0]=(T57 p0).map I
abbrev H58(C:Callee):Prop:=∀(p0:S57),C 58 [a57 p0]=(T58 p0).map I
abbrev H59(C:Callee):Prop:=∀(p0:(List S46))(p1:S32)(p2:S57),C 59 [LL a46 p0,a32 p1,a57 p2]=(T59 p0 p1 p2).map (fun l=>AV.fr 114 3 (List.map a113 l))
abbrev H60(C:Callee):Prop:=∀(p0:(List S113))(p1:(List S113)),C 60 [LL a113 p0,LL a113 p1]=(T60 p0 p1).map B
theorem L21_2_ok(C:Callee)(h49:H49 C)(h51:H51 C)(h56:H56 C)(h57:H57 C)(h58:H58 C)(h59:H59 C)(h60:H60 C)(p0:(List S46))(p1:S57)(p2:(List S32))(z0:Int):rL C 21 Tryz.f21 2 [false,false,true,false,true] (fun z0:Int=>(mkE [(0,LL a46 p0),(4,.ba 32 0),(13,LL a32 p2),(14,I (lenL p2)),(15,I z0)] [(32,.box [I p1.f0,I p1.f1] false)] 52)) (Sum.elim (fun(x:(Int×Bool))=>(.exit 0,(mkE [(0,LL a46 p0),(4,.ba 32 0),(13,LL a32 p2),(14,I (lenL p2)),(15,I x.1),(16,B x.2)] [(32,.box [I p1.f0,I p1.f1] false)] 52))) (fun(x:Unit)=>(.ret,(mkE [(6,B false)] [] 52)))) (L21_2 p0 p1 p2 z0) z0:=by
 unfold L21_2
 let s_0:List (Nat×AV):=[(13,LL a32 p2),(14,I (lenL p2)),(15,I z0)]
 let s_1:List (Nat×AV):=[(0,LL a46 p0),(4,.ba 32 0),(8,.ba 64 0),(9,.own 184 0)]
 let s_2:List (Nat×AV):=[(0,LL a46 p0),(4,.ba 32 0)]
 let o_0:List (Nat×AObj):=[(32,.box [I p1.f0,I p1.f1] false)]
 refine zS 0 2 (mkE (s_2.append (s_0.append [(16,B (ltI z0 (lenL p2)))])) o_0 52) (gS 3 (gC 16 (ltI z0 (lenL p2)) ?_ ?_))
 ·refine gK (zP (gS 11 (gB 1 (zR 4 3 (vo 17 (addrE 28 33 3 a32 .i64 p2 z0) (fun x1=>?_))))))
  refine zN (mkE (s_2.append ((8,.ba 64 0)::s_0)) (o_0.append [(64,.box [S x1.f0,I x1.f1,I x1.f2] false)]) 52) (zR 5 4 (sg 3 (mkE ((22,a57 p1)::((21,a32 x1)::((20,LL a46 p0)::(s_2.append ((8,.ba 64 0)::s_0))))) (o_0.append [(64,.box [S x1.f0,I x1.f1,I x1.f2] false)]) 52) (co 23 [] (h56 p0 x1 p1) (fun x2=>?_))))
  refine zN (mkE (s_1.append ((10,I x2.2)::s_0)) (o_0.append ((64,.box [S x1.f0,I x1.f1,I x1.f2] false)::[(184,RR 114 3 a113 x2.1 0 false)])) 52) (gS 6 (gD 5 10 (rg Tryz.f21 5) [0,1,2,3,4,5,6,7,8,9] (dg 1 [(some 26,qe (LL a46 p0))] (dc 27 [] (mkE ((26,LL a46 p0)::(s_1.append ((10,I x2.2)::s_0))) (o_0.append ((64,.box [S x1.f0,I x1.f1,I x1.f2] false)::[(184,RR 114 3 a113 x2.1 0 false)])) 52) (h49 p0) (fun x3=>?_)))))
  refine dg 4 [(some 26,qe (LL a46 p0)),(some 27,qe (I x3)),(some 28,qe (a32 x1)),(some 29,{ e:={ val:= .own 232 0,news:=[(232,RR 33 3 a32 ([x1]:List S32) 0 false)] } })] (dc 30 [232] (mkE ((29,.own 232 0)::((28,a32 x1)::((27,I x3)::((26,LL a46 p0)::(s_1.append ((10,I x2.2)::s_0)))))) ((232,RR 33 3 a32 ([x1]:List S32) 0 false)::(o_0.append ((64,.box [S x1.f0,I x1.f1,I x1.f2] false)::[(184,RR 114 3 a113 x2.1 0 false)]))) 52) (h57 ([x1]:List S32)) (fun x4=>?_))
  refine dg 6 [(some 26,qe (LL a46 p0)),(some 27,qe (I x3)),(some 28,qe (a32 x1)),(some 29,{ e:={ val:= .own 232 0,news:=[(232,RR 33 3 a32 ([x1]:List S32) 0 false)] } }),(some 30,qe (I x4)),(some 31,qe (a57 p1))] (dc 32 [] (mkE ((31,a57 p1)::((30,I x4)::((29,.own 232 0)::((28,a32 x1)::((27,I x3)::((26,LL a46 p0)::(s_1.append ((10,I x2.2)::s_0)))))))) ((232,RR 33 3 a32 ([x1]:List S32) 0 false)::(o_0.append ((64,.box [S x1.f0,I x1.f1,I x1.f2] false)::[(184,RR 114 3 a113 x2.1 0 false)]))) 52) (h58 p1) (fun x5=>?_))
  refine dg 8 [(some 26,qe (LL a46 p0)),(some 27,qe (I x3)),(some 28,qe (a32 x1)),(some 29,{ e:={ val:= .own 232 0,news:=[(232,RR 33 3 a32 ([x1]:List S32) 0 false)] } }),(some 30,qe (I x4)),(some 31,qe (a57 p1)),(some 32,qe (I x5)),(some 33,{ e:={ val:= .own 264 0,news:=[(264,RR 39 1 I ([x3,x4,x5]:List Int) 0 false)] } })] (dc 34 [264] (mkE ((33,.own 264 0)::((32,I x5)::((31,a57 p1)::((30,I x4)::((29,.own 232 0)::((28,a32 x1)::((27,I x3)::((26,LL a46 p0)::(s_1.append ((10,I x2.2)::s_0)))))))))) ((264,RR 39 1 I ([x3,x4,x5]:List Int) 0 false)::((232,RR 33 3 a32 ([x1]:List S32) 0 false)::(o_0.append ((64,.box [S x1.f0,I x1.f1,I x1.f2] false)::[(184,RR 114 3 a113 x2.1 0 false)])))) 52) (h51 ([x3,x4,x5]:List Int)) (fun x6=>?_))
  refine dg 10 [(some 26,qe (LL a46 p0)),(some 27,qe (I x3)),(some 28,qe (a32 x1)),(some 29,{ e:={ val:= .own 232 0,news:=[(232,RR 33 3 a32 ([x1]:List S32) 0 false)] } }),(some 30,qe (I x4)),(some 31,qe (a57 p1)),(some 32,qe (I x5)),(some 33,{ e:={ val:= .own 264 0,news:=[(264,RR 39 1 I ([x3,x4,x5]:List Int) 0 false)] } }),(some 34,qe (I x6)),(some 11,qe (I x6))] (de (mkE ((11,I x6)::((34,I x6)::((33,.own 264 0)::((32,I x5)::((31,a57 p1)::((30,I x4)::((29,.own 232 0)::((28,a32 x1)::((27,I x3)::((26,LL a46 p0)::(s_1.append ((10,I x2.2)::s_0)))))))))))) ((264,RR 39 1 I ([x3,x4,x5]:List Int) 0 false)::((232,RR 33 3 a32 ([x1]:List S32) 0 false)::(o_0.append ((64,.box [S x1.f0,I x1.f1,I x1.f2] false)::[(184,RR 114 3 a113 x2.1 0 false)])))) 52) (zN (mkE (s_1.append ((10,I x2.2)::((11,I x6)::s_0))) (o_0.append ((64,.box [S x1.f0,I x1.f1,I x1.f2] false)::[(184,RR 114 3 a113 x2.1 0 false)])) 52) (zS 7 6 (mkE (s_1.append ((10,I x2.2)::((11,I x6)::((12,.nils)::s_0)))) (o_0.append ((64,.box [S x1.f0,I x1.f1,I x1.f2] false)::[(184,RR 114 3 a113 x2.1 0 false)])) 52) (gS 9 (zS 0 7 (mkE (s_1.append ((10,I x2.2)::((11,I x6)::((12,.nils)::(s_0.append [(36,B (eqI x6 0))]))))) (o_0.append ((64,.box [S x1.f0,I x1.f1,I x1.f2] false)::[(184,RR 114 3 a113 x2.1 0 false)])) 52) (gC 36 (eqI x6 0) ?_ ?_))))))
  ·refine gR 8 (rg Tryz.f21 8) (sg 3 (mkE ((39,a57 p1)::((38,a32 x1)::((37,LL a46 p0)::(s_1.append ((10,I x2.2)::((11,I x6)::((12,.nils)::(s_0.append [(36,B (eqI x6 0))])))))))) (o_0.append ((64,.box [S x1.f0,I x1.f1,I x1.f2] false)::[(184,RR 114 3 a113 x2.1 0 false)])) 52) (co 40 [] (h59 p0 x1 p1) (fun x7=>?_)))
   refine zN (mkE (s_2.append ((9,.own 184 0)::((10,I x2.2)::((11,I x6)::((12,.own 320 0)::s_0))))) (o_0.append ((184,RR 114 3 a113 x2.1 0 false)::[(320,RR 114 3 a113 x7 0 false)])) 52) (zR 0 9 (sg 4 (mkE ((44,B (neI x2.2 x6))::((43,B (neI x2.2 x6))::((42,I x6)::((41,I x2.2)::(s_2.append ((9,.own 184 0)::((10,I x2.2)::((11,I x6)::((12,.own 320 0)::s_0))))))))) (o_0.append ((184,RR 114 3 a113 x2.1 0 false)::[(320,RR 114 3 a113 x7 0 false)])) 52) (sb 44 (neI x2.2 x6) ?_ ?_)))
   ·exact zN (mkE (s_2.append (s_0.append [(49,B true)])) o_0 52) (gT (.tmp 49) (zF 0 10 (mkE [(6,B false)] [] 52)))
   ·refine sg 6 (mkE ((46,.own 320 0)::((45,.own 184 0)::((44,B false)::((44,B (neI x2.2 x6))::((43,B (neI x2.2 x6))::((42,I x6)::((41,I x2.2)::(s_2.append ((9,.own 184 0)::((10,I x2.2)::((11,I x6)::((12,.own 320 0)::s_0)))))))))))) (o_0.append ((184,RR 114 3 a113 x2.1 0 false)::[(320,RR 114 3 a113 x7 0 false)])) 52) (co 47 [184,320] (h60 x2.1 x7) (fun x8=>?_))
    refine zN (mkE (s_2.append (s_0.append [(49,B (!x8))])) o_0 52) (gC 49 (!x8) ?_ ?_)
    ·exact zF 0 10 (mkE [(6,B false)] [] 52)
    ·exact gK (pB (zP (gR 11 (rg Tryz.f21 11) (se (mkE (s_2.append ((13,LL a32 p2)::((14,I (lenL p2))::[(15,I (addI .i64 z0 1))]))) o_0 52) (pL)))))
  ·refine gK (zP (zR 0 9 (sg 4 (mkE ((44,B (neI x2.2 x6))::((43,B (neI x2.2 x6))::((42,I x6)::((41,I x2.2)::(s_1.append ((10,I x2.2)::((11,I x6)::((12,.nils)::(s_0.append [(36,B (eqI x6 0))]))))))))) (o_0.append ((64,.box [S x1.f0,I x1.f1,I x1.f2] false)::[(184,RR 114 3 a113 x2.1 0 false)])) 52) (sb 44 (neI x2.2 x6) ?_ ?_))))
   ·exact zN (mkE (s_2.append (s_0.append [(49,B true)])) o_0 52) (gT (.tmp 49) (zF 0 10 (mkE [(6,B false)] [] 52)))
   ·refine sg 6 (mkE ((46,.nils)::((45,.own 184 0)::((44,B false)::((44,B (neI x2.2 x6))::((43,B (neI x2.2 x6))::((42,I x6)::((41,I x2.2)::(s_1.append ((10,I x2.2)::((11,I x6)::((12,.nils)::(s_0.append [(36,B (eqI x6 0))])))))))))))) (o_0.append ((64,.box [S x1.f0,I x1.f1,I x1.f2] false)::[(184,RR 114 3 a113 x2.1 0 false)])) 52) (co 47 [184] (h60 x2.1 []) (fun x9=>?_))
    refine zN (mkE (s_2.append (s_0.append [(49,B (!x9))])) o_0 52) (gC 49 (!x9) ?_ ?_)
    ·exact zF 0 10 (mkE [(6,B false)] [] 52)
    ·exact gK (pB (zP (gR 11 (rg Tryz.f21 11) (se (mkE (s_2.append ((13,LL a32 p2)::((14,I (lenL p2))::[(15,I (addI .i64 z0 1))]))) o_0 52) (pL)))))
 ·exact gX 0 (pL)
noncomputable def T21(p0:(List S46))(p1:S57)(p2:(List S32)):Option Bool:=((iter (L21_2 p0 p1 p2) 0).bind fun y10=>(Sum.elim (fun y10a=>((T55).bind fun x11=>(some x11))) (fun y10b=>(some false)) y10))
theorem B21(C:Callee)(h49:H49 C)(h51:H51 C)(h55:C 55 []=(T55).map B)(h56:H56 C)(h57:H57 C)(h58:H58 C)(h59:H59 C)(h60:H60 C)(p0:(List S46))(p1:S57)(p2:(List S32)):rB C 21 Tryz.f21 (frame0 [LL a46 p0,a57 p1,LL a32 p2] 52 false) ((T21 p0 p1 p2).map B):=by
 unfold T21
 let s_0:List (Nat×AV):=[(0,LL a46 p0),(4,.ba 32 0),(13,LL a32 p2),(14,I (lenL p2))]
 let o_0:List (Nat×AObj):=[(32,.box [I p1.f0,I p1.f1] false)]
 refine zS 1 0 (mkE [(0,LL a46 p0),(2,LL a32 p2),(4,.ba 32 0)] o_0 52) (gS 12 (zR 2 1 (sg 1 (mkE [(13,LL a32 p2),(0,LL a46 p0),(2,LL a32 p2),(4,.ba 32 0)] o_0 52) (eo 14 (I (lenL p2)) (lenE 28 a32 p2) (zN (mkE (s_0.append [(15,I 0)]) o_0 52) (gB 0 (lo [(0,none),(4,none),(13,none),(14,none),(15,none)] [] (L21_2 p0 p1 p2) (fun z0:Int=>(mkE (s_0.append [(15,I z0)]) o_0 52)) (Sum.elim (fun(x:(Int×Bool))=>(.exit 0,(mkE (s_0.append ((15,I x.1)::[(16,B x.2)])) o_0 52))) (fun(x:Unit)=>(.ret,(mkE [(6,B false)] [] 52)))) 0 (fun z=>L21_2_ok C h49 h51 h56 h57 h58 h59 h60 p0 p1 p2 z) ?_)))))))
 intro y10
 refine ss y10 (Z:=(Sum.elim (fun(x:(Int×Bool))=>(.exit 0,(mkE (s_0.append ((15,I x.1)::[(16,B x.2)])) o_0 52))) (fun(x:Unit)=>(.ret,(mkE [(6,B false)] [] 52))))) (fun y10a=>?_) (fun y10b=>?_)
 ·refine pH (zP (zR 0 12 (co 51 [] (h55) (fun x11=>?_))))
  exact zE (mkE [(6,B x11)] [] 52)
 ·exact pL
theorem F21(m:Nat)(hm:22≤m)(p0:(List S46))(p1:S57)(p2:(List S32)):callA Tryz.prog cfg m 21 [LL a46 p0,a57 p1,LL a32 p2]=(T21 p0 p1 p2).map B:=by
 obtain⟨q,rfl⟩:=sucK hm
 exact(callA_body (fn:=Tryz.f21) (c:=body_ Tryz.f21) q _ (by kernel_rfl) (by kernel_rfl) (by kernel_rfl)).trans (B21 _ (fun p0=>F49 q (by omega) p0) (fun p0=>F51 q (by omega) p0) (F55 q (by omega)) (fun p0 p1 p2=>F56 q (by omega) p0 p1 p2) (fun p0=>F57 q (by omega) p0) (fun p0=>F58 q (by omega) p0) (fun p0 p1 p2=>F59 q (by omega) p0 p1 p2) (fun p0 p1=>F60 q (by omega) p0 p1) p0 p1 p2)
noncomputable def L90_4(p0:(List ByteArray))(p1:(List ByteArray))(z0:Int):Option (Int⊕((Int×Bool)⊕Unit)):=(bif (ltI z0 (lenL p0))then((listAt p0 z0).bind fun x1=>((listAt p1 z0).bind fun x2=>(bif (!eqS x1 x2)then(some (.inr (.inr ())))else(some (.inl (addI .i64 z0 1))))))else(some (.inr (.inl (z0,(ltI z0 (lenL p0)))))))
theorem L90_4_ok(C:Callee)(p0:(List ByteArray))(p1:(List ByteArray))(z0:Int):rL C 90 Tryz.f90 4 [false,false,true,false,true,true] (fun z0:Int=>(mkE [(0,LL S p0),(1,LL S p1),(12,I (lenL p0)),(13,I z0)] [] 26)) (Sum.elim (fun(x:(Int×Bool))=>(.exit 0,(mkE [(0,LL S p0),(1,LL S p1),(12,I (lenL p0)),(13,I x.1),(14,B x.2)] [] 26))) (fun(x:Unit)=>(.ret,(mkE [(4,B false)] [] 26)))) (L90_4 p0 p1 z0) z0:=by
 unfold L90_4
 let s_0:List (Nat×AV):=[(0,LL S p0),(1,LL S p1),(5,I z0),(12,I (lenL p0)),(13,I z0)]
 refine zS 0 4 (mkE [(0,LL S p0),(1,LL S p1),(12,I (lenL p0)),(13,I z0),(14,B (ltI z0 (lenL p0)))] [] 26) (gS 5 (gC 14 (ltI z0 (lenL p0)) ?_ ?_))
 ·refine gK (zP (gS 8 (gB 1 (zS 6 5 (mkE s_0 [] 26) (gS 0 (gD 6 9 (rg Tryz.f90 6) [0,1,2,3,4,5,6,7,8] (dg 2 [(some 16,qe (LL S p0)),(some 17,qe (I z0))] (dv 18 (mkE ((17,I z0)::((16,LL S p0)::s_0)) [] 26) (addrE 34 9 1 S .i64 p0 z0) (fun x1=>?_)))))))))
  refine dg 6 [(some 16,qe (LL S p0)),(some 17,qe (I z0)),(some 18,qe (.ia [S x1] 0)),(some 19,qe (S x1)),(some 20,qe (LL S p1)),(some 21,qe (I z0))] (dv 22 (mkE ((21,I z0)::((20,LL S p1)::s_0)) [] 26) (addrE 34 9 1 S .i64 p1 z0) (fun x2=>?_))
  refine dg 9 [(some 16,qe (LL S p0)),(some 17,qe (I z0)),(some 18,qe (.ia [S x1] 0)),(some 19,qe (S x1)),(some 20,qe (LL S p1)),(some 21,qe (I z0)),(some 22,qe (.ia [S x2] 0)),(some 23,qe (S x2)),(some 24,qe (B (!eqS x1 x2)))] (de (mkE ((24,B (!eqS x1 x2))::((23,S x2)::((22,.ia [S x2] 0)::((21,I z0)::((20,LL S p1)::((19,S x1)::((18,.ia [S x1] 0)::((17,I z0)::((16,LL S p0)::s_0))))))))) [] 26) (zN (mkE [(0,LL S p0),(1,LL S p1),(12,I (lenL p0)),(13,I z0),(24,B (!eqS x1 x2))] [] 26) (gC 24 (!eqS x1 x2) ?_ ?_)))
  ·exact zF 0 7 (mkE [(4,B false)] [] 26)
  ·exact gK (pB (zP (gR 8 (rg Tryz.f90 8) (se (mkE [(0,LL S p0),(1,LL S p1),(12,I (lenL p0)),(13,I (addI .i64 z0 1))] [] 26) (pL)))))
 ·exact gX 0 (pL)
noncomputable def T90(p0:(List ByteArray))(p1:(List ByteArray)):Option Bool:=(bif (neI (lenL p0) (lenL p1))then(some false)else((iter (L90_4 p0 p1) 0).bind fun y3=>(Sum.elim (fun y3a=>(some true)) (fun y3b=>(some false)) y3)))
theorem B90(C:Callee)(p0:(List ByteArray))(p1:(List ByteArray)):rB C 90 Tryz.f90 (frame0 [LL S p0,LL S p1] 26 false) ((T90 p0 p1).map B):=by
 unfold T90
 let s_0:List (Nat×AV):=[(0,LL S p0),(1,LL S p1)]
 refine zS 1 0 (mkE s_0 [] 26) (gS 3 (zR 0 1 (sg 1 (mkE ((6,LL S p0)::s_0) [] 26) (eo 7 (I (lenL p0)) (lenE 34 S p0) (sg 3 (mkE ((8,LL S p1)::((7,I (lenL p0))::((6,LL S p0)::s_0))) [] 26) (eo 9 (I (lenL p1)) (lenE 34 S p1) (zN (mkE (s_0.append [(10,B (neI (lenL p0) (lenL p1)))]) [] 26) (gC 10 (neI (lenL p0) (lenL p1)) ?_ ?_))))))))
 ·exact zF 0 2 (mkE [(4,B false)] [] 26)
 ·refine gK (zP (gS 9 (zR 4 3 (sg 1 (mkE ((11,LL S p0)::(s_0.append [(10,B (neI (lenL p0) (lenL p1)))])) [] 26) (eo 12 (I (lenL p0)) (lenE 34 S p0) (zN (mkE (s_0.append ((12,I (lenL p0))::[(13,I 0)])) [] 26) (gB 0 (lo [(0,none),(1,none),(12,none),(13,none)] [] (L90_4 p0 p1) (fun z0:Int=>(mkE (s_0.append ((12,I (lenL p0))::[(13,I z0)])) [] 26)) (Sum.elim (fun(x:(Int×Bool))=>(.exit 0,(mkE (s_0.append ((12,I (lenL p0))::((13,I x.1)::[(14,B x.2)]))) [] 26))) (fun(x:Unit)=>(.ret,(mkE [(4,B false)] [] 26)))) 0 (fun z=>L90_4_ok C p0 p1 z) ?_))))))))
  intro y3
  refine ss y3 (Z:=(Sum.elim (fun(x:(Int×Bool))=>(.exit 0,(mkE (s_0.append ((12,I (lenL p0))::((13,I x.1)::[(14,B x.2)]))) [] 26))) (fun(x:Unit)=>(.ret,(mkE [(4,B false)] [] 26))))) (fun y3a=>?_) (fun y3b=>?_)
  ·exact pH (zP (zF 0 9 (mkE [(4,B true)] [] 26)))
  ·exact pL
theorem F90(m:Nat)(hm:1≤m)(p0:(List ByteArray))(p1:(List ByteArray)):callA Tryz.prog cfg m 90 [LL S p0,LL S p1]=(T90 p0 p1).map B:=by
 obtain⟨q,rfl⟩:=sucK hm
 exact(callA_body (fn:=Tryz.f90) (c:=body_ Tryz.f90) q _ (by kernel_rfl) (by kernel_rfl) (by kernel_rfl)).trans (B90 _ p0 p1)
noncomputable def L91_4(p0:(List S64))(p1:(List S64))(z0:Int):Option (Int⊕((Int×Bool)⊕Unit)):=(bif (ltI z0 (lenL p0))then((listAt p0 z0).bind fun x1=>((listAt p1 z0).bind fun x2=>(bif (!allB [eqI x1.f0 x2.f0,eqI x1.f1 x2.f1,eqI x1.f2 x2.f2,eqI x1.f3 x2.f3])then(some (.inr (.inr ())))else(some (.inl (addI .i64 z0 1))))))else(some (.inr (.inl (z0,(ltI z0 (lenL p0)))))))
theorem L91_4_ok(C:Callee)(p0:(List S64))(p1:(List S64))(z0:Int):rL C 91 Tryz.f91 4 [false,false,true,false,true,true] (fun z0:Int=>(mkE [(0,LL a64 p0),(1,LL a64 p1),(12,I (lenL p0)),(13,I z0)] [] 26)) (Sum.elim (fun(x:(Int×Bool))=>(.exit 0,(mkE [(0,LL a64 p0),(1,LL a64 p1),(12,I (lenL p0)),(13,I x.1),(14,B x.2)] [] 26))) (fun(x:Unit)=>(.ret,(mkE [(4,B false)] [] 26)))) (L91_4 p0 p1 z0) z0:=by
 unfold L91_4
 let s_0:List (Nat×AV):=[(0,LL a64 p0),(1,LL a64 p1),(5,I z0),(12,I (lenL p0)),(13,I z0)]
 refine zS 0 4 (mkE [(0,LL a64 p0),(1,LL a64 p1),(12,I (lenL p0)),(13,I z0),(14,B (ltI z0 (lenL p0)))] [] 26) (gS 5 (gC 14 (ltI z0 (lenL p0)) ?_ ?_))
 ·refine gK (zP (gS 8 (gB 1 (zS 6 5 (mkE s_0 [] 26) (gS 0 (gD 6 9 (rg Tryz.f91 6) [0,1,2,3,4,5,6,7,8] (dg 2 [(some 16,qe (LL a64 p0)),(some 17,qe (I z0))] (dv 18 (mkE ((17,I z0)::((16,LL a64 p0)::s_0)) [] 26) (addrE 45 65 4 a64 .i64 p0 z0) (fun x1=>?_)))))))))
  refine dg 6 [(some 16,qe (LL a64 p0)),(some 17,qe (I z0)),(some 18,qe (.ia [I x1.f0,I x1.f1,I x1.f2,I x1.f3] 0)),(some 19,qe (a64 x1)),(some 20,qe (LL a64 p1)),(some 21,qe (I z0))] (dv 22 (mkE ((21,I z0)::((20,LL a64 p1)::s_0)) [] 26) (addrE 45 65 4 a64 .i64 p1 z0) (fun x2=>?_))
  refine dg 8 [(some 16,qe (LL a64 p0)),(some 17,qe (I z0)),(some 18,qe (.ia [I x1.f0,I x1.f1,I x1.f2,I x1.f3] 0)),(some 19,qe (a64 x1)),(some 20,qe (LL a64 p1)),(some 21,qe (I z0)),(some 22,qe (.ia [I x2.f0,I x2.f1,I x2.f2,I x2.f3] 0)),(some 23,qe (a64 x2))] (df 24 (B (!allB [eqI x1.f0 x2.f0,eqI x1.f1 x2.f1,eqI x1.f2 x2.f2,eqI x1.f3 x2.f3])) (mkE ((23,a64 x2)::((22,.ia [I x2.f0,I x2.f1,I x2.f2,I x2.f3] 0)::((21,I z0)::((20,LL a64 p1)::((19,a64 x1)::((18,.ia [I x1.f0,I x1.f1,I x1.f2,I x1.f3] 0)::((17,I z0)::((16,LL a64 p0)::s_0)))))))) [] 26) (neqE 65 (.tmp 19) (.tmp 23) [I x1.f0,I x1.f1,I x1.f2,I x1.f3] [I x2.f0,I x2.f1,I x2.f2,I x2.f3] [.int .i64 x1.f0,.int .i64 x1.f1,.int .i64 x1.f2,.int .i64 x1.f3] [.int .i64 x2.f0,.int .i64 x2.f1,.int .i64 x2.f2,.int .i64 x2.f3] [eqI x1.f0 x2.f0,eqI x1.f1 x2.f1,eqI x1.f2 x2.f2,eqI x1.f3 x2.f3]) (de (mkE ((24,B (!allB [eqI x1.f0 x2.f0,eqI x1.f1 x2.f1,eqI x1.f2 x2.f2,eqI x1.f3 x2.f3]))::((23,a64 x2)::((22,.ia [I x2.f0,I x2.f1,I x2.f2,I x2.f3] 0)::((21,I z0)::((20,LL a64 p1)::((19,a64 x1)::((18,.ia [I x1.f0,I x1.f1,I x1.f2,I x1.f3] 0)::((17,I z0)::((16,LL a64 p0)::s_0))))))))) [] 26) (zN (mkE [(0,LL a64 p0),(1,LL a64 p1),(12,I (lenL p0)),(13,I z0),(24,B (!allB [eqI x1.f0 x2.f0,eqI x1.f1 x2.f1,eqI x1.f2 x2.f2,eqI x1.f3 x2.f3]))] [] 26) (gC 24 (!allB [eqI x1.f0 x2.f0,eqI x1.f1 x2.f1,eqI x1.f2 x2.f2,eqI x1.f3 x2.f3]) ?_ ?_))))
  ·exact zF 0 7 (mkE [(4,B false)] [] 26)
  ·exact gK (pB (zP (gR 8 (rg Tryz.f91 8) (se (mkE [(0,LL a64 p0),(1,LL a64 p1),(12,I (lenL p0)),(13,I (addI .i64 z0 1))] [] 26) (pL)))))
 ·exact gX 0 (pL)
noncomputable def T91(p0:(List S64))(p1:(List S64)):Option Bool:=(bif (neI (lenL p0) (lenL p1))then(some false)else((iter (L91_4 p0 p1) 0).bind fun y3=>(Sum.elim (fun y3a=>(some true)) (fun y3b=>(some false)) y3)))
theorem B91(C:Callee)(p0:(List S64))(p1:(List S64)):rB C 91 Tryz.f91 (frame0 [LL a64 p0,LL a64 p1] 26 false) ((T91 p0 p1).map B):=by
 unfold T91
 let s_0:List (Nat×AV):=[(0,LL a64 p0),(1,LL a64 p1)]
 refine zS 1 0 (mkE s_0 [] 26) (gS 3 (zR 0 1 (sg 1 (mkE ((6,LL a64 p0)::s_0) [] 26) (eo 7 (I (lenL p0)) (lenE 45 a64 p0) (sg 3 (mkE ((8,LL a64 p1)::((7,I (lenL p0))::((6,LL a64 p0)::s_0))) [] 26) (eo 9 (I (lenL p1)) (lenE 45 a64 p1) (zN (mkE (s_0.append [(10,B (neI (lenL p0) (lenL p1)))]) [] 26) (gC 10 (neI (lenL p0) (lenL p1)) ?_ ?_))))))))
 ·exact zF 0 2 (mkE [(4,B false)] [] 26)
 ·refine gK (zP (gS 9 (zR 4 3 (sg 1 (mkE ((11,LL a64 p0)::(s_0.append [(10,B (neI (lenL p0) (lenL p1)))])) [] 26) (eo 12 (I (lenL p0)) (lenE 45 a64 p0) (zN (mkE (s_0.append ((12,I (lenL p0))::[(13,I 0)])) [] 26) (gB 0 (lo [(0,none),(1,none),(12,none),(13,none)] [] (L91_4 p0 p1) (fun z0:Int=>(mkE (s_0.append ((12,I (lenL p0))::[(13,I z0)])) [] 26)) (Sum.elim (fun(x:(Int×Bool))=>(.exit 0,(mkE (s_0.append ((12,I (lenL p0))::((13,I x.1)::[(14,B x.2)]))) [] 26))) (fun(x:Unit)=>(.ret,(mkE [(4,B false)] [] 26)))) 0 (fun z=>L91_4_ok C p0 p1 z) ?_))))))))
  intro y3
  refine ss y3 (Z:=(Sum.elim (fun(x:(Int×Bool))=>(.exit 0,(mkE (s_0.append ((12,I (lenL p0))::((13,I x.1)::[(14,B x.2)]))) [] 26))) (fun(x:Unit)=>(.ret,(mkE [(4,B false)] [] 26))))) (fun y3a=>?_) (fun y3b=>?_)
  ·exact pH (zP (zF 0 9 (mkE [(4,B true)] [] 26)))
  ·exact pL
theorem F91(m:Nat)(hm:1≤m)(p0:(List S64))(p1:(List S64)):callA Tryz.prog cfg m 91 [LL a64 p0,LL a64 p1]=(T91 p0 p1).map B:=by
 obtain⟨q,rfl⟩:=sucK hm
 exact(callA_body (fn:=Tryz.f91) (c:=body_ Tryz.f91) q _ (by kernel_rfl) (by kernel_rfl) (by kernel_rfl)).trans (B91 _ p0 p1)
noncomputable def T54(p0:S46)(p1:S46):Option Bool:=(bif (eqS p0.f0 p1.f0)then(bif (eqS p0.f1 p1.f1)then(bif (eqI p0.f2 p1.f2)then((T90 p0.f3 p1.f3).bind fun x1=>(bif x1 then(bif (eqI p0.f4 p1.f4)then(bif (eqI p0.f5 p1.f5)then(bif (eqI p0.f6 p1.f6)then((T91 p0.f7 p1.f7).bind fun x2=>(bif x2 then(some (eqS p0.f8 p1.f8))else(some false)))else(some false))else(some false))else(some false))else(some false)))else(some false))else(some false))else(some false))
theorem B54(C:Callee)(h90:∀(p0:(List ByteArray))(p1:(List ByteArray)),C 90 [LL S p0,LL S p1]=(T90 p0 p1).map B)(h91:∀(p0:(List S64))(p1:(List S64)),C 91 [LL a64 p0,LL a64 p1]=(T91 p0 p1).map B)(p0:S46)(p1:S46):rB C 54 Tryz.f54 (frame0 [a46 p0,a46 p1] 66 false) ((T54 p0 p1).map B):=by
 unfold T54
 let s_0:List (Nat×AV):=[(24,B (eqI p0.f2 p1.f2)),(23,B (eqI p0.f2 p1.f2)),(22,B (eqI p0.f2 p1.f2)),(21,I p1.f2),(20,.ba 24 2),(19,I p0.f2),(18,.ba 16 2),(17,B true),(17,B (eqS p0.f1 p1.f1)),(16,B (eqS p0.f1 p1.f1)),(15,B (eqS p0.f1 p1.f1)),(14,S p1.f1),(13,.ba 24 1),(12,S p0.f1),(11,.ba 16 1),(10,B true),(10,B (eqS p0.f0 p1.f0)),(9,B (eqS p0.f0 p1.f0)),(8,S p1.f0),(7,.ba 24 0),(6,S p0.f0),(5,.ba 16 0),(2,.ba 16 0),(3,.ba 24 0)]
 let s_1:List (Nat×AV):=[(52,B (eqI p0.f6 p1.f6)),(51,B (eqI p0.f6 p1.f6)),(50,B (eqI p0.f6 p1.f6)),(49,I p1.f6),(48,.ba 24 6),(47,I p0.f6),(46,.ba 16 6),(45,B true),(45,B (eqI p0.f5 p1.f5)),(44,B (eqI p0.f5 p1.f5)),(43,B (eqI p0.f5 p1.f5)),(42,I p1.f5),(41,.ba 24 5),(40,I p0.f5),(39,.ba 16 5),(38,B true),(38,B (eqI p0.f4 p1.f4)),(37,B (eqI p0.f4 p1.f4)),(36,B (eqI p0.f4 p1.f4)),(35,I p1.f4),(34,.ba 24 4),(33,I p0.f4),(32,.ba 16 4),(31,B true)]
 let s_2:List (Nat×AV):=[(28,LL S p1.f3),(27,.ba 24 3),(26,LL S p0.f3),(25,.ba 16 3),(24,B true)]
 let s_3:List (Nat×AV):=[(38,B (eqI p0.f4 p1.f4)),(37,B (eqI p0.f4 p1.f4)),(36,B (eqI p0.f4 p1.f4)),(35,I p1.f4),(34,.ba 24 4),(33,I p0.f4),(32,.ba 16 4),(31,B true)]
 let s_4:List (Nat×AV):=[(10,B (eqS p0.f0 p1.f0)),(9,B (eqS p0.f0 p1.f0)),(8,S p1.f0),(7,.ba 24 0),(6,S p0.f0),(5,.ba 16 0),(2,.ba 16 0),(3,.ba 24 0)]
 let o_0:List (Nat×AObj):=[(16,.box [S p0.f0,S p0.f1,I p0.f2,LL S p0.f3,I p0.f4,I p0.f5,I p0.f6,LL a64 p0.f7,S p0.f8] false),(24,.box [S p1.f0,S p1.f1,I p1.f2,LL S p1.f3,I p1.f4,I p1.f5,I p1.f6,LL a64 p1.f7,S p1.f8] false)]
 refine zS 1 0 (mkE [(2,.ba 16 0),(3,.ba 24 0)] o_0 66) (zR 0 1 (sg 6 (mkE s_4 o_0 66) (sb 10 (eqS p0.f0 p1.f0) ?_ ?_)))
 ·refine sg 13 (mkE ((17,B (eqS p0.f1 p1.f1))::((16,B (eqS p0.f1 p1.f1))::((15,B (eqS p0.f1 p1.f1))::((14,S p1.f1)::((13,.ba 24 1)::((12,S p0.f1)::((11,.ba 16 1)::((10,B true)::s_4)))))))) o_0 66) (sb 17 (eqS p0.f1 p1.f1) ?_ ?_)
  ·refine sg 20 (mkE s_0 o_0 66) (sb 24 (eqI p0.f2 p1.f2) ?_ ?_)
   ·refine sg 24 (mkE (s_2.append s_0) o_0 66) (co 29 [] (h90 p0.f3 p1.f3) (fun x1=>?_))
    refine sg 27 (mkE ((31,B x1)::((30,B x1)::((29,B x1)::(s_2.append s_0)))) o_0 66) (sb 31 x1 ?_ ?_)
    ·refine sg 34 (mkE (s_3.append ((31,B x1)::((30,B x1)::((29,B x1)::(s_2.append s_0))))) o_0 66) (sb 38 (eqI p0.f4 p1.f4) ?_ ?_)
     ·refine sg 41 (mkE ((45,B (eqI p0.f5 p1.f5))::((44,B (eqI p0.f5 p1.f5))::((43,B (eqI p0.f5 p1.f5))::((42,I p1.f5)::((41,.ba 24 5)::((40,I p0.f5)::((39,.ba 16 5)::((38,B true)::(s_3.append ((31,B x1)::((30,B x1)::((29,B x1)::(s_2.append s_0))))))))))))) o_0 66) (sb 45 (eqI p0.f5 p1.f5) ?_ ?_)
      ·refine sg 48 (mkE (s_1.append ((31,B x1)::((30,B x1)::((29,B x1)::(s_2.append s_0))))) o_0 66) (sb 52 (eqI p0.f6 p1.f6) ?_ ?_)
       ·refine sg 52 (mkE ((56,LL a64 p1.f7)::((55,.ba 24 7)::((54,LL a64 p0.f7)::((53,.ba 16 7)::((52,B true)::(s_1.append ((31,B x1)::((30,B x1)::((29,B x1)::(s_2.append s_0)))))))))) o_0 66) (co 57 [] (h91 p0.f7 p1.f7) (fun x2=>?_))
        refine sg 55 (mkE ((59,B x2)::((58,B x2)::((57,B x2)::((56,LL a64 p1.f7)::((55,.ba 24 7)::((54,LL a64 p0.f7)::((53,.ba 16 7)::((52,B true)::(s_1.append ((31,B x1)::((30,B x1)::((29,B x1)::(s_2.append s_0))))))))))))) o_0 66) (sb 59 x2 ?_ ?_)
        ·exact zE (mkE [(4,B (eqS p0.f8 p1.f8))] [] 66)
        ·exact zE (mkE [(4,B false)] [] 66)
       ·exact zE (mkE [(4,B false)] [] 66)
      ·exact zE (mkE [(4,B false)] [] 66)
     ·exact zE (mkE [(4,B false)] [] 66)
    ·exact zE (mkE [(4,B false)] [] 66)
   ·exact zE (mkE [(4,B false)] [] 66)
  ·exact zE (mkE [(4,B false)] [] 66)
 ·exact zE (mkE [(4,B false)] [] 66)
theorem F54(m:Nat)(hm:2≤m)(p0:S46)(p1:S46):callA Tryz.prog cfg m 54 [a46 p0,a46 p1]=(T54 p0 p1).map B:=by
 obtain⟨q,rfl⟩:=sucK hm
 exact(callA_body (fn:=Tryz.f54) (c:=body_ Tryz.f54) q _ (by kernel_rfl) (by kernel_rfl) (by kernel_rfl)).trans (B54 _ (fun p0 p1=>F90 q (by omega) p0 p1) (fun p0 p1=>F91 q (by omega) p0 p1) p0 p1)
noncomputable def L53_4(p0:(List S46))(p1:(List S46))(z0:Int):Option (Int⊕((Int×Bool)⊕Unit)):=(bif (ltI z0 (lenL p0))then((listAt p0 z0).bind fun x1=>((listAt p1 z0).bind fun x2=>((T54 x1 x2).bind fun x3=>(bif (!x3)then(some (.inr (.inr ())))else(some (.inl (addI .i64 z0 1)))))))else(some (.inr (.inl (z0,(ltI z0 (lenL p0)))))))
abbrev H54(C:Callee):Prop:=∀(p0:S46)(p1:S46),C 54 [a46 p0,a46 p1]=(T54 p0 p1).map B
theorem L53_4_ok(C:Callee)(h54:H54 C)(p0:(List S46))(p1:(List S46))(z0:Int):rL C 53 Tryz.f53 4 [false,false,true,false,true,true] (fun z0:Int=>(mkE [(1,LL a46 p1),(2,.fn 54 []),(15,LL a46 p0),(16,I (lenL p0)),(17,I z0)] [] 32)) (Sum.elim (fun(x:(Int×Bool))=>(.exit 0,(mkE [(1,LL a46 p1),(2,.fn 54 []),(15,LL a46 p0),(16,I (lenL p0)),(17,I x.1),(18,B x.2)] [] 32))) (fun(x:Unit)=>(.ret,(mkE [(6,B false)] [] 32)))) (L53_4 p0 p1 z0) z0:=by
 unfold L53_4
 let s_0:List (Nat×AV):=[(15,LL a46 p0),(16,I (lenL p0)),(17,I z0)]
 let s_1:List (Nat×AV):=[(1,LL a46 p1),(2,.fn 54 [])]
 refine zS 0 4 (mkE (s_1.append (s_0.append [(18,B (ltI z0 (lenL p0)))])) [] 32) (gS 5 (gC 18 (ltI z0 (lenL p0)) ?_ ?_))
 ·refine gK (zP (gS 9 (gB 1 (zR 6 5 (sg 1 (mkE ((19,I z0)::(s_1.append (s_0.append [(18,B (ltI z0 (lenL p0)))]))) [] 32) (vo 20 (addrE 26 47 9 a46 .i64 p0 z0) (fun x1=>?_)))))))
  refine zN (mkE (s_1.append ((7,I z0)::((8,.ba 64 0)::s_0))) [(64,.box [S x1.f0,S x1.f1,I x1.f2,LL S x1.f3,I x1.f4,I x1.f5,I x1.f6,LL a64 x1.f7,S x1.f8] false)] 32) (zR 7 6 (sg 2 (mkE ((23,I z0)::((22,LL a46 p1)::(s_1.append ((7,I z0)::((8,.ba 64 0)::s_0))))) [(64,.box [S x1.f0,S x1.f1,I x1.f2,LL S x1.f3,I x1.f4,I x1.f5,I x1.f6,LL a64 x1.f7,S x1.f8] false)] 32) (vo 24 (addrE 26 47 9 a46 .i64 p1 z0) (fun x2=>?_))))
  refine zN (mkE (s_1.append ((8,.ba 64 0)::((9,.ba 72 0)::s_0))) [(64,.box [S x1.f0,S x1.f1,I x1.f2,LL S x1.f3,I x1.f4,I x1.f5,I x1.f6,LL a64 x1.f7,S x1.f8] false),(72,.box [S x2.f0,S x2.f1,I x2.f2,LL S x2.f3,I x2.f4,I x2.f5,I x2.f6,LL a64 x2.f7,S x2.f8] false)] 32) (zR 0 7 (sg 3 (mkE ((28,a46 x2)::((27,a46 x1)::((26,.fn 54 [])::(s_1.append ((8,.ba 64 0)::((9,.ba 72 0)::s_0)))))) [(64,.box [S x1.f0,S x1.f1,I x1.f2,LL S x1.f3,I x1.f4,I x1.f5,I x1.f6,LL a64 x1.f7,S x1.f8] false),(72,.box [S x2.f0,S x2.f1,I x2.f2,LL S x2.f3,I x2.f4,I x2.f5,I x2.f6,LL a64 x2.f7,S x2.f8] false)] 32) (co 29 [] (h54 x1 x2) (fun x3=>?_))))
  refine zN (mkE (s_1.append (s_0.append [(30,B (!x3))])) [] 32) (gC 30 (!x3) ?_ ?_)
  ·exact zF 0 8 (mkE [(6,B false)] [] 32)
  ·exact gK (pB (zP (gR 9 (rg Tryz.f53 9) (se (mkE (s_1.append ((15,LL a46 p0)::((16,I (lenL p0))::[(17,I (addI .i64 z0 1))]))) [] 32) (pL)))))
 ·exact gX 0 (pL)
noncomputable def T53(p0:(List S46))(p1:(List S46)):Option Bool:=(bif (neI (lenL p0) (lenL p1))then(some false)else((iter (L53_4 p0 p1) 0).bind fun y4=>(Sum.elim (fun y4a=>(some true)) (fun y4b=>(some false)) y4)))
theorem B53(C:Callee)(h54:H54 C)(p0:(List S46))(p1:(List S46)):rB C 53 Tryz.f53 (frame0 [LL a46 p0,LL a46 p1,.fn 54 []] 32 false) ((T53 p0 p1).map B):=by
 unfold T53
 let s_0:List (Nat×AV):=[(1,LL a46 p1),(2,.fn 54 [])]
 refine zS 1 0 (mkE ((0,LL a46 p0)::s_0) [] 32) (gS 3 (zR 0 1 (sg 1 (mkE ((10,LL a46 p0)::((0,LL a46 p0)::s_0)) [] 32) (eo 11 (I (lenL p0)) (lenE 26 a46 p0) (sg 3 (mkE ((12,LL a46 p1)::((11,I (lenL p0))::((10,LL a46 p0)::((0,LL a46 p0)::s_0)))) [] 32) (eo 13 (I (lenL p1)) (lenE 26 a46 p1) (zN (mkE ((0,LL a46 p0)::(s_0.append [(14,B (neI (lenL p0) (lenL p1)))])) [] 32) (gC 14 (neI (lenL p0) (lenL p1)) ?_ ?_))))))))
 ·exact zF 0 2 (mkE [(6,B false)] [] 32)
 ·refine gK (zP (gS 10 (zR 4 3 (sg 1 (mkE ((15,LL a46 p0)::((0,LL a46 p0)::(s_0.append [(14,B (neI (lenL p0) (lenL p1)))]))) [] 32) (eo 16 (I (lenL p0)) (lenE 26 a46 p0) (zN (mkE (s_0.append ((15,LL a46 p0)::((16,I (lenL p0))::[(17,I 0)]))) [] 32) (gB 0 (lo [(1,none),(2,none),(15,none),(16,none),(17,none)] [] (L53_4 p0 p1) (fun z0:Int=>(mkE (s_0.append ((15,LL a46 p0)::((16,I (lenL p0))::[(17,I z0)]))) [] 32)) (Sum.elim (fun(x:(Int×Bool))=>(.exit 0,(mkE (s_0.append ((15,LL a46 p0)::((16,I (lenL p0))::((17,I x.1)::[(18,B x.2)])))) [] 32))) (fun(x:Unit)=>(.ret,(mkE [(6,B false)] [] 32)))) 0 (fun z=>L53_4_ok C h54 p0 p1 z) ?_))))))))
  intro y4
  refine ss y4 (Z:=(Sum.elim (fun(x:(Int×Bool))=>(.exit 0,(mkE (s_0.append ((15,LL a46 p0)::((16,I (lenL p0))::((17,I x.1)::[(18,B x.2)])))) [] 32))) (fun(x:Unit)=>(.ret,(mkE [(6,B false)] [] 32))))) (fun y4a=>?_) (fun y4b=>?_)
  ·exact pH (zP (zF 0 10 (mkE [(6,B true)] [] 32)))
  ·exact pL
theorem F53(m:Nat)(hm:3≤m)(p0:(List S46))(p1:(List S46)):callA Tryz.prog cfg m 53 [LL a46 p0,LL a46 p1,.fn 54 []]=(T53 p0 p1).map B:=by
 obtain⟨q,rfl⟩:=sucK hm
 exact(callA_body (fn:=Tryz.f53) (c:=body_ Tryz.f53) q _ (by kernel_rfl) (by kernel_rfl) (by kernel_rfl)).trans (B53 _ (fun p0 p1=>F54 q (by omega) p0 p1) p0 p1)
noncomputable def T19(p0:(List S46))(p1:(List S46)):Option Bool:=((T53 p0 p1).bind fun x1=>(some x1))
theorem B19(C:Callee)(h53:∀(p0:(List S46))(p1:(List S46)),C 53 [LL a46 p0,LL a46 p1,.fn 54 []]=(T53 p0 p1).map B)(p0:(List S46))(p1:(List S46)):rB C 19 Tryz.f19 (frame0 [LL a46 p0,LL a46 p1] 8 false) ((T19 p0 p1).map B):=by
 unfold T19
 refine zS 1 0 (mkE [(0,LL a46 p0),(1,LL a46 p1)] [] 8) (zR 0 1 (sg 2 (mkE [(6,LL a46 p1),(5,LL a46 p0),(0,LL a46 p0),(1,LL a46 p1)] [] 8) (co 7 [] (h53 p0 p1) (fun x1=>?_))))
 exact zE (mkE [(4,B x1)] [] 8)
theorem F19(m:Nat)(hm:4≤m)(p0:(List S46))(p1:(List S46)):callA Tryz.prog cfg m 19 [LL a46 p0,LL a46 p1]=(T19 p0 p1).map B:=by
 obtain⟨q,rfl⟩:=sucK hm
 exact(callA_body (fn:=Tryz.f19) (c:=body_ Tryz.f19) q _ (by kernel_rfl) (by kernel_rfl) (by kernel_rfl)).trans (B19 _ (fun p0 p1=>F53 q (by omega) p0 p1) p0 p1)
noncomputable def L22_4(p0:(List S32))(p1:(List S32))(z0:Int):Option (Int⊕((Int×Bool)⊕Unit)):=(bif (ltI z0 (lenL p0))then((listAt p0 z0).bind fun x1=>((listAt p1 z0).bind fun x2=>(bif (!allB [eqB x1.f0 x2.f0,eqI x1.f1 x2.f1,eqI x1.f2 x2.f2])then(some (.inr (.inr ())))else(some (.inl (addI .i64 z0 1))))))else(some (.inr (.inl (z0,(ltI z0 (lenL p0)))))))
theorem L22_4_ok(C:Callee)(p0:(List S32))(p1:(List S32))(z0:Int):rL C 22 Tryz.f22 4 [false,false,true,false,true,true] (fun z0:Int=>(mkE [(0,LL a32 p0),(1,LL a32 p1),(12,I (lenL p0)),(13,I z0)] [] 26)) (Sum.elim (fun(x:(Int×Bool))=>(.exit 0,(mkE [(0,LL a32 p0),(1,LL a32 p1),(12,I (lenL p0)),(13,I x.1),(14,B x.2)] [] 26))) (fun(x:Unit)=>(.ret,(mkE [(4,B false)] [] 26)))) (L22_4 p0 p1 z0) z0:=by
 unfold L22_4
 let s_0:List (Nat×AV):=[(0,LL a32 p0),(1,LL a32 p1),(5,I z0),(12,I (lenL p0)),(13,I z0)]
 refine zS 0 4 (mkE [(0,LL a32 p0),(1,LL a32 p1),(12,I (lenL p0)),(13,I z0),(14,B (ltI z0 (lenL p0)))] [] 26) (gS 5 (gC 14 (ltI z0 (lenL p0)) ?_ ?_))
 ·refine gK (zP (gS 8 (gB 1 (zS 6 5 (mkE s_0 [] 26) (gS 0 (gD 6 9 (rg Tryz.f22 6) [0,1,2,3,4,5,6,7,8] (dg 2 [(some 16,qe (LL a32 p0)),(some 17,qe (I z0))] (dv 18 (mkE ((17,I z0)::((16,LL a32 p0)::s_0)) [] 26) (addrE 28 33 3 a32 .i64 p0 z0) (fun x1=>?_)))))))))
  refine dg 6 [(some 16,qe (LL a32 p0)),(some 17,qe (I z0)),(some 18,qe (.ia [S x1.f0,I x1.f1,I x1.f2] 0)),(some 19,qe (a32 x1)),(some 20,qe (LL a32 p1)),(some 21,qe (I z0))] (dv 22 (mkE ((21,I z0)::((20,LL a32 p1)::s_0)) [] 26) (addrE 28 33 3 a32 .i64 p1 z0) (fun x2=>?_))
  refine dg 8 [(some 16,qe (LL a32 p0)),(some 17,qe (I z0)),(some 18,qe (.ia [S x1.f0,I x1.f1,I x1.f2] 0)),(some 19,qe (a32 x1)),(some 20,qe (LL a32 p1)),(some 21,qe (I z0)),(some 22,qe (.ia [S x2.f0,I x2.f1,I x2.f2] 0)),(some 23,qe (a32 x2))] (df 24 (B (!allB [eqB x1.f0 x2.f0,eqI x1.f1 x2.f1,eqI x1.f2 x2.f2])) (mkE ((23,a32 x2)::((22,.ia [S x2.f0,I x2.f1,I x2.f2] 0)::((21,I z0)::((20,LL a32 p1)::((19,a32 x1)::((18,.ia [S x1.f0,I x1.f1,I x1.f2] 0)::((17,I z0)::((16,LL a32 p0)::s_0)))))))) [] 26) (neqE 33 (.tmp 19) (.tmp 23) [S x1.f0,I x1.f1,I x1.f2] [S x2.f0,I x2.f1,I x2.f2] [.string x1.f0,.int .i64 x1.f1,.int .i64 x1.f2] [.string x2.f0,.int .i64 x2.f1,.int .i64 x2.f2] [eqB x1.f0 x2.f0,eqI x1.f1 x2.f1,eqI x1.f2 x2.f2]) (de (mkE ((24,B (!allB [eqB x1.f0 x2.f0,eqI x1.f1 x2.f1,eqI x1.f2 x2.f2]))::((23,a32 x2)::((22,.ia [S x2.f0,I x2.f1,I x2.f2] 0)::((21,I z0)::((20,LL a32 p1)::((19,a32 x1)::((18,.ia [S x1.f0,I x1.f1,I x1.f2] 0)::((17,I z0)::((16,LL a32 p0)::s_0))))))))) [] 26) (zN (mkE [(0,LL a32 p0),(1,LL a32 p1),(12,I (lenL p0)),(13,I z0),(24,B (!allB [eqB x1.f0 x2.f0,eqI x1.f1 x2.f1,eqI x1.f2 x2.f2]))] [] 26) (gC 24 (!allB [eqB x1.f0 x2.f0,eqI x1.f1 x2.f1,eqI x1.f2 x2.f2]) ?_ ?_))))
  ·exact zF 0 7 (mkE [(4,B false)] [] 26)
  ·exact gK (pB (zP (gR 8 (rg Tryz.f22 8) (se (mkE [(0,LL a32 p0),(1,LL a32 p1),(12,I (lenL p0)),(13,I (addI .i64 z0 1))] [] 26) (pL)))))
 ·exact gX 0 (pL)
noncomputable def T22(p0:(List S32))(p1:(List S32)):Option Bool:=(bif (neI (lenL p0) (lenL p1))then(some false)else((iter (L22_4 p0 p1) 0).bind fun y3=>(Sum.elim (fun y3a=>(some true)) (fun y3b=>(some false)) y3)))
theorem B22(C:Callee)(p0:(List S32))(p1:(List S32)):rB C 22 Tryz.f22 (frame0 [LL a32 p0,LL a32 p1] 26 false) ((T22 p0 p1).map B):=by
 unfold T22
 let s_0:List (Nat×AV):=[(0,LL a32 p0),(1,LL a32 p1)]
 refine zS 1 0 (mkE s_0 [] 26) (gS 3 (zR 0 1 (sg 1 (mkE ((6,LL a32 p0)::s_0) [] 26) (eo 7 (I (lenL p0)) (lenE 28 a32 p0) (sg 3 (mkE ((8,LL a32 p1)::((7,I (lenL p0))::((6,LL a32 p0)::s_0))) [] 26) (eo 9 (I (lenL p1)) (lenE 28 a32 p1) (zN (mkE (s_0.append [(10,B (neI (lenL p0) (lenL p1)))]) [] 26) (gC 10 (neI (lenL p0) (lenL p1)) ?_ ?_))))))))
 ·exact zF 0 2 (mkE [(4,B false)] [] 26)
 ·refine gK (zP (gS 9 (zR 4 3 (sg 1 (mkE ((11,LL a32 p0)::(s_0.append [(10,B (neI (lenL p0) (lenL p1)))])) [] 26) (eo 12 (I (lenL p0)) (lenE 28 a32 p0) (zN (mkE (s_0.append ((12,I (lenL p0))::[(13,I 0)])) [] 26) (gB 0 (lo [(0,none),(1,none),(12,none),(13,none)] [] (L22_4 p0 p1) (fun z0:Int=>(mkE (s_0.append ((12,I (lenL p0))::[(13,I z0)])) [] 26)) (Sum.elim (fun(x:(Int×Bool))=>(.exit 0,(mkE (s_0.append ((12,I (lenL p0))::((13,I x.1)::[(14,B x.2)]))) [] 26))) (fun(x:Unit)=>(.ret,(mkE [(4,B false)] [] 26)))) 0 (fun z=>L22_4_ok C p0 p1 z) ?_))))))))
  intro y3
  refine ss y3 (Z:=(Sum.elim (fun(x:(Int×Bool))=>(.exit 0,(mkE (s_0.append ((12,I (lenL p0))::((13,I x.1)::[(14,B x.2)]))) [] 26))) (fun(x:Unit)=>(.ret,(mkE [(4,B false)] [] 26))))) (fun y3a=>?_) (fun y3b=>?_)
  ·exact pH (zP (zF 0 9 (mkE [(4,B true)] [] 26)))
  ·exact pL
theorem F22(m:Nat)(hm:1≤m)(p0:(List S32))(p1:(List S32)):callA Tryz.prog cfg m 22 [LL a32 p0,LL a32 p1]=(T22 p0 p1).map B:=by
 obtain⟨q,rfl⟩:=sucK hm
 exact(callA_body (fn:=Tryz.f22) (c:=body_ Tryz.f22) q _ (by kernel_rfl) (by kernel_rfl) (by kernel_rfl)).trans (B22 _ p0 p1)
noncomputable def T5(p0:(List S46))(p1:S57)(p2:(List S32)):Option Bool:=((T17 p0).bind fun x1=>((appO 32 ([]:List S32) p2).bind fun x2=>((T21 p0 p1 p2).bind fun x3=>(bif x3 then((T19 p0 x1).bind fun x4=>(bif x4 then((T22 p2 x2).bind fun x5=>(some x5))else(some false)))else(some false)))))
theorem B5(C:Callee)(h17:∀(p0:(List S46)),C 17 [LL a46 p0]=(T17 p0).map (fun l=>AV.fr 47 9 (List.map a46 l)))(h19:∀(p0:(List S46))(p1:(List S46)),C 19 [LL a46 p0,LL a46 p1]=(T19 p0 p1).map B)(h20:∀(p0:(List S32)),C 20 [LL a32 p0]=(appO 32 ([]:List S32) p0).map (fun l=>AV.fr 33 3 (List.map a32 l)))(h21:∀(p0:(List S46))(p1:S57)(p2:(List S32)),C 21 [LL a46 p0,a57 p1,LL a32 p2]=(T21 p0 p1 p2).map B)(h22:∀(p0:(List S32))(p1:(List S32)),C 22 [LL a32 p0,LL a32 p1]=(T22 p0 p1).map B)(p0:(List S46))(p1:S57)(p2:(List S32)):rB C 5 Tryz.f5 (frame0 [LL a46 p0,a57 p1,LL a32 p2] 27 false) ((T5 p0 p1 p2).map B):=by
 unfold T5
 let s_0:List (Nat×AV):=[(15,LL a32 p2),(14,a57 p1),(13,LL a46 p0),(0,LL a46 p0),(2,LL a32 p2),(4,.ba 32 0),(7,.own 80 0),(8,.own 96 0)]
 let o_0:List (Nat×AObj):=[(32,.box [I p1.f0,I p1.f1] false)]
 refine zS 1 0 (mkE [(0,LL a46 p0),(2,LL a32 p2),(4,.ba 32 0)] o_0 27) (zR 2 1 (sg 1 (mkE [(9,LL a46 p0),(0,LL a46 p0),(2,LL a32 p2),(4,.ba 32 0)] o_0 27) (co 10 [] (h17 p0) (fun x1=>?_))))
 refine sg 3 (mkE [(11,LL a32 p2),(10,.own 80 0),(9,LL a46 p0),(0,LL a46 p0),(2,LL a32 p2),(4,.ba 32 0)] ((80,RR 47 9 a46 x1 0 false)::o_0) 27) (co 12 [] (h20 p2) (fun x2=>?_))
 refine zN (mkE [(0,LL a46 p0),(2,LL a32 p2),(4,.ba 32 0),(7,.own 80 0),(8,.own 96 0)] (o_0.append ((80,RR 47 9 a46 x1 0 false)::[(96,RR 33 3 a32 x2 0 false)])) 27) (zR 0 2 (sg 3 (mkE s_0 (o_0.append ((80,RR 47 9 a46 x1 0 false)::[(96,RR 33 3 a32 x2 0 false)])) 27) (co 16 [] (h21 p0 p1 p2) (fun x3=>?_))))
 refine sg 5 (mkE ((17,B x3)::((16,B x3)::s_0)) (o_0.append ((80,RR 47 9 a46 x1 0 false)::[(96,RR 33 3 a32 x2 0 false)])) 27) (sb 17 x3 ?_ ?_)
 ·refine sg 7 (mkE ((19,.own 80 0)::((18,LL a46 p0)::((17,B true)::((17,B x3)::((16,B x3)::s_0))))) (o_0.append ((80,RR 47 9 a46 x1 0 false)::[(96,RR 33 3 a32 x2 0 false)])) 27) (co 20 [80] (h19 p0 x1) (fun x4=>?_))
  refine sg 10 (mkE ((22,B x4)::((21,B x4)::((20,B x4)::((19,.own 80 0)::((18,LL a46 p0)::((17,B true)::((17,B x3)::((16,B x3)::s_0)))))))) (o_0.append ((80,RR 47 9 a46 x1 0 false)::[(96,RR 33 3 a32 x2 0 false)])) 27) (sb 22 x4 ?_ ?_)
  ·refine sg 12 (mkE ((24,.own 96 0)::((23,LL a32 p2)::((22,B true)::((22,B x4)::((21,B x4)::((20,B x4)::((19,.own 80 0)::((18,LL a46 p0)::((17,B true)::((17,B x3)::((16,B x3)::s_0))))))))))) (o_0.append ((80,RR 47 9 a46 x1 0 false)::[(96,RR 33 3 a32 x2 0 false)])) 27) (co 25 [96] (h22 p2 x2) (fun x5=>?_))
   exact zE (mkE [(6,B x5)] [] 27)
  ·exact zE (mkE [(6,B false)] [] 27)
 ·exact zE (mkE [(6,B false)] [] 27)
theorem F5(m:Nat)(hm:23≤m)(p0:(List S46))(p1:S57)(p2:(List S32)):callA Tryz.prog cfg m 5 [LL a46 p0,a57 p1,LL a32 p2]=(T5 p0 p1 p2).map B:=by
 obtain⟨q,rfl⟩:=sucK hm
 exact(callA_body (fn:=Tryz.f5) (c:=body_ Tryz.f5) q _ (by kernel_rfl) (by kernel_rfl) (by kernel_rfl)).trans (B5 _ (fun p0=>F17 q (by omega) p0) (fun p0 p1=>F19 q (by omega) p0 p1) (fun p0=>F20 q (by omega) p0) (fun p0 p1 p2=>F21 q (by omega) p0 p1 p2) (fun p0 p1=>F22 q (by omega) p0 p1) p0 p1 p2)
end Go.Abs.TUB
