import Derived.Test.YtpnddbpcioepnaaGreatDoorDTUDp1
set_option maxRecDepth 100000
set_option linter.unusedVariables false
namespace Go.Abs.TUD
open Go.RowKit Go.Proofs Go.Abs
noncomputable def L140_4(p0:S46)(z0:Int):Option (Int⊕((Int×Bool)⊕Int)):=(bif (ltI z0 (lenL p0.f3))then((listAt p0.f3 z0).bind fun x1=>((T108 x1).bind fun x2=>(bif (!x2)then(some (.inr (.inr 5)))else(bif (ltI 0 z0)then((listAt p0.f3 (subI .i64 z0 1)).bind fun x3=>(bif (ltS x1 x3||eqS x1 x3)then(some (.inr (.inr 7)))else(bif (eqS x1 p0.f0)then(some (.inr (.inr 14)))else(some (.inl (addI .i64 z0 1))))))else(bif (eqS x1 p0.f0)then(some (.inr (.inr 14)))else(some (.inl (addI .i64 z0 1))))))))else(some (.inr (.inl (z0,(ltI z0 (lenL p0.f3)))))))
abbrev H108(C:Callee):Prop:=∀(p0:ByteArray),C 108 [S p0]=(T108 p0).map B
theorem L140_4_ok(C:Callee)(h108:H108 C)(p0:S46)(z0:Int):rL C 140 Tryz.f140 4 [false,false,true,false,true,true] (fun z0:Int=>(mkE [(1,.ba 8 0),(10,LL S p0.f3),(11,I (lenL p0.f3)),(12,I z0)] [(8,.box [S p0.f0,S p0.f1,I p0.f2,LL S p0.f3,I p0.f4,I p0.f5,I p0.f6,LL a64 p0.f7,S p0.f8] false)] 48)) (Sum.elim (fun(x:(Int×Bool))=>(.exit 0,(mkE [(1,.ba 8 0),(10,LL S p0.f3),(11,I (lenL p0.f3)),(12,I x.1),(13,B x.2)] [(8,.box [S p0.f0,S p0.f1,I p0.f2,LL S p0.f3,I p0.f4,I p0.f5,I p0.f6,LL a64 p0.f7,S p0.f8] false)] 48))) (fun(x:Int)=>(.ret,(mkE [(2,I x)] [] 48)))) (L140_4 p0 z0) z0:=by
 unfold L140_4
 let s_0:List (Nat×AV):=[(10,LL S p0.f3),(11,I (lenL p0.f3)),(12,I z0)]
 let o_0:List (Nat×AObj):=[(8,.box [S p0.f0,S p0.f1,I p0.f2,LL S p0.f3,I p0.f4,I p0.f5,I p0.f6,LL a64 p0.f7,S p0.f8] false)]
 refine zS 0 4 (mkE ((1,.ba 8 0)::(s_0.append [(13,B (ltI z0 (lenL p0.f3)))])) o_0 48) (gS 5 (gC 13 (ltI z0 (lenL p0.f3)) ?_ ?_))
 ·refine gK (zP (gS 12 (gB 1 (zR 6 5 (sg 1 (mkE ((14,I z0)::((1,.ba 8 0)::(s_0.append [(13,B (ltI z0 (lenL p0.f3)))]))) o_0 48) (vo 15 (addrE 34 9 1 S .i64 p0.f3 z0) (fun x1=>?_)))))))
  refine zN (mkE ((1,.ba 8 0)::((3,I z0)::((4,S x1)::s_0))) o_0 48) (gB 2 (zR 0 6 (sg 1 (mkE ((18,S x1)::((1,.ba 8 0)::((3,I z0)::((4,S x1)::s_0)))) o_0 48) (co 19 [] (h108 x1) (fun x2=>?_)))))
  refine zN (mkE ((1,.ba 8 0)::((3,I z0)::((4,S x1)::(s_0.append [(17,B (!x2))])))) o_0 48) (gC 17 (!x2) ?_ ?_)
  ·exact zF 0 7 (mkE [(2,I 5)] [] 48)
  ·refine zR 0 8 (sg 3 (mkE ((24,B (ltI 0 z0))::((23,B (ltI 0 z0))::((22,I z0)::((1,.ba 8 0)::((3,I z0)::((4,S x1)::(s_0.append [(17,B (!x2))]))))))) o_0 48) (sb 24 (ltI 0 z0) ?_ ?_))
   ·refine sg 8 (mkE ((29,I (subI .i64 z0 1))::((28,I z0)::((27,LL S p0.f3)::((26,.ba 8 3)::((25,S x1)::((24,B true)::((24,B (ltI 0 z0))::((23,B (ltI 0 z0))::((22,I z0)::((1,.ba 8 0)::((3,I z0)::((4,S x1)::(s_0.append [(17,B (!x2))]))))))))))))) o_0 48) (vo 30 (addrE 34 9 1 S .i64 p0.f3 (subI .i64 z0 1)) (fun x3=>?_))
    refine zN (mkE ((1,.ba 8 0)::((4,S x1)::(s_0.append [(21,B (ltS x1 x3||eqS x1 x3))]))) o_0 48) (gC 21 (ltS x1 x3||eqS x1 x3) ?_ ?_)
    ·exact zF 0 9 (mkE [(2,I 7)] [] 48)
    ·refine zS 0 10 (mkE ((1,.ba 8 0)::(s_0.append [(34,B (eqS x1 p0.f0))])) o_0 48) (gC 34 (eqS x1 p0.f0) ?_ ?_)
     ·exact zF 0 11 (mkE [(2,I 14)] [] 48)
     ·exact gK (pB (pB (zP (gR 12 (rg Tryz.f140 12) (se (mkE [(1,.ba 8 0),(10,LL S p0.f3),(11,I (lenL p0.f3)),(12,I (addI .i64 z0 1))] o_0 48) (pL))))))
   ·refine zN (mkE ((1,.ba 8 0)::((4,S x1)::(s_0.append [(21,B false)]))) o_0 48) (gF (.tmp 21) (zS 0 10 (mkE ((1,.ba 8 0)::(s_0.append [(34,B (eqS x1 p0.f0))])) o_0 48) (gC 34 (eqS x1 p0.f0) ?_ ?_)))
    ·exact zF 0 11 (mkE [(2,I 14)] [] 48)
    ·exact gK (pB (pB (zP (gR 12 (rg Tryz.f140 12) (se (mkE [(1,.ba 8 0),(10,LL S p0.f3),(11,I (lenL p0.f3)),(12,I (addI .i64 z0 1))] o_0 48) (pL))))))
 ·exact gX 0 (pL)
noncomputable def T140(p0:S46):Option Int:=(bif (ltI 20 (lenL p0.f3))then(some 2)else((iter (L140_4 p0) 0).bind fun y4=>(Sum.elim (fun y4a=>(bif ((eqI p0.f2 1) != (eqI (lenL p0.f3) 0))then(some 3)else(some 0))) (fun y4b=>(some y4b)) y4)))
theorem B140(C:Callee)(h108:H108 C)(p0:S46):rB C 140 Tryz.f140 (frame0 [a46 p0] 48 false) ((T140 p0).map I):=by
 unfold T140
 let s_0:List (Nat×AV):=[(1,.ba 8 0),(10,LL S p0.f3),(11,I (lenL p0.f3))]
 let o_0:List (Nat×AObj):=[(8,.box [S p0.f0,S p0.f1,I p0.f2,LL S p0.f3,I p0.f4,I p0.f5,I p0.f6,LL a64 p0.f7,S p0.f8] false)]
 refine zS 1 0 (mkE [(1,.ba 8 0)] o_0 48) (gS 3 (zR 0 1 (sg 2 (mkE [(6,LL S p0.f3),(5,.ba 8 3),(1,.ba 8 0)] o_0 48) (eo 7 (I (lenL p0.f3)) (lenE 34 S p0.f3) (zN (mkE [(1,.ba 8 0),(8,B (ltI 20 (lenL p0.f3)))] o_0 48) (gC 8 (ltI 20 (lenL p0.f3)) ?_ ?_))))))
 ·exact zF 0 2 (mkE [(2,I 2)] [] 48)
 ·refine gK (zP (gS 13 (zR 4 3 (sg 2 (mkE [(10,LL S p0.f3),(9,.ba 8 3),(1,.ba 8 0),(8,B (ltI 20 (lenL p0.f3)))] o_0 48) (eo 11 (I (lenL p0.f3)) (lenE 34 S p0.f3) (zN (mkE (s_0.append [(12,I 0)]) o_0 48) (gB 0 (lo [(1,none),(10,none),(11,none),(12,none)] [] (L140_4 p0) (fun z0:Int=>(mkE (s_0.append [(12,I z0)]) o_0 48)) (Sum.elim (fun(x:(Int×Bool))=>(.exit 0,(mkE (s_0.append ((12,I x.1)::[(13,B x.2)])) o_0 48))) (fun(x:Int)=>(.ret,(mkE [(2,I x)] [] 48)))) 0 (fun z=>L140_4_ok C h108 p0 z) ?_))))))))
  intro y4
  refine ss y4 (Z:=(Sum.elim (fun(x:(Int×Bool))=>(.exit 0,(mkE (s_0.append ((12,I x.1)::[(13,B x.2)])) o_0 48))) (fun(x:Int)=>(.ret,(mkE [(2,I x)] [] 48))))) (fun y4a=>?_) (fun y4b=>?_)
  ·refine pH (zP (gS 15 (zR 0 13 (sg 5 (mkE ((44,LL S p0.f3)::((43,.ba 8 3)::((42,B (eqI p0.f2 1))::((41,I p0.f2)::((40,.ba 8 2)::(s_0.append ((12,I y4a.1)::[(13,B y4a.2)]))))))) o_0 48) (eo 45 (I (lenL p0.f3)) (lenE 34 S p0.f3) (zN (mkE [(47,B ((eqI p0.f2 1) != (eqI (lenL p0.f3) 0)))] [] 48) (gC 47 ((eqI p0.f2 1) != (eqI (lenL p0.f3) 0)) ?_ ?_)))))))
   ·exact zF 0 14 (mkE [(2,I 3)] [] 48)
   ·exact gK (zP (zF 0 15 (mkE [(2,I 0)] [] 48)))
  ·exact pL
theorem F140(m:Nat)(hm:2≤m)(p0:S46):callA Tryz.prog cfg m 140 [a46 p0]=(T140 p0).map I:=by
 obtain⟨q,rfl⟩:=sucK hm
 exact(callA_body (fn:=Tryz.f140) (c:=body_ Tryz.f140) q _ (by kernel_rfl) (by kernel_rfl) (by kernel_rfl)).trans (B140 _ (fun p0=>F108 q (by omega) p0) p0)
noncomputable def T31(p0:Int):Option Bool:=(bif (leI 0 p0)then(some (ltI p0 345686400000))else(some false))
theorem B31(C:Callee)(p0:Int):rB C 31 Tryz.f31 (frame0 [I p0] 9 false) ((T31 p0).map B):=by
 unfold T31
 refine zS 1 0 (mkE [(0,I p0)] [] 9) (zR 0 1 (sg 3 (mkE [(5,B (leI 0 p0)),(4,B (leI 0 p0)),(3,I p0),(0,I p0)] [] 9) (sb 5 (leI 0 p0) ?_ ?_)))
 ·exact zE (mkE [(2,B (ltI p0 345686400000))] [] 9)
 ·exact zE (mkE [(2,B false)] [] 9)
theorem F31(m:Nat)(hm:1≤m)(p0:Int):callA Tryz.prog cfg m 31 [I p0]=(T31 p0).map B:=by
 obtain⟨q,rfl⟩:=sucK hm
 exact(callA_body (fn:=Tryz.f31) (c:=body_ Tryz.f31) q _ (by kernel_rfl) (by kernel_rfl) (by kernel_rfl)).trans (B31 _ p0)
noncomputable def T190(p0:ByteArray):Option Int:=((byteAt p0 0).bind fun x1=>((byteAt p0 1).bind fun x2=>((byteAt p0 2).bind fun x3=>((byteAt p0 3).bind fun x4=>((byteAt p0 4).bind fun x5=>((byteAt p0 5).bind fun x6=>((byteAt p0 6).bind fun x7=>((byteAt p0 7).bind fun x8=>(some (bitI .or .u64 (bitI .or .u64 (bitI .or .u64 (bitI .or .u64 (bitI .or .u64 (bitI .or .u64 (bitI .or .u64 (cvI .u64 x1) (shlI .u64 (cvI .u64 x2) 8)) (shlI .u64 (cvI .u64 x3) 16)) (shlI .u64 (cvI .u64 x4) 24)) (shlI .u64 (cvI .u64 x5) 32)) (shlI .u64 (cvI .u64 x6) 40)) (shlI .u64 (cvI .u64 x7) 48)) (shlI .u64 (cvI .u64 x8) 56)))))))))))
set_option maxHeartbeats 4000000 in
theorem B190(C:Callee)(p0:ByteArray):rB C 190 Tryz.f190 (frame0 [S p0] 59 false) ((T190 p0).map (AV.int .u64)):=by
 unfold T190
 refine zS 0 0 (mkE [(0,S p0)] [] 59) (gS 2 (gF (.const (.bool false)) (gK (zP (gS 0 (gD 2 39 (rg Tryz.f190 2) [0,1,2,3,4,5,6,7,8,9,10,11,12,13,14,15,16,17,18,19,20,21,22,23,24,25,26,27,28,29,30,31,32,33,34,35,36,37,38] (dg 1 [(some 21,qe (S p0))] (dv 22 (mkE [(21,S p0),(0,S p0)] [] 59) (byteE 9 .i64 p0 0) (fun x1=>?_)))))))))
 refine dg 4 [(some 21,qe (S p0)),(some 22,qe (U x1)),(some 23,qe (.int .u64 (cvI .u64 x1))),(some 24,qe (S p0))] (dv 25 (mkE [(24,S p0),(0,S p0)] [] 59) (byteE 9 .i64 p0 1) (fun x2=>?_))
 refine dg 9 [(some 21,qe (S p0)),(some 22,qe (U x1)),(some 23,qe (.int .u64 (cvI .u64 x1))),(some 24,qe (S p0)),(some 25,qe (U x2)),(some 26,qe (.int .u64 (cvI .u64 x2))),(some 27,qe (.int .u64 (shlI .u64 (cvI .u64 x2) 8))),(some 28,qe (.int .u64 (bitI .or .u64 (cvI .u64 x1) (shlI .u64 (cvI .u64 x2) 8)))),(some 29,qe (S p0))] (dv 30 (mkE [(29,S p0),(0,S p0)] [] 59) (byteE 9 .i64 p0 2) (fun x3=>?_))
 refine dg 14 [(some 21,qe (S p0)),(some 22,qe (U x1)),(some 23,qe (.int .u64 (cvI .u64 x1))),(some 24,qe (S p0)),(some 25,qe (U x2)),(some 26,qe (.int .u64 (cvI .u64 x2))),(some 27,qe (.int .u64 (shlI .u64 (cvI .u64 x2) 8))),(some 28,qe (.int .u64 (bitI .or .u64 (cvI .u64 x1) (shlI .u64 (cvI .u64 x2) 8)))),(some 29,qe (S p0)),(some 30,qe (U x3)),(some 31,qe (.int .u64 (cvI .u64 x3))),(some 32,qe (.int .u64 (shlI .u64 (cvI .u64 x3) 16))),(some 33,qe (.int .u64 (bitI .or .u64 (bitI .or .u64 (cvI .u64 x1) (shlI .u64 (cvI .u64 x2) 8)) (shlI .u64 (cvI .u64 x3) 16)))),(some 34,qe (S p0))] (dv 35 (mkE [(34,S p0),(0,S p0)] [] 59) (byteE 9 .i64 p0 3) (fun x4=>?_))
 refine dg 19 [(some 21,qe (S p0)),(some 22,qe (U x1)),(some 23,qe (.int .u64 (cvI .u64 x1))),(some 24,qe (S p0)),(some 25,qe (U x2)),(some 26,qe (.int .u64 (cvI .u64 x2))),(some 27,qe (.int .u64 (shlI .u64 (cvI .u64 x2) 8))),(some 28,qe (.int .u64 (bitI .or .u64 (cvI .u64 x1) (shlI .u64 (cvI .u64 x2) 8)))),(some 29,qe (S p0)),(some 30,qe (U x3)),(some 31,qe (.int .u64 (cvI .u64 x3))),(some 32,qe (.int .u64 (shlI .u64 (cvI .u64 x3) 16))),(some 33,qe (.int .u64 (bitI .or .u64 (bitI .or .u64 (cvI .u64 x1) (shlI .u64 (cvI .u64 x2) 8)) (shlI .u64 (cvI .u64 x3) 16)))),(some 34,qe (S p0)),(some 35,qe (U x4)),(some 36,qe (.int .u64 (cvI .u64 x4))),(some 37,qe (.int .u64 (shlI .u64 (cvI .u64 x4) 24))),(some 38,qe (.int .u64 (bitI .or .u64 (bitI .or .u64 (bitI .or .u64 (cvI .u64 x1) (shlI .u64 (cvI .u64 x2) 8)) (shlI .u64 (cvI .u64 x3) 16)) (shlI .u64 (cvI .u64 x4) 24)))),(some 39,qe (S p0))] (dv 40 (mkE [(39,S p0),(0,S p0)] [] 59) (byteE 9 .i64 p0 4) (fun x5=>?_))
 refine dg 24 [(some 21,qe (S p0)),(some 22,qe (U x1)),(some 23,qe (.int .u64 (cvI .u64 x1))),(some 24,qe (S p0)),(some 25,qe (U x2)),(some 26,qe (.int .u64 (cvI .u64 x2))),(some 27,qe (.int .u64 (shlI .u64 (cvI .u64 x2) 8))),(some 28,qe (.int .u64 (bitI .or .u64 (cvI .u64 x1) (shlI .u64 (cvI .u64 x2) 8)))),(some 29,qe (S p0)),(some 30,qe (U x3)),(some 31,qe (.int .u64 (cvI .u64 x3))),(some 32,qe (.int .u64 (shlI .u64 (cvI .u64 x3) 16))),(some 33,qe (.int .u64 (bitI .or .u64 (bitI .or .u64 (cvI .u64 x1) (shlI .u64 (cvI .u64 x2) 8)) (shlI .u64 (cvI .u64 x3) 16)))),(some 34,qe (S p0)),(some 35,qe (U x4)),(some 36,qe (.int .u64 (cvI .u64 x4))),(some 37,qe (.int .u64 (shlI .u64 (cvI .u64 x4) 24))),(some 38,qe (.int .u64 (bitI .or .u64 (bitI .or .u64 (bitI .or .u64 (cvI .u64 x1) (shlI .u64 (cvI .u64 x2) 8)) (shlI .u64 (cvI .u64 x3) 16)) (shlI .u64 (cvI .u64 x4) 24)))),(some 39,qe (S p0)),(some 40,qe (U x5)),(some 41,qe (.int .u64 (cvI .u64 x5))),(some 42,qe (.int .u64 (shlI .u64 (cvI .u64 x5) 32))),(some 43,qe (.int .u64 (bitI .or .u64 (bitI .or .u64 (bitI .or .u64 (bitI .or .u64 (cvI .u64 x1) (shlI .u64 (cvI .u64 x2) 8)) (shlI .u64 (cvI .u64 x3) 16)) (shlI .u64 (cvI .u64 x4) 24)) (shlI .u64 (cvI .u64 x5) 32)))),(some 44,qe (S p0))] (dv 45 (mkE [(44,S p0),(0,S p0)] [] 59) (byteE 9 .i64 p0 5) (fun x6=>?_))
 refine dg 29 [(some 21,qe (S p0)),(some 22,qe (U x1)),(some 23,qe (.int .u64 (cvI .u64 x1))),(some 24,qe (S p0)),(some 25,qe (U x2)),(some 26,qe (.int .u64 (cvI .u64 x2))),(some 27,qe (.int .u64 (shlI .u64 (cvI .u64 x2) 8))),(some 28,qe (.int .u64 (bitI .or .u64 (cvI .u64 x1) (shlI .u64 (cvI .u64 x2) 8)))),(some 29,qe (S p0)),(some 30,qe (U x3)),(some 31,qe (.int .u64 (cvI .u64 x3))),(some 32,qe (.int .u64 (shlI .u64 (cvI .u64 x3) 16))),(some 33,qe (.int .u64 (bitI .or .u64 (bitI .or .u64 (cvI .u64 x1) (shlI .u64 (cvI .u64 x2) 8)) (shlI .u64 (cvI .u64 x3) 16)))),(some 34,qe (S p0)),(some 35,qe (U x4)),(some 36,qe (.int .u64 (cvI .u64 x4))),(some 37,qe (.int .u64 (shlI .u64 (cvI .u64 x4) 24))),(some 38,qe (.int .u64 (bitI .or .u64 (bitI .or .u64 (bitI .or .u64 (cvI .u64 x1) (shlI .u64 (cvI .u64 x2) 8)) (shlI .u64 (cvI .u64 x3) 16)) (shlI .u64 (cvI .u64 x4) 24)))),(some 39,qe (S p0)),(some 40,qe (U x5)),(some 41,qe (.int .u64 (cvI .u64 x5))),(some 42,qe (.int .u64 (shlI .u64 (cvI .u64 x5) 32))),(some 43,qe (.int .u64 (bitI .or .u64 (bitI .or .u64 (bitI .or .u64 (bitI .or .u64 (cvI .u64 x1) (shlI .u64 (cvI .u64 x2) 8)) (shlI .u64 (cvI .u64 x3) 16)) (shlI .u64 (cvI .u64 x4) 24)) (shlI .u64 (cvI .u64 x5) 32)))),(some 44,qe (S p0)),(some 45,qe (U x6)),(some 46,qe (.int .u64 (cvI .u64 x6))),(some 47,qe (.int .u64 (shlI .u64 (cvI .u64 x6) 40))),(some 48,qe (.int .u64 (bitI .or .u64 (bitI .or .u64 (bitI .or .u64 (bitI .or .u64 (bitI .or .u64 (cvI .u64 x1) (shlI .u64 (cvI .u64 x2) 8)) (shlI .u64 (cvI .u64 x3) 16)) (shlI .u64 (cvI .u64 x4) 24)) (shlI .u64 (cvI .u64 x5) 32)) (shlI .u64 (cvI .u64 x6) 40)))),(some 49,qe (S p0))] (dv 50 (mkE [(49,S p0),(0,S p0)] [] 59) (byteE 9 .i64 p0 6) (fun x7=>?_))
 refine dg 34 [(some 21,qe (S p0)),(some 22,qe (U x1)),(some 23,qe (.int .u64 (cvI .u64 x1))),(some 24,qe (S p0)),(some 25,qe (U x2)),(some 26,qe (.int .u64 (cvI .u64 x2))),(some 27,qe (.int .u64 (shlI .u64 (cvI .u64 x2) 8))),(some 28,qe (.int .u64 (bitI .or .u64 (cvI .u64 x1) (shlI .u64 (cvI .u64 x2) 8)))),(some 29,qe (S p0)),(some 30,qe (U x3)),(some 31,qe (.int .u64 (cvI .u64 x3))),(some 32,qe (.int .u64 (shlI .u64 (cvI .u64 x3) 16))),(some 33,qe (.int .u64 (bitI .or .u64 (bitI .or .u64 (cvI .u64 x1) (shlI .u64 (cvI .u64 x2) 8)) (shlI .u64 (cvI .u64 x3) 16)))),(some 34,qe (S p0)),(some 35,qe (U x4)),(some 36,qe (.int .u64 (cvI .u64 x4))),(some 37,qe (.int .u64 (shlI .u64 (cvI .u64 x4) 24))),(some 38,qe (.int .u64 (bitI .or .u64 (bitI .or .u64 (bitI .or .u64 (cvI .u64 x1) (shlI .u64 (cvI .u64 x2) 8)) (shlI .u64 (cvI .u64 x3) 16)) (shlI .u64 (cvI .u64 x4) 24)))),(some 39,qe (S p0)),(some 40,qe (U x5)),(some 41,qe (.int .u64 (cvI .u64 x5))),(some 42,qe (.int .u64 (shlI .u64 (cvI .u64 x5) 32))),(some 43,qe (.int .u64 (bitI .or .u64 (bitI .or .u64 (bitI .or .u64 (bitI .or .u64 (cvI .u64 x1) (shlI .u64 (cvI .u64 x2) 8)) (shlI .u64 (cvI .u64 x3) 16)) (shlI .u64 (cvI .u64 x4) 24)) (shlI .u64 (cvI .u64 x5) 32)))),(some 44,qe (S p0)),(some 45,qe (U x6)),(some 46,qe (.int .u64 (cvI .u64 x6))),(some 47,qe (.int .u64 (shlI .u64 (cvI .u64 x6) 40))),(some 48,qe (.int .u64 (bitI .or .u64 (bitI .or .u64 (bitI .or .u64 (bitI .or .u64 (bitI .or .u64 (cvI .u64 x1) (shlI .u64 (cvI .u64 x2) 8)) (shlI .u64 (cvI .u64 x3) 16)) (shlI .u64 (cvI .u64 x4) 24)) (shlI .u64 (cvI .u64 x5) 32)) (shlI .u64 (cvI .u64 x6) 40)))),(some 49,qe (S p0)),(some 50,qe (U x7)),(some 51,qe (.int .u64 (cvI .u64 x7))),(some 52,qe (.int .u64 (shlI .u64 (cvI .u64 x7) 48))),(some 53,qe (.int .u64 (bitI .or .u64 (bitI .or .u64 (bitI .or .u64 (bitI .or .u64 (bitI .or .u64 (bitI .or .u64 (cvI .u64 x1) (shlI .u64 (cvI .u64 x2) 8)) (shlI .u64 (cvI .u64 x3) 16)) (shlI .u64 (cvI .u64 x4) 24)) (shlI .u64 (cvI .u64 x5) 32)) (shlI .u64 (cvI .u64 x6) 40)) (shlI .u64 (cvI .u64 x7) 48)))),(some 54,qe (S p0))] (dv 55 (mkE [(54,S p0),(0,S p0)] [] 59) (byteE 9 .i64 p0 7) (fun x8=>?_))
 exact dg 39 [(some 21,qe (S p0)),(some 22,qe (U x1)),(some 23,qe (.int .u64 (cvI .u64 x1))),(some 24,qe (S p0)),(some 25,qe (U x2)),(some 26,qe (.int .u64 (cvI .u64 x2))),(some 27,qe (.int .u64 (shlI .u64 (cvI .u64 x2) 8))),(some 28,qe (.int .u64 (bitI .or .u64 (cvI .u64 x1) (shlI .u64 (cvI .u64 x2) 8)))),(some 29,qe (S p0)),(some 30,qe (U x3)),(some 31,qe (.int .u64 (cvI .u64 x3))),(some 32,qe (.int .u64 (shlI .u64 (cvI .u64 x3) 16))),(some 33,qe (.int .u64 (bitI .or .u64 (bitI .or .u64 (cvI .u64 x1) (shlI .u64 (cvI .u64 x2) 8)) (shlI .u64 (cvI .u64 x3) 16)))),(some 34,qe (S p0)),(some 35,qe (U x4)),(some 36,qe (.int .u64 (cvI .u64 x4))),(some 37,qe (.int .u64 (shlI .u64 (cvI .u64 x4) 24))),(some 38,qe (.int .u64 (bitI .or .u64 (bitI .or .u64 (bitI .or .u64 (cvI .u64 x1) (shlI .u64 (cvI .u64 x2) 8)) (shlI .u64 (cvI .u64 x3) 16)) (shlI .u64 (cvI .u64 x4) 24)))),(some 39,qe (S p0)),(some 40,qe (U x5)),(some 41,qe (.int .u64 (cvI .u64 x5))),(some 42,qe (.int .u64 (shlI .u64 (cvI .u64 x5) 32))),(some 43,qe (.int .u64 (bitI .or .u64 (bitI .or .u64 (bitI .or .u64 (bitI .or .u64 (cvI .u64 x1) (shlI .u64 (cvI .u64 x2) 8)) (shlI .u64 (cvI .u64 x3) 16)) (shlI .u64 (cvI .u64 x4) 24)) (shlI .u64 (cvI .u64 x5) 32)))),(some 44,qe (S p0)),(some 45,qe (U x6)),(some 46,qe (.int .u64 (cvI .u64 x6))),(some 47,qe (.int .u64 (shlI .u64 (cvI .u64 x6) 40))),(some 48,qe (.int .u64 (bitI .or .u64 (bitI .or .u64 (bitI .or .u64 (bitI .or .u64 (bitI .or .u64 (cvI .u64 x1) (shlI .u64 (cvI .u64 x2) 8)) (shlI .u64 (cvI .u64 x3) 16)) (shlI .u64 (cvI .u64 x4) 24)) (shlI .u64 (cvI .u64 x5) 32)) (shlI .u64 (cvI .u64 x6) 40)))),(some 49,qe (S p0)),(some 50,qe (U x7)),(some 51,qe (.int .u64 (cvI .u64 x7))),(some 52,qe (.int .u64 (shlI .u64 (cvI .u64 x7) 48))),(some 53,qe (.int .u64 (bitI .or .u64 (bitI .or .u64 (bitI .or .u64 (bitI .or .u64 (bitI .or .u64 (bitI .or .u64 (cvI .u64 x1) (shlI .u64 (cvI .u64 x2) 8)) (shlI .u64 (cvI .u64 x3) 16)) (shlI .u64 (cvI .u64 x4) 24)) (shlI .u64 (cvI .u64 x5) 32)) (shlI .u64 (cvI .u64 x6) 40)) (shlI .u64 (cvI .u64 x7) 48)))),(some 54,qe (S p0)),(some 55,qe (U x8)),(some 56,qe (.int .u64 (cvI .u64 x8))),(some 57,qe (.int .u64 (shlI .u64 (cvI .u64 x8) 56))),(some 58,qe (.int .u64 (bitI .or .u64 (bitI .or .u64 (bitI .or .u64 (bitI .or .u64 (bitI .or .u64 (bitI .or .u64 (bitI .or .u64 (cvI .u64 x1) (shlI .u64 (cvI .u64 x2) 8)) (shlI .u64 (cvI .u64 x3) 16)) (shlI .u64 (cvI .u64 x4) 24)) (shlI .u64 (cvI .u64 x5) 32)) (shlI .u64 (cvI .u64 x6) 40)) (shlI .u64 (cvI .u64 x7) 48)) (shlI .u64 (cvI .u64 x8) 56)))),(some 2,qe (.int .u64 (bitI .or .u64 (bitI .or .u64 (bitI .or .u64 (bitI .or .u64 (bitI .or .u64 (bitI .or .u64 (bitI .or .u64 (cvI .u64 x1) (shlI .u64 (cvI .u64 x2) 8)) (shlI .u64 (cvI .u64 x3) 16)) (shlI .u64 (cvI .u64 x4) 24)) (shlI .u64 (cvI .u64 x5) 32)) (shlI .u64 (cvI .u64 x6) 40)) (shlI .u64 (cvI .u64 x7) 48)) (shlI .u64 (cvI .u64 x8) 56))))] (de (mkE [(2,.int .u64 (bitI .or .u64 (bitI .or .u64 (bitI .or .u64 (bitI .or .u64 (bitI .or .u64 (bitI .or .u64 (bitI .or .u64 (cvI .u64 x1) (shlI .u64 (cvI .u64 x2) 8)) (shlI .u64 (cvI .u64 x3) 16)) (shlI .u64 (cvI .u64 x4) 24)) (shlI .u64 (cvI .u64 x5) 32)) (shlI .u64 (cvI .u64 x6) 40)) (shlI .u64 (cvI .u64 x7) 48)) (shlI .u64 (cvI .u64 x8) 56))),(58,.int .u64 (bitI .or .u64 (bitI .or .u64 (bitI .or .u64 (bitI .or .u64 (bitI .or .u64 (bitI .or .u64 (bitI .or .u64 (cvI .u64 x1) (shlI .u64 (cvI .u64 x2) 8)) (shlI .u64 (cvI .u64 x3) 16)) (shlI .u64 (cvI .u64 x4) 24)) (shlI .u64 (cvI .u64 x5) 32)) (shlI .u64 (cvI .u64 x6) 40)) (shlI .u64 (cvI .u64 x7) 48)) (shlI .u64 (cvI .u64 x8) 56))),(57,.int .u64 (shlI .u64 (cvI .u64 x8) 56)),(56,.int .u64 (cvI .u64 x8)),(55,U x8),(54,S p0),(53,.int .u64 (bitI .or .u64 (bitI .or .u64 (bitI .or .u64 (bitI .or .u64 (bitI .or .u64 (bitI .or .u64 (cvI .u64 x1) (shlI .u64 (cvI .u64 x2) 8)) (shlI .u64 (cvI .u64 x3) 16)) (shlI .u64 (cvI .u64 x4) 24)) (shlI .u64 (cvI .u64 x5) 32)) (shlI .u64 (cvI .u64 x6) 40)) (shlI .u64 (cvI .u64 x7) 48))),(52,.int .u64 (shlI .u64 (cvI .u64 x7) 48)),(51,.int .u64 (cvI .u64 x7)),(50,U x7),(49,S p0),(48,.int .u64 (bitI .or .u64 (bitI .or .u64 (bitI .or .u64 (bitI .or .u64 (bitI .or .u64 (cvI .u64 x1) (shlI .u64 (cvI .u64 x2) 8)) (shlI .u64 (cvI .u64 x3) 16)) (shlI .u64 (cvI .u64 x4) 24)) (shlI .u64 (cvI .u64 x5) 32)) (shlI .u64 (cvI .u64 x6) 40))),(47,.int .u64 (shlI .u64 (cvI .u64 x6) 40)),(46,.int .u64 (cvI .u64 x6)),(45,U x6),(44,S p0),(43,.int .u64 (bitI .or .u64 (bitI .or .u64 (bitI .or .u64 (bitI .or .u64 (cvI .u64 x1) (shlI .u64 (cvI .u64 x2) 8)) (shlI .u64 (cvI .u64 x3) 16)) (shlI .u64 (cvI .u64 x4) 24)) (shlI .u64 (cvI .u64 x5) 32))),(42,.int .u64 (shlI .u64 (cvI .u64 x5) 32)),(41,.int .u64 (cvI .u64 x5)),(40,U x5),(39,S p0),(38,.int .u64 (bitI .or .u64 (bitI .or .u64 (bitI .or .u64 (cvI .u64 x1) (shlI .u64 (cvI .u64 x2) 8)) (shlI .u64 (cvI .u64 x3) 16)) (shlI .u64 (cvI .u64 x4) 24))),(37,.int .u64 (shlI .u64 (cvI .u64 x4) 24)),(36,.int .u64 (cvI .u64 x4)),(35,U x4),(34,S p0),(33,.int .u64 (bitI .or .u64 (bitI .or .u64 (cvI .u64 x1) (shlI .u64 (cvI .u64 x2) 8)) (shlI .u64 (cvI .u64 x3) 16))),(32,.int .u64 (shlI .u64 (cvI .u64 x3) 16)),(31,.int .u64 (cvI .u64 x3)),(30,U x3),(29,S p0),(28,.int .u64 (bitI .or .u64 (cvI .u64 x1) (shlI .u64 (cvI .u64 x2) 8))),(27,.int .u64 (shlI .u64 (cvI .u64 x2) 8)),(26,.int .u64 (cvI .u64 x2)),(25,U x2),(24,S p0),(23,.int .u64 (cvI .u64 x1)),(22,U x1),(21,S p0),(0,S p0)] [] 59) (zE (mkE [(2,.int .u64 (bitI .or .u64 (bitI .or .u64 (bitI .or .u64 (bitI .or .u64 (bitI .or .u64 (bitI .or .u64 (bitI .or .u64 (cvI .u64 x1) (shlI .u64 (cvI .u64 x2) 8)) (shlI .u64 (cvI .u64 x3) 16)) (shlI .u64 (cvI .u64 x4) 24)) (shlI .u64 (cvI .u64 x5) 32)) (shlI .u64 (cvI .u64 x6) 40)) (shlI .u64 (cvI .u64 x7) 48)) (shlI .u64 (cvI .u64 x8) 56)))] [] 59)))
theorem F190(m:Nat)(hm:1≤m)(p0:ByteArray):callA Tryz.prog cfg m 190 [S p0]=(T190 p0).map (AV.int .u64):=by
 obtain⟨q,rfl⟩:=sucK hm
 exact(callA_body (fn:=Tryz.f190) (c:=body_ Tryz.f190) q _ (by kernel_rfl) (by kernel_rfl) (by kernel_rfl)).trans (B190 _ p0)
noncomputable def L164_9(z1:ByteArray):Option (ByteArray⊕(ByteArray×Bool)):=(bif (ltI 32 (lenS z1))then((T190 z1).bind fun x9=>((cutS z1 (some 8) none).bind fun x10=>((T190 x10).bind fun x11=>((cutS z1 (some 16) none).bind fun x12=>((T190 x12).bind fun x13=>((cutS z1 (some 24) none).bind fun x14=>((T190 x14).bind fun x15=>(bif (eqI (bitI .and .u64 (bitI .or .u64 (bitI .or .u64 x9 x11) (bitI .or .u64 x13 x15)) 9259542123273814144) 0)then((cutS z1 (some 32) none).bind fun x16=>(some (.inl x16)))else(some (.inr (z1,(eqI (bitI .and .u64 (bitI .or .u64 (bitI .or .u64 x9 x11) (bitI .or .u64 x13 x15)) 9259542123273814144) 0))))))))))))else(some (.inr (z1,false))))
abbrev H190(C:Callee):Prop:=∀(p0:ByteArray),C 190 [S p0]=(T190 p0).map (AV.int .u64)
theorem L164_9_ok(C:Callee)(h190:H190 C)(z1:ByteArray):rL C 164 Tryz.f164 9 [false,false,true,false,true,true,false,true,false,true,false,true,false,true,false,true,false,false,false,true] (fun z1:ByteArray=>(mkE [(0,S z1)] [] 169)) (fun(x:(ByteArray×Bool))=>(.exit 2,(mkE [(0,S x.1),(62,B x.2)] [] 169))) (L164_9 z1) z1:=by
 unfold L164_9
 let d_0:List (Option Nat×REff):=[(some 42,qe (S z1)),(some 43,qe (I (lenS z1))),(some 44,qe (B (ltI 32 (lenS z1)))),(some 45,qe (B true)),(some 46,qe (S z1))]
 let s_0:List (Nat×AV):=[(45,B true),(44,B (ltI 32 (lenS z1))),(43,I (lenS z1)),(42,S z1),(0,S z1)]
 refine gS 10 (gS 0 (gD 9 21 (rg Tryz.f164 9) [0,1,2,3,4,5,6,7,8,9,10,11,12,13,14,15,16,17,18,19,20] (dg 4 [(some 42,qe (S z1)),(some 43,qe (I (lenS z1))),(some 44,qe (B (ltI 32 (lenS z1)))),(some 45,qe (B (ltI 32 (lenS z1))))] (db 3 45 (ltI 32 (lenS z1)) ?_ ?_))))
 ·refine dg 5 d_0 (dc 47 [] (mkE ((46,S z1)::s_0) [] 169) (h190 z1) (fun x9=>?_))
  refine dg 7 (d_0.append ((some 47,qe (.int .u64 x9))::[(some 48,qe (S z1))])) (dv 49 (mkE ((48,S z1)::s_0) [] 169) (cutSE 9 .i64 .i64 z1 (some 8) none) (fun x10=>?_))
  refine dc 50 [] (mkE ((49,S x10)::((48,S z1)::((47,.int .u64 x9)::((46,S z1)::s_0)))) [] 169) (h190 x10) (fun x11=>?_)
  refine dg 11 (d_0.append ((some 47,qe (.int .u64 x9))::((some 48,qe (S z1))::((some 49,qe (S x10))::((some 50,qe (.int .u64 x11))::((some 51,qe (.int .u64 (bitI .or .u64 x9 x11)))::[(some 52,qe (S z1))])))))) (dv 53 (mkE ((52,S z1)::s_0) [] 169) (cutSE 9 .i64 .i64 z1 (some 16) none) (fun x12=>?_))
  refine dc 54 [] (mkE ((53,S x12)::((52,S z1)::((50,.int .u64 x11)::((49,S x10)::((48,S z1)::((47,.int .u64 x9)::((46,S z1)::s_0))))))) [] 169) (h190 x12) (fun x13=>?_)
  refine dg 14 (d_0.append ((some 47,qe (.int .u64 x9))::((some 48,qe (S z1))::((some 49,qe (S x10))::((some 50,qe (.int .u64 x11))::((some 51,qe (.int .u64 (bitI .or .u64 x9 x11)))::((some 52,qe (S z1))::((some 53,qe (S x12))::((some 54,qe (.int .u64 x13))::[(some 55,qe (S z1))]))))))))) (dv 56 (mkE ((55,S z1)::s_0) [] 169) (cutSE 9 .i64 .i64 z1 (some 24) none) (fun x14=>?_))
  refine dc 57 [] (mkE ((56,S x14)::((55,S z1)::((54,.int .u64 x13)::((53,S x12)::((52,S z1)::((50,.int .u64 x11)::((49,S x10)::((48,S z1)::((47,.int .u64 x9)::((46,S z1)::s_0)))))))))) [] 169) (h190 x14) (fun x15=>?_)
  refine dg 21 (d_0.append ((some 47,qe (.int .u64 x9))::((some 48,qe (S z1))::((some 49,qe (S x10))::((some 50,qe (.int .u64 x11))::((some 51,qe (.int .u64 (bitI .or .u64 x9 x11)))::((some 52,qe (S z1))::((some 53,qe (S x12))::((some 54,qe (.int .u64 x13))::((some 55,qe (S z1))::((some 56,qe (S x14))::((some 57,qe (.int .u64 x15))::((some 58,qe (.int .u64 (bitI .or .u64 x13 x15)))::((some 59,qe (.int .u64 (bitI .or .u64 (bitI .or .u64 x9 x11) (bitI .or .u64 x13 x15))))::((some 60,qe (.int .u64 (bitI .and .u64 (bitI .or .u64 (bitI .or .u64 x9 x11) (bitI .or .u64 x13 x15)) 9259542123273814144)))::((some 61,qe (B (eqI (bitI .and .u64 (bitI .or .u64 (bitI .or .u64 x9 x11) (bitI .or .u64 x13 x15)) 9259542123273814144) 0)))::[(some 62,qe (B (eqI (bitI .and .u64 (bitI .or .u64 (bitI .or .u64 x9 x11) (bitI .or .u64 x13 x15)) 9259542123273814144) 0)))])))))))))))))))) (de (mkE ((62,B (eqI (bitI .and .u64 (bitI .or .u64 (bitI .or .u64 x9 x11) (bitI .or .u64 x13 x15)) 9259542123273814144) 0))::((61,B (eqI (bitI .and .u64 (bitI .or .u64 (bitI .or .u64 x9 x11) (bitI .or .u64 x13 x15)) 9259542123273814144) 0))::((60,.int .u64 (bitI .and .u64 (bitI .or .u64 (bitI .or .u64 x9 x11) (bitI .or .u64 x13 x15)) 9259542123273814144))::((59,.int .u64 (bitI .or .u64 (bitI .or .u64 x9 x11) (bitI .or .u64 x13 x15)))::((58,.int .u64 (bitI .or .u64 x13 x15))::((57,.int .u64 x15)::((56,S x14)::((55,S z1)::((54,.int .u64 x13)::((53,S x12)::((52,S z1)::((51,.int .u64 (bitI .or .u64 x9 x11))::((50,.int .u64 x11)::((49,S x10)::((48,S z1)::((47,.int .u64 x9)::((46,S z1)::s_0))))))))))))))))) [] 169) (zN (mkE [(0,S z1),(62,B (eqI (bitI .and .u64 (bitI .or .u64 (bitI .or .u64 x9 x11) (bitI .or .u64 x13 x15)) 9259542123273814144) 0))] [] 169) (gC 62 (eqI (bitI .and .u64 (bitI .or .u64 (bitI .or .u64 x9 x11) (bitI .or .u64 x13 x15)) 9259542123273814144) 0) ?_ ?_)))
  ·refine gK (zP (gB 3 (gR 10 (rg Tryz.f164 10) (sg 1 (mkE [(63,S z1),(0,S z1),(62,B (eqI (bitI .and .u64 (bitI .or .u64 (bitI .or .u64 x9 x11) (bitI .or .u64 x13 x15)) 9259542123273814144) 0))] [] 169) (vo 64 (cutSE 9 .i64 .i64 z1 (some 32) none) (fun x16=>?_))))))
   exact se (mkE [(0,S x16)] [] 169) (pB (pL))
  ·exact gX 2 (pL)
 ·exact dg 21 [(some 42,qe (S z1)),(some 43,qe (I (lenS z1))),(some 44,qe (B (ltI 32 (lenS z1)))),(some 45,qe (B false)),(some 46,qe (.und)),(some 47,qe (.und)),(some 48,qe (.und)),(some 49,qe (.und)),(some 50,qe (.und)),(some 51,qe (.und)),(some 52,qe (.und)),(some 53,qe (.und)),(some 54,qe (.und)),(some 55,qe (.und)),(some 56,qe (.und)),(some 57,qe (.und)),(some 58,qe (.und)),(some 59,qe (.und)),(some 60,qe (.und)),(some 61,qe (.und)),(some 62,qe (B false))] (de (mkE [(62,B false),(61,.und),(60,.und),(59,.und),(58,.und),(57,.und),(56,.und),(55,.und),(54,.und),(53,.und),(52,.und),(51,.und),(50,.und),(49,.und),(48,.und),(47,.und),(46,.und),(45,B false),(44,B (ltI 32 (lenS z1))),(43,I (lenS z1)),(42,S z1),(0,S z1)] [] 169) (zN (mkE [(0,S z1),(62,B false)] [] 169) (gF (.tmp 62) (gX 2 (pL)))))
noncomputable def L164_1(z0:ByteArray):Option (ByteArray⊕(ByteArray×Bool)):=(bif (ltI 0 (lenS z0))then((byteAt z0 0).bind fun x1=>(bif (ltI x1 128)then((cutS z0 (some 1) none).bind fun x2=>(bif (ltI 8 (lenS x2))then((T190 x2).bind fun x3=>(bif (eqI (bitI .and .u64 x3 9259542123273814144) 0)then((cutS x2 (some 8) none).bind fun x4=>(bif (ltI 16 (lenS x4))then((T190 x4).bind fun x5=>((cutS x4 (some 8) none).bind fun x6=>((T190 x6).bind fun x7=>(bif (eqI (bitI .and .u64 (bitI .or .u64 x5 x7) 9259542123273814144) 0)then((cutS x4 (some 16) none).bind fun x8=>((iter (L164_9) x8).bind fun y17=>(some (.inl y17.1))))else(some (.inl x4))))))else(some (.inl x4))))else(some (.inl x2))))else(some (.inl x2))))else none))else(some (.inr (z0,(ltI 0 (lenS z0))))))
theorem L164_1_ok(C:Callee)(h190:H190 C)(z0:ByteArray):rL C 164 Tryz.f164 1 [false,false,false,true] (fun z0:ByteArray=>(mkE [(0,S z0)] [] 169)) (fun(x:(ByteArray×Bool))=>(.exit 0,(mkE [(0,S x.1),(9,B x.2)] [] 169))) (L164_1 z0) z0:=by
 unfold L164_1
 refine gS 2 (zS 0 1 (mkE [(0,S z0),(9,B (ltI 0 (lenS z0)))] [] 169) (gC 9 (ltI 0 (lenS z0)) ?_ ?_))
 ·refine gK (zP (gB 1 (zR 3 2 (sg 1 (mkE [(10,S z0),(0,S z0),(9,B (ltI 0 (lenS z0)))] [] 169) (vo 11 (byteE 9 .i64 z0 0) (fun x1=>?_))))))
  refine zN (mkE [(0,S z0),(3,U x1)] [] 169) (gS 11 (zS 0 3 (mkE [(0,S z0),(3,U x1),(13,B (ltI x1 128))] [] 169) (gC 13 (ltI x1 128) ?_ ?_)))
  ·refine zR 5 4 (sg 1 (mkE [(14,S z0),(0,S z0),(3,U x1),(13,B (ltI x1 128))] [] 169) (vo 15 (cutSE 9 .i64 .i64 z0 (some 1) none) (fun x2=>?_)))
   refine zN (mkE [(0,S x2)] [] 169) (gS 0 (zR 0 5 (sg 4 (mkE [(19,B (ltI 8 (lenS x2))),(18,B (ltI 8 (lenS x2))),(17,I (lenS x2)),(16,S x2),(0,S x2)] [] 169) (sb 19 (ltI 8 (lenS x2)) ?_ ?_))))
   ·refine sg 5 (mkE [(20,S x2),(19,B true),(19,B (ltI 8 (lenS x2))),(18,B (ltI 8 (lenS x2))),(17,I (lenS x2)),(16,S x2),(0,S x2)] [] 169) (co 21 [] (h190 x2) (fun x3=>?_))
    refine zN (mkE [(0,S x2),(24,B (eqI (bitI .and .u64 x3 9259542123273814144) 0))] [] 169) (gC 24 (eqI (bitI .and .u64 x3 9259542123273814144) 0) ?_ ?_)
    ·refine zR 7 6 (sg 1 (mkE [(25,S x2),(0,S x2),(24,B (eqI (bitI .and .u64 x3 9259542123273814144) 0))] [] 169) (vo 26 (cutSE 9 .i64 .i64 x2 (some 8) none) (fun x4=>?_)))
     refine zN (mkE [(0,S x4)] [] 169) (gS 0 (gD 7 13 (rg Tryz.f164 7) [0,1,2,3,4,5,6,7,8,9,10,11,12] (dg 4 [(some 27,qe (S x4)),(some 28,qe (I (lenS x4))),(some 29,qe (B (ltI 16 (lenS x4)))),(some 30,qe (B (ltI 16 (lenS x4))))] (db 3 30 (ltI 16 (lenS x4)) ?_ ?_))))
     ·refine dg 5 [(some 27,qe (S x4)),(some 28,qe (I (lenS x4))),(some 29,qe (B (ltI 16 (lenS x4)))),(some 30,qe (B true)),(some 31,qe (S x4))] (dc 32 [] (mkE [(31,S x4),(30,B true),(29,B (ltI 16 (lenS x4))),(28,I (lenS x4)),(27,S x4),(0,S x4)] [] 169) (h190 x4) (fun x5=>?_))
      refine dg 7 [(some 27,qe (S x4)),(some 28,qe (I (lenS x4))),(some 29,qe (B (ltI 16 (lenS x4)))),(some 30,qe (B true)),(some 31,qe (S x4)),(some 32,qe (.int .u64 x5)),(some 33,qe (S x4))] (dv 34 (mkE [(33,S x4),(30,B true),(29,B (ltI 16 (lenS x4))),(28,I (lenS x4)),(27,S x4),(0,S x4)] [] 169) (cutSE 9 .i64 .i64 x4 (some 8) none) (fun x6=>?_))
      refine dc 35 [] (mkE [(34,S x6),(33,S x4),(32,.int .u64 x5),(31,S x4),(30,B true),(29,B (ltI 16 (lenS x4))),(28,I (lenS x4)),(27,S x4),(0,S x4)] [] 169) (h190 x6) (fun x7=>?_)
      refine dg 13 [(some 27,qe (S x4)),(some 28,qe (I (lenS x4))),(some 29,qe (B (ltI 16 (lenS x4)))),(some 30,qe (B true)),(some 31,qe (S x4)),(some 32,qe (.int .u64 x5)),(some 33,qe (S x4)),(some 34,qe (S x6)),(some 35,qe (.int .u64 x7)),(some 36,qe (.int .u64 (bitI .or .u64 x5 x7))),(some 37,qe (.int .u64 (bitI .and .u64 (bitI .or .u64 x5 x7) 9259542123273814144))),(some 38,qe (B (eqI (bitI .and .u64 (bitI .or .u64 x5 x7) 9259542123273814144) 0))),(some 39,qe (B (eqI (bitI .and .u64 (bitI .or .u64 x5 x7) 9259542123273814144) 0)))] (de (mkE [(39,B (eqI (bitI .and .u64 (bitI .or .u64 x5 x7) 9259542123273814144) 0)),(38,B (eqI (bitI .and .u64 (bitI .or .u64 x5 x7) 9259542123273814144) 0)),(37,.int .u64 (bitI .and .u64 (bitI .or .u64 x5 x7) 9259542123273814144)),(36,.int .u64 (bitI .or .u64 x5 x7)),(35,.int .u64 x7),(34,S x6),(33,S x4),(32,.int .u64 x5),(31,S x4),(30,B true),(29,B (ltI 16 (lenS x4))),(28,I (lenS x4)),(27,S x4),(0,S x4)] [] 169) (zN (mkE [(0,S x4),(39,B (eqI (bitI .and .u64 (bitI .or .u64 x5 x7) 9259542123273814144) 0))] [] 169) (gC 39 (eqI (bitI .and .u64 (bitI .or .u64 x5 x7) 9259542123273814144) 0) ?_ ?_)))
      ·refine zR 9 8 (sg 1 (mkE [(40,S x4),(0,S x4),(39,B (eqI (bitI .and .u64 (bitI .or .u64 x5 x7) 9259542123273814144) 0))] [] 169) (vo 41 (cutSE 9 .i64 .i64 x4 (some 16) none) (fun x8=>?_)))
       refine zN (mkE [(0,S x8)] [] 169) (gB 2 (lo [(0,none)] [] (L164_9) (fun z1:ByteArray=>(mkE [(0,S z1)] [] 169)) (fun(x:(ByteArray×Bool))=>(.exit 2,(mkE [(0,S x.1),(62,B x.2)] [] 169))) x8 (fun z=>L164_9_ok C h190 z) ?_))
       intro y17
       exact pH (zP (gX 1 (pF (pO (pH (pL))))))
      ·exact gK (zP (gX 1 (pF (pO (pH (pL))))))
     ·exact dg 13 [(some 27,qe (S x4)),(some 28,qe (I (lenS x4))),(some 29,qe (B (ltI 16 (lenS x4)))),(some 30,qe (B false)),(some 31,qe (.und)),(some 32,qe (.und)),(some 33,qe (.und)),(some 34,qe (.und)),(some 35,qe (.und)),(some 36,qe (.und)),(some 37,qe (.und)),(some 38,qe (.und)),(some 39,qe (B false))] (de (mkE [(39,B false),(38,.und),(37,.und),(36,.und),(35,.und),(34,.und),(33,.und),(32,.und),(31,.und),(30,B false),(29,B (ltI 16 (lenS x4))),(28,I (lenS x4)),(27,S x4),(0,S x4)] [] 169) (zN (mkE [(0,S x4),(39,B false)] [] 169) (gF (.tmp 39) (gK (zP (gX 1 (pF (pO (pH (pL))))))))))
    ·exact gK (zP (gX 1 (pF (pO (pH (pL))))))
   ·exact zN (mkE [(0,S x2),(24,B false)] [] 169) (gF (.tmp 24) (gK (zP (gX 1 (pF (pO (pH (pL))))))))
  ·exact gK (zP (zR 12 11 (sg 1 (mkE [(65,U x1),(0,S z0),(3,U x1),(13,B (ltI x1 128))] [] 169) (nO))))
 ·exact gX 0 (pL)
noncomputable def T164(p0:ByteArray):Option Bool:=((iter (L164_1) p0).bind fun y18=>(some true))
theorem B164(C:Callee)(h190:H190 C)(p0:ByteArray):rB C 164 Tryz.f164 (frame0 [S p0] 169 false) ((T164 p0).map B):=by
 unfold T164
 refine zS 1 0 (mkE [(0,S p0)] [] 169) (gS 28 (gB 0 (lo [(0,none)] [] (L164_1) (fun z0:ByteArray=>(mkE [(0,S z0)] [] 169)) (fun(x:(ByteArray×Bool))=>(.exit 0,(mkE [(0,S x.1),(9,B x.2)] [] 169))) p0 (fun z=>L164_1_ok C h190 z) ?_)))
 intro y18
 exact pH (zP (zF 0 28 (mkE [(2,B true)] [] 169)))
theorem F164(m:Nat)(hm:2≤m)(p0:ByteArray):callA Tryz.prog cfg m 164 [S p0]=(T164 p0).map B:=by
 obtain⟨q,rfl⟩:=sucK hm
 exact(callA_body (fn:=Tryz.f164) (c:=body_ Tryz.f164) q _ (by kernel_rfl) (by kernel_rfl) (by kernel_rfl)).trans (B164 _ (fun p0=>F190 q (by omega) p0) p0)
noncomputable def L193_1(p1:Int)(z0:ByteArray):Option (ByteArray⊕(ByteArray×Bool)):=(bif (ltI 0 (lenS z0))then((byteAt z0 (subI .i64 (lenS z0) 1)).bind fun x1=>(bif (eqI x1 p1)then((cutS z0 none (some (subI .i64 (lenS z0) 1))).bind fun x2=>(some (.inl x2)))else(some (.inr (z0,(eqI x1 p1))))))else(some (.inr (z0,false))))
theorem L193_1_ok(C:Callee)(p1:Int)(z0:ByteArray):rL C 193 Tryz.f193 1 [false,false,false,true] (fun z0:ByteArray=>(mkE [(0,S z0),(1,U p1)] [] 23)) (fun(x:(ByteArray×Bool))=>(.exit 0,(mkE [(0,S x.1),(1,U p1),(16,B x.2)] [] 23))) (L193_1 p1 z0) z0:=by
 unfold L193_1
 refine gS 2 (zR 0 1 (sg 4 (mkE [(8,B (ltI 0 (lenS z0))),(7,B (ltI 0 (lenS z0))),(6,I (lenS z0)),(5,S z0),(0,S z0),(1,U p1)] [] 23) (sb 8 (ltI 0 (lenS z0)) ?_ ?_)))
 ·refine sg 8 (mkE [(12,I (subI .i64 (lenS z0) 1)),(11,I (lenS z0)),(10,S z0),(9,S z0),(8,B true),(8,B (ltI 0 (lenS z0))),(7,B (ltI 0 (lenS z0))),(6,I (lenS z0)),(5,S z0),(0,S z0),(1,U p1)] [] 23) (vo 13 (byteE 9 .i64 z0 (subI .i64 (lenS z0) 1)) (fun x1=>?_))
  refine zN (mkE [(0,S z0),(1,U p1),(16,B (eqI x1 p1))] [] 23) (gC 16 (eqI x1 p1) ?_ ?_)
  ·refine gK (zP (gB 1 (gR 2 (rg Tryz.f193 2) (sg 4 (mkE [(20,I (subI .i64 (lenS z0) 1)),(19,I (lenS z0)),(18,S z0),(17,S z0),(0,S z0),(1,U p1),(16,B (eqI x1 p1))] [] 23) (vo 21 (cutSE 9 .i64 .i64 z0 none (some (subI .i64 (lenS z0) 1))) (fun x2=>?_))))))
   exact se (mkE [(0,S x2),(1,U p1)] [] 23) (pB (pL))
  ·exact gX 0 (pL)
 ·exact zN (mkE [(0,S z0),(1,U p1),(16,B false)] [] 23) (gF (.tmp 16) (gX 0 (pL)))
noncomputable def T193(p0:ByteArray)(p1:Int):Option ByteArray:=((iter (L193_1 p1) p0).bind fun y3=>(some y3.1))
theorem B193(C:Callee)(p0:ByteArray)(p1:Int):rB C 193 Tryz.f193 (frame0 [S p0,U p1] 23 false) ((T193 p0 p1).map S):=by
 unfold T193
 refine zS 1 0 (mkE [(0,S p0),(1,U p1)] [] 23) (gS 3 (gB 0 (lo [(0,none),(1,none)] [] (L193_1 p1) (fun z0:ByteArray=>(mkE [(0,S z0),(1,U p1)] [] 23)) (fun(x:(ByteArray×Bool))=>(.exit 0,(mkE [(0,S x.1),(1,U p1),(16,B x.2)] [] 23))) p0 (fun z=>L193_1_ok C p1 z) ?_)))
 intro y3
 exact pH (zP (zF 0 3 (mkE [(4,S y3.1)] [] 23)))
theorem F193(m:Nat)(hm:1≤m)(p0:ByteArray)(p1:Int):callA Tryz.prog cfg m 193 [S p0,U p1]=(T193 p0 p1).map S:=by
 obtain⟨q,rfl⟩:=sucK hm
 exact(callA_body (fn:=Tryz.f193) (c:=body_ Tryz.f193) q _ (by kernel_rfl) (by kernel_rfl) (by kernel_rfl)).trans (B193 _ p0 p1)
noncomputable def L192_1(p1:Int)(z0:ByteArray):Option (ByteArray⊕(ByteArray×Bool)):=(bif (ltI 0 (lenS z0))then((byteAt z0 0).bind fun x1=>(bif (eqI x1 p1)then((cutS z0 (some 1) none).bind fun x2=>(some (.inl x2)))else(some (.inr (z0,(eqI x1 p1))))))else(some (.inr (z0,false))))
theorem L192_1_ok(C:Callee)(p1:Int)(z0:ByteArray):rL C 192 Tryz.f192 1 [false,false,false,true] (fun z0:ByteArray=>(mkE [(0,S z0),(1,U p1)] [] 17)) (fun(x:(ByteArray×Bool))=>(.exit 0,(mkE [(0,S x.1),(1,U p1),(13,B x.2)] [] 17))) (L192_1 p1 z0) z0:=by
 unfold L192_1
 refine gS 2 (zR 0 1 (sg 4 (mkE [(8,B (ltI 0 (lenS z0))),(7,B (ltI 0 (lenS z0))),(6,I (lenS z0)),(5,S z0),(0,S z0),(1,U p1)] [] 17) (sb 8 (ltI 0 (lenS z0)) ?_ ?_)))
 ·refine sg 5 (mkE [(9,S z0),(8,B true),(8,B (ltI 0 (lenS z0))),(7,B (ltI 0 (lenS z0))),(6,I (lenS z0)),(5,S z0),(0,S z0),(1,U p1)] [] 17) (vo 10 (byteE 9 .i64 z0 0) (fun x1=>?_))
  refine zN (mkE [(0,S z0),(1,U p1),(13,B (eqI x1 p1))] [] 17) (gC 13 (eqI x1 p1) ?_ ?_)
  ·refine gK (zP (gB 1 (gR 2 (rg Tryz.f192 2) (sg 1 (mkE [(14,S z0),(0,S z0),(1,U p1),(13,B (eqI x1 p1))] [] 17) (vo 15 (cutSE 9 .i64 .i64 z0 (some 1) none) (fun x2=>?_))))))
   exact se (mkE [(0,S x2),(1,U p1)] [] 17) (pB (pL))
  ·exact gX 0 (pL)
 ·exact zN (mkE [(0,S z0),(1,U p1),(13,B false)] [] 17) (gF (.tmp 13) (gX 0 (pL)))
noncomputable def T192(p0:ByteArray)(p1:Int):Option ByteArray:=((iter (L192_1 p1) p0).bind fun y3=>(some y3.1))
theorem B192(C:Callee)(p0:ByteArray)(p1:Int):rB C 192 Tryz.f192 (frame0 [S p0,U p1] 17 false) ((T192 p0 p1).map S):=by
 unfold T192
 refine zS 1 0 (mkE [(0,S p0),(1,U p1)] [] 17) (gS 3 (gB 0 (lo [(0,none),(1,none)] [] (L192_1 p1) (fun z0:ByteArray=>(mkE [(0,S z0),(1,U p1)] [] 17)) (fun(x:(ByteArray×Bool))=>(.exit 0,(mkE [(0,S x.1),(1,U p1),(13,B x.2)] [] 17))) p0 (fun z=>L192_1_ok C p1 z) ?_)))
 intro y3
 exact pH (zP (zF 0 3 (mkE [(4,S y3.1)] [] 17)))
theorem F192(m:Nat)(hm:1≤m)(p0:ByteArray)(p1:Int):callA Tryz.prog cfg m 192 [S p0,U p1]=(T192 p0 p1).map S:=by
 obtain⟨q,rfl⟩:=sucK hm
 exact(callA_body (fn:=Tryz.f192) (c:=body_ Tryz.f192) q _ (by kernel_rfl) (by kernel_rfl) (by kernel_rfl)).trans (B192 _ p0 p1)
noncomputable def T167(p0:ByteArray)(p1:ByteArray):Option ByteArray:=(bif (eqS p0 (ByteArray.mk #[]))then(some p0)else(bif (eqS p1 (ByteArray.mk #[]))then(some p0)else(bif (eqI (lenS p1) 1)then((byteAt p1 0).bind fun x1=>(bif (ltI x1 128)then((byteAt p1 0).bind fun x2=>((T193 p0 x2).bind fun x3=>((byteAt p1 0).bind fun x4=>((T192 x3 x4).bind fun x5=>(some x5)))))else none))else none)))
theorem B167(C:Callee)(h192:∀(p0:ByteArray)(p1:Int),C 192 [S p0,U p1]=(T192 p0 p1).map S)(h193:∀(p0:ByteArray)(p1:Int),C 193 [S p0,U p1]=(T193 p0 p1).map S)(h194:∀(p0:ByteArray),C 194 [S p0]=(none:Option Unit).map (fun _=>AV.und))(p0:ByteArray)(p1:ByteArray):rB C 167 Tryz.f167 (frame0 [S p0,S p1] 43 false) ((T167 p0 p1).map S):=by
 unfold T167
 let s_0:List (Nat×AV):=[(0,S p0),(1,S p1)]
 refine zS 1 0 (mkE s_0 [] 43) (gS 3 (zR 0 1 (sg 3 (mkE ((9,B (eqS p0 (ByteArray.mk #[])))::((8,B (eqS p0 (ByteArray.mk #[])))::((7,S p0)::s_0))) [] 43) (sb 9 (eqS p0 (ByteArray.mk #[])) ?_ ?_))))
 ·exact zN (mkE (s_0.append [(12,B true)]) [] 43) (gT (.tmp 12) (zF 0 2 (mkE [(4,S p0)] [] 43)))
 ·refine zN (mkE (s_0.append [(12,B (eqS p1 (ByteArray.mk #[])))]) [] 43) (gC 12 (eqS p1 (ByteArray.mk #[])) ?_ ?_)
  ·exact zF 0 2 (mkE [(4,S p0)] [] 43)
  ·refine gK (zP (gS 5 (zR 0 3 (sg 4 (mkE ((17,B (eqI (lenS p1) 1))::((16,B (eqI (lenS p1) 1))::((15,I (lenS p1))::((14,S p1)::(s_0.append [(12,B (eqS p1 (ByteArray.mk #[])))]))))) [] 43) (sb 17 (eqI (lenS p1) 1) ?_ ?_)))))
   ·refine sg 5 (mkE ((18,S p1)::((17,B true)::((17,B (eqI (lenS p1) 1))::((16,B (eqI (lenS p1) 1))::((15,I (lenS p1))::((14,S p1)::(s_0.append [(12,B (eqS p1 (ByteArray.mk #[])))]))))))) [] 43) (vo 19 (byteE 9 .i64 p1 0) (fun x1=>?_))
    refine zN (mkE (s_0.append [(21,B (ltI x1 128))]) [] 43) (gC 21 (ltI x1 128) ?_ ?_)
    ·refine gS 0 (gD 4 8 (rg Tryz.f167 4) [0,1,2,3,4,5,6,7] (dg 2 [(some 22,qe (S p0)),(some 23,qe (S p1))] (dv 24 (mkE ((23,S p1)::(s_0.append [(21,B (ltI x1 128))])) [] 43) (byteE 9 .i64 p1 0) (fun x2=>?_))))
     refine dc 25 [] (mkE ((24,U x2)::((23,S p1)::((22,S p0)::(s_0.append [(21,B (ltI x1 128))])))) [] 43) (h193 p0 x2) (fun x3=>?_)
     refine dg 5 [(some 22,qe (S p0)),(some 23,qe (S p1)),(some 24,qe (U x2)),(some 25,qe (S x3)),(some 26,qe (S p1))] (dv 27 (mkE ((26,S p1)::(s_0.append [(21,B (ltI x1 128))])) [] 43) (byteE 9 .i64 p1 0) (fun x4=>?_))
     refine dc 28 [] (mkE ((27,U x4)::((26,S p1)::((25,S x3)::((24,U x2)::((23,S p1)::((22,S p0)::(s_0.append [(21,B (ltI x1 128))]))))))) [] 43) (h192 x3 x4) (fun x5=>?_)
     exact dg 8 [(some 22,qe (S p0)),(some 23,qe (S p1)),(some 24,qe (U x2)),(some 25,qe (S x3)),(some 26,qe (S p1)),(some 27,qe (U x4)),(some 28,qe (S x5)),(some 4,qe (S x5))] (de (mkE ((4,S x5)::((28,S x5)::((27,U x4)::((26,S p1)::((25,S x3)::((24,U x2)::((23,S p1)::((22,S p0)::(s_0.append [(21,B (ltI x1 128))]))))))))) [] 43) (zE (mkE [(4,S x5)] [] 43)))
    ·exact gK (zP (gS 8 (zR 6 5 (sg 1 (mkE ((30,S p1)::(s_0.append [(21,B (ltI x1 128))])) [] 43) (nC 31 [] (h194 p1))))))
   ·exact zN (mkE (s_0.append [(21,B false)]) [] 43) (gF (.tmp 21) (gK (zP (gS 8 (zR 6 5 (sg 1 (mkE ((30,S p1)::(s_0.append [(21,B false)])) [] 43) (nC 31 [] (h194 p1))))))))
theorem F167(m:Nat)(hm:2≤m)(p0:ByteArray)(p1:ByteArray):callA Tryz.prog cfg m 167 [S p0,S p1]=(T167 p0 p1).map S:=by
 obtain⟨q,rfl⟩:=sucK hm
 exact(callA_body (fn:=Tryz.f167) (c:=body_ Tryz.f167) q _ (by kernel_rfl) (by kernel_rfl) (by kernel_rfl)).trans (B167 _ (fun p0 p1=>F192 q (by omega) p0 p1) (fun p0 p1=>F193 q (by omega) p0 p1) (fun p0=>F194 q (by omega) p0) p0 p1)
noncomputable def L141_2(p0:ByteArray)(z0:Int):Option (Int⊕((Int×Bool)⊕Unit)):=(bif (ltI z0 (lenS p0))then((byteAt p0 z0).bind fun x1=>(bif (ltI x1 32)then(some (.inr (.inr ())))else((byteAt p0 z0).bind fun x2=>(bif (eqI x2 127)then(some (.inr (.inr ())))else(some (.inl (addI .i64 z0 1)))))))else(some (.inr (.inl (z0,(ltI z0 (lenS p0)))))))
theorem L141_2_ok(C:Callee)(p0:ByteArray)(z0:Int):rL C 141 Tryz.f141 2 [false,false,true,false,true] (fun z0:Int=>(mkE [(0,S p0),(3,I z0)] [] 33)) (Sum.elim (fun(x:(Int×Bool))=>(.exit 0,(mkE [(0,S p0),(3,I x.1),(7,B x.2)] [] 33))) (fun(x:Unit)=>(.ret,(mkE [(2,B false)] [] 33)))) (L141_2 p0 z0) z0:=by
 unfold L141_2
 let s_0:List (Nat×AV):=[(11,I z0),(10,S p0),(0,S p0),(3,I z0),(7,B (ltI z0 (lenS p0)))]
 refine gS 4 (zS 0 2 (mkE [(0,S p0),(3,I z0),(7,B (ltI z0 (lenS p0)))] [] 33) (gC 7 (ltI z0 (lenS p0)) ?_ ?_))
 ·refine gK (zP (gS 3 (gB 1 (zR 0 4 (sg 2 (mkE s_0 [] 33) (vo 12 (byteE 9 .i64 p0 z0) (fun x1=>?_)))))))
  refine sg 5 (mkE ((14,B (ltI x1 32))::((13,B (ltI x1 32))::((12,U x1)::s_0))) [] 33) (sb 14 (ltI x1 32) ?_ ?_)
  ·exact zN (mkE [(0,S p0),(3,I z0),(19,B true)] [] 33) (gT (.tmp 19) (zF 0 5 (mkE [(2,B false)] [] 33)))
  ·refine sg 7 (mkE ((16,I z0)::((15,S p0)::((14,B false)::((14,B (ltI x1 32))::((13,B (ltI x1 32))::((12,U x1)::s_0)))))) [] 33) (vo 17 (byteE 9 .i64 p0 z0) (fun x2=>?_))
   refine zN (mkE [(0,S p0),(3,I z0),(19,B (eqI x2 127))] [] 33) (gC 19 (eqI x2 127) ?_ ?_)
   ·exact zF 0 5 (mkE [(2,B false)] [] 33)
   ·exact gK (pB (zP (gR 3 (rg Tryz.f141 3) (se (mkE [(0,S p0),(3,I (addI .i64 z0 1))] [] 33) (pL)))))
 ·exact gX 0 (pL)
noncomputable def T141(p0:ByteArray):Option Bool:=((iter (L141_2 p0) 0).bind fun y3=>(Sum.elim (fun y3a=>((T164 p0).bind fun x4=>(bif x4 then((T167 p0 (ByteArray.mk #[32])).bind fun x5=>(bif (eqS x5 p0)then((contO p0 (ByteArray.mk #[32,32])).bind fun x6=>(some (!x6)))else(some false)))else(some false)))) (fun y3b=>(some false)) y3))
theorem B141(C:Callee)(h164:∀(p0:ByteArray),C 164 [S p0]=(T164 p0).map B)(h167:∀(p0:ByteArray)(p1:ByteArray),C 167 [S p0,S p1]=(T167 p0 p1).map S)(h168:∀(p0:ByteArray)(p1:ByteArray),C 168 [S p0,S p1]=(contO p0 p1).map B)(p0:ByteArray):rB C 141 Tryz.f141 (frame0 [S p0] 33 false) ((T141 p0).map B):=by
 unfold T141
 refine zS 1 0 (mkE [(0,S p0)] [] 33) (gS 6 (zS 2 1 (mkE [(0,S p0),(3,I 0)] [] 33) (gB 0 (lo [(0,none),(3,none)] [] (L141_2 p0) (fun z0:Int=>(mkE [(0,S p0),(3,I z0)] [] 33)) (Sum.elim (fun(x:(Int×Bool))=>(.exit 0,(mkE [(0,S p0),(3,I x.1),(7,B x.2)] [] 33))) (fun(x:Unit)=>(.ret,(mkE [(2,B false)] [] 33)))) 0 (fun z=>L141_2_ok C p0 z) ?_))))
 intro y3
 refine ss y3 (Z:=(Sum.elim (fun(x:(Int×Bool))=>(.exit 0,(mkE [(0,S p0),(3,I x.1),(7,B x.2)] [] 33))) (fun(x:Unit)=>(.ret,(mkE [(2,B false)] [] 33))))) (fun y3a=>?_) (fun y3b=>?_)
 ·refine pH (zP (zR 0 6 (sg 1 (mkE [(20,S p0),(0,S p0),(3,I y3a.1),(7,B y3a.2)] [] 33) (co 21 [] (h164 p0) (fun x4=>?_)))))
  refine sg 3 (mkE [(22,B x4),(21,B x4),(20,S p0),(0,S p0),(3,I y3a.1),(7,B y3a.2)] [] 33) (sb 22 x4 ?_ ?_)
  ·refine sg 4 (mkE [(23,S p0),(22,B true),(22,B x4),(21,B x4),(20,S p0),(0,S p0),(3,I y3a.1),(7,B y3a.2)] [] 33) (co 24 [] (h167 p0 (ByteArray.mk #[32])) (fun x5=>?_))
   refine sg 9 (mkE [(28,B (eqS x5 p0)),(27,B (eqS x5 p0)),(26,B (eqS x5 p0)),(25,S p0),(24,S x5),(23,S p0),(22,B true),(22,B x4),(21,B x4),(20,S p0),(0,S p0),(3,I y3a.1),(7,B y3a.2)] [] 33) (sb 28 (eqS x5 p0) ?_ ?_)
   ·refine sg 10 (mkE [(29,S p0),(28,B true),(28,B (eqS x5 p0)),(27,B (eqS x5 p0)),(26,B (eqS x5 p0)),(25,S p0),(24,S x5),(23,S p0),(22,B true),(22,B x4),(21,B x4),(20,S p0),(0,S p0),(3,I y3a.1),(7,B y3a.2)] [] 33) (co 30 [] (h168 p0 (ByteArray.mk #[32,32])) (fun x6=>?_))
    exact zE (mkE [(2,B (!x6))] [] 33)
   ·exact zE (mkE [(2,B false)] [] 33)
  ·exact zE (mkE [(2,B false)] [] 33)
 ·exact pL
theorem F141(m:Nat)(hm:3≤m)(p0:ByteArray):callA Tryz.prog cfg m 141 [S p0]=(T141 p0).map B:=by
 obtain⟨q,rfl⟩:=sucK hm
 exact(callA_body (fn:=Tryz.f141) (c:=body_ Tryz.f141) q _ (by kernel_rfl) (by kernel_rfl) (by kernel_rfl)).trans (B141 _ (fun p0=>F164 q (by omega) p0) (fun p0 p1=>F167 q (by omega) p0 p1) (fun p0 p1=>F168 q (by omega) p0 p1) p0)
noncomputable def L87_13(p0:S46)(z0:Int):Option (Int⊕((Int×Bool)⊕Int)):=(bif (ltI z0 (lenL p0.f7))then((listAt p0.f7 z0).bind fun x8=>((T121 x8).bind fun x9=>(bif (neI x9 0)then(some (.inr (.inr x9)))else(some (.inl (addI .i64 z0 1))))))else(some (.inr (.inl (z0,(ltI z0 (lenL p0.f7)))))))
theorem L87_13_ok(C:Callee)(h121:H121 C)(p0:S46)(z0:Int):rL C 87 Tryz.f87 13 [false,false,true,false,true,true,true,true,true,true] (fun z0:Int=>(mkE [(1,.ba 8 0),(51,LL a64 p0.f7),(52,I (lenL p0.f7)),(53,I z0)] [(8,.box [S p0.f0,S p0.f1,I p0.f2,LL S p0.f3,I p0.f4,I p0.f5,I p0.f6,LL a64 p0.f7,S p0.f8] false)] 92)) (Sum.elim (fun(x:(Int×Bool))=>(.exit 0,(mkE [(1,.ba 8 0),(51,LL a64 p0.f7),(52,I (lenL p0.f7)),(53,I x.1),(54,B x.2)] [(8,.box [S p0.f0,S p0.f1,I p0.f2,LL S p0.f3,I p0.f4,I p0.f5,I p0.f6,LL a64 p0.f7,S p0.f8] false)] 92))) (fun(x:Int)=>(.ret,(mkE [(2,I x)] [] 92)))) (L87_13 p0 z0) z0:=by
 unfold L87_13
 let s_0:List (Nat×AV):=[(51,LL a64 p0.f7),(52,I (lenL p0.f7)),(53,I z0)]
 let o_0:List (Nat×AObj):=[(8,.box [S p0.f0,S p0.f1,I p0.f2,LL S p0.f3,I p0.f4,I p0.f5,I p0.f6,LL a64 p0.f7,S p0.f8] false)]
 refine zS 0 13 (mkE ((1,.ba 8 0)::(s_0.append [(54,B (ltI z0 (lenL p0.f7)))])) o_0 92) (gS 14 (gC 54 (ltI z0 (lenL p0.f7)) ?_ ?_))
 ·refine gK (zP (gS 18 (gB 1 (zR 15 14 (vo 55 (addrE 45 65 4 a64 .i64 p0.f7 z0) (fun x8=>?_))))))
  refine zN (mkE ((1,.ba 8 0)::((5,.ba 40 0)::s_0)) (o_0.append [(40,.box [I x8.f0,I x8.f1,I x8.f2,I x8.f3] false)]) 92) (zR 16 15 (sg 1 (mkE ((57,a64 x8)::((1,.ba 8 0)::((5,.ba 40 0)::s_0))) (o_0.append [(40,.box [I x8.f0,I x8.f1,I x8.f2,I x8.f3] false)]) 92) (co 58 [] (h121 x8) (fun x9=>?_))))
  refine zN (mkE ((1,.ba 8 0)::((6,I x9)::s_0)) o_0 92) (zS 0 16 (mkE ((1,.ba 8 0)::((6,I x9)::(s_0.append [(60,B (neI x9 0))]))) o_0 92) (gC 60 (neI x9 0) ?_ ?_))
  ·exact zF 0 17 (mkE [(2,I x9)] [] 92)
  ·exact gK (pB (zP (gR 18 (rg Tryz.f87 18) (se (mkE [(1,.ba 8 0),(51,LL a64 p0.f7),(52,I (lenL p0.f7)),(53,I (addI .i64 z0 1))] o_0 92) (pL)))))
 ·exact gX 0 (pL)
noncomputable def T87(p0:S46):Option Int:=((T108 p0.f0).bind fun x1=>(bif (!x1)then(some 5)else((T108 p0.f1).bind fun x2=>(bif (!x2)then(some 5)else((T30 p0.f2 1 3).bind fun x3=>(bif x3 then(some 4)else((T140 p0).bind fun x4=>(bif (neI x4 0)then(some x4)else((T31 p0.f4).bind fun x5=>(bif (!x5)then(some 1)else((T30 p0.f5 (addI .i64 p0.f4 1) (addI .i64 p0.f4 2592000000)).bind fun x6=>(bif x6 then(some 1)else((T30 p0.f6 1 9).bind fun x7=>(bif x7 then(some 1)else(bif (ltI 20 (lenL p0.f7))then(some 2)else((iter (L87_13 p0) 0).bind fun y10=>(Sum.elim (fun y10a=>(bif ((eqI p0.f2 3) != (eqI (lenL p0.f7) 0))then(some 3)else(bif (ltI 500 (lenS p0.f8))then(some 2)else((T141 p0.f8).bind fun x11=>(bif (!x11)then(some 3)else(bif (eqS p0.f8 (ByteArray.mk #[]))then(bif (!(eqI p0.f2 3))then(some 3)else(some 0))else(some 0))))))) (fun y10b=>(some y10b)) y10)))))))))))))))))
abbrev H31(C:Callee):Prop:=∀(p0:Int),C 31 [I p0]=(T31 p0).map B
theorem B87(C:Callee)(h108:H108 C)(h121:H121 C)(h140:∀(p0:S46),C 140 [a46 p0]=(T140 p0).map I)(h141:∀(p0:ByteArray),C 141 [S p0]=(T141 p0).map B)(h30:H30 C)(h31:H31 C)(p0:S46):rB C 87 Tryz.f87 (frame0 [a46 p0] 92 false) ((T87 p0).map I):=by
 unfold T87
 let s_0:List (Nat×AV):=[(38,I (addI .i64 p0.f4 2592000000)),(37,I p0.f4),(36,.ba 8 4),(35,I (addI .i64 p0.f4 1)),(34,I p0.f4),(33,.ba 8 4),(32,I p0.f5),(31,.ba 8 5),(30,B false)]
 let s_1:List (Nat×AV):=[(80,S p0.f8),(79,.ba 8 8),(1,.ba 8 0),(7,B (eqI p0.f2 3)),(73,B (ltI 500 (lenS p0.f8)))]
 let s_2:List (Nat×AV):=[(1,.ba 8 0)]
 let o_0:List (Nat×AObj):=[(8,.box [S p0.f0,S p0.f1,I p0.f2,LL S p0.f3,I p0.f4,I p0.f5,I p0.f6,LL a64 p0.f7,S p0.f8] false)]
 refine zS 1 0 (mkE s_2 o_0 92) (gS 3 (zR 0 1 (sg 2 (mkE ((9,S p0.f0)::((8,.ba 8 0)::s_2)) o_0 92) (co 10 [] (h108 p0.f0) (fun x1=>?_)))))
 refine sg 5 (mkE ((12,B (!x1))::((11,B (!x1))::((10,B x1)::((9,S p0.f0)::((8,.ba 8 0)::s_2))))) o_0 92) (sb 12 (!x1) ?_ ?_)
 ·exact zN (mkE (s_2.append [(17,B true)]) o_0 92) (gT (.tmp 17) (zF 0 2 (mkE [(2,I 5)] [] 92)))
 ·refine sg 7 (mkE ((14,S p0.f1)::((13,.ba 8 1)::((12,B false)::((12,B (!x1))::((11,B (!x1))::((10,B x1)::((9,S p0.f0)::((8,.ba 8 0)::s_2)))))))) o_0 92) (co 15 [] (h108 p0.f1) (fun x2=>?_))
  refine zN (mkE (s_2.append [(17,B (!x2))]) o_0 92) (gC 17 (!x2) ?_ ?_)
  ·exact zF 0 2 (mkE [(2,I 5)] [] 92)
  ·refine gK (zP (gS 5 (zR 0 3 (sg 2 (mkE ((19,I p0.f2)::((18,.ba 8 2)::(s_2.append [(17,B (!x2))]))) o_0 92) (co 20 [] (h30 p0.f2 1 3) (fun x3=>?_))))))
   refine zN (mkE (s_2.append [(20,B x3)]) o_0 92) (gC 20 x3 ?_ ?_)
   ·exact zF 0 4 (mkE [(2,I 4)] [] 92)
   ·refine gK (zP (gS 8 (zR 6 5 (sg 1 (mkE ((21,a46 p0)::(s_2.append [(20,B x3)])) o_0 92) (co 22 [] (h140 p0) (fun x4=>?_))))))
    refine zN (mkE (s_2.append [(3,I x4)]) o_0 92) (zS 0 6 (mkE (s_2.append ((3,I x4)::[(24,B (neI x4 0))])) o_0 92) (gC 24 (neI x4 0) ?_ ?_))
    ·exact zF 0 7 (mkE [(2,I x4)] [] 92)
    ·refine gK (zP (gS 10 (zR 0 8 (sg 2 (mkE ((27,I p0.f4)::((26,.ba 8 4)::(s_2.append ((3,I x4)::[(24,B (neI x4 0))])))) o_0 92) (co 28 [] (h31 p0.f4) (fun x5=>?_))))))
     refine sg 5 (mkE ((30,B (!x5))::((29,B (!x5))::((28,B x5)::((27,I p0.f4)::((26,.ba 8 4)::(s_2.append ((3,I x4)::[(24,B (neI x4 0))]))))))) o_0 92) (sb 30 (!x5) ?_ ?_)
     ·exact zN (mkE (s_2.append [(45,B true)]) o_0 92) (gT (.tmp 45) (zF 0 9 (mkE [(2,I 1)] [] 92)))
     ·refine sg 13 (mkE (s_0.append ((30,B (!x5))::((29,B (!x5))::((28,B x5)::((27,I p0.f4)::((26,.ba 8 4)::(s_2.append ((3,I x4)::[(24,B (neI x4 0))])))))))) o_0 92) (co 39 [] (h30 p0.f5 (addI .i64 p0.f4 1) (addI .i64 p0.f4 2592000000)) (fun x6=>?_))
      refine sg 16 (mkE ((41,B x6)::((40,B x6)::((39,B x6)::(s_0.append ((30,B (!x5))::((29,B (!x5))::((28,B x5)::((27,I p0.f4)::((26,.ba 8 4)::(s_2.append ((3,I x4)::[(24,B (neI x4 0))]))))))))))) o_0 92) (sb 41 x6 ?_ ?_)
      ·exact zN (mkE (s_2.append [(45,B true)]) o_0 92) (gT (.tmp 45) (zF 0 9 (mkE [(2,I 1)] [] 92)))
      ·refine sg 18 (mkE ((43,I p0.f6)::((42,.ba 8 6)::((41,B false)::((41,B x6)::((40,B x6)::((39,B x6)::(s_0.append ((30,B (!x5))::((29,B (!x5))::((28,B x5)::((27,I p0.f4)::((26,.ba 8 4)::(s_2.append ((3,I x4)::[(24,B (neI x4 0))])))))))))))))) o_0 92) (co 44 [] (h30 p0.f6 1 9) (fun x7=>?_))
       refine zN (mkE (s_2.append [(45,B x7)]) o_0 92) (gC 45 x7 ?_ ?_)
       ·exact zF 0 9 (mkE [(2,I 1)] [] 92)
       ·refine gK (zP (gS 12 (zR 0 10 (sg 2 (mkE ((47,LL a64 p0.f7)::((46,.ba 8 7)::(s_2.append [(45,B x7)]))) o_0 92) (eo 48 (I (lenL p0.f7)) (lenE 45 a64 p0.f7) (zN (mkE (s_2.append [(49,B (ltI 20 (lenL p0.f7)))]) o_0 92) (gC 49 (ltI 20 (lenL p0.f7)) ?_ ?_)))))))
        ·exact zF 0 11 (mkE [(2,I 2)] [] 92)
        ·refine gK (zP (gS 19 (zR 13 12 (sg 2 (mkE ((51,LL a64 p0.f7)::((50,.ba 8 7)::(s_2.append [(49,B (ltI 20 (lenL p0.f7)))]))) o_0 92) (eo 52 (I (lenL p0.f7)) (lenE 45 a64 p0.f7) (zN (mkE (s_2.append ((51,LL a64 p0.f7)::((52,I (lenL p0.f7))::[(53,I 0)]))) o_0 92) (gB 0 (lo [(1,none),(51,none),(52,none),(53,none)] [] (L87_13 p0) (fun z0:Int=>(mkE (s_2.append ((51,LL a64 p0.f7)::((52,I (lenL p0.f7))::[(53,I z0)]))) o_0 92)) (Sum.elim (fun(x:(Int×Bool))=>(.exit 0,(mkE (s_2.append ((51,LL a64 p0.f7)::((52,I (lenL p0.f7))::((53,I x.1)::[(54,B x.2)])))) o_0 92))) (fun(x:Int)=>(.ret,(mkE [(2,I x)] [] 92)))) 0 (fun z=>L87_13_ok C h121 p0 z) ?_))))))))
         intro y10
         refine ss y10 (Z:=(Sum.elim (fun(x:(Int×Bool))=>(.exit 0,(mkE (s_2.append ((51,LL a64 p0.f7)::((52,I (lenL p0.f7))::((53,I x.1)::[(54,B x.2)])))) o_0 92))) (fun(x:Int)=>(.ret,(mkE [(2,I x)] [] 92))))) (fun y10a=>?_) (fun y10b=>?_)
         ·refine pH (zP (zS 20 19 (mkE (s_2.append [(7,B (eqI p0.f2 3))]) o_0 92) (gS 26 (gB 2 (zR 0 20 (sg 3 (mkE ((69,LL a64 p0.f7)::((68,.ba 8 7)::((67,B (eqI p0.f2 3))::(s_2.append [(7,B (eqI p0.f2 3))])))) o_0 92) (eo 70 (I (lenL p0.f7)) (lenE 45 a64 p0.f7) (zN (mkE (s_2.append ((7,B (eqI p0.f2 3))::[(66,B ((eqI p0.f2 3) != (eqI (lenL p0.f7) 0)))])) o_0 92) (gC 66 ((eqI p0.f2 3) != (eqI (lenL p0.f7) 0)) ?_ ?_)))))))))
          ·exact zF 0 21 (mkE [(2,I 3)] [] 92)
          ·refine zS 0 22 (mkE (s_2.append ((7,B (eqI p0.f2 3))::[(73,B (ltI 500 (lenS p0.f8)))])) o_0 92) (gC 73 (ltI 500 (lenS p0.f8)) ?_ ?_)
           ·exact zF 0 23 (mkE [(2,I 2)] [] 92)
           ·refine zR 0 24 (sg 2 (mkE s_1 o_0 92) (co 81 [] (h141 p0.f8) (fun x11=>?_)))
            refine sg 5 (mkE ((83,B (!x11))::((82,B (!x11))::((81,B x11)::s_1))) o_0 92) (sb 83 (!x11) ?_ ?_)
            ·exact zN (mkE [(78,B true)] [] 92) (gT (.tmp 78) (zF 0 25 (mkE [(2,I 3)] [] 92)))
            ·refine sg 9 (mkE ((87,B (eqS p0.f8 (ByteArray.mk #[])))::((86,B (eqS p0.f8 (ByteArray.mk #[])))::((85,S p0.f8)::((84,.ba 8 8)::((83,B false)::((83,B (!x11))::((82,B (!x11))::((81,B x11)::s_1)))))))) o_0 92) (sb 87 (eqS p0.f8 (ByteArray.mk #[])) ?_ ?_)
             ·refine zN (mkE [(78,B (!(eqI p0.f2 3)))] [] 92) (gC 78 (!(eqI p0.f2 3)) ?_ ?_)
              ·exact zF 0 25 (mkE [(2,I 3)] [] 92)
              ·exact gK (pB (zP (zF 0 26 (mkE [(2,I 0)] [] 92))))
             ·exact zN (mkE [(78,B false)] [] 92) (gF (.tmp 78) (gK (pB (zP (zF 0 26 (mkE [(2,I 0)] [] 92))))))
         ·exact pL
theorem F87(m:Nat)(hm:4≤m)(p0:S46):callA Tryz.prog cfg m 87 [a46 p0]=(T87 p0).map I:=by
 obtain⟨q,rfl⟩:=sucK hm
 exact(callA_body (fn:=Tryz.f87) (c:=body_ Tryz.f87) q _ (by kernel_rfl) (by kernel_rfl) (by kernel_rfl)).trans (B87 _ (fun p0=>F108 q (by omega) p0) (fun p0=>F121 q (by omega) p0) (fun p0=>F140 q (by omega) p0) (fun p0=>F141 q (by omega) p0) (fun p0 p1 p2=>F30 q (by omega) p0 p1 p2) (fun p0=>F31 q (by omega) p0) p0)
noncomputable def T163(p0:Int):Option Bool:=(some (neI p0 p0))
theorem B163(C:Callee)(p0:Int):rB C 163 Tryz.f163 (frame0 [I p0] 6 false) ((T163 p0).map B):=by
 unfold T163
 exact zS 1 0 (mkE [(0,I p0)] [] 6) (zF 0 1 (mkE [(2,B (neI p0 p0))] [] 6))
theorem F163(m:Nat)(hm:1≤m)(p0:Int):callA Tryz.prog cfg m 163 [I p0]=(T163 p0).map B:=by
 obtain⟨q,rfl⟩:=sucK hm
 exact(callA_bodyQ (fn:=Tryz.f163) (c:=body_ Tryz.f163) q _ (by kernel_rfl) (by kernel_rfl) (by kernel_rfl)).trans (B163 _ p0)
noncomputable def T135(p0:Int)(p1:Int):Option Int:=((T163 p0).bind fun x1=>((T163 p1).bind fun x2=>(bif x1 then(bif x2 then(some 0)else(some (-1)))else(bif x2 then(some 1)else(bif (ltI p0 p1)then(some (-1))else(bif (ltI p1 p0)then(some 1)else(some 0)))))))
theorem B135(C:Callee)(h163:∀(p0:Int),C 163 [I p0]=(T163 p0).map B)(p0:Int)(p1:Int):rB C 135 Tryz.f135 (frame0 [I p0,I p1] 20 false) ((T135 p0 p1).map I):=by
 unfold T135
 refine zS 1 0 (mkE [(0,I p0),(1,I p1)] [] 20) (zR 2 1 (sg 1 (mkE [(7,I p0),(0,I p0),(1,I p1)] [] 20) (co 8 [] (h163 p0) (fun x1=>?_))))
 refine zN (mkE [(0,I p0),(1,I p1),(5,B x1)] [] 20) (zR 3 2 (sg 1 (mkE [(9,I p1),(0,I p0),(1,I p1),(5,B x1)] [] 20) (co 10 [] (h163 p1) (fun x2=>?_))))
 refine zN (mkE [(0,I p0),(1,I p1),(5,B x1),(6,B x2)] [] 20) (gS 7 (zS 0 3 (mkE [(0,I p0),(1,I p1),(6,B x2),(11,B x1)] [] 20) (gC 11 x1 ?_ ?_)))
 ·refine gS 6 (zS 0 4 (mkE [(12,B x2)] [] 20) (gC 12 x2 ?_ ?_))
  ·exact zF 0 5 (mkE [(4,I 0)] [] 20)
  ·exact gK (zP (zF 0 6 (mkE [(4,I (-1))] [] 20)))
 ·refine gK (zP (gS 9 (zS 0 7 (mkE [(0,I p0),(1,I p1),(13,B x2)] [] 20) (gC 13 x2 ?_ ?_))))
  ·exact zF 0 8 (mkE [(4,I 1)] [] 20)
  ·refine gK (zP (gS 11 (zS 0 9 (mkE [(0,I p0),(1,I p1),(16,B (ltI p0 p1))] [] 20) (gC 16 (ltI p0 p1) ?_ ?_))))
   ·exact zF 0 10 (mkE [(4,I (-1))] [] 20)
   ·refine gK (zP (gS 13 (zS 0 11 (mkE [(19,B (ltI p1 p0))] [] 20) (gC 19 (ltI p1 p0) ?_ ?_))))
    ·exact zF 0 12 (mkE [(4,I 1)] [] 20)
    ·exact gK (zP (zF 0 13 (mkE [(4,I 0)] [] 20)))
theorem F135(m:Nat)(hm:2≤m)(p0:Int)(p1:Int):callA Tryz.prog cfg m 135 [I p0,I p1]=(T135 p0 p1).map I:=by
 obtain⟨q,rfl⟩:=sucK hm
 exact(callA_bodyQ (fn:=Tryz.f135) (c:=body_ Tryz.f135) q _ (by kernel_rfl) (by kernel_rfl) (by kernel_rfl)).trans (B135 _ (fun p0=>(guard_q (by kernel_rfl) _).trans (F163 q (by omega) p0)) p0 p1)
noncomputable def T38(p0:ByteArray)(p1:ByteArray):Option Int:=((some (cmpS p0 p1)).bind fun x1=>(some x1))
theorem B38(C:Callee)(h67:∀(p0:ByteArray)(p1:ByteArray),C 67 [S p0,S p1]=(some (cmpS p0 p1)).map I)(p0:ByteArray)(p1:ByteArray):rB C 38 Tryz.f38 (frame0 [S p0,S p1] 8 false) ((T38 p0 p1).map I):=by
 unfold T38
 refine zS 1 0 (mkE [(0,S p0),(1,S p1)] [] 8) (zR 0 1 (sg 2 (mkE [(6,S p1),(5,S p0),(0,S p0),(1,S p1)] [] 8) (co 7 [] (h67 p0 p1) (fun x1=>?_))))
 exact zE (mkE [(4,I x1)] [] 8)
theorem F38(m:Nat)(hm:2≤m)(p0:ByteArray)(p1:ByteArray):callA Tryz.prog cfg m 38 [S p0,S p1]=(T38 p0 p1).map I:=by
 obtain⟨q,rfl⟩:=sucK hm
 exact(callA_bodyQ (fn:=Tryz.f38) (c:=body_ Tryz.f38) q _ (by kernel_rfl) (by kernel_rfl) (by kernel_rfl)).trans (B38 _ (fun p0 p1=>(guard_q (by kernel_rfl) _).trans (F67 q (by omega) p0 p1)) p0 p1)
noncomputable def L37_3(p0:(List Int))(z0:Int):Option (Int⊕((Int×Bool)⊕Int)):=(bif (ltI z0 (lenL p0))then((listAt p0 z0).bind fun x1=>(bif (neI x1 0)then(some (.inr (.inr x1)))else(some (.inl (addI .i64 z0 1)))))else(some (.inr (.inl (z0,(ltI z0 (lenL p0)))))))
theorem L37_3_ok(C:Callee)(p0:(List Int))(z0:Int):rL C 37 Tryz.f37 3 [false,false,true,false,true,true] (fun z0:Int=>(mkE [(3,I 0),(6,LL I p0),(7,I (lenL p0)),(8,I z0)] [] 18)) (Sum.elim (fun(x:(Int×Bool))=>(.exit 0,(mkE [(3,I 0),(6,LL I p0),(7,I (lenL p0)),(8,I x.1),(9,B x.2)] [] 18))) (fun(x:Int)=>(.ret,(mkE [(2,I x)] [] 18)))) (L37_3 p0 z0) z0:=by
 unfold L37_3
 refine zS 0 3 (mkE [(3,I 0),(6,LL I p0),(7,I (lenL p0)),(8,I z0),(9,B (ltI z0 (lenL p0)))] [] 18) (gS 4 (gC 9 (ltI z0 (lenL p0)) ?_ ?_))
 ·refine gK (zP (gS 7 (gB 1 (zR 5 4 (vo 10 (addrE 22 3 1 I .i64 p0 z0) (fun x1=>?_))))))
  refine zN (mkE [(3,I 0),(5,I x1),(6,LL I p0),(7,I (lenL p0)),(8,I z0)] [] 18) (zS 0 5 (mkE [(3,I 0),(5,I x1),(6,LL I p0),(7,I (lenL p0)),(8,I z0),(14,B (neI x1 0))] [] 18) (gC 14 (neI x1 0) ?_ ?_))
  ·exact zF 0 6 (mkE [(2,I x1)] [] 18)
  ·exact gK (pB (zP (gR 7 (rg Tryz.f37 7) (se (mkE [(3,I 0),(6,LL I p0),(7,I (lenL p0)),(8,I (addI .i64 z0 1))] [] 18) (pL)))))
 ·exact gX 0 (pL)
noncomputable def T37(p0:(List Int)):Option Int:=((iter (L37_3 p0) 0).bind fun y2=>(Sum.elim (fun y2a=>(some 0)) (fun y2b=>(some y2b)) y2))
theorem B37(C:Callee)(p0:(List Int)):rB C 37 Tryz.f37 (frame0 [LL I p0] 18 false) ((T37 p0).map I):=by
 unfold T37
 refine zS 1 0 (mkE [(0,LL I p0)] [] 18) (zS 2 1 (mkE [(0,LL I p0),(3,I 0)] [] 18) (gS 8 (zR 3 2 (sg 1 (mkE [(6,LL I p0),(0,LL I p0),(3,I 0)] [] 18) (eo 7 (I (lenL p0)) (lenE 22 I p0) (zN (mkE [(3,I 0),(6,LL I p0),(7,I (lenL p0)),(8,I 0)] [] 18) (gB 0 (lo [(3,none),(6,none),(7,none),(8,none)] [] (L37_3 p0) (fun z0:Int=>(mkE [(3,I 0),(6,LL I p0),(7,I (lenL p0)),(8,I z0)] [] 18)) (Sum.elim (fun(x:(Int×Bool))=>(.exit 0,(mkE [(3,I 0),(6,LL I p0),(7,I (lenL p0)),(8,I x.1),(9,B x.2)] [] 18))) (fun(x:Int)=>(.ret,(mkE [(2,I x)] [] 18)))) 0 (fun z=>L37_3_ok C p0 z) ?_))))))))
 intro y2
 refine ss y2 (Z:=(Sum.elim (fun(x:(Int×Bool))=>(.exit 0,(mkE [(3,I 0),(6,LL I p0),(7,I (lenL p0)),(8,I x.1),(9,B x.2)] [] 18))) (fun(x:Int)=>(.ret,(mkE [(2,I x)] [] 18))))) (fun y2a=>?_) (fun y2b=>?_)
 ·exact pH (zP (zF 0 8 (mkE [(2,I 0)] [] 18)))
 ·exact pL
theorem F37(m:Nat)(hm:1≤m)(p0:(List Int)):callA Tryz.prog cfg m 37 [LL I p0]=(T37 p0).map I:=by
 obtain⟨q,rfl⟩:=sucK hm
 exact(callA_bodyQ (fn:=Tryz.f37) (c:=body_ Tryz.f37) q _ (by kernel_rfl) (by kernel_rfl) (by kernel_rfl)).trans (B37 _ p0)
noncomputable def T84(p0:S46)(p1:S46):Option Int:=((T135 p0.f4 p1.f4).bind fun x1=>((T38 p0.f0 p1.f0).bind fun x2=>((T37 ([x1,x2]:List Int)).bind fun x3=>(some x3))))
abbrev H135(C:Callee):Prop:=∀(p0:Int)(p1:Int),C 135 [I p0,I p1]=(T135 p0 p1).map I
abbrev H37(C:Callee):Prop:=∀(p0:(List Int)),C 37 [LL I p0]=(T37 p0).map I
abbrev H38(C:Callee):Prop:=∀(p0:ByteArray)(p1:ByteArray),C 38 [S p0,S p1]=(T38 p0 p1).map I
theorem B84(C:Callee)(h135:H135 C)(h37:H37 C)(h38:H38 C)(p0:S46)(p1:S46):rB C 84 Tryz.f84 (frame0 [a46 p0,a46 p1] 17 false) ((T84 p0 p1).map I):=by
 unfold T84
 let d_0:List (Option Nat×REff):=[(some 5,qe (.ba 16 4)),(some 6,qe (I p0.f4)),(some 7,qe (.ba 24 4)),(some 8,qe (I p1.f4))]
 let d_1:List (Option Nat×REff):=[(some 10,qe (.ba 16 0)),(some 11,qe (S p0.f0)),(some 12,qe (.ba 24 0)),(some 13,qe (S p1.f0))]
 let s_0:List (Nat×AV):=[(8,I p1.f4),(7,.ba 24 4),(6,I p0.f4),(5,.ba 16 4),(2,.ba 16 0),(3,.ba 24 0)]
 let o_0:List (Nat×AObj):=[(16,.box [S p0.f0,S p0.f1,I p0.f2,LL S p0.f3,I p0.f4,I p0.f5,I p0.f6,LL a64 p0.f7,S p0.f8] false),(24,.box [S p1.f0,S p1.f1,I p1.f2,LL S p1.f3,I p1.f4,I p1.f5,I p1.f6,LL a64 p1.f7,S p1.f8] false)]
 refine zS 1 0 (mkE [(2,.ba 16 0),(3,.ba 24 0)] o_0 17) (gS 0 (gD 1 13 (rg Tryz.f84 1) [0,1,2,3,4,5,6,7,8,9,10,11,12] (dg 4 d_0 (dc 9 [] (mkE s_0 o_0 17) (h135 p0.f4 p1.f4) (fun x1=>?_)))))
 refine dg 9 (d_0.append ((some 9,qe (I x1))::d_1)) (dc 14 [] (mkE ((13,S p1.f0)::((12,.ba 24 0)::((11,S p0.f0)::((10,.ba 16 0)::((9,I x1)::s_0))))) o_0 17) (h38 p0.f0 p1.f0) (fun x2=>?_))
 refine dg 11 (d_0.append ((some 9,qe (I x1))::(d_1.append ((some 14,qe (I x2))::[(some 15,{ e:={ val:= .own 120 0,news:=[(120,RR 3 1 I ([x1,x2]:List Int) 0 false)] } })])))) (dc 16 [120] (mkE ((15,.own 120 0)::((14,I x2)::((13,S p1.f0)::((12,.ba 24 0)::((11,S p0.f0)::((10,.ba 16 0)::((9,I x1)::s_0))))))) ((120,RR 3 1 I ([x1,x2]:List Int) 0 false)::o_0) 17) (h37 ([x1,x2]:List Int)) (fun x3=>?_))
 exact dg 13 (d_0.append ((some 9,qe (I x1))::(d_1.append ((some 14,qe (I x2))::((some 15,{ e:={ val:= .own 120 0,news:=[(120,RR 3 1 I ([x1,x2]:List Int) 0 false)] } })::((some 16,qe (I x3))::[(some 4,qe (I x3))])))))) (de (mkE ((4,I x3)::((16,I x3)::((15,.own 120 0)::((14,I x2)::((13,S p1.f0)::((12,.ba 24 0)::((11,S p0.f0)::((10,.ba 16 0)::((9,I x1)::s_0))))))))) ((120,RR 3 1 I ([x1,x2]:List Int) 0 false)::o_0) 17) (zE (mkE [(4,I x3)] [] 17)))
theorem F84(m:Nat)(hm:3≤m)(p0:S46)(p1:S46):callA Tryz.prog cfg m 84 [a46 p0,a46 p1]=(T84 p0 p1).map I:=by
 obtain⟨q,rfl⟩:=sucK hm
 exact(callA_bodyQ (fn:=Tryz.f84) (c:=body_ Tryz.f84) q _ (by kernel_rfl) (by kernel_rfl) (by kernel_rfl)).trans (B84 _ (fun p0 p1=>(guard_q (by kernel_rfl) _).trans (F135 q (by omega) p0 p1)) (fun p0=>(guard_q (by kernel_rfl) _).trans (F37 q (by omega) p0)) (fun p0 p1=>(guard_q (by kernel_rfl) _).trans (F38 q (by omega) p0 p1)) p0 p1)
noncomputable def L50_4(p0:(List S46))(z0:Int):Option (Int⊕((Int×Bool)⊕Int)):=(bif (ltI z0 (lenL p0))then((listAt p0 z0).bind fun x1=>((T87 x1).bind fun x2=>(bif (neI x2 0)then(some (.inr (.inr x2)))else(bif (ltI 0 z0)then((listAt p0 (subI .i64 z0 1)).bind fun x3=>((T84 x3 x1).bind fun x4=>(bif (leI 0 x4)then(some (.inr (.inr 7)))else(some (.inl (addI .i64 z0 1))))))else(some (.inl (addI .i64 z0 1)))))))else(some (.inr (.inl (z0,(ltI z0 (lenL p0)))))))
abbrev H84(C:Callee):Prop:=∀(p0:S46)(p1:S46),C 84 [a46 p0,a46 p1]=(T84 p0 p1).map I
abbrev H87(C:Callee):Prop:=∀(p0:S46),C 87 [a46 p0]=(T87 p0).map I
theorem L50_4_ok(C:Callee)(h84:H84 C)(h87:H87 C)(p0:(List S46))(z0:Int):rL C 50 Tryz.f50 4 [false,false,true,false,true,true] (fun z0:Int=>(mkE [(0,LL a46 p0),(12,LL a46 p0),(13,I (lenL p0)),(14,I z0)] [] 52)) (Sum.elim (fun(x:(Int×Bool))=>(.exit 0,(mkE [(0,LL a46 p0),(12,LL a46 p0),(13,I (lenL p0)),(14,I x.1),(15,B x.2)] [] 52))) (fun(x:Int)=>(.ret,(mkE [(2,I x)] [] 52)))) (L50_4 p0 z0) z0:=by
 unfold L50_4
 let d_0:List (Option Nat×REff):=[(some 24,qe (I z0)),(some 25,qe (B (ltI 0 z0))),(some 26,qe (B true)),(some 27,qe (LL a46 p0)),(some 28,qe (I z0)),(some 29,qe (I (subI .i64 z0 1)))]
 let s_0:List (Nat×AV):=[(12,LL a46 p0),(13,I (lenL p0)),(14,I z0)]
 let s_1:List (Nat×AV):=[(29,I (subI .i64 z0 1)),(28,I z0),(27,LL a46 p0),(26,B true),(25,B (ltI 0 z0)),(24,I z0),(0,LL a46 p0),(3,I z0),(4,.ba 32 0)]
 let s_2:List (Nat×AV):=[(0,LL a46 p0),(3,I z0),(4,.ba 32 0)]
 refine zS 0 4 (mkE ((0,LL a46 p0)::(s_0.append [(15,B (ltI z0 (lenL p0)))])) [] 52) (gS 5 (gC 15 (ltI z0 (lenL p0)) ?_ ?_))
 ·refine gK (zP (gS 11 (gB 1 (zR 6 5 (sg 1 (mkE ((16,I z0)::((0,LL a46 p0)::(s_0.append [(15,B (ltI z0 (lenL p0)))]))) [] 52) (vo 17 (addrE 26 47 9 a46 .i64 p0 z0) (fun x1=>?_)))))))
  refine zN (mkE (s_2.append s_0) [(32,.box [S x1.f0,S x1.f1,I x1.f2,LL S x1.f3,I x1.f4,I x1.f5,I x1.f6,LL a64 x1.f7,S x1.f8] false)] 52) (gS 9 (zR 7 6 (sg 1 (mkE ((19,a46 x1)::(s_2.append s_0)) [(32,.box [S x1.f0,S x1.f1,I x1.f2,LL S x1.f3,I x1.f4,I x1.f5,I x1.f6,LL a64 x1.f7,S x1.f8] false)] 52) (co 20 [] (h87 x1) (fun x2=>?_)))))
  refine zN (mkE (s_2.append ((5,I x2)::s_0)) [(32,.box [S x1.f0,S x1.f1,I x1.f2,LL S x1.f3,I x1.f4,I x1.f5,I x1.f6,LL a64 x1.f7,S x1.f8] false)] 52) (zS 0 7 (mkE (s_2.append ((5,I x2)::(s_0.append [(22,B (neI x2 0))]))) [(32,.box [S x1.f0,S x1.f1,I x1.f2,LL S x1.f3,I x1.f4,I x1.f5,I x1.f6,LL a64 x1.f7,S x1.f8] false)] 52) (gC 22 (neI x2 0) ?_ ?_))
  ·exact zF 0 8 (mkE [(2,I x2)] [] 52)
  ·refine gK (zP (gS 0 (gD 9 12 (rg Tryz.f50 9) [0,1,2,3,4,5,6,7,8,9,10,11] (dg 3 [(some 24,qe (I z0)),(some 25,qe (B (ltI 0 z0))),(some 26,qe (B (ltI 0 z0)))] (db 2 26 (ltI 0 z0) ?_ ?_)))))
   ·refine dg 6 d_0 (dv 30 (mkE (s_1.append ((5,I x2)::(s_0.append [(22,B (neI x2 0))]))) [(32,.box [S x1.f0,S x1.f1,I x1.f2,LL S x1.f3,I x1.f4,I x1.f5,I x1.f6,LL a64 x1.f7,S x1.f8] false)] 52) (addrE 26 47 9 a46 .i64 p0 (subI .i64 z0 1)) (fun x3=>?_))
    refine dg 9 (d_0.append ((some 30,qe (.ia [S x3.f0,S x3.f1,I x3.f2,LL S x3.f3,I x3.f4,I x3.f5,I x3.f6,LL a64 x3.f7,S x3.f8] 0))::((some 31,qe (a46 x3))::[(some 32,qe (a46 x1))]))) (dc 33 [] (mkE ((32,a46 x1)::((31,a46 x3)::((30,.ia [S x3.f0,S x3.f1,I x3.f2,LL S x3.f3,I x3.f4,I x3.f5,I x3.f6,LL a64 x3.f7,S x3.f8] 0)::(s_1.append ((5,I x2)::(s_0.append [(22,B (neI x2 0))])))))) [(32,.box [S x1.f0,S x1.f1,I x1.f2,LL S x1.f3,I x1.f4,I x1.f5,I x1.f6,LL a64 x1.f7,S x1.f8] false)] 52) (h84 x3 x1) (fun x4=>?_))
    refine dg 12 (d_0.append ((some 30,qe (.ia [S x3.f0,S x3.f1,I x3.f2,LL S x3.f3,I x3.f4,I x3.f5,I x3.f6,LL a64 x3.f7,S x3.f8] 0))::((some 31,qe (a46 x3))::((some 32,qe (a46 x1))::((some 33,qe (I x4))::((some 34,qe (B (leI 0 x4)))::[(some 35,qe (B (leI 0 x4)))])))))) (de (mkE ((35,B (leI 0 x4))::((34,B (leI 0 x4))::((33,I x4)::((32,a46 x1)::((31,a46 x3)::((30,.ia [S x3.f0,S x3.f1,I x3.f2,LL S x3.f3,I x3.f4,I x3.f5,I x3.f6,LL a64 x3.f7,S x3.f8] 0)::(s_1.append ((5,I x2)::(s_0.append [(22,B (neI x2 0))]))))))))) [(32,.box [S x1.f0,S x1.f1,I x1.f2,LL S x1.f3,I x1.f4,I x1.f5,I x1.f6,LL a64 x1.f7,S x1.f8] false)] 52) (zN (mkE ((0,LL a46 p0)::(s_0.append [(35,B (leI 0 x4))])) [] 52) (gC 35 (leI 0 x4) ?_ ?_)))
    ·exact zF 0 10 (mkE [(2,I 7)] [] 52)
    ·exact gK (pB (zP (gR 11 (rg Tryz.f50 11) (se (mkE [(0,LL a46 p0),(12,LL a46 p0),(13,I (lenL p0)),(14,I (addI .i64 z0 1))] [] 52) (pL)))))
   ·exact dg 12 [(some 24,qe (I z0)),(some 25,qe (B (ltI 0 z0))),(some 26,qe (B false)),(some 27,qe (.und)),(some 28,qe (.und)),(some 29,qe (.und)),(some 30,qe (.und)),(some 31,qe (.und)),(some 32,qe (.und)),(some 33,qe (.und)),(some 34,qe (.und)),(some 35,qe (B false))] (de (mkE ((35,B false)::((34,.und)::((33,.und)::((32,.und)::((31,.und)::((30,.und)::((29,.und)::((28,.und)::((27,.und)::((26,B false)::((25,B (ltI 0 z0))::((24,I z0)::(s_2.append ((5,I x2)::(s_0.append [(22,B (neI x2 0))]))))))))))))))) [(32,.box [S x1.f0,S x1.f1,I x1.f2,LL S x1.f3,I x1.f4,I x1.f5,I x1.f6,LL a64 x1.f7,S x1.f8] false)] 52) (zN (mkE ((0,LL a46 p0)::(s_0.append [(35,B false)])) [] 52) (gF (.tmp 35) (gK (pB (zP (gR 11 (rg Tryz.f50 11) (se (mkE [(0,LL a46 p0),(12,LL a46 p0),(13,I (lenL p0)),(14,I (addI .i64 z0 1))] [] 52) (pL)))))))))
 ·exact gX 0 (pL)
noncomputable def L50_14(p0:(List S46))(z1:((List (ByteArray×Bool))×Int)):Option (((List (ByteArray×Bool))×Int)⊕((Int×Bool×(List (ByteArray×Bool)))⊕Unit)):=(bif (ltI z1.2 (lenL p0))then((listAt p0 z1.2).bind fun x6=>(bif ((mgetB eqB z1.1 x6.f0).getD false)then(some (.inr (.inr ())))else((some (msetB eqB z1.1 x6.f0 true)).bind fun x7=>(some (.inl (x7,(addI .i64 z1.2 1)))))))else(some (.inr (.inl (z1.2,(ltI z1.2 (lenL p0)),z1.1)))))
theorem L50_14_ok(C:Callee)(p0:(List S46))(z1:((List (ByteArray×Bool))×Int)):rL C 50 Tryz.f50 14 [false,false,true,false,true,true,true,true] (fun z1:((List (ByteArray×Bool))×Int)=>(mkE [(6,.mr 48),(38,LL a46 p0),(39,I (lenL p0)),(40,I z1.2)] [(48,MP S B z1.1 false)] 52)) (Sum.elim (fun(x:(Int×Bool×(List (ByteArray×Bool))))=>(.exit 2,(mkE [(6,.mr 48),(38,LL a46 p0),(39,I (lenL p0)),(40,I x.1),(41,B x.2.1)] [(48,MP S B x.2.2 false)] 52))) (fun(x:Unit)=>(.ret,(mkE [(2,I 6)] [] 52)))) (L50_14 p0 z1) z1:=by
 unfold L50_14
 let s_0:List (Nat×AV):=[(6,.mr 48),(8,.ba 64 0),(38,LL a46 p0),(39,I (lenL p0)),(40,I z1.2)]
 refine zS 0 14 (mkE [(6,.mr 48),(38,LL a46 p0),(39,I (lenL p0)),(40,I z1.2),(41,B (ltI z1.2 (lenL p0)))] [(48,MP S B z1.1 false)] 52) (gS 15 (gC 41 (ltI z1.2 (lenL p0)) ?_ ?_))
 ·refine gK (zP (gS 19 (gB 3 (zR 16 15 (vo 42 (addrE 26 47 9 a46 .i64 p0 z1.2) (fun x6=>?_))))))
  refine zN (mkE s_0 [(48,MP S B z1.1 false),(64,.box [S x6.f0,S x6.f1,I x6.f2,LL S x6.f3,I x6.f4,I x6.f5,I x6.f6,LL a64 x6.f7,S x6.f8] false)] 52) (gS 18 (zR 0 16 (sg 3 (mkE ((46,S x6.f0)::((45,.ba 64 0)::((44,.mr 48)::s_0))) [(48,MP S B z1.1 false),(64,.box [S x6.f0,S x6.f1,I x6.f2,LL S x6.f3,I x6.f4,I x6.f5,I x6.f6,LL a64 x6.f7,S x6.f8] false)] 52) (eo 47 (B ((mgetB eqB z1.1 x6.f0).getD false)) (mapE 141 9 4 48 false S B eqB z1.1 x6.f0 false sameS) (zN (mkE (s_0.append [(47,B ((mgetB eqB z1.1 x6.f0).getD false))]) [(48,MP S B z1.1 false),(64,.box [S x6.f0,S x6.f1,I x6.f2,LL S x6.f3,I x6.f4,I x6.f5,I x6.f6,LL a64 x6.f7,S x6.f8] false)] 52) (gC 47 ((mgetB eqB z1.1 x6.f0).getD false) ?_ ?_))))))
  ·exact zF 0 17 (mkE [(2,I 6)] [] 52)
  ·refine gK (zP (gR 18 (rg Tryz.f50 18) (sg 3 (mkE ((50,S x6.f0)::((49,.ba 64 0)::((48,.mr 48)::(s_0.append [(47,B ((mgetB eqB z1.1 x6.f0).getD false))])))) [(48,MP S B z1.1 false),(64,.box [S x6.f0,S x6.f1,I x6.f2,LL S x6.f3,I x6.f4,I x6.f5,I x6.f6,LL a64 x6.f7,S x6.f8] false)] 52) (mo none (mapO_ 141 9 4 48 S B eqB z1.1 x6.f0 (B true) true [] sameS) (fun x7=>?_)))))
   exact se (mkE [(6,.mr 48),(38,LL a46 p0),(39,I (lenL p0)),(40,I z1.2)] [(48,MP S B x7 false)] 52) (pB (zP (gR 19 (rg Tryz.f50 19) (se (mkE [(6,.mr 48),(38,LL a46 p0),(39,I (lenL p0)),(40,I (addI .i64 z1.2 1))] [(48,MP S B x7 false)] 52) (pL)))))
 ·exact gX 2 (pL)
noncomputable def T50(p0:(List S46)):Option Int:=(bif (ltI 300 (lenL p0))then(some 2)else((iter (L50_4 p0) 0).bind fun y5=>(Sum.elim (fun y5a=>((iter (L50_14 p0) (([]:(List (ByteArray×Bool))),0)).bind fun y8=>(Sum.elim (fun y8a=>(some 0)) (fun y8b=>(some 6)) y8))) (fun y5b=>(some y5b)) y5)))
theorem B50(C:Callee)(h84:H84 C)(h87:H87 C)(p0:(List S46)):rB C 50 Tryz.f50 (frame0 [LL a46 p0] 52 false) ((T50 p0).map I):=by
 unfold T50
 let s_0:List (Nat×AV):=[(0,LL a46 p0),(12,LL a46 p0),(13,I (lenL p0))]
 refine zS 1 0 (mkE [(0,LL a46 p0)] [] 52) (gS 3 (zR 0 1 (sg 1 (mkE [(9,LL a46 p0),(0,LL a46 p0)] [] 52) (eo 10 (I (lenL p0)) (lenE 26 a46 p0) (zN (mkE [(0,LL a46 p0),(11,B (ltI 300 (lenL p0)))] [] 52) (gC 11 (ltI 300 (lenL p0)) ?_ ?_))))))
 ·exact zF 0 2 (mkE [(2,I 2)] [] 52)
 ·refine gK (zP (gS 12 (zR 4 3 (sg 1 (mkE [(12,LL a46 p0),(0,LL a46 p0),(11,B (ltI 300 (lenL p0)))] [] 52) (eo 13 (I (lenL p0)) (lenE 26 a46 p0) (zN (mkE (s_0.append [(14,I 0)]) [] 52) (gB 0 (lo [(0,none),(12,none),(13,none),(14,none)] [] (L50_4 p0) (fun z0:Int=>(mkE (s_0.append [(14,I z0)]) [] 52)) (Sum.elim (fun(x:(Int×Bool))=>(.exit 0,(mkE (s_0.append ((14,I x.1)::[(15,B x.2)])) [] 52))) (fun(x:Int)=>(.ret,(mkE [(2,I x)] [] 52)))) 0 (fun z=>L50_4_ok C h84 h87 p0 z) ?_))))))))
  intro y5
  refine ss y5 (Z:=(Sum.elim (fun(x:(Int×Bool))=>(.exit 0,(mkE (s_0.append ((14,I x.1)::[(15,B x.2)])) [] 52))) (fun(x:Int)=>(.ret,(mkE [(2,I x)] [] 52))))) (fun y5a=>?_) (fun y5b=>?_)
  ·refine pH (zP (zS 13 12 (mkE [(0,LL a46 p0),(6,.mr 296)] [(296,MP S B ([]:(List (ByteArray×Bool))) false)] 52) (gS 20 (zR 14 13 (sg 1 (mkE [(38,LL a46 p0),(0,LL a46 p0),(6,.mr 296)] [(296,MP S B ([]:(List (ByteArray×Bool))) false)] 52) (eo 39 (I (lenL p0)) (lenE 26 a46 p0) (zN (mkE [(6,.mr 296),(38,LL a46 p0),(39,I (lenL p0)),(40,I 0)] [(296,MP S B ([]:(List (ByteArray×Bool))) false)] 52) (gB 2 (lo [(6,none),(38,none),(39,none),(40,none)] [] (L50_14 p0) (fun z1:((List (ByteArray×Bool))×Int)=>(mkE [(6,.mr 48),(38,LL a46 p0),(39,I (lenL p0)),(40,I z1.2)] [(48,MP S B z1.1 false)] 52)) (Sum.elim (fun(x:(Int×Bool×(List (ByteArray×Bool))))=>(.exit 2,(mkE [(6,.mr 48),(38,LL a46 p0),(39,I (lenL p0)),(40,I x.1),(41,B x.2.1)] [(48,MP S B x.2.2 false)] 52))) (fun(x:Unit)=>(.ret,(mkE [(2,I 6)] [] 52)))) (([]:(List (ByteArray×Bool))),0) (fun z=>L50_14_ok C p0 z) ?_)))))))))
   intro y8
   refine ss y8 (Z:=(Sum.elim (fun(x:(Int×Bool×(List (ByteArray×Bool))))=>(.exit 2,(mkE [(6,.mr 48),(38,LL a46 p0),(39,I (lenL p0)),(40,I x.1),(41,B x.2.1)] [(48,MP S B x.2.2 false)] 52))) (fun(x:Unit)=>(.ret,(mkE [(2,I 6)] [] 52))))) (fun y8a=>?_) (fun y8b=>?_)
   ·exact pH (zP (zF 0 20 (mkE [(2,I 0)] [] 52)))
   ·exact pL
  ·exact pL
theorem F50(m:Nat)(hm:5≤m)(p0:(List S46)):callA Tryz.prog cfg m 50 [LL a46 p0]=(T50 p0).map I:=by
 obtain⟨q,rfl⟩:=sucK hm
 exact(callA_body (fn:=Tryz.f50) (c:=body_ Tryz.f50) q _ (by kernel_rfl) (by kernel_rfl) (by kernel_rfl)).trans (B50 _ (fun p0 p1=>F84 q (by omega) p0 p1) (fun p0=>F87 q (by omega) p0) p0)
noncomputable def L68_4(p0:(List S32))(z0:Int):Option (Int⊕((Int×Bool)⊕Int)):=(bif (ltI z0 (lenL p0))then((listAt p0 z0).bind fun x1=>((T108 x1.f0).bind fun x2=>(bif (!x2)then(some (.inr (.inr 5)))else((T30 x1.f1 (-100000) 100000).bind fun x3=>(bif x3 then(some (.inr (.inr 1)))else((T30 x1.f2 (-100000) 100000).bind fun x4=>(bif x4 then(some (.inr (.inr 1)))else(bif (ltI 0 z0)then((listAt p0 (subI .i64 z0 1)).bind fun x5=>(bif (ltS x1.f0 x5.f0||eqS x1.f0 x5.f0)then(some (.inr (.inr 7)))else(some (.inl (addI .i64 z0 1)))))else(some (.inl (addI .i64 z0 1)))))))))))else(some (.inr (.inl (z0,(ltI z0 (lenL p0)))))))
theorem L68_4_ok(C:Callee)(h108:H108 C)(h30:H30 C)(p0:(List S32))(z0:Int):rL C 68 Tryz.f68 4 [false,false,true,false,true,true] (fun z0:Int=>(mkE [(0,LL a32 p0),(8,LL a32 p0),(9,I (lenL p0)),(10,I z0)] [] 44)) (Sum.elim (fun(x:(Int×Bool))=>(.exit 0,(mkE [(0,LL a32 p0),(8,LL a32 p0),(9,I (lenL p0)),(10,I x.1),(11,B x.2)] [] 44))) (fun(x:Int)=>(.ret,(mkE [(2,I x)] [] 44)))) (L68_4 p0 z0) z0:=by
 unfold L68_4
 let d_0:List (Option Nat×REff):=[(some 30,qe (I z0)),(some 31,qe (B (ltI 0 z0)))]
 let s_0:List (Nat×AV):=[(0,LL a32 p0),(3,I z0),(4,.ba 32 0),(8,LL a32 p0),(9,I (lenL p0)),(10,I z0)]
 let s_1:List (Nat×AV):=[(0,LL a32 p0),(8,LL a32 p0),(9,I (lenL p0))]
 refine zS 0 4 (mkE (s_1.append ((10,I z0)::[(11,B (ltI z0 (lenL p0)))])) [] 44) (gS 5 (gC 11 (ltI z0 (lenL p0)) ?_ ?_))
 ·refine gK (zP (gS 12 (gB 1 (zR 6 5 (sg 1 (mkE ((12,I z0)::(s_1.append ((10,I z0)::[(11,B (ltI z0 (lenL p0)))]))) [] 44) (vo 13 (addrE 28 33 3 a32 .i64 p0 z0) (fun x1=>?_)))))))
  refine zN (mkE s_0 [(32,.box [S x1.f0,I x1.f1,I x1.f2] false)] 44) (gB 2 (zR 0 6 (sg 2 (mkE ((17,S x1.f0)::((16,.ba 32 0)::s_0)) [(32,.box [S x1.f0,I x1.f1,I x1.f2] false)] 44) (co 18 [] (h108 x1.f0) (fun x2=>?_)))))
  refine zN (mkE (s_0.append [(15,B (!x2))]) [(32,.box [S x1.f0,I x1.f1,I x1.f2] false)] 44) (gC 15 (!x2) ?_ ?_)
  ·exact zF 0 7 (mkE [(2,I 5)] [] 44)
  ·refine zR 0 8 (sg 2 (mkE ((22,I x1.f1)::((21,.ba 32 1)::(s_0.append [(15,B (!x2))]))) [(32,.box [S x1.f0,I x1.f1,I x1.f2] false)] 44) (co 23 [] (h30 x1.f1 (-100000) 100000) (fun x3=>?_)))
   refine sg 4 (mkE ((24,B x3)::((23,B x3)::((22,I x1.f1)::((21,.ba 32 1)::(s_0.append [(15,B (!x2))]))))) [(32,.box [S x1.f0,I x1.f1,I x1.f2] false)] 44) (sb 24 x3 ?_ ?_)
   ·exact zN (mkE (s_0.append [(20,B true)]) [(32,.box [S x1.f0,I x1.f1,I x1.f2] false)] 44) (gT (.tmp 20) (zF 0 9 (mkE [(2,I 1)] [] 44)))
   ·refine sg 6 (mkE ((26,I x1.f2)::((25,.ba 32 2)::((24,B false)::((24,B x3)::((23,B x3)::((22,I x1.f1)::((21,.ba 32 1)::(s_0.append [(15,B (!x2))])))))))) [(32,.box [S x1.f0,I x1.f1,I x1.f2] false)] 44) (co 27 [] (h30 x1.f2 (-100000) 100000) (fun x4=>?_))
    refine zN (mkE (s_0.append [(20,B x4)]) [(32,.box [S x1.f0,I x1.f1,I x1.f2] false)] 44) (gC 20 x4 ?_ ?_)
    ·exact zF 0 9 (mkE [(2,I 1)] [] 44)
    ·refine gS 0 (gD 10 14 (rg Tryz.f68 10) [0,1,2,3,4,5,6,7,8,9,10,11,12,13] (dg 3 (d_0.append [(some 32,qe (B (ltI 0 z0)))]) (db 2 32 (ltI 0 z0) ?_ ?_)))
     ·refine dg 8 (d_0.append ((some 32,qe (B true))::((some 33,qe (.ba 32 0))::((some 34,qe (S x1.f0))::((some 35,qe (LL a32 p0))::((some 36,qe (I z0))::[(some 37,qe (I (subI .i64 z0 1)))])))))) (dv 38 (mkE ((37,I (subI .i64 z0 1))::((36,I z0)::((35,LL a32 p0)::((32,B true)::((31,B (ltI 0 z0))::((30,I z0)::(s_0.append [(20,B x4)]))))))) [(32,.box [S x1.f0,I x1.f1,I x1.f2] false)] 44) (addrE 28 33 3 a32 .i64 p0 (subI .i64 z0 1)) (fun x5=>?_))
      refine dg 14 (d_0.append ((some 32,qe (B true))::((some 33,qe (.ba 32 0))::((some 34,qe (S x1.f0))::((some 35,qe (LL a32 p0))::((some 36,qe (I z0))::((some 37,qe (I (subI .i64 z0 1)))::((some 38,qe (.ia [S x5.f0,I x5.f1,I x5.f2] 0))::((some 39,qe (.ia [S x5.f0,I x5.f1,I x5.f2] 0))::((some 40,qe (S x5.f0))::((some 41,qe (B (ltS x1.f0 x5.f0||eqS x1.f0 x5.f0)))::((some 42,qe (B (ltS x1.f0 x5.f0||eqS x1.f0 x5.f0)))::[(some 29,qe (B (ltS x1.f0 x5.f0||eqS x1.f0 x5.f0)))])))))))))))) (de (mkE ((29,B (ltS x1.f0 x5.f0||eqS x1.f0 x5.f0))::((42,B (ltS x1.f0 x5.f0||eqS x1.f0 x5.f0))::((41,B (ltS x1.f0 x5.f0||eqS x1.f0 x5.f0))::((40,S x5.f0)::((39,.ia [S x5.f0,I x5.f1,I x5.f2] 0)::((38,.ia [S x5.f0,I x5.f1,I x5.f2] 0)::((37,I (subI .i64 z0 1))::((36,I z0)::((35,LL a32 p0)::((34,S x1.f0)::((33,.ba 32 0)::((32,B true)::((31,B (ltI 0 z0))::((30,I z0)::(s_0.append [(20,B x4)]))))))))))))))) [(32,.box [S x1.f0,I x1.f1,I x1.f2] false)] 44) (zN (mkE (s_1.append ((10,I z0)::[(29,B (ltS x1.f0 x5.f0||eqS x1.f0 x5.f0))])) [] 44) (gC 29 (ltS x1.f0 x5.f0||eqS x1.f0 x5.f0) ?_ ?_)))
      ·exact zF 0 11 (mkE [(2,I 7)] [] 44)
      ·exact gK (pB (pB (zP (gR 12 (rg Tryz.f68 12) (se (mkE (s_1.append [(10,I (addI .i64 z0 1))]) [] 44) (pL))))))
     ·exact dg 14 (d_0.append ((some 32,qe (B false))::((some 33,qe (.und))::((some 34,qe (.und))::((some 35,qe (.und))::((some 36,qe (.und))::((some 37,qe (.und))::((some 38,qe (.und))::((some 39,qe (.und))::((some 40,qe (.und))::((some 41,qe (.und))::((some 42,qe (B false))::[(some 29,qe (B false))])))))))))))) (de (mkE ((29,B false)::((42,B false)::((41,.und)::((40,.und)::((39,.und)::((38,.und)::((37,.und)::((36,.und)::((35,.und)::((34,.und)::((33,.und)::((32,B false)::((31,B (ltI 0 z0))::((30,I z0)::(s_0.append [(20,B x4)]))))))))))))))) [(32,.box [S x1.f0,I x1.f1,I x1.f2] false)] 44) (zN (mkE (s_1.append ((10,I z0)::[(29,B false)])) [] 44) (gF (.tmp 29) (gK (pB (pB (zP (gR 12 (rg Tryz.f68 12) (se (mkE (s_1.append [(10,I (addI .i64 z0 1))]) [] 44) (pL))))))))))
 ·exact gX 0 (pL)
noncomputable def T68(p0:(List S32)):Option Int:=(bif (ltI 500 (lenL p0))then(some 2)else((iter (L68_4 p0) 0).bind fun y6=>(Sum.elim (fun y6a=>(some 0)) (fun y6b=>(some y6b)) y6)))
theorem B68(C:Callee)(h108:H108 C)(h30:H30 C)(p0:(List S32)):rB C 68 Tryz.f68 (frame0 [LL a32 p0] 44 false) ((T68 p0).map I):=by
 unfold T68
 let s_0:List (Nat×AV):=[(0,LL a32 p0),(8,LL a32 p0),(9,I (lenL p0))]
 refine zS 1 0 (mkE [(0,LL a32 p0)] [] 44) (gS 3 (zR 0 1 (sg 1 (mkE [(5,LL a32 p0),(0,LL a32 p0)] [] 44) (eo 6 (I (lenL p0)) (lenE 28 a32 p0) (zN (mkE [(0,LL a32 p0),(7,B (ltI 500 (lenL p0)))] [] 44) (gC 7 (ltI 500 (lenL p0)) ?_ ?_))))))
 ·exact zF 0 2 (mkE [(2,I 2)] [] 44)
 ·refine gK (zP (gS 13 (zR 4 3 (sg 1 (mkE [(8,LL a32 p0),(0,LL a32 p0),(7,B (ltI 500 (lenL p0)))] [] 44) (eo 9 (I (lenL p0)) (lenE 28 a32 p0) (zN (mkE (s_0.append [(10,I 0)]) [] 44) (gB 0 (lo [(0,none),(8,none),(9,none),(10,none)] [] (L68_4 p0) (fun z0:Int=>(mkE (s_0.append [(10,I z0)]) [] 44)) (Sum.elim (fun(x:(Int×Bool))=>(.exit 0,(mkE (s_0.append ((10,I x.1)::[(11,B x.2)])) [] 44))) (fun(x:Int)=>(.ret,(mkE [(2,I x)] [] 44)))) 0 (fun z=>L68_4_ok C h108 h30 p0 z) ?_))))))))
  intro y6
  refine ss y6 (Z:=(Sum.elim (fun(x:(Int×Bool))=>(.exit 0,(mkE (s_0.append ((10,I x.1)::[(11,B x.2)])) [] 44))) (fun(x:Int)=>(.ret,(mkE [(2,I x)] [] 44))))) (fun y6a=>?_) (fun y6b=>?_)
  ·exact pH (zP (zF 0 13 (mkE [(2,I 0)] [] 44)))
  ·exact pL
theorem F68(m:Nat)(hm:2≤m)(p0:(List S32)):callA Tryz.prog cfg m 68 [LL a32 p0]=(T68 p0).map I:=by
 obtain⟨q,rfl⟩:=sucK hm
 exact(callA_body (fn:=Tryz.f68) (c:=body_ Tryz.f68) q _ (by kernel_rfl) (by kernel_rfl) (by kernel_rfl)).trans (B68 _ (fun p0=>F108 q (by omega) p0) (fun p0 p1 p2=>F30 q (by omega) p0 p1 p2) p0)
noncomputable def T39(p0:(List S46))(p1:(List S32)):Option Int:=((T50 p0).bind fun x1=>(bif (neI x1 0)then(some x1)else((T68 p1).bind fun x2=>(some x2))))
theorem B39(C:Callee)(h50:∀(p0:(List S46)),C 50 [LL a46 p0]=(T50 p0).map I)(h68:∀(p0:(List S32)),C 68 [LL a32 p0]=(T68 p0).map I)(p0:(List S46))(p1:(List S32)):rB C 39 Tryz.f39 (frame0 [LL a46 p0,LL a32 p1] 13 false) ((T39 p0 p1).map I):=by
 unfold T39
 refine zS 1 0 (mkE [(0,LL a46 p0),(1,LL a32 p1)] [] 13) (gS 4 (zR 2 1 (sg 1 (mkE [(6,LL a46 p0),(0,LL a46 p0),(1,LL a32 p1)] [] 13) (co 7 [] (h50 p0) (fun x1=>?_)))))
 refine zN (mkE [(1,LL a32 p1),(5,I x1)] [] 13) (zS 0 2 (mkE [(1,LL a32 p1),(5,I x1),(9,B (neI x1 0))] [] 13) (gC 9 (neI x1 0) ?_ ?_))
 ·exact zF 0 3 (mkE [(4,I x1)] [] 13)
 ·refine gK (zP (zR 0 4 (sg 1 (mkE [(11,LL a32 p1),(1,LL a32 p1),(5,I x1),(9,B (neI x1 0))] [] 13) (co 12 [] (h68 p1) (fun x2=>?_)))))
  exact zE (mkE [(4,I x2)] [] 13)
theorem F39(m:Nat)(hm:6≤m)(p0:(List S46))(p1:(List S32)):callA Tryz.prog cfg m 39 [LL a46 p0,LL a32 p1]=(T39 p0 p1).map I:=by
 obtain⟨q,rfl⟩:=sucK hm
 exact(callA_body (fn:=Tryz.f39) (c:=body_ Tryz.f39) q _ (by kernel_rfl) (by kernel_rfl) (by kernel_rfl)).trans (B39 _ (fun p0=>F50 q (by omega) p0) (fun p0=>F68 q (by omega) p0) p0 p1)
noncomputable def T151(p0:Bool):Option Int:=(bif p0 then(some 1)else(some 0))
theorem B151(C:Callee)(p0:Bool):rB C 151 Tryz.f151 (frame0 [B p0] 4 false) ((T151 p0).map I):=by
 unfold T151
 refine zS 1 0 (mkE [(0,B p0)] [] 4) (gS 3 (zS 0 1 (mkE [(3,B p0)] [] 4) (gC 3 p0 ?_ ?_)))
 ·exact zF 0 2 (mkE [(2,I 1)] [] 4)
 ·exact gK (zP (zF 0 3 (mkE [(2,I 0)] [] 4)))
theorem F151(m:Nat)(hm:1≤m)(p0:Bool):callA Tryz.prog cfg m 151 [B p0]=(T151 p0).map I:=by
 obtain⟨q,rfl⟩:=sucK hm
 exact(callA_bodyQ (fn:=Tryz.f151) (c:=body_ Tryz.f151) q _ (by kernel_rfl) (by kernel_rfl) (by kernel_rfl)).trans (B151 _ p0)
noncomputable def T109(p0:S36)(p1:S36):Option Int:=((T38 p0.f0 p1.f0).bind fun x1=>((T38 p0.f1 p1.f1).bind fun x2=>((T151 p0.f3).bind fun x3=>((T151 p1.f3).bind fun x4=>((T135 x3 x4).bind fun x5=>((T37 ([x1,x2,x5]:List Int)).bind fun x6=>(some x6)))))))
theorem B109(C:Callee)(h135:H135 C)(h151:∀(p0:Bool),C 151 [B p0]=(T151 p0).map I)(h37:H37 C)(h38:H38 C)(p0:S36)(p1:S36):rB C 109 Tryz.f109 (frame0 [a36 p0,a36 p1] 24 false) ((T109 p0 p1).map I):=by
 unfold T109
 let d_0:List (Option Nat×REff):=[(some 5,qe (.ba 16 0)),(some 6,qe (S p0.f0)),(some 7,qe (.ba 24 0)),(some 8,qe (S p1.f0))]
 let d_1:List (Option Nat×REff):=[(some 10,qe (.ba 16 1)),(some 11,qe (S p0.f1)),(some 12,qe (.ba 24 1)),(some 13,qe (S p1.f1))]
 let d_2:List (Option Nat×REff):=[(some 15,qe (.ba 16 3)),(some 16,qe (B p0.f3))]
 let s_0:List (Nat×AV):=[(8,S p1.f0),(7,.ba 24 0),(6,S p0.f0),(5,.ba 16 0),(2,.ba 16 0),(3,.ba 24 0)]
 let s_1:List (Nat×AV):=[(13,S p1.f1),(12,.ba 24 1),(11,S p0.f1),(10,.ba 16 1)]
 let o_0:List (Nat×AObj):=[(16,.box [S p0.f0,S p0.f1,I p0.f2,B p0.f3] false),(24,.box [S p1.f0,S p1.f1,I p1.f2,B p1.f3] false)]
 refine zS 1 0 (mkE [(2,.ba 16 0),(3,.ba 24 0)] o_0 24) (gS 0 (gD 1 20 (rg Tryz.f109 1) [0,1,2,3,4,5,6,7,8,9,10,11,12,13,14,15,16,17,18,19] (dg 4 d_0 (dc 9 [] (mkE s_0 o_0 24) (h38 p0.f0 p1.f0) (fun x1=>?_)))))
 refine dg 9 (d_0.append ((some 9,qe (I x1))::d_1)) (dc 14 [] (mkE (s_1.append ((9,I x1)::s_0)) o_0 24) (h38 p0.f1 p1.f1) (fun x2=>?_))
 refine dg 12 (d_0.append ((some 9,qe (I x1))::(d_1.append ((some 14,qe (I x2))::d_2)))) (dc 17 [] (mkE ((16,B p0.f3)::((15,.ba 16 3)::((14,I x2)::(s_1.append ((9,I x1)::s_0))))) o_0 24) (h151 p0.f3) (fun x3=>?_))
 refine dg 15 (d_0.append ((some 9,qe (I x1))::(d_1.append ((some 14,qe (I x2))::(d_2.append ((some 17,qe (I x3))::((some 18,qe (.ba 24 3))::[(some 19,qe (B p1.f3))]))))))) (dc 20 [] (mkE ((19,B p1.f3)::((18,.ba 24 3)::((17,I x3)::((16,B p0.f3)::((15,.ba 16 3)::((14,I x2)::(s_1.append ((9,I x1)::s_0)))))))) o_0 24) (h151 p1.f3) (fun x4=>?_))
 refine dc 21 [] (mkE ((20,I x4)::((19,B p1.f3)::((18,.ba 24 3)::((17,I x3)::((16,B p0.f3)::((15,.ba 16 3)::((14,I x2)::(s_1.append ((9,I x1)::s_0))))))))) o_0 24) (h135 x3 x4) (fun x5=>?_)
 refine dg 18 (d_0.append ((some 9,qe (I x1))::(d_1.append ((some 14,qe (I x2))::(d_2.append ((some 17,qe (I x3))::((some 18,qe (.ba 24 3))::((some 19,qe (B p1.f3))::((some 20,qe (I x4))::((some 21,qe (I x5))::[(some 22,{ e:={ val:= .own 176 0,news:=[(176,RR 3 1 I ([x1,x2,x5]:List Int) 0 false)] } })])))))))))) (dc 23 [176] (mkE ((22,.own 176 0)::((21,I x5)::((20,I x4)::((19,B p1.f3)::((18,.ba 24 3)::((17,I x3)::((16,B p0.f3)::((15,.ba 16 3)::((14,I x2)::(s_1.append ((9,I x1)::s_0))))))))))) ((176,RR 3 1 I ([x1,x2,x5]:List Int) 0 false)::o_0) 24) (h37 ([x1,x2,x5]:List Int)) (fun x6=>?_))
 exact dg 20 (d_0.append ((some 9,qe (I x1))::(d_1.append ((some 14,qe (I x2))::(d_2.append ((some 17,qe (I x3))::((some 18,qe (.ba 24 3))::((some 19,qe (B p1.f3))::((some 20,qe (I x4))::((some 21,qe (I x5))::((some 22,{ e:={ val:= .own 176 0,news:=[(176,RR 3 1 I ([x1,x2,x5]:List Int) 0 false)] } })::((some 23,qe (I x6))::[(some 4,qe (I x6))])))))))))))) (de (mkE ((4,I x6)::((23,I x6)::((22,.own 176 0)::((21,I x5)::((20,I x4)::((19,B p1.f3)::((18,.ba 24 3)::((17,I x3)::((16,B p0.f3)::((15,.ba 16 3)::((14,I x2)::(s_1.append ((9,I x1)::s_0))))))))))))) ((176,RR 3 1 I ([x1,x2,x5]:List Int) 0 false)::o_0) 24) (zE (mkE [(4,I x6)] [] 24)))
theorem F109(m:Nat)(hm:3≤m)(p0:S36)(p1:S36):callA Tryz.prog cfg m 109 [a36 p0,a36 p1]=(T109 p0 p1).map I:=by
 obtain⟨q,rfl⟩:=sucK hm
 exact(callA_bodyQ (fn:=Tryz.f109) (c:=body_ Tryz.f109) q _ (by kernel_rfl) (by kernel_rfl) (by kernel_rfl)).trans (B109 _ (fun p0 p1=>(guard_q (by kernel_rfl) _).trans (F135 q (by omega) p0 p1)) (fun p0=>(guard_q (by kernel_rfl) _).trans (F151 q (by omega) p0)) (fun p0=>(guard_q (by kernel_rfl) _).trans (F37 q (by omega) p0)) (fun p0 p1=>(guard_q (by kernel_rfl) _).trans (F38 q (by omega) p0 p1)) p0 p1)
noncomputable def L64_4(p0:(List S36))(z0:Int):Option (Int⊕((Int×Bool)⊕Int)):=(bif (ltI z0 (lenL p0))then((listAt p0 z0).bind fun x1=>((T108 x1.f0).bind fun x2=>(bif (!x2)then(some (.inr (.inr 5)))else((T108 x1.f1).bind fun x3=>(bif (!x3)then(some (.inr (.inr 5)))else((T31 x1.f2).bind fun x4=>(bif (!x4)then(some (.inr (.inr 1)))else(bif (ltI 0 z0)then((listAt p0 (subI .i64 z0 1)).bind fun x5=>((T109 x5 x1).bind fun x6=>(bif (leI 0 x6)then(some (.inr (.inr 7)))else(some (.inl (addI .i64 z0 1))))))else(some (.inl (addI .i64 z0 1)))))))))))else(some (.inr (.inl (z0,(ltI z0 (lenL p0)))))))
abbrev H109(C:Callee):Prop:=∀(p0:S36)(p1:S36),C 109 [a36 p0,a36 p1]=(T109 p0 p1).map I
theorem L64_4_ok(C:Callee)(h108:H108 C)(h109:H109 C)(h31:H31 C)(p0:(List S36))(z0:Int):rL C 64 Tryz.f64 4 [false,false,true,false,true,true] (fun z0:Int=>(mkE [(0,LL a36 p0),(8,LL a36 p0),(9,I (lenL p0)),(10,I z0)] [] 45)) (Sum.elim (fun(x:(Int×Bool))=>(.exit 0,(mkE [(0,LL a36 p0),(8,LL a36 p0),(9,I (lenL p0)),(10,I x.1),(11,B x.2)] [] 45))) (fun(x:Int)=>(.ret,(mkE [(2,I x)] [] 45)))) (L64_4 p0 z0) z0:=by
 unfold L64_4
 let d_0:List (Option Nat×REff):=[(some 32,qe (I z0)),(some 33,qe (B (ltI 0 z0))),(some 34,qe (B true)),(some 35,qe (LL a36 p0)),(some 36,qe (I z0)),(some 37,qe (I (subI .i64 z0 1)))]
 let s_0:List (Nat×AV):=[(0,LL a36 p0),(3,I z0),(4,.ba 32 0),(8,LL a36 p0),(9,I (lenL p0)),(10,I z0)]
 let s_1:List (Nat×AV):=[(0,LL a36 p0),(8,LL a36 p0),(9,I (lenL p0))]
 let s_2:List (Nat×AV):=[(37,I (subI .i64 z0 1)),(36,I z0),(35,LL a36 p0),(34,B true),(33,B (ltI 0 z0)),(32,I z0)]
 refine zS 0 4 (mkE (s_1.append ((10,I z0)::[(11,B (ltI z0 (lenL p0)))])) [] 45) (gS 5 (gC 11 (ltI z0 (lenL p0)) ?_ ?_))
 ·refine gK (zP (gS 12 (gB 1 (zR 6 5 (sg 1 (mkE ((12,I z0)::(s_1.append ((10,I z0)::[(11,B (ltI z0 (lenL p0)))]))) [] 45) (vo 13 (addrE 31 37 4 a36 .i64 p0 z0) (fun x1=>?_)))))))
  refine zN (mkE s_0 [(32,.box [S x1.f0,S x1.f1,I x1.f2,B x1.f3] false)] 45) (gB 2 (zR 0 6 (sg 2 (mkE ((17,S x1.f0)::((16,.ba 32 0)::s_0)) [(32,.box [S x1.f0,S x1.f1,I x1.f2,B x1.f3] false)] 45) (co 18 [] (h108 x1.f0) (fun x2=>?_)))))
  refine sg 5 (mkE ((20,B (!x2))::((19,B (!x2))::((18,B x2)::((17,S x1.f0)::((16,.ba 32 0)::s_0))))) [(32,.box [S x1.f0,S x1.f1,I x1.f2,B x1.f3] false)] 45) (sb 20 (!x2) ?_ ?_)
  ·exact zN (mkE (s_0.append [(15,B true)]) [(32,.box [S x1.f0,S x1.f1,I x1.f2,B x1.f3] false)] 45) (gT (.tmp 15) (zF 0 7 (mkE [(2,I 5)] [] 45)))
  ·refine sg 7 (mkE ((22,S x1.f1)::((21,.ba 32 1)::((20,B false)::((20,B (!x2))::((19,B (!x2))::((18,B x2)::((17,S x1.f0)::((16,.ba 32 0)::s_0)))))))) [(32,.box [S x1.f0,S x1.f1,I x1.f2,B x1.f3] false)] 45) (co 23 [] (h108 x1.f1) (fun x3=>?_))
   refine zN (mkE (s_0.append [(15,B (!x3))]) [(32,.box [S x1.f0,S x1.f1,I x1.f2,B x1.f3] false)] 45) (gC 15 (!x3) ?_ ?_)
   ·exact zF 0 7 (mkE [(2,I 5)] [] 45)
   ·refine zR 0 8 (sg 2 (mkE ((28,I x1.f2)::((27,.ba 32 2)::(s_0.append [(15,B (!x3))]))) [(32,.box [S x1.f0,S x1.f1,I x1.f2,B x1.f3] false)] 45) (co 29 [] (h31 x1.f2) (fun x4=>?_)))
    refine zN (mkE (s_0.append [(26,B (!x4))]) [(32,.box [S x1.f0,S x1.f1,I x1.f2,B x1.f3] false)] 45) (gC 26 (!x4) ?_ ?_)
    ·exact zF 0 9 (mkE [(2,I 1)] [] 45)
    ·refine gS 0 (gD 10 13 (rg Tryz.f64 10) [0,1,2,3,4,5,6,7,8,9,10,11,12] (dg 3 [(some 32,qe (I z0)),(some 33,qe (B (ltI 0 z0))),(some 34,qe (B (ltI 0 z0)))] (db 2 34 (ltI 0 z0) ?_ ?_)))
     ·refine dg 6 d_0 (dv 38 (mkE (s_2.append (s_0.append [(26,B (!x4))])) [(32,.box [S x1.f0,S x1.f1,I x1.f2,B x1.f3] false)] 45) (addrE 31 37 4 a36 .i64 p0 (subI .i64 z0 1)) (fun x5=>?_))
      refine dg 9 (d_0.append ((some 38,qe (.ia [S x5.f0,S x5.f1,I x5.f2,B x5.f3] 0))::((some 39,qe (a36 x5))::[(some 40,qe (a36 x1))]))) (dc 41 [] (mkE ((40,a36 x1)::((39,a36 x5)::((38,.ia [S x5.f0,S x5.f1,I x5.f2,B x5.f3] 0)::(s_2.append (s_0.append [(26,B (!x4))]))))) [(32,.box [S x1.f0,S x1.f1,I x1.f2,B x1.f3] false)] 45) (h109 x5 x1) (fun x6=>?_))
      refine dg 13 (d_0.append ((some 38,qe (.ia [S x5.f0,S x5.f1,I x5.f2,B x5.f3] 0))::((some 39,qe (a36 x5))::((some 40,qe (a36 x1))::((some 41,qe (I x6))::((some 42,qe (B (leI 0 x6)))::((some 43,qe (B (leI 0 x6)))::[(some 31,qe (B (leI 0 x6)))]))))))) (de (mkE ((31,B (leI 0 x6))::((43,B (leI 0 x6))::((42,B (leI 0 x6))::((41,I x6)::((40,a36 x1)::((39,a36 x5)::((38,.ia [S x5.f0,S x5.f1,I x5.f2,B x5.f3] 0)::(s_2.append (s_0.append [(26,B (!x4))]))))))))) [(32,.box [S x1.f0,S x1.f1,I x1.f2,B x1.f3] false)] 45) (zN (mkE (s_1.append ((10,I z0)::[(31,B (leI 0 x6))])) [] 45) (gC 31 (leI 0 x6) ?_ ?_)))
      ·exact zF 0 11 (mkE [(2,I 7)] [] 45)
      ·exact gK (pB (pB (zP (gR 12 (rg Tryz.f64 12) (se (mkE (s_1.append [(10,I (addI .i64 z0 1))]) [] 45) (pL))))))
     ·exact dg 13 [(some 32,qe (I z0)),(some 33,qe (B (ltI 0 z0))),(some 34,qe (B false)),(some 35,qe (.und)),(some 36,qe (.und)),(some 37,qe (.und)),(some 38,qe (.und)),(some 39,qe (.und)),(some 40,qe (.und)),(some 41,qe (.und)),(some 42,qe (.und)),(some 43,qe (B false)),(some 31,qe (B false))] (de (mkE ((31,B false)::((43,B false)::((42,.und)::((41,.und)::((40,.und)::((39,.und)::((38,.und)::((37,.und)::((36,.und)::((35,.und)::((34,B false)::((33,B (ltI 0 z0))::((32,I z0)::(s_0.append [(26,B (!x4))])))))))))))))) [(32,.box [S x1.f0,S x1.f1,I x1.f2,B x1.f3] false)] 45) (zN (mkE (s_1.append ((10,I z0)::[(31,B false)])) [] 45) (gF (.tmp 31) (gK (pB (pB (zP (gR 12 (rg Tryz.f64 12) (se (mkE (s_1.append [(10,I (addI .i64 z0 1))]) [] 45) (pL))))))))))
 ·exact gX 0 (pL)
noncomputable def T64(p0:(List S36)):Option Int:=(bif (ltI 2000 (lenL p0))then(some 2)else((iter (L64_4 p0) 0).bind fun y7=>(Sum.elim (fun y7a=>(some 0)) (fun y7b=>(some y7b)) y7)))
theorem B64(C:Callee)(h108:H108 C)(h109:H109 C)(h31:H31 C)(p0:(List S36)):rB C 64 Tryz.f64 (frame0 [LL a36 p0] 45 false) ((T64 p0).map I):=by
 unfold T64
 let s_0:List (Nat×AV):=[(0,LL a36 p0),(8,LL a36 p0),(9,I (lenL p0))]
 refine zS 1 0 (mkE [(0,LL a36 p0)] [] 45) (gS 3 (zR 0 1 (sg 1 (mkE [(5,LL a36 p0),(0,LL a36 p0)] [] 45) (eo 6 (I (lenL p0)) (lenE 31 a36 p0) (zN (mkE [(0,LL a36 p0),(7,B (ltI 2000 (lenL p0)))] [] 45) (gC 7 (ltI 2000 (lenL p0)) ?_ ?_))))))
 ·exact zF 0 2 (mkE [(2,I 2)] [] 45)
 ·refine gK (zP (gS 13 (zR 4 3 (sg 1 (mkE [(8,LL a36 p0),(0,LL a36 p0),(7,B (ltI 2000 (lenL p0)))] [] 45) (eo 9 (I (lenL p0)) (lenE 31 a36 p0) (zN (mkE (s_0.append [(10,I 0)]) [] 45) (gB 0 (lo [(0,none),(8,none),(9,none),(10,none)] [] (L64_4 p0) (fun z0:Int=>(mkE (s_0.append [(10,I z0)]) [] 45)) (Sum.elim (fun(x:(Int×Bool))=>(.exit 0,(mkE (s_0.append ((10,I x.1)::[(11,B x.2)])) [] 45))) (fun(x:Int)=>(.ret,(mkE [(2,I x)] [] 45)))) 0 (fun z=>L64_4_ok C h108 h109 h31 p0 z) ?_))))))))
  intro y7
  refine ss y7 (Z:=(Sum.elim (fun(x:(Int×Bool))=>(.exit 0,(mkE (s_0.append ((10,I x.1)::[(11,B x.2)])) [] 45))) (fun(x:Int)=>(.ret,(mkE [(2,I x)] [] 45))))) (fun y7a=>?_) (fun y7b=>?_)
  ·exact pH (zP (zF 0 13 (mkE [(2,I 0)] [] 45)))
  ·exact pL
theorem F64(m:Nat)(hm:4≤m)(p0:(List S36)):callA Tryz.prog cfg m 64 [LL a36 p0]=(T64 p0).map I:=by
 obtain⟨q,rfl⟩:=sucK hm
 exact(callA_body (fn:=Tryz.f64) (c:=body_ Tryz.f64) q _ (by kernel_rfl) (by kernel_rfl) (by kernel_rfl)).trans (B64 _ (fun p0=>F108 q (by omega) p0) (fun p0 p1=>F109 q (by omega) p0 p1) (fun p0=>F31 q (by omega) p0) p0)
noncomputable def T29(p0:(List S46))(p1:(List S32))(p2:(List S36)):Option Int:=((T39 p0 p1).bind fun x1=>(bif (neI x1 0)then(some x1)else((T64 p2).bind fun x2=>(some x2))))
abbrev H39(C:Callee):Prop:=∀(p0:(List S46))(p1:(List S32)),C 39 [LL a46 p0,LL a32 p1]=(T39 p0 p1).map I
theorem B29(C:Callee)(h39:H39 C)(h64:∀(p0:(List S36)),C 64 [LL a36 p0]=(T64 p0).map I)(p0:(List S46))(p1:(List S32))(p2:(List S36)):rB C 29 Tryz.f29 (frame0 [LL a46 p0,LL a32 p1,LL a36 p2] 16 false) ((T29 p0 p1 p2).map I):=by
 unfold T29
 refine zS 1 0 (mkE [(0,LL a46 p0),(1,LL a32 p1),(2,LL a36 p2)] [] 16) (gS 4 (zR 2 1 (sg 2 (mkE [(9,LL a32 p1),(8,LL a46 p0),(0,LL a46 p0),(1,LL a32 p1),(2,LL a36 p2)] [] 16) (co 10 [] (h39 p0 p1) (fun x1=>?_)))))
 refine zN (mkE [(2,LL a36 p2),(7,I x1)] [] 16) (zS 0 2 (mkE [(2,LL a36 p2),(7,I x1),(12,B (neI x1 0))] [] 16) (gC 12 (neI x1 0) ?_ ?_))
 ·exact zF 0 3 (mkE [(6,I x1)] [] 16)
 ·refine gK (zP (zR 0 4 (sg 1 (mkE [(14,LL a36 p2),(2,LL a36 p2),(7,I x1),(12,B (neI x1 0))] [] 16) (co 15 [] (h64 p2) (fun x2=>?_)))))
  exact zE (mkE [(6,I x2)] [] 16)
theorem F29(m:Nat)(hm:7≤m)(p0:(List S46))(p1:(List S32))(p2:(List S36)):callA Tryz.prog cfg m 29 [LL a46 p0,LL a32 p1,LL a36 p2]=(T29 p0 p1 p2).map I:=by
 obtain⟨q,rfl⟩:=sucK hm
 exact(callA_body (fn:=Tryz.f29) (c:=body_ Tryz.f29) q _ (by kernel_rfl) (by kernel_rfl) (by kernel_rfl)).trans (B29 _ (fun p0 p1=>F39 q (by omega) p0 p1) (fun p0=>F64 q (by omega) p0) p0 p1 p2)
noncomputable def L32_3(p0:(List S36))(p1:Int)(z0:((List (S77×Int))×Int)):Option (((List (S77×Int))×Int)⊕(Int×Bool×(List (S77×Int)))):=(bif (ltI z0.2 (lenL p0))then((listAt p0 z0.2).bind fun x1=>(bif (leI x1.f2 p1)then(bif (!(mgetB (fun a b:S77=>allB [eqB a.f0 b.f0,eqB a.f1 b.f1]) z0.1 (S77.mk x1.f0 x1.f1)).isSome)then((some (msetB (fun a b:S77=>allB [eqB a.f0 b.f0,eqB a.f1 b.f1]) z0.1 (S77.mk x1.f0 x1.f1) x1.f2)).bind fun x2=>(some (.inl (x2,(addI .i64 z0.2 1)))))else(bif (ltI x1.f2 ((mgetB (fun a b:S77=>allB [eqB a.f0 b.f0,eqB a.f1 b.f1]) z0.1 (S77.mk x1.f0 x1.f1)).getD 0))then((some (msetB (fun a b:S77=>allB [eqB a.f0 b.f0,eqB a.f1 b.f1]) z0.1 (S77.mk x1.f0 x1.f1) x1.f2)).bind fun x3=>(some (.inl (x3,(addI .i64 z0.2 1)))))else(some (.inl (z0.1,(addI .i64 z0.2 1))))))else(some (.inl (z0.1,(addI .i64 z0.2 1))))))else(some (.inr (z0.2,(ltI z0.2 (lenL p0)),z0.1))))
theorem L32_3_ok(C:Callee)(p0:(List S36))(p1:Int)(z0:((List (S77×Int))×Int)):rL C 32 Tryz.f32 3 [false,false,true,false,true,true] (fun z0:((List (S77×Int))×Int)=>(mkE [(1,I p1),(5,.mr 40),(12,LL a36 p0),(13,I (lenL p0)),(14,I z0.2)] [(40,MP a77 I z0.1 false)] 49)) (fun(x:(Int×Bool×(List (S77×Int))))=>(.exit 0,(mkE [(1,I p1),(5,.mr 40),(12,LL a36 p0),(13,I (lenL p0)),(14,I x.1),(15,B x.2.1)] [(40,MP a77 I x.2.2 false)] 49))) (L32_3 p0 p1 z0) z0:=by
 unfold L32_3
 let s_0:List (Nat×AV):=[(1,I p1),(5,.mr 40),(7,.ba 56 0),(8,.ba 64 0),(12,LL a36 p0),(13,I (lenL p0)),(14,I z0.2)]
 let s_1:List (Nat×AV):=[(1,I p1),(5,.mr 40),(12,LL a36 p0),(13,I (lenL p0))]
 let s_2:List (Nat×AV):=[(12,LL a36 p0),(13,I (lenL p0)),(14,I z0.2)]
 let o_0:List (Nat×AObj):=[(40,MP a77 I z0.1 false)]
 refine zS 0 3 (mkE (s_1.append ((14,I z0.2)::[(15,B (ltI z0.2 (lenL p0)))])) o_0 49) (gS 4 (gC 15 (ltI z0.2 (lenL p0)) ?_ ?_))
 ·refine gK (zP (gS 9 (gB 1 (zR 5 4 (vo 16 (addrE 31 37 4 a36 .i64 p0 z0.2) (fun x1=>?_))))))
  refine zN (mkE ((1,I p1)::((5,.mr 40)::((7,.ba 56 0)::s_2))) (o_0.append [(56,.box [S x1.f0,S x1.f1,I x1.f2,B x1.f3] false)]) 49) (zS 6 5 (mkE s_0 (o_0.append ((56,.box [S x1.f0,S x1.f1,I x1.f2,B x1.f3] false)::[(64,.box [S x1.f0,S x1.f1] false)])) 49) (zR 7 6 (sg 2 (mkE ((25,.agg [S x1.f0,S x1.f1])::((24,.mr 40)::s_0)) (o_0.append ((56,.box [S x1.f0,S x1.f1,I x1.f2,B x1.f3] false)::[(64,.box [S x1.f0,S x1.f1] false)])) 49) (eo 26 (.tup [I ((mgetB (fun a b:S77=>allB [eqB a.f0 b.f0,eqB a.f1 b.f1]) z0.1 (S77.mk x1.f0 x1.f1)).getD 0),B (mgetB (fun a b:S77=>allB [eqB a.f0 b.f0,eqB a.f1 b.f1]) z0.1 (S77.mk x1.f0 x1.f1)).isSome]) (mapE2 72 78 3 40 false a77 I (fun a b:S77=>allB [eqB a.f0 b.f0,eqB a.f1 b.f1]) z0.1 (S77.mk x1.f0 x1.f1) 0 (fun _ _=>by kernel_rfl)) (zN (mkE ((1,I p1)::((5,.mr 40)::((7,.ba 56 0)::((8,.ba 64 0)::((9,I ((mgetB (fun a b:S77=>allB [eqB a.f0 b.f0,eqB a.f1 b.f1]) z0.1 (S77.mk x1.f0 x1.f1)).getD 0))::((10,B (mgetB (fun a b:S77=>allB [eqB a.f0 b.f0,eqB a.f1 b.f1]) z0.1 (S77.mk x1.f0 x1.f1)).isSome)::s_2)))))) (o_0.append ((56,.box [S x1.f0,S x1.f1,I x1.f2,B x1.f3] false)::[(64,.box [S x1.f0,S x1.f1] false)])) 49) (zR 0 7 (sg 5 (mkE ((33,B (leI x1.f2 p1))::((32,B (leI x1.f2 p1))::((31,I p1)::((30,I x1.f2)::((29,.ba 56 2)::((1,I p1)::((5,.mr 40)::((7,.ba 56 0)::((8,.ba 64 0)::((9,I ((mgetB (fun a b:S77=>allB [eqB a.f0 b.f0,eqB a.f1 b.f1]) z0.1 (S77.mk x1.f0 x1.f1)).getD 0))::((10,B (mgetB (fun a b:S77=>allB [eqB a.f0 b.f0,eqB a.f1 b.f1]) z0.1 (S77.mk x1.f0 x1.f1)).isSome)::s_2))))))))))) (o_0.append ((56,.box [S x1.f0,S x1.f1,I x1.f2,B x1.f3] false)::[(64,.box [S x1.f0,S x1.f1] false)])) 49) (sb 33 (leI x1.f2 p1) ?_ ?_))))))))
  ·refine sg 8 (mkE ((36,B (!(mgetB (fun a b:S77=>allB [eqB a.f0 b.f0,eqB a.f1 b.f1]) z0.1 (S77.mk x1.f0 x1.f1)).isSome))::((35,B (!(mgetB (fun a b:S77=>allB [eqB a.f0 b.f0,eqB a.f1 b.f1]) z0.1 (S77.mk x1.f0 x1.f1)).isSome))::((34,B (mgetB (fun a b:S77=>allB [eqB a.f0 b.f0,eqB a.f1 b.f1]) z0.1 (S77.mk x1.f0 x1.f1)).isSome)::((33,B true)::((33,B (leI x1.f2 p1))::((32,B (leI x1.f2 p1))::((31,I p1)::((30,I x1.f2)::((29,.ba 56 2)::((1,I p1)::((5,.mr 40)::((7,.ba 56 0)::((8,.ba 64 0)::((9,I ((mgetB (fun a b:S77=>allB [eqB a.f0 b.f0,eqB a.f1 b.f1]) z0.1 (S77.mk x1.f0 x1.f1)).getD 0))::((10,B (mgetB (fun a b:S77=>allB [eqB a.f0 b.f0,eqB a.f1 b.f1]) z0.1 (S77.mk x1.f0 x1.f1)).isSome)::s_2))))))))))))))) (o_0.append ((56,.box [S x1.f0,S x1.f1,I x1.f2,B x1.f3] false)::[(64,.box [S x1.f0,S x1.f1] false)])) 49) (sb 36 (!(mgetB (fun a b:S77=>allB [eqB a.f0 b.f0,eqB a.f1 b.f1]) z0.1 (S77.mk x1.f0 x1.f1)).isSome) ?_ ?_)
   ·refine zN (mkE (s_0.append [(42,B true)]) (o_0.append ((56,.box [S x1.f0,S x1.f1,I x1.f2,B x1.f3] false)::[(64,.box [S x1.f0,S x1.f1] false)])) 49) (gT (.tmp 42) (gR 8 (rg Tryz.f32 8) (sg 4 (mkE ((46,I x1.f2)::((45,.ba 56 2)::((44,.agg [S x1.f0,S x1.f1])::((43,.mr 40)::(s_0.append [(42,B true)]))))) (o_0.append ((56,.box [S x1.f0,S x1.f1,I x1.f2,B x1.f3] false)::[(64,.box [S x1.f0,S x1.f1] false)])) 49) (mo none (mapO_ 72 78 3 40 a77 I (fun a b:S77=>allB [eqB a.f0 b.f0,eqB a.f1 b.f1]) z0.1 (S77.mk x1.f0 x1.f1) (I x1.f2) x1.f2 [] (fun _ _=>by kernel_rfl)) (fun x2=>?_)))))
    exact se (mkE (s_1.append [(14,I z0.2)]) [(40,MP a77 I x2 false)] 49) (pB (zP (gR 9 (rg Tryz.f32 9) (se (mkE (s_1.append [(14,I (addI .i64 z0.2 1))]) [(40,MP a77 I x2 false)] 49) (pL)))))
   ·refine zN (mkE (s_0.append [(42,B (ltI x1.f2 ((mgetB (fun a b:S77=>allB [eqB a.f0 b.f0,eqB a.f1 b.f1]) z0.1 (S77.mk x1.f0 x1.f1)).getD 0)))]) (o_0.append ((56,.box [S x1.f0,S x1.f1,I x1.f2,B x1.f3] false)::[(64,.box [S x1.f0,S x1.f1] false)])) 49) (gC 42 (ltI x1.f2 ((mgetB (fun a b:S77=>allB [eqB a.f0 b.f0,eqB a.f1 b.f1]) z0.1 (S77.mk x1.f0 x1.f1)).getD 0)) ?_ ?_)
    ·refine gR 8 (rg Tryz.f32 8) (sg 4 (mkE ((46,I x1.f2)::((45,.ba 56 2)::((44,.agg [S x1.f0,S x1.f1])::((43,.mr 40)::(s_0.append [(42,B (ltI x1.f2 ((mgetB (fun a b:S77=>allB [eqB a.f0 b.f0,eqB a.f1 b.f1]) z0.1 (S77.mk x1.f0 x1.f1)).getD 0)))]))))) (o_0.append ((56,.box [S x1.f0,S x1.f1,I x1.f2,B x1.f3] false)::[(64,.box [S x1.f0,S x1.f1] false)])) 49) (mo none (mapO_ 72 78 3 40 a77 I (fun a b:S77=>allB [eqB a.f0 b.f0,eqB a.f1 b.f1]) z0.1 (S77.mk x1.f0 x1.f1) (I x1.f2) x1.f2 [] (fun _ _=>by kernel_rfl)) (fun x3=>?_)))
     exact se (mkE (s_1.append [(14,I z0.2)]) [(40,MP a77 I x3 false)] 49) (pB (zP (gR 9 (rg Tryz.f32 9) (se (mkE (s_1.append [(14,I (addI .i64 z0.2 1))]) [(40,MP a77 I x3 false)] 49) (pL)))))
    ·exact gK (pB (zP (gR 9 (rg Tryz.f32 9) (se (mkE (s_1.append [(14,I (addI .i64 z0.2 1))]) o_0 49) (pL)))))
  ·exact zN (mkE (s_0.append [(42,B false)]) (o_0.append ((56,.box [S x1.f0,S x1.f1,I x1.f2,B x1.f3] false)::[(64,.box [S x1.f0,S x1.f1] false)])) 49) (gF (.tmp 42) (gK (pB (zP (gR 9 (rg Tryz.f32 9) (se (mkE (s_1.append [(14,I (addI .i64 z0.2 1))]) o_0 49) (pL)))))))
 ·exact gX 0 (pL)
noncomputable def T32(p0:(List S36))(p1:Int):Option (List (S77×Int)):=((iter (L32_3 p0 p1) (([]:(List (S77×Int))),0)).bind fun y4=>(some y4.2.2))
theorem B32(C:Callee)(p0:(List S36))(p1:Int):rB C 32 Tryz.f32 (frame0 [LL a36 p0,I p1] 49 false) ((T32 p0 p1).map (MV a77 I)):=by
 unfold T32
 refine zS 1 0 (mkE [(0,LL a36 p0),(1,I p1)] [] 49) (zS 2 1 (mkE [(0,LL a36 p0),(1,I p1),(5,.mr 88)] [(88,MP a77 I ([]:(List (S77×Int))) false)] 49) (gS 10 (zR 3 2 (sg 1 (mkE [(12,LL a36 p0),(0,LL a36 p0),(1,I p1),(5,.mr 88)] [(88,MP a77 I ([]:(List (S77×Int))) false)] 49) (eo 13 (I (lenL p0)) (lenE 31 a36 p0) (zN (mkE [(1,I p1),(5,.mr 88),(12,LL a36 p0),(13,I (lenL p0)),(14,I 0)] [(88,MP a77 I ([]:(List (S77×Int))) false)] 49) (gB 0 (lo [(1,none),(5,none),(12,none),(13,none),(14,none)] [] (L32_3 p0 p1) (fun z0:((List (S77×Int))×Int)=>(mkE [(1,I p1),(5,.mr 40),(12,LL a36 p0),(13,I (lenL p0)),(14,I z0.2)] [(40,MP a77 I z0.1 false)] 49)) (fun(x:(Int×Bool×(List (S77×Int))))=>(.exit 0,(mkE [(1,I p1),(5,.mr 40),(12,LL a36 p0),(13,I (lenL p0)),(14,I x.1),(15,B x.2.1)] [(40,MP a77 I x.2.2 false)] 49))) (([]:(List (S77×Int))),0) (fun z=>L32_3_ok C p0 p1 z) ?_))))))))
 intro y4
 exact pH (zP (zF 0 10 (mkE [(4,.mr 40)] [(40,MP a77 I y4.2.2 false)] 49)))
theorem F32(m:Nat)(hm:1≤m)(p0:(List S36))(p1:Int):callA Tryz.prog cfg m 32 [LL a36 p0,I p1]=(T32 p0 p1).map (MV a77 I):=by
 obtain⟨q,rfl⟩:=sucK hm
 exact(callA_body (fn:=Tryz.f32) (c:=body_ Tryz.f32) q _ (by kernel_rfl) (by kernel_rfl) (by kernel_rfl)).trans (B32 _ p0 p1)
noncomputable def T110(p0:S46)(p1_c0:ByteArray)(p2_c0:ByteArray)(p2_c1:ByteArray)(p2_c2:Int)(p2_c3:(List ByteArray))(p2_c4:Int)(p2_c5:Int)(p2_c6:Int)(p2_c7:(List S64))(p2_c8:ByteArray):Option Bool:=(bif (eqS p0.f0 p1_c0)then(bif (eqS p0.f1 p2_c1)then((T84 p0 (S46.mk p2_c0 p2_c1 p2_c2 p2_c3 p2_c4 p2_c5 p2_c6 p2_c7 p2_c8)).bind fun x1=>(some (ltI x1 0)))else(some false))else(some false))
theorem B110(C:Callee)(h84:H84 C)(p0:S46)(p1_c0:ByteArray)(p2_c0:ByteArray)(p2_c1:ByteArray)(p2_c2:Int)(p2_c3:(List ByteArray))(p2_c4:Int)(p2_c5:Int)(p2_c6:Int)(p2_c7:(List S64))(p2_c8:ByteArray):rB C 110 Tryz.f110 (frame0 [a46 p0,.ia [S p1_c0] 0,.ia [S p2_c0,S p2_c1,I p2_c2,LL S p2_c3,I p2_c4,I p2_c5,I p2_c6,LL a64 p2_c7,S p2_c8] 0] 22 false) ((T110 p0 p1_c0 p2_c0 p2_c1 p2_c2 p2_c3 p2_c4 p2_c5 p2_c6 p2_c7 p2_c8).map B):=by
 unfold T110
 let s_0:List (Nat×AV):=[(16,B (eqS p0.f1 p2_c1)),(15,B (eqS p0.f1 p2_c1)),(14,B (eqS p0.f1 p2_c1)),(13,S p2_c1),(12,.ia [S p2_c0,S p2_c1,I p2_c2,LL S p2_c3,I p2_c4,I p2_c5,I p2_c6,LL a64 p2_c7,S p2_c8] 1),(11,S p0.f1),(10,.ba 24 1),(9,B true),(9,B (eqS p0.f0 p1_c0)),(8,B (eqS p0.f0 p1_c0)),(7,S p1_c0),(6,S p0.f0),(5,.ba 24 0),(1,.ia [S p1_c0] 0),(2,.ia [S p2_c0,S p2_c1,I p2_c2,LL S p2_c3,I p2_c4,I p2_c5,I p2_c6,LL a64 p2_c7,S p2_c8] 0),(3,.ba 24 0)]
 let s_1:List (Nat×AV):=[(1,.ia [S p1_c0] 0),(2,.ia [S p2_c0,S p2_c1,I p2_c2,LL S p2_c3,I p2_c4,I p2_c5,I p2_c6,LL a64 p2_c7,S p2_c8] 0),(3,.ba 24 0)]
 let o_0:List (Nat×AObj):=[(24,.box [S p0.f0,S p0.f1,I p0.f2,LL S p0.f3,I p0.f4,I p0.f5,I p0.f6,LL a64 p0.f7,S p0.f8] false)]
 refine zS 1 0 (mkE s_1 o_0 22) (zR 0 1 (sg 5 (mkE ((9,B (eqS p0.f0 p1_c0))::((8,B (eqS p0.f0 p1_c0))::((7,S p1_c0)::((6,S p0.f0)::((5,.ba 24 0)::s_1))))) o_0 22) (sb 9 (eqS p0.f0 p1_c0) ?_ ?_)))
 ·refine sg 12 (mkE s_0 o_0 22) (sb 16 (eqS p0.f1 p2_c1) ?_ ?_)
  ·refine sg 14 (mkE ((18,.agg [S p2_c0,S p2_c1,I p2_c2,LL S p2_c3,I p2_c4,I p2_c5,I p2_c6,LL a64 p2_c7,S p2_c8])::((17,a46 p0)::((16,B true)::s_0))) o_0 22) (co 19 [] (h84 p0 (S46.mk p2_c0 p2_c1 p2_c2 p2_c3 p2_c4 p2_c5 p2_c6 p2_c7 p2_c8)) (fun x1=>?_))
   exact zE (mkE [(4,B (ltI x1 0))] [] 22)
  ·exact zE (mkE [(4,B false)] [] 22)
 ·exact zE (mkE [(4,B false)] [] 22)
theorem F110(m:Nat)(hm:4≤m)(p0:S46)(p1_c0:ByteArray)(p2_c0:ByteArray)(p2_c1:ByteArray)(p2_c2:Int)(p2_c3:(List ByteArray))(p2_c4:Int)(p2_c5:Int)(p2_c6:Int)(p2_c7:(List S64))(p2_c8:ByteArray):callA Tryz.prog cfg m 110 [a46 p0,.ia [S p1_c0] 0,.ia [S p2_c0,S p2_c1,I p2_c2,LL S p2_c3,I p2_c4,I p2_c5,I p2_c6,LL a64 p2_c7,S p2_c8] 0]=(T110 p0 p1_c0 p2_c0 p2_c1 p2_c2 p2_c3 p2_c4 p2_c5 p2_c6 p2_c7 p2_c8).map B:=by
 obtain⟨q,rfl⟩:=sucK hm
 exact(callA_body (fn:=Tryz.f110) (c:=body_ Tryz.f110) q _ (by kernel_rfl) (by kernel_rfl) (by kernel_rfl)).trans (B110 _ (fun p0 p1=>F84 q (by omega) p0 p1) p0 p1_c0 p2_c0 p2_c1 p2_c2 p2_c3 p2_c4 p2_c5 p2_c6 p2_c7 p2_c8)
noncomputable def L11_2(p0:(List S46))(p1_c0:ByteArray)(p1_c1:ByteArray)(p1_c2:ByteArray)(p1_c3:Int)(p1_c4:(List ByteArray))(p1_c5:Int)(p1_c6:Int)(p1_c7:Int)(p1_c8:(List S64))(p1_c9:ByteArray)(z0:Int):Option (Int⊕((Int×Bool)⊕Int)):=(bif (ltI z0 (lenL p0))then((listAt p0 z0).bind fun x1=>((T110 x1 p1_c0 p1_c1 p1_c2 p1_c3 p1_c4 p1_c5 p1_c6 p1_c7 p1_c8 p1_c9).bind fun x2=>(bif x2 then(some (.inr (.inr z0)))else(some (.inl (addI .i64 z0 1))))))else(some (.inr (.inl (z0,(ltI z0 (lenL p0)))))))
abbrev H110(C:Callee):Prop:=∀(p0:S46)(p1_c0:ByteArray)(p2_c0:ByteArray)(p2_c1:ByteArray)(p2_c2:Int)(p2_c3:(List ByteArray))(p2_c4:Int)(p2_c5:Int)(p2_c6:Int)(p2_c7:(List S64))(p2_c8:ByteArray),C 110 [a46 p0,.ia [S p1_c0] 0,.ia [S p2_c0,S p2_c1,I p2_c2,LL S p2_c3,I p2_c4,I p2_c5,I p2_c6,LL a64 p2_c7,S p2_c8] 0]=(T110 p0 p1_c0 p2_c0 p2_c1 p2_c2 p2_c3 p2_c4 p2_c5 p2_c6 p2_c7 p2_c8).map B
theorem L11_2_ok(C:Callee)(h110:H110 C)(p0:(List S46))(p1_c0:ByteArray)(p1_c1:ByteArray)(p1_c2:ByteArray)(p1_c3:Int)(p1_c4:(List ByteArray))(p1_c5:Int)(p1_c6:Int)(p1_c7:Int)(p1_c8:(List S64))(p1_c9:ByteArray)(z0:Int):rL C 11 Tryz.f11 2 [false,false,true,false,true] (fun z0:Int=>(mkE [(0,LL a46 p0),(1,.fn 110 [.ia [S p1_c0] 0,.ia [S p1_c1,S p1_c2,I p1_c3,LL S p1_c4,I p1_c5,I p1_c6,I p1_c7,LL a64 p1_c8,S p1_c9] 0]),(7,I (lenL p0)),(8,I z0)] [] 19)) (Sum.elim (fun(x:(Int×Bool))=>(.exit 0,(mkE [(0,LL a46 p0),(1,.fn 110 [.ia [S p1_c0] 0,.ia [S p1_c1,S p1_c2,I p1_c3,LL S p1_c4,I p1_c5,I p1_c6,I p1_c7,LL a64 p1_c8,S p1_c9] 0]),(7,I (lenL p0)),(8,I x.1),(9,B x.2)] [] 19))) (fun(x:Int)=>(.ret,(mkE [(4,I x)] [] 19)))) (L11_2 p0 p1_c0 p1_c1 p1_c2 p1_c3 p1_c4 p1_c5 p1_c6 p1_c7 p1_c8 p1_c9 z0) z0:=by
 unfold L11_2
 let s_0:List (Nat×AV):=[(0,LL a46 p0),(1,.fn 110 [.ia [S p1_c0] 0,.ia [S p1_c1,S p1_c2,I p1_c3,LL S p1_c4,I p1_c5,I p1_c6,I p1_c7,LL a64 p1_c8,S p1_c9] 0])]
 let s_1:List (Nat×AV):=[(13,I z0),(12,LL a46 p0),(11,.fn 110 [.ia [S p1_c0] 0,.ia [S p1_c1,S p1_c2,I p1_c3,LL S p1_c4,I p1_c5,I p1_c6,I p1_c7,LL a64 p1_c8,S p1_c9] 0])]
 refine zS 0 2 (mkE (s_0.append ((7,I (lenL p0))::((8,I z0)::[(9,B (ltI z0 (lenL p0)))]))) [] 19) (gS 3 (gC 9 (ltI z0 (lenL p0)) ?_ ?_))
 ·refine gK (zP (gS 6 (gB 1 (zS 4 3 (mkE (s_0.append ((5,I z0)::((7,I (lenL p0))::[(8,I z0)]))) [] 19) (zR 0 4 (sg 3 (mkE (s_1.append (s_0.append ((5,I z0)::((7,I (lenL p0))::[(8,I z0)])))) [] 19) (vo 14 (addrE 26 47 9 a46 .i64 p0 z0) (fun x1=>?_))))))))
  refine sg 5 (mkE ((15,a46 x1)::((14,.ia [S x1.f0,S x1.f1,I x1.f2,LL S x1.f3,I x1.f4,I x1.f5,I x1.f6,LL a64 x1.f7,S x1.f8] 0)::(s_1.append (s_0.append ((5,I z0)::((7,I (lenL p0))::[(8,I z0)])))))) [] 19) (co 16 [] (h110 x1 p1_c0 p1_c1 p1_c2 p1_c3 p1_c4 p1_c5 p1_c6 p1_c7 p1_c8 p1_c9) (fun x2=>?_))
  refine zN (mkE (s_0.append ((5,I z0)::((7,I (lenL p0))::((8,I z0)::[(16,B x2)])))) [] 19) (gC 16 x2 ?_ ?_)
  ·exact zF 0 5 (mkE [(4,I z0)] [] 19)
  ·exact gK (pB (zP (gR 6 (rg Tryz.f11 6) (se (mkE (s_0.append ((7,I (lenL p0))::[(8,I (addI .i64 z0 1))])) [] 19) (pL)))))
 ·exact gX 0 (pL)
noncomputable def T11(p0:(List S46))(p1_c0:ByteArray)(p1_c1:ByteArray)(p1_c2:ByteArray)(p1_c3:Int)(p1_c4:(List ByteArray))(p1_c5:Int)(p1_c6:Int)(p1_c7:Int)(p1_c8:(List S64))(p1_c9:ByteArray):Option Int:=((iter (L11_2 p0 p1_c0 p1_c1 p1_c2 p1_c3 p1_c4 p1_c5 p1_c6 p1_c7 p1_c8 p1_c9) 0).bind fun y3=>(Sum.elim (fun y3a=>(some (-1))) (fun y3b=>(some y3b)) y3))
theorem B11(C:Callee)(h110:H110 C)(p0:(List S46))(p1_c0:ByteArray)(p1_c1:ByteArray)(p1_c2:ByteArray)(p1_c3:Int)(p1_c4:(List ByteArray))(p1_c5:Int)(p1_c6:Int)(p1_c7:Int)(p1_c8:(List S64))(p1_c9:ByteArray):rB C 11 Tryz.f11 (frame0 [LL a46 p0,.fn 110 [.ia [S p1_c0] 0,.ia [S p1_c1,S p1_c2,I p1_c3,LL S p1_c4,I p1_c5,I p1_c6,I p1_c7,LL a64 p1_c8,S p1_c9] 0]] 19 false) ((T11 p0 p1_c0 p1_c1 p1_c2 p1_c3 p1_c4 p1_c5 p1_c6 p1_c7 p1_c8 p1_c9).map I):=by
 unfold T11
 let s_0:List (Nat×AV):=[(0,LL a46 p0),(1,.fn 110 [.ia [S p1_c0] 0,.ia [S p1_c1,S p1_c2,I p1_c3,LL S p1_c4,I p1_c5,I p1_c6,I p1_c7,LL a64 p1_c8,S p1_c9] 0])]
 refine zS 1 0 (mkE s_0 [] 19) (gS 7 (zR 2 1 (sg 1 (mkE ((6,LL a46 p0)::s_0) [] 19) (eo 7 (I (lenL p0)) (lenE 26 a46 p0) (zN (mkE (s_0.append ((7,I (lenL p0))::[(8,I 0)])) [] 19) (gB 0 (lo [(0,none),(1,none),(7,none),(8,none)] [] (L11_2 p0 p1_c0 p1_c1 p1_c2 p1_c3 p1_c4 p1_c5 p1_c6 p1_c7 p1_c8 p1_c9) (fun z0:Int=>(mkE (s_0.append ((7,I (lenL p0))::[(8,I z0)])) [] 19)) (Sum.elim (fun(x:(Int×Bool))=>(.exit 0,(mkE (s_0.append ((7,I (lenL p0))::((8,I x.1)::[(9,B x.2)]))) [] 19))) (fun(x:Int)=>(.ret,(mkE [(4,I x)] [] 19)))) 0 (fun z=>L11_2_ok C h110 p0 p1_c0 p1_c1 p1_c2 p1_c3 p1_c4 p1_c5 p1_c6 p1_c7 p1_c8 p1_c9 z) ?_)))))))
 intro y3
 refine ss y3 (Z:=(Sum.elim (fun(x:(Int×Bool))=>(.exit 0,(mkE (s_0.append ((7,I (lenL p0))::((8,I x.1)::[(9,B x.2)]))) [] 19))) (fun(x:Int)=>(.ret,(mkE [(4,I x)] [] 19))))) (fun y3a=>?_) (fun y3b=>?_)
 ·exact pH (zP (zF 0 7 (mkE [(4,I (-1))] [] 19)))
 ·exact pL
theorem F11(m:Nat)(hm:5≤m)(p0:(List S46))(p1_c0:ByteArray)(p1_c1:ByteArray)(p1_c2:ByteArray)(p1_c3:Int)(p1_c4:(List ByteArray))(p1_c5:Int)(p1_c6:Int)(p1_c7:Int)(p1_c8:(List S64))(p1_c9:ByteArray):callA Tryz.prog cfg m 11 [LL a46 p0,.fn 110 [.ia [S p1_c0] 0,.ia [S p1_c1,S p1_c2,I p1_c3,LL S p1_c4,I p1_c5,I p1_c6,I p1_c7,LL a64 p1_c8,S p1_c9] 0]]=(T11 p0 p1_c0 p1_c1 p1_c2 p1_c3 p1_c4 p1_c5 p1_c6 p1_c7 p1_c8 p1_c9).map I:=by
 obtain⟨q,rfl⟩:=sucK hm
 exact(callA_body (fn:=Tryz.f11) (c:=body_ Tryz.f11) q _ (by kernel_rfl) (by kernel_rfl) (by kernel_rfl)).trans (B11 _ (fun p0 p1_c0 p2_c0 p2_c1 p2_c2 p2_c3 p2_c4 p2_c5 p2_c6 p2_c7 p2_c8=>F110 q (by omega) p0 p1_c0 p2_c0 p2_c1 p2_c2 p2_c3 p2_c4 p2_c5 p2_c6 p2_c7 p2_c8) p0 p1_c0 p1_c1 p1_c2 p1_c3 p1_c4 p1_c5 p1_c6 p1_c7 p1_c8 p1_c9)
noncomputable def T65(p0:(List S46))(p1:S46)(p2:ByteArray):Option Int:=((T11 p0 p2 p1.f0 p1.f1 p1.f2 p1.f3 p1.f4 p1.f5 p1.f6 p1.f7 p1.f8).bind fun x1=>(some x1))
theorem B65(C:Callee)(h11:∀(p0:(List S46))(p1_c0:ByteArray)(p1_c1:ByteArray)(p1_c2:ByteArray)(p1_c3:Int)(p1_c4:(List ByteArray))(p1_c5:Int)(p1_c6:Int)(p1_c7:Int)(p1_c8:(List S64))(p1_c9:ByteArray),C 11 [LL a46 p0,.fn 110 [.ia [S p1_c0] 0,.ia [S p1_c1,S p1_c2,I p1_c3,LL S p1_c4,I p1_c5,I p1_c6,I p1_c7,LL a64 p1_c8,S p1_c9] 0]]=(T11 p0 p1_c0 p1_c1 p1_c2 p1_c3 p1_c4 p1_c5 p1_c6 p1_c7 p1_c8 p1_c9).map I)(p0:(List S46))(p1:S46)(p2:ByteArray):rB C 65 Tryz.f65 (frame0 [LL a46 p0,a46 p1,S p2] 10 false) ((T65 p0 p1 p2).map I):=by
 unfold T65
 let o_0:List (Nat×AObj):=[(32,.box [S p1.f0,S p1.f1,I p1.f2,LL S p1.f3,I p1.f4,I p1.f5,I p1.f6,LL a64 p1.f7,S p1.f8] false),(40,.box [S p2] false)]
 refine zS 1 0 (mkE [(0,LL a46 p0),(4,.ba 32 0),(5,.ba 40 0)] o_0 10) (zR 0 1 (sg 2 (mkE [(8,.fn 110 [.ba 40 0,.ba 32 0]),(7,LL a46 p0),(0,LL a46 p0),(4,.ba 32 0),(5,.ba 40 0)] o_0 10) (co 9 [40,32] (h11 p0 p2 p1.f0 p1.f1 p1.f2 p1.f3 p1.f4 p1.f5 p1.f6 p1.f7 p1.f8) (fun x1=>?_))))
 exact zE (mkE [(6,I x1)] [] 10)
theorem F65(m:Nat)(hm:6≤m)(p0:(List S46))(p1:S46)(p2:ByteArray):callA Tryz.prog cfg m 65 [LL a46 p0,a46 p1,S p2]=(T65 p0 p1 p2).map I:=by
 obtain⟨q,rfl⟩:=sucK hm
 exact(callA_body (fn:=Tryz.f65) (c:=body_ Tryz.f65) q _ (by kernel_rfl) (by kernel_rfl) (by kernel_rfl)).trans (B65 _ (fun p0 p1_c0 p1_c1 p1_c2 p1_c3 p1_c4 p1_c5 p1_c6 p1_c7 p1_c8 p1_c9=>F11 q (by omega) p0 p1_c0 p1_c1 p1_c2 p1_c3 p1_c4 p1_c5 p1_c6 p1_c7 p1_c8 p1_c9) p0 p1 p2)
noncomputable def L33_3(p0:(List S46))(z0:((List Int)×Int)):Option (((List Int)×Int)⊕(Int×Bool×(List Int))):=(bif (ltI z0.2 (lenL p0))then((listAt p0 z0.2).bind fun x1=>((appO 8 z0.1 ([x1.f5]:List Int)).bind fun x2=>(some (.inl (x2,(addI .i64 z0.2 1))))))else(some (.inr (z0.2,(ltI z0.2 (lenL p0)),z0.1))))
theorem L33_3_ok(C:Callee)(p0:(List S46))(z0:((List Int)×Int)):rL C 33 Tryz.f33 3 [false,false,true,false,true,true] (fun z0:((List Int)×Int)=>(mkE [(0,LL a46 p0),(3,.own 24 0),(11,LL a46 p0),(12,I (lenL p0)),(13,I z0.2)] [(24,RR 3 1 I z0.1 0 false)] 55)) (fun(x:(Int×Bool×(List Int)))=>(.exit 0,(mkE [(0,LL a46 p0),(3,.own 24 0),(11,LL a46 p0),(12,I (lenL p0)),(13,I x.1),(14,B x.2.1)] [(24,RR 3 1 I x.2.2 0 false)] 55))) (L33_3 p0 z0) z0:=by
 unfold L33_3
 let s_0:List (Nat×AV):=[(11,LL a46 p0),(12,I (lenL p0)),(13,I z0.2)]
 refine zS 0 3 (mkE ((0,LL a46 p0)::((3,.own 24 0)::(s_0.append [(14,B (ltI z0.2 (lenL p0)))]))) [(24,RR 3 1 I z0.1 0 false)] 55) (gS 4 (gC 14 (ltI z0.2 (lenL p0)) ?_ ?_))
 ·refine gK (zP (gS 6 (gB 1 (zR 5 4 (vo 15 (addrE 26 47 9 a46 .i64 p0 z0.2) (fun x1=>?_))))))
  refine zN (mkE ((0,LL a46 p0)::((3,.own 24 0)::((5,.ba 40 0)::s_0))) [(24,RR 3 1 I z0.1 0 false),(40,.box [S x1.f0,S x1.f1,I x1.f2,LL S x1.f3,I x1.f4,I x1.f5,I x1.f6,LL a64 x1.f7,S x1.f8] false)] 55) (gR 5 (rg Tryz.f33 5) (sg 4 (mkE ((20,.own 160 0)::((19,I x1.f5)::((18,.ba 40 5)::((17,.own 24 0)::((0,LL a46 p0)::((3,.own 24 0)::((5,.ba 40 0)::s_0))))))) [(160,RR 3 1 I ([x1.f5]:List Int) 0 false),(24,RR 3 1 I z0.1 0 false),(40,.box [S x1.f0,S x1.f1,I x1.f2,LL S x1.f3,I x1.f4,I x1.f5,I x1.f6,LL a64 x1.f7,S x1.f8] false)] 55) (mo (some 21) (apO 22 3 1 8 24 I 0 [160] (y:= .own 160 0) (l2:=([x1.f5]:List Int))) (fun x2=>?_))))
  exact se (mkE ((0,LL a46 p0)::((3,.own 24 1)::s_0)) [(24,RR 3 1 I x2 1 false)] 55) (pB (zP (gR 6 (rg Tryz.f33 6) (se (mkE [(0,LL a46 p0),(3,.own 24 1),(11,LL a46 p0),(12,I (lenL p0)),(13,I (addI .i64 z0.2 1))] [(24,RR 3 1 I x2 1 false)] 55) (pL)))))
 ·exact gX 0 (pL)
noncomputable def L33_11(p0:(List S46))(z1:((List Int)×Int))(x4:S46)(z2:((List Int)×Int)):Option (((List Int)×Int)⊕(Int×Bool×(List Int))):=(bif (ltI z2.2 (lenL x4.f3))then((listAt x4.f3 z2.2).bind fun x5=>((T65 p0 x4 x5).bind fun x6=>(bif (leI 0 x6)then((idxO (List.length z2.1) x6).bind fun x7=>((getN z2.1 x7).bind fun x8=>((idxO (List.length z2.1) x6).bind fun x9=>((getN z2.1 x9).bind fun x10=>(some (.inl ((List.set z2.1 x9 (minI x8 x4.f4)),(addI .i64 z2.2 1))))))))else(some (.inl (z2.1,(addI .i64 z2.2 1)))))))else(some (.inr (z2.2,(ltI z2.2 (lenL x4.f3)),z2.1))))
abbrev H65(C:Callee):Prop:=∀(p0:(List S46))(p1:S46)(p2:ByteArray),C 65 [LL a46 p0,a46 p1,S p2]=(T65 p0 p1 p2).map I
theorem L33_11_ok(C:Callee)(h65:H65 C)(p0:(List S46))(z1:((List Int)×Int))(x4:S46)(z2:((List Int)×Int)):rL C 33 Tryz.f33 11 [false,false,true,true,false,false,true,true,false,false,true,false,true,true,true] (fun z2:((List Int)×Int)=>(mkE [(0,LL a46 p0),(3,.own 24 0),(7,.ba 56 0),(23,LL a46 p0),(24,I (lenL p0)),(25,I z1.2),(30,LL S x4.f3),(31,I (lenL x4.f3)),(32,I z2.2)] [(24,RR 3 1 I z2.1 0 false),(56,.box [S x4.f0,S x4.f1,I x4.f2,LL S x4.f3,I x4.f4,I x4.f5,I x4.f6,LL a64 x4.f7,S x4.f8] false)] 55)) (fun(x:(Int×Bool×(List Int)))=>(.exit 4,(mkE [(0,LL a46 p0),(3,.own 24 0),(7,.ba 56 0),(23,LL a46 p0),(24,I (lenL p0)),(25,I z1.2),(30,LL S x4.f3),(31,I (lenL x4.f3)),(32,I x.1),(33,B x.2.1)] [(24,RR 3 1 I x.2.2 0 false),(56,.box [S x4.f0,S x4.f1,I x4.f2,LL S x4.f3,I x4.f4,I x4.f5,I x4.f6,LL a64 x4.f7,S x4.f8] false)] 55))) (L33_11 p0 z1 x4 z2) z2:=by
 unfold L33_11
 let s_0:List (Nat×AV):=[(23,LL a46 p0),(24,I (lenL p0)),(25,I z1.2),(30,LL S x4.f3),(31,I (lenL x4.f3))]
 let s_1:List (Nat×AV):=[(0,LL a46 p0),(3,.own 24 0),(7,.ba 56 0)]
 let o_0:List (Nat×AObj):=[(24,RR 3 1 I z2.1 0 false),(56,.box [S x4.f0,S x4.f1,I x4.f2,LL S x4.f3,I x4.f4,I x4.f5,I x4.f6,LL a64 x4.f7,S x4.f8] false)]
 refine zS 0 11 (mkE (s_1.append (s_0.append ((32,I z2.2)::[(33,B (ltI z2.2 (lenL x4.f3)))]))) o_0 55) (gS 12 (gC 33 (ltI z2.2 (lenL x4.f3)) ?_ ?_))
 ·refine gK (zP (gS 16 (gB 5 (zR 13 12 (vo 34 (addrE 34 9 1 S .i64 x4.f3 z2.2) (fun x5=>?_))))))
  refine zN (mkE (s_1.append ((9,S x5)::(s_0.append [(32,I z2.2)]))) o_0 55) (zR 14 13 (sg 3 (mkE ((38,S x5)::((37,a46 x4)::((36,LL a46 p0)::(s_1.append ((9,S x5)::(s_0.append [(32,I z2.2)])))))) o_0 55) (co 39 [] (h65 p0 x4 x5) (fun x6=>?_))))
  refine zN (mkE (s_1.append ((10,I x6)::(s_0.append [(32,I z2.2)]))) o_0 55) (zS 0 14 (mkE (s_1.append ((10,I x6)::(s_0.append ((32,I z2.2)::[(41,B (leI 0 x6))])))) o_0 55) (gC 41 (leI 0 x6) ?_ ?_))
  ·refine gD 15 10 (rg Tryz.f33 15) [0,1,2,3,4,5,6,7,8,9,10] (dg 4 [(some 42,qe (.own 24 0)),(some 43,qe (I x6)),(some 44,qe (.own 24 0)),(some 45,qe (I x6))] (dv 46 (mkE ((45,I x6)::((44,.own 24 0)::(s_1.append ((10,I x6)::(s_0.append ((32,I z2.2)::[(41,B (leI 0 x6))])))))) o_0 55) (addrOE 22 3 1 24 0 false I .i64 z2.1 x6) (fun x7=>?_)))
   refine dv 47 (mkE ((46,.oa 24 0 x7 0)::((45,I x6)::((44,.own 24 0)::(s_1.append ((10,I x6)::(s_0.append ((32,I z2.2)::[(41,B (leI 0 x6))]))))))) o_0 55) (loadOE 3 24 0 x7 0 3 1 1 false false I (fun q:Int=>I q) z2.1) (fun x8=>?_)
   refine dg 9 [(some 42,qe (.own 24 0)),(some 43,qe (I x6)),(some 44,qe (.own 24 0)),(some 45,qe (I x6)),(some 46,qe (.oa 24 0 x7 0)),(some 47,qe (I x8)),(some 48,qe (.ba 56 4)),(some 49,qe (I x4.f4)),(some 50,qe (I (minI x8 x4.f4)))] (dv 51 (mkE ((50,I (minI x8 x4.f4))::((49,I x4.f4)::((48,.ba 56 4)::((47,I x8)::((46,.oa 24 0 x7 0)::((45,I x6)::((44,.own 24 0)::((43,I x6)::((42,.own 24 0)::(s_1.append ((10,I x6)::(s_0.append ((32,I z2.2)::[(41,B (leI 0 x6))]))))))))))))) o_0 55) (addrOE 22 3 1 24 0 false I .i64 z2.1 x6) (fun x9=>?_))
   refine de (mkE ((51,.oa 24 0 x9 0)::((50,I (minI x8 x4.f4))::((49,I x4.f4)::((48,.ba 56 4)::((47,I x8)::((46,.oa 24 0 x7 0)::((45,I x6)::((44,.own 24 0)::((43,I x6)::((42,.own 24 0)::(s_1.append ((10,I x6)::(s_0.append ((32,I z2.2)::[(41,B (leI 0 x6))])))))))))))))) o_0 55) (mo none (stO 3 1 24 0 x9 0 I z2.1 [] [I (minI x8 x4.f4)] (I (minI x8 x4.f4)) (fun q:Int=>(minI x8 x4.f4)) 3 (.tmp 51) (.tmp 50) 1) (fun x10=>?_))
   exact se (mkE (s_1.append (s_0.append [(32,I z2.2)])) [(24,RR 3 1 I (List.set z2.1 x9 (minI x8 x4.f4)) 0 false),(56,.box [S x4.f0,S x4.f1,I x4.f2,LL S x4.f3,I x4.f4,I x4.f5,I x4.f6,LL a64 x4.f7,S x4.f8] false)] 55) (pB (zP (gR 16 (rg Tryz.f33 16) (se (mkE (s_1.append (s_0.append [(32,I (addI .i64 z2.2 1))])) [(24,RR 3 1 I (List.set z2.1 x9 (minI x8 x4.f4)) 0 false),(56,.box [S x4.f0,S x4.f1,I x4.f2,LL S x4.f3,I x4.f4,I x4.f5,I x4.f6,LL a64 x4.f7,S x4.f8] false)] 55) (pL)))))
  ·exact gK (pB (zP (gR 16 (rg Tryz.f33 16) (se (mkE (s_1.append (s_0.append [(32,I (addI .i64 z2.2 1))])) o_0 55) (pL)))))
 ·exact gX 4 (pL)
noncomputable def L33_8(p0:(List S46))(z1:((List Int)×Int)):Option (((List Int)×Int)⊕(Int×Bool×(List Int))):=(bif (ltI z1.2 (lenL p0))then((listAt p0 z1.2).bind fun x4=>((iter (L33_11 p0 z1 x4) (z1.1,0)).bind fun y11=>(some (.inl (y11.2.2,(addI .i64 z1.2 1))))))else(some (.inr (z1.2,(ltI z1.2 (lenL p0)),z1.1))))
theorem L33_8_ok(C:Callee)(h65:H65 C)(p0:(List S46))(z1:((List Int)×Int)):rL C 33 Tryz.f33 8 [false,false,true,false,true,true,true] (fun z1:((List Int)×Int)=>(mkE [(0,LL a46 p0),(3,.own 24 0),(23,LL a46 p0),(24,I (lenL p0)),(25,I z1.2)] [(24,RR 3 1 I z1.1 0 false)] 55)) (fun(x:(Int×Bool×(List Int)))=>(.exit 2,(mkE [(0,LL a46 p0),(3,.own 24 0),(23,LL a46 p0),(24,I (lenL p0)),(25,I x.1),(26,B x.2.1)] [(24,RR 3 1 I x.2.2 0 false)] 55))) (L33_8 p0 z1) z1:=by
 unfold L33_8
 let s_0:List (Nat×AV):=[(0,LL a46 p0),(3,.own 24 0),(7,.ba 56 0),(23,LL a46 p0),(24,I (lenL p0)),(25,I z1.2)]
 refine zS 0 8 (mkE [(0,LL a46 p0),(3,.own 24 0),(23,LL a46 p0),(24,I (lenL p0)),(25,I z1.2),(26,B (ltI z1.2 (lenL p0)))] [(24,RR 3 1 I z1.1 0 false)] 55) (gS 9 (gC 26 (ltI z1.2 (lenL p0)) ?_ ?_))
 ·refine gK (zP (gS 17 (gB 3 (zR 10 9 (vo 27 (addrE 26 47 9 a46 .i64 p0 z1.2) (fun x4=>?_))))))
  refine zN (mkE s_0 [(24,RR 3 1 I z1.1 0 false),(56,.box [S x4.f0,S x4.f1,I x4.f2,LL S x4.f3,I x4.f4,I x4.f5,I x4.f6,LL a64 x4.f7,S x4.f8] false)] 55) (zR 11 10 (sg 2 (mkE ((30,LL S x4.f3)::((29,.ba 56 3)::s_0)) [(24,RR 3 1 I z1.1 0 false),(56,.box [S x4.f0,S x4.f1,I x4.f2,LL S x4.f3,I x4.f4,I x4.f5,I x4.f6,LL a64 x4.f7,S x4.f8] false)] 55) (eo 31 (I (lenL x4.f3)) (lenE 34 S x4.f3) (zN (mkE (s_0.append ((30,LL S x4.f3)::((31,I (lenL x4.f3))::[(32,I 0)]))) [(24,RR 3 1 I z1.1 0 false),(56,.box [S x4.f0,S x4.f1,I x4.f2,LL S x4.f3,I x4.f4,I x4.f5,I x4.f6,LL a64 x4.f7,S x4.f8] false)] 55) (gB 4 (lo [(0,none),(3,some (3,1)),(7,none),(23,none),(24,none),(25,none),(30,none),(31,none),(32,none)] [] (L33_11 p0 z1 x4) (fun z2:((List Int)×Int)=>(mkE (s_0.append ((30,LL S x4.f3)::((31,I (lenL x4.f3))::[(32,I z2.2)]))) [(24,RR 3 1 I z2.1 0 false),(56,.box [S x4.f0,S x4.f1,I x4.f2,LL S x4.f3,I x4.f4,I x4.f5,I x4.f6,LL a64 x4.f7,S x4.f8] false)] 55)) (fun(x:(Int×Bool×(List Int)))=>(.exit 4,(mkE (s_0.append ((30,LL S x4.f3)::((31,I (lenL x4.f3))::((32,I x.1)::[(33,B x.2.1)])))) [(24,RR 3 1 I x.2.2 0 false),(56,.box [S x4.f0,S x4.f1,I x4.f2,LL S x4.f3,I x4.f4,I x4.f5,I x4.f6,LL a64 x4.f7,S x4.f8] false)] 55))) (z1.1,0) (fun z=>L33_11_ok C h65 p0 z1 x4 z) ?_))))))
  intro y11
  exact pH (pB (zP (gR 17 (rg Tryz.f33 17) (se (mkE [(0,LL a46 p0),(3,.own 24 0),(23,LL a46 p0),(24,I (lenL p0)),(25,I (addI .i64 z1.2 1))] [(24,RR 3 1 I y11.2.2 0 false)] 55) (pL)))))
 ·exact gX 2 (pL)
noncomputable def T33(p0:(List S46)):Option (List Int):=((iter (L33_3 p0) ([],0)).bind fun y3=>((iter (L33_8 p0) (y3.2.2,0)).bind fun y12=>(some y12.2.2)))
theorem B33(C:Callee)(h65:H65 C)(p0:(List S46)):rB C 33 Tryz.f33 (frame0 [LL a46 p0] 55 false) ((T33 p0).map (fun l=>AV.fr 3 1 (List.map I l))):=by
 unfold T33
 let s_0:List (Nat×AV):=[(0,LL a46 p0),(3,.own 24 0),(11,LL a46 p0),(12,I (lenL p0))]
 let s_1:List (Nat×AV):=[(0,LL a46 p0),(3,.own 24 0),(23,LL a46 p0),(24,I (lenL p0))]
 refine zS 1 0 (mkE [(0,LL a46 p0)] [] 55) (zS 2 1 (mkE [(0,LL a46 p0),(3,.nils)] [] 55) (gS 7 (zR 3 2 (sg 1 (mkE [(11,LL a46 p0),(0,LL a46 p0),(3,.nils)] [] 55) (eo 12 (I (lenL p0)) (lenE 26 a46 p0) (zN (mkE [(0,LL a46 p0),(3,.nils),(11,LL a46 p0),(12,I (lenL p0)),(13,I 0)] [] 55) (gB 0 (lo [(0,none),(3,some (3,1)),(11,none),(12,none),(13,none)] [] (L33_3 p0) (fun z0:((List Int)×Int)=>(mkE (s_0.append [(13,I z0.2)]) [(24,RR 3 1 I z0.1 0 false)] 55)) (fun(x:(Int×Bool×(List Int)))=>(.exit 0,(mkE (s_0.append ((13,I x.1)::[(14,B x.2.1)])) [(24,RR 3 1 I x.2.2 0 false)] 55))) ([],0) (fun z=>L33_3_ok C p0 z) ?_))))))))
 intro y3
 refine pH (zP (gS 18 (zR 8 7 (sg 1 (mkE ((23,LL a46 p0)::(s_0.append ((13,I y3.1)::[(14,B y3.2.1)]))) [(24,RR 3 1 I y3.2.2 0 false)] 55) (eo 24 (I (lenL p0)) (lenE 26 a46 p0) (zN (mkE (s_1.append [(25,I 0)]) [(24,RR 3 1 I y3.2.2 0 false)] 55) (gB 2 (lo [(0,none),(3,some (3,1)),(23,none),(24,none),(25,none)] [] (L33_8 p0) (fun z1:((List Int)×Int)=>(mkE (s_1.append [(25,I z1.2)]) [(24,RR 3 1 I z1.1 0 false)] 55)) (fun(x:(Int×Bool×(List Int)))=>(.exit 2,(mkE (s_1.append ((25,I x.1)::[(26,B x.2.1)])) [(24,RR 3 1 I x.2.2 0 false)] 55))) (y3.2.2,0) (fun z=>L33_8_ok C h65 p0 z) ?_))))))))
 intro y12
 exact pH (zP (zF 0 18 (mkE [(2,.own 24 0)] [(24,RR 3 1 I y12.2.2 0 false)] 55)))
theorem F33(m:Nat)(hm:7≤m)(p0:(List S46)):callA Tryz.prog cfg m 33 [LL a46 p0]=(T33 p0).map (fun l=>AV.fr 3 1 (List.map I l)):=by
 obtain⟨q,rfl⟩:=sucK hm
 exact(callA_body (fn:=Tryz.f33) (c:=body_ Tryz.f33) q _ (by kernel_rfl) (by kernel_rfl) (by kernel_rfl)).trans (B33 _ (fun p0 p1 p2=>F65 q (by omega) p0 p1 p2) p0)
noncomputable def T70(p0:S64)(p1_c0:ByteArray)(p1_c1:Int)(p1_c2:Int):Option Bool:=(bif (leI p0.f0 p1_c1)then(bif (ltI p1_c1 (addI .i64 p0.f0 p0.f2))then(bif (leI p0.f1 p1_c2)then(some (ltI p1_c2 (addI .i64 p0.f1 p0.f3)))else(some false))else(some false))else(some false))
theorem B70(C:Callee)(p0:S64)(p1_c0:ByteArray)(p1_c1:Int)(p1_c2:Int):rB C 70 Tryz.f70 (frame0 [a64 p0,.ia [S p1_c0,I p1_c1,I p1_c2] 0] 36 false) ((T70 p0 p1_c0 p1_c1 p1_c2).map B):=by
 unfold T70
 let s_0:List (Nat×AV):=[(19,B (ltI p1_c1 (addI .i64 p0.f0 p0.f2))),(18,B (ltI p1_c1 (addI .i64 p0.f0 p0.f2))),(17,B (ltI p1_c1 (addI .i64 p0.f0 p0.f2))),(16,I (addI .i64 p0.f0 p0.f2)),(15,I p0.f2),(14,.ba 16 2),(13,I p0.f0),(12,.ba 16 0),(11,I p1_c1),(10,.ia [S p1_c0,I p1_c1,I p1_c2] 1),(9,B true),(9,B (leI p0.f0 p1_c1)),(8,B (leI p0.f0 p1_c1)),(7,I p1_c1),(6,.ia [S p1_c0,I p1_c1,I p1_c2] 1),(5,I p0.f0),(4,.ba 16 0),(1,.ia [S p1_c0,I p1_c1,I p1_c2] 0),(2,.ba 16 0)]
 let o_0:List (Nat×AObj):=[(16,.box [I p0.f0,I p0.f1,I p0.f2,I p0.f3] false)]
 refine zS 1 0 (mkE [(1,.ia [S p1_c0,I p1_c1,I p1_c2] 0),(2,.ba 16 0)] o_0 36) (zR 0 1 (sg 6 (mkE [(9,B (leI p0.f0 p1_c1)),(8,B (leI p0.f0 p1_c1)),(7,I p1_c1),(6,.ia [S p1_c0,I p1_c1,I p1_c2] 1),(5,I p0.f0),(4,.ba 16 0),(1,.ia [S p1_c0,I p1_c1,I p1_c2] 0),(2,.ba 16 0)] o_0 36) (sb 9 (leI p0.f0 p1_c1) ?_ ?_)))
 ·refine sg 16 (mkE s_0 o_0 36) (sb 19 (ltI p1_c1 (addI .i64 p0.f0 p0.f2)) ?_ ?_)
  ·refine sg 23 (mkE ((26,B (leI p0.f1 p1_c2))::((25,B (leI p0.f1 p1_c2))::((24,B (leI p0.f1 p1_c2))::((23,I p1_c2)::((22,.ia [S p1_c0,I p1_c1,I p1_c2] 2)::((21,I p0.f1)::((20,.ba 16 1)::((19,B true)::s_0)))))))) o_0 36) (sb 26 (leI p0.f1 p1_c2) ?_ ?_)
   ·exact zE (mkE [(3,B (ltI p1_c2 (addI .i64 p0.f1 p0.f3)))] [] 36)
   ·exact zE (mkE [(3,B false)] [] 36)
  ·exact zE (mkE [(3,B false)] [] 36)
 ·exact zE (mkE [(3,B false)] [] 36)
theorem F70(m:Nat)(hm:1≤m)(p0:S64)(p1_c0:ByteArray)(p1_c1:Int)(p1_c2:Int):callA Tryz.prog cfg m 70 [a64 p0,.ia [S p1_c0,I p1_c1,I p1_c2] 0]=(T70 p0 p1_c0 p1_c1 p1_c2).map B:=by
 obtain⟨q,rfl⟩:=sucK hm
 exact(callA_body (fn:=Tryz.f70) (c:=body_ Tryz.f70) q _ (by kernel_rfl) (by kernel_rfl) (by kernel_rfl)).trans (B70 _ p0 p1_c0 p1_c1 p1_c2)
noncomputable def L120_2(p0:(List S64))(p1_c0:ByteArray)(p1_c1:Int)(p1_c2:Int)(z0:Int):Option (Int⊕((Int×Bool)⊕Int)):=(bif (ltI z0 (lenL p0))then((listAt p0 z0).bind fun x1=>((T70 x1 p1_c0 p1_c1 p1_c2).bind fun x2=>(bif x2 then(some (.inr (.inr z0)))else(some (.inl (addI .i64 z0 1))))))else(some (.inr (.inl (z0,(ltI z0 (lenL p0)))))))
abbrev H70(C:Callee):Prop:=∀(p0:S64)(p1_c0:ByteArray)(p1_c1:Int)(p1_c2:Int),C 70 [a64 p0,.ia [S p1_c0,I p1_c1,I p1_c2] 0]=(T70 p0 p1_c0 p1_c1 p1_c2).map B
theorem L120_2_ok(C:Callee)(h70:H70 C)(p0:(List S64))(p1_c0:ByteArray)(p1_c1:Int)(p1_c2:Int)(z0:Int):rL C 120 Tryz.f120 2 [false,false,true,false,true] (fun z0:Int=>(mkE [(0,LL a64 p0),(1,.fn 70 [.ia [S p1_c0,I p1_c1,I p1_c2] 0]),(7,I (lenL p0)),(8,I z0)] [] 19)) (Sum.elim (fun(x:(Int×Bool))=>(.exit 0,(mkE [(0,LL a64 p0),(1,.fn 70 [.ia [S p1_c0,I p1_c1,I p1_c2] 0]),(7,I (lenL p0)),(8,I x.1),(9,B x.2)] [] 19))) (fun(x:Int)=>(.ret,(mkE [(4,I x)] [] 19)))) (L120_2 p0 p1_c0 p1_c1 p1_c2 z0) z0:=by
 unfold L120_2
 let s_0:List (Nat×AV):=[(0,LL a64 p0),(1,.fn 70 [.ia [S p1_c0,I p1_c1,I p1_c2] 0]),(5,I z0),(7,I (lenL p0)),(8,I z0)]
 refine zS 0 2 (mkE [(0,LL a64 p0),(1,.fn 70 [.ia [S p1_c0,I p1_c1,I p1_c2] 0]),(7,I (lenL p0)),(8,I z0),(9,B (ltI z0 (lenL p0)))] [] 19) (gS 3 (gC 9 (ltI z0 (lenL p0)) ?_ ?_))
 ·refine gK (zP (gS 6 (gB 1 (zS 4 3 (mkE s_0 [] 19) (zR 0 4 (sg 3 (mkE ((13,I z0)::((12,LL a64 p0)::((11,.fn 70 [.ia [S p1_c0,I p1_c1,I p1_c2] 0])::s_0))) [] 19) (vo 14 (addrE 45 65 4 a64 .i64 p0 z0) (fun x1=>?_))))))))
  refine sg 5 (mkE ((15,a64 x1)::((14,.ia [I x1.f0,I x1.f1,I x1.f2,I x1.f3] 0)::((13,I z0)::((12,LL a64 p0)::((11,.fn 70 [.ia [S p1_c0,I p1_c1,I p1_c2] 0])::s_0))))) [] 19) (co 16 [] (h70 x1 p1_c0 p1_c1 p1_c2) (fun x2=>?_))
  refine zN (mkE (s_0.append [(16,B x2)]) [] 19) (gC 16 x2 ?_ ?_)
  ·exact zF 0 5 (mkE [(4,I z0)] [] 19)
  ·exact gK (pB (zP (gR 6 (rg Tryz.f120 6) (se (mkE [(0,LL a64 p0),(1,.fn 70 [.ia [S p1_c0,I p1_c1,I p1_c2] 0]),(7,I (lenL p0)),(8,I (addI .i64 z0 1))] [] 19) (pL)))))
 ·exact gX 0 (pL)
noncomputable def T120(p0:(List S64))(p1_c0:ByteArray)(p1_c1:Int)(p1_c2:Int):Option Int:=((iter (L120_2 p0 p1_c0 p1_c1 p1_c2) 0).bind fun y3=>(Sum.elim (fun y3a=>(some (-1))) (fun y3b=>(some y3b)) y3))
theorem B120(C:Callee)(h70:H70 C)(p0:(List S64))(p1_c0:ByteArray)(p1_c1:Int)(p1_c2:Int):rB C 120 Tryz.f120 (frame0 [LL a64 p0,.fn 70 [.ia [S p1_c0,I p1_c1,I p1_c2] 0]] 19 false) ((T120 p0 p1_c0 p1_c1 p1_c2).map I):=by
 unfold T120
 let s_0:List (Nat×AV):=[(0,LL a64 p0),(1,.fn 70 [.ia [S p1_c0,I p1_c1,I p1_c2] 0])]
 refine zS 1 0 (mkE s_0 [] 19) (gS 7 (zR 2 1 (sg 1 (mkE ((6,LL a64 p0)::s_0) [] 19) (eo 7 (I (lenL p0)) (lenE 45 a64 p0) (zN (mkE (s_0.append ((7,I (lenL p0))::[(8,I 0)])) [] 19) (gB 0 (lo [(0,none),(1,none),(7,none),(8,none)] [] (L120_2 p0 p1_c0 p1_c1 p1_c2) (fun z0:Int=>(mkE (s_0.append ((7,I (lenL p0))::[(8,I z0)])) [] 19)) (Sum.elim (fun(x:(Int×Bool))=>(.exit 0,(mkE (s_0.append ((7,I (lenL p0))::((8,I x.1)::[(9,B x.2)]))) [] 19))) (fun(x:Int)=>(.ret,(mkE [(4,I x)] [] 19)))) 0 (fun z=>L120_2_ok C h70 p0 p1_c0 p1_c1 p1_c2 z) ?_)))))))
 intro y3
 refine ss y3 (Z:=(Sum.elim (fun(x:(Int×Bool))=>(.exit 0,(mkE (s_0.append ((7,I (lenL p0))::((8,I x.1)::[(9,B x.2)]))) [] 19))) (fun(x:Int)=>(.ret,(mkE [(4,I x)] [] 19))))) (fun y3a=>?_) (fun y3b=>?_)
 ·exact pH (zP (zF 0 7 (mkE [(4,I (-1))] [] 19)))
 ·exact pL
theorem F120(m:Nat)(hm:2≤m)(p0:(List S64))(p1_c0:ByteArray)(p1_c1:Int)(p1_c2:Int):callA Tryz.prog cfg m 120 [LL a64 p0,.fn 70 [.ia [S p1_c0,I p1_c1,I p1_c2] 0]]=(T120 p0 p1_c0 p1_c1 p1_c2).map I:=by
 obtain⟨q,rfl⟩:=sucK hm
 exact(callA_body (fn:=Tryz.f120) (c:=body_ Tryz.f120) q _ (by kernel_rfl) (by kernel_rfl) (by kernel_rfl)).trans (B120 _ (fun p0 p1_c0 p1_c1 p1_c2=>F70 q (by omega) p0 p1_c0 p1_c1 p1_c2) p0 p1_c0 p1_c1 p1_c2)
noncomputable def T69(p0:(List S64))(p1_c0:ByteArray)(p1_c1:Int)(p1_c2:Int):Option Bool:=((T120 p0 p1_c0 p1_c1 p1_c2).bind fun x1=>(some (leI 0 x1)))
theorem B69(C:Callee)(h120:∀(p0:(List S64))(p1_c0:ByteArray)(p1_c1:Int)(p1_c2:Int),C 120 [LL a64 p0,.fn 70 [.ia [S p1_c0,I p1_c1,I p1_c2] 0]]=(T120 p0 p1_c0 p1_c1 p1_c2).map I)(p0:(List S64))(p1_c0:ByteArray)(p1_c1:Int)(p1_c2:Int):rB C 69 Tryz.f69 (frame0 [LL a64 p0,.fn 70 [.ia [S p1_c0,I p1_c1,I p1_c2] 0]] 9 false) ((T69 p0 p1_c0 p1_c1 p1_c2).map B):=by
 unfold T69
 refine zS 1 0 (mkE [(0,LL a64 p0),(1,.fn 70 [.ia [S p1_c0,I p1_c1,I p1_c2] 0])] [] 9) (zR 0 1 (sg 2 (mkE [(6,.fn 70 [.ia [S p1_c0,I p1_c1,I p1_c2] 0]),(5,LL a64 p0),(0,LL a64 p0),(1,.fn 70 [.ia [S p1_c0,I p1_c1,I p1_c2] 0])] [] 9) (co 7 [] (h120 p0 p1_c0 p1_c1 p1_c2) (fun x1=>?_))))
 exact zE (mkE [(4,B (leI 0 x1))] [] 9)
theorem F69(m:Nat)(hm:3≤m)(p0:(List S64))(p1_c0:ByteArray)(p1_c1:Int)(p1_c2:Int):callA Tryz.prog cfg m 69 [LL a64 p0,.fn 70 [.ia [S p1_c0,I p1_c1,I p1_c2] 0]]=(T69 p0 p1_c0 p1_c1 p1_c2).map B:=by
 obtain⟨q,rfl⟩:=sucK hm
 exact(callA_body (fn:=Tryz.f69) (c:=body_ Tryz.f69) q _ (by kernel_rfl) (by kernel_rfl) (by kernel_rfl)).trans (B69 _ (fun p0 p1_c0 p1_c1 p1_c2=>F120 q (by omega) p0 p1_c0 p1_c1 p1_c2) p0 p1_c0 p1_c1 p1_c2)
noncomputable def T40(p0:S46)(p1:S32):Option Bool:=((T69 p0.f7 p1.f0 p1.f1 p1.f2).bind fun x1=>(some x1))
theorem B40(C:Callee)(h69:∀(p0:(List S64))(p1_c0:ByteArray)(p1_c1:Int)(p1_c2:Int),C 69 [LL a64 p0,.fn 70 [.ia [S p1_c0,I p1_c1,I p1_c2] 0]]=(T69 p0 p1_c0 p1_c1 p1_c2).map B)(p0:S46)(p1:S32):rB C 40 Tryz.f40 (frame0 [a46 p0,a32 p1] 9 false) ((T40 p0 p1).map B):=by
 unfold T40
 let o_0:List (Nat×AObj):=[(16,.box [S p0.f0,S p0.f1,I p0.f2,LL S p0.f3,I p0.f4,I p0.f5,I p0.f6,LL a64 p0.f7,S p0.f8] false),(24,.box [S p1.f0,I p1.f1,I p1.f2] false)]
 refine zS 1 0 (mkE [(2,.ba 16 0),(3,.ba 24 0)] o_0 9) (zR 0 1 (sg 3 (mkE [(7,.fn 70 [.ba 24 0]),(6,LL a64 p0.f7),(5,.ba 16 7),(2,.ba 16 0),(3,.ba 24 0)] o_0 9) (co 8 [24] (h69 p0.f7 p1.f0 p1.f1 p1.f2) (fun x1=>?_))))
 exact zE (mkE [(4,B x1)] [] 9)
theorem F40(m:Nat)(hm:4≤m)(p0:S46)(p1:S32):callA Tryz.prog cfg m 40 [a46 p0,a32 p1]=(T40 p0 p1).map B:=by
 obtain⟨q,rfl⟩:=sucK hm
 exact(callA_body (fn:=Tryz.f40) (c:=body_ Tryz.f40) q _ (by kernel_rfl) (by kernel_rfl) (by kernel_rfl)).trans (B40 _ (fun p0 p1_c0 p1_c1 p1_c2=>F69 q (by omega) p0 p1_c0 p1_c1 p1_c2) p0 p1)
noncomputable def T34(p0:S46)(p1:Int)(p2:S32)(p3:Int):Option Bool:=(bif (neI p0.f2 3)then(bif (leI p0.f4 p3)then(bif (ltI p0.f4 p1)then((T40 p0 p2).bind fun x1=>(some x1))else(some false))else(some false))else(some false))
abbrev H40(C:Callee):Prop:=∀(p0:S46)(p1:S32),C 40 [a46 p0,a32 p1]=(T40 p0 p1).map B
theorem B34(C:Callee)(h40:H40 C)(p0:S46)(p1:Int)(p2:S32)(p3:Int):rB C 34 Tryz.f34 (frame0 [a46 p0,I p1,a32 p2,I p3] 29 false) ((T34 p0 p1 p2 p3).map B):=by
 unfold T34
 let s_0:List (Nat×AV):=[(18,B (leI p0.f4 p3)),(17,B (leI p0.f4 p3)),(16,B (leI p0.f4 p3)),(15,I p3),(14,I p0.f4),(13,.ba 32 4),(12,B true),(12,B (neI p0.f2 3)),(11,B (neI p0.f2 3)),(10,I p0.f2),(9,.ba 32 2),(1,I p1),(3,I p3),(4,.ba 32 0),(6,.ba 48 0)]
 let s_1:List (Nat×AV):=[(24,B (ltI p0.f4 p1)),(23,B (ltI p0.f4 p1)),(22,B (ltI p0.f4 p1)),(21,I p1),(20,I p0.f4),(19,.ba 32 4),(18,B true)]
 let o_0:List (Nat×AObj):=[(32,.box [S p0.f0,S p0.f1,I p0.f2,LL S p0.f3,I p0.f4,I p0.f5,I p0.f6,LL a64 p0.f7,S p0.f8] false),(48,.box [S p2.f0,I p2.f1,I p2.f2] false)]
 refine zS 1 0 (mkE [(1,I p1),(3,I p3),(4,.ba 32 0),(6,.ba 48 0)] o_0 29) (zR 0 1 (sg 4 (mkE [(12,B (neI p0.f2 3)),(11,B (neI p0.f2 3)),(10,I p0.f2),(9,.ba 32 2),(1,I p1),(3,I p3),(4,.ba 32 0),(6,.ba 48 0)] o_0 29) (sb 12 (neI p0.f2 3) ?_ ?_)))
 ·refine sg 10 (mkE s_0 o_0 29) (sb 18 (leI p0.f4 p3) ?_ ?_)
  ·refine sg 16 (mkE (s_1.append s_0) o_0 29) (sb 24 (ltI p0.f4 p1) ?_ ?_)
   ·refine sg 18 (mkE ((26,a32 p2)::((25,a46 p0)::((24,B true)::(s_1.append s_0)))) o_0 29) (co 27 [] (h40 p0 p2) (fun x1=>?_))
    exact zE (mkE [(8,B x1)] [] 29)
   ·exact zE (mkE [(8,B false)] [] 29)
  ·exact zE (mkE [(8,B false)] [] 29)
 ·exact zE (mkE [(8,B false)] [] 29)
theorem F34(m:Nat)(hm:5≤m)(p0:S46)(p1:Int)(p2:S32)(p3:Int):callA Tryz.prog cfg m 34 [a46 p0,I p1,a32 p2,I p3]=(T34 p0 p1 p2 p3).map B:=by
 obtain⟨q,rfl⟩:=sucK hm
 exact(callA_body (fn:=Tryz.f34) (c:=body_ Tryz.f34) q _ (by kernel_rfl) (by kernel_rfl) (by kernel_rfl)).trans (B34 _ (fun p0 p1=>F40 q (by omega) p0 p1) p0 p1 p2 p3)
noncomputable def T36(p0:S42)(p1:S42):Option Int:=((T38 p0.f0 p1.f0).bind fun x1=>((T38 p0.f1 p1.f1).bind fun x2=>((T37 ([x1,x2]:List Int)).bind fun x3=>(some x3))))
theorem B36(C:Callee)(h37:H37 C)(h38:H38 C)(p0:S42)(p1:S42):rB C 36 Tryz.f36 (frame0 [a42 p0,a42 p1] 17 false) ((T36 p0 p1).map I):=by
 unfold T36
 let d_0:List (Option Nat×REff):=[(some 5,qe (.ba 16 0)),(some 6,qe (S p0.f0)),(some 7,qe (.ba 24 0)),(some 8,qe (S p1.f0))]
 let d_1:List (Option Nat×REff):=[(some 10,qe (.ba 16 1)),(some 11,qe (S p0.f1)),(some 12,qe (.ba 24 1)),(some 13,qe (S p1.f1))]
 let s_0:List (Nat×AV):=[(8,S p1.f0),(7,.ba 24 0),(6,S p0.f0),(5,.ba 16 0),(2,.ba 16 0),(3,.ba 24 0)]
 let o_0:List (Nat×AObj):=[(16,.box [S p0.f0,S p0.f1,I p0.f2,I p0.f3] false),(24,.box [S p1.f0,S p1.f1,I p1.f2,I p1.f3] false)]
 refine zS 1 0 (mkE [(2,.ba 16 0),(3,.ba 24 0)] o_0 17) (gS 0 (gD 1 13 (rg Tryz.f36 1) [0,1,2,3,4,5,6,7,8,9,10,11,12] (dg 4 d_0 (dc 9 [] (mkE s_0 o_0 17) (h38 p0.f0 p1.f0) (fun x1=>?_)))))
 refine dg 9 (d_0.append ((some 9,qe (I x1))::d_1)) (dc 14 [] (mkE ((13,S p1.f1)::((12,.ba 24 1)::((11,S p0.f1)::((10,.ba 16 1)::((9,I x1)::s_0))))) o_0 17) (h38 p0.f1 p1.f1) (fun x2=>?_))
 refine dg 11 (d_0.append ((some 9,qe (I x1))::(d_1.append ((some 14,qe (I x2))::[(some 15,{ e:={ val:= .own 120 0,news:=[(120,RR 3 1 I ([x1,x2]:List Int) 0 false)] } })])))) (dc 16 [120] (mkE ((15,.own 120 0)::((14,I x2)::((13,S p1.f1)::((12,.ba 24 1)::((11,S p0.f1)::((10,.ba 16 1)::((9,I x1)::s_0))))))) ((120,RR 3 1 I ([x1,x2]:List Int) 0 false)::o_0) 17) (h37 ([x1,x2]:List Int)) (fun x3=>?_))
 exact dg 13 (d_0.append ((some 9,qe (I x1))::(d_1.append ((some 14,qe (I x2))::((some 15,{ e:={ val:= .own 120 0,news:=[(120,RR 3 1 I ([x1,x2]:List Int) 0 false)] } })::((some 16,qe (I x3))::[(some 4,qe (I x3))])))))) (de (mkE ((4,I x3)::((16,I x3)::((15,.own 120 0)::((14,I x2)::((13,S p1.f1)::((12,.ba 24 1)::((11,S p0.f1)::((10,.ba 16 1)::((9,I x1)::s_0))))))))) ((120,RR 3 1 I ([x1,x2]:List Int) 0 false)::o_0) 17) (zE (mkE [(4,I x3)] [] 17)))
theorem F36(m:Nat)(hm:3≤m)(p0:S42)(p1:S42):callA Tryz.prog cfg m 36 [a42 p0,a42 p1]=(T36 p0 p1).map I:=by
 obtain⟨q,rfl⟩:=sucK hm
 exact(callA_bodyQ (fn:=Tryz.f36) (c:=body_ Tryz.f36) q _ (by kernel_rfl) (by kernel_rfl) (by kernel_rfl)).trans (B36 _ (fun p0=>(guard_q (by kernel_rfl) _).trans (F37 q (by omega) p0)) (fun p0 p1=>(guard_q (by kernel_rfl) _).trans (F38 q (by omega) p0 p1)) p0 p1)
theorem F35(m:Nat)(hm:4≤m)(p0:(List S42)):callA Tryz.prog cfg m 35 [.fr 43 4 (List.map a42 p0),.fn 36 []]=(sortO (fun x y=>T36 x y) p0).map (fun(r:(List S42))=>AV.inp (.tup []) (.fr 43 4 (List.map a42 r))):=by
 obtain⟨q,rfl⟩:=sucK hm
 exact(callA_leaf (L:=(leafSortF Tryz.prog 43 4)) _ _ (by kernel_rfl)).trans (sortF_leaf 43 4 36 [] a42 (fun x y=>T36 x y) _ p0 (fun x y=>F36 q (by omega) x y) (fun _=>by kernel_rfl) (by kernel_rfl))
noncomputable def L10_13(p0:(List S46))(p1:(List S32))(p3:Int)(p4:Int)(x4:(List (S77×Int)))(z0:((List Int)×(List S42)×Int))(x6:S32)(z1:((List Int)×(List S42)×Int)):Option (((List Int)×(List S42)×Int)⊕(Int×Bool×(List Int)×(List S42))):=(bif (ltI z1.2.2 (lenL p0))then((listAt p0 z1.2.2).bind fun x7=>((idxO (List.length z1.1) z1.2.2).bind fun x8=>((getN z1.1 x8).bind fun x9=>((T34 x7 x9 x6 p4).bind fun x10=>(bif (!x10)then(some (.inl (z1.1,z1.2.1,(addI .i64 z1.2.2 1))))else(bif (leI p4 (addI .i64 x7.f4 p3))then(some (.inl (z1.1,z1.2.1,(addI .i64 z1.2.2 1))))else((idxO (List.length z1.1) z1.2.2).bind fun x11=>((getN z1.1 x11).bind fun x12=>(bif (ltI x12 (addI .i64 x7.f4 p3))then(some (.inl (z1.1,z1.2.1,(addI .i64 z1.2.2 1))))else(bif (!(mgetB (fun a b:S77=>allB [eqB a.f0 b.f0,eqB a.f1 b.f1]) x4 (S77.mk x6.f0 x7.f0)).isSome)then((appO 48 z1.2.1 ([(S42.mk x6.f0 x7.f0 (addI .i64 x7.f4 p3) (-1))]:List S42)).bind fun x13=>(some (.inl (z1.1,x13,(addI .i64 z1.2.2 1)))))else(bif (ltI (addI .i64 x7.f4 p3) ((mgetB (fun a b:S77=>allB [eqB a.f0 b.f0,eqB a.f1 b.f1]) x4 (S77.mk x6.f0 x7.f0)).getD 0))then((appO 48 z1.2.1 ([(S42.mk x6.f0 x7.f0 (addI .i64 x7.f4 p3) ((mgetB (fun a b:S77=>allB [eqB a.f0 b.f0,eqB a.f1 b.f1]) x4 (S77.mk x6.f0 x7.f0)).getD 0))]:List S42)).bind fun x14=>(some (.inl (z1.1,x14,(addI .i64 z1.2.2 1)))))else(some (.inl (z1.1,z1.2.1,(addI .i64 z1.2.2 1)))))))))))))))else(some (.inr (z1.2.2,(ltI z1.2.2 (lenL p0)),z1.1,z1.2.1))))
set_option maxHeartbeats 4000000 in
abbrev H34(C:Callee):Prop:=∀(p0:S46)(p1:Int)(p2:S32)(p3:Int),C 34 [a46 p0,I p1,a32 p2,I p3]=(T34 p0 p1 p2 p3).map B
theorem L10_13_ok(C:Callee)(h34:H34 C)(p0:(List S46))(p1:(List S32))(p3:Int)(p4:Int)(x4:(List (S77×Int)))(z0:((List Int)×(List S42)×Int))(x6:S32)(z1:((List Int)×(List S42)×Int)):rL C 10 Tryz.f10 13 [false,false,true,true,false,false,true,true,false,false,true,false,true,true,true,true,true,true] (fun z1:((List Int)×(List S42)×Int)=>(mkE [(0,LL a46 p0),(3,I p3),(4,I p4),(13,MV a77 I x4),(14,.own 112 0),(15,.own 120 0),(17,.ba 136 0),(42,LL a32 p1),(43,I (lenL p1)),(44,I z0.2.2),(48,LL a46 p0),(49,I (lenL p0)),(50,I z1.2.2)] [(112,RR 3 1 I z1.1 0 false),(120,RR 43 4 a42 z1.2.1 0 false),(136,.box [S x6.f0,I x6.f1,I x6.f2] false)] 122)) (fun(x:(Int×Bool×(List Int)×(List S42)))=>(.exit 2,(mkE [(0,LL a46 p0),(3,I p3),(4,I p4),(13,MV a77 I x4),(14,.own 112 0),(15,.own 120 0),(17,.ba 136 0),(42,LL a32 p1),(43,I (lenL p1)),(44,I z0.2.2),(48,LL a46 p0),(49,I (lenL p0)),(50,I x.1),(51,B x.2.1)] [(112,RR 3 1 I x.2.2.1 0 false),(120,RR 43 4 a42 x.2.2.2 0 false),(136,.box [S x6.f0,I x6.f1,I x6.f2] false)] 122))) (L10_13 p0 p1 p3 p4 x4 z0 x6 z1) z1:=by
 unfold L10_13
 let d_0:List (Option Nat×REff):=[(some 60,qe (.own 112 0)),(some 61,qe (I z1.2.2))]
 let d_1:List (Option Nat×REff):=[(some 64,qe (a32 x6)),(some 65,qe (I p4))]
 let d_2:List (Option Nat×REff):=[(some 73,qe (B true)),(some 74,qe (.und)),(some 75,qe (.und)),(some 76,qe (.und)),(some 77,qe (.und)),(some 78,qe (.und)),(some 79,qe (.und)),(some 80,qe (B true))]
 let s_0:List (Nat×AV):=[(0,LL a46 p0),(3,I p3),(4,I p4),(13,MV a77 I x4),(14,.own 112 0),(15,.own 120 0),(17,.ba 136 0)]
 let s_1:List (Nat×AV):=[(42,LL a32 p1),(43,I (lenL p1)),(44,I z0.2.2),(48,LL a46 p0),(49,I (lenL p0))]
 let s_2:List (Nat×AV):=[(0,LL a46 p0),(3,I p3),(4,I p4),(13,MV a77 I x4),(14,.own 112 0),(15,.own 120 1),(17,.ba 136 0)]
 let s_3:List (Nat×AV):=[(18,I z1.2.2),(19,.ba 152 0)]
 let s_4:List (Nat×AV):=[(61,I z1.2.2),(60,.own 112 0)]
 let s_5:List (Nat×AV):=[(50,I z1.2.2)]
 let o_0:List (Nat×AObj):=[(112,RR 3 1 I z1.1 0 false),(120,RR 43 4 a42 z1.2.1 0 false),(136,.box [S x6.f0,I x6.f1,I x6.f2] false)]
 refine zS 0 13 (mkE (s_0.append (s_1.append (s_5.append [(51,B (ltI z1.2.2 (lenL p0)))]))) o_0 122) (gS 14 (gC 51 (ltI z1.2.2 (lenL p0)) ?_ ?_))
 ·refine gK (zP (gS 22 (gB 3 (zR 15 14 (sg 1 (mkE ((52,I z1.2.2)::(s_0.append (s_1.append (s_5.append [(51,B (ltI z1.2.2 (lenL p0)))])))) o_0 122) (vo 53 (addrE 26 47 9 a46 .i64 p0 z1.2.2) (fun x7=>?_)))))))
  refine zN (mkE (s_0.append (s_3.append (s_1.append s_5))) (o_0.append [(152,.box [S x7.f0,S x7.f1,I x7.f2,LL S x7.f3,I x7.f4,I x7.f5,I x7.f6,LL a64 x7.f7,S x7.f8] false)]) 122) (zS 16 15 (mkE (s_0.append (s_3.append ((20,I (addI .i64 x7.f4 p3))::(s_1.append s_5)))) (o_0.append [(152,.box [S x7.f0,S x7.f1,I x7.f2,LL S x7.f3,I x7.f4,I x7.f5,I x7.f6,LL a64 x7.f7,S x7.f8] false)]) 122) (gS 17 (gS 0 (gD 16 22 (rg Tryz.f10 16) [0,1,2,3,4,5,6,7,8,9,10,11,12,13,14,15,16,17,18,19,20,21] (dg 3 ((some 59,qe (a46 x7))::d_0) (dv 62 (mkE (s_4.append (s_0.append (s_3.append ((20,I (addI .i64 x7.f4 p3))::(s_1.append s_5))))) (o_0.append [(152,.box [S x7.f0,S x7.f1,I x7.f2,LL S x7.f3,I x7.f4,I x7.f5,I x7.f6,LL a64 x7.f7,S x7.f8] false)]) 122) (addrOE 22 3 1 112 0 false I .i64 z1.1 z1.2.2) (fun x8=>?_)))))))
  refine dv 63 (mkE ((62,.oa 112 0 x8 0)::(s_4.append (s_0.append (s_3.append ((20,I (addI .i64 x7.f4 p3))::(s_1.append s_5)))))) (o_0.append [(152,.box [S x7.f0,S x7.f1,I x7.f2,LL S x7.f3,I x7.f4,I x7.f5,I x7.f6,LL a64 x7.f7,S x7.f8] false)]) 122) (loadOE 3 112 0 x8 0 3 1 1 false false I (fun q:Int=>I q) z1.1) (fun x9=>?_)
  refine dg 7 ((some 59,qe (a46 x7))::(d_0.append ((some 62,qe (.oa 112 0 x8 0))::((some 63,qe (I x9))::d_1)))) (dc 66 [] (mkE ((65,I p4)::((64,a32 x6)::((63,I x9)::((62,.oa 112 0 x8 0)::(s_4.append ((59,a46 x7)::(s_0.append (s_3.append ((20,I (addI .i64 x7.f4 p3))::(s_1.append s_5)))))))))) (o_0.append [(152,.box [S x7.f0,S x7.f1,I x7.f2,LL S x7.f3,I x7.f4,I x7.f5,I x7.f6,LL a64 x7.f7,S x7.f8] false)]) 122) (h34 x7 x9 x6 p4) (fun x10=>?_))
  refine dg 10 ((some 59,qe (a46 x7))::(d_0.append ((some 62,qe (.oa 112 0 x8 0))::((some 63,qe (I x9))::(d_1.append ((some 66,qe (B x10))::((some 67,qe (B (!x10)))::[(some 68,qe (B (!x10)))]))))))) (db 9 68 (!x10) ?_ ?_)
  ·exact dg 22 ((some 59,qe (a46 x7))::(d_0.append ((some 62,qe (.oa 112 0 x8 0))::((some 63,qe (I x9))::(d_1.append ((some 66,qe (B x10))::((some 67,qe (B (!x10)))::((some 68,qe (B true))::((some 69,qe (.und))::((some 70,qe (.und))::((some 71,qe (.und))::((some 72,qe (B true))::d_2)))))))))))) (de (mkE ((80,B true)::((79,.und)::((78,.und)::((77,.und)::((76,.und)::((75,.und)::((74,.und)::((73,B true)::((72,B true)::((71,.und)::((70,.und)::((69,.und)::((68,B true)::((67,B (!x10))::((66,B x10)::((65,I p4)::((64,a32 x6)::((63,I x9)::((62,.oa 112 0 x8 0)::(s_4.append ((59,a46 x7)::(s_0.append (s_3.append ((20,I (addI .i64 x7.f4 p3))::(s_1.append s_5))))))))))))))))))))))))) (o_0.append [(152,.box [S x7.f0,S x7.f1,I x7.f2,LL S x7.f3,I x7.f4,I x7.f5,I x7.f6,LL a64 x7.f7,S x7.f8] false)]) 122) (zN (mkE (s_0.append ((19,.ba 152 0)::((20,I (addI .i64 x7.f4 p3))::(s_1.append (s_5.append [(80,B true)]))))) (o_0.append [(152,.box [S x7.f0,S x7.f1,I x7.f2,LL S x7.f3,I x7.f4,I x7.f5,I x7.f6,LL a64 x7.f7,S x7.f8] false)]) 122) (gT (.tmp 80) (gX 3 (pF (pO (pH (zP (gR 22 (rg Tryz.f10 22) (se (mkE (s_0.append (s_1.append [(50,I (addI .i64 z1.2.2 1))])) o_0 122) (pL)))))))))))
  ·refine dg 15 ((some 59,qe (a46 x7))::(d_0.append ((some 62,qe (.oa 112 0 x8 0))::((some 63,qe (I x9))::(d_1.append ((some 66,qe (B x10))::((some 67,qe (B (!x10)))::((some 68,qe (B false))::((some 69,qe (I (addI .i64 x7.f4 p3)))::((some 70,qe (I p4))::((some 71,qe (B (leI p4 (addI .i64 x7.f4 p3))))::((some 72,qe (B (leI p4 (addI .i64 x7.f4 p3))))::[(some 73,qe (B (leI p4 (addI .i64 x7.f4 p3))))])))))))))))) (db 14 73 (leI p4 (addI .i64 x7.f4 p3)) ?_ ?_)
   ·exact dg 22 ((some 59,qe (a46 x7))::(d_0.append ((some 62,qe (.oa 112 0 x8 0))::((some 63,qe (I x9))::(d_1.append ((some 66,qe (B x10))::((some 67,qe (B (!x10)))::((some 68,qe (B false))::((some 69,qe (I (addI .i64 x7.f4 p3)))::((some 70,qe (I p4))::((some 71,qe (B (leI p4 (addI .i64 x7.f4 p3))))::((some 72,qe (B (leI p4 (addI .i64 x7.f4 p3))))::d_2)))))))))))) (de (mkE ((80,B true)::((79,.und)::((78,.und)::((77,.und)::((76,.und)::((75,.und)::((74,.und)::((73,B true)::((72,B (leI p4 (addI .i64 x7.f4 p3)))::((71,B (leI p4 (addI .i64 x7.f4 p3)))::((70,I p4)::((69,I (addI .i64 x7.f4 p3))::((68,B false)::((67,B (!x10))::((66,B x10)::((65,I p4)::((64,a32 x6)::((63,I x9)::((62,.oa 112 0 x8 0)::(s_4.append ((59,a46 x7)::(s_0.append (s_3.append ((20,I (addI .i64 x7.f4 p3))::(s_1.append s_5))))))))))))))))))))))))) (o_0.append [(152,.box [S x7.f0,S x7.f1,I x7.f2,LL S x7.f3,I x7.f4,I x7.f5,I x7.f6,LL a64 x7.f7,S x7.f8] false)]) 122) (zN (mkE (s_0.append ((19,.ba 152 0)::((20,I (addI .i64 x7.f4 p3))::(s_1.append (s_5.append [(80,B true)]))))) (o_0.append [(152,.box [S x7.f0,S x7.f1,I x7.f2,LL S x7.f3,I x7.f4,I x7.f5,I x7.f6,LL a64 x7.f7,S x7.f8] false)]) 122) (gT (.tmp 80) (gX 3 (pF (pO (pH (zP (gR 22 (rg Tryz.f10 22) (se (mkE (s_0.append (s_1.append [(50,I (addI .i64 z1.2.2 1))])) o_0 122) (pL)))))))))))
   ·refine dg 17 ((some 59,qe (a46 x7))::(d_0.append ((some 62,qe (.oa 112 0 x8 0))::((some 63,qe (I x9))::(d_1.append ((some 66,qe (B x10))::((some 67,qe (B (!x10)))::((some 68,qe (B false))::((some 69,qe (I (addI .i64 x7.f4 p3)))::((some 70,qe (I p4))::((some 71,qe (B (leI p4 (addI .i64 x7.f4 p3))))::((some 72,qe (B (leI p4 (addI .i64 x7.f4 p3))))::((some 73,qe (B false))::((some 74,qe (.own 112 0))::[(some 75,qe (I z1.2.2))])))))))))))))) (dv 76 (mkE ((75,I z1.2.2)::((74,.own 112 0)::((73,B false)::((72,B (leI p4 (addI .i64 x7.f4 p3)))::((71,B (leI p4 (addI .i64 x7.f4 p3)))::((70,I p4)::((69,I (addI .i64 x7.f4 p3))::((68,B false)::((67,B (!x10))::((66,B x10)::((65,I p4)::((64,a32 x6)::((63,I x9)::((62,.oa 112 0 x8 0)::(s_4.append ((59,a46 x7)::(s_0.append (s_3.append ((20,I (addI .i64 x7.f4 p3))::(s_1.append s_5)))))))))))))))))))) (o_0.append [(152,.box [S x7.f0,S x7.f1,I x7.f2,LL S x7.f3,I x7.f4,I x7.f5,I x7.f6,LL a64 x7.f7,S x7.f8] false)]) 122) (addrOE 22 3 1 112 0 false I .i64 z1.1 z1.2.2) (fun x11=>?_))
    refine dv 77 (mkE ((76,.oa 112 0 x11 0)::((75,I z1.2.2)::((74,.own 112 0)::((73,B false)::((72,B (leI p4 (addI .i64 x7.f4 p3)))::((71,B (leI p4 (addI .i64 x7.f4 p3)))::((70,I p4)::((69,I (addI .i64 x7.f4 p3))::((68,B false)::((67,B (!x10))::((66,B x10)::((65,I p4)::((64,a32 x6)::((63,I x9)::((62,.oa 112 0 x8 0)::(s_4.append ((59,a46 x7)::(s_0.append (s_3.append ((20,I (addI .i64 x7.f4 p3))::(s_1.append s_5))))))))))))))))))))) (o_0.append [(152,.box [S x7.f0,S x7.f1,I x7.f2,LL S x7.f3,I x7.f4,I x7.f5,I x7.f6,LL a64 x7.f7,S x7.f8] false)]) 122) (loadOE 3 112 0 x11 0 3 1 1 false false I (fun q:Int=>I q) z1.1) (fun x12=>?_)
    refine dg 22 ((some 59,qe (a46 x7))::(d_0.append ((some 62,qe (.oa 112 0 x8 0))::((some 63,qe (I x9))::(d_1.append ((some 66,qe (B x10))::((some 67,qe (B (!x10)))::((some 68,qe (B false))::((some 69,qe (I (addI .i64 x7.f4 p3)))::((some 70,qe (I p4))::((some 71,qe (B (leI p4 (addI .i64 x7.f4 p3))))::((some 72,qe (B (leI p4 (addI .i64 x7.f4 p3))))::((some 73,qe (B false))::((some 74,qe (.own 112 0))::((some 75,qe (I z1.2.2))::((some 76,qe (.oa 112 0 x11 0))::((some 77,qe (I x12))::((some 78,qe (I (addI .i64 x7.f4 p3)))::((some 79,qe (B (ltI x12 (addI .i64 x7.f4 p3))))::[(some 80,qe (B (ltI x12 (addI .i64 x7.f4 p3))))]))))))))))))))))))) (de (mkE ((80,B (ltI x12 (addI .i64 x7.f4 p3)))::((79,B (ltI x12 (addI .i64 x7.f4 p3)))::((78,I (addI .i64 x7.f4 p3))::((77,I x12)::((76,.oa 112 0 x11 0)::((75,I z1.2.2)::((74,.own 112 0)::((73,B false)::((72,B (leI p4 (addI .i64 x7.f4 p3)))::((71,B (leI p4 (addI .i64 x7.f4 p3)))::((70,I p4)::((69,I (addI .i64 x7.f4 p3))::((68,B false)::((67,B (!x10))::((66,B x10)::((65,I p4)::((64,a32 x6)::((63,I x9)::((62,.oa 112 0 x8 0)::(s_4.append ((59,a46 x7)::(s_0.append (s_3.append ((20,I (addI .i64 x7.f4 p3))::(s_1.append s_5))))))))))))))))))))))))) (o_0.append [(152,.box [S x7.f0,S x7.f1,I x7.f2,LL S x7.f3,I x7.f4,I x7.f5,I x7.f6,LL a64 x7.f7,S x7.f8] false)]) 122) (zN (mkE (s_0.append ((19,.ba 152 0)::((20,I (addI .i64 x7.f4 p3))::(s_1.append (s_5.append [(80,B (ltI x12 (addI .i64 x7.f4 p3)))]))))) (o_0.append [(152,.box [S x7.f0,S x7.f1,I x7.f2,LL S x7.f3,I x7.f4,I x7.f5,I x7.f6,LL a64 x7.f7,S x7.f8] false)]) 122) (gC 80 (ltI x12 (addI .i64 x7.f4 p3)) ?_ ?_)))
    ·exact gX 3 (pF (pO (pH (zP (gR 22 (rg Tryz.f10 22) (se (mkE (s_0.append (s_1.append [(50,I (addI .i64 z1.2.2 1))])) o_0 122) (pL)))))))
    ·refine gK (zP (zR 18 17 (sg 6 (mkE ((87,.agg [S x6.f0,S x7.f0])::((86,S x7.f0)::((85,.ba 152 0)::((84,S x6.f0)::((83,.ba 136 0)::((82,MV a77 I x4)::(s_0.append ((19,.ba 152 0)::((20,I (addI .i64 x7.f4 p3))::(s_1.append (s_5.append [(80,B (ltI x12 (addI .i64 x7.f4 p3)))]))))))))))) (o_0.append [(152,.box [S x7.f0,S x7.f1,I x7.f2,LL S x7.f3,I x7.f4,I x7.f5,I x7.f6,LL a64 x7.f7,S x7.f8] false)]) 122) (eo 88 (.tup [I ((mgetB (fun a b:S77=>allB [eqB a.f0 b.f0,eqB a.f1 b.f1]) x4 (S77.mk x6.f0 x7.f0)).getD 0),B (mgetB (fun a b:S77=>allB [eqB a.f0 b.f0,eqB a.f1 b.f1]) x4 (S77.mk x6.f0 x7.f0)).isSome]) (mapV2 72 78 3 a77 I (fun a b:S77=>allB [eqB a.f0 b.f0,eqB a.f1 b.f1]) x4 (S77.mk x6.f0 x7.f0) 0 (fun _ _=>by kernel_rfl)) (zN (mkE (s_0.append ((19,.ba 152 0)::((20,I (addI .i64 x7.f4 p3))::((21,I ((mgetB (fun a b:S77=>allB [eqB a.f0 b.f0,eqB a.f1 b.f1]) x4 (S77.mk x6.f0 x7.f0)).getD 0))::((22,B (mgetB (fun a b:S77=>allB [eqB a.f0 b.f0,eqB a.f1 b.f1]) x4 (S77.mk x6.f0 x7.f0)).isSome)::(s_1.append s_5)))))) (o_0.append [(152,.box [S x7.f0,S x7.f1,I x7.f2,LL S x7.f3,I x7.f4,I x7.f5,I x7.f6,LL a64 x7.f7,S x7.f8] false)]) 122) (gB 4 (zS 0 18 (mkE (s_0.append ((19,.ba 152 0)::((20,I (addI .i64 x7.f4 p3))::((21,I ((mgetB (fun a b:S77=>allB [eqB a.f0 b.f0,eqB a.f1 b.f1]) x4 (S77.mk x6.f0 x7.f0)).getD 0))::(s_1.append (s_5.append [(91,B (!(mgetB (fun a b:S77=>allB [eqB a.f0 b.f0,eqB a.f1 b.f1]) x4 (S77.mk x6.f0 x7.f0)).isSome))])))))) (o_0.append [(152,.box [S x7.f0,S x7.f1,I x7.f2,LL S x7.f3,I x7.f4,I x7.f5,I x7.f6,LL a64 x7.f7,S x7.f8] false)]) 122) (gC 91 (!(mgetB (fun a b:S77=>allB [eqB a.f0 b.f0,eqB a.f1 b.f1]) x4 (S77.mk x6.f0 x7.f0)).isSome) ?_ ?_))))))))
     ·refine gR 19 (rg Tryz.f10 19) (sg 8 (mkE ((101,.own 808 0)::((100,.agg [S x6.f0,S x7.f0,I (addI .i64 x7.f4 p3),I (-1)])::((99,I (addI .i64 x7.f4 p3))::((98,S x7.f0)::((97,.ba 152 0)::((96,S x6.f0)::((95,.ba 136 0)::((94,.own 120 0)::(s_0.append ((19,.ba 152 0)::((20,I (addI .i64 x7.f4 p3))::((21,I ((mgetB (fun a b:S77=>allB [eqB a.f0 b.f0,eqB a.f1 b.f1]) x4 (S77.mk x6.f0 x7.f0)).getD 0))::(s_1.append (s_5.append [(91,B (!(mgetB (fun a b:S77=>allB [eqB a.f0 b.f0,eqB a.f1 b.f1]) x4 (S77.mk x6.f0 x7.f0)).isSome))])))))))))))))) ((808,RR 43 4 a42 ([(S42.mk x6.f0 x7.f0 (addI .i64 x7.f4 p3) (-1))]:List S42) 0 false)::(o_0.append [(152,.box [S x7.f0,S x7.f1,I x7.f2,LL S x7.f3,I x7.f4,I x7.f5,I x7.f6,LL a64 x7.f7,S x7.f8] false)])) 122) (mo (some 102) (apO 38 43 4 48 120 a42 0 [808] (y:= .own 808 0) (l2:=([(S42.mk x6.f0 x7.f0 (addI .i64 x7.f4 p3) (-1))]:List S42))) (fun x13=>?_)))
      exact se (mkE (s_2.append (s_1.append s_5)) [(112,RR 3 1 I z1.1 0 false),(120,RR 43 4 a42 x13 1 false),(136,.box [S x6.f0,I x6.f1,I x6.f2] false)] 122) (pB (pB (zP (gR 22 (rg Tryz.f10 22) (se (mkE (s_2.append (s_1.append [(50,I (addI .i64 z1.2.2 1))])) [(112,RR 3 1 I z1.1 0 false),(120,RR 43 4 a42 x13 1 false),(136,.box [S x6.f0,I x6.f1,I x6.f2] false)] 122) (pL))))))
     ·refine zS 0 20 (mkE (s_0.append ((19,.ba 152 0)::((20,I (addI .i64 x7.f4 p3))::((21,I ((mgetB (fun a b:S77=>allB [eqB a.f0 b.f0,eqB a.f1 b.f1]) x4 (S77.mk x6.f0 x7.f0)).getD 0))::(s_1.append (s_5.append [(103,B (ltI (addI .i64 x7.f4 p3) ((mgetB (fun a b:S77=>allB [eqB a.f0 b.f0,eqB a.f1 b.f1]) x4 (S77.mk x6.f0 x7.f0)).getD 0)))])))))) (o_0.append [(152,.box [S x7.f0,S x7.f1,I x7.f2,LL S x7.f3,I x7.f4,I x7.f5,I x7.f6,LL a64 x7.f7,S x7.f8] false)]) 122) (gC 103 (ltI (addI .i64 x7.f4 p3) ((mgetB (fun a b:S77=>allB [eqB a.f0 b.f0,eqB a.f1 b.f1]) x4 (S77.mk x6.f0 x7.f0)).getD 0)) ?_ ?_)
      ·refine gR 21 (rg Tryz.f10 21) (sg 9 (mkE ((115,.own 920 0)::((114,.agg [S x6.f0,S x7.f0,I (addI .i64 x7.f4 p3),I ((mgetB (fun a b:S77=>allB [eqB a.f0 b.f0,eqB a.f1 b.f1]) x4 (S77.mk x6.f0 x7.f0)).getD 0)])::((113,I ((mgetB (fun a b:S77=>allB [eqB a.f0 b.f0,eqB a.f1 b.f1]) x4 (S77.mk x6.f0 x7.f0)).getD 0))::((112,I (addI .i64 x7.f4 p3))::((111,S x7.f0)::((110,.ba 152 0)::((109,S x6.f0)::((108,.ba 136 0)::((107,.own 120 0)::(s_0.append ((19,.ba 152 0)::((20,I (addI .i64 x7.f4 p3))::((21,I ((mgetB (fun a b:S77=>allB [eqB a.f0 b.f0,eqB a.f1 b.f1]) x4 (S77.mk x6.f0 x7.f0)).getD 0))::(s_1.append (s_5.append [(103,B (ltI (addI .i64 x7.f4 p3) ((mgetB (fun a b:S77=>allB [eqB a.f0 b.f0,eqB a.f1 b.f1]) x4 (S77.mk x6.f0 x7.f0)).getD 0)))]))))))))))))))) ((920,RR 43 4 a42 ([(S42.mk x6.f0 x7.f0 (addI .i64 x7.f4 p3) ((mgetB (fun a b:S77=>allB [eqB a.f0 b.f0,eqB a.f1 b.f1]) x4 (S77.mk x6.f0 x7.f0)).getD 0))]:List S42) 0 false)::(o_0.append [(152,.box [S x7.f0,S x7.f1,I x7.f2,LL S x7.f3,I x7.f4,I x7.f5,I x7.f6,LL a64 x7.f7,S x7.f8] false)])) 122) (mo (some 116) (apO 38 43 4 48 120 a42 0 [920] (y:= .own 920 0) (l2:=([(S42.mk x6.f0 x7.f0 (addI .i64 x7.f4 p3) ((mgetB (fun a b:S77=>allB [eqB a.f0 b.f0,eqB a.f1 b.f1]) x4 (S77.mk x6.f0 x7.f0)).getD 0))]:List S42))) (fun x14=>?_)))
       exact se (mkE (s_2.append (s_1.append s_5)) [(112,RR 3 1 I z1.1 0 false),(120,RR 43 4 a42 x14 1 false),(136,.box [S x6.f0,I x6.f1,I x6.f2] false)] 122) (pB (pB (zP (gR 22 (rg Tryz.f10 22) (se (mkE (s_2.append (s_1.append [(50,I (addI .i64 z1.2.2 1))])) [(112,RR 3 1 I z1.1 0 false),(120,RR 43 4 a42 x14 1 false),(136,.box [S x6.f0,I x6.f1,I x6.f2] false)] 122) (pL))))))
      ·exact gK (pB (pB (zP (gR 22 (rg Tryz.f10 22) (se (mkE (s_0.append (s_1.append [(50,I (addI .i64 z1.2.2 1))])) o_0 122) (pL))))))
 ·exact gX 2 (pL)
noncomputable def L10_10(p0:(List S46))(p1:(List S32))(p3:Int)(p4:Int)(x4:(List (S77×Int)))(z0:((List Int)×(List S42)×Int)):Option (((List Int)×(List S42)×Int)⊕(Int×Bool×(List Int)×(List S42))):=(bif (ltI z0.2.2 (lenL p1))then((listAt p1 z0.2.2).bind fun x6=>((iter (L10_13 p0 p1 p3 p4 x4 z0 x6) (z0.1,z0.2.1,0)).bind fun y15=>(some (.inl (y15.2.2.1,y15.2.2.2,(addI .i64 z0.2.2 1))))))else(some (.inr (z0.2.2,(ltI z0.2.2 (lenL p1)),z0.1,z0.2.1))))
theorem L10_10_ok(C:Callee)(h34:H34 C)(p0:(List S46))(p1:(List S32))(p3:Int)(p4:Int)(x4:(List (S77×Int)))(z0:((List Int)×(List S42)×Int)):rL C 10 Tryz.f10 10 [false,false,true,false,true,true,true,true,true,true] (fun z0:((List Int)×(List S42)×Int)=>(mkE [(0,LL a46 p0),(3,I p3),(4,I p4),(13,MV a77 I x4),(14,.own 112 0),(15,.own 120 0),(42,LL a32 p1),(43,I (lenL p1)),(44,I z0.2.2)] [(112,RR 3 1 I z0.1 0 false),(120,RR 43 4 a42 z0.2.1 0 false)] 122)) (fun(x:(Int×Bool×(List Int)×(List S42)))=>(.exit 0,(mkE [(0,LL a46 p0),(3,I p3),(4,I p4),(13,MV a77 I x4),(14,.own 112 0),(15,.own 120 0),(42,LL a32 p1),(43,I (lenL p1)),(44,I x.1),(45,B x.2.1)] [(112,RR 3 1 I x.2.2.1 0 false),(120,RR 43 4 a42 x.2.2.2 0 false)] 122))) (L10_10 p0 p1 p3 p4 x4 z0) z0:=by
 unfold L10_10
 let s_0:List (Nat×AV):=[(0,LL a46 p0),(3,I p3),(4,I p4),(13,MV a77 I x4),(14,.own 112 0),(15,.own 120 0),(17,.ba 136 0),(42,LL a32 p1),(43,I (lenL p1)),(44,I z0.2.2)]
 let s_1:List (Nat×AV):=[(0,LL a46 p0),(3,I p3),(4,I p4),(13,MV a77 I x4),(14,.own 112 0),(15,.own 120 0),(42,LL a32 p1),(43,I (lenL p1))]
 let o_0:List (Nat×AObj):=[(112,RR 3 1 I z0.1 0 false),(120,RR 43 4 a42 z0.2.1 0 false)]
 refine zS 0 10 (mkE (s_1.append ((44,I z0.2.2)::[(45,B (ltI z0.2.2 (lenL p1)))])) o_0 122) (gS 11 (gC 45 (ltI z0.2.2 (lenL p1)) ?_ ?_))
 ·refine gK (zP (gS 23 (gB 1 (zR 12 11 (vo 46 (addrE 28 33 3 a32 .i64 p1 z0.2.2) (fun x6=>?_))))))
  refine zN (mkE s_0 (o_0.append [(136,.box [S x6.f0,I x6.f1,I x6.f2] false)]) 122) (zR 13 12 (sg 1 (mkE ((48,LL a46 p0)::s_0) (o_0.append [(136,.box [S x6.f0,I x6.f1,I x6.f2] false)]) 122) (eo 49 (I (lenL p0)) (lenE 26 a46 p0) (zN (mkE (s_0.append ((48,LL a46 p0)::((49,I (lenL p0))::[(50,I 0)]))) (o_0.append [(136,.box [S x6.f0,I x6.f1,I x6.f2] false)]) 122) (gB 2 (lo [(0,none),(3,none),(4,none),(13,none),(14,some (3,1)),(15,some (43,4)),(17,none),(42,none),(43,none),(44,none),(48,none),(49,none),(50,none)] [] (L10_13 p0 p1 p3 p4 x4 z0 x6) (fun z1:((List Int)×(List S42)×Int)=>(mkE (s_0.append ((48,LL a46 p0)::((49,I (lenL p0))::[(50,I z1.2.2)]))) [(112,RR 3 1 I z1.1 0 false),(120,RR 43 4 a42 z1.2.1 0 false),(136,.box [S x6.f0,I x6.f1,I x6.f2] false)] 122)) (fun(x:(Int×Bool×(List Int)×(List S42)))=>(.exit 2,(mkE (s_0.append ((48,LL a46 p0)::((49,I (lenL p0))::((50,I x.1)::[(51,B x.2.1)])))) [(112,RR 3 1 I x.2.2.1 0 false),(120,RR 43 4 a42 x.2.2.2 0 false),(136,.box [S x6.f0,I x6.f1,I x6.f2] false)] 122))) (z0.1,z0.2.1,0) (fun z=>L10_13_ok C h34 p0 p1 p3 p4 x4 z0 x6 z) ?_))))))
  intro y15
  exact pH (pB (zP (gR 23 (rg Tryz.f10 23) (se (mkE (s_1.append [(44,I (addI .i64 z0.2.2 1))]) [(112,RR 3 1 I y15.2.2.1 0 false),(120,RR 43 4 a42 y15.2.2.2 0 false)] 122) (pL)))))
 ·exact gX 0 (pL)
noncomputable def T10(p0:(List S46))(p1:(List S32))(p2:(List S36))(p3:Int)(p4:Int):Option ((List S42)×Int):=((T29 p0 p1 p2).bind fun x1=>(bif (neI x1 0)then(some ([],x1))else((T30 p3 0 2592000000).bind fun x2=>(bif x2 then(some ([],1))else((T31 p4).bind fun x3=>(bif (!x3)then(some ([],1))else((T32 p2 p4).bind fun x4=>((T33 p0).bind fun x5=>((iter (L10_10 p0 p1 p3 p4 x4) (x5,[],0)).bind fun y16=>((sortO (fun x y=>T36 x y) y16.2.2.2).bind fun x17=>(some (x17,0))))))))))))
theorem B10(C:Callee)(h29:∀(p0:(List S46))(p1:(List S32))(p2:(List S36)),C 29 [LL a46 p0,LL a32 p1,LL a36 p2]=(T29 p0 p1 p2).map I)(h30:H30 C)(h31:H31 C)(h32:∀(p0:(List S36))(p1:Int),C 32 [LL a36 p0,I p1]=(T32 p0 p1).map (MV a77 I))(h33:∀(p0:(List S46)),C 33 [LL a46 p0]=(T33 p0).map (fun l=>AV.fr 3 1 (List.map I l)))(h34:H34 C)(h35:∀(p0:(List S42)),C 35 [.fr 43 4 (List.map a42 p0),.fn 36 []]=(sortO (fun x y=>T36 x y) p0).map (fun(r:(List S42))=>AV.inp (.tup []) (.fr 43 4 (List.map a42 r))))(p0:(List S46))(p1:(List S32))(p2:(List S36))(p3:Int)(p4:Int):rB C 10 Tryz.f10 (frame0 [LL a46 p0,LL a32 p1,LL a36 p2,I p3,I p4] 122 false) ((T10 p0 p1 p2 p3 p4).map (fun r=>AV.tup [(fun l=>AV.fr 43 4 (List.map a42 l)) r.1,I r.2])):=by
 unfold T10
 let s_0:List (Nat×AV):=[(0,LL a46 p0),(1,LL a32 p1),(2,LL a36 p2),(3,I p3),(4,I p4)]
 let s_1:List (Nat×AV):=[(0,LL a46 p0),(1,LL a32 p1),(3,I p3),(4,I p4)]
 let s_2:List (Nat×AV):=[(14,.own 112 0),(15,.own 120 0),(42,LL a32 p1),(43,I (lenL p1))]
 refine zS 1 0 (mkE s_0 [] 122) (gS 4 (zR 2 1 (sg 3 (mkE ((25,LL a36 p2)::((24,LL a32 p1)::((23,LL a46 p0)::s_0))) [] 122) (co 26 [] (h29 p0 p1 p2) (fun x1=>?_)))))
 refine zN (mkE (s_0.append [(12,I x1)]) [] 122) (zS 0 2 (mkE (s_0.append ((12,I x1)::[(28,B (neI x1 0))])) [] 122) (gC 28 (neI x1 0) ?_ ?_))
 ·exact zF 0 3 (mkE [(10,.nils),(11,I x1)] [] 122)
 ·refine gK (zP (gS 6 (zR 0 4 (sg 1 (mkE ((30,I p3)::(s_0.append ((12,I x1)::[(28,B (neI x1 0))]))) [] 122) (co 31 [] (h30 p3 0 2592000000) (fun x2=>?_))))))
  refine sg 3 (mkE ((32,B x2)::((31,B x2)::((30,I p3)::(s_0.append ((12,I x1)::[(28,B (neI x1 0))]))))) [] 122) (sb 32 x2 ?_ ?_)
  ·exact zN (mkE (s_0.append [(36,B true)]) [] 122) (gT (.tmp 36) (zF 0 5 (mkE [(10,.nils),(11,I 1)] [] 122)))
  ·refine sg 4 (mkE ((33,I p4)::((32,B false)::((32,B x2)::((31,B x2)::((30,I p3)::(s_0.append ((12,I x1)::[(28,B (neI x1 0))]))))))) [] 122) (co 34 [] (h31 p4) (fun x3=>?_))
   refine zN (mkE (s_0.append [(36,B (!x3))]) [] 122) (gC 36 (!x3) ?_ ?_)
   ·exact zF 0 5 (mkE [(10,.nils),(11,I 1)] [] 122)
   ·refine gK (zP (zR 7 6 (sg 2 (mkE ((38,I p4)::((37,LL a36 p2)::(s_0.append [(36,B (!x3))]))) [] 122) (co 39 [] (h32 p2 p4) (fun x4=>?_)))))
    refine zN (mkE (s_1.append [(13,MV a77 I x4)]) [] 122) (zR 8 7 (sg 1 (mkE ((40,LL a46 p0)::(s_1.append [(13,MV a77 I x4)])) [] 122) (co 41 [] (h33 p0) (fun x5=>?_))))
    refine zN (mkE (s_1.append ((13,MV a77 I x4)::[(14,.own 328 0)])) [(328,RR 3 1 I x5 0 false)] 122) (zS 9 8 (mkE (s_1.append ((13,MV a77 I x4)::((14,.own 328 0)::[(15,.nils)]))) [(328,RR 3 1 I x5 0 false)] 122) (gS 24 (zR 10 9 (sg 1 (mkE ((42,LL a32 p1)::(s_1.append ((13,MV a77 I x4)::((14,.own 328 0)::[(15,.nils)])))) [(328,RR 3 1 I x5 0 false)] 122) (eo 43 (I (lenL p1)) (lenE 28 a32 p1) (zN (mkE [(0,LL a46 p0),(3,I p3),(4,I p4),(13,MV a77 I x4),(14,.own 328 0),(15,.nils),(42,LL a32 p1),(43,I (lenL p1)),(44,I 0)] [(328,RR 3 1 I x5 0 false)] 122) (gB 0 (lo [(0,none),(3,none),(4,none),(13,none),(14,some (3,1)),(15,some (43,4)),(42,none),(43,none),(44,none)] [] (L10_10 p0 p1 p3 p4 x4) (fun z0:((List Int)×(List S42)×Int)=>(mkE ((0,LL a46 p0)::((3,I p3)::((4,I p4)::((13,MV a77 I x4)::(s_2.append [(44,I z0.2.2)]))))) [(112,RR 3 1 I z0.1 0 false),(120,RR 43 4 a42 z0.2.1 0 false)] 122)) (fun(x:(Int×Bool×(List Int)×(List S42)))=>(.exit 0,(mkE ((0,LL a46 p0)::((3,I p3)::((4,I p4)::((13,MV a77 I x4)::(s_2.append ((44,I x.1)::[(45,B x.2.1)])))))) [(112,RR 3 1 I x.2.2.1 0 false),(120,RR 43 4 a42 x.2.2.2 0 false)] 122))) (x5,[],0) (fun z=>L10_10_ok C h34 p0 p1 p3 p4 x4 z) ?_))))))))
    intro y16
    refine pH (zP (zR 25 24 (sg 1 (mkE ((119,.own 120 0)::((0,LL a46 p0)::((3,I p3)::((4,I p4)::((13,MV a77 I x4)::(s_2.append ((44,I y16.1)::[(45,B y16.2.1)]))))))) [(112,RR 3 1 I y16.2.2.1 0 false),(120,RR 43 4 a42 y16.2.2.2 0 false)] 122) (mo (some 120) (ipR 35 43 4 120 0 a42 y16.2.2.2 [.fn 36 []] [.fn 36 []] [] (fun x:(List S42)=> .tup []) (fun x:(List S42)=>x) (h35 y16.2.2.2)) (fun x17=>?_)))))
    exact zN (mkE [(15,.own 120 0)] [(120,RR 43 4 a42 x17 0 false)] 122) (zF 0 25 (mkE [(10,.own 120 0),(11,I 0)] [(120,RR 43 4 a42 x17 0 false)] 122))
theorem F10(m:Nat)(hm:8≤m)(p0:(List S46))(p1:(List S32))(p2:(List S36))(p3:Int)(p4:Int):callA Tryz.prog cfg m 10 [LL a46 p0,LL a32 p1,LL a36 p2,I p3,I p4]=(T10 p0 p1 p2 p3 p4).map (fun r=>AV.tup [(fun l=>AV.fr 43 4 (List.map a42 l)) r.1,I r.2]):=by
 obtain⟨q,rfl⟩:=sucK hm
 exact(callA_body (fn:=Tryz.f10) (c:=body_ Tryz.f10) q _ (by kernel_rfl) (by kernel_rfl) (by kernel_rfl)).trans (B10 _ (fun p0 p1 p2=>F29 q (by omega) p0 p1 p2) (fun p0 p1 p2=>F30 q (by omega) p0 p1 p2) (fun p0=>F31 q (by omega) p0) (fun p0 p1=>F32 q (by omega) p0 p1) (fun p0=>F33 q (by omega) p0) (fun p0 p1 p2 p3=>F34 q (by omega) p0 p1 p2 p3) (fun p0=>F35 q (by omega) p0) p0 p1 p2 p3 p4)
noncomputable def T12(p0:S46)(p1_c0:ByteArray)(p1_c1:ByteArray)(p1_c2:Int)(p1_c3:Int):Option Bool:=(some (eqS p0.f0 p1_c1))
theorem B12(C:Callee)(p0:S46)(p1_c0:ByteArray)(p1_c1:ByteArray)(p1_c2:Int)(p1_c3:Int):rB C 12 Tryz.f12 (frame0 [a46 p0,.ia [S p1_c0,S p1_c1,I p1_c2,I p1_c3] 0] 9 false) ((T12 p0 p1_c0 p1_c1 p1_c2 p1_c3).map B):=by
 unfold T12
 exact zS 1 0 (mkE [(1,.ia [S p1_c0,S p1_c1,I p1_c2,I p1_c3] 0),(2,.ba 16 0)] [(16,.box [S p0.f0,S p0.f1,I p0.f2,LL S p0.f3,I p0.f4,I p0.f5,I p0.f6,LL a64 p0.f7,S p0.f8] false)] 9) (zF 0 1 (mkE [(3,B (eqS p0.f0 p1_c1))] [] 9))
theorem F12(m:Nat)(hm:1≤m)(p0:S46)(p1_c0:ByteArray)(p1_c1:ByteArray)(p1_c2:Int)(p1_c3:Int):callA Tryz.prog cfg m 12 [a46 p0,.ia [S p1_c0,S p1_c1,I p1_c2,I p1_c3] 0]=(T12 p0 p1_c0 p1_c1 p1_c2 p1_c3).map B:=by
 obtain⟨q,rfl⟩:=sucK hm
 exact(callA_body (fn:=Tryz.f12) (c:=body_ Tryz.f12) q _ (by kernel_rfl) (by kernel_rfl) (by kernel_rfl)).trans (B12 _ p0 p1_c0 p1_c1 p1_c2 p1_c3)
noncomputable def L11_1_2(p0:(List S46))(p1_c0:ByteArray)(p1_c1:ByteArray)(p1_c2:Int)(p1_c3:Int)(z0:Int):Option (Int⊕((Int×Bool)⊕Int)):=(bif (ltI z0 (lenL p0))then((listAt p0 z0).bind fun x1=>((T12 x1 p1_c0 p1_c1 p1_c2 p1_c3).bind fun x2=>(bif x2 then(some (.inr (.inr z0)))else(some (.inl (addI .i64 z0 1))))))else(some (.inr (.inl (z0,(ltI z0 (lenL p0)))))))
abbrev H12(C:Callee):Prop:=∀(p0:S46)(p1_c0:ByteArray)(p1_c1:ByteArray)(p1_c2:Int)(p1_c3:Int),C 12 [a46 p0,.ia [S p1_c0,S p1_c1,I p1_c2,I p1_c3] 0]=(T12 p0 p1_c0 p1_c1 p1_c2 p1_c3).map B
theorem L11_1_2_ok(C:Callee)(h12:H12 C)(p0:(List S46))(p1_c0:ByteArray)(p1_c1:ByteArray)(p1_c2:Int)(p1_c3:Int)(z0:Int):rL C 11 Tryz.f11 2 [false,false,true,false,true] (fun z0:Int=>(mkE [(0,LL a46 p0),(1,.fn 12 [.ia [S p1_c0,S p1_c1,I p1_c2,I p1_c3] 0]),(7,I (lenL p0)),(8,I z0)] [] 19)) (Sum.elim (fun(x:(Int×Bool))=>(.exit 0,(mkE [(0,LL a46 p0),(1,.fn 12 [.ia [S p1_c0,S p1_c1,I p1_c2,I p1_c3] 0]),(7,I (lenL p0)),(8,I x.1),(9,B x.2)] [] 19))) (fun(x:Int)=>(.ret,(mkE [(4,I x)] [] 19)))) (L11_1_2 p0 p1_c0 p1_c1 p1_c2 p1_c3 z0) z0:=by
 unfold L11_1_2
 let s_0:List (Nat×AV):=[(0,LL a46 p0),(1,.fn 12 [.ia [S p1_c0,S p1_c1,I p1_c2,I p1_c3] 0])]
 refine zS 0 2 (mkE (s_0.append ((7,I (lenL p0))::((8,I z0)::[(9,B (ltI z0 (lenL p0)))]))) [] 19) (gS 3 (gC 9 (ltI z0 (lenL p0)) ?_ ?_))
 ·refine gK (zP (gS 6 (gB 1 (zS 4 3 (mkE (s_0.append ((5,I z0)::((7,I (lenL p0))::[(8,I z0)]))) [] 19) (zR 0 4 (sg 3 (mkE ((13,I z0)::((12,LL a46 p0)::((11,.fn 12 [.ia [S p1_c0,S p1_c1,I p1_c2,I p1_c3] 0])::(s_0.append ((5,I z0)::((7,I (lenL p0))::[(8,I z0)])))))) [] 19) (vo 14 (addrE 26 47 9 a46 .i64 p0 z0) (fun x1=>?_))))))))
  refine sg 5 (mkE ((15,a46 x1)::((14,.ia [S x1.f0,S x1.f1,I x1.f2,LL S x1.f3,I x1.f4,I x1.f5,I x1.f6,LL a64 x1.f7,S x1.f8] 0)::((13,I z0)::((12,LL a46 p0)::((11,.fn 12 [.ia [S p1_c0,S p1_c1,I p1_c2,I p1_c3] 0])::(s_0.append ((5,I z0)::((7,I (lenL p0))::[(8,I z0)])))))))) [] 19) (co 16 [] (h12 x1 p1_c0 p1_c1 p1_c2 p1_c3) (fun x2=>?_))
  refine zN (mkE (s_0.append ((5,I z0)::((7,I (lenL p0))::((8,I z0)::[(16,B x2)])))) [] 19) (gC 16 x2 ?_ ?_)
  ·exact zF 0 5 (mkE [(4,I z0)] [] 19)
  ·exact gK (pB (zP (gR 6 (rg Tryz.f11 6) (se (mkE (s_0.append ((7,I (lenL p0))::[(8,I (addI .i64 z0 1))])) [] 19) (pL)))))
 ·exact gX 0 (pL)
noncomputable def T11_1(p0:(List S46))(p1_c0:ByteArray)(p1_c1:ByteArray)(p1_c2:Int)(p1_c3:Int):Option Int:=((iter (L11_1_2 p0 p1_c0 p1_c1 p1_c2 p1_c3) 0).bind fun y3=>(Sum.elim (fun y3a=>(some (-1))) (fun y3b=>(some y3b)) y3))
theorem B11_1(C:Callee)(h12:H12 C)(p0:(List S46))(p1_c0:ByteArray)(p1_c1:ByteArray)(p1_c2:Int)(p1_c3:Int):runs Tryz.prog C (cfg.fn 11) (finFn Tryz.prog (cfg.fn 11).byval Tryz.f11) [] (execA Tryz.prog C (cfg.fn 11) (nr Tryz.f11 []) (frame0 [LL a46 p0,.fn 12 [.ia [S p1_c0,S p1_c1,I p1_c2,I p1_c3] 0]] 19 false))=(T11_1 p0 p1_c0 p1_c1 p1_c2 p1_c3).map I:=by
 unfold T11_1
 let s_0:List (Nat×AV):=[(0,LL a46 p0),(1,.fn 12 [.ia [S p1_c0,S p1_c1,I p1_c2,I p1_c3] 0])]
 refine zS 1 0 (mkE s_0 [] 19) (gS 7 (zR 2 1 (sg 1 (mkE ((6,LL a46 p0)::s_0) [] 19) (eo 7 (I (lenL p0)) (lenE 26 a46 p0) (zN (mkE (s_0.append ((7,I (lenL p0))::[(8,I 0)])) [] 19) (gB 0 (lo [(0,none),(1,none),(7,none),(8,none)] [] (L11_1_2 p0 p1_c0 p1_c1 p1_c2 p1_c3) (fun z0:Int=>(mkE (s_0.append ((7,I (lenL p0))::[(8,I z0)])) [] 19)) (Sum.elim (fun(x:(Int×Bool))=>(.exit 0,(mkE (s_0.append ((7,I (lenL p0))::((8,I x.1)::[(9,B x.2)]))) [] 19))) (fun(x:Int)=>(.ret,(mkE [(4,I x)] [] 19)))) 0 (fun z=>L11_1_2_ok C h12 p0 p1_c0 p1_c1 p1_c2 p1_c3 z) ?_)))))))
 intro y3
 refine ss y3 (Z:=(Sum.elim (fun(x:(Int×Bool))=>(.exit 0,(mkE (s_0.append ((7,I (lenL p0))::((8,I x.1)::[(9,B x.2)]))) [] 19))) (fun(x:Int)=>(.ret,(mkE [(4,I x)] [] 19))))) (fun y3a=>?_) (fun y3b=>?_)
 ·exact pH (zP (zF 0 7 (mkE [(4,I (-1))] [] 19)))
 ·exact pL
theorem F11_1(m:Nat)(hm:2≤m)(p0:(List S46))(p1_c0:ByteArray)(p1_c1:ByteArray)(p1_c2:Int)(p1_c3:Int):callA Tryz.prog cfg m 11 [LL a46 p0,.fn 12 [.ia [S p1_c0,S p1_c1,I p1_c2,I p1_c3] 0]]=(T11_1 p0 p1_c0 p1_c1 p1_c2 p1_c3).map I:=by
 obtain⟨q,rfl⟩:=sucK hm
 exact(callA_body (fn:=Tryz.f11) (c:=body_ Tryz.f11) q _ (by kernel_rfl) (by kernel_rfl) (by kernel_rfl)).trans (B11_1 _ (fun p0 p1_c0 p1_c1 p1_c2 p1_c3=>F12 q (by omega) p0 p1_c0 p1_c1 p1_c2 p1_c3) p0 p1_c0 p1_c1 p1_c2 p1_c3)
noncomputable def T14(p0:S32)(p1_c0:ByteArray)(p1_c1:ByteArray)(p1_c2:Int)(p1_c3:Int):Option Bool:=(some (eqS p0.f0 p1_c0))
theorem B14(C:Callee)(p0:S32)(p1_c0:ByteArray)(p1_c1:ByteArray)(p1_c2:Int)(p1_c3:Int):rB C 14 Tryz.f14 (frame0 [a32 p0,.ia [S p1_c0,S p1_c1,I p1_c2,I p1_c3] 0] 9 false) ((T14 p0 p1_c0 p1_c1 p1_c2 p1_c3).map B):=by
 unfold T14
 exact zS 1 0 (mkE [(1,.ia [S p1_c0,S p1_c1,I p1_c2,I p1_c3] 0),(2,.ba 16 0)] [(16,.box [S p0.f0,I p0.f1,I p0.f2] false)] 9) (zF 0 1 (mkE [(3,B (eqS p0.f0 p1_c0))] [] 9))
theorem F14(m:Nat)(hm:1≤m)(p0:S32)(p1_c0:ByteArray)(p1_c1:ByteArray)(p1_c2:Int)(p1_c3:Int):callA Tryz.prog cfg m 14 [a32 p0,.ia [S p1_c0,S p1_c1,I p1_c2,I p1_c3] 0]=(T14 p0 p1_c0 p1_c1 p1_c2 p1_c3).map B:=by
 obtain⟨q,rfl⟩:=sucK hm
 exact(callA_body (fn:=Tryz.f14) (c:=body_ Tryz.f14) q _ (by kernel_rfl) (by kernel_rfl) (by kernel_rfl)).trans (B14 _ p0 p1_c0 p1_c1 p1_c2 p1_c3)
noncomputable def L13_2(p0:(List S32))(p1_c0:ByteArray)(p1_c1:ByteArray)(p1_c2:Int)(p1_c3:Int)(z0:Int):Option (Int⊕((Int×Bool)⊕Int)):=(bif (ltI z0 (lenL p0))then((listAt p0 z0).bind fun x1=>((T14 x1 p1_c0 p1_c1 p1_c2 p1_c3).bind fun x2=>(bif x2 then(some (.inr (.inr z0)))else(some (.inl (addI .i64 z0 1))))))else(some (.inr (.inl (z0,(ltI z0 (lenL p0)))))))
abbrev H14(C:Callee):Prop:=∀(p0:S32)(p1_c0:ByteArray)(p1_c1:ByteArray)(p1_c2:Int)(p1_c3:Int),C 14 [a32 p0,.ia [S p1_c0,S p1_c1,I p1_c2,I p1_c3] 0]=(T14 p0 p1_c0 p1_c1 p1_c2 p1_c3).map B
theorem L13_2_ok(C:Callee)(h14:H14 C)(p0:(List S32))(p1_c0:ByteArray)(p1_c1:ByteArray)(p1_c2:Int)(p1_c3:Int)(z0:Int):rL C 13 Tryz.f13 2 [false,false,true,false,true] (fun z0:Int=>(mkE [(0,LL a32 p0),(1,.fn 14 [.ia [S p1_c0,S p1_c1,I p1_c2,I p1_c3] 0]),(7,I (lenL p0)),(8,I z0)] [] 19)) (Sum.elim (fun(x:(Int×Bool))=>(.exit 0,(mkE [(0,LL a32 p0),(1,.fn 14 [.ia [S p1_c0,S p1_c1,I p1_c2,I p1_c3] 0]),(7,I (lenL p0)),(8,I x.1),(9,B x.2)] [] 19))) (fun(x:Int)=>(.ret,(mkE [(4,I x)] [] 19)))) (L13_2 p0 p1_c0 p1_c1 p1_c2 p1_c3 z0) z0:=by
 unfold L13_2
 let s_0:List (Nat×AV):=[(0,LL a32 p0),(1,.fn 14 [.ia [S p1_c0,S p1_c1,I p1_c2,I p1_c3] 0])]
 refine zS 0 2 (mkE (s_0.append ((7,I (lenL p0))::((8,I z0)::[(9,B (ltI z0 (lenL p0)))]))) [] 19) (gS 3 (gC 9 (ltI z0 (lenL p0)) ?_ ?_))
 ·refine gK (zP (gS 6 (gB 1 (zS 4 3 (mkE (s_0.append ((5,I z0)::((7,I (lenL p0))::[(8,I z0)]))) [] 19) (zR 0 4 (sg 3 (mkE ((13,I z0)::((12,LL a32 p0)::((11,.fn 14 [.ia [S p1_c0,S p1_c1,I p1_c2,I p1_c3] 0])::(s_0.append ((5,I z0)::((7,I (lenL p0))::[(8,I z0)])))))) [] 19) (vo 14 (addrE 28 33 3 a32 .i64 p0 z0) (fun x1=>?_))))))))
  refine sg 5 (mkE ((15,a32 x1)::((14,.ia [S x1.f0,I x1.f1,I x1.f2] 0)::((13,I z0)::((12,LL a32 p0)::((11,.fn 14 [.ia [S p1_c0,S p1_c1,I p1_c2,I p1_c3] 0])::(s_0.append ((5,I z0)::((7,I (lenL p0))::[(8,I z0)])))))))) [] 19) (co 16 [] (h14 x1 p1_c0 p1_c1 p1_c2 p1_c3) (fun x2=>?_))
  refine zN (mkE (s_0.append ((5,I z0)::((7,I (lenL p0))::((8,I z0)::[(16,B x2)])))) [] 19) (gC 16 x2 ?_ ?_)
  ·exact zF 0 5 (mkE [(4,I z0)] [] 19)
  ·exact gK (pB (zP (gR 6 (rg Tryz.f13 6) (se (mkE (s_0.append ((7,I (lenL p0))::[(8,I (addI .i64 z0 1))])) [] 19) (pL)))))
 ·exact gX 0 (pL)
noncomputable def T13(p0:(List S32))(p1_c0:ByteArray)(p1_c1:ByteArray)(p1_c2:Int)(p1_c3:Int):Option Int:=((iter (L13_2 p0 p1_c0 p1_c1 p1_c2 p1_c3) 0).bind fun y3=>(Sum.elim (fun y3a=>(some (-1))) (fun y3b=>(some y3b)) y3))
theorem B13(C:Callee)(h14:H14 C)(p0:(List S32))(p1_c0:ByteArray)(p1_c1:ByteArray)(p1_c2:Int)(p1_c3:Int):rB C 13 Tryz.f13 (frame0 [LL a32 p0,.fn 14 [.ia [S p1_c0,S p1_c1,I p1_c2,I p1_c3] 0]] 19 false) ((T13 p0 p1_c0 p1_c1 p1_c2 p1_c3).map I):=by
 unfold T13
 let s_0:List (Nat×AV):=[(0,LL a32 p0),(1,.fn 14 [.ia [S p1_c0,S p1_c1,I p1_c2,I p1_c3] 0])]
 refine zS 1 0 (mkE s_0 [] 19) (gS 7 (zR 2 1 (sg 1 (mkE ((6,LL a32 p0)::s_0) [] 19) (eo 7 (I (lenL p0)) (lenE 28 a32 p0) (zN (mkE (s_0.append ((7,I (lenL p0))::[(8,I 0)])) [] 19) (gB 0 (lo [(0,none),(1,none),(7,none),(8,none)] [] (L13_2 p0 p1_c0 p1_c1 p1_c2 p1_c3) (fun z0:Int=>(mkE (s_0.append ((7,I (lenL p0))::[(8,I z0)])) [] 19)) (Sum.elim (fun(x:(Int×Bool))=>(.exit 0,(mkE (s_0.append ((7,I (lenL p0))::((8,I x.1)::[(9,B x.2)]))) [] 19))) (fun(x:Int)=>(.ret,(mkE [(4,I x)] [] 19)))) 0 (fun z=>L13_2_ok C h14 p0 p1_c0 p1_c1 p1_c2 p1_c3 z) ?_)))))))
 intro y3
 refine ss y3 (Z:=(Sum.elim (fun(x:(Int×Bool))=>(.exit 0,(mkE (s_0.append ((7,I (lenL p0))::((8,I x.1)::[(9,B x.2)]))) [] 19))) (fun(x:Int)=>(.ret,(mkE [(4,I x)] [] 19))))) (fun y3a=>?_) (fun y3b=>?_)
 ·exact pH (zP (zF 0 7 (mkE [(4,I (-1))] [] 19)))
 ·exact pL
theorem F13(m:Nat)(hm:2≤m)(p0:(List S32))(p1_c0:ByteArray)(p1_c1:ByteArray)(p1_c2:Int)(p1_c3:Int):callA Tryz.prog cfg m 13 [LL a32 p0,.fn 14 [.ia [S p1_c0,S p1_c1,I p1_c2,I p1_c3] 0]]=(T13 p0 p1_c0 p1_c1 p1_c2 p1_c3).map I:=by
 obtain⟨q,rfl⟩:=sucK hm
 exact(callA_body (fn:=Tryz.f13) (c:=body_ Tryz.f13) q _ (by kernel_rfl) (by kernel_rfl) (by kernel_rfl)).trans (B13 _ (fun p0 p1_c0 p1_c1 p1_c2 p1_c3=>F14 q (by omega) p0 p1_c0 p1_c1 p1_c2 p1_c3) p0 p1_c0 p1_c1 p1_c2 p1_c3)
noncomputable def T15(p0:S46)(p1:S32):Option (Bool×Int):=((T39 ([p0]:List S46) ([p1]:List S32)).bind fun x1=>(bif (neI x1 0)then(some (false,x1))else((T40 p0 p1).bind fun x2=>(some (x2,0)))))
theorem B15(C:Callee)(h39:H39 C)(h40:H40 C)(p0:S46)(p1:S32):rB C 15 Tryz.f15 (frame0 [a46 p0,a32 p1] 18 false) ((T15 p0 p1).map (fun r=>AV.tup [B r.1,I r.2])):=by
 unfold T15
 let o_0:List (Nat×AObj):=[(16,.box [S p0.f0,S p0.f1,I p0.f2,LL S p0.f3,I p0.f4,I p0.f5,I p0.f6,LL a64 p0.f7,S p0.f8] false),(24,.box [S p1.f0,I p1.f1,I p1.f2] false)]
 refine zS 1 0 (mkE [(2,.ba 16 0),(3,.ba 24 0)] o_0 18) (gS 4 (zR 2 1 (sg 4 (mkE [(10,.own 80 0),(9,a32 p1),(8,.own 64 0),(7,a46 p0),(2,.ba 16 0),(3,.ba 24 0)] ((80,RR 33 3 a32 ([p1]:List S32) 0 false)::((64,RR 47 9 a46 ([p0]:List S46) 0 false)::o_0)) 18) (co 11 [64,80] (h39 ([p0]:List S46) ([p1]:List S32)) (fun x1=>?_)))))
 refine zN (mkE [(2,.ba 16 0),(3,.ba 24 0),(6,I x1)] o_0 18) (zS 0 2 (mkE [(2,.ba 16 0),(3,.ba 24 0),(6,I x1),(13,B (neI x1 0))] o_0 18) (gC 13 (neI x1 0) ?_ ?_))
 ·exact zF 0 3 (mkE [(4,B false),(5,I x1)] [] 18)
 ·refine gK (zP (zR 0 4 (sg 2 (mkE [(16,a32 p1),(15,a46 p0),(2,.ba 16 0),(3,.ba 24 0),(6,I x1),(13,B (neI x1 0))] o_0 18) (co 17 [] (h40 p0 p1) (fun x2=>?_)))))
  exact zE (mkE [(4,B x2),(5,I 0)] [] 18)
theorem F15(m:Nat)(hm:7≤m)(p0:S46)(p1:S32):callA Tryz.prog cfg m 15 [a46 p0,a32 p1]=(T15 p0 p1).map (fun r=>AV.tup [B r.1,I r.2]):=by
 obtain⟨q,rfl⟩:=sucK hm
 exact(callA_body (fn:=Tryz.f15) (c:=body_ Tryz.f15) q _ (by kernel_rfl) (by kernel_rfl) (by kernel_rfl)).trans (B15 _ (fun p0 p1=>F39 q (by omega) p0 p1) (fun p0 p1=>F40 q (by omega) p0 p1) p0 p1)
end Go.Abs.TUD
