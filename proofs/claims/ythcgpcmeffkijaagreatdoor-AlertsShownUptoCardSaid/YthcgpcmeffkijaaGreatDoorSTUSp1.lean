import Derived.Test.YthcgpcmeffkijaaGreatDoorSTUS0
set_option maxRecDepth 100000
set_option linter.unusedVariables false
namespace Go.Abs.TUS
open Go.RowKit Go.Proofs Go.Abs
theorem F13(m:Nat)(hm:1≤m)(p0:(List ByteArray)):callA Tryz.prog cfg m 13 [LL S p0]=(appO 16 ([]:List ByteArray) p0).map (fun l=>AV.fr 9 1 (List.map S l)):=by
 obtain⟨q,rfl⟩:=sucK hm
 exact(callA_leaf (L:=(leafClone Tryz.prog 9 1 16)) _ _ (by kernel_rfl)).trans (clone_leaf S _ _ (fun _=>by kernel_rfl))
theorem F14(m:Nat)(hm:1≤m)(p0:(List S43)):callA Tryz.prog cfg m 14 [LL a43 p0]=(appO 32 ([]:List S43) p0).map (fun l=>AV.fr 44 4 (List.map a43 l)):=by
 obtain⟨q,rfl⟩:=sucK hm
 exact(callA_leaf (L:=(leafClone Tryz.prog 44 4 32)) _ _ (by kernel_rfl)).trans (clone_leaf a43 _ _ (fun _=>by kernel_rfl))
noncomputable def L5_3(p0:(List S39))(z0:((List S39)×Int)):Option (((List S39)×Int)⊕(Int×Bool×(List S39))):=(bif (ltI z0.2 (lenL p0))then((listAt p0 z0.2).bind fun x1=>((appO 16 ([]:List ByteArray) x1.f3).bind fun x2=>((appO 32 ([]:List S43) x1.f7).bind fun x3=>((appO 128 z0.1 ([(S39.mk x1.f0 x1.f1 x1.f2 x2 x1.f4 x1.f5 x1.f6 x3 x1.f8)]:List S39)).bind fun x4=>(some (.inl (x4,(addI .i64 z0.2 1))))))))else(some (.inr (z0.2,(ltI z0.2 (lenL p0)),z0.1))))
abbrev H13(C:Callee):Prop:=∀(p0:(List ByteArray)),C 13 [LL S p0]=(appO 16 ([]:List ByteArray) p0).map (fun l=>AV.fr 9 1 (List.map S l))
abbrev H14(C:Callee):Prop:=∀(p0:(List S43)),C 14 [LL a43 p0]=(appO 32 ([]:List S43) p0).map (fun l=>AV.fr 44 4 (List.map a43 l))
theorem L5_3_ok(C:Callee)(h13:H13 C)(h14:H14 C)(p0:(List S39))(z0:((List S39)×Int)):rL C 5 Tryz.f5 3 [false,false,true,false,true,true] (fun z0:((List S39)×Int)=>(mkE [(3,.own 24 0),(6,LL a39 p0),(7,I (lenL p0)),(8,I z0.2)] [(24,RR 40 9 a39 z0.1 0 false)] 26)) (fun(x:(Int×Bool×(List S39)))=>(.exit 0,(mkE [(3,.own 24 0),(6,LL a39 p0),(7,I (lenL p0)),(8,I x.1),(9,B x.2.1)] [(24,RR 40 9 a39 x.2.2 0 false)] 26))) (L5_3 p0 z0) z0:=by
 unfold L5_3
 let s_0:List (Nat×AV):=[(3,.own 24 0),(5,.ba 40 0),(6,LL a39 p0),(7,I (lenL p0)),(8,I z0.2)]
 let o_0:List (Nat×AObj):=[(24,RR 40 9 a39 z0.1 0 false)]
 refine zS 0 3 (mkE [(3,.own 24 0),(6,LL a39 p0),(7,I (lenL p0)),(8,I z0.2),(9,B (ltI z0.2 (lenL p0)))] o_0 26) (gS 4 (gC 9 (ltI z0.2 (lenL p0)) ?_ ?_))
 ·refine gK (zP (gS 7 (gB 1 (zR 5 4 (vo 10 (addrE 22 40 9 a39 .i64 p0 z0.2) (fun x1=>?_))))))
  refine zN (mkE s_0 (o_0.append [(40,.box [S x1.f0,S x1.f1,I x1.f2,LL S x1.f3,I x1.f4,I x1.f5,I x1.f6,LL a43 x1.f7,S x1.f8] false)]) 26) (gS 6 (gD 5 7 (rg Tryz.f5 5) [0,1,2,3,4,5,6,7,8,9] (dg 2 [(some 12,qe (.ba 40 3)),(some 13,qe (LL S x1.f3))] (dc 14 [] (mkE ((13,LL S x1.f3)::((12,.ba 40 3)::s_0)) (o_0.append [(40,.box [S x1.f0,S x1.f1,I x1.f2,LL S x1.f3,I x1.f4,I x1.f5,I x1.f6,LL a43 x1.f7,S x1.f8] false)]) 26) (h13 x1.f3) (fun x2=>?_)))))
  refine dg 5 [(some 12,qe (.ba 40 3)),(some 13,qe (LL S x1.f3)),(some 14,{ e:={ val:= .own 112 0,news:=[(112,RR 9 1 S x2 0 false)] } }),(some 15,qe (.ba 40 7)),(some 16,qe (LL a43 x1.f7))] (dc 17 [] (mkE ((16,LL a43 x1.f7)::((15,.ba 40 7)::((14,.own 112 0)::((13,LL S x1.f3)::((12,.ba 40 3)::s_0))))) ((112,RR 9 1 S x2 0 false)::(o_0.append [(40,.box [S x1.f0,S x1.f1,I x1.f2,LL S x1.f3,I x1.f4,I x1.f5,I x1.f6,LL a43 x1.f7,S x1.f8] false)])) 26) (h14 x1.f7) (fun x3=>?_))
  refine dg 7 [(some 12,qe (.ba 40 3)),(some 13,qe (LL S x1.f3)),(some 14,{ e:={ val:= .own 112 0,news:=[(112,RR 9 1 S x2 0 false)] } }),(some 15,qe (.ba 40 7)),(some 16,qe (LL a43 x1.f7)),(some 17,{ e:={ val:= .own 136 0,news:=[(136,RR 44 4 a43 x3 0 false)] } }),(some 18,qe (.ba 40 3))] (de (mkE ((18,.ba 40 3)::((17,.own 136 0)::((16,LL a43 x1.f7)::((15,.ba 40 7)::((14,.own 112 0)::((13,LL S x1.f3)::((12,.ba 40 3)::s_0))))))) ((136,RR 44 4 a43 x3 0 false)::((112,RR 9 1 S x2 0 false)::(o_0.append [(40,.box [S x1.f0,S x1.f1,I x1.f2,LL S x1.f3,I x1.f4,I x1.f5,I x1.f6,LL a43 x1.f7,S x1.f8] false)]))) 26) (zN (mkE s_0 (o_0.append ((40,.box [S x1.f0,S x1.f1,I x1.f2,.own 112 0,I x1.f4,I x1.f5,I x1.f6,.own 136 0,S x1.f8] false)::((112,RR 9 1 S x2 0 false)::[(136,RR 44 4 a43 x3 0 false)]))) 26) (gR 6 (rg Tryz.f5 6) (sg 3 (mkE ((22,.own 176 0)::((21,.agg [S x1.f0,S x1.f1,I x1.f2,.own 112 0,I x1.f4,I x1.f5,I x1.f6,.own 136 0,S x1.f8])::((20,.own 24 0)::s_0))) ((176,RR 40 9 a39 ([(S39.mk x1.f0 x1.f1 x1.f2 x2 x1.f4 x1.f5 x1.f6 x3 x1.f8)]:List S39) 0 false)::((136,RR 44 4 a43 x3 0 true)::((112,RR 9 1 S x2 0 true)::(o_0.append ((40,.box [S x1.f0,S x1.f1,I x1.f2,.own 112 0,I x1.f4,I x1.f5,I x1.f6,.own 136 0,S x1.f8] false)::((112,RR 9 1 S x2 0 false)::[(136,RR 44 4 a43 x3 0 false)])))))) 26) (mo (some 23) (apO 22 40 9 128 24 a39 0 [176] (y:= .own 176 0) (l2:=([(S39.mk x1.f0 x1.f1 x1.f2 x2 x1.f4 x1.f5 x1.f6 x3 x1.f8)]:List S39))) (fun x4=>?_))))))
  exact se (mkE [(3,.own 24 1),(6,LL a39 p0),(7,I (lenL p0)),(8,I z0.2)] [(24,RR 40 9 a39 x4 1 false)] 26) (pB (zP (gR 7 (rg Tryz.f5 7) (se (mkE [(3,.own 24 1),(6,LL a39 p0),(7,I (lenL p0)),(8,I (addI .i64 z0.2 1))] [(24,RR 40 9 a39 x4 1 false)] 26) (pL)))))
 ·exact gX 0 (pL)
noncomputable def T5(p0:(List S39)):Option (List S39):=((iter (L5_3 p0) ([],0)).bind fun y5=>(some y5.2.2))
theorem B5(C:Callee)(h13:H13 C)(h14:H14 C)(p0:(List S39)):rB C 5 Tryz.f5 (frame0 [LL a39 p0] 26 false) ((T5 p0).map (fun l=>AV.fr 40 9 (List.map a39 l))):=by
 unfold T5
 refine zS 1 0 (mkE [(0,LL a39 p0)] [] 26) (zS 2 1 (mkE [(0,LL a39 p0),(3,.nils)] [] 26) (gS 8 (zR 3 2 (sg 1 (mkE [(6,LL a39 p0),(0,LL a39 p0),(3,.nils)] [] 26) (eo 7 (I (lenL p0)) (lenE 22 a39 p0) (zN (mkE [(3,.nils),(6,LL a39 p0),(7,I (lenL p0)),(8,I 0)] [] 26) (gB 0 (lo [(3,some (40,9)),(6,none),(7,none),(8,none)] [] (L5_3 p0) (fun z0:((List S39)×Int)=>(mkE [(3,.own 24 0),(6,LL a39 p0),(7,I (lenL p0)),(8,I z0.2)] [(24,RR 40 9 a39 z0.1 0 false)] 26)) (fun(x:(Int×Bool×(List S39)))=>(.exit 0,(mkE [(3,.own 24 0),(6,LL a39 p0),(7,I (lenL p0)),(8,I x.1),(9,B x.2.1)] [(24,RR 40 9 a39 x.2.2 0 false)] 26))) ([],0) (fun z=>L5_3_ok C h13 h14 p0 z) ?_))))))))
 intro y5
 exact pH (zP (zF 0 8 (mkE [(2,.own 24 0)] [(24,RR 40 9 a39 y5.2.2 0 false)] 26)))
theorem F5(m:Nat)(hm:2≤m)(p0:(List S39)):callA Tryz.prog cfg m 5 [LL a39 p0]=(T5 p0).map (fun l=>AV.fr 40 9 (List.map a39 l)):=by
 obtain⟨q,rfl⟩:=sucK hm
 exact(callA_body (fn:=Tryz.f5) (c:=body_ Tryz.f5) q _ (by kernel_rfl) (by kernel_rfl) (by kernel_rfl)).trans (B5 _ (fun p0=>F13 q (by omega) p0) (fun p0=>F14 q (by omega) p0) p0)
theorem F6(m:Nat)(hm:1≤m)(p0:(List S26)):callA Tryz.prog cfg m 6 [LL a26 p0]=(appO 32 ([]:List S26) p0).map (fun l=>AV.fr 27 3 (List.map a26 l)):=by
 obtain⟨q,rfl⟩:=sucK hm
 exact(callA_leaf (L:=(leafClone Tryz.prog 27 3 32)) _ _ (by kernel_rfl)).trans (clone_leaf a26 _ _ (fun _=>by kernel_rfl))
noncomputable def L55_2(p0:ByteArray)(z0:Int):Option (Int⊕((Int×Bool)⊕Unit)):=(bif (ltI z0 (lenS p0))then((byteAt p0 z0).bind fun x1=>(bif (leI 97 x1)then(bif (leI x1 122)then(some (.inl (addI .i64 z0 1)))else(bif (ltI 0 z0)then(bif (leI 48 x1)then(bif (leI x1 57)then(some (.inl (addI .i64 z0 1)))else(bif (eqI x1 45)then(some (.inl (addI .i64 z0 1)))else(bif (!(eqI x1 95))then(some (.inr (.inr ())))else(some (.inl (addI .i64 z0 1))))))else(bif (eqI x1 45)then(some (.inl (addI .i64 z0 1)))else(bif (!(eqI x1 95))then(some (.inr (.inr ())))else(some (.inl (addI .i64 z0 1))))))else(some (.inr (.inr ())))))else(bif (ltI 0 z0)then(bif (leI 48 x1)then(bif (leI x1 57)then(some (.inl (addI .i64 z0 1)))else(bif (eqI x1 45)then(some (.inl (addI .i64 z0 1)))else(bif (!(eqI x1 95))then(some (.inr (.inr ())))else(some (.inl (addI .i64 z0 1))))))else(bif (eqI x1 45)then(some (.inl (addI .i64 z0 1)))else(bif (!(eqI x1 95))then(some (.inr (.inr ())))else(some (.inl (addI .i64 z0 1))))))else(some (.inr (.inr ()))))))else(some (.inr (.inl (z0,(ltI z0 (lenS p0)))))))
theorem L55_2_ok(C:Callee)(p0:ByteArray)(z0:Int):rL C 55 Tryz.f55 2 [false,false,true,false,true] (fun z0:Int=>(mkE [(0,S p0),(3,I z0)] [] 48)) (Sum.elim (fun(x:(Int×Bool))=>(.exit 0,(mkE [(0,S p0),(3,I x.1),(8,B x.2)] [] 48))) (fun(x:Unit)=>(.ret,(mkE [(2,B false)] [] 48)))) (L55_2 p0 z0) z0:=by
 unfold L55_2
 let s_0:List (Nat×AV):=[(23,B (ltI 0 z0)),(22,B (ltI 0 z0)),(21,I z0),(20,B false)]
 let s_1:List (Nat×AV):=[(0,S p0),(3,I z0)]
 let s_2:List (Nat×AV):=[(0,S p0),(3,I (addI .i64 z0 1))]
 let s_3:List (Nat×AV):=[(19,B false),(18,.und),(17,.und),(16,B false)]
 refine gS 4 (zS 0 2 (mkE (s_1.append [(8,B (ltI z0 (lenS p0)))]) [] 48) (gC 8 (ltI z0 (lenS p0)) ?_ ?_))
 ·refine gK (zP (gS 3 (gB 1 (zR 5 4 (sg 2 (mkE ((12,I z0)::((11,S p0)::(s_1.append [(8,B (ltI z0 (lenS p0)))]))) [] 48) (vo 13 (byteE 9 .i64 p0 z0) (fun x1=>?_)))))))
  refine zN (mkE (s_1.append [(4,U x1)]) [] 48) (zR 0 5 (sg 3 (mkE ((16,B (leI 97 x1))::((15,B (leI 97 x1))::((14,U x1)::(s_1.append [(4,U x1)])))) [] 48) (sb 16 (leI 97 x1) ?_ ?_)))
  ·refine sg 7 (mkE ((20,B (leI x1 122))::((19,B (leI x1 122))::((18,B (leI x1 122))::((17,U x1)::((16,B true)::((16,B (leI 97 x1))::((15,B (leI 97 x1))::((14,U x1)::(s_1.append [(4,U x1)]))))))))) [] 48) (sb 20 (leI x1 122) ?_ ?_)
   ·exact zN (mkE (s_1.append [(40,B false)]) [] 48) (gF (.tmp 40) (gK (pB (zP (gR 3 (rg Tryz.f55 3) (se (mkE s_2 [] 48) (pL)))))))
   ·refine sg 10 (mkE (s_0.append ((20,B (leI x1 122))::((19,B (leI x1 122))::((18,B (leI x1 122))::((17,U x1)::((16,B true)::((16,B (leI 97 x1))::((15,B (leI 97 x1))::((14,U x1)::(s_1.append [(4,U x1)])))))))))) [] 48) (sb 23 (ltI 0 z0) ?_ ?_)
    ·refine sg 13 (mkE ((26,B (leI 48 x1))::((25,B (leI 48 x1))::((24,U x1)::((23,B true)::(s_0.append ((20,B (leI x1 122))::((19,B (leI x1 122))::((18,B (leI x1 122))::((17,U x1)::((16,B true)::((16,B (leI 97 x1))::((15,B (leI 97 x1))::((14,U x1)::(s_1.append [(4,U x1)])))))))))))))) [] 48) (sb 26 (leI 48 x1) ?_ ?_)
     ·refine sg 17 (mkE ((30,B (leI x1 57))::((29,B (leI x1 57))::((28,B (leI x1 57))::((27,U x1)::((26,B true)::((26,B (leI 48 x1))::((25,B (leI 48 x1))::((24,U x1)::((23,B true)::(s_0.append ((20,B (leI x1 122))::((19,B (leI x1 122))::((18,B (leI x1 122))::((17,U x1)::((16,B true)::((16,B (leI 97 x1))::((15,B (leI 97 x1))::((14,U x1)::(s_1.append [(4,U x1)]))))))))))))))))))) [] 48) (sb 30 (leI x1 57) ?_ ?_)
      ·exact zN (mkE (s_1.append [(40,B false)]) [] 48) (gF (.tmp 40) (gK (pB (zP (gR 3 (rg Tryz.f55 3) (se (mkE s_2 [] 48) (pL)))))))
      ·refine sg 21 (mkE ((34,B (eqI x1 45))::((33,B (eqI x1 45))::((32,B (eqI x1 45))::((31,U x1)::((30,B false)::((30,B (leI x1 57))::((29,B (leI x1 57))::((28,B (leI x1 57))::((27,U x1)::((26,B true)::((26,B (leI 48 x1))::((25,B (leI 48 x1))::((24,U x1)::((23,B true)::(s_0.append ((20,B (leI x1 122))::((19,B (leI x1 122))::((18,B (leI x1 122))::((17,U x1)::((16,B true)::((16,B (leI 97 x1))::((15,B (leI 97 x1))::((14,U x1)::(s_1.append [(4,U x1)])))))))))))))))))))))))) [] 48) (sb 34 (eqI x1 45) ?_ ?_)
       ·exact zN (mkE (s_1.append [(40,B false)]) [] 48) (gF (.tmp 40) (gK (pB (zP (gR 3 (rg Tryz.f55 3) (se (mkE s_2 [] 48) (pL)))))))
       ·refine zN (mkE (s_1.append [(40,B (!(eqI x1 95)))]) [] 48) (gC 40 (!(eqI x1 95)) ?_ ?_)
        ·exact zF 0 6 (mkE [(2,B false)] [] 48)
        ·exact gK (pB (zP (gR 3 (rg Tryz.f55 3) (se (mkE s_2 [] 48) (pL)))))
     ·refine sg 21 (mkE ((34,B (eqI x1 45))::((33,B (eqI x1 45))::((32,B (eqI x1 45))::((31,U x1)::((30,B false)::((29,B false)::((28,.und)::((27,.und)::((26,B false)::((26,B (leI 48 x1))::((25,B (leI 48 x1))::((24,U x1)::((23,B true)::(s_0.append ((20,B (leI x1 122))::((19,B (leI x1 122))::((18,B (leI x1 122))::((17,U x1)::((16,B true)::((16,B (leI 97 x1))::((15,B (leI 97 x1))::((14,U x1)::(s_1.append [(4,U x1)]))))))))))))))))))))))) [] 48) (sb 34 (eqI x1 45) ?_ ?_)
      ·exact zN (mkE (s_1.append [(40,B false)]) [] 48) (gF (.tmp 40) (gK (pB (zP (gR 3 (rg Tryz.f55 3) (se (mkE s_2 [] 48) (pL)))))))
      ·refine zN (mkE (s_1.append [(40,B (!(eqI x1 95)))]) [] 48) (gC 40 (!(eqI x1 95)) ?_ ?_)
       ·exact zF 0 6 (mkE [(2,B false)] [] 48)
       ·exact gK (pB (zP (gR 3 (rg Tryz.f55 3) (se (mkE s_2 [] 48) (pL)))))
    ·exact zN (mkE (s_1.append [(40,B true)]) [] 48) (gT (.tmp 40) (zF 0 6 (mkE [(2,B false)] [] 48)))
  ·refine sg 10 (mkE (s_0.append (s_3.append ((16,B (leI 97 x1))::((15,B (leI 97 x1))::((14,U x1)::(s_1.append [(4,U x1)])))))) [] 48) (sb 23 (ltI 0 z0) ?_ ?_)
   ·refine sg 13 (mkE ((26,B (leI 48 x1))::((25,B (leI 48 x1))::((24,U x1)::((23,B true)::(s_0.append (s_3.append ((16,B (leI 97 x1))::((15,B (leI 97 x1))::((14,U x1)::(s_1.append [(4,U x1)])))))))))) [] 48) (sb 26 (leI 48 x1) ?_ ?_)
    ·refine sg 17 (mkE ((30,B (leI x1 57))::((29,B (leI x1 57))::((28,B (leI x1 57))::((27,U x1)::((26,B true)::((26,B (leI 48 x1))::((25,B (leI 48 x1))::((24,U x1)::((23,B true)::(s_0.append (s_3.append ((16,B (leI 97 x1))::((15,B (leI 97 x1))::((14,U x1)::(s_1.append [(4,U x1)]))))))))))))))) [] 48) (sb 30 (leI x1 57) ?_ ?_)
     ·exact zN (mkE (s_1.append [(40,B false)]) [] 48) (gF (.tmp 40) (gK (pB (zP (gR 3 (rg Tryz.f55 3) (se (mkE s_2 [] 48) (pL)))))))
     ·refine sg 21 (mkE ((34,B (eqI x1 45))::((33,B (eqI x1 45))::((32,B (eqI x1 45))::((31,U x1)::((30,B false)::((30,B (leI x1 57))::((29,B (leI x1 57))::((28,B (leI x1 57))::((27,U x1)::((26,B true)::((26,B (leI 48 x1))::((25,B (leI 48 x1))::((24,U x1)::((23,B true)::(s_0.append (s_3.append ((16,B (leI 97 x1))::((15,B (leI 97 x1))::((14,U x1)::(s_1.append [(4,U x1)])))))))))))))))))))) [] 48) (sb 34 (eqI x1 45) ?_ ?_)
      ·exact zN (mkE (s_1.append [(40,B false)]) [] 48) (gF (.tmp 40) (gK (pB (zP (gR 3 (rg Tryz.f55 3) (se (mkE s_2 [] 48) (pL)))))))
      ·refine zN (mkE (s_1.append [(40,B (!(eqI x1 95)))]) [] 48) (gC 40 (!(eqI x1 95)) ?_ ?_)
       ·exact zF 0 6 (mkE [(2,B false)] [] 48)
       ·exact gK (pB (zP (gR 3 (rg Tryz.f55 3) (se (mkE s_2 [] 48) (pL)))))
    ·refine sg 21 (mkE ((34,B (eqI x1 45))::((33,B (eqI x1 45))::((32,B (eqI x1 45))::((31,U x1)::((30,B false)::((29,B false)::((28,.und)::((27,.und)::((26,B false)::((26,B (leI 48 x1))::((25,B (leI 48 x1))::((24,U x1)::((23,B true)::(s_0.append (s_3.append ((16,B (leI 97 x1))::((15,B (leI 97 x1))::((14,U x1)::(s_1.append [(4,U x1)]))))))))))))))))))) [] 48) (sb 34 (eqI x1 45) ?_ ?_)
     ·exact zN (mkE (s_1.append [(40,B false)]) [] 48) (gF (.tmp 40) (gK (pB (zP (gR 3 (rg Tryz.f55 3) (se (mkE s_2 [] 48) (pL)))))))
     ·refine zN (mkE (s_1.append [(40,B (!(eqI x1 95)))]) [] 48) (gC 40 (!(eqI x1 95)) ?_ ?_)
      ·exact zF 0 6 (mkE [(2,B false)] [] 48)
      ·exact gK (pB (zP (gR 3 (rg Tryz.f55 3) (se (mkE s_2 [] 48) (pL)))))
   ·exact zN (mkE (s_1.append [(40,B true)]) [] 48) (gT (.tmp 40) (zF 0 6 (mkE [(2,B false)] [] 48)))
 ·exact gX 0 (pL)
noncomputable def T55(p0:ByteArray):Option Bool:=((iter (L55_2 p0) 0).bind fun y2=>(Sum.elim (fun y2a=>(bif (!eqS p0 (ByteArray.mk #[]))then(some (leI (lenS p0) 40))else(some false))) (fun y2b=>(some false)) y2))
theorem B55(C:Callee)(p0:ByteArray):rB C 55 Tryz.f55 (frame0 [S p0] 48 false) ((T55 p0).map B):=by
 unfold T55
 refine zS 1 0 (mkE [(0,S p0)] [] 48) (gS 7 (zS 2 1 (mkE [(0,S p0),(3,I 0)] [] 48) (gB 0 (lo [(0,none),(3,none)] [] (L55_2 p0) (fun z0:Int=>(mkE [(0,S p0),(3,I z0)] [] 48)) (Sum.elim (fun(x:(Int×Bool))=>(.exit 0,(mkE [(0,S p0),(3,I x.1),(8,B x.2)] [] 48))) (fun(x:Unit)=>(.ret,(mkE [(2,B false)] [] 48)))) 0 (fun z=>L55_2_ok C p0 z) ?_))))
 intro y2
 refine ss y2 (Z:=(Sum.elim (fun(x:(Int×Bool))=>(.exit 0,(mkE [(0,S p0),(3,I x.1),(8,B x.2)] [] 48))) (fun(x:Unit)=>(.ret,(mkE [(2,B false)] [] 48))))) (fun y2a=>?_) (fun y2b=>?_)
 ·refine pH (zP (zR 0 7 (sg 3 (mkE [(43,B (!eqS p0 (ByteArray.mk #[]))),(42,B (!eqS p0 (ByteArray.mk #[]))),(41,S p0),(0,S p0),(3,I y2a.1),(8,B y2a.2)] [] 48) (sb 43 (!eqS p0 (ByteArray.mk #[])) ?_ ?_))))
  ·exact zE (mkE [(2,B (leI (lenS p0) 40))] [] 48)
  ·exact zE (mkE [(2,B false)] [] 48)
 ·exact pL
theorem F55(m:Nat)(hm:1≤m)(p0:ByteArray):callA Tryz.prog cfg m 55 [S p0]=(T55 p0).map B:=by
 obtain⟨q,rfl⟩:=sucK hm
 exact(callA_body (fn:=Tryz.f55) (c:=body_ Tryz.f55) q _ (by kernel_rfl) (by kernel_rfl) (by kernel_rfl)).trans (B55 _ p0)
noncomputable def T56(p0:Int)(p1:Int)(p2:Int):Option Bool:=(bif (ltI p0 p1)then(some true)else(some (ltI p2 p0)))
theorem B56(C:Callee)(p0:Int)(p1:Int)(p2:Int):rB C 56 Tryz.f56 (frame0 [I p0,I p1,I p2] 15 false) ((T56 p0 p1 p2).map B):=by
 unfold T56
 refine zS 1 0 (mkE [(0,I p0),(1,I p1),(2,I p2)] [] 15) (zR 0 1 (sg 4 (mkE [(10,B (ltI p0 p1)),(9,B (ltI p0 p1)),(8,I p1),(7,I p0),(0,I p0),(1,I p1),(2,I p2)] [] 15) (sb 10 (ltI p0 p1) ?_ ?_)))
 ·exact zE (mkE [(6,B true)] [] 15)
 ·exact zE (mkE [(6,B (ltI p2 p0))] [] 15)
theorem F56(m:Nat)(hm:1≤m)(p0:Int)(p1:Int)(p2:Int):callA Tryz.prog cfg m 56 [I p0,I p1,I p2]=(T56 p0 p1 p2).map B:=by
 obtain⟨q,rfl⟩:=sucK hm
 exact(callA_body (fn:=Tryz.f56) (c:=body_ Tryz.f56) q _ (by kernel_rfl) (by kernel_rfl) (by kernel_rfl)).trans (B56 _ p0 p1 p2)
noncomputable def L161_4(p0:S39)(z0:Int):Option (Int⊕((Int×Bool)⊕Int)):=(bif (ltI z0 (lenL p0.f3))then((listAt p0.f3 z0).bind fun x1=>((T55 x1).bind fun x2=>(bif (!x2)then(some (.inr (.inr 5)))else(bif (ltI 0 z0)then((listAt p0.f3 (subI .i64 z0 1)).bind fun x3=>(bif (ltS x1 x3||eqS x1 x3)then(some (.inr (.inr 7)))else(bif (eqS x1 p0.f0)then(some (.inr (.inr 14)))else(some (.inl (addI .i64 z0 1))))))else(bif (eqS x1 p0.f0)then(some (.inr (.inr 14)))else(some (.inl (addI .i64 z0 1))))))))else(some (.inr (.inl (z0,(ltI z0 (lenL p0.f3)))))))
abbrev H55(C:Callee):Prop:=∀(p0:ByteArray),C 55 [S p0]=(T55 p0).map B
theorem L161_4_ok(C:Callee)(h55:H55 C)(p0:S39)(z0:Int):rL C 161 Tryz.f161 4 [false,false,true,false,true,true] (fun z0:Int=>(mkE [(1,.ba 8 0),(10,LL S p0.f3),(11,I (lenL p0.f3)),(12,I z0)] [(8,.box [S p0.f0,S p0.f1,I p0.f2,LL S p0.f3,I p0.f4,I p0.f5,I p0.f6,LL a43 p0.f7,S p0.f8] false)] 48)) (Sum.elim (fun(x:(Int×Bool))=>(.exit 0,(mkE [(1,.ba 8 0),(10,LL S p0.f3),(11,I (lenL p0.f3)),(12,I x.1),(13,B x.2)] [(8,.box [S p0.f0,S p0.f1,I p0.f2,LL S p0.f3,I p0.f4,I p0.f5,I p0.f6,LL a43 p0.f7,S p0.f8] false)] 48))) (fun(x:Int)=>(.ret,(mkE [(2,I x)] [] 48)))) (L161_4 p0 z0) z0:=by
 unfold L161_4
 let s_0:List (Nat×AV):=[(10,LL S p0.f3),(11,I (lenL p0.f3)),(12,I z0)]
 let o_0:List (Nat×AObj):=[(8,.box [S p0.f0,S p0.f1,I p0.f2,LL S p0.f3,I p0.f4,I p0.f5,I p0.f6,LL a43 p0.f7,S p0.f8] false)]
 refine zS 0 4 (mkE ((1,.ba 8 0)::(s_0.append [(13,B (ltI z0 (lenL p0.f3)))])) o_0 48) (gS 5 (gC 13 (ltI z0 (lenL p0.f3)) ?_ ?_))
 ·refine gK (zP (gS 12 (gB 1 (zR 6 5 (sg 1 (mkE ((14,I z0)::((1,.ba 8 0)::(s_0.append [(13,B (ltI z0 (lenL p0.f3)))]))) o_0 48) (vo 15 (addrE 37 9 1 S .i64 p0.f3 z0) (fun x1=>?_)))))))
  refine zN (mkE ((1,.ba 8 0)::((3,I z0)::((4,S x1)::s_0))) o_0 48) (gB 2 (zR 0 6 (sg 1 (mkE ((18,S x1)::((1,.ba 8 0)::((3,I z0)::((4,S x1)::s_0)))) o_0 48) (co 19 [] (h55 x1) (fun x2=>?_)))))
  refine zN (mkE ((1,.ba 8 0)::((3,I z0)::((4,S x1)::(s_0.append [(17,B (!x2))])))) o_0 48) (gC 17 (!x2) ?_ ?_)
  ·exact zF 0 7 (mkE [(2,I 5)] [] 48)
  ·refine zR 0 8 (sg 3 (mkE ((24,B (ltI 0 z0))::((23,B (ltI 0 z0))::((22,I z0)::((1,.ba 8 0)::((3,I z0)::((4,S x1)::(s_0.append [(17,B (!x2))]))))))) o_0 48) (sb 24 (ltI 0 z0) ?_ ?_))
   ·refine sg 8 (mkE ((29,I (subI .i64 z0 1))::((28,I z0)::((27,LL S p0.f3)::((26,.ba 8 3)::((25,S x1)::((24,B true)::((24,B (ltI 0 z0))::((23,B (ltI 0 z0))::((22,I z0)::((1,.ba 8 0)::((3,I z0)::((4,S x1)::(s_0.append [(17,B (!x2))]))))))))))))) o_0 48) (vo 30 (addrE 37 9 1 S .i64 p0.f3 (subI .i64 z0 1)) (fun x3=>?_))
    refine zN (mkE ((1,.ba 8 0)::((4,S x1)::(s_0.append [(21,B (ltS x1 x3||eqS x1 x3))]))) o_0 48) (gC 21 (ltS x1 x3||eqS x1 x3) ?_ ?_)
    ·exact zF 0 9 (mkE [(2,I 7)] [] 48)
    ·refine zS 0 10 (mkE ((1,.ba 8 0)::(s_0.append [(34,B (eqS x1 p0.f0))])) o_0 48) (gC 34 (eqS x1 p0.f0) ?_ ?_)
     ·exact zF 0 11 (mkE [(2,I 14)] [] 48)
     ·exact gK (pB (pB (zP (gR 12 (rg Tryz.f161 12) (se (mkE [(1,.ba 8 0),(10,LL S p0.f3),(11,I (lenL p0.f3)),(12,I (addI .i64 z0 1))] o_0 48) (pL))))))
   ·refine zN (mkE ((1,.ba 8 0)::((4,S x1)::(s_0.append [(21,B false)]))) o_0 48) (gF (.tmp 21) (zS 0 10 (mkE ((1,.ba 8 0)::(s_0.append [(34,B (eqS x1 p0.f0))])) o_0 48) (gC 34 (eqS x1 p0.f0) ?_ ?_)))
    ·exact zF 0 11 (mkE [(2,I 14)] [] 48)
    ·exact gK (pB (pB (zP (gR 12 (rg Tryz.f161 12) (se (mkE [(1,.ba 8 0),(10,LL S p0.f3),(11,I (lenL p0.f3)),(12,I (addI .i64 z0 1))] o_0 48) (pL))))))
 ·exact gX 0 (pL)
noncomputable def T161(p0:S39):Option Int:=(bif (ltI 20 (lenL p0.f3))then(some 2)else((iter (L161_4 p0) 0).bind fun y4=>(Sum.elim (fun y4a=>(bif ((eqI p0.f2 1) != (eqI (lenL p0.f3) 0))then(some 3)else(some 0))) (fun y4b=>(some y4b)) y4)))
theorem B161(C:Callee)(h55:H55 C)(p0:S39):rB C 161 Tryz.f161 (frame0 [a39 p0] 48 false) ((T161 p0).map I):=by
 unfold T161
 let s_0:List (Nat×AV):=[(1,.ba 8 0),(10,LL S p0.f3),(11,I (lenL p0.f3))]
 let o_0:List (Nat×AObj):=[(8,.box [S p0.f0,S p0.f1,I p0.f2,LL S p0.f3,I p0.f4,I p0.f5,I p0.f6,LL a43 p0.f7,S p0.f8] false)]
 refine zS 1 0 (mkE [(1,.ba 8 0)] o_0 48) (gS 3 (zR 0 1 (sg 2 (mkE [(6,LL S p0.f3),(5,.ba 8 3),(1,.ba 8 0)] o_0 48) (eo 7 (I (lenL p0.f3)) (lenE 37 S p0.f3) (zN (mkE [(1,.ba 8 0),(8,B (ltI 20 (lenL p0.f3)))] o_0 48) (gC 8 (ltI 20 (lenL p0.f3)) ?_ ?_))))))
 ·exact zF 0 2 (mkE [(2,I 2)] [] 48)
 ·refine gK (zP (gS 13 (zR 4 3 (sg 2 (mkE [(10,LL S p0.f3),(9,.ba 8 3),(1,.ba 8 0),(8,B (ltI 20 (lenL p0.f3)))] o_0 48) (eo 11 (I (lenL p0.f3)) (lenE 37 S p0.f3) (zN (mkE (s_0.append [(12,I 0)]) o_0 48) (gB 0 (lo [(1,none),(10,none),(11,none),(12,none)] [] (L161_4 p0) (fun z0:Int=>(mkE (s_0.append [(12,I z0)]) o_0 48)) (Sum.elim (fun(x:(Int×Bool))=>(.exit 0,(mkE (s_0.append ((12,I x.1)::[(13,B x.2)])) o_0 48))) (fun(x:Int)=>(.ret,(mkE [(2,I x)] [] 48)))) 0 (fun z=>L161_4_ok C h55 p0 z) ?_))))))))
  intro y4
  refine ss y4 (Z:=(Sum.elim (fun(x:(Int×Bool))=>(.exit 0,(mkE (s_0.append ((12,I x.1)::[(13,B x.2)])) o_0 48))) (fun(x:Int)=>(.ret,(mkE [(2,I x)] [] 48))))) (fun y4a=>?_) (fun y4b=>?_)
  ·refine pH (zP (gS 15 (zR 0 13 (sg 5 (mkE ((44,LL S p0.f3)::((43,.ba 8 3)::((42,B (eqI p0.f2 1))::((41,I p0.f2)::((40,.ba 8 2)::(s_0.append ((12,I y4a.1)::[(13,B y4a.2)]))))))) o_0 48) (eo 45 (I (lenL p0.f3)) (lenE 37 S p0.f3) (zN (mkE [(47,B ((eqI p0.f2 1) != (eqI (lenL p0.f3) 0)))] [] 48) (gC 47 ((eqI p0.f2 1) != (eqI (lenL p0.f3) 0)) ?_ ?_)))))))
   ·exact zF 0 14 (mkE [(2,I 3)] [] 48)
   ·exact gK (zP (zF 0 15 (mkE [(2,I 0)] [] 48)))
  ·exact pL
theorem F161(m:Nat)(hm:2≤m)(p0:S39):callA Tryz.prog cfg m 161 [a39 p0]=(T161 p0).map I:=by
 obtain⟨q,rfl⟩:=sucK hm
 exact(callA_body (fn:=Tryz.f161) (c:=body_ Tryz.f161) q _ (by kernel_rfl) (by kernel_rfl) (by kernel_rfl)).trans (B161 _ (fun p0=>F55 q (by omega) p0) p0)
noncomputable def T75(p0:Int):Option Bool:=(bif (leI 0 p0)then(some (ltI p0 345686400000))else(some false))
theorem B75(C:Callee)(p0:Int):rB C 75 Tryz.f75 (frame0 [I p0] 9 false) ((T75 p0).map B):=by
 unfold T75
 refine zS 1 0 (mkE [(0,I p0)] [] 9) (zR 0 1 (sg 3 (mkE [(5,B (leI 0 p0)),(4,B (leI 0 p0)),(3,I p0),(0,I p0)] [] 9) (sb 5 (leI 0 p0) ?_ ?_)))
 ·exact zE (mkE [(2,B (ltI p0 345686400000))] [] 9)
 ·exact zE (mkE [(2,B false)] [] 9)
theorem F75(m:Nat)(hm:1≤m)(p0:Int):callA Tryz.prog cfg m 75 [I p0]=(T75 p0).map B:=by
 obtain⟨q,rfl⟩:=sucK hm
 exact(callA_body (fn:=Tryz.f75) (c:=body_ Tryz.f75) q _ (by kernel_rfl) (by kernel_rfl) (by kernel_rfl)).trans (B75 _ p0)
noncomputable def T162(p0:S43):Option Int:=((T56 p0.f0 (-100000) 100000).bind fun x1=>(bif x1 then(some 1)else((T56 p0.f1 (-100000) 100000).bind fun x2=>(bif x2 then(some 1)else((T56 p0.f2 1 (subI .i64 100000 p0.f0)).bind fun x3=>(bif x3 then(some 1)else((T56 p0.f3 1 (subI .i64 100000 p0.f1)).bind fun x4=>(bif x4 then(some 1)else(some 0)))))))))
abbrev H56(C:Callee):Prop:=∀(p0:Int)(p1:Int)(p2:Int),C 56 [I p0,I p1,I p2]=(T56 p0 p1 p2).map B
theorem B162(C:Callee)(h56:H56 C)(p0:S43):rB C 162 Tryz.f162 (frame0 [a43 p0] 25 false) ((T162 p0).map I):=by
 unfold T162
 let s_0:List (Nat×AV):=[(15,I (subI .i64 100000 p0.f0)),(14,I p0.f0),(13,.ba 8 0),(12,I p0.f2),(11,.ba 8 2),(1,.ba 8 0)]
 let o_0:List (Nat×AObj):=[(8,.box [I p0.f0,I p0.f1,I p0.f2,I p0.f3] false)]
 refine zS 1 0 (mkE [(1,.ba 8 0)] o_0 25) (gS 3 (zR 0 1 (sg 2 (mkE [(4,I p0.f0),(3,.ba 8 0),(1,.ba 8 0)] o_0 25) (co 5 [] (h56 p0.f0 (-100000) 100000) (fun x1=>?_)))))
 refine sg 4 (mkE [(6,B x1),(5,B x1),(4,I p0.f0),(3,.ba 8 0),(1,.ba 8 0)] o_0 25) (sb 6 x1 ?_ ?_)
 ·exact zN (mkE [(1,.ba 8 0),(10,B true)] o_0 25) (gT (.tmp 10) (zF 0 2 (mkE [(2,I 1)] [] 25)))
 ·refine sg 6 (mkE [(8,I p0.f1),(7,.ba 8 1),(6,B false),(6,B x1),(5,B x1),(4,I p0.f0),(3,.ba 8 0),(1,.ba 8 0)] o_0 25) (co 9 [] (h56 p0.f1 (-100000) 100000) (fun x2=>?_))
  refine zN (mkE [(1,.ba 8 0),(10,B x2)] o_0 25) (gC 10 x2 ?_ ?_)
  ·exact zF 0 2 (mkE [(2,I 1)] [] 25)
  ·refine gK (zP (gS 5 (zR 0 3 (sg 5 (mkE (s_0.append [(10,B x2)]) o_0 25) (co 16 [] (h56 p0.f2 1 (subI .i64 100000 p0.f0)) (fun x3=>?_))))))
   refine sg 7 (mkE ((17,B x3)::((16,B x3)::(s_0.append [(10,B x2)]))) o_0 25) (sb 17 x3 ?_ ?_)
   ·exact zN (mkE [(24,B true)] [] 25) (gT (.tmp 24) (zF 0 4 (mkE [(2,I 1)] [] 25)))
   ·refine sg 12 (mkE ((22,I (subI .i64 100000 p0.f1))::((21,I p0.f1)::((20,.ba 8 1)::((19,I p0.f3)::((18,.ba 8 3)::((17,B false)::((17,B x3)::((16,B x3)::(s_0.append [(10,B x2)]))))))))) o_0 25) (co 23 [] (h56 p0.f3 1 (subI .i64 100000 p0.f1)) (fun x4=>?_))
    refine zN (mkE [(24,B x4)] [] 25) (gC 24 x4 ?_ ?_)
    ·exact zF 0 4 (mkE [(2,I 1)] [] 25)
    ·exact gK (zP (zF 0 5 (mkE [(2,I 0)] [] 25)))
theorem F162(m:Nat)(hm:2≤m)(p0:S43):callA Tryz.prog cfg m 162 [a43 p0]=(T162 p0).map I:=by
 obtain⟨q,rfl⟩:=sucK hm
 exact(callA_body (fn:=Tryz.f162) (c:=body_ Tryz.f162) q _ (by kernel_rfl) (by kernel_rfl) (by kernel_rfl)).trans (B162 _ (fun p0 p1 p2=>F56 q (by omega) p0 p1 p2) p0)
theorem F124(m:Nat)(hm:1≤m)(p0:ByteArray):callA Tryz.prog cfg m 124 [S p0]=(validO p0).map B:=by
 obtain⟨q,rfl⟩:=sucK hm
 exact(callA_leaf (L:=leafValid) _ _ (by kernel_rfl)).trans (valid_leaf _ _)
noncomputable def L167_1(p1:Int)(z0:ByteArray):Option (ByteArray⊕(ByteArray×Bool)):=(bif (ltI 0 (lenS z0))then((byteAt z0 (subI .i64 (lenS z0) 1)).bind fun x1=>(bif (eqI x1 p1)then((cutS z0 none (some (subI .i64 (lenS z0) 1))).bind fun x2=>(some (.inl x2)))else(some (.inr (z0,(eqI x1 p1))))))else(some (.inr (z0,false))))
theorem L167_1_ok(C:Callee)(p1:Int)(z0:ByteArray):rL C 167 Tryz.f167 1 [false,false,false,true] (fun z0:ByteArray=>(mkE [(0,S z0),(1,U p1)] [] 23)) (fun(x:(ByteArray×Bool))=>(.exit 0,(mkE [(0,S x.1),(1,U p1),(16,B x.2)] [] 23))) (L167_1 p1 z0) z0:=by
 unfold L167_1
 refine gS 2 (zR 0 1 (sg 4 (mkE [(8,B (ltI 0 (lenS z0))),(7,B (ltI 0 (lenS z0))),(6,I (lenS z0)),(5,S z0),(0,S z0),(1,U p1)] [] 23) (sb 8 (ltI 0 (lenS z0)) ?_ ?_)))
 ·refine sg 8 (mkE [(12,I (subI .i64 (lenS z0) 1)),(11,I (lenS z0)),(10,S z0),(9,S z0),(8,B true),(8,B (ltI 0 (lenS z0))),(7,B (ltI 0 (lenS z0))),(6,I (lenS z0)),(5,S z0),(0,S z0),(1,U p1)] [] 23) (vo 13 (byteE 9 .i64 z0 (subI .i64 (lenS z0) 1)) (fun x1=>?_))
  refine zN (mkE [(0,S z0),(1,U p1),(16,B (eqI x1 p1))] [] 23) (gC 16 (eqI x1 p1) ?_ ?_)
  ·refine gK (zP (gB 1 (gR 2 (rg Tryz.f167 2) (sg 4 (mkE [(20,I (subI .i64 (lenS z0) 1)),(19,I (lenS z0)),(18,S z0),(17,S z0),(0,S z0),(1,U p1),(16,B (eqI x1 p1))] [] 23) (vo 21 (cutSE 9 .i64 .i64 z0 none (some (subI .i64 (lenS z0) 1))) (fun x2=>?_))))))
   exact se (mkE [(0,S x2),(1,U p1)] [] 23) (pB (pL))
  ·exact gX 0 (pL)
 ·exact zN (mkE [(0,S z0),(1,U p1),(16,B false)] [] 23) (gF (.tmp 16) (gX 0 (pL)))
noncomputable def T167(p0:ByteArray)(p1:Int):Option ByteArray:=((iter (L167_1 p1) p0).bind fun y3=>(some y3.1))
theorem B167(C:Callee)(p0:ByteArray)(p1:Int):rB C 167 Tryz.f167 (frame0 [S p0,U p1] 23 false) ((T167 p0 p1).map S):=by
 unfold T167
 refine zS 1 0 (mkE [(0,S p0),(1,U p1)] [] 23) (gS 3 (gB 0 (lo [(0,none),(1,none)] [] (L167_1 p1) (fun z0:ByteArray=>(mkE [(0,S z0),(1,U p1)] [] 23)) (fun(x:(ByteArray×Bool))=>(.exit 0,(mkE [(0,S x.1),(1,U p1),(16,B x.2)] [] 23))) p0 (fun z=>L167_1_ok C p1 z) ?_)))
 intro y3
 exact pH (zP (zF 0 3 (mkE [(4,S y3.1)] [] 23)))
theorem F167(m:Nat)(hm:1≤m)(p0:ByteArray)(p1:Int):callA Tryz.prog cfg m 167 [S p0,U p1]=(T167 p0 p1).map S:=by
 obtain⟨q,rfl⟩:=sucK hm
 exact(callA_body (fn:=Tryz.f167) (c:=body_ Tryz.f167) q _ (by kernel_rfl) (by kernel_rfl) (by kernel_rfl)).trans (B167 _ p0 p1)
noncomputable def L166_1(p1:Int)(z0:ByteArray):Option (ByteArray⊕(ByteArray×Bool)):=(bif (ltI 0 (lenS z0))then((byteAt z0 0).bind fun x1=>(bif (eqI x1 p1)then((cutS z0 (some 1) none).bind fun x2=>(some (.inl x2)))else(some (.inr (z0,(eqI x1 p1))))))else(some (.inr (z0,false))))
theorem L166_1_ok(C:Callee)(p1:Int)(z0:ByteArray):rL C 166 Tryz.f166 1 [false,false,false,true] (fun z0:ByteArray=>(mkE [(0,S z0),(1,U p1)] [] 17)) (fun(x:(ByteArray×Bool))=>(.exit 0,(mkE [(0,S x.1),(1,U p1),(13,B x.2)] [] 17))) (L166_1 p1 z0) z0:=by
 unfold L166_1
 refine gS 2 (zR 0 1 (sg 4 (mkE [(8,B (ltI 0 (lenS z0))),(7,B (ltI 0 (lenS z0))),(6,I (lenS z0)),(5,S z0),(0,S z0),(1,U p1)] [] 17) (sb 8 (ltI 0 (lenS z0)) ?_ ?_)))
 ·refine sg 5 (mkE [(9,S z0),(8,B true),(8,B (ltI 0 (lenS z0))),(7,B (ltI 0 (lenS z0))),(6,I (lenS z0)),(5,S z0),(0,S z0),(1,U p1)] [] 17) (vo 10 (byteE 9 .i64 z0 0) (fun x1=>?_))
  refine zN (mkE [(0,S z0),(1,U p1),(13,B (eqI x1 p1))] [] 17) (gC 13 (eqI x1 p1) ?_ ?_)
  ·refine gK (zP (gB 1 (gR 2 (rg Tryz.f166 2) (sg 1 (mkE [(14,S z0),(0,S z0),(1,U p1),(13,B (eqI x1 p1))] [] 17) (vo 15 (cutSE 9 .i64 .i64 z0 (some 1) none) (fun x2=>?_))))))
   exact se (mkE [(0,S x2),(1,U p1)] [] 17) (pB (pL))
  ·exact gX 0 (pL)
 ·exact zN (mkE [(0,S z0),(1,U p1),(13,B false)] [] 17) (gF (.tmp 13) (gX 0 (pL)))
noncomputable def T166(p0:ByteArray)(p1:Int):Option ByteArray:=((iter (L166_1 p1) p0).bind fun y3=>(some y3.1))
theorem B166(C:Callee)(p0:ByteArray)(p1:Int):rB C 166 Tryz.f166 (frame0 [S p0,U p1] 17 false) ((T166 p0 p1).map S):=by
 unfold T166
 refine zS 1 0 (mkE [(0,S p0),(1,U p1)] [] 17) (gS 3 (gB 0 (lo [(0,none),(1,none)] [] (L166_1 p1) (fun z0:ByteArray=>(mkE [(0,S z0),(1,U p1)] [] 17)) (fun(x:(ByteArray×Bool))=>(.exit 0,(mkE [(0,S x.1),(1,U p1),(13,B x.2)] [] 17))) p0 (fun z=>L166_1_ok C p1 z) ?_)))
 intro y3
 exact pH (zP (zF 0 3 (mkE [(4,S y3.1)] [] 17)))
theorem F166(m:Nat)(hm:1≤m)(p0:ByteArray)(p1:Int):callA Tryz.prog cfg m 166 [S p0,U p1]=(T166 p0 p1).map S:=by
 obtain⟨q,rfl⟩:=sucK hm
 exact(callA_body (fn:=Tryz.f166) (c:=body_ Tryz.f166) q _ (by kernel_rfl) (by kernel_rfl) (by kernel_rfl)).trans (B166 _ p0 p1)
theorem F168(m:Nat)(hm:1≤m)(p0:ByteArray):callA Tryz.prog cfg m 168 [S p0]=(none:Option Unit).map (fun _=>AV.und):=by
 obtain⟨q,rfl⟩:=sucK hm
 exact(callA_leaf (L:=leafNone) _ _ (by kernel_rfl)).trans (rfl)
noncomputable def T127(p0:ByteArray)(p1:ByteArray):Option ByteArray:=(bif (eqS p0 (ByteArray.mk #[]))then(some p0)else(bif (eqS p1 (ByteArray.mk #[]))then(some p0)else(bif (eqI (lenS p1) 1)then((byteAt p1 0).bind fun x1=>(bif (ltI x1 128)then((byteAt p1 0).bind fun x2=>((T167 p0 x2).bind fun x3=>((byteAt p1 0).bind fun x4=>((T166 x3 x4).bind fun x5=>(some x5)))))else none))else none)))
theorem B127(C:Callee)(h166:∀(p0:ByteArray)(p1:Int),C 166 [S p0,U p1]=(T166 p0 p1).map S)(h167:∀(p0:ByteArray)(p1:Int),C 167 [S p0,U p1]=(T167 p0 p1).map S)(h168:∀(p0:ByteArray),C 168 [S p0]=(none:Option Unit).map (fun _=>AV.und))(p0:ByteArray)(p1:ByteArray):rB C 127 Tryz.f127 (frame0 [S p0,S p1] 43 false) ((T127 p0 p1).map S):=by
 unfold T127
 let s_0:List (Nat×AV):=[(0,S p0),(1,S p1)]
 refine zS 1 0 (mkE s_0 [] 43) (gS 3 (zR 0 1 (sg 3 (mkE ((9,B (eqS p0 (ByteArray.mk #[])))::((8,B (eqS p0 (ByteArray.mk #[])))::((7,S p0)::s_0))) [] 43) (sb 9 (eqS p0 (ByteArray.mk #[])) ?_ ?_))))
 ·exact zN (mkE (s_0.append [(12,B true)]) [] 43) (gT (.tmp 12) (zF 0 2 (mkE [(4,S p0)] [] 43)))
 ·refine zN (mkE (s_0.append [(12,B (eqS p1 (ByteArray.mk #[])))]) [] 43) (gC 12 (eqS p1 (ByteArray.mk #[])) ?_ ?_)
  ·exact zF 0 2 (mkE [(4,S p0)] [] 43)
  ·refine gK (zP (gS 5 (zR 0 3 (sg 4 (mkE ((17,B (eqI (lenS p1) 1))::((16,B (eqI (lenS p1) 1))::((15,I (lenS p1))::((14,S p1)::(s_0.append [(12,B (eqS p1 (ByteArray.mk #[])))]))))) [] 43) (sb 17 (eqI (lenS p1) 1) ?_ ?_)))))
   ·refine sg 5 (mkE ((18,S p1)::((17,B true)::((17,B (eqI (lenS p1) 1))::((16,B (eqI (lenS p1) 1))::((15,I (lenS p1))::((14,S p1)::(s_0.append [(12,B (eqS p1 (ByteArray.mk #[])))]))))))) [] 43) (vo 19 (byteE 9 .i64 p1 0) (fun x1=>?_))
    refine zN (mkE (s_0.append [(21,B (ltI x1 128))]) [] 43) (gC 21 (ltI x1 128) ?_ ?_)
    ·refine gS 0 (gD 4 8 (rg Tryz.f127 4) [0,1,2,3,4,5,6,7] (dg 2 [(some 22,qe (S p0)),(some 23,qe (S p1))] (dv 24 (mkE ((23,S p1)::(s_0.append [(21,B (ltI x1 128))])) [] 43) (byteE 9 .i64 p1 0) (fun x2=>?_))))
     refine dc 25 [] (mkE ((24,U x2)::((23,S p1)::((22,S p0)::(s_0.append [(21,B (ltI x1 128))])))) [] 43) (h167 p0 x2) (fun x3=>?_)
     refine dg 5 [(some 22,qe (S p0)),(some 23,qe (S p1)),(some 24,qe (U x2)),(some 25,qe (S x3)),(some 26,qe (S p1))] (dv 27 (mkE ((26,S p1)::(s_0.append [(21,B (ltI x1 128))])) [] 43) (byteE 9 .i64 p1 0) (fun x4=>?_))
     refine dc 28 [] (mkE ((27,U x4)::((26,S p1)::((25,S x3)::((24,U x2)::((23,S p1)::((22,S p0)::(s_0.append [(21,B (ltI x1 128))]))))))) [] 43) (h166 x3 x4) (fun x5=>?_)
     exact dg 8 [(some 22,qe (S p0)),(some 23,qe (S p1)),(some 24,qe (U x2)),(some 25,qe (S x3)),(some 26,qe (S p1)),(some 27,qe (U x4)),(some 28,qe (S x5)),(some 4,qe (S x5))] (de (mkE ((4,S x5)::((28,S x5)::((27,U x4)::((26,S p1)::((25,S x3)::((24,U x2)::((23,S p1)::((22,S p0)::(s_0.append [(21,B (ltI x1 128))]))))))))) [] 43) (zE (mkE [(4,S x5)] [] 43)))
    ·exact gK (zP (gS 8 (zR 6 5 (sg 1 (mkE ((30,S p1)::(s_0.append [(21,B (ltI x1 128))])) [] 43) (nC 31 [] (h168 p1))))))
   ·exact zN (mkE (s_0.append [(21,B false)]) [] 43) (gF (.tmp 21) (gK (zP (gS 8 (zR 6 5 (sg 1 (mkE ((30,S p1)::(s_0.append [(21,B false)])) [] 43) (nC 31 [] (h168 p1))))))))
theorem F127(m:Nat)(hm:2≤m)(p0:ByteArray)(p1:ByteArray):callA Tryz.prog cfg m 127 [S p0,S p1]=(T127 p0 p1).map S:=by
 obtain⟨q,rfl⟩:=sucK hm
 exact(callA_body (fn:=Tryz.f127) (c:=body_ Tryz.f127) q _ (by kernel_rfl) (by kernel_rfl) (by kernel_rfl)).trans (B127 _ (fun p0 p1=>F166 q (by omega) p0 p1) (fun p0 p1=>F167 q (by omega) p0 p1) (fun p0=>F168 q (by omega) p0) p0 p1)
theorem F128(m:Nat)(hm:1≤m)(p0:ByteArray)(p1:ByteArray):callA Tryz.prog cfg m 128 [S p0,S p1]=(contO p0 p1).map B:=by
 obtain⟨q,rfl⟩:=sucK hm
 exact(callA_leaf (L:=leafCont) _ _ (by kernel_rfl)).trans (cont_leaf _ _ _)
noncomputable def L163_2(p0:ByteArray)(z0:Int):Option (Int⊕((Int×Bool)⊕Unit)):=(bif (ltI z0 (lenS p0))then((byteAt p0 z0).bind fun x1=>(bif (ltI x1 32)then(some (.inr (.inr ())))else((byteAt p0 z0).bind fun x2=>(bif (eqI x2 127)then(some (.inr (.inr ())))else(some (.inl (addI .i64 z0 1)))))))else(some (.inr (.inl (z0,(ltI z0 (lenS p0)))))))
theorem L163_2_ok(C:Callee)(p0:ByteArray)(z0:Int):rL C 163 Tryz.f163 2 [false,false,true,false,true] (fun z0:Int=>(mkE [(0,S p0),(3,I z0)] [] 33)) (Sum.elim (fun(x:(Int×Bool))=>(.exit 0,(mkE [(0,S p0),(3,I x.1),(7,B x.2)] [] 33))) (fun(x:Unit)=>(.ret,(mkE [(2,B false)] [] 33)))) (L163_2 p0 z0) z0:=by
 unfold L163_2
 let s_0:List (Nat×AV):=[(11,I z0),(10,S p0),(0,S p0),(3,I z0),(7,B (ltI z0 (lenS p0)))]
 refine gS 4 (zS 0 2 (mkE [(0,S p0),(3,I z0),(7,B (ltI z0 (lenS p0)))] [] 33) (gC 7 (ltI z0 (lenS p0)) ?_ ?_))
 ·refine gK (zP (gS 3 (gB 1 (zR 0 4 (sg 2 (mkE s_0 [] 33) (vo 12 (byteE 9 .i64 p0 z0) (fun x1=>?_)))))))
  refine sg 5 (mkE ((14,B (ltI x1 32))::((13,B (ltI x1 32))::((12,U x1)::s_0))) [] 33) (sb 14 (ltI x1 32) ?_ ?_)
  ·exact zN (mkE [(0,S p0),(3,I z0),(19,B true)] [] 33) (gT (.tmp 19) (zF 0 5 (mkE [(2,B false)] [] 33)))
  ·refine sg 7 (mkE ((16,I z0)::((15,S p0)::((14,B false)::((14,B (ltI x1 32))::((13,B (ltI x1 32))::((12,U x1)::s_0)))))) [] 33) (vo 17 (byteE 9 .i64 p0 z0) (fun x2=>?_))
   refine zN (mkE [(0,S p0),(3,I z0),(19,B (eqI x2 127))] [] 33) (gC 19 (eqI x2 127) ?_ ?_)
   ·exact zF 0 5 (mkE [(2,B false)] [] 33)
   ·exact gK (pB (zP (gR 3 (rg Tryz.f163 3) (se (mkE [(0,S p0),(3,I (addI .i64 z0 1))] [] 33) (pL)))))
 ·exact gX 0 (pL)
noncomputable def T163(p0:ByteArray):Option Bool:=((iter (L163_2 p0) 0).bind fun y3=>(Sum.elim (fun y3a=>((validO p0).bind fun x4=>(bif x4 then((T127 p0 (ByteArray.mk #[32])).bind fun x5=>(bif (eqS x5 p0)then((contO p0 (ByteArray.mk #[32,32])).bind fun x6=>(some (!x6)))else(some false)))else(some false)))) (fun y3b=>(some false)) y3))
abbrev H124(C:Callee):Prop:=∀(p0:ByteArray),C 124 [S p0]=(validO p0).map B
abbrev H127(C:Callee):Prop:=∀(p0:ByteArray)(p1:ByteArray),C 127 [S p0,S p1]=(T127 p0 p1).map S
abbrev H128(C:Callee):Prop:=∀(p0:ByteArray)(p1:ByteArray),C 128 [S p0,S p1]=(contO p0 p1).map B
theorem B163(C:Callee)(h124:H124 C)(h127:H127 C)(h128:H128 C)(p0:ByteArray):rB C 163 Tryz.f163 (frame0 [S p0] 33 false) ((T163 p0).map B):=by
 unfold T163
 refine zS 1 0 (mkE [(0,S p0)] [] 33) (gS 6 (zS 2 1 (mkE [(0,S p0),(3,I 0)] [] 33) (gB 0 (lo [(0,none),(3,none)] [] (L163_2 p0) (fun z0:Int=>(mkE [(0,S p0),(3,I z0)] [] 33)) (Sum.elim (fun(x:(Int×Bool))=>(.exit 0,(mkE [(0,S p0),(3,I x.1),(7,B x.2)] [] 33))) (fun(x:Unit)=>(.ret,(mkE [(2,B false)] [] 33)))) 0 (fun z=>L163_2_ok C p0 z) ?_))))
 intro y3
 refine ss y3 (Z:=(Sum.elim (fun(x:(Int×Bool))=>(.exit 0,(mkE [(0,S p0),(3,I x.1),(7,B x.2)] [] 33))) (fun(x:Unit)=>(.ret,(mkE [(2,B false)] [] 33))))) (fun y3a=>?_) (fun y3b=>?_)
 ·refine pH (zP (zR 0 6 (sg 1 (mkE [(20,S p0),(0,S p0),(3,I y3a.1),(7,B y3a.2)] [] 33) (co 21 [] (h124 p0) (fun x4=>?_)))))
  refine sg 3 (mkE [(22,B x4),(21,B x4),(20,S p0),(0,S p0),(3,I y3a.1),(7,B y3a.2)] [] 33) (sb 22 x4 ?_ ?_)
  ·refine sg 4 (mkE [(23,S p0),(22,B true),(22,B x4),(21,B x4),(20,S p0),(0,S p0),(3,I y3a.1),(7,B y3a.2)] [] 33) (co 24 [] (h127 p0 (ByteArray.mk #[32])) (fun x5=>?_))
   refine sg 9 (mkE [(28,B (eqS x5 p0)),(27,B (eqS x5 p0)),(26,B (eqS x5 p0)),(25,S p0),(24,S x5),(23,S p0),(22,B true),(22,B x4),(21,B x4),(20,S p0),(0,S p0),(3,I y3a.1),(7,B y3a.2)] [] 33) (sb 28 (eqS x5 p0) ?_ ?_)
   ·refine sg 10 (mkE [(29,S p0),(28,B true),(28,B (eqS x5 p0)),(27,B (eqS x5 p0)),(26,B (eqS x5 p0)),(25,S p0),(24,S x5),(23,S p0),(22,B true),(22,B x4),(21,B x4),(20,S p0),(0,S p0),(3,I y3a.1),(7,B y3a.2)] [] 33) (co 30 [] (h128 p0 (ByteArray.mk #[32,32])) (fun x6=>?_))
    exact zE (mkE [(2,B (!x6))] [] 33)
   ·exact zE (mkE [(2,B false)] [] 33)
  ·exact zE (mkE [(2,B false)] [] 33)
 ·exact pL
theorem F163(m:Nat)(hm:3≤m)(p0:ByteArray):callA Tryz.prog cfg m 163 [S p0]=(T163 p0).map B:=by
 obtain⟨q,rfl⟩:=sucK hm
 exact(callA_body (fn:=Tryz.f163) (c:=body_ Tryz.f163) q _ (by kernel_rfl) (by kernel_rfl) (by kernel_rfl)).trans (B163 _ (fun p0=>F124 q (by omega) p0) (fun p0 p1=>F127 q (by omega) p0 p1) (fun p0 p1=>F128 q (by omega) p0 p1) p0)
noncomputable def L121_13(p0:S39)(z0:Int):Option (Int⊕((Int×Bool)⊕Int)):=(bif (ltI z0 (lenL p0.f7))then((listAt p0.f7 z0).bind fun x8=>((T162 x8).bind fun x9=>(bif (neI x9 0)then(some (.inr (.inr x9)))else(some (.inl (addI .i64 z0 1))))))else(some (.inr (.inl (z0,(ltI z0 (lenL p0.f7)))))))
abbrev H162(C:Callee):Prop:=∀(p0:S43),C 162 [a43 p0]=(T162 p0).map I
theorem L121_13_ok(C:Callee)(h162:H162 C)(p0:S39)(z0:Int):rL C 121 Tryz.f121 13 [false,false,true,false,true,true,true,true,true,true] (fun z0:Int=>(mkE [(1,.ba 8 0),(51,LL a43 p0.f7),(52,I (lenL p0.f7)),(53,I z0)] [(8,.box [S p0.f0,S p0.f1,I p0.f2,LL S p0.f3,I p0.f4,I p0.f5,I p0.f6,LL a43 p0.f7,S p0.f8] false)] 92)) (Sum.elim (fun(x:(Int×Bool))=>(.exit 0,(mkE [(1,.ba 8 0),(51,LL a43 p0.f7),(52,I (lenL p0.f7)),(53,I x.1),(54,B x.2)] [(8,.box [S p0.f0,S p0.f1,I p0.f2,LL S p0.f3,I p0.f4,I p0.f5,I p0.f6,LL a43 p0.f7,S p0.f8] false)] 92))) (fun(x:Int)=>(.ret,(mkE [(2,I x)] [] 92)))) (L121_13 p0 z0) z0:=by
 unfold L121_13
 let s_0:List (Nat×AV):=[(51,LL a43 p0.f7),(52,I (lenL p0.f7)),(53,I z0)]
 let o_0:List (Nat×AObj):=[(8,.box [S p0.f0,S p0.f1,I p0.f2,LL S p0.f3,I p0.f4,I p0.f5,I p0.f6,LL a43 p0.f7,S p0.f8] false)]
 refine zS 0 13 (mkE ((1,.ba 8 0)::(s_0.append [(54,B (ltI z0 (lenL p0.f7)))])) o_0 92) (gS 14 (gC 54 (ltI z0 (lenL p0.f7)) ?_ ?_))
 ·refine gK (zP (gS 18 (gB 1 (zR 15 14 (vo 55 (addrE 38 44 4 a43 .i64 p0.f7 z0) (fun x8=>?_))))))
  refine zN (mkE ((1,.ba 8 0)::((5,.ba 40 0)::s_0)) (o_0.append [(40,.box [I x8.f0,I x8.f1,I x8.f2,I x8.f3] false)]) 92) (zR 16 15 (sg 1 (mkE ((57,a43 x8)::((1,.ba 8 0)::((5,.ba 40 0)::s_0))) (o_0.append [(40,.box [I x8.f0,I x8.f1,I x8.f2,I x8.f3] false)]) 92) (co 58 [] (h162 x8) (fun x9=>?_))))
  refine zN (mkE ((1,.ba 8 0)::((6,I x9)::s_0)) o_0 92) (zS 0 16 (mkE ((1,.ba 8 0)::((6,I x9)::(s_0.append [(60,B (neI x9 0))]))) o_0 92) (gC 60 (neI x9 0) ?_ ?_))
  ·exact zF 0 17 (mkE [(2,I x9)] [] 92)
  ·exact gK (pB (zP (gR 18 (rg Tryz.f121 18) (se (mkE [(1,.ba 8 0),(51,LL a43 p0.f7),(52,I (lenL p0.f7)),(53,I (addI .i64 z0 1))] o_0 92) (pL)))))
 ·exact gX 0 (pL)
noncomputable def T121(p0:S39):Option Int:=((T55 p0.f0).bind fun x1=>(bif (!x1)then(some 5)else((T55 p0.f1).bind fun x2=>(bif (!x2)then(some 5)else((T56 p0.f2 1 3).bind fun x3=>(bif x3 then(some 4)else((T161 p0).bind fun x4=>(bif (neI x4 0)then(some x4)else((T75 p0.f4).bind fun x5=>(bif (!x5)then(some 1)else((T56 p0.f5 (addI .i64 p0.f4 1) (addI .i64 p0.f4 2592000000)).bind fun x6=>(bif x6 then(some 1)else((T56 p0.f6 1 9).bind fun x7=>(bif x7 then(some 1)else(bif (ltI 20 (lenL p0.f7))then(some 2)else((iter (L121_13 p0) 0).bind fun y10=>(Sum.elim (fun y10a=>(bif ((eqI p0.f2 3) != (eqI (lenL p0.f7) 0))then(some 3)else(bif (ltI 500 (lenS p0.f8))then(some 2)else((T163 p0.f8).bind fun x11=>(bif (!x11)then(some 3)else(bif (eqS p0.f8 (ByteArray.mk #[]))then(bif (!(eqI p0.f2 3))then(some 3)else(some 0))else(some 0))))))) (fun y10b=>(some y10b)) y10)))))))))))))))))
abbrev H75(C:Callee):Prop:=∀(p0:Int),C 75 [I p0]=(T75 p0).map B
theorem B121(C:Callee)(h161:∀(p0:S39),C 161 [a39 p0]=(T161 p0).map I)(h162:H162 C)(h163:∀(p0:ByteArray),C 163 [S p0]=(T163 p0).map B)(h55:H55 C)(h56:H56 C)(h75:H75 C)(p0:S39):rB C 121 Tryz.f121 (frame0 [a39 p0] 92 false) ((T121 p0).map I):=by
 unfold T121
 let s_0:List (Nat×AV):=[(38,I (addI .i64 p0.f4 2592000000)),(37,I p0.f4),(36,.ba 8 4),(35,I (addI .i64 p0.f4 1)),(34,I p0.f4),(33,.ba 8 4),(32,I p0.f5),(31,.ba 8 5),(30,B false)]
 let s_1:List (Nat×AV):=[(80,S p0.f8),(79,.ba 8 8),(1,.ba 8 0),(7,B (eqI p0.f2 3)),(73,B (ltI 500 (lenS p0.f8)))]
 let s_2:List (Nat×AV):=[(1,.ba 8 0)]
 let o_0:List (Nat×AObj):=[(8,.box [S p0.f0,S p0.f1,I p0.f2,LL S p0.f3,I p0.f4,I p0.f5,I p0.f6,LL a43 p0.f7,S p0.f8] false)]
 refine zS 1 0 (mkE s_2 o_0 92) (gS 3 (zR 0 1 (sg 2 (mkE ((9,S p0.f0)::((8,.ba 8 0)::s_2)) o_0 92) (co 10 [] (h55 p0.f0) (fun x1=>?_)))))
 refine sg 5 (mkE ((12,B (!x1))::((11,B (!x1))::((10,B x1)::((9,S p0.f0)::((8,.ba 8 0)::s_2))))) o_0 92) (sb 12 (!x1) ?_ ?_)
 ·exact zN (mkE (s_2.append [(17,B true)]) o_0 92) (gT (.tmp 17) (zF 0 2 (mkE [(2,I 5)] [] 92)))
 ·refine sg 7 (mkE ((14,S p0.f1)::((13,.ba 8 1)::((12,B false)::((12,B (!x1))::((11,B (!x1))::((10,B x1)::((9,S p0.f0)::((8,.ba 8 0)::s_2)))))))) o_0 92) (co 15 [] (h55 p0.f1) (fun x2=>?_))
  refine zN (mkE (s_2.append [(17,B (!x2))]) o_0 92) (gC 17 (!x2) ?_ ?_)
  ·exact zF 0 2 (mkE [(2,I 5)] [] 92)
  ·refine gK (zP (gS 5 (zR 0 3 (sg 2 (mkE ((19,I p0.f2)::((18,.ba 8 2)::(s_2.append [(17,B (!x2))]))) o_0 92) (co 20 [] (h56 p0.f2 1 3) (fun x3=>?_))))))
   refine zN (mkE (s_2.append [(20,B x3)]) o_0 92) (gC 20 x3 ?_ ?_)
   ·exact zF 0 4 (mkE [(2,I 4)] [] 92)
   ·refine gK (zP (gS 8 (zR 6 5 (sg 1 (mkE ((21,a39 p0)::(s_2.append [(20,B x3)])) o_0 92) (co 22 [] (h161 p0) (fun x4=>?_))))))
    refine zN (mkE (s_2.append [(3,I x4)]) o_0 92) (zS 0 6 (mkE (s_2.append ((3,I x4)::[(24,B (neI x4 0))])) o_0 92) (gC 24 (neI x4 0) ?_ ?_))
    ·exact zF 0 7 (mkE [(2,I x4)] [] 92)
    ·refine gK (zP (gS 10 (zR 0 8 (sg 2 (mkE ((27,I p0.f4)::((26,.ba 8 4)::(s_2.append ((3,I x4)::[(24,B (neI x4 0))])))) o_0 92) (co 28 [] (h75 p0.f4) (fun x5=>?_))))))
     refine sg 5 (mkE ((30,B (!x5))::((29,B (!x5))::((28,B x5)::((27,I p0.f4)::((26,.ba 8 4)::(s_2.append ((3,I x4)::[(24,B (neI x4 0))]))))))) o_0 92) (sb 30 (!x5) ?_ ?_)
     ·exact zN (mkE (s_2.append [(45,B true)]) o_0 92) (gT (.tmp 45) (zF 0 9 (mkE [(2,I 1)] [] 92)))
     ·refine sg 13 (mkE (s_0.append ((30,B (!x5))::((29,B (!x5))::((28,B x5)::((27,I p0.f4)::((26,.ba 8 4)::(s_2.append ((3,I x4)::[(24,B (neI x4 0))])))))))) o_0 92) (co 39 [] (h56 p0.f5 (addI .i64 p0.f4 1) (addI .i64 p0.f4 2592000000)) (fun x6=>?_))
      refine sg 16 (mkE ((41,B x6)::((40,B x6)::((39,B x6)::(s_0.append ((30,B (!x5))::((29,B (!x5))::((28,B x5)::((27,I p0.f4)::((26,.ba 8 4)::(s_2.append ((3,I x4)::[(24,B (neI x4 0))]))))))))))) o_0 92) (sb 41 x6 ?_ ?_)
      ·exact zN (mkE (s_2.append [(45,B true)]) o_0 92) (gT (.tmp 45) (zF 0 9 (mkE [(2,I 1)] [] 92)))
      ·refine sg 18 (mkE ((43,I p0.f6)::((42,.ba 8 6)::((41,B false)::((41,B x6)::((40,B x6)::((39,B x6)::(s_0.append ((30,B (!x5))::((29,B (!x5))::((28,B x5)::((27,I p0.f4)::((26,.ba 8 4)::(s_2.append ((3,I x4)::[(24,B (neI x4 0))])))))))))))))) o_0 92) (co 44 [] (h56 p0.f6 1 9) (fun x7=>?_))
       refine zN (mkE (s_2.append [(45,B x7)]) o_0 92) (gC 45 x7 ?_ ?_)
       ·exact zF 0 9 (mkE [(2,I 1)] [] 92)
       ·refine gK (zP (gS 12 (zR 0 10 (sg 2 (mkE ((47,LL a43 p0.f7)::((46,.ba 8 7)::(s_2.append [(45,B x7)]))) o_0 92) (eo 48 (I (lenL p0.f7)) (lenE 38 a43 p0.f7) (zN (mkE (s_2.append [(49,B (ltI 20 (lenL p0.f7)))]) o_0 92) (gC 49 (ltI 20 (lenL p0.f7)) ?_ ?_)))))))
        ·exact zF 0 11 (mkE [(2,I 2)] [] 92)
        ·refine gK (zP (gS 19 (zR 13 12 (sg 2 (mkE ((51,LL a43 p0.f7)::((50,.ba 8 7)::(s_2.append [(49,B (ltI 20 (lenL p0.f7)))]))) o_0 92) (eo 52 (I (lenL p0.f7)) (lenE 38 a43 p0.f7) (zN (mkE (s_2.append ((51,LL a43 p0.f7)::((52,I (lenL p0.f7))::[(53,I 0)]))) o_0 92) (gB 0 (lo [(1,none),(51,none),(52,none),(53,none)] [] (L121_13 p0) (fun z0:Int=>(mkE (s_2.append ((51,LL a43 p0.f7)::((52,I (lenL p0.f7))::[(53,I z0)]))) o_0 92)) (Sum.elim (fun(x:(Int×Bool))=>(.exit 0,(mkE (s_2.append ((51,LL a43 p0.f7)::((52,I (lenL p0.f7))::((53,I x.1)::[(54,B x.2)])))) o_0 92))) (fun(x:Int)=>(.ret,(mkE [(2,I x)] [] 92)))) 0 (fun z=>L121_13_ok C h162 p0 z) ?_))))))))
         intro y10
         refine ss y10 (Z:=(Sum.elim (fun(x:(Int×Bool))=>(.exit 0,(mkE (s_2.append ((51,LL a43 p0.f7)::((52,I (lenL p0.f7))::((53,I x.1)::[(54,B x.2)])))) o_0 92))) (fun(x:Int)=>(.ret,(mkE [(2,I x)] [] 92))))) (fun y10a=>?_) (fun y10b=>?_)
         ·refine pH (zP (zS 20 19 (mkE (s_2.append [(7,B (eqI p0.f2 3))]) o_0 92) (gS 26 (gB 2 (zR 0 20 (sg 3 (mkE ((69,LL a43 p0.f7)::((68,.ba 8 7)::((67,B (eqI p0.f2 3))::(s_2.append [(7,B (eqI p0.f2 3))])))) o_0 92) (eo 70 (I (lenL p0.f7)) (lenE 38 a43 p0.f7) (zN (mkE (s_2.append ((7,B (eqI p0.f2 3))::[(66,B ((eqI p0.f2 3) != (eqI (lenL p0.f7) 0)))])) o_0 92) (gC 66 ((eqI p0.f2 3) != (eqI (lenL p0.f7) 0)) ?_ ?_)))))))))
          ·exact zF 0 21 (mkE [(2,I 3)] [] 92)
          ·refine zS 0 22 (mkE (s_2.append ((7,B (eqI p0.f2 3))::[(73,B (ltI 500 (lenS p0.f8)))])) o_0 92) (gC 73 (ltI 500 (lenS p0.f8)) ?_ ?_)
           ·exact zF 0 23 (mkE [(2,I 2)] [] 92)
           ·refine zR 0 24 (sg 2 (mkE s_1 o_0 92) (co 81 [] (h163 p0.f8) (fun x11=>?_)))
            refine sg 5 (mkE ((83,B (!x11))::((82,B (!x11))::((81,B x11)::s_1))) o_0 92) (sb 83 (!x11) ?_ ?_)
            ·exact zN (mkE [(78,B true)] [] 92) (gT (.tmp 78) (zF 0 25 (mkE [(2,I 3)] [] 92)))
            ·refine sg 9 (mkE ((87,B (eqS p0.f8 (ByteArray.mk #[])))::((86,B (eqS p0.f8 (ByteArray.mk #[])))::((85,S p0.f8)::((84,.ba 8 8)::((83,B false)::((83,B (!x11))::((82,B (!x11))::((81,B x11)::s_1)))))))) o_0 92) (sb 87 (eqS p0.f8 (ByteArray.mk #[])) ?_ ?_)
             ·refine zN (mkE [(78,B (!(eqI p0.f2 3)))] [] 92) (gC 78 (!(eqI p0.f2 3)) ?_ ?_)
              ·exact zF 0 25 (mkE [(2,I 3)] [] 92)
              ·exact gK (pB (zP (zF 0 26 (mkE [(2,I 0)] [] 92))))
             ·exact zN (mkE [(78,B false)] [] 92) (gF (.tmp 78) (gK (pB (zP (zF 0 26 (mkE [(2,I 0)] [] 92))))))
         ·exact pL
theorem F121(m:Nat)(hm:4≤m)(p0:S39):callA Tryz.prog cfg m 121 [a39 p0]=(T121 p0).map I:=by
 obtain⟨q,rfl⟩:=sucK hm
 exact(callA_body (fn:=Tryz.f121) (c:=body_ Tryz.f121) q _ (by kernel_rfl) (by kernel_rfl) (by kernel_rfl)).trans (B121 _ (fun p0=>F161 q (by omega) p0) (fun p0=>F162 q (by omega) p0) (fun p0=>F163 q (by omega) p0) (fun p0=>F55 q (by omega) p0) (fun p0 p1 p2=>F56 q (by omega) p0 p1 p2) (fun p0=>F75 q (by omega) p0) p0)
noncomputable def T114(p0:Int):Option Bool:=(some (neI p0 p0))
theorem B114(C:Callee)(p0:Int):rB C 114 Tryz.f114 (frame0 [I p0] 6 false) ((T114 p0).map B):=by
 unfold T114
 exact zS 1 0 (mkE [(0,I p0)] [] 6) (zF 0 1 (mkE [(2,B (neI p0 p0))] [] 6))
theorem F114(m:Nat)(hm:1≤m)(p0:Int):callA Tryz.prog cfg m 114 [I p0]=(T114 p0).map B:=by
 obtain⟨q,rfl⟩:=sucK hm
 exact(callA_bodyQ (fn:=Tryz.f114) (c:=body_ Tryz.f114) q _ (by kernel_rfl) (by kernel_rfl) (by kernel_rfl)).trans (B114 _ p0)
noncomputable def T71(p0:Int)(p1:Int):Option Int:=((T114 p0).bind fun x1=>((T114 p1).bind fun x2=>(bif x1 then(bif x2 then(some 0)else(some (-1)))else(bif x2 then(some 1)else(bif (ltI p0 p1)then(some (-1))else(bif (ltI p1 p0)then(some 1)else(some 0)))))))
theorem B71(C:Callee)(h114:∀(p0:Int),C 114 [I p0]=(T114 p0).map B)(p0:Int)(p1:Int):rB C 71 Tryz.f71 (frame0 [I p0,I p1] 20 false) ((T71 p0 p1).map I):=by
 unfold T71
 refine zS 1 0 (mkE [(0,I p0),(1,I p1)] [] 20) (zR 2 1 (sg 1 (mkE [(7,I p0),(0,I p0),(1,I p1)] [] 20) (co 8 [] (h114 p0) (fun x1=>?_))))
 refine zN (mkE [(0,I p0),(1,I p1),(5,B x1)] [] 20) (zR 3 2 (sg 1 (mkE [(9,I p1),(0,I p0),(1,I p1),(5,B x1)] [] 20) (co 10 [] (h114 p1) (fun x2=>?_))))
 refine zN (mkE [(0,I p0),(1,I p1),(5,B x1),(6,B x2)] [] 20) (gS 7 (zS 0 3 (mkE [(0,I p0),(1,I p1),(6,B x2),(11,B x1)] [] 20) (gC 11 x1 ?_ ?_)))
 ·refine gS 6 (zS 0 4 (mkE [(12,B x2)] [] 20) (gC 12 x2 ?_ ?_))
  ·exact zF 0 5 (mkE [(4,I 0)] [] 20)
  ·exact gK (zP (zF 0 6 (mkE [(4,I (-1))] [] 20)))
 ·refine gK (zP (gS 9 (zS 0 7 (mkE [(0,I p0),(1,I p1),(13,B x2)] [] 20) (gC 13 x2 ?_ ?_))))
  ·exact zF 0 8 (mkE [(4,I 1)] [] 20)
  ·refine gK (zP (gS 11 (zS 0 9 (mkE [(0,I p0),(1,I p1),(16,B (ltI p0 p1))] [] 20) (gC 16 (ltI p0 p1) ?_ ?_))))
   ·exact zF 0 10 (mkE [(4,I (-1))] [] 20)
   ·refine gK (zP (gS 13 (zS 0 11 (mkE [(19,B (ltI p1 p0))] [] 20) (gC 19 (ltI p1 p0) ?_ ?_))))
    ·exact zF 0 12 (mkE [(4,I 1)] [] 20)
    ·exact gK (zP (zF 0 13 (mkE [(4,I 0)] [] 20)))
theorem F71(m:Nat)(hm:2≤m)(p0:Int)(p1:Int):callA Tryz.prog cfg m 71 [I p0,I p1]=(T71 p0 p1).map I:=by
 obtain⟨q,rfl⟩:=sucK hm
 exact(callA_bodyQ (fn:=Tryz.f71) (c:=body_ Tryz.f71) q _ (by kernel_rfl) (by kernel_rfl) (by kernel_rfl)).trans (B71 _ (fun p0=>(guard_q (by kernel_rfl) _).trans (F114 q (by omega) p0)) p0 p1)
theorem F107(m:Nat)(hm:1≤m)(p0:ByteArray)(p1:ByteArray):callA Tryz.prog cfg m 107 [S p0,S p1]=(some (cmpS p0 p1)).map I:=by
 obtain⟨q,rfl⟩:=sucK hm
 exact(callA_leaf (L:=leafCmp) _ _ (by kernel_rfl)).trans (rfl)
noncomputable def T62(p0:ByteArray)(p1:ByteArray):Option Int:=((some (cmpS p0 p1)).bind fun x1=>(some x1))
theorem B62(C:Callee)(h107:∀(p0:ByteArray)(p1:ByteArray),C 107 [S p0,S p1]=(some (cmpS p0 p1)).map I)(p0:ByteArray)(p1:ByteArray):rB C 62 Tryz.f62 (frame0 [S p0,S p1] 8 false) ((T62 p0 p1).map I):=by
 unfold T62
 refine zS 1 0 (mkE [(0,S p0),(1,S p1)] [] 8) (zR 0 1 (sg 2 (mkE [(6,S p1),(5,S p0),(0,S p0),(1,S p1)] [] 8) (co 7 [] (h107 p0 p1) (fun x1=>?_))))
 exact zE (mkE [(4,I x1)] [] 8)
theorem F62(m:Nat)(hm:2≤m)(p0:ByteArray)(p1:ByteArray):callA Tryz.prog cfg m 62 [S p0,S p1]=(T62 p0 p1).map I:=by
 obtain⟨q,rfl⟩:=sucK hm
 exact(callA_bodyQ (fn:=Tryz.f62) (c:=body_ Tryz.f62) q _ (by kernel_rfl) (by kernel_rfl) (by kernel_rfl)).trans (B62 _ (fun p0 p1=>(guard_q (by kernel_rfl) _).trans (F107 q (by omega) p0 p1)) p0 p1)
noncomputable def L69_3(p0:(List Int))(z0:Int):Option (Int⊕((Int×Bool)⊕Int)):=(bif (ltI z0 (lenL p0))then((listAt p0 z0).bind fun x1=>(bif (neI x1 0)then(some (.inr (.inr x1)))else(some (.inl (addI .i64 z0 1)))))else(some (.inr (.inl (z0,(ltI z0 (lenL p0)))))))
theorem L69_3_ok(C:Callee)(p0:(List Int))(z0:Int):rL C 69 Tryz.f69 3 [false,false,true,false,true,true] (fun z0:Int=>(mkE [(3,I 0),(6,LL I p0),(7,I (lenL p0)),(8,I z0)] [] 18)) (Sum.elim (fun(x:(Int×Bool))=>(.exit 0,(mkE [(3,I 0),(6,LL I p0),(7,I (lenL p0)),(8,I x.1),(9,B x.2)] [] 18))) (fun(x:Int)=>(.ret,(mkE [(2,I x)] [] 18)))) (L69_3 p0 z0) z0:=by
 unfold L69_3
 refine zS 0 3 (mkE [(3,I 0),(6,LL I p0),(7,I (lenL p0)),(8,I z0),(9,B (ltI z0 (lenL p0)))] [] 18) (gS 4 (gC 9 (ltI z0 (lenL p0)) ?_ ?_))
 ·refine gK (zP (gS 7 (gB 1 (zR 5 4 (vo 10 (addrE 92 3 1 I .i64 p0 z0) (fun x1=>?_))))))
  refine zN (mkE [(3,I 0),(5,I x1),(6,LL I p0),(7,I (lenL p0)),(8,I z0)] [] 18) (zS 0 5 (mkE [(3,I 0),(5,I x1),(6,LL I p0),(7,I (lenL p0)),(8,I z0),(14,B (neI x1 0))] [] 18) (gC 14 (neI x1 0) ?_ ?_))
  ·exact zF 0 6 (mkE [(2,I x1)] [] 18)
  ·exact gK (pB (zP (gR 7 (rg Tryz.f69 7) (se (mkE [(3,I 0),(6,LL I p0),(7,I (lenL p0)),(8,I (addI .i64 z0 1))] [] 18) (pL)))))
 ·exact gX 0 (pL)
noncomputable def T69(p0:(List Int)):Option Int:=((iter (L69_3 p0) 0).bind fun y2=>(Sum.elim (fun y2a=>(some 0)) (fun y2b=>(some y2b)) y2))
theorem B69(C:Callee)(p0:(List Int)):rB C 69 Tryz.f69 (frame0 [LL I p0] 18 false) ((T69 p0).map I):=by
 unfold T69
 refine zS 1 0 (mkE [(0,LL I p0)] [] 18) (zS 2 1 (mkE [(0,LL I p0),(3,I 0)] [] 18) (gS 8 (zR 3 2 (sg 1 (mkE [(6,LL I p0),(0,LL I p0),(3,I 0)] [] 18) (eo 7 (I (lenL p0)) (lenE 92 I p0) (zN (mkE [(3,I 0),(6,LL I p0),(7,I (lenL p0)),(8,I 0)] [] 18) (gB 0 (lo [(3,none),(6,none),(7,none),(8,none)] [] (L69_3 p0) (fun z0:Int=>(mkE [(3,I 0),(6,LL I p0),(7,I (lenL p0)),(8,I z0)] [] 18)) (Sum.elim (fun(x:(Int×Bool))=>(.exit 0,(mkE [(3,I 0),(6,LL I p0),(7,I (lenL p0)),(8,I x.1),(9,B x.2)] [] 18))) (fun(x:Int)=>(.ret,(mkE [(2,I x)] [] 18)))) 0 (fun z=>L69_3_ok C p0 z) ?_))))))))
 intro y2
 refine ss y2 (Z:=(Sum.elim (fun(x:(Int×Bool))=>(.exit 0,(mkE [(3,I 0),(6,LL I p0),(7,I (lenL p0)),(8,I x.1),(9,B x.2)] [] 18))) (fun(x:Int)=>(.ret,(mkE [(2,I x)] [] 18))))) (fun y2a=>?_) (fun y2b=>?_)
 ·exact pH (zP (zF 0 8 (mkE [(2,I 0)] [] 18)))
 ·exact pL
theorem F69(m:Nat)(hm:1≤m)(p0:(List Int)):callA Tryz.prog cfg m 69 [LL I p0]=(T69 p0).map I:=by
 obtain⟨q,rfl⟩:=sucK hm
 exact(callA_bodyQ (fn:=Tryz.f69) (c:=body_ Tryz.f69) q _ (by kernel_rfl) (by kernel_rfl) (by kernel_rfl)).trans (B69 _ p0)
noncomputable def T122(p0:S39)(p1:S39):Option Int:=((T71 p0.f4 p1.f4).bind fun x1=>((T62 p0.f0 p1.f0).bind fun x2=>((T69 ([x1,x2]:List Int)).bind fun x3=>(some x3))))
abbrev H62(C:Callee):Prop:=∀(p0:ByteArray)(p1:ByteArray),C 62 [S p0,S p1]=(T62 p0 p1).map I
abbrev H69(C:Callee):Prop:=∀(p0:(List Int)),C 69 [LL I p0]=(T69 p0).map I
abbrev H71(C:Callee):Prop:=∀(p0:Int)(p1:Int),C 71 [I p0,I p1]=(T71 p0 p1).map I
theorem B122(C:Callee)(h62:H62 C)(h69:H69 C)(h71:H71 C)(p0:S39)(p1:S39):rB C 122 Tryz.f122 (frame0 [a39 p0,a39 p1] 17 false) ((T122 p0 p1).map I):=by
 unfold T122
 let d_0:List (Option Nat×REff):=[(some 5,qe (.ba 16 4)),(some 6,qe (I p0.f4)),(some 7,qe (.ba 24 4)),(some 8,qe (I p1.f4))]
 let d_1:List (Option Nat×REff):=[(some 10,qe (.ba 16 0)),(some 11,qe (S p0.f0)),(some 12,qe (.ba 24 0)),(some 13,qe (S p1.f0))]
 let s_0:List (Nat×AV):=[(8,I p1.f4),(7,.ba 24 4),(6,I p0.f4),(5,.ba 16 4),(2,.ba 16 0),(3,.ba 24 0)]
 let o_0:List (Nat×AObj):=[(16,.box [S p0.f0,S p0.f1,I p0.f2,LL S p0.f3,I p0.f4,I p0.f5,I p0.f6,LL a43 p0.f7,S p0.f8] false),(24,.box [S p1.f0,S p1.f1,I p1.f2,LL S p1.f3,I p1.f4,I p1.f5,I p1.f6,LL a43 p1.f7,S p1.f8] false)]
 refine zS 1 0 (mkE [(2,.ba 16 0),(3,.ba 24 0)] o_0 17) (gS 0 (gD 1 13 (rg Tryz.f122 1) [0,1,2,3,4,5,6,7,8,9,10,11,12] (dg 4 d_0 (dc 9 [] (mkE s_0 o_0 17) (h71 p0.f4 p1.f4) (fun x1=>?_)))))
 refine dg 9 (d_0.append ((some 9,qe (I x1))::d_1)) (dc 14 [] (mkE ((13,S p1.f0)::((12,.ba 24 0)::((11,S p0.f0)::((10,.ba 16 0)::((9,I x1)::s_0))))) o_0 17) (h62 p0.f0 p1.f0) (fun x2=>?_))
 refine dg 11 (d_0.append ((some 9,qe (I x1))::(d_1.append ((some 14,qe (I x2))::[(some 15,{ e:={ val:= .own 120 0,news:=[(120,RR 3 1 I ([x1,x2]:List Int) 0 false)] } })])))) (dc 16 [120] (mkE ((15,.own 120 0)::((14,I x2)::((13,S p1.f0)::((12,.ba 24 0)::((11,S p0.f0)::((10,.ba 16 0)::((9,I x1)::s_0))))))) ((120,RR 3 1 I ([x1,x2]:List Int) 0 false)::o_0) 17) (h69 ([x1,x2]:List Int)) (fun x3=>?_))
 exact dg 13 (d_0.append ((some 9,qe (I x1))::(d_1.append ((some 14,qe (I x2))::((some 15,{ e:={ val:= .own 120 0,news:=[(120,RR 3 1 I ([x1,x2]:List Int) 0 false)] } })::((some 16,qe (I x3))::[(some 4,qe (I x3))])))))) (de (mkE ((4,I x3)::((16,I x3)::((15,.own 120 0)::((14,I x2)::((13,S p1.f0)::((12,.ba 24 0)::((11,S p0.f0)::((10,.ba 16 0)::((9,I x1)::s_0))))))))) ((120,RR 3 1 I ([x1,x2]:List Int) 0 false)::o_0) 17) (zE (mkE [(4,I x3)] [] 17)))
theorem F122(m:Nat)(hm:3≤m)(p0:S39)(p1:S39):callA Tryz.prog cfg m 122 [a39 p0,a39 p1]=(T122 p0 p1).map I:=by
 obtain⟨q,rfl⟩:=sucK hm
 exact(callA_bodyQ (fn:=Tryz.f122) (c:=body_ Tryz.f122) q _ (by kernel_rfl) (by kernel_rfl) (by kernel_rfl)).trans (B122 _ (fun p0 p1=>(guard_q (by kernel_rfl) _).trans (F62 q (by omega) p0 p1)) (fun p0=>(guard_q (by kernel_rfl) _).trans (F69 q (by omega) p0)) (fun p0 p1=>(guard_q (by kernel_rfl) _).trans (F71 q (by omega) p0 p1)) p0 p1)
noncomputable def L99_4(p0:(List S39))(z0:Int):Option (Int⊕((Int×Bool)⊕Int)):=(bif (ltI z0 (lenL p0))then((listAt p0 z0).bind fun x1=>((T121 x1).bind fun x2=>(bif (neI x2 0)then(some (.inr (.inr x2)))else(bif (ltI 0 z0)then((listAt p0 (subI .i64 z0 1)).bind fun x3=>((T122 x3 x1).bind fun x4=>(bif (leI 0 x4)then(some (.inr (.inr 7)))else(some (.inl (addI .i64 z0 1))))))else(some (.inl (addI .i64 z0 1)))))))else(some (.inr (.inl (z0,(ltI z0 (lenL p0)))))))
abbrev H121(C:Callee):Prop:=∀(p0:S39),C 121 [a39 p0]=(T121 p0).map I
abbrev H122(C:Callee):Prop:=∀(p0:S39)(p1:S39),C 122 [a39 p0,a39 p1]=(T122 p0 p1).map I
theorem L99_4_ok(C:Callee)(h121:H121 C)(h122:H122 C)(p0:(List S39))(z0:Int):rL C 99 Tryz.f99 4 [false,false,true,false,true,true] (fun z0:Int=>(mkE [(0,LL a39 p0),(12,LL a39 p0),(13,I (lenL p0)),(14,I z0)] [] 52)) (Sum.elim (fun(x:(Int×Bool))=>(.exit 0,(mkE [(0,LL a39 p0),(12,LL a39 p0),(13,I (lenL p0)),(14,I x.1),(15,B x.2)] [] 52))) (fun(x:Int)=>(.ret,(mkE [(2,I x)] [] 52)))) (L99_4 p0 z0) z0:=by
 unfold L99_4
 let d_0:List (Option Nat×REff):=[(some 24,qe (I z0)),(some 25,qe (B (ltI 0 z0))),(some 26,qe (B true)),(some 27,qe (LL a39 p0)),(some 28,qe (I z0)),(some 29,qe (I (subI .i64 z0 1)))]
 let s_0:List (Nat×AV):=[(12,LL a39 p0),(13,I (lenL p0)),(14,I z0)]
 let s_1:List (Nat×AV):=[(29,I (subI .i64 z0 1)),(28,I z0),(27,LL a39 p0),(26,B true),(25,B (ltI 0 z0)),(24,I z0),(0,LL a39 p0),(3,I z0),(4,.ba 32 0)]
 let s_2:List (Nat×AV):=[(0,LL a39 p0),(3,I z0),(4,.ba 32 0)]
 refine zS 0 4 (mkE ((0,LL a39 p0)::(s_0.append [(15,B (ltI z0 (lenL p0)))])) [] 52) (gS 5 (gC 15 (ltI z0 (lenL p0)) ?_ ?_))
 ·refine gK (zP (gS 11 (gB 1 (zR 6 5 (sg 1 (mkE ((16,I z0)::((0,LL a39 p0)::(s_0.append [(15,B (ltI z0 (lenL p0)))]))) [] 52) (vo 17 (addrE 22 40 9 a39 .i64 p0 z0) (fun x1=>?_)))))))
  refine zN (mkE (s_2.append s_0) [(32,.box [S x1.f0,S x1.f1,I x1.f2,LL S x1.f3,I x1.f4,I x1.f5,I x1.f6,LL a43 x1.f7,S x1.f8] false)] 52) (gS 9 (zR 7 6 (sg 1 (mkE ((19,a39 x1)::(s_2.append s_0)) [(32,.box [S x1.f0,S x1.f1,I x1.f2,LL S x1.f3,I x1.f4,I x1.f5,I x1.f6,LL a43 x1.f7,S x1.f8] false)] 52) (co 20 [] (h121 x1) (fun x2=>?_)))))
  refine zN (mkE (s_2.append ((5,I x2)::s_0)) [(32,.box [S x1.f0,S x1.f1,I x1.f2,LL S x1.f3,I x1.f4,I x1.f5,I x1.f6,LL a43 x1.f7,S x1.f8] false)] 52) (zS 0 7 (mkE (s_2.append ((5,I x2)::(s_0.append [(22,B (neI x2 0))]))) [(32,.box [S x1.f0,S x1.f1,I x1.f2,LL S x1.f3,I x1.f4,I x1.f5,I x1.f6,LL a43 x1.f7,S x1.f8] false)] 52) (gC 22 (neI x2 0) ?_ ?_))
  ·exact zF 0 8 (mkE [(2,I x2)] [] 52)
  ·refine gK (zP (gS 0 (gD 9 12 (rg Tryz.f99 9) [0,1,2,3,4,5,6,7,8,9,10,11] (dg 3 [(some 24,qe (I z0)),(some 25,qe (B (ltI 0 z0))),(some 26,qe (B (ltI 0 z0)))] (db 2 26 (ltI 0 z0) ?_ ?_)))))
   ·refine dg 6 d_0 (dv 30 (mkE (s_1.append ((5,I x2)::(s_0.append [(22,B (neI x2 0))]))) [(32,.box [S x1.f0,S x1.f1,I x1.f2,LL S x1.f3,I x1.f4,I x1.f5,I x1.f6,LL a43 x1.f7,S x1.f8] false)] 52) (addrE 22 40 9 a39 .i64 p0 (subI .i64 z0 1)) (fun x3=>?_))
    refine dg 9 (d_0.append ((some 30,qe (.ia [S x3.f0,S x3.f1,I x3.f2,LL S x3.f3,I x3.f4,I x3.f5,I x3.f6,LL a43 x3.f7,S x3.f8] 0))::((some 31,qe (a39 x3))::[(some 32,qe (a39 x1))]))) (dc 33 [] (mkE ((32,a39 x1)::((31,a39 x3)::((30,.ia [S x3.f0,S x3.f1,I x3.f2,LL S x3.f3,I x3.f4,I x3.f5,I x3.f6,LL a43 x3.f7,S x3.f8] 0)::(s_1.append ((5,I x2)::(s_0.append [(22,B (neI x2 0))])))))) [(32,.box [S x1.f0,S x1.f1,I x1.f2,LL S x1.f3,I x1.f4,I x1.f5,I x1.f6,LL a43 x1.f7,S x1.f8] false)] 52) (h122 x3 x1) (fun x4=>?_))
    refine dg 12 (d_0.append ((some 30,qe (.ia [S x3.f0,S x3.f1,I x3.f2,LL S x3.f3,I x3.f4,I x3.f5,I x3.f6,LL a43 x3.f7,S x3.f8] 0))::((some 31,qe (a39 x3))::((some 32,qe (a39 x1))::((some 33,qe (I x4))::((some 34,qe (B (leI 0 x4)))::[(some 35,qe (B (leI 0 x4)))])))))) (de (mkE ((35,B (leI 0 x4))::((34,B (leI 0 x4))::((33,I x4)::((32,a39 x1)::((31,a39 x3)::((30,.ia [S x3.f0,S x3.f1,I x3.f2,LL S x3.f3,I x3.f4,I x3.f5,I x3.f6,LL a43 x3.f7,S x3.f8] 0)::(s_1.append ((5,I x2)::(s_0.append [(22,B (neI x2 0))]))))))))) [(32,.box [S x1.f0,S x1.f1,I x1.f2,LL S x1.f3,I x1.f4,I x1.f5,I x1.f6,LL a43 x1.f7,S x1.f8] false)] 52) (zN (mkE ((0,LL a39 p0)::(s_0.append [(35,B (leI 0 x4))])) [] 52) (gC 35 (leI 0 x4) ?_ ?_)))
    ·exact zF 0 10 (mkE [(2,I 7)] [] 52)
    ·exact gK (pB (zP (gR 11 (rg Tryz.f99 11) (se (mkE [(0,LL a39 p0),(12,LL a39 p0),(13,I (lenL p0)),(14,I (addI .i64 z0 1))] [] 52) (pL)))))
   ·exact dg 12 [(some 24,qe (I z0)),(some 25,qe (B (ltI 0 z0))),(some 26,qe (B false)),(some 27,qe (.und)),(some 28,qe (.und)),(some 29,qe (.und)),(some 30,qe (.und)),(some 31,qe (.und)),(some 32,qe (.und)),(some 33,qe (.und)),(some 34,qe (.und)),(some 35,qe (B false))] (de (mkE ((35,B false)::((34,.und)::((33,.und)::((32,.und)::((31,.und)::((30,.und)::((29,.und)::((28,.und)::((27,.und)::((26,B false)::((25,B (ltI 0 z0))::((24,I z0)::(s_2.append ((5,I x2)::(s_0.append [(22,B (neI x2 0))]))))))))))))))) [(32,.box [S x1.f0,S x1.f1,I x1.f2,LL S x1.f3,I x1.f4,I x1.f5,I x1.f6,LL a43 x1.f7,S x1.f8] false)] 52) (zN (mkE ((0,LL a39 p0)::(s_0.append [(35,B false)])) [] 52) (gF (.tmp 35) (gK (pB (zP (gR 11 (rg Tryz.f99 11) (se (mkE [(0,LL a39 p0),(12,LL a39 p0),(13,I (lenL p0)),(14,I (addI .i64 z0 1))] [] 52) (pL)))))))))
 ·exact gX 0 (pL)
noncomputable def L99_14(p0:(List S39))(z1:((List (ByteArray×Bool))×Int)):Option (((List (ByteArray×Bool))×Int)⊕((Int×Bool×(List (ByteArray×Bool)))⊕Unit)):=(bif (ltI z1.2 (lenL p0))then((listAt p0 z1.2).bind fun x6=>(bif ((mgetB eqB z1.1 x6.f0).getD false)then(some (.inr (.inr ())))else((some (msetB eqB z1.1 x6.f0 true)).bind fun x7=>(some (.inl (x7,(addI .i64 z1.2 1)))))))else(some (.inr (.inl (z1.2,(ltI z1.2 (lenL p0)),z1.1)))))
theorem L99_14_ok(C:Callee)(p0:(List S39))(z1:((List (ByteArray×Bool))×Int)):rL C 99 Tryz.f99 14 [false,false,true,false,true,true,true,true] (fun z1:((List (ByteArray×Bool))×Int)=>(mkE [(6,.mr 48),(38,LL a39 p0),(39,I (lenL p0)),(40,I z1.2)] [(48,MP S B z1.1 false)] 52)) (Sum.elim (fun(x:(Int×Bool×(List (ByteArray×Bool))))=>(.exit 2,(mkE [(6,.mr 48),(38,LL a39 p0),(39,I (lenL p0)),(40,I x.1),(41,B x.2.1)] [(48,MP S B x.2.2 false)] 52))) (fun(x:Unit)=>(.ret,(mkE [(2,I 6)] [] 52)))) (L99_14 p0 z1) z1:=by
 unfold L99_14
 let s_0:List (Nat×AV):=[(6,.mr 48),(8,.ba 64 0),(38,LL a39 p0),(39,I (lenL p0)),(40,I z1.2)]
 refine zS 0 14 (mkE [(6,.mr 48),(38,LL a39 p0),(39,I (lenL p0)),(40,I z1.2),(41,B (ltI z1.2 (lenL p0)))] [(48,MP S B z1.1 false)] 52) (gS 15 (gC 41 (ltI z1.2 (lenL p0)) ?_ ?_))
 ·refine gK (zP (gS 19 (gB 3 (zR 16 15 (vo 42 (addrE 22 40 9 a39 .i64 p0 z1.2) (fun x6=>?_))))))
  refine zN (mkE s_0 [(48,MP S B z1.1 false),(64,.box [S x6.f0,S x6.f1,I x6.f2,LL S x6.f3,I x6.f4,I x6.f5,I x6.f6,LL a43 x6.f7,S x6.f8] false)] 52) (gS 18 (zR 0 16 (sg 3 (mkE ((46,S x6.f0)::((45,.ba 64 0)::((44,.mr 48)::s_0))) [(48,MP S B z1.1 false),(64,.box [S x6.f0,S x6.f1,I x6.f2,LL S x6.f3,I x6.f4,I x6.f5,I x6.f6,LL a43 x6.f7,S x6.f8] false)] 52) (eo 47 (B ((mgetB eqB z1.1 x6.f0).getD false)) (mapE 98 9 4 48 false S B eqB z1.1 x6.f0 false sameS) (zN (mkE (s_0.append [(47,B ((mgetB eqB z1.1 x6.f0).getD false))]) [(48,MP S B z1.1 false),(64,.box [S x6.f0,S x6.f1,I x6.f2,LL S x6.f3,I x6.f4,I x6.f5,I x6.f6,LL a43 x6.f7,S x6.f8] false)] 52) (gC 47 ((mgetB eqB z1.1 x6.f0).getD false) ?_ ?_))))))
  ·exact zF 0 17 (mkE [(2,I 6)] [] 52)
  ·refine gK (zP (gR 18 (rg Tryz.f99 18) (sg 3 (mkE ((50,S x6.f0)::((49,.ba 64 0)::((48,.mr 48)::(s_0.append [(47,B ((mgetB eqB z1.1 x6.f0).getD false))])))) [(48,MP S B z1.1 false),(64,.box [S x6.f0,S x6.f1,I x6.f2,LL S x6.f3,I x6.f4,I x6.f5,I x6.f6,LL a43 x6.f7,S x6.f8] false)] 52) (mo none (mapO_ 98 9 4 48 S B eqB z1.1 x6.f0 (B true) true [] sameS) (fun x7=>?_)))))
   exact se (mkE [(6,.mr 48),(38,LL a39 p0),(39,I (lenL p0)),(40,I z1.2)] [(48,MP S B x7 false)] 52) (pB (zP (gR 19 (rg Tryz.f99 19) (se (mkE [(6,.mr 48),(38,LL a39 p0),(39,I (lenL p0)),(40,I (addI .i64 z1.2 1))] [(48,MP S B x7 false)] 52) (pL)))))
 ·exact gX 2 (pL)
noncomputable def T99(p0:(List S39)):Option Int:=(bif (ltI 300 (lenL p0))then(some 2)else((iter (L99_4 p0) 0).bind fun y5=>(Sum.elim (fun y5a=>((iter (L99_14 p0) (([]:(List (ByteArray×Bool))),0)).bind fun y8=>(Sum.elim (fun y8a=>(some 0)) (fun y8b=>(some 6)) y8))) (fun y5b=>(some y5b)) y5)))
theorem B99(C:Callee)(h121:H121 C)(h122:H122 C)(p0:(List S39)):rB C 99 Tryz.f99 (frame0 [LL a39 p0] 52 false) ((T99 p0).map I):=by
 unfold T99
 let s_0:List (Nat×AV):=[(0,LL a39 p0),(12,LL a39 p0),(13,I (lenL p0))]
 refine zS 1 0 (mkE [(0,LL a39 p0)] [] 52) (gS 3 (zR 0 1 (sg 1 (mkE [(9,LL a39 p0),(0,LL a39 p0)] [] 52) (eo 10 (I (lenL p0)) (lenE 22 a39 p0) (zN (mkE [(0,LL a39 p0),(11,B (ltI 300 (lenL p0)))] [] 52) (gC 11 (ltI 300 (lenL p0)) ?_ ?_))))))
 ·exact zF 0 2 (mkE [(2,I 2)] [] 52)
 ·refine gK (zP (gS 12 (zR 4 3 (sg 1 (mkE [(12,LL a39 p0),(0,LL a39 p0),(11,B (ltI 300 (lenL p0)))] [] 52) (eo 13 (I (lenL p0)) (lenE 22 a39 p0) (zN (mkE (s_0.append [(14,I 0)]) [] 52) (gB 0 (lo [(0,none),(12,none),(13,none),(14,none)] [] (L99_4 p0) (fun z0:Int=>(mkE (s_0.append [(14,I z0)]) [] 52)) (Sum.elim (fun(x:(Int×Bool))=>(.exit 0,(mkE (s_0.append ((14,I x.1)::[(15,B x.2)])) [] 52))) (fun(x:Int)=>(.ret,(mkE [(2,I x)] [] 52)))) 0 (fun z=>L99_4_ok C h121 h122 p0 z) ?_))))))))
  intro y5
  refine ss y5 (Z:=(Sum.elim (fun(x:(Int×Bool))=>(.exit 0,(mkE (s_0.append ((14,I x.1)::[(15,B x.2)])) [] 52))) (fun(x:Int)=>(.ret,(mkE [(2,I x)] [] 52))))) (fun y5a=>?_) (fun y5b=>?_)
  ·refine pH (zP (zS 13 12 (mkE [(0,LL a39 p0),(6,.mr 296)] [(296,MP S B ([]:(List (ByteArray×Bool))) false)] 52) (gS 20 (zR 14 13 (sg 1 (mkE [(38,LL a39 p0),(0,LL a39 p0),(6,.mr 296)] [(296,MP S B ([]:(List (ByteArray×Bool))) false)] 52) (eo 39 (I (lenL p0)) (lenE 22 a39 p0) (zN (mkE [(6,.mr 296),(38,LL a39 p0),(39,I (lenL p0)),(40,I 0)] [(296,MP S B ([]:(List (ByteArray×Bool))) false)] 52) (gB 2 (lo [(6,none),(38,none),(39,none),(40,none)] [] (L99_14 p0) (fun z1:((List (ByteArray×Bool))×Int)=>(mkE [(6,.mr 48),(38,LL a39 p0),(39,I (lenL p0)),(40,I z1.2)] [(48,MP S B z1.1 false)] 52)) (Sum.elim (fun(x:(Int×Bool×(List (ByteArray×Bool))))=>(.exit 2,(mkE [(6,.mr 48),(38,LL a39 p0),(39,I (lenL p0)),(40,I x.1),(41,B x.2.1)] [(48,MP S B x.2.2 false)] 52))) (fun(x:Unit)=>(.ret,(mkE [(2,I 6)] [] 52)))) (([]:(List (ByteArray×Bool))),0) (fun z=>L99_14_ok C p0 z) ?_)))))))))
   intro y8
   refine ss y8 (Z:=(Sum.elim (fun(x:(Int×Bool×(List (ByteArray×Bool))))=>(.exit 2,(mkE [(6,.mr 48),(38,LL a39 p0),(39,I (lenL p0)),(40,I x.1),(41,B x.2.1)] [(48,MP S B x.2.2 false)] 52))) (fun(x:Unit)=>(.ret,(mkE [(2,I 6)] [] 52))))) (fun y8a=>?_) (fun y8b=>?_)
   ·exact pH (zP (zF 0 20 (mkE [(2,I 0)] [] 52)))
   ·exact pL
  ·exact pL
theorem F99(m:Nat)(hm:5≤m)(p0:(List S39)):callA Tryz.prog cfg m 99 [LL a39 p0]=(T99 p0).map I:=by
 obtain⟨q,rfl⟩:=sucK hm
 exact(callA_body (fn:=Tryz.f99) (c:=body_ Tryz.f99) q _ (by kernel_rfl) (by kernel_rfl) (by kernel_rfl)).trans (B99 _ (fun p0=>F121 q (by omega) p0) (fun p0 p1=>F122 q (by omega) p0 p1) p0)
noncomputable def L21_4(p0:(List S26))(z0:Int):Option (Int⊕((Int×Bool)⊕Int)):=(bif (ltI z0 (lenL p0))then((listAt p0 z0).bind fun x1=>((T55 x1.f0).bind fun x2=>(bif (!x2)then(some (.inr (.inr 5)))else((T56 x1.f1 (-100000) 100000).bind fun x3=>(bif x3 then(some (.inr (.inr 1)))else((T56 x1.f2 (-100000) 100000).bind fun x4=>(bif x4 then(some (.inr (.inr 1)))else(bif (ltI 0 z0)then((listAt p0 (subI .i64 z0 1)).bind fun x5=>(bif (ltS x1.f0 x5.f0||eqS x1.f0 x5.f0)then(some (.inr (.inr 7)))else(some (.inl (addI .i64 z0 1)))))else(some (.inl (addI .i64 z0 1)))))))))))else(some (.inr (.inl (z0,(ltI z0 (lenL p0)))))))
theorem L21_4_ok(C:Callee)(h55:H55 C)(h56:H56 C)(p0:(List S26))(z0:Int):rL C 21 Tryz.f21 4 [false,false,true,false,true,true] (fun z0:Int=>(mkE [(0,LL a26 p0),(8,LL a26 p0),(9,I (lenL p0)),(10,I z0)] [] 44)) (Sum.elim (fun(x:(Int×Bool))=>(.exit 0,(mkE [(0,LL a26 p0),(8,LL a26 p0),(9,I (lenL p0)),(10,I x.1),(11,B x.2)] [] 44))) (fun(x:Int)=>(.ret,(mkE [(2,I x)] [] 44)))) (L21_4 p0 z0) z0:=by
 unfold L21_4
 let d_0:List (Option Nat×REff):=[(some 30,qe (I z0)),(some 31,qe (B (ltI 0 z0)))]
 let s_0:List (Nat×AV):=[(0,LL a26 p0),(3,I z0),(4,.ba 32 0),(8,LL a26 p0),(9,I (lenL p0)),(10,I z0)]
 let s_1:List (Nat×AV):=[(0,LL a26 p0),(8,LL a26 p0),(9,I (lenL p0))]
 refine zS 0 4 (mkE (s_1.append ((10,I z0)::[(11,B (ltI z0 (lenL p0)))])) [] 44) (gS 5 (gC 11 (ltI z0 (lenL p0)) ?_ ?_))
 ·refine gK (zP (gS 12 (gB 1 (zR 6 5 (sg 1 (mkE ((12,I z0)::(s_1.append ((10,I z0)::[(11,B (ltI z0 (lenL p0)))]))) [] 44) (vo 13 (addrE 23 27 3 a26 .i64 p0 z0) (fun x1=>?_)))))))
  refine zN (mkE s_0 [(32,.box [S x1.f0,I x1.f1,I x1.f2] false)] 44) (gB 2 (zR 0 6 (sg 2 (mkE ((17,S x1.f0)::((16,.ba 32 0)::s_0)) [(32,.box [S x1.f0,I x1.f1,I x1.f2] false)] 44) (co 18 [] (h55 x1.f0) (fun x2=>?_)))))
  refine zN (mkE (s_0.append [(15,B (!x2))]) [(32,.box [S x1.f0,I x1.f1,I x1.f2] false)] 44) (gC 15 (!x2) ?_ ?_)
  ·exact zF 0 7 (mkE [(2,I 5)] [] 44)
  ·refine zR 0 8 (sg 2 (mkE ((22,I x1.f1)::((21,.ba 32 1)::(s_0.append [(15,B (!x2))]))) [(32,.box [S x1.f0,I x1.f1,I x1.f2] false)] 44) (co 23 [] (h56 x1.f1 (-100000) 100000) (fun x3=>?_)))
   refine sg 4 (mkE ((24,B x3)::((23,B x3)::((22,I x1.f1)::((21,.ba 32 1)::(s_0.append [(15,B (!x2))]))))) [(32,.box [S x1.f0,I x1.f1,I x1.f2] false)] 44) (sb 24 x3 ?_ ?_)
   ·exact zN (mkE (s_0.append [(20,B true)]) [(32,.box [S x1.f0,I x1.f1,I x1.f2] false)] 44) (gT (.tmp 20) (zF 0 9 (mkE [(2,I 1)] [] 44)))
   ·refine sg 6 (mkE ((26,I x1.f2)::((25,.ba 32 2)::((24,B false)::((24,B x3)::((23,B x3)::((22,I x1.f1)::((21,.ba 32 1)::(s_0.append [(15,B (!x2))])))))))) [(32,.box [S x1.f0,I x1.f1,I x1.f2] false)] 44) (co 27 [] (h56 x1.f2 (-100000) 100000) (fun x4=>?_))
    refine zN (mkE (s_0.append [(20,B x4)]) [(32,.box [S x1.f0,I x1.f1,I x1.f2] false)] 44) (gC 20 x4 ?_ ?_)
    ·exact zF 0 9 (mkE [(2,I 1)] [] 44)
    ·refine gS 0 (gD 10 14 (rg Tryz.f21 10) [0,1,2,3,4,5,6,7,8,9,10,11,12,13] (dg 3 (d_0.append [(some 32,qe (B (ltI 0 z0)))]) (db 2 32 (ltI 0 z0) ?_ ?_)))
     ·refine dg 8 (d_0.append ((some 32,qe (B true))::((some 33,qe (.ba 32 0))::((some 34,qe (S x1.f0))::((some 35,qe (LL a26 p0))::((some 36,qe (I z0))::[(some 37,qe (I (subI .i64 z0 1)))])))))) (dv 38 (mkE ((37,I (subI .i64 z0 1))::((36,I z0)::((35,LL a26 p0)::((32,B true)::((31,B (ltI 0 z0))::((30,I z0)::(s_0.append [(20,B x4)]))))))) [(32,.box [S x1.f0,I x1.f1,I x1.f2] false)] 44) (addrE 23 27 3 a26 .i64 p0 (subI .i64 z0 1)) (fun x5=>?_))
      refine dg 14 (d_0.append ((some 32,qe (B true))::((some 33,qe (.ba 32 0))::((some 34,qe (S x1.f0))::((some 35,qe (LL a26 p0))::((some 36,qe (I z0))::((some 37,qe (I (subI .i64 z0 1)))::((some 38,qe (.ia [S x5.f0,I x5.f1,I x5.f2] 0))::((some 39,qe (.ia [S x5.f0,I x5.f1,I x5.f2] 0))::((some 40,qe (S x5.f0))::((some 41,qe (B (ltS x1.f0 x5.f0||eqS x1.f0 x5.f0)))::((some 42,qe (B (ltS x1.f0 x5.f0||eqS x1.f0 x5.f0)))::[(some 29,qe (B (ltS x1.f0 x5.f0||eqS x1.f0 x5.f0)))])))))))))))) (de (mkE ((29,B (ltS x1.f0 x5.f0||eqS x1.f0 x5.f0))::((42,B (ltS x1.f0 x5.f0||eqS x1.f0 x5.f0))::((41,B (ltS x1.f0 x5.f0||eqS x1.f0 x5.f0))::((40,S x5.f0)::((39,.ia [S x5.f0,I x5.f1,I x5.f2] 0)::((38,.ia [S x5.f0,I x5.f1,I x5.f2] 0)::((37,I (subI .i64 z0 1))::((36,I z0)::((35,LL a26 p0)::((34,S x1.f0)::((33,.ba 32 0)::((32,B true)::((31,B (ltI 0 z0))::((30,I z0)::(s_0.append [(20,B x4)]))))))))))))))) [(32,.box [S x1.f0,I x1.f1,I x1.f2] false)] 44) (zN (mkE (s_1.append ((10,I z0)::[(29,B (ltS x1.f0 x5.f0||eqS x1.f0 x5.f0))])) [] 44) (gC 29 (ltS x1.f0 x5.f0||eqS x1.f0 x5.f0) ?_ ?_)))
      ·exact zF 0 11 (mkE [(2,I 7)] [] 44)
      ·exact gK (pB (pB (zP (gR 12 (rg Tryz.f21 12) (se (mkE (s_1.append [(10,I (addI .i64 z0 1))]) [] 44) (pL))))))
     ·exact dg 14 (d_0.append ((some 32,qe (B false))::((some 33,qe (.und))::((some 34,qe (.und))::((some 35,qe (.und))::((some 36,qe (.und))::((some 37,qe (.und))::((some 38,qe (.und))::((some 39,qe (.und))::((some 40,qe (.und))::((some 41,qe (.und))::((some 42,qe (B false))::[(some 29,qe (B false))])))))))))))) (de (mkE ((29,B false)::((42,B false)::((41,.und)::((40,.und)::((39,.und)::((38,.und)::((37,.und)::((36,.und)::((35,.und)::((34,.und)::((33,.und)::((32,B false)::((31,B (ltI 0 z0))::((30,I z0)::(s_0.append [(20,B x4)]))))))))))))))) [(32,.box [S x1.f0,I x1.f1,I x1.f2] false)] 44) (zN (mkE (s_1.append ((10,I z0)::[(29,B false)])) [] 44) (gF (.tmp 29) (gK (pB (pB (zP (gR 12 (rg Tryz.f21 12) (se (mkE (s_1.append [(10,I (addI .i64 z0 1))]) [] 44) (pL))))))))))
 ·exact gX 0 (pL)
noncomputable def T21(p0:(List S26)):Option Int:=(bif (ltI 500 (lenL p0))then(some 2)else((iter (L21_4 p0) 0).bind fun y6=>(Sum.elim (fun y6a=>(some 0)) (fun y6b=>(some y6b)) y6)))
theorem B21(C:Callee)(h55:H55 C)(h56:H56 C)(p0:(List S26)):rB C 21 Tryz.f21 (frame0 [LL a26 p0] 44 false) ((T21 p0).map I):=by
 unfold T21
 let s_0:List (Nat×AV):=[(0,LL a26 p0),(8,LL a26 p0),(9,I (lenL p0))]
 refine zS 1 0 (mkE [(0,LL a26 p0)] [] 44) (gS 3 (zR 0 1 (sg 1 (mkE [(5,LL a26 p0),(0,LL a26 p0)] [] 44) (eo 6 (I (lenL p0)) (lenE 23 a26 p0) (zN (mkE [(0,LL a26 p0),(7,B (ltI 500 (lenL p0)))] [] 44) (gC 7 (ltI 500 (lenL p0)) ?_ ?_))))))
 ·exact zF 0 2 (mkE [(2,I 2)] [] 44)
 ·refine gK (zP (gS 13 (zR 4 3 (sg 1 (mkE [(8,LL a26 p0),(0,LL a26 p0),(7,B (ltI 500 (lenL p0)))] [] 44) (eo 9 (I (lenL p0)) (lenE 23 a26 p0) (zN (mkE (s_0.append [(10,I 0)]) [] 44) (gB 0 (lo [(0,none),(8,none),(9,none),(10,none)] [] (L21_4 p0) (fun z0:Int=>(mkE (s_0.append [(10,I z0)]) [] 44)) (Sum.elim (fun(x:(Int×Bool))=>(.exit 0,(mkE (s_0.append ((10,I x.1)::[(11,B x.2)])) [] 44))) (fun(x:Int)=>(.ret,(mkE [(2,I x)] [] 44)))) 0 (fun z=>L21_4_ok C h55 h56 p0 z) ?_))))))))
  intro y6
  refine ss y6 (Z:=(Sum.elim (fun(x:(Int×Bool))=>(.exit 0,(mkE (s_0.append ((10,I x.1)::[(11,B x.2)])) [] 44))) (fun(x:Int)=>(.ret,(mkE [(2,I x)] [] 44))))) (fun y6a=>?_) (fun y6b=>?_)
  ·exact pH (zP (zF 0 13 (mkE [(2,I 0)] [] 44)))
  ·exact pL
theorem F21(m:Nat)(hm:2≤m)(p0:(List S26)):callA Tryz.prog cfg m 21 [LL a26 p0]=(T21 p0).map I:=by
 obtain⟨q,rfl⟩:=sucK hm
 exact(callA_body (fn:=Tryz.f21) (c:=body_ Tryz.f21) q _ (by kernel_rfl) (by kernel_rfl) (by kernel_rfl)).trans (B21 _ (fun p0=>F55 q (by omega) p0) (fun p0 p1 p2=>F56 q (by omega) p0 p1 p2) p0)
noncomputable def T46(p0:(List S39))(p1:(List S26)):Option Int:=((T99 p0).bind fun x1=>(bif (neI x1 0)then(some x1)else((T21 p1).bind fun x2=>(some x2))))
abbrev H21(C:Callee):Prop:=∀(p0:(List S26)),C 21 [LL a26 p0]=(T21 p0).map I
theorem B46(C:Callee)(h21:H21 C)(h99:∀(p0:(List S39)),C 99 [LL a39 p0]=(T99 p0).map I)(p0:(List S39))(p1:(List S26)):rB C 46 Tryz.f46 (frame0 [LL a39 p0,LL a26 p1] 13 false) ((T46 p0 p1).map I):=by
 unfold T46
 refine zS 1 0 (mkE [(0,LL a39 p0),(1,LL a26 p1)] [] 13) (gS 4 (zR 2 1 (sg 1 (mkE [(6,LL a39 p0),(0,LL a39 p0),(1,LL a26 p1)] [] 13) (co 7 [] (h99 p0) (fun x1=>?_)))))
 refine zN (mkE [(1,LL a26 p1),(5,I x1)] [] 13) (zS 0 2 (mkE [(1,LL a26 p1),(5,I x1),(9,B (neI x1 0))] [] 13) (gC 9 (neI x1 0) ?_ ?_))
 ·exact zF 0 3 (mkE [(4,I x1)] [] 13)
 ·refine gK (zP (zR 0 4 (sg 1 (mkE [(11,LL a26 p1),(1,LL a26 p1),(5,I x1),(9,B (neI x1 0))] [] 13) (co 12 [] (h21 p1) (fun x2=>?_)))))
  exact zE (mkE [(4,I x2)] [] 13)
theorem F46(m:Nat)(hm:6≤m)(p0:(List S39))(p1:(List S26)):callA Tryz.prog cfg m 46 [LL a39 p0,LL a26 p1]=(T46 p0 p1).map I:=by
 obtain⟨q,rfl⟩:=sucK hm
 exact(callA_body (fn:=Tryz.f46) (c:=body_ Tryz.f46) q _ (by kernel_rfl) (by kernel_rfl) (by kernel_rfl)).trans (B46 _ (fun p0=>F21 q (by omega) p0) (fun p0=>F99 q (by omega) p0) p0 p1)
noncomputable def T47(p0:Int):Option Int:=((T75 p0).bind fun x1=>(bif (!x1)then(some 1)else(some 0)))
theorem B47(C:Callee)(h75:H75 C)(p0:Int):rB C 47 Tryz.f47 (frame0 [I p0] 6 false) ((T47 p0).map I):=by
 unfold T47
 refine zS 1 0 (mkE [(0,I p0)] [] 6) (gS 3 (zR 0 1 (sg 1 (mkE [(3,I p0),(0,I p0)] [] 6) (co 4 [] (h75 p0) (fun x1=>?_)))))
 refine zN (mkE [(5,B (!x1))] [] 6) (gC 5 (!x1) ?_ ?_)
 ·exact zF 0 2 (mkE [(2,I 1)] [] 6)
 ·exact gK (zP (zF 0 3 (mkE [(2,I 0)] [] 6)))
theorem F47(m:Nat)(hm:2≤m)(p0:Int):callA Tryz.prog cfg m 47 [I p0]=(T47 p0).map I:=by
 obtain⟨q,rfl⟩:=sucK hm
 exact(callA_body (fn:=Tryz.f47) (c:=body_ Tryz.f47) q _ (by kernel_rfl) (by kernel_rfl) (by kernel_rfl)).trans (B47 _ (fun p0=>F75 q (by omega) p0) p0)
noncomputable def T123(p0:S39)(p1_c0:ByteArray)(p2_c0:ByteArray)(p2_c1:ByteArray)(p2_c2:Int)(p2_c3:(List ByteArray))(p2_c4:Int)(p2_c5:Int)(p2_c6:Int)(p2_c7:(List S43))(p2_c8:ByteArray):Option Bool:=(bif (eqS p0.f0 p1_c0)then(bif (eqS p0.f1 p2_c1)then((T122 p0 (S39.mk p2_c0 p2_c1 p2_c2 p2_c3 p2_c4 p2_c5 p2_c6 p2_c7 p2_c8)).bind fun x1=>(some (ltI x1 0)))else(some false))else(some false))
theorem B123(C:Callee)(h122:H122 C)(p0:S39)(p1_c0:ByteArray)(p2_c0:ByteArray)(p2_c1:ByteArray)(p2_c2:Int)(p2_c3:(List ByteArray))(p2_c4:Int)(p2_c5:Int)(p2_c6:Int)(p2_c7:(List S43))(p2_c8:ByteArray):rB C 123 Tryz.f123 (frame0 [a39 p0,.ia [S p1_c0] 0,.ia [S p2_c0,S p2_c1,I p2_c2,LL S p2_c3,I p2_c4,I p2_c5,I p2_c6,LL a43 p2_c7,S p2_c8] 0] 22 false) ((T123 p0 p1_c0 p2_c0 p2_c1 p2_c2 p2_c3 p2_c4 p2_c5 p2_c6 p2_c7 p2_c8).map B):=by
 unfold T123
 let s_0:List (Nat×AV):=[(16,B (eqS p0.f1 p2_c1)),(15,B (eqS p0.f1 p2_c1)),(14,B (eqS p0.f1 p2_c1)),(13,S p2_c1),(12,.ia [S p2_c0,S p2_c1,I p2_c2,LL S p2_c3,I p2_c4,I p2_c5,I p2_c6,LL a43 p2_c7,S p2_c8] 1),(11,S p0.f1),(10,.ba 24 1),(9,B true),(9,B (eqS p0.f0 p1_c0)),(8,B (eqS p0.f0 p1_c0)),(7,S p1_c0),(6,S p0.f0),(5,.ba 24 0),(1,.ia [S p1_c0] 0),(2,.ia [S p2_c0,S p2_c1,I p2_c2,LL S p2_c3,I p2_c4,I p2_c5,I p2_c6,LL a43 p2_c7,S p2_c8] 0),(3,.ba 24 0)]
 let s_1:List (Nat×AV):=[(1,.ia [S p1_c0] 0),(2,.ia [S p2_c0,S p2_c1,I p2_c2,LL S p2_c3,I p2_c4,I p2_c5,I p2_c6,LL a43 p2_c7,S p2_c8] 0),(3,.ba 24 0)]
 let o_0:List (Nat×AObj):=[(24,.box [S p0.f0,S p0.f1,I p0.f2,LL S p0.f3,I p0.f4,I p0.f5,I p0.f6,LL a43 p0.f7,S p0.f8] false)]
 refine zS 1 0 (mkE s_1 o_0 22) (zR 0 1 (sg 5 (mkE ((9,B (eqS p0.f0 p1_c0))::((8,B (eqS p0.f0 p1_c0))::((7,S p1_c0)::((6,S p0.f0)::((5,.ba 24 0)::s_1))))) o_0 22) (sb 9 (eqS p0.f0 p1_c0) ?_ ?_)))
 ·refine sg 12 (mkE s_0 o_0 22) (sb 16 (eqS p0.f1 p2_c1) ?_ ?_)
  ·refine sg 14 (mkE ((18,.agg [S p2_c0,S p2_c1,I p2_c2,LL S p2_c3,I p2_c4,I p2_c5,I p2_c6,LL a43 p2_c7,S p2_c8])::((17,a39 p0)::((16,B true)::s_0))) o_0 22) (co 19 [] (h122 p0 (S39.mk p2_c0 p2_c1 p2_c2 p2_c3 p2_c4 p2_c5 p2_c6 p2_c7 p2_c8)) (fun x1=>?_))
   exact zE (mkE [(4,B (ltI x1 0))] [] 22)
  ·exact zE (mkE [(4,B false)] [] 22)
 ·exact zE (mkE [(4,B false)] [] 22)
theorem F123(m:Nat)(hm:4≤m)(p0:S39)(p1_c0:ByteArray)(p2_c0:ByteArray)(p2_c1:ByteArray)(p2_c2:Int)(p2_c3:(List ByteArray))(p2_c4:Int)(p2_c5:Int)(p2_c6:Int)(p2_c7:(List S43))(p2_c8:ByteArray):callA Tryz.prog cfg m 123 [a39 p0,.ia [S p1_c0] 0,.ia [S p2_c0,S p2_c1,I p2_c2,LL S p2_c3,I p2_c4,I p2_c5,I p2_c6,LL a43 p2_c7,S p2_c8] 0]=(T123 p0 p1_c0 p2_c0 p2_c1 p2_c2 p2_c3 p2_c4 p2_c5 p2_c6 p2_c7 p2_c8).map B:=by
 obtain⟨q,rfl⟩:=sucK hm
 exact(callA_body (fn:=Tryz.f123) (c:=body_ Tryz.f123) q _ (by kernel_rfl) (by kernel_rfl) (by kernel_rfl)).trans (B123 _ (fun p0 p1=>F122 q (by omega) p0 p1) p0 p1_c0 p2_c0 p2_c1 p2_c2 p2_c3 p2_c4 p2_c5 p2_c6 p2_c7 p2_c8)
noncomputable def L80_2(p0:(List S39))(p1_c0:ByteArray)(p1_c1:ByteArray)(p1_c2:ByteArray)(p1_c3:Int)(p1_c4:(List ByteArray))(p1_c5:Int)(p1_c6:Int)(p1_c7:Int)(p1_c8:(List S43))(p1_c9:ByteArray)(z0:Int):Option (Int⊕((Int×Bool)⊕Int)):=(bif (ltI z0 (lenL p0))then((listAt p0 z0).bind fun x1=>((T123 x1 p1_c0 p1_c1 p1_c2 p1_c3 p1_c4 p1_c5 p1_c6 p1_c7 p1_c8 p1_c9).bind fun x2=>(bif x2 then(some (.inr (.inr z0)))else(some (.inl (addI .i64 z0 1))))))else(some (.inr (.inl (z0,(ltI z0 (lenL p0)))))))
abbrev H123(C:Callee):Prop:=∀(p0:S39)(p1_c0:ByteArray)(p2_c0:ByteArray)(p2_c1:ByteArray)(p2_c2:Int)(p2_c3:(List ByteArray))(p2_c4:Int)(p2_c5:Int)(p2_c6:Int)(p2_c7:(List S43))(p2_c8:ByteArray),C 123 [a39 p0,.ia [S p1_c0] 0,.ia [S p2_c0,S p2_c1,I p2_c2,LL S p2_c3,I p2_c4,I p2_c5,I p2_c6,LL a43 p2_c7,S p2_c8] 0]=(T123 p0 p1_c0 p2_c0 p2_c1 p2_c2 p2_c3 p2_c4 p2_c5 p2_c6 p2_c7 p2_c8).map B
theorem L80_2_ok(C:Callee)(h123:H123 C)(p0:(List S39))(p1_c0:ByteArray)(p1_c1:ByteArray)(p1_c2:ByteArray)(p1_c3:Int)(p1_c4:(List ByteArray))(p1_c5:Int)(p1_c6:Int)(p1_c7:Int)(p1_c8:(List S43))(p1_c9:ByteArray)(z0:Int):rL C 80 Tryz.f80 2 [false,false,true,false,true] (fun z0:Int=>(mkE [(0,LL a39 p0),(1,.fn 123 [.ia [S p1_c0] 0,.ia [S p1_c1,S p1_c2,I p1_c3,LL S p1_c4,I p1_c5,I p1_c6,I p1_c7,LL a43 p1_c8,S p1_c9] 0]),(7,I (lenL p0)),(8,I z0)] [] 19)) (Sum.elim (fun(x:(Int×Bool))=>(.exit 0,(mkE [(0,LL a39 p0),(1,.fn 123 [.ia [S p1_c0] 0,.ia [S p1_c1,S p1_c2,I p1_c3,LL S p1_c4,I p1_c5,I p1_c6,I p1_c7,LL a43 p1_c8,S p1_c9] 0]),(7,I (lenL p0)),(8,I x.1),(9,B x.2)] [] 19))) (fun(x:Int)=>(.ret,(mkE [(4,I x)] [] 19)))) (L80_2 p0 p1_c0 p1_c1 p1_c2 p1_c3 p1_c4 p1_c5 p1_c6 p1_c7 p1_c8 p1_c9 z0) z0:=by
 unfold L80_2
 let s_0:List (Nat×AV):=[(0,LL a39 p0),(1,.fn 123 [.ia [S p1_c0] 0,.ia [S p1_c1,S p1_c2,I p1_c3,LL S p1_c4,I p1_c5,I p1_c6,I p1_c7,LL a43 p1_c8,S p1_c9] 0])]
 let s_1:List (Nat×AV):=[(13,I z0),(12,LL a39 p0),(11,.fn 123 [.ia [S p1_c0] 0,.ia [S p1_c1,S p1_c2,I p1_c3,LL S p1_c4,I p1_c5,I p1_c6,I p1_c7,LL a43 p1_c8,S p1_c9] 0])]
 refine zS 0 2 (mkE (s_0.append ((7,I (lenL p0))::((8,I z0)::[(9,B (ltI z0 (lenL p0)))]))) [] 19) (gS 3 (gC 9 (ltI z0 (lenL p0)) ?_ ?_))
 ·refine gK (zP (gS 6 (gB 1 (zS 4 3 (mkE (s_0.append ((5,I z0)::((7,I (lenL p0))::[(8,I z0)]))) [] 19) (zR 0 4 (sg 3 (mkE (s_1.append (s_0.append ((5,I z0)::((7,I (lenL p0))::[(8,I z0)])))) [] 19) (vo 14 (addrE 22 40 9 a39 .i64 p0 z0) (fun x1=>?_))))))))
  refine sg 5 (mkE ((15,a39 x1)::((14,.ia [S x1.f0,S x1.f1,I x1.f2,LL S x1.f3,I x1.f4,I x1.f5,I x1.f6,LL a43 x1.f7,S x1.f8] 0)::(s_1.append (s_0.append ((5,I z0)::((7,I (lenL p0))::[(8,I z0)])))))) [] 19) (co 16 [] (h123 x1 p1_c0 p1_c1 p1_c2 p1_c3 p1_c4 p1_c5 p1_c6 p1_c7 p1_c8 p1_c9) (fun x2=>?_))
  refine zN (mkE (s_0.append ((5,I z0)::((7,I (lenL p0))::((8,I z0)::[(16,B x2)])))) [] 19) (gC 16 x2 ?_ ?_)
  ·exact zF 0 5 (mkE [(4,I z0)] [] 19)
  ·exact gK (pB (zP (gR 6 (rg Tryz.f80 6) (se (mkE (s_0.append ((7,I (lenL p0))::[(8,I (addI .i64 z0 1))])) [] 19) (pL)))))
 ·exact gX 0 (pL)
noncomputable def T80(p0:(List S39))(p1_c0:ByteArray)(p1_c1:ByteArray)(p1_c2:ByteArray)(p1_c3:Int)(p1_c4:(List ByteArray))(p1_c5:Int)(p1_c6:Int)(p1_c7:Int)(p1_c8:(List S43))(p1_c9:ByteArray):Option Int:=((iter (L80_2 p0 p1_c0 p1_c1 p1_c2 p1_c3 p1_c4 p1_c5 p1_c6 p1_c7 p1_c8 p1_c9) 0).bind fun y3=>(Sum.elim (fun y3a=>(some (-1))) (fun y3b=>(some y3b)) y3))
theorem B80(C:Callee)(h123:H123 C)(p0:(List S39))(p1_c0:ByteArray)(p1_c1:ByteArray)(p1_c2:ByteArray)(p1_c3:Int)(p1_c4:(List ByteArray))(p1_c5:Int)(p1_c6:Int)(p1_c7:Int)(p1_c8:(List S43))(p1_c9:ByteArray):rB C 80 Tryz.f80 (frame0 [LL a39 p0,.fn 123 [.ia [S p1_c0] 0,.ia [S p1_c1,S p1_c2,I p1_c3,LL S p1_c4,I p1_c5,I p1_c6,I p1_c7,LL a43 p1_c8,S p1_c9] 0]] 19 false) ((T80 p0 p1_c0 p1_c1 p1_c2 p1_c3 p1_c4 p1_c5 p1_c6 p1_c7 p1_c8 p1_c9).map I):=by
 unfold T80
 let s_0:List (Nat×AV):=[(0,LL a39 p0),(1,.fn 123 [.ia [S p1_c0] 0,.ia [S p1_c1,S p1_c2,I p1_c3,LL S p1_c4,I p1_c5,I p1_c6,I p1_c7,LL a43 p1_c8,S p1_c9] 0])]
 refine zS 1 0 (mkE s_0 [] 19) (gS 7 (zR 2 1 (sg 1 (mkE ((6,LL a39 p0)::s_0) [] 19) (eo 7 (I (lenL p0)) (lenE 22 a39 p0) (zN (mkE (s_0.append ((7,I (lenL p0))::[(8,I 0)])) [] 19) (gB 0 (lo [(0,none),(1,none),(7,none),(8,none)] [] (L80_2 p0 p1_c0 p1_c1 p1_c2 p1_c3 p1_c4 p1_c5 p1_c6 p1_c7 p1_c8 p1_c9) (fun z0:Int=>(mkE (s_0.append ((7,I (lenL p0))::[(8,I z0)])) [] 19)) (Sum.elim (fun(x:(Int×Bool))=>(.exit 0,(mkE (s_0.append ((7,I (lenL p0))::((8,I x.1)::[(9,B x.2)]))) [] 19))) (fun(x:Int)=>(.ret,(mkE [(4,I x)] [] 19)))) 0 (fun z=>L80_2_ok C h123 p0 p1_c0 p1_c1 p1_c2 p1_c3 p1_c4 p1_c5 p1_c6 p1_c7 p1_c8 p1_c9 z) ?_)))))))
 intro y3
 refine ss y3 (Z:=(Sum.elim (fun(x:(Int×Bool))=>(.exit 0,(mkE (s_0.append ((7,I (lenL p0))::((8,I x.1)::[(9,B x.2)]))) [] 19))) (fun(x:Int)=>(.ret,(mkE [(4,I x)] [] 19))))) (fun y3a=>?_) (fun y3b=>?_)
 ·exact pH (zP (zF 0 7 (mkE [(4,I (-1))] [] 19)))
 ·exact pL
theorem F80(m:Nat)(hm:5≤m)(p0:(List S39))(p1_c0:ByteArray)(p1_c1:ByteArray)(p1_c2:ByteArray)(p1_c3:Int)(p1_c4:(List ByteArray))(p1_c5:Int)(p1_c6:Int)(p1_c7:Int)(p1_c8:(List S43))(p1_c9:ByteArray):callA Tryz.prog cfg m 80 [LL a39 p0,.fn 123 [.ia [S p1_c0] 0,.ia [S p1_c1,S p1_c2,I p1_c3,LL S p1_c4,I p1_c5,I p1_c6,I p1_c7,LL a43 p1_c8,S p1_c9] 0]]=(T80 p0 p1_c0 p1_c1 p1_c2 p1_c3 p1_c4 p1_c5 p1_c6 p1_c7 p1_c8 p1_c9).map I:=by
 obtain⟨q,rfl⟩:=sucK hm
 exact(callA_body (fn:=Tryz.f80) (c:=body_ Tryz.f80) q _ (by kernel_rfl) (by kernel_rfl) (by kernel_rfl)).trans (B80 _ (fun p0 p1_c0 p2_c0 p2_c1 p2_c2 p2_c3 p2_c4 p2_c5 p2_c6 p2_c7 p2_c8=>F123 q (by omega) p0 p1_c0 p2_c0 p2_c1 p2_c2 p2_c3 p2_c4 p2_c5 p2_c6 p2_c7 p2_c8) p0 p1_c0 p1_c1 p1_c2 p1_c3 p1_c4 p1_c5 p1_c6 p1_c7 p1_c8 p1_c9)
noncomputable def T100(p0:(List S39))(p1:S39)(p2:ByteArray):Option Int:=((T80 p0 p2 p1.f0 p1.f1 p1.f2 p1.f3 p1.f4 p1.f5 p1.f6 p1.f7 p1.f8).bind fun x1=>(some x1))
theorem B100(C:Callee)(h80:∀(p0:(List S39))(p1_c0:ByteArray)(p1_c1:ByteArray)(p1_c2:ByteArray)(p1_c3:Int)(p1_c4:(List ByteArray))(p1_c5:Int)(p1_c6:Int)(p1_c7:Int)(p1_c8:(List S43))(p1_c9:ByteArray),C 80 [LL a39 p0,.fn 123 [.ia [S p1_c0] 0,.ia [S p1_c1,S p1_c2,I p1_c3,LL S p1_c4,I p1_c5,I p1_c6,I p1_c7,LL a43 p1_c8,S p1_c9] 0]]=(T80 p0 p1_c0 p1_c1 p1_c2 p1_c3 p1_c4 p1_c5 p1_c6 p1_c7 p1_c8 p1_c9).map I)(p0:(List S39))(p1:S39)(p2:ByteArray):rB C 100 Tryz.f100 (frame0 [LL a39 p0,a39 p1,S p2] 10 false) ((T100 p0 p1 p2).map I):=by
 unfold T100
 let o_0:List (Nat×AObj):=[(32,.box [S p1.f0,S p1.f1,I p1.f2,LL S p1.f3,I p1.f4,I p1.f5,I p1.f6,LL a43 p1.f7,S p1.f8] false),(40,.box [S p2] false)]
 refine zS 1 0 (mkE [(0,LL a39 p0),(4,.ba 32 0),(5,.ba 40 0)] o_0 10) (zR 0 1 (sg 2 (mkE [(8,.fn 123 [.ba 40 0,.ba 32 0]),(7,LL a39 p0),(0,LL a39 p0),(4,.ba 32 0),(5,.ba 40 0)] o_0 10) (co 9 [40,32] (h80 p0 p2 p1.f0 p1.f1 p1.f2 p1.f3 p1.f4 p1.f5 p1.f6 p1.f7 p1.f8) (fun x1=>?_))))
 exact zE (mkE [(6,I x1)] [] 10)
theorem F100(m:Nat)(hm:6≤m)(p0:(List S39))(p1:S39)(p2:ByteArray):callA Tryz.prog cfg m 100 [LL a39 p0,a39 p1,S p2]=(T100 p0 p1 p2).map I:=by
 obtain⟨q,rfl⟩:=sucK hm
 exact(callA_body (fn:=Tryz.f100) (c:=body_ Tryz.f100) q _ (by kernel_rfl) (by kernel_rfl) (by kernel_rfl)).trans (B100 _ (fun p0 p1_c0 p1_c1 p1_c2 p1_c3 p1_c4 p1_c5 p1_c6 p1_c7 p1_c8 p1_c9=>F80 q (by omega) p0 p1_c0 p1_c1 p1_c2 p1_c3 p1_c4 p1_c5 p1_c6 p1_c7 p1_c8 p1_c9) p0 p1 p2)
noncomputable def L48_3(p0:(List S39))(z0:((List Int)×Int)):Option (((List Int)×Int)⊕(Int×Bool×(List Int))):=(bif (ltI z0.2 (lenL p0))then((listAt p0 z0.2).bind fun x1=>((appO 8 z0.1 ([x1.f5]:List Int)).bind fun x2=>(some (.inl (x2,(addI .i64 z0.2 1))))))else(some (.inr (z0.2,(ltI z0.2 (lenL p0)),z0.1))))
theorem L48_3_ok(C:Callee)(p0:(List S39))(z0:((List Int)×Int)):rL C 48 Tryz.f48 3 [false,false,true,false,true,true] (fun z0:((List Int)×Int)=>(mkE [(0,LL a39 p0),(3,.own 24 0),(11,LL a39 p0),(12,I (lenL p0)),(13,I z0.2)] [(24,RR 3 1 I z0.1 0 false)] 55)) (fun(x:(Int×Bool×(List Int)))=>(.exit 0,(mkE [(0,LL a39 p0),(3,.own 24 0),(11,LL a39 p0),(12,I (lenL p0)),(13,I x.1),(14,B x.2.1)] [(24,RR 3 1 I x.2.2 0 false)] 55))) (L48_3 p0 z0) z0:=by
 unfold L48_3
 let s_0:List (Nat×AV):=[(11,LL a39 p0),(12,I (lenL p0)),(13,I z0.2)]
 refine zS 0 3 (mkE ((0,LL a39 p0)::((3,.own 24 0)::(s_0.append [(14,B (ltI z0.2 (lenL p0)))]))) [(24,RR 3 1 I z0.1 0 false)] 55) (gS 4 (gC 14 (ltI z0.2 (lenL p0)) ?_ ?_))
 ·refine gK (zP (gS 6 (gB 1 (zR 5 4 (vo 15 (addrE 22 40 9 a39 .i64 p0 z0.2) (fun x1=>?_))))))
  refine zN (mkE ((0,LL a39 p0)::((3,.own 24 0)::((5,.ba 40 0)::s_0))) [(24,RR 3 1 I z0.1 0 false),(40,.box [S x1.f0,S x1.f1,I x1.f2,LL S x1.f3,I x1.f4,I x1.f5,I x1.f6,LL a43 x1.f7,S x1.f8] false)] 55) (gR 5 (rg Tryz.f48 5) (sg 4 (mkE ((20,.own 160 0)::((19,I x1.f5)::((18,.ba 40 5)::((17,.own 24 0)::((0,LL a39 p0)::((3,.own 24 0)::((5,.ba 40 0)::s_0))))))) [(160,RR 3 1 I ([x1.f5]:List Int) 0 false),(24,RR 3 1 I z0.1 0 false),(40,.box [S x1.f0,S x1.f1,I x1.f2,LL S x1.f3,I x1.f4,I x1.f5,I x1.f6,LL a43 x1.f7,S x1.f8] false)] 55) (mo (some 21) (apO 92 3 1 8 24 I 0 [160] (y:= .own 160 0) (l2:=([x1.f5]:List Int))) (fun x2=>?_))))
  exact se (mkE ((0,LL a39 p0)::((3,.own 24 1)::s_0)) [(24,RR 3 1 I x2 1 false)] 55) (pB (zP (gR 6 (rg Tryz.f48 6) (se (mkE [(0,LL a39 p0),(3,.own 24 1),(11,LL a39 p0),(12,I (lenL p0)),(13,I (addI .i64 z0.2 1))] [(24,RR 3 1 I x2 1 false)] 55) (pL)))))
 ·exact gX 0 (pL)
noncomputable def L48_11(p0:(List S39))(z1:((List Int)×Int))(x4:S39)(z2:((List Int)×Int)):Option (((List Int)×Int)⊕(Int×Bool×(List Int))):=(bif (ltI z2.2 (lenL x4.f3))then((listAt x4.f3 z2.2).bind fun x5=>((T100 p0 x4 x5).bind fun x6=>(bif (leI 0 x6)then((idxO (List.length z2.1) x6).bind fun x7=>((getN z2.1 x7).bind fun x8=>((idxO (List.length z2.1) x6).bind fun x9=>((getN z2.1 x9).bind fun x10=>(some (.inl ((List.set z2.1 x9 (minI x8 x4.f4)),(addI .i64 z2.2 1))))))))else(some (.inl (z2.1,(addI .i64 z2.2 1)))))))else(some (.inr (z2.2,(ltI z2.2 (lenL x4.f3)),z2.1))))
abbrev H100(C:Callee):Prop:=∀(p0:(List S39))(p1:S39)(p2:ByteArray),C 100 [LL a39 p0,a39 p1,S p2]=(T100 p0 p1 p2).map I
theorem L48_11_ok(C:Callee)(h100:H100 C)(p0:(List S39))(z1:((List Int)×Int))(x4:S39)(z2:((List Int)×Int)):rL C 48 Tryz.f48 11 [false,false,true,true,false,false,true,true,false,false,true,false,true,true,true] (fun z2:((List Int)×Int)=>(mkE [(0,LL a39 p0),(3,.own 24 0),(7,.ba 56 0),(23,LL a39 p0),(24,I (lenL p0)),(25,I z1.2),(30,LL S x4.f3),(31,I (lenL x4.f3)),(32,I z2.2)] [(24,RR 3 1 I z2.1 0 false),(56,.box [S x4.f0,S x4.f1,I x4.f2,LL S x4.f3,I x4.f4,I x4.f5,I x4.f6,LL a43 x4.f7,S x4.f8] false)] 55)) (fun(x:(Int×Bool×(List Int)))=>(.exit 4,(mkE [(0,LL a39 p0),(3,.own 24 0),(7,.ba 56 0),(23,LL a39 p0),(24,I (lenL p0)),(25,I z1.2),(30,LL S x4.f3),(31,I (lenL x4.f3)),(32,I x.1),(33,B x.2.1)] [(24,RR 3 1 I x.2.2 0 false),(56,.box [S x4.f0,S x4.f1,I x4.f2,LL S x4.f3,I x4.f4,I x4.f5,I x4.f6,LL a43 x4.f7,S x4.f8] false)] 55))) (L48_11 p0 z1 x4 z2) z2:=by
 unfold L48_11
 let s_0:List (Nat×AV):=[(23,LL a39 p0),(24,I (lenL p0)),(25,I z1.2),(30,LL S x4.f3),(31,I (lenL x4.f3))]
 let s_1:List (Nat×AV):=[(0,LL a39 p0),(3,.own 24 0),(7,.ba 56 0)]
 let o_0:List (Nat×AObj):=[(24,RR 3 1 I z2.1 0 false),(56,.box [S x4.f0,S x4.f1,I x4.f2,LL S x4.f3,I x4.f4,I x4.f5,I x4.f6,LL a43 x4.f7,S x4.f8] false)]
 refine zS 0 11 (mkE (s_1.append (s_0.append ((32,I z2.2)::[(33,B (ltI z2.2 (lenL x4.f3)))]))) o_0 55) (gS 12 (gC 33 (ltI z2.2 (lenL x4.f3)) ?_ ?_))
 ·refine gK (zP (gS 16 (gB 5 (zR 13 12 (vo 34 (addrE 37 9 1 S .i64 x4.f3 z2.2) (fun x5=>?_))))))
  refine zN (mkE (s_1.append ((9,S x5)::(s_0.append [(32,I z2.2)]))) o_0 55) (zR 14 13 (sg 3 (mkE ((38,S x5)::((37,a39 x4)::((36,LL a39 p0)::(s_1.append ((9,S x5)::(s_0.append [(32,I z2.2)])))))) o_0 55) (co 39 [] (h100 p0 x4 x5) (fun x6=>?_))))
  refine zN (mkE (s_1.append ((10,I x6)::(s_0.append [(32,I z2.2)]))) o_0 55) (zS 0 14 (mkE (s_1.append ((10,I x6)::(s_0.append ((32,I z2.2)::[(41,B (leI 0 x6))])))) o_0 55) (gC 41 (leI 0 x6) ?_ ?_))
  ·refine gD 15 10 (rg Tryz.f48 15) [0,1,2,3,4,5,6,7,8,9,10] (dg 4 [(some 42,qe (.own 24 0)),(some 43,qe (I x6)),(some 44,qe (.own 24 0)),(some 45,qe (I x6))] (dv 46 (mkE ((45,I x6)::((44,.own 24 0)::(s_1.append ((10,I x6)::(s_0.append ((32,I z2.2)::[(41,B (leI 0 x6))])))))) o_0 55) (addrOE 92 3 1 24 0 false I .i64 z2.1 x6) (fun x7=>?_)))
   refine dv 47 (mkE ((46,.oa 24 0 x7 0)::((45,I x6)::((44,.own 24 0)::(s_1.append ((10,I x6)::(s_0.append ((32,I z2.2)::[(41,B (leI 0 x6))]))))))) o_0 55) (loadOE 3 24 0 x7 0 3 1 1 false false I (fun q:Int=>I q) z2.1) (fun x8=>?_)
   refine dg 9 [(some 42,qe (.own 24 0)),(some 43,qe (I x6)),(some 44,qe (.own 24 0)),(some 45,qe (I x6)),(some 46,qe (.oa 24 0 x7 0)),(some 47,qe (I x8)),(some 48,qe (.ba 56 4)),(some 49,qe (I x4.f4)),(some 50,qe (I (minI x8 x4.f4)))] (dv 51 (mkE ((50,I (minI x8 x4.f4))::((49,I x4.f4)::((48,.ba 56 4)::((47,I x8)::((46,.oa 24 0 x7 0)::((45,I x6)::((44,.own 24 0)::((43,I x6)::((42,.own 24 0)::(s_1.append ((10,I x6)::(s_0.append ((32,I z2.2)::[(41,B (leI 0 x6))]))))))))))))) o_0 55) (addrOE 92 3 1 24 0 false I .i64 z2.1 x6) (fun x9=>?_))
   refine de (mkE ((51,.oa 24 0 x9 0)::((50,I (minI x8 x4.f4))::((49,I x4.f4)::((48,.ba 56 4)::((47,I x8)::((46,.oa 24 0 x7 0)::((45,I x6)::((44,.own 24 0)::((43,I x6)::((42,.own 24 0)::(s_1.append ((10,I x6)::(s_0.append ((32,I z2.2)::[(41,B (leI 0 x6))])))))))))))))) o_0 55) (mo none (stO 3 1 24 0 x9 0 I z2.1 [] [I (minI x8 x4.f4)] (I (minI x8 x4.f4)) (fun q:Int=>(minI x8 x4.f4)) 3 (.tmp 51) (.tmp 50) 1) (fun x10=>?_))
   exact se (mkE (s_1.append (s_0.append [(32,I z2.2)])) [(24,RR 3 1 I (List.set z2.1 x9 (minI x8 x4.f4)) 0 false),(56,.box [S x4.f0,S x4.f1,I x4.f2,LL S x4.f3,I x4.f4,I x4.f5,I x4.f6,LL a43 x4.f7,S x4.f8] false)] 55) (pB (zP (gR 16 (rg Tryz.f48 16) (se (mkE (s_1.append (s_0.append [(32,I (addI .i64 z2.2 1))])) [(24,RR 3 1 I (List.set z2.1 x9 (minI x8 x4.f4)) 0 false),(56,.box [S x4.f0,S x4.f1,I x4.f2,LL S x4.f3,I x4.f4,I x4.f5,I x4.f6,LL a43 x4.f7,S x4.f8] false)] 55) (pL)))))
  ·exact gK (pB (zP (gR 16 (rg Tryz.f48 16) (se (mkE (s_1.append (s_0.append [(32,I (addI .i64 z2.2 1))])) o_0 55) (pL)))))
 ·exact gX 4 (pL)
noncomputable def L48_8(p0:(List S39))(z1:((List Int)×Int)):Option (((List Int)×Int)⊕(Int×Bool×(List Int))):=(bif (ltI z1.2 (lenL p0))then((listAt p0 z1.2).bind fun x4=>((iter (L48_11 p0 z1 x4) (z1.1,0)).bind fun y11=>(some (.inl (y11.2.2,(addI .i64 z1.2 1))))))else(some (.inr (z1.2,(ltI z1.2 (lenL p0)),z1.1))))
theorem L48_8_ok(C:Callee)(h100:H100 C)(p0:(List S39))(z1:((List Int)×Int)):rL C 48 Tryz.f48 8 [false,false,true,false,true,true,true] (fun z1:((List Int)×Int)=>(mkE [(0,LL a39 p0),(3,.own 24 0),(23,LL a39 p0),(24,I (lenL p0)),(25,I z1.2)] [(24,RR 3 1 I z1.1 0 false)] 55)) (fun(x:(Int×Bool×(List Int)))=>(.exit 2,(mkE [(0,LL a39 p0),(3,.own 24 0),(23,LL a39 p0),(24,I (lenL p0)),(25,I x.1),(26,B x.2.1)] [(24,RR 3 1 I x.2.2 0 false)] 55))) (L48_8 p0 z1) z1:=by
 unfold L48_8
 let s_0:List (Nat×AV):=[(0,LL a39 p0),(3,.own 24 0),(7,.ba 56 0),(23,LL a39 p0),(24,I (lenL p0)),(25,I z1.2)]
 refine zS 0 8 (mkE [(0,LL a39 p0),(3,.own 24 0),(23,LL a39 p0),(24,I (lenL p0)),(25,I z1.2),(26,B (ltI z1.2 (lenL p0)))] [(24,RR 3 1 I z1.1 0 false)] 55) (gS 9 (gC 26 (ltI z1.2 (lenL p0)) ?_ ?_))
 ·refine gK (zP (gS 17 (gB 3 (zR 10 9 (vo 27 (addrE 22 40 9 a39 .i64 p0 z1.2) (fun x4=>?_))))))
  refine zN (mkE s_0 [(24,RR 3 1 I z1.1 0 false),(56,.box [S x4.f0,S x4.f1,I x4.f2,LL S x4.f3,I x4.f4,I x4.f5,I x4.f6,LL a43 x4.f7,S x4.f8] false)] 55) (zR 11 10 (sg 2 (mkE ((30,LL S x4.f3)::((29,.ba 56 3)::s_0)) [(24,RR 3 1 I z1.1 0 false),(56,.box [S x4.f0,S x4.f1,I x4.f2,LL S x4.f3,I x4.f4,I x4.f5,I x4.f6,LL a43 x4.f7,S x4.f8] false)] 55) (eo 31 (I (lenL x4.f3)) (lenE 37 S x4.f3) (zN (mkE (s_0.append ((30,LL S x4.f3)::((31,I (lenL x4.f3))::[(32,I 0)]))) [(24,RR 3 1 I z1.1 0 false),(56,.box [S x4.f0,S x4.f1,I x4.f2,LL S x4.f3,I x4.f4,I x4.f5,I x4.f6,LL a43 x4.f7,S x4.f8] false)] 55) (gB 4 (lo [(0,none),(3,some (3,1)),(7,none),(23,none),(24,none),(25,none),(30,none),(31,none),(32,none)] [] (L48_11 p0 z1 x4) (fun z2:((List Int)×Int)=>(mkE (s_0.append ((30,LL S x4.f3)::((31,I (lenL x4.f3))::[(32,I z2.2)]))) [(24,RR 3 1 I z2.1 0 false),(56,.box [S x4.f0,S x4.f1,I x4.f2,LL S x4.f3,I x4.f4,I x4.f5,I x4.f6,LL a43 x4.f7,S x4.f8] false)] 55)) (fun(x:(Int×Bool×(List Int)))=>(.exit 4,(mkE (s_0.append ((30,LL S x4.f3)::((31,I (lenL x4.f3))::((32,I x.1)::[(33,B x.2.1)])))) [(24,RR 3 1 I x.2.2 0 false),(56,.box [S x4.f0,S x4.f1,I x4.f2,LL S x4.f3,I x4.f4,I x4.f5,I x4.f6,LL a43 x4.f7,S x4.f8] false)] 55))) (z1.1,0) (fun z=>L48_11_ok C h100 p0 z1 x4 z) ?_))))))
  intro y11
  exact pH (pB (zP (gR 17 (rg Tryz.f48 17) (se (mkE [(0,LL a39 p0),(3,.own 24 0),(23,LL a39 p0),(24,I (lenL p0)),(25,I (addI .i64 z1.2 1))] [(24,RR 3 1 I y11.2.2 0 false)] 55) (pL)))))
 ·exact gX 2 (pL)
noncomputable def T48(p0:(List S39)):Option (List Int):=((iter (L48_3 p0) ([],0)).bind fun y3=>((iter (L48_8 p0) (y3.2.2,0)).bind fun y12=>(some y12.2.2)))
theorem B48(C:Callee)(h100:H100 C)(p0:(List S39)):rB C 48 Tryz.f48 (frame0 [LL a39 p0] 55 false) ((T48 p0).map (fun l=>AV.fr 3 1 (List.map I l))):=by
 unfold T48
 let s_0:List (Nat×AV):=[(0,LL a39 p0),(3,.own 24 0),(11,LL a39 p0),(12,I (lenL p0))]
 let s_1:List (Nat×AV):=[(0,LL a39 p0),(3,.own 24 0),(23,LL a39 p0),(24,I (lenL p0))]
 refine zS 1 0 (mkE [(0,LL a39 p0)] [] 55) (zS 2 1 (mkE [(0,LL a39 p0),(3,.nils)] [] 55) (gS 7 (zR 3 2 (sg 1 (mkE [(11,LL a39 p0),(0,LL a39 p0),(3,.nils)] [] 55) (eo 12 (I (lenL p0)) (lenE 22 a39 p0) (zN (mkE [(0,LL a39 p0),(3,.nils),(11,LL a39 p0),(12,I (lenL p0)),(13,I 0)] [] 55) (gB 0 (lo [(0,none),(3,some (3,1)),(11,none),(12,none),(13,none)] [] (L48_3 p0) (fun z0:((List Int)×Int)=>(mkE (s_0.append [(13,I z0.2)]) [(24,RR 3 1 I z0.1 0 false)] 55)) (fun(x:(Int×Bool×(List Int)))=>(.exit 0,(mkE (s_0.append ((13,I x.1)::[(14,B x.2.1)])) [(24,RR 3 1 I x.2.2 0 false)] 55))) ([],0) (fun z=>L48_3_ok C p0 z) ?_))))))))
 intro y3
 refine pH (zP (gS 18 (zR 8 7 (sg 1 (mkE ((23,LL a39 p0)::(s_0.append ((13,I y3.1)::[(14,B y3.2.1)]))) [(24,RR 3 1 I y3.2.2 0 false)] 55) (eo 24 (I (lenL p0)) (lenE 22 a39 p0) (zN (mkE (s_1.append [(25,I 0)]) [(24,RR 3 1 I y3.2.2 0 false)] 55) (gB 2 (lo [(0,none),(3,some (3,1)),(23,none),(24,none),(25,none)] [] (L48_8 p0) (fun z1:((List Int)×Int)=>(mkE (s_1.append [(25,I z1.2)]) [(24,RR 3 1 I z1.1 0 false)] 55)) (fun(x:(Int×Bool×(List Int)))=>(.exit 2,(mkE (s_1.append ((25,I x.1)::[(26,B x.2.1)])) [(24,RR 3 1 I x.2.2 0 false)] 55))) (y3.2.2,0) (fun z=>L48_8_ok C h100 p0 z) ?_))))))))
 intro y12
 exact pH (zP (zF 0 18 (mkE [(2,.own 24 0)] [(24,RR 3 1 I y12.2.2 0 false)] 55)))
theorem F48(m:Nat)(hm:7≤m)(p0:(List S39)):callA Tryz.prog cfg m 48 [LL a39 p0]=(T48 p0).map (fun l=>AV.fr 3 1 (List.map I l)):=by
 obtain⟨q,rfl⟩:=sucK hm
 exact(callA_body (fn:=Tryz.f48) (c:=body_ Tryz.f48) q _ (by kernel_rfl) (by kernel_rfl) (by kernel_rfl)).trans (B48 _ (fun p0 p1 p2=>F100 q (by omega) p0 p1 p2) p0)
noncomputable def T83(p0:S39)(p1:Int)(p2:Int):Option Bool:=(bif (neI p0.f2 3)then(bif (leI p0.f4 p2)then(some (ltI p2 p1))else(some false))else(some false))
theorem B83(C:Callee)(p0:S39)(p1:Int)(p2:Int):rB C 83 Tryz.f83 (frame0 [a39 p0,I p1,I p2] 21 false) ((T83 p0 p1 p2).map B):=by
 unfold T83
 let o_0:List (Nat×AObj):=[(24,.box [S p0.f0,S p0.f1,I p0.f2,LL S p0.f3,I p0.f4,I p0.f5,I p0.f6,LL a43 p0.f7,S p0.f8] false)]
 refine zS 1 0 (mkE [(1,I p1),(2,I p2),(3,.ba 24 0)] o_0 21) (zR 0 1 (sg 4 (mkE [(10,B (neI p0.f2 3)),(9,B (neI p0.f2 3)),(8,I p0.f2),(7,.ba 24 2),(1,I p1),(2,I p2),(3,.ba 24 0)] o_0 21) (sb 10 (neI p0.f2 3) ?_ ?_)))
 ·refine sg 10 (mkE [(16,B (leI p0.f4 p2)),(15,B (leI p0.f4 p2)),(14,B (leI p0.f4 p2)),(13,I p2),(12,I p0.f4),(11,.ba 24 4),(10,B true),(10,B (neI p0.f2 3)),(9,B (neI p0.f2 3)),(8,I p0.f2),(7,.ba 24 2),(1,I p1),(2,I p2),(3,.ba 24 0)] o_0 21) (sb 16 (leI p0.f4 p2) ?_ ?_)
  ·exact zE (mkE [(6,B (ltI p2 p1))] [] 21)
  ·exact zE (mkE [(6,B false)] [] 21)
 ·exact zE (mkE [(6,B false)] [] 21)
theorem F83(m:Nat)(hm:1≤m)(p0:S39)(p1:Int)(p2:Int):callA Tryz.prog cfg m 83 [a39 p0,I p1,I p2]=(T83 p0 p1 p2).map B:=by
 obtain⟨q,rfl⟩:=sucK hm
 exact(callA_body (fn:=Tryz.f83) (c:=body_ Tryz.f83) q _ (by kernel_rfl) (by kernel_rfl) (by kernel_rfl)).trans (B83 _ p0 p1 p2)
noncomputable def T109(p0:S43)(p1_c0:ByteArray)(p1_c1:Int)(p1_c2:Int):Option Bool:=(bif (leI p0.f0 p1_c1)then(bif (ltI p1_c1 (addI .i64 p0.f0 p0.f2))then(bif (leI p0.f1 p1_c2)then(some (ltI p1_c2 (addI .i64 p0.f1 p0.f3)))else(some false))else(some false))else(some false))
theorem B109(C:Callee)(p0:S43)(p1_c0:ByteArray)(p1_c1:Int)(p1_c2:Int):rB C 109 Tryz.f109 (frame0 [a43 p0,.ia [S p1_c0,I p1_c1,I p1_c2] 0] 36 false) ((T109 p0 p1_c0 p1_c1 p1_c2).map B):=by
 unfold T109
 let s_0:List (Nat×AV):=[(19,B (ltI p1_c1 (addI .i64 p0.f0 p0.f2))),(18,B (ltI p1_c1 (addI .i64 p0.f0 p0.f2))),(17,B (ltI p1_c1 (addI .i64 p0.f0 p0.f2))),(16,I (addI .i64 p0.f0 p0.f2)),(15,I p0.f2),(14,.ba 16 2),(13,I p0.f0),(12,.ba 16 0),(11,I p1_c1),(10,.ia [S p1_c0,I p1_c1,I p1_c2] 1),(9,B true),(9,B (leI p0.f0 p1_c1)),(8,B (leI p0.f0 p1_c1)),(7,I p1_c1),(6,.ia [S p1_c0,I p1_c1,I p1_c2] 1),(5,I p0.f0),(4,.ba 16 0),(1,.ia [S p1_c0,I p1_c1,I p1_c2] 0),(2,.ba 16 0)]
 let o_0:List (Nat×AObj):=[(16,.box [I p0.f0,I p0.f1,I p0.f2,I p0.f3] false)]
 refine zS 1 0 (mkE [(1,.ia [S p1_c0,I p1_c1,I p1_c2] 0),(2,.ba 16 0)] o_0 36) (zR 0 1 (sg 6 (mkE [(9,B (leI p0.f0 p1_c1)),(8,B (leI p0.f0 p1_c1)),(7,I p1_c1),(6,.ia [S p1_c0,I p1_c1,I p1_c2] 1),(5,I p0.f0),(4,.ba 16 0),(1,.ia [S p1_c0,I p1_c1,I p1_c2] 0),(2,.ba 16 0)] o_0 36) (sb 9 (leI p0.f0 p1_c1) ?_ ?_)))
 ·refine sg 16 (mkE s_0 o_0 36) (sb 19 (ltI p1_c1 (addI .i64 p0.f0 p0.f2)) ?_ ?_)
  ·refine sg 23 (mkE ((26,B (leI p0.f1 p1_c2))::((25,B (leI p0.f1 p1_c2))::((24,B (leI p0.f1 p1_c2))::((23,I p1_c2)::((22,.ia [S p1_c0,I p1_c1,I p1_c2] 2)::((21,I p0.f1)::((20,.ba 16 1)::((19,B true)::s_0)))))))) o_0 36) (sb 26 (leI p0.f1 p1_c2) ?_ ?_)
   ·exact zE (mkE [(3,B (ltI p1_c2 (addI .i64 p0.f1 p0.f3)))] [] 36)
   ·exact zE (mkE [(3,B false)] [] 36)
  ·exact zE (mkE [(3,B false)] [] 36)
 ·exact zE (mkE [(3,B false)] [] 36)
theorem F109(m:Nat)(hm:1≤m)(p0:S43)(p1_c0:ByteArray)(p1_c1:Int)(p1_c2:Int):callA Tryz.prog cfg m 109 [a43 p0,.ia [S p1_c0,I p1_c1,I p1_c2] 0]=(T109 p0 p1_c0 p1_c1 p1_c2).map B:=by
 obtain⟨q,rfl⟩:=sucK hm
 exact(callA_body (fn:=Tryz.f109) (c:=body_ Tryz.f109) q _ (by kernel_rfl) (by kernel_rfl) (by kernel_rfl)).trans (B109 _ p0 p1_c0 p1_c1 p1_c2)
noncomputable def L141_2(p0:(List S43))(p1_c0:ByteArray)(p1_c1:Int)(p1_c2:Int)(z0:Int):Option (Int⊕((Int×Bool)⊕Int)):=(bif (ltI z0 (lenL p0))then((listAt p0 z0).bind fun x1=>((T109 x1 p1_c0 p1_c1 p1_c2).bind fun x2=>(bif x2 then(some (.inr (.inr z0)))else(some (.inl (addI .i64 z0 1))))))else(some (.inr (.inl (z0,(ltI z0 (lenL p0)))))))
abbrev H109(C:Callee):Prop:=∀(p0:S43)(p1_c0:ByteArray)(p1_c1:Int)(p1_c2:Int),C 109 [a43 p0,.ia [S p1_c0,I p1_c1,I p1_c2] 0]=(T109 p0 p1_c0 p1_c1 p1_c2).map B
theorem L141_2_ok(C:Callee)(h109:H109 C)(p0:(List S43))(p1_c0:ByteArray)(p1_c1:Int)(p1_c2:Int)(z0:Int):rL C 141 Tryz.f141 2 [false,false,true,false,true] (fun z0:Int=>(mkE [(0,LL a43 p0),(1,.fn 109 [.ia [S p1_c0,I p1_c1,I p1_c2] 0]),(7,I (lenL p0)),(8,I z0)] [] 19)) (Sum.elim (fun(x:(Int×Bool))=>(.exit 0,(mkE [(0,LL a43 p0),(1,.fn 109 [.ia [S p1_c0,I p1_c1,I p1_c2] 0]),(7,I (lenL p0)),(8,I x.1),(9,B x.2)] [] 19))) (fun(x:Int)=>(.ret,(mkE [(4,I x)] [] 19)))) (L141_2 p0 p1_c0 p1_c1 p1_c2 z0) z0:=by
 unfold L141_2
 let s_0:List (Nat×AV):=[(0,LL a43 p0),(1,.fn 109 [.ia [S p1_c0,I p1_c1,I p1_c2] 0]),(5,I z0),(7,I (lenL p0)),(8,I z0)]
 refine zS 0 2 (mkE [(0,LL a43 p0),(1,.fn 109 [.ia [S p1_c0,I p1_c1,I p1_c2] 0]),(7,I (lenL p0)),(8,I z0),(9,B (ltI z0 (lenL p0)))] [] 19) (gS 3 (gC 9 (ltI z0 (lenL p0)) ?_ ?_))
 ·refine gK (zP (gS 6 (gB 1 (zS 4 3 (mkE s_0 [] 19) (zR 0 4 (sg 3 (mkE ((13,I z0)::((12,LL a43 p0)::((11,.fn 109 [.ia [S p1_c0,I p1_c1,I p1_c2] 0])::s_0))) [] 19) (vo 14 (addrE 38 44 4 a43 .i64 p0 z0) (fun x1=>?_))))))))
  refine sg 5 (mkE ((15,a43 x1)::((14,.ia [I x1.f0,I x1.f1,I x1.f2,I x1.f3] 0)::((13,I z0)::((12,LL a43 p0)::((11,.fn 109 [.ia [S p1_c0,I p1_c1,I p1_c2] 0])::s_0))))) [] 19) (co 16 [] (h109 x1 p1_c0 p1_c1 p1_c2) (fun x2=>?_))
  refine zN (mkE (s_0.append [(16,B x2)]) [] 19) (gC 16 x2 ?_ ?_)
  ·exact zF 0 5 (mkE [(4,I z0)] [] 19)
  ·exact gK (pB (zP (gR 6 (rg Tryz.f141 6) (se (mkE [(0,LL a43 p0),(1,.fn 109 [.ia [S p1_c0,I p1_c1,I p1_c2] 0]),(7,I (lenL p0)),(8,I (addI .i64 z0 1))] [] 19) (pL)))))
 ·exact gX 0 (pL)
noncomputable def T141(p0:(List S43))(p1_c0:ByteArray)(p1_c1:Int)(p1_c2:Int):Option Int:=((iter (L141_2 p0 p1_c0 p1_c1 p1_c2) 0).bind fun y3=>(Sum.elim (fun y3a=>(some (-1))) (fun y3b=>(some y3b)) y3))
theorem B141(C:Callee)(h109:H109 C)(p0:(List S43))(p1_c0:ByteArray)(p1_c1:Int)(p1_c2:Int):rB C 141 Tryz.f141 (frame0 [LL a43 p0,.fn 109 [.ia [S p1_c0,I p1_c1,I p1_c2] 0]] 19 false) ((T141 p0 p1_c0 p1_c1 p1_c2).map I):=by
 unfold T141
 let s_0:List (Nat×AV):=[(0,LL a43 p0),(1,.fn 109 [.ia [S p1_c0,I p1_c1,I p1_c2] 0])]
 refine zS 1 0 (mkE s_0 [] 19) (gS 7 (zR 2 1 (sg 1 (mkE ((6,LL a43 p0)::s_0) [] 19) (eo 7 (I (lenL p0)) (lenE 38 a43 p0) (zN (mkE (s_0.append ((7,I (lenL p0))::[(8,I 0)])) [] 19) (gB 0 (lo [(0,none),(1,none),(7,none),(8,none)] [] (L141_2 p0 p1_c0 p1_c1 p1_c2) (fun z0:Int=>(mkE (s_0.append ((7,I (lenL p0))::[(8,I z0)])) [] 19)) (Sum.elim (fun(x:(Int×Bool))=>(.exit 0,(mkE (s_0.append ((7,I (lenL p0))::((8,I x.1)::[(9,B x.2)]))) [] 19))) (fun(x:Int)=>(.ret,(mkE [(4,I x)] [] 19)))) 0 (fun z=>L141_2_ok C h109 p0 p1_c0 p1_c1 p1_c2 z) ?_)))))))
 intro y3
 refine ss y3 (Z:=(Sum.elim (fun(x:(Int×Bool))=>(.exit 0,(mkE (s_0.append ((7,I (lenL p0))::((8,I x.1)::[(9,B x.2)]))) [] 19))) (fun(x:Int)=>(.ret,(mkE [(4,I x)] [] 19))))) (fun y3a=>?_) (fun y3b=>?_)
 ·exact pH (zP (zF 0 7 (mkE [(4,I (-1))] [] 19)))
 ·exact pL
theorem F141(m:Nat)(hm:2≤m)(p0:(List S43))(p1_c0:ByteArray)(p1_c1:Int)(p1_c2:Int):callA Tryz.prog cfg m 141 [LL a43 p0,.fn 109 [.ia [S p1_c0,I p1_c1,I p1_c2] 0]]=(T141 p0 p1_c0 p1_c1 p1_c2).map I:=by
 obtain⟨q,rfl⟩:=sucK hm
 exact(callA_body (fn:=Tryz.f141) (c:=body_ Tryz.f141) q _ (by kernel_rfl) (by kernel_rfl) (by kernel_rfl)).trans (B141 _ (fun p0 p1_c0 p1_c1 p1_c2=>F109 q (by omega) p0 p1_c0 p1_c1 p1_c2) p0 p1_c0 p1_c1 p1_c2)
noncomputable def T108(p0:(List S43))(p1_c0:ByteArray)(p1_c1:Int)(p1_c2:Int):Option Bool:=((T141 p0 p1_c0 p1_c1 p1_c2).bind fun x1=>(some (leI 0 x1)))
theorem B108(C:Callee)(h141:∀(p0:(List S43))(p1_c0:ByteArray)(p1_c1:Int)(p1_c2:Int),C 141 [LL a43 p0,.fn 109 [.ia [S p1_c0,I p1_c1,I p1_c2] 0]]=(T141 p0 p1_c0 p1_c1 p1_c2).map I)(p0:(List S43))(p1_c0:ByteArray)(p1_c1:Int)(p1_c2:Int):rB C 108 Tryz.f108 (frame0 [LL a43 p0,.fn 109 [.ia [S p1_c0,I p1_c1,I p1_c2] 0]] 9 false) ((T108 p0 p1_c0 p1_c1 p1_c2).map B):=by
 unfold T108
 refine zS 1 0 (mkE [(0,LL a43 p0),(1,.fn 109 [.ia [S p1_c0,I p1_c1,I p1_c2] 0])] [] 9) (zR 0 1 (sg 2 (mkE [(6,.fn 109 [.ia [S p1_c0,I p1_c1,I p1_c2] 0]),(5,LL a43 p0),(0,LL a43 p0),(1,.fn 109 [.ia [S p1_c0,I p1_c1,I p1_c2] 0])] [] 9) (co 7 [] (h141 p0 p1_c0 p1_c1 p1_c2) (fun x1=>?_))))
 exact zE (mkE [(4,B (leI 0 x1))] [] 9)
theorem F108(m:Nat)(hm:3≤m)(p0:(List S43))(p1_c0:ByteArray)(p1_c1:Int)(p1_c2:Int):callA Tryz.prog cfg m 108 [LL a43 p0,.fn 109 [.ia [S p1_c0,I p1_c1,I p1_c2] 0]]=(T108 p0 p1_c0 p1_c1 p1_c2).map B:=by
 obtain⟨q,rfl⟩:=sucK hm
 exact(callA_body (fn:=Tryz.f108) (c:=body_ Tryz.f108) q _ (by kernel_rfl) (by kernel_rfl) (by kernel_rfl)).trans (B108 _ (fun p0 p1_c0 p1_c1 p1_c2=>F141 q (by omega) p0 p1_c0 p1_c1 p1_c2) p0 p1_c0 p1_c1 p1_c2)
noncomputable def T63(p0:S39)(p1:S26):Option Bool:=((T108 p0.f7 p1.f0 p1.f1 p1.f2).bind fun x1=>(some x1))
theorem B63(C:Callee)(h108:∀(p0:(List S43))(p1_c0:ByteArray)(p1_c1:Int)(p1_c2:Int),C 108 [LL a43 p0,.fn 109 [.ia [S p1_c0,I p1_c1,I p1_c2] 0]]=(T108 p0 p1_c0 p1_c1 p1_c2).map B)(p0:S39)(p1:S26):rB C 63 Tryz.f63 (frame0 [a39 p0,a26 p1] 9 false) ((T63 p0 p1).map B):=by
 unfold T63
 let o_0:List (Nat×AObj):=[(16,.box [S p0.f0,S p0.f1,I p0.f2,LL S p0.f3,I p0.f4,I p0.f5,I p0.f6,LL a43 p0.f7,S p0.f8] false),(24,.box [S p1.f0,I p1.f1,I p1.f2] false)]
 refine zS 1 0 (mkE [(2,.ba 16 0),(3,.ba 24 0)] o_0 9) (zR 0 1 (sg 3 (mkE [(7,.fn 109 [.ba 24 0]),(6,LL a43 p0.f7),(5,.ba 16 7),(2,.ba 16 0),(3,.ba 24 0)] o_0 9) (co 8 [24] (h108 p0.f7 p1.f0 p1.f1 p1.f2) (fun x1=>?_))))
 exact zE (mkE [(4,B x1)] [] 9)
theorem F63(m:Nat)(hm:4≤m)(p0:S39)(p1:S26):callA Tryz.prog cfg m 63 [a39 p0,a26 p1]=(T63 p0 p1).map B:=by
 obtain⟨q,rfl⟩:=sucK hm
 exact(callA_body (fn:=Tryz.f63) (c:=body_ Tryz.f63) q _ (by kernel_rfl) (by kernel_rfl) (by kernel_rfl)).trans (B63 _ (fun p0 p1_c0 p1_c1 p1_c2=>F108 q (by omega) p0 p1_c0 p1_c1 p1_c2) p0 p1)
noncomputable def T101(p0:S39)(p1:S39):Option Int:=((T71 p1.f6 p0.f6).bind fun x1=>((T71 p1.f4 p0.f4).bind fun x2=>((T62 p0.f0 p1.f0).bind fun x3=>((T69 ([x1,x2,x3]:List Int)).bind fun x4=>(some x4)))))
theorem B101(C:Callee)(h62:H62 C)(h69:H69 C)(h71:H71 C)(p0:S39)(p1:S39):rB C 101 Tryz.f101 (frame0 [a39 p0,a39 p1] 22 false) ((T101 p0 p1).map I):=by
 unfold T101
 let d_0:List (Option Nat×REff):=[(some 5,qe (.ba 24 6)),(some 6,qe (I p1.f6)),(some 7,qe (.ba 16 6)),(some 8,qe (I p0.f6))]
 let d_1:List (Option Nat×REff):=[(some 10,qe (.ba 24 4)),(some 11,qe (I p1.f4)),(some 12,qe (.ba 16 4)),(some 13,qe (I p0.f4))]
 let d_2:List (Option Nat×REff):=[(some 15,qe (.ba 16 0)),(some 16,qe (S p0.f0)),(some 17,qe (.ba 24 0)),(some 18,qe (S p1.f0))]
 let s_0:List (Nat×AV):=[(8,I p0.f6),(7,.ba 16 6),(6,I p1.f6),(5,.ba 24 6),(2,.ba 16 0),(3,.ba 24 0)]
 let s_1:List (Nat×AV):=[(13,I p0.f4),(12,.ba 16 4),(11,I p1.f4),(10,.ba 24 4)]
 let o_0:List (Nat×AObj):=[(16,.box [S p0.f0,S p0.f1,I p0.f2,LL S p0.f3,I p0.f4,I p0.f5,I p0.f6,LL a43 p0.f7,S p0.f8] false),(24,.box [S p1.f0,S p1.f1,I p1.f2,LL S p1.f3,I p1.f4,I p1.f5,I p1.f6,LL a43 p1.f7,S p1.f8] false)]
 refine zS 1 0 (mkE [(2,.ba 16 0),(3,.ba 24 0)] o_0 22) (gS 0 (gD 1 18 (rg Tryz.f101 1) [0,1,2,3,4,5,6,7,8,9,10,11,12,13,14,15,16,17] (dg 4 d_0 (dc 9 [] (mkE s_0 o_0 22) (h71 p1.f6 p0.f6) (fun x1=>?_)))))
 refine dg 9 (d_0.append ((some 9,qe (I x1))::d_1)) (dc 14 [] (mkE (s_1.append ((9,I x1)::s_0)) o_0 22) (h71 p1.f4 p0.f4) (fun x2=>?_))
 refine dg 14 (d_0.append ((some 9,qe (I x1))::(d_1.append ((some 14,qe (I x2))::d_2)))) (dc 19 [] (mkE ((18,S p1.f0)::((17,.ba 24 0)::((16,S p0.f0)::((15,.ba 16 0)::((14,I x2)::(s_1.append ((9,I x1)::s_0))))))) o_0 22) (h62 p0.f0 p1.f0) (fun x3=>?_))
 refine dg 16 (d_0.append ((some 9,qe (I x1))::(d_1.append ((some 14,qe (I x2))::(d_2.append ((some 19,qe (I x3))::[(some 20,{ e:={ val:= .own 160 0,news:=[(160,RR 3 1 I ([x1,x2,x3]:List Int) 0 false)] } })])))))) (dc 21 [160] (mkE ((20,.own 160 0)::((19,I x3)::((18,S p1.f0)::((17,.ba 24 0)::((16,S p0.f0)::((15,.ba 16 0)::((14,I x2)::(s_1.append ((9,I x1)::s_0))))))))) ((160,RR 3 1 I ([x1,x2,x3]:List Int) 0 false)::o_0) 22) (h69 ([x1,x2,x3]:List Int)) (fun x4=>?_))
 exact dg 18 (d_0.append ((some 9,qe (I x1))::(d_1.append ((some 14,qe (I x2))::(d_2.append ((some 19,qe (I x3))::((some 20,{ e:={ val:= .own 160 0,news:=[(160,RR 3 1 I ([x1,x2,x3]:List Int) 0 false)] } })::((some 21,qe (I x4))::[(some 4,qe (I x4))])))))))) (de (mkE ((4,I x4)::((21,I x4)::((20,.own 160 0)::((19,I x3)::((18,S p1.f0)::((17,.ba 24 0)::((16,S p0.f0)::((15,.ba 16 0)::((14,I x2)::(s_1.append ((9,I x1)::s_0))))))))))) ((160,RR 3 1 I ([x1,x2,x3]:List Int) 0 false)::o_0) 22) (zE (mkE [(4,I x4)] [] 22)))
theorem F101(m:Nat)(hm:3≤m)(p0:S39)(p1:S39):callA Tryz.prog cfg m 101 [a39 p0,a39 p1]=(T101 p0 p1).map I:=by
 obtain⟨q,rfl⟩:=sucK hm
 exact(callA_bodyQ (fn:=Tryz.f101) (c:=body_ Tryz.f101) q _ (by kernel_rfl) (by kernel_rfl) (by kernel_rfl)).trans (B101 _ (fun p0 p1=>(guard_q (by kernel_rfl) _).trans (F62 q (by omega) p0 p1)) (fun p0=>(guard_q (by kernel_rfl) _).trans (F69 q (by omega) p0)) (fun p0 p1=>(guard_q (by kernel_rfl) _).trans (F71 q (by omega) p0 p1)) p0 p1)
theorem F59(m:Nat)(hm:4≤m)(p0:(List S39)):callA Tryz.prog cfg m 59 [.fr 40 9 (List.map a39 p0),.fn 101 []]=(sortO (fun x y=>T101 x y) p0).map (fun(r:(List S39))=>AV.inp (.tup []) (.fr 40 9 (List.map a39 r))):=by
 obtain⟨q,rfl⟩:=sucK hm
 exact(callA_leaf (L:=(leafSortF Tryz.prog 40 9)) _ _ (by kernel_rfl)).trans (sortF_leaf 40 9 101 [] a39 (fun x y=>T101 x y) _ p0 (fun x y=>F101 q (by omega) x y) (fun _=>by kernel_rfl) (by kernel_rfl))
noncomputable def L49_3(p0:(List S39))(p1:(List Int))(p2:S26)(p3:Int)(z0:((List S39)×Int)):Option (((List S39)×Int)⊕(Int×Bool×(List S39))):=(bif (ltI z0.2 (lenL p0))then((listAt p0 z0.2).bind fun x1=>((listAt p1 z0.2).bind fun x2=>((T83 x1 x2 p3).bind fun x3=>(bif x3 then((T63 x1 p2).bind fun x4=>(bif x4 then((appO 128 z0.1 ([x1]:List S39)).bind fun x5=>(some (.inl (x5,(addI .i64 z0.2 1)))))else(some (.inl (z0.1,(addI .i64 z0.2 1))))))else(some (.inl (z0.1,(addI .i64 z0.2 1))))))))else(some (.inr (z0.2,(ltI z0.2 (lenL p0)),z0.1))))
abbrev H63(C:Callee):Prop:=∀(p0:S39)(p1:S26),C 63 [a39 p0,a26 p1]=(T63 p0 p1).map B
abbrev H83(C:Callee):Prop:=∀(p0:S39)(p1:Int)(p2:Int),C 83 [a39 p0,I p1,I p2]=(T83 p0 p1 p2).map B
theorem L49_3_ok(C:Callee)(h63:H63 C)(h83:H83 C)(p0:(List S39))(p1:(List Int))(p2:S26)(p3:Int)(z0:((List S39)×Int)):rL C 49 Tryz.f49 3 [false,false,true,false,true,true] (fun z0:((List S39)×Int)=>(mkE [(1,LL I p1),(3,I p3),(6,.ba 48 0),(9,.own 72 0),(12,LL a39 p0),(13,I (lenL p0)),(14,I z0.2)] [(48,.box [S p2.f0,I p2.f1,I p2.f2] false),(72,RR 40 9 a39 z0.1 0 false)] 39)) (fun(x:(Int×Bool×(List S39)))=>(.exit 0,(mkE [(1,LL I p1),(3,I p3),(6,.ba 48 0),(9,.own 72 0),(12,LL a39 p0),(13,I (lenL p0)),(14,I x.1),(15,B x.2.1)] [(48,.box [S p2.f0,I p2.f1,I p2.f2] false),(72,RR 40 9 a39 x.2.2 0 false)] 39))) (L49_3 p0 p1 p2 p3 z0) z0:=by
 unfold L49_3
 let d_0:List (Option Nat×REff):=[(some 20,qe (LL I p1)),(some 21,qe (I z0.2))]
 let s_0:List (Nat×AV):=[(1,LL I p1),(3,I p3),(6,.ba 48 0),(9,.own 72 0),(10,I z0.2),(11,.ba 88 0),(12,LL a39 p0),(13,I (lenL p0)),(14,I z0.2)]
 let s_1:List (Nat×AV):=[(1,LL I p1),(3,I p3),(6,.ba 48 0),(9,.own 72 0)]
 let s_2:List (Nat×AV):=[(12,LL a39 p0),(13,I (lenL p0))]
 let o_0:List (Nat×AObj):=[(48,.box [S p2.f0,I p2.f1,I p2.f2] false),(72,RR 40 9 a39 z0.1 0 false)]
 refine zS 0 3 (mkE (s_1.append (s_2.append ((14,I z0.2)::[(15,B (ltI z0.2 (lenL p0)))]))) o_0 39) (gS 4 (gC 15 (ltI z0.2 (lenL p0)) ?_ ?_))
 ·refine gK (zP (gS 7 (gB 1 (zR 5 4 (sg 1 (mkE ((16,I z0.2)::(s_1.append (s_2.append ((14,I z0.2)::[(15,B (ltI z0.2 (lenL p0)))])))) o_0 39) (vo 17 (addrE 22 40 9 a39 .i64 p0 z0.2) (fun x1=>?_)))))))
  refine zN (mkE s_0 (o_0.append [(88,.box [S x1.f0,S x1.f1,I x1.f2,LL S x1.f3,I x1.f4,I x1.f5,I x1.f6,LL a43 x1.f7,S x1.f8] false)]) 39) (gS 0 (gD 5 12 (rg Tryz.f49 5) [0,1,2,3,4,5,6,7,8,9,10,11] (dg 3 ((some 19,qe (a39 x1))::d_0) (dv 22 (mkE ((21,I z0.2)::((20,LL I p1)::s_0)) (o_0.append [(88,.box [S x1.f0,S x1.f1,I x1.f2,LL S x1.f3,I x1.f4,I x1.f5,I x1.f6,LL a43 x1.f7,S x1.f8] false)]) 39) (addrE 92 3 1 I .i64 p1 z0.2) (fun x2=>?_)))))
  refine dg 6 ((some 19,qe (a39 x1))::(d_0.append ((some 22,qe (.ia [I x2] 0))::((some 23,qe (I x2))::[(some 24,qe (I p3))])))) (dc 25 [] (mkE ((24,I p3)::((23,I x2)::((22,.ia [I x2] 0)::((21,I z0.2)::((20,LL I p1)::((19,a39 x1)::s_0)))))) (o_0.append [(88,.box [S x1.f0,S x1.f1,I x1.f2,LL S x1.f3,I x1.f4,I x1.f5,I x1.f6,LL a43 x1.f7,S x1.f8] false)]) 39) (h83 x1 x2 p3) (fun x3=>?_))
  refine dg 8 ((some 19,qe (a39 x1))::(d_0.append ((some 22,qe (.ia [I x2] 0))::((some 23,qe (I x2))::((some 24,qe (I p3))::((some 25,qe (B x3))::[(some 26,qe (B x3))])))))) (db 7 26 x3 ?_ ?_)
  ·refine dg 10 ((some 19,qe (a39 x1))::(d_0.append ((some 22,qe (.ia [I x2] 0))::((some 23,qe (I x2))::((some 24,qe (I p3))::((some 25,qe (B x3))::((some 26,qe (B true))::((some 27,qe (a39 x1))::[(some 28,qe (a26 p2))])))))))) (dc 29 [] (mkE ((28,a26 p2)::((27,a39 x1)::((26,B true)::((25,B x3)::((24,I p3)::((23,I x2)::((22,.ia [I x2] 0)::((21,I z0.2)::((20,LL I p1)::((19,a39 x1)::s_0)))))))))) (o_0.append [(88,.box [S x1.f0,S x1.f1,I x1.f2,LL S x1.f3,I x1.f4,I x1.f5,I x1.f6,LL a43 x1.f7,S x1.f8] false)]) 39) (h63 x1 p2) (fun x4=>?_))
   refine dg 12 ((some 19,qe (a39 x1))::(d_0.append ((some 22,qe (.ia [I x2] 0))::((some 23,qe (I x2))::((some 24,qe (I p3))::((some 25,qe (B x3))::((some 26,qe (B true))::((some 27,qe (a39 x1))::((some 28,qe (a26 p2))::((some 29,qe (B x4))::[(some 30,qe (B x4))])))))))))) (de (mkE ((30,B x4)::((29,B x4)::((28,a26 p2)::((27,a39 x1)::((26,B true)::((25,B x3)::((24,I p3)::((23,I x2)::((22,.ia [I x2] 0)::((21,I z0.2)::((20,LL I p1)::((19,a39 x1)::s_0)))))))))))) (o_0.append [(88,.box [S x1.f0,S x1.f1,I x1.f2,LL S x1.f3,I x1.f4,I x1.f5,I x1.f6,LL a43 x1.f7,S x1.f8] false)]) 39) (zN (mkE (s_1.append ((11,.ba 88 0)::(s_2.append ((14,I z0.2)::[(30,B x4)])))) (o_0.append [(88,.box [S x1.f0,S x1.f1,I x1.f2,LL S x1.f3,I x1.f4,I x1.f5,I x1.f6,LL a43 x1.f7,S x1.f8] false)]) 39) (gC 30 x4 ?_ ?_)))
   ·refine gR 6 (rg Tryz.f49 6) (sg 3 (mkE ((33,.own 264 0)::((32,a39 x1)::((31,.own 72 0)::(s_1.append ((11,.ba 88 0)::(s_2.append ((14,I z0.2)::[(30,B x4)]))))))) ((264,RR 40 9 a39 ([x1]:List S39) 0 false)::(o_0.append [(88,.box [S x1.f0,S x1.f1,I x1.f2,LL S x1.f3,I x1.f4,I x1.f5,I x1.f6,LL a43 x1.f7,S x1.f8] false)])) 39) (mo (some 34) (apO 22 40 9 128 72 a39 0 [264] (y:= .own 264 0) (l2:=([x1]:List S39))) (fun x5=>?_)))
    exact se (mkE ((1,LL I p1)::((3,I p3)::((6,.ba 48 0)::((9,.own 72 1)::(s_2.append [(14,I z0.2)]))))) [(48,.box [S p2.f0,I p2.f1,I p2.f2] false),(72,RR 40 9 a39 x5 1 false)] 39) (pB (zP (gR 7 (rg Tryz.f49 7) (se (mkE ((1,LL I p1)::((3,I p3)::((6,.ba 48 0)::((9,.own 72 1)::(s_2.append [(14,I (addI .i64 z0.2 1))]))))) [(48,.box [S p2.f0,I p2.f1,I p2.f2] false),(72,RR 40 9 a39 x5 1 false)] 39) (pL)))))
   ·exact gK (pB (zP (gR 7 (rg Tryz.f49 7) (se (mkE (s_1.append (s_2.append [(14,I (addI .i64 z0.2 1))])) o_0 39) (pL)))))
  ·exact dg 12 ((some 19,qe (a39 x1))::(d_0.append ((some 22,qe (.ia [I x2] 0))::((some 23,qe (I x2))::((some 24,qe (I p3))::((some 25,qe (B x3))::((some 26,qe (B false))::((some 27,qe (.und))::((some 28,qe (.und))::((some 29,qe (.und))::[(some 30,qe (B false))])))))))))) (de (mkE ((30,B false)::((29,.und)::((28,.und)::((27,.und)::((26,B false)::((25,B x3)::((24,I p3)::((23,I x2)::((22,.ia [I x2] 0)::((21,I z0.2)::((20,LL I p1)::((19,a39 x1)::s_0)))))))))))) (o_0.append [(88,.box [S x1.f0,S x1.f1,I x1.f2,LL S x1.f3,I x1.f4,I x1.f5,I x1.f6,LL a43 x1.f7,S x1.f8] false)]) 39) (zN (mkE (s_1.append ((11,.ba 88 0)::(s_2.append ((14,I z0.2)::[(30,B false)])))) (o_0.append [(88,.box [S x1.f0,S x1.f1,I x1.f2,LL S x1.f3,I x1.f4,I x1.f5,I x1.f6,LL a43 x1.f7,S x1.f8] false)]) 39) (gF (.tmp 30) (gK (pB (zP (gR 7 (rg Tryz.f49 7) (se (mkE (s_1.append (s_2.append [(14,I (addI .i64 z0.2 1))])) o_0 39) (pL)))))))))
 ·exact gX 0 (pL)
noncomputable def T49(p0:(List S39))(p1:(List Int))(p2:S26)(p3:Int):Option (List S39):=((iter (L49_3 p0 p1 p2 p3) ([],0)).bind fun y6=>((sortO (fun x y=>T101 x y) y6.2.2).bind fun x7=>(some x7)))
theorem B49(C:Callee)(h59:∀(p0:(List S39)),C 59 [.fr 40 9 (List.map a39 p0),.fn 101 []]=(sortO (fun x y=>T101 x y) p0).map (fun(r:(List S39))=>AV.inp (.tup []) (.fr 40 9 (List.map a39 r))))(h63:H63 C)(h83:H83 C)(p0:(List S39))(p1:(List Int))(p2:S26)(p3:Int):rB C 49 Tryz.f49 (frame0 [LL a39 p0,LL I p1,a26 p2,I p3] 39 false) ((T49 p0 p1 p2 p3).map (fun l=>AV.fr 40 9 (List.map a39 l))):=by
 unfold T49
 let s_0:List (Nat×AV):=[(1,LL I p1),(3,I p3),(6,.ba 48 0)]
 let o_0:List (Nat×AObj):=[(48,.box [S p2.f0,I p2.f1,I p2.f2] false)]
 refine zS 1 0 (mkE ((0,LL a39 p0)::s_0) o_0 39) (zS 2 1 (mkE ((0,LL a39 p0)::(s_0.append [(9,.nils)])) o_0 39) (gS 8 (zR 3 2 (sg 1 (mkE ((12,LL a39 p0)::((0,LL a39 p0)::(s_0.append [(9,.nils)]))) o_0 39) (eo 13 (I (lenL p0)) (lenE 22 a39 p0) (zN (mkE (s_0.append ((9,.nils)::((12,LL a39 p0)::((13,I (lenL p0))::[(14,I 0)])))) o_0 39) (gB 0 (lo [(1,none),(3,none),(6,none),(9,some (40,9)),(12,none),(13,none),(14,none)] [] (L49_3 p0 p1 p2 p3) (fun z0:((List S39)×Int)=>(mkE (s_0.append ((9,.own 72 0)::((12,LL a39 p0)::((13,I (lenL p0))::[(14,I z0.2)])))) (o_0.append [(72,RR 40 9 a39 z0.1 0 false)]) 39)) (fun(x:(Int×Bool×(List S39)))=>(.exit 0,(mkE (s_0.append ((9,.own 72 0)::((12,LL a39 p0)::((13,I (lenL p0))::((14,I x.1)::[(15,B x.2.1)]))))) (o_0.append [(72,RR 40 9 a39 x.2.2 0 false)]) 39))) ([],0) (fun z=>L49_3_ok C h63 h83 p0 p1 p2 p3 z) ?_))))))))
 intro y6
 refine pH (zP (zR 9 8 (sg 1 (mkE ((36,.own 72 0)::(s_0.append ((9,.own 72 0)::((12,LL a39 p0)::((13,I (lenL p0))::((14,I y6.1)::[(15,B y6.2.1)])))))) (o_0.append [(72,RR 40 9 a39 y6.2.2 0 false)]) 39) (mo (some 37) (ipR 59 40 9 72 0 a39 y6.2.2 [.fn 101 []] [.fn 101 []] [] (fun x:(List S39)=> .tup []) (fun x:(List S39)=>x) (h59 y6.2.2)) (fun x7=>?_)))))
 exact zN (mkE [(9,.own 72 0)] [(72,RR 40 9 a39 x7 0 false)] 39) (zF 0 9 (mkE [(8,.own 72 0)] [(72,RR 40 9 a39 x7 0 false)] 39))
theorem F49(m:Nat)(hm:5≤m)(p0:(List S39))(p1:(List Int))(p2:S26)(p3:Int):callA Tryz.prog cfg m 49 [LL a39 p0,LL I p1,a26 p2,I p3]=(T49 p0 p1 p2 p3).map (fun l=>AV.fr 40 9 (List.map a39 l)):=by
 obtain⟨q,rfl⟩:=sucK hm
 exact(callA_body (fn:=Tryz.f49) (c:=body_ Tryz.f49) q _ (by kernel_rfl) (by kernel_rfl) (by kernel_rfl)).trans (B49 _ (fun p0=>F59 q (by omega) p0) (fun p0 p1=>F63 q (by omega) p0 p1) (fun p0 p1 p2=>F83 q (by omega) p0 p1 p2) p0 p1 p2 p3)
noncomputable def L15_10(p0:(List S39))(p1:(List S26))(p2:Int)(x3:(List Int))(z0:((List S55)×Int)):Option (((List S55)×Int)⊕(Int×Bool×(List S55))):=(bif (ltI z0.2 (lenL p1))then((listAt p1 z0.2).bind fun x4=>((T49 p0 x3 x4 p2).bind fun x5=>(bif (ltI 0 (lenL x5))then((idxO (List.length x5) 0).bind fun x6=>((getN x5 x6).bind fun x7=>((appO 32 z0.1 ([(S55.mk x4.f0 x7.f0)]:List S55)).bind fun x8=>(some (.inl (x8,(addI .i64 z0.2 1)))))))else(some (.inl (z0.1,(addI .i64 z0.2 1)))))))else(some (.inr (z0.2,(ltI z0.2 (lenL p1)),z0.1))))
abbrev H49(C:Callee):Prop:=∀(p0:(List S39))(p1:(List Int))(p2:S26)(p3:Int),C 49 [LL a39 p0,LL I p1,a26 p2,I p3]=(T49 p0 p1 p2 p3).map (fun l=>AV.fr 40 9 (List.map a39 l))
theorem L15_10_ok(C:Callee)(h49:H49 C)(p0:(List S39))(p1:(List S26))(p2:Int)(x3:(List Int))(z0:((List S55)×Int)):rL C 15 Tryz.f15 10 [false,false,true,false,true,true,true,true,true] (fun z0:((List S55)×Int)=>(mkE [(0,LL a39 p0),(2,I p2),(10,LL I x3),(11,.own 88 0),(28,LL a26 p1),(29,I (lenL p1)),(30,I z0.2)] [(88,RR 56 2 a55 z0.1 0 false)] 54)) (fun(x:(Int×Bool×(List S55)))=>(.exit 0,(mkE [(0,LL a39 p0),(2,I p2),(10,LL I x3),(11,.own 88 0),(28,LL a26 p1),(29,I (lenL p1)),(30,I x.1),(31,B x.2.1)] [(88,RR 56 2 a55 x.2.2 0 false)] 54))) (L15_10 p0 p1 p2 x3 z0) z0:=by
 unfold L15_10
 let s_0:List (Nat×AV):=[(0,LL a39 p0),(2,I p2),(10,LL I x3),(11,.own 88 0),(13,.ba 104 0),(14,.own 304 0),(28,LL a26 p1),(29,I (lenL p1)),(30,I z0.2)]
 let s_1:List (Nat×AV):=[(0,LL a39 p0),(2,I p2),(10,LL I x3)]
 let s_2:List (Nat×AV):=[(28,LL a26 p1),(29,I (lenL p1))]
 let o_0:List (Nat×AObj):=[(88,RR 56 2 a55 z0.1 0 false)]
 refine zS 0 10 (mkE (s_1.append ((11,.own 88 0)::(s_2.append ((30,I z0.2)::[(31,B (ltI z0.2 (lenL p1)))])))) o_0 54) (gS 11 (gC 31 (ltI z0.2 (lenL p1)) ?_ ?_))
 ·refine gK (zP (gS 15 (gB 1 (zR 12 11 (vo 32 (addrE 23 27 3 a26 .i64 p1 z0.2) (fun x4=>?_))))))
  refine zN (mkE (s_1.append ((11,.own 88 0)::((13,.ba 104 0)::(s_2.append [(30,I z0.2)])))) (o_0.append [(104,.box [S x4.f0,I x4.f1,I x4.f2] false)]) 54) (zR 13 12 (sg 4 (mkE ((37,I p2)::((36,a26 x4)::((35,LL I x3)::((34,LL a39 p0)::(s_1.append ((11,.own 88 0)::((13,.ba 104 0)::(s_2.append [(30,I z0.2)])))))))) (o_0.append [(104,.box [S x4.f0,I x4.f1,I x4.f2] false)]) 54) (co 38 [] (h49 p0 x3 x4 p2) (fun x5=>?_))))
  refine zN (mkE s_0 (o_0.append ((104,.box [S x4.f0,I x4.f1,I x4.f2] false)::[(304,RR 40 9 a39 x5 0 false)])) 54) (zR 0 13 (sg 1 (mkE ((39,.own 304 0)::s_0) (o_0.append ((104,.box [S x4.f0,I x4.f1,I x4.f2] false)::[(304,RR 40 9 a39 x5 0 false)])) 54) (eo 40 (I (lenL x5)) (lenOE 22 40 9 a39 x5) (zN (mkE (s_0.append [(41,B (ltI 0 (lenL x5)))]) (o_0.append ((104,.box [S x4.f0,I x4.f1,I x4.f2] false)::[(304,RR 40 9 a39 x5 0 false)])) 54) (gC 41 (ltI 0 (lenL x5)) ?_ ?_)))))
  ·refine gD 14 9 (rg Tryz.f15 14) [0,1,2,3,4,5,6,7,8,9,10] (dg 4 [(some 42,qe (.own 88 0)),(some 43,qe (.ba 104 0)),(some 44,qe (S x4.f0)),(some 45,qe (.own 304 0))] (dv 46 (mkE ((45,.own 304 0)::(s_0.append [(41,B (ltI 0 (lenL x5)))])) (o_0.append ((104,.box [S x4.f0,I x4.f1,I x4.f2] false)::[(304,RR 40 9 a39 x5 0 false)])) 54) (addrOE 22 40 9 304 0 false a39 .i64 x5 0) (fun x6=>?_)))
   refine dg 6 [(some 42,qe (.own 88 0)),(some 43,qe (.ba 104 0)),(some 44,qe (S x4.f0)),(some 45,qe (.own 304 0)),(some 46,qe (.oa 304 0 x6 0)),(some 47,qe (.oa 304 0 x6 0))] (dv 48 (mkE ((47,.oa 304 0 x6 0)::((46,.oa 304 0 x6 0)::((45,.own 304 0)::(s_0.append [(41,B (ltI 0 (lenL x5)))])))) (o_0.append ((104,.box [S x4.f0,I x4.f1,I x4.f2] false)::[(304,RR 40 9 a39 x5 0 false)])) 54) (loadOE 9 304 0 x6 0 40 9 1 false false a39 (fun q:S39=>S q.f0) x5) (fun x7=>?_))
   refine dg 9 [(some 42,qe (.own 88 0)),(some 43,qe (.ba 104 0)),(some 44,qe (S x4.f0)),(some 45,qe (.own 304 0)),(some 46,qe (.oa 304 0 x6 0)),(some 47,qe (.oa 304 0 x6 0)),(some 48,qe (S x7.f0)),(some 49,qe (.agg [S x4.f0,S x7.f0])),(some 50,{ e:={ val:= .own 400 0,news:=[(400,RR 56 2 a55 ([(S55.mk x4.f0 x7.f0)]:List S55) 0 false)] } })] (de (mkE ((50,.own 400 0)::((49,.agg [S x4.f0,S x7.f0])::((48,S x7.f0)::((47,.oa 304 0 x6 0)::((46,.oa 304 0 x6 0)::((45,.own 304 0)::((44,S x4.f0)::((43,.ba 104 0)::((42,.own 88 0)::(s_0.append [(41,B (ltI 0 (lenL x5)))])))))))))) ((400,RR 56 2 a55 ([(S55.mk x4.f0 x7.f0)]:List S55) 0 false)::(o_0.append ((104,.box [S x4.f0,I x4.f1,I x4.f2] false)::[(304,RR 40 9 a39 x5 0 false)]))) 54) (mo (some 51) (apO 45 56 2 32 88 a55 0 [400] (y:= .own 400 0) (l2:=([(S55.mk x4.f0 x7.f0)]:List S55))) (fun x8=>?_)))
   exact se (mkE (s_1.append ((11,.own 88 1)::(s_2.append [(30,I z0.2)]))) [(88,RR 56 2 a55 x8 1 false)] 54) (pB (zP (gR 15 (rg Tryz.f15 15) (se (mkE (s_1.append ((11,.own 88 1)::(s_2.append [(30,I (addI .i64 z0.2 1))]))) [(88,RR 56 2 a55 x8 1 false)] 54) (pL)))))
  ·exact gK (pB (zP (gR 15 (rg Tryz.f15 15) (se (mkE (s_1.append ((11,.own 88 0)::(s_2.append [(30,I (addI .i64 z0.2 1))]))) o_0 54) (pL)))))
 ·exact gX 0 (pL)
noncomputable def T15(p0:(List S39))(p1:(List S26))(p2:Int):Option ((List S55)×Int):=((T46 p0 p1).bind fun x1=>(bif (neI x1 0)then(some ([],x1))else((T47 p2).bind fun x2=>(bif (neI x2 0)then(some ([],x2))else((T48 p0).bind fun x3=>((iter (L15_10 p0 p1 p2 x3) ([],0)).bind fun y9=>(some (y9.2.2,0))))))))
abbrev H46(C:Callee):Prop:=∀(p0:(List S39))(p1:(List S26)),C 46 [LL a39 p0,LL a26 p1]=(T46 p0 p1).map I
abbrev H47(C:Callee):Prop:=∀(p0:Int),C 47 [I p0]=(T47 p0).map I
abbrev H48(C:Callee):Prop:=∀(p0:(List S39)),C 48 [LL a39 p0]=(T48 p0).map (fun l=>AV.fr 3 1 (List.map I l))
theorem B15(C:Callee)(h46:H46 C)(h47:H47 C)(h48:H48 C)(h49:H49 C)(p0:(List S39))(p1:(List S26))(p2:Int):rB C 15 Tryz.f15 (frame0 [LL a39 p0,LL a26 p1,I p2] 54 false) ((T15 p0 p1 p2).map (fun r=>AV.tup [(fun l=>AV.fr 56 2 (List.map a55 l)) r.1,I r.2])):=by
 unfold T15
 let s_0:List (Nat×AV):=[(0,LL a39 p0),(1,LL a26 p1),(2,I p2)]
 refine zS 1 0 (mkE s_0 [] 54) (gS 4 (zR 2 1 (sg 2 (mkE ((16,LL a26 p1)::((15,LL a39 p0)::s_0)) [] 54) (co 17 [] (h46 p0 p1) (fun x1=>?_)))))
 refine zN (mkE (s_0.append [(8,I x1)]) [] 54) (zS 0 2 (mkE (s_0.append ((8,I x1)::[(19,B (neI x1 0))])) [] 54) (gC 19 (neI x1 0) ?_ ?_))
 ·exact zF 0 3 (mkE [(6,.nils),(7,I x1)] [] 54)
 ·refine gK (zP (gS 7 (zR 5 4 (sg 1 (mkE ((21,I p2)::(s_0.append ((8,I x1)::[(19,B (neI x1 0))]))) [] 54) (co 22 [] (h47 p2) (fun x2=>?_))))))
  refine zN (mkE (s_0.append [(9,I x2)]) [] 54) (zS 0 5 (mkE (s_0.append ((9,I x2)::[(24,B (neI x2 0))])) [] 54) (gC 24 (neI x2 0) ?_ ?_))
  ·exact zF 0 6 (mkE [(6,.nils),(7,I x2)] [] 54)
  ·refine gK (zP (zR 8 7 (sg 1 (mkE ((26,LL a39 p0)::(s_0.append ((9,I x2)::[(24,B (neI x2 0))]))) [] 54) (co 27 [] (h48 p0) (fun x3=>?_)))))
   refine zN (mkE (s_0.append [(10,.own 216 0)]) [(216,RR 3 1 I x3 0 false)] 54) (zS 9 8 (mkE (s_0.append ((10,.own 216 0)::[(11,.nils)])) [(216,RR 3 1 I x3 0 false)] 54) (gS 16 (zR 10 9 (sg 1 (mkE ((28,LL a26 p1)::(s_0.append ((10,.own 216 0)::[(11,.nils)]))) [(216,RR 3 1 I x3 0 false)] 54) (eo 29 (I (lenL p1)) (lenE 23 a26 p1) (zN (mkE [(0,LL a39 p0),(2,I p2),(10,.own 216 0),(11,.nils),(28,LL a26 p1),(29,I (lenL p1)),(30,I 0)] [(216,RR 3 1 I x3 0 false)] 54) (gB 0 (lo [(0,none),(2,none),(10,none),(11,some (56,2)),(28,none),(29,none),(30,none)] [] (L15_10 p0 p1 p2 x3) (fun z0:((List S55)×Int)=>(mkE [(0,LL a39 p0),(2,I p2),(10,LL I x3),(11,.own 88 0),(28,LL a26 p1),(29,I (lenL p1)),(30,I z0.2)] [(88,RR 56 2 a55 z0.1 0 false)] 54)) (fun(x:(Int×Bool×(List S55)))=>(.exit 0,(mkE [(0,LL a39 p0),(2,I p2),(10,LL I x3),(11,.own 88 0),(28,LL a26 p1),(29,I (lenL p1)),(30,I x.1),(31,B x.2.1)] [(88,RR 56 2 a55 x.2.2 0 false)] 54))) ([],0) (fun z=>L15_10_ok C h49 p0 p1 p2 x3 z) ?_))))))))
   intro y9
   exact pH (zP (zF 0 16 (mkE [(6,.own 88 0),(7,I 0)] [(88,RR 56 2 a55 y9.2.2 0 false)] 54)))
theorem F15(m:Nat)(hm:8≤m)(p0:(List S39))(p1:(List S26))(p2:Int):callA Tryz.prog cfg m 15 [LL a39 p0,LL a26 p1,I p2]=(T15 p0 p1 p2).map (fun r=>AV.tup [(fun l=>AV.fr 56 2 (List.map a55 l)) r.1,I r.2]):=by
 obtain⟨q,rfl⟩:=sucK hm
 exact(callA_body (fn:=Tryz.f15) (c:=body_ Tryz.f15) q _ (by kernel_rfl) (by kernel_rfl) (by kernel_rfl)).trans (B15 _ (fun p0 p1=>F46 q (by omega) p0 p1) (fun p0=>F47 q (by omega) p0) (fun p0=>F48 q (by omega) p0) (fun p0 p1 p2 p3=>F49 q (by omega) p0 p1 p2 p3) p0 p1 p2)
noncomputable def T53(p0:Int)(p1:Int)(p2:Int):Option Bool:=(bif (leI p1 p0)then(some (leI p0 p2))else(some false))
theorem B53(C:Callee)(p0:Int)(p1:Int)(p2:Int):rB C 53 Tryz.f53 (frame0 [I p0,I p1,I p2] 15 false) ((T53 p0 p1 p2).map B):=by
 unfold T53
 refine zS 1 0 (mkE [(0,I p0),(1,I p1),(2,I p2)] [] 15) (zR 0 1 (sg 4 (mkE [(10,B (leI p1 p0)),(9,B (leI p1 p0)),(8,I p0),(7,I p1),(0,I p0),(1,I p1),(2,I p2)] [] 15) (sb 10 (leI p1 p0) ?_ ?_)))
 ·exact zE (mkE [(6,B (leI p0 p2))] [] 15)
 ·exact zE (mkE [(6,B false)] [] 15)
theorem F53(m:Nat)(hm:1≤m)(p0:Int)(p1:Int)(p2:Int):callA Tryz.prog cfg m 53 [I p0,I p1,I p2]=(T53 p0 p1 p2).map B:=by
 obtain⟨q,rfl⟩:=sucK hm
 exact(callA_bodyQ (fn:=Tryz.f53) (c:=body_ Tryz.f53) q _ (by kernel_rfl) (by kernel_rfl) (by kernel_rfl)).trans (B53 _ p0 p1 p2)
theorem F174(m:Nat)(hm:1≤m)(p0:ByteArray)(p1:Int):callA Tryz.prog cfg m 174 [S p0,U p1]=(some (idxB p0 p1)).map I:=by
 obtain⟨q,rfl⟩:=sucK hm
 exact(callA_leaf (L:=leafIdx) _ _ (by kernel_rfl)).trans (rfl)
noncomputable def T129(p0:ByteArray)(p1:Int):Option Int:=((some (idxB p0 p1)).bind fun x1=>(some x1))
theorem B129(C:Callee)(h174:∀(p0:ByteArray)(p1:Int),C 174 [S p0,U p1]=(some (idxB p0 p1)).map I)(p0:ByteArray)(p1:Int):rB C 129 Tryz.f129 (frame0 [S p0,U p1] 8 false) ((T129 p0 p1).map I):=by
 unfold T129
 refine zS 1 0 (mkE [(0,S p0),(1,U p1)] [] 8) (zR 0 1 (sg 2 (mkE [(6,U p1),(5,S p0),(0,S p0),(1,U p1)] [] 8) (co 7 [] (h174 p0 p1) (fun x1=>?_))))
 exact zE (mkE [(4,I x1)] [] 8)
theorem F129(m:Nat)(hm:2≤m)(p0:ByteArray)(p1:Int):callA Tryz.prog cfg m 129 [S p0,U p1]=(T129 p0 p1).map I:=by
 obtain⟨q,rfl⟩:=sucK hm
 exact(callA_body (fn:=Tryz.f129) (c:=body_ Tryz.f129) q _ (by kernel_rfl) (by kernel_rfl) (by kernel_rfl)).trans (B129 _ (fun p0 p1=>F174 q (by omega) p0 p1) p0 p1)
noncomputable def L104_2(p0:ByteArray)(p1:ByteArray)(z0:Int):Option (Int⊕((Int×Bool)⊕Unit)):=(bif (ltI z0 (lenS p0))then((byteAt p0 z0).bind fun x1=>((T129 p1 x1).bind fun x2=>(bif (ltI x2 0)then(some (.inr (.inr ())))else(some (.inl (addI .i64 z0 1))))))else(some (.inr (.inl (z0,(ltI z0 (lenS p0)))))))
abbrev H129(C:Callee):Prop:=∀(p0:ByteArray)(p1:Int),C 129 [S p0,U p1]=(T129 p0 p1).map I
theorem L104_2_ok(C:Callee)(h129:H129 C)(p0:ByteArray)(p1:ByteArray)(z0:Int):rL C 104 Tryz.f104 2 [false,false,true,false,true] (fun z0:Int=>(mkE [(0,S p0),(1,S p1),(7,I (lenS p0)),(8,I z0)] [] 18)) (Sum.elim (fun(x:(Int×Bool))=>(.exit 0,(mkE [(0,S p0),(1,S p1),(7,I (lenS p0)),(8,I x.1),(9,B x.2)] [] 18))) (fun(x:Unit)=>(.ret,(mkE [(4,B false)] [] 18)))) (L104_2 p0 p1 z0) z0:=by
 unfold L104_2
 refine zS 0 2 (mkE [(0,S p0),(1,S p1),(7,I (lenS p0)),(8,I z0),(9,B (ltI z0 (lenS p0)))] [] 18) (gS 3 (gC 9 (ltI z0 (lenS p0)) ?_ ?_))
 ·refine gK (zP (gS 6 (gB 1 (zS 4 3 (mkE [(0,S p0),(1,S p1),(5,I z0),(7,I (lenS p0)),(8,I z0)] [] 18) (zR 0 4 (sg 3 (mkE [(13,I z0),(12,S p0),(11,S p1),(0,S p0),(1,S p1),(5,I z0),(7,I (lenS p0)),(8,I z0)] [] 18) (vo 14 (byteE 9 .i64 p0 z0) (fun x1=>?_))))))))
  refine co 15 [] (h129 p1 x1) (fun x2=>?_)
  refine zN (mkE [(0,S p0),(1,S p1),(7,I (lenS p0)),(8,I z0),(16,B (ltI x2 0))] [] 18) (gC 16 (ltI x2 0) ?_ ?_)
  ·exact zF 0 5 (mkE [(4,B false)] [] 18)
  ·exact gK (pB (zP (gR 6 (rg Tryz.f104 6) (se (mkE [(0,S p0),(1,S p1),(7,I (lenS p0)),(8,I (addI .i64 z0 1))] [] 18) (pL)))))
 ·exact gX 0 (pL)
noncomputable def T104(p0:ByteArray)(p1:ByteArray):Option Bool:=((iter (L104_2 p0 p1) 0).bind fun y3=>(Sum.elim (fun y3a=>(some true)) (fun y3b=>(some false)) y3))
theorem B104(C:Callee)(h129:H129 C)(p0:ByteArray)(p1:ByteArray):rB C 104 Tryz.f104 (frame0 [S p0,S p1] 18 false) ((T104 p0 p1).map B):=by
 unfold T104
 refine zS 1 0 (mkE [(0,S p0),(1,S p1)] [] 18) (gS 7 (zS 2 1 (mkE [(0,S p0),(1,S p1),(7,I (lenS p0)),(8,I 0)] [] 18) (gB 0 (lo [(0,none),(1,none),(7,none),(8,none)] [] (L104_2 p0 p1) (fun z0:Int=>(mkE [(0,S p0),(1,S p1),(7,I (lenS p0)),(8,I z0)] [] 18)) (Sum.elim (fun(x:(Int×Bool))=>(.exit 0,(mkE [(0,S p0),(1,S p1),(7,I (lenS p0)),(8,I x.1),(9,B x.2)] [] 18))) (fun(x:Unit)=>(.ret,(mkE [(4,B false)] [] 18)))) 0 (fun z=>L104_2_ok C h129 p0 p1 z) ?_))))
 intro y3
 refine ss y3 (Z:=(Sum.elim (fun(x:(Int×Bool))=>(.exit 0,(mkE [(0,S p0),(1,S p1),(7,I (lenS p0)),(8,I x.1),(9,B x.2)] [] 18))) (fun(x:Unit)=>(.ret,(mkE [(4,B false)] [] 18))))) (fun y3a=>?_) (fun y3b=>?_)
 ·exact pH (zP (zF 0 7 (mkE [(4,B true)] [] 18)))
 ·exact pL
theorem F104(m:Nat)(hm:3≤m)(p0:ByteArray)(p1:ByteArray):callA Tryz.prog cfg m 104 [S p0,S p1]=(T104 p0 p1).map B:=by
 obtain⟨q,rfl⟩:=sucK hm
 exact(callA_body (fn:=Tryz.f104) (c:=body_ Tryz.f104) q _ (by kernel_rfl) (by kernel_rfl) (by kernel_rfl)).trans (B104 _ (fun p0 p1=>F129 q (by omega) p0 p1) p0 p1)
noncomputable def T52(p0:ByteArray):Option Bool:=((T53 (lenS p0) 1 40).bind fun x1=>(bif x1 then((cutS p0 none (some 1)).bind fun x2=>((T104 x2 (ByteArray.mk #[97,98,99,100,101,102,103,104,105,106,107,108,109,110,111,112,113,114,115,116,117,118,119,120,121,122])).bind fun x3=>(bif x3 then((T104 p0 (ByteArray.mk #[97,98,99,100,101,102,103,104,105,106,107,108,109,110,111,112,113,114,115,116,117,118,119,120,121,122,48,49,50,51,52,53,54,55,56,57,45,95])).bind fun x4=>(some x4))else(some false))))else(some false)))
abbrev H53(C:Callee):Prop:=∀(p0:Int)(p1:Int)(p2:Int),C 53 [I p0,I p1,I p2]=(T53 p0 p1 p2).map B
theorem B52(C:Callee)(h104:∀(p0:ByteArray)(p1:ByteArray),C 104 [S p0,S p1]=(T104 p0 p1).map B)(h53:H53 C)(p0:ByteArray):rB C 52 Tryz.f52 (frame0 [S p0] 15 false) ((T52 p0).map B):=by
 unfold T52
 let s_0:List (Nat×AV):=[(4,I (lenS p0)),(3,S p0),(0,S p0)]
 refine zS 1 0 (mkE [(0,S p0)] [] 15) (zR 0 1 (sg 2 (mkE s_0 [] 15) (co 5 [] (h53 (lenS p0) 1 40) (fun x1=>?_))))
 refine sg 4 (mkE ((6,B x1)::((5,B x1)::s_0)) [] 15) (sb 6 x1 ?_ ?_)
 ·refine sg 5 (mkE ((7,S p0)::((6,B true)::((6,B x1)::((5,B x1)::s_0)))) [] 15) (vo 8 (cutSE 9 .i64 .i64 p0 none (some 1)) (fun x2=>?_))
  refine co 9 [] (h104 x2 (ByteArray.mk #[97,98,99,100,101,102,103,104,105,106,107,108,109,110,111,112,113,114,115,116,117,118,119,120,121,122])) (fun x3=>?_)
  refine sg 9 (mkE ((11,B x3)::((10,B x3)::((9,B x3)::((8,S x2)::((7,S p0)::((6,B true)::((6,B x1)::((5,B x1)::s_0)))))))) [] 15) (sb 11 x3 ?_ ?_)
  ·refine sg 10 (mkE ((12,S p0)::((11,B true)::((11,B x3)::((10,B x3)::((9,B x3)::((8,S x2)::((7,S p0)::((6,B true)::((6,B x1)::((5,B x1)::s_0)))))))))) [] 15) (co 13 [] (h104 p0 (ByteArray.mk #[97,98,99,100,101,102,103,104,105,106,107,108,109,110,111,112,113,114,115,116,117,118,119,120,121,122,48,49,50,51,52,53,54,55,56,57,45,95])) (fun x4=>?_))
   exact zE (mkE [(2,B x4)] [] 15)
  ·exact zE (mkE [(2,B false)] [] 15)
 ·exact zE (mkE [(2,B false)] [] 15)
theorem F52(m:Nat)(hm:4≤m)(p0:ByteArray):callA Tryz.prog cfg m 52 [S p0]=(T52 p0).map B:=by
 obtain⟨q,rfl⟩:=sucK hm
 exact(callA_body (fn:=Tryz.f52) (c:=body_ Tryz.f52) q _ (by kernel_rfl) (by kernel_rfl) (by kernel_rfl)).trans (B52 _ (fun p0 p1=>F104 q (by omega) p0 p1) (fun p0 p1 p2=>F53 q (by omega) p0 p1 p2) p0)
noncomputable def T54(p0:Int):Option Bool:=((T53 p0 0 345686399999).bind fun x1=>(some x1))
theorem B54(C:Callee)(h53:H53 C)(p0:Int):rB C 54 Tryz.f54 (frame0 [I p0] 5 false) ((T54 p0).map B):=by
 unfold T54
 refine zS 1 0 (mkE [(0,I p0)] [] 5) (zR 0 1 (sg 1 (mkE [(3,I p0),(0,I p0)] [] 5) (co 4 [] (h53 p0 0 345686399999) (fun x1=>?_))))
 exact zE (mkE [(2,B x1)] [] 5)
theorem F54(m:Nat)(hm:2≤m)(p0:Int):callA Tryz.prog cfg m 54 [I p0]=(T54 p0).map B:=by
 obtain⟨q,rfl⟩:=sucK hm
 exact(callA_body (fn:=Tryz.f54) (c:=body_ Tryz.f54) q _ (by kernel_rfl) (by kernel_rfl) (by kernel_rfl)).trans (B54 _ (fun p0 p1 p2=>F53 q (by omega) p0 p1 p2) p0)
noncomputable def T102(p0:S43):Option Int:=((T53 p0.f0 (-100000) 100000).bind fun x1=>(bif (!x1)then(some 1)else((T53 p0.f1 (-100000) 100000).bind fun x2=>(bif (!x2)then(some 1)else((T53 p0.f2 1 (subI .i64 100000 p0.f0)).bind fun x3=>(bif (!x3)then(some 1)else((T53 p0.f3 1 (subI .i64 100000 p0.f1)).bind fun x4=>(bif (!x4)then(some 1)else(some 0)))))))))
theorem B102(C:Callee)(h53:H53 C)(p0:S43):rB C 102 Tryz.f102 (frame0 [a43 p0] 31 false) ((T102 p0).map I):=by
 unfold T102
 let s_0:List (Nat×AV):=[(18,I (subI .i64 100000 p0.f0)),(17,I p0.f0),(16,.ba 8 0),(15,I p0.f2),(14,.ba 8 2),(13,B false)]
 let s_1:List (Nat×AV):=[(4,I p0.f0),(3,.ba 8 0),(1,.ba 8 0)]
 let s_2:List (Nat×AV):=[(9,I p0.f1),(8,.ba 8 1),(7,B false)]
 let o_0:List (Nat×AObj):=[(8,.box [I p0.f0,I p0.f1,I p0.f2,I p0.f3] false)]
 refine zS 1 0 (mkE [(1,.ba 8 0)] o_0 31) (gS 3 (zR 0 1 (sg 2 (mkE s_1 o_0 31) (co 5 [] (h53 p0.f0 (-100000) 100000) (fun x1=>?_)))))
 refine sg 5 (mkE ((7,B (!x1))::((6,B (!x1))::((5,B x1)::s_1))) o_0 31) (sb 7 (!x1) ?_ ?_)
 ·exact zN (mkE [(30,B true)] [] 31) (gT (.tmp 30) (zF 0 2 (mkE [(2,I 1)] [] 31)))
 ·refine sg 7 (mkE (s_2.append ((7,B (!x1))::((6,B (!x1))::((5,B x1)::s_1)))) o_0 31) (co 10 [] (h53 p0.f1 (-100000) 100000) (fun x2=>?_))
  refine sg 11 (mkE ((13,B (!x2))::((12,B (!x2))::((11,B (!x2))::((10,B x2)::(s_2.append ((7,B (!x1))::((6,B (!x1))::((5,B x1)::s_1)))))))) o_0 31) (sb 13 (!x2) ?_ ?_)
  ·exact zN (mkE [(30,B true)] [] 31) (gT (.tmp 30) (zF 0 2 (mkE [(2,I 1)] [] 31)))
  ·refine sg 16 (mkE (s_0.append ((13,B (!x2))::((12,B (!x2))::((11,B (!x2))::((10,B x2)::(s_2.append ((7,B (!x1))::((6,B (!x1))::((5,B x1)::s_1))))))))) o_0 31) (co 19 [] (h53 p0.f2 1 (subI .i64 100000 p0.f0)) (fun x3=>?_))
   refine sg 20 (mkE ((22,B (!x3))::((21,B (!x3))::((20,B (!x3))::((19,B x3)::(s_0.append ((13,B (!x2))::((12,B (!x2))::((11,B (!x2))::((10,B x2)::(s_2.append ((7,B (!x1))::((6,B (!x1))::((5,B x1)::s_1))))))))))))) o_0 31) (sb 22 (!x3) ?_ ?_)
   ·exact zN (mkE [(30,B true)] [] 31) (gT (.tmp 30) (zF 0 2 (mkE [(2,I 1)] [] 31)))
   ·refine sg 25 (mkE ((27,I (subI .i64 100000 p0.f1))::((26,I p0.f1)::((25,.ba 8 1)::((24,I p0.f3)::((23,.ba 8 3)::((22,B false)::((22,B (!x3))::((21,B (!x3))::((20,B (!x3))::((19,B x3)::(s_0.append ((13,B (!x2))::((12,B (!x2))::((11,B (!x2))::((10,B x2)::(s_2.append ((7,B (!x1))::((6,B (!x1))::((5,B x1)::s_1))))))))))))))))))) o_0 31) (co 28 [] (h53 p0.f3 1 (subI .i64 100000 p0.f1)) (fun x4=>?_))
    refine zN (mkE [(30,B (!x4))] [] 31) (gC 30 (!x4) ?_ ?_)
    ·exact zF 0 2 (mkE [(2,I 1)] [] 31)
    ·exact gK (zP (zF 0 3 (mkE [(2,I 0)] [] 31)))
theorem F102(m:Nat)(hm:2≤m)(p0:S43):callA Tryz.prog cfg m 102 [a43 p0]=(T102 p0).map I:=by
 obtain⟨q,rfl⟩:=sucK hm
 exact(callA_body (fn:=Tryz.f102) (c:=body_ Tryz.f102) q _ (by kernel_rfl) (by kernel_rfl) (by kernel_rfl)).trans (B102 _ (fun p0 p1 p2=>F53 q (by omega) p0 p1 p2) p0)
noncomputable def T126(p0:Int):Option Bool:=(bif (ltI p0 32)then(some true)else(some (eqI p0 127)))
theorem B126(C:Callee)(p0:Int):rB C 126 Tryz.f126 (frame0 [.int .i32 p0] 9 false) ((T126 p0).map B):=by
 unfold T126
 refine zS 1 0 (mkE [(0,.int .i32 p0)] [] 9) (zR 0 1 (sg 3 (mkE [(5,B (ltI p0 32)),(4,B (ltI p0 32)),(3,.int .i32 p0),(0,.int .i32 p0)] [] 9) (sb 5 (ltI p0 32) ?_ ?_)))
 ·exact zE (mkE [(2,B true)] [] 9)
 ·exact zE (mkE [(2,B (eqI p0 127))] [] 9)
theorem F126(m:Nat)(hm:1≤m)(p0:Int):callA Tryz.prog cfg m 126 [.int .i32 p0]=(T126 p0).map B:=by
 obtain⟨q,rfl⟩:=sucK hm
 exact(callA_body (fn:=Tryz.f126) (c:=body_ Tryz.f126) q _ (by kernel_rfl) (by kernel_rfl) (by kernel_rfl)).trans (B126 _ p0)
theorem F125(m:Nat)(hm:2≤m)(p0:ByteArray):callA Tryz.prog cfg m 125 [S p0,.fn 126 []]=(hasO T126 p0).map B:=by
 obtain⟨q,rfl⟩:=sucK hm
 exact(callA_leaf (L:=(leafHas Tryz.prog)) _ _ (by kernel_rfl)).trans (has_leaf 126 T126 _ p0 (fun x=>F126 q (by omega) x) (by kernel_rfl))
noncomputable def T103(p0:ByteArray):Option Bool:=((validO p0).bind fun x1=>(bif x1 then((hasO T126 p0).bind fun x2=>(bif (!x2)then((T127 p0 (ByteArray.mk #[32])).bind fun x3=>(bif (eqS x3 p0)then((contO p0 (ByteArray.mk #[32,32])).bind fun x4=>(some (!x4)))else(some false)))else(some false)))else(some false)))
theorem B103(C:Callee)(h124:H124 C)(h125:∀(p0:ByteArray),C 125 [S p0,.fn 126 []]=(hasO T126 p0).map B)(h127:H127 C)(h128:H128 C)(p0:ByteArray):rB C 103 Tryz.f103 (frame0 [S p0] 21 false) ((T103 p0).map B):=by
 unfold T103
 refine zS 1 0 (mkE [(0,S p0)] [] 21) (zR 0 1 (sg 1 (mkE [(3,S p0),(0,S p0)] [] 21) (co 4 [] (h124 p0) (fun x1=>?_))))
 refine sg 3 (mkE [(5,B x1),(4,B x1),(3,S p0),(0,S p0)] [] 21) (sb 5 x1 ?_ ?_)
 ·refine sg 4 (mkE [(6,S p0),(5,B true),(5,B x1),(4,B x1),(3,S p0),(0,S p0)] [] 21) (co 7 [] (h125 p0) (fun x2=>?_))
  refine sg 8 (mkE [(10,B (!x2)),(9,B (!x2)),(8,B (!x2)),(7,B x2),(6,S p0),(5,B true),(5,B x1),(4,B x1),(3,S p0),(0,S p0)] [] 21) (sb 10 (!x2) ?_ ?_)
  ·refine sg 9 (mkE [(11,S p0),(10,B true),(10,B (!x2)),(9,B (!x2)),(8,B (!x2)),(7,B x2),(6,S p0),(5,B true),(5,B x1),(4,B x1),(3,S p0),(0,S p0)] [] 21) (co 12 [] (h127 p0 (ByteArray.mk #[32])) (fun x3=>?_))
   refine sg 14 (mkE [(16,B (eqS x3 p0)),(15,B (eqS x3 p0)),(14,B (eqS x3 p0)),(13,S p0),(12,S x3),(11,S p0),(10,B true),(10,B (!x2)),(9,B (!x2)),(8,B (!x2)),(7,B x2),(6,S p0),(5,B true),(5,B x1),(4,B x1),(3,S p0),(0,S p0)] [] 21) (sb 16 (eqS x3 p0) ?_ ?_)
   ·refine sg 15 (mkE [(17,S p0),(16,B true),(16,B (eqS x3 p0)),(15,B (eqS x3 p0)),(14,B (eqS x3 p0)),(13,S p0),(12,S x3),(11,S p0),(10,B true),(10,B (!x2)),(9,B (!x2)),(8,B (!x2)),(7,B x2),(6,S p0),(5,B true),(5,B x1),(4,B x1),(3,S p0),(0,S p0)] [] 21) (co 18 [] (h128 p0 (ByteArray.mk #[32,32])) (fun x4=>?_))
    exact zE (mkE [(2,B (!x4))] [] 21)
   ·exact zE (mkE [(2,B false)] [] 21)
  ·exact zE (mkE [(2,B false)] [] 21)
 ·exact zE (mkE [(2,B false)] [] 21)
theorem F103(m:Nat)(hm:3≤m)(p0:ByteArray):callA Tryz.prog cfg m 103 [S p0]=(T103 p0).map B:=by
 obtain⟨q,rfl⟩:=sucK hm
 exact(callA_body (fn:=Tryz.f103) (c:=body_ Tryz.f103) q _ (by kernel_rfl) (by kernel_rfl) (by kernel_rfl)).trans (B103 _ (fun p0=>F124 q (by omega) p0) (fun p0=>F125 q (by omega) p0) (fun p0 p1=>F127 q (by omega) p0 p1) (fun p0 p1=>F128 q (by omega) p0 p1) p0)
noncomputable def L50_8(p0:S39)(z0:Int):Option (Int⊕((Int×Bool)⊕Int)):=(bif (ltI z0 (lenL p0.f3))then((listAt p0.f3 z0).bind fun x4=>((T52 x4).bind fun x5=>(bif (!x5)then(some (.inr (.inr 5)))else(bif (ltI 0 z0)then((listAt p0.f3 (subI .i64 z0 1)).bind fun x6=>(bif (ltS x4 x6||eqS x4 x6)then(some (.inr (.inr 7)))else(bif (eqS x4 p0.f0)then(some (.inr (.inr 14)))else(some (.inl (addI .i64 z0 1))))))else(bif (eqS x4 p0.f0)then(some (.inr (.inr 14)))else(some (.inl (addI .i64 z0 1))))))))else(some (.inr (.inl (z0,(ltI z0 (lenL p0.f3)))))))
abbrev H52(C:Callee):Prop:=∀(p0:ByteArray),C 52 [S p0]=(T52 p0).map B
theorem L50_8_ok(C:Callee)(h52:H52 C)(p0:S39)(z0:Int):rL C 50 Tryz.f50 8 [false,false,true,false,true,true] (fun z0:Int=>(mkE [(1,.ba 8 0),(30,LL S p0.f3),(31,I (lenL p0.f3)),(32,I z0)] [(8,.box [S p0.f0,S p0.f1,I p0.f2,LL S p0.f3,I p0.f4,I p0.f5,I p0.f6,LL a43 p0.f7,S p0.f8] false)] 139)) (Sum.elim (fun(x:(Int×Bool))=>(.exit 1,(mkE [(1,.ba 8 0),(30,LL S p0.f3),(31,I (lenL p0.f3)),(32,I x.1),(33,B x.2)] [(8,.box [S p0.f0,S p0.f1,I p0.f2,LL S p0.f3,I p0.f4,I p0.f5,I p0.f6,LL a43 p0.f7,S p0.f8] false)] 139))) (fun(x:Int)=>(.ret,(mkE [(2,I x)] [] 139)))) (L50_8 p0 z0) z0:=by
 unfold L50_8
 let s_0:List (Nat×AV):=[(30,LL S p0.f3),(31,I (lenL p0.f3)),(32,I z0)]
 let o_0:List (Nat×AObj):=[(8,.box [S p0.f0,S p0.f1,I p0.f2,LL S p0.f3,I p0.f4,I p0.f5,I p0.f6,LL a43 p0.f7,S p0.f8] false)]
 refine zS 0 8 (mkE ((1,.ba 8 0)::(s_0.append [(33,B (ltI z0 (lenL p0.f3)))])) o_0 139) (gS 9 (gC 33 (ltI z0 (lenL p0.f3)) ?_ ?_))
 ·refine gK (zP (gS 16 (gB 2 (zR 10 9 (sg 1 (mkE ((34,I z0)::((1,.ba 8 0)::(s_0.append [(33,B (ltI z0 (lenL p0.f3)))]))) o_0 139) (vo 35 (addrE 37 9 1 S .i64 p0.f3 z0) (fun x4=>?_)))))))
  refine zN (mkE ((1,.ba 8 0)::((3,I z0)::((4,S x4)::s_0))) o_0 139) (gB 3 (zR 0 10 (sg 1 (mkE ((38,S x4)::((1,.ba 8 0)::((3,I z0)::((4,S x4)::s_0)))) o_0 139) (co 39 [] (h52 x4) (fun x5=>?_)))))
  refine zN (mkE ((1,.ba 8 0)::((3,I z0)::((4,S x4)::(s_0.append [(37,B (!x5))])))) o_0 139) (gC 37 (!x5) ?_ ?_)
  ·exact zF 0 11 (mkE [(2,I 5)] [] 139)
  ·refine zR 0 12 (sg 3 (mkE ((44,B (ltI 0 z0))::((43,B (ltI 0 z0))::((42,I z0)::((1,.ba 8 0)::((3,I z0)::((4,S x4)::(s_0.append [(37,B (!x5))]))))))) o_0 139) (sb 44 (ltI 0 z0) ?_ ?_))
   ·refine sg 8 (mkE ((49,I (subI .i64 z0 1))::((48,I z0)::((47,LL S p0.f3)::((46,.ba 8 3)::((45,S x4)::((44,B true)::((44,B (ltI 0 z0))::((43,B (ltI 0 z0))::((42,I z0)::((1,.ba 8 0)::((3,I z0)::((4,S x4)::(s_0.append [(37,B (!x5))]))))))))))))) o_0 139) (vo 50 (addrE 37 9 1 S .i64 p0.f3 (subI .i64 z0 1)) (fun x6=>?_))
    refine zN (mkE ((1,.ba 8 0)::((4,S x4)::(s_0.append [(41,B (ltS x4 x6||eqS x4 x6))]))) o_0 139) (gC 41 (ltS x4 x6||eqS x4 x6) ?_ ?_)
    ·exact zF 0 13 (mkE [(2,I 7)] [] 139)
    ·refine zS 0 14 (mkE ((1,.ba 8 0)::(s_0.append [(54,B (eqS x4 p0.f0))])) o_0 139) (gC 54 (eqS x4 p0.f0) ?_ ?_)
     ·exact zF 0 15 (mkE [(2,I 14)] [] 139)
     ·exact gK (pB (pB (zP (gR 16 (rg Tryz.f50 16) (se (mkE [(1,.ba 8 0),(30,LL S p0.f3),(31,I (lenL p0.f3)),(32,I (addI .i64 z0 1))] o_0 139) (pL))))))
   ·refine zN (mkE ((1,.ba 8 0)::((4,S x4)::(s_0.append [(41,B false)]))) o_0 139) (gF (.tmp 41) (zS 0 14 (mkE ((1,.ba 8 0)::(s_0.append [(54,B (eqS x4 p0.f0))])) o_0 139) (gC 54 (eqS x4 p0.f0) ?_ ?_)))
    ·exact zF 0 15 (mkE [(2,I 14)] [] 139)
    ·exact gK (pB (pB (zP (gR 16 (rg Tryz.f50 16) (se (mkE [(1,.ba 8 0),(30,LL S p0.f3),(31,I (lenL p0.f3)),(32,I (addI .i64 z0 1))] o_0 139) (pL))))))
 ·exact gX 1 (pL)
noncomputable def L50_24(p0:S39)(z1:Int):Option (Int⊕((Int×Bool)⊕Int)):=(bif (ltI z1 (lenL p0.f7))then((listAt p0.f7 z1).bind fun x11=>((T102 x11).bind fun x12=>(bif (neI x12 0)then(some (.inr (.inr x12)))else(some (.inl (addI .i64 z1 1))))))else(some (.inr (.inl (z1,(ltI z1 (lenL p0.f7)))))))
abbrev H102(C:Callee):Prop:=∀(p0:S43),C 102 [a43 p0]=(T102 p0).map I
theorem L50_24_ok(C:Callee)(h102:H102 C)(p0:S39)(z1:Int):rL C 50 Tryz.f50 24 [false,false,true,false,true,true,true,true] (fun z1:Int=>(mkE [(1,.ba 8 0),(98,LL a43 p0.f7),(99,I (lenL p0.f7)),(100,I z1)] [(8,.box [S p0.f0,S p0.f1,I p0.f2,LL S p0.f3,I p0.f4,I p0.f5,I p0.f6,LL a43 p0.f7,S p0.f8] false)] 139)) (Sum.elim (fun(x:(Int×Bool))=>(.exit 5,(mkE [(1,.ba 8 0),(98,LL a43 p0.f7),(99,I (lenL p0.f7)),(100,I x.1),(101,B x.2)] [(8,.box [S p0.f0,S p0.f1,I p0.f2,LL S p0.f3,I p0.f4,I p0.f5,I p0.f6,LL a43 p0.f7,S p0.f8] false)] 139))) (fun(x:Int)=>(.ret,(mkE [(2,I x)] [] 139)))) (L50_24 p0 z1) z1:=by
 unfold L50_24
 let s_0:List (Nat×AV):=[(98,LL a43 p0.f7),(99,I (lenL p0.f7)),(100,I z1)]
 let o_0:List (Nat×AObj):=[(8,.box [S p0.f0,S p0.f1,I p0.f2,LL S p0.f3,I p0.f4,I p0.f5,I p0.f6,LL a43 p0.f7,S p0.f8] false)]
 refine zS 0 24 (mkE ((1,.ba 8 0)::(s_0.append [(101,B (ltI z1 (lenL p0.f7)))])) o_0 139) (gS 25 (gC 101 (ltI z1 (lenL p0.f7)) ?_ ?_))
 ·refine gK (zP (gS 29 (gB 6 (zR 26 25 (vo 102 (addrE 38 44 4 a43 .i64 p0.f7 z1) (fun x11=>?_))))))
  refine zN (mkE ((1,.ba 8 0)::((6,.ba 48 0)::s_0)) (o_0.append [(48,.box [I x11.f0,I x11.f1,I x11.f2,I x11.f3] false)]) 139) (zR 27 26 (sg 1 (mkE ((104,a43 x11)::((1,.ba 8 0)::((6,.ba 48 0)::s_0))) (o_0.append [(48,.box [I x11.f0,I x11.f1,I x11.f2,I x11.f3] false)]) 139) (co 105 [] (h102 x11) (fun x12=>?_))))
  refine zN (mkE ((1,.ba 8 0)::((7,I x12)::s_0)) o_0 139) (zS 0 27 (mkE ((1,.ba 8 0)::((7,I x12)::(s_0.append [(107,B (neI x12 0))]))) o_0 139) (gC 107 (neI x12 0) ?_ ?_))
  ·exact zF 0 28 (mkE [(2,I x12)] [] 139)
  ·exact gK (pB (zP (gR 29 (rg Tryz.f50 29) (se (mkE [(1,.ba 8 0),(98,LL a43 p0.f7),(99,I (lenL p0.f7)),(100,I (addI .i64 z1 1))] o_0 139) (pL)))))
 ·exact gX 5 (pL)
noncomputable def T50(p0:S39):Option Int:=((T52 p0.f0).bind fun x1=>(bif (!x1)then(some 5)else((T52 p0.f1).bind fun x2=>(bif (!x2)then(some 5)else((T53 p0.f2 1 3).bind fun x3=>(bif (!x3)then(some 4)else(bif (ltI 20 (lenL p0.f3))then(some 2)else((iter (L50_8 p0) 0).bind fun y7=>(Sum.elim (fun y7a=>(bif ((eqI p0.f2 1) != (eqI (lenL p0.f3) 0))then(some 3)else((T54 p0.f4).bind fun x8=>(bif (!x8)then(some 1)else((T53 p0.f5 (addI .i64 p0.f4 1) (addI .i64 p0.f4 2592000000)).bind fun x9=>(bif (!x9)then(some 1)else((T53 p0.f6 1 9).bind fun x10=>(bif (!x10)then(some 1)else(bif (ltI 20 (lenL p0.f7))then(some 2)else((iter (L50_24 p0) 0).bind fun y13=>(Sum.elim (fun y13a=>(bif ((eqI p0.f2 3) != (eqI (lenL p0.f7) 0))then(some 3)else(bif (ltI 500 (lenS p0.f8))then(some 2)else((T103 p0.f8).bind fun x14=>(bif (!x14)then(some 3)else(bif (eqS p0.f8 (ByteArray.mk #[]))then(bif (neI p0.f2 3)then(some 3)else(some 0))else(some 0))))))) (fun y13b=>(some y13b)) y13))))))))))) (fun y7b=>(some y7b)) y7)))))))))
abbrev H54(C:Callee):Prop:=∀(p0:Int),C 54 [I p0]=(T54 p0).map B
theorem B50(C:Callee)(h102:H102 C)(h103:∀(p0:ByteArray),C 103 [S p0]=(T103 p0).map B)(h52:H52 C)(h53:H53 C)(h54:H54 C)(p0:S39):rB C 50 Tryz.f50 (frame0 [a39 p0] 139 false) ((T50 p0).map I):=by
 unfold T50
 let s_0:List (Nat×AV):=[(71,I p0.f4),(70,.ba 8 4),(1,.ba 8 0),(60,B ((eqI p0.f2 1) != (eqI (lenL p0.f3) 0)))]
 let s_1:List (Nat×AV):=[(82,I (addI .i64 p0.f4 2592000000)),(81,I p0.f4),(80,.ba 8 4),(79,I (addI .i64 p0.f4 1)),(78,I p0.f4),(77,.ba 8 4),(76,I p0.f5),(75,.ba 8 5),(74,B false)]
 let s_2:List (Nat×AV):=[(1,.ba 8 0),(98,LL a43 p0.f7),(99,I (lenL p0.f7))]
 let s_3:List (Nat×AV):=[(1,.ba 8 0),(30,LL S p0.f3),(31,I (lenL p0.f3))]
 let s_4:List (Nat×AV):=[(126,S p0.f8),(125,.ba 8 8),(1,.ba 8 0),(119,B (ltI 500 (lenS p0.f8)))]
 let o_0:List (Nat×AObj):=[(8,.box [S p0.f0,S p0.f1,I p0.f2,LL S p0.f3,I p0.f4,I p0.f5,I p0.f6,LL a43 p0.f7,S p0.f8] false)]
 refine zS 1 0 (mkE [(1,.ba 8 0)] o_0 139) (gS 7 (gB 0 (zR 0 1 (sg 2 (mkE [(10,S p0.f0),(9,.ba 8 0),(1,.ba 8 0)] o_0 139) (co 11 [] (h52 p0.f0) (fun x1=>?_))))))
 refine sg 5 (mkE [(13,B (!x1)),(12,B (!x1)),(11,B x1),(10,S p0.f0),(9,.ba 8 0),(1,.ba 8 0)] o_0 139) (sb 13 (!x1) ?_ ?_)
 ·exact zN (mkE [(1,.ba 8 0),(8,B true)] o_0 139) (gT (.tmp 8) (zF 0 2 (mkE [(2,I 5)] [] 139)))
 ·refine sg 7 (mkE [(15,S p0.f1),(14,.ba 8 1),(13,B false),(13,B (!x1)),(12,B (!x1)),(11,B x1),(10,S p0.f0),(9,.ba 8 0),(1,.ba 8 0)] o_0 139) (co 16 [] (h52 p0.f1) (fun x2=>?_))
  refine zN (mkE [(1,.ba 8 0),(8,B (!x2))] o_0 139) (gC 8 (!x2) ?_ ?_)
  ·exact zF 0 2 (mkE [(2,I 5)] [] 139)
  ·refine zR 0 3 (sg 2 (mkE [(21,I p0.f2),(20,.ba 8 2),(1,.ba 8 0),(8,B (!x2))] o_0 139) (co 22 [] (h53 p0.f2 1 3) (fun x3=>?_)))
   refine zN (mkE [(1,.ba 8 0),(19,B (!x3))] o_0 139) (gC 19 (!x3) ?_ ?_)
   ·exact zF 0 4 (mkE [(2,I 4)] [] 139)
   ·refine zR 0 5 (sg 2 (mkE [(26,LL S p0.f3),(25,.ba 8 3),(1,.ba 8 0),(19,B (!x3))] o_0 139) (eo 27 (I (lenL p0.f3)) (lenE 37 S p0.f3) (zN (mkE [(1,.ba 8 0),(24,B (ltI 20 (lenL p0.f3)))] o_0 139) (gC 24 (ltI 20 (lenL p0.f3)) ?_ ?_))))
    ·exact zF 0 6 (mkE [(2,I 2)] [] 139)
    ·refine gK (pB (zP (gS 17 (zR 8 7 (sg 2 (mkE [(30,LL S p0.f3),(29,.ba 8 3),(1,.ba 8 0),(24,B (ltI 20 (lenL p0.f3)))] o_0 139) (eo 31 (I (lenL p0.f3)) (lenE 37 S p0.f3) (zN (mkE (s_3.append [(32,I 0)]) o_0 139) (gB 1 (lo [(1,none),(30,none),(31,none),(32,none)] [] (L50_8 p0) (fun z0:Int=>(mkE (s_3.append [(32,I z0)]) o_0 139)) (Sum.elim (fun(x:(Int×Bool))=>(.exit 1,(mkE (s_3.append ((32,I x.1)::[(33,B x.2)])) o_0 139))) (fun(x:Int)=>(.ret,(mkE [(2,I x)] [] 139)))) 0 (fun z=>L50_8_ok C h52 p0 z) ?_)))))))))
     intro y7
     refine ss y7 (Z:=(Sum.elim (fun(x:(Int×Bool))=>(.exit 1,(mkE (s_3.append ((32,I x.1)::[(33,B x.2)])) o_0 139))) (fun(x:Int)=>(.ret,(mkE [(2,I x)] [] 139))))) (fun y7a=>?_) (fun y7b=>?_)
     ·refine pH (zP (gS 23 (gB 4 (zR 0 17 (sg 5 (mkE ((65,LL S p0.f3)::((64,.ba 8 3)::((63,B (eqI p0.f2 1))::((62,I p0.f2)::((61,.ba 8 2)::(s_3.append ((32,I y7a.1)::[(33,B y7a.2)]))))))) o_0 139) (eo 66 (I (lenL p0.f3)) (lenE 37 S p0.f3) (zN (mkE [(1,.ba 8 0),(60,B ((eqI p0.f2 1) != (eqI (lenL p0.f3) 0)))] o_0 139) (gC 60 ((eqI p0.f2 1) != (eqI (lenL p0.f3) 0)) ?_ ?_))))))))
      ·exact zF 0 18 (mkE [(2,I 3)] [] 139)
      ·refine zR 0 19 (sg 2 (mkE s_0 o_0 139) (co 72 [] (h54 p0.f4) (fun x8=>?_)))
       refine sg 5 (mkE ((74,B (!x8))::((73,B (!x8))::((72,B x8)::s_0))) o_0 139) (sb 74 (!x8) ?_ ?_)
       ·exact zN (mkE [(1,.ba 8 0),(69,B true)] o_0 139) (gT (.tmp 69) (zF 0 20 (mkE [(2,I 1)] [] 139)))
       ·refine sg 13 (mkE (s_1.append ((74,B (!x8))::((73,B (!x8))::((72,B x8)::s_0)))) o_0 139) (co 83 [] (h53 p0.f5 (addI .i64 p0.f4 1) (addI .i64 p0.f4 2592000000)) (fun x9=>?_))
        refine sg 17 (mkE ((86,B (!x9))::((85,B (!x9))::((84,B (!x9))::((83,B x9)::(s_1.append ((74,B (!x8))::((73,B (!x8))::((72,B x8)::s_0)))))))) o_0 139) (sb 86 (!x9) ?_ ?_)
        ·exact zN (mkE [(1,.ba 8 0),(69,B true)] o_0 139) (gT (.tmp 69) (zF 0 20 (mkE [(2,I 1)] [] 139)))
        ·refine sg 19 (mkE ((88,I p0.f6)::((87,.ba 8 6)::((86,B false)::((86,B (!x9))::((85,B (!x9))::((84,B (!x9))::((83,B x9)::(s_1.append ((74,B (!x8))::((73,B (!x8))::((72,B x8)::s_0))))))))))) o_0 139) (co 89 [] (h53 p0.f6 1 9) (fun x10=>?_))
         refine zN (mkE [(1,.ba 8 0),(69,B (!x10))] o_0 139) (gC 69 (!x10) ?_ ?_)
         ·exact zF 0 20 (mkE [(2,I 1)] [] 139)
         ·refine zR 0 21 (sg 2 (mkE [(94,LL a43 p0.f7),(93,.ba 8 7),(1,.ba 8 0),(69,B (!x10))] o_0 139) (eo 95 (I (lenL p0.f7)) (lenE 38 a43 p0.f7) (zN (mkE [(1,.ba 8 0),(92,B (ltI 20 (lenL p0.f7)))] o_0 139) (gC 92 (ltI 20 (lenL p0.f7)) ?_ ?_))))
          ·exact zF 0 22 (mkE [(2,I 2)] [] 139)
          ·refine gK (pB (zP (gS 30 (zR 24 23 (sg 2 (mkE [(98,LL a43 p0.f7),(97,.ba 8 7),(1,.ba 8 0),(92,B (ltI 20 (lenL p0.f7)))] o_0 139) (eo 99 (I (lenL p0.f7)) (lenE 38 a43 p0.f7) (zN (mkE (s_2.append [(100,I 0)]) o_0 139) (gB 5 (lo [(1,none),(98,none),(99,none),(100,none)] [] (L50_24 p0) (fun z1:Int=>(mkE (s_2.append [(100,I z1)]) o_0 139)) (Sum.elim (fun(x:(Int×Bool))=>(.exit 5,(mkE (s_2.append ((100,I x.1)::[(101,B x.2)])) o_0 139))) (fun(x:Int)=>(.ret,(mkE [(2,I x)] [] 139)))) 0 (fun z=>L50_24_ok C h102 p0 z) ?_)))))))))
           intro y13
           refine ss y13 (Z:=(Sum.elim (fun(x:(Int×Bool))=>(.exit 5,(mkE (s_2.append ((100,I x.1)::[(101,B x.2)])) o_0 139))) (fun(x:Int)=>(.ret,(mkE [(2,I x)] [] 139))))) (fun y13a=>?_) (fun y13b=>?_)
           ·refine pH (zP (gS 36 (gB 7 (zR 0 30 (sg 5 (mkE ((115,LL a43 p0.f7)::((114,.ba 8 7)::((113,B (eqI p0.f2 3))::((112,I p0.f2)::((111,.ba 8 2)::(s_2.append ((100,I y13a.1)::[(101,B y13a.2)]))))))) o_0 139) (eo 116 (I (lenL p0.f7)) (lenE 38 a43 p0.f7) (zN (mkE [(1,.ba 8 0),(110,B ((eqI p0.f2 3) != (eqI (lenL p0.f7) 0)))] o_0 139) (gC 110 ((eqI p0.f2 3) != (eqI (lenL p0.f7) 0)) ?_ ?_))))))))
            ·exact zF 0 31 (mkE [(2,I 3)] [] 139)
            ·refine zS 0 32 (mkE [(1,.ba 8 0),(119,B (ltI 500 (lenS p0.f8)))] o_0 139) (gC 119 (ltI 500 (lenS p0.f8)) ?_ ?_)
             ·exact zF 0 33 (mkE [(2,I 2)] [] 139)
             ·refine zR 0 34 (sg 2 (mkE s_4 o_0 139) (co 127 [] (h103 p0.f8) (fun x14=>?_)))
              refine sg 5 (mkE ((129,B (!x14))::((128,B (!x14))::((127,B x14)::s_4))) o_0 139) (sb 129 (!x14) ?_ ?_)
              ·exact zN (mkE [(124,B true)] [] 139) (gT (.tmp 124) (zF 0 35 (mkE [(2,I 3)] [] 139)))
              ·refine sg 9 (mkE ((133,B (eqS p0.f8 (ByteArray.mk #[])))::((132,B (eqS p0.f8 (ByteArray.mk #[])))::((131,S p0.f8)::((130,.ba 8 8)::((129,B false)::((129,B (!x14))::((128,B (!x14))::((127,B x14)::s_4)))))))) o_0 139) (sb 133 (eqS p0.f8 (ByteArray.mk #[])) ?_ ?_)
               ·refine zN (mkE [(124,B (neI p0.f2 3))] [] 139) (gC 124 (neI p0.f2 3) ?_ ?_)
                ·exact zF 0 35 (mkE [(2,I 3)] [] 139)
                ·exact gK (pB (zP (zF 0 36 (mkE [(2,I 0)] [] 139))))
               ·exact zN (mkE [(124,B false)] [] 139) (gF (.tmp 124) (gK (pB (zP (zF 0 36 (mkE [(2,I 0)] [] 139))))))
           ·exact pL
     ·exact pL
theorem F50(m:Nat)(hm:5≤m)(p0:S39):callA Tryz.prog cfg m 50 [a39 p0]=(T50 p0).map I:=by
 obtain⟨q,rfl⟩:=sucK hm
 exact(callA_body (fn:=Tryz.f50) (c:=body_ Tryz.f50) q _ (by kernel_rfl) (by kernel_rfl) (by kernel_rfl)).trans (B50 _ (fun p0=>F102 q (by omega) p0) (fun p0=>F103 q (by omega) p0) (fun p0=>F52 q (by omega) p0) (fun p0 p1 p2=>F53 q (by omega) p0 p1 p2) (fun p0=>F54 q (by omega) p0) p0)
noncomputable def T90(p0:Int):Option Int:=(bif (ltI p0 0)then(some (-1))else(bif (ltI 0 p0)then(some 1)else(some 0)))
theorem B90(C:Callee)(p0:Int):rB C 90 Tryz.f90 (frame0 [I p0] 9 false) ((T90 p0).map I):=by
 unfold T90
 refine zS 1 0 (mkE [(0,I p0)] [] 9) (gS 5 (gB 0 (zS 0 1 (mkE [(0,I p0),(3,B (ltI p0 0))] [] 9) (gC 3 (ltI p0 0) ?_ ?_))))
 ·exact zF 0 2 (mkE [(2,I (-1))] [] 9)
 ·refine zS 0 3 (mkE [(6,B (ltI 0 p0))] [] 9) (gC 6 (ltI 0 p0) ?_ ?_)
  ·exact zF 0 4 (mkE [(2,I 1)] [] 9)
  ·exact gK (pB (zP (zF 0 5 (mkE [(2,I 0)] [] 9))))
theorem F90(m:Nat)(hm:1≤m)(p0:Int):callA Tryz.prog cfg m 90 [I p0]=(T90 p0).map I:=by
 obtain⟨q,rfl⟩:=sucK hm
 exact(callA_bodyQ (fn:=Tryz.f90) (c:=body_ Tryz.f90) q _ (by kernel_rfl) (by kernel_rfl) (by kernel_rfl)).trans (B90 _ p0)
noncomputable def T51(p0:S39)(p1:S39):Option Int:=(bif (neI p0.f4 p1.f4)then((T90 (subI .i64 p0.f4 p1.f4)).bind fun x1=>(some x1))else((T62 p0.f0 p1.f0).bind fun x2=>(some x2)))
theorem B51(C:Callee)(h62:H62 C)(h90:∀(p0:Int),C 90 [I p0]=(T90 p0).map I)(p0:S39)(p1:S39):rB C 51 Tryz.f51 (frame0 [a39 p0,a39 p1] 21 false) ((T51 p0 p1).map I):=by
 unfold T51
 let o_0:List (Nat×AObj):=[(16,.box [S p0.f0,S p0.f1,I p0.f2,LL S p0.f3,I p0.f4,I p0.f5,I p0.f6,LL a43 p0.f7,S p0.f8] false),(24,.box [S p1.f0,S p1.f1,I p1.f2,LL S p1.f3,I p1.f4,I p1.f5,I p1.f6,LL a43 p1.f7,S p1.f8] false)]
 refine zS 1 0 (mkE [(2,.ba 16 0),(3,.ba 24 0)] o_0 21) (gS 3 (zS 0 1 (mkE [(2,.ba 16 0),(3,.ba 24 0),(9,B (neI p0.f4 p1.f4))] o_0 21) (gC 9 (neI p0.f4 p1.f4) ?_ ?_)))
 ·refine zR 0 2 (sg 5 (mkE [(14,I (subI .i64 p0.f4 p1.f4)),(13,I p1.f4),(12,.ba 24 4),(11,I p0.f4),(10,.ba 16 4),(2,.ba 16 0),(3,.ba 24 0),(9,B (neI p0.f4 p1.f4))] o_0 21) (co 15 [] (h90 (subI .i64 p0.f4 p1.f4)) (fun x1=>?_)))
  exact zE (mkE [(4,I x1)] [] 21)
 ·refine gK (zP (zR 0 3 (sg 4 (mkE [(19,S p1.f0),(18,.ba 24 0),(17,S p0.f0),(16,.ba 16 0),(2,.ba 16 0),(3,.ba 24 0),(9,B (neI p0.f4 p1.f4))] o_0 21) (co 20 [] (h62 p0.f0 p1.f0) (fun x2=>?_)))))
  exact zE (mkE [(4,I x2)] [] 21)
theorem F51(m:Nat)(hm:3≤m)(p0:S39)(p1:S39):callA Tryz.prog cfg m 51 [a39 p0,a39 p1]=(T51 p0 p1).map I:=by
 obtain⟨q,rfl⟩:=sucK hm
 exact(callA_bodyQ (fn:=Tryz.f51) (c:=body_ Tryz.f51) q _ (by kernel_rfl) (by kernel_rfl) (by kernel_rfl)).trans (B51 _ (fun p0 p1=>(guard_q (by kernel_rfl) _).trans (F62 q (by omega) p0 p1)) (fun p0=>(guard_q (by kernel_rfl) _).trans (F90 q (by omega) p0)) p0 p1)
noncomputable def L17_4(p0:(List S39))(z0:Int):Option (Int⊕((Int×Bool)⊕Int)):=(bif (ltI z0 (lenL p0))then((listAt p0 z0).bind fun x1=>((T50 x1).bind fun x2=>(bif (neI x2 0)then(some (.inr (.inr x2)))else(bif (ltI 0 z0)then((listAt p0 (subI .i64 z0 1)).bind fun x3=>((T51 x3 x1).bind fun x4=>(bif (leI 0 x4)then(some (.inr (.inr 7)))else(some (.inl (addI .i64 z0 1))))))else(some (.inl (addI .i64 z0 1)))))))else(some (.inr (.inl (z0,(ltI z0 (lenL p0)))))))
abbrev H50(C:Callee):Prop:=∀(p0:S39),C 50 [a39 p0]=(T50 p0).map I
abbrev H51(C:Callee):Prop:=∀(p0:S39)(p1:S39),C 51 [a39 p0,a39 p1]=(T51 p0 p1).map I
theorem L17_4_ok(C:Callee)(h50:H50 C)(h51:H51 C)(p0:(List S39))(z0:Int):rL C 17 Tryz.f17 4 [false,false,true,false,true,true] (fun z0:Int=>(mkE [(0,LL a39 p0),(12,LL a39 p0),(13,I (lenL p0)),(14,I z0)] [] 53)) (Sum.elim (fun(x:(Int×Bool))=>(.exit 0,(mkE [(0,LL a39 p0),(12,LL a39 p0),(13,I (lenL p0)),(14,I x.1),(15,B x.2)] [] 53))) (fun(x:Int)=>(.ret,(mkE [(2,I x)] [] 53)))) (L17_4 p0 z0) z0:=by
 unfold L17_4
 let d_0:List (Option Nat×REff):=[(some 24,qe (I z0)),(some 25,qe (B (ltI 0 z0))),(some 26,qe (B true)),(some 27,qe (LL a39 p0)),(some 28,qe (I z0)),(some 29,qe (I (subI .i64 z0 1)))]
 let s_0:List (Nat×AV):=[(12,LL a39 p0),(13,I (lenL p0)),(14,I z0)]
 let s_1:List (Nat×AV):=[(29,I (subI .i64 z0 1)),(28,I z0),(27,LL a39 p0),(26,B true),(25,B (ltI 0 z0)),(24,I z0),(0,LL a39 p0),(3,I z0),(4,.ba 32 0)]
 let s_2:List (Nat×AV):=[(0,LL a39 p0),(3,I z0),(4,.ba 32 0)]
 refine zS 0 4 (mkE ((0,LL a39 p0)::(s_0.append [(15,B (ltI z0 (lenL p0)))])) [] 53) (gS 5 (gC 15 (ltI z0 (lenL p0)) ?_ ?_))
 ·refine gK (zP (gS 11 (gB 1 (zR 6 5 (sg 1 (mkE ((16,I z0)::((0,LL a39 p0)::(s_0.append [(15,B (ltI z0 (lenL p0)))]))) [] 53) (vo 17 (addrE 22 40 9 a39 .i64 p0 z0) (fun x1=>?_)))))))
  refine zN (mkE (s_2.append s_0) [(32,.box [S x1.f0,S x1.f1,I x1.f2,LL S x1.f3,I x1.f4,I x1.f5,I x1.f6,LL a43 x1.f7,S x1.f8] false)] 53) (gS 9 (zR 7 6 (sg 1 (mkE ((19,a39 x1)::(s_2.append s_0)) [(32,.box [S x1.f0,S x1.f1,I x1.f2,LL S x1.f3,I x1.f4,I x1.f5,I x1.f6,LL a43 x1.f7,S x1.f8] false)] 53) (co 20 [] (h50 x1) (fun x2=>?_)))))
  refine zN (mkE (s_2.append ((5,I x2)::s_0)) [(32,.box [S x1.f0,S x1.f1,I x1.f2,LL S x1.f3,I x1.f4,I x1.f5,I x1.f6,LL a43 x1.f7,S x1.f8] false)] 53) (zS 0 7 (mkE (s_2.append ((5,I x2)::(s_0.append [(22,B (neI x2 0))]))) [(32,.box [S x1.f0,S x1.f1,I x1.f2,LL S x1.f3,I x1.f4,I x1.f5,I x1.f6,LL a43 x1.f7,S x1.f8] false)] 53) (gC 22 (neI x2 0) ?_ ?_))
  ·exact zF 0 8 (mkE [(2,I x2)] [] 53)
  ·refine gK (zP (gS 0 (gD 9 12 (rg Tryz.f17 9) [0,1,2,3,4,5,6,7,8,9,10,11] (dg 3 [(some 24,qe (I z0)),(some 25,qe (B (ltI 0 z0))),(some 26,qe (B (ltI 0 z0)))] (db 2 26 (ltI 0 z0) ?_ ?_)))))
   ·refine dg 6 d_0 (dv 30 (mkE (s_1.append ((5,I x2)::(s_0.append [(22,B (neI x2 0))]))) [(32,.box [S x1.f0,S x1.f1,I x1.f2,LL S x1.f3,I x1.f4,I x1.f5,I x1.f6,LL a43 x1.f7,S x1.f8] false)] 53) (addrE 22 40 9 a39 .i64 p0 (subI .i64 z0 1)) (fun x3=>?_))
    refine dg 9 (d_0.append ((some 30,qe (.ia [S x3.f0,S x3.f1,I x3.f2,LL S x3.f3,I x3.f4,I x3.f5,I x3.f6,LL a43 x3.f7,S x3.f8] 0))::((some 31,qe (a39 x3))::[(some 32,qe (a39 x1))]))) (dc 33 [] (mkE ((32,a39 x1)::((31,a39 x3)::((30,.ia [S x3.f0,S x3.f1,I x3.f2,LL S x3.f3,I x3.f4,I x3.f5,I x3.f6,LL a43 x3.f7,S x3.f8] 0)::(s_1.append ((5,I x2)::(s_0.append [(22,B (neI x2 0))])))))) [(32,.box [S x1.f0,S x1.f1,I x1.f2,LL S x1.f3,I x1.f4,I x1.f5,I x1.f6,LL a43 x1.f7,S x1.f8] false)] 53) (h51 x3 x1) (fun x4=>?_))
    refine dg 12 (d_0.append ((some 30,qe (.ia [S x3.f0,S x3.f1,I x3.f2,LL S x3.f3,I x3.f4,I x3.f5,I x3.f6,LL a43 x3.f7,S x3.f8] 0))::((some 31,qe (a39 x3))::((some 32,qe (a39 x1))::((some 33,qe (I x4))::((some 34,qe (B (leI 0 x4)))::[(some 35,qe (B (leI 0 x4)))])))))) (de (mkE ((35,B (leI 0 x4))::((34,B (leI 0 x4))::((33,I x4)::((32,a39 x1)::((31,a39 x3)::((30,.ia [S x3.f0,S x3.f1,I x3.f2,LL S x3.f3,I x3.f4,I x3.f5,I x3.f6,LL a43 x3.f7,S x3.f8] 0)::(s_1.append ((5,I x2)::(s_0.append [(22,B (neI x2 0))]))))))))) [(32,.box [S x1.f0,S x1.f1,I x1.f2,LL S x1.f3,I x1.f4,I x1.f5,I x1.f6,LL a43 x1.f7,S x1.f8] false)] 53) (zN (mkE ((0,LL a39 p0)::(s_0.append [(35,B (leI 0 x4))])) [] 53) (gC 35 (leI 0 x4) ?_ ?_)))
    ·exact zF 0 10 (mkE [(2,I 7)] [] 53)
    ·exact gK (pB (zP (gR 11 (rg Tryz.f17 11) (se (mkE [(0,LL a39 p0),(12,LL a39 p0),(13,I (lenL p0)),(14,I (addI .i64 z0 1))] [] 53) (pL)))))
   ·exact dg 12 [(some 24,qe (I z0)),(some 25,qe (B (ltI 0 z0))),(some 26,qe (B false)),(some 27,qe (.und)),(some 28,qe (.und)),(some 29,qe (.und)),(some 30,qe (.und)),(some 31,qe (.und)),(some 32,qe (.und)),(some 33,qe (.und)),(some 34,qe (.und)),(some 35,qe (B false))] (de (mkE ((35,B false)::((34,.und)::((33,.und)::((32,.und)::((31,.und)::((30,.und)::((29,.und)::((28,.und)::((27,.und)::((26,B false)::((25,B (ltI 0 z0))::((24,I z0)::(s_2.append ((5,I x2)::(s_0.append [(22,B (neI x2 0))]))))))))))))))) [(32,.box [S x1.f0,S x1.f1,I x1.f2,LL S x1.f3,I x1.f4,I x1.f5,I x1.f6,LL a43 x1.f7,S x1.f8] false)] 53) (zN (mkE ((0,LL a39 p0)::(s_0.append [(35,B false)])) [] 53) (gF (.tmp 35) (gK (pB (zP (gR 11 (rg Tryz.f17 11) (se (mkE [(0,LL a39 p0),(12,LL a39 p0),(13,I (lenL p0)),(14,I (addI .i64 z0 1))] [] 53) (pL)))))))))
 ·exact gX 0 (pL)
noncomputable def L17_14(p0:(List S39))(z1:((List (ByteArray×Bool))×Int)):Option (((List (ByteArray×Bool))×Int)⊕(Int×Bool×(List (ByteArray×Bool)))):=(bif (ltI z1.2 (lenL p0))then((listAt p0 z1.2).bind fun x6=>((some (msetB eqB z1.1 x6.f0 true)).bind fun x7=>(some (.inl (x7,(addI .i64 z1.2 1))))))else(some (.inr (z1.2,(ltI z1.2 (lenL p0)),z1.1))))
theorem L17_14_ok(C:Callee)(p0:(List S39))(z1:((List (ByteArray×Bool))×Int)):rL C 17 Tryz.f17 14 [false,false,true,false,true,true,true,true] (fun z1:((List (ByteArray×Bool))×Int)=>(mkE [(0,LL a39 p0),(6,.mr 48),(38,LL a39 p0),(39,I (lenL p0)),(40,I z1.2)] [(48,MP S B z1.1 false)] 53)) (fun(x:(Int×Bool×(List (ByteArray×Bool))))=>(.exit 2,(mkE [(0,LL a39 p0),(6,.mr 48),(38,LL a39 p0),(39,I (lenL p0)),(40,I x.1),(41,B x.2.1)] [(48,MP S B x.2.2 false)] 53))) (L17_14 p0 z1) z1:=by
 unfold L17_14
 let s_0:List (Nat×AV):=[(38,LL a39 p0),(39,I (lenL p0)),(40,I z1.2)]
 refine zS 0 14 (mkE ((0,LL a39 p0)::((6,.mr 48)::(s_0.append [(41,B (ltI z1.2 (lenL p0)))]))) [(48,MP S B z1.1 false)] 53) (gS 15 (gC 41 (ltI z1.2 (lenL p0)) ?_ ?_))
 ·refine gK (zP (gS 17 (gB 3 (zR 16 15 (vo 42 (addrE 22 40 9 a39 .i64 p0 z1.2) (fun x6=>?_))))))
  refine zN (mkE ((0,LL a39 p0)::((6,.mr 48)::((8,.ba 64 0)::s_0))) [(48,MP S B z1.1 false),(64,.box [S x6.f0,S x6.f1,I x6.f2,LL S x6.f3,I x6.f4,I x6.f5,I x6.f6,LL a43 x6.f7,S x6.f8] false)] 53) (gR 16 (rg Tryz.f17 16) (sg 3 (mkE ((46,S x6.f0)::((45,.ba 64 0)::((44,.mr 48)::((0,LL a39 p0)::((6,.mr 48)::((8,.ba 64 0)::s_0)))))) [(48,MP S B z1.1 false),(64,.box [S x6.f0,S x6.f1,I x6.f2,LL S x6.f3,I x6.f4,I x6.f5,I x6.f6,LL a43 x6.f7,S x6.f8] false)] 53) (mo none (mapO_ 98 9 4 48 S B eqB z1.1 x6.f0 (B true) true [] sameS) (fun x7=>?_))))
  exact se (mkE ((0,LL a39 p0)::((6,.mr 48)::s_0)) [(48,MP S B x7 false)] 53) (pB (zP (gR 17 (rg Tryz.f17 17) (se (mkE [(0,LL a39 p0),(6,.mr 48),(38,LL a39 p0),(39,I (lenL p0)),(40,I (addI .i64 z1.2 1))] [(48,MP S B x7 false)] 53) (pL)))))
 ·exact gX 2 (pL)
noncomputable def T17(p0:(List S39)):Option Int:=(bif (ltI 300 (lenL p0))then(some 2)else((iter (L17_4 p0) 0).bind fun y5=>(Sum.elim (fun y5a=>((iter (L17_14 p0) (([]:(List (ByteArray×Bool))),0)).bind fun y8=>(bif (ltI (lenL y8.2.2) (lenL p0))then(some 6)else(some 0)))) (fun y5b=>(some y5b)) y5)))
theorem B17(C:Callee)(h50:H50 C)(h51:H51 C)(p0:(List S39)):rB C 17 Tryz.f17 (frame0 [LL a39 p0] 53 false) ((T17 p0).map I):=by
 unfold T17
 let s_0:List (Nat×AV):=[(0,LL a39 p0),(6,.mr 48),(38,LL a39 p0),(39,I (lenL p0))]
 let s_1:List (Nat×AV):=[(0,LL a39 p0),(12,LL a39 p0),(13,I (lenL p0))]
 refine zS 1 0 (mkE [(0,LL a39 p0)] [] 53) (gS 3 (zR 0 1 (sg 1 (mkE [(9,LL a39 p0),(0,LL a39 p0)] [] 53) (eo 10 (I (lenL p0)) (lenE 22 a39 p0) (zN (mkE [(0,LL a39 p0),(11,B (ltI 300 (lenL p0)))] [] 53) (gC 11 (ltI 300 (lenL p0)) ?_ ?_))))))
 ·exact zF 0 2 (mkE [(2,I 2)] [] 53)
 ·refine gK (zP (gS 12 (zR 4 3 (sg 1 (mkE [(12,LL a39 p0),(0,LL a39 p0),(11,B (ltI 300 (lenL p0)))] [] 53) (eo 13 (I (lenL p0)) (lenE 22 a39 p0) (zN (mkE (s_1.append [(14,I 0)]) [] 53) (gB 0 (lo [(0,none),(12,none),(13,none),(14,none)] [] (L17_4 p0) (fun z0:Int=>(mkE (s_1.append [(14,I z0)]) [] 53)) (Sum.elim (fun(x:(Int×Bool))=>(.exit 0,(mkE (s_1.append ((14,I x.1)::[(15,B x.2)])) [] 53))) (fun(x:Int)=>(.ret,(mkE [(2,I x)] [] 53)))) 0 (fun z=>L17_4_ok C h50 h51 p0 z) ?_))))))))
  intro y5
  refine ss y5 (Z:=(Sum.elim (fun(x:(Int×Bool))=>(.exit 0,(mkE (s_1.append ((14,I x.1)::[(15,B x.2)])) [] 53))) (fun(x:Int)=>(.ret,(mkE [(2,I x)] [] 53))))) (fun y5a=>?_) (fun y5b=>?_)
  ·refine pH (zP (zS 13 12 (mkE [(0,LL a39 p0),(6,.mr 296)] [(296,MP S B ([]:(List (ByteArray×Bool))) false)] 53) (gS 18 (zR 14 13 (sg 1 (mkE [(38,LL a39 p0),(0,LL a39 p0),(6,.mr 296)] [(296,MP S B ([]:(List (ByteArray×Bool))) false)] 53) (eo 39 (I (lenL p0)) (lenE 22 a39 p0) (zN (mkE [(0,LL a39 p0),(6,.mr 296),(38,LL a39 p0),(39,I (lenL p0)),(40,I 0)] [(296,MP S B ([]:(List (ByteArray×Bool))) false)] 53) (gB 2 (lo [(0,none),(6,none),(38,none),(39,none),(40,none)] [] (L17_14 p0) (fun z1:((List (ByteArray×Bool))×Int)=>(mkE (s_0.append [(40,I z1.2)]) [(48,MP S B z1.1 false)] 53)) (fun(x:(Int×Bool×(List (ByteArray×Bool))))=>(.exit 2,(mkE (s_0.append ((40,I x.1)::[(41,B x.2.1)])) [(48,MP S B x.2.2 false)] 53))) (([]:(List (ByteArray×Bool))),0) (fun z=>L17_14_ok C p0 z) ?_)))))))))
   intro y8
   refine pH (zP (gS 20 (zR 0 18 (sg 1 (mkE ((48,.mr 48)::(s_0.append ((40,I y8.1)::[(41,B y8.2.1)]))) [(48,MP S B y8.2.2 false)] 53) (eo 49 (I (lenL y8.2.2)) (lenME 98 48 S y8.2.2) (sg 3 (mkE ((50,LL a39 p0)::((49,I (lenL y8.2.2))::((48,.mr 48)::(s_0.append ((40,I y8.1)::[(41,B y8.2.1)]))))) [(48,MP S B y8.2.2 false)] 53) (eo 51 (I (lenL p0)) (lenE 22 a39 p0) (zN (mkE [(52,B (ltI (lenL y8.2.2) (lenL p0)))] [] 53) (gC 52 (ltI (lenL y8.2.2) (lenL p0)) ?_ ?_)))))))))
   ·exact zF 0 19 (mkE [(2,I 6)] [] 53)
   ·exact gK (zP (zF 0 20 (mkE [(2,I 0)] [] 53)))
  ·exact pL
theorem F17(m:Nat)(hm:6≤m)(p0:(List S39)):callA Tryz.prog cfg m 17 [LL a39 p0]=(T17 p0).map I:=by
 obtain⟨q,rfl⟩:=sucK hm
 exact(callA_body (fn:=Tryz.f17) (c:=body_ Tryz.f17) q _ (by kernel_rfl) (by kernel_rfl) (by kernel_rfl)).trans (B17 _ (fun p0=>F50 q (by omega) p0) (fun p0 p1=>F51 q (by omega) p0 p1) p0)
noncomputable def L18_5(p0:(List S26))(z0:(ByteArray×Int)):Option ((ByteArray×Int)⊕((ByteArray×Int×Bool)⊕Int)):=(bif (ltI z0.2 (lenL p0))then((listAt p0 z0.2).bind fun x1=>((T52 x1.f0).bind fun x2=>(bif (!x2)then(some (.inr (.inr 5)))else((T53 x1.f1 (-100000) 100000).bind fun x3=>(bif (!x3)then(some (.inr (.inr 1)))else((T53 x1.f2 (-100000) 100000).bind fun x4=>(bif (!x4)then(some (.inr (.inr 1)))else(bif (ltS x1.f0 z0.1||eqS x1.f0 z0.1)then(some (.inr (.inr 7)))else(some (.inl (x1.f0,(addI .i64 z0.2 1))))))))))))else(some (.inr (.inl (z0.1,z0.2,(ltI z0.2 (lenL p0)))))))
theorem L18_5_ok(C:Callee)(h52:H52 C)(h53:H53 C)(p0:(List S26))(z0:(ByteArray×Int)):rL C 18 Tryz.f18 5 [false,false,true,false,true,true,true] (fun z0:(ByteArray×Int)=>(mkE [(3,S z0.1),(9,LL a26 p0),(10,I (lenL p0)),(11,I z0.2)] [] 39)) (Sum.elim (fun(x:(ByteArray×Int×Bool))=>(.exit 0,(mkE [(3,S x.1),(9,LL a26 p0),(10,I (lenL p0)),(11,I x.2.1),(12,B x.2.2)] [] 39))) (fun(x:Int)=>(.ret,(mkE [(2,I x)] [] 39)))) (L18_5 p0 z0) z0:=by
 unfold L18_5
 let s_0:List (Nat×AV):=[(3,S z0.1),(5,.ba 40 0),(9,LL a26 p0),(10,I (lenL p0)),(11,I z0.2)]
 refine zS 0 5 (mkE [(3,S z0.1),(9,LL a26 p0),(10,I (lenL p0)),(11,I z0.2),(12,B (ltI z0.2 (lenL p0)))] [] 39) (gS 6 (gC 12 (ltI z0.2 (lenL p0)) ?_ ?_))
 ·refine gK (zP (gS 14 (gB 1 (zR 7 6 (vo 13 (addrE 23 27 3 a26 .i64 p0 z0.2) (fun x1=>?_))))))
  refine zN (mkE s_0 [(40,.box [S x1.f0,I x1.f1,I x1.f2] false)] 39) (gS 13 (gB 2 (zR 0 7 (sg 2 (mkE ((17,S x1.f0)::((16,.ba 40 0)::s_0)) [(40,.box [S x1.f0,I x1.f1,I x1.f2] false)] 39) (co 18 [] (h52 x1.f0) (fun x2=>?_))))))
  refine zN (mkE (s_0.append [(15,B (!x2))]) [(40,.box [S x1.f0,I x1.f1,I x1.f2] false)] 39) (gC 15 (!x2) ?_ ?_)
  ·exact zF 0 8 (mkE [(2,I 5)] [] 39)
  ·refine zR 0 9 (sg 2 (mkE ((22,I x1.f1)::((21,.ba 40 1)::(s_0.append [(15,B (!x2))]))) [(40,.box [S x1.f0,I x1.f1,I x1.f2] false)] 39) (co 23 [] (h53 x1.f1 (-100000) 100000) (fun x3=>?_)))
   refine sg 5 (mkE ((25,B (!x3))::((24,B (!x3))::((23,B x3)::((22,I x1.f1)::((21,.ba 40 1)::(s_0.append [(15,B (!x2))])))))) [(40,.box [S x1.f0,I x1.f1,I x1.f2] false)] 39) (sb 25 (!x3) ?_ ?_)
   ·exact zN (mkE (s_0.append [(20,B true)]) [(40,.box [S x1.f0,I x1.f1,I x1.f2] false)] 39) (gT (.tmp 20) (zF 0 10 (mkE [(2,I 1)] [] 39)))
   ·refine sg 7 (mkE ((27,I x1.f2)::((26,.ba 40 2)::((25,B false)::((25,B (!x3))::((24,B (!x3))::((23,B x3)::((22,I x1.f1)::((21,.ba 40 1)::(s_0.append [(15,B (!x2))]))))))))) [(40,.box [S x1.f0,I x1.f1,I x1.f2] false)] 39) (co 28 [] (h53 x1.f2 (-100000) 100000) (fun x4=>?_))
    refine zN (mkE (s_0.append [(20,B (!x4))]) [(40,.box [S x1.f0,I x1.f1,I x1.f2] false)] 39) (gC 20 (!x4) ?_ ?_)
    ·exact zF 0 10 (mkE [(2,I 1)] [] 39)
    ·refine zS 0 11 (mkE [(5,.ba 40 0),(9,LL a26 p0),(10,I (lenL p0)),(11,I z0.2),(31,B (ltS x1.f0 z0.1||eqS x1.f0 z0.1))] [(40,.box [S x1.f0,I x1.f1,I x1.f2] false)] 39) (gC 31 (ltS x1.f0 z0.1||eqS x1.f0 z0.1) ?_ ?_)
     ·exact zF 0 12 (mkE [(2,I 7)] [] 39)
     ·exact gK (pB (zP (gR 13 (rg Tryz.f18 13) (se (mkE [(3,S x1.f0),(9,LL a26 p0),(10,I (lenL p0)),(11,I z0.2)] [] 39) (pB (zP (gR 14 (rg Tryz.f18 14) (se (mkE [(3,S x1.f0),(9,LL a26 p0),(10,I (lenL p0)),(11,I (addI .i64 z0.2 1))] [] 39) (pL)))))))))
 ·exact gX 0 (pL)
noncomputable def T18(p0:(List S26)):Option Int:=(bif (ltI 500 (lenL p0))then(some 2)else((iter (L18_5 p0) ((ByteArray.mk #[]),0)).bind fun y5=>(Sum.elim (fun y5a=>(some 0)) (fun y5b=>(some y5b)) y5)))
theorem B18(C:Callee)(h52:H52 C)(h53:H53 C)(p0:(List S26)):rB C 18 Tryz.f18 (frame0 [LL a26 p0] 39 false) ((T18 p0).map I):=by
 unfold T18
 refine zS 1 0 (mkE [(0,LL a26 p0)] [] 39) (gS 3 (zR 0 1 (sg 1 (mkE [(6,LL a26 p0),(0,LL a26 p0)] [] 39) (eo 7 (I (lenL p0)) (lenE 23 a26 p0) (zN (mkE [(0,LL a26 p0),(8,B (ltI 500 (lenL p0)))] [] 39) (gC 8 (ltI 500 (lenL p0)) ?_ ?_))))))
 ·exact zF 0 2 (mkE [(2,I 2)] [] 39)
 ·refine gK (zP (zS 4 3 (mkE [(0,LL a26 p0),(3,S (ByteArray.mk #[]))] [] 39) (gS 15 (zR 5 4 (sg 1 (mkE [(9,LL a26 p0),(0,LL a26 p0),(3,S (ByteArray.mk #[]))] [] 39) (eo 10 (I (lenL p0)) (lenE 23 a26 p0) (zN (mkE [(3,S (ByteArray.mk #[])),(9,LL a26 p0),(10,I (lenL p0)),(11,I 0)] [] 39) (gB 0 (lo [(3,none),(9,none),(10,none),(11,none)] [] (L18_5 p0) (fun z0:(ByteArray×Int)=>(mkE [(3,S z0.1),(9,LL a26 p0),(10,I (lenL p0)),(11,I z0.2)] [] 39)) (Sum.elim (fun(x:(ByteArray×Int×Bool))=>(.exit 0,(mkE [(3,S x.1),(9,LL a26 p0),(10,I (lenL p0)),(11,I x.2.1),(12,B x.2.2)] [] 39))) (fun(x:Int)=>(.ret,(mkE [(2,I x)] [] 39)))) ((ByteArray.mk #[]),0) (fun z=>L18_5_ok C h52 h53 p0 z) ?_)))))))))
  intro y5
  refine ss y5 (Z:=(Sum.elim (fun(x:(ByteArray×Int×Bool))=>(.exit 0,(mkE [(3,S x.1),(9,LL a26 p0),(10,I (lenL p0)),(11,I x.2.1),(12,B x.2.2)] [] 39))) (fun(x:Int)=>(.ret,(mkE [(2,I x)] [] 39))))) (fun y5a=>?_) (fun y5b=>?_)
  ·exact pH (zP (zF 0 15 (mkE [(2,I 0)] [] 39)))
  ·exact pL
theorem F18(m:Nat)(hm:5≤m)(p0:(List S26)):callA Tryz.prog cfg m 18 [LL a26 p0]=(T18 p0).map I:=by
 obtain⟨q,rfl⟩:=sucK hm
 exact(callA_body (fn:=Tryz.f18) (c:=body_ Tryz.f18) q _ (by kernel_rfl) (by kernel_rfl) (by kernel_rfl)).trans (B18 _ (fun p0=>F52 q (by omega) p0) (fun p0 p1 p2=>F53 q (by omega) p0 p1 p2) p0)
noncomputable def T39(p0:Bool)(p1:Int):Option Int:=(bif p0 then(some p1)else(some 0))
theorem B39(C:Callee)(p0:Bool)(p1:Int):rB C 39 Tryz.f39 (frame0 [B p0,I p1] 7 false) ((T39 p0 p1).map I):=by
 unfold T39
 refine zS 1 0 (mkE [(0,B p0),(1,I p1)] [] 7) (gS 3 (zS 0 1 (mkE [(1,I p1),(5,B p0)] [] 7) (gC 5 p0 ?_ ?_)))
 ·exact zF 0 2 (mkE [(4,I p1)] [] 7)
 ·exact gK (zP (zF 0 3 (mkE [(4,I 0)] [] 7)))
theorem F39(m:Nat)(hm:1≤m)(p0:Bool)(p1:Int):callA Tryz.prog cfg m 39 [B p0,I p1]=(T39 p0 p1).map I:=by
 obtain⟨q,rfl⟩:=sucK hm
 exact(callA_body (fn:=Tryz.f39) (c:=body_ Tryz.f39) q _ (by kernel_rfl) (by kernel_rfl) (by kernel_rfl)).trans (B39 _ p0 p1)
noncomputable def T19(p0:Int):Option Int:=((T54 p0).bind fun x1=>((T39 (!x1) 1).bind fun x2=>(some x2)))
theorem B19(C:Callee)(h39:∀(p0:Bool)(p1:Int),C 39 [B p0,I p1]=(T39 p0 p1).map I)(h54:H54 C)(p0:Int):rB C 19 Tryz.f19 (frame0 [I p0] 7 false) ((T19 p0).map I):=by
 unfold T19
 refine zS 1 0 (mkE [(0,I p0)] [] 7) (zR 0 1 (sg 1 (mkE [(3,I p0),(0,I p0)] [] 7) (co 4 [] (h54 p0) (fun x1=>?_))))
 refine sg 3 (mkE [(5,B (!x1)),(4,B x1),(3,I p0),(0,I p0)] [] 7) (co 6 [] (h39 (!x1) 1) (fun x2=>?_))
 exact zE (mkE [(2,I x2)] [] 7)
theorem F19(m:Nat)(hm:3≤m)(p0:Int):callA Tryz.prog cfg m 19 [I p0]=(T19 p0).map I:=by
 obtain⟨q,rfl⟩:=sucK hm
 exact(callA_body (fn:=Tryz.f19) (c:=body_ Tryz.f19) q _ (by kernel_rfl) (by kernel_rfl) (by kernel_rfl)).trans (B19 _ (fun p0 p1=>F39 q (by omega) p0 p1) (fun p0=>F54 q (by omega) p0) p0)
noncomputable def L16_2(p0:(List Int))(z0:Int):Option (Int⊕((Int×Bool)⊕Int)):=(bif (ltI z0 (lenL p0))then((listAt p0 z0).bind fun x1=>(bif (neI x1 0)then(some (.inr (.inr x1)))else(some (.inl (addI .i64 z0 1)))))else(some (.inr (.inl (z0,(ltI z0 (lenL p0)))))))
theorem L16_2_ok(C:Callee)(p0:(List Int))(z0:Int):rL C 16 Tryz.f16 2 [false,false,true,false,true] (fun z0:Int=>(mkE [(5,LL I p0),(6,I (lenL p0)),(7,I z0)] [] 15)) (Sum.elim (fun(x:(Int×Bool))=>(.exit 0,(mkE [(5,LL I p0),(6,I (lenL p0)),(7,I x.1),(8,B x.2)] [] 15))) (fun(x:Int)=>(.ret,(mkE [(2,I x)] [] 15)))) (L16_2 p0 z0) z0:=by
 unfold L16_2
 refine zS 0 2 (mkE [(5,LL I p0),(6,I (lenL p0)),(7,I z0),(8,B (ltI z0 (lenL p0)))] [] 15) (gS 3 (gC 8 (ltI z0 (lenL p0)) ?_ ?_))
 ·refine gK (zP (gS 6 (gB 1 (zR 4 3 (vo 9 (addrE 95 46 1 I .i64 p0 z0) (fun x1=>?_))))))
  refine zN (mkE [(4,I x1),(5,LL I p0),(6,I (lenL p0)),(7,I z0)] [] 15) (zS 0 4 (mkE [(4,I x1),(5,LL I p0),(6,I (lenL p0)),(7,I z0),(12,B (neI x1 0))] [] 15) (gC 12 (neI x1 0) ?_ ?_))
  ·exact zF 0 5 (mkE [(2,I x1)] [] 15)
  ·exact gK (pB (zP (gR 6 (rg Tryz.f16 6) (se (mkE [(5,LL I p0),(6,I (lenL p0)),(7,I (addI .i64 z0 1))] [] 15) (pL)))))
 ·exact gX 0 (pL)
noncomputable def T16(p0:(List Int)):Option Int:=((iter (L16_2 p0) 0).bind fun y2=>(Sum.elim (fun y2a=>(some 0)) (fun y2b=>(some y2b)) y2))
theorem B16(C:Callee)(p0:(List Int)):rB C 16 Tryz.f16 (frame0 [LL I p0] 15 false) ((T16 p0).map I):=by
 unfold T16
 refine zS 1 0 (mkE [(0,LL I p0)] [] 15) (gS 7 (zR 2 1 (sg 1 (mkE [(5,LL I p0),(0,LL I p0)] [] 15) (eo 6 (I (lenL p0)) (lenE 95 I p0) (zN (mkE [(5,LL I p0),(6,I (lenL p0)),(7,I 0)] [] 15) (gB 0 (lo [(5,none),(6,none),(7,none)] [] (L16_2 p0) (fun z0:Int=>(mkE [(5,LL I p0),(6,I (lenL p0)),(7,I z0)] [] 15)) (Sum.elim (fun(x:(Int×Bool))=>(.exit 0,(mkE [(5,LL I p0),(6,I (lenL p0)),(7,I x.1),(8,B x.2)] [] 15))) (fun(x:Int)=>(.ret,(mkE [(2,I x)] [] 15)))) 0 (fun z=>L16_2_ok C p0 z) ?_)))))))
 intro y2
 refine ss y2 (Z:=(Sum.elim (fun(x:(Int×Bool))=>(.exit 0,(mkE [(5,LL I p0),(6,I (lenL p0)),(7,I x.1),(8,B x.2)] [] 15))) (fun(x:Int)=>(.ret,(mkE [(2,I x)] [] 15))))) (fun y2a=>?_) (fun y2b=>?_)
 ·exact pH (zP (zF 0 7 (mkE [(2,I 0)] [] 15)))
 ·exact pL
theorem F16(m:Nat)(hm:1≤m)(p0:(List Int)):callA Tryz.prog cfg m 16 [LL I p0]=(T16 p0).map I:=by
 obtain⟨q,rfl⟩:=sucK hm
 exact(callA_body (fn:=Tryz.f16) (c:=body_ Tryz.f16) q _ (by kernel_rfl) (by kernel_rfl) (by kernel_rfl)).trans (B16 _ p0)
noncomputable def L159_2(p0:(List ByteArray))(p1:ByteArray)(z0:Int):Option (Int⊕((Int×Bool)⊕Int)):=(bif (ltI z0 (lenL p0))then((listAt p0 z0).bind fun x1=>(bif (eqS p1 x1)then(some (.inr (.inr z0)))else(some (.inl (addI .i64 z0 1)))))else(some (.inr (.inl (z0,(ltI z0 (lenL p0)))))))
theorem L159_2_ok(C:Callee)(p0:(List ByteArray))(p1:ByteArray)(z0:Int):rL C 159 Tryz.f159 2 [false,false,true,false,true] (fun z0:Int=>(mkE [(0,LL S p0),(1,S p1),(7,I (lenL p0)),(8,I z0)] [] 19)) (Sum.elim (fun(x:(Int×Bool))=>(.exit 0,(mkE [(0,LL S p0),(1,S p1),(7,I (lenL p0)),(8,I x.1),(9,B x.2)] [] 19))) (fun(x:Int)=>(.ret,(mkE [(4,I x)] [] 19)))) (L159_2 p0 p1 z0) z0:=by
 unfold L159_2
 refine zS 0 2 (mkE [(0,LL S p0),(1,S p1),(7,I (lenL p0)),(8,I z0),(9,B (ltI z0 (lenL p0)))] [] 19) (gS 3 (gC 9 (ltI z0 (lenL p0)) ?_ ?_))
 ·refine gK (zP (gS 6 (gB 1 (zS 4 3 (mkE [(0,LL S p0),(1,S p1),(5,I z0),(7,I (lenL p0)),(8,I z0)] [] 19) (zR 0 4 (sg 3 (mkE [(13,I z0),(12,LL S p0),(11,S p1),(0,LL S p0),(1,S p1),(5,I z0),(7,I (lenL p0)),(8,I z0)] [] 19) (vo 14 (addrE 37 9 1 S .i64 p0 z0) (fun x1=>?_))))))))
  refine zN (mkE [(0,LL S p0),(1,S p1),(5,I z0),(7,I (lenL p0)),(8,I z0),(16,B (eqS p1 x1))] [] 19) (gC 16 (eqS p1 x1) ?_ ?_)
  ·exact zF 0 5 (mkE [(4,I z0)] [] 19)
  ·exact gK (pB (zP (gR 6 (rg Tryz.f159 6) (se (mkE [(0,LL S p0),(1,S p1),(7,I (lenL p0)),(8,I (addI .i64 z0 1))] [] 19) (pL)))))
 ·exact gX 0 (pL)
noncomputable def T159(p0:(List ByteArray))(p1:ByteArray):Option Int:=((iter (L159_2 p0 p1) 0).bind fun y2=>(Sum.elim (fun y2a=>(some (-1))) (fun y2b=>(some y2b)) y2))
theorem B159(C:Callee)(p0:(List ByteArray))(p1:ByteArray):rB C 159 Tryz.f159 (frame0 [LL S p0,S p1] 19 false) ((T159 p0 p1).map I):=by
 unfold T159
 refine zS 1 0 (mkE [(0,LL S p0),(1,S p1)] [] 19) (gS 7 (zR 2 1 (sg 1 (mkE [(6,LL S p0),(0,LL S p0),(1,S p1)] [] 19) (eo 7 (I (lenL p0)) (lenE 37 S p0) (zN (mkE [(0,LL S p0),(1,S p1),(7,I (lenL p0)),(8,I 0)] [] 19) (gB 0 (lo [(0,none),(1,none),(7,none),(8,none)] [] (L159_2 p0 p1) (fun z0:Int=>(mkE [(0,LL S p0),(1,S p1),(7,I (lenL p0)),(8,I z0)] [] 19)) (Sum.elim (fun(x:(Int×Bool))=>(.exit 0,(mkE [(0,LL S p0),(1,S p1),(7,I (lenL p0)),(8,I x.1),(9,B x.2)] [] 19))) (fun(x:Int)=>(.ret,(mkE [(4,I x)] [] 19)))) 0 (fun z=>L159_2_ok C p0 p1 z) ?_)))))))
 intro y2
 refine ss y2 (Z:=(Sum.elim (fun(x:(Int×Bool))=>(.exit 0,(mkE [(0,LL S p0),(1,S p1),(7,I (lenL p0)),(8,I x.1),(9,B x.2)] [] 19))) (fun(x:Int)=>(.ret,(mkE [(4,I x)] [] 19))))) (fun y2a=>?_) (fun y2b=>?_)
 ·exact pH (zP (zF 0 7 (mkE [(4,I (-1))] [] 19)))
 ·exact pL
theorem F159(m:Nat)(hm:1≤m)(p0:(List ByteArray))(p1:ByteArray):callA Tryz.prog cfg m 159 [LL S p0,S p1]=(T159 p0 p1).map I:=by
 obtain⟨q,rfl⟩:=sucK hm
 exact(callA_body (fn:=Tryz.f159) (c:=body_ Tryz.f159) q _ (by kernel_rfl) (by kernel_rfl) (by kernel_rfl)).trans (B159 _ p0 p1)
noncomputable def T118(p0:(List ByteArray))(p1:ByteArray):Option Bool:=((T159 p0 p1).bind fun x1=>(some (leI 0 x1)))
theorem B118(C:Callee)(h159:∀(p0:(List ByteArray))(p1:ByteArray),C 159 [LL S p0,S p1]=(T159 p0 p1).map I)(p0:(List ByteArray))(p1:ByteArray):rB C 118 Tryz.f118 (frame0 [LL S p0,S p1] 9 false) ((T118 p0 p1).map B):=by
 unfold T118
 refine zS 1 0 (mkE [(0,LL S p0),(1,S p1)] [] 9) (zR 0 1 (sg 2 (mkE [(6,S p1),(5,LL S p0),(0,LL S p0),(1,S p1)] [] 9) (co 7 [] (h159 p0 p1) (fun x1=>?_))))
 exact zE (mkE [(4,B (leI 0 x1))] [] 9)
theorem F118(m:Nat)(hm:2≤m)(p0:(List ByteArray))(p1:ByteArray):callA Tryz.prog cfg m 118 [LL S p0,S p1]=(T118 p0 p1).map B:=by
 obtain⟨q,rfl⟩:=sucK hm
 exact(callA_body (fn:=Tryz.f118) (c:=body_ Tryz.f118) q _ (by kernel_rfl) (by kernel_rfl) (by kernel_rfl)).trans (B118 _ (fun p0 p1=>F159 q (by omega) p0 p1) p0 p1)
noncomputable def T160(p0:S39)(p1_c0:ByteArray)(p2_c0:ByteArray)(p2_c1:ByteArray)(p2_c2:Int)(p2_c3:(List ByteArray))(p2_c4:Int)(p2_c5:Int)(p2_c6:Int)(p2_c7:(List S43))(p2_c8:ByteArray):Option Bool:=(bif (eqS p0.f0 p1_c0)then(bif (eqS p0.f1 p2_c1)then((T51 p0 (S39.mk p2_c0 p2_c1 p2_c2 p2_c3 p2_c4 p2_c5 p2_c6 p2_c7 p2_c8)).bind fun x1=>(some (ltI x1 0)))else(some false))else(some false))
theorem B160(C:Callee)(h51:H51 C)(p0:S39)(p1_c0:ByteArray)(p2_c0:ByteArray)(p2_c1:ByteArray)(p2_c2:Int)(p2_c3:(List ByteArray))(p2_c4:Int)(p2_c5:Int)(p2_c6:Int)(p2_c7:(List S43))(p2_c8:ByteArray):rB C 160 Tryz.f160 (frame0 [a39 p0,.ia [S p1_c0] 0,.ia [S p2_c0,S p2_c1,I p2_c2,LL S p2_c3,I p2_c4,I p2_c5,I p2_c6,LL a43 p2_c7,S p2_c8] 0] 22 false) ((T160 p0 p1_c0 p2_c0 p2_c1 p2_c2 p2_c3 p2_c4 p2_c5 p2_c6 p2_c7 p2_c8).map B):=by
 unfold T160
 let s_0:List (Nat×AV):=[(16,B (eqS p0.f1 p2_c1)),(15,B (eqS p0.f1 p2_c1)),(14,B (eqS p0.f1 p2_c1)),(13,S p2_c1),(12,.ia [S p2_c0,S p2_c1,I p2_c2,LL S p2_c3,I p2_c4,I p2_c5,I p2_c6,LL a43 p2_c7,S p2_c8] 1),(11,S p0.f1),(10,.ba 24 1),(9,B true),(9,B (eqS p0.f0 p1_c0)),(8,B (eqS p0.f0 p1_c0)),(7,S p1_c0),(6,S p0.f0),(5,.ba 24 0),(1,.ia [S p1_c0] 0),(2,.ia [S p2_c0,S p2_c1,I p2_c2,LL S p2_c3,I p2_c4,I p2_c5,I p2_c6,LL a43 p2_c7,S p2_c8] 0),(3,.ba 24 0)]
 let s_1:List (Nat×AV):=[(1,.ia [S p1_c0] 0),(2,.ia [S p2_c0,S p2_c1,I p2_c2,LL S p2_c3,I p2_c4,I p2_c5,I p2_c6,LL a43 p2_c7,S p2_c8] 0),(3,.ba 24 0)]
 let o_0:List (Nat×AObj):=[(24,.box [S p0.f0,S p0.f1,I p0.f2,LL S p0.f3,I p0.f4,I p0.f5,I p0.f6,LL a43 p0.f7,S p0.f8] false)]
 refine zS 1 0 (mkE s_1 o_0 22) (zR 0 1 (sg 5 (mkE ((9,B (eqS p0.f0 p1_c0))::((8,B (eqS p0.f0 p1_c0))::((7,S p1_c0)::((6,S p0.f0)::((5,.ba 24 0)::s_1))))) o_0 22) (sb 9 (eqS p0.f0 p1_c0) ?_ ?_)))
 ·refine sg 12 (mkE s_0 o_0 22) (sb 16 (eqS p0.f1 p2_c1) ?_ ?_)
  ·refine sg 14 (mkE ((18,.agg [S p2_c0,S p2_c1,I p2_c2,LL S p2_c3,I p2_c4,I p2_c5,I p2_c6,LL a43 p2_c7,S p2_c8])::((17,a39 p0)::((16,B true)::s_0))) o_0 22) (co 19 [] (h51 p0 (S39.mk p2_c0 p2_c1 p2_c2 p2_c3 p2_c4 p2_c5 p2_c6 p2_c7 p2_c8)) (fun x1=>?_))
   exact zE (mkE [(4,B (ltI x1 0))] [] 22)
  ·exact zE (mkE [(4,B false)] [] 22)
 ·exact zE (mkE [(4,B false)] [] 22)
theorem F160(m:Nat)(hm:4≤m)(p0:S39)(p1_c0:ByteArray)(p2_c0:ByteArray)(p2_c1:ByteArray)(p2_c2:Int)(p2_c3:(List ByteArray))(p2_c4:Int)(p2_c5:Int)(p2_c6:Int)(p2_c7:(List S43))(p2_c8:ByteArray):callA Tryz.prog cfg m 160 [a39 p0,.ia [S p1_c0] 0,.ia [S p2_c0,S p2_c1,I p2_c2,LL S p2_c3,I p2_c4,I p2_c5,I p2_c6,LL a43 p2_c7,S p2_c8] 0]=(T160 p0 p1_c0 p2_c0 p2_c1 p2_c2 p2_c3 p2_c4 p2_c5 p2_c6 p2_c7 p2_c8).map B:=by
 obtain⟨q,rfl⟩:=sucK hm
 exact(callA_body (fn:=Tryz.f160) (c:=body_ Tryz.f160) q _ (by kernel_rfl) (by kernel_rfl) (by kernel_rfl)).trans (B160 _ (fun p0 p1=>F51 q (by omega) p0 p1) p0 p1_c0 p2_c0 p2_c1 p2_c2 p2_c3 p2_c4 p2_c5 p2_c6 p2_c7 p2_c8)
end Go.Abs.TUS
