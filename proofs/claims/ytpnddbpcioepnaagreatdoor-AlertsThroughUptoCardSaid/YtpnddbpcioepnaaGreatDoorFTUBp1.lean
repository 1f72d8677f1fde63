import Derived.Test.YtpnddbpcioepnaaGreatDoorFTUB0
set_option maxRecDepth 100000
set_option linter.unusedVariables false
namespace Go.Abs.TUB
open Go.RowKit Go.Proofs Go.Abs
theorem F46(m:Nat)(hm:1≤m)(p0:(List ByteArray)):callA Tryz.prog cfg m 46 [LL S p0]=(appO 16 ([]:List ByteArray) p0).map (fun l=>AV.fr 9 1 (List.map S l)):=by
 obtain⟨q,rfl⟩:=sucK hm
 exact(callA_leaf (L:=(leafClone Tryz.prog 9 1 16)) _ _ (by kernel_rfl)).trans (clone_leaf S _ _ (fun _=>by kernel_rfl))
theorem F47(m:Nat)(hm:1≤m)(p0:(List S64)):callA Tryz.prog cfg m 47 [LL a64 p0]=(appO 32 ([]:List S64) p0).map (fun l=>AV.fr 65 4 (List.map a64 l)):=by
 obtain⟨q,rfl⟩:=sucK hm
 exact(callA_leaf (L:=(leafClone Tryz.prog 65 4 32)) _ _ (by kernel_rfl)).trans (clone_leaf a64 _ _ (fun _=>by kernel_rfl))
noncomputable def L17_3(p0:(List S46))(z0:((List S46)×Int)):Option (((List S46)×Int)⊕(Int×Bool×(List S46))):=(bif (ltI z0.2 (lenL p0))then((listAt p0 z0.2).bind fun x1=>((appO 16 ([]:List ByteArray) x1.f3).bind fun x2=>((appO 32 ([]:List S64) x1.f7).bind fun x3=>((appO 128 z0.1 ([(S46.mk x1.f0 x1.f1 x1.f2 x2 x1.f4 x1.f5 x1.f6 x3 x1.f8)]:List S46)).bind fun x4=>(some (.inl (x4,(addI .i64 z0.2 1))))))))else(some (.inr (z0.2,(ltI z0.2 (lenL p0)),z0.1))))
abbrev H46(C:Callee):Prop:=∀(p0:(List ByteArray)),C 46 [LL S p0]=(appO 16 ([]:List ByteArray) p0).map (fun l=>AV.fr 9 1 (List.map S l))
abbrev H47(C:Callee):Prop:=∀(p0:(List S64)),C 47 [LL a64 p0]=(appO 32 ([]:List S64) p0).map (fun l=>AV.fr 65 4 (List.map a64 l))
theorem L17_3_ok(C:Callee)(h46:H46 C)(h47:H47 C)(p0:(List S46))(z0:((List S46)×Int)):rL C 17 Tryz.f17 3 [false,false,true,false,true,true] (fun z0:((List S46)×Int)=>(mkE [(3,.own 24 0),(6,LL a46 p0),(7,I (lenL p0)),(8,I z0.2)] [(24,RR 47 9 a46 z0.1 0 false)] 26)) (fun(x:(Int×Bool×(List S46)))=>(.exit 0,(mkE [(3,.own 24 0),(6,LL a46 p0),(7,I (lenL p0)),(8,I x.1),(9,B x.2.1)] [(24,RR 47 9 a46 x.2.2 0 false)] 26))) (L17_3 p0 z0) z0:=by
 unfold L17_3
 let s_0:List (Nat×AV):=[(3,.own 24 0),(5,.ba 40 0),(6,LL a46 p0),(7,I (lenL p0)),(8,I z0.2)]
 let o_0:List (Nat×AObj):=[(24,RR 47 9 a46 z0.1 0 false)]
 refine zS 0 3 (mkE [(3,.own 24 0),(6,LL a46 p0),(7,I (lenL p0)),(8,I z0.2),(9,B (ltI z0.2 (lenL p0)))] o_0 26) (gS 4 (gC 9 (ltI z0.2 (lenL p0)) ?_ ?_))
 ·refine gK (zP (gS 7 (gB 1 (zR 5 4 (vo 10 (addrE 26 47 9 a46 .i64 p0 z0.2) (fun x1=>?_))))))
  refine zN (mkE s_0 (o_0.append [(40,.box [S x1.f0,S x1.f1,I x1.f2,LL S x1.f3,I x1.f4,I x1.f5,I x1.f6,LL a64 x1.f7,S x1.f8] false)]) 26) (gS 6 (gD 5 7 (rg Tryz.f17 5) [0,1,2,3,4,5,6,7,8,9] (dg 2 [(some 12,qe (.ba 40 3)),(some 13,qe (LL S x1.f3))] (dc 14 [] (mkE ((13,LL S x1.f3)::((12,.ba 40 3)::s_0)) (o_0.append [(40,.box [S x1.f0,S x1.f1,I x1.f2,LL S x1.f3,I x1.f4,I x1.f5,I x1.f6,LL a64 x1.f7,S x1.f8] false)]) 26) (h46 x1.f3) (fun x2=>?_)))))
  refine dg 5 [(some 12,qe (.ba 40 3)),(some 13,qe (LL S x1.f3)),(some 14,{ e:={ val:= .own 112 0,news:=[(112,RR 9 1 S x2 0 false)] } }),(some 15,qe (.ba 40 7)),(some 16,qe (LL a64 x1.f7))] (dc 17 [] (mkE ((16,LL a64 x1.f7)::((15,.ba 40 7)::((14,.own 112 0)::((13,LL S x1.f3)::((12,.ba 40 3)::s_0))))) ((112,RR 9 1 S x2 0 false)::(o_0.append [(40,.box [S x1.f0,S x1.f1,I x1.f2,LL S x1.f3,I x1.f4,I x1.f5,I x1.f6,LL a64 x1.f7,S x1.f8] false)])) 26) (h47 x1.f7) (fun x3=>?_))
  refine dg 7 [(some 12,qe (.ba 40 3)),(some 13,qe (LL S x1.f3)),(some 14,{ e:={ val:= .own 112 0,news:=[(112,RR 9 1 S x2 0 false)] } }),(some 15,qe (.ba 40 7)),(some 16,qe (LL a64 x1.f7)),(some 17,{ e:={ val:= .own 136 0,news:=[(136,RR 65 4 a64 x3 0 false)] } }),(some 18,qe (.ba 40 3))] (de (mkE ((18,.ba 40 3)::((17,.own 136 0)::((16,LL a64 x1.f7)::((15,.ba 40 7)::((14,.own 112 0)::((13,LL S x1.f3)::((12,.ba 40 3)::s_0))))))) ((136,RR 65 4 a64 x3 0 false)::((112,RR 9 1 S x2 0 false)::(o_0.append [(40,.box [S x1.f0,S x1.f1,I x1.f2,LL S x1.f3,I x1.f4,I x1.f5,I x1.f6,LL a64 x1.f7,S x1.f8] false)]))) 26) (zN (mkE s_0 (o_0.append ((40,.box [S x1.f0,S x1.f1,I x1.f2,.own 112 0,I x1.f4,I x1.f5,I x1.f6,.own 136 0,S x1.f8] false)::((112,RR 9 1 S x2 0 false)::[(136,RR 65 4 a64 x3 0 false)]))) 26) (gR 6 (rg Tryz.f17 6) (sg 3 (mkE ((22,.own 176 0)::((21,.agg [S x1.f0,S x1.f1,I x1.f2,.own 112 0,I x1.f4,I x1.f5,I x1.f6,.own 136 0,S x1.f8])::((20,.own 24 0)::s_0))) ((176,RR 47 9 a46 ([(S46.mk x1.f0 x1.f1 x1.f2 x2 x1.f4 x1.f5 x1.f6 x3 x1.f8)]:List S46) 0 false)::((136,RR 65 4 a64 x3 0 true)::((112,RR 9 1 S x2 0 true)::(o_0.append ((40,.box [S x1.f0,S x1.f1,I x1.f2,.own 112 0,I x1.f4,I x1.f5,I x1.f6,.own 136 0,S x1.f8] false)::((112,RR 9 1 S x2 0 false)::[(136,RR 65 4 a64 x3 0 false)])))))) 26) (mo (some 23) (apO 26 47 9 128 24 a46 0 [176] (y:= .own 176 0) (l2:=([(S46.mk x1.f0 x1.f1 x1.f2 x2 x1.f4 x1.f5 x1.f6 x3 x1.f8)]:List S46))) (fun x4=>?_))))))
  exact se (mkE [(3,.own 24 1),(6,LL a46 p0),(7,I (lenL p0)),(8,I z0.2)] [(24,RR 47 9 a46 x4 1 false)] 26) (pB (zP (gR 7 (rg Tryz.f17 7) (se (mkE [(3,.own 24 1),(6,LL a46 p0),(7,I (lenL p0)),(8,I (addI .i64 z0.2 1))] [(24,RR 47 9 a46 x4 1 false)] 26) (pL)))))
 ·exact gX 0 (pL)
noncomputable def T17(p0:(List S46)):Option (List S46):=((iter (L17_3 p0) ([],0)).bind fun y5=>(some y5.2.2))
theorem B17(C:Callee)(h46:H46 C)(h47:H47 C)(p0:(List S46)):rB C 17 Tryz.f17 (frame0 [LL a46 p0] 26 false) ((T17 p0).map (fun l=>AV.fr 47 9 (List.map a46 l))):=by
 unfold T17
 refine zS 1 0 (mkE [(0,LL a46 p0)] [] 26) (zS 2 1 (mkE [(0,LL a46 p0),(3,.nils)] [] 26) (gS 8 (zR 3 2 (sg 1 (mkE [(6,LL a46 p0),(0,LL a46 p0),(3,.nils)] [] 26) (eo 7 (I (lenL p0)) (lenE 26 a46 p0) (zN (mkE [(3,.nils),(6,LL a46 p0),(7,I (lenL p0)),(8,I 0)] [] 26) (gB 0 (lo [(3,some (47,9)),(6,none),(7,none),(8,none)] [] (L17_3 p0) (fun z0:((List S46)×Int)=>(mkE [(3,.own 24 0),(6,LL a46 p0),(7,I (lenL p0)),(8,I z0.2)] [(24,RR 47 9 a46 z0.1 0 false)] 26)) (fun(x:(Int×Bool×(List S46)))=>(.exit 0,(mkE [(3,.own 24 0),(6,LL a46 p0),(7,I (lenL p0)),(8,I x.1),(9,B x.2.1)] [(24,RR 47 9 a46 x.2.2 0 false)] 26))) ([],0) (fun z=>L17_3_ok C h46 h47 p0 z) ?_))))))))
 intro y5
 exact pH (zP (zF 0 8 (mkE [(2,.own 24 0)] [(24,RR 47 9 a46 y5.2.2 0 false)] 26)))
theorem F17(m:Nat)(hm:2≤m)(p0:(List S46)):callA Tryz.prog cfg m 17 [LL a46 p0]=(T17 p0).map (fun l=>AV.fr 47 9 (List.map a46 l)):=by
 obtain⟨q,rfl⟩:=sucK hm
 exact(callA_body (fn:=Tryz.f17) (c:=body_ Tryz.f17) q _ (by kernel_rfl) (by kernel_rfl) (by kernel_rfl)).trans (B17 _ (fun p0=>F46 q (by omega) p0) (fun p0=>F47 q (by omega) p0) p0)
theorem F20(m:Nat)(hm:1≤m)(p0:(List S32)):callA Tryz.prog cfg m 20 [LL a32 p0]=(appO 32 ([]:List S32) p0).map (fun l=>AV.fr 33 3 (List.map a32 l)):=by
 obtain⟨q,rfl⟩:=sucK hm
 exact(callA_leaf (L:=(leafClone Tryz.prog 33 3 32)) _ _ (by kernel_rfl)).trans (clone_leaf a32 _ _ (fun _=>by kernel_rfl))
noncomputable def L108_2(p0:ByteArray)(z0:Int):Option (Int⊕((Int×Bool)⊕Unit)):=(bif (ltI z0 (lenS p0))then((byteAt p0 z0).bind fun x1=>(bif (leI 97 x1)then(bif (leI x1 122)then(some (.inl (addI .i64 z0 1)))else(bif (ltI 0 z0)then(bif (leI 48 x1)then(bif (leI x1 57)then(some (.inl (addI .i64 z0 1)))else(bif (eqI x1 45)then(some (.inl (addI .i64 z0 1)))else(bif (!(eqI x1 95))then(some (.inr (.inr ())))else(some (.inl (addI .i64 z0 1))))))else(bif (eqI x1 45)then(some (.inl (addI .i64 z0 1)))else(bif (!(eqI x1 95))then(some (.inr (.inr ())))else(some (.inl (addI .i64 z0 1))))))else(some (.inr (.inr ())))))else(bif (ltI 0 z0)then(bif (leI 48 x1)then(bif (leI x1 57)then(some (.inl (addI .i64 z0 1)))else(bif (eqI x1 45)then(some (.inl (addI .i64 z0 1)))else(bif (!(eqI x1 95))then(some (.inr (.inr ())))else(some (.inl (addI .i64 z0 1))))))else(bif (eqI x1 45)then(some (.inl (addI .i64 z0 1)))else(bif (!(eqI x1 95))then(some (.inr (.inr ())))else(some (.inl (addI .i64 z0 1))))))else(some (.inr (.inr ()))))))else(some (.inr (.inl (z0,(ltI z0 (lenS p0)))))))
theorem L108_2_ok(C:Callee)(p0:ByteArray)(z0:Int):rL C 108 Tryz.f108 2 [false,false,true,false,true] (fun z0:Int=>(mkE [(0,S p0),(3,I z0)] [] 48)) (Sum.elim (fun(x:(Int×Bool))=>(.exit 0,(mkE [(0,S p0),(3,I x.1),(8,B x.2)] [] 48))) (fun(x:Unit)=>(.ret,(mkE [(2,B false)] [] 48)))) (L108_2 p0 z0) z0:=by
 unfold L108_2
 let s_0:List (Nat×AV):=[(23,B (ltI 0 z0)),(22,B (ltI 0 z0)),(21,I z0),(20,B false)]
 let s_1:List (Nat×AV):=[(0,S p0),(3,I z0)]
 let s_2:List (Nat×AV):=[(0,S p0),(3,I (addI .i64 z0 1))]
 let s_3:List (Nat×AV):=[(19,B false),(18,.und),(17,.und),(16,B false)]
 refine gS 4 (zS 0 2 (mkE (s_1.append [(8,B (ltI z0 (lenS p0)))]) [] 48) (gC 8 (ltI z0 (lenS p0)) ?_ ?_))
 ·refine gK (zP (gS 3 (gB 1 (zR 5 4 (sg 2 (mkE ((12,I z0)::((11,S p0)::(s_1.append [(8,B (ltI z0 (lenS p0)))]))) [] 48) (vo 13 (byteE 9 .i64 p0 z0) (fun x1=>?_)))))))
  refine zN (mkE (s_1.append [(4,U x1)]) [] 48) (zR 0 5 (sg 3 (mkE ((16,B (leI 97 x1))::((15,B (leI 97 x1))::((14,U x1)::(s_1.append [(4,U x1)])))) [] 48) (sb 16 (leI 97 x1) ?_ ?_)))
  ·refine sg 7 (mkE ((20,B (leI x1 122))::((19,B (leI x1 122))::((18,B (leI x1 122))::((17,U x1)::((16,B true)::((16,B (leI 97 x1))::((15,B (leI 97 x1))::((14,U x1)::(s_1.append [(4,U x1)]))))))))) [] 48) (sb 20 (leI x1 122) ?_ ?_)
   ·exact zN (mkE (s_1.append [(40,B false)]) [] 48) (gF (.tmp 40) (gK (pB (zP (gR 3 (rg Tryz.f108 3) (se (mkE s_2 [] 48) (pL)))))))
   ·refine sg 10 (mkE (s_0.append ((20,B (leI x1 122))::((19,B (leI x1 122))::((18,B (leI x1 122))::((17,U x1)::((16,B true)::((16,B (leI 97 x1))::((15,B (leI 97 x1))::((14,U x1)::(s_1.append [(4,U x1)])))))))))) [] 48) (sb 23 (ltI 0 z0) ?_ ?_)
    ·refine sg 13 (mkE ((26,B (leI 48 x1))::((25,B (leI 48 x1))::((24,U x1)::((23,B true)::(s_0.append ((20,B (leI x1 122))::((19,B (leI x1 122))::((18,B (leI x1 122))::((17,U x1)::((16,B true)::((16,B (leI 97 x1))::((15,B (leI 97 x1))::((14,U x1)::(s_1.append [(4,U x1)])))))))))))))) [] 48) (sb 26 (leI 48 x1) ?_ ?_)
     ·refine sg 17 (mkE ((30,B (leI x1 57))::((29,B (leI x1 57))::((28,B (leI x1 57))::((27,U x1)::((26,B true)::((26,B (leI 48 x1))::((25,B (leI 48 x1))::((24,U x1)::((23,B true)::(s_0.append ((20,B (leI x1 122))::((19,B (leI x1 122))::((18,B (leI x1 122))::((17,U x1)::((16,B true)::((16,B (leI 97 x1))::((15,B (leI 97 x1))::((14,U x1)::(s_1.append [(4,U x1)]))))))))))))))))))) [] 48) (sb 30 (leI x1 57) ?_ ?_)
      ·exact zN (mkE (s_1.append [(40,B false)]) [] 48) (gF (.tmp 40) (gK (pB (zP (gR 3 (rg Tryz.f108 3) (se (mkE s_2 [] 48) (pL)))))))
      ·refine sg 21 (mkE ((34,B (eqI x1 45))::((33,B (eqI x1 45))::((32,B (eqI x1 45))::((31,U x1)::((30,B false)::((30,B (leI x1 57))::((29,B (leI x1 57))::((28,B (leI x1 57))::((27,U x1)::((26,B true)::((26,B (leI 48 x1))::((25,B (leI 48 x1))::((24,U x1)::((23,B true)::(s_0.append ((20,B (leI x1 122))::((19,B (leI x1 122))::((18,B (leI x1 122))::((17,U x1)::((16,B true)::((16,B (leI 97 x1))::((15,B (leI 97 x1))::((14,U x1)::(s_1.append [(4,U x1)])))))))))))))))))))))))) [] 48) (sb 34 (eqI x1 45) ?_ ?_)
       ·exact zN (mkE (s_1.append [(40,B false)]) [] 48) (gF (.tmp 40) (gK (pB (zP (gR 3 (rg Tryz.f108 3) (se (mkE s_2 [] 48) (pL)))))))
       ·refine zN (mkE (s_1.append [(40,B (!(eqI x1 95)))]) [] 48) (gC 40 (!(eqI x1 95)) ?_ ?_)
        ·exact zF 0 6 (mkE [(2,B false)] [] 48)
        ·exact gK (pB (zP (gR 3 (rg Tryz.f108 3) (se (mkE s_2 [] 48) (pL)))))
     ·refine sg 21 (mkE ((34,B (eqI x1 45))::((33,B (eqI x1 45))::((32,B (eqI x1 45))::((31,U x1)::((30,B false)::((29,B false)::((28,.und)::((27,.und)::((26,B false)::((26,B (leI 48 x1))::((25,B (leI 48 x1))::((24,U x1)::((23,B true)::(s_0.append ((20,B (leI x1 122))::((19,B (leI x1 122))::((18,B (leI x1 122))::((17,U x1)::((16,B true)::((16,B (leI 97 x1))::((15,B (leI 97 x1))::((14,U x1)::(s_1.append [(4,U x1)]))))))))))))))))))))))) [] 48) (sb 34 (eqI x1 45) ?_ ?_)
      ·exact zN (mkE (s_1.append [(40,B false)]) [] 48) (gF (.tmp 40) (gK (pB (zP (gR 3 (rg Tryz.f108 3) (se (mkE s_2 [] 48) (pL)))))))
      ·refine zN (mkE (s_1.append [(40,B (!(eqI x1 95)))]) [] 48) (gC 40 (!(eqI x1 95)) ?_ ?_)
       ·exact zF 0 6 (mkE [(2,B false)] [] 48)
       ·exact gK (pB (zP (gR 3 (rg Tryz.f108 3) (se (mkE s_2 [] 48) (pL)))))
    ·exact zN (mkE (s_1.append [(40,B true)]) [] 48) (gT (.tmp 40) (zF 0 6 (mkE [(2,B false)] [] 48)))
  ·refine sg 10 (mkE (s_0.append (s_3.append ((16,B (leI 97 x1))::((15,B (leI 97 x1))::((14,U x1)::(s_1.append [(4,U x1)])))))) [] 48) (sb 23 (ltI 0 z0) ?_ ?_)
   ·refine sg 13 (mkE ((26,B (leI 48 x1))::((25,B (leI 48 x1))::((24,U x1)::((23,B true)::(s_0.append (s_3.append ((16,B (leI 97 x1))::((15,B (leI 97 x1))::((14,U x1)::(s_1.append [(4,U x1)])))))))))) [] 48) (sb 26 (leI 48 x1) ?_ ?_)
    ·refine sg 17 (mkE ((30,B (leI x1 57))::((29,B (leI x1 57))::((28,B (leI x1 57))::((27,U x1)::((26,B true)::((26,B (leI 48 x1))::((25,B (leI 48 x1))::((24,U x1)::((23,B true)::(s_0.append (s_3.append ((16,B (leI 97 x1))::((15,B (leI 97 x1))::((14,U x1)::(s_1.append [(4,U x1)]))))))))))))))) [] 48) (sb 30 (leI x1 57) ?_ ?_)
     ·exact zN (mkE (s_1.append [(40,B false)]) [] 48) (gF (.tmp 40) (gK (pB (zP (gR 3 (rg Tryz.f108 3) (se (mkE s_2 [] 48) (pL)))))))
     ·refine sg 21 (mkE ((34,B (eqI x1 45))::((33,B (eqI x1 45))::((32,B (eqI x1 45))::((31,U x1)::((30,B false)::((30,B (leI x1 57))::((29,B (leI x1 57))::((28,B (leI x1 57))::((27,U x1)::((26,B true)::((26,B (leI 48 x1))::((25,B (leI 48 x1))::((24,U x1)::((23,B true)::(s_0.append (s_3.append ((16,B (leI 97 x1))::((15,B (leI 97 x1))::((14,U x1)::(s_1.append [(4,U x1)])))))))))))))))))))) [] 48) (sb 34 (eqI x1 45) ?_ ?_)
      ·exact zN (mkE (s_1.append [(40,B false)]) [] 48) (gF (.tmp 40) (gK (pB (zP (gR 3 (rg Tryz.f108 3) (se (mkE s_2 [] 48) (pL)))))))
      ·refine zN (mkE (s_1.append [(40,B (!(eqI x1 95)))]) [] 48) (gC 40 (!(eqI x1 95)) ?_ ?_)
       ·exact zF 0 6 (mkE [(2,B false)] [] 48)
       ·exact gK (pB (zP (gR 3 (rg Tryz.f108 3) (se (mkE s_2 [] 48) (pL)))))
    ·refine sg 21 (mkE ((34,B (eqI x1 45))::((33,B (eqI x1 45))::((32,B (eqI x1 45))::((31,U x1)::((30,B false)::((29,B false)::((28,.und)::((27,.und)::((26,B false)::((26,B (leI 48 x1))::((25,B (leI 48 x1))::((24,U x1)::((23,B true)::(s_0.append (s_3.append ((16,B (leI 97 x1))::((15,B (leI 97 x1))::((14,U x1)::(s_1.append [(4,U x1)]))))))))))))))))))) [] 48) (sb 34 (eqI x1 45) ?_ ?_)
     ·exact zN (mkE (s_1.append [(40,B false)]) [] 48) (gF (.tmp 40) (gK (pB (zP (gR 3 (rg Tryz.f108 3) (se (mkE s_2 [] 48) (pL)))))))
     ·refine zN (mkE (s_1.append [(40,B (!(eqI x1 95)))]) [] 48) (gC 40 (!(eqI x1 95)) ?_ ?_)
      ·exact zF 0 6 (mkE [(2,B false)] [] 48)
      ·exact gK (pB (zP (gR 3 (rg Tryz.f108 3) (se (mkE s_2 [] 48) (pL)))))
   ·exact zN (mkE (s_1.append [(40,B true)]) [] 48) (gT (.tmp 40) (zF 0 6 (mkE [(2,B false)] [] 48)))
 ·exact gX 0 (pL)
noncomputable def T108(p0:ByteArray):Option Bool:=((iter (L108_2 p0) 0).bind fun y2=>(Sum.elim (fun y2a=>(bif (!eqS p0 (ByteArray.mk #[]))then(some (leI (lenS p0) 40))else(some false))) (fun y2b=>(some false)) y2))
theorem B108(C:Callee)(p0:ByteArray):rB C 108 Tryz.f108 (frame0 [S p0] 48 false) ((T108 p0).map B):=by
 unfold T108
 refine zS 1 0 (mkE [(0,S p0)] [] 48) (gS 7 (zS 2 1 (mkE [(0,S p0),(3,I 0)] [] 48) (gB 0 (lo [(0,none),(3,none)] [] (L108_2 p0) (fun z0:Int=>(mkE [(0,S p0),(3,I z0)] [] 48)) (Sum.elim (fun(x:(Int×Bool))=>(.exit 0,(mkE [(0,S p0),(3,I x.1),(8,B x.2)] [] 48))) (fun(x:Unit)=>(.ret,(mkE [(2,B false)] [] 48)))) 0 (fun z=>L108_2_ok C p0 z) ?_))))
 intro y2
 refine ss y2 (Z:=(Sum.elim (fun(x:(Int×Bool))=>(.exit 0,(mkE [(0,S p0),(3,I x.1),(8,B x.2)] [] 48))) (fun(x:Unit)=>(.ret,(mkE [(2,B false)] [] 48))))) (fun y2a=>?_) (fun y2b=>?_)
 ·refine pH (zP (zR 0 7 (sg 3 (mkE [(43,B (!eqS p0 (ByteArray.mk #[]))),(42,B (!eqS p0 (ByteArray.mk #[]))),(41,S p0),(0,S p0),(3,I y2a.1),(8,B y2a.2)] [] 48) (sb 43 (!eqS p0 (ByteArray.mk #[])) ?_ ?_))))
  ·exact zE (mkE [(2,B (leI (lenS p0) 40))] [] 48)
  ·exact zE (mkE [(2,B false)] [] 48)
 ·exact pL
theorem F108(m:Nat)(hm:1≤m)(p0:ByteArray):callA Tryz.prog cfg m 108 [S p0]=(T108 p0).map B:=by
 obtain⟨q,rfl⟩:=sucK hm
 exact(callA_body (fn:=Tryz.f108) (c:=body_ Tryz.f108) q _ (by kernel_rfl) (by kernel_rfl) (by kernel_rfl)).trans (B108 _ p0)
noncomputable def T30(p0:Int)(p1:Int)(p2:Int):Option Bool:=(bif (ltI p0 p1)then(some true)else(some (ltI p2 p0)))
theorem B30(C:Callee)(p0:Int)(p1:Int)(p2:Int):rB C 30 Tryz.f30 (frame0 [I p0,I p1,I p2] 15 false) ((T30 p0 p1 p2).map B):=by
 unfold T30
 refine zS 1 0 (mkE [(0,I p0),(1,I p1),(2,I p2)] [] 15) (zR 0 1 (sg 4 (mkE [(10,B (ltI p0 p1)),(9,B (ltI p0 p1)),(8,I p1),(7,I p0),(0,I p0),(1,I p1),(2,I p2)] [] 15) (sb 10 (ltI p0 p1) ?_ ?_)))
 ·exact zE (mkE [(6,B true)] [] 15)
 ·exact zE (mkE [(6,B (ltI p2 p0))] [] 15)
theorem F30(m:Nat)(hm:1≤m)(p0:Int)(p1:Int)(p2:Int):callA Tryz.prog cfg m 30 [I p0,I p1,I p2]=(T30 p0 p1 p2).map B:=by
 obtain⟨q,rfl⟩:=sucK hm
 exact(callA_body (fn:=Tryz.f30) (c:=body_ Tryz.f30) q _ (by kernel_rfl) (by kernel_rfl) (by kernel_rfl)).trans (B30 _ p0 p1 p2)
noncomputable def L140_4(p0:S46)(z0:Int):Option (Int⊕((Int×Bool)⊕Int)):=(bif (ltI z0 (lenL p0.f3))then((listAt p0.f3 z0).bind fun x1=>((T108 x1).bind fun x2=>(bif (!x2)then(some (.inr (.inr 5)))else(bif (ltI 0 z0)then((listAt p0.f3 (subI .i64 z0 1)).bind fun x3=>(bif (ltS x1 x3||eqS x1 x3)then(some (.inr (.inr 7)))else(bif (eqS x1 p0.f0)then(some (.inr (.inr 14)))else(some (.inl (addI .i64 z0 1))))))else(bif (eqS x1 p0.f0)then(some (.inr (.inr 14)))else(some (.inl (addI .i64 z0 1))))))))else(some (.inr (.inl (z0,(ltI z0 (lenL p0.f3)))))))
abbrev H108(C:Callee):Prop:=∀(p0:ByteArray),C 108 [S p0]=(T108 p0).map B
theorem L140_4_ok(C:Callee)(h108:H108 C)(p0:S46)(z0:Int):rL C 140 Tryz.f140 4 [false,false,true,false,true,true] (fun z0:Int=>(mkE [(1,.ba 8 0),(10,LL S p0.f3),(11,I (lenL p0.f3)),(12,I z0)] [(8,.box [S p0.f0,S p0.f1,I p0.f2,LL S p0.f3,I p0.f4,I p0.f5,I p0.f6,LL a64 p0.f7,S p0.f8] false)] 48)) (Sum.elim (fun(x:(Int×Bool))=>(.exit 0,(mkE [(1,.ba 8 0),(10,LL S p0.f3),(11,I (lenL p0.f3)),(12,I x.1),(13,B x.2)] [(8,.box [S p0.f0,S p0.f1,I p0.f2,LL S p0.f3,I p0.f4,I p0.f5,I p0.f6,LL a64 p0.f7,S p0.f8] false)] 48))) (fun(x:Int)=>(.ret,(mkE [(2,I x)] [] 48)))) (L140_4 p0 z0) z0:=by
 unfold L140_4
 let s_0:List (Nat×AV):=[(10,LL S p0.f3),(11,I (lenL p0.f3)),(12,I z0)]
 let o_0:List (Nat×AObj):=[(8,.box [S p0.f0,S p0.f1,I p0.f2,LL S p0.f3,I p0.f4,I p0.f5,I p0.f6,LL a64 p0.f7,S p0.f8] false)]
 refine zS 0 4 (mkE ((1,.ba 8 0)::(s_0.append [(13,B (ltI z0 (lenL p0.f3)))])) o_0 48) (gS 5 (gC 13 (ltI z0 (lenL p0.f3)) ?_ ?_))
 ·refine gK (zP (gS 12 (gB 1 (zR 6 5 (sg 1 (mkE ((14,I z0)::((1,.ba 8 0)::(s_0.append [(13,B (ltI z0 (lenL p0.f3)))]))) o_0 48) (vo 15 (addrE 34 9 1 S .i64 p0.f3 z0) (fun x1=>?_)))))))
  refine zN (mkE ((1,.ba 8 0)::((3,I z0)::((4,S x1)::s_0))) o_0 48) (gB 2 (zR 0 6 (sg 1 (mkE ((18,S x1)::((1,.ba 8 0)::((3,I z0)::((4,S x1)::s_0)))) o_0 48) (co 19 [] (h108 x1) (fun x2=>?_)))))
  refine zN (mkE ((1,.ba 8 0)::((3,I z0)::((4,S x1)::(s_0.append [(17,B (!x2))])))) o_0 48) (gC 17 (!x2) ?_ ?_)
  ·exact zF 0 7 (mkE [(2,I 5)] [] 48)
  ·refine zR 0 8 (sg 3 (mkE ((24,B (ltI 0 z0))::((23,B (ltI 0 z0))::((22,I z0)::((1,.ba 8 0)::((3,I z0)::((4,S x1)::(s_0.append [(17,B (!x2))]))))))) o_0 48) (sb 24 (ltI 0 z0) ?_ ?_))
   ·refine sg 8 (mkE ((29,I (subI .i64 z0 1))::((28,I z0)::((27,LL S p0.f3)::((26,.ba 8 3)::((25,S x1)::((24,B true)::((24,B (ltI 0 z0))::((23,B (ltI 0 z0))::((22,I z0)::((1,.ba 8 0)::((3,I z0)::((4,S x1)::(s_0.append [(17,B (!x2))]))))))))))))) o_0 48) (vo 30 (addrE 34 9 1 S .i64 p0.f3 (subI .i64 z0 1)) (fun x3=>?_))
    refine zN (mkE ((1,.ba 8 0)::((4,S x1)::(s_0.append [(21,B (ltS x1 x3||eqS x1 x3))]))) o_0 48) (gC 21 (ltS x1 x3||eqS x1 x3) ?_ ?_)
    ·exact zF 0 9 (mkE [(2,I 7)] [] 48)
    ·refine zS 0 10 (mkE ((1,.ba 8 0)::(s_0.append [(34,B (eqS x1 p0.f0))])) o_0 48) (gC 34 (eqS x1 p0.f0) ?_ ?_)
     ·exact zF 0 11 (mkE [(2,I 14)] [] 48)
     ·exact gK (pB (pB (zP (gR 12 (rg Tryz.f140 12) (se (mkE [(1,.ba 8 0),(10,LL S p0.f3),(11,I (lenL p0.f3)),(12,I (addI .i64 z0 1))] o_0 48) (pL))))))
   ·refine zN (mkE ((1,.ba 8 0)::((4,S x1)::(s_0.append [(21,B false)]))) o_0 48) (gF (.tmp 21) (zS 0 10 (mkE ((1,.ba 8 0)::(s_0.append [(34,B (eqS x1 p0.f0))])) o_0 48) (gC 34 (eqS x1 p0.f0) ?_ ?_)))
    ·exact zF 0 11 (mkE [(2,I 14)] [] 48)
    ·exact gK (pB (pB (zP (gR 12 (rg Tryz.f140 12) (se (mkE [(1,.ba 8 0),(10,LL S p0.f3),(11,I (lenL p0.f3)),(12,I (addI .i64 z0 1))] o_0 48) (pL))))))
 ·exact gX 0 (pL)
noncomputable def T140(p0:S46):Option Int:=(bif (ltI 20 (lenL p0.f3))then(some 2)else((iter (L140_4 p0) 0).bind fun y4=>(Sum.elim (fun y4a=>(bif ((eqI p0.f2 1) != (eqI (lenL p0.f3) 0))then(some 3)else(some 0))) (fun y4b=>(some y4b)) y4)))
theorem B140(C:Callee)(h108:H108 C)(p0:S46):rB C 140 Tryz.f140 (frame0 [a46 p0] 48 false) ((T140 p0).map I):=by
 unfold T140
 let s_0:List (Nat×AV):=[(1,.ba 8 0),(10,LL S p0.f3),(11,I (lenL p0.f3))]
 let o_0:List (Nat×AObj):=[(8,.box [S p0.f0,S p0.f1,I p0.f2,LL S p0.f3,I p0.f4,I p0.f5,I p0.f6,LL a64 p0.f7,S p0.f8] false)]
 refine zS 1 0 (mkE [(1,.ba 8 0)] o_0 48) (gS 3 (zR 0 1 (sg 2 (mkE [(6,LL S p0.f3),(5,.ba 8 3),(1,.ba 8 0)] o_0 48) (eo 7 (I (lenL p0.f3)) (lenE 34 S p0.f3) (zN (mkE [(1,.ba 8 0),(8,B (ltI 20 (lenL p0.f3)))] o_0 48) (gC 8 (ltI 20 (lenL p0.f3)) ?_ ?_))))))
 ·exact zF 0 2 (mkE [(2,I 2)] [] 48)
 ·refine gK (zP (gS 13 (zR 4 3 (sg 2 (mkE [(10,LL S p0.f3),(9,.ba 8 3),(1,.ba 8 0),(8,B (ltI 20 (lenL p0.f3)))] o_0 48) (eo 11 (I (lenL p0.f3)) (lenE 34 S p0.f3) (zN (mkE (s_0.append [(12,I 0)]) o_0 48) (gB 0 (lo [(1,none),(10,none),(11,none),(12,none)] [] (L140_4 p0) (fun z0:Int=>(mkE (s_0.append [(12,I z0)]) o_0 48)) (Sum.elim (fun(x:(Int×Bool))=>(.exit 0,(mkE (s_0.append ((12,I x.1)::[(13,B x.2)])) o_0 48))) (fun(x:Int)=>(.ret,(mkE [(2,I x)] [] 48)))) 0 (fun z=>L140_4_ok C h108 p0 z) ?_))))))))
  intro y4
  refine ss y4 (Z:=(Sum.elim (fun(x:(Int×Bool))=>(.exit 0,(mkE (s_0.append ((12,I x.1)::[(13,B x.2)])) o_0 48))) (fun(x:Int)=>(.ret,(mkE [(2,I x)] [] 48))))) (fun y4a=>?_) (fun y4b=>?_)
  ·refine pH (zP (gS 15 (zR 0 13 (sg 5 (mkE ((44,LL S p0.f3)::((43,.ba 8 3)::((42,B (eqI p0.f2 1))::((41,I p0.f2)::((40,.ba 8 2)::(s_0.append ((12,I y4a.1)::[(13,B y4a.2)]))))))) o_0 48) (eo 45 (I (lenL p0.f3)) (lenE 34 S p0.f3) (zN (mkE [(47,B ((eqI p0.f2 1) != (eqI (lenL p0.f3) 0)))] [] 48) (gC 47 ((eqI p0.f2 1) != (eqI (lenL p0.f3) 0)) ?_ ?_)))))))
   ·exact zF 0 14 (mkE [(2,I 3)] [] 48)
   ·exact gK (zP (zF 0 15 (mkE [(2,I 0)] [] 48)))
  ·exact pL
theorem F140(m:Nat)(hm:2≤m)(p0:S46):callA Tryz.prog cfg m 140 [a46 p0]=(T140 p0).map I:=by
 obtain⟨q,rfl⟩:=sucK hm
 exact(callA_body (fn:=Tryz.f140) (c:=body_ Tryz.f140) q _ (by kernel_rfl) (by kernel_rfl) (by kernel_rfl)).trans (B140 _ (fun p0=>F108 q (by omega) p0) p0)
noncomputable def T31(p0:Int):Option Bool:=(bif (leI 0 p0)then(some (ltI p0 345686400000))else(some false))
theorem B31(C:Callee)(p0:Int):rB C 31 Tryz.f31 (frame0 [I p0] 9 false) ((T31 p0).map B):=by
 unfold T31
 refine zS 1 0 (mkE [(0,I p0)] [] 9) (zR 0 1 (sg 3 (mkE [(5,B (leI 0 p0)),(4,B (leI 0 p0)),(3,I p0),(0,I p0)] [] 9) (sb 5 (leI 0 p0) ?_ ?_)))
 ·exact zE (mkE [(2,B (ltI p0 345686400000))] [] 9)
 ·exact zE (mkE [(2,B false)] [] 9)
theorem F31(m:Nat)(hm:1≤m)(p0:Int):callA Tryz.prog cfg m 31 [I p0]=(T31 p0).map B:=by
 obtain⟨q,rfl⟩:=sucK hm
 exact(callA_body (fn:=Tryz.f31) (c:=body_ Tryz.f31) q _ (by kernel_rfl) (by kernel_rfl) (by kernel_rfl)).trans (B31 _ p0)
noncomputable def T121(p0:S64):Option Int:=((T30 p0.f0 (-100000) 100000).bind fun x1=>(bif x1 then(some 1)else((T30 p0.f1 (-100000) 100000).bind fun x2=>(bif x2 then(some 1)else((T30 p0.f2 1 (subI .i64 100000 p0.f0)).bind fun x3=>(bif x3 then(some 1)else((T30 p0.f3 1 (subI .i64 100000 p0.f1)).bind fun x4=>(bif x4 then(some 1)else(some 0)))))))))
abbrev H30(C:Callee):Prop:=∀(p0:Int)(p1:Int)(p2:Int),C 30 [I p0,I p1,I p2]=(T30 p0 p1 p2).map B
theorem B121(C:Callee)(h30:H30 C)(p0:S64):rB C 121 Tryz.f121 (frame0 [a64 p0] 25 false) ((T121 p0).map I):=by
 unfold T121
 let s_0:List (Nat×AV):=[(15,I (subI .i64 100000 p0.f0)),(14,I p0.f0),(13,.ba 8 0),(12,I p0.f2),(11,.ba 8 2),(1,.ba 8 0)]
 let o_0:List (Nat×AObj):=[(8,.box [I p0.f0,I p0.f1,I p0.f2,I p0.f3] false)]
 refine zS 1 0 (mkE [(1,.ba 8 0)] o_0 25) (gS 3 (zR 0 1 (sg 2 (mkE [(4,I p0.f0),(3,.ba 8 0),(1,.ba 8 0)] o_0 25) (co 5 [] (h30 p0.f0 (-100000) 100000) (fun x1=>?_)))))
 refine sg 4 (mkE [(6,B x1),(5,B x1),(4,I p0.f0),(3,.ba 8 0),(1,.ba 8 0)] o_0 25) (sb 6 x1 ?_ ?_)
 ·exact zN (mkE [(1,.ba 8 0),(10,B true)] o_0 25) (gT (.tmp 10) (zF 0 2 (mkE [(2,I 1)] [] 25)))
 ·refine sg 6 (mkE [(8,I p0.f1),(7,.ba 8 1),(6,B false),(6,B x1),(5,B x1),(4,I p0.f0),(3,.ba 8 0),(1,.ba 8 0)] o_0 25) (co 9 [] (h30 p0.f1 (-100000) 100000) (fun x2=>?_))
  refine zN (mkE [(1,.ba 8 0),(10,B x2)] o_0 25) (gC 10 x2 ?_ ?_)
  ·exact zF 0 2 (mkE [(2,I 1)] [] 25)
  ·refine gK (zP (gS 5 (zR 0 3 (sg 5 (mkE (s_0.append [(10,B x2)]) o_0 25) (co 16 [] (h30 p0.f2 1 (subI .i64 100000 p0.f0)) (fun x3=>?_))))))
   refine sg 7 (mkE ((17,B x3)::((16,B x3)::(s_0.append [(10,B x2)]))) o_0 25) (sb 17 x3 ?_ ?_)
   ·exact zN (mkE [(24,B true)] [] 25) (gT (.tmp 24) (zF 0 4 (mkE [(2,I 1)] [] 25)))
   ·refine sg 12 (mkE ((22,I (subI .i64 100000 p0.f1))::((21,I p0.f1)::((20,.ba 8 1)::((19,I p0.f3)::((18,.ba 8 3)::((17,B false)::((17,B x3)::((16,B x3)::(s_0.append [(10,B x2)]))))))))) o_0 25) (co 23 [] (h30 p0.f3 1 (subI .i64 100000 p0.f1)) (fun x4=>?_))
    refine zN (mkE [(24,B x4)] [] 25) (gC 24 x4 ?_ ?_)
    ·exact zF 0 4 (mkE [(2,I 1)] [] 25)
    ·exact gK (zP (zF 0 5 (mkE [(2,I 0)] [] 25)))
theorem F121(m:Nat)(hm:2≤m)(p0:S64):callA Tryz.prog cfg m 121 [a64 p0]=(T121 p0).map I:=by
 obtain⟨q,rfl⟩:=sucK hm
 exact(callA_body (fn:=Tryz.f121) (c:=body_ Tryz.f121) q _ (by kernel_rfl) (by kernel_rfl) (by kernel_rfl)).trans (B121 _ (fun p0 p1 p2=>F30 q (by omega) p0 p1 p2) p0)
theorem F164(m:Nat)(hm:1≤m)(p0:ByteArray):callA Tryz.prog cfg m 164 [S p0]=(validO p0).map B:=by
 obtain⟨q,rfl⟩:=sucK hm
 exact(callA_leaf (L:=leafValid) _ _ (by kernel_rfl)).trans (valid_leaf _ _)
noncomputable def L193_1(p1:Int)(z0:ByteArray):Option (ByteArray⊕(ByteArray×Bool)):=(bif (ltI 0 (lenS z0))then((byteAt z0 (subI .i64 (lenS z0) 1)).bind fun x1=>(bif (eqI x1 p1)then((cutS z0 none (some (subI .i64 (lenS z0) 1))).bind fun x2=>(some (.inl x2)))else(some (.inr (z0,(eqI x1 p1))))))else(some (.inr (z0,false))))
theorem L193_1_ok(C:Callee)(p1:Int)(z0:ByteArray):rL C 193 Tryz.f193 1 [false,false,false,true] (fun z0:ByteArray=>(mkE [(0,S z0),(1,U p1)] [] 23)) (fun(x:(ByteArray×Bool))=>(.exit 0,(mkE [(0,S x.1),(1,U p1),(16,B x.2)] [] 23))) (L193_1 p1 z0) z0:=by
 unfold L193_1
 refine gS 2 (zR 0 1 (sg 4 (mkE [(8,B (ltI 0 (lenS z0))),(7,B (ltI 0 (lenS z0))),(6,I (lenS z0)),(5,S z0),(0,S z0),(1,U p1)] [] 23) (sb 8 (ltI 0 (lenS z0)) ?_ ?_)))
 ·refine sg 8 (mkE [(12,I (subI .i64 (lenS z0) 1)),(11,I (lenS z0)),(10,S z0),(9,S z0),(8,B true),(8,B (ltI 0 (lenS z0))),(7,B (ltI 0 (lenS z0))),(6,I (lenS z0)),(5,S z0),(0,S z0),(1,U p1)] [] 23) (vo 13 (byteE 9 .i64 z0 (subI .i64 (lenS z0) 1)) (fun x1=>?_))
  refine zN (mkE [(0,S z0),(1,U p1),(16,B (eqI x1 p1))] [] 23) (gC 16 (eqI x1 p1) ?_ ?_)
  ·refine gK (zP (gB 1 (gR 2 (rg Tryz.f193 2) (sg 4 (mkE [(20,I (subI .i64 (lenS z0) 1)),(19,I (lenS z0)),(18,S z0),(17,S z0),(0,S z0),(1,U p1),(16,B (eqI x1 p1))] [] 23) (vo 21 (cutSE 9 .i64 .i64 z0 none (some (subI .i64 (lenS z0) 1))) (fun x2=>?_))))))
   exact se (mkE [(0,S x2),(1,U p1)] [] 23) (pB (pL))
  ·exact gX 0 (pL)
 ·exact zN (mkE [(0,S z0),(1,U p1),(16,B false)] [] 23) (gF (.tmp 16) (gX 0 (pL)))
noncomputable def T193(p0:ByteArray)(p1:Int):Option ByteArray:=((iter (L193_1 p1) p0).bind fun y3=>(some y3.1))
theorem B193(C:Callee)(p0:ByteArray)(p1:Int):rB C 193 Tryz.f193 (frame0 [S p0,U p1] 23 false) ((T193 p0 p1).map S):=by
 unfold T193
 refine zS 1 0 (mkE [(0,S p0),(1,U p1)] [] 23) (gS 3 (gB 0 (lo [(0,none),(1,none)] [] (L193_1 p1) (fun z0:ByteArray=>(mkE [(0,S z0),(1,U p1)] [] 23)) (fun(x:(ByteArray×Bool))=>(.exit 0,(mkE [(0,S x.1),(1,U p1),(16,B x.2)] [] 23))) p0 (fun z=>L193_1_ok C p1 z) ?_)))
 intro y3
 exact pH (zP (zF 0 3 (mkE [(4,S y3.1)] [] 23)))
theorem F193(m:Nat)(hm:1≤m)(p0:ByteArray)(p1:Int):callA Tryz.prog cfg m 193 [S p0,U p1]=(T193 p0 p1).map S:=by
 obtain⟨q,rfl⟩:=sucK hm
 exact(callA_body (fn:=Tryz.f193) (c:=body_ Tryz.f193) q _ (by kernel_rfl) (by kernel_rfl) (by kernel_rfl)).trans (B193 _ p0 p1)
noncomputable def L192_1(p1:Int)(z0:ByteArray):Option (ByteArray⊕(ByteArray×Bool)):=(bif (ltI 0 (lenS z0))then((byteAt z0 0).bind fun x1=>(bif (eqI x1 p1)then((cutS z0 (some 1) none).bind fun x2=>(some (.inl x2)))else(some (.inr (z0,(eqI x1 p1))))))else(some (.inr (z0,false))))
theorem L192_1_ok(C:Callee)(p1:Int)(z0:ByteArray):rL C 192 Tryz.f192 1 [false,false,false,true] (fun z0:ByteArray=>(mkE [(0,S z0),(1,U p1)] [] 17)) (fun(x:(ByteArray×Bool))=>(.exit 0,(mkE [(0,S x.1),(1,U p1),(13,B x.2)] [] 17))) (L192_1 p1 z0) z0:=by
 unfold L192_1
 refine gS 2 (zR 0 1 (sg 4 (mkE [(8,B (ltI 0 (lenS z0))),(7,B (ltI 0 (lenS z0))),(6,I (lenS z0)),(5,S z0),(0,S z0),(1,U p1)] [] 17) (sb 8 (ltI 0 (lenS z0)) ?_ ?_)))
 ·refine sg 5 (mkE [(9,S z0),(8,B true),(8,B (ltI 0 (lenS z0))),(7,B (ltI 0 (lenS z0))),(6,I (lenS z0)),(5,S z0),(0,S z0),(1,U p1)] [] 17) (vo 10 (byteE 9 .i64 z0 0) (fun x1=>?_))
  refine zN (mkE [(0,S z0),(1,U p1),(13,B (eqI x1 p1))] [] 17) (gC 13 (eqI x1 p1) ?_ ?_)
  ·refine gK (zP (gB 1 (gR 2 (rg Tryz.f192 2) (sg 1 (mkE [(14,S z0),(0,S z0),(1,U p1),(13,B (eqI x1 p1))] [] 17) (vo 15 (cutSE 9 .i64 .i64 z0 (some 1) none) (fun x2=>?_))))))
   exact se (mkE [(0,S x2),(1,U p1)] [] 17) (pB (pL))
  ·exact gX 0 (pL)
 ·exact zN (mkE [(0,S z0),(1,U p1),(13,B false)] [] 17) (gF (.tmp 13) (gX 0 (pL)))
noncomputable def T192(p0:ByteArray)(p1:Int):Option ByteArray:=((iter (L192_1 p1) p0).bind fun y3=>(some y3.1))
theorem B192(C:Callee)(p0:ByteArray)(p1:Int):rB C 192 Tryz.f192 (frame0 [S p0,U p1] 17 false) ((T192 p0 p1).map S):=by
 unfold T192
 refine zS 1 0 (mkE [(0,S p0),(1,U p1)] [] 17) (gS 3 (gB 0 (lo [(0,none),(1,none)] [] (L192_1 p1) (fun z0:ByteArray=>(mkE [(0,S z0),(1,U p1)] [] 17)) (fun(x:(ByteArray×Bool))=>(.exit 0,(mkE [(0,S x.1),(1,U p1),(13,B x.2)] [] 17))) p0 (fun z=>L192_1_ok C p1 z) ?_)))
 intro y3
 exact pH (zP (zF 0 3 (mkE [(4,S y3.1)] [] 17)))
theorem F192(m:Nat)(hm:1≤m)(p0:ByteArray)(p1:Int):callA Tryz.prog cfg m 192 [S p0,U p1]=(T192 p0 p1).map S:=by
 obtain⟨q,rfl⟩:=sucK hm
 exact(callA_body (fn:=Tryz.f192) (c:=body_ Tryz.f192) q _ (by kernel_rfl) (by kernel_rfl) (by kernel_rfl)).trans (B192 _ p0 p1)
theorem F194(m:Nat)(hm:1≤m)(p0:ByteArray):callA Tryz.prog cfg m 194 [S p0]=(none:Option Unit).map (fun _=>AV.und):=by
 obtain⟨q,rfl⟩:=sucK hm
 exact(callA_leaf (L:=leafNone) _ _ (by kernel_rfl)).trans (rfl)
noncomputable def T167(p0:ByteArray)(p1:ByteArray):Option ByteArray:=(bif (eqS p0 (ByteArray.mk #[]))then(some p0)else(bif (eqS p1 (ByteArray.mk #[]))then(some p0)else(bif (eqI (lenS p1) 1)then((byteAt p1 0).bind fun x1=>(bif (ltI x1 128)then((byteAt p1 0).bind fun x2=>((T193 p0 x2).bind fun x3=>((byteAt p1 0).bind fun x4=>((T192 x3 x4).bind fun x5=>(some x5)))))else none))else none)))
theorem B167(C:Callee)(h192:∀(p0:ByteArray)(p1:Int),C 192 [S p0,U p1]=(T192 p0 p1).map S)(h193:∀(p0:ByteArray)(p1:Int),C 193 [S p0,U p1]=(T193 p0 p1).map S)(h194:∀(p0:ByteArray),C 194 [S p0]=(none:Option Unit).map (fun _=>AV.und))(p0:ByteArray)(p1:ByteArray):rB C 167 Tryz.f167 (frame0 [S p0,S p1] 43 false) ((T167 p0 p1).map S):=by
 unfold T167
 let s_0:List (Nat×AV):=[(0,S p0),(1,S p1)]
 refine zS 1 0 (mkE s_0 [] 43) (gS 3 (zR 0 1 (sg 3 (mkE ((9,B (eqS p0 (ByteArray.mk #[])))::((8,B (eqS p0 (ByteArray.mk #[])))::((7,S p0)::s_0))) [] 43) (sb 9 (eqS p0 (ByteArray.mk #[])) ?_ ?_))))
 ·exact zN (mkE (s_0.append [(12,B true)]) [] 43) (gT (.tmp 12) (zF 0 2 (mkE [(4,S p0)] [] 43)))
 ·refine zN (mkE (s_0.append [(12,B (eqS p1 (ByteArray.mk #[])))]) [] 43) (gC 12 (eqS p1 (ByteArray.mk #[])) ?_ ?_)
  ·exact zF 0 2 (mkE [(4,S p0)] [] 43)
  ·refine gK (zP (gS 5 (zR 0 3 (sg 4 (mkE ((17,B (eqI (lenS p1) 1))::((16,B (eqI (lenS p1) 1))::((15,I (lenS p1))::((14,S p1)::(s_0.append [(12,B (eqS p1 (ByteArray.mk #[])))]))))) [] 43) (sb 17 (eqI (lenS p1) 1) ?_ ?_)))))
   ·refine sg 5 (mkE ((18,S p1)::((17,B true)::((17,B (eqI (lenS p1) 1))::((16,B (eqI (lenS p1) 1))::((15,I (lenS p1))::((14,S p1)::(s_0.append [(12,B (eqS p1 (ByteArray.mk #[])))]))))))) [] 43) (vo 19 (byteE 9 .i64 p1 0) (fun x1=>?_))
    refine zN (mkE (s_0.append [(21,B (ltI x1 128))]) [] 43) (gC 21 (ltI x1 128) ?_ ?_)
    ·refine gS 0 (gD 4 8 (rg Tryz.f167 4) [0,1,2,3,4,5,6,7] (dg 2 [(some 22,qe (S p0)),(some 23,qe (S p1))] (dv 24 (mkE ((23,S p1)::(s_0.append [(21,B (ltI x1 128))])) [] 43) (byteE 9 .i64 p1 0) (fun x2=>?_))))
     refine dc 25 [] (mkE ((24,U x2)::((23,S p1)::((22,S p0)::(s_0.append [(21,B (ltI x1 128))])))) [] 43) (h193 p0 x2) (fun x3=>?_)
     refine dg 5 [(some 22,qe (S p0)),(some 23,qe (S p1)),(some 24,qe (U x2)),(some 25,qe (S x3)),(some 26,qe (S p1))] (dv 27 (mkE ((26,S p1)::(s_0.append [(21,B (ltI x1 128))])) [] 43) (byteE 9 .i64 p1 0) (fun x4=>?_))
     refine dc 28 [] (mkE ((27,U x4)::((26,S p1)::((25,S x3)::((24,U x2)::((23,S p1)::((22,S p0)::(s_0.append [(21,B (ltI x1 128))]))))))) [] 43) (h192 x3 x4) (fun x5=>?_)
     exact dg 8 [(some 22,qe (S p0)),(some 23,qe (S p1)),(some 24,qe (U x2)),(some 25,qe (S x3)),(some 26,qe (S p1)),(some 27,qe (U x4)),(some 28,qe (S x5)),(some 4,qe (S x5))] (de (mkE ((4,S x5)::((28,S x5)::((27,U x4)::((26,S p1)::((25,S x3)::((24,U x2)::((23,S p1)::((22,S p0)::(s_0.append [(21,B (ltI x1 128))]))))))))) [] 43) (zE (mkE [(4,S x5)] [] 43)))
    ·exact gK (zP (gS 8 (zR 6 5 (sg 1 (mkE ((30,S p1)::(s_0.append [(21,B (ltI x1 128))])) [] 43) (nC 31 [] (h194 p1))))))
   ·exact zN (mkE (s_0.append [(21,B false)]) [] 43) (gF (.tmp 21) (gK (zP (gS 8 (zR 6 5 (sg 1 (mkE ((30,S p1)::(s_0.append [(21,B false)])) [] 43) (nC 31 [] (h194 p1))))))))
theorem F167(m:Nat)(hm:2≤m)(p0:ByteArray)(p1:ByteArray):callA Tryz.prog cfg m 167 [S p0,S p1]=(T167 p0 p1).map S:=by
 obtain⟨q,rfl⟩:=sucK hm
 exact(callA_body (fn:=Tryz.f167) (c:=body_ Tryz.f167) q _ (by kernel_rfl) (by kernel_rfl) (by kernel_rfl)).trans (B167 _ (fun p0 p1=>F192 q (by omega) p0 p1) (fun p0 p1=>F193 q (by omega) p0 p1) (fun p0=>F194 q (by omega) p0) p0 p1)
theorem F168(m:Nat)(hm:1≤m)(p0:ByteArray)(p1:ByteArray):callA Tryz.prog cfg m 168 [S p0,S p1]=(contO p0 p1).map B:=by
 obtain⟨q,rfl⟩:=sucK hm
 exact(callA_leaf (L:=leafCont) _ _ (by kernel_rfl)).trans (cont_leaf _ _ _)
noncomputable def L141_2(p0:ByteArray)(z0:Int):Option (Int⊕((Int×Bool)⊕Unit)):=(bif (ltI z0 (lenS p0))then((byteAt p0 z0).bind fun x1=>(bif (ltI x1 32)then(some (.inr (.inr ())))else((byteAt p0 z0).bind fun x2=>(bif (eqI x2 127)then(some (.inr (.inr ())))else(some (.inl (addI .i64 z0 1)))))))else(some (.inr (.inl (z0,(ltI z0 (lenS p0)))))))
theorem L141_2_ok(C:Callee)(p0:ByteArray)(z0:Int):rL C 141 Tryz.f141 2 [false,false,true,false,true] (fun z0:Int=>(mkE [(0,S p0),(3,I z0)] [] 33)) (Sum.elim (fun(x:(Int×Bool))=>(.exit 0,(mkE [(0,S p0),(3,I x.1),(7,B x.2)] [] 33))) (fun(x:Unit)=>(.ret,(mkE [(2,B false)] [] 33)))) (L141_2 p0 z0) z0:=by
 unfold L141_2
 let s_0:List (Nat×AV):=[(11,I z0),(10,S p0),(0,S p0),(3,I z0),(7,B (ltI z0 (lenS p0)))]
 refine gS 4 (zS 0 2 (mkE [(0,S p0),(3,I z0),(7,B (ltI z0 (lenS p0)))] [] 33) (gC 7 (ltI z0 (lenS p0)) ?_ ?_))
 ·refine gK (zP (gS 3 (gB 1 (zR 0 4 (sg 2 (mkE s_0 [] 33) (vo 12 (byteE 9 .i64 p0 z0) (fun x1=>?_)))))))
  refine sg 5 (mkE ((14,B (ltI x1 32))::((13,B (ltI x1 32))::((12,U x1)::s_0))) [] 33) (sb 14 (ltI x1 32) ?_ ?_)
  ·exact zN (mkE [(0,S p0),(3,I z0),(19,B true)] [] 33) (gT (.tmp 19) (zF 0 5 (mkE [(2,B false)] [] 33)))
  ·refine sg 7 (mkE ((16,I z0)::((15,S p0)::((14,B false)::((14,B (ltI x1 32))::((13,B (ltI x1 32))::((12,U x1)::s_0)))))) [] 33) (vo 17 (byteE 9 .i64 p0 z0) (fun x2=>?_))
   refine zN (mkE [(0,S p0),(3,I z0),(19,B (eqI x2 127))] [] 33) (gC 19 (eqI x2 127) ?_ ?_)
   ·exact zF 0 5 (mkE [(2,B false)] [] 33)
   ·exact gK (pB (zP (gR 3 (rg Tryz.f141 3) (se (mkE [(0,S p0),(3,I (addI .i64 z0 1))] [] 33) (pL)))))
 ·exact gX 0 (pL)
noncomputable def T141(p0:ByteArray):Option Bool:=((iter (L141_2 p0) 0).bind fun y3=>(Sum.elim (fun y3a=>((validO p0).bind fun x4=>(bif x4 then((T167 p0 (ByteArray.mk #[32])).bind fun x5=>(bif (eqS x5 p0)then((contO p0 (ByteArray.mk #[32,32])).bind fun x6=>(some (!x6)))else(some false)))else(some false)))) (fun y3b=>(some false)) y3))
abbrev H164(C:Callee):Prop:=∀(p0:ByteArray),C 164 [S p0]=(validO p0).map B
abbrev H167(C:Callee):Prop:=∀(p0:ByteArray)(p1:ByteArray),C 167 [S p0,S p1]=(T167 p0 p1).map S
abbrev H168(C:Callee):Prop:=∀(p0:ByteArray)(p1:ByteArray),C 168 [S p0,S p1]=(contO p0 p1).map B
theorem B141(C:Callee)(h164:H164 C)(h167:H167 C)(h168:H168 C)(p0:ByteArray):rB C 141 Tryz.f141 (frame0 [S p0] 33 false) ((T141 p0).map B):=by
 unfold T141
 refine zS 1 0 (mkE [(0,S p0)] [] 33) (gS 6 (zS 2 1 (mkE [(0,S p0),(3,I 0)] [] 33) (gB 0 (lo [(0,none),(3,none)] [] (L141_2 p0) (fun z0:Int=>(mkE [(0,S p0),(3,I z0)] [] 33)) (Sum.elim (fun(x:(Int×Bool))=>(.exit 0,(mkE [(0,S p0),(3,I x.1),(7,B x.2)] [] 33))) (fun(x:Unit)=>(.ret,(mkE [(2,B false)] [] 33)))) 0 (fun z=>L141_2_ok C p0 z) ?_))))
 intro y3
 refine ss y3 (Z:=(Sum.elim (fun(x:(Int×Bool))=>(.exit 0,(mkE [(0,S p0),(3,I x.1),(7,B x.2)] [] 33))) (fun(x:Unit)=>(.ret,(mkE [(2,B false)] [] 33))))) (fun y3a=>?_) (fun y3b=>?_)
 ·refine pH (zP (zR 0 6 (sg 1 (mkE [(20,S p0),(0,S p0),(3,I y3a.1),(7,B y3a.2)] [] 33) (co 21 [] (h164 p0) (fun x4=>?_)))))
  refine sg 3 (mkE [(22,B x4),(21,B x4),(20,S p0),(0,S p0),(3,I y3a.1),(7,B y3a.2)] [] 33) (sb 22 x4 ?_ ?_)
  ·refine sg 4 (mkE [(23,S p0),(22,B true),(22,B x4),(21,B x4),(20,S p0),(0,S p0),(3,I y3a.1),(7,B y3a.2)] [] 33) (co 24 [] (h167 p0 (ByteArray.mk #[32])) (fun x5=>?_))
   refine sg 9 (mkE [(28,B (eqS x5 p0)),(27,B (eqS x5 p0)),(26,B (eqS x5 p0)),(25,S p0),(24,S x5),(23,S p0),(22,B true),(22,B x4),(21,B x4),(20,S p0),(0,S p0),(3,I y3a.1),(7,B y3a.2)] [] 33) (sb 28 (eqS x5 p0) ?_ ?_)
   ·refine sg 10 (mkE [(29,S p0),(28,B true),(28,B (eqS x5 p0)),(27,B (eqS x5 p0)),(26,B (eqS x5 p0)),(25,S p0),(24,S x5),(23,S p0),(22,B true),(22,B x4),(21,B x4),(20,S p0),(0,S p0),(3,I y3a.1),(7,B y3a.2)] [] 33) (co 30 [] (h168 p0 (ByteArray.mk #[32,32])) (fun x6=>?_))
    exact zE (mkE [(2,B (!x6))] [] 33)
   ·exact zE (mkE [(2,B false)] [] 33)
  ·exact zE (mkE [(2,B false)] [] 33)
 ·exact pL
theorem F141(m:Nat)(hm:3≤m)(p0:ByteArray):callA Tryz.prog cfg m 141 [S p0]=(T141 p0).map B:=by
 obtain⟨q,rfl⟩:=sucK hm
 exact(callA_body (fn:=Tryz.f141) (c:=body_ Tryz.f141) q _ (by kernel_rfl) (by kernel_rfl) (by kernel_rfl)).trans (B141 _ (fun p0=>F164 q (by omega) p0) (fun p0 p1=>F167 q (by omega) p0 p1) (fun p0 p1=>F168 q (by omega) p0 p1) p0)
noncomputable def L87_13(p0:S46)(z0:Int):Option (Int⊕((Int×Bool)⊕Int)):=(bif (ltI z0 (lenL p0.f7))then((listAt p0.f7 z0).bind fun x8=>((T121 x8).bind fun x9=>(bif (neI x9 0)then(some (.inr (.inr x9)))else(some (.inl (addI .i64 z0 1))))))else(some (.inr (.inl (z0,(ltI z0 (lenL p0.f7)))))))
abbrev H121(C:Callee):Prop:=∀(p0:S64),C 121 [a64 p0]=(T121 p0).map I
theorem L87_13_ok(C:Callee)(h121:H121 C)(p0:S46)(z0:Int):rL C 87 Tryz.f87 13 [false,false,true,false,true,true,true,true,true,true] (fun z0:Int=>(mkE [(1,.ba 8 0),(51,LL a64 p0.f7),(52,I (lenL p0.f7)),(53,I z0)] [(8,.box [S p0.f0,S p0.f1,I p0.f2,LL S p0.f3,I p0.f4,I p0.f5,I p0.f6,LL a64 p0.f7,S p0.f8] false)] 92)) (Sum.elim (fun(x:(Int×Bool))=>(.exit 0,(mkE [(1,.ba 8 0),(51,LL a64 p0.f7),(52,I (lenL p0.f7)),(53,I x.1),(54,B x.2)] [(8,.box [S p0.f0,S p0.f1,I p0.f2,LL S p0.f3,I p0.f4,I p0.f5,I p0.f6,LL a64 p0.f7,S p0.f8] false)] 92))) (fun(x:Int)=>(.ret,(mkE [(2,I x)] [] 92)))) (L87_13 p0 z0) z0:=by
 unfold L87_13
 let s_0:List (Nat×AV):=[(51,LL a64 p0.f7),(52,I (lenL p0.f7)),(53,I z0)]
 let o_0:List (Nat×AObj):=[(8,.box [S p0.f0,S p0.f1,I p0.f2,LL S p0.f3,I p0.f4,I p0.f5,I p0.f6,LL a64 p0.f7,S p0.f8] false)]
 refine zS 0 13 (mkE ((1,.ba 8 0)::(s_0.append [(54,B (ltI z0 (lenL p0.f7)))])) o_0 92) (gS 14 (gC 54 (ltI z0 (lenL p0.f7)) ?_ ?_))
 ·refine gK (zP (gS 18 (gB 1 (zR 15 14 (vo 55 (addrE 45 65 4 a64 .i64 p0.f7 z0) (fun x8=>?_))))))
  refine zN (mkE ((1,.ba 8 0)::((5,.ba 40 0)::s_0)) (o_0.append [(40,.box [I x8.f0,I x8.f1,I x8.f2,I x8.f3] false)]) 92) (zR 16 15 (sg 1 (mkE ((57,a64 x8)::((1,.ba 8 0)::((5,.ba 40 0)::s_0))) (o_0.append [(40,.box [I x8.f0,I x8.f1,I x8.f2,I x8.f3] false)]) 92) (co 58 [] (h121 x8) (fun x9=>?_))))
  refine zN (mkE ((1,.ba 8 0)::((6,I x9)::s_0)) o_0 92) (zS 0 16 (mkE ((1,.ba 8 0)::((6,I x9)::(s_0.append [(60,B (neI x9 0))]))) o_0 92) (gC 60 (neI x9 0) ?_ ?_))
  ·exact zF 0 17 (mkE [(2,I x9)] [] 92)
  ·exact gK (pB (zP (gR 18 (rg Tryz.f87 18) (se (mkE [(1,.ba 8 0),(51,LL a64 p0.f7),(52,I (lenL p0.f7)),(53,I (addI .i64 z0 1))] o_0 92) (pL)))))
 ·exact gX 0 (pL)
noncomputable def T87(p0:S46):Option Int:=((T108 p0.f0).bind fun x1=>(bif (!x1)then(some 5)else((T108 p0.f1).bind fun x2=>(bif (!x2)then(some 5)else((T30 p0.f2 1 3).bind fun x3=>(bif x3 then(some 4)else((T140 p0).bind fun x4=>(bif (neI x4 0)then(some x4)else((T31 p0.f4).bind fun x5=>(bif (!x5)then(some 1)else((T30 p0.f5 (addI .i64 p0.f4 1) (addI .i64 p0.f4 2592000000)).bind fun x6=>(bif x6 then(some 1)else((T30 p0.f6 1 9).bind fun x7=>(bif x7 then(some 1)else(bif (ltI 20 (lenL p0.f7))then(some 2)else((iter (L87_13 p0) 0).bind fun y10=>(Sum.elim (fun y10a=>(bif ((eqI p0.f2 3) != (eqI (lenL p0.f7) 0))then(some 3)else(bif (ltI 500 (lenS p0.f8))then(some 2)else((T141 p0.f8).bind fun x11=>(bif (!x11)then(some 3)else(bif (eqS p0.f8 (ByteArray.mk #[]))then(bif (!(eqI p0.f2 3))then(some 3)else(some 0))else(some 0))))))) (fun y10b=>(some y10b)) y10)))))))))))))))))
theorem B87(C:Callee)(h108:H108 C)(h121:H121 C)(h140:∀(p0:S46),C 140 [a46 p0]=(T140 p0).map I)(h141:∀(p0:ByteArray),C 141 [S p0]=(T141 p0).map B)(h30:H30 C)(h31:∀(p0:Int),C 31 [I p0]=(T31 p0).map B)(p0:S46):rB C 87 Tryz.f87 (frame0 [a46 p0] 92 false) ((T87 p0).map I):=by
 unfold T87
 let s_0:List (Nat×AV):=[(38,I (addI .i64 p0.f4 2592000000)),(37,I p0.f4),(36,.ba 8 4),(35,I (addI .i64 p0.f4 1)),(34,I p0.f4),(33,.ba 8 4),(32,I p0.f5),(31,.ba 8 5),(30,B false)]
 let s_1:List (Nat×AV):=[(80,S p0.f8),(79,.ba 8 8),(1,.ba 8 0),(7,B (eqI p0.f2 3)),(73,B (ltI 500 (lenS p0.f8)))]
 let s_2:List (Nat×AV):=[(1,.ba 8 0)]
 let o_0:List (Nat×AObj):=[(8,.box [S p0.f0,S p0.f1,I p0.f2,LL S p0.f3,I p0.f4,I p0.f5,I p0.f6,LL a64 p0.f7,S p0.f8] false)]
 refine zS 1 0 (mkE s_2 o_0 92) (gS 3 (zR 0 1 (sg 2 (mkE ((9,S p0.f0)::((8,.ba 8 0)::s_2)) o_0 92) (co 10 [] (h108 p0.f0) (fun x1=>?_)))))
 refine sg 5 (mkE ((12,B (!x1))::((11,B (!x1))::((10,B x1)::((9,S p0.f0)::((8,.ba 8 0)::s_2))))) o_0 92) (sb 12 (!x1) ?_ ?_)
 ·exact zN (mkE (s_2.append [(17,B true)]) o_0 92) (gT (.tmp 17) (zF 0 2 (mkE [(2,I 5)] [] 92)))
 ·refine sg 7 (mkE ((14,S p0.f1)::((13,.ba 8 1)::((12,B false)::((12,B (!x1))::((11,B (!x1))::((10,B x1)::((9,S p0.f0)::((8,.ba 8 0)::s_2)))))))) o_0 92) (co 15 [] (h108 p0.f1) (fun x2=>?_))
  refine zN (mkE (s_2.append [(17,B (!x2))]) o_0 92) (gC 17 (!x2) ?_ ?_)
  ·exact zF 0 2 (mkE [(2,I 5)] [] 92)
  ·refine gK (zP (gS 5 (zR 0 3 (sg 2 (mkE ((19,I p0.f2)::((18,.ba 8 2)::(s_2.append [(17,B (!x2))]))) o_0 92) (co 20 [] (h30 p0.f2 1 3) (fun x3=>?_))))))
   refine zN (mkE (s_2.append [(20,B x3)]) o_0 92) (gC 20 x3 ?_ ?_)
   ·exact zF 0 4 (mkE [(2,I 4)] [] 92)
   ·refine gK (zP (gS 8 (zR 6 5 (sg 1 (mkE ((21,a46 p0)::(s_2.append [(20,B x3)])) o_0 92) (co 22 [] (h140 p0) (fun x4=>?_))))))
    refine zN (mkE (s_2.append [(3,I x4)]) o_0 92) (zS 0 6 (mkE (s_2.append ((3,I x4)::[(24,B (neI x4 0))])) o_0 92) (gC 24 (neI x4 0) ?_ ?_))
    ·exact zF 0 7 (mkE [(2,I x4)] [] 92)
    ·refine gK (zP (gS 10 (zR 0 8 (sg 2 (mkE ((27,I p0.f4)::((26,.ba 8 4)::(s_2.append ((3,I x4)::[(24,B (neI x4 0))])))) o_0 92) (co 28 [] (h31 p0.f4) (fun x5=>?_))))))
     refine sg 5 (mkE ((30,B (!x5))::((29,B (!x5))::((28,B x5)::((27,I p0.f4)::((26,.ba 8 4)::(s_2.append ((3,I x4)::[(24,B (neI x4 0))]))))))) o_0 92) (sb 30 (!x5) ?_ ?_)
     ·exact zN (mkE (s_2.append [(45,B true)]) o_0 92) (gT (.tmp 45) (zF 0 9 (mkE [(2,I 1)] [] 92)))
     ·refine sg 13 (mkE (s_0.append ((30,B (!x5))::((29,B (!x5))::((28,B x5)::((27,I p0.f4)::((26,.ba 8 4)::(s_2.append ((3,I x4)::[(24,B (neI x4 0))])))))))) o_0 92) (co 39 [] (h30 p0.f5 (addI .i64 p0.f4 1) (addI .i64 p0.f4 2592000000)) (fun x6=>?_))
      refine sg 16 (mkE ((41,B x6)::((40,B x6)::((39,B x6)::(s_0.append ((30,B (!x5))::((29,B (!x5))::((28,B x5)::((27,I p0.f4)::((26,.ba 8 4)::(s_2.append ((3,I x4)::[(24,B (neI x4 0))]))))))))))) o_0 92) (sb 41 x6 ?_ ?_)
      ·exact zN (mkE (s_2.append [(45,B true)]) o_0 92) (gT (.tmp 45) (zF 0 9 (mkE [(2,I 1)] [] 92)))
      ·refine sg 18 (mkE ((43,I p0.f6)::((42,.ba 8 6)::((41,B false)::((41,B x6)::((40,B x6)::((39,B x6)::(s_0.append ((30,B (!x5))::((29,B (!x5))::((28,B x5)::((27,I p0.f4)::((26,.ba 8 4)::(s_2.append ((3,I x4)::[(24,B (neI x4 0))])))))))))))))) o_0 92) (co 44 [] (h30 p0.f6 1 9) (fun x7=>?_))
       refine zN (mkE (s_2.append [(45,B x7)]) o_0 92) (gC 45 x7 ?_ ?_)
       ·exact zF 0 9 (mkE [(2,I 1)] [] 92)
       ·refine gK (zP (gS 12 (zR 0 10 (sg 2 (mkE ((47,LL a64 p0.f7)::((46,.ba 8 7)::(s_2.append [(45,B x7)]))) o_0 92) (eo 48 (I (lenL p0.f7)) (lenE 45 a64 p0.f7) (zN (mkE (s_2.append [(49,B (ltI 20 (lenL p0.f7)))]) o_0 92) (gC 49 (ltI 20 (lenL p0.f7)) ?_ ?_)))))))
        ·exact zF 0 11 (mkE [(2,I 2)] [] 92)
        ·refine gK (zP (gS 19 (zR 13 12 (sg 2 (mkE ((51,LL a64 p0.f7)::((50,.ba 8 7)::(s_2.append [(49,B (ltI 20 (lenL p0.f7)))]))) o_0 92) (eo 52 (I (lenL p0.f7)) (lenE 45 a64 p0.f7) (zN (mkE (s_2.append ((51,LL a64 p0.f7)::((52,I (lenL p0.f7))::[(53,I 0)]))) o_0 92) (gB 0 (lo [(1,none),(51,none),(52,none),(53,none)] [] (L87_13 p0) (fun z0:Int=>(mkE (s_2.append ((51,LL a64 p0.f7)::((52,I (lenL p0.f7))::[(53,I z0)]))) o_0 92)) (Sum.elim (fun(x:(Int×Bool))=>(.exit 0,(mkE (s_2.append ((51,LL a64 p0.f7)::((52,I (lenL p0.f7))::((53,I x.1)::[(54,B x.2)])))) o_0 92))) (fun(x:Int)=>(.ret,(mkE [(2,I x)] [] 92)))) 0 (fun z=>L87_13_ok C h121 p0 z) ?_))))))))
         intro y10
         refine ss y10 (Z:=(Sum.elim (fun(x:(Int×Bool))=>(.exit 0,(mkE (s_2.append ((51,LL a64 p0.f7)::((52,I (lenL p0.f7))::((53,I x.1)::[(54,B x.2)])))) o_0 92))) (fun(x:Int)=>(.ret,(mkE [(2,I x)] [] 92))))) (fun y10a=>?_) (fun y10b=>?_)
         ·refine pH (zP (zS 20 19 (mkE (s_2.append [(7,B (eqI p0.f2 3))]) o_0 92) (gS 26 (gB 2 (zR 0 20 (sg 3 (mkE ((69,LL a64 p0.f7)::((68,.ba 8 7)::((67,B (eqI p0.f2 3))::(s_2.append [(7,B (eqI p0.f2 3))])))) o_0 92) (eo 70 (I (lenL p0.f7)) (lenE 45 a64 p0.f7) (zN (mkE (s_2.append ((7,B (eqI p0.f2 3))::[(66,B ((eqI p0.f2 3) != (eqI (lenL p0.f7) 0)))])) o_0 92) (gC 66 ((eqI p0.f2 3) != (eqI (lenL p0.f7) 0)) ?_ ?_)))))))))
          ·exact zF 0 21 (mkE [(2,I 3)] [] 92)
          ·refine zS 0 22 (mkE (s_2.append ((7,B (eqI p0.f2 3))::[(73,B (ltI 500 (lenS p0.f8)))])) o_0 92) (gC 73 (ltI 500 (lenS p0.f8)) ?_ ?_)
           ·exact zF 0 23 (mkE [(2,I 2)] [] 92)
           ·refine zR 0 24 (sg 2 (mkE s_1 o_0 92) (co 81 [] (h141 p0.f8) (fun x11=>?_)))
            refine sg 5 (mkE ((83,B (!x11))::((82,B (!x11))::((81,B x11)::s_1))) o_0 92) (sb 83 (!x11) ?_ ?_)
            ·exact zN (mkE [(78,B true)] [] 92) (gT (.tmp 78) (zF 0 25 (mkE [(2,I 3)] [] 92)))
            ·refine sg 9 (mkE ((87,B (eqS p0.f8 (ByteArray.mk #[])))::((86,B (eqS p0.f8 (ByteArray.mk #[])))::((85,S p0.f8)::((84,.ba 8 8)::((83,B false)::((83,B (!x11))::((82,B (!x11))::((81,B x11)::s_1)))))))) o_0 92) (sb 87 (eqS p0.f8 (ByteArray.mk #[])) ?_ ?_)
             ·refine zN (mkE [(78,B (!(eqI p0.f2 3)))] [] 92) (gC 78 (!(eqI p0.f2 3)) ?_ ?_)
              ·exact zF 0 25 (mkE [(2,I 3)] [] 92)
              ·exact gK (pB (zP (zF 0 26 (mkE [(2,I 0)] [] 92))))
             ·exact zN (mkE [(78,B false)] [] 92) (gF (.tmp 78) (gK (pB (zP (zF 0 26 (mkE [(2,I 0)] [] 92))))))
         ·exact pL
theorem F87(m:Nat)(hm:4≤m)(p0:S46):callA Tryz.prog cfg m 87 [a46 p0]=(T87 p0).map I:=by
 obtain⟨q,rfl⟩:=sucK hm
 exact(callA_body (fn:=Tryz.f87) (c:=body_ Tryz.f87) q _ (by kernel_rfl) (by kernel_rfl) (by kernel_rfl)).trans (B87 _ (fun p0=>F108 q (by omega) p0) (fun p0=>F121 q (by omega) p0) (fun p0=>F140 q (by omega) p0) (fun p0=>F141 q (by omega) p0) (fun p0 p1 p2=>F30 q (by omega) p0 p1 p2) (fun p0=>F31 q (by omega) p0) p0)
noncomputable def T163(p0:Int):Option Bool:=(some (neI p0 p0))
theorem B163(C:Callee)(p0:Int):rB C 163 Tryz.f163 (frame0 [I p0] 6 false) ((T163 p0).map B):=by
 unfold T163
 exact zS 1 0 (mkE [(0,I p0)] [] 6) (zF 0 1 (mkE [(2,B (neI p0 p0))] [] 6))
theorem F163(m:Nat)(hm:1≤m)(p0:Int):callA Tryz.prog cfg m 163 [I p0]=(T163 p0).map B:=by
 obtain⟨q,rfl⟩:=sucK hm
 exact(callA_bodyQ (fn:=Tryz.f163) (c:=body_ Tryz.f163) q _ (by kernel_rfl) (by kernel_rfl) (by kernel_rfl)).trans (B163 _ p0)
noncomputable def T135(p0:Int)(p1:Int):Option Int:=((T163 p0).bind fun x1=>((T163 p1).bind fun x2=>(bif x1 then(bif x2 then(some 0)else(some (-1)))else(bif x2 then(some 1)else(bif (ltI p0 p1)then(some (-1))else(bif (ltI p1 p0)then(some 1)else(some 0)))))))
theorem B135(C:Callee)(h163:∀(p0:Int),C 163 [I p0]=(T163 p0).map B)(p0:Int)(p1:Int):rB C 135 Tryz.f135 (frame0 [I p0,I p1] 20 false) ((T135 p0 p1).map I):=by
 unfold T135
 refine zS 1 0 (mkE [(0,I p0),(1,I p1)] [] 20) (zR 2 1 (sg 1 (mkE [(7,I p0),(0,I p0),(1,I p1)] [] 20) (co 8 [] (h163 p0) (fun x1=>?_))))
 refine zN (mkE [(0,I p0),(1,I p1),(5,B x1)] [] 20) (zR 3 2 (sg 1 (mkE [(9,I p1),(0,I p0),(1,I p1),(5,B x1)] [] 20) (co 10 [] (h163 p1) (fun x2=>?_))))
 refine zN (mkE [(0,I p0),(1,I p1),(5,B x1),(6,B x2)] [] 20) (gS 7 (zS 0 3 (mkE [(0,I p0),(1,I p1),(6,B x2),(11,B x1)] [] 20) (gC 11 x1 ?_ ?_)))
 ·refine gS 6 (zS 0 4 (mkE [(12,B x2)] [] 20) (gC 12 x2 ?_ ?_))
  ·exact zF 0 5 (mkE [(4,I 0)] [] 20)
  ·exact gK (zP (zF 0 6 (mkE [(4,I (-1))] [] 20)))
 ·refine gK (zP (gS 9 (zS 0 7 (mkE [(0,I p0),(1,I p1),(13,B x2)] [] 20) (gC 13 x2 ?_ ?_))))
  ·exact zF 0 8 (mkE [(4,I 1)] [] 20)
  ·refine gK (zP (gS 11 (zS 0 9 (mkE [(0,I p0),(1,I p1),(16,B (ltI p0 p1))] [] 20) (gC 16 (ltI p0 p1) ?_ ?_))))
   ·exact zF 0 10 (mkE [(4,I (-1))] [] 20)
   ·refine gK (zP (gS 13 (zS 0 11 (mkE [(19,B (ltI p1 p0))] [] 20) (gC 19 (ltI p1 p0) ?_ ?_))))
    ·exact zF 0 12 (mkE [(4,I 1)] [] 20)
    ·exact gK (zP (zF 0 13 (mkE [(4,I 0)] [] 20)))
theorem F135(m:Nat)(hm:2≤m)(p0:Int)(p1:Int):callA Tryz.prog cfg m 135 [I p0,I p1]=(T135 p0 p1).map I:=by
 obtain⟨q,rfl⟩:=sucK hm
 exact(callA_bodyQ (fn:=Tryz.f135) (c:=body_ Tryz.f135) q _ (by kernel_rfl) (by kernel_rfl) (by kernel_rfl)).trans (B135 _ (fun p0=>(guard_q (by kernel_rfl) _).trans (F163 q (by omega) p0)) p0 p1)
theorem F67(m:Nat)(hm:1≤m)(p0:ByteArray)(p1:ByteArray):callA Tryz.prog cfg m 67 [S p0,S p1]=(some (cmpS p0 p1)).map I:=by
 obtain⟨q,rfl⟩:=sucK hm
 exact(callA_leaf (L:=leafCmp) _ _ (by kernel_rfl)).trans (rfl)
noncomputable def T38(p0:ByteArray)(p1:ByteArray):Option Int:=((some (cmpS p0 p1)).bind fun x1=>(some x1))
theorem B38(C:Callee)(h67:∀(p0:ByteArray)(p1:ByteArray),C 67 [S p0,S p1]=(some (cmpS p0 p1)).map I)(p0:ByteArray)(p1:ByteArray):rB C 38 Tryz.f38 (frame0 [S p0,S p1] 8 false) ((T38 p0 p1).map I):=by
 unfold T38
 refine zS 1 0 (mkE [(0,S p0),(1,S p1)] [] 8) (zR 0 1 (sg 2 (mkE [(6,S p1),(5,S p0),(0,S p0),(1,S p1)] [] 8) (co 7 [] (h67 p0 p1) (fun x1=>?_))))
 exact zE (mkE [(4,I x1)] [] 8)
theorem F38(m:Nat)(hm:2≤m)(p0:ByteArray)(p1:ByteArray):callA Tryz.prog cfg m 38 [S p0,S p1]=(T38 p0 p1).map I:=by
 obtain⟨q,rfl⟩:=sucK hm
 exact(callA_bodyQ (fn:=Tryz.f38) (c:=body_ Tryz.f38) q _ (by kernel_rfl) (by kernel_rfl) (by kernel_rfl)).trans (B38 _ (fun p0 p1=>(guard_q (by kernel_rfl) _).trans (F67 q (by omega) p0 p1)) p0 p1)
noncomputable def L37_3(p0:(List Int))(z0:Int):Option (Int⊕((Int×Bool)⊕Int)):=(bif (ltI z0 (lenL p0))then((listAt p0 z0).bind fun x1=>(bif (neI x1 0)then(some (.inr (.inr x1)))else(some (.inl (addI .i64 z0 1)))))else(some (.inr (.inl (z0,(ltI z0 (lenL p0)))))))
theorem L37_3_ok(C:Callee)(p0:(List Int))(z0:Int):rL C 37 Tryz.f37 3 [false,false,true,false,true,true] (fun z0:Int=>(mkE [(3,I 0),(6,LL I p0),(7,I (lenL p0)),(8,I z0)] [] 18)) (Sum.elim (fun(x:(Int×Bool))=>(.exit 0,(mkE [(3,I 0),(6,LL I p0),(7,I (lenL p0)),(8,I x.1),(9,B x.2)] [] 18))) (fun(x:Int)=>(.ret,(mkE [(2,I x)] [] 18)))) (L37_3 p0 z0) z0:=by
 unfold L37_3
 refine zS 0 3 (mkE [(3,I 0),(6,LL I p0),(7,I (lenL p0)),(8,I z0),(9,B (ltI z0 (lenL p0)))] [] 18) (gS 4 (gC 9 (ltI z0 (lenL p0)) ?_ ?_))
 ·refine gK (zP (gS 7 (gB 1 (zR 5 4 (vo 10 (addrE 22 3 1 I .i64 p0 z0) (fun x1=>?_))))))
  refine zN (mkE [(3,I 0),(5,I x1),(6,LL I p0),(7,I (lenL p0)),(8,I z0)] [] 18) (zS 0 5 (mkE [(3,I 0),(5,I x1),(6,LL I p0),(7,I (lenL p0)),(8,I z0),(14,B (neI x1 0))] [] 18) (gC 14 (neI x1 0) ?_ ?_))
  ·exact zF 0 6 (mkE [(2,I x1)] [] 18)
  ·exact gK (pB (zP (gR 7 (rg Tryz.f37 7) (se (mkE [(3,I 0),(6,LL I p0),(7,I (lenL p0)),(8,I (addI .i64 z0 1))] [] 18) (pL)))))
 ·exact gX 0 (pL)
noncomputable def T37(p0:(List Int)):Option Int:=((iter (L37_3 p0) 0).bind fun y2=>(Sum.elim (fun y2a=>(some 0)) (fun y2b=>(some y2b)) y2))
theorem B37(C:Callee)(p0:(List Int)):rB C 37 Tryz.f37 (frame0 [LL I p0] 18 false) ((T37 p0).map I):=by
 unfold T37
 refine zS 1 0 (mkE [(0,LL I p0)] [] 18) (zS 2 1 (mkE [(0,LL I p0),(3,I 0)] [] 18) (gS 8 (zR 3 2 (sg 1 (mkE [(6,LL I p0),(0,LL I p0),(3,I 0)] [] 18) (eo 7 (I (lenL p0)) (lenE 22 I p0) (zN (mkE [(3,I 0),(6,LL I p0),(7,I (lenL p0)),(8,I 0)] [] 18) (gB 0 (lo [(3,none),(6,none),(7,none),(8,none)] [] (L37_3 p0) (fun z0:Int=>(mkE [(3,I 0),(6,LL I p0),(7,I (lenL p0)),(8,I z0)] [] 18)) (Sum.elim (fun(x:(Int×Bool))=>(.exit 0,(mkE [(3,I 0),(6,LL I p0),(7,I (lenL p0)),(8,I x.1),(9,B x.2)] [] 18))) (fun(x:Int)=>(.ret,(mkE [(2,I x)] [] 18)))) 0 (fun z=>L37_3_ok C p0 z) ?_))))))))
 intro y2
 refine ss y2 (Z:=(Sum.elim (fun(x:(Int×Bool))=>(.exit 0,(mkE [(3,I 0),(6,LL I p0),(7,I (lenL p0)),(8,I x.1),(9,B x.2)] [] 18))) (fun(x:Int)=>(.ret,(mkE [(2,I x)] [] 18))))) (fun y2a=>?_) (fun y2b=>?_)
 ·exact pH (zP (zF 0 8 (mkE [(2,I 0)] [] 18)))
 ·exact pL
theorem F37(m:Nat)(hm:1≤m)(p0:(List Int)):callA Tryz.prog cfg m 37 [LL I p0]=(T37 p0).map I:=by
 obtain⟨q,rfl⟩:=sucK hm
 exact(callA_bodyQ (fn:=Tryz.f37) (c:=body_ Tryz.f37) q _ (by kernel_rfl) (by kernel_rfl) (by kernel_rfl)).trans (B37 _ p0)
noncomputable def T84(p0:S46)(p1:S46):Option Int:=((T135 p0.f4 p1.f4).bind fun x1=>((T38 p0.f0 p1.f0).bind fun x2=>((T37 ([x1,x2]:List Int)).bind fun x3=>(some x3))))
abbrev H135(C:Callee):Prop:=∀(p0:Int)(p1:Int),C 135 [I p0,I p1]=(T135 p0 p1).map I
abbrev H37(C:Callee):Prop:=∀(p0:(List Int)),C 37 [LL I p0]=(T37 p0).map I
abbrev H38(C:Callee):Prop:=∀(p0:ByteArray)(p1:ByteArray),C 38 [S p0,S p1]=(T38 p0 p1).map I
theorem B84(C:Callee)(h135:H135 C)(h37:H37 C)(h38:H38 C)(p0:S46)(p1:S46):rB C 84 Tryz.f84 (frame0 [a46 p0,a46 p1] 17 false) ((T84 p0 p1).map I):=by
 unfold T84
 let d_0:List (Option Nat×REff):=[(some 5,qe (.ba 16 4)),(some 6,qe (I p0.f4)),(some 7,qe (.ba 24 4)),(some 8,qe (I p1.f4))]
 let d_1:List (Option Nat×REff):=[(some 10,qe (.ba 16 0)),(some 11,qe (S p0.f0)),(some 12,qe (.ba 24 0)),(some 13,qe (S p1.f0))]
 let s_0:List (Nat×AV):=[(8,I p1.f4),(7,.ba 24 4),(6,I p0.f4),(5,.ba 16 4),(2,.ba 16 0),(3,.ba 24 0)]
 let o_0:List (Nat×AObj):=[(16,.box [S p0.f0,S p0.f1,I p0.f2,LL S p0.f3,I p0.f4,I p0.f5,I p0.f6,LL a64 p0.f7,S p0.f8] false),(24,.box [S p1.f0,S p1.f1,I p1.f2,LL S p1.f3,I p1.f4,I p1.f5,I p1.f6,LL a64 p1.f7,S p1.f8] false)]
 refine zS 1 0 (mkE [(2,.ba 16 0),(3,.ba 24 0)] o_0 17) (gS 0 (gD 1 13 (rg Tryz.f84 1) [0,1,2,3,4,5,6,7,8,9,10,11,12] (dg 4 d_0 (dc 9 [] (mkE s_0 o_0 17) (h135 p0.f4 p1.f4) (fun x1=>?_)))))
 refine dg 9 (d_0.append ((some 9,qe (I x1))::d_1)) (dc 14 [] (mkE ((13,S p1.f0)::((12,.ba 24 0)::((11,S p0.f0)::((10,.ba 16 0)::((9,I x1)::s_0))))) o_0 17) (h38 p0.f0 p1.f0) (fun x2=>?_))
 refine dg 11 (d_0.append ((some 9,qe (I x1))::(d_1.append ((some 14,qe (I x2))::[(some 15,{ e:={ val:= .own 120 0,news:=[(120,RR 3 1 I ([x1,x2]:List Int) 0 false)] } })])))) (dc 16 [120] (mkE ((15,.own 120 0)::((14,I x2)::((13,S p1.f0)::((12,.ba 24 0)::((11,S p0.f0)::((10,.ba 16 0)::((9,I x1)::s_0))))))) ((120,RR 3 1 I ([x1,x2]:List Int) 0 false)::o_0) 17) (h37 ([x1,x2]:List Int)) (fun x3=>?_))
 exact dg 13 (d_0.append ((some 9,qe (I x1))::(d_1.append ((some 14,qe (I x2))::((some 15,{ e:={ val:= .own 120 0,news:=[(120,RR 3 1 I ([x1,x2]:List Int) 0 false)] } })::((some 16,qe (I x3))::[(some 4,qe (I x3))])))))) (de (mkE ((4,I x3)::((16,I x3)::((15,.own 120 0)::((14,I x2)::((13,S p1.f0)::((12,.ba 24 0)::((11,S p0.f0)::((10,.ba 16 0)::((9,I x1)::s_0))))))))) ((120,RR 3 1 I ([x1,x2]:List Int) 0 false)::o_0) 17) (zE (mkE [(4,I x3)] [] 17)))
theorem F84(m:Nat)(hm:3≤m)(p0:S46)(p1:S46):callA Tryz.prog cfg m 84 [a46 p0,a46 p1]=(T84 p0 p1).map I:=by
 obtain⟨q,rfl⟩:=sucK hm
 exact(callA_bodyQ (fn:=Tryz.f84) (c:=body_ Tryz.f84) q _ (by kernel_rfl) (by kernel_rfl) (by kernel_rfl)).trans (B84 _ (fun p0 p1=>(guard_q (by kernel_rfl) _).trans (F135 q (by omega) p0 p1)) (fun p0=>(guard_q (by kernel_rfl) _).trans (F37 q (by omega) p0)) (fun p0 p1=>(guard_q (by kernel_rfl) _).trans (F38 q (by omega) p0 p1)) p0 p1)
noncomputable def L50_4(p0:(List S46))(z0:Int):Option (Int⊕((Int×Bool)⊕Int)):=(bif (ltI z0 (lenL p0))then((listAt p0 z0).bind fun x1=>((T87 x1).bind fun x2=>(bif (neI x2 0)then(some (.inr (.inr x2)))else(bif (ltI 0 z0)then((listAt p0 (subI .i64 z0 1)).bind fun x3=>((T84 x3 x1).bind fun x4=>(bif (leI 0 x4)then(some (.inr (.inr 7)))else(some (.inl (addI .i64 z0 1))))))else(some (.inl (addI .i64 z0 1)))))))else(some (.inr (.inl (z0,(ltI z0 (lenL p0)))))))
abbrev H84(C:Callee):Prop:=∀(p0:S46)(p1:S46),C 84 [a46 p0,a46 p1]=(T84 p0 p1).map I
abbrev H87(C:Callee):Prop:=∀(p0:S46),C 87 [a46 p0]=(T87 p0).map I
theorem L50_4_ok(C:Callee)(h84:H84 C)(h87:H87 C)(p0:(List S46))(z0:Int):rL C 50 Tryz.f50 4 [false,false,true,false,true,true] (fun z0:Int=>(mkE [(0,LL a46 p0),(12,LL a46 p0),(13,I (lenL p0)),(14,I z0)] [] 52)) (Sum.elim (fun(x:(Int×Bool))=>(.exit 0,(mkE [(0,LL a46 p0),(12,LL a46 p0),(13,I (lenL p0)),(14,I x.1),(15,B x.2)] [] 52))) (fun(x:Int)=>(.ret,(mkE [(2,I x)] [] 52)))) (L50_4 p0 z0) z0:=by
 unfold L50_4
 let d_0:List (Option Nat×REff):=[(some 24,qe (I z0)),(some 25,qe (B (ltI 0 z0))),(some 26,qe (B true)),(some 27,qe (LL a46 p0)),(some 28,qe (I z0)),(some 29,qe (I (subI .i64 z0 1)))]
 let s_0:List (Nat×AV):=[(12,LL a46 p0),(13,I (lenL p0)),(14,I z0)]
 let s_1:List (Nat×AV):=[(29,I (subI .i64 z0 1)),(28,I z0),(27,LL a46 p0),(26,B true),(25,B (ltI 0 z0)),(24,I z0),(0,LL a46 p0),(3,I z0),(4,.ba 32 0)]
 let s_2:List (Nat×AV):=[(0,LL a46 p0),(3,I z0),(4,.ba 32 0)]
 refine zS 0 4 (mkE ((0,LL a46 p0)::(s_0.append [(15,B (ltI z0 (lenL p0)))])) [] 52) (gS 5 (gC 15 (ltI z0 (lenL p0)) ?_ ?_))
 ·refine gK (zP (gS 11 (gB 1 (zR 6 5 (sg 1 (mkE ((16,I z0)::((0,LL a46 p0)::(s_0.append [(15,B (ltI z0 (lenL p0)))]))) [] 52) (vo 17 (addrE 26 47 9 a46 .i64 p0 z0) (fun x1=>?_)))))))
  refine zN (mkE (s_2.append s_0) [(32,.box [S x1.f0,S x1.f1,I x1.f2,LL S x1.f3,I x1.f4,I x1.f5,I x1.f6,LL a64 x1.f7,S x1.f8] false)] 52) (gS 9 (zR 7 6 (sg 1 (mkE ((19,a46 x1)::(s_2.append s_0)) [(32,.box [S x1.f0,S x1.f1,I x1.f2,LL S x1.f3,I x1.f4,I x1.f5,I x1.f6,LL a64 x1.f7,S x1.f8] false)] 52) (co 20 [] (h87 x1) (fun x2=>?_)))))
  refine zN (mkE (s_2.append ((5,I x2)::s_0)) [(32,.box [S x1.f0,S x1.f1,I x1.f2,LL S x1.f3,I x1.f4,I x1.f5,I x1.f6,LL a64 x1.f7,S x1.f8] false)] 52) (zS 0 7 (mkE (s_2.append ((5,I x2)::(s_0.append [(22,B (neI x2 0))]))) [(32,.box [S x1.f0,S x1.f1,I x1.f2,LL S x1.f3,I x1.f4,I x1.f5,I x1.f6,LL a64 x1.f7,S x1.f8] false)] 52) (gC 22 (neI x2 0) ?_ ?_))
  ·exact zF 0 8 (mkE [(2,I x2)] [] 52)
  ·refine gK (zP (gS 0 (gD 9 12 (rg Tryz.f50 9) [0,1,2,3,4,5,6,7,8,9,10,11] (dg 3 [(some 24,qe (I z0)),(some 25,qe (B (ltI 0 z0))),(some 26,qe (B (ltI 0 z0)))] (db 2 26 (ltI 0 z0) ?_ ?_)))))
   ·refine dg 6 d_0 (dv 30 (mkE (s_1.append ((5,I x2)::(s_0.append [(22,B (neI x2 0))]))) [(32,.box [S x1.f0,S x1.f1,I x1.f2,LL S x1.f3,I x1.f4,I x1.f5,I x1.f6,LL a64 x1.f7,S x1.f8] false)] 52) (addrE 26 47 9 a46 .i64 p0 (subI .i64 z0 1)) (fun x3=>?_))
    refine dg 9 (d_0.append ((some 30,qe (.ia [S x3.f0,S x3.f1,I x3.f2,LL S x3.f3,I x3.f4,I x3.f5,I x3.f6,LL a64 x3.f7,S x3.f8] 0))::((some 31,qe (a46 x3))::[(some 32,qe (a46 x1))]))) (dc 33 [] (mkE ((32,a46 x1)::((31,a46 x3)::((30,.ia [S x3.f0,S x3.f1,I x3.f2,LL S x3.f3,I x3.f4,I x3.f5,I x3.f6,LL a64 x3.f7,S x3.f8] 0)::(s_1.append ((5,I x2)::(s_0.append [(22,B (neI x2 0))])))))) [(32,.box [S x1.f0,S x1.f1,I x1.f2,LL S x1.f3,I x1.f4,I x1.f5,I x1.f6,LL a64 x1.f7,S x1.f8] false)] 52) (h84 x3 x1) (fun x4=>?_))
    refine dg 12 (d_0.append ((some 30,qe (.ia [S x3.f0,S x3.f1,I x3.f2,LL S x3.f3,I x3.f4,I x3.f5,I x3.f6,LL a64 x3.f7,S x3.f8] 0))::((some 31,qe (a46 x3))::((some 32,qe (a46 x1))::((some 33,qe (I x4))::((some 34,qe (B (leI 0 x4)))::[(some 35,qe (B (leI 0 x4)))])))))) (de (mkE ((35,B (leI 0 x4))::((34,B (leI 0 x4))::((33,I x4)::((32,a46 x1)::((31,a46 x3)::((30,.ia [S x3.f0,S x3.f1,I x3.f2,LL S x3.f3,I x3.f4,I x3.f5,I x3.f6,LL a64 x3.f7,S x3.f8] 0)::(s_1.append ((5,I x2)::(s_0.append [(22,B (neI x2 0))]))))))))) [(32,.box [S x1.f0,S x1.f1,I x1.f2,LL S x1.f3,I x1.f4,I x1.f5,I x1.f6,LL a64 x1.f7,S x1.f8] false)] 52) (zN (mkE ((0,LL a46 p0)::(s_0.append [(35,B (leI 0 x4))])) [] 52) (gC 35 (leI 0 x4) ?_ ?_)))
    ·exact zF 0 10 (mkE [(2,I 7)] [] 52)
    ·exact gK (pB (zP (gR 11 (rg Tryz.f50 11) (se (mkE [(0,LL a46 p0),(12,LL a46 p0),(13,I (lenL p0)),(14,I (addI .i64 z0 1))] [] 52) (pL)))))
   ·exact dg 12 [(some 24,qe (I z0)),(some 25,qe (B (ltI 0 z0))),(some 26,qe (B false)),(some 27,qe (.und)),(some 28,qe (.und)),(some 29,qe (.und)),(some 30,qe (.und)),(some 31,qe (.und)),(some 32,qe (.und)),(some 33,qe (.und)),(some 34,qe (.und)),(some 35,qe (B false))] (de (mkE ((35,B false)::((34,.und)::((33,.und)::((32,.und)::((31,.und)::((30,.und)::((29,.und)::((28,.und)::((27,.und)::((26,B false)::((25,B (ltI 0 z0))::((24,I z0)::(s_2.append ((5,I x2)::(s_0.append [(22,B (neI x2 0))]))))))))))))))) [(32,.box [S x1.f0,S x1.f1,I x1.f2,LL S x1.f3,I x1.f4,I x1.f5,I x1.f6,LL a64 x1.f7,S x1.f8] false)] 52) (zN (mkE ((0,LL a46 p0)::(s_0.append [(35,B false)])) [] 52) (gF (.tmp 35) (gK (pB (zP (gR 11 (rg Tryz.f50 11) (se (mkE [(0,LL a46 p0),(12,LL a46 p0),(13,I (lenL p0)),(14,I (addI .i64 z0 1))] [] 52) (pL)))))))))
 ·exact gX 0 (pL)
noncomputable def L50_14(p0:(List S46))(z1:((List (ByteArray×Bool))×Int)):Option (((List (ByteArray×Bool))×Int)⊕((Int×Bool×(List (ByteArray×Bool)))⊕Unit)):=(bif (ltI z1.2 (lenL p0))then((listAt p0 z1.2).bind fun x6=>(bif ((mgetB eqB z1.1 x6.f0).getD false)then(some (.inr (.inr ())))else((some (msetB eqB z1.1 x6.f0 true)).bind fun x7=>(some (.inl (x7,(addI .i64 z1.2 1)))))))else(some (.inr (.inl (z1.2,(ltI z1.2 (lenL p0)),z1.1)))))
theorem L50_14_ok(C:Callee)(p0:(List S46))(z1:((List (ByteArray×Bool))×Int)):rL C 50 Tryz.f50 14 [false,false,true,false,true,true,true,true] (fun z1:((List (ByteArray×Bool))×Int)=>(mkE [(6,.mr 48),(38,LL a46 p0),(39,I (lenL p0)),(40,I z1.2)] [(48,MP S B z1.1 false)] 52)) (Sum.elim (fun(x:(Int×Bool×(List (ByteArray×Bool))))=>(.exit 2,(mkE [(6,.mr 48),(38,LL a46 p0),(39,I (lenL p0)),(40,I x.1),(41,B x.2.1)] [(48,MP S B x.2.2 false)] 52))) (fun(x:Unit)=>(.ret,(mkE [(2,I 6)] [] 52)))) (L50_14 p0 z1) z1:=by
 unfold L50_14
 let s_0:List (Nat×AV):=[(6,.mr 48),(8,.ba 64 0),(38,LL a46 p0),(39,I (lenL p0)),(40,I z1.2)]
 refine zS 0 14 (mkE [(6,.mr 48),(38,LL a46 p0),(39,I (lenL p0)),(40,I z1.2),(41,B (ltI z1.2 (lenL p0)))] [(48,MP S B z1.1 false)] 52) (gS 15 (gC 41 (ltI z1.2 (lenL p0)) ?_ ?_))
 ·refine gK (zP (gS 19 (gB 3 (zR 16 15 (vo 42 (addrE 26 47 9 a46 .i64 p0 z1.2) (fun x6=>?_))))))
  refine zN (mkE s_0 [(48,MP S B z1.1 false),(64,.box [S x6.f0,S x6.f1,I x6.f2,LL S x6.f3,I x6.f4,I x6.f5,I x6.f6,LL a64 x6.f7,S x6.f8] false)] 52) (gS 18 (zR 0 16 (sg 3 (mkE ((46,S x6.f0)::((45,.ba 64 0)::((44,.mr 48)::s_0))) [(48,MP S B z1.1 false),(64,.box [S x6.f0,S x6.f1,I x6.f2,LL S x6.f3,I x6.f4,I x6.f5,I x6.f6,LL a64 x6.f7,S x6.f8] false)] 52) (eo 47 (B ((mgetB eqB z1.1 x6.f0).getD false)) (mapE 141 9 4 48 false S B eqB z1.1 x6.f0 false sameS) (zN (mkE (s_0.append [(47,B ((mgetB eqB z1.1 x6.f0).getD false))]) [(48,MP S B z1.1 false),(64,.box [S x6.f0,S x6.f1,I x6.f2,LL S x6.f3,I x6.f4,I x6.f5,I x6.f6,LL a64 x6.f7,S x6.f8] false)] 52) (gC 47 ((mgetB eqB z1.1 x6.f0).getD false) ?_ ?_))))))
  ·exact zF 0 17 (mkE [(2,I 6)] [] 52)
  ·refine gK (zP (gR 18 (rg Tryz.f50 18) (sg 3 (mkE ((50,S x6.f0)::((49,.ba 64 0)::((48,.mr 48)::(s_0.append [(47,B ((mgetB eqB z1.1 x6.f0).getD false))])))) [(48,MP S B z1.1 false),(64,.box [S x6.f0,S x6.f1,I x6.f2,LL S x6.f3,I x6.f4,I x6.f5,I x6.f6,LL a64 x6.f7,S x6.f8] false)] 52) (mo none (mapO_ 141 9 4 48 S B eqB z1.1 x6.f0 (B true) true [] sameS) (fun x7=>?_)))))
   exact se (mkE [(6,.mr 48),(38,LL a46 p0),(39,I (lenL p0)),(40,I z1.2)] [(48,MP S B x7 false)] 52) (pB (zP (gR 19 (rg Tryz.f50 19) (se (mkE [(6,.mr 48),(38,LL a46 p0),(39,I (lenL p0)),(40,I (addI .i64 z1.2 1))] [(48,MP S B x7 false)] 52) (pL)))))
 ·exact gX 2 (pL)
noncomputable def T50(p0:(List S46)):Option Int:=(bif (ltI 300 (lenL p0))then(some 2)else((iter (L50_4 p0) 0).bind fun y5=>(Sum.elim (fun y5a=>((iter (L50_14 p0) (([]:(List (ByteArray×Bool))),0)).bind fun y8=>(Sum.elim (fun y8a=>(some 0)) (fun y8b=>(some 6)) y8))) (fun y5b=>(some y5b)) y5)))
theorem B50(C:Callee)(h84:H84 C)(h87:H87 C)(p0:(List S46)):rB C 50 Tryz.f50 (frame0 [LL a46 p0] 52 false) ((T50 p0).map I):=by
 unfold T50
 let s_0:List (Nat×AV):=[(0,LL a46 p0),(12,LL a46 p0),(13,I (lenL p0))]
 refine zS 1 0 (mkE [(0,LL a46 p0)] [] 52) (gS 3 (zR 0 1 (sg 1 (mkE [(9,LL a46 p0),(0,LL a46 p0)] [] 52) (eo 10 (I (lenL p0)) (lenE 26 a46 p0) (zN (mkE [(0,LL a46 p0),(11,B (ltI 300 (lenL p0)))] [] 52) (gC 11 (ltI 300 (lenL p0)) ?_ ?_))))))
 ·exact zF 0 2 (mkE [(2,I 2)] [] 52)
 ·refine gK (zP (gS 12 (zR 4 3 (sg 1 (mkE [(12,LL a46 p0),(0,LL a46 p0),(11,B (ltI 300 (lenL p0)))] [] 52) (eo 13 (I (lenL p0)) (lenE 26 a46 p0) (zN (mkE (s_0.append [(14,I 0)]) [] 52) (gB 0 (lo [(0,none),(12,none),(13,none),(14,none)] [] (L50_4 p0) (fun z0:Int=>(mkE (s_0.append [(14,I z0)]) [] 52)) (Sum.elim (fun(x:(Int×Bool))=>(.exit 0,(mkE (s_0.append ((14,I x.1)::[(15,B x.2)])) [] 52))) (fun(x:Int)=>(.ret,(mkE [(2,I x)] [] 52)))) 0 (fun z=>L50_4_ok C h84 h87 p0 z) ?_))))))))
  intro y5
  refine ss y5 (Z:=(Sum.elim (fun(x:(Int×Bool))=>(.exit 0,(mkE (s_0.append ((14,I x.1)::[(15,B x.2)])) [] 52))) (fun(x:Int)=>(.ret,(mkE [(2,I x)] [] 52))))) (fun y5a=>?_) (fun y5b=>?_)
  ·refine pH (zP (zS 13 12 (mkE [(0,LL a46 p0),(6,.mr 296)] [(296,MP S B ([]:(List (ByteArray×Bool))) false)] 52) (gS 20 (zR 14 13 (sg 1 (mkE [(38,LL a46 p0),(0,LL a46 p0),(6,.mr 296)] [(296,MP S B ([]:(List (ByteArray×Bool))) false)] 52) (eo 39 (I (lenL p0)) (lenE 26 a46 p0) (zN (mkE [(6,.mr 296),(38,LL a46 p0),(39,I (lenL p0)),(40,I 0)] [(296,MP S B ([]:(List (ByteArray×Bool))) false)] 52) (gB 2 (lo [(6,none),(38,none),(39,none),(40,none)] [] (L50_14 p0) (fun z1:((List (ByteArray×Bool))×Int)=>(mkE [(6,.mr 48),(38,LL a46 p0),(39,I (lenL p0)),(40,I z1.2)] [(48,MP S B z1.1 false)] 52)) (Sum.elim (fun(x:(Int×Bool×(List (ByteArray×Bool))))=>(.exit 2,(mkE [(6,.mr 48),(38,LL a46 p0),(39,I (lenL p0)),(40,I x.1),(41,B x.2.1)] [(48,MP S B x.2.2 false)] 52))) (fun(x:Unit)=>(.ret,(mkE [(2,I 6)] [] 52)))) (([]:(List (ByteArray×Bool))),0) (fun z=>L50_14_ok C p0 z) ?_)))))))))
   intro y8
   refine ss y8 (Z:=(Sum.elim (fun(x:(Int×Bool×(List (ByteArray×Bool))))=>(.exit 2,(mkE [(6,.mr 48),(38,LL a46 p0),(39,I (lenL p0)),(40,I x.1),(41,B x.2.1)] [(48,MP S B x.2.2 false)] 52))) (fun(x:Unit)=>(.ret,(mkE [(2,I 6)] [] 52))))) (fun y8a=>?_) (fun y8b=>?_)
   ·exact pH (zP (zF 0 20 (mkE [(2,I 0)] [] 52)))
   ·exact pL
  ·exact pL
theorem F50(m:Nat)(hm:5≤m)(p0:(List S46)):callA Tryz.prog cfg m 50 [LL a46 p0]=(T50 p0).map I:=by
 obtain⟨q,rfl⟩:=sucK hm
 exact(callA_body (fn:=Tryz.f50) (c:=body_ Tryz.f50) q _ (by kernel_rfl) (by kernel_rfl) (by kernel_rfl)).trans (B50 _ (fun p0 p1=>F84 q (by omega) p0 p1) (fun p0=>F87 q (by omega) p0) p0)
noncomputable def L68_4(p0:(List S32))(z0:Int):Option (Int⊕((Int×Bool)⊕Int)):=(bif (ltI z0 (lenL p0))then((listAt p0 z0).bind fun x1=>((T108 x1.f0).bind fun x2=>(bif (!x2)then(some (.inr (.inr 5)))else((T30 x1.f1 (-100000) 100000).bind fun x3=>(bif x3 then(some (.inr (.inr 1)))else((T30 x1.f2 (-100000) 100000).bind fun x4=>(bif x4 then(some (.inr (.inr 1)))else(bif (ltI 0 z0)then((listAt p0 (subI .i64 z0 1)).bind fun x5=>(bif (ltS x1.f0 x5.f0||eqS x1.f0 x5.f0)then(some (.inr (.inr 7)))else(some (.inl (addI .i64 z0 1)))))else(some (.inl (addI .i64 z0 1)))))))))))else(some (.inr (.inl (z0,(ltI z0 (lenL p0)))))))
theorem L68_4_ok(C:Callee)(h108:H108 C)(h30:H30 C)(p0:(List S32))(z0:Int):rL C 68 Tryz.f68 4 [false,false,true,false,true,true] (fun z0:Int=>(mkE [(0,LL a32 p0),(8,LL a32 p0),(9,I (lenL p0)),(10,I z0)] [] 44)) (Sum.elim (fun(x:(Int×Bool))=>(.exit 0,(mkE [(0,LL a32 p0),(8,LL a32 p0),(9,I (lenL p0)),(10,I x.1),(11,B x.2)] [] 44))) (fun(x:Int)=>(.ret,(mkE [(2,I x)] [] 44)))) (L68_4 p0 z0) z0:=by
 unfold L68_4
 let d_0:List (Option Nat×REff):=[(some 30,qe (I z0)),(some 31,qe (B (ltI 0 z0)))]
 let s_0:List (Nat×AV):=[(0,LL a32 p0),(3,I z0),(4,.ba 32 0),(8,LL a32 p0),(9,I (lenL p0)),(10,I z0)]
 let s_1:List (Nat×AV):=[(0,LL a32 p0),(8,LL a32 p0),(9,I (lenL p0))]
 refine zS 0 4 (mkE (s_1.append ((10,I z0)::[(11,B (ltI z0 (lenL p0)))])) [] 44) (gS 5 (gC 11 (ltI z0 (lenL p0)) ?_ ?_))
 ·refine gK (zP (gS 12 (gB 1 (zR 6 5 (sg 1 (mkE ((12,I z0)::(s_1.append ((10,I z0)::[(11,B (ltI z0 (lenL p0)))]))) [] 44) (vo 13 (addrE 28 33 3 a32 .i64 p0 z0) (fun x1=>?_)))))))
  refine zN (mkE s_0 [(32,.box [S x1.f0,I x1.f1,I x1.f2] false)] 44) (gB 2 (zR 0 6 (sg 2 (mkE ((17,S x1.f0)::((16,.ba 32 0)::s_0)) [(32,.box [S x1.f0,I x1.f1,I x1.f2] false)] 44) (co 18 [] (h108 x1.f0) (fun x2=>?_)))))
  refine zN (mkE (s_0.append [(15,B (!x2))]) [(32,.box [S x1.f0,I x1.f1,I x1.f2] false)] 44) (gC 15 (!x2) ?_ ?_)
  ·exact zF 0 7 (mkE [(2,I 5)] [] 44)
  ·refine zR 0 8 (sg 2 (mkE ((22,I x1.f1)::((21,.ba 32 1)::(s_0.append [(15,B (!x2))]))) [(32,.box [S x1.f0,I x1.f1,I x1.f2] false)] 44) (co 23 [] (h30 x1.f1 (-100000) 100000) (fun x3=>?_)))
   refine sg 4 (mkE ((24,B x3)::((23,B x3)::((22,I x1.f1)::((21,.ba 32 1)::(s_0.append [(15,B (!x2))]))))) [(32,.box [S x1.f0,I x1.f1,I x1.f2] false)] 44) (sb 24 x3 ?_ ?_)
   ·exact zN (mkE (s_0.append [(20,B true)]) [(32,.box [S x1.f0,I x1.f1,I x1.f2] false)] 44) (gT (.tmp 20) (zF 0 9 (mkE [(2,I 1)] [] 44)))
   ·refine sg 6 (mkE ((26,I x1.f2)::((25,.ba 32 2)::((24,B false)::((24,B x3)::((23,B x3)::((22,I x1.f1)::((21,.ba 32 1)::(s_0.append [(15,B (!x2))])))))))) [(32,.box [S x1.f0,I x1.f1,I x1.f2] false)] 44) (co 27 [] (h30 x1.f2 (-100000) 100000) (fun x4=>?_))
    refine zN (mkE (s_0.append [(20,B x4)]) [(32,.box [S x1.f0,I x1.f1,I x1.f2] false)] 44) (gC 20 x4 ?_ ?_)
    ·exact zF 0 9 (mkE [(2,I 1)] [] 44)
    ·refine gS 0 (gD 10 14 (rg Tryz.f68 10) [0,1,2,3,4,5,6,7,8,9,10,11,12,13] (dg 3 (d_0.append [(some 32,qe (B (ltI 0 z0)))]) (db 2 32 (ltI 0 z0) ?_ ?_)))
     ·refine dg 8 (d_0.append ((some 32,qe (B true))::((some 33,qe (.ba 32 0))::((some 34,qe (S x1.f0))::((some 35,qe (LL a32 p0))::((some 36,qe (I z0))::[(some 37,qe (I (subI .i64 z0 1)))])))))) (dv 38 (mkE ((37,I (subI .i64 z0 1))::((36,I z0)::((35,LL a32 p0)::((32,B true)::((31,B (ltI 0 z0))::((30,I z0)::(s_0.append [(20,B x4)]))))))) [(32,.box [S x1.f0,I x1.f1,I x1.f2] false)] 44) (addrE 28 33 3 a32 .i64 p0 (subI .i64 z0 1)) (fun x5=>?_))
      refine dg 14 (d_0.append ((some 32,qe (B true))::((some 33,qe (.ba 32 0))::((some 34,qe (S x1.f0))::((some 35,qe (LL a32 p0))::((some 36,qe (I z0))::((some 37,qe (I (subI .i64 z0 1)))::((some 38,qe (.ia [S x5.f0,I x5.f1,I x5.f2] 0))::((some 39,qe (.ia [S x5.f0,I x5.f1,I x5.f2] 0))::((some 40,qe (S x5.f0))::((some 41,qe (B (ltS x1.f0 x5.f0||eqS x1.f0 x5.f0)))::((some 42,qe (B (ltS x1.f0 x5.f0||eqS x1.f0 x5.f0)))::[(some 29,qe (B (ltS x1.f0 x5.f0||eqS x1.f0 x5.f0)))])))))))))))) (de (mkE ((29,B (ltS x1.f0 x5.f0||eqS x1.f0 x5.f0))::((42,B (ltS x1.f0 x5.f0||eqS x1.f0 x5.f0))::((41,B (ltS x1.f0 x5.f0||eqS x1.f0 x5.f0))::((40,S x5.f0)::((39,.ia [S x5.f0,I x5.f1,I x5.f2] 0)::((38,.ia [S x5.f0,I x5.f1,I x5.f2] 0)::((37,I (subI .i64 z0 1))::((36,I z0)::((35,LL a32 p0)::((34,S x1.f0)::((33,.ba 32 0)::((32,B true)::((31,B (ltI 0 z0))::((30,I z0)::(s_0.append [(20,B x4)]))))))))))))))) [(32,.box [S x1.f0,I x1.f1,I x1.f2] false)] 44) (zN (mkE (s_1.append ((10,I z0)::[(29,B (ltS x1.f0 x5.f0||eqS x1.f0 x5.f0))])) [] 44) (gC 29 (ltS x1.f0 x5.f0||eqS x1.f0 x5.f0) ?_ ?_)))
      ·exact zF 0 11 (mkE [(2,I 7)] [] 44)
      ·exact gK (pB (pB (zP (gR 12 (rg Tryz.f68 12) (se (mkE (s_1.append [(10,I (addI .i64 z0 1))]) [] 44) (pL))))))
     ·exact dg 14 (d_0.append ((some 32,qe (B false))::((some 33,qe (.und))::((some 34,qe (.und))::((some 35,qe (.und))::((some 36,qe (.und))::((some 37,qe (.und))::((some 38,qe (.und))::((some 39,qe (.und))::((some 40,qe (.und))::((some 41,qe (.und))::((some 42,qe (B false))::[(some 29,qe (B false))])))))))))))) (de (mkE ((29,B false)::((42,B false)::((41,.und)::((40,.und)::((39,.und)::((38,.und)::((37,.und)::((36,.und)::((35,.und)::((34,.und)::((33,.und)::((32,B false)::((31,B (ltI 0 z0))::((30,I z0)::(s_0.append [(20,B x4)]))))))))))))))) [(32,.box [S x1.f0,I x1.f1,I x1.f2] false)] 44) (zN (mkE (s_1.append ((10,I z0)::[(29,B false)])) [] 44) (gF (.tmp 29) (gK (pB (pB (zP (gR 12 (rg Tryz.f68 12) (se (mkE (s_1.append [(10,I (addI .i64 z0 1))]) [] 44) (pL))))))))))
 ·exact gX 0 (pL)
noncomputable def T68(p0:(List S32)):Option Int:=(bif (ltI 500 (lenL p0))then(some 2)else((iter (L68_4 p0) 0).bind fun y6=>(Sum.elim (fun y6a=>(some 0)) (fun y6b=>(some y6b)) y6)))
theorem B68(C:Callee)(h108:H108 C)(h30:H30 C)(p0:(List S32)):rB C 68 Tryz.f68 (frame0 [LL a32 p0] 44 false) ((T68 p0).map I):=by
 unfold T68
 let s_0:List (Nat×AV):=[(0,LL a32 p0),(8,LL a32 p0),(9,I (lenL p0))]
 refine zS 1 0 (mkE [(0,LL a32 p0)] [] 44) (gS 3 (zR 0 1 (sg 1 (mkE [(5,LL a32 p0),(0,LL a32 p0)] [] 44) (eo 6 (I (lenL p0)) (lenE 28 a32 p0) (zN (mkE [(0,LL a32 p0),(7,B (ltI 500 (lenL p0)))] [] 44) (gC 7 (ltI 500 (lenL p0)) ?_ ?_))))))
 ·exact zF 0 2 (mkE [(2,I 2)] [] 44)
 ·refine gK (zP (gS 13 (zR 4 3 (sg 1 (mkE [(8,LL a32 p0),(0,LL a32 p0),(7,B (ltI 500 (lenL p0)))] [] 44) (eo 9 (I (lenL p0)) (lenE 28 a32 p0) (zN (mkE (s_0.append [(10,I 0)]) [] 44) (gB 0 (lo [(0,none),(8,none),(9,none),(10,none)] [] (L68_4 p0) (fun z0:Int=>(mkE (s_0.append [(10,I z0)]) [] 44)) (Sum.elim (fun(x:(Int×Bool))=>(.exit 0,(mkE (s_0.append ((10,I x.1)::[(11,B x.2)])) [] 44))) (fun(x:Int)=>(.ret,(mkE [(2,I x)] [] 44)))) 0 (fun z=>L68_4_ok C h108 h30 p0 z) ?_))))))))
  intro y6
  refine ss y6 (Z:=(Sum.elim (fun(x:(Int×Bool))=>(.exit 0,(mkE (s_0.append ((10,I x.1)::[(11,B x.2)])) [] 44))) (fun(x:Int)=>(.ret,(mkE [(2,I x)] [] 44))))) (fun y6a=>?_) (fun y6b=>?_)
  ·exact pH (zP (zF 0 13 (mkE [(2,I 0)] [] 44)))
  ·exact pL
theorem F68(m:Nat)(hm:2≤m)(p0:(List S32)):callA Tryz.prog cfg m 68 [LL a32 p0]=(T68 p0).map I:=by
 obtain⟨q,rfl⟩:=sucK hm
 exact(callA_body (fn:=Tryz.f68) (c:=body_ Tryz.f68) q _ (by kernel_rfl) (by kernel_rfl) (by kernel_rfl)).trans (B68 _ (fun p0=>F108 q (by omega) p0) (fun p0 p1 p2=>F30 q (by omega) p0 p1 p2) p0)
noncomputable def T39(p0:(List S46))(p1:(List S32)):Option Int:=((T50 p0).bind fun x1=>(bif (neI x1 0)then(some x1)else((T68 p1).bind fun x2=>(some x2))))
theorem B39(C:Callee)(h50:∀(p0:(List S46)),C 50 [LL a46 p0]=(T50 p0).map I)(h68:∀(p0:(List S32)),C 68 [LL a32 p0]=(T68 p0).map I)(p0:(List S46))(p1:(List S32)):rB C 39 Tryz.f39 (frame0 [LL a46 p0,LL a32 p1] 13 false) ((T39 p0 p1).map I):=by
 unfold T39
 refine zS 1 0 (mkE [(0,LL a46 p0),(1,LL a32 p1)] [] 13) (gS 4 (zR 2 1 (sg 1 (mkE [(6,LL a46 p0),(0,LL a46 p0),(1,LL a32 p1)] [] 13) (co 7 [] (h50 p0) (fun x1=>?_)))))
 refine zN (mkE [(1,LL a32 p1),(5,I x1)] [] 13) (zS 0 2 (mkE [(1,LL a32 p1),(5,I x1),(9,B (neI x1 0))] [] 13) (gC 9 (neI x1 0) ?_ ?_))
 ·exact zF 0 3 (mkE [(4,I x1)] [] 13)
 ·refine gK (zP (zR 0 4 (sg 1 (mkE [(11,LL a32 p1),(1,LL a32 p1),(5,I x1),(9,B (neI x1 0))] [] 13) (co 12 [] (h68 p1) (fun x2=>?_)))))
  exact zE (mkE [(4,I x2)] [] 13)
theorem F39(m:Nat)(hm:6≤m)(p0:(List S46))(p1:(List S32)):callA Tryz.prog cfg m 39 [LL a46 p0,LL a32 p1]=(T39 p0 p1).map I:=by
 obtain⟨q,rfl⟩:=sucK hm
 exact(callA_body (fn:=Tryz.f39) (c:=body_ Tryz.f39) q _ (by kernel_rfl) (by kernel_rfl) (by kernel_rfl)).trans (B39 _ (fun p0=>F50 q (by omega) p0) (fun p0=>F68 q (by omega) p0) p0 p1)
noncomputable def T110(p0:S46)(p1_c0:ByteArray)(p2_c0:ByteArray)(p2_c1:ByteArray)(p2_c2:Int)(p2_c3:(List ByteArray))(p2_c4:Int)(p2_c5:Int)(p2_c6:Int)(p2_c7:(List S64))(p2_c8:ByteArray):Option Bool:=(bif (eqS p0.f0 p1_c0)then(bif (eqS p0.f1 p2_c1)then((T84 p0 (S46.mk p2_c0 p2_c1 p2_c2 p2_c3 p2_c4 p2_c5 p2_c6 p2_c7 p2_c8)).bind fun x1=>(some (ltI x1 0)))else(some false))else(some false))
theorem B110(C:Callee)(h84:H84 C)(p0:S46)(p1_c0:ByteArray)(p2_c0:ByteArray)(p2_c1:ByteArray)(p2_c2:Int)(p2_c3:(List ByteArray))(p2_c4:Int)(p2_c5:Int)(p2_c6:Int)(p2_c7:(List S64))(p2_c8:ByteArray):rB C 110 Tryz.f110 (frame0 [a46 p0,.ia [S p1_c0] 0,.ia [S p2_c0,S p2_c1,I p2_c2,LL S p2_c3,I p2_c4,I p2_c5,I p2_c6,LL a64 p2_c7,S p2_c8] 0] 22 false) ((T110 p0 p1_c0 p2_c0 p2_c1 p2_c2 p2_c3 p2_c4 p2_c5 p2_c6 p2_c7 p2_c8).map B):=by
 unfold T110
 let s_0:List (Nat×AV):=[(16,B (eqS p0.f1 p2_c1)),(15,B (eqS p0.f1 p2_c1)),(14,B (eqS p0.f1 p2_c1)),(13,S p2_c1),(12,.ia [S p2_c0,S p2_c1,I p2_c2,LL S p2_c3,I p2_c4,I p2_c5,I p2_c6,LL a64 p2_c7,S p2_c8] 1),(11,S p0.f1),(10,.ba 24 1),(9,B true),(9,B (eqS p0.f0 p1_c0)),(8,B (eqS p0.f0 p1_c0)),(7,S p1_c0),(6,S p0.f0),(5,.ba 24 0),(1,.ia [S p1_c0] 0),(2,.ia [S p2_c0,S p2_c1,I p2_c2,LL S p2_c3,I p2_c4,I p2_c5,I p2_c6,LL a64 p2_c7,S p2_c8] 0),(3,.ba 24 0)]
 let s_1:List (Nat×AV):=[(1,.ia [S p1_c0] 0),(2,.ia [S p2_c0,S p2_c1,I p2_c2,LL S p2_c3,I p2_c4,I p2_c5,I p2_c6,LL a64 p2_c7,S p2_c8] 0),(3,.ba 24 0)]
 let o_0:List (Nat×AObj):=[(24,.box [S p0.f0,S p0.f1,I p0.f2,LL S p0.f3,I p0.f4,I p0.f5,I p0.f6,LL a64 p0.f7,S p0.f8] false)]
 refine zS 1 0 (mkE s_1 o_0 22) (zR 0 1 (sg 5 (mkE ((9,B (eqS p0.f0 p1_c0))::((8,B (eqS p0.f0 p1_c0))::((7,S p1_c0)::((6,S p0.f0)::((5,.ba 24 0)::s_1))))) o_0 22) (sb 9 (eqS p0.f0 p1_c0) ?_ ?_)))
 ·refine sg 12 (mkE s_0 o_0 22) (sb 16 (eqS p0.f1 p2_c1) ?_ ?_)
  ·refine sg 14 (mkE ((18,.agg [S p2_c0,S p2_c1,I p2_c2,LL S p2_c3,I p2_c4,I p2_c5,I p2_c6,LL a64 p2_c7,S p2_c8])::((17,a46 p0)::((16,B true)::s_0))) o_0 22) (co 19 [] (h84 p0 (S46.mk p2_c0 p2_c1 p2_c2 p2_c3 p2_c4 p2_c5 p2_c6 p2_c7 p2_c8)) (fun x1=>?_))
   exact zE (mkE [(4,B (ltI x1 0))] [] 22)
  ·exact zE (mkE [(4,B false)] [] 22)
 ·exact zE (mkE [(4,B false)] [] 22)
theorem F110(m:Nat)(hm:4≤m)(p0:S46)(p1_c0:ByteArray)(p2_c0:ByteArray)(p2_c1:ByteArray)(p2_c2:Int)(p2_c3:(List ByteArray))(p2_c4:Int)(p2_c5:Int)(p2_c6:Int)(p2_c7:(List S64))(p2_c8:ByteArray):callA Tryz.prog cfg m 110 [a46 p0,.ia [S p1_c0] 0,.ia [S p2_c0,S p2_c1,I p2_c2,LL S p2_c3,I p2_c4,I p2_c5,I p2_c6,LL a64 p2_c7,S p2_c8] 0]=(T110 p0 p1_c0 p2_c0 p2_c1 p2_c2 p2_c3 p2_c4 p2_c5 p2_c6 p2_c7 p2_c8).map B:=by
 obtain⟨q,rfl⟩:=sucK hm
 exact(callA_body (fn:=Tryz.f110) (c:=body_ Tryz.f110) q _ (by kernel_rfl) (by kernel_rfl) (by kernel_rfl)).trans (B110 _ (fun p0 p1=>F84 q (by omega) p0 p1) p0 p1_c0 p2_c0 p2_c1 p2_c2 p2_c3 p2_c4 p2_c5 p2_c6 p2_c7 p2_c8)
noncomputable def L11_2(p0:(List S46))(p1_c0:ByteArray)(p1_c1:ByteArray)(p1_c2:ByteArray)(p1_c3:Int)(p1_c4:(List ByteArray))(p1_c5:Int)(p1_c6:Int)(p1_c7:Int)(p1_c8:(List S64))(p1_c9:ByteArray)(z0:Int):Option (Int⊕((Int×Bool)⊕Int)):=(bif (ltI z0 (lenL p0))then((listAt p0 z0).bind fun x1=>((T110 x1 p1_c0 p1_c1 p1_c2 p1_c3 p1_c4 p1_c5 p1_c6 p1_c7 p1_c8 p1_c9).bind fun x2=>(bif x2 then(some (.inr (.inr z0)))else(some (.inl (addI .i64 z0 1))))))else(some (.inr (.inl (z0,(ltI z0 (lenL p0)))))))
abbrev H110(C:Callee):Prop:=∀(p0:S46)(p1_c0:ByteArray)(p2_c0:ByteArray)(p2_c1:ByteArray)(p2_c2:Int)(p2_c3:(List ByteArray))(p2_c4:Int)(p2_c5:Int)(p2_c6:Int)(p2_c7:(List S64))(p2_c8:ByteArray),C 110 [a46 p0,.ia [S p1_c0] 0,.ia [S p2_c0,S p2_c1,I p2_c2,LL S p2_c3,I p2_c4,I p2_c5,I p2_c6,LL a64 p2_c7,S p2_c8] 0]=(T110 p0 p1_c0 p2_c0 p2_c1 p2_c2 p2_c3 p2_c4 p2_c5 p2_c6 p2_c7 p2_c8).map B
theorem L11_2_ok(C:Callee)(h110:H110 C)(p0:(List S46))(p1_c0:ByteArray)(p1_c1:ByteArray)(p1_c2:ByteArray)(p1_c3:Int)(p1_c4:(List ByteArray))(p1_c5:Int)(p1_c6:Int)(p1_c7:Int)(p1_c8:(List S64))(p1_c9:ByteArray)(z0:Int):rL C 11 Tryz.f11 2 [false,false,true,false,true] (fun z0:Int=>(mkE [(0,LL a46 p0),(1,.fn 110 [.ia [S p1_c0] 0,.ia [S p1_c1,S p1_c2,I p1_c3,LL S p1_c4,I p1_c5,I p1_c6,I p1_c7,LL a64 p1_c8,S p1_c9] 0]),(7,I (lenL p0)),(8,I z0)] [] 19)) (Sum.elim (fun(x:(Int×Bool))=>(.exit 0,(mkE [(0,LL a46 p0),(1,.fn 110 [.ia [S p1_c0] 0,.ia [S p1_c1,S p1_c2,I p1_c3,LL S p1_c4,I p1_c5,I p1_c6,I p1_c7,LL a64 p1_c8,S p1_c9] 0]),(7,I (lenL p0)),(8,I x.1),(9,B x.2)] [] 19))) (fun(x:Int)=>(.ret,(mkE [(4,I x)] [] 19)))) (L11_2 p0 p1_c0 p1_c1 p1_c2 p1_c3 p1_c4 p1_c5 p1_c6 p1_c7 p1_c8 p1_c9 z0) z0:=by
 unfold L11_2
 let s_0:List (Nat×AV):=[(0,LL a46 p0),(1,.fn 110 [.ia [S p1_c0] 0,.ia [S p1_c1,S p1_c2,I p1_c3,LL S p1_c4,I p1_c5,I p1_c6,I p1_c7,LL a64 p1_c8,S p1_c9] 0])]
 let s_1:List (Nat×AV):=[(13,I z0),(12,LL a46 p0),(11,.fn 110 [.ia [S p1_c0] 0,.ia [S p1_c1,S p1_c2,I p1_c3,LL S p1_c4,I p1_c5,I p1_c6,I p1_c7,LL a64 p1_c8,S p1_c9] 0])]
 refine zS 0 2 (mkE (s_0.append ((7,I (lenL p0))::((8,I z0)::[(9,B (ltI z0 (lenL p0)))]))) [] 19) (gS 3 (gC 9 (ltI z0 (lenL p0)) ?_ ?_))
 ·refine gK (zP (gS 6 (gB 1 (zS 4 3 (mkE (s_0.append ((5,I z0)::((7,I (lenL p0))::[(8,I z0)]))) [] 19) (zR 0 4 (sg 3 (mkE (s_1.append (s_0.append ((5,I z0)::((7,I (lenL p0))::[(8,I z0)])))) [] 19) (vo 14 (addrE 26 47 9 a46 .i64 p0 z0) (fun x1=>?_))))))))
  refine sg 5 (mkE ((15,a46 x1)::((14,.ia [S x1.f0,S x1.f1,I x1.f2,LL S x1.f3,I x1.f4,I x1.f5,I x1.f6,LL a64 x1.f7,S x1.f8] 0)::(s_1.append (s_0.append ((5,I z0)::((7,I (lenL p0))::[(8,I z0)])))))) [] 19) (co 16 [] (h110 x1 p1_c0 p1_c1 p1_c2 p1_c3 p1_c4 p1_c5 p1_c6 p1_c7 p1_c8 p1_c9) (fun x2=>?_))
  refine zN (mkE (s_0.append ((5,I z0)::((7,I (lenL p0))::((8,I z0)::[(16,B x2)])))) [] 19) (gC 16 x2 ?_ ?_)
  ·exact zF 0 5 (mkE [(4,I z0)] [] 19)
  ·exact gK (pB (zP (gR 6 (rg Tryz.f11 6) (se (mkE (s_0.append ((7,I (lenL p0))::[(8,I (addI .i64 z0 1))])) [] 19) (pL)))))
 ·exact gX 0 (pL)
noncomputable def T11(p0:(List S46))(p1_c0:ByteArray)(p1_c1:ByteArray)(p1_c2:ByteArray)(p1_c3:Int)(p1_c4:(List ByteArray))(p1_c5:Int)(p1_c6:Int)(p1_c7:Int)(p1_c8:(List S64))(p1_c9:ByteArray):Option Int:=((iter (L11_2 p0 p1_c0 p1_c1 p1_c2 p1_c3 p1_c4 p1_c5 p1_c6 p1_c7 p1_c8 p1_c9) 0).bind fun y3=>(Sum.elim (fun y3a=>(some (-1))) (fun y3b=>(some y3b)) y3))
theorem B11(C:Callee)(h110:H110 C)(p0:(List S46))(p1_c0:ByteArray)(p1_c1:ByteArray)(p1_c2:ByteArray)(p1_c3:Int)(p1_c4:(List ByteArray))(p1_c5:Int)(p1_c6:Int)(p1_c7:Int)(p1_c8:(List S64))(p1_c9:ByteArray):rB C 11 Tryz.f11 (frame0 [LL a46 p0,.fn 110 [.ia [S p1_c0] 0,.ia [S p1_c1,S p1_c2,I p1_c3,LL S p1_c4,I p1_c5,I p1_c6,I p1_c7,LL a64 p1_c8,S p1_c9] 0]] 19 false) ((T11 p0 p1_c0 p1_c1 p1_c2 p1_c3 p1_c4 p1_c5 p1_c6 p1_c7 p1_c8 p1_c9).map I):=by
 unfold T11
 let s_0:List (Nat×AV):=[(0,LL a46 p0),(1,.fn 110 [.ia [S p1_c0] 0,.ia [S p1_c1,S p1_c2,I p1_c3,LL S p1_c4,I p1_c5,I p1_c6,I p1_c7,LL a64 p1_c8,S p1_c9] 0])]
 refine zS 1 0 (mkE s_0 [] 19) (gS 7 (zR 2 1 (sg 1 (mkE ((6,LL a46 p0)::s_0) [] 19) (eo 7 (I (lenL p0)) (lenE 26 a46 p0) (zN (mkE (s_0.append ((7,I (lenL p0))::[(8,I 0)])) [] 19) (gB 0 (lo [(0,none),(1,none),(7,none),(8,none)] [] (L11_2 p0 p1_c0 p1_c1 p1_c2 p1_c3 p1_c4 p1_c5 p1_c6 p1_c7 p1_c8 p1_c9) (fun z0:Int=>(mkE (s_0.append ((7,I (lenL p0))::[(8,I z0)])) [] 19)) (Sum.elim (fun(x:(Int×Bool))=>(.exit 0,(mkE (s_0.append ((7,I (lenL p0))::((8,I x.1)::[(9,B x.2)]))) [] 19))) (fun(x:Int)=>(.ret,(mkE [(4,I x)] [] 19)))) 0 (fun z=>L11_2_ok C h110 p0 p1_c0 p1_c1 p1_c2 p1_c3 p1_c4 p1_c5 p1_c6 p1_c7 p1_c8 p1_c9 z) ?_)))))))
 intro y3
 refine ss y3 (Z:=(Sum.elim (fun(x:(Int×Bool))=>(.exit 0,(mkE (s_0.append ((7,I (lenL p0))::((8,I x.1)::[(9,B x.2)]))) [] 19))) (fun(x:Int)=>(.ret,(mkE [(4,I x)] [] 19))))) (fun y3a=>?_) (fun y3b=>?_)
 ·exact pH (zP (zF 0 7 (mkE [(4,I (-1))] [] 19)))
 ·exact pL
theorem F11(m:Nat)(hm:5≤m)(p0:(List S46))(p1_c0:ByteArray)(p1_c1:ByteArray)(p1_c2:ByteArray)(p1_c3:Int)(p1_c4:(List ByteArray))(p1_c5:Int)(p1_c6:Int)(p1_c7:Int)(p1_c8:(List S64))(p1_c9:ByteArray):callA Tryz.prog cfg m 11 [LL a46 p0,.fn 110 [.ia [S p1_c0] 0,.ia [S p1_c1,S p1_c2,I p1_c3,LL S p1_c4,I p1_c5,I p1_c6,I p1_c7,LL a64 p1_c8,S p1_c9] 0]]=(T11 p0 p1_c0 p1_c1 p1_c2 p1_c3 p1_c4 p1_c5 p1_c6 p1_c7 p1_c8 p1_c9).map I:=by
 obtain⟨q,rfl⟩:=sucK hm
 exact(callA_body (fn:=Tryz.f11) (c:=body_ Tryz.f11) q _ (by kernel_rfl) (by kernel_rfl) (by kernel_rfl)).trans (B11 _ (fun p0 p1_c0 p2_c0 p2_c1 p2_c2 p2_c3 p2_c4 p2_c5 p2_c6 p2_c7 p2_c8=>F110 q (by omega) p0 p1_c0 p2_c0 p2_c1 p2_c2 p2_c3 p2_c4 p2_c5 p2_c6 p2_c7 p2_c8) p0 p1_c0 p1_c1 p1_c2 p1_c3 p1_c4 p1_c5 p1_c6 p1_c7 p1_c8 p1_c9)
noncomputable def T65(p0:(List S46))(p1:S46)(p2:ByteArray):Option Int:=((T11 p0 p2 p1.f0 p1.f1 p1.f2 p1.f3 p1.f4 p1.f5 p1.f6 p1.f7 p1.f8).bind fun x1=>(some x1))
theorem B65(C:Callee)(h11:∀(p0:(List S46))(p1_c0:ByteArray)(p1_c1:ByteArray)(p1_c2:ByteArray)(p1_c3:Int)(p1_c4:(List ByteArray))(p1_c5:Int)(p1_c6:Int)(p1_c7:Int)(p1_c8:(List S64))(p1_c9:ByteArray),C 11 [LL a46 p0,.fn 110 [.ia [S p1_c0] 0,.ia [S p1_c1,S p1_c2,I p1_c3,LL S p1_c4,I p1_c5,I p1_c6,I p1_c7,LL a64 p1_c8,S p1_c9] 0]]=(T11 p0 p1_c0 p1_c1 p1_c2 p1_c3 p1_c4 p1_c5 p1_c6 p1_c7 p1_c8 p1_c9).map I)(p0:(List S46))(p1:S46)(p2:ByteArray):rB C 65 Tryz.f65 (frame0 [LL a46 p0,a46 p1,S p2] 10 false) ((T65 p0 p1 p2).map I):=by
 unfold T65
 let o_0:List (Nat×AObj):=[(32,.box [S p1.f0,S p1.f1,I p1.f2,LL S p1.f3,I p1.f4,I p1.f5,I p1.f6,LL a64 p1.f7,S p1.f8] false),(40,.box [S p2] false)]
 refine zS 1 0 (mkE [(0,LL a46 p0),(4,.ba 32 0),(5,.ba 40 0)] o_0 10) (zR 0 1 (sg 2 (mkE [(8,.fn 110 [.ba 40 0,.ba 32 0]),(7,LL a46 p0),(0,LL a46 p0),(4,.ba 32 0),(5,.ba 40 0)] o_0 10) (co 9 [40,32] (h11 p0 p2 p1.f0 p1.f1 p1.f2 p1.f3 p1.f4 p1.f5 p1.f6 p1.f7 p1.f8) (fun x1=>?_))))
 exact zE (mkE [(6,I x1)] [] 10)
theorem F65(m:Nat)(hm:6≤m)(p0:(List S46))(p1:S46)(p2:ByteArray):callA Tryz.prog cfg m 65 [LL a46 p0,a46 p1,S p2]=(T65 p0 p1 p2).map I:=by
 obtain⟨q,rfl⟩:=sucK hm
 exact(callA_body (fn:=Tryz.f65) (c:=body_ Tryz.f65) q _ (by kernel_rfl) (by kernel_rfl) (by kernel_rfl)).trans (B65 _ (fun p0 p1_c0 p1_c1 p1_c2 p1_c3 p1_c4 p1_c5 p1_c6 p1_c7 p1_c8 p1_c9=>F11 q (by omega) p0 p1_c0 p1_c1 p1_c2 p1_c3 p1_c4 p1_c5 p1_c6 p1_c7 p1_c8 p1_c9) p0 p1 p2)
noncomputable def L33_3(p0:(List S46))(z0:((List Int)×Int)):Option (((List Int)×Int)⊕(Int×Bool×(List Int))):=(bif (ltI z0.2 (lenL p0))then((listAt p0 z0.2).bind fun x1=>((appO 8 z0.1 ([x1.f5]:List Int)).bind fun x2=>(some (.inl (x2,(addI .i64 z0.2 1))))))else(some (.inr (z0.2,(ltI z0.2 (lenL p0)),z0.1))))
theorem L33_3_ok(C:Callee)(p0:(List S46))(z0:((List Int)×Int)):rL C 33 Tryz.f33 3 [false,false,true,false,true,true] (fun z0:((List Int)×Int)=>(mkE [(0,LL a46 p0),(3,.own 24 0),(11,LL a46 p0),(12,I (lenL p0)),(13,I z0.2)] [(24,RR 3 1 I z0.1 0 false)] 55)) (fun(x:(Int×Bool×(List Int)))=>(.exit 0,(mkE [(0,LL a46 p0),(3,.own 24 0),(11,LL a46 p0),(12,I (lenL p0)),(13,I x.1),(14,B x.2.1)] [(24,RR 3 1 I x.2.2 0 false)] 55))) (L33_3 p0 z0) z0:=by
 unfold L33_3
 let s_0:List (Nat×AV):=[(11,LL a46 p0),(12,I (lenL p0)),(13,I z0.2)]
 refine zS 0 3 (mkE ((0,LL a46 p0)::((3,.own 24 0)::(s_0.append [(14,B (ltI z0.2 (lenL p0)))]))) [(24,RR 3 1 I z0.1 0 false)] 55) (gS 4 (gC 14 (ltI z0.2 (lenL p0)) ?_ ?_))
 ·refine gK (zP (gS 6 (gB 1 (zR 5 4 (vo 15 (addrE 26 47 9 a46 .i64 p0 z0.2) (fun x1=>?_))))))
  refine zN (mkE ((0,LL a46 p0)::((3,.own 24 0)::((5,.ba 40 0)::s_0))) [(24,RR 3 1 I z0.1 0 false),(40,.box [S x1.f0,S x1.f1,I x1.f2,LL S x1.f3,I x1.f4,I x1.f5,I x1.f6,LL a64 x1.f7,S x1.f8] false)] 55) (gR 5 (rg Tryz.f33 5) (sg 4 (mkE ((20,.own 160 0)::((19,I x1.f5)::((18,.ba 40 5)::((17,.own 24 0)::((0,LL a46 p0)::((3,.own 24 0)::((5,.ba 40 0)::s_0))))))) [(160,RR 3 1 I ([x1.f5]:List Int) 0 false),(24,RR 3 1 I z0.1 0 false),(40,.box [S x1.f0,S x1.f1,I x1.f2,LL S x1.f3,I x1.f4,I x1.f5,I x1.f6,LL a64 x1.f7,S x1.f8] false)] 55) (mo (some 21) (apO 22 3 1 8 24 I 0 [160] (y:= .own 160 0) (l2:=([x1.f5]:List Int))) (fun x2=>?_))))
  exact se (mkE ((0,LL a46 p0)::((3,.own 24 1)::s_0)) [(24,RR 3 1 I x2 1 false)] 55) (pB (zP (gR 6 (rg Tryz.f33 6) (se (mkE [(0,LL a46 p0),(3,.own 24 1),(11,LL a46 p0),(12,I (lenL p0)),(13,I (addI .i64 z0.2 1))] [(24,RR 3 1 I x2 1 false)] 55) (pL)))))
 ·exact gX 0 (pL)
noncomputable def L33_11(p0:(List S46))(z1:((List Int)×Int))(x4:S46)(z2:((List Int)×Int)):Option (((List Int)×Int)⊕(Int×Bool×(List Int))):=(bif (ltI z2.2 (lenL x4.f3))then((listAt x4.f3 z2.2).bind fun x5=>((T65 p0 x4 x5).bind fun x6=>(bif (leI 0 x6)then((idxO (List.length z2.1) x6).bind fun x7=>((getN z2.1 x7).bind fun x8=>((idxO (List.length z2.1) x6).bind fun x9=>((getN z2.1 x9).bind fun x10=>(some (.inl ((List.set z2.1 x9 (minI x8 x4.f4)),(addI .i64 z2.2 1))))))))else(some (.inl (z2.1,(addI .i64 z2.2 1)))))))else(some (.inr (z2.2,(ltI z2.2 (lenL x4.f3)),z2.1))))
abbrev H65(C:Callee):Prop:=∀(p0:(List S46))(p1:S46)(p2:ByteArray),C 65 [LL a46 p0,a46 p1,S p2]=(T65 p0 p1 p2).map I
theorem L33_11_ok(C:Callee)(h65:H65 C)(p0:(List S46))(z1:((List Int)×Int))(x4:S46)(z2:((List Int)×Int)):rL C 33 Tryz.f33 11 [false,false,true,true,false,false,true,true,false,false,true,false,true,true,true] (fun z2:((List Int)×Int)=>(mkE [(0,LL a46 p0),(3,.own 24 0),(7,.ba 56 0),(23,LL a46 p0),(24,I (lenL p0)),(25,I z1.2),(30,LL S x4.f3),(31,I (lenL x4.f3)),(32,I z2.2)] [(24,RR 3 1 I z2.1 0 false),(56,.box [S x4.f0,S x4.f1,I x4.f2,LL S x4.f3,I x4.f4,I x4.f5,I x4.f6,LL a64 x4.f7,S x4.f8] false)] 55)) (fun(x:(Int×Bool×(List Int)))=>(.exit 4,(mkE [(0,LL a46 p0),(3,.own 24 0),(7,.ba 56 0),(23,LL a46 p0),(24,I (lenL p0)),(25,I z1.2),(30,LL S x4.f3),(31,I (lenL x4.f3)),(32,I x.1),(33,B x.2.1)] [(24,RR 3 1 I x.2.2 0 false),(56,.box [S x4.f0,S x4.f1,I x4.f2,LL S x4.f3,I x4.f4,I x4.f5,I x4.f6,LL a64 x4.f7,S x4.f8] false)] 55))) (L33_11 p0 z1 x4 z2) z2:=by
 unfold L33_11
 let s_0:List (Nat×AV):=[(23,LL a46 p0),(24,I (lenL p0)),(25,I z1.2),(30,LL S x4.f3),(31,I (lenL x4.f3))]
 let s_1:List (Nat×AV):=[(0,LL a46 p0),(3,.own 24 0),(7,.ba 56 0)]
 let o_0:List (Nat×AObj):=[(24,RR 3 1 I z2.1 0 false),(56,.box [S x4.f0,S x4.f1,I x4.f2,LL S x4.f3,I x4.f4,I x4.f5,I x4.f6,LL a64 x4.f7,S x4.f8] false)]
 refine zS 0 11 (mkE (s_1.append (s_0.append ((32,I z2.2)::[(33,B (ltI z2.2 (lenL x4.f3)))]))) o_0 55) (gS 12 (gC 33 (ltI z2.2 (lenL x4.f3)) ?_ ?_))
 ·refine gK (zP (gS 16 (gB 5 (zR 13 12 (vo 34 (addrE 34 9 1 S .i64 x4.f3 z2.2) (fun x5=>?_))))))
  refine zN (mkE (s_1.append ((9,S x5)::(s_0.append [(32,I z2.2)]))) o_0 55) (zR 14 13 (sg 3 (mkE ((38,S x5)::((37,a46 x4)::((36,LL a46 p0)::(s_1.append ((9,S x5)::(s_0.append [(32,I z2.2)])))))) o_0 55) (co 39 [] (h65 p0 x4 x5) (fun x6=>?_))))
  refine zN (mkE (s_1.append ((10,I x6)::(s_0.append [(32,I z2.2)]))) o_0 55) (zS 0 14 (mkE (s_1.append ((10,I x6)::(s_0.append ((32,I z2.2)::[(41,B (leI 0 x6))])))) o_0 55) (gC 41 (leI 0 x6) ?_ ?_))
  ·refine gD 15 10 (rg Tryz.f33 15) [0,1,2,3,4,5,6,7,8,9,10] (dg 4 [(some 42,qe (.own 24 0)),(some 43,qe (I x6)),(some 44,qe (.own 24 0)),(some 45,qe (I x6))] (dv 46 (mkE ((45,I x6)::((44,.own 24 0)::(s_1.append ((10,I x6)::(s_0.append ((32,I z2.2)::[(41,B (leI 0 x6))])))))) o_0 55) (addrOE 22 3 1 24 0 false I .i64 z2.1 x6) (fun x7=>?_)))
   refine dv 47 (mkE ((46,.oa 24 0 x7 0)::((45,I x6)::((44,.own 24 0)::(s_1.append ((10,I x6)::(s_0.append ((32,I z2.2)::[(41,B (leI 0 x6))]))))))) o_0 55) (loadOE 3 24 0 x7 0 3 1 1 false false I (fun q:Int=>I q) z2.1) (fun x8=>?_)
   refine dg 9 [(some 42,qe (.own 24 0)),(some 43,qe (I x6)),(some 44,qe (.own 24 0)),(some 45,qe (I x6)),(some 46,qe (.oa 24 0 x7 0)),(some 47,qe (I x8)),(some 48,qe (.ba 56 4)),(some 49,qe (I x4.f4)),(some 50,qe (I (minI x8 x4.f4)))] (dv 51 (mkE ((50,I (minI x8 x4.f4))::((49,I x4.f4)::((48,.ba 56 4)::((47,I x8)::((46,.oa 24 0 x7 0)::((45,I x6)::((44,.own 24 0)::((43,I x6)::((42,.own 24 0)::(s_1.append ((10,I x6)::(s_0.append ((32,I z2.2)::[(41,B (leI 0 x6))]))))))))))))) o_0 55) (addrOE 22 3 1 24 0 false I .i64 z2.1 x6) (fun x9=>?_))
   refine de (mkE ((51,.oa 24 0 x9 0)::((50,I (minI x8 x4.f4))::((49,I x4.f4)::((48,.ba 56 4)::((47,I x8)::((46,.oa 24 0 x7 0)::((45,I x6)::((44,.own 24 0)::((43,I x6)::((42,.own 24 0)::(s_1.append ((10,I x6)::(s_0.append ((32,I z2.2)::[(41,B (leI 0 x6))])))))))))))))) o_0 55) (mo none (stO 3 1 24 0 x9 0 I z2.1 [] [I (minI x8 x4.f4)] (I (minI x8 x4.f4)) (fun q:Int=>(minI x8 x4.f4)) 3 (.tmp 51) (.tmp 50) 1) (fun x10=>?_))
   exact se (mkE (s_1.append (s_0.append [(32,I z2.2)])) [(24,RR 3 1 I (List.set z2.1 x9 (minI x8 x4.f4)) 0 false),(56,.box [S x4.f0,S x4.f1,I x4.f2,LL S x4.f3,I x4.f4,I x4.f5,I x4.f6,LL a64 x4.f7,S x4.f8] false)] 55) (pB (zP (gR 16 (rg Tryz.f33 16) (se (mkE (s_1.append (s_0.append [(32,I (addI .i64 z2.2 1))])) [(24,RR 3 1 I (List.set z2.1 x9 (minI x8 x4.f4)) 0 false),(56,.box [S x4.f0,S x4.f1,I x4.f2,LL S x4.f3,I x4.f4,I x4.f5,I x4.f6,LL a64 x4.f7,S x4.f8] false)] 55) (pL)))))
  ·exact gK (pB (zP (gR 16 (rg Tryz.f33 16) (se (mkE (s_1.append (s_0.append [(32,I (addI .i64 z2.2 1))])) o_0 55) (pL)))))
 ·exact gX 4 (pL)
noncomputable def L33_8(p0:(List S46))(z1:((List Int)×Int)):Option (((List Int)×Int)⊕(Int×Bool×(List Int))):=(bif (ltI z1.2 (lenL p0))then((listAt p0 z1.2).bind fun x4=>((iter (L33_11 p0 z1 x4) (z1.1,0)).bind fun y11=>(some (.inl (y11.2.2,(addI .i64 z1.2 1))))))else(some (.inr (z1.2,(ltI z1.2 (lenL p0)),z1.1))))
theorem L33_8_ok(C:Callee)(h65:H65 C)(p0:(List S46))(z1:((List Int)×Int)):rL C 33 Tryz.f33 8 [false,false,true,false,true,true,true] (fun z1:((List Int)×Int)=>(mkE [(0,LL a46 p0),(3,.own 24 0),(23,LL a46 p0),(24,I (lenL p0)),(25,I z1.2)] [(24,RR 3 1 I z1.1 0 false)] 55)) (fun(x:(Int×Bool×(List Int)))=>(.exit 2,(mkE [(0,LL a46 p0),(3,.own 24 0),(23,LL a46 p0),(24,I (lenL p0)),(25,I x.1),(26,B x.2.1)] [(24,RR 3 1 I x.2.2 0 false)] 55))) (L33_8 p0 z1) z1:=by
 unfold L33_8
 let s_0:List (Nat×AV):=[(0,LL a46 p0),(3,.own 24 0),(7,.ba 56 0),(23,LL a46 p0),(24,I (lenL p0)),(25,I z1.2)]
 refine zS 0 8 (mkE [(0,LL a46 p0),(3,.own 24 0),(23,LL a46 p0),(24,I (lenL p0)),(25,I z1.2),(26,B (ltI z1.2 (lenL p0)))] [(24,RR 3 1 I z1.1 0 false)] 55) (gS 9 (gC 26 (ltI z1.2 (lenL p0)) ?_ ?_))
 ·refine gK (zP (gS 17 (gB 3 (zR 10 9 (vo 27 (addrE 26 47 9 a46 .i64 p0 z1.2) (fun x4=>?_))))))
  refine zN (mkE s_0 [(24,RR 3 1 I z1.1 0 false),(56,.box [S x4.f0,S x4.f1,I x4.f2,LL S x4.f3,I x4.f4,I x4.f5,I x4.f6,LL a64 x4.f7,S x4.f8] false)] 55) (zR 11 10 (sg 2 (mkE ((30,LL S x4.f3)::((29,.ba 56 3)::s_0)) [(24,RR 3 1 I z1.1 0 false),(56,.box [S x4.f0,S x4.f1,I x4.f2,LL S x4.f3,I x4.f4,I x4.f5,I x4.f6,LL a64 x4.f7,S x4.f8] false)] 55) (eo 31 (I (lenL x4.f3)) (lenE 34 S x4.f3) (zN (mkE (s_0.append ((30,LL S x4.f3)::((31,I (lenL x4.f3))::[(32,I 0)]))) [(24,RR 3 1 I z1.1 0 false),(56,.box [S x4.f0,S x4.f1,I x4.f2,LL S x4.f3,I x4.f4,I x4.f5,I x4.f6,LL a64 x4.f7,S x4.f8] false)] 55) (gB 4 (lo [(0,none),(3,some (3,1)),(7,none),(23,none),(24,none),(25,none),(30,none),(31,none),(32,none)] [] (L33_11 p0 z1 x4) (fun z2:((List Int)×Int)=>(mkE (s_0.append ((30,LL S x4.f3)::((31,I (lenL x4.f3))::[(32,I z2.2)]))) [(24,RR 3 1 I z2.1 0 false),(56,.box [S x4.f0,S x4.f1,I x4.f2,LL S x4.f3,I x4.f4,I x4.f5,I x4.f6,LL a64 x4.f7,S x4.f8] false)] 55)) (fun(x:(Int×Bool×(List Int)))=>(.exit 4,(mkE (s_0.append ((30,LL S x4.f3)::((31,I (lenL x4.f3))::((32,I x.1)::[(33,B x.2.1)])))) [(24,RR 3 1 I x.2.2 0 false),(56,.box [S x4.f0,S x4.f1,I x4.f2,LL S x4.f3,I x4.f4,I x4.f5,I x4.f6,LL a64 x4.f7,S x4.f8] false)] 55))) (z1.1,0) (fun z=>L33_11_ok C h65 p0 z1 x4 z) ?_))))))
  intro y11
  exact pH (pB (zP (gR 17 (rg Tryz.f33 17) (se (mkE [(0,LL a46 p0),(3,.own 24 0),(23,LL a46 p0),(24,I (lenL p0)),(25,I (addI .i64 z1.2 1))] [(24,RR 3 1 I y11.2.2 0 false)] 55) (pL)))))
 ·exact gX 2 (pL)
noncomputable def T33(p0:(List S46)):Option (List Int):=((iter (L33_3 p0) ([],0)).bind fun y3=>((iter (L33_8 p0) (y3.2.2,0)).bind fun y12=>(some y12.2.2)))
theorem B33(C:Callee)(h65:H65 C)(p0:(List S46)):rB C 33 Tryz.f33 (frame0 [LL a46 p0] 55 false) ((T33 p0).map (fun l=>AV.fr 3 1 (List.map I l))):=by
 unfold T33
 let s_0:List (Nat×AV):=[(0,LL a46 p0),(3,.own 24 0),(11,LL a46 p0),(12,I (lenL p0))]
 let s_1:List (Nat×AV):=[(0,LL a46 p0),(3,.own 24 0),(23,LL a46 p0),(24,I (lenL p0))]
 refine zS 1 0 (mkE [(0,LL a46 p0)] [] 55) (zS 2 1 (mkE [(0,LL a46 p0),(3,.nils)] [] 55) (gS 7 (zR 3 2 (sg 1 (mkE [(11,LL a46 p0),(0,LL a46 p0),(3,.nils)] [] 55) (eo 12 (I (lenL p0)) (lenE 26 a46 p0) (zN (mkE [(0,LL a46 p0),(3,.nils),(11,LL a46 p0),(12,I (lenL p0)),(13,I 0)] [] 55) (gB 0 (lo [(0,none),(3,some (3,1)),(11,none),(12,none),(13,none)] [] (L33_3 p0) (fun z0:((List Int)×Int)=>(mkE (s_0.append [(13,I z0.2)]) [(24,RR 3 1 I z0.1 0 false)] 55)) (fun(x:(Int×Bool×(List Int)))=>(.exit 0,(mkE (s_0.append ((13,I x.1)::[(14,B x.2.1)])) [(24,RR 3 1 I x.2.2 0 false)] 55))) ([],0) (fun z=>L33_3_ok C p0 z) ?_))))))))
 intro y3
 refine pH (zP (gS 18 (zR 8 7 (sg 1 (mkE ((23,LL a46 p0)::(s_0.append ((13,I y3.1)::[(14,B y3.2.1)]))) [(24,RR 3 1 I y3.2.2 0 false)] 55) (eo 24 (I (lenL p0)) (lenE 26 a46 p0) (zN (mkE (s_1.append [(25,I 0)]) [(24,RR 3 1 I y3.2.2 0 false)] 55) (gB 2 (lo [(0,none),(3,some (3,1)),(23,none),(24,none),(25,none)] [] (L33_8 p0) (fun z1:((List Int)×Int)=>(mkE (s_1.append [(25,I z1.2)]) [(24,RR 3 1 I z1.1 0 false)] 55)) (fun(x:(Int×Bool×(List Int)))=>(.exit 2,(mkE (s_1.append ((25,I x.1)::[(26,B x.2.1)])) [(24,RR 3 1 I x.2.2 0 false)] 55))) (y3.2.2,0) (fun z=>L33_8_ok C h65 p0 z) ?_))))))))
 intro y12
 exact pH (zP (zF 0 18 (mkE [(2,.own 24 0)] [(24,RR 3 1 I y12.2.2 0 false)] 55)))
theorem F33(m:Nat)(hm:7≤m)(p0:(List S46)):callA Tryz.prog cfg m 33 [LL a46 p0]=(T33 p0).map (fun l=>AV.fr 3 1 (List.map I l)):=by
 obtain⟨q,rfl⟩:=sucK hm
 exact(callA_body (fn:=Tryz.f33) (c:=body_ Tryz.f33) q _ (by kernel_rfl) (by kernel_rfl) (by kernel_rfl)).trans (B33 _ (fun p0 p1 p2=>F65 q (by omega) p0 p1 p2) p0)
theorem F95(m:Nat)(hm:1≤m)(p0:(List Int)):callA Tryz.prog cfg m 95 [.fr 3 1 (List.map I p0)]=(sortIO p0).map (fun(r:(List Int))=>AV.inp (.tup []) (.fr 3 1 (List.map I r))):=by
 obtain⟨q,rfl⟩:=sucK hm
 exact(callA_leaf (L:=(leafSortI 3)) _ _ (by kernel_rfl)).trans (sortI_leaf 3 _ p0)
theorem F96(m:Nat)(hm:1≤m)(p0:(List Int)):callA Tryz.prog cfg m 96 [.fr 3 1 (List.map I p0)]=(compIO p0).map (fun l=>AV.fr 3 1 (List.map I l)):=by
 obtain⟨q,rfl⟩:=sucK hm
 exact(callA_leaf (L:=(leafCompI 3)) _ _ (by kernel_rfl)).trans (compI_leaf 3 _ p0)
noncomputable def T169(p0:S46)(p1:Int)(p2:Int):Option Bool:=(bif (neI p0.f2 3)then(bif (leI p0.f4 p2)then(some (ltI p2 p1))else(some false))else(some false))
theorem B169(C:Callee)(p0:S46)(p1:Int)(p2:Int):rB C 169 Tryz.f169 (frame0 [a46 p0,I p1,I p2] 21 false) ((T169 p0 p1 p2).map B):=by
 unfold T169
 let o_0:List (Nat×AObj):=[(24,.box [S p0.f0,S p0.f1,I p0.f2,LL S p0.f3,I p0.f4,I p0.f5,I p0.f6,LL a64 p0.f7,S p0.f8] false)]
 refine zS 1 0 (mkE [(1,I p1),(2,I p2),(3,.ba 24 0)] o_0 21) (zR 0 1 (sg 4 (mkE [(10,B (neI p0.f2 3)),(9,B (neI p0.f2 3)),(8,I p0.f2),(7,.ba 24 2),(1,I p1),(2,I p2),(3,.ba 24 0)] o_0 21) (sb 10 (neI p0.f2 3) ?_ ?_)))
 ·refine sg 10 (mkE [(16,B (leI p0.f4 p2)),(15,B (leI p0.f4 p2)),(14,B (leI p0.f4 p2)),(13,I p2),(12,I p0.f4),(11,.ba 24 4),(10,B true),(10,B (neI p0.f2 3)),(9,B (neI p0.f2 3)),(8,I p0.f2),(7,.ba 24 2),(1,I p1),(2,I p2),(3,.ba 24 0)] o_0 21) (sb 16 (leI p0.f4 p2) ?_ ?_)
  ·exact zE (mkE [(6,B (ltI p2 p1))] [] 21)
  ·exact zE (mkE [(6,B false)] [] 21)
 ·exact zE (mkE [(6,B false)] [] 21)
theorem F169(m:Nat)(hm:1≤m)(p0:S46)(p1:Int)(p2:Int):callA Tryz.prog cfg m 169 [a46 p0,I p1,I p2]=(T169 p0 p1 p2).map B:=by
 obtain⟨q,rfl⟩:=sucK hm
 exact(callA_body (fn:=Tryz.f169) (c:=body_ Tryz.f169) q _ (by kernel_rfl) (by kernel_rfl) (by kernel_rfl)).trans (B169 _ p0 p1 p2)
noncomputable def T70(p0:S64)(p1_c0:ByteArray)(p1_c1:Int)(p1_c2:Int):Option Bool:=(bif (leI p0.f0 p1_c1)then(bif (ltI p1_c1 (addI .i64 p0.f0 p0.f2))then(bif (leI p0.f1 p1_c2)then(some (ltI p1_c2 (addI .i64 p0.f1 p0.f3)))else(some false))else(some false))else(some false))
theorem B70(C:Callee)(p0:S64)(p1_c0:ByteArray)(p1_c1:Int)(p1_c2:Int):rB C 70 Tryz.f70 (frame0 [a64 p0,.ia [S p1_c0,I p1_c1,I p1_c2] 0] 36 false) ((T70 p0 p1_c0 p1_c1 p1_c2).map B):=by
 unfold T70
 let s_0:List (Nat×AV):=[(19,B (ltI p1_c1 (addI .i64 p0.f0 p0.f2))),(18,B (ltI p1_c1 (addI .i64 p0.f0 p0.f2))),(17,B (ltI p1_c1 (addI .i64 p0.f0 p0.f2))),(16,I (addI .i64 p0.f0 p0.f2)),(15,I p0.f2),(14,.ba 16 2),(13,I p0.f0),(12,.ba 16 0),(11,I p1_c1),(10,.ia [S p1_c0,I p1_c1,I p1_c2] 1),(9,B true),(9,B (leI p0.f0 p1_c1)),(8,B (leI p0.f0 p1_c1)),(7,I p1_c1),(6,.ia [S p1_c0,I p1_c1,I p1_c2] 1),(5,I p0.f0),(4,.ba 16 0),(1,.ia [S p1_c0,I p1_c1,I p1_c2] 0),(2,.ba 16 0)]
 let o_0:List (Nat×AObj):=[(16,.box [I p0.f0,I p0.f1,I p0.f2,I p0.f3] false)]
 refine zS 1 0 (mkE [(1,.ia [S p1_c0,I p1_c1,I p1_c2] 0),(2,.ba 16 0)] o_0 36) (zR 0 1 (sg 6 (mkE [(9,B (leI p0.f0 p1_c1)),(8,B (leI p0.f0 p1_c1)),(7,I p1_c1),(6,.ia [S p1_c0,I p1_c1,I p1_c2] 1),(5,I p0.f0),(4,.ba 16 0),(1,.ia [S p1_c0,I p1_c1,I p1_c2] 0),(2,.ba 16 0)] o_0 36) (sb 9 (leI p0.f0 p1_c1) ?_ ?_)))
 ·refine sg 16 (mkE s_0 o_0 36) (sb 19 (ltI p1_c1 (addI .i64 p0.f0 p0.f2)) ?_ ?_)
  ·refine sg 23 (mkE ((26,B (leI p0.f1 p1_c2))::((25,B (leI p0.f1 p1_c2))::((24,B (leI p0.f1 p1_c2))::((23,I p1_c2)::((22,.ia [S p1_c0,I p1_c1,I p1_c2] 2)::((21,I p0.f1)::((20,.ba 16 1)::((19,B true)::s_0)))))))) o_0 36) (sb 26 (leI p0.f1 p1_c2) ?_ ?_)
   ·exact zE (mkE [(3,B (ltI p1_c2 (addI .i64 p0.f1 p0.f3)))] [] 36)
   ·exact zE (mkE [(3,B false)] [] 36)
  ·exact zE (mkE [(3,B false)] [] 36)
 ·exact zE (mkE [(3,B false)] [] 36)
theorem F70(m:Nat)(hm:1≤m)(p0:S64)(p1_c0:ByteArray)(p1_c1:Int)(p1_c2:Int):callA Tryz.prog cfg m 70 [a64 p0,.ia [S p1_c0,I p1_c1,I p1_c2] 0]=(T70 p0 p1_c0 p1_c1 p1_c2).map B:=by
 obtain⟨q,rfl⟩:=sucK hm
 exact(callA_body (fn:=Tryz.f70) (c:=body_ Tryz.f70) q _ (by kernel_rfl) (by kernel_rfl) (by kernel_rfl)).trans (B70 _ p0 p1_c0 p1_c1 p1_c2)
noncomputable def L120_2(p0:(List S64))(p1_c0:ByteArray)(p1_c1:Int)(p1_c2:Int)(z0:Int):Option (Int⊕((Int×Bool)⊕Int)):=(bif (ltI z0 (lenL p0))then((listAt p0 z0).bind fun x1=>((T70 x1 p1_c0 p1_c1 p1_c2).bind fun x2=>(bif x2 then(some (.inr (.inr z0)))else(some (.inl (addI .i64 z0 1))))))else(some (.inr (.inl (z0,(ltI z0 (lenL p0)))))))
abbrev H70(C:Callee):Prop:=∀(p0:S64)(p1_c0:ByteArray)(p1_c1:Int)(p1_c2:Int),C 70 [a64 p0,.ia [S p1_c0,I p1_c1,I p1_c2] 0]=(T70 p0 p1_c0 p1_c1 p1_c2).map B
theorem L120_2_ok(C:Callee)(h70:H70 C)(p0:(List S64))(p1_c0:ByteArray)(p1_c1:Int)(p1_c2:Int)(z0:Int):rL C 120 Tryz.f120 2 [false,false,true,false,true] (fun z0:Int=>(mkE [(0,LL a64 p0),(1,.fn 70 [.ia [S p1_c0,I p1_c1,I p1_c2] 0]),(7,I (lenL p0)),(8,I z0)] [] 19)) (Sum.elim (fun(x:(Int×Bool))=>(.exit 0,(mkE [(0,LL a64 p0),(1,.fn 70 [.ia [S p1_c0,I p1_c1,I p1_c2] 0]),(7,I (lenL p0)),(8,I x.1),(9,B x.2)] [] 19))) (fun(x:Int)=>(.ret,(mkE [(4,I x)] [] 19)))) (L120_2 p0 p1_c0 p1_c1 p1_c2 z0) z0:=by
 unfold L120_2
 let s_0:List (Nat×AV):=[(0,LL a64 p0),(1,.fn 70 [.ia [S p1_c0,I p1_c1,I p1_c2] 0]),(5,I z0),(7,I (lenL p0)),(8,I z0)]
 refine zS 0 2 (mkE [(0,LL a64 p0),(1,.fn 70 [.ia [S p1_c0,I p1_c1,I p1_c2] 0]),(7,I (lenL p0)),(8,I z0),(9,B (ltI z0 (lenL p0)))] [] 19) (gS 3 (gC 9 (ltI z0 (lenL p0)) ?_ ?_))
 ·refine gK (zP (gS 6 (gB 1 (zS 4 3 (mkE s_0 [] 19) (zR 0 4 (sg 3 (mkE ((13,I z0)::((12,LL a64 p0)::((11,.fn 70 [.ia [S p1_c0,I p1_c1,I p1_c2] 0])::s_0))) [] 19) (vo 14 (addrE 45 65 4 a64 .i64 p0 z0) (fun x1=>?_))))))))
  refine sg 5 (mkE ((15,a64 x1)::((14,.ia [I x1.f0,I x1.f1,I x1.f2,I x1.f3] 0)::((13,I z0)::((12,LL a64 p0)::((11,.fn 70 [.ia [S p1_c0,I p1_c1,I p1_c2] 0])::s_0))))) [] 19) (co 16 [] (h70 x1 p1_c0 p1_c1 p1_c2) (fun x2=>?_))
  refine zN (mkE (s_0.append [(16,B x2)]) [] 19) (gC 16 x2 ?_ ?_)
  ·exact zF 0 5 (mkE [(4,I z0)] [] 19)
  ·exact gK (pB (zP (gR 6 (rg Tryz.f120 6) (se (mkE [(0,LL a64 p0),(1,.fn 70 [.ia [S p1_c0,I p1_c1,I p1_c2] 0]),(7,I (lenL p0)),(8,I (addI .i64 z0 1))] [] 19) (pL)))))
 ·exact gX 0 (pL)
noncomputable def T120(p0:(List S64))(p1_c0:ByteArray)(p1_c1:Int)(p1_c2:Int):Option Int:=((iter (L120_2 p0 p1_c0 p1_c1 p1_c2) 0).bind fun y3=>(Sum.elim (fun y3a=>(some (-1))) (fun y3b=>(some y3b)) y3))
theorem B120(C:Callee)(h70:H70 C)(p0:(List S64))(p1_c0:ByteArray)(p1_c1:Int)(p1_c2:Int):rB C 120 Tryz.f120 (frame0 [LL a64 p0,.fn 70 [.ia [S p1_c0,I p1_c1,I p1_c2] 0]] 19 false) ((T120 p0 p1_c0 p1_c1 p1_c2).map I):=by
 unfold T120
 let s_0:List (Nat×AV):=[(0,LL a64 p0),(1,.fn 70 [.ia [S p1_c0,I p1_c1,I p1_c2] 0])]
 refine zS 1 0 (mkE s_0 [] 19) (gS 7 (zR 2 1 (sg 1 (mkE ((6,LL a64 p0)::s_0) [] 19) (eo 7 (I (lenL p0)) (lenE 45 a64 p0) (zN (mkE (s_0.append ((7,I (lenL p0))::[(8,I 0)])) [] 19) (gB 0 (lo [(0,none),(1,none),(7,none),(8,none)] [] (L120_2 p0 p1_c0 p1_c1 p1_c2) (fun z0:Int=>(mkE (s_0.append ((7,I (lenL p0))::[(8,I z0)])) [] 19)) (Sum.elim (fun(x:(Int×Bool))=>(.exit 0,(mkE (s_0.append ((7,I (lenL p0))::((8,I x.1)::[(9,B x.2)]))) [] 19))) (fun(x:Int)=>(.ret,(mkE [(4,I x)] [] 19)))) 0 (fun z=>L120_2_ok C h70 p0 p1_c0 p1_c1 p1_c2 z) ?_)))))))
 intro y3
 refine ss y3 (Z:=(Sum.elim (fun(x:(Int×Bool))=>(.exit 0,(mkE (s_0.append ((7,I (lenL p0))::((8,I x.1)::[(9,B x.2)]))) [] 19))) (fun(x:Int)=>(.ret,(mkE [(4,I x)] [] 19))))) (fun y3a=>?_) (fun y3b=>?_)
 ·exact pH (zP (zF 0 7 (mkE [(4,I (-1))] [] 19)))
 ·exact pL
theorem F120(m:Nat)(hm:2≤m)(p0:(List S64))(p1_c0:ByteArray)(p1_c1:Int)(p1_c2:Int):callA Tryz.prog cfg m 120 [LL a64 p0,.fn 70 [.ia [S p1_c0,I p1_c1,I p1_c2] 0]]=(T120 p0 p1_c0 p1_c1 p1_c2).map I:=by
 obtain⟨q,rfl⟩:=sucK hm
 exact(callA_body (fn:=Tryz.f120) (c:=body_ Tryz.f120) q _ (by kernel_rfl) (by kernel_rfl) (by kernel_rfl)).trans (B120 _ (fun p0 p1_c0 p1_c1 p1_c2=>F70 q (by omega) p0 p1_c0 p1_c1 p1_c2) p0 p1_c0 p1_c1 p1_c2)
noncomputable def T69(p0:(List S64))(p1_c0:ByteArray)(p1_c1:Int)(p1_c2:Int):Option Bool:=((T120 p0 p1_c0 p1_c1 p1_c2).bind fun x1=>(some (leI 0 x1)))
theorem B69(C:Callee)(h120:∀(p0:(List S64))(p1_c0:ByteArray)(p1_c1:Int)(p1_c2:Int),C 120 [LL a64 p0,.fn 70 [.ia [S p1_c0,I p1_c1,I p1_c2] 0]]=(T120 p0 p1_c0 p1_c1 p1_c2).map I)(p0:(List S64))(p1_c0:ByteArray)(p1_c1:Int)(p1_c2:Int):rB C 69 Tryz.f69 (frame0 [LL a64 p0,.fn 70 [.ia [S p1_c0,I p1_c1,I p1_c2] 0]] 9 false) ((T69 p0 p1_c0 p1_c1 p1_c2).map B):=by
 unfold T69
 refine zS 1 0 (mkE [(0,LL a64 p0),(1,.fn 70 [.ia [S p1_c0,I p1_c1,I p1_c2] 0])] [] 9) (zR 0 1 (sg 2 (mkE [(6,.fn 70 [.ia [S p1_c0,I p1_c1,I p1_c2] 0]),(5,LL a64 p0),(0,LL a64 p0),(1,.fn 70 [.ia [S p1_c0,I p1_c1,I p1_c2] 0])] [] 9) (co 7 [] (h120 p0 p1_c0 p1_c1 p1_c2) (fun x1=>?_))))
 exact zE (mkE [(4,B (leI 0 x1))] [] 9)
theorem F69(m:Nat)(hm:3≤m)(p0:(List S64))(p1_c0:ByteArray)(p1_c1:Int)(p1_c2:Int):callA Tryz.prog cfg m 69 [LL a64 p0,.fn 70 [.ia [S p1_c0,I p1_c1,I p1_c2] 0]]=(T69 p0 p1_c0 p1_c1 p1_c2).map B:=by
 obtain⟨q,rfl⟩:=sucK hm
 exact(callA_body (fn:=Tryz.f69) (c:=body_ Tryz.f69) q _ (by kernel_rfl) (by kernel_rfl) (by kernel_rfl)).trans (B69 _ (fun p0 p1_c0 p1_c1 p1_c2=>F120 q (by omega) p0 p1_c0 p1_c1 p1_c2) p0 p1_c0 p1_c1 p1_c2)
noncomputable def T40(p0:S46)(p1:S32):Option Bool:=((T69 p0.f7 p1.f0 p1.f1 p1.f2).bind fun x1=>(some x1))
theorem B40(C:Callee)(h69:∀(p0:(List S64))(p1_c0:ByteArray)(p1_c1:Int)(p1_c2:Int),C 69 [LL a64 p0,.fn 70 [.ia [S p1_c0,I p1_c1,I p1_c2] 0]]=(T69 p0 p1_c0 p1_c1 p1_c2).map B)(p0:S46)(p1:S32):rB C 40 Tryz.f40 (frame0 [a46 p0,a32 p1] 9 false) ((T40 p0 p1).map B):=by
 unfold T40
 let o_0:List (Nat×AObj):=[(16,.box [S p0.f0,S p0.f1,I p0.f2,LL S p0.f3,I p0.f4,I p0.f5,I p0.f6,LL a64 p0.f7,S p0.f8] false),(24,.box [S p1.f0,I p1.f1,I p1.f2] false)]
 refine zS 1 0 (mkE [(2,.ba 16 0),(3,.ba 24 0)] o_0 9) (zR 0 1 (sg 3 (mkE [(7,.fn 70 [.ba 24 0]),(6,LL a64 p0.f7),(5,.ba 16 7),(2,.ba 16 0),(3,.ba 24 0)] o_0 9) (co 8 [24] (h69 p0.f7 p1.f0 p1.f1 p1.f2) (fun x1=>?_))))
 exact zE (mkE [(4,B x1)] [] 9)
theorem F40(m:Nat)(hm:4≤m)(p0:S46)(p1:S32):callA Tryz.prog cfg m 40 [a46 p0,a32 p1]=(T40 p0 p1).map B:=by
 obtain⟨q,rfl⟩:=sucK hm
 exact(callA_body (fn:=Tryz.f40) (c:=body_ Tryz.f40) q _ (by kernel_rfl) (by kernel_rfl) (by kernel_rfl)).trans (B40 _ (fun p0 p1_c0 p1_c1 p1_c2=>F69 q (by omega) p0 p1_c0 p1_c1 p1_c2) p0 p1)
noncomputable def T170(p0:S46)(p1:S46):Option Int:=((T135 p1.f6 p0.f6).bind fun x1=>((T135 p1.f4 p0.f4).bind fun x2=>((T38 p0.f0 p1.f0).bind fun x3=>((T37 ([x1,x2,x3]:List Int)).bind fun x4=>(some x4)))))
theorem B170(C:Callee)(h135:H135 C)(h37:H37 C)(h38:H38 C)(p0:S46)(p1:S46):rB C 170 Tryz.f170 (frame0 [a46 p0,a46 p1] 22 false) ((T170 p0 p1).map I):=by
 unfold T170
 let d_0:List (Option Nat×REff):=[(some 5,qe (.ba 24 6)),(some 6,qe (I p1.f6)),(some 7,qe (.ba 16 6)),(some 8,qe (I p0.f6))]
 let d_1:List (Option Nat×REff):=[(some 10,qe (.ba 24 4)),(some 11,qe (I p1.f4)),(some 12,qe (.ba 16 4)),(some 13,qe (I p0.f4))]
 let d_2:List (Option Nat×REff):=[(some 15,qe (.ba 16 0)),(some 16,qe (S p0.f0)),(some 17,qe (.ba 24 0)),(some 18,qe (S p1.f0))]
 let s_0:List (Nat×AV):=[(8,I p0.f6),(7,.ba 16 6),(6,I p1.f6),(5,.ba 24 6),(2,.ba 16 0),(3,.ba 24 0)]
 let s_1:List (Nat×AV):=[(13,I p0.f4),(12,.ba 16 4),(11,I p1.f4),(10,.ba 24 4)]
 let o_0:List (Nat×AObj):=[(16,.box [S p0.f0,S p0.f1,I p0.f2,LL S p0.f3,I p0.f4,I p0.f5,I p0.f6,LL a64 p0.f7,S p0.f8] false),(24,.box [S p1.f0,S p1.f1,I p1.f2,LL S p1.f3,I p1.f4,I p1.f5,I p1.f6,LL a64 p1.f7,S p1.f8] false)]
 refine zS 1 0 (mkE [(2,.ba 16 0),(3,.ba 24 0)] o_0 22) (gS 0 (gD 1 18 (rg Tryz.f170 1) [0,1,2,3,4,5,6,7,8,9,10,11,12,13,14,15,16,17] (dg 4 d_0 (dc 9 [] (mkE s_0 o_0 22) (h135 p1.f6 p0.f6) (fun x1=>?_)))))
 refine dg 9 (d_0.append ((some 9,qe (I x1))::d_1)) (dc 14 [] (mkE (s_1.append ((9,I x1)::s_0)) o_0 22) (h135 p1.f4 p0.f4) (fun x2=>?_))
 refine dg 14 (d_0.append ((some 9,qe (I x1))::(d_1.append ((some 14,qe (I x2))::d_2)))) (dc 19 [] (mkE ((18,S p1.f0)::((17,.ba 24 0)::((16,S p0.f0)::((15,.ba 16 0)::((14,I x2)::(s_1.append ((9,I x1)::s_0))))))) o_0 22) (h38 p0.f0 p1.f0) (fun x3=>?_))
 refine dg 16 (d_0.append ((some 9,qe (I x1))::(d_1.append ((some 14,qe (I x2))::(d_2.append ((some 19,qe (I x3))::[(some 20,{ e:={ val:= .own 160 0,news:=[(160,RR 3 1 I ([x1,x2,x3]:List Int) 0 false)] } })])))))) (dc 21 [160] (mkE ((20,.own 160 0)::((19,I x3)::((18,S p1.f0)::((17,.ba 24 0)::((16,S p0.f0)::((15,.ba 16 0)::((14,I x2)::(s_1.append ((9,I x1)::s_0))))))))) ((160,RR 3 1 I ([x1,x2,x3]:List Int) 0 false)::o_0) 22) (h37 ([x1,x2,x3]:List Int)) (fun x4=>?_))
 exact dg 18 (d_0.append ((some 9,qe (I x1))::(d_1.append ((some 14,qe (I x2))::(d_2.append ((some 19,qe (I x3))::((some 20,{ e:={ val:= .own 160 0,news:=[(160,RR 3 1 I ([x1,x2,x3]:List Int) 0 false)] } })::((some 21,qe (I x4))::[(some 4,qe (I x4))])))))))) (de (mkE ((4,I x4)::((21,I x4)::((20,.own 160 0)::((19,I x3)::((18,S p1.f0)::((17,.ba 24 0)::((16,S p0.f0)::((15,.ba 16 0)::((14,I x2)::(s_1.append ((9,I x1)::s_0))))))))))) ((160,RR 3 1 I ([x1,x2,x3]:List Int) 0 false)::o_0) 22) (zE (mkE [(4,I x4)] [] 22)))
theorem F170(m:Nat)(hm:3≤m)(p0:S46)(p1:S46):callA Tryz.prog cfg m 170 [a46 p0,a46 p1]=(T170 p0 p1).map I:=by
 obtain⟨q,rfl⟩:=sucK hm
 exact(callA_bodyQ (fn:=Tryz.f170) (c:=body_ Tryz.f170) q _ (by kernel_rfl) (by kernel_rfl) (by kernel_rfl)).trans (B170 _ (fun p0 p1=>(guard_q (by kernel_rfl) _).trans (F135 q (by omega) p0 p1)) (fun p0=>(guard_q (by kernel_rfl) _).trans (F37 q (by omega) p0)) (fun p0 p1=>(guard_q (by kernel_rfl) _).trans (F38 q (by omega) p0 p1)) p0 p1)
theorem F26(m:Nat)(hm:4≤m)(p0:(List S46)):callA Tryz.prog cfg m 26 [.fr 47 9 (List.map a46 p0),.fn 170 []]=(sortO (fun x y=>T170 x y) p0).map (fun(r:(List S46))=>AV.inp (.tup []) (.fr 47 9 (List.map a46 r))):=by
 obtain⟨q,rfl⟩:=sucK hm
 exact(callA_leaf (L:=(leafSortF Tryz.prog 47 9)) _ _ (by kernel_rfl)).trans (sortF_leaf 47 9 170 [] a46 (fun x y=>T170 x y) _ p0 (fun x y=>F170 q (by omega) x y) (fun _=>by kernel_rfl) (by kernel_rfl))
noncomputable def L142_3(p0:(List S46))(p1:(List Int))(p2:S32)(p3:Int)(z0:((List S46)×Int)):Option (((List S46)×Int)⊕(Int×Bool×(List S46))):=(bif (ltI z0.2 (lenL p0))then((listAt p0 z0.2).bind fun x1=>((listAt p1 z0.2).bind fun x2=>((T169 x1 x2 p3).bind fun x3=>(bif x3 then((T40 x1 p2).bind fun x4=>(bif x4 then((appO 128 z0.1 ([x1]:List S46)).bind fun x5=>(some (.inl (x5,(addI .i64 z0.2 1)))))else(some (.inl (z0.1,(addI .i64 z0.2 1))))))else(some (.inl (z0.1,(addI .i64 z0.2 1))))))))else(some (.inr (z0.2,(ltI z0.2 (lenL p0)),z0.1))))
abbrev H169(C:Callee):Prop:=∀(p0:S46)(p1:Int)(p2:Int),C 169 [a46 p0,I p1,I p2]=(T169 p0 p1 p2).map B
abbrev H40(C:Callee):Prop:=∀(p0:S46)(p1:S32),C 40 [a46 p0,a32 p1]=(T40 p0 p1).map B
theorem L142_3_ok(C:Callee)(h169:H169 C)(h40:H40 C)(p0:(List S46))(p1:(List Int))(p2:S32)(p3:Int)(z0:((List S46)×Int)):rL C 142 Tryz.f142 3 [false,false,true,false,true,true] (fun z0:((List S46)×Int)=>(mkE [(1,LL I p1),(3,I p3),(6,.ba 48 0),(9,.own 72 0),(12,LL a46 p0),(13,I (lenL p0)),(14,I z0.2)] [(48,.box [S p2.f0,I p2.f1,I p2.f2] false),(72,RR 47 9 a46 z0.1 0 false)] 39)) (fun(x:(Int×Bool×(List S46)))=>(.exit 0,(mkE [(1,LL I p1),(3,I p3),(6,.ba 48 0),(9,.own 72 0),(12,LL a46 p0),(13,I (lenL p0)),(14,I x.1),(15,B x.2.1)] [(48,.box [S p2.f0,I p2.f1,I p2.f2] false),(72,RR 47 9 a46 x.2.2 0 false)] 39))) (L142_3 p0 p1 p2 p3 z0) z0:=by
 unfold L142_3
 let d_0:List (Option Nat×REff):=[(some 20,qe (LL I p1)),(some 21,qe (I z0.2))]
 let s_0:List (Nat×AV):=[(1,LL I p1),(3,I p3),(6,.ba 48 0),(9,.own 72 0),(10,I z0.2),(11,.ba 88 0),(12,LL a46 p0),(13,I (lenL p0)),(14,I z0.2)]
 let s_1:List (Nat×AV):=[(1,LL I p1),(3,I p3),(6,.ba 48 0),(9,.own 72 0)]
 let s_2:List (Nat×AV):=[(12,LL a46 p0),(13,I (lenL p0))]
 let o_0:List (Nat×AObj):=[(48,.box [S p2.f0,I p2.f1,I p2.f2] false),(72,RR 47 9 a46 z0.1 0 false)]
 refine zS 0 3 (mkE (s_1.append (s_2.append ((14,I z0.2)::[(15,B (ltI z0.2 (lenL p0)))]))) o_0 39) (gS 4 (gC 15 (ltI z0.2 (lenL p0)) ?_ ?_))
 ·refine gK (zP (gS 7 (gB 1 (zR 5 4 (sg 1 (mkE ((16,I z0.2)::(s_1.append (s_2.append ((14,I z0.2)::[(15,B (ltI z0.2 (lenL p0)))])))) o_0 39) (vo 17 (addrE 26 47 9 a46 .i64 p0 z0.2) (fun x1=>?_)))))))
  refine zN (mkE s_0 (o_0.append [(88,.box [S x1.f0,S x1.f1,I x1.f2,LL S x1.f3,I x1.f4,I x1.f5,I x1.f6,LL a64 x1.f7,S x1.f8] false)]) 39) (gS 0 (gD 5 12 (rg Tryz.f142 5) [0,1,2,3,4,5,6,7,8,9,10,11] (dg 3 ((some 19,qe (a46 x1))::d_0) (dv 22 (mkE ((21,I z0.2)::((20,LL I p1)::s_0)) (o_0.append [(88,.box [S x1.f0,S x1.f1,I x1.f2,LL S x1.f3,I x1.f4,I x1.f5,I x1.f6,LL a64 x1.f7,S x1.f8] false)]) 39) (addrE 22 3 1 I .i64 p1 z0.2) (fun x2=>?_)))))
  refine dg 6 ((some 19,qe (a46 x1))::(d_0.append ((some 22,qe (.ia [I x2] 0))::((some 23,qe (I x2))::[(some 24,qe (I p3))])))) (dc 25 [] (mkE ((24,I p3)::((23,I x2)::((22,.ia [I x2] 0)::((21,I z0.2)::((20,LL I p1)::((19,a46 x1)::s_0)))))) (o_0.append [(88,.box [S x1.f0,S x1.f1,I x1.f2,LL S x1.f3,I x1.f4,I x1.f5,I x1.f6,LL a64 x1.f7,S x1.f8] false)]) 39) (h169 x1 x2 p3) (fun x3=>?_))
  refine dg 8 ((some 19,qe (a46 x1))::(d_0.append ((some 22,qe (.ia [I x2] 0))::((some 23,qe (I x2))::((some 24,qe (I p3))::((some 25,qe (B x3))::[(some 26,qe (B x3))])))))) (db 7 26 x3 ?_ ?_)
  ·refine dg 10 ((some 19,qe (a46 x1))::(d_0.append ((some 22,qe (.ia [I x2] 0))::((some 23,qe (I x2))::((some 24,qe (I p3))::((some 25,qe (B x3))::((some 26,qe (B true))::((some 27,qe (a46 x1))::[(some 28,qe (a32 p2))])))))))) (dc 29 [] (mkE ((28,a32 p2)::((27,a46 x1)::((26,B true)::((25,B x3)::((24,I p3)::((23,I x2)::((22,.ia [I x2] 0)::((21,I z0.2)::((20,LL I p1)::((19,a46 x1)::s_0)))))))))) (o_0.append [(88,.box [S x1.f0,S x1.f1,I x1.f2,LL S x1.f3,I x1.f4,I x1.f5,I x1.f6,LL a64 x1.f7,S x1.f8] false)]) 39) (h40 x1 p2) (fun x4=>?_))
   refine dg 12 ((some 19,qe (a46 x1))::(d_0.append ((some 22,qe (.ia [I x2] 0))::((some 23,qe (I x2))::((some 24,qe (I p3))::((some 25,qe (B x3))::((some 26,qe (B true))::((some 27,qe (a46 x1))::((some 28,qe (a32 p2))::((some 29,qe (B x4))::[(some 30,qe (B x4))])))))))))) (de (mkE ((30,B x4)::((29,B x4)::((28,a32 p2)::((27,a46 x1)::((26,B true)::((25,B x3)::((24,I p3)::((23,I x2)::((22,.ia [I x2] 0)::((21,I z0.2)::((20,LL I p1)::((19,a46 x1)::s_0)))))))))))) (o_0.append [(88,.box [S x1.f0,S x1.f1,I x1.f2,LL S x1.f3,I x1.f4,I x1.f5,I x1.f6,LL a64 x1.f7,S x1.f8] false)]) 39) (zN (mkE (s_1.append ((11,.ba 88 0)::(s_2.append ((14,I z0.2)::[(30,B x4)])))) (o_0.append [(88,.box [S x1.f0,S x1.f1,I x1.f2,LL S x1.f3,I x1.f4,I x1.f5,I x1.f6,LL a64 x1.f7,S x1.f8] false)]) 39) (gC 30 x4 ?_ ?_)))
   ·refine gR 6 (rg Tryz.f142 6) (sg 3 (mkE ((33,.own 264 0)::((32,a46 x1)::((31,.own 72 0)::(s_1.append ((11,.ba 88 0)::(s_2.append ((14,I z0.2)::[(30,B x4)]))))))) ((264,RR 47 9 a46 ([x1]:List S46) 0 false)::(o_0.append [(88,.box [S x1.f0,S x1.f1,I x1.f2,LL S x1.f3,I x1.f4,I x1.f5,I x1.f6,LL a64 x1.f7,S x1.f8] false)])) 39) (mo (some 34) (apO 26 47 9 128 72 a46 0 [264] (y:= .own 264 0) (l2:=([x1]:List S46))) (fun x5=>?_)))
    exact se (mkE ((1,LL I p1)::((3,I p3)::((6,.ba 48 0)::((9,.own 72 1)::(s_2.append [(14,I z0.2)]))))) [(48,.box [S p2.f0,I p2.f1,I p2.f2] false),(72,RR 47 9 a46 x5 1 false)] 39) (pB (zP (gR 7 (rg Tryz.f142 7) (se (mkE ((1,LL I p1)::((3,I p3)::((6,.ba 48 0)::((9,.own 72 1)::(s_2.append [(14,I (addI .i64 z0.2 1))]))))) [(48,.box [S p2.f0,I p2.f1,I p2.f2] false),(72,RR 47 9 a46 x5 1 false)] 39) (pL)))))
   ·exact gK (pB (zP (gR 7 (rg Tryz.f142 7) (se (mkE (s_1.append (s_2.append [(14,I (addI .i64 z0.2 1))])) o_0 39) (pL)))))
  ·exact dg 12 ((some 19,qe (a46 x1))::(d_0.append ((some 22,qe (.ia [I x2] 0))::((some 23,qe (I x2))::((some 24,qe (I p3))::((some 25,qe (B x3))::((some 26,qe (B false))::((some 27,qe (.und))::((some 28,qe (.und))::((some 29,qe (.und))::[(some 30,qe (B false))])))))))))) (de (mkE ((30,B false)::((29,.und)::((28,.und)::((27,.und)::((26,B false)::((25,B x3)::((24,I p3)::((23,I x2)::((22,.ia [I x2] 0)::((21,I z0.2)::((20,LL I p1)::((19,a46 x1)::s_0)))))))))))) (o_0.append [(88,.box [S x1.f0,S x1.f1,I x1.f2,LL S x1.f3,I x1.f4,I x1.f5,I x1.f6,LL a64 x1.f7,S x1.f8] false)]) 39) (zN (mkE (s_1.append ((11,.ba 88 0)::(s_2.append ((14,I z0.2)::[(30,B false)])))) (o_0.append [(88,.box [S x1.f0,S x1.f1,I x1.f2,LL S x1.f3,I x1.f4,I x1.f5,I x1.f6,LL a64 x1.f7,S x1.f8] false)]) 39) (gF (.tmp 30) (gK (pB (zP (gR 7 (rg Tryz.f142 7) (se (mkE (s_1.append (s_2.append [(14,I (addI .i64 z0.2 1))])) o_0 39) (pL)))))))))
 ·exact gX 0 (pL)
noncomputable def T142(p0:(List S46))(p1:(List Int))(p2:S32)(p3:Int):Option (List S46):=((iter (L142_3 p0 p1 p2 p3) ([],0)).bind fun y6=>((sortO (fun x y=>T170 x y) y6.2.2).bind fun x7=>(some x7)))
theorem B142(C:Callee)(h169:H169 C)(h26:∀(p0:(List S46)),C 26 [.fr 47 9 (List.map a46 p0),.fn 170 []]=(sortO (fun x y=>T170 x y) p0).map (fun(r:(List S46))=>AV.inp (.tup []) (.fr 47 9 (List.map a46 r))))(h40:H40 C)(p0:(List S46))(p1:(List Int))(p2:S32)(p3:Int):rB C 142 Tryz.f142 (frame0 [LL a46 p0,LL I p1,a32 p2,I p3] 39 false) ((T142 p0 p1 p2 p3).map (fun l=>AV.fr 47 9 (List.map a46 l))):=by
 unfold T142
 let s_0:List (Nat×AV):=[(1,LL I p1),(3,I p3),(6,.ba 48 0)]
 let o_0:List (Nat×AObj):=[(48,.box [S p2.f0,I p2.f1,I p2.f2] false)]
 refine zS 1 0 (mkE ((0,LL a46 p0)::s_0) o_0 39) (zS 2 1 (mkE ((0,LL a46 p0)::(s_0.append [(9,.nils)])) o_0 39) (gS 8 (zR 3 2 (sg 1 (mkE ((12,LL a46 p0)::((0,LL a46 p0)::(s_0.append [(9,.nils)]))) o_0 39) (eo 13 (I (lenL p0)) (lenE 26 a46 p0) (zN (mkE (s_0.append ((9,.nils)::((12,LL a46 p0)::((13,I (lenL p0))::[(14,I 0)])))) o_0 39) (gB 0 (lo [(1,none),(3,none),(6,none),(9,some (47,9)),(12,none),(13,none),(14,none)] [] (L142_3 p0 p1 p2 p3) (fun z0:((List S46)×Int)=>(mkE (s_0.append ((9,.own 72 0)::((12,LL a46 p0)::((13,I (lenL p0))::[(14,I z0.2)])))) (o_0.append [(72,RR 47 9 a46 z0.1 0 false)]) 39)) (fun(x:(Int×Bool×(List S46)))=>(.exit 0,(mkE (s_0.append ((9,.own 72 0)::((12,LL a46 p0)::((13,I (lenL p0))::((14,I x.1)::[(15,B x.2.1)]))))) (o_0.append [(72,RR 47 9 a46 x.2.2 0 false)]) 39))) ([],0) (fun z=>L142_3_ok C h169 h40 p0 p1 p2 p3 z) ?_))))))))
 intro y6
 refine pH (zP (zR 9 8 (sg 1 (mkE ((36,.own 72 0)::(s_0.append ((9,.own 72 0)::((12,LL a46 p0)::((13,I (lenL p0))::((14,I y6.1)::[(15,B y6.2.1)])))))) (o_0.append [(72,RR 47 9 a46 y6.2.2 0 false)]) 39) (mo (some 37) (ipR 26 47 9 72 0 a46 y6.2.2 [.fn 170 []] [.fn 170 []] [] (fun x:(List S46)=> .tup []) (fun x:(List S46)=>x) (h26 y6.2.2)) (fun x7=>?_)))))
 exact zN (mkE [(9,.own 72 0)] [(72,RR 47 9 a46 x7 0 false)] 39) (zF 0 9 (mkE [(8,.own 72 0)] [(72,RR 47 9 a46 x7 0 false)] 39))
theorem F142(m:Nat)(hm:5≤m)(p0:(List S46))(p1:(List Int))(p2:S32)(p3:Int):callA Tryz.prog cfg m 142 [LL a46 p0,LL I p1,a32 p2,I p3]=(T142 p0 p1 p2 p3).map (fun l=>AV.fr 47 9 (List.map a46 l)):=by
 obtain⟨q,rfl⟩:=sucK hm
 exact(callA_body (fn:=Tryz.f142) (c:=body_ Tryz.f142) q _ (by kernel_rfl) (by kernel_rfl) (by kernel_rfl)).trans (B142 _ (fun p0 p1 p2=>F169 q (by omega) p0 p1 p2) (fun p0=>F26 q (by omega) p0) (fun p0 p1=>F40 q (by omega) p0 p1) p0 p1 p2 p3)
noncomputable def L92_7(p0:(List S46))(p1:S32)(p2:S57)(x1:(List Int))(z0:((List Int)×Int))(x2:S46)(x3:Int)(z1:((List Int)×Int)):Option (((List Int)×Int)⊕(Int×Bool×(List Int))):=(bif (ltI z1.2 2)then((listAt [x2.f4,x3] z1.2).bind fun x4=>(bif (ltI p2.f0 x4)then(bif (ltI x4 p2.f1)then((appO 8 z1.1 ([x4]:List Int)).bind fun x5=>(some (.inl (x5,(addI .i64 z1.2 1)))))else(some (.inl (z1.1,(addI .i64 z1.2 1)))))else(some (.inl (z1.1,(addI .i64 z1.2 1))))))else(some (.inr (z1.2,(ltI z1.2 2),z1.1))))
theorem L92_7_ok(C:Callee)(p0:(List S46))(p1:S32)(p2:S57)(x1:(List Int))(z0:((List Int)×Int))(x2:S46)(x3:Int)(z1:((List Int)×Int)):rL C 92 Tryz.f92 7 [false,false,true,true,false,false,true,true,false,false,true,false,true,true,true] (fun z1:((List Int)×Int)=>(mkE [(0,LL a46 p0),(4,.ba 32 0),(5,.ba 40 0),(7,LL I x1),(8,.own 64 0),(25,LL a46 p0),(26,I (lenL p0)),(27,I z0.2),(38,.agg [I x2.f4,I x3]),(39,I z1.2)] [(32,.box [S p1.f0,I p1.f1,I p1.f2] false),(40,.box [I p2.f0,I p2.f1] false),(64,RR 3 1 I z1.1 0 false)] 124)) (fun(x:(Int×Bool×(List Int)))=>(.exit 2,(mkE [(0,LL a46 p0),(4,.ba 32 0),(5,.ba 40 0),(7,LL I x1),(8,.own 64 0),(25,LL a46 p0),(26,I (lenL p0)),(27,I z0.2),(38,.agg [I x2.f4,I x3]),(39,I x.1),(40,B x.2.1)] [(32,.box [S p1.f0,I p1.f1,I p1.f2] false),(40,.box [I p2.f0,I p2.f1] false),(64,RR 3 1 I x.2.2 0 false)] 124))) (L92_7 p0 p1 p2 x1 z0 x2 x3 z1) z1:=by
 unfold L92_7
 let s_0:List (Nat×AV):=[(25,LL a46 p0),(26,I (lenL p0)),(27,I z0.2),(38,.agg [I x2.f4,I x3])]
 let s_1:List (Nat×AV):=[(0,LL a46 p0),(4,.ba 32 0),(5,.ba 40 0),(7,LL I x1),(8,.own 64 0)]
 let o_0:List (Nat×AObj):=[(32,.box [S p1.f0,I p1.f1,I p1.f2] false),(40,.box [I p2.f0,I p2.f1] false),(64,RR 3 1 I z1.1 0 false)]
 refine zS 0 7 (mkE (s_1.append (s_0.append ((39,I z1.2)::[(40,B (ltI z1.2 2))]))) o_0 124) (gS 8 (gC 40 (ltI z1.2 2) ?_ ?_))
 ·refine gK (zP (gS 11 (gB 3 (zR 9 8 (vo 41 (arrE 186 3 1 2 false I .i64 z1.2 (.tmp 38) (.tmp 39) [I x2.f4,I x3] [x2.f4,x3]) (fun x4=>?_))))))
  refine zN (mkE (s_1.append ((12,I x4)::(s_0.append [(39,I z1.2)]))) o_0 124) (zR 0 9 (sg 5 (mkE ((46,B (ltI p2.f0 x4))::((45,B (ltI p2.f0 x4))::((44,I x4)::((43,I p2.f0)::((42,.ba 40 0)::(s_1.append ((12,I x4)::(s_0.append [(39,I z1.2)])))))))) o_0 124) (sb 46 (ltI p2.f0 x4) ?_ ?_)))
  ·refine zN (mkE (s_1.append ((12,I x4)::(s_0.append ((39,I z1.2)::[(51,B (ltI x4 p2.f1))])))) o_0 124) (gC 51 (ltI x4 p2.f1) ?_ ?_)
   ·refine gR 10 (rg Tryz.f92 10) (sg 3 (mkE ((54,.own 432 0)::((53,I x4)::((52,.own 64 0)::(s_1.append ((12,I x4)::(s_0.append ((39,I z1.2)::[(51,B (ltI x4 p2.f1))]))))))) ((432,RR 3 1 I ([x4]:List Int) 0 false)::o_0) 124) (mo (some 55) (apO 22 3 1 8 64 I 0 [432] (y:= .own 432 0) (l2:=([x4]:List Int))) (fun x5=>?_)))
    exact se (mkE ((0,LL a46 p0)::((4,.ba 32 0)::((5,.ba 40 0)::((7,LL I x1)::((8,.own 64 1)::(s_0.append [(39,I z1.2)])))))) [(32,.box [S p1.f0,I p1.f1,I p1.f2] false),(40,.box [I p2.f0,I p2.f1] false),(64,RR 3 1 I x5 1 false)] 124) (pB (zP (gR 11 (rg Tryz.f92 11) (se (mkE ((0,LL a46 p0)::((4,.ba 32 0)::((5,.ba 40 0)::((7,LL I x1)::((8,.own 64 1)::(s_0.append [(39,I (addI .i64 z1.2 1))])))))) [(32,.box [S p1.f0,I p1.f1,I p1.f2] false),(40,.box [I p2.f0,I p2.f1] false),(64,RR 3 1 I x5 1 false)] 124) (pL)))))
   ·exact gK (pB (zP (gR 11 (rg Tryz.f92 11) (se (mkE (s_1.append (s_0.append [(39,I (addI .i64 z1.2 1))])) o_0 124) (pL)))))
  ·exact zN (mkE (s_1.append ((12,I x4)::(s_0.append ((39,I z1.2)::[(51,B false)])))) o_0 124) (gF (.tmp 51) (gK (pB (zP (gR 11 (rg Tryz.f92 11) (se (mkE (s_1.append (s_0.append [(39,I (addI .i64 z1.2 1))])) o_0 124) (pL)))))))
 ·exact gX 2 (pL)
noncomputable def L92_4(p0:(List S46))(p1:S32)(p2:S57)(x1:(List Int))(z0:((List Int)×Int)):Option (((List Int)×Int)⊕(Int×Bool×(List Int))):=(bif (ltI z0.2 (lenL p0))then((listAt p0 z0.2).bind fun x2=>((listAt x1 z0.2).bind fun x3=>((iter (L92_7 p0 p1 p2 x1 z0 x2 x3) (z0.1,0)).bind fun y6=>(some (.inl (y6.2.2,(addI .i64 z0.2 1)))))))else(some (.inr (z0.2,(ltI z0.2 (lenL p0)),z0.1))))
theorem L92_4_ok(C:Callee)(p0:(List S46))(p1:S32)(p2:S57)(x1:(List Int))(z0:((List Int)×Int)):rL C 92 Tryz.f92 4 [false,false,true,false,true,true,true] (fun z0:((List Int)×Int)=>(mkE [(0,LL a46 p0),(4,.ba 32 0),(5,.ba 40 0),(7,LL I x1),(8,.own 64 0),(25,LL a46 p0),(26,I (lenL p0)),(27,I z0.2)] [(32,.box [S p1.f0,I p1.f1,I p1.f2] false),(40,.box [I p2.f0,I p2.f1] false),(64,RR 3 1 I z0.1 0 false)] 124)) (fun(x:(Int×Bool×(List Int)))=>(.exit 0,(mkE [(0,LL a46 p0),(4,.ba 32 0),(5,.ba 40 0),(7,LL I x1),(8,.own 64 0),(25,LL a46 p0),(26,I (lenL p0)),(27,I x.1),(28,B x.2.1)] [(32,.box [S p1.f0,I p1.f1,I p1.f2] false),(40,.box [I p2.f0,I p2.f1] false),(64,RR 3 1 I x.2.2 0 false)] 124))) (L92_4 p0 p1 p2 x1 z0) z0:=by
 unfold L92_4
 let s_0:List (Nat×AV):=[(0,LL a46 p0),(4,.ba 32 0),(5,.ba 40 0),(7,LL I x1),(8,.own 64 0)]
 let s_1:List (Nat×AV):=[(25,LL a46 p0),(26,I (lenL p0)),(27,I z0.2)]
 let o_0:List (Nat×AObj):=[(32,.box [S p1.f0,I p1.f1,I p1.f2] false),(40,.box [I p2.f0,I p2.f1] false)]
 refine zS 0 4 (mkE (s_0.append (s_1.append [(28,B (ltI z0.2 (lenL p0)))])) (o_0.append [(64,RR 3 1 I z0.1 0 false)]) 124) (gS 5 (gC 28 (ltI z0.2 (lenL p0)) ?_ ?_))
 ·refine gK (zP (gS 12 (gB 1 (zR 6 5 (sg 1 (mkE ((29,I z0.2)::(s_0.append (s_1.append [(28,B (ltI z0.2 (lenL p0)))]))) (o_0.append [(64,RR 3 1 I z0.1 0 false)]) 124) (vo 30 (addrE 26 47 9 a46 .i64 p0 z0.2) (fun x2=>?_)))))))
  refine zN (mkE (s_0.append ((9,I z0.2)::((10,.ba 80 0)::s_1))) (o_0.append ((64,RR 3 1 I z0.1 0 false)::[(80,.box [S x2.f0,S x2.f1,I x2.f2,LL S x2.f3,I x2.f4,I x2.f5,I x2.f6,LL a64 x2.f7,S x2.f8] false)])) 124) (gS 7 (gD 6 8 (rg Tryz.f92 6) [0,1,2,3,4,5,6,7] (dg 4 [(some 32,qe (.ba 80 4)),(some 33,qe (I x2.f4)),(some 34,qe (LL I x1)),(some 35,qe (I z0.2))] (dv 36 (mkE ((35,I z0.2)::((34,LL I x1)::(s_0.append ((9,I z0.2)::((10,.ba 80 0)::s_1))))) (o_0.append ((64,RR 3 1 I z0.1 0 false)::[(80,.box [S x2.f0,S x2.f1,I x2.f2,LL S x2.f3,I x2.f4,I x2.f5,I x2.f6,LL a64 x2.f7,S x2.f8] false)])) 124) (addrE 22 3 1 I .i64 x1 z0.2) (fun x3=>?_)))))
  refine dg 8 [(some 32,qe (.ba 80 4)),(some 33,qe (I x2.f4)),(some 34,qe (LL I x1)),(some 35,qe (I z0.2)),(some 36,qe (.ia [I x3] 0)),(some 37,qe (I x3)),(some 38,qe (.agg [I x2.f4,I x3])),(some 39,qe (I 0))] (de (mkE ((39,I 0)::((38,.agg [I x2.f4,I x3])::((37,I x3)::((36,.ia [I x3] 0)::((35,I z0.2)::((34,LL I x1)::((33,I x2.f4)::((32,.ba 80 4)::(s_0.append ((9,I z0.2)::((10,.ba 80 0)::s_1))))))))))) (o_0.append ((64,RR 3 1 I z0.1 0 false)::[(80,.box [S x2.f0,S x2.f1,I x2.f2,LL S x2.f3,I x2.f4,I x2.f5,I x2.f6,LL a64 x2.f7,S x2.f8] false)])) 124) (zN (mkE (s_0.append (s_1.append ((38,.agg [I x2.f4,I x3])::[(39,I 0)]))) (o_0.append [(64,RR 3 1 I z0.1 0 false)]) 124) (gB 2 (lo [(0,none),(4,none),(5,none),(7,none),(8,some (3,1)),(25,none),(26,none),(27,none),(38,none),(39,none)] [] (L92_7 p0 p1 p2 x1 z0 x2 x3) (fun z1:((List Int)×Int)=>(mkE (s_0.append (s_1.append ((38,.agg [I x2.f4,I x3])::[(39,I z1.2)]))) (o_0.append [(64,RR 3 1 I z1.1 0 false)]) 124)) (fun(x:(Int×Bool×(List Int)))=>(.exit 2,(mkE (s_0.append (s_1.append ((38,.agg [I x2.f4,I x3])::((39,I x.1)::[(40,B x.2.1)])))) (o_0.append [(64,RR 3 1 I x.2.2 0 false)]) 124))) (z0.1,0) (fun z=>L92_7_ok C p0 p1 p2 x1 z0 x2 x3 z) ?_))))
  intro y6
  exact pH (pB (zP (gR 12 (rg Tryz.f92 12) (se (mkE (s_0.append ((25,LL a46 p0)::((26,I (lenL p0))::[(27,I (addI .i64 z0.2 1))]))) (o_0.append [(64,RR 3 1 I y6.2.2 0 false)]) 124) (pL)))))
 ·exact gX 0 (pL)
noncomputable def L92_17(p0:(List S46))(p1:S32)(x1:(List Int))(z1:((List Int)×(List S113)×Int)):Option (((List Int)×(List S113)×Int)⊕(Int×Bool×(List Int)×(List S113))):=(bif (ltI (addI .i64 z1.2.2 1) (lenL z1.1))then((idxO (List.length z1.1) z1.2.2).bind fun x10=>((getN z1.1 x10).bind fun x11=>((T142 p0 x1 p1 x11).bind fun x12=>(bif (ltI 0 (lenL x12))then((idxO (List.length x12) 0).bind fun x13=>((getN x12 x13).bind fun x14=>(bif (leI 0 (subI .i64 (lenL z1.2.1) 1))then((idxO (List.length z1.2.1) (subI .i64 (lenL z1.2.1) 1)).bind fun x15=>((getN z1.2.1 x15).bind fun x16=>(bif (eqS x16.f1 x14.f0)then((idxO (List.length z1.1) (addI .i64 z1.2.2 1)).bind fun x17=>((getN z1.1 x17).bind fun x18=>((idxO (List.length z1.2.1) (subI .i64 (lenL z1.2.1) 1)).bind fun x19=>((getN z1.2.1 x19).bind fun x20=>(some (.inl (z1.1,(List.set z1.2.1 x19 (S113.mk (S57.mk x20.f0.f0 x18) x20.f1)),(addI .i64 z1.2.2 1))))))))else((idxO (List.length z1.1) z1.2.2).bind fun x21=>((getN z1.1 x21).bind fun x22=>((idxO (List.length z1.1) (addI .i64 z1.2.2 1)).bind fun x23=>((getN z1.1 x23).bind fun x24=>((appO 32 z1.2.1 ([(S113.mk (S57.mk x22 x24) x14.f0)]:List S113)).bind fun x25=>(some (.inl (z1.1,x25,(addI .i64 z1.2.2 1))))))))))))else((idxO (List.length z1.1) z1.2.2).bind fun x26=>((getN z1.1 x26).bind fun x27=>((idxO (List.length z1.1) (addI .i64 z1.2.2 1)).bind fun x28=>((getN z1.1 x28).bind fun x29=>((appO 32 z1.2.1 ([(S113.mk (S57.mk x27 x29) x14.f0)]:List S113)).bind fun x30=>(some (.inl (z1.1,x30,(addI .i64 z1.2.2 1))))))))))))else(bif (leI 0 (subI .i64 (lenL z1.2.1) 1))then((idxO (List.length z1.2.1) (subI .i64 (lenL z1.2.1) 1)).bind fun x31=>((getN z1.2.1 x31).bind fun x32=>(bif (eqS x32.f1 (ByteArray.mk #[]))then((idxO (List.length z1.1) (addI .i64 z1.2.2 1)).bind fun x33=>((getN z1.1 x33).bind fun x34=>((idxO (List.length z1.2.1) (subI .i64 (lenL z1.2.1) 1)).bind fun x35=>((getN z1.2.1 x35).bind fun x36=>(some (.inl (z1.1,(List.set z1.2.1 x35 (S113.mk (S57.mk x36.f0.f0 x34) x36.f1)),(addI .i64 z1.2.2 1))))))))else((idxO (List.length z1.1) z1.2.2).bind fun x37=>((getN z1.1 x37).bind fun x38=>((idxO (List.length z1.1) (addI .i64 z1.2.2 1)).bind fun x39=>((getN z1.1 x39).bind fun x40=>((appO 32 z1.2.1 ([(S113.mk (S57.mk x38 x40) (ByteArray.mk #[]))]:List S113)).bind fun x41=>(some (.inl (z1.1,x41,(addI .i64 z1.2.2 1))))))))))))else((idxO (List.length z1.1) z1.2.2).bind fun x42=>((getN z1.1 x42).bind fun x43=>((idxO (List.length z1.1) (addI .i64 z1.2.2 1)).bind fun x44=>((getN z1.1 x44).bind fun x45=>((appO 32 z1.2.1 ([(S113.mk (S57.mk x43 x45) (ByteArray.mk #[]))]:List S113)).bind fun x46=>(some (.inl (z1.1,x46,(addI .i64 z1.2.2 1))))))))))))))else(some (.inr (z1.2.2,(ltI (addI .i64 z1.2.2 1) (lenL z1.1)),z1.1,z1.2.1))))
set_option maxHeartbeats 4000000 in
abbrev H142(C:Callee):Prop:=∀(p0:(List S46))(p1:(List Int))(p2:S32)(p3:Int),C 142 [LL a46 p0,LL I p1,a32 p2,I p3]=(T142 p0 p1 p2 p3).map (fun l=>AV.fr 47 9 (List.map a46 l))
theorem L92_17_ok(C:Callee)(h142:H142 C)(p0:(List S46))(p1:S32)(x1:(List Int))(z1:((List Int)×(List S113)×Int)):rL C 92 Tryz.f92 17 [false,false,true,false,true,true,true,true,true,true,true] (fun z1:((List Int)×(List S113)×Int)=>(mkE [(0,LL a46 p0),(4,.ba 32 0),(7,LL I x1),(8,.own 64 0),(13,.own 104 0),(14,I z1.2.2)] [(32,.box [S p1.f0,I p1.f1,I p1.f2] false),(64,RR 3 1 I z1.1 0 false),(104,RR 114 3 a113 z1.2.1 0 false)] 124)) (fun(x:(Int×Bool×(List Int)×(List S113)))=>(.exit 4,(mkE [(0,LL a46 p0),(4,.ba 32 0),(7,LL I x1),(8,.own 64 0),(13,.own 104 0),(14,I x.1),(66,B x.2.1)] [(32,.box [S p1.f0,I p1.f1,I p1.f2] false),(64,RR 3 1 I x.2.2.1 0 false),(104,RR 114 3 a113 x.2.2.2 0 false)] 124))) (L92_17 p0 p1 x1 z1) z1:=by
 unfold L92_17
 let d_0:List (Option Nat×REff):=[(some 108,qe (.own 104 0)),(some 109,qe (.own 64 0)),(some 110,qe (I z1.2.2))]
 let d_1:List (Option Nat×REff):=[(some 113,qe (.own 64 0)),(some 114,qe (I z1.2.2)),(some 115,qe (I (addI .i64 z1.2.2 1)))]
 let d_2:List (Option Nat×REff):=[(some 69,qe (LL a46 p0)),(some 70,qe (LL I x1)),(some 71,qe (a32 p1)),(some 72,qe (.own 64 0)),(some 73,qe (I z1.2.2))]
 let s_0:List (Nat×AV):=[(0,LL a46 p0),(4,.ba 32 0),(7,LL I x1),(8,.own 64 0),(13,.own 104 0),(14,I z1.2.2)]
 let s_1:List (Nat×AV):=[(17,I (subI .i64 (lenL z1.2.1) 1))]
 let s_2:List (Nat×AV):=[(115,I (addI .i64 z1.2.2 1)),(114,I z1.2.2),(113,.own 64 0)]
 let s_3:List (Nat×AV):=[(89,B (leI 0 (subI .i64 (lenL z1.2.1) 1))),(88,B (leI 0 (subI .i64 (lenL z1.2.1) 1))),(87,I (subI .i64 (lenL z1.2.1) 1))]
 let s_4:List (Nat×AV):=[(15,S (ByteArray.mk #[]))]
 let s_5:List (Nat×AV):=[(0,LL a46 p0),(4,.ba 32 0),(7,LL I x1),(8,.own 64 0),(13,.own 104 1)]
 let s_6:List (Nat×AV):=[(102,I (addI .i64 z1.2.2 1)),(101,I z1.2.2),(100,.own 64 0),(99,I (subI .i64 (lenL z1.2.1) 1)),(98,.own 104 0)]
 let s_7:List (Nat×AV):=[(110,I z1.2.2),(109,.own 64 0)]
 let o_0:List (Nat×AObj):=[(32,.box [S p1.f0,I p1.f1,I p1.f2] false),(64,RR 3 1 I z1.1 0 false),(104,RR 114 3 a113 z1.2.1 0 false)]
 let o_1:List (Nat×AObj):=[(32,.box [S p1.f0,I p1.f1,I p1.f2] false),(64,RR 3 1 I z1.1 0 false)]
 refine gS 19 (zR 0 17 (sg 3 (mkE ((64,.own 64 0)::((63,I (addI .i64 z1.2.2 1))::((62,I z1.2.2)::s_0))) o_0 124) (eo 65 (I (lenL z1.1)) (lenOE 22 3 1 I z1.1) (zN (mkE (s_0.append [(66,B (ltI (addI .i64 z1.2.2 1) (lenL z1.1)))]) o_0 124) (gC 66 (ltI (addI .i64 z1.2.2 1) (lenL z1.1)) ?_ ?_)))))
 ·refine gK (zP (gS 18 (gB 5 (zS 20 19 (mkE (s_0.append s_4) o_0 124) (gS 23 (gS 21 (gD 20 9 (rg Tryz.f92 20) [0,1,2,3,4,5,6,7,8] (dg 5 d_2 (dv 74 (mkE ((73,I z1.2.2)::((72,.own 64 0)::(s_0.append s_4))) o_0 124) (addrOE 22 3 1 64 0 false I .i64 z1.1 z1.2.2) (fun x10=>?_))))))))))
  refine dv 75 (mkE ((74,.oa 64 0 x10 0)::((73,I z1.2.2)::((72,.own 64 0)::(s_0.append s_4)))) o_0 124) (loadOE 3 64 0 x10 0 3 1 1 false false I (fun q:Int=>I q) z1.1) (fun x11=>?_)
  refine dc 76 [] (mkE ((75,I x11)::((74,.oa 64 0 x10 0)::((73,I z1.2.2)::((72,.own 64 0)::((71,a32 p1)::((70,LL I x1)::((69,LL a46 p0)::(s_0.append s_4)))))))) o_0 124) (h142 p0 x1 p1 x11) (fun x12=>?_)
  refine dg 9 (d_2.append ((some 74,qe (.oa 64 0 x10 0))::((some 75,qe (I x11))::((some 76,{ e:={ val:= .own 608 0,news:=[(608,RR 47 9 a46 x12 0 false)] } })::[(some 16,qe (.own 608 0))])))) (de (mkE ((16,.own 608 0)::((76,.own 608 0)::((75,I x11)::((74,.oa 64 0 x10 0)::((73,I z1.2.2)::((72,.own 64 0)::((71,a32 p1)::((70,LL I x1)::((69,LL a46 p0)::(s_0.append s_4)))))))))) ((608,RR 47 9 a46 x12 0 false)::o_0) 124) (zN (mkE (s_0.append (s_4.append [(16,.own 608 0)])) (o_0.append [(608,RR 47 9 a46 x12 0 false)]) 124) (zR 0 21 (sg 1 (mkE ((77,.own 608 0)::(s_0.append (s_4.append [(16,.own 608 0)]))) (o_0.append [(608,RR 47 9 a46 x12 0 false)]) 124) (eo 78 (I (lenL x12)) (lenOE 26 47 9 a46 x12) (zN (mkE (s_0.append (s_4.append ((16,.own 608 0)::[(79,B (ltI 0 (lenL x12)))]))) (o_0.append [(608,RR 47 9 a46 x12 0 false)]) 124) (gC 79 (ltI 0 (lenL x12)) ?_ ?_)))))))
  ·refine gR 22 (rg Tryz.f92 22) (sg 1 (mkE ((80,.own 608 0)::(s_0.append (s_4.append ((16,.own 608 0)::[(79,B (ltI 0 (lenL x12)))])))) (o_0.append [(608,RR 47 9 a46 x12 0 false)]) 124) (vo 81 (addrOE 26 47 9 608 0 false a46 .i64 x12 0) (fun x13=>?_)))
   refine sg 3 (mkE ((82,.oa 608 0 x13 0)::((81,.oa 608 0 x13 0)::((80,.own 608 0)::(s_0.append (s_4.append ((16,.own 608 0)::[(79,B (ltI 0 (lenL x12)))])))))) (o_0.append [(608,RR 47 9 a46 x12 0 false)]) 124) (vo 83 (loadOE 9 608 0 x13 0 47 9 1 false false a46 (fun q:S46=>S q.f0) x12) (fun x14=>?_))
   refine zN (mkE (s_0.append [(15,S x14.f0)]) o_0 124) (zR 24 23 (sg 1 (mkE ((84,.own 104 0)::(s_0.append [(15,S x14.f0)])) o_0 124) (eo 85 (I (lenL z1.2.1)) (lenOE 106 114 3 a113 z1.2.1) (zN (mkE (s_0.append ((15,S x14.f0)::s_1)) o_0 124) (zR 0 24 (sg 3 (mkE (s_3.append (s_0.append ((15,S x14.f0)::s_1))) o_0 124) (sb 89 (leI 0 (subI .i64 (lenL z1.2.1) 1)) ?_ ?_)))))))
   ·refine sg 5 (mkE ((91,I (subI .i64 (lenL z1.2.1) 1))::((90,.own 104 0)::((89,B true)::(s_3.append (s_0.append ((15,S x14.f0)::s_1)))))) o_0 124) (vo 92 (addrOE 106 114 3 104 0 false a113 .i64 z1.2.1 (subI .i64 (lenL z1.2.1) 1)) (fun x15=>?_))
    refine sg 7 (mkE ((93,.oa 104 0 x15 2)::((92,.oa 104 0 x15 0)::((91,I (subI .i64 (lenL z1.2.1) 1))::((90,.own 104 0)::((89,B true)::(s_3.append (s_0.append ((15,S x14.f0)::s_1)))))))) o_0 124) (vo 94 (loadOE 9 104 0 x15 2 114 3 1 false false a113 (fun q:S113=>S q.f1) z1.2.1) (fun x16=>?_))
    refine zN (mkE (s_0.append ((15,S x14.f0)::(s_1.append [(97,B (eqS x16.f1 x14.f0))]))) o_0 124) (gC 97 (eqS x16.f1 x14.f0) ?_ ?_)
    ·refine gR 25 (rg Tryz.f92 25) (sg 5 (mkE (s_6.append (s_0.append ((15,S x14.f0)::(s_1.append [(97,B (eqS x16.f1 x14.f0))])))) o_0 124) (vo 103 (addrOE 22 3 1 64 0 false I .i64 z1.1 (addI .i64 z1.2.2 1)) (fun x17=>?_)))
     refine vo 104 (loadOE 3 64 0 x17 0 3 1 1 false false I (fun q:Int=>I q) z1.1) (fun x18=>?_)
     refine vo 105 (addrOE 106 114 3 104 0 false a113 .i64 z1.2.1 (subI .i64 (lenL z1.2.1) 1)) (fun x19=>?_)
     refine sg 10 (mkE ((107,.oa 104 0 x19 1)::((106,.oa 104 0 x19 0)::((105,.oa 104 0 x19 0)::((104,I x18)::((103,.oa 64 0 x17 0)::(s_6.append (s_0.append ((15,S x14.f0)::(s_1.append [(97,B (eqS x16.f1 x14.f0))]))))))))) o_0 124) (mo none (stO 114 3 104 0 x19 1 a113 z1.2.1 [] [I x18] (I x18) (fun q:S113=>(S113.mk (S57.mk q.f0.f0 x18) q.f1)) 3 (.tmp 107) (.tmp 104) 1) (fun x20=>?_))
     exact se (mkE s_0 (o_1.append [(104,RR 114 3 a113 (List.set z1.2.1 x19 (S113.mk (S57.mk x20.f0.f0 x18) x20.f1)) 0 false)]) 124) (pB (zP (gR 18 (rg Tryz.f92 18) (se (mkE [(0,LL a46 p0),(4,.ba 32 0),(7,LL I x1),(8,.own 64 0),(13,.own 104 0),(14,I (addI .i64 z1.2.2 1))] (o_1.append [(104,RR 114 3 a113 (List.set z1.2.1 x19 (S113.mk (S57.mk x20.f0.f0 x18) x20.f1)) 0 false)]) 124) (pL)))))
    ·refine gD 26 14 (rg Tryz.f92 26) [0,1,2,3,4,5,6,7,8,9,10,11,12,13,14,15] (dg 3 d_0 (dv 111 (mkE (s_7.append (s_0.append ((15,S x14.f0)::(s_1.append [(97,B (eqS x16.f1 x14.f0))])))) o_0 124) (addrOE 22 3 1 64 0 false I .i64 z1.1 z1.2.2) (fun x21=>?_)))
     refine dv 112 (mkE ((111,.oa 64 0 x21 0)::(s_7.append (s_0.append ((15,S x14.f0)::(s_1.append [(97,B (eqS x16.f1 x14.f0))]))))) o_0 124) (loadOE 3 64 0 x21 0 3 1 1 false false I (fun q:Int=>I q) z1.1) (fun x22=>?_)
     refine dg 8 (d_0.append ((some 111,qe (.oa 64 0 x21 0))::((some 112,qe (I x22))::d_1))) (dv 116 (mkE (s_2.append (s_0.append ((15,S x14.f0)::(s_1.append [(97,B (eqS x16.f1 x14.f0))])))) o_0 124) (addrOE 22 3 1 64 0 false I .i64 z1.1 (addI .i64 z1.2.2 1)) (fun x23=>?_))
     refine dv 117 (mkE ((116,.oa 64 0 x23 0)::(s_2.append (s_0.append ((15,S x14.f0)::(s_1.append [(97,B (eqS x16.f1 x14.f0))]))))) o_0 124) (loadOE 3 64 0 x23 0 3 1 1 false false I (fun q:Int=>I q) z1.1) (fun x24=>?_)
     refine dg 14 (d_0.append ((some 111,qe (.oa 64 0 x21 0))::((some 112,qe (I x22))::(d_1.append ((some 116,qe (.oa 64 0 x23 0))::((some 117,qe (I x24))::((some 118,qe (.agg [I x22,I x24]))::((some 119,qe (S x14.f0))::((some 120,qe (.agg [I x22,I x24,S x14.f0]))::[(some 121,{ e:={ val:= .own 968 0,news:=[(968,RR 114 3 a113 ([(S113.mk (S57.mk x22 x24) x14.f0)]:List S113) 0 false)] } })]))))))))) (de (mkE ((121,.own 968 0)::((120,.agg [I x22,I x24,S x14.f0])::((119,S x14.f0)::((118,.agg [I x22,I x24])::((117,I x24)::((116,.oa 64 0 x23 0)::(s_2.append ((112,I x22)::((111,.oa 64 0 x21 0)::(s_7.append ((108,.own 104 0)::(s_0.append ((15,S x14.f0)::(s_1.append [(97,B (eqS x16.f1 x14.f0))])))))))))))))) ((968,RR 114 3 a113 ([(S113.mk (S57.mk x22 x24) x14.f0)]:List S113) 0 false)::o_0) 124) (mo (some 122) (apO 106 114 3 32 104 a113 0 [968] (y:= .own 968 0) (l2:=([(S113.mk (S57.mk x22 x24) x14.f0)]:List S113))) (fun x25=>?_)))
     exact se (mkE (s_5.append [(14,I z1.2.2)]) (o_1.append [(104,RR 114 3 a113 x25 1 false)]) 124) (pB (zP (gR 18 (rg Tryz.f92 18) (se (mkE (s_5.append [(14,I (addI .i64 z1.2.2 1))]) (o_1.append [(104,RR 114 3 a113 x25 1 false)]) 124) (pL)))))
   ·refine zN (mkE (s_0.append ((15,S x14.f0)::(s_1.append [(97,B false)]))) o_0 124) (gF (.tmp 97) (gD 26 14 (rg Tryz.f92 26) [0,1,2,3,4,5,6,7,8,9,10,11,12,13,14,15] (dg 3 d_0 (dv 111 (mkE (s_7.append (s_0.append ((15,S x14.f0)::(s_1.append [(97,B false)])))) o_0 124) (addrOE 22 3 1 64 0 false I .i64 z1.1 z1.2.2) (fun x26=>?_)))))
    refine dv 112 (mkE ((111,.oa 64 0 x26 0)::(s_7.append (s_0.append ((15,S x14.f0)::(s_1.append [(97,B false)]))))) o_0 124) (loadOE 3 64 0 x26 0 3 1 1 false false I (fun q:Int=>I q) z1.1) (fun x27=>?_)
    refine dg 8 (d_0.append ((some 111,qe (.oa 64 0 x26 0))::((some 112,qe (I x27))::d_1))) (dv 116 (mkE (s_2.append (s_0.append ((15,S x14.f0)::(s_1.append [(97,B false)])))) o_0 124) (addrOE 22 3 1 64 0 false I .i64 z1.1 (addI .i64 z1.2.2 1)) (fun x28=>?_))
    refine dv 117 (mkE ((116,.oa 64 0 x28 0)::(s_2.append (s_0.append ((15,S x14.f0)::(s_1.append [(97,B false)]))))) o_0 124) (loadOE 3 64 0 x28 0 3 1 1 false false I (fun q:Int=>I q) z1.1) (fun x29=>?_)
    refine dg 14 (d_0.append ((some 111,qe (.oa 64 0 x26 0))::((some 112,qe (I x27))::(d_1.append ((some 116,qe (.oa 64 0 x28 0))::((some 117,qe (I x29))::((some 118,qe (.agg [I x27,I x29]))::((some 119,qe (S x14.f0))::((some 120,qe (.agg [I x27,I x29,S x14.f0]))::[(some 121,{ e:={ val:= .own 968 0,news:=[(968,RR 114 3 a113 ([(S113.mk (S57.mk x27 x29) x14.f0)]:List S113) 0 false)] } })]))))))))) (de (mkE ((121,.own 968 0)::((120,.agg [I x27,I x29,S x14.f0])::((119,S x14.f0)::((118,.agg [I x27,I x29])::((117,I x29)::((116,.oa 64 0 x28 0)::(s_2.append ((112,I x27)::((111,.oa 64 0 x26 0)::(s_7.append ((108,.own 104 0)::(s_0.append ((15,S x14.f0)::(s_1.append [(97,B false)])))))))))))))) ((968,RR 114 3 a113 ([(S113.mk (S57.mk x27 x29) x14.f0)]:List S113) 0 false)::o_0) 124) (mo (some 122) (apO 106 114 3 32 104 a113 0 [968] (y:= .own 968 0) (l2:=([(S113.mk (S57.mk x27 x29) x14.f0)]:List S113))) (fun x30=>?_)))
    exact se (mkE (s_5.append [(14,I z1.2.2)]) (o_1.append [(104,RR 114 3 a113 x30 1 false)]) 124) (pB (zP (gR 18 (rg Tryz.f92 18) (se (mkE (s_5.append [(14,I (addI .i64 z1.2.2 1))]) (o_1.append [(104,RR 114 3 a113 x30 1 false)]) 124) (pL)))))
  ·refine gK (zP (zR 24 23 (sg 1 (mkE ((84,.own 104 0)::(s_0.append (s_4.append ((16,.own 608 0)::[(79,B (ltI 0 (lenL x12)))])))) (o_0.append [(608,RR 47 9 a46 x12 0 false)]) 124) (eo 85 (I (lenL z1.2.1)) (lenOE 106 114 3 a113 z1.2.1) (zN (mkE (s_0.append (s_4.append s_1)) o_0 124) (zR 0 24 (sg 3 (mkE (s_3.append (s_0.append (s_4.append s_1))) o_0 124) (sb 89 (leI 0 (subI .i64 (lenL z1.2.1) 1)) ?_ ?_))))))))
   ·refine sg 5 (mkE ((91,I (subI .i64 (lenL z1.2.1) 1))::((90,.own 104 0)::((89,B true)::(s_3.append (s_0.append (s_4.append s_1)))))) o_0 124) (vo 92 (addrOE 106 114 3 104 0 false a113 .i64 z1.2.1 (subI .i64 (lenL z1.2.1) 1)) (fun x31=>?_))
    refine sg 7 (mkE ((93,.oa 104 0 x31 2)::((92,.oa 104 0 x31 0)::((91,I (subI .i64 (lenL z1.2.1) 1))::((90,.own 104 0)::((89,B true)::(s_3.append (s_0.append (s_4.append s_1)))))))) o_0 124) (vo 94 (loadOE 9 104 0 x31 2 114 3 1 false false a113 (fun q:S113=>S q.f1) z1.2.1) (fun x32=>?_))
    refine zN (mkE (s_0.append (s_4.append (s_1.append [(97,B (eqS x32.f1 (ByteArray.mk #[])))]))) o_0 124) (gC 97 (eqS x32.f1 (ByteArray.mk #[])) ?_ ?_)
    ·refine gR 25 (rg Tryz.f92 25) (sg 5 (mkE (s_6.append (s_0.append (s_4.append (s_1.append [(97,B (eqS x32.f1 (ByteArray.mk #[])))])))) o_0 124) (vo 103 (addrOE 22 3 1 64 0 false I .i64 z1.1 (addI .i64 z1.2.2 1)) (fun x33=>?_)))
     refine vo 104 (loadOE 3 64 0 x33 0 3 1 1 false false I (fun q:Int=>I q) z1.1) (fun x34=>?_)
     refine vo 105 (addrOE 106 114 3 104 0 false a113 .i64 z1.2.1 (subI .i64 (lenL z1.2.1) 1)) (fun x35=>?_)
     refine sg 10 (mkE ((107,.oa 104 0 x35 1)::((106,.oa 104 0 x35 0)::((105,.oa 104 0 x35 0)::((104,I x34)::((103,.oa 64 0 x33 0)::(s_6.append (s_0.append (s_4.append (s_1.append [(97,B (eqS x32.f1 (ByteArray.mk #[])))]))))))))) o_0 124) (mo none (stO 114 3 104 0 x35 1 a113 z1.2.1 [] [I x34] (I x34) (fun q:S113=>(S113.mk (S57.mk q.f0.f0 x34) q.f1)) 3 (.tmp 107) (.tmp 104) 1) (fun x36=>?_))
     exact se (mkE s_0 (o_1.append [(104,RR 114 3 a113 (List.set z1.2.1 x35 (S113.mk (S57.mk x36.f0.f0 x34) x36.f1)) 0 false)]) 124) (pB (zP (gR 18 (rg Tryz.f92 18) (se (mkE [(0,LL a46 p0),(4,.ba 32 0),(7,LL I x1),(8,.own 64 0),(13,.own 104 0),(14,I (addI .i64 z1.2.2 1))] (o_1.append [(104,RR 114 3 a113 (List.set z1.2.1 x35 (S113.mk (S57.mk x36.f0.f0 x34) x36.f1)) 0 false)]) 124) (pL)))))
    ·refine gD 26 14 (rg Tryz.f92 26) [0,1,2,3,4,5,6,7,8,9,10,11,12,13,14,15] (dg 3 d_0 (dv 111 (mkE (s_7.append (s_0.append (s_4.append (s_1.append [(97,B (eqS x32.f1 (ByteArray.mk #[])))])))) o_0 124) (addrOE 22 3 1 64 0 false I .i64 z1.1 z1.2.2) (fun x37=>?_)))
     refine dv 112 (mkE ((111,.oa 64 0 x37 0)::(s_7.append (s_0.append (s_4.append (s_1.append [(97,B (eqS x32.f1 (ByteArray.mk #[])))]))))) o_0 124) (loadOE 3 64 0 x37 0 3 1 1 false false I (fun q:Int=>I q) z1.1) (fun x38=>?_)
     refine dg 8 (d_0.append ((some 111,qe (.oa 64 0 x37 0))::((some 112,qe (I x38))::d_1))) (dv 116 (mkE (s_2.append (s_0.append (s_4.append (s_1.append [(97,B (eqS x32.f1 (ByteArray.mk #[])))])))) o_0 124) (addrOE 22 3 1 64 0 false I .i64 z1.1 (addI .i64 z1.2.2 1)) (fun x39=>?_))
     refine dv 117 (mkE ((116,.oa 64 0 x39 0)::(s_2.append (s_0.append (s_4.append (s_1.append [(97,B (eqS x32.f1 (ByteArray.mk #[])))]))))) o_0 124) (loadOE 3 64 0 x39 0 3 1 1 false false I (fun q:Int=>I q) z1.1) (fun x40=>?_)
     refine dg 14 (d_0.append ((some 111,qe (.oa 64 0 x37 0))::((some 112,qe (I x38))::(d_1.append ((some 116,qe (.oa 64 0 x39 0))::((some 117,qe (I x40))::((some 118,qe (.agg [I x38,I x40]))::((some 119,qe (S (ByteArray.mk #[])))::((some 120,qe (.agg [I x38,I x40,S (ByteArray.mk #[])]))::[(some 121,{ e:={ val:= .own 968 0,news:=[(968,RR 114 3 a113 ([(S113.mk (S57.mk x38 x40) (ByteArray.mk #[]))]:List S113) 0 false)] } })]))))))))) (de (mkE ((121,.own 968 0)::((120,.agg [I x38,I x40,S (ByteArray.mk #[])])::((119,S (ByteArray.mk #[]))::((118,.agg [I x38,I x40])::((117,I x40)::((116,.oa 64 0 x39 0)::(s_2.append ((112,I x38)::((111,.oa 64 0 x37 0)::(s_7.append ((108,.own 104 0)::(s_0.append (s_4.append (s_1.append [(97,B (eqS x32.f1 (ByteArray.mk #[])))])))))))))))))) ((968,RR 114 3 a113 ([(S113.mk (S57.mk x38 x40) (ByteArray.mk #[]))]:List S113) 0 false)::o_0) 124) (mo (some 122) (apO 106 114 3 32 104 a113 0 [968] (y:= .own 968 0) (l2:=([(S113.mk (S57.mk x38 x40) (ByteArray.mk #[]))]:List S113))) (fun x41=>?_)))
     exact se (mkE (s_5.append [(14,I z1.2.2)]) (o_1.append [(104,RR 114 3 a113 x41 1 false)]) 124) (pB (zP (gR 18 (rg Tryz.f92 18) (se (mkE (s_5.append [(14,I (addI .i64 z1.2.2 1))]) (o_1.append [(104,RR 114 3 a113 x41 1 false)]) 124) (pL)))))
   ·refine zN (mkE (s_0.append (s_4.append (s_1.append [(97,B false)]))) o_0 124) (gF (.tmp 97) (gD 26 14 (rg Tryz.f92 26) [0,1,2,3,4,5,6,7,8,9,10,11,12,13,14,15] (dg 3 d_0 (dv 111 (mkE (s_7.append (s_0.append (s_4.append (s_1.append [(97,B false)])))) o_0 124) (addrOE 22 3 1 64 0 false I .i64 z1.1 z1.2.2) (fun x42=>?_)))))
    refine dv 112 (mkE ((111,.oa 64 0 x42 0)::(s_7.append (s_0.append (s_4.append (s_1.append [(97,B false)]))))) o_0 124) (loadOE 3 64 0 x42 0 3 1 1 false false I (fun q:Int=>I q) z1.1) (fun x43=>?_)
    refine dg 8 (d_0.append ((some 111,qe (.oa 64 0 x42 0))::((some 112,qe (I x43))::d_1))) (dv 116 (mkE (s_2.append (s_0.append (s_4.append (s_1.append [(97,B false)])))) o_0 124) (addrOE 22 3 1 64 0 false I .i64 z1.1 (addI .i64 z1.2.2 1)) (fun x44=>?_))
    refine dv 117 (mkE ((116,.oa 64 0 x44 0)::(s_2.append (s_0.append (s_4.append (s_1.append [(97,B false)]))))) o_0 124) (loadOE 3 64 0 x44 0 3 1 1 false false I (fun q:Int=>I q) z1.1) (fun x45=>?_)
    refine dg 14 (d_0.append ((some 111,qe (.oa 64 0 x42 0))::((some 112,qe (I x43))::(d_1.append ((some 116,qe (.oa 64 0 x44 0))::((some 117,qe (I x45))::((some 118,qe (.agg [I x43,I x45]))::((some 119,qe (S (ByteArray.mk #[])))::((some 120,qe (.agg [I x43,I x45,S (ByteArray.mk #[])]))::[(some 121,{ e:={ val:= .own 968 0,news:=[(968,RR 114 3 a113 ([(S113.mk (S57.mk x43 x45) (ByteArray.mk #[]))]:List S113) 0 false)] } })]))))))))) (de (mkE ((121,.own 968 0)::((120,.agg [I x43,I x45,S (ByteArray.mk #[])])::((119,S (ByteArray.mk #[]))::((118,.agg [I x43,I x45])::((117,I x45)::((116,.oa 64 0 x44 0)::(s_2.append ((112,I x43)::((111,.oa 64 0 x42 0)::(s_7.append ((108,.own 104 0)::(s_0.append (s_4.append (s_1.append [(97,B false)])))))))))))))) ((968,RR 114 3 a113 ([(S113.mk (S57.mk x43 x45) (ByteArray.mk #[]))]:List S113) 0 false)::o_0) 124) (mo (some 122) (apO 106 114 3 32 104 a113 0 [968] (y:= .own 968 0) (l2:=([(S113.mk (S57.mk x43 x45) (ByteArray.mk #[]))]:List S113))) (fun x46=>?_)))
    exact se (mkE (s_5.append [(14,I z1.2.2)]) (o_1.append [(104,RR 114 3 a113 x46 1 false)]) 124) (pB (zP (gR 18 (rg Tryz.f92 18) (se (mkE (s_5.append [(14,I (addI .i64 z1.2.2 1))]) (o_1.append [(104,RR 114 3 a113 x46 1 false)]) 124) (pL)))))
 ·exact gX 4 (pL)
noncomputable def T92(p0:(List S46))(p1:S32)(p2:S57):Option (List S113):=((T33 p0).bind fun x1=>((iter (L92_4 p0 p1 p2 x1) (([p2.f0,p2.f1]:List Int),0)).bind fun y7=>((sortIO y7.2.2).bind fun x8=>((compIO x8).bind fun x9=>((iter (L92_17 p0 p1 x1) (x9,[],0)).bind fun y47=>(some y47.2.2.2))))))
abbrev H95(C:Callee):Prop:=∀(p0:(List Int)),C 95 [.fr 3 1 (List.map I p0)]=(sortIO p0).map (fun(r:(List Int))=>AV.inp (.tup []) (.fr 3 1 (List.map I r)))
abbrev H96(C:Callee):Prop:=∀(p0:(List Int)),C 96 [.fr 3 1 (List.map I p0)]=(compIO p0).map (fun l=>AV.fr 3 1 (List.map I l))
theorem B92(C:Callee)(h142:H142 C)(h33:∀(p0:(List S46)),C 33 [LL a46 p0]=(T33 p0).map (fun l=>AV.fr 3 1 (List.map I l)))(h95:H95 C)(h96:H96 C)(p0:(List S46))(p1:S32)(p2:S57):rB C 92 Tryz.f92 (frame0 [LL a46 p0,a32 p1,a57 p2] 124 false) ((T92 p0 p1 p2).map (fun l=>AV.fr 114 3 (List.map a113 l))):=by
 unfold T92
 let s_0:List (Nat×AV):=[(0,LL a46 p0),(4,.ba 32 0)]
 let o_0:List (Nat×AObj):=[(32,.box [S p1.f0,I p1.f1,I p1.f2] false),(40,.box [I p2.f0,I p2.f1] false)]
 let o_1:List (Nat×AObj):=[(32,.box [S p1.f0,I p1.f1,I p1.f2] false)]
 refine zS 1 0 (mkE (s_0.append [(5,.ba 40 0)]) o_0 124) (zR 2 1 (sg 1 (mkE ((18,LL a46 p0)::(s_0.append [(5,.ba 40 0)])) o_0 124) (co 19 [] (h33 p0) (fun x1=>?_))))
 refine zN (mkE (s_0.append ((5,.ba 40 0)::[(7,.own 152 0)])) (o_0.append [(152,RR 3 1 I x1 0 false)]) 124) (zS 3 2 (mkE (s_0.append ((5,.ba 40 0)::((7,.own 152 0)::[(8,.own 192 0)]))) (o_0.append ((152,RR 3 1 I x1 0 false)::[(192,RR 3 1 I ([p2.f0,p2.f1]:List Int) 0 false)])) 124) (gS 13 (zR 4 3 (sg 1 (mkE ((25,LL a46 p0)::(s_0.append ((5,.ba 40 0)::((7,.own 152 0)::[(8,.own 192 0)])))) (o_0.append ((152,RR 3 1 I x1 0 false)::[(192,RR 3 1 I ([p2.f0,p2.f1]:List Int) 0 false)])) 124) (eo 26 (I (lenL p0)) (lenE 26 a46 p0) (zN (mkE (s_0.append ((5,.ba 40 0)::((7,.own 152 0)::((8,.own 192 0)::((25,LL a46 p0)::((26,I (lenL p0))::[(27,I 0)])))))) (o_0.append ((152,RR 3 1 I x1 0 false)::[(192,RR 3 1 I ([p2.f0,p2.f1]:List Int) 0 false)])) 124) (gB 0 (lo [(0,none),(4,none),(5,none),(7,none),(8,some (3,1)),(25,none),(26,none),(27,none)] [] (L92_4 p0 p1 p2 x1) (fun z0:((List Int)×Int)=>(mkE (s_0.append ((5,.ba 40 0)::((7,LL I x1)::((8,.own 64 0)::((25,LL a46 p0)::((26,I (lenL p0))::[(27,I z0.2)])))))) (o_0.append [(64,RR 3 1 I z0.1 0 false)]) 124)) (fun(x:(Int×Bool×(List Int)))=>(.exit 0,(mkE (s_0.append ((5,.ba 40 0)::((7,LL I x1)::((8,.own 64 0)::((25,LL a46 p0)::((26,I (lenL p0))::((27,I x.1)::[(28,B x.2.1)]))))))) (o_0.append [(64,RR 3 1 I x.2.2 0 false)]) 124))) (([p2.f0,p2.f1]:List Int),0) (fun z=>L92_4_ok C p0 p1 p2 x1 z) ?_))))))))
 intro y7
 refine pH (zP (zR 14 13 (sg 1 (mkE ((58,.own 64 0)::(s_0.append ((5,.ba 40 0)::((7,LL I x1)::((8,.own 64 0)::((25,LL a46 p0)::((26,I (lenL p0))::((27,I y7.1)::[(28,B y7.2.1)])))))))) (o_0.append [(64,RR 3 1 I y7.2.2 0 false)]) 124) (mo (some 59) (ipR 95 3 1 64 0 I y7.2.2 [] [] [] (fun x:(List Int)=> .tup []) (fun x:(List Int)=>x) (h95 y7.2.2)) (fun x8=>?_)))))
 refine zN (mkE (s_0.append ((7,LL I x1)::[(8,.own 64 0)])) (o_1.append [(64,RR 3 1 I x8 0 false)]) 124) (zR 15 14 (sg 1 (mkE ((60,.own 64 0)::(s_0.append ((7,LL I x1)::[(8,.own 64 0)]))) (o_1.append [(64,RR 3 1 I x8 0 false)]) 124) (mo (some 61) (gvO 96 3 1 64 0 I x8 [] [] [] (h96 x8)) (fun x9=>?_))))
 refine zN (mkE (s_0.append ((7,LL I x1)::[(8,.own 64 1)])) (o_1.append [(64,RR 3 1 I x9 1 false)]) 124) (zS 16 15 (mkE (s_0.append ((7,LL I x1)::((8,.own 64 1)::[(13,.nils)]))) (o_1.append [(64,RR 3 1 I x9 1 false)]) 124) (gS 27 (zS 17 16 (mkE (s_0.append ((7,LL I x1)::((8,.own 64 1)::((13,.nils)::[(14,I 0)])))) (o_1.append [(64,RR 3 1 I x9 1 false)]) 124) (gB 4 (lo [(0,none),(4,none),(7,none),(8,some (3,1)),(13,some (114,3)),(14,none)] [] (L92_17 p0 p1 x1) (fun z1:((List Int)×(List S113)×Int)=>(mkE (s_0.append ((7,LL I x1)::((8,.own 64 0)::((13,.own 104 0)::[(14,I z1.2.2)])))) (o_1.append ((64,RR 3 1 I z1.1 0 false)::[(104,RR 114 3 a113 z1.2.1 0 false)])) 124)) (fun(x:(Int×Bool×(List Int)×(List S113)))=>(.exit 4,(mkE (s_0.append ((7,LL I x1)::((8,.own 64 0)::((13,.own 104 0)::((14,I x.1)::[(66,B x.2.1)]))))) (o_1.append ((64,RR 3 1 I x.2.2.1 0 false)::[(104,RR 114 3 a113 x.2.2.2 0 false)])) 124))) (x9,[],0) (fun z=>L92_17_ok C h142 p0 p1 x1 z) ?_)))))
 intro y47
 exact pH (zP (zF 0 27 (mkE [(6,.own 104 0)] [(104,RR 114 3 a113 y47.2.2.2 0 false)] 124)))
theorem F92(m:Nat)(hm:8≤m)(p0:(List S46))(p1:S32)(p2:S57):callA Tryz.prog cfg m 92 [LL a46 p0,a32 p1,a57 p2]=(T92 p0 p1 p2).map (fun l=>AV.fr 114 3 (List.map a113 l)):=by
 obtain⟨q,rfl⟩:=sucK hm
 exact(callA_body (fn:=Tryz.f92) (c:=body_ Tryz.f92) q _ (by kernel_rfl) (by kernel_rfl) (by kernel_rfl)).trans (B92 _ (fun p0 p1 p2 p3=>F142 q (by omega) p0 p1 p2 p3) (fun p0=>F33 q (by omega) p0) (fun p0=>F95 q (by omega) p0) (fun p0=>F96 q (by omega) p0) p0 p1 p2)
noncomputable def T56(p0:(List S46))(p1:S32)(p2:S57):Option ((List S113)×Int):=((T39 p0 ([p1]:List S32)).bind fun x1=>(bif (neI x1 0)then(some ([],x1))else((T30 p2.f0 0 p2.f1).bind fun x2=>(bif x2 then(some ([],1))else(bif (ltI 345686400000 p2.f1)then(some ([],1))else((T92 p0 p1 p2).bind fun x3=>(some (x3,0))))))))
theorem B56(C:Callee)(h30:H30 C)(h39:∀(p0:(List S46))(p1:(List S32)),C 39 [LL a46 p0,LL a32 p1]=(T39 p0 p1).map I)(h92:∀(p0:(List S46))(p1:S32)(p2:S57),C 92 [LL a46 p0,a32 p1,a57 p2]=(T92 p0 p1 p2).map (fun l=>AV.fr 114 3 (List.map a113 l)))(p0:(List S46))(p1:S32)(p2:S57):rB C 56 Tryz.f56 (frame0 [LL a46 p0,a32 p1,a57 p2] 30 false) ((T56 p0 p1 p2).map (fun r=>AV.tup [(fun l=>AV.fr 114 3 (List.map a113 l)) r.1,I r.2])):=by
 unfold T56
 let s_0:List (Nat×AV):=[(0,LL a46 p0),(4,.ba 32 0),(5,.ba 40 0)]
 let o_0:List (Nat×AObj):=[(32,.box [S p1.f0,I p1.f1,I p1.f2] false),(40,.box [I p2.f0,I p2.f1] false)]
 refine zS 1 0 (mkE s_0 o_0 30) (gS 4 (zR 2 1 (sg 3 (mkE ((11,.own 88 0)::((10,a32 p1)::((9,LL a46 p0)::s_0))) ((88,RR 33 3 a32 ([p1]:List S32) 0 false)::o_0) 30) (co 12 [88] (h39 p0 ([p1]:List S32)) (fun x1=>?_)))))
 refine zN (mkE (s_0.append [(8,I x1)]) o_0 30) (zS 0 2 (mkE (s_0.append ((8,I x1)::[(14,B (neI x1 0))])) o_0 30) (gC 14 (neI x1 0) ?_ ?_))
 ·exact zF 0 3 (mkE [(6,.nils),(7,I x1)] [] 30)
 ·refine gK (zP (gS 6 (zR 0 4 (sg 4 (mkE ((19,I p2.f1)::((18,.ba 40 1)::((17,I p2.f0)::((16,.ba 40 0)::(s_0.append ((8,I x1)::[(14,B (neI x1 0))])))))) o_0 30) (co 20 [] (h30 p2.f0 0 p2.f1) (fun x2=>?_))))))
  refine sg 6 (mkE ((21,B x2)::((20,B x2)::((19,I p2.f1)::((18,.ba 40 1)::((17,I p2.f0)::((16,.ba 40 0)::(s_0.append ((8,I x1)::[(14,B (neI x1 0))])))))))) o_0 30) (sb 21 x2 ?_ ?_)
  ·exact zN (mkE (s_0.append [(25,B true)]) o_0 30) (gT (.tmp 25) (zF 0 5 (mkE [(6,.nils),(7,I 1)] [] 30)))
  ·refine zN (mkE (s_0.append [(25,B (ltI 345686400000 p2.f1))]) o_0 30) (gC 25 (ltI 345686400000 p2.f1) ?_ ?_)
   ·exact zF 0 5 (mkE [(6,.nils),(7,I 1)] [] 30)
   ·refine gK (zP (zR 0 6 (sg 3 (mkE ((28,a57 p2)::((27,a32 p1)::((26,LL a46 p0)::(s_0.append [(25,B (ltI 345686400000 p2.f1))])))) o_0 30) (co 29 [] (h92 p0 p1 p2) (fun x3=>?_)))))
    exact zE (mkE [(6,.own 232 0),(7,I 0)] [(232,RR 114 3 a113 x3 0 false)] 30)
theorem F56(m:Nat)(hm:9≤m)(p0:(List S46))(p1:S32)(p2:S57):callA Tryz.prog cfg m 56 [LL a46 p0,a32 p1,a57 p2]=(T56 p0 p1 p2).map (fun r=>AV.tup [(fun l=>AV.fr 114 3 (List.map a113 l)) r.1,I r.2]):=by
 obtain⟨q,rfl⟩:=sucK hm
 exact(callA_body (fn:=Tryz.f56) (c:=body_ Tryz.f56) q _ (by kernel_rfl) (by kernel_rfl) (by kernel_rfl)).trans (B56 _ (fun p0 p1 p2=>F30 q (by omega) p0 p1 p2) (fun p0 p1=>F39 q (by omega) p0 p1) (fun p0 p1 p2=>F92 q (by omega) p0 p1 p2) p0 p1 p2)
noncomputable def T94(p0:Int)(p1:Int)(p2:Int):Option Bool:=(bif (leI p1 p0)then(some (leI p0 p2))else(some false))
theorem B94(C:Callee)(p0:Int)(p1:Int)(p2:Int):rB C 94 Tryz.f94 (frame0 [I p0,I p1,I p2] 15 false) ((T94 p0 p1 p2).map B):=by
 unfold T94
 refine zS 1 0 (mkE [(0,I p0),(1,I p1),(2,I p2)] [] 15) (zR 0 1 (sg 4 (mkE [(10,B (leI p1 p0)),(9,B (leI p1 p0)),(8,I p0),(7,I p1),(0,I p0),(1,I p1),(2,I p2)] [] 15) (sb 10 (leI p1 p0) ?_ ?_)))
 ·exact zE (mkE [(6,B (leI p0 p2))] [] 15)
 ·exact zE (mkE [(6,B false)] [] 15)
theorem F94(m:Nat)(hm:1≤m)(p0:Int)(p1:Int)(p2:Int):callA Tryz.prog cfg m 94 [I p0,I p1,I p2]=(T94 p0 p1 p2).map B:=by
 obtain⟨q,rfl⟩:=sucK hm
 exact(callA_bodyQ (fn:=Tryz.f94) (c:=body_ Tryz.f94) q _ (by kernel_rfl) (by kernel_rfl) (by kernel_rfl)).trans (B94 _ p0 p1 p2)
theorem F200(m:Nat)(hm:1≤m)(p0:ByteArray)(p1:Int):callA Tryz.prog cfg m 200 [S p0,U p1]=(some (idxB p0 p1)).map I:=by
 obtain⟨q,rfl⟩:=sucK hm
 exact(callA_leaf (L:=leafIdx) _ _ (by kernel_rfl)).trans (rfl)
noncomputable def T171(p0:ByteArray)(p1:Int):Option Int:=((some (idxB p0 p1)).bind fun x1=>(some x1))
theorem B171(C:Callee)(h200:∀(p0:ByteArray)(p1:Int),C 200 [S p0,U p1]=(some (idxB p0 p1)).map I)(p0:ByteArray)(p1:Int):rB C 171 Tryz.f171 (frame0 [S p0,U p1] 8 false) ((T171 p0 p1).map I):=by
 unfold T171
 refine zS 1 0 (mkE [(0,S p0),(1,U p1)] [] 8) (zR 0 1 (sg 2 (mkE [(6,U p1),(5,S p0),(0,S p0),(1,U p1)] [] 8) (co 7 [] (h200 p0 p1) (fun x1=>?_))))
 exact zE (mkE [(4,I x1)] [] 8)
theorem F171(m:Nat)(hm:2≤m)(p0:ByteArray)(p1:Int):callA Tryz.prog cfg m 171 [S p0,U p1]=(T171 p0 p1).map I:=by
 obtain⟨q,rfl⟩:=sucK hm
 exact(callA_body (fn:=Tryz.f171) (c:=body_ Tryz.f171) q _ (by kernel_rfl) (by kernel_rfl) (by kernel_rfl)).trans (B171 _ (fun p0 p1=>F200 q (by omega) p0 p1) p0 p1)
noncomputable def L143_2(p0:ByteArray)(p1:ByteArray)(z0:Int):Option (Int⊕((Int×Bool)⊕Unit)):=(bif (ltI z0 (lenS p0))then((byteAt p0 z0).bind fun x1=>((T171 p1 x1).bind fun x2=>(bif (ltI x2 0)then(some (.inr (.inr ())))else(some (.inl (addI .i64 z0 1))))))else(some (.inr (.inl (z0,(ltI z0 (lenS p0)))))))
abbrev H171(C:Callee):Prop:=∀(p0:ByteArray)(p1:Int),C 171 [S p0,U p1]=(T171 p0 p1).map I
theorem L143_2_ok(C:Callee)(h171:H171 C)(p0:ByteArray)(p1:ByteArray)(z0:Int):rL C 143 Tryz.f143 2 [false,false,true,false,true] (fun z0:Int=>(mkE [(0,S p0),(1,S p1),(7,I (lenS p0)),(8,I z0)] [] 18)) (Sum.elim (fun(x:(Int×Bool))=>(.exit 0,(mkE [(0,S p0),(1,S p1),(7,I (lenS p0)),(8,I x.1),(9,B x.2)] [] 18))) (fun(x:Unit)=>(.ret,(mkE [(4,B false)] [] 18)))) (L143_2 p0 p1 z0) z0:=by
 unfold L143_2
 refine zS 0 2 (mkE [(0,S p0),(1,S p1),(7,I (lenS p0)),(8,I z0),(9,B (ltI z0 (lenS p0)))] [] 18) (gS 3 (gC 9 (ltI z0 (lenS p0)) ?_ ?_))
 ·refine gK (zP (gS 6 (gB 1 (zS 4 3 (mkE [(0,S p0),(1,S p1),(5,I z0),(7,I (lenS p0)),(8,I z0)] [] 18) (zR 0 4 (sg 3 (mkE [(13,I z0),(12,S p0),(11,S p1),(0,S p0),(1,S p1),(5,I z0),(7,I (lenS p0)),(8,I z0)] [] 18) (vo 14 (byteE 9 .i64 p0 z0) (fun x1=>?_))))))))
  refine co 15 [] (h171 p1 x1) (fun x2=>?_)
  refine zN (mkE [(0,S p0),(1,S p1),(7,I (lenS p0)),(8,I z0),(16,B (ltI x2 0))] [] 18) (gC 16 (ltI x2 0) ?_ ?_)
  ·exact zF 0 5 (mkE [(4,B false)] [] 18)
  ·exact gK (pB (zP (gR 6 (rg Tryz.f143 6) (se (mkE [(0,S p0),(1,S p1),(7,I (lenS p0)),(8,I (addI .i64 z0 1))] [] 18) (pL)))))
 ·exact gX 0 (pL)
noncomputable def T143(p0:ByteArray)(p1:ByteArray):Option Bool:=((iter (L143_2 p0 p1) 0).bind fun y3=>(Sum.elim (fun y3a=>(some true)) (fun y3b=>(some false)) y3))
theorem B143(C:Callee)(h171:H171 C)(p0:ByteArray)(p1:ByteArray):rB C 143 Tryz.f143 (frame0 [S p0,S p1] 18 false) ((T143 p0 p1).map B):=by
 unfold T143
 refine zS 1 0 (mkE [(0,S p0),(1,S p1)] [] 18) (gS 7 (zS 2 1 (mkE [(0,S p0),(1,S p1),(7,I (lenS p0)),(8,I 0)] [] 18) (gB 0 (lo [(0,none),(1,none),(7,none),(8,none)] [] (L143_2 p0 p1) (fun z0:Int=>(mkE [(0,S p0),(1,S p1),(7,I (lenS p0)),(8,I z0)] [] 18)) (Sum.elim (fun(x:(Int×Bool))=>(.exit 0,(mkE [(0,S p0),(1,S p1),(7,I (lenS p0)),(8,I x.1),(9,B x.2)] [] 18))) (fun(x:Unit)=>(.ret,(mkE [(4,B false)] [] 18)))) 0 (fun z=>L143_2_ok C h171 p0 p1 z) ?_))))
 intro y3
 refine ss y3 (Z:=(Sum.elim (fun(x:(Int×Bool))=>(.exit 0,(mkE [(0,S p0),(1,S p1),(7,I (lenS p0)),(8,I x.1),(9,B x.2)] [] 18))) (fun(x:Unit)=>(.ret,(mkE [(4,B false)] [] 18))))) (fun y3a=>?_) (fun y3b=>?_)
 ·exact pH (zP (zF 0 7 (mkE [(4,B true)] [] 18)))
 ·exact pL
theorem F143(m:Nat)(hm:3≤m)(p0:ByteArray)(p1:ByteArray):callA Tryz.prog cfg m 143 [S p0,S p1]=(T143 p0 p1).map B:=by
 obtain⟨q,rfl⟩:=sucK hm
 exact(callA_body (fn:=Tryz.f143) (c:=body_ Tryz.f143) q _ (by kernel_rfl) (by kernel_rfl) (by kernel_rfl)).trans (B143 _ (fun p0 p1=>F171 q (by omega) p0 p1) p0 p1)
noncomputable def T93(p0:ByteArray):Option Bool:=((T94 (lenS p0) 1 40).bind fun x1=>(bif x1 then((cutS p0 none (some 1)).bind fun x2=>((T143 x2 (ByteArray.mk #[97,98,99,100,101,102,103,104,105,106,107,108,109,110,111,112,113,114,115,116,117,118,119,120,121,122])).bind fun x3=>(bif x3 then((T143 p0 (ByteArray.mk #[97,98,99,100,101,102,103,104,105,106,107,108,109,110,111,112,113,114,115,116,117,118,119,120,121,122,48,49,50,51,52,53,54,55,56,57,45,95])).bind fun x4=>(some x4))else(some false))))else(some false)))
abbrev H94(C:Callee):Prop:=∀(p0:Int)(p1:Int)(p2:Int),C 94 [I p0,I p1,I p2]=(T94 p0 p1 p2).map B
theorem B93(C:Callee)(h143:∀(p0:ByteArray)(p1:ByteArray),C 143 [S p0,S p1]=(T143 p0 p1).map B)(h94:H94 C)(p0:ByteArray):rB C 93 Tryz.f93 (frame0 [S p0] 15 false) ((T93 p0).map B):=by
 unfold T93
 let s_0:List (Nat×AV):=[(4,I (lenS p0)),(3,S p0),(0,S p0)]
 refine zS 1 0 (mkE [(0,S p0)] [] 15) (zR 0 1 (sg 2 (mkE s_0 [] 15) (co 5 [] (h94 (lenS p0) 1 40) (fun x1=>?_))))
 refine sg 4 (mkE ((6,B x1)::((5,B x1)::s_0)) [] 15) (sb 6 x1 ?_ ?_)
 ·refine sg 5 (mkE ((7,S p0)::((6,B true)::((6,B x1)::((5,B x1)::s_0)))) [] 15) (vo 8 (cutSE 9 .i64 .i64 p0 none (some 1)) (fun x2=>?_))
  refine co 9 [] (h143 x2 (ByteArray.mk #[97,98,99,100,101,102,103,104,105,106,107,108,109,110,111,112,113,114,115,116,117,118,119,120,121,122])) (fun x3=>?_)
  refine sg 9 (mkE ((11,B x3)::((10,B x3)::((9,B x3)::((8,S x2)::((7,S p0)::((6,B true)::((6,B x1)::((5,B x1)::s_0)))))))) [] 15) (sb 11 x3 ?_ ?_)
  ·refine sg 10 (mkE ((12,S p0)::((11,B true)::((11,B x3)::((10,B x3)::((9,B x3)::((8,S x2)::((7,S p0)::((6,B true)::((6,B x1)::((5,B x1)::s_0)))))))))) [] 15) (co 13 [] (h143 p0 (ByteArray.mk #[97,98,99,100,101,102,103,104,105,106,107,108,109,110,111,112,113,114,115,116,117,118,119,120,121,122,48,49,50,51,52,53,54,55,56,57,45,95])) (fun x4=>?_))
   exact zE (mkE [(2,B x4)] [] 15)
  ·exact zE (mkE [(2,B false)] [] 15)
 ·exact zE (mkE [(2,B false)] [] 15)
theorem F93(m:Nat)(hm:4≤m)(p0:ByteArray):callA Tryz.prog cfg m 93 [S p0]=(T93 p0).map B:=by
 obtain⟨q,rfl⟩:=sucK hm
 exact(callA_body (fn:=Tryz.f93) (c:=body_ Tryz.f93) q _ (by kernel_rfl) (by kernel_rfl) (by kernel_rfl)).trans (B93 _ (fun p0 p1=>F143 q (by omega) p0 p1) (fun p0 p1 p2=>F94 q (by omega) p0 p1 p2) p0)
noncomputable def T136(p0:Int):Option Bool:=((T94 p0 0 345686399999).bind fun x1=>(some x1))
theorem B136(C:Callee)(h94:H94 C)(p0:Int):rB C 136 Tryz.f136 (frame0 [I p0] 5 false) ((T136 p0).map B):=by
 unfold T136
 refine zS 1 0 (mkE [(0,I p0)] [] 5) (zR 0 1 (sg 1 (mkE [(3,I p0),(0,I p0)] [] 5) (co 4 [] (h94 p0 0 345686399999) (fun x1=>?_))))
 exact zE (mkE [(2,B x1)] [] 5)
theorem F136(m:Nat)(hm:2≤m)(p0:Int):callA Tryz.prog cfg m 136 [I p0]=(T136 p0).map B:=by
 obtain⟨q,rfl⟩:=sucK hm
 exact(callA_body (fn:=Tryz.f136) (c:=body_ Tryz.f136) q _ (by kernel_rfl) (by kernel_rfl) (by kernel_rfl)).trans (B136 _ (fun p0 p1 p2=>F94 q (by omega) p0 p1 p2) p0)
noncomputable def T137(p0:S64):Option Int:=((T94 p0.f0 (-100000) 100000).bind fun x1=>(bif (!x1)then(some 1)else((T94 p0.f1 (-100000) 100000).bind fun x2=>(bif (!x2)then(some 1)else((T94 p0.f2 1 (subI .i64 100000 p0.f0)).bind fun x3=>(bif (!x3)then(some 1)else((T94 p0.f3 1 (subI .i64 100000 p0.f1)).bind fun x4=>(bif (!x4)then(some 1)else(some 0)))))))))
theorem B137(C:Callee)(h94:H94 C)(p0:S64):rB C 137 Tryz.f137 (frame0 [a64 p0] 31 false) ((T137 p0).map I):=by
 unfold T137
 let s_0:List (Nat×AV):=[(18,I (subI .i64 100000 p0.f0)),(17,I p0.f0),(16,.ba 8 0),(15,I p0.f2),(14,.ba 8 2),(13,B false)]
 let s_1:List (Nat×AV):=[(4,I p0.f0),(3,.ba 8 0),(1,.ba 8 0)]
 let s_2:List (Nat×AV):=[(9,I p0.f1),(8,.ba 8 1),(7,B false)]
 let o_0:List (Nat×AObj):=[(8,.box [I p0.f0,I p0.f1,I p0.f2,I p0.f3] false)]
 refine zS 1 0 (mkE [(1,.ba 8 0)] o_0 31) (gS 3 (zR 0 1 (sg 2 (mkE s_1 o_0 31) (co 5 [] (h94 p0.f0 (-100000) 100000) (fun x1=>?_)))))
 refine sg 5 (mkE ((7,B (!x1))::((6,B (!x1))::((5,B x1)::s_1))) o_0 31) (sb 7 (!x1) ?_ ?_)
 ·exact zN (mkE [(30,B true)] [] 31) (gT (.tmp 30) (zF 0 2 (mkE [(2,I 1)] [] 31)))
 ·refine sg 7 (mkE (s_2.append ((7,B (!x1))::((6,B (!x1))::((5,B x1)::s_1)))) o_0 31) (co 10 [] (h94 p0.f1 (-100000) 100000) (fun x2=>?_))
  refine sg 11 (mkE ((13,B (!x2))::((12,B (!x2))::((11,B (!x2))::((10,B x2)::(s_2.append ((7,B (!x1))::((6,B (!x1))::((5,B x1)::s_1)))))))) o_0 31) (sb 13 (!x2) ?_ ?_)
  ·exact zN (mkE [(30,B true)] [] 31) (gT (.tmp 30) (zF 0 2 (mkE [(2,I 1)] [] 31)))
  ·refine sg 16 (mkE (s_0.append ((13,B (!x2))::((12,B (!x2))::((11,B (!x2))::((10,B x2)::(s_2.append ((7,B (!x1))::((6,B (!x1))::((5,B x1)::s_1))))))))) o_0 31) (co 19 [] (h94 p0.f2 1 (subI .i64 100000 p0.f0)) (fun x3=>?_))
   refine sg 20 (mkE ((22,B (!x3))::((21,B (!x3))::((20,B (!x3))::((19,B x3)::(s_0.append ((13,B (!x2))::((12,B (!x2))::((11,B (!x2))::((10,B x2)::(s_2.append ((7,B (!x1))::((6,B (!x1))::((5,B x1)::s_1))))))))))))) o_0 31) (sb 22 (!x3) ?_ ?_)
   ·exact zN (mkE [(30,B true)] [] 31) (gT (.tmp 30) (zF 0 2 (mkE [(2,I 1)] [] 31)))
   ·refine sg 25 (mkE ((27,I (subI .i64 100000 p0.f1))::((26,I p0.f1)::((25,.ba 8 1)::((24,I p0.f3)::((23,.ba 8 3)::((22,B false)::((22,B (!x3))::((21,B (!x3))::((20,B (!x3))::((19,B x3)::(s_0.append ((13,B (!x2))::((12,B (!x2))::((11,B (!x2))::((10,B x2)::(s_2.append ((7,B (!x1))::((6,B (!x1))::((5,B x1)::s_1))))))))))))))))))) o_0 31) (co 28 [] (h94 p0.f3 1 (subI .i64 100000 p0.f1)) (fun x4=>?_))
    refine zN (mkE [(30,B (!x4))] [] 31) (gC 30 (!x4) ?_ ?_)
    ·exact zF 0 2 (mkE [(2,I 1)] [] 31)
    ·exact gK (zP (zF 0 3 (mkE [(2,I 0)] [] 31)))
theorem F137(m:Nat)(hm:2≤m)(p0:S64):callA Tryz.prog cfg m 137 [a64 p0]=(T137 p0).map I:=by
 obtain⟨q,rfl⟩:=sucK hm
 exact(callA_body (fn:=Tryz.f137) (c:=body_ Tryz.f137) q _ (by kernel_rfl) (by kernel_rfl) (by kernel_rfl)).trans (B137 _ (fun p0 p1 p2=>F94 q (by omega) p0 p1 p2) p0)
noncomputable def T166(p0:Int):Option Bool:=(bif (ltI p0 32)then(some true)else(some (eqI p0 127)))
theorem B166(C:Callee)(p0:Int):rB C 166 Tryz.f166 (frame0 [.int .i32 p0] 9 false) ((T166 p0).map B):=by
 unfold T166
 refine zS 1 0 (mkE [(0,.int .i32 p0)] [] 9) (zR 0 1 (sg 3 (mkE [(5,B (ltI p0 32)),(4,B (ltI p0 32)),(3,.int .i32 p0),(0,.int .i32 p0)] [] 9) (sb 5 (ltI p0 32) ?_ ?_)))
 ·exact zE (mkE [(2,B true)] [] 9)
 ·exact zE (mkE [(2,B (eqI p0 127))] [] 9)
theorem F166(m:Nat)(hm:1≤m)(p0:Int):callA Tryz.prog cfg m 166 [.int .i32 p0]=(T166 p0).map B:=by
 obtain⟨q,rfl⟩:=sucK hm
 exact(callA_body (fn:=Tryz.f166) (c:=body_ Tryz.f166) q _ (by kernel_rfl) (by kernel_rfl) (by kernel_rfl)).trans (B166 _ p0)
theorem F165(m:Nat)(hm:2≤m)(p0:ByteArray):callA Tryz.prog cfg m 165 [S p0,.fn 166 []]=(hasO T166 p0).map B:=by
 obtain⟨q,rfl⟩:=sucK hm
 exact(callA_leaf (L:=(leafHas Tryz.prog)) _ _ (by kernel_rfl)).trans (has_leaf 166 T166 _ p0 (fun x=>F166 q (by omega) x) (by kernel_rfl))
noncomputable def T138(p0:ByteArray):Option Bool:=((validO p0).bind fun x1=>(bif x1 then((hasO T166 p0).bind fun x2=>(bif (!x2)then((T167 p0 (ByteArray.mk #[32])).bind fun x3=>(bif (eqS x3 p0)then((contO p0 (ByteArray.mk #[32,32])).bind fun x4=>(some (!x4)))else(some false)))else(some false)))else(some false)))
theorem B138(C:Callee)(h164:H164 C)(h165:∀(p0:ByteArray),C 165 [S p0,.fn 166 []]=(hasO T166 p0).map B)(h167:H167 C)(h168:H168 C)(p0:ByteArray):rB C 138 Tryz.f138 (frame0 [S p0] 21 false) ((T138 p0).map B):=by
 unfold T138
 refine zS 1 0 (mkE [(0,S p0)] [] 21) (zR 0 1 (sg 1 (mkE [(3,S p0),(0,S p0)] [] 21) (co 4 [] (h164 p0) (fun x1=>?_))))
 refine sg 3 (mkE [(5,B x1),(4,B x1),(3,S p0),(0,S p0)] [] 21) (sb 5 x1 ?_ ?_)
 ·refine sg 4 (mkE [(6,S p0),(5,B true),(5,B x1),(4,B x1),(3,S p0),(0,S p0)] [] 21) (co 7 [] (h165 p0) (fun x2=>?_))
  refine sg 8 (mkE [(10,B (!x2)),(9,B (!x2)),(8,B (!x2)),(7,B x2),(6,S p0),(5,B true),(5,B x1),(4,B x1),(3,S p0),(0,S p0)] [] 21) (sb 10 (!x2) ?_ ?_)
  ·refine sg 9 (mkE [(11,S p0),(10,B true),(10,B (!x2)),(9,B (!x2)),(8,B (!x2)),(7,B x2),(6,S p0),(5,B true),(5,B x1),(4,B x1),(3,S p0),(0,S p0)] [] 21) (co 12 [] (h167 p0 (ByteArray.mk #[32])) (fun x3=>?_))
   refine sg 14 (mkE [(16,B (eqS x3 p0)),(15,B (eqS x3 p0)),(14,B (eqS x3 p0)),(13,S p0),(12,S x3),(11,S p0),(10,B true),(10,B (!x2)),(9,B (!x2)),(8,B (!x2)),(7,B x2),(6,S p0),(5,B true),(5,B x1),(4,B x1),(3,S p0),(0,S p0)] [] 21) (sb 16 (eqS x3 p0) ?_ ?_)
   ·refine sg 15 (mkE [(17,S p0),(16,B true),(16,B (eqS x3 p0)),(15,B (eqS x3 p0)),(14,B (eqS x3 p0)),(13,S p0),(12,S x3),(11,S p0),(10,B true),(10,B (!x2)),(9,B (!x2)),(8,B (!x2)),(7,B x2),(6,S p0),(5,B true),(5,B x1),(4,B x1),(3,S p0),(0,S p0)] [] 21) (co 18 [] (h168 p0 (ByteArray.mk #[32,32])) (fun x4=>?_))
    exact zE (mkE [(2,B (!x4))] [] 21)
   ·exact zE (mkE [(2,B false)] [] 21)
  ·exact zE (mkE [(2,B false)] [] 21)
 ·exact zE (mkE [(2,B false)] [] 21)
theorem F138(m:Nat)(hm:3≤m)(p0:ByteArray):callA Tryz.prog cfg m 138 [S p0]=(T138 p0).map B:=by
 obtain⟨q,rfl⟩:=sucK hm
 exact(callA_body (fn:=Tryz.f138) (c:=body_ Tryz.f138) q _ (by kernel_rfl) (by kernel_rfl) (by kernel_rfl)).trans (B138 _ (fun p0=>F164 q (by omega) p0) (fun p0=>F165 q (by omega) p0) (fun p0 p1=>F167 q (by omega) p0 p1) (fun p0 p1=>F168 q (by omega) p0 p1) p0)
noncomputable def L85_8(p0:S46)(z0:Int):Option (Int⊕((Int×Bool)⊕Int)):=(bif (ltI z0 (lenL p0.f3))then((listAt p0.f3 z0).bind fun x4=>((T93 x4).bind fun x5=>(bif (!x5)then(some (.inr (.inr 5)))else(bif (ltI 0 z0)then((listAt p0.f3 (subI .i64 z0 1)).bind fun x6=>(bif (ltS x4 x6||eqS x4 x6)then(some (.inr (.inr 7)))else(bif (eqS x4 p0.f0)then(some (.inr (.inr 14)))else(some (.inl (addI .i64 z0 1))))))else(bif (eqS x4 p0.f0)then(some (.inr (.inr 14)))else(some (.inl (addI .i64 z0 1))))))))else(some (.inr (.inl (z0,(ltI z0 (lenL p0.f3)))))))
abbrev H93(C:Callee):Prop:=∀(p0:ByteArray),C 93 [S p0]=(T93 p0).map B
theorem L85_8_ok(C:Callee)(h93:H93 C)(p0:S46)(z0:Int):rL C 85 Tryz.f85 8 [false,false,true,false,true,true] (fun z0:Int=>(mkE [(1,.ba 8 0),(30,LL S p0.f3),(31,I (lenL p0.f3)),(32,I z0)] [(8,.box [S p0.f0,S p0.f1,I p0.f2,LL S p0.f3,I p0.f4,I p0.f5,I p0.f6,LL a64 p0.f7,S p0.f8] false)] 139)) (Sum.elim (fun(x:(Int×Bool))=>(.exit 1,(mkE [(1,.ba 8 0),(30,LL S p0.f3),(31,I (lenL p0.f3)),(32,I x.1),(33,B x.2)] [(8,.box [S p0.f0,S p0.f1,I p0.f2,LL S p0.f3,I p0.f4,I p0.f5,I p0.f6,LL a64 p0.f7,S p0.f8] false)] 139))) (fun(x:Int)=>(.ret,(mkE [(2,I x)] [] 139)))) (L85_8 p0 z0) z0:=by
 unfold L85_8
 let s_0:List (Nat×AV):=[(30,LL S p0.f3),(31,I (lenL p0.f3)),(32,I z0)]
 let o_0:List (Nat×AObj):=[(8,.box [S p0.f0,S p0.f1,I p0.f2,LL S p0.f3,I p0.f4,I p0.f5,I p0.f6,LL a64 p0.f7,S p0.f8] false)]
 refine zS 0 8 (mkE ((1,.ba 8 0)::(s_0.append [(33,B (ltI z0 (lenL p0.f3)))])) o_0 139) (gS 9 (gC 33 (ltI z0 (lenL p0.f3)) ?_ ?_))
 ·refine gK (zP (gS 16 (gB 2 (zR 10 9 (sg 1 (mkE ((34,I z0)::((1,.ba 8 0)::(s_0.append [(33,B (ltI z0 (lenL p0.f3)))]))) o_0 139) (vo 35 (addrE 34 9 1 S .i64 p0.f3 z0) (fun x4=>?_)))))))
  refine zN (mkE ((1,.ba 8 0)::((3,I z0)::((4,S x4)::s_0))) o_0 139) (gB 3 (zR 0 10 (sg 1 (mkE ((38,S x4)::((1,.ba 8 0)::((3,I z0)::((4,S x4)::s_0)))) o_0 139) (co 39 [] (h93 x4) (fun x5=>?_)))))
  refine zN (mkE ((1,.ba 8 0)::((3,I z0)::((4,S x4)::(s_0.append [(37,B (!x5))])))) o_0 139) (gC 37 (!x5) ?_ ?_)
  ·exact zF 0 11 (mkE [(2,I 5)] [] 139)
  ·refine zR 0 12 (sg 3 (mkE ((44,B (ltI 0 z0))::((43,B (ltI 0 z0))::((42,I z0)::((1,.ba 8 0)::((3,I z0)::((4,S x4)::(s_0.append [(37,B (!x5))]))))))) o_0 139) (sb 44 (ltI 0 z0) ?_ ?_))
   ·refine sg 8 (mkE ((49,I (subI .i64 z0 1))::((48,I z0)::((47,LL S p0.f3)::((46,.ba 8 3)::((45,S x4)::((44,B true)::((44,B (ltI 0 z0))::((43,B (ltI 0 z0))::((42,I z0)::((1,.ba 8 0)::((3,I z0)::((4,S x4)::(s_0.append [(37,B (!x5))]))))))))))))) o_0 139) (vo 50 (addrE 34 9 1 S .i64 p0.f3 (subI .i64 z0 1)) (fun x6=>?_))
    refine zN (mkE ((1,.ba 8 0)::((4,S x4)::(s_0.append [(41,B (ltS x4 x6||eqS x4 x6))]))) o_0 139) (gC 41 (ltS x4 x6||eqS x4 x6) ?_ ?_)
    ·exact zF 0 13 (mkE [(2,I 7)] [] 139)
    ·refine zS 0 14 (mkE ((1,.ba 8 0)::(s_0.append [(54,B (eqS x4 p0.f0))])) o_0 139) (gC 54 (eqS x4 p0.f0) ?_ ?_)
     ·exact zF 0 15 (mkE [(2,I 14)] [] 139)
     ·exact gK (pB (pB (zP (gR 16 (rg Tryz.f85 16) (se (mkE [(1,.ba 8 0),(30,LL S p0.f3),(31,I (lenL p0.f3)),(32,I (addI .i64 z0 1))] o_0 139) (pL))))))
   ·refine zN (mkE ((1,.ba 8 0)::((4,S x4)::(s_0.append [(41,B false)]))) o_0 139) (gF (.tmp 41) (zS 0 14 (mkE ((1,.ba 8 0)::(s_0.append [(54,B (eqS x4 p0.f0))])) o_0 139) (gC 54 (eqS x4 p0.f0) ?_ ?_)))
    ·exact zF 0 15 (mkE [(2,I 14)] [] 139)
    ·exact gK (pB (pB (zP (gR 16 (rg Tryz.f85 16) (se (mkE [(1,.ba 8 0),(30,LL S p0.f3),(31,I (lenL p0.f3)),(32,I (addI .i64 z0 1))] o_0 139) (pL))))))
 ·exact gX 1 (pL)
noncomputable def L85_24(p0:S46)(z1:Int):Option (Int⊕((Int×Bool)⊕Int)):=(bif (ltI z1 (lenL p0.f7))then((listAt p0.f7 z1).bind fun x11=>((T137 x11).bind fun x12=>(bif (neI x12 0)then(some (.inr (.inr x12)))else(some (.inl (addI .i64 z1 1))))))else(some (.inr (.inl (z1,(ltI z1 (lenL p0.f7)))))))
abbrev H137(C:Callee):Prop:=∀(p0:S64),C 137 [a64 p0]=(T137 p0).map I
theorem L85_24_ok(C:Callee)(h137:H137 C)(p0:S46)(z1:Int):rL C 85 Tryz.f85 24 [false,false,true,false,true,true,true,true] (fun z1:Int=>(mkE [(1,.ba 8 0),(98,LL a64 p0.f7),(99,I (lenL p0.f7)),(100,I z1)] [(8,.box [S p0.f0,S p0.f1,I p0.f2,LL S p0.f3,I p0.f4,I p0.f5,I p0.f6,LL a64 p0.f7,S p0.f8] false)] 139)) (Sum.elim (fun(x:(Int×Bool))=>(.exit 5,(mkE [(1,.ba 8 0),(98,LL a64 p0.f7),(99,I (lenL p0.f7)),(100,I x.1),(101,B x.2)] [(8,.box [S p0.f0,S p0.f1,I p0.f2,LL S p0.f3,I p0.f4,I p0.f5,I p0.f6,LL a64 p0.f7,S p0.f8] false)] 139))) (fun(x:Int)=>(.ret,(mkE [(2,I x)] [] 139)))) (L85_24 p0 z1) z1:=by
 unfold L85_24
 let s_0:List (Nat×AV):=[(98,LL a64 p0.f7),(99,I (lenL p0.f7)),(100,I z1)]
 let o_0:List (Nat×AObj):=[(8,.box [S p0.f0,S p0.f1,I p0.f2,LL S p0.f3,I p0.f4,I p0.f5,I p0.f6,LL a64 p0.f7,S p0.f8] false)]
 refine zS 0 24 (mkE ((1,.ba 8 0)::(s_0.append [(101,B (ltI z1 (lenL p0.f7)))])) o_0 139) (gS 25 (gC 101 (ltI z1 (lenL p0.f7)) ?_ ?_))
 ·refine gK (zP (gS 29 (gB 6 (zR 26 25 (vo 102 (addrE 45 65 4 a64 .i64 p0.f7 z1) (fun x11=>?_))))))
  refine zN (mkE ((1,.ba 8 0)::((6,.ba 48 0)::s_0)) (o_0.append [(48,.box [I x11.f0,I x11.f1,I x11.f2,I x11.f3] false)]) 139) (zR 27 26 (sg 1 (mkE ((104,a64 x11)::((1,.ba 8 0)::((6,.ba 48 0)::s_0))) (o_0.append [(48,.box [I x11.f0,I x11.f1,I x11.f2,I x11.f3] false)]) 139) (co 105 [] (h137 x11) (fun x12=>?_))))
  refine zN (mkE ((1,.ba 8 0)::((7,I x12)::s_0)) o_0 139) (zS 0 27 (mkE ((1,.ba 8 0)::((7,I x12)::(s_0.append [(107,B (neI x12 0))]))) o_0 139) (gC 107 (neI x12 0) ?_ ?_))
  ·exact zF 0 28 (mkE [(2,I x12)] [] 139)
  ·exact gK (pB (zP (gR 29 (rg Tryz.f85 29) (se (mkE [(1,.ba 8 0),(98,LL a64 p0.f7),(99,I (lenL p0.f7)),(100,I (addI .i64 z1 1))] o_0 139) (pL)))))
 ·exact gX 5 (pL)
noncomputable def T85(p0:S46):Option Int:=((T93 p0.f0).bind fun x1=>(bif (!x1)then(some 5)else((T93 p0.f1).bind fun x2=>(bif (!x2)then(some 5)else((T94 p0.f2 1 3).bind fun x3=>(bif (!x3)then(some 4)else(bif (ltI 20 (lenL p0.f3))then(some 2)else((iter (L85_8 p0) 0).bind fun y7=>(Sum.elim (fun y7a=>(bif ((eqI p0.f2 1) != (eqI (lenL p0.f3) 0))then(some 3)else((T136 p0.f4).bind fun x8=>(bif (!x8)then(some 1)else((T94 p0.f5 (addI .i64 p0.f4 1) (addI .i64 p0.f4 2592000000)).bind fun x9=>(bif (!x9)then(some 1)else((T94 p0.f6 1 9).bind fun x10=>(bif (!x10)then(some 1)else(bif (ltI 20 (lenL p0.f7))then(some 2)else((iter (L85_24 p0) 0).bind fun y13=>(Sum.elim (fun y13a=>(bif ((eqI p0.f2 3) != (eqI (lenL p0.f7) 0))then(some 3)else(bif (ltI 500 (lenS p0.f8))then(some 2)else((T138 p0.f8).bind fun x14=>(bif (!x14)then(some 3)else(bif (eqS p0.f8 (ByteArray.mk #[]))then(bif (neI p0.f2 3)then(some 3)else(some 0))else(some 0))))))) (fun y13b=>(some y13b)) y13))))))))))) (fun y7b=>(some y7b)) y7)))))))))
theorem B85(C:Callee)(h136:∀(p0:Int),C 136 [I p0]=(T136 p0).map B)(h137:H137 C)(h138:∀(p0:ByteArray),C 138 [S p0]=(T138 p0).map B)(h93:H93 C)(h94:H94 C)(p0:S46):rB C 85 Tryz.f85 (frame0 [a46 p0] 139 false) ((T85 p0).map I):=by
 unfold T85
 let s_0:List (Nat×AV):=[(71,I p0.f4),(70,.ba 8 4),(1,.ba 8 0),(60,B ((eqI p0.f2 1) != (eqI (lenL p0.f3) 0)))]
 let s_1:List (Nat×AV):=[(82,I (addI .i64 p0.f4 2592000000)),(81,I p0.f4),(80,.ba 8 4),(79,I (addI .i64 p0.f4 1)),(78,I p0.f4),(77,.ba 8 4),(76,I p0.f5),(75,.ba 8 5),(74,B false)]
 let s_2:List (Nat×AV):=[(1,.ba 8 0),(98,LL a64 p0.f7),(99,I (lenL p0.f7))]
 let s_3:List (Nat×AV):=[(1,.ba 8 0),(30,LL S p0.f3),(31,I (lenL p0.f3))]
 let s_4:List (Nat×AV):=[(126,S p0.f8),(125,.ba 8 8),(1,.ba 8 0),(119,B (ltI 500 (lenS p0.f8)))]
 let o_0:List (Nat×AObj):=[(8,.box [S p0.f0,S p0.f1,I p0.f2,LL S p0.f3,I p0.f4,I p0.f5,I p0.f6,LL a64 p0.f7,S p0.f8] false)]
 refine zS 1 0 (mkE [(1,.ba 8 0)] o_0 139) (gS 7 (gB 0 (zR 0 1 (sg 2 (mkE [(10,S p0.f0),(9,.ba 8 0),(1,.ba 8 0)] o_0 139) (co 11 [] (h93 p0.f0) (fun x1=>?_))))))
 refine sg 5 (mkE [(13,B (!x1)),(12,B (!x1)),(11,B x1),(10,S p0.f0),(9,.ba 8 0),(1,.ba 8 0)] o_0 139) (sb 13 (!x1) ?_ ?_)
 ·exact zN (mkE [(1,.ba 8 0),(8,B true)] o_0 139) (gT (.tmp 8) (zF 0 2 (mkE [(2,I 5)] [] 139)))
 ·refine sg 7 (mkE [(15,S p0.f1),(14,.ba 8 1),(13,B false),(13,B (!x1)),(12,B (!x1)),(11,B x1),(10,S p0.f0),(9,.ba 8 0),(1,.ba 8 0)] o_0 139) (co 16 [] (h93 p0.f1) (fun x2=>?_))
  refine zN (mkE [(1,.ba 8 0),(8,B (!x2))] o_0 139) (gC 8 (!x2) ?_ ?_)
  ·exact zF 0 2 (mkE [(2,I 5)] [] 139)
  ·refine zR 0 3 (sg 2 (mkE [(21,I p0.f2),(20,.ba 8 2),(1,.ba 8 0),(8,B (!x2))] o_0 139) (co 22 [] (h94 p0.f2 1 3) (fun x3=>?_)))
   refine zN (mkE [(1,.ba 8 0),(19,B (!x3))] o_0 139) (gC 19 (!x3) ?_ ?_)
   ·exact zF 0 4 (mkE [(2,I 4)] [] 139)
   ·refine zR 0 5 (sg 2 (mkE [(26,LL S p0.f3),(25,.ba 8 3),(1,.ba 8 0),(19,B (!x3))] o_0 139) (eo 27 (I (lenL p0.f3)) (lenE 34 S p0.f3) (zN (mkE [(1,.ba 8 0),(24,B (ltI 20 (lenL p0.f3)))] o_0 139) (gC 24 (ltI 20 (lenL p0.f3)) ?_ ?_))))
    ·exact zF 0 6 (mkE [(2,I 2)] [] 139)
    ·refine gK (pB (zP (gS 17 (zR 8 7 (sg 2 (mkE [(30,LL S p0.f3),(29,.ba 8 3),(1,.ba 8 0),(24,B (ltI 20 (lenL p0.f3)))] o_0 139) (eo 31 (I (lenL p0.f3)) (lenE 34 S p0.f3) (zN (mkE (s_3.append [(32,I 0)]) o_0 139) (gB 1 (lo [(1,none),(30,none),(31,none),(32,none)] [] (L85_8 p0) (fun z0:Int=>(mkE (s_3.append [(32,I z0)]) o_0 139)) (Sum.elim (fun(x:(Int×Bool))=>(.exit 1,(mkE (s_3.append ((32,I x.1)::[(33,B x.2)])) o_0 139))) (fun(x:Int)=>(.ret,(mkE [(2,I x)] [] 139)))) 0 (fun z=>L85_8_ok C h93 p0 z) ?_)))))))))
     intro y7
     refine ss y7 (Z:=(Sum.elim (fun(x:(Int×Bool))=>(.exit 1,(mkE (s_3.append ((32,I x.1)::[(33,B x.2)])) o_0 139))) (fun(x:Int)=>(.ret,(mkE [(2,I x)] [] 139))))) (fun y7a=>?_) (fun y7b=>?_)
     ·refine pH (zP (gS 23 (gB 4 (zR 0 17 (sg 5 (mkE ((65,LL S p0.f3)::((64,.ba 8 3)::((63,B (eqI p0.f2 1))::((62,I p0.f2)::((61,.ba 8 2)::(s_3.append ((32,I y7a.1)::[(33,B y7a.2)]))))))) o_0 139) (eo 66 (I (lenL p0.f3)) (lenE 34 S p0.f3) (zN (mkE [(1,.ba 8 0),(60,B ((eqI p0.f2 1) != (eqI (lenL p0.f3) 0)))] o_0 139) (gC 60 ((eqI p0.f2 1) != (eqI (lenL p0.f3) 0)) ?_ ?_))))))))
      ·exact zF 0 18 (mkE [(2,I 3)] [] 139)
      ·refine zR 0 19 (sg 2 (mkE s_0 o_0 139) (co 72 [] (h136 p0.f4) (fun x8=>?_)))
       refine sg 5 (mkE ((74,B (!x8))::((73,B (!x8))::((72,B x8)::s_0))) o_0 139) (sb 74 (!x8) ?_ ?_)
       ·exact zN (mkE [(1,.ba 8 0),(69,B true)] o_0 139) (gT (.tmp 69) (zF 0 20 (mkE [(2,I 1)] [] 139)))
       ·refine sg 13 (mkE (s_1.append ((74,B (!x8))::((73,B (!x8))::((72,B x8)::s_0)))) o_0 139) (co 83 [] (h94 p0.f5 (addI .i64 p0.f4 1) (addI .i64 p0.f4 2592000000)) (fun x9=>?_))
        refine sg 17 (mkE ((86,B (!x9))::((85,B (!x9))::((84,B (!x9))::((83,B x9)::(s_1.append ((74,B (!x8))::((73,B (!x8))::((72,B x8)::s_0)))))))) o_0 139) (sb 86 (!x9) ?_ ?_)
        ·exact zN (mkE [(1,.ba 8 0),(69,B true)] o_0 139) (gT (.tmp 69) (zF 0 20 (mkE [(2,I 1)] [] 139)))
        ·refine sg 19 (mkE ((88,I p0.f6)::((87,.ba 8 6)::((86,B false)::((86,B (!x9))::((85,B (!x9))::((84,B (!x9))::((83,B x9)::(s_1.append ((74,B (!x8))::((73,B (!x8))::((72,B x8)::s_0))))))))))) o_0 139) (co 89 [] (h94 p0.f6 1 9) (fun x10=>?_))
         refine zN (mkE [(1,.ba 8 0),(69,B (!x10))] o_0 139) (gC 69 (!x10) ?_ ?_)
         ·exact zF 0 20 (mkE [(2,I 1)] [] 139)
         ·refine zR 0 21 (sg 2 (mkE [(94,LL a64 p0.f7),(93,.ba 8 7),(1,.ba 8 0),(69,B (!x10))] o_0 139) (eo 95 (I (lenL p0.f7)) (lenE 45 a64 p0.f7) (zN (mkE [(1,.ba 8 0),(92,B (ltI 20 (lenL p0.f7)))] o_0 139) (gC 92 (ltI 20 (lenL p0.f7)) ?_ ?_))))
          ·exact zF 0 22 (mkE [(2,I 2)] [] 139)
          ·refine gK (pB (zP (gS 30 (zR 24 23 (sg 2 (mkE [(98,LL a64 p0.f7),(97,.ba 8 7),(1,.ba 8 0),(92,B (ltI 20 (lenL p0.f7)))] o_0 139) (eo 99 (I (lenL p0.f7)) (lenE 45 a64 p0.f7) (zN (mkE (s_2.append [(100,I 0)]) o_0 139) (gB 5 (lo [(1,none),(98,none),(99,none),(100,none)] [] (L85_24 p0) (fun z1:Int=>(mkE (s_2.append [(100,I z1)]) o_0 139)) (Sum.elim (fun(x:(Int×Bool))=>(.exit 5,(mkE (s_2.append ((100,I x.1)::[(101,B x.2)])) o_0 139))) (fun(x:Int)=>(.ret,(mkE [(2,I x)] [] 139)))) 0 (fun z=>L85_24_ok C h137 p0 z) ?_)))))))))
           intro y13
           refine ss y13 (Z:=(Sum.elim (fun(x:(Int×Bool))=>(.exit 5,(mkE (s_2.append ((100,I x.1)::[(101,B x.2)])) o_0 139))) (fun(x:Int)=>(.ret,(mkE [(2,I x)] [] 139))))) (fun y13a=>?_) (fun y13b=>?_)
           ·refine pH (zP (gS 36 (gB 7 (zR 0 30 (sg 5 (mkE ((115,LL a64 p0.f7)::((114,.ba 8 7)::((113,B (eqI p0.f2 3))::((112,I p0.f2)::((111,.ba 8 2)::(s_2.append ((100,I y13a.1)::[(101,B y13a.2)]))))))) o_0 139) (eo 116 (I (lenL p0.f7)) (lenE 45 a64 p0.f7) (zN (mkE [(1,.ba 8 0),(110,B ((eqI p0.f2 3) != (eqI (lenL p0.f7) 0)))] o_0 139) (gC 110 ((eqI p0.f2 3) != (eqI (lenL p0.f7) 0)) ?_ ?_))))))))
            ·exact zF 0 31 (mkE [(2,I 3)] [] 139)
            ·refine zS 0 32 (mkE [(1,.ba 8 0),(119,B (ltI 500 (lenS p0.f8)))] o_0 139) (gC 119 (ltI 500 (lenS p0.f8)) ?_ ?_)
             ·exact zF 0 33 (mkE [(2,I 2)] [] 139)
             ·refine zR 0 34 (sg 2 (mkE s_4 o_0 139) (co 127 [] (h138 p0.f8) (fun x14=>?_)))
              refine sg 5 (mkE ((129,B (!x14))::((128,B (!x14))::((127,B x14)::s_4))) o_0 139) (sb 129 (!x14) ?_ ?_)
              ·exact zN (mkE [(124,B true)] [] 139) (gT (.tmp 124) (zF 0 35 (mkE [(2,I 3)] [] 139)))
              ·refine sg 9 (mkE ((133,B (eqS p0.f8 (ByteArray.mk #[])))::((132,B (eqS p0.f8 (ByteArray.mk #[])))::((131,S p0.f8)::((130,.ba 8 8)::((129,B false)::((129,B (!x14))::((128,B (!x14))::((127,B x14)::s_4)))))))) o_0 139) (sb 133 (eqS p0.f8 (ByteArray.mk #[])) ?_ ?_)
               ·refine zN (mkE [(124,B (neI p0.f2 3))] [] 139) (gC 124 (neI p0.f2 3) ?_ ?_)
                ·exact zF 0 35 (mkE [(2,I 3)] [] 139)
                ·exact gK (pB (zP (zF 0 36 (mkE [(2,I 0)] [] 139))))
               ·exact zN (mkE [(124,B false)] [] 139) (gF (.tmp 124) (gK (pB (zP (zF 0 36 (mkE [(2,I 0)] [] 139))))))
           ·exact pL
     ·exact pL
theorem F85(m:Nat)(hm:5≤m)(p0:S46):callA Tryz.prog cfg m 85 [a46 p0]=(T85 p0).map I:=by
 obtain⟨q,rfl⟩:=sucK hm
 exact(callA_body (fn:=Tryz.f85) (c:=body_ Tryz.f85) q _ (by kernel_rfl) (by kernel_rfl) (by kernel_rfl)).trans (B85 _ (fun p0=>F136 q (by omega) p0) (fun p0=>F137 q (by omega) p0) (fun p0=>F138 q (by omega) p0) (fun p0=>F93 q (by omega) p0) (fun p0 p1 p2=>F94 q (by omega) p0 p1 p2) p0)
noncomputable def T139(p0:Int):Option Int:=(bif (ltI p0 0)then(some (-1))else(bif (ltI 0 p0)then(some 1)else(some 0)))
theorem B139(C:Callee)(p0:Int):rB C 139 Tryz.f139 (frame0 [I p0] 9 false) ((T139 p0).map I):=by
 unfold T139
 refine zS 1 0 (mkE [(0,I p0)] [] 9) (gS 5 (gB 0 (zS 0 1 (mkE [(0,I p0),(3,B (ltI p0 0))] [] 9) (gC 3 (ltI p0 0) ?_ ?_))))
 ·exact zF 0 2 (mkE [(2,I (-1))] [] 9)
 ·refine zS 0 3 (mkE [(6,B (ltI 0 p0))] [] 9) (gC 6 (ltI 0 p0) ?_ ?_)
  ·exact zF 0 4 (mkE [(2,I 1)] [] 9)
  ·exact gK (pB (zP (zF 0 5 (mkE [(2,I 0)] [] 9))))
theorem F139(m:Nat)(hm:1≤m)(p0:Int):callA Tryz.prog cfg m 139 [I p0]=(T139 p0).map I:=by
 obtain⟨q,rfl⟩:=sucK hm
 exact(callA_bodyQ (fn:=Tryz.f139) (c:=body_ Tryz.f139) q _ (by kernel_rfl) (by kernel_rfl) (by kernel_rfl)).trans (B139 _ p0)
noncomputable def T86(p0:S46)(p1:S46):Option Int:=(bif (neI p0.f4 p1.f4)then((T139 (subI .i64 p0.f4 p1.f4)).bind fun x1=>(some x1))else((T38 p0.f0 p1.f0).bind fun x2=>(some x2)))
theorem B86(C:Callee)(h139:∀(p0:Int),C 139 [I p0]=(T139 p0).map I)(h38:H38 C)(p0:S46)(p1:S46):rB C 86 Tryz.f86 (frame0 [a46 p0,a46 p1] 21 false) ((T86 p0 p1).map I):=by
 unfold T86
 let o_0:List (Nat×AObj):=[(16,.box [S p0.f0,S p0.f1,I p0.f2,LL S p0.f3,I p0.f4,I p0.f5,I p0.f6,LL a64 p0.f7,S p0.f8] false),(24,.box [S p1.f0,S p1.f1,I p1.f2,LL S p1.f3,I p1.f4,I p1.f5,I p1.f6,LL a64 p1.f7,S p1.f8] false)]
 refine zS 1 0 (mkE [(2,.ba 16 0),(3,.ba 24 0)] o_0 21) (gS 3 (zS 0 1 (mkE [(2,.ba 16 0),(3,.ba 24 0),(9,B (neI p0.f4 p1.f4))] o_0 21) (gC 9 (neI p0.f4 p1.f4) ?_ ?_)))
 ·refine zR 0 2 (sg 5 (mkE [(14,I (subI .i64 p0.f4 p1.f4)),(13,I p1.f4),(12,.ba 24 4),(11,I p0.f4),(10,.ba 16 4),(2,.ba 16 0),(3,.ba 24 0),(9,B (neI p0.f4 p1.f4))] o_0 21) (co 15 [] (h139 (subI .i64 p0.f4 p1.f4)) (fun x1=>?_)))
  exact zE (mkE [(4,I x1)] [] 21)
 ·refine gK (zP (zR 0 3 (sg 4 (mkE [(19,S p1.f0),(18,.ba 24 0),(17,S p0.f0),(16,.ba 16 0),(2,.ba 16 0),(3,.ba 24 0),(9,B (neI p0.f4 p1.f4))] o_0 21) (co 20 [] (h38 p0.f0 p1.f0) (fun x2=>?_)))))
  exact zE (mkE [(4,I x2)] [] 21)
theorem F86(m:Nat)(hm:3≤m)(p0:S46)(p1:S46):callA Tryz.prog cfg m 86 [a46 p0,a46 p1]=(T86 p0 p1).map I:=by
 obtain⟨q,rfl⟩:=sucK hm
 exact(callA_bodyQ (fn:=Tryz.f86) (c:=body_ Tryz.f86) q _ (by kernel_rfl) (by kernel_rfl) (by kernel_rfl)).trans (B86 _ (fun p0=>(guard_q (by kernel_rfl) _).trans (F139 q (by omega) p0)) (fun p0 p1=>(guard_q (by kernel_rfl) _).trans (F38 q (by omega) p0 p1)) p0 p1)
end Go.Abs.TUB
