import Derived.Test.YtebjpnnikmkopaaGreatCTUX0
import Derived.Test.YtebjpnnikmkopaaGreatCLayZ5
import Derived.Lib.Walk
import Derived.Lib.Bytealg
import Derived.WalkSpells
import Derived.Laws.AppendOwn
import Derived.ChangeAlike
import Derived.Lib.Hide
set_option maxRecDepth 100000
set_option linter.unusedVariables false
namespace Go.Abs.TUX
open Go.RowKit Go.Proofs Go.Abs
theorem info_11:(Tryz.prog.info? 3).map (fun i=>(i.zero,i.size,i.bytes))=some (some (.int .i64 0),1,8):=by kernel_rfl
set_option maxHeartbeats 1000000 in
theorem clone_some11(a:Addr)(n c:Nat)(news:List Value)(w:World)(hl:news.length=n*1)(hn:n≤maxLen)(hbig:n*8≤140737488355328)
  (hc:∀j u,news[j]? = some u→w.cell? (a.add j)=some u) (h1:∀u∈news,u.oneCell'=true) :
  Calls Tryz.prog 11 #[.slice (some a) n c] w fun e w'=>∃v',e= .returned v'∧w'.ownsRow w.heap.size 3 1 v' n news∧Below w.heap.size w w'∧w.drawn≤w'.drawn:=by
 obtain⟨i0,hi,hz0,hz1,hz2⟩:=info_parts info_11
 have q22:∀(w:World)(a:Option Addr)(n c n' c':Nat),(binOp .eql 35 (.slice a n c) (.slice none n' c')).run Tryz.prog w= .ok (.bool a.isNone) w:=fun w a n c n' c'=>Lib.run_eql_slice_nil w _ _ a n c n' c' Tryz.underlying35
 have A:=Lib.hid hc
 clear hc
 go_enter Tryz.func11,Tryz.ntmps11
 go_wp2_with (at_builtin;refine wpList_appD rfl _ _ 35 rfl w.heap.size 3 i0 (.int .i64 0) 1 8 Tryz.underlying35 hi hz0 hz1 hz2 rfl (by decide) _ _ _ rfl (World.ownsRow_made w #[] 0 (Nat.le_refl _) (Nat.zero_le _) (by simp)) a n c news rfl ?qc1 ?qc2 ?qc3 ?qc4 ?qc5 ?qc6 ?_)
 case qc1=>exact hl
 case qc2=>
  intro j u hj
  exact Lib.cell?_alloc_some _ (A.out j u hj)
 case qc3=>exact h1
 case qc4=>rw[Nat.zero_add];exact hn
 case qc5=>rw[Nat.zero_add];exact hbig
 case qc6=>simp
 intro v' w1 hown hgrow hdr
 go_wp2
 go_ret
 refine⟨v',rfl,by simpa using hown,?_,hdr⟩
 exact((Below.refl _ w).alloc (Nat.le_refl _) _).grown hgrow (by simp) (by intro k hk;simp[Value.ownBlock]at hk;omega)
theorem clone_nil11(n c:Nat)(w:World):Calls Tryz.prog 11 #[.slice none n c] w fun e w'=>e= .returned (.slice none 0 0)∧w'=w:=by
 have q22:∀(w:World)(a:Option Addr)(n c n' c':Nat),(binOp .eql 35 (.slice a n c) (.slice none n' c')).run Tryz.prog w= .ok (.bool a.isNone) w:=fun w a n c n' c'=>Lib.run_eql_slice_nil w _ _ a n c n' c' Tryz.underlying35
 go_enter Tryz.func11,Tryz.ntmps11
 go_wp2
 go_ret
 exact⟨rfl,rfl⟩
theorem leafAt11:LeafAt Tryz.prog 11 (leafClone Tryz.prog 3 1 8):=leaf_clone (by kernel_rfl) (by decide) clone_some11 clone_nil11
theorem info_12:(Tryz.prog.info? 9).map (fun i=>(i.zero,i.size,i.bytes))=some (some (.string (ByteArray.mk #[])),1,16):=by kernel_rfl
set_option maxHeartbeats 1000000 in
theorem clone_some12(a:Addr)(n c:Nat)(news:List Value)(w:World)(hl:news.length=n*1)(hn:n≤maxLen)(hbig:n*16≤140737488355328)
  (hc:∀j u,news[j]? = some u→w.cell? (a.add j)=some u) (h1:∀u∈news,u.oneCell'=true) :
  Calls Tryz.prog 12 #[.slice (some a) n c] w fun e w'=>∃v',e= .returned v'∧w'.ownsRow w.heap.size 9 1 v' n news∧Below w.heap.size w w'∧w.drawn≤w'.drawn:=by
 obtain⟨i0,hi,hz0,hz1,hz2⟩:=info_parts info_12
 have q22:∀(w:World)(a:Option Addr)(n c n' c':Nat),(binOp .eql 23 (.slice a n c) (.slice none n' c')).run Tryz.prog w= .ok (.bool a.isNone) w:=fun w a n c n' c'=>Lib.run_eql_slice_nil w _ _ a n c n' c' Tryz.underlying23
 have A:=Lib.hid hc
 clear hc
 go_enter Tryz.func12,Tryz.ntmps12
 go_wp2_with (at_builtin;refine wpList_appD rfl _ _ 23 rfl w.heap.size 9 i0 (.string (ByteArray.mk #[])) 1 16 Tryz.underlying23 hi hz0 hz1 hz2 rfl (by decide) _ _ _ rfl (World.ownsRow_made w #[] 0 (Nat.le_refl _) (Nat.zero_le _) (by simp)) a n c news rfl ?qc1 ?qc2 ?qc3 ?qc4 ?qc5 ?qc6 ?_)
 case qc1=>exact hl
 case qc2=>
  intro j u hj
  exact Lib.cell?_alloc_some _ (A.out j u hj)
 case qc3=>exact h1
 case qc4=>rw[Nat.zero_add];exact hn
 case qc5=>rw[Nat.zero_add];exact hbig
 case qc6=>simp
 intro v' w1 hown hgrow hdr
 go_wp2
 go_ret
 refine⟨v',rfl,by simpa using hown,?_,hdr⟩
 exact((Below.refl _ w).alloc (Nat.le_refl _) _).grown hgrow (by simp) (by intro k hk;simp[Value.ownBlock]at hk;omega)
theorem clone_nil12(n c:Nat)(w:World):Calls Tryz.prog 12 #[.slice none n c] w fun e w'=>e= .returned (.slice none 0 0)∧w'=w:=by
 have q22:∀(w:World)(a:Option Addr)(n c n' c':Nat),(binOp .eql 23 (.slice a n c) (.slice none n' c')).run Tryz.prog w= .ok (.bool a.isNone) w:=fun w a n c n' c'=>Lib.run_eql_slice_nil w _ _ a n c n' c' Tryz.underlying23
 go_enter Tryz.func12,Tryz.ntmps12
 go_wp2
 go_ret
 exact⟨rfl,rfl⟩
theorem leafAt12:LeafAt Tryz.prog 12 (leafClone Tryz.prog 9 1 16):=leaf_clone (by kernel_rfl) (by decide) clone_some12 clone_nil12
theorem leafAt61:LeafAt Tryz.prog 61 (leafSortI 3):=leaf_sortI (by kernel_rfl) (fun blk off cap zs w h1 h2 h3=>Any.slices_Sort_int Tryz.sortInt blk off cap zs w h1 h2 h3) (fun p cap w=>Any.slices_Sort_int_none Tryz.sortInt p cap w)
theorem leafAt62:LeafAt Tryz.prog 62 (leafCompI 3):=leaf_compI (by kernel_rfl) (fun blk off cap zs w h1 h2 h3=>Any.slices_Compact_int Tryz.compactInt blk off cap zs w h1 h2 h3) (fun p cap w=>Any.slices_Compact_int_empty Tryz.compactInt p cap w)
theorem leafAt67:LeafAt Tryz.prog 67 (leafSortF Tryz.prog 79 3):=leaf_sortF (by kernel_rfl) (fun enc hk h1 cf hO g cb blk off cap d w eg hc hH hb hs=>AnyQ.slices_SortFunc_eq Tryz.sortSpan 3 (isAggT_run (t:=79) (by kernel_rfl)) (sizeT_run (t:=79) (by kernel_rfl)) enc hk h1 cf hO g cb blk off cap d w eg hc hH hb hs) (fun p cap fv w=>AnyF.slices_SortFunc_none Tryz.sortSpan p cap fv w)
theorem leafAt80:LeafAt Tryz.prog 80 (leafSortF Tryz.prog 37 13):=leaf_sortF (by kernel_rfl) (fun enc hk h1 cf hO g cb blk off cap d w eg hc hH hb hs=>AnyQ.slices_SortFunc_eq Tryz.sortEntry 13 (isAggT_run (t:=37) (by kernel_rfl)) (sizeT_run (t:=37) (by kernel_rfl)) enc hk h1 cf hO g cb blk off cap d w eg hc hH hb hs) (fun p cap fv w=>AnyF.slices_SortFunc_none Tryz.sortEntry p cap fv w)
theorem leafAt87:LeafAt Tryz.prog 87 (leafGrow Tryz.prog 3 1 8):=leaf_grow (by kernel_rfl) (by kernel_rfl) (fun base l c n w h1 h2 h3 h4=>Any8.slices_Grow_room Tryz.growInt base l c n w h1 h2 h3 h4) (fun i0 z h1 h2 h3 base l c n cs w h4 h5 h6 h7 h8 h9 h10=>Any8.slices_Grow_grow Tryz.growInt i0 z h1 h2 h3 base l c n cs w h4 h5 h6 h7 h8 h9 h10)
set_option maxHeartbeats 1000000 in
set_option maxRecDepth 100000 in
theorem leafW105(a b:ByteArray)(w:World):Calls Tryz.prog 105 #[.string a,.string b] w fun e w'=>e= .returned (.int .i64 (Lib.compareBytes a.data.toList b.data.toList))∧w'=w:=by
 go_enter Tryz.func105,Tryz.ntmps105
 go_wp2
 rw[run_callFunc_extern Tryz.func141 (by kernel_rfl) (by kernel_rfl) (by kernel_rfl) (e:=Extern.BytealgCompare.compare) (by kernel_rfl),Lib.run_compareString]
 simp only[Result.andThen]
 rw[Oper.upon_value]
 go_wp2
 go_ret
 exact⟨rfl,rfl⟩
theorem leafAt105:LeafAt Tryz.prog 105 leafCmp:=leaf_cmp (by kernel_rfl) leafW105
set_option maxHeartbeats 1000000 in
set_option maxRecDepth 100000 in
theorem leafW130(s:ByteArray)(c:Int)(w:World):Calls Tryz.prog 130 #[.string s,.int .u8 c] w fun e w'=>e= .returned (.int .i64 (Lib.indexByte s.data.toList c.toNat.toUInt8))∧w'=w:=by
 go_enter Tryz.func130,Tryz.ntmps130
 go_wp2
 rw[run_callFunc_extern Tryz.func155 (by kernel_rfl) (by kernel_rfl) (by kernel_rfl) (e:=Extern.BytealgIndexByte.indexByte) (by kernel_rfl),Lib.run_indexByteString]
 simp only[Result.andThen]
 rw[Oper.upon_value]
 go_wp2
 go_ret
 exact⟨rfl,rfl⟩
theorem leafAt130:LeafAt Tryz.prog 130 leafIdx:=leaf_idx (by kernel_rfl) leafW130
theorem leaves:LeafOK Tryz.prog cfg:=by
 intro f L h
 unfold cfg at h
 simp only at h
 split at h
 ·cases h;exact leafAt11
 ·cases h;exact leafAt12
 ·cases h;exact leafAt61
 ·cases h;exact leafAt62
 ·cases h;exact leafAt67
 ·cases h;exact leafAt80
 ·cases h;exact leafAt87
 ·cases h;exact leafAt105
 ·cases h;exact leafAt130
 ·cases h
theorem callOK:∀n,CallOK Tryz.prog (callA Tryz.prog cfg n):=callA_sound leaves (draw_ok (by kernel_rfl))
end Go.Abs.TUX
