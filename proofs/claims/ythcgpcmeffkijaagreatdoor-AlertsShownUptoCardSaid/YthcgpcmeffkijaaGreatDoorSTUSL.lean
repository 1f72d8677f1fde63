import Derived.Test.YthcgpcmeffkijaaGreatDoorSTUS0
import Derived.Test.YthcgpcmeffkijaaGreatDoorSLayZ8
import Derived.Lib.Walk
import Derived.Lib.Bytealg
import Derived.WalkSpells
import Derived.Laws.AppendOwn
import Derived.ChangeAlike
import Derived.Lib.Hide
set_option maxRecDepth 100000
set_option linter.unusedVariables false
namespace Go.Abs.TUS
open Go.RowKit Go.Proofs Go.Abs
theorem info_6:(Tryz.prog.info? 27).map (fun i=>(i.zero,i.size,i.bytes))=some (some (.agg #[.string (ByteArray.mk #[]),.int .i64 0,.int .i64 0]),3,32):=by kernel_rfl
set_option maxHeartbeats 1000000 in
theorem clone_some6(a:Addr)(n c:Nat)(news:List Value)(w:World)(hl:news.length=n*3)(hn:n≤maxLen)(hbig:n*32≤140737488355328)
  (hc:∀j u,news[j]? = some u→w.cell? (a.add j)=some u) (h1:∀u∈news,u.oneCell'=true) :
  Calls Tryz.prog 6 #[.slice (some a) n c] w fun e w'=>∃v',e= .returned v'∧w'.ownsRow w.heap.size 27 3 v' n news∧Below w.heap.size w w'∧w.drawn≤w'.drawn:=by
 obtain⟨i0,hi,hz0,hz1,hz2⟩:=info_parts info_6
 have q22:∀(w:World)(a:Option Addr)(n c n' c':Nat),(binOp .eql 23 (.slice a n c) (.slice none n' c')).run Tryz.prog w= .ok (.bool a.isNone) w:=fun w a n c n' c'=>Lib.run_eql_slice_nil w _ _ a n c n' c' Tryz.underlying23
 have A:=Lib.hid hc
 clear hc
 go_enter Tryz.func6,Tryz.ntmps6
 go_wp2_with (at_builtin;refine wpList_appD rfl _ _ 23 rfl w.heap.size 27 i0 (.agg #[.string (ByteArray.mk #[]),.int .i64 0,.int .i64 0]) 3 32 Tryz.underlying23 hi hz0 hz1 hz2 rfl (by decide) _ _ _ rfl (World.ownsRow_made w #[] 0 (Nat.le_refl _) (Nat.zero_le _) (by simp)) a n c news rfl ?qc1 ?qc2 ?qc3 ?qc4 ?qc5 ?qc6 ?_)
 case qc1=>exact hl
 case qc2=>
  intro j u hj
  exact Lib.cell?_alloc_some _ (A.out j u hj)
 case qc3=>exact h1
 case qc4=>rw[Nat.zero_add];exact hn
 case qc5=>rw[Nat.zero_add];exact hbig
 case qc6=>simp
 intro v' w1 hown hgrow hdr
 go_wp2
 go_ret
 refine⟨v',rfl,by simpa using hown,?_,hdr⟩
 exact((Below.refl _ w).alloc (Nat.le_refl _) _).grown hgrow (by simp) (by intro k hk;simp[Value.ownBlock]at hk;omega)
theorem clone_nil6(n c:Nat)(w:World):Calls Tryz.prog 6 #[.slice none n c] w fun e w'=>e= .returned (.slice none 0 0)∧w'=w:=by
 have q22:∀(w:World)(a:Option Addr)(n c n' c':Nat),(binOp .eql 23 (.slice a n c) (.slice none n' c')).run Tryz.prog w= .ok (.bool a.isNone) w:=fun w a n c n' c'=>Lib.run_eql_slice_nil w _ _ a n c n' c' Tryz.underlying23
 go_enter Tryz.func6,Tryz.ntmps6
 go_wp2
 go_ret
 exact⟨rfl,rfl⟩
theorem leafAt6:LeafAt Tryz.prog 6 (leafClone Tryz.prog 27 3 32):=leaf_clone (by kernel_rfl) (by decide) clone_some6 clone_nil6
theorem info_13:(Tryz.prog.info? 9).map (fun i=>(i.zero,i.size,i.bytes))=some (some (.string (ByteArray.mk #[])),1,16):=by kernel_rfl
set_option maxHeartbeats 1000000 in
theorem clone_some13(a:Addr)(n c:Nat)(news:List Value)(w:World)(hl:news.length=n*1)(hn:n≤maxLen)(hbig:n*16≤140737488355328)
  (hc:∀j u,news[j]? = some u→w.cell? (a.add j)=some u) (h1:∀u∈news,u.oneCell'=true) :
  Calls Tryz.prog 13 #[.slice (some a) n c] w fun e w'=>∃v',e= .returned v'∧w'.ownsRow w.heap.size 9 1 v' n news∧Below w.heap.size w w'∧w.drawn≤w'.drawn:=by
 obtain⟨i0,hi,hz0,hz1,hz2⟩:=info_parts info_13
 have q22:∀(w:World)(a:Option Addr)(n c n' c':Nat),(binOp .eql 37 (.slice a n c) (.slice none n' c')).run Tryz.prog w= .ok (.bool a.isNone) w:=fun w a n c n' c'=>Lib.run_eql_slice_nil w _ _ a n c n' c' Tryz.underlying37
 have A:=Lib.hid hc
 clear hc
 go_enter Tryz.func13,Tryz.ntmps13
 go_wp2_with (at_builtin;refine wpList_appD rfl _ _ 37 rfl w.heap.size 9 i0 (.string (ByteArray.mk #[])) 1 16 Tryz.underlying37 hi hz0 hz1 hz2 rfl (by decide) _ _ _ rfl (World.ownsRow_made w #[] 0 (Nat.le_refl _) (Nat.zero_le _) (by simp)) a n c news rfl ?qc1 ?qc2 ?qc3 ?qc4 ?qc5 ?qc6 ?_)
 case qc1=>exact hl
 case qc2=>
  intro j u hj
  exact Lib.cell?_alloc_some _ (A.out j u hj)
 case qc3=>exact h1
 case qc4=>rw[Nat.zero_add];exact hn
 case qc5=>rw[Nat.zero_add];exact hbig
 case qc6=>simp
 intro v' w1 hown hgrow hdr
 go_wp2
 go_ret
 refine⟨v',rfl,by simpa using hown,?_,hdr⟩
 exact((Below.refl _ w).alloc (Nat.le_refl _) _).grown hgrow (by simp) (by intro k hk;simp[Value.ownBlock]at hk;omega)
theorem clone_nil13(n c:Nat)(w:World):Calls Tryz.prog 13 #[.slice none n c] w fun e w'=>e= .returned (.slice none 0 0)∧w'=w:=by
 have q22:∀(w:World)(a:Option Addr)(n c n' c':Nat),(binOp .eql 37 (.slice a n c) (.slice none n' c')).run Tryz.prog w= .ok (.bool a.isNone) w:=fun w a n c n' c'=>Lib.run_eql_slice_nil w _ _ a n c n' c' Tryz.underlying37
 go_enter Tryz.func13,Tryz.ntmps13
 go_wp2
 go_ret
 exact⟨rfl,rfl⟩
theorem leafAt13:LeafAt Tryz.prog 13 (leafClone Tryz.prog 9 1 16):=leaf_clone (by kernel_rfl) (by decide) clone_some13 clone_nil13
theorem info_14:(Tryz.prog.info? 44).map (fun i=>(i.zero,i.size,i.bytes))=some (some (.agg #[.int .i64 0,.int .i64 0,.int .i64 0,.int .i64 0]),4,32):=by kernel_rfl
set_option maxHeartbeats 1000000 in
theorem clone_some14(a:Addr)(n c:Nat)(news:List Value)(w:World)(hl:news.length=n*4)(hn:n≤maxLen)(hbig:n*32≤140737488355328)
  (hc:∀j u,news[j]? = some u→w.cell? (a.add j)=some u) (h1:∀u∈news,u.oneCell'=true) :
  Calls Tryz.prog 14 #[.slice (some a) n c] w fun e w'=>∃v',e= .returned v'∧w'.ownsRow w.heap.size 44 4 v' n news∧Below w.heap.size w w'∧w.drawn≤w'.drawn:=by
 obtain⟨i0,hi,hz0,hz1,hz2⟩:=info_parts info_14
 have q22:∀(w:World)(a:Option Addr)(n c n' c':Nat),(binOp .eql 38 (.slice a n c) (.slice none n' c')).run Tryz.prog w= .ok (.bool a.isNone) w:=fun w a n c n' c'=>Lib.run_eql_slice_nil w _ _ a n c n' c' Tryz.underlying38
 have A:=Lib.hid hc
 clear hc
 go_enter Tryz.func14,Tryz.ntmps14
 go_wp2_with (at_builtin;refine wpList_appD rfl _ _ 38 rfl w.heap.size 44 i0 (.agg #[.int .i64 0,.int .i64 0,.int .i64 0,.int .i64 0]) 4 32 Tryz.underlying38 hi hz0 hz1 hz2 rfl (by decide) _ _ _ rfl (World.ownsRow_made w #[] 0 (Nat.le_refl _) (Nat.zero_le _) (by simp)) a n c news rfl ?qc1 ?qc2 ?qc3 ?qc4 ?qc5 ?qc6 ?_)
 case qc1=>exact hl
 case qc2=>
  intro j u hj
  exact Lib.cell?_alloc_some _ (A.out j u hj)
 case qc3=>exact h1
 case qc4=>rw[Nat.zero_add];exact hn
 case qc5=>rw[Nat.zero_add];exact hbig
 case qc6=>simp
 intro v' w1 hown hgrow hdr
 go_wp2
 go_ret
 refine⟨v',rfl,by simpa using hown,?_,hdr⟩
 exact((Below.refl _ w).alloc (Nat.le_refl _) _).grown hgrow (by simp) (by intro k hk;simp[Value.ownBlock]at hk;omega)
theorem clone_nil14(n c:Nat)(w:World):Calls Tryz.prog 14 #[.slice none n c] w fun e w'=>e= .returned (.slice none 0 0)∧w'=w:=by
 have q22:∀(w:World)(a:Option Addr)(n c n' c':Nat),(binOp .eql 38 (.slice a n c) (.slice none n' c')).run Tryz.prog w= .ok (.bool a.isNone) w:=fun w a n c n' c'=>Lib.run_eql_slice_nil w _ _ a n c n' c' Tryz.underlying38
 go_enter Tryz.func14,Tryz.ntmps14
 go_wp2
 go_ret
 exact⟨rfl,rfl⟩
theorem leafAt14:LeafAt Tryz.prog 14 (leafClone Tryz.prog 44 4 32):=leaf_clone (by kernel_rfl) (by decide) clone_some14 clone_nil14
theorem leafAt59:LeafAt Tryz.prog 59 (leafSortF Tryz.prog 40 9):=leaf_sortF (by kernel_rfl) (fun enc hk h1 cf hO g cb blk off cap d w eg hc hH hb hs=>AnyQ.slices_SortFunc_eq Tryz.sortAlert 9 (isAggT_run (t:=40) (by kernel_rfl)) (sizeT_run (t:=40) (by kernel_rfl)) enc hk h1 cf hO g cb blk off cap d w eg hc hH hb hs) (fun p cap fv w=>AnyF.slices_SortFunc_none Tryz.sortAlert p cap fv w)
set_option maxHeartbeats 1000000 in
set_option maxRecDepth 100000 in
theorem leafW107(a b:ByteArray)(w:World):Calls Tryz.prog 107 #[.string a,.string b] w fun e w'=>e= .returned (.int .i64 (Lib.compareBytes a.data.toList b.data.toList))∧w'=w:=by
 go_enter Tryz.func107,Tryz.ntmps107
 go_wp2
 rw[run_callFunc_extern Tryz.func140 (by kernel_rfl) (by kernel_rfl) (by kernel_rfl) (e:=Extern.BytealgCompare.compare) (by kernel_rfl),Lib.run_compareString]
 simp only[Result.andThen]
 rw[Oper.upon_value]
 go_wp2
 go_ret
 exact⟨rfl,rfl⟩
theorem leafAt107:LeafAt Tryz.prog 107 leafCmp:=leaf_cmp (by kernel_rfl) leafW107
theorem leafAt124:LeafAt Tryz.prog 124 leafValid:=leaf_valid (g:=1) (h:=2) (by kernel_rfl) (by kernel_rfl) (by kernel_rfl) (fun s w h1 h2=>Any.utf8_ValidString Tryz.validS s w h1 h2)
theorem leafAt125:LeafAt Tryz.prog 125 (leafHas Tryz.prog):=leaf_has (by kernel_rfl) (by kernel_rfl) (fun g lb p s w eg hp=>Any.strings_ContainsFunc_grows Tryz.hasF g lb eg p s w hp)
theorem leafAt128:LeafAt Tryz.prog 128 leafCont:=leaf_cont (g:=0) (by kernel_rfl) (by kernel_rfl) (fun s t m w h1 h2=>Any.strings_Contains Tryz.contains s t m w h1 h2)
theorem leafAt168:LeafAt Tryz.prog 168 leafNone:=leaf_none
set_option maxHeartbeats 1000000 in
set_option maxRecDepth 100000 in
theorem leafW174(s:ByteArray)(c:Int)(w:World):Calls Tryz.prog 174 #[.string s,.int .u8 c] w fun e w'=>e= .returned (.int .i64 (Lib.indexByte s.data.toList c.toNat.toUInt8))∧w'=w:=by
 go_enter Tryz.func174,Tryz.ntmps174
 go_wp2
 rw[run_callFunc_extern Tryz.func192 (by kernel_rfl) (by kernel_rfl) (by kernel_rfl) (e:=Extern.BytealgIndexByte.indexByte) (by kernel_rfl),Lib.run_indexByteString]
 simp only[Result.andThen]
 rw[Oper.upon_value]
 go_wp2
 go_ret
 exact⟨rfl,rfl⟩
theorem leafAt174:LeafAt Tryz.prog 174 leafIdx:=leaf_idx (by kernel_rfl) leafW174
theorem leaves:LeafOK Tryz.prog cfg:=by
 intro f L h
 unfold cfg at h
 simp only at h
 split at h
 ·cases h;exact leafAt6
 ·cases h;exact leafAt13
 ·cases h;exact leafAt14
 ·cases h;exact leafAt59
 ·cases h;exact leafAt107
 ·cases h;exact leafAt124
 ·cases h;exact leafAt125
 ·cases h;exact leafAt128
 ·cases h;exact leafAt168
 ·cases h;exact leafAt174
 ·cases h
theorem callOK:∀n,CallOK Tryz.prog (callA Tryz.prog cfg n):=callA_sound leaves (draw_ok (by kernel_rfl))
end Go.Abs.TUS
