import Derived.Test.YtpnddbpcioepnaaGreatDoorFTUB0
import Derived.Test.YtpnddbpcioepnaaGreatDoorFLayZ7
import Derived.Lib.Walk
import Derived.Lib.Bytealg
import Derived.WalkSpells
import Derived.Laws.AppendOwn
import Derived.ChangeAlike
import Derived.Lib.Hide
set_option maxRecDepth 100000
set_option linter.unusedVariables false
namespace Go.Abs.TUB
open Go.RowKit Go.Proofs Go.Abs
theorem info_20:(Tryz.prog.info? 33).map (fun i=>(i.zero,i.size,i.bytes))=some (some (.agg #[.string (ByteArray.mk #[]),.int .i64 0,.int .i64 0]),3,32):=by kernel_rfl
set_option maxHeartbeats 1000000 in
theorem clone_some20(a:Addr)(n c:Nat)(news:List Value)(w:World)(hl:news.length=n*3)(hn:n≤maxLen)(hbig:n*32≤140737488355328)
  (hc:∀j u,news[j]? = some u→w.cell? (a.add j)=some u) (h1:∀u∈news,u.oneCell'=true) :
  Calls Tryz.prog 20 #[.slice (some a) n c] w fun e w'=>∃v',e= .returned v'∧w'.ownsRow w.heap.size 33 3 v' n news∧Below w.heap.size w w'∧w.drawn≤w'.drawn:=by
 obtain⟨i0,hi,hz0,hz1,hz2⟩:=info_parts info_20
 have q22:∀(w:World)(a:Option Addr)(n c n' c':Nat),(binOp .eql 28 (.slice a n c) (.slice none n' c')).run Tryz.prog w= .ok (.bool a.isNone) w:=fun w a n c n' c'=>Lib.run_eql_slice_nil w _ _ a n c n' c' Tryz.underlying28
 have A:=Lib.hid hc
 clear hc
 go_enter Tryz.func20,Tryz.ntmps20
 go_wp2_with (at_builtin;refine wpList_appD rfl _ _ 28 rfl w.heap.size 33 i0 (.agg #[.string (ByteArray.mk #[]),.int .i64 0,.int .i64 0]) 3 32 Tryz.underlying28 hi hz0 hz1 hz2 rfl (by decide) _ _ _ rfl (World.ownsRow_made w #[] 0 (Nat.le_refl _) (Nat.zero_le _) (by simp)) a n c news rfl ?qc1 ?qc2 ?qc3 ?qc4 ?qc5 ?qc6 ?_)
 case qc1=>exact hl
 case qc2=>
  intro j u hj
  exact Lib.cell?_alloc_some _ (A.out j u hj)
 case qc3=>exact h1
 case qc4=>rw[Nat.zero_add];exact hn
 case qc5=>rw[Nat.zero_add];exact hbig
 case qc6=>simp
 intro v' w1 hown hgrow hdr
 go_wp2
 go_ret
 refine⟨v',rfl,by simpa using hown,?_,hdr⟩
 exact((Below.refl _ w).alloc (Nat.le_refl _) _).grown hgrow (by simp) (by intro k hk;simp[Value.ownBlock]at hk;omega)
theorem clone_nil20(n c:Nat)(w:World):Calls Tryz.prog 20 #[.slice none n c] w fun e w'=>e= .returned (.slice none 0 0)∧w'=w:=by
 have q22:∀(w:World)(a:Option Addr)(n c n' c':Nat),(binOp .eql 28 (.slice a n c) (.slice none n' c')).run Tryz.prog w= .ok (.bool a.isNone) w:=fun w a n c n' c'=>Lib.run_eql_slice_nil w _ _ a n c n' c' Tryz.underlying28
 go_enter Tryz.func20,Tryz.ntmps20
 go_wp2
 go_ret
 exact⟨rfl,rfl⟩
theorem leafAt20:LeafAt Tryz.prog 20 (leafClone Tryz.prog 33 3 32):=leaf_clone (by kernel_rfl) (by decide) clone_some20 clone_nil20
theorem leafAt26:LeafAt Tryz.prog 26 (leafSortF Tryz.prog 47 9):=leaf_sortF (by kernel_rfl) (fun enc hk h1 cf hO g cb blk off cap d w eg hc hH hb hs=>AnyQ.slices_SortFunc_eq Tryz.sortAlert 9 (isAggT_run (t:=47) (by kernel_rfl)) (sizeT_run (t:=47) (by kernel_rfl)) enc hk h1 cf hO g cb blk off cap d w eg hc hH hb hs) (fun p cap fv w=>AnyF.slices_SortFunc_none Tryz.sortAlert p cap fv w)
theorem info_46:(Tryz.prog.info? 9).map (fun i=>(i.zero,i.size,i.bytes))=some (some (.string (ByteArray.mk #[])),1,16):=by kernel_rfl
set_option maxHeartbeats 1000000 in
theorem clone_some46(a:Addr)(n c:Nat)(news:List Value)(w:World)(hl:news.length=n*1)(hn:n≤maxLen)(hbig:n*16≤140737488355328)
  (hc:∀j u,news[j]? = some u→w.cell? (a.add j)=some u) (h1:∀u∈news,u.oneCell'=true) :
  Calls Tryz.prog 46 #[.slice (some a) n c] w fun e w'=>∃v',e= .returned v'∧w'.ownsRow w.heap.size 9 1 v' n news∧Below w.heap.size w w'∧w.drawn≤w'.drawn:=by
 obtain⟨i0,hi,hz0,hz1,hz2⟩:=info_parts info_46
 have q22:∀(w:World)(a:Option Addr)(n c n' c':Nat),(binOp .eql 34 (.slice a n c) (.slice none n' c')).run Tryz.prog w= .ok (.bool a.isNone) w:=fun w a n c n' c'=>Lib.run_eql_slice_nil w _ _ a n c n' c' Tryz.underlying34
 have A:=Lib.hid hc
 clear hc
 go_enter Tryz.func46,Tryz.ntmps46
 go_wp2_with (at_builtin;refine wpList_appD rfl _ _ 34 rfl w.heap.size 9 i0 (.string (ByteArray.mk #[])) 1 16 Tryz.underlying34 hi hz0 hz1 hz2 rfl (by decide) _ _ _ rfl (World.ownsRow_made w #[] 0 (Nat.le_refl _) (Nat.zero_le _) (by simp)) a n c news rfl ?qc1 ?qc2 ?qc3 ?qc4 ?qc5 ?qc6 ?_)
 case qc1=>exact hl
 case qc2=>
  intro j u hj
  exact Lib.cell?_alloc_some _ (A.out j u hj)
 case qc3=>exact h1
 case qc4=>rw[Nat.zero_add];exact hn
 case qc5=>rw[Nat.zero_add];exact hbig
 case qc6=>simp
 intro v' w1 hown hgrow hdr
 go_wp2
 go_ret
 refine⟨v',rfl,by simpa using hown,?_,hdr⟩
 exact((Below.refl _ w).alloc (Nat.le_refl _) _).grown hgrow (by simp) (by intro k hk;simp[Value.ownBlock]at hk;omega)
theorem clone_nil46(n c:Nat)(w:World):Calls Tryz.prog 46 #[.slice none n c] w fun e w'=>e= .returned (.slice none 0 0)∧w'=w:=by
 have q22:∀(w:World)(a:Option Addr)(n c n' c':Nat),(binOp .eql 34 (.slice a n c) (.slice none n' c')).run Tryz.prog w= .ok (.bool a.isNone) w:=fun w a n c n' c'=>Lib.run_eql_slice_nil w _ _ a n c n' c' Tryz.underlying34
 go_enter Tryz.func46,Tryz.ntmps46
 go_wp2
 go_ret
 exact⟨rfl,rfl⟩
theorem leafAt46:LeafAt Tryz.prog 46 (leafClone Tryz.prog 9 1 16):=leaf_clone (by kernel_rfl) (by decide) clone_some46 clone_nil46
theorem info_47:(Tryz.prog.info? 65).map (fun i=>(i.zero,i.size,i.bytes))=some (some (.agg #[.int .i64 0,.int .i64 0,.int .i64 0,.int .i64 0]),4,32):=by kernel_rfl
set_option maxHeartbeats 1000000 in
theorem clone_some47(a:Addr)(n c:Nat)(news:List Value)(w:World)(hl:news.length=n*4)(hn:n≤maxLen)(hbig:n*32≤140737488355328)
  (hc:∀j u,news[j]? = some u→w.cell? (a.add j)=some u) (h1:∀u∈news,u.oneCell'=true) :
  Calls Tryz.prog 47 #[.slice (some a) n c] w fun e w'=>∃v',e= .returned v'∧w'.ownsRow w.heap.size 65 4 v' n news∧Below w.heap.size w w'∧w.drawn≤w'.drawn:=by
 obtain⟨i0,hi,hz0,hz1,hz2⟩:=info_parts info_47
 have q22:∀(w:World)(a:Option Addr)(n c n' c':Nat),(binOp .eql 45 (.slice a n c) (.slice none n' c')).run Tryz.prog w= .ok (.bool a.isNone) w:=fun w a n c n' c'=>Lib.run_eql_slice_nil w _ _ a n c n' c' Tryz.underlying45
 have A:=Lib.hid hc
 clear hc
 go_enter Tryz.func47,Tryz.ntmps47
 go_wp2_with (at_builtin;refine wpList_appD rfl _ _ 45 rfl w.heap.size 65 i0 (.agg #[.int .i64 0,.int .i64 0,.int .i64 0,.int .i64 0]) 4 32 Tryz.underlying45 hi hz0 hz1 hz2 rfl (by decide) _ _ _ rfl (World.ownsRow_made w #[] 0 (Nat.le_refl _) (Nat.zero_le _) (by simp)) a n c news rfl ?qc1 ?qc2 ?qc3 ?qc4 ?qc5 ?qc6 ?_)
 case qc1=>exact hl
 case qc2=>
  intro j u hj
  exact Lib.cell?_alloc_some _ (A.out j u hj)
 case qc3=>exact h1
 case qc4=>rw[Nat.zero_add];exact hn
 case qc5=>rw[Nat.zero_add];exact hbig
 case qc6=>simp
 intro v' w1 hown hgrow hdr
 go_wp2
 go_ret
 refine⟨v',rfl,by simpa using hown,?_,hdr⟩
 exact((Below.refl _ w).alloc (Nat.le_refl _) _).grown hgrow (by simp) (by intro k hk;simp[Value.ownBlock]at hk;omega)
theorem clone_nil47(n c:Nat)(w:World):Calls Tryz.prog 47 #[.slice none n c] w fun e w'=>e= .returned (.slice none 0 0)∧w'=w:=by
 have q22:∀(w:World)(a:Option Addr)(n c n' c':Nat),(binOp .eql 45 (.slice a n c) (.slice none n' c')).run Tryz.prog w= .ok (.bool a.isNone) w:=fun w a n c n' c'=>Lib.run_eql_slice_nil w _ _ a n c n' c' Tryz.underlying45
 go_enter Tryz.func47,Tryz.ntmps47
 go_wp2
 go_ret
 exact⟨rfl,rfl⟩
theorem leafAt47:LeafAt Tryz.prog 47 (leafClone Tryz.prog 65 4 32):=leaf_clone (by kernel_rfl) (by decide) clone_some47 clone_nil47
set_option maxHeartbeats 1000000 in
set_option maxRecDepth 100000 in
theorem leafW67(a b:ByteArray)(w:World):Calls Tryz.prog 67 #[.string a,.string b] w fun e w'=>e= .returned (.int .i64 (Lib.compareBytes a.data.toList b.data.toList))∧w'=w:=by
 go_enter Tryz.func67,Tryz.ntmps67
 go_wp2
 rw[run_callFunc_extern Tryz.func119 (by kernel_rfl) (by kernel_rfl) (by kernel_rfl) (e:=Extern.BytealgCompare.compare) (by kernel_rfl),Lib.run_compareString]
 simp only[Result.andThen]
 rw[Oper.upon_value]
 go_wp2
 go_ret
 exact⟨rfl,rfl⟩
theorem leafAt67:LeafAt Tryz.prog 67 leafCmp:=leaf_cmp (by kernel_rfl) leafW67
theorem leafAt95:LeafAt Tryz.prog 95 (leafSortI 3):=leaf_sortI (by kernel_rfl) (fun blk off cap zs w h1 h2 h3=>Any.slices_Sort_int Tryz.sortInt blk off cap zs w h1 h2 h3) (fun p cap w=>Any.slices_Sort_int_none Tryz.sortInt p cap w)
theorem leafAt96:LeafAt Tryz.prog 96 (leafCompI 3):=leaf_compI (by kernel_rfl) (fun blk off cap zs w h1 h2 h3=>Any.slices_Compact_int Tryz.compactInt blk off cap zs w h1 h2 h3) (fun p cap w=>Any.slices_Compact_int_empty Tryz.compactInt p cap w)
theorem leafAt164:LeafAt Tryz.prog 164 leafValid:=leaf_valid (g:=1) (h:=2) (by kernel_rfl) (by kernel_rfl) (by kernel_rfl) (fun s w h1 h2=>Any.utf8_ValidString Tryz.validS s w h1 h2)
theorem leafAt165:LeafAt Tryz.prog 165 (leafHas Tryz.prog):=leaf_has (by kernel_rfl) (by kernel_rfl) (fun g lb p s w eg hp=>Any.strings_ContainsFunc_grows Tryz.hasF g lb eg p s w hp)
theorem leafAt168:LeafAt Tryz.prog 168 leafCont:=leaf_cont (g:=0) (by kernel_rfl) (by kernel_rfl) (fun s t m w h1 h2=>Any.strings_Contains Tryz.contains s t m w h1 h2)
theorem leafAt194:LeafAt Tryz.prog 194 leafNone:=leaf_none
set_option maxHeartbeats 1000000 in
set_option maxRecDepth 100000 in
theorem leafW200(s:ByteArray)(c:Int)(w:World):Calls Tryz.prog 200 #[.string s,.int .u8 c] w fun e w'=>e= .returned (.int .i64 (Lib.indexByte s.data.toList c.toNat.toUInt8))∧w'=w:=by
 go_enter Tryz.func200,Tryz.ntmps200
 go_wp2
 rw[run_callFunc_extern Tryz.func220 (by kernel_rfl) (by kernel_rfl) (by kernel_rfl) (e:=Extern.BytealgIndexByte.indexByte) (by kernel_rfl),Lib.run_indexByteString]
 simp only[Result.andThen]
 rw[Oper.upon_value]
 go_wp2
 go_ret
 exact⟨rfl,rfl⟩
theorem leafAt200:LeafAt Tryz.prog 200 leafIdx:=leaf_idx (by kernel_rfl) leafW200
theorem leaves:LeafOK Tryz.prog cfg:=by
 intro f L h
 unfold cfg at h
 simp only at h
 split at h
 ·cases h;exact leafAt20
 ·cases h;exact leafAt26
 ·cases h;exact leafAt46
 ·cases h;exact leafAt47
 ·cases h;exact leafAt67
 ·cases h;exact leafAt95
 ·cases h;exact leafAt96
 ·cases h;exact leafAt164
 ·cases h;exact leafAt165
 ·cases h;exact leafAt168
 ·cases h;exact leafAt194
 ·cases h;exact leafAt200
 ·cases h
theorem callOK:∀n,CallOK Tryz.prog (callA Tryz.prog cfg n):=callA_sound leaves (draw_ok (by kernel_rfl))
end Go.Abs.TUB
