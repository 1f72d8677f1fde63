import Derived.Test.YtkipmdkhhpicbaaGreatDoorBTTB0
import Derived.Test.YtkipmdkhhpicbaaGreatDoorBLayC4
import Derived.Lib.Walk
import Derived.Lib.Bytealg
import Derived.WalkSpells
import Derived.Laws.AppendOwn
import Derived.ChangeAlike
import Derived.Lib.Hide
set_option maxRecDepth 100000
set_option linter.unusedVariables false
namespace Go.Abs.TTB
open Go.RowKit Go.Proofs Go.Abs
theorem leafAt82:LeafAt Tryz.prog 82 (leafSortF Tryz.prog 34 9):=leaf_sortF (by kernel_rfl) (fun enc hk h1 cf hO g cb blk off cap d w eg hc hH hb hs=>AnyQ.slices_SortFunc_eq Tryz.sortAlert 9 (isAggT_run (t:=34) (by kernel_rfl)) (sizeT_run (t:=34) (by kernel_rfl)) enc hk h1 cf hO g cb blk off cap d w eg hc hH hb hs) (fun p cap fv w=>AnyF.slices_SortFunc_none Tryz.sortAlert p cap fv w)
theorem leafAt152:LeafAt Tryz.prog 152 (leafSortI 3):=leaf_sortI (by kernel_rfl) (fun blk off cap zs w h1 h2 h3=>Any.slices_Sort_int Tryz.sortInt blk off cap zs w h1 h2 h3) (fun p cap w=>Any.slices_Sort_int_none Tryz.sortInt p cap w)
theorem leafAt153:LeafAt Tryz.prog 153 (leafCompI 3):=leaf_compI (by kernel_rfl) (fun blk off cap zs w h1 h2 h3=>Any.slices_Compact_int Tryz.compactInt blk off cap zs w h1 h2 h3) (fun p cap w=>Any.slices_Compact_int_empty Tryz.compactInt p cap w)
theorem leafAt169:LeafAt Tryz.prog 169 (leafSortF Tryz.prog 205 3):=leaf_sortF (by kernel_rfl) (fun enc hk h1 cf hO g cb blk off cap d w eg hc hH hb hs=>AnyQ.slices_SortFunc_eq Tryz.sortSpan 3 (isAggT_run (t:=205) (by kernel_rfl)) (sizeT_run (t:=205) (by kernel_rfl)) enc hk h1 cf hO g cb blk off cap d w eg hc hH hb hs) (fun p cap fv w=>AnyF.slices_SortFunc_none Tryz.sortSpan p cap fv w)
set_option maxHeartbeats 1000000 in
set_option maxRecDepth 100000 in
theorem leafW183(a b:ByteArray)(w:World):Calls Tryz.prog 183 #[.string a,.string b] w fun e w'=>e= .returned (.int .i64 (Lib.compareBytes a.data.toList b.data.toList))∧w'=w:=by
 go_enter Tryz.func183,Tryz.ntmps183
 go_wp2
 rw[run_callFunc_extern Tryz.func240 (by kernel_rfl) (by kernel_rfl) (by kernel_rfl) (e:=Extern.BytealgCompare.compare) (by kernel_rfl),Lib.run_compareString]
 simp only[Result.andThen]
 rw[Oper.upon_value]
 go_wp2
 go_ret
 exact⟨rfl,rfl⟩
theorem leafAt183:LeafAt Tryz.prog 183 leafCmp:=leaf_cmp (by kernel_rfl) leafW183
theorem leafAt214:LeafAt Tryz.prog 214 (leafGrow Tryz.prog 41 4 32):=leaf_grow (by kernel_rfl) (by kernel_rfl) (fun base l c n w h1 h2 h3 h4=>Any8.slices_Grow_room Tryz.growRect base l c n w h1 h2 h3 h4) (fun i0 z h1 h2 h3 base l c n cs w h4 h5 h6 h7 h8 h9 h10=>Any8.slices_Grow_grow Tryz.growRect i0 z h1 h2 h3 base l c n cs w h4 h5 h6 h7 h8 h9 h10)
theorem leafAt216:LeafAt Tryz.prog 216 (leafSortF Tryz.prog 249 2):=leaf_sortF (by kernel_rfl) (fun enc hk h1 cf hO g cb blk off cap d w eg hc hH hb hs=>AnyQ.slices_SortFunc_eq Tryz.sortRun 2 (isAggT_run (t:=249) (by kernel_rfl)) (sizeT_run (t:=249) (by kernel_rfl)) enc hk h1 cf hO g cb blk off cap d w eg hc hH hb hs) (fun p cap fv w=>AnyF.slices_SortFunc_none Tryz.sortRun p cap fv w)
theorem leafAt297:LeafAt Tryz.prog 297 leafCont:=leaf_cont (g:=0) (by kernel_rfl) (by kernel_rfl) (fun s t m w h1 h2=>Any.strings_Contains Tryz.contains s t m w h1 h2)
theorem leafAt327:LeafAt Tryz.prog 327 leafNone:=leaf_none
theorem leaves:LeafOK Tryz.prog cfg:=by
 intro f L h
 unfold cfg at h
 simp only at h
 split at h
 ·cases h;exact leafAt82
 ·cases h;exact leafAt152
 ·cases h;exact leafAt153
 ·cases h;exact leafAt169
 ·cases h;exact leafAt183
 ·cases h;exact leafAt214
 ·cases h;exact leafAt216
 ·cases h;exact leafAt297
 ·cases h;exact leafAt327
 ·cases h
theorem callOK:∀n,CallOK Tryz.prog (callA Tryz.prog cfg n):=callA_sound leaves (draw_ok (by kernel_rfl))
end Go.Abs.TTB
