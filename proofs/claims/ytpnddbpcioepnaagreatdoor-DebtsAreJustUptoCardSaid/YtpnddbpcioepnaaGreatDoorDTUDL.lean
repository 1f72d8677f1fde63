import Derived.Test.YtpnddbpcioepnaaGreatDoorDTUD0
import Derived.Test.YtpnddbpcioepnaaGreatDoorDLayZ6
import Derived.Lib.Walk
import Derived.Lib.Bytealg
import Derived.WalkSpells
import Derived.Laws.AppendOwn
import Derived.ChangeAlike
import Derived.Lib.Hide
set_option maxRecDepth 100000
set_option linter.unusedVariables false
namespace Go.Abs.TUD
open Go.RowKit Go.Proofs Go.Abs
theorem leafAt26:LeafAt Tryz.prog 26 (leafSortF Tryz.prog 47 9):=leaf_sortF (by kernel_rfl) (fun enc hk h1 cf hO g cb blk off cap d w eg hc hH hb hs=>AnyQ.slices_SortFunc_eq Tryz.sortAlert 9 (isAggT_run (t:=47) (by kernel_rfl)) (sizeT_run (t:=47) (by kernel_rfl)) enc hk h1 cf hO g cb blk off cap d w eg hc hH hb hs) (fun p cap fv w=>AnyF.slices_SortFunc_none Tryz.sortAlert p cap fv w)
theorem leafAt35:LeafAt Tryz.prog 35 (leafSortF Tryz.prog 43 4):=leaf_sortF (by kernel_rfl) (fun enc hk h1 cf hO g cb blk off cap d w eg hc hH hb hs=>AnyQ.slices_SortFunc_eq Tryz.sortDebt 4 (isAggT_run (t:=43) (by kernel_rfl)) (sizeT_run (t:=43) (by kernel_rfl)) enc hk h1 cf hO g cb blk off cap d w eg hc hH hb hs) (fun p cap fv w=>AnyF.slices_SortFunc_none Tryz.sortDebt p cap fv w)
set_option maxHeartbeats 1000000 in
set_option maxRecDepth 100000 in
theorem leafW67(a b:ByteArray)(w:World):Calls Tryz.prog 67 #[.string a,.string b] w fun e w'=>e= .returned (.int .i64 (Lib.compareBytes a.data.toList b.data.toList))∧w'=w:=by
 go_enter Tryz.func67,Tryz.ntmps67
 go_wp2
 rw[run_callFunc_extern Tryz.func119 (by kernel_rfl) (by kernel_rfl) (by kernel_rfl) (e:=Extern.BytealgCompare.compare) (by kernel_rfl),Lib.run_compareString]
 simp only[Result.andThen]
 rw[Oper.upon_value]
 go_wp2
 go_ret
 exact⟨rfl,rfl⟩
theorem leafAt67:LeafAt Tryz.prog 67 leafCmp:=leaf_cmp (by kernel_rfl) leafW67
theorem leafAt95:LeafAt Tryz.prog 95 (leafSortI 3):=leaf_sortI (by kernel_rfl) (fun blk off cap zs w h1 h2 h3=>Any.slices_Sort_int Tryz.sortInt blk off cap zs w h1 h2 h3) (fun p cap w=>Any.slices_Sort_int_none Tryz.sortInt p cap w)
theorem leafAt96:LeafAt Tryz.prog 96 (leafCompI 3):=leaf_compI (by kernel_rfl) (fun blk off cap zs w h1 h2 h3=>Any.slices_Compact_int Tryz.compactInt blk off cap zs w h1 h2 h3) (fun p cap w=>Any.slices_Compact_int_empty Tryz.compactInt p cap w)
theorem leafAt155:LeafAt Tryz.prog 155 (leafGrow Tryz.prog 65 4 32):=leaf_grow (by kernel_rfl) (by kernel_rfl) (fun base l c n w h1 h2 h3 h4=>Any8.slices_Grow_room Tryz.growRect base l c n w h1 h2 h3 h4) (fun i0 z h1 h2 h3 base l c n cs w h4 h5 h6 h7 h8 h9 h10=>Any8.slices_Grow_grow Tryz.growRect i0 z h1 h2 h3 base l c n cs w h4 h5 h6 h7 h8 h9 h10)
theorem leafAt156:LeafAt Tryz.prog 156 (leafSortF Tryz.prog 174 2):=leaf_sortF (by kernel_rfl) (fun enc hk h1 cf hO g cb blk off cap d w eg hc hH hb hs=>AnyQ.slices_SortFunc_eq Tryz.sortRun 2 (isAggT_run (t:=174) (by kernel_rfl)) (sizeT_run (t:=174) (by kernel_rfl)) enc hk h1 cf hO g cb blk off cap d w eg hc hH hb hs) (fun p cap fv w=>AnyF.slices_SortFunc_none Tryz.sortRun p cap fv w)
theorem leafAt168:LeafAt Tryz.prog 168 leafCont:=leaf_cont (g:=0) (by kernel_rfl) (by kernel_rfl) (fun s t m w h1 h2=>Any.strings_Contains Tryz.contains s t m w h1 h2)
theorem leafAt194:LeafAt Tryz.prog 194 leafNone:=leaf_none
theorem leaves:LeafOK Tryz.prog cfg:=by
 intro f L h
 unfold cfg at h
 simp only at h
 split at h
 ·cases h;exact leafAt26
 ·cases h;exact leafAt35
 ·cases h;exact leafAt67
 ·cases h;exact leafAt95
 ·cases h;exact leafAt96
 ·cases h;exact leafAt155
 ·cases h;exact leafAt156
 ·cases h;exact leafAt168
 ·cases h;exact leafAt194
 ·cases h
theorem callOK:∀n,CallOK Tryz.prog (callA Tryz.prog cfg n):=callA_sound leaves (draw_ok (by kernel_rfl))
end Go.Abs.TUD
