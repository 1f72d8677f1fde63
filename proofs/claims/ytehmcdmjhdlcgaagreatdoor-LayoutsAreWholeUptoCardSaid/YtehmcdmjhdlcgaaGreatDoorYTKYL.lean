import Derived.Test.YtehmcdmjhdlcgaaGreatDoorYTKY0
import Derived.Test.YtehmcdmjhdlcgaaGreatDoorYLayK
import Derived.Lib.Walk
import Derived.Lib.Bytealg
import Derived.WalkSpells
import Derived.Laws.AppendOwn
import Derived.ChangeAlike
import Derived.Lib.Hide
set_option maxRecDepth 100000
set_option linter.unusedVariables false
namespace Go.Abs.TKY
open Go.RowKit Go.Proofs Go.Abs
theorem leafAt62 : LeafAt Tryz.prog 62 (leafGrow Tryz.prog 29 4 32) := leaf_grow (by kernel_rfl) (by kernel_rfl) (fun base l c n w h1 h2 h3 h4 => Any8.slices_Grow_room Tryz.growRect base l c n w h1 h2 h3 h4) (fun i0 z h1 h2 h3 base l c n cs w h4 h5 h6 h7 h8 h9 h10 => Any8.slices_Grow_grow Tryz.growRect i0 z h1 h2 h3 base l c n cs w h4 h5 h6 h7 h8 h9 h10)
theorem leafAt103 : LeafAt Tryz.prog 103 (leafSortI 3) := leaf_sortI (by kernel_rfl) (fun blk off cap zs w h1 h2 h3 => Any.slices_Sort_int Tryz.sortInt blk off cap zs w h1 h2 h3) (fun p cap w => Any.slices_Sort_int_none Tryz.sortInt p cap w)
theorem leafAt104 : LeafAt Tryz.prog 104 (leafCompI 3) := leaf_compI (by kernel_rfl) (fun blk off cap zs w h1 h2 h3 => Any.slices_Compact_int Tryz.compactInt blk off cap zs w h1 h2 h3) (fun p cap w => Any.slices_Compact_int_empty Tryz.compactInt p cap w)
theorem leafAt128 : LeafAt Tryz.prog 128 (leafSortF Tryz.prog 183 2) := leaf_sortF (by kernel_rfl) (fun enc hk h1 cf hO g cb blk off cap d w eg hc hH hb hs => AnyQ.slices_SortFunc_eq Tryz.sortRun 2 (isAggT_run (t := 183) (by kernel_rfl)) (sizeT_run (t := 183) (by kernel_rfl)) enc hk h1 cf hO g cb blk off cap d w eg hc hH hb hs) (fun p cap fv w => AnyF.slices_SortFunc_none Tryz.sortRun p cap fv w)
set_option maxHeartbeats 1000000 in
set_option maxRecDepth 100000 in
theorem leafW161 (a b : ByteArray) (w : World) : Calls Tryz.prog 161 #[.string a, .string b] w fun e w' => e = .returned (.int .i64 (Lib.compareBytes a.data.toList b.data.toList)) ∧ w' = w := by
  go_enter Tryz.func161, Tryz.ntmps161
  go_wp2
  rw [run_callFunc_extern Tryz.func181 (by kernel_rfl) (by kernel_rfl) (by kernel_rfl) (e := Extern.BytealgCompare.compare) (by kernel_rfl), Lib.run_compareString]
  simp only [Result.andThen]
  rw [Oper.upon_value]
  go_wp2
  go_ret
  exact ⟨rfl, rfl⟩
theorem leafAt161 : LeafAt Tryz.prog 161 leafCmp := leaf_cmp (by kernel_rfl) leafW161
set_option maxHeartbeats 1000000 in
set_option maxRecDepth 100000 in
theorem leafW180 (s : ByteArray) (c : Int) (w : World) : Calls Tryz.prog 180 #[.string s, .int .u8 c] w fun e w' => e = .returned (.int .i64 (Lib.indexByte s.data.toList c.toNat.toUInt8)) ∧ w' = w := by
  go_enter Tryz.func180, Tryz.ntmps180
  go_wp2
  rw [run_callFunc_extern Tryz.func189 (by kernel_rfl) (by kernel_rfl) (by kernel_rfl) (e := Extern.BytealgIndexByte.indexByte) (by kernel_rfl), Lib.run_indexByteString]
  simp only [Result.andThen]
  rw [Oper.upon_value]
  go_wp2
  go_ret
  exact ⟨rfl, rfl⟩
theorem leafAt180 : LeafAt Tryz.prog 180 leafIdx := leaf_idx (by kernel_rfl) leafW180
theorem leafAt191 : LeafAt Tryz.prog 191 leafNone := leaf_none
theorem leafAt194 : LeafAt Tryz.prog 194 leafNone := leaf_none
theorem leaves : LeafOK Tryz.prog cfg := by
  intro f L h
  unfold cfg at h
  simp only at h
  split at h
  · cases h; exact leafAt62
  · cases h; exact leafAt103
  · cases h; exact leafAt104
  · cases h; exact leafAt128
  · cases h; exact leafAt161
  · cases h; exact leafAt180
  · cases h; exact leafAt191
  · cases h; exact leafAt194
  · cases h
theorem callOK : ∀ n, CallOK Tryz.prog (callA Tryz.prog cfg n) := callA_sound leaves (draw_ok (by kernel_rfl))
end Go.Abs.TKY
