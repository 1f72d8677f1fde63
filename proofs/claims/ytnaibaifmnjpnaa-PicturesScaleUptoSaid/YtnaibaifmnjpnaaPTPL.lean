import Derived.Test.YtnaibaifmnjpnaaPTP0
import Derived.Test.YtnaibaifmnjpnaaPLayS
import Derived.Lib.Walk
import Derived.Lib.Bytealg
import Derived.WalkSpells
import Derived.Laws.AppendOwn
import Derived.ChangeAlike
import Derived.Lib.Hide
set_option maxRecDepth 100000
set_option linter.unusedVariables false
namespace Go.Abs.TP
open Go.RowKit Go.Proofs Go.Abs
theorem leafAt250 : LeafAt Try.prog 250 (leafSortI 3) := leaf_sortI (by kernel_rfl) (fun blk off cap zs w h1 h2 h3 => Any.slices_Sort_int Try.sortInt blk off cap zs w h1 h2 h3) (fun p cap w => Any.slices_Sort_int_none Try.sortInt p cap w)
theorem leafAt251 : LeafAt Try.prog 251 (leafCompI 3) := leaf_compI (by kernel_rfl) (fun blk off cap zs w h1 h2 h3 => Any.slices_Compact_int Try.compactInt blk off cap zs w h1 h2 h3) (fun p cap w => Any.slices_Compact_int_empty Try.compactInt p cap w)
theorem leafAt263 : LeafAt Try.prog 263 (leafGrow Try.prog 64 4 32) := leaf_grow (by kernel_rfl) (by kernel_rfl) (fun base l c n w h1 h2 h3 h4 => Any8.slices_Grow_room Try.growRect base l c n w h1 h2 h3 h4) (fun i0 z h1 h2 h3 base l c n cs w h4 h5 h6 h7 h8 h9 h10 => Any8.slices_Grow_grow Try.growRect i0 z h1 h2 h3 base l c n cs w h4 h5 h6 h7 h8 h9 h10)
theorem leafAt288 : LeafAt Try.prog 288 (leafSortF Try.prog 267 2) := leaf_sortF (by kernel_rfl) (fun enc hk h1 cf hO g cb blk off cap d w eg hc hH hb hs => AnyQ.slices_SortFunc_eq Try.sortRun 2 (isAggT_run (t := 267) (by kernel_rfl)) (sizeT_run (t := 267) (by kernel_rfl)) enc hk h1 cf hO g cb blk off cap d w eg hc hH hb hs) (fun p cap fv w => AnyF.slices_SortFunc_none Try.sortRun p cap fv w)
theorem leaves : LeafOK Try.prog cfg := by
  intro f L h
  unfold cfg at h
  simp only at h
  split at h
  · cases h; exact leafAt250
  · cases h; exact leafAt251
  · cases h; exact leafAt263
  · cases h; exact leafAt288
  · cases h
theorem callOK : ∀ n, CallOK Try.prog (callA Try.prog cfg n) := callA_sound leaves (draw_ok (by kernel_rfl))
end Go.Abs.TP
