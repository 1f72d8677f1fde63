import Derived.Test.YtnaibaifmnjpnaaRTR0
import Derived.Test.YtnaibaifmnjpnaaRLayS
import Derived.Lib.Walk
import Derived.Lib.Bytealg
import Derived.WalkSpells
import Derived.Laws.AppendOwn
import Derived.ChangeAlike
import Derived.Lib.Hide
set_option maxRecDepth 100000
set_option linter.unusedVariables false
namespace Go.Abs.TR
open Go.RowKit Go.Proofs Go.Abs
theorem info_34 : (Try.prog.info? 64).map (fun i => (i.zero, i.size, i.bytes)) = some (some (.agg #[.int .i64 0, .int .i64 0, .int .i64 0, .int .i64 0]), 4, 32) := by kernel_rfl
set_option maxHeartbeats 1000000 in
theorem clone_some34 (a : Addr) (n c : Nat) (news : List Value) (w : World) (hl : news.length = n * 4) (hn : n ≤ maxLen) (hbig : n * 32 ≤ 140737488355328)
    (hc : ∀ j u, news[j]? = some u → w.cell? (a.add j) = some u) (h1 : ∀ u ∈ news, u.oneCell' = true) :
    Calls Try.prog 34 #[.slice (some a) n c] w fun e w' => ∃ v', e = .returned v' ∧ w'.ownsRow w.heap.size 64 4 v' n news ∧ Below w.heap.size w w' ∧ w.drawn ≤ w'.drawn := by
  obtain ⟨i0, hi, hz0, hz1, hz2⟩ := info_parts info_34
  have q22 : ∀ (w : World) (a : Option Addr) (n c n' c' : Nat), (binOp .eql 65 (.slice a n c) (.slice none n' c')).run Try.prog w = .ok (.bool a.isNone) w := fun w a n c n' c' => Lib.run_eql_slice_nil w _ _ a n c n' c' Try.underlying65
  have A := Lib.hid hc
  clear hc
  go_enter Try.func34, Try.ntmps34
  go_wp2_with (at_builtin; refine wpList_appD rfl _ _ 65 rfl w.heap.size 64 i0 (.agg #[.int .i64 0, .int .i64 0, .int .i64 0, .int .i64 0]) 4 32 Try.underlying65 hi hz0 hz1 hz2 rfl (by decide) _ _ _ rfl (World.ownsRow_made w #[] 0 (Nat.le_refl _) (Nat.zero_le _) (by simp)) a n c news rfl ?qc1 ?qc2 ?qc3 ?qc4 ?qc5 ?qc6 ?_)
  case qc1 => exact hl
  case qc2 =>
    intro j u hj
    exact Lib.cell?_alloc_some _ (A.out j u hj)
  case qc3 => exact h1
  case qc4 => rw [Nat.zero_add]; exact hn
  case qc5 => rw [Nat.zero_add]; exact hbig
  case qc6 => simp
  intro v' w1 hown hgrow hdr
  go_wp2
  go_ret
  refine ⟨v', rfl, by simpa using hown, ?_, hdr⟩
  exact ((Below.refl _ w).alloc (Nat.le_refl _) _).grown hgrow (by simp) (by intro k hk; simp [Value.ownBlock] at hk; omega)
theorem clone_nil34 (n c : Nat) (w : World) : Calls Try.prog 34 #[.slice none n c] w fun e w' => e = .returned (.slice none 0 0) ∧ w' = w := by
  have q22 : ∀ (w : World) (a : Option Addr) (n c n' c' : Nat), (binOp .eql 65 (.slice a n c) (.slice none n' c')).run Try.prog w = .ok (.bool a.isNone) w := fun w a n c n' c' => Lib.run_eql_slice_nil w _ _ a n c n' c' Try.underlying65
  go_enter Try.func34, Try.ntmps34
  go_wp2
  go_ret
  exact ⟨rfl, rfl⟩
theorem leafAt34 : LeafAt Try.prog 34 (leafClone Try.prog 64 4 32) := leaf_clone (by kernel_rfl) (by decide) clone_some34 clone_nil34
theorem leafAt250 : LeafAt Try.prog 250 (leafSortI 3) := leaf_sortI (by kernel_rfl) (fun blk off cap zs w h1 h2 h3 => Any.slices_Sort_int Try.sortInt blk off cap zs w h1 h2 h3) (fun p cap w => Any.slices_Sort_int_none Try.sortInt p cap w)
theorem leafAt251 : LeafAt Try.prog 251 (leafCompI 3) := leaf_compI (by kernel_rfl) (fun blk off cap zs w h1 h2 h3 => Any.slices_Compact_int Try.compactInt blk off cap zs w h1 h2 h3) (fun p cap w => Any.slices_Compact_int_empty Try.compactInt p cap w)
theorem leafAt263 : LeafAt Try.prog 263 (leafGrow Try.prog 64 4 32) := leaf_grow (by kernel_rfl) (by kernel_rfl) (fun base l c n w h1 h2 h3 h4 => Any8.slices_Grow_room Try.growRect base l c n w h1 h2 h3 h4) (fun i0 z h1 h2 h3 base l c n cs w h4 h5 h6 h7 h8 h9 h10 => Any8.slices_Grow_grow Try.growRect i0 z h1 h2 h3 base l c n cs w h4 h5 h6 h7 h8 h9 h10)
theorem leafAt288 : LeafAt Try.prog 288 (leafSortF Try.prog 267 2) := leaf_sortF (by kernel_rfl) (fun enc hk h1 cf hO g cb blk off cap d w eg hc hH hb hs => AnyQ.slices_SortFunc_eq Try.sortRun 2 (isAggT_run (t := 267) (by kernel_rfl)) (sizeT_run (t := 267) (by kernel_rfl)) enc hk h1 cf hO g cb blk off cap d w eg hc hH hb hs) (fun p cap fv w => AnyF.slices_SortFunc_none Try.sortRun p cap fv w)
theorem leaves : LeafOK Try.prog cfg := by
  intro f L h
  unfold cfg at h
  simp only at h
  split at h
  · cases h; exact leafAt34
  · cases h; exact leafAt250
  · cases h; exact leafAt251
  · cases h; exact leafAt263
  · cases h; exact leafAt288
  · cases h
theorem callOK : ∀ n, CallOK Try.prog (callA Try.prog cfg n) := callA_sound leaves (draw_ok (by kernel_rfl))
end Go.Abs.TR
