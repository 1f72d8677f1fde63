import Derived.Test.YtehmcdmjhdlcgaaGreatDoorQTKV0
import Derived.Test.YtehmcdmjhdlcgaaGreatDoorQLayK
import Derived.Lib.Walk
import Derived.Lib.Bytealg
import Derived.WalkSpells
import Derived.Laws.AppendOwn
import Derived.ChangeAlike
import Derived.Lib.Hide
set_option maxRecDepth 100000
set_option linter.unusedVariables false
namespace Go.Abs.TKV
open Go.RowKit Go.Proofs Go.Abs
theorem leafAt62 : LeafAt Tryz.prog 62 (leafGrow Tryz.prog 29 4 32) := leaf_grow (by kernel_rfl) (by kernel_rfl) (fun base l c n w h1 h2 h3 h4 => Any8.slices_Grow_room Tryz.growRect base l c n w h1 h2 h3 h4) (fun i0 z h1 h2 h3 base l c n cs w h4 h5 h6 h7 h8 h9 h10 => Any8.slices_Grow_grow Tryz.growRect i0 z h1 h2 h3 base l c n cs w h4 h5 h6 h7 h8 h9 h10)
theorem info_84 : (Tryz.prog.info? 158).map (fun i => (i.zero, i.size, i.bytes)) = some (some (.agg #[.string (ByteArray.mk #[]), .int .i64 0, .int .i64 0, .int .i64 0, .int .i64 0]), 5, 48) := by kernel_rfl
set_option maxHeartbeats 1000000 in
theorem clone_some84 (a : Addr) (n c : Nat) (news : List Value) (w : World) (hl : news.length = n * 5) (hn : n ≤ maxLen) (hbig : n * 48 ≤ 140737488355328)
    (hc : ∀ j u, news[j]? = some u → w.cell? (a.add j) = some u) (h1 : ∀ u ∈ news, u.oneCell' = true) :
    Calls Tryz.prog 84 #[.slice (some a) n c] w fun e w' => ∃ v', e = .returned v' ∧ w'.ownsRow w.heap.size 158 5 v' n news ∧ Below w.heap.size w w' ∧ w.drawn ≤ w'.drawn := by
  obtain ⟨i0, hi, hz0, hz1, hz2⟩ := info_parts info_84
  have q22 : ∀ (w : World) (a : Option Addr) (n c n' c' : Nat), (binOp .eql 70 (.slice a n c) (.slice none n' c')).run Tryz.prog w = .ok (.bool a.isNone) w := fun w a n c n' c' => Lib.run_eql_slice_nil w _ _ a n c n' c' Tryz.underlying70
  have A := Lib.hid hc
  clear hc
  go_enter Tryz.func84, Tryz.ntmps84
  go_wp2_with (at_builtin; refine wpList_appD rfl _ _ 70 rfl w.heap.size 158 i0 (.agg #[.string (ByteArray.mk #[]), .int .i64 0, .int .i64 0, .int .i64 0, .int .i64 0]) 5 48 Tryz.underlying70 hi hz0 hz1 hz2 rfl (by decide) _ _ _ rfl (World.ownsRow_made w #[] 0 (Nat.le_refl _) (Nat.zero_le _) (by simp)) a n c news rfl ?qc1 ?qc2 ?qc3 ?qc4 ?qc5 ?qc6 ?_)
  case qc1 => exact hl
  case qc2 =>
    intro j u hj
    exact Lib.cell?_alloc_some _ (A.out j u hj)
  case qc3 => exact h1
  case qc4 => rw [Nat.zero_add]; exact hn
  case qc5 => rw [Nat.zero_add]; exact hbig
  case qc6 => simp
  intro v' w1 hown hgrow hdr
  go_wp2
  go_ret
  refine ⟨v', rfl, by simpa using hown, ?_, hdr⟩
  exact ((Below.refl _ w).alloc (Nat.le_refl _) _).grown hgrow (by simp) (by intro k hk; simp [Value.ownBlock] at hk; omega)
theorem clone_nil84 (n c : Nat) (w : World) : Calls Tryz.prog 84 #[.slice none n c] w fun e w' => e = .returned (.slice none 0 0) ∧ w' = w := by
  have q22 : ∀ (w : World) (a : Option Addr) (n c n' c' : Nat), (binOp .eql 70 (.slice a n c) (.slice none n' c')).run Tryz.prog w = .ok (.bool a.isNone) w := fun w a n c n' c' => Lib.run_eql_slice_nil w _ _ a n c n' c' Tryz.underlying70
  go_enter Tryz.func84, Tryz.ntmps84
  go_wp2
  go_ret
  exact ⟨rfl, rfl⟩
theorem leafAt84 : LeafAt Tryz.prog 84 (leafClone Tryz.prog 158 5 48) := leaf_clone (by kernel_rfl) (by decide) clone_some84 clone_nil84
theorem leafAt103 : LeafAt Tryz.prog 103 (leafSortI 3) := leaf_sortI (by kernel_rfl) (fun blk off cap zs w h1 h2 h3 => Any.slices_Sort_int Tryz.sortInt blk off cap zs w h1 h2 h3) (fun p cap w => Any.slices_Sort_int_none Tryz.sortInt p cap w)
theorem leafAt104 : LeafAt Tryz.prog 104 (leafCompI 3) := leaf_compI (by kernel_rfl) (fun blk off cap zs w h1 h2 h3 => Any.slices_Compact_int Tryz.compactInt blk off cap zs w h1 h2 h3) (fun p cap w => Any.slices_Compact_int_empty Tryz.compactInt p cap w)
theorem leafAt128 : LeafAt Tryz.prog 128 (leafSortF Tryz.prog 183 2) := leaf_sortF (by kernel_rfl) (fun enc hk h1 cf hO g cb blk off cap d w eg hc hH hb hs => AnyQ.slices_SortFunc_eq Tryz.sortRun 2 (isAggT_run (t := 183) (by kernel_rfl)) (sizeT_run (t := 183) (by kernel_rfl)) enc hk h1 cf hO g cb blk off cap d w eg hc hH hb hs) (fun p cap fv w => AnyF.slices_SortFunc_none Tryz.sortRun p cap fv w)
set_option maxHeartbeats 1000000 in
set_option maxRecDepth 100000 in
theorem leafW161 (a b : ByteArray) (w : World) : Calls Tryz.prog 161 #[.string a, .string b] w fun e w' => e = .returned (.int .i64 (Lib.compareBytes a.data.toList b.data.toList)) ∧ w' = w := by
  go_enter Tryz.func161, Tryz.ntmps161
  go_wp2
  rw [run_callFunc_extern Tryz.func181 (by kernel_rfl) (by kernel_rfl) (by kernel_rfl) (e := Extern.BytealgCompare.compare) (by kernel_rfl), Lib.run_compareString]
  simp only [Result.andThen]
  rw [Oper.upon_value]
  go_wp2
  go_ret
  exact ⟨rfl, rfl⟩
theorem leafAt161 : LeafAt Tryz.prog 161 leafCmp := leaf_cmp (by kernel_rfl) leafW161
set_option maxHeartbeats 1000000 in
set_option maxRecDepth 100000 in
theorem leafW180 (s : ByteArray) (c : Int) (w : World) : Calls Tryz.prog 180 #[.string s, .int .u8 c] w fun e w' => e = .returned (.int .i64 (Lib.indexByte s.data.toList c.toNat.toUInt8)) ∧ w' = w := by
  go_enter Tryz.func180, Tryz.ntmps180
  go_wp2
  rw [run_callFunc_extern Tryz.func189 (by kernel_rfl) (by kernel_rfl) (by kernel_rfl) (e := Extern.BytealgIndexByte.indexByte) (by kernel_rfl), Lib.run_indexByteString]
  simp only [Result.andThen]
  rw [Oper.upon_value]
  go_wp2
  go_ret
  exact ⟨rfl, rfl⟩
theorem leafAt180 : LeafAt Tryz.prog 180 leafIdx := leaf_idx (by kernel_rfl) leafW180
theorem leafAt191 : LeafAt Tryz.prog 191 leafNone := leaf_none
theorem leafAt194 : LeafAt Tryz.prog 194 leafNone := leaf_none
theorem leaves : LeafOK Tryz.prog cfg := by
  intro f L h
  unfold cfg at h
  simp only at h
  split at h
  · cases h; exact leafAt62
  · cases h; exact leafAt84
  · cases h; exact leafAt103
  · cases h; exact leafAt104
  · cases h; exact leafAt128
  · cases h; exact leafAt161
  · cases h; exact leafAt180
  · cases h; exact leafAt191
  · cases h; exact leafAt194
  · cases h
theorem callOK : ∀ n, CallOK Tryz.prog (callA Tryz.prog cfg n) := callA_sound leaves (draw_ok (by kernel_rfl))
end Go.Abs.TKV
