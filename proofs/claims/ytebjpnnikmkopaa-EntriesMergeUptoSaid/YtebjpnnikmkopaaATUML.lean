import Derived.Test.YtebjpnnikmkopaaATUM0
import Derived.Test.YtebjpnnikmkopaaALayA5
import Derived.Lib.Walk
import Derived.Lib.Bytealg
import Derived.WalkSpells
import Derived.Laws.AppendOwn
import Derived.ChangeAlike
import Derived.Lib.Hide
set_option maxRecDepth 100000
set_option linter.unusedVariables false
namespace Go.Abs.TUM
open Go.RowKit Go.Proofs Go.Abs
theorem info_9 : (Try.prog.info? 3).map (fun i => (i.zero, i.size, i.bytes)) = some (some (.int .i64 0), 1, 8) := by kernel_rfl
set_option maxHeartbeats 1000000 in
theorem clone_some9 (a : Addr) (n c : Nat) (news : List Value) (w : World) (hl : news.length = n * 1) (hn : n ≤ maxLen) (hbig : n * 8 ≤ 140737488355328)
    (hc : ∀ j u, news[j]? = some u → w.cell? (a.add j) = some u) (h1 : ∀ u ∈ news, u.oneCell' = true) :
    Calls Try.prog 9 #[.slice (some a) n c] w fun e w' => ∃ v', e = .returned v' ∧ w'.ownsRow w.heap.size 3 1 v' n news ∧ Below w.heap.size w w' ∧ w.drawn ≤ w'.drawn := by
  obtain ⟨i0, hi, hz0, hz1, hz2⟩ := info_parts info_9
  have q22 : ∀ (w : World) (a : Option Addr) (n c n' c' : Nat), (binOp .eql 32 (.slice a n c) (.slice none n' c')).run Try.prog w = .ok (.bool a.isNone) w := fun w a n c n' c' => Lib.run_eql_slice_nil w _ _ a n c n' c' Try.underlying32
  have A := Lib.hid hc
  clear hc
  go_enter Try.func9, Try.ntmps9
  go_wp2_with (at_builtin; refine wpList_appD rfl _ _ 32 rfl w.heap.size 3 i0 (.int .i64 0) 1 8 Try.underlying32 hi hz0 hz1 hz2 rfl (by decide) _ _ _ rfl (World.ownsRow_made w #[] 0 (Nat.le_refl _) (Nat.zero_le _) (by simp)) a n c news rfl ?qc1 ?qc2 ?qc3 ?qc4 ?qc5 ?qc6 ?_)
  case qc1 => exact hl
  case qc2 =>
    intro j u hj
    exact Lib.cell?_alloc_some _ (A.out j u hj)
  case qc3 => exact h1
  case qc4 => rw [Nat.zero_add]; exact hn
  case qc5 => rw [Nat.zero_add]; exact hbig
  case qc6 => simp
  intro v' w1 hown hgrow hdr
  go_wp2
  go_ret
  refine ⟨v', rfl, by simpa using hown, ?_, hdr⟩
  exact ((Below.refl _ w).alloc (Nat.le_refl _) _).grown hgrow (by simp) (by intro k hk; simp [Value.ownBlock] at hk; omega)
theorem clone_nil9 (n c : Nat) (w : World) : Calls Try.prog 9 #[.slice none n c] w fun e w' => e = .returned (.slice none 0 0) ∧ w' = w := by
  have q22 : ∀ (w : World) (a : Option Addr) (n c n' c' : Nat), (binOp .eql 32 (.slice a n c) (.slice none n' c')).run Try.prog w = .ok (.bool a.isNone) w := fun w a n c n' c' => Lib.run_eql_slice_nil w _ _ a n c n' c' Try.underlying32
  go_enter Try.func9, Try.ntmps9
  go_wp2
  go_ret
  exact ⟨rfl, rfl⟩
theorem leafAt9 : LeafAt Try.prog 9 (leafClone Try.prog 3 1 8) := leaf_clone (by kernel_rfl) (by decide) clone_some9 clone_nil9
theorem info_10 : (Try.prog.info? 9).map (fun i => (i.zero, i.size, i.bytes)) = some (some (.string (ByteArray.mk #[])), 1, 16) := by kernel_rfl
set_option maxHeartbeats 1000000 in
theorem clone_some10 (a : Addr) (n c : Nat) (news : List Value) (w : World) (hl : news.length = n * 1) (hn : n ≤ maxLen) (hbig : n * 16 ≤ 140737488355328)
    (hc : ∀ j u, news[j]? = some u → w.cell? (a.add j) = some u) (h1 : ∀ u ∈ news, u.oneCell' = true) :
    Calls Try.prog 10 #[.slice (some a) n c] w fun e w' => ∃ v', e = .returned v' ∧ w'.ownsRow w.heap.size 9 1 v' n news ∧ Below w.heap.size w w' ∧ w.drawn ≤ w'.drawn := by
  obtain ⟨i0, hi, hz0, hz1, hz2⟩ := info_parts info_10
  have q22 : ∀ (w : World) (a : Option Addr) (n c n' c' : Nat), (binOp .eql 23 (.slice a n c) (.slice none n' c')).run Try.prog w = .ok (.bool a.isNone) w := fun w a n c n' c' => Lib.run_eql_slice_nil w _ _ a n c n' c' Try.underlying23
  have A := Lib.hid hc
  clear hc
  go_enter Try.func10, Try.ntmps10
  go_wp2_with (at_builtin; refine wpList_appD rfl _ _ 23 rfl w.heap.size 9 i0 (.string (ByteArray.mk #[])) 1 16 Try.underlying23 hi hz0 hz1 hz2 rfl (by decide) _ _ _ rfl (World.ownsRow_made w #[] 0 (Nat.le_refl _) (Nat.zero_le _) (by simp)) a n c news rfl ?qc1 ?qc2 ?qc3 ?qc4 ?qc5 ?qc6 ?_)
  case qc1 => exact hl
  case qc2 =>
    intro j u hj
    exact Lib.cell?_alloc_some _ (A.out j u hj)
  case qc3 => exact h1
  case qc4 => rw [Nat.zero_add]; exact hn
  case qc5 => rw [Nat.zero_add]; exact hbig
  case qc6 => simp
  intro v' w1 hown hgrow hdr
  go_wp2
  go_ret
  refine ⟨v', rfl, by simpa using hown, ?_, hdr⟩
  exact ((Below.refl _ w).alloc (Nat.le_refl _) _).grown hgrow (by simp) (by intro k hk; simp [Value.ownBlock] at hk; omega)
theorem clone_nil10 (n c : Nat) (w : World) : Calls Try.prog 10 #[.slice none n c] w fun e w' => e = .returned (.slice none 0 0) ∧ w' = w := by
  have q22 : ∀ (w : World) (a : Option Addr) (n c n' c' : Nat), (binOp .eql 23 (.slice a n c) (.slice none n' c')).run Try.prog w = .ok (.bool a.isNone) w := fun w a n c n' c' => Lib.run_eql_slice_nil w _ _ a n c n' c' Try.underlying23
  go_enter Try.func10, Try.ntmps10
  go_wp2
  go_ret
  exact ⟨rfl, rfl⟩
theorem leafAt10 : LeafAt Try.prog 10 (leafClone Try.prog 9 1 16) := leaf_clone (by kernel_rfl) (by decide) clone_some10 clone_nil10
theorem leafAt26 : LeafAt Try.prog 26 (leafSorted 9 48) := leaf_sorted (by kernel_rfl) (by kernel_rfl) (fun w bp b es clock h1 h2 h3 h4 h5 h6 => sorted_at (ρ := Try.keysE_ren) (σ := Try.sortedS_ren) { Try.keysE with } Try.sortedS ⟨fun blk off cap ss W hH hblk hsz => callsIn_wide.2 (AnyM.slices_Sort_string Try.sortS blk off cap ss W hH hblk hsz), fun p cap W => callsIn_wide.2 (AnyM.slices_Sort_string_none Try.sortS p cap W)⟩ (by kernel_rfl) (enters_of Try.func47 (by kernel_rfl) rfl) (enters_of Try.func48 (by kernel_rfl) rfl) w bp b es clock h1 h2 h3 h4 h5 h6)
theorem leafAt27 : LeafAt Try.prog 27 (leafKeys 48) := leaf_keys (by kernel_rfl) (fun mb w => callsIn_wide.1 (AnyZ.keys_in Try.keysE Fence.wide 5 trivial rfl mb w))
theorem info_37 : (Try.prog.info? 34).map (fun i => (i.zero, i.size, i.bytes)) = some (some (.agg #[.string (ByteArray.mk #[]), .string (ByteArray.mk #[]), .int .i64 0, .int .i64 0, .int .i64 0, .int .i64 0, .int .i64 0, .slice none 0 0, .int .i64 0, .int .i64 0, .int .i64 0, .slice none 0 0, .bool false]), 13, 152) := by kernel_rfl
set_option maxHeartbeats 1000000 in
theorem clone_some37 (a : Addr) (n c : Nat) (news : List Value) (w : World) (hl : news.length = n * 13) (hn : n ≤ maxLen) (hbig : n * 152 ≤ 140737488355328)
    (hc : ∀ j u, news[j]? = some u → w.cell? (a.add j) = some u) (h1 : ∀ u ∈ news, u.oneCell' = true) :
    Calls Try.prog 37 #[.slice (some a) n c] w fun e w' => ∃ v', e = .returned v' ∧ w'.ownsRow w.heap.size 34 13 v' n news ∧ Below w.heap.size w w' ∧ w.drawn ≤ w'.drawn := by
  obtain ⟨i0, hi, hz0, hz1, hz2⟩ := info_parts info_37
  have q22 : ∀ (w : World) (a : Option Addr) (n c n' c' : Nat), (binOp .eql 22 (.slice a n c) (.slice none n' c')).run Try.prog w = .ok (.bool a.isNone) w := fun w a n c n' c' => Lib.run_eql_slice_nil w _ _ a n c n' c' Try.underlying22
  have A := Lib.hid hc
  clear hc
  go_enter Try.func37, Try.ntmps37
  go_wp2_with (at_builtin; refine wpList_appD rfl _ _ 22 rfl w.heap.size 34 i0 (.agg #[.string (ByteArray.mk #[]), .string (ByteArray.mk #[]), .int .i64 0, .int .i64 0, .int .i64 0, .int .i64 0, .int .i64 0, .slice none 0 0, .int .i64 0, .int .i64 0, .int .i64 0, .slice none 0 0, .bool false]) 13 152 Try.underlying22 hi hz0 hz1 hz2 rfl (by decide) _ _ _ rfl (World.ownsRow_made w #[] 0 (Nat.le_refl _) (Nat.zero_le _) (by simp)) a n c news rfl ?qc1 ?qc2 ?qc3 ?qc4 ?qc5 ?qc6 ?_)
  case qc1 => exact hl
  case qc2 =>
    intro j u hj
    exact Lib.cell?_alloc_some _ (A.out j u hj)
  case qc3 => exact h1
  case qc4 => rw [Nat.zero_add]; exact hn
  case qc5 => rw [Nat.zero_add]; exact hbig
  case qc6 => simp
  intro v' w1 hown hgrow hdr
  go_wp2
  go_ret
  refine ⟨v', rfl, by simpa using hown, ?_, hdr⟩
  exact ((Below.refl _ w).alloc (Nat.le_refl _) _).grown hgrow (by simp) (by intro k hk; simp [Value.ownBlock] at hk; omega)
theorem clone_nil37 (n c : Nat) (w : World) : Calls Try.prog 37 #[.slice none n c] w fun e w' => e = .returned (.slice none 0 0) ∧ w' = w := by
  have q22 : ∀ (w : World) (a : Option Addr) (n c n' c' : Nat), (binOp .eql 22 (.slice a n c) (.slice none n' c')).run Try.prog w = .ok (.bool a.isNone) w := fun w a n c n' c' => Lib.run_eql_slice_nil w _ _ a n c n' c' Try.underlying22
  go_enter Try.func37, Try.ntmps37
  go_wp2
  go_ret
  exact ⟨rfl, rfl⟩
theorem leafAt37 : LeafAt Try.prog 37 (leafClone Try.prog 34 13 152) := leaf_clone (by kernel_rfl) (by decide) clone_some37 clone_nil37
theorem leafAt40 : LeafAt Try.prog 40 (leafSortF Try.prog 34 13) := leaf_sortF (by kernel_rfl) (fun enc hk h1 cf hO g cb blk off cap d w eg hc hH hb hs => AnyQ.slices_SortFunc_eq Try.sortEntry 13 (isAggT_run (t := 34) (by kernel_rfl)) (sizeT_run (t := 34) (by kernel_rfl)) enc hk h1 cf hO g cb blk off cap d w eg hc hH hb hs) (fun p cap fv w => AnyF.slices_SortFunc_none Try.sortEntry p cap fv w)
theorem leafAt45 : LeafAt Try.prog 45 (leafGrow Try.prog 34 13 152) := leaf_grow (by kernel_rfl) (by kernel_rfl) (fun base l c n w h1 h2 h3 h4 => Any8.slices_Grow_room Try.growEntry base l c n w h1 h2 h3 h4) (fun i0 z h1 h2 h3 base l c n cs w h4 h5 h6 h7 h8 h9 h10 => Any8.slices_Grow_grow Try.growEntry i0 z h1 h2 h3 base l c n cs w h4 h5 h6 h7 h8 h9 h10)
set_option maxHeartbeats 1000000 in
set_option maxRecDepth 100000 in
theorem leafW55 (a b : ByteArray) (w : World) : Calls Try.prog 55 #[.string a, .string b] w fun e w' => e = .returned (.int .i64 (Lib.compareBytes a.data.toList b.data.toList)) ∧ w' = w := by
  go_enter Try.func55, Try.ntmps55
  go_wp2
  rw [run_callFunc_extern Try.func73 (by kernel_rfl) (by kernel_rfl) (by kernel_rfl) (e := Extern.BytealgCompare.compare) (by kernel_rfl), Lib.run_compareString]
  simp only [Result.andThen]
  rw [Oper.upon_value]
  go_wp2
  go_ret
  exact ⟨rfl, rfl⟩
theorem leafAt55 : LeafAt Try.prog 55 leafCmp := leaf_cmp (by kernel_rfl) leafW55
set_option maxHeartbeats 1000000 in
set_option maxRecDepth 100000 in
theorem leafW85 (s : ByteArray) (c : Int) (w : World) : Calls Try.prog 85 #[.string s, .int .u8 c] w fun e w' => e = .returned (.int .i64 (Lib.indexByte s.data.toList c.toNat.toUInt8)) ∧ w' = w := by
  go_enter Try.func85, Try.ntmps85
  go_wp2
  rw [run_callFunc_extern Try.func96 (by kernel_rfl) (by kernel_rfl) (by kernel_rfl) (e := Extern.BytealgIndexByte.indexByte) (by kernel_rfl), Lib.run_indexByteString]
  simp only [Result.andThen]
  rw [Oper.upon_value]
  go_wp2
  go_ret
  exact ⟨rfl, rfl⟩
theorem leafAt85 : LeafAt Try.prog 85 leafIdx := leaf_idx (by kernel_rfl) leafW85
theorem leaves : LeafOK Try.prog cfg := by
  intro f L h
  unfold cfg at h
  simp only at h
  split at h
  · cases h; exact leafAt9
  · cases h; exact leafAt10
  · cases h; exact leafAt26
  · cases h; exact leafAt27
  · cases h; exact leafAt37
  · cases h; exact leafAt40
  · cases h; exact leafAt45
  · cases h; exact leafAt55
  · cases h; exact leafAt85
  · cases h
theorem callOK : ∀ n, CallOK Try.prog (callA Try.prog cfg n) := callA_sound leaves (draw_ok (by kernel_rfl))
end Go.Abs.TUM
