import Derived.Test.YtnaibaifmnjpnaaDTD0
import Derived.Lib.Walk
import Derived.Lib.Bytealg
import Derived.WalkSpells
import Derived.Laws.AppendOwn
import Derived.ChangeAlike
import Derived.Lib.Hide
set_option maxRecDepth 100000
set_option linter.unusedVariables false
namespace Go.Abs.TD
open Go.RowKit Go.Proofs Go.Abs
theorem info_25 : (Try.prog.info? 50).map (fun i => (i.zero, i.size, i.bytes)) = some (some (.agg #[.string (ByteArray.mk #[]), .string (ByteArray.mk #[]), .int .i64 0]), 3, 40) := by kernel_rfl
set_option maxHeartbeats 1000000 in
theorem clone_some25 (a : Addr) (n c : Nat) (news : List Value) (w : World) (hl : news.length = n * 3) (hn : n ≤ maxLen) (hbig : n * 40 ≤ 140737488355328)
    (hc : ∀ j u, news[j]? = some u → w.cell? (a.add j) = some u) (h1 : ∀ u ∈ news, u.oneCell' = true) :
    Calls Try.prog 25 #[.slice (some a) n c] w fun e w' => ∃ v', e = .returned v' ∧ w'.ownsRow w.heap.size 50 3 v' n news ∧ Below w.heap.size w w' ∧ w.drawn ≤ w'.drawn := by
  obtain ⟨i0, hi, hz0, hz1, hz2⟩ := info_parts info_25
  have q22 : ∀ (w : World) (a : Option Addr) (n c n' c' : Nat), (binOp .eql 47 (.slice a n c) (.slice none n' c')).run Try.prog w = .ok (.bool a.isNone) w := fun w a n c n' c' => Lib.run_eql_slice_nil w _ _ a n c n' c' Try.underlying47
  have A := Lib.hid hc
  clear hc
  go_enter Try.func25, Try.ntmps25
  go_wp2_with (at_builtin; refine wpList_appD rfl _ _ 47 rfl w.heap.size 50 i0 (.agg #[.string (ByteArray.mk #[]), .string (ByteArray.mk #[]), .int .i64 0]) 3 40 Try.underlying47 hi hz0 hz1 hz2 rfl (by decide) _ _ _ rfl (World.ownsRow_made w #[] 0 (Nat.le_refl _) (Nat.zero_le _) (by simp)) a n c news rfl ?qc1 ?qc2 ?qc3 ?qc4 ?qc5 ?qc6 ?_)
  case qc1 => exact hl
  case qc2 =>
    intro j u hj
    exact Lib.cell?_alloc_some _ (A.out j u hj)
  case qc3 => exact h1
  case qc4 => rw [Nat.zero_add]; exact hn
  case qc5 => rw [Nat.zero_add]; exact hbig
  case qc6 => simp
  intro v' w1 hown hgrow hdr
  go_wp2
  go_ret
  refine ⟨v', rfl, by simpa using hown, ?_, hdr⟩
  exact ((Below.refl _ w).alloc (Nat.le_refl _) _).grown hgrow (by simp) (by intro k hk; simp [Value.ownBlock] at hk; omega)
theorem clone_nil25 (n c : Nat) (w : World) : Calls Try.prog 25 #[.slice none n c] w fun e w' => e = .returned (.slice none 0 0) ∧ w' = w := by
  have q22 : ∀ (w : World) (a : Option Addr) (n c n' c' : Nat), (binOp .eql 47 (.slice a n c) (.slice none n' c')).run Try.prog w = .ok (.bool a.isNone) w := fun w a n c n' c' => Lib.run_eql_slice_nil w _ _ a n c n' c' Try.underlying47
  go_enter Try.func25, Try.ntmps25
  go_wp2
  go_ret
  exact ⟨rfl, rfl⟩
theorem leafAt25 : LeafAt Try.prog 25 (leafClone Try.prog 50 3 40) := leaf_clone (by kernel_rfl) (by decide) clone_some25 clone_nil25
theorem info_57 : (Try.prog.info? 9).map (fun i => (i.zero, i.size, i.bytes)) = some (some (.string (ByteArray.mk #[])), 1, 16) := by kernel_rfl
set_option maxHeartbeats 1000000 in
theorem clone_some57 (a : Addr) (n c : Nat) (news : List Value) (w : World) (hl : news.length = n * 1) (hn : n ≤ maxLen) (hbig : n * 16 ≤ 140737488355328)
    (hc : ∀ j u, news[j]? = some u → w.cell? (a.add j) = some u) (h1 : ∀ u ∈ news, u.oneCell' = true) :
    Calls Try.prog 57 #[.slice (some a) n c] w fun e w' => ∃ v', e = .returned v' ∧ w'.ownsRow w.heap.size 9 1 v' n news ∧ Below w.heap.size w w' ∧ w.drawn ≤ w'.drawn := by
  obtain ⟨i0, hi, hz0, hz1, hz2⟩ := info_parts info_57
  have q22 : ∀ (w : World) (a : Option Addr) (n c n' c' : Nat), (binOp .eql 35 (.slice a n c) (.slice none n' c')).run Try.prog w = .ok (.bool a.isNone) w := fun w a n c n' c' => Lib.run_eql_slice_nil w _ _ a n c n' c' Try.underlying35
  have A := Lib.hid hc
  clear hc
  go_enter Try.func57, Try.ntmps57
  go_wp2_with (at_builtin; refine wpList_appD rfl _ _ 35 rfl w.heap.size 9 i0 (.string (ByteArray.mk #[])) 1 16 Try.underlying35 hi hz0 hz1 hz2 rfl (by decide) _ _ _ rfl (World.ownsRow_made w #[] 0 (Nat.le_refl _) (Nat.zero_le _) (by simp)) a n c news rfl ?qc1 ?qc2 ?qc3 ?qc4 ?qc5 ?qc6 ?_)
  case qc1 => exact hl
  case qc2 =>
    intro j u hj
    exact Lib.cell?_alloc_some _ (A.out j u hj)
  case qc3 => exact h1
  case qc4 => rw [Nat.zero_add]; exact hn
  case qc5 => rw [Nat.zero_add]; exact hbig
  case qc6 => simp
  intro v' w1 hown hgrow hdr
  go_wp2
  go_ret
  refine ⟨v', rfl, by simpa using hown, ?_, hdr⟩
  exact ((Below.refl _ w).alloc (Nat.le_refl _) _).grown hgrow (by simp) (by intro k hk; simp [Value.ownBlock] at hk; omega)
theorem clone_nil57 (n c : Nat) (w : World) : Calls Try.prog 57 #[.slice none n c] w fun e w' => e = .returned (.slice none 0 0) ∧ w' = w := by
  have q22 : ∀ (w : World) (a : Option Addr) (n c n' c' : Nat), (binOp .eql 35 (.slice a n c) (.slice none n' c')).run Try.prog w = .ok (.bool a.isNone) w := fun w a n c n' c' => Lib.run_eql_slice_nil w _ _ a n c n' c' Try.underlying35
  go_enter Try.func57, Try.ntmps57
  go_wp2
  go_ret
  exact ⟨rfl, rfl⟩
theorem leafAt57 : LeafAt Try.prog 57 (leafClone Try.prog 9 1 16) := leaf_clone (by kernel_rfl) (by decide) clone_some57 clone_nil57
set_option maxHeartbeats 1000000 in
set_option maxRecDepth 100000 in
theorem leafW246 (a b : ByteArray) (w : World) : Calls Try.prog 246 #[.string a, .string b] w fun e w' => e = .returned (.int .i64 (Lib.compareBytes a.data.toList b.data.toList)) ∧ w' = w := by
  go_enter Try.func246, Try.ntmps246
  go_wp2
  rw [run_callFunc_extern Try.func286 (by kernel_rfl) (by kernel_rfl) (by kernel_rfl) (e := Extern.BytealgCompare.compare) (by kernel_rfl), Lib.run_compareString]
  simp only [Result.andThen]
  rw [Oper.upon_value]
  go_wp2
  go_ret
  exact ⟨rfl, rfl⟩
theorem leafAt246 : LeafAt Try.prog 246 leafCmp := leaf_cmp (by kernel_rfl) leafW246
set_option maxHeartbeats 1000000 in
set_option maxRecDepth 100000 in
theorem leafW264 (s : ByteArray) (c : Int) (w : World) : Calls Try.prog 264 #[.string s, .int .u8 c] w fun e w' => e = .returned (.int .i64 (Lib.indexByte s.data.toList c.toNat.toUInt8)) ∧ w' = w := by
  go_enter Try.func264, Try.ntmps264
  go_wp2
  rw [run_callFunc_extern Try.func291 (by kernel_rfl) (by kernel_rfl) (by kernel_rfl) (e := Extern.BytealgIndexByte.indexByte) (by kernel_rfl), Lib.run_indexByteString]
  simp only [Result.andThen]
  rw [Oper.upon_value]
  go_wp2
  go_ret
  exact ⟨rfl, rfl⟩
theorem leafAt264 : LeafAt Try.prog 264 leafIdx := leaf_idx (by kernel_rfl) leafW264
theorem leaves : LeafOK Try.prog cfg := by
  intro f L h
  unfold cfg at h
  simp only at h
  split at h
  · cases h; exact leafAt25
  · cases h; exact leafAt57
  · cases h; exact leafAt246
  · cases h; exact leafAt264
  · cases h
theorem callOK : ∀ n, CallOK Try.prog (callA Try.prog cfg n) := callA_sound leaves (draw_ok (by kernel_rfl))
end Go.Abs.TD
