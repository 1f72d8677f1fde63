import Derived.Test.YtnaibaifmnjpnaaCEv6
import Derived.Test.YtnaibaifmnjpnaaCTCp2
set_option maxRecDepth 100000
set_option linter.unusedVariables false
namespace Go.Abs.TC
open Go.RowKit Go.Proofs Go.Abs
def ok24 (N : Nat) (s : S24) : Prop := s.f0.size ≤ N ∧ okI s.f1 ∧ okI s.f2
theorem rd24 : Rd Try.prog 24 a24 ok24 := by
  intro H enc bulk hB w fuel cs d ps N h hN
  obtain ⟨hl, parts, n, rfl, hp⟩ := open_struct (by kernel_rfl) h
  obtain ⟨q0, r0, m0, h0⟩ := hp 0 9 0 1 (by kernel_rfl)
  obtain ⟨x0, v0, k0⟩ := (rd_str (by kernel_rfl)) hB h0 (Nat.le_trans (hB.part _ _ m0) hN)
  obtain ⟨q1, r1, m1, h1⟩ := hp 1 3 1 1 (by kernel_rfl)
  obtain ⟨x1, v1, k1⟩ := (rd_i64 (by kernel_rfl)) hB h1 (Nat.le_trans (hB.part _ _ m1) hN)
  obtain ⟨q2, r2, m2, h2⟩ := hp 2 3 2 1 (by kernel_rfl)
  obtain ⟨x2, v2, k2⟩ := (rd_i64 (by kernel_rfl)) hB h2 (Nat.le_trans (hB.part _ _ m2) hN)
  have hl2 : cs.length = 3 := hl.trans (by kernel_rfl)
  exact ⟨⟨x0, x1, x2⟩, (stp 0 1 v0 rfl (stp 1 1 v1 rfl (stp 2 1 v2 rfl (stp_end 3 (by omega))))), k0, k1, k2⟩
end Go.Abs.TC
