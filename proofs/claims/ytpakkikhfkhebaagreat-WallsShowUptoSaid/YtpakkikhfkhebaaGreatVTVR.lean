import Derived.Test.YtpakkikhfkhebaaGreatVEv6
import Derived.Test.YtpakkikhfkhebaaGreatVTVp3
set_option maxRecDepth 100000
set_option linter.unusedVariables false
namespace Go.Abs.TV
open Go.RowKit Go.Proofs Go.Abs
def ok25 (N : Nat) (s : S25) : Prop := okI s.f0 ∧ okI s.f1 ∧ okI s.f2 ∧ okI s.f3
def ok37 (N : Nat) (s : S37) : Prop := s.f0.size ≤ N ∧ ok25 N s.f1
def ok23 (N : Nat) (s : S23) : Prop := s.f0.size ≤ N ∧ okI s.f1 ∧ okI s.f2 ∧ (s.f3.length ≤ N ∧ ∀ x ∈ s.f3, ok37 N x)
def ok64 (N : Nat) (s : S64) : Prop := s.f0.size ≤ N ∧ ok25 N s.f1 ∧ okI s.f2
def ok31 (N : Nat) (s : S31) : Prop := s.f0.size ≤ N ∧ okI s.f1 ∧ okI s.f2 ∧ (s.f3.length ≤ N ∧ ∀ x ∈ s.f3, ok64 N x)
theorem rd25 : Rd Tryz.prog 25 a25 ok25 := by
  intro H enc bulk hB w fuel cs d ps N h hN
  obtain ⟨hl, parts, n, rfl, hp⟩ := open_struct (by kernel_rfl) h
  obtain ⟨q0, r0, m0, h0⟩ := hp 0 3 0 1 (by kernel_rfl)
  obtain ⟨x0, v0, k0⟩ := (rd_i64 (by kernel_rfl)) hB h0 (Nat.le_trans (hB.part _ _ m0) hN)
  obtain ⟨q1, r1, m1, h1⟩ := hp 1 3 1 1 (by kernel_rfl)
  obtain ⟨x1, v1, k1⟩ := (rd_i64 (by kernel_rfl)) hB h1 (Nat.le_trans (hB.part _ _ m1) hN)
  obtain ⟨q2, r2, m2, h2⟩ := hp 2 3 2 1 (by kernel_rfl)
  obtain ⟨x2, v2, k2⟩ := (rd_i64 (by kernel_rfl)) hB h2 (Nat.le_trans (hB.part _ _ m2) hN)
  obtain ⟨q3, r3, m3, h3⟩ := hp 3 3 3 1 (by kernel_rfl)
  obtain ⟨x3, v3, k3⟩ := (rd_i64 (by kernel_rfl)) hB h3 (Nat.le_trans (hB.part _ _ m3) hN)
  have hl2 : cs.length = 4 := hl.trans (by kernel_rfl)
  exact ⟨⟨x0, x1, x2, x3⟩, (stp 0 1 v0 rfl (stp 1 1 v1 rfl (stp 2 1 v2 rfl (stp 3 1 v3 rfl (stp_end 4 (by omega)))))), k0, k1, k2, k3⟩
theorem rd37 : Rd Tryz.prog 37 a37 ok37 := by
  intro H enc bulk hB w fuel cs d ps N h hN
  obtain ⟨hl, parts, n, rfl, hp⟩ := open_struct (by kernel_rfl) h
  obtain ⟨q0, r0, m0, h0⟩ := hp 0 9 0 1 (by kernel_rfl)
  obtain ⟨x0, v0, k0⟩ := (rd_str (by kernel_rfl)) hB h0 (Nat.le_trans (hB.part _ _ m0) hN)
  obtain ⟨q1, r1, m1, h1⟩ := hp 1 26 1 4 (by kernel_rfl)
  obtain ⟨x1, v1, k1⟩ := (rd_as (by kernel_rfl) (by kernel_rfl) (by kernel_rfl) rd25) hB h1 (Nat.le_trans (hB.part _ _ m1) hN)
  have hl2 : cs.length = 5 := hl.trans (by kernel_rfl)
  exact ⟨⟨x0, x1⟩, (stp 0 1 v0 rfl (stp 1 4 v1 rfl (stp_end 5 (by omega)))), k0, k1⟩
theorem rd23 : Rd Tryz.prog 23 a23 ok23 := by
  intro H enc bulk hB w fuel cs d ps N h hN
  obtain ⟨hl, parts, n, rfl, hp⟩ := open_struct (by kernel_rfl) h
  obtain ⟨q0, r0, m0, h0⟩ := hp 0 9 0 1 (by kernel_rfl)
  obtain ⟨x0, v0, k0⟩ := (rd_str (by kernel_rfl)) hB h0 (Nat.le_trans (hB.part _ _ m0) hN)
  obtain ⟨q1, r1, m1, h1⟩ := hp 1 3 1 1 (by kernel_rfl)
  obtain ⟨x1, v1, k1⟩ := (rd_i64 (by kernel_rfl)) hB h1 (Nat.le_trans (hB.part _ _ m1) hN)
  obtain ⟨q2, r2, m2, h2⟩ := hp 2 3 2 1 (by kernel_rfl)
  obtain ⟨x2, v2, k2⟩ := (rd_i64 (by kernel_rfl)) hB h2 (Nat.le_trans (hB.part _ _ m2) hN)
  obtain ⟨q3, r3, m3, h3⟩ := hp 3 22 3 1 (by kernel_rfl)
  obtain ⟨x3, v3, k3⟩ := (rd_slice (e := 38) (k := 5) (f := a37) (by kernel_rfl) (by kernel_rfl) (by decide) (fun _ => rfl) (rd_as (by kernel_rfl) (by kernel_rfl) (by kernel_rfl) rd37)) hB h3 (Nat.le_trans (hB.part _ _ m3) hN)
  have hl2 : cs.length = 4 := hl.trans (by kernel_rfl)
  exact ⟨⟨x0, x1, x2, x3⟩, (stp 0 1 v0 rfl (stp 1 1 v1 rfl (stp 2 1 v2 rfl (stp 3 1 v3 rfl (stp_end 4 (by omega)))))), k0, k1, k2, k3⟩
theorem rd64 : Rd Tryz.prog 64 a64 ok64 := by
  intro H enc bulk hB w fuel cs d ps N h hN
  obtain ⟨hl, parts, n, rfl, hp⟩ := open_struct (by kernel_rfl) h
  obtain ⟨q0, r0, m0, h0⟩ := hp 0 9 0 1 (by kernel_rfl)
  obtain ⟨x0, v0, k0⟩ := (rd_str (by kernel_rfl)) hB h0 (Nat.le_trans (hB.part _ _ m0) hN)
  obtain ⟨q1, r1, m1, h1⟩ := hp 1 26 1 4 (by kernel_rfl)
  obtain ⟨x1, v1, k1⟩ := (rd_as (by kernel_rfl) (by kernel_rfl) (by kernel_rfl) rd25) hB h1 (Nat.le_trans (hB.part _ _ m1) hN)
  obtain ⟨q2, r2, m2, h2⟩ := hp 2 3 5 1 (by kernel_rfl)
  obtain ⟨x2, v2, k2⟩ := (rd_i64 (by kernel_rfl)) hB h2 (Nat.le_trans (hB.part _ _ m2) hN)
  have hl2 : cs.length = 6 := hl.trans (by kernel_rfl)
  exact ⟨⟨x0, x1, x2⟩, (stp 0 1 v0 rfl (stp 1 4 v1 rfl (stp 5 1 v2 rfl (stp_end 6 (by omega))))), k0, k1, k2⟩
theorem rd31 : Rd Tryz.prog 31 a31 ok31 := by
  intro H enc bulk hB w fuel cs d ps N h hN
  obtain ⟨hl, parts, n, rfl, hp⟩ := open_struct (by kernel_rfl) h
  obtain ⟨q0, r0, m0, h0⟩ := hp 0 9 0 1 (by kernel_rfl)
  obtain ⟨x0, v0, k0⟩ := (rd_str (by kernel_rfl)) hB h0 (Nat.le_trans (hB.part _ _ m0) hN)
  obtain ⟨q1, r1, m1, h1⟩ := hp 1 3 1 1 (by kernel_rfl)
  obtain ⟨x1, v1, k1⟩ := (rd_i64 (by kernel_rfl)) hB h1 (Nat.le_trans (hB.part _ _ m1) hN)
  obtain ⟨q2, r2, m2, h2⟩ := hp 2 3 2 1 (by kernel_rfl)
  obtain ⟨x2, v2, k2⟩ := (rd_i64 (by kernel_rfl)) hB h2 (Nat.le_trans (hB.part _ _ m2) hN)
  obtain ⟨q3, r3, m3, h3⟩ := hp 3 30 3 1 (by kernel_rfl)
  obtain ⟨x3, v3, k3⟩ := (rd_slice (e := 65) (k := 6) (f := a64) (by kernel_rfl) (by kernel_rfl) (by decide) (fun _ => rfl) (rd_as (by kernel_rfl) (by kernel_rfl) (by kernel_rfl) rd64)) hB h3 (Nat.le_trans (hB.part _ _ m3) hN)
  have hl2 : cs.length = 4 := hl.trans (by kernel_rfl)
  exact ⟨⟨x0, x1, x2, x3⟩, (stp 0 1 v0 rfl (stp 1 1 v1 rfl (stp 2 1 v2 rfl (stp 3 1 v3 rfl (stp_end 4 (by omega)))))), k0, k1, k2, k3⟩
end Go.Abs.TV
