import Derived.Test.YthcgpcmeffkijaaGreatDoorSEv6
import Derived.Test.YthcgpcmeffkijaaGreatDoorSTUSp2
set_option maxRecDepth 100000
set_option linter.unusedVariables false
namespace Go.Abs.TUS
open Go.RowKit Go.Proofs Go.Abs
def ok43(N:Nat)(s:S43):Prop:=okI s.f0∧okI s.f1∧okI s.f2∧okI s.f3
def ok39(N:Nat)(s:S39):Prop:=s.f0.size≤N∧s.f1.size≤N∧okI s.f2∧(s.f3.length≤N∧∀x∈s.f3,x.size≤N)∧okI s.f4∧okI s.f5∧okI s.f6∧(s.f7.length≤N∧∀x∈s.f7,ok43 N x)∧s.f8.size≤N
def ok26(N:Nat)(s:S26):Prop:=s.f0.size≤N∧okI s.f1∧okI s.f2
theorem rd43:Rd Tryz.prog 43 a43 ok43:=by
 intro H enc bulk hB w fuel cs d ps N h hN
 obtain⟨hl,parts,n,rfl,hp⟩:=open_struct (by kernel_rfl) h
 obtain⟨q0,r0,m0,h0⟩:=hp 0 3 0 1 (by kernel_rfl)
 obtain⟨x0,v0,k0⟩:=(rd_i64 (by kernel_rfl)) hB h0 (Nat.le_trans (hB.part _ _ m0) hN)
 obtain⟨q1,r1,m1,h1⟩:=hp 1 3 1 1 (by kernel_rfl)
 obtain⟨x1,v1,k1⟩:=(rd_i64 (by kernel_rfl)) hB h1 (Nat.le_trans (hB.part _ _ m1) hN)
 obtain⟨q2,r2,m2,h2⟩:=hp 2 3 2 1 (by kernel_rfl)
 obtain⟨x2,v2,k2⟩:=(rd_i64 (by kernel_rfl)) hB h2 (Nat.le_trans (hB.part _ _ m2) hN)
 obtain⟨q3,r3,m3,h3⟩:=hp 3 3 3 1 (by kernel_rfl)
 obtain⟨x3,v3,k3⟩:=(rd_i64 (by kernel_rfl)) hB h3 (Nat.le_trans (hB.part _ _ m3) hN)
 have hl2:cs.length=4:=hl.trans (by kernel_rfl)
 exact⟨⟨x0,x1,x2,x3⟩,(stp 0 1 v0 rfl (stp 1 1 v1 rfl (stp 2 1 v2 rfl (stp 3 1 v3 rfl (stp_end 4 (by omega)))))),k0,k1,k2,k3⟩
theorem rd39:Rd Tryz.prog 39 a39 ok39:=by
 intro H enc bulk hB w fuel cs d ps N h hN
 obtain⟨hl,parts,n,rfl,hp⟩:=open_struct (by kernel_rfl) h
 obtain⟨q0,r0,m0,h0⟩:=hp 0 9 0 1 (by kernel_rfl)
 obtain⟨x0,v0,k0⟩:=(rd_str (by kernel_rfl)) hB h0 (Nat.le_trans (hB.part _ _ m0) hN)
 obtain⟨q1,r1,m1,h1⟩:=hp 1 9 1 1 (by kernel_rfl)
 obtain⟨x1,v1,k1⟩:=(rd_str (by kernel_rfl)) hB h1 (Nat.le_trans (hB.part _ _ m1) hN)
 obtain⟨q2,r2,m2,h2⟩:=hp 2 3 2 1 (by kernel_rfl)
 obtain⟨x2,v2,k2⟩:=(rd_i64 (by kernel_rfl)) hB h2 (Nat.le_trans (hB.part _ _ m2) hN)
 obtain⟨q3,r3,m3,h3⟩:=hp 3 37 3 1 (by kernel_rfl)
 obtain⟨x3,v3,k3⟩:=(rd_slice (e:=9) (k:=1) (f:=S) (by kernel_rfl) (by kernel_rfl) (by decide) (fun _=>rfl) (rd_str (by kernel_rfl))) hB h3 (Nat.le_trans (hB.part _ _ m3) hN)
 obtain⟨q4,r4,m4,h4⟩:=hp 4 3 4 1 (by kernel_rfl)
 obtain⟨x4,v4,k4⟩:=(rd_i64 (by kernel_rfl)) hB h4 (Nat.le_trans (hB.part _ _ m4) hN)
 obtain⟨q5,r5,m5,h5⟩:=hp 5 3 5 1 (by kernel_rfl)
 obtain⟨x5,v5,k5⟩:=(rd_i64 (by kernel_rfl)) hB h5 (Nat.le_trans (hB.part _ _ m5) hN)
 obtain⟨q6,r6,m6,h6⟩:=hp 6 3 6 1 (by kernel_rfl)
 obtain⟨x6,v6,k6⟩:=(rd_i64 (by kernel_rfl)) hB h6 (Nat.le_trans (hB.part _ _ m6) hN)
 obtain⟨q7,r7,m7,h7⟩:=hp 7 38 7 1 (by kernel_rfl)
 obtain⟨x7,v7,k7⟩:=(rd_slice (e:=44) (k:=4) (f:=a43) (by kernel_rfl) (by kernel_rfl) (by decide) (fun _=>rfl) (rd_as (by kernel_rfl) (by kernel_rfl) (by kernel_rfl) rd43)) hB h7 (Nat.le_trans (hB.part _ _ m7) hN)
 obtain⟨q8,r8,m8,h8⟩:=hp 8 9 8 1 (by kernel_rfl)
 obtain⟨x8,v8,k8⟩:=(rd_str (by kernel_rfl)) hB h8 (Nat.le_trans (hB.part _ _ m8) hN)
 have hl2:cs.length=9:=hl.trans (by kernel_rfl)
 exact⟨⟨x0,x1,x2,x3,x4,x5,x6,x7,x8⟩,(stp 0 1 v0 rfl (stp 1 1 v1 rfl (stp 2 1 v2 rfl (stp 3 1 v3 rfl (stp 4 1 v4 rfl (stp 5 1 v5 rfl (stp 6 1 v6 rfl (stp 7 1 v7 rfl (stp 8 1 v8 rfl (stp_end 9 (by omega))))))))))),k0,k1,k2,k3,k4,k5,k6,k7,k8⟩
theorem rd26:Rd Tryz.prog 26 a26 ok26:=by
 intro H enc bulk hB w fuel cs d ps N h hN
 obtain⟨hl,parts,n,rfl,hp⟩:=open_struct (by kernel_rfl) h
 obtain⟨q0,r0,m0,h0⟩:=hp 0 9 0 1 (by kernel_rfl)
 obtain⟨x0,v0,k0⟩:=(rd_str (by kernel_rfl)) hB h0 (Nat.le_trans (hB.part _ _ m0) hN)
 obtain⟨q1,r1,m1,h1⟩:=hp 1 3 1 1 (by kernel_rfl)
 obtain⟨x1,v1,k1⟩:=(rd_i64 (by kernel_rfl)) hB h1 (Nat.le_trans (hB.part _ _ m1) hN)
 obtain⟨q2,r2,m2,h2⟩:=hp 2 3 2 1 (by kernel_rfl)
 obtain⟨x2,v2,k2⟩:=(rd_i64 (by kernel_rfl)) hB h2 (Nat.le_trans (hB.part _ _ m2) hN)
 have hl2:cs.length=3:=hl.trans (by kernel_rfl)
 exact⟨⟨x0,x1,x2⟩,(stp 0 1 v0 rfl (stp 1 1 v1 rfl (stp 2 1 v2 rfl (stp_end 3 (by omega))))),k0,k1,k2⟩
end Go.Abs.TUS
