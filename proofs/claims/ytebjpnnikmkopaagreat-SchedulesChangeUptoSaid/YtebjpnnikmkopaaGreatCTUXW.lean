/-
  Changes and clashes of entries are told as the signs' reference says.
-/
import Derived.Test.YtebjpnnikmkopaaGreatCEvG2
import Derived.Test.YtebjpnnikmkopaaGreatCTUXL
import Derived.Test.YtebjpnnikmkopaaGreatCTUXR
import Derived.Test.YtebjpnnikmkopaaGreatCTUXPlain
import Derived.Test.YtebjpnnikmkopaaGreatRows
import Derived.WalkKit
import Derived.ProofKit
import Derived.OpenShut
import Derived.JoinedCond
import Derived.ShutString
import Derived.Below
import Derived.Carry
set_option linter.unusedVariables false
set_option maxRecDepth 100000
namespace Go.Proofs.YtebjpnnikmkopaaGreat.schedulesChange
open Go.ChangeShapes Go.WideShapes Go.ChangeAt Go.RowKit Go.Abs Go.Abs.TUX
open Go.ChangeMaps (open_string shut_string)
theorem own : ownKnob Tryz.prog.godebug = none := by kernel_rfl
theorem laidOut : laidOutB Tryz.prog = true := by kernel_rfl
theorem one_le {H : Type} (d : DataW H) : 1 ≤ Rows.uptoBulk d := by
  cases d with
  | lit l => cases l <;> simp [Rows.uptoBulk]
  | nil => simp [Rows.uptoBulk]
  | ptr d => simp [Rows.uptoBulk]
  | slice elems spare => simp [Rows.uptoBulk]
  | agg parts => simp [Rows.uptoBulk]
  | iface t d => simp [Rows.uptoBulk]
  | map entries => simp [Rows.uptoBulk]
  | held h => simp [Rows.uptoBulk]
theorem part_le {H : Type} {d : DataW H} {l : List (DataW H)} (h : d ∈ l) : Rows.uptoBulk d ≤ Rows.uptoBulkAll l := by
  induction l with
  | nil => cases h
  | cons x r ih =>
    simp only [Rows.uptoBulkAll]
    cases List.mem_cons.1 h with
    | inl e => subst e; omega
    | inr e => have := ih e; omega
theorem length_le {H : Type} (l : List (DataW H)) : l.length ≤ Rows.uptoBulkAll l := by
  induction l with
  | nil => simp [Rows.uptoBulkAll]
  | cons x r ih => have := one_le x; simp only [Rows.uptoBulkAll, List.length_cons]; omega
theorem bulkOK {H : Type} : BulkOK (H := H) Rows.uptoBulk := by
  refine ⟨fun l => ?_, fun es sp => ?_, fun es sp d h => ?_, fun ps d h => ?_⟩
  · simp [Rows.uptoBulk]
  · have := length_le es
    simp only [Rows.uptoBulk]; omega
  · have := part_le h
    simp only [Rows.uptoBulk]; omega
  · have := part_le h
    simp only [Rows.uptoBulk]; omega
theorem contract (H : Type) (enc : TypeId × Value → H) (W : World) (base : Nat) (args : Array Value) (ds gs : List (DataW H)) (before : List MemPlace)
    (hval0 : ∀ (j : Nat) t v, Tryz.f4.params[j]? = some t → args[j]? = some v → Value.okWide Tryz.prog W .any base t v)
    (hW : DataW.Whole enc Tryz.prog Tryz.f4.params.toList Rows.schedulesChangeSpec.vars false W args.toList ds gs before) (hk : Rows.uptoSmall H (ds ++ gs) = true) (hgo : GOK Tryz.prog (base0 W)) :
    Calls Tryz.prog 4 args W fun e W' => ∃ v, e = .returned v ∧ Rows.schedulesChangeSpec.post enc Tryz.prog Tryz.f4 false true false false W args v W' := by
  have hval := hval0
  have hW' := hW
  obtain ⟨p, q, hA0, hV, rfl, hfz, hnd⟩ := hW
  have hA : DataW.TrodAll enc Tryz.prog W 0 (fun _ => true) true Tryz.f4.params.toList args.toList ds p := hA0
  rw [Tryz.params4] at hA hval
  obtain ⟨v0, vs0, d0, ds0, p0, q0, hargs, rfl, rfl, h0, r0⟩ := trodAll_cons hA
  obtain ⟨v1, vs1, d1, ds1, p1, q1, rfl, rfl, rfl, h1, r1⟩ := trodAll_cons r0
  obtain ⟨v2, vs2, d2, ds2, p2, q2, rfl, rfl, rfl, h2, r2⟩ := trodAll_cons r1
  obtain ⟨v3, vs3, d3, ds3, p3, q3, rfl, rfl, rfl, h3, r3⟩ := trodAll_cons r2
  obtain ⟨rfl, rfl, rfl⟩ := trodAll_nil r3
  obtain rfl : args = #[v0, v1, v2, v3] := by cases args; simp_all
  obtain ⟨rfl, rfl⟩ := trodVars_none hV
  have hb : Rows.uptoBulkAll [d0, d1, d2, d3] ≤ 1048576 := by
    have h := of_decide_eq_true hk
    simpa using h
  have k0 := h0
  have lt0 : ∀ x ∈ p0, x.block < W.heap.size := by obtain ⟨m, hm⟩ := k0; exact DataW.trod_lt m _ _ _ hm
  obtain ⟨fu0, g0⟩ := h0
  obtain ⟨x0, a0, o0⟩ := (rd_slice (e := 37) (k := 13) (f := a36) (by kernel_rfl) (by kernel_rfl) (by decide) (fun _ => rfl) (rd_as (by kernel_rfl) (by kernel_rfl) (by kernel_rfl) rd36)) bulkOK g0 (Nat.le_trans (part_le (by simp)) hb)
  have c0 : v0.cells = #[v0] := by
    obtain ⟨a, len, cap, e⟩ := okWide_slice Tryz.underlying22 (hval 0 22 v0 rfl rfl)
    rw [e]; rfl
  have b0 := rel_one a0 rfl c0
  have k1 := h1
  have lt1 : ∀ x ∈ p1, x.block < W.heap.size := by obtain ⟨m, hm⟩ := k1; exact DataW.trod_lt m _ _ _ hm
  obtain ⟨fu1, g1⟩ := h1
  obtain ⟨x1, a1, o1⟩ := (rd_slice (e := 37) (k := 13) (f := a36) (by kernel_rfl) (by kernel_rfl) (by decide) (fun _ => rfl) (rd_as (by kernel_rfl) (by kernel_rfl) (by kernel_rfl) rd36)) bulkOK g1 (Nat.le_trans (part_le (by simp)) hb)
  have c1 : v1.cells = #[v1] := by
    obtain ⟨a, len, cap, e⟩ := okWide_slice Tryz.underlying22 (hval 1 22 v1 rfl rfl)
    rw [e]; rfl
  have b1 := rel_one a1 rfl c1
  have k2 := h2
  have lt2 : ∀ x ∈ p2, x.block < W.heap.size := by obtain ⟨m, hm⟩ := k2; exact DataW.trod_lt m _ _ _ hm
  obtain ⟨fu2, g2⟩ := h2
  obtain ⟨x2, a2, o2⟩ := (rd_as (by kernel_rfl) (by kernel_rfl) (by kernel_rfl) rd24) bulkOK g2 (Nat.le_trans (part_le (by simp)) hb)
  have b2 := rel_agg (cs := (a24 x2).cells) a2 (by
    have h := (hval 2 25 v2 rfl rfl)
    unfold Value.okWide at h
    rw [Tryz.underlying25] at h
    obtain ⟨cs, e, _⟩ := h
    exact ⟨cs, e⟩)
  have k3 := h3
  have lt3 : ∀ x ∈ p3, x.block < W.heap.size := by obtain ⟨m, hm⟩ := k3; exact DataW.trod_lt m _ _ _ hm
  obtain ⟨fu3, g3⟩ := h3
  obtain ⟨x3, a3, o3⟩ := (rd_as (by kernel_rfl) (by kernel_rfl) (by kernel_rfl) rd32) bulkOK g3 (Nat.le_trans (part_le (by simp)) hb)
  have b3 := rel_agg (cs := (a32 x3).cells) a3 (by
    have h := (hval 3 33 v3 rfl rfl)
    unfold Value.okWide at h
    rw [Tryz.underlying33] at h
    obtain ⟨cs, e, _⟩ := h
    exact ⟨cs, e⟩)
  have hc := (callOK 12).byval (d := false) (f := 4) (r := .bool true) ((F4 12 (by decide) x0 x1 x2 x3).trans (by rw [plain x0 x1 x2 x3 o0 o1 o2 o3]; rfl)) (F := Fin_ W) (w := W) (vals := [v0, v1, v2, v3]) ⟨hgo.ml⟩ (fun h => by cases h) (fun _ h => h) (AllV_cons b0 (AllV_cons b1 (AllV_cons b2 (AllV_cons b3 allV_nil))))
  refine hc.mono fun e W' ⟨v, he, hr⟩ => ?_
  have bel := hr.below.to0
  have hvb := resOK_bool hr
  subst he
  subst hvb
  exact ⟨_, rfl, _, _, _, [], _, [], hW', trodAll_mk1 (shut_bool Tryz.underlying4 _), (trodAll_cons_mk (Below.trod laidOut (by kernel_rfl) (of_decide_eq_true (by kernel_rfl)) k0 bel lt0) (trodAll_cons_mk (Below.trod laidOut (by kernel_rfl) (of_decide_eq_true (by kernel_rfl)) k1 bel lt1) (trodAll_cons_mk (Below.trod laidOut (by kernel_rfl) (of_decide_eq_true (by kernel_rfl)) k2 bel lt2) (trodAll_cons_mk (Below.trod laidOut (by kernel_rfl) (of_decide_eq_true (by kernel_rfl)) k3 bel lt3) trodAll_mk0)))), rfl, bel.frame _, fun h => by cases h⟩
theorem gok (W : World) (hsh : W.ShapedOpen Tryz.prog) : GOK Tryz.prog (base0 W) :=
  gok_open (g := 0) (t := 3) (zero := #[.int .i64 0]) hsh (by kernel_rfl) (of_decide_eq_true (by kernel_rfl)) (by kernel_rfl) rfl (by kernel_rfl) (by kernel_rfl) Tryz.underlying3
theorem lifted (os : Os) (started : os.Started) (H : Type) (enc : TypeId × Value → H) (F : Stop.Interp) :
    ReturnsInHanded {} Tryz.checked os 4 .any ((Rows.OpenSpec.upto Rows.schedulesChangeSpec).pre6 enc Tryz.prog Tryz.f4 Rows.schedulesChangeUptoRow.domain false) (((Rows.OpenSpec.upto Rows.schedulesChangeSpec).at F).post enc Tryz.prog Tryz.f4 false true false false) := by
  refine of_cond_open (C := Tryz.checked) (s := Rows.OpenSpec.upto Rows.schedulesChangeSpec) (k := Rows.uptoSmall) rfl own started (by kernel_rfl) Tryz.func4
    (OpenSpec.witness (enc := enc) (C := Tryz.checked) (s := Rows.OpenSpec.upto Rows.schedulesChangeSpec) (k := Rows.uptoSmall) rfl false ⟨#[], #[.slice none 0 0, .slice none 0 0, .agg #[.string (ByteArray.mk #[]), .string (ByteArray.mk #[]), .int .i64 0, .slice none 0 0], .agg #[.int .i64 0, .int .i64 0]], []⟩ 8 (by kernel_rfl) (by kernel_rfl) (by kernel_rfl)
      (x := ([.nil, .nil, .agg [.lit (.string []), .lit (.string []), .lit (.int .i64 0), .nil], .agg [.lit (.int .i64 0), .lit (.int .i64 0)]], [], [])) (by kernel_rfl) rfl (by kernel_rfl)) ?_
  intro W base args ds gs before hval hW hk hsh
  exact contract H enc W base args ds gs before hval hW hk (gok W hsh)
theorem proved : Rows.SchedulesChangeUptoSaid :=
  OpenClaim.holds_of_cond 4 Tryz.f4 rfl rfl rfl rfl rfl rfl rfl ⟨rfl, rfl, rfl, rfl, rfl⟩ rfl rfl rfl rfl rfl (by kernel_rfl) Tryz.func4 (by kernel_rfl)
    (of_decide_eq_true (by kernel_rfl)) (by unfold Func.isWrapper; first | (rw [if_pos (by decide +kernel)]; kernel_rfl) | (rw [if_neg (by decide +kernel)]; exact ⟨rfl, rfl⟩))
    (fun os started H enc _ F => lifted os started H enc F)
end Go.Proofs.YtebjpnnikmkopaaGreat.schedulesChange
namespace Go.Proofs.YtebjpnnikmkopaaGreat
/-- The statement, under a short name. -/
theorem schedulesChange_upto : Rows.SchedulesChangeUptoSaid := schedulesChange.proved
#print axioms schedulesChange_upto
end Go.Proofs.YtebjpnnikmkopaaGreat
