/-
  screen.Views and Lost answer as the references do, whatever the wall and the layout.
-/
import Derived.Test.YtpakkikhfkhebaaGreatVTVL
import Derived.Test.YtpakkikhfkhebaaGreatVTVR
import Derived.Test.YtpakkikhfkhebaaGreatVTVPlain
import Derived.Test.YtpakkikhfkhebaaGreatRows
import Derived.WalkKit
import Derived.ProofKit
import Derived.OpenShut
import Derived.JoinedCond
import Derived.ShutString
import Derived.Below
import Derived.Carry
set_option linter.unusedVariables false
set_option maxRecDepth 100000
namespace Go.Proofs.YtpakkikhfkhebaaGreat.wallsShow
open Go.ChangeShapes Go.WideShapes Go.ChangeAt Go.RowKit Go.Abs Go.Abs.TV
open Go.ChangeMaps (open_string shut_string)
theorem own : ownKnob Tryz.prog.godebug = none := by kernel_rfl
theorem laidOut : laidOutB Tryz.prog = true := by kernel_rfl
theorem one_le {H : Type} (d : DataW H) : 1 ≤ Rows.uptoBulk d := by
  cases d with
  | lit l => cases l <;> simp [Rows.uptoBulk]
  | nil => simp [Rows.uptoBulk]
  | ptr d => simp [Rows.uptoBulk]
  | slice elems spare => simp [Rows.uptoBulk]
  | agg parts => simp [Rows.uptoBulk]
  | iface t d => simp [Rows.uptoBulk]
  | map entries => simp [Rows.uptoBulk]
  | held h => simp [Rows.uptoBulk]
theorem part_le {H : Type} {d : DataW H} {l : List (DataW H)} (h : d ∈ l) : Rows.uptoBulk d ≤ Rows.uptoBulkAll l := by
  induction l with
  | nil => cases h
  | cons x r ih =>
    simp only [Rows.uptoBulkAll]
    cases List.mem_cons.1 h with
    | inl e => subst e; omega
    | inr e => have := ih e; omega
theorem length_le {H : Type} (l : List (DataW H)) : l.length ≤ Rows.uptoBulkAll l := by
  induction l with
  | nil => simp [Rows.uptoBulkAll]
  | cons x r ih => have := one_le x; simp only [Rows.uptoBulkAll, List.length_cons]; omega
theorem bulkOK {H : Type} : BulkOK (H := H) Rows.uptoBulk := by
  refine ⟨fun l => ?_, fun es sp => ?_, fun es sp d h => ?_, fun ps d h => ?_⟩
  · simp [Rows.uptoBulk]
  · have := length_le es
    simp only [Rows.uptoBulk]; omega
  · have := part_le h
    simp only [Rows.uptoBulk]; omega
  · have := part_le h
    simp only [Rows.uptoBulk]; omega
theorem contract (H : Type) (enc : TypeId × Value → H) (W : World) (base : Nat) (args : Array Value) (ds gs : List (DataW H)) (before : List MemPlace)
    (hval0 : ∀ (j : Nat) t v, Tryz.f4.params[j]? = some t → args[j]? = some v → Value.okWide Tryz.prog W .any base t v)
    (hW : DataW.Whole enc Tryz.prog Tryz.f4.params.toList Rows.wallsShowSpec.vars false W args.toList ds gs before) (hk : Rows.uptoSmall H (ds ++ gs) = true) :
    Calls Tryz.prog 4 args W fun e W' => ∃ v, e = .returned v ∧ Rows.wallsShowSpec.post enc Tryz.prog Tryz.f4 false true false false W args v W' := by
  have hval := hval0
  have hW' := hW
  obtain ⟨p, q, hA0, hV, rfl, hfz, hnd⟩ := hW
  have hA : DataW.TrodAll enc Tryz.prog W 0 (fun _ => true) true Tryz.f4.params.toList args.toList ds p := hA0
  rw [Tryz.params4] at hA hval
  obtain ⟨v0, vs0, d0, ds0, p0, q0, hargs, rfl, rfl, h0, r0⟩ := trodAll_cons hA
  obtain ⟨v1, vs1, d1, ds1, p1, q1, rfl, rfl, rfl, h1, r1⟩ := trodAll_cons r0
  obtain ⟨rfl, rfl, rfl⟩ := trodAll_nil r1
  obtain rfl : args = #[v0, v1] := by cases args; simp_all
  obtain ⟨rfl, rfl⟩ := trodVars_none hV
  have hb : Rows.uptoBulkAll [d0, d1] ≤ 1048576 := by
    have h := of_decide_eq_true hk
    simpa using h
  have k0 := h0
  have lt0 : ∀ x ∈ p0, x.block < W.heap.size := by obtain ⟨m, hm⟩ := k0; exact DataW.trod_lt m _ _ _ hm
  obtain ⟨fu0, g0⟩ := h0
  obtain ⟨x0, a0, o0⟩ := (rd_as (by kernel_rfl) (by kernel_rfl) (by kernel_rfl) rd23) bulkOK g0 (Nat.le_trans (part_le (by simp)) hb)
  have b0 := rel_agg (cs := (a23 x0).cells) a0 (by
    have h := (hval 0 24 v0 rfl rfl)
    unfold Value.okWide at h
    rw [Tryz.underlying24] at h
    obtain ⟨cs, e, _⟩ := h
    exact ⟨cs, e⟩)
  have k1 := h1
  have lt1 : ∀ x ∈ p1, x.block < W.heap.size := by obtain ⟨m, hm⟩ := k1; exact DataW.trod_lt m _ _ _ hm
  obtain ⟨fu1, g1⟩ := h1
  obtain ⟨x1, a1, o1⟩ := (rd_as (by kernel_rfl) (by kernel_rfl) (by kernel_rfl) rd31) bulkOK g1 (Nat.le_trans (part_le (by simp)) hb)
  have b1 := rel_agg (cs := (a31 x1).cells) a1 (by
    have h := (hval 1 32 v1 rfl rfl)
    unfold Value.okWide at h
    rw [Tryz.underlying32] at h
    obtain ⟨cs, e, _⟩ := h
    exact ⟨cs, e⟩)
  have hc := (callOK 11).byval (f := 4) (r := .bool true) ((F4 11 (by decide) x0 x1).trans (by rw [plain x0 x1 o0 o1]; rfl)) (F := Fin_ W) (w := W) (vals := [v0, v1]) (fun _ h => h) (AllV_cons b0 (AllV_cons b1 allV_nil))
  refine hc.mono fun e W' ⟨v, he, hr⟩ => ?_
  have bel := hr.below.to0
  have hvb := resOK_bool hr
  subst he
  subst hvb
  exact ⟨_, rfl, _, _, _, [], _, [], hW', trodAll_mk1 (shut_bool Tryz.underlying4 _), (trodAll_cons_mk (Below.trod laidOut (by kernel_rfl) (of_decide_eq_true (by kernel_rfl)) k0 bel lt0) (trodAll_cons_mk (Below.trod laidOut (by kernel_rfl) (of_decide_eq_true (by kernel_rfl)) k1 bel lt1) trodAll_mk0)), rfl, bel.frame _, fun h => by cases h⟩
theorem lifted (os : Os) (started : os.Started) (H : Type) (enc : TypeId × Value → H) (F : Stop.Interp) :
    ReturnsInHanded {} Tryz.checked os 4 .any ((Rows.OpenSpec.upto Rows.wallsShowSpec).pre6 enc Tryz.prog Tryz.f4 Rows.wallsShowUptoRow.domain false) (((Rows.OpenSpec.upto Rows.wallsShowSpec).at F).post enc Tryz.prog Tryz.f4 false true false false) := by
  refine returnsInHanded_of_cond (C := Tryz.checked) (s := Rows.OpenSpec.upto Rows.wallsShowSpec) (k := Rows.uptoSmall) rfl own started (by kernel_rfl) Tryz.func4
    (OpenSpec.witness (enc := enc) (C := Tryz.checked) (s := Rows.OpenSpec.upto Rows.wallsShowSpec) (k := Rows.uptoSmall) rfl false ⟨#[], #[.agg #[.string (ByteArray.mk #[]), .int .i64 0, .int .i64 0, .slice none 0 0], .agg #[.string (ByteArray.mk #[]), .int .i64 0, .int .i64 0, .slice none 0 0]], []⟩ 8 (by kernel_rfl) (by kernel_rfl) (by kernel_rfl)
      (x := ([.agg [.lit (.string []), .lit (.int .i64 0), .lit (.int .i64 0), .nil], .agg [.lit (.string []), .lit (.int .i64 0), .lit (.int .i64 0), .nil]], [], [])) (by kernel_rfl) rfl (by kernel_rfl)) ?_
  intro W base args ds gs before hval hW _ hk _
  exact contract H enc W base args ds gs before hval hW hk
theorem proved : Rows.WallsShowUptoSaid :=
  OpenClaim.holds_of_cond 4 Tryz.f4 rfl rfl rfl rfl rfl rfl rfl ⟨rfl, rfl, rfl, rfl, rfl⟩ rfl rfl rfl rfl rfl (by kernel_rfl) Tryz.func4 (by kernel_rfl)
    (of_decide_eq_true (by kernel_rfl)) (by unfold Func.isWrapper; first | (rw [if_pos (by decide +kernel)]; kernel_rfl) | (rw [if_neg (by decide +kernel)]; exact ⟨rfl, rfl⟩))
    (fun os started H enc _ F => lifted os started H enc F)
end Go.Proofs.YtpakkikhfkhebaaGreat.wallsShow
namespace Go.Proofs.YtpakkikhfkhebaaGreat
/-- The statement, under a short name. -/
theorem wallsShow_upto : Rows.WallsShowUptoSaid := wallsShow.proved
#print axioms wallsShow_upto
end Go.Proofs.YtpakkikhfkhebaaGreat
