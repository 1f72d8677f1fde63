/-
  The law returns true for every input.
-/
import Derived.Test.YthcgpcmeffkijaaGreatDoorSEvG
import Derived.Test.YthcgpcmeffkijaaGreatDoorSTUSL
import Derived.Test.YthcgpcmeffkijaaGreatDoorSTUSR
import Derived.Test.YthcgpcmeffkijaaGreatDoorSTUSPlain
import Derived.Test.YthcgpcmeffkijaaGreatDoorCards
import Derived.Test.YthcgpcmeffkijaaGreatDoorTie
import Derived.WalkKit
import Derived.ProofKit
import Derived.OpenShut
import Derived.JoinedCond
import Derived.ShutString
import Derived.Below
import Derived.Carry
import Derived.Deep.DeepHandedRow
import Derived.Lib.LaidTab
set_option linter.unusedVariables false
set_option maxRecDepth 100000
namespace Go.Proofs.YthcgpcmeffkijaaGreatDoor.alertsShown
open Go.ChangeShapes Go.WideShapes Go.ChangeAt Go.RowKit Go.Abs Go.Abs.TUS
open Go.ChangeMaps (open_string shut_string)
set_option maxRecDepth 100000
theorem own : ownKnob Tryz.prog.godebug = none := by kernel_rfl
theorem laidOut : laidOutB Tryz.prog = true := by kernel_rfl
theorem one_le {H : Type} (d : DataW H) : 1 ≤ Rows.uptoBulk d := by
  cases d with
  | lit l => cases l <;> simp [Rows.uptoBulk]
  | nil => simp [Rows.uptoBulk]
  | ptr d => simp [Rows.uptoBulk]
  | slice elems spare => simp [Rows.uptoBulk]
  | agg parts => simp [Rows.uptoBulk]
  | iface t d => simp [Rows.uptoBulk]
  | map entries => simp [Rows.uptoBulk]
  | held h => simp [Rows.uptoBulk]
theorem part_le {H : Type} {d : DataW H} {l : List (DataW H)} (h : d ∈ l) : Rows.uptoBulk d ≤ Rows.uptoBulkAll l := by
  induction l with
  | nil => cases h
  | cons x r ih =>
    simp only [Rows.uptoBulkAll]
    cases List.mem_cons.1 h with
    | inl e => subst e; omega
    | inr e => have := ih e; omega
theorem length_le {H : Type} (l : List (DataW H)) : l.length ≤ Rows.uptoBulkAll l := by
  induction l with
  | nil => simp [Rows.uptoBulkAll]
  | cons x r ih => have := one_le x; simp only [Rows.uptoBulkAll, List.length_cons]; omega
theorem bulkOK {H : Type} : BulkOK (H := H) Rows.uptoBulk := by
  refine ⟨fun l => ?_, fun es sp => ?_, fun es sp d h => ?_, fun ps d h => ?_⟩
  · simp [Rows.uptoBulk]
  · have := length_le es
    simp only [Rows.uptoBulk]; omega
  · have := part_le h
    simp only [Rows.uptoBulk]; omega
  · have := part_le h
    simp only [Rows.uptoBulk]; omega
theorem contract (H : Type) (enc : TypeId × Value → H) (W : World) (base : Nat) (args : Array Value) (ds gs : List (DataW H)) (before : List MemPlace)
    (hval0 : ∀ (j : Nat) t v, Tryz.f3.params[j]? = some t → args[j]? = some v → Value.okWide Tryz.prog W .any base t v)
    (hW : DataW.Whole enc Tryz.prog Tryz.f3.params.toList Rows.alertsShownSpec.vars false W args.toList ds gs before) (hk : Rows.uptoSmall H (ds ++ gs) = true) (hgo : GOK Tryz.prog (base0 W)) :
    Calls Tryz.prog 3 args W fun e W' => ∃ v, e = .returned v ∧ Rows.alertsShownSpec.post enc Tryz.prog Tryz.f3 false true false false W args v W' := by
  have hval := hval0
  have hW' := hW
  obtain ⟨p, q, hA0, hV, rfl, hfz, hnd⟩ := hW
  have hA : DataW.TrodAll enc Tryz.prog W 0 (fun _ => true) true Tryz.f3.params.toList args.toList ds p := hA0
  rw [Tryz.params3] at hA hval
  obtain ⟨v0, vs0, d0, ds0, p0, q0, hargs, rfl, rfl, h0, r0⟩ := trodAll_cons hA
  obtain ⟨v1, vs1, d1, ds1, p1, q1, rfl, rfl, rfl, h1, r1⟩ := trodAll_cons r0
  obtain ⟨v2, vs2, d2, ds2, p2, q2, rfl, rfl, rfl, h2, r2⟩ := trodAll_cons r1
  obtain ⟨rfl, rfl, rfl⟩ := trodAll_nil r2
  obtain rfl : args = #[v0, v1, v2] := by cases args; simp_all
  obtain ⟨rfl, rfl⟩ := trodVars_none hV
  have hb : Rows.uptoBulkAll [d0, d1, d2] ≤ 1048576 := by
    have h := of_decide_eq_true hk
    simpa using h
  have k0 := h0
  have lt0 : ∀ x ∈ p0, x.block < W.heap.size := by obtain ⟨m, hm⟩ := k0; exact DataW.trod_lt m _ _ _ hm
  obtain ⟨fu0, g0⟩ := h0
  obtain ⟨x0, a0, o0⟩ := (rd_slice (e := 40) (k := 9) (f := a39) (by kernel_rfl) (by kernel_rfl) (by decide) (fun _ => rfl) (rd_as (by kernel_rfl) (by kernel_rfl) (by kernel_rfl) rd39)) bulkOK g0 (Nat.le_trans (part_le (by simp)) hb)
  have c0 : v0.cells = #[v0] := by
    obtain ⟨a, len, cap, e⟩ := okWide_slice Tryz.underlying22 (hval 0 22 v0 rfl rfl)
    rw [e]; rfl
  have b0 := rel_one a0 rfl c0
  have k1 := h1
  have lt1 : ∀ x ∈ p1, x.block < W.heap.size := by obtain ⟨m, hm⟩ := k1; exact DataW.trod_lt m _ _ _ hm
  obtain ⟨fu1, g1⟩ := h1
  obtain ⟨x1, a1, o1⟩ := (rd_slice (e := 27) (k := 3) (f := a26) (by kernel_rfl) (by kernel_rfl) (by decide) (fun _ => rfl) (rd_as (by kernel_rfl) (by kernel_rfl) (by kernel_rfl) rd26)) bulkOK g1 (Nat.le_trans (part_le (by simp)) hb)
  have c1 : v1.cells = #[v1] := by
    obtain ⟨a, len, cap, e⟩ := okWide_slice Tryz.underlying23 (hval 1 23 v1 rfl rfl)
    rw [e]; rfl
  have b1 := rel_one a1 rfl c1
  have k2 := h2
  have lt2 : ∀ x ∈ p2, x.block < W.heap.size := by obtain ⟨m, hm⟩ := k2; exact DataW.trod_lt m _ _ _ hm
  obtain ⟨fu2, g2⟩ := h2
  obtain ⟨x2, a2, o2⟩ := (rd_i64 (by kernel_rfl)) bulkOK g2 (Nat.le_trans (part_le (by simp)) hb)
  have c2 : v2.cells = #[v2] := by
    obtain ⟨z, e, _⟩ := open_int Tryz.underlying3 (hval 2 3 v2 rfl rfl) k2
    rw [e]; rfl
  have b2 := rel_one a2 rfl c2
  have hc := (callOK 24).byval (d := false) (f := 3) (r := .bool true) ((F3 24 (by decide) x0 x1 x2).trans (by rw [plain x0 x1 x2 o0 o1 o2]; rfl)) (F := Fin_ W) (w := W) (vals := [v0, v1, v2]) ⟨hgo.ml, hgo.u8⟩ (fun h => by cases h) (fun _ h => h) (AllV_cons b0 (AllV_cons b1 (AllV_cons b2 allV_nil)))
  refine hc.mono fun e W' ⟨v, he, hr⟩ => ?_
  have bel := hr.below.to0
  have hvb := resOK_bool hr
  subst he
  subst hvb
  exact ⟨_, rfl, _, _, _, [], _, [], hW', trodAll_mk1 (shut_bool Tryz.underlying4 _), (trodAll_cons_mk (Below.trod laidOut (by kernel_rfl) (of_decide_eq_true (by kernel_rfl)) k0 bel lt0) (trodAll_cons_mk (Below.trod laidOut (by kernel_rfl) (of_decide_eq_true (by kernel_rfl)) k1 bel lt1) (trodAll_cons_mk (Below.trod laidOut (by kernel_rfl) (of_decide_eq_true (by kernel_rfl)) k2 bel lt2) trodAll_mk0))), rfl, bel.frame _, fun h => by cases h⟩
def cells1 : DataW Unit → List Value
  | .lit (.int k n) => [.int k n]
  | _ => []
def cells2 : DataW Unit → List Value
  | .agg ps => ps.flatMap cells1
  | d => cells1 d
def cells3 : DataW Unit → List Value
  | .agg ps => ps.flatMap cells2
  | d => cells1 d
def setCells (cs : List Value) : Obj → Obj
  | .cells _ t frozen => .cells cs.toArray t frozen
  | o => o
/-- A world for the witness: the settled one, the listed tables holding what their initialisers lay. -/
noncomputable def laidWorld (os : Os) : World :=
  { World.holding Tryz.prog os ⟨#[], #[], []⟩ with heap := (((World.holding Tryz.prog os ⟨#[], #[], []⟩).heap.modify 1 (setCells (cells3 Rows.laid_unicode_utf8_first))).modify 2 (setCells (cells3 Rows.laid_unicode_utf8_acceptRanges))) }
theorem laid_met (os : Os) : laidMet Tryz.prog Rows.alertsShownUptoRow.laid ((laidWorld os).forCall (fun _ _ => 0) ⟨#[], #[.slice none 0 0, .slice none 0 0, .int .i64 0], []⟩).memory :=
  laidMet_of_run' 8 (by kernel_rfl) (by kernel_rfl)
theorem reads (os : Os) {H : Type} (enc : TypeId × Value → H) : ∃ places, DataW.whole enc Tryz.prog ((laidWorld os).forCall (fun _ _ => 0) ⟨#[], #[.slice none 0 0, .slice none 0 0, .int .i64 0], []⟩).memory Tryz.f3.params.toList Rows.alertsShownSpec.vars false (#[.slice none 0 0, .slice none 0 0, .int .i64 0] : Array Value).toList 8 = some ([.nil, .nil, .lit (.int .i64 0)], [], places) :=
  ⟨[], by kernel_rfl⟩
theorem tabs (W : World) (hl : laidMetH Tryz.prog Rows.alertsShownUptoRow.laid W) : U8Tab 1 2 W := by
  have hl' : laidMet Tryz.prog Rows.alertsShownUptoRow.laid W := hl
  have h4 : Lib.VarReads Tryz.prog W "unicode/utf8.acceptRanges" Lib.acceptData := (show Rows.laid_unicode_utf8_acceptRanges = Lib.acceptData by kernel_rfl) ▸ Lib.laidMet.reads hl' (.head _)
  have h3 : Lib.VarReads Tryz.prog W "unicode/utf8.first" Lib.firstData := (show Rows.laid_unicode_utf8_first = Lib.firstData by kernel_rfl) ▸ Lib.laidMet.reads hl' (.tail _ (.head _))
  exact utf8Tabs_of_readsT (U8Types.of196 Tryz.validS) ⟨by kernel_rfl, by kernel_rfl, by kernel_rfl, by kernel_rfl, by kernel_rfl, by kernel_rfl, by kernel_rfl⟩ h3 h4
theorem gok (W : World) (hsh : W.ShapedOpen Tryz.prog) (hl : laidMetH Tryz.prog Rows.alertsShownUptoRow.laid W) : GOK Tryz.prog (base0 W) :=
  gok_open (g := 0) (t := 3) (zero := #[.int .i64 0]) hsh (by kernel_rfl) (of_decide_eq_true (by kernel_rfl)) (by kernel_rfl) rfl (by kernel_rfl) (by kernel_rfl) Tryz.underlying3 (fun g h hk => by
    obtain ⟨rfl, rfl⟩ := Prod.mk.inj (Option.some.inj ((show u8Of Tryz.prog = some (1, 2) by kernel_rfl).symm.trans hk))
    exact tabs W hl)
theorem lifted (os : Os) (started : os.Started) (H : Type) (enc : TypeId × Value → H) (F : Stop.Interp) :
    ReturnsInHanded {} Tryz.checked os 3 .any ((Rows.OpenSpec.upto Rows.alertsShownSpec).preRow enc Tryz.prog Tryz.f3 Rows.alertsShownUptoRow.domain false Rows.alertsShownUptoRow.laid) (((Rows.OpenSpec.upto Rows.alertsShownSpec).at F).post enc Tryz.prog Tryz.f3 false true false false) := by
  obtain ⟨places, hx⟩ := reads os enc
  refine returnsInHanded_of_row (C := Tryz.checked) (s := Rows.OpenSpec.upto Rows.alertsShownSpec) own started (by kernel_rfl) Tryz.func3
    (witness_row_at (enc := enc) (C := Tryz.checked) false (laidWorld os) #[.slice none 0 0, .slice none 0 0, .int .i64 0] rfl (by kernel_rfl) (by kernel_rfl) (by kernel_rfl)
      (OpenSpec.preRow_of_cond 8 hx (by kernel_rfl) (fun k hk => by cases hk; kernel_rfl) (by kernel_rfl) (laid_met os))) ?_
  intro W base args ds gs before hval hW _ hcond _ hld hsh _
  exact contract H enc W base args ds gs before hval hW (hcond _ rfl) (gok W hsh hld)
theorem row_in : Tryz.pinned.checked.prog.inPlace 3 = Rows.alertsShownUptoRow.inPlace := by kernel_rfl
theorem row_unf : Tryz.pinned.checked.prog.unfollowed 3 = Rows.alertsShownUptoRow.unfollowed := by kernel_rfl
theorem row_rec : Tryz.pinned.checked.prog.recurses 3 = Rows.alertsShownUptoRow.recurses := by unfold Program.recurses; rw [row_unf]; rfl
theorem row_nam : Tryz.pinned.checked.prog.varsNamed 3 = Rows.alertsShownUptoRow.named := by kernel_rfl
theorem row_facts : joinedFacts Tryz.pinned.checked.prog 3 Tryz.f3 (Rows.OpenSpec.upto Rows.alertsShownSpec).bare Rows.alertsShownUptoRow = true := by
  unfold joinedFacts
  rw [row_in, row_unf, row_rec, row_nam]
  kernel_rfl
theorem saidUpto : Rows.AlertsShownUptoSaid :=
  OpenClaim.holds_of_cond 3 Tryz.f3 rfl rfl rfl rfl rfl rfl rfl ⟨rfl, rfl, rfl, rfl, rfl⟩ rfl rfl rfl rfl rfl (by kernel_rfl) Tryz.func3 row_facts
    (of_decide_eq_true (by kernel_rfl)) (by unfold Func.isWrapper; first | (rw [if_pos (by decide +kernel)]; kernel_rfl) | (rw [if_neg (by decide +kernel)]; exact ⟨rfl, rfl⟩))
    (fun os started H enc _ F => by rw [OpenClaim.pre_eq_preRow]; exact lifted os started H enc F)
theorem plain_ (f : FuncId) (fn : Func) (hf : Tryz.pinned.checked.prog.funcNamed "signboard/signlaw2.AlertsShown" = some f) (hfn : Tryz.pinned.checked.prog.funcs[f]? = some fn) :
    false = Tryz.pinned.checked.prog.looks [] ∧ ∀ (j : Nat) t, fn.params[j]? = some t → Tryz.pinned.checked.prog.wantsStandIn t = false := by
  obtain rfl : f = 3 := Option.some.inj ((show Tryz.prog.funcNamed "signboard/signlaw2.AlertsShown" = some 3 by kernel_rfl).symm.trans hf) |>.symm
  obtain rfl : fn = Tryz.f3 := (Option.some.inj (Tryz.func3.symm.trans hfn)).symm
  refine ⟨by kernel_rfl, fun j t ht => ?_⟩
  rw [Tryz.params3] at ht
  have hm := Array.mem_of_getElem? ht
  simp only [List.mem_toArray, List.mem_cons, List.not_mem_nil, or_false] at hm
  rcases hm with rfl | rfl | rfl
  · exact (show Tryz.prog.wantsStandIn 22 = false by kernel_rfl)
  · exact (show Tryz.prog.wantsStandIn 23 = false by kernel_rfl)
  · exact (show Tryz.prog.wantsStandIn 3 = false by kernel_rfl)
theorem card_goes : false = Rows.alertsShownUptoRow.goesBy Tryz.pinned.checked.prog := by kernel_rfl
theorem card_main : Tryz.pinned.checked.prog.mainIs = some (true, ("1c53ad4ad5b1973a9b33f5606ad59fd6ea239f2fe53501007a902453ffbbbb87" : String).toList) := by kernel_rfl
theorem card_wf : Rows.alertsShownUptoRow.wfByText (Rows.OpenSpec.upto Rows.alertsShownSpec) = true := by kernel_rfl
/-- THE SECOND FORM's CARD. -/
theorem proved : Rows.AlertsShownUptoCardSaid :=
  Claim7.holds_tied_plain_at .later [] _ _ _ _ saidUpto (fun _ h => by cases h) card_wf (fun _ h => by cases h) alertsShownUpto_row_tie rfl ⟨rfl, rfl⟩ card_main rfl plain_ card_goes
end Go.Proofs.YthcgpcmeffkijaaGreatDoor.alertsShown
namespace Go.Proofs.YthcgpcmeffkijaaGreatDoor
/-- The statement, under a short name. -/
theorem alertsShown_upto : Rows.AlertsShownUptoCardSaid := alertsShown.proved
#print axioms alertsShown_upto
end Go.Proofs.YthcgpcmeffkijaaGreatDoor
