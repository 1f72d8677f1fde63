import Derived.Test.YtkipmdkhhpicbaaGreatDoorHAbsW
set_option linter.unusedVariables false
set_option linter.unusedSimpArgs false
namespace Go.Abs
open Go.RowKit
section
variable (P : Program) (t : TypeId) (x y : Operand) (k : IntKind) (a b : Int) (s u : ByteArray)
theorem binA_eql_int : binA P .eql t x y (.int k a) (.int k b) = some (.bool (a == b)) := by cases k <;> rfl
theorem binA_neq_int : binA P .neq t x y (.int k a) (.int k b) = some (.bool (a != b)) := by cases k <;> rfl
theorem binA_lss_int : binA P .lss t x y (.int k a) (.int k b) = some (.bool (decide (a < b))) := by cases k <;> rfl
theorem binA_leq_int : binA P .leq t x y (.int k a) (.int k b) = some (.bool (decide (a ≤ b))) := by cases k <;> rfl
theorem binA_gtr_int : binA P .gtr t x y (.int k a) (.int k b) = some (.bool (decide (b < a))) := by cases k <;> rfl
theorem binA_geq_int : binA P .geq t x y (.int k a) (.int k b) = some (.bool (decide (b ≤ a))) := by cases k <;> rfl
theorem binA_add_int : binA P .add t x y (.int k a) (.int k b) = some (.int k (k.wrap (a + b))) := by cases k <;> rfl
theorem binA_sub_int : binA P .sub t x y (.int k a) (.int k b) = some (.int k (k.wrap (a - b))) := by cases k <;> rfl
theorem binA_mul_int : binA P .mul t x y (.int k a) (.int k b) = some (.int k (k.wrap (a * b))) := by cases k <;> rfl
theorem binA_eql_str : binA P .eql t x y (.str s) (.str u) = some (.bool (s.toList == u.toList)) := rfl
theorem binA_neq_str : binA P .neq t x y (.str s) (.str u) = some (.bool (!(s.toList == u.toList))) := rfl
theorem binA_lss_str : binA P .lss t x y (.str s) (.str u) = some (.bool (Op.bytesLess s.toList u.toList)) := rfl
theorem binA_leq_str : binA P .leq t x y (.str s) (.str u) = some (.bool (Op.bytesLess s.toList u.toList || s.toList == u.toList)) := rfl
theorem binA_gtr_str : binA P .gtr t x y (.str s) (.str u) = some (.bool (!(Op.bytesLess s.toList u.toList || s.toList == u.toList))) := rfl
theorem binA_geq_str : binA P .geq t x y (.str s) (.str u) = some (.bool (!Op.bytesLess s.toList u.toList)) := rfl
end
end Go.Abs
namespace Go.Abs
section
variable (P : Program) (t : TypeId) (x y : Operand) (k : IntKind) (a b : Int) (s u : ByteArray)
theorem unA_not (p : Bool) : unA P .not (.bool p) = some (.bool (!p)) := rfl
theorem unA_neg : unA P .neg (.int k a) = some (.int k (k.wrap (0 - a))) := by cases k <;> rfl
theorem pureRun_bind {α β : Type} (s : Sem α) (f : α → Sem β) : pureRun P (s >>= f) = (pureRun P s).bind fun a => pureRun P (f a) := by
  induction s with
  | pure b => rfl
  | program k ih => exact ih P
  | mark m k ih => exact ih
  | _ => rfl
theorem pureRun_pure {α : Type} (v : α) : pureRun P (pure v : Sem α) = some v := rfl
theorem pureRun_underlying {d : TypeDesc} (h : P.underlying t = some d) : pureRun P (underlying t) = some d := by
  unfold underlying
  rw [pureRun_bind]
  show pureRun P (match P.underlying t with | some d => pure d | none => stuck "no such type") = _
  rw [h]
  rfl
theorem binA_rem (h : b ≠ 0) : binA P .rem t x y (.int k a) (.int k b) = some (.int k (a.tmod b)) := by
  show ((pureRun P (do eqGuard .rem t x y (.int k a) (.int k b); (if k ≠ k then stuck "BinOp: operands of different kinds" else Op.intDiv .rem k a b) : Sem Value)).bind ofV) = _
  rw [pureRun_bind]
  simp only [ne_eq, not_true_eq_false, if_false, Op.intDiv, if_neg h]
  rfl
theorem binA_quo (h : b ≠ 0) : binA P .quo t x y (.int k a) (.int k b) = some (.int k (k.wrap (a.tdiv b))) := by
  show ((pureRun P (do eqGuard .quo t x y (.int k a) (.int k b); (if k ≠ k then stuck "BinOp: operands of different kinds" else Op.intDiv .quo k a b) : Sem Value)).bind ofV) = _
  rw [pureRun_bind]
  simp only [ne_eq, not_true_eq_false, if_false, Op.intDiv, if_neg h]
  rfl
theorem indexA_str {i : Int} (hu : P.underlying t = some .string) (h0 : 0 ≤ i) (h1 : i.toNat < s.size) : indexA P t (.str s) (.int k i) = some (.int .u8 (s[i.toNat]'h1).toNat) := by
  have hs : s[i.toNat]? = some (s[i.toNat]'h1) := by simp [h1]
  show ((pureRun P (Instr.index t (.string s) (.int k i))).bind ofV) = _
  unfold Instr.index
  rw [pureRun_bind]
  show ((pureRun P (asIntOf (.int k i))).bind _).bind ofV = _
  have : pureRun P (asIntOf (.int k i)) = some (k, i) := rfl
  rw [this, Option.bind_some]
  simp only
  rw [pureRun_bind, pureRun_underlying P t hu, Option.bind_some]
  simp only [h0, if_true, hs]
  rfl
end
end Go.Abs
