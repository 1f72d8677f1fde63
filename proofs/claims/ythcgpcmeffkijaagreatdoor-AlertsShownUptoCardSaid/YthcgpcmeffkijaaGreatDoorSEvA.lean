import Derived.Test.YthcgpcmeffkijaaGreatDoorSAbsW
set_option linter.unusedVariables false
set_option linter.unusedSimpArgs false
namespace Go.Abs
open Go.RowKit
section
variable (P:Program) (t:TypeId) (x y:Operand) (k:IntKind) (a b:Int) (s u:ByteArray)
end
end Go.Abs
namespace Go.Abs
section
variable (P:Program) (t:TypeId) (x y:Operand) (k:IntKind) (a b:Int) (s u:ByteArray)
theorem pureRun_bind{α β:Type}(s:Sem α)(f:α→Sem β):pureRun P (s >>= f)=(pureRun P s).bind fun a=>pureRun P (f a):=by
 induction s with
 | pure b=>rfl
 | program k ih=>exact ih P
 | mark m k ih=>exact ih
 | _=>rfl
theorem pureRun_underlying{d:TypeDesc}(h:P.underlying t=some d):pureRun P (underlying t)=some d:=by
 unfold underlying
 rw[pureRun_bind]
 show pureRun P (match P.underlying t with|some d=>pure d|none=>stuck "no such type")=_
 rw[h]
 rfl
theorem indexA_str{i:Int}(hu:P.underlying t=some .string)(h0:0≤i)(h1:i.toNat<s.size):indexA P t (.str s) (.int k i)=some (.int .u8 (s[i.toNat]'h1).toNat):=by
 have hs:s[i.toNat]? = some (s[i.toNat]'h1):=by simp[h1]
 show((pureRun P (Instr.index t (.string s) (.int k i))).bind ofV)=_
 unfold Instr.index
 rw[pureRun_bind]
 show((pureRun P (asIntOf (.int k i))).bind _).bind ofV=_
 have:pureRun P (asIntOf (.int k i))=some (k,i):=rfl
 rw[this,Option.bind_some]
 simp only
 rw[pureRun_bind,pureRun_underlying P t hu,Option.bind_some]
 simp only[h0,if_true,hs]
 rfl
end
end Go.Abs
