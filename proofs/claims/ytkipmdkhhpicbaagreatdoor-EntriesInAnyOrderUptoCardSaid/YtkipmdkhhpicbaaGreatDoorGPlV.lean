import Derived.Test.YtkipmdkhhpicbaaGreatDoorGPlT
import Derived.Test.YtkipmdkhhpicbaaGreatDoorGEv8
set_option linter.unusedVariables false
namespace Go.Abs
theorem eqB_self(a:ByteArray):eqB a a=true:=by
 show(a.data == a.data)=true
 exact beq_self_eq_true _
theorem eqB_no{a b:ByteArray}(h:a≠b):eqB a b=false:=by
 cases hc:(a.data == b.data)with
 | false=>exact hc
 | true=>
   have:a.data=b.data:=eq_of_beq hc
   exact absurd (by cases a;cases b;simp_all) h
end Go.Abs
