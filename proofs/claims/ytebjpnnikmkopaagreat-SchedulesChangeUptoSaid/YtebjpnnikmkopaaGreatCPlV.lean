import Derived.Test.YtebjpnnikmkopaaGreatCPlT
import Derived.Test.YtebjpnnikmkopaaGreatCEv8
set_option linter.unusedVariables false
namespace Go.Abs
theorem eqB_self(a:ByteArray):eqB a a=true:=by
 show(a.data == a.data)=true
 exact beq_self_eq_true _
theorem eqB_no{a b:ByteArray}(h:a≠b):eqB a b=false:=by
 cases hc:(a.data == b.data)with
 | false=>exact hc
 | true=>
   have:a.data=b.data:=eq_of_beq hc
   exact absurd (by cases a;cases b;simp_all) h
theorem mset_new{β:Type}(v:β):∀{m:List (ByteArray×β)}{k:ByteArray},k∉m.map (·.1)→msetB eqB m k v=m++[(k,v)]
 | [],k,_=>rfl
 | p::m,k,h=>by
   rw[List.map_cons,List.mem_cons,not_or]at h
   unfold msetB
   rw[eqB_no h.1,mset_new v h.2]
   rfl
end Go.Abs
