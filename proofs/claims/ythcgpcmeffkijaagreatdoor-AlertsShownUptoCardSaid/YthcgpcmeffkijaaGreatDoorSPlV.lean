import Derived.Test.YthcgpcmeffkijaaGreatDoorSPlT
import Derived.Test.YthcgpcmeffkijaaGreatDoorSEv8
set_option linter.unusedVariables false
namespace Go.Abs
theorem idx_iter{α:Type}{st:Int→Option (Int⊕((Int×Bool)⊕Int))}{l:List α}(p:α→Bool)(hl:l.length≤1048576)(hs:∀(i:Nat) x,l[i]? = some x→st (i:Int)=some (bif p x then .inr (.inr (i:Int))else .inl ((i+1:Nat):Int)))
  (he:st (l.length:Int)=some (.inr (.inl ((l.length:Int),false)))) :
  (iter st 0=some (.inl ((l.length:Int),false))∧∀x∈l,p x=false)∨∃(k:Nat)(x:α),l[k]? = some x∧iter st 0=some (.inr (k:Int))∧p x=true∧∀(j:Nat) y,j<k→l[j]? = some y→p y=false:=by
 have hstep:∀(i:Nat)(s:Unit),i<l.length→(∀(j:Nat) x,j<i→l[j]? = some x→p x=false)→(∃ s':Unit,st (i:Int)=some (.inl ((i+1:Nat):Int))∧∀(j:Nat) x,j<i+1→l[j]? = some x→p x=false)∨∃r,st (i:Int)=some (.inr r)∧((r= .inl ((l.length:Int),false)∧∀x∈l,p x=false)∨∃(k:Nat)(x:α),l[k]? = some x∧r= .inr (k:Int)∧p x=true∧∀(j:Nat) y,j<k→l[j]? = some y→p y=false):=by
  intro i _ hi hI
  have hx:=List.getElem?_eq_getElem hi
  have h1:=hs i _ hx
  cases hp:p l[i]with
  | true=>
    rw[hp]at h1
    exact .inr ⟨_,h1,.inr ⟨i,_,hx,rfl,hp,hI⟩⟩
  | false=>
    rw[hp]at h1
    refine .inl ⟨(),h1,fun j x hj hjx=>?_⟩
    by_cases hji:j=i
    ·subst hji
     rw[hx]at hjx
     cases hjx
     exact hp
    ·exact hI j x (by omega) hjx
 obtain⟨r,h1,h2⟩:=iter_upx (st:=st) (fun(_:Unit) i=>(i:Int)) l.length (fun i _=>∀(j:Nat) x,j<i→l[j]? = some x→p x=false) (fun r=>(r= .inl ((l.length:Int),false)∧∀x∈l,p x=false)∨∃(k:Nat)(x:α),l[k]? = some x∧r= .inr (k:Int)∧p x=true∧∀(j:Nat) y,j<k→l[j]? = some y→p y=false) hstep
  (fun _ hI=>⟨_,he,.inl ⟨rfl,fun x hx=>by
   obtain⟨j,hj⟩:=List.getElem?_of_mem hx
   exact hI j x (List.getElem?_eq_some_iff.1 hj).1 hj⟩⟩) 0 () (Nat.zero_le _) (fun j x hj=>by omega)
 have h1:iter st 0=some r:=h1
 rcases h2 with⟨rfl,h3⟩|⟨k,x,h3,rfl,h4,h5⟩
 ·exact .inl ⟨h1,h3⟩
 ·exact .inr ⟨k,x,h3,h1,h4,h5⟩
theorem eqB_self(a:ByteArray):eqB a a=true:=by
 show(a.data == a.data)=true
 exact beq_self_eq_true _
theorem eqB_no{a b:ByteArray}(h:a≠b):eqB a b=false:=by
 cases hc:(a.data == b.data)with
 | false=>exact hc
 | true=>
   have:a.data=b.data:=eq_of_beq hc
   exact absurd (by cases a;cases b;simp_all) h
theorem mget_none{β:Type}{m:List (ByteArray×β)}{k:ByteArray}(h:k∉m.map (·.1)):mgetB eqB m k=none:=by
 unfold mgetB
 rw[List.find?_eq_none.2]
 ·rfl
 ·intro p hp
  rw[eqB_no]
  ·decide
  ·intro e
   exact h (List.mem_map.2 ⟨p,hp,e.symm⟩)
theorem mset_new{β:Type}(v:β):∀{m:List (ByteArray×β)}{k:ByteArray},k∉m.map (·.1)→msetB eqB m k v=m++[(k,v)]
 | [],k,_=>rfl
 | p::m,k,h=>by
   rw[List.map_cons,List.mem_cons,not_or]at h
   unfold msetB
   rw[eqB_no h.1,mset_new v h.2]
   rfl
end Go.Abs
