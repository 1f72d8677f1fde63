import Derived.Test.YthcgpcmeffkijaaGreatDoorSEv3
set_option linter.unusedVariables false
set_option linter.unusedSimpArgs false
namespace Go.Abs
open Go.RowKit
def allB:List Bool→Bool
 | []=>true
 | b::l=>b&&allB l
def sf(P:Program)(t:TypeId):Array Field:=match P.underlying t with
 | some (.struct fs)=>fs
 | _=>#[]
section
variable {P:Program} {C:Callee} {s:Nat→AV} {objs:Nat→Option AObj} {d:Nat} {ty:TypeId} {op:Op}
def fieldEq(P:Program)(dep:Nat)(xs ys:Array Value)(f:Field):Sem Bool:=do Op.equalIn dep f.type (← part f.type xs f.offset) (← part f.type ys f.offset)
theorem pure_for(xs ys:Array Value)(dep:Nat):∀(l:List Field)(bs:List Bool),l.map (fun f=>if f.name ≠ "_" then pureRun P (fieldEq P dep xs ys f)else some true)=bs.map some→
  pureRun P (forIn l ((none,()):Option Bool×Unit) fun f __s=>if f.name ≠ "_" then do
            let a ←part f.type xs f.offset
            let b ←part f.type ys f.offset
            let c ←Op.equalIn dep f.type a b
            if(!c)=true then pure (ForInStep.done (some false,()))else pure (ForInStep.yield (none,()))
   else pure (ForInStep.yield (none,())))=some (if allB bs then(none,())else(some false,()))
 | [],bs,h=>by
   cases bs with
   | nil=>rfl
   | cons b bs=>simp at h
 | f::l,bs,h=>by
   cases bs with
   | nil=>simp at h
   | cons b bs=>
     simp only[List.map_cons,List.cons.injEq]at h
     obtain⟨h1,h2⟩:=h
     have ih:=pure_for xs ys dep l bs h2
     rw[List.forIn_cons,pureRun_bind]
     by_cases hn:f.name ≠ "_"
     ·rw[if_pos hn]at h1
      rw[if_pos hn]
      unfold fieldEq at h1
      rw[pureRun_bind]at h1
      obtain⟨a,ha,h1⟩:=bind_some' h1
      rw[pureRun_bind]at h1
      obtain⟨c,hc,h1⟩:=bind_some' h1
      rw[pureRun_bind,ha,Option.bind_some,pureRun_bind,hc,Option.bind_some,pureRun_bind,h1,Option.bind_some]
      cases b with
      | false=>rfl
      | true=>exact ih
     ·rw[if_neg hn]at h1
      rw[if_neg hn]
      cases h1
      exact ih
theorem equalIn_struct(t:TypeId)(dep:Nat)(xs ys:Array Value)(fs:Array Field)(bs:List Bool)(hu:P.underlying t=some (.struct fs))(hs:P.stoodInHeld t=false)
  (hb:fs.toList.map (fun f=>if f.name ≠ "_" then pureRun P (fieldEq P dep xs ys f)else some true)=bs.map some):pureRun P (Op.equalIn (dep+1) t (.agg xs) (.agg ys))=some (allB bs):=by
 have h:=pure_for (P:=P) xs ys dep fs.toList bs hb
 unfold Op.equalIn
 rw[pureRun_bind,pureRun_underlying P t hu,Option.bind_some]
 simp only
 rw[pureRun_bind]
 have hp:pureRun P program=some P:=rfl
 rw[hp,Option.bind_some,hs]
 simp only[Bool.false_eq_true,if_false]
 rw[pureRun_bind,←Array.forIn_toList,h,Option.bind_some]
 cases allB bs<;>rfl
theorem eql_run(t:TypeId)(xo yo:Operand)(us vs:List Value)(bs:List Bool)(hg:P.eqGuardType P.depth t=false)(hu:P.underlying t=some (.struct (sf P t)))(hs:P.stoodInHeld t=false)
  (hb:(sf P t).toList.map (fun f=>if f.name ≠ "_" then pureRun P (fieldEq P 9999 us.toArray vs.toArray f)else some true)=bs.map some) :
  pureRun P (do eqGuard .eql t xo yo (.agg us.toArray) (.agg vs.toArray);binOp .eql t (.agg us.toArray) (.agg vs.toArray))=some (.bool (allB bs))∧
  pureRun P (do eqGuard .neq t xo yo (.agg us.toArray) (.agg vs.toArray);binOp .neq t (.agg us.toArray) (.agg vs.toArray))=some (.bool (!allB bs)):=by
 have he:pureRun P (Op.equal t (.agg us.toArray) (.agg vs.toArray))=some (allB bs):=equalIn_struct t 9999 us.toArray vs.toArray (sf P t) bs hu hs hb
 have hg2:∀op:BinOp,op= .eql∨op= .neq→pureRun P (eqGuard op t xo yo (.agg us.toArray) (.agg vs.toArray))=some ():=by
  intro op ho
  have hp:pureRun P program=some P:=rfl
  unfold eqGuard
  rcases ho with rfl|rfl
  all_goals
   simp only[Bool.not_true,Bool.false_eq_true,if_false,pureRun_bind,hp,Option.bind_some,hg]
   rfl
 refine⟨?_,?_⟩
 ·rw[pureRun_bind,hg2 _ (.inl rfl),Option.bind_some]
  show pureRun P (do pure (Value.bool (← Op.equal t (.agg us.toArray) (.agg vs.toArray))))=_
  rw[pureRun_bind,he]
  rfl
 ·rw[pureRun_bind,hg2 _ (.inr rfl),Option.bind_some]
  show pureRun P (do pure (Value.bool (!(← Op.equal t (.agg us.toArray) (.agg vs.toArray)))))=_
  rw[pureRun_bind,he]
  rfl
theorem neqE(t:TypeId)(xo yo:Operand)(xs ys:List AV)(us vs:List Value)(bs:List Bool)(hop:effOf P C s objs d ty op=(binA P .neq t xo yo (.agg xs) (.agg ys)).map fun v=>{ val:=v }:=by kernel_rfl)(hx:toVs xs=some us:=by kernel_rfl)(hy:toVs ys=some vs:=by kernel_rfl)
  (hg:P.eqGuardType P.depth t=false:=by kernel_rfl) (hu:P.underlying t=some (.struct (sf P t)):=by kernel_rfl) (hs:P.stoodInHeld t=false:=by kernel_rfl)
  (hb:(sf P t).toList.map (fun f=>if f.name ≠ "_" then pureRun P (fieldEq P 9999 us.toArray vs.toArray f)else some true)=bs.map some:=by kernel_rfl) :
  effOf P C s objs d ty op=some { val:= .bool (!allB bs) }:=by
 have h:=(eql_run t xo yo us vs bs hg hu hs hb).2
 rw[hop]
 unfold binA pure2
 simp only[toV,hx,hy,Option.map_some,Option.bind_some]
 rw[h]
 rfl
end
section
variable {P:Program}
end
end Go.Abs
