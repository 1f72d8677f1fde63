import Derived.Test.YthcgpcmeffkijaaGreatDoorSEv5
set_option linter.unusedVariables false
set_option linter.unusedSimpArgs false
namespace Go.Abs
open Go.RowKit
abbrev MP{α β:Type}(fk:α→AV)(fv:β→AV)(l:List (α×β))(fz:Bool):AObj:= .mp (l.map fun p=>fk p.1) (l.map fun p=>fv p.2) fz
abbrev MV{α β:Type}(fk:α→AV)(fv:β→AV)(l:List (α×β)):AV:= .mv (l.map fun p=>fk p.1) (l.map fun p=>fv p.2)
def mgetB{α β:Type}(eqf:α→α→Bool)(l:List (α×β))(k:α):Option β:=(l.find? fun p=>eqf k p.1).map (·.2)
def msetB{α β:Type}(eqf:α→α→Bool):List (α×β)→α→β→List (α×β)
 | [],k,v=>[(k,v)]
 | p::l,k,v=>bif eqf k p.1 then(p.1,v)::l else p::msetB eqf l k v
section
variable {α β:Type} {fk:α→AV} {fv:β→AV} {eqf:α→α→Bool}
theorem sameS(a b:ByteArray):sameK (.str a) (.str b)=some (eqB a b):=rfl
theorem findK_typed(hs:∀a b,sameK (fk a) (fk b)=some (eqf a b))(k:α):∀(l:List (α×β))(i:Nat),findK (fk k) (l.map fun p=>fk p.1) i=some ((l.findIdx? fun p=>eqf k p.1).map (· + i))
 | [],i=>rfl
 | p::l,i=>by
   rw[List.map_cons,findK,hs,Option.bind_some,List.findIdx?_cons]
   cases eqf k p.1 with
   | true=>simp
   | false=>
     simp only[Bool.false_eq_true,if_false]
     rw[findK_typed hs k l (i+1)]
     cases l.findIdx? fun p=>eqf k p.1 with
     | none=>rfl
     | some j=>simp;omega
theorem find_idx(k:α):∀(l:List (α×β)),match l.findIdx? fun p=>eqf k p.1 with
  | some i=>∃p,l[i]? = some p∧l.find? (fun p=>eqf k p.1)=some p
  | none=>l.find? (fun p=>eqf k p.1)=none
 | []=>by simp
 | p::l=>by
   have ih:=find_idx k l
   rw[List.findIdx?_cons]
   cases h:eqf k p.1 with
   | true=>exact⟨p,rfl,by rw[List.find?_cons_of_pos (by exact h)]⟩
   | false=>
     simp only[Bool.false_eq_true,if_false]
     cases h2:l.findIdx? fun p=>eqf k p.1 with
     | none=>
       rw[h2]at ih
       simp only[Option.map_none]
       rw[List.find?_cons_of_neg (by rw[h];decide)]
       exact ih
     | some j=>
       rw[h2]at ih
       simp only[Option.map_some]
       obtain⟨q,h3,h4⟩:=ih
       exact⟨q,by simpa using h3,by rw[List.find?_cons_of_neg (by rw[h];decide)];exact h4⟩
theorem mset_at(k:α)(v:β):∀(l:List (α×β)),match l.findIdx? fun p=>eqf k p.1 with
  | some i=>(msetB eqf l k v).map (fun p=>fk p.1)=l.map (fun p=>fk p.1)∧(msetB eqf l k v).map (fun p=>fv p.2)=(l.map fun p=>fv p.2).set i (fv v)
  | none=>msetB eqf l k v=l++[(k,v)]
 | []=>by simp[msetB]
 | p::l=>by
   have ih:=mset_at k v l
   rw[List.findIdx?_cons,msetB]
   cases h:eqf k p.1 with
   | true=>exact⟨rfl,rfl⟩
   | false=>
     simp only[Bool.false_eq_true,if_false,cond_false]
     cases h2:l.findIdx? fun p=>eqf k p.1 with
     | none=>
       rw[h2]at ih
       simp only[Option.map_none]
       rw[show msetB eqf l k v=l++[(k,v)]from ih]
       rfl
     | some j=>
       rw[h2]at ih
       simp only[Option.map_some]
       obtain⟨h3,h4⟩:=ih
       exact⟨by rw[List.map_cons,List.map_cons,h3],by rw[List.map_cons,List.map_cons,h4];rfl⟩
theorem lookIn_typed{P:Program}{t kt et:TypeId}{l:List (α×β)}{k:α}{z:β}(hT:mapT P t=some (kt,et))(hk:∀a,keyOk P kt (fk a)=true)(hz:zeroM P et=some (fv z))
  (hs:∀a b,sameK (fk a) (fk b)=some (eqf a b)):lookIn P t (l.map fun p=>fk p.1) (l.map fun p=>fv p.2) (fk k)=some (fv ((mgetB eqf l k).getD z),(mgetB eqf l k).isSome):=by
 unfold lookIn mgetB
 simp only[hT,Option.bind_some,hk,if_true,findK_typed hs]
 have h:=find_idx (eqf:=eqf) k l
 cases h2:l.findIdx? fun p=>eqf k p.1 with
 | none=>
   rw[h2]at h
   simp only at h
   rw[h,hz]
   rfl
 | some j=>
   rw[h2]at h
   simp only at h
   obtain⟨p,h3,h4⟩:=h
   rw[h4]
   simp[h3]
theorem look_typed{P:Program}{objs:Nat→Option AObj}{t kt et:TypeId}{id:Nat}{l:List (α×β)}{fz:Bool}{k:α}{z:β}(ho:objs id=some (MP fk fv l fz))(hT:mapT P t=some (kt,et))(hk:∀a,keyOk P kt (fk a)=true)(hz:zeroM P et=some (fv z))
  (hs:∀a b,sameK (fk a) (fk b)=some (eqf a b)):lookA P objs t (.mr id) (fk k)=some (fv ((mgetB eqf l k).getD z),(mgetB eqf l k).isSome):=by
 unfold lookA
 simp only[ho]
 exact lookIn_typed hT hk hz hs
theorem upd_typed{P:Program}{σ:Env}{t kt et:TypeId}{id:Nat}{l:List (α×β)}{k:α}{x:AV}{v:β}{frz:List Nat}(ho:σ.objs id=some (MP fk fv l false))(hT:mapT P t=some (kt,et))(hk:∀a,keyOk P kt (fk a)=true)
  (hn:(refsOf σ.objs DEPTH x).all (· != id)=true) (hx:expt (fun _=>false) σ.objs DEPTH x=some (fv v)) (hf:refsOf σ.objs DEPTH x=frz) (hs:∀a b,sameK (fk a) (fk b)=some (eqf a b)) :
  updA P σ t (.mr id) (fk k) x=some (id,MP fk fv (msetB eqf l k v) false,frz):=by
 subst hf
 unfold updA
 simp only[ho,hT,Option.bind_some,hk,if_true,hn,hx,findK_typed hs]
 have h:=mset_at (fk:=fk) (fv:=fv) (eqf:=eqf) k v l
 cases h2:l.findIdx? fun p=>eqf k p.1 with
 | none=>
   rw[h2]at h
   simp only at h
   rw[h]
   simp
 | some j=>
   rw[h2]at h
   simp only at h
   obtain⟨h3,h4⟩:=h
   simp only[Option.map_some,Nat.add_zero]
   rw[← h4,←h3]
end
section
variable {P:Program} {C:Callee} {s:Nat→AV} {objs:Nat→Option AObj} {d:Nat} {ty:TypeId} {op:Op} {α β:Type}
theorem mapE(t kt et id:Nat)(fz:Bool)(fk:α→AV)(fv:β→AV)(eqf:α→α→Bool)(l:List (α×β))(k:α)(z:β)(hs:∀a b,sameK (fk a) (fk b)=some (eqf a b))
  (hop:effOf P C s objs d ty op=(lookA P objs t (.mr id) (fk k)).map fun(v,b)=>{ val:=v }:=by kernel_rfl) (ho:objs id=some (MP fk fv l fz):=by kernel_rfl) (hT:mapT P t=some (kt,et):=by kernel_rfl) (hk:∀a,keyOk P kt (fk a)=true:=by intro _;kernel_rfl) (hz:zeroM P et=some (fv z):=by kernel_rfl) :
  effOf P C s objs d ty op=some { val:=fv ((mgetB eqf l k).getD z) }:=by
 rw[hop,look_typed ho hT hk hz hs]
 rfl
theorem lenME(t id:Nat)(fk:α→AV)(l:List (α×β))(hop:effOf P C s objs d ty op=some { val:= .int .i64 (((l.map fun p=>fk p.1).length:Nat):Int) }:=by kernel_rfl) :
 effOf P C s objs d ty op=some { val:= .int .i64 (lenL l) }:=by rw[hop,List.length_map];rfl
end
section
variable {P:Program} {C:Callee} {σ:Env} {op:Op} {dst:Option Nat} {α β:Type}
theorem mapO_(t kt et id:Nat)(fk:α→AV)(fv:β→AV)(eqf:α→α→Bool)(l:List (α×β))(k:α)(x:AV)(v:β)(frz:List Nat)(hs:∀a b,sameK (fk a) (fk b)=some (eqf a b))
  (hop:modOf P C σ dst op=(updA P σ t (.mr id) (fk k) x).map fun(r,o,frz)=>(σ.turn r o frz).put dst .und:=by kernel_rfl) (ho:σ.objs id=some (MP fk fv l false):=by kernel_rfl) (hT:mapT P t=some (kt,et):=by kernel_rfl) (hk:∀a,keyOk P kt (fk a)=true:=by intro _;kernel_rfl)
  (hn:(refsOf σ.objs DEPTH x).all (· != id)=true:=by kernel_rfl) (hx:expt (fun _=>false) σ.objs DEPTH x=some (fv v):=by kernel_rfl) (hf:refsOf σ.objs DEPTH x=frz:=by kernel_rfl) :
  modOf P C σ dst op=(some (msetB eqf l k v)).map fun l'=>(σ.turn id (MP fk fv l' false) frz).put dst .und:=by
 rw[hop,upd_typed ho hT hk hn hx hf hs]
 rfl
end
end Go.Abs
