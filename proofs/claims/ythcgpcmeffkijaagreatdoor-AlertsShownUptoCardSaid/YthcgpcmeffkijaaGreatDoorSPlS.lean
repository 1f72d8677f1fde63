import Derived.Test.YthcgpcmeffkijaaGreatDoorSPlU
import Derived.Test.YthcgpcmeffkijaaGreatDoorSEv7
set_option linter.unusedVariables false
set_option linter.unusedSimpArgs false
namespace Go.Abs
open Go.Sort Go.Proofs
section
variable {α:Type}
theorem filterMap_range(l:List α):(List.range l.length).filterMap (l[·]?)=l:=by
 apply List.ext_getElem?
 intro i
 have h:(List.range l.length).filterMap (l[·]?)=(List.range l.length).attach.map fun p=>l[p.1]'(List.mem_range.1 p.2):=by
  have:∀(m:List Nat)(hm:∀i∈m,i<l.length),m.filterMap (l[·]?)=m.attach.map fun p=>l[p.1]'(hm p.1 p.2):=by
   intro m
   induction m with
   | nil=>intro _;rfl
   | cons a m ih=>
     intro hm
     have ha:a<l.length:=hm a (by simp)
     rw[List.filterMap_cons]
     simp only[List.getElem?_eq_getElem ha]
     rw[ih fun i hi=>hm i (by simp[hi])]
     simp[List.attach_cons]
  exact this (List.range l.length) fun i hi=>List.mem_range.1 hi
 rw[h]
 by_cases hi:i<l.length
 ·rw[List.getElem?_eq_getElem (by simpa using hi),List.getElem?_eq_getElem hi]
  simp
 ·rw[List.getElem?_eq_none (by simpa using Nat.le_of_not_lt hi),List.getElem?_eq_none (by omega)]
theorem sortO_le(cmp:α→α→Option Int)(le:α→α→Prop)(tot:∀x y,le x y∨le y x)(tr:∀x y z,le x y→le y z→le x z)(l:List α)(hl:l.length<4611686018427387904)
  (h:∀x∈l,∀y∈l,∃n,cmp x y=some n∧(n<0↔¬le y x)):∃l',sortO cmp l=some l'∧l'.Perm l∧l'.Pairwise le:=by
 by_cases hne:l=[]
 ·subst hne
  exact⟨[],by simp[sortO],.nil,.nil⟩
 have h0:0<l.length:=List.length_pos_iff.2 hne
 let g:Nat→α:=fun i=>l[min i (l.length-1)]'(by omega)
 have hg:∀i,g i∈l:=fun i=>List.getElem_mem _
 have hlt:∀i j,ltT cmp l i j=true↔¬le (g j) (g i):=by
  intro i j
  obtain⟨n,h1,h2⟩:=h (g i) (hg i) (g j) (hg j)
  have hi:l[min i (l.length-1)]? = some (g i):=List.getElem?_eq_getElem _
  have hj:l[min j (l.length-1)]? = some (g j):=List.getElem?_eq_getElem _
  unfold ltT
  simp only[hi,hj,h1,Option.getD_some,decide_eq_true_eq]
  exact h2
 have hf:∀i j,ltT cmp l i j=false↔le (g j) (g i):=by
  intro i j
  rw[← Bool.not_eq_true,hlt]
  exact Classical.not_not
 have hO:SWO (ltT cmp l):=by
  refine⟨fun i=>?_,fun i j k h1 h2=>?_,fun i j k h1 h2=>?_⟩
  ·rw[hf]
   rcases tot (g i) (g i)with h|h<;>exact h
  ·rw[hlt]at h1 h2 ⊢
   intro h3
   have h4:le (g i) (g j):=(tot (g i) (g j)).resolve_right h1
   exact h2 (tr _ _ _ h3 h4)
  ·rw[hf]at h1 h2 ⊢
   exact tr _ _ _ h2 h1
 have hs:∀x∈l,∀y∈l,(cmp x y).isSome=true:=fun x hx y hy=>by
  obtain⟨n,h1,_⟩:=h x hx y hy
  rw[h1];rfl
 obtain⟨hp,hsort⟩:=sortIx_perm hO l.length
 refine⟨(sortIx (ltT cmp l) l.length).filterMap (l[·]?),?_,?_,?_⟩
 ·unfold sortO
  rw[if_neg hne,if_pos ⟨hl,hs,hO⟩]
 ·have:=hp.filterMap (l[·]?)
  rwa[filterMap_range]at this
 ·have hmem:∀i∈sortIx (ltT cmp l) l.length,i<l.length:=fun i hi=>List.mem_range.1 (hp.mem_iff.1 hi)
  have hpw:(sortIx (ltT cmp l) l.length).Pairwise fun i j=>le (g i) (g j):=by
   rw[List.pairwise_iff_getElem]
   intro i j hi hj hij
   have hsz:(pdq (ltT cmp l) (Array.range l.length) 0 l.length (Lib.bitLen l.length) true true).size=l.length:=by
    have:=hp.length_eq
    simpa[sortIx]using this
   have hj':j<l.length:=by simpa[sortIx,hsz]using hj
   have:=hsort i j (Nat.zero_le _) hij hj'
   rw[hf]at this
   have e:∀(q:Nat)(hq:q<(sortIx (ltT cmp l) l.length).length),(pdq (ltT cmp l) (Array.range l.length) 0 l.length (Lib.bitLen l.length) true true)[q]! = (sortIx (ltT cmp l) l.length)[q]'hq:=by
    intro q hq
    have hq':q<(pdq (ltT cmp l) (Array.range l.length) 0 l.length (Lib.bitLen l.length) true true).size:=by simpa[sortIx]using hq
    rw[getElem!_pos (pdq (ltT cmp l) (Array.range l.length) 0 l.length (Lib.bitLen l.length) true true) q hq']
    simp[sortIx]
   rw[e i hi,e j hj]at this
   exact this
  refine List.pairwise_filterMap.2 (hpw.imp_of_mem fun{i j} hi hj hij x hx y hy=>?_)
  have hi':=hmem i hi
  have hj':=hmem j hj
  have ei:g i=x:=by
   have:l[min i (l.length-1)]? = some x:=by rw[show min i (l.length-1)=i by omega];exact hx
   have h2:l[min i (l.length-1)]? = some (g i):=List.getElem?_eq_getElem _
   rw[h2]at this
   exact Option.some.inj this
  have ej:g j=y:=by
   have:l[min j (l.length-1)]? = some y:=by rw[show min j (l.length-1)=j by omega];exact hy
   have h2:l[min j (l.length-1)]? = some (g j):=List.getElem?_eq_getElem _
   rw[h2]at this
   exact Option.some.inj this
  rw[← ei,←ej]
  exact hij
end
end Go.Abs
namespace Go.Abs
open Go.Sort Go.Proofs
end Go.Abs
