import Derived.Test.YtpnddbpcioepnaaGreatDoorFPlS
set_option linter.unusedVariables false
set_option linter.unusedSimpArgs false
namespace Go.Abs
open Go.Sort Go.Proofs
theorem compact_facts(zs:List Int)(hs:zs.Pairwise (· ≤ ·)):(Lib.compact zs).Pairwise (· < ·)∧∀x,x∈Lib.compact zs↔x∈zs:=by
 have hget:∀j,j<zs.length→zs.toArray[j]! = zs[j]! := fun j hj=>by simp
 have hmono:∀i j,i≤j→j<zs.length→zs.toArray[i]! ≤ zs.toArray[j]! := by
  intro i j hij hj
  by_cases e:i=j
  ·subst e;exact Int.le_refl _
  rw[getElem!_pos zs.toArray i (by simp;omega),getElem!_pos zs.toArray j (by simpa using hj)]
  have:=List.pairwise_iff_getElem.1 hs i j (by omega) hj (by omega)
  simpa using this
 suffices H:∀m,m≤zs.length→(Lib.compactUpTo zs.toArray m).Pairwise (· < ·)∧∀x,x∈Lib.compactUpTo zs.toArray m↔∃j,j<m∧zs.toArray[j]! = x by
  obtain⟨h1,h2⟩:=H zs.length (Nat.le_refl _)
  refine⟨h1,fun x=>(h2 x).trans ⟨?_,?_⟩⟩
  ·rintro⟨j,hj,rfl⟩
   rw[getElem!_pos zs.toArray j (by simpa using hj)]
   simp
  ·intro hx
   obtain⟨j,hj,e⟩:=List.getElem_of_mem hx
   refine⟨j,hj,?_⟩
   rw[getElem!_pos zs.toArray j (by simpa using hj)]
   simpa using e
 intro m
 induction m with
 | zero=>
   intro _
   refine⟨by simp[Lib.compactUpTo],fun x=>⟨fun h=>by simp[Lib.compactUpTo]at h,fun⟨j,h,_⟩=>absurd h (Nat.not_lt_zero j)⟩⟩
 | succ m ih=>
   intro hm
   obtain⟨h1,h2⟩:=ih (by omega)
   rw[Lib.compactUpTo_succ]
   by_cases hk:Lib.keeps zs.toArray m=true
   ·rw[if_pos hk]
    refine⟨List.pairwise_append.2 ⟨h1,by simp,?_⟩,fun x=>?_⟩
    ·intro a ha b hb
     rw[List.mem_singleton]at hb
     subst hb
     obtain⟨j,hj,rfl⟩:=(h2 a).1 ha
     unfold Lib.keeps at hk
     rcases of_decide_eq_true hk with h|h
     ·omega
     ·have h3:=hmono j (m-1) (by omega) (by omega)
      have h4:=hmono (m-1) m (by omega) (by omega)
      omega
    ·rw[List.mem_append,h2,List.mem_singleton]
     constructor
     ·rintro(⟨j,hj,e⟩|e)
      ·exact⟨j,by omega,e⟩
      ·exact⟨m,by omega,e.symm⟩
     ·rintro⟨j,hj,e⟩
      by_cases hjm:j=m
      ·subst hjm;exact .inr e.symm
      ·exact .inl ⟨j,by omega,e⟩
   ·rw[if_neg hk,List.append_nil]
    refine⟨h1,fun x=>?_⟩
    rw[h2]
    constructor
    ·rintro⟨j,hj,e⟩
     exact⟨j,by omega,e⟩
    ·rintro⟨j,hj,e⟩
     by_cases hjm:j=m
     ·subst hjm
      have h3:j≠0∧zs.toArray[j]! = zs.toArray[j-1]! := by
       unfold Lib.keeps at hk
       by_cases h0:j=0
       ·exact absurd (decide_eq_true (.inl h0)) hk
       ·refine⟨h0,Classical.not_not.1 fun hne=>hk (decide_eq_true (.inr hne))⟩
      exact⟨j-1,by omega,by rw[← h3.2];exact e⟩
     ·exact⟨j,by omega,e⟩
end Go.Abs
