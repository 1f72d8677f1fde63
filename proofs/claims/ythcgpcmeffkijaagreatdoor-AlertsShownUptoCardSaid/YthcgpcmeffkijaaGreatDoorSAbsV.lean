import Derived.Test.YthcgpcmeffkijaaGreatDoorSAbsU
set_option linter.unusedVariables false
set_option linter.unusedSimpArgs false
namespace Go.Abs
open Go.RowKit
section
variable {F:Nat→Prop} {w0:Base} {κ:Nat→Value} {σ:Env} {a:Act} {w:World}
def resOne(tmps:Array Value):ResultVar→Sem Value
 | .tmp t=>pure (tmps.getD t undef)
 | .cell a t=>do loadVar t (← asAddr (tmps.getD a undef))
theorem run_mapM{α:Type}{P:Program}{w:World}{g:α→Sem Value}:∀(l:List α)(us:List Value),l.length=us.length→(∀(i:Nat) x u,l[i]? = some x→us[i]? = some u→(g x).run P w= .ok u w)→(l.mapM g).run P w= .ok us w
 | [],us,hl,_=>by
   have:us=[]:=List.eq_nil_of_length_eq_zero hl.symm
   subst this
   rfl
 | x::l,us,hl,h=>by
   cases us with
   | nil=>simp at hl
   | cons u us=>
     rw[List.mapM_cons,Sem.run_bind,h 0 x u rfl rfl,Result.andThen_ok,Sem.run_bind,run_mapM l us (by simpa using hl) (fun i x u h1 h2=>h (i+1) x u h1 h2),Result.andThen_ok]
     rfl
def packV:List Value→Value
 | [u]=>u
 | us=> .tuple us.toArray
theorem run_results{P:Program}{w:World}{fn:Func}{tmps:Array Value}{us:List Value}(hl:fn.results.size=us.length)(h:∀(i:Nat) x u,fn.results[i]? = some x→us[i]? = some u→(resOne tmps x).run P w= .ok u w) :
  (results fn tmps).run P w= .ok (packV us) w:=by
 have h1:(fn.results.mapM (resOne tmps)).run P w= .ok us.toArray w:=by
  rw[Array.mapM_eq_mapM_toList]
  have:=run_mapM (P:=P) (w:=w) (g:=resOne tmps) fn.results.toList us (by simpa using hl) fun i x u hx hu=>h i x u (by simpa using hx) hu
  rw[← bind_pure_comp,Sem.run_bind,this]
  rfl
 have h2:results fn tmps=(do let vs ←fn.results.mapM (resOne tmps);pure (if h:vs.size=1 then vs[0]else .tuple vs)):=by
  unfold results
  congr 1
 rw[h2,Sem.run_bind,h1,Result.andThen_ok]
 clear h1 hl h
 cases us with
 | nil=>rfl
 | cons u us=>cases us with
   | nil=>rfl
   | cons v us=>simp[packV]
inductive ConvAs(σ:Env)(κ:Nat→Value)(S:Nat→Prop)(w:World)(no:Nat→Bool)(bv:Bool)(rv:ResultVar):AV→Value→Prop
 | fr (r e k g:Nat) (xs:List AV) (ho:σ.objs r=some (.row e k xs g false)) (hc:claimR σ bv rv=[r]):ConvAs σ κ S w no bv rv (.fr e k xs) (κ r)
 | sl (r e k g:Nat) (xs:List AV) (ho:σ.objs r=some (.row e k xs g true)) (hc:claimR σ bv rv=[r]):ConvAs σ κ S w no bv rv (.sl xs) (κ r)
 | nils (e k:Nat) (hk:0<k):ConvAs σ κ S w no bv rv (.fr e k []) (.slice none 0 0)
 | val (x y:AV) (u:Value) (hx:expt no σ.objs DEPTH x=some y) (hu:(Rel S w κ σ.objs x).val u):ConvAs σ κ S w no bv rv y u
theorem convR_spec(h:St F w0 κ σ a w){P:Program}{no:Nat→Bool}{bv:Bool}{ty:TypeId}{rv:ResultVar}{y:AV}(hc:convR P σ no bv ty rv=some y) :
  ∃u,(resOne a.tmps rv).run P w= .ok u w∧ConvAs σ κ (SS F w0 κ σ w) w no bv rv y u:=by
 cases rv with
 | tmp t=>
   refine⟨a.tmps.getD t undef,rfl,?_⟩
   simp only[convR]at hc
   have ht:=h.slots t
   cases bv with
   | true=>exact .val _ y _ (by simpa using hc) ht
   | false=>
   simp only[Bool.false_eq_true,if_false]at hc
   split at hc
   ·rename_i r g hs
    rw[hs]at ht
    simp only[Rel,one]at ht
    obtain⟨e1,k1,xs1,g1,fz1,h1,_,h2⟩:=ht
    split at hc
    case h_2=>cases hc
    rename_i e k xs g' fz ho
    rw[ho]at h1
    simp only[Option.some.injEq,AObj.row.injEq]at h1
    obtain⟨rfl,rfl,rfl,rfl,rfl⟩:=h1
    split at hc
    case isFalse=>cases hc
    rename_i hg
    have hv:=h2 hg.symm
    rw[hv]
    cases fz with
    | true=>
      simp only[if_true,Option.some.injEq]at hc
      subst hc
      exact .sl r e k g' xs ho (by simp[claimR,hs])
    | false=>
      simp only[Bool.false_eq_true,if_false,Option.some.injEq]at hc
      subst hc
      exact .fr r e k g' xs ho (by simp[claimR,hs])
   ·rename_i hs
    rw[hs]at ht
    obtain⟨e,_,hc⟩:=bind_some' hc
    obtain⟨k,_,hc⟩:=bind_some' hc
    split at hc
    case isFalse=>cases hc
    rename_i hk
    cases hc
    have ht:a.tmps.getD t undef= .slice none 0 0:=ht
    rw[ht]
    exact .nils e k hk
   ·exact .val _ y _ hc ht
 | cell ad t=>
   simp only[convR]at hc
   obtain⟨x,h1,h2⟩:=bind_some' hc
   obtain⟨u,h3,h4⟩:=loadA_sound h (h.slots ad) h1
   refine⟨u,?_,.val x y u h2 h4⟩
   simp only[resOne]
   generalize a.tmps.getD ad undef=v at h3
   cases v with
   | pointer p=>
     cases p with
     | some p=>exact h3
     | none=>simp[Instr.loadAt,Instr.sureAddr,stuck]at h3
   | _=>simp[Instr.loadAt,Instr.sureAddr,stuck]at h3
theorem convR_true(h:St F w0 κ σ a w){P:Program}{no:Nat→Bool}{ty:TypeId}{rv:ResultVar}{y:AV}(hc:convR P σ no true ty rv=some y) :
  ∃u x,(resOne a.tmps rv).run P w= .ok u w∧expt no σ.objs DEPTH x=some y∧(Rel (SS F w0 κ σ w) w κ σ.objs x).val u:=by
 cases rv with
 | tmp t=>exact⟨a.tmps.getD t undef,σ.slots t,rfl,by simpa[convR]using hc,h.slots t⟩
 | cell ad t=>
   simp only[convR]at hc
   obtain⟨x,h1,h2⟩:=bind_some' hc
   obtain⟨u,h3,h4⟩:=loadA_sound h (h.slots ad) h1
   refine⟨u,x,?_,h2,h4⟩
   simp only[resOne]
   generalize a.tmps.getD ad undef=v at h3
   cases v with
   | pointer p=>
     cases p with
     | some p=>exact h3
     | none=>simp[Instr.loadAt,Instr.sureAddr,stuck]at h3
   | _=>simp[Instr.loadAt,Instr.sureAddr,stuck]at h3
theorem expt_tup(no:Nat→Bool)(objs:Nat→Option AObj)(n:Nat)(x:AV)(vs:List AV):expt no objs n x≠some (.tup vs):=by
 intro h
 cases n with
 | zero=>simp[expt]at h
 | succ n=>
   cases x<;>simp only[expt]at h<;>(try (simp at h))
   all_goals (try (split at h<;>(try split at h)<;>simp at h))
theorem expt_fr(no:Nat→Bool)(objs:Nat→Option AObj)(n:Nat)(x:AV)(e k:Nat)(vs:List AV):expt no objs n x≠some (.fr e k vs):=by
 intro h
 cases n with
 | zero=>simp[expt]at h
 | succ n=>
   cases x<;>simp only[expt]at h<;>(try (simp at h))
   all_goals (try (split at h<;>(try split at h)<;>simp at h))
end
end Go.Abs
