import Derived.Test.YthcgpcmeffkijaaGreatDoorSAbsT
set_option linter.unusedVariables false
set_option linter.unusedSimpArgs false
namespace Go.Abs
open Go.RowKit
def exitOf:AExit→Exit
 | .normal=> .normal
 | .exit i=> .exit i
 | .ret=> .ret
def DrawOK(P:Program)(C:Callee):Prop:=∀(F:Nat→Prop)(w0:Base)(κ:Nat→Value)(σ τ:Env)(a:Act)(w:World)(id:Nat)(ops:Array Oper)(ord:List Nat)(hd:Option Nat)(Q:Exit→Act→World→Prop),
 CallAt P C w0→drawA P C ops ord hd σ=some τ→St F w0 κ σ a w→(∀ κ' a' w',St F w0 κ' τ a' w'→Q .normal a' w')→(Code.region id ops true).wp P Q a w
section
variable {F:Nat→Prop} {w0:Base}
theorem mkS_spec:∀(l:List (Nat×AV))(t:Nat),mkS l t= .undef∨∃p∈l,p.1=t∧mkS l t=p.2
 | [],t=> .inl rfl
 | (t',v)::l,t=>by
   by_cases e:t=t'
   ·subst e
    exact .inr ⟨(t,v),by simp,rfl,upd_same _ _ _⟩
   ·simp only[mkS,upd_ne _ _ e]
    rcases mkS_spec l t with h|⟨p,hp,h⟩
    ·exact .inl h
    ·exact .inr ⟨p,by simp[hp],h⟩
mutual
theorem Rel_within{S S':Nat→Prop}{w:World}{κ:Nat→Value}{objs objs':Nat→Option AObj}{ids:List Nat}(hS:∀k,S k→S' k)(ho:∀i∈ids,objs' i=objs i):∀x,within ids x=true→RLe (Rel S w κ objs x) (Rel S' w κ objs' x)
 | .agg cs,h=>by
   simp only[within]at h
   simp only[Rel]
   exact⟨fun v ⟨vs,h1,h2⟩=>⟨vs,h1,(RelL_within (w:=w) (κ:=κ) hS ho cs h).allV h2⟩,fun get hm=>(RelL_within (w:=w) (κ:=κ) hS ho cs h).allM hm,rfl⟩
 | .fn f cs,h=>by
   simp only[within]at h
   simp only[Rel]
   exact RLe.one fun v ⟨vs,h1,h2⟩=>⟨vs,h1,(RelL_within (w:=w) (κ:=κ) hS ho cs h).allV h2⟩
 | .tup cs,h=>by
   simp only[within]at h
   simp only[Rel]
   exact RLe.one fun v ⟨vs,h1,h2⟩=>⟨vs,h1,(RelL_within (w:=w) (κ:=κ) hS ho cs h).allV h2⟩
 | .own r g,h=>by
   simp only[within,List.contains_iff_mem]at h
   simp only[Rel,ho r h]
   exact RLe.one fun _ h=>h
 | .vw r g i,h=>by
   simp only[within,List.contains_iff_mem]at h
   simp only[Rel,ho r h]
   exact RLe.one fun _ h=>h
 | .oa r g i off,h=>by
   simp only[within,List.contains_iff_mem]at h
   simp only[Rel,ho r h]
   exact RLe.one fun _ h=>h
 | .ba b off,h=>by
   simp only[within,List.contains_iff_mem]at h
   simp only[Rel,ho b h]
   exact RLe.one fun _ h=>h
 | .mr b,h=>by
   simp only[within,List.contains_iff_mem]at h
   simp only[Rel,ho b h]
   exact RLe.one fun _ h=>h
 | .undef,_=>by simp only[Rel];exact RLe.one fun _ h=>h
 | .und,_=>by simp only[Rel];exact RLe.one fun _ h=>h
 | .int k n,_=>by simp only[Rel];exact RLe.one fun _ h=>h
 | .bool b,_=>by simp only[Rel];exact RLe.one fun _ h=>h
 | .str s,_=>by simp only[Rel];exact RLe.one fun _ h=>h
 | .nils,_=>by simp only[Rel];exact RLe.one fun _ h=>h
 | .pp nl cs,_=>by
   have h1:=Rel_mono (κ:=κ) (κ':=κ) (w:=w) (w':=w) hS (fun _ _=>rfl) (ObjLe.none κ κ) (.pp nl cs)
   simp only[Rel]at h1 ⊢
   exact h1
 | .sl xs,_=>by
   have h1:=Rel_mono (κ:=κ) (κ':=κ) (w:=w) (w':=w) hS (fun _ _=>rfl) (ObjLe.none κ κ) (.sl xs)
   simp only[Rel]at h1 ⊢
   exact h1
 | .ia cs off,_=>by
   have h1:=Rel_mono (κ:=κ) (κ':=κ) (w:=w) (w':=w) hS (fun _ _=>rfl) (ObjLe.none κ κ) (.ia cs off)
   simp only[Rel]at h1 ⊢
   exact h1
 | .bp cs,_=>by
   have h1:=Rel_mono (κ:=κ) (κ':=κ) (w:=w) (w':=w) hS (fun _ _=>rfl) (ObjLe.none κ κ) (.bp cs)
   simp only[Rel]at h1 ⊢
   exact h1
 | .mv ks vs,_=>by
   have h1:=Rel_mono (κ:=κ) (κ':=κ) (w:=w) (w':=w) hS (fun _ _=>rfl) (ObjLe.none κ κ) (.mv ks vs)
   simp only[Rel]at h1 ⊢
   exact h1
 | .fr _ _ _,_=>by simp only[Rel];exact RLe.one fun _ h=>h
 | .fb _,_=>by simp only[Rel];exact RLe.one fun _ h=>h
 | .inp _ _,_=>by simp only[Rel];exact RLe.one fun _ h=>h
theorem RelL_within{S S':Nat→Prop}{w:World}{κ:Nat→Value}{objs objs':Nat→Option AObj}{ids:List Nat}(hS:∀k,S k→S' k)(ho:∀i∈ids,objs' i=objs i):∀xs,withinL ids xs=true→RLeL (RelL S w κ objs xs) (RelL S' w κ objs' xs)
 | [],_=>⟨by simp[RelL],fun i r r' h=>by simp[RelL]at h⟩
 | x::xs,h=>by
   simp only[withinL,Bool.and_eq_true]at h
   have h1:=Rel_within (w:=w) (κ:=κ) hS ho x h.1
   have h2:=RelL_within (w:=w) (κ:=κ) hS ho xs h.2
   refine⟨by simp[RelL_length],fun i r r' hr hr'=>?_⟩
   cases i with
   | zero=>
     simp only[RelL,List.getElem?_cons_zero,Option.some.injEq]at hr hr'
     subst hr;subst hr'
     exact h1
   | succ i=>
     simp only[RelL,List.getElem?_cons_succ]at hr hr'
     exact h2.2 i _ _ hr hr'
end
theorem keepO_spec(objs:Nat→Option AObj):∀(ids:List Nat)(i:Nat),mkO (keepO objs ids) i=if i∈ids then objs i else none
 | [],i=>by simp[keepO,mkO]
 | j::l,i=>by
   simp only[keepO]
   cases hj:objs j with
   | none=>
     simp only
     rw[keepO_spec objs l i]
     by_cases e:i=j
     ·subst e;simp[hj]
     ·simp[e]
   | some o=>
     simp only[mkO]
     by_cases e:i=j
     ·subst e;rw[upd_same,hj];simp
     ·rw[upd_ne _ _ e,keepO_spec objs l i];simp[e]
theorem keepO_mem{objs:Nat→Option AObj}:∀{ids:List Nat}{i:Nat}{o:AObj},i∈ids→objs i=some o→(i,o)∈keepO objs ids
 | j::l,i,o,hm,ho=>by
   simp only[keepO]
   rcases List.mem_cons.1 hm with rfl|hm
   ·rw[ho];simp
   ·cases hj:objs j with
    | none=>exact keepO_mem hm ho
    | some q=>exact List.mem_cons_of_mem _ (keepO_mem hm ho)
theorem forget_sound{κ:Nat→Value}{σ τ:Env}{a:Act}{w:World}(h:St F w0 κ σ a w){live:Option (List Nat×List Nat)}(hf:forget live σ=some τ):St F w0 κ τ a w:=by
 cases live with
 | none=>cases hf;exact h
 | some p=>
   obtain⟨live,ids⟩:=p
   simp only[forget]at hf
   split at hf
   case isFalse=>cases hf
   rename_i hc
   simp only[Bool.and_eq_true]at hc
   cases hf
   have hO:∀id,mkO (keepO σ.objs ids) id=if id∈ids then σ.objs id else none:=keepO_spec σ.objs ids
   have hsub:∀id o,mkO (keepO σ.objs ids) id=some o→σ.objs id=some o∧id∈ids:=fun id o ho=>by
    rw[hO]at ho
    split at ho
    ·rename_i hm;exact⟨ho,hm⟩
    ·cases ho
   have hS:∀k,Sset F w0.mine w κ σ.objs k→Sset F w0.mine w κ (mkO (keepO σ.objs ids)) k:=fun k hk=>⟨hk.1,hk.2.1,fun id o ho hfz=>hk.2.2 id o (hsub id o ho).1 hfz⟩
   have hin:∀i∈ids,mkO (keepO σ.objs ids) i=σ.objs i:=fun i hi=>by rw[hO,if_pos hi]
   refine⟨fun t=>?_,fun id o ho=>?_,fun i j oi oj hi hj=>h.apart i j oi oj (hsub i oi hi).1 (hsub j oj hj).1,h.below,h.defers,h.size,fun id o b ho=>h.mine id o b (hsub id o ho).1,h.fix⟩
   ·show(Rel _ w κ _ (mkS (live.map fun t=>(t,σ.slots t)) t)).val _
    rcases mkS_spec (live.map fun t=>(t,σ.slots t)) t with h1|⟨p,hp,h1,h2⟩
    ·rw[h1];simp[Rel,one]
    ·rw[h2]
     obtain⟨t',ht',rfl⟩:=List.mem_map.1 hp
     simp only at h1
     subst h1
     exact(Rel_within hS hin _ (List.all_eq_true.1 hc.1 t' ht')).val _ (h.slots t')
   ·obtain⟨h1,h2⟩:=hsub id o ho
    have h3:=h.objs id o h1
    cases o with
    | row e k xs g fz=>exact RowOK.mono h3 hS (fun _ _=>rfl) fun b hb=>⟨rfl,(RowOK.lt h3 hb).1⟩
    | box cs fz=>
      obtain⟨blk,T,arr,h4,h5,h6,h7⟩:=h3
      refine⟨blk,T,arr,h4,h5,h6,(RelL_within hS hin cs ?_).allV h7⟩
      exact List.all_eq_true.1 hc.2 (id,.box cs fz) (keepO_mem h2 h1)
    | mp ks vs fz=>
      obtain⟨blk,es,clock,h4,h5,h6,h7,h8,h8s⟩:=h3
      have hn:=ObjLe.none (fun _=>undef) (fun _=>undef)
      exact⟨blk,es,clock,h4,h5,h6,(RelL_mono hS (fun _ _=>rfl) hn ks).allV h7,(RelL_mono hS (fun _ _=>rfl) hn vs).allV h8,h8s⟩
theorem exec_sound{P:Program}{C:Callee}{K:FCfg}(hC:CallAt P C w0)(hD:DrawOK P C):∀(c:Code){σ τ:Env}{x:AExit}{a:Act}{w:World}{κ:Nat→Value}{Q:Exit→Act→World→Prop},execA P C K c σ=some (x,τ)→St F w0 κ σ a w→
  (∀ κ' a' w',St F w0 κ' τ a' w'→Q (exitOf x) a' w')→c.wp P Q a w:=by
 intro c
 induction c with
 | skip=>intro σ τ x a w κ Q h hst hQ;simp only[execA,Option.some.injEq,Prod.mk.injEq]at h;obtain⟨rfl,rfl⟩:=h;exact wp_skip (hQ _ _ _ hst)
 | ret=>intro σ τ x a w κ Q h hst hQ;simp only[execA,Option.some.injEq,Prod.mk.injEq]at h;obtain⟨rfl,rfl⟩:=h;exact wp_ret (hQ _ _ _ hst)
 | exit id=>intro σ τ x a w κ Q h hst hQ;simp only[execA,Option.some.injEq,Prod.mk.injEq]at h;obtain⟨rfl,rfl⟩:=h;exact wp_exit (hQ _ _ _ hst)
 | region id ops draw=>
   intro σ τ x a w κ Q h hst hQ
   simp only[execA]at h
   obtain⟨τ',h1,h2⟩:=bind_some' h
   obtain⟨τ2,h3,h4⟩:=map_some h2
   cases h4
   cases draw with
   | false=>
     simp only[Bool.false_eq_true,if_false]at h1
     exact wp_region_list (ops_sound hC _ hst h1 fun κ' a' w' h'=>hQ _ _ _ (forget_sound h' h3))
   | true=>
     simp only[if_true]at h1
     exact hD F w0 κ σ τ' a w id ops _ _ Q hC h1 hst fun κ' a' w' h'=>hQ _ _ _ (forget_sound h' h3)
 | seq p q ihp ihq=>
   intro σ τ x a w κ Q h hst hQ
   simp only[execA]at h
   split at h
   ·rename_i τ' h1
    obtain⟨τ2,h2,h3⟩:=bind_some' h
    exact wp_seq (ihp h1 hst fun κ' a' w' h'=>ihq h3 (forget_sound h' h2) hQ)
   ·rename_i hne
    refine wp_seq (ihp h hst fun κ' a' w' h'=>?_)
    cases x with
    | normal=>exact absurd h (hne τ)
    | exit i=>exact hQ _ _ _ h'
    | ret=>exact hQ _ _ _ h'
 | cond c p q ihp ihq=>
   intro σ τ x a w κ Q h hst hQ
   simp only[execA]at h
   have hc:=hst.evA c
   generalize evA σ.slots c=X at h hc
   split at h
   ·exact wp_cond_true hc (ihp h hst hQ)
   ·exact wp_cond_false hc (ihq h hst hQ)
   ·cases h
 | block id b ih=>
   intro σ τ x a w κ Q h hst hQ
   simp only[execA]at h
   split at h
   ·rename_i i τ' h1
    split at h
    ·rename_i hi
     subst hi
     cases h
     exact wp_block (ih h1 hst fun κ' a' w' h'=>by simpa[exitOf,Exit.inBlock]using hQ _ _ _ h')
    ·rename_i hi
     cases h
     exact wp_block (ih h1 hst fun κ' a' w' h'=>by simpa[exitOf,Exit.inBlock,hi]using hQ _ _ _ h')
   ·rename_i hne
    refine wp_block (ih h hst fun κ' a' w' h'=>?_)
    cases x with
    | normal=>exact hQ _ _ _ h'
    | exit i=>exact absurd h (hne i τ)
    | ret=>exact hQ _ _ _ h'
 | loop b ih=>
   intro σ τ x a w κ Q h hst hQ
   simp only[execA]at h
   obtain⟨s0,h1,h2⟩:=bind_some' h
   obtain⟨n,hn⟩:=iter_some.1 h2
   obtain⟨κ1,hst1⟩:=normB_sound hst h1
   refine wp_loop_rounds n ?_
   clear h h1 h2 hst
   induction n generalizing s0 a w κ1 with
   | zero=>simp[iterN]at hn
   | succ n ihn=>
     simp only[iterN]at hn
     show b.wp P _ a w
     split at hn
     ·cases hn
     ·rename_i r hr
      cases hn
      split at hr
      ·obtain⟨s',_,h3⟩:=map_some hr
       cases h3
      ·rename_i r2 hne h4
       cases hr
       refine ih h4 hst1 fun κ' a' w' h'=>?_
       cases x with
       | normal=>exact absurd rfl (hne τ)
       | exit i=>exact hQ _ _ _ h'
       | ret=>exact hQ _ _ _ h'
      ·cases hr
     ·rename_i s' hr
      split at hr
      ·rename_i τ' h4
       obtain⟨s2,h5,h6⟩:=map_some hr
       cases h6
       refine ih h4 hst1 fun κ' a' w' h'=>?_
       obtain⟨κ2,hst2⟩:=normB_sound h' h5
       exact ihn (s0:=_) (hn:=hn) (hst1:=hst2)
      ·cases hr
      ·cases hr
 | _=>intro σ τ x a w κ Q h hst hQ;simp[execA]at h
end
end Go.Abs
