import Derived.Test.YthcgpcmeffkijaaGreatDoorSAbsS
set_option linter.unusedVariables false
set_option linter.unusedSimpArgs false
namespace Go.Abs
open Go.RowKit
section
variable {F:Nat→Prop} {w0:Base} {κ:Nat→Value} {σ σ0:Env} {a:Act} {w:World}
noncomputable def valOf(a:Act)(w:World)(T:Nat):Value:=if T<4096 then a.tmps.getD T undef else match a.tmps.getD ((T-4096) / 64) undef with
 | .pointer (some p)=>(match w.heap[p.block]? with
   | some (.cells arr _ _)=>arr.toList.getD ((T-4096) % 64) undef
   | _=>undef)
 | _=>undef
theorem openB_lt{σ:Env}{t:Nat}(h:t<4096):(openB σ).slots t=σ.slots t:=by
 have:Nat.blt t 4096=true:=by rw[Nat.blt_eq];exact h
 simp only[openB,this,cond_true]
theorem openB_ge{σ:Env}{t:Nat}(h:¬t<4096):(openB σ).slots t=cellAt σ t:=by
 have:Nat.blt t 4096=false:=by
  cases h8:Nat.blt t 4096 with
  | false=>rfl
  | true=>rw[Nat.blt_eq]at h8;omega
 simp only[openB,this,cond_false]
theorem open_rel(h:St F w0 κ σ a w)(t:Nat):(Rel (Sset F w0.mine w κ σ.objs) w κ σ.objs ((openB σ).slots t)).val (valOf a w t):=by
 by_cases ht:t<4096
 ·rw[openB_lt ht,valOf,if_pos ht];exact h.slots t
 ·rw[openB_ge ht,valOf,if_neg ht]
  have hu:∀v,(Rel (Sset F w0.mine w κ σ.objs) w κ σ.objs .undef).val v:=fun v=>by simp[Rel,one]
  unfold cellAt
  split
  case h_2=>exact hu _
  rename_i b hb
  split
  case h_2=>exact hu _
  rename_i cs fz ho
  have h1:=h.slots ((t-4096) / 64)
  rw[hb]at h1
  simp only[Rel,one]at h1
  obtain⟨_,_,_,blk,h2,h3⟩:=h1
  obtain⟨blk',T,arr,h5,h6,h7,h8⟩:=h.objs b _ ho
  rw[h5]at h2
  cases h2
  rw[h3]
  simp only[h7]
  obtain⟨h11,h12⟩:=AllV_get _ _ _ _ h8
  by_cases hj:(t-4096) % 64<cs.length
  ·have e1:cs[(t-4096) % 64]? = some (cs.getD ((t-4096) % 64) .undef):=by
    rw[List.getD_eq_getElem?_getD,List.getElem?_eq_getElem hj];rfl
   have hj2:(t-4096) % 64<arr.toList.length:=by omega
   have e2:arr.toList[(t-4096) % 64]? = some (arr.toList.getD ((t-4096) % 64) undef):=by
    rw[List.getD_eq_getElem?_getD,List.getElem?_eq_getElem hj2];rfl
   exact h12 _ _ _ e1 e2
  ·rw[List.getD_eq_getElem?_getD,List.getElem?_eq_none (by omega)]
   exact hu _
theorem normC_sound(h:St F w0 κ σ0 a w){keep:Keep}{τ:Env}(hn:normC keep (openB σ0)=some τ):∃κ',St F w0 κ' τ a w:=by
 obtain⟨σ,hσ⟩:∃σ,σ=openB σ0:=⟨_,rfl⟩
 have heo:σ0.objs=σ.objs:=by rw[hσ];rfl
 have hen:σ0.n=σ.n:=by rw[hσ];rfl
 have hsl:=open_rel h
 rw[← hσ,heo]at hsl
 rw[← hσ]at hn
 have hobj:=h.objs
 have hapart:=h.apart
 have hmine:=h.mine
 rw[heo]at hobj hapart hmine
 unfold normC at hn
 split at hn
 case isFalse=>cases hn
 rename_i hd
 simp only[Bool.and_eq_true]at hd
 have hnd:=noDup_spec hd.1
 have hcl:=noDup_spec hd.2
 let no:Nat→Bool:=fun r=>(keep.flatMap (claimOf σ)).contains r
 let ren:Nat→Option Nat:=renOf σ keep
 let hr:Nat→Nat→Bool:=rowAt keep
 have N:=normAll_spec σ no ren hr hnd hn
 let κ':Nat→Value:=fun id=>valOf a w (id / 8)
 have hκ:∀t,κ' (8*t)=valOf a w t:=fun t=>by
  show valOf a w (8*t / 8)=_
  rw[Nat.mul_div_cancel_left t (by omega)]
 have hno:∀p∈keep,∀r,claimOf σ p=[r]→no r=true:=fun p hp r hr=>by
  simp only[no,List.contains_iff_mem]
  exact List.mem_flatMap.2 ⟨p,hp,by rw[hr];simp⟩
 have hrow:∀p∈keep,∀r g e k xs,σ.slots p.1= .own r g→σ.objs r=some (.row e k xs g false)→κ' (8*p.1)=κ r:=by
  intro p hp r g e k xs hs ho
  have h1:=hsl p.1
  rw[hs]at h1
  simp only[Rel,one]at h1
  obtain⟨_,_,_,_,_,h2,_,h3⟩:=h1
  rw[ho]at h2
  cases h2
  rw[hκ]
  exact h3 rfl
 have hbox:∀p∈keep,∀b cs fz,σ.slots p.1= .ba b 0→σ.objs b=some (.box cs fz)→κ' (8*p.1)=κ b∧∃blk,κ b= .pointer (some (at_ blk 0)):=by
  intro p hp b cs fz hs ho
  have h1:=hsl p.1
  rw[hs]at h1
  simp only[Rel,one]at h1
  obtain⟨_,_,_,blk,h2,h3⟩:=h1
  rw[hκ]
  exact⟨h3.trans h2.symm,blk,h2⟩
 have hmap:∀p∈keep,∀b ks vs fz,σ.slots p.1= .mr b→σ.objs b=some (.mp ks vs fz)→κ' (8*p.1)=κ b∧∃blk,κ b= .map (some blk):=by
  intro p hp b ks vs fz hs ho
  have h1:=hsl p.1
  rw[hs]at h1
  simp only[Rel,one]at h1
  obtain⟨_,_,_,_,blk,h2,h3⟩:=h1
  rw[hκ]
  exact⟨h3.trans h2.symm,blk,h2⟩
 have hnil:∀p∈keep,σ.slots p.1= .nils→κ' (8*p.1)= .slice none 0 0:=by
  intro p hp hs
  have h1:=hsl p.1
  rw[hs]at h1
  rw[hκ]
  exact h1
 have hent:∀id ob,τ.objs id=some ob→∃p∈keep,id=8*p.1∧∃v,KeptAs σ no ren hr p v (some ob):=by
  intro id ob ho
  obtain⟨p,hp,rfl⟩:=N.objs id ob ho
  obtain⟨v,o,h1,h2,h3⟩:=N.kept p hp
  rw[ho]at h3
  subst h3
  exact⟨p,hp,rfl,v,(normOne_spec h1).1⟩
 have hS:∀k,Sset F w0.mine w κ σ.objs k→Sset F w0.mine w κ' τ.objs k:=by
  rintro k ⟨h1,h2,h3⟩
  refine⟨h1,h2,fun id ob ho hf hb=>?_⟩
  obtain⟨p,hp,rfl,v,hk⟩:=hent id ob ho
  cases hk with
  | row r g e k xs hs ho' hc=>rw[hrow p hp r g e k xs hs ho']at hb;exact h3 r _ ho' rfl hb
  | nils e k hk0 hs hc=>rw[hnil p hp hs]at hb;cases hb
  | box b cs cs' fz fz' hs ho' hc hm hfz=>
    rw[(hbox p hp b cs fz hs ho').1]at hb
    exact h3 b _ ho' (hfz hf) hb
  | fbox b cs cs' fz hs ho' hc hm=>cases hf
  | map b ks vs fz hq0 hs ho' hc=>
    rw[(hmap p hp b ks vs fz hs ho').1]at hb
    exact h3 b _ ho' hf hb
 have hfr:∀id,σ.objs id≠none→no id=false→∀b,blkOf (κ id)=some b→Sset F w0.mine w κ' τ.objs b:=by
  intro id hne hnoid b hb
  obtain⟨o,ho⟩:=Option.ne_none_iff_exists'.1 hne
  have hlt:=(hobj id o ho).lt hb
  refine⟨.inr (hmine id o b ho hb),hlt.2,fun id2 ob2 ho2 hf2 hb2=>?_⟩
  obtain⟨p,hp,rfl,v,hk⟩:=hent id2 ob2 ho2
  cases hk with
  | row r g e k xs hs ho' hc=>
    rw[hrow p hp r g e k xs hs ho']at hb2
    refine hapart id r o _ ho ho' (fun e=>?_) b hb hb2
    subst e
    rw[hno p hp _ hc]at hnoid
    cases hnoid
  | nils e k hk0 hs hc=>rw[hnil p hp hs]at hb2;cases hb2
  | fbox b' cs cs' fz hs ho' hc hm=>cases hf2
  | box b' cs cs' fz fz' hs ho' hc hm hfz=>
    rw[(hbox p hp b' cs fz hs ho').1]at hb2
    refine hapart id b' o _ ho ho' (fun e=>?_) b hb hb2
    subst e
    rw[hno p hp _ hc]at hnoid
    cases hnoid
  | map b' ks vs fz hq0 hs ho' hc=>
    rw[(hmap p hp b' ks vs fz hs ho').1]at hb2
    refine hapart id b' o _ ho ho' (fun e=>?_) b hb hb2
    subst e
    rw[hno p hp _ hc]at hnoid
    cases hnoid
 have hval:∀(x y:AV)(u:Value),expt no σ.objs DEPTH x=some y→(Rel (Sset F w0.mine w κ σ.objs) w κ σ.objs x).val u→(Rel (Sset F w0.mine w κ' τ.objs) w κ' τ.objs y).val u:=by
  intro x y u hx hu
  have hS0:∀k,Sset F w0.mine w κ σ0.objs k→Sset F w0.mine w κ' τ.objs k:=by rw[heo];exact hS
  have hx0:=hx
  rw[← heo]at hx0 hu
  have h1:=expt_sound h (T:=Sset F w0.mine w κ' τ.objs) hS0 _ _ _ _ hx0 hu fun id hid hne b hb=>hfr id (by rw[← heo];exact hne) (expt_refs _ _ _ _ _ hx0 id hid) b hb
  exact(Rel_lift (κ:=κ0) y).val _ h1
 have hren:∀r t,ren r=some t→∃p∈keep,p.1=t∧p.2=none∧σ.slots t= .mr r:=by
  intro r t hr
  obtain⟨p,h1,h2⟩:=map_some (show(keep.find? _).map (·.1)=some t from hr)
  have h3:=List.mem_of_find?_eq_some h1
  have h4:=List.find?_some h1
  simp only[Bool.and_eq_true,Option.isNone_iff_eq_none]at h4
  refine⟨p,h3,h2,h4.1,?_⟩
  rw[← h2]
  have h5:=h4.2
  split at h5
  ·rename_i b hb
   rw[hb,eq_of_beq h5]
  ·cases h5
 have hcell:∀(x y:AV)(u:Value),cellR σ no ren x=some y→(Rel (Sset F w0.mine w κ σ.objs) w κ σ.objs x).val u→(Rel (Sset F w0.mine w κ' τ.objs) w κ' τ.objs y).val u:=by
  intro x y u hx hu
  unfold cellR at hx
  split at hx
  ·rename_i r
   split at hx
   ·rename_i t ht
    cases hx
    obtain⟨p,hp,rfl,hq,hs⟩:=hren r t ht
    simp only[Rel,one]at hu
    obtain⟨ks,vs,fz,ho,blk,h1,h2⟩:=hu
    obtain⟨v,o,h3,h4,h5⟩:=N.kept p hp
    have h6:normOne σ no ren hr p=some (.mr (8*p.1),some (.mp ks vs fz)):=by
     have:p=(p.1,none):=by rw[← hq]
     rw[this]
     simp only[normOne,hs,ho]
    rw[h6]at h3
    cases h3
    simp only[Rel,one]
    exact⟨ks,vs,fz,h5,blk,(hmap p hp r ks vs fz hs ho).1.trans h1,h2⟩
   ·exact hval _ _ _ hx hu
  ·exact hval _ _ _ hx hu
 have hrs:∀(l:Keep)(T:Nat),hasRow l T=true→∃q∈l,q.1=T∧∃e k,q.2=some (e,k)∧k≠0:=by
  intro l
  induction l with
  | nil=>intro T h;simp[hasRow]at h
  | cons q l ih=>
    intro T h
    obtain⟨T',q2⟩:=q
    cases q2 with
    | none=>simp[hasRow]at h
    | some ek=>
      obtain⟨e,k⟩:=ek
      simp only[hasRow]at h
      cases hb:Nat.blt T' 4096 with
      | true=>rw[hb]at h;cases h
      | false=>
        rw[hb]at h
        simp only[cond_false,Bool.or_eq_true,Bool.and_eq_true]at h
        rcases h with⟨h1,h2⟩|h1
        ·refine⟨(T',some (e,k)),by simp,Nat.eq_of_beq_eq_true h1,e,k,rfl,?_⟩
         rw[Nat.blt_eq]at h2;omega
        ·obtain⟨q,h2,h3⟩:=ih T h1
         exact⟨q,by simp[h2],h3⟩
 have hph:∀p∈keep,∀b cs fz,σ.slots p.1= .ba b 0→σ.objs b=some (.box cs fz)→∀i,i<cs.length→hr p.1 (0+i)=true→∀blk T arr,κ b= .pointer (some (at_ blk 0))→w.heap[blk]? = some (.cells arr T (0,0))→∀u,arr.toList[i]? = some u→(Rel (Sset F w0.mine w κ' τ.objs) w κ' τ.objs (.own (8*phOf p.1 (0+i)) 0)).val u:=by
  intro p hp b cs fz hs ho i hi hri blk T arr hb hw u hu
  rw[Nat.zero_add]at hri ⊢
  simp only[hr,rowAt,Bool.and_eq_true]at hri
  obtain⟨h1,h2,h3⟩:=hri
  rw[Nat.blt_eq]at h2 h3
  obtain⟨q,hq,hqT,e,k,hqe,hk⟩:=hrs _ _ h1
  obtain⟨v,o,h4,_,h5⟩:=N.kept q hq
  obtain⟨xs,h6⟩:=(normOne_spec h4).2 e k hqe hk
  rw[hqT]at h5
  simp only[Rel,one]
  refine⟨e,k,xs,0,false,h5.trans h6,Nat.le_refl _,fun _=>?_⟩
  rw[hκ]
  have h7:¬phOf p.1 i<4096:=by unfold phOf;omega
  have h8:(phOf p.1 i-4096) / 64=p.1:=by unfold phOf;omega
  have h9:(phOf p.1 i-4096) % 64=i:=by unfold phOf;omega
  obtain⟨h10,_⟩:=hbox p hp b cs fz hs ho
  rw[hκ,hb,valOf,if_pos h3]at h10
  rw[valOf,if_neg h7,h8,h9,h10]
  simp only[hw]
  rw[List.getD_eq_getElem?_getD,hu]
  rfl
 refine⟨κ',fun t=>?_,fun id ob ho=>?_,fun i j oi oj hi hj hij b hb hb2=>?_,h.below,h.defers,by rw[N.n,←hen];exact h.size,fun id ob b ho hb=>?_,by rw[N.n,←hen];exact h.fix⟩
 ·by_cases ht:∀p∈keep,p.1≠t
  ·rw[N.out t ht]
   simp[Rel,one]
  ·obtain⟨p,hp⟩:=Classical.not_forall.1 ht
   obtain⟨hpk,hpt⟩:=Classical.not_imp.1 hp
   clear hp
   have hp:=hpk
   have hpt:p.1=t:=Classical.not_not.1 hpt
   subst hpt
   obtain⟨v,o,h1,h2,h3⟩:=N.kept p hp
   by_cases hlt:p.1<4096
   case neg=>
    rw[N.far _ (by omega)]
    simp[Rel,one]
   have hV:a.tmps.getD p.1 undef=valOf a w p.1:=by rw[valOf,if_pos hlt]
   rw[h2 hlt,hV]
   cases (normOne_spec h1).1 with
   | row r g e k xs hs ho' hc=>
     simp only[Rel,one]
     exact⟨e,k,xs,0,false,h3,Nat.le_refl _,fun _=>(hκ _).symm⟩
   | nils e k hk0 hs hc=>
     simp only[Rel,one]
     exact⟨e,k,[],0,false,h3,Nat.le_refl _,fun _=>(hκ _).symm⟩
   | box b cs cs' fz fz' hs ho' hc hm hfz=>
     obtain⟨h4,blk,h5⟩:=hbox p hp b cs fz hs ho'
     simp only[Rel,one]
     exact⟨cs',fz',h3,blk,h4.trans h5,by rw[← hκ,h4,h5]⟩
   | fbox b cs cs' fz hs ho' hc hm=>
     obtain⟨h4,blk,h5⟩:=hbox p hp b cs fz hs ho'
     simp only[Rel,one]
     exact⟨cs',true,h3,blk,h4.trans h5,by rw[← hκ,h4,h5]⟩
   | map b ks vs fz hq0 hs ho' hc=>
     obtain⟨h4,blk,h5⟩:=hmap p hp b ks vs fz hs ho'
     simp only[Rel,one]
     exact⟨ks,vs,fz,h3,blk,h4.trans h5,by rw[← hκ,h4,h5]⟩
   | und hs=>
     have h6:=hsl p.1
     rw[hs]at h6
     exact h6
   | val v hm=>exact hval _ _ _ hm (hsl p.1)
 ·obtain⟨p,hp,rfl,v,hk⟩:=hent id ob ho
  cases hk with
  | row r g e k xs hs ho' hc=>
    have h1:RowOK _ _ _ _ _ _ _:=hobj r _ ho'
    show RowOK _ _ _ _ _ _ _
    rw[hrow p hp r g e k xs hs ho']
    exact h1.mono hS (fun _ _=>rfl) fun b hb=>⟨rfl,(h1.lt hb).1⟩
  | nils e k hk0 hs hc=>
    show RowOK _ _ _ _ _ _ _
    rw[hnil p hp hs]
    exact⟨hk0,[],World.ownsRow_nil _ _ _ _,by simp,by simp[RelL]⟩
  | box b cs cs' fz fz' hs ho' hc hm hfz=>
    obtain⟨h4,_⟩:=hbox p hp b cs fz hs ho'
    obtain⟨blk,T,arr,h5,h6,h7,h8⟩:=hobj b _ ho'
    refine⟨blk,T,arr,h4.trans h5,h6,h7,?_⟩
    obtain⟨h9,h10⟩:=cellsR_spec _ _ _ hm
    obtain⟨h11,h12⟩:=AllV_get _ _ _ _ h8
    refine AllV_of _ _ _ _ (by omega) fun i y u hy hu=>?_
    have hi:i<cs.length:=by rw[← h9];exact(List.getElem?_eq_some_iff.1 hy).1
    obtain⟨z,h13,h14⟩:=h10 i _ (List.getElem?_eq_getElem hi)
    rw[h13]at hy
    cases hy
    rcases h14 with⟨h14,h15⟩|h14
    ·subst h15
     exact hph p hp b cs fz hs ho' i hi h14 blk T arr h5 h7 u hu
    ·exact hcell _ _ _ h14 (h12 i _ _ (List.getElem?_eq_getElem hi) hu)
  | fbox b cs cs' fz hs ho' hc hm=>
    obtain⟨h4,_⟩:=hbox p hp b cs fz hs ho'
    obtain⟨blk,T,arr,h5,h6,h7,h8⟩:=hobj b _ ho'
    refine⟨blk,T,arr,h4.trans h5,h6,h7,?_⟩
    obtain⟨h9,h10⟩:=mapO_some hm
    obtain⟨h11,h12⟩:=AllV_get _ _ _ _ h8
    refine AllV_of _ _ _ _ (by omega) fun i y u hy hu=>?_
    have hi:i<cs.length:=by rw[← h9];exact(List.getElem?_eq_some_iff.1 hy).1
    obtain⟨z,h13,h14⟩:=h10 i _ (List.getElem?_eq_getElem hi)
    rw[h14]at hy
    cases hy
    exact hval _ _ _ h13 (h12 i _ _ (List.getElem?_eq_getElem hi) hu)
  | map b ks vs fz hq0 hs ho' hc=>
    have h1:ObjOK _ _ _ _ _ _ _:=hobj b _ ho'
    obtain⟨h4,_⟩:=hmap p hp b ks vs fz hs ho'
    obtain⟨blk,es,clock,h5,h6,h7,h8,h9,h9s⟩:=h1
    have hn:=ObjLe.none (fun _=>undef) (fun _=>undef)
    exact⟨blk,es,clock,h4.trans h5,h6,h7,(RelL_mono hS (fun _ _=>rfl) hn ks).allV h8,(RelL_mono hS (fun _ _=>rfl) hn vs).allV h9,h9s⟩
 ·obtain⟨p,hp,rfl,v,hk⟩:=hent i oi hi
  obtain⟨q,hq,rfl,v2,hk2⟩:=hent j oj hj
  have hpq:p.1≠q.1:=fun e=>hij (by rw[e])
  obtain⟨i',hi',rfl⟩:=List.getElem_of_mem hp
  obtain⟨j',hj',rfl⟩:=List.getElem_of_mem hq
  have hne:i'≠j':=fun e=>by subst e;exact hpq rfl
  have hap:=flat_apart hcl i' j' _ _ (List.getElem?_eq_getElem hi') (List.getElem?_eq_getElem hj') hne
  have key:∀r1 r2,claimOf σ keep[i']=[r1]→claimOf σ keep[j']=[r2]→r1≠r2:=fun r1 r2 h1 h2 e=>by
   rw[h1,h2]at hap
   exact hap r1 (by simp) (by simp[e])
  have c1:∃r1 o1,claimOf σ keep[i']=[r1]∧σ.objs r1=some o1∧κ' (8*keep[i'].1)=κ r1:=by
   cases hk with
   | row r g e k xs hs ho' hc=>exact⟨r,_,hc,ho',hrow _ hp r g e k xs hs ho'⟩
   | nils e k hk0 hs hc=>rw[hnil _ hp hs]at hb;cases hb
   | box b cs cs' fz fz' hs ho' hc hm hfz=>exact⟨b,_,hc,ho',(hbox _ hp b cs fz hs ho').1⟩
   | fbox b cs cs' fz hs ho' hc hm=>exact⟨b,_,hc,ho',(hbox _ hp b cs fz hs ho').1⟩
   | map b ks vs fz hq0 hs ho' hc=>exact⟨b,_,hc,ho',(hmap _ hp b ks vs fz hs ho').1⟩
  have c2:∃r1 o1,claimOf σ keep[j']=[r1]∧σ.objs r1=some o1∧κ' (8*keep[j'].1)=κ r1:=by
   cases hk2 with
   | row r g e k xs hs ho' hc=>exact⟨r,_,hc,ho',hrow _ hq r g e k xs hs ho'⟩
   | nils e k hk0 hs hc=>rw[hnil _ hq hs]at hb2;cases hb2
   | box b cs cs' fz fz' hs ho' hc hm hfz=>exact⟨b,_,hc,ho',(hbox _ hq b cs fz hs ho').1⟩
   | fbox b cs cs' fz hs ho' hc hm=>exact⟨b,_,hc,ho',(hbox _ hq b cs fz hs ho').1⟩
   | map b ks vs fz hq0 hs ho' hc=>exact⟨b,_,hc,ho',(hmap _ hq b ks vs fz hs ho').1⟩
  obtain⟨r1,o1,d1,d2,d3⟩:=c1
  obtain⟨r2,o2,d4,d5,d6⟩:=c2
  rw[d3]at hb
  rw[d6]at hb2
  exact hapart r1 r2 o1 o2 d2 d5 (key r1 r2 d1 d4) b hb hb2
 ·obtain⟨p,hp,rfl,v,hk⟩:=hent id ob ho
  cases hk with
  | row r g e k xs hs ho' hc=>rw[hrow p hp r g e k xs hs ho']at hb;exact hmine r _ b ho' hb
  | nils e k hk0 hs hc=>rw[hnil p hp hs]at hb;cases hb
  | box b' cs cs' fz fz' hs ho' hc hm hfz=>rw[(hbox p hp b' cs fz hs ho').1]at hb;exact hmine b' _ b ho' hb
  | fbox b' cs cs' fz hs ho' hc hm=>rw[(hbox p hp b' cs fz hs ho').1]at hb;exact hmine b' _ b ho' hb
  | map b' ks vs fz hq0 hs ho' hc=>rw[(hmap p hp b' ks vs fz hs ho').1]at hb;exact hmine b' _ b ho' hb
theorem norm_sound(h:St F w0 κ σ a w){keep:Keep}{τ:Env}(hn:normA keep σ=some τ):∃κ',St F w0 κ' τ a w:=normC_sound h hn
theorem aliasOk_spec(h:St F w0 κ σ a w){p:Nat×Nat}(hp:aliasOk σ p=true):a.tmps.getD p.1 undef=a.tmps.getD p.2 undef:=by
 unfold aliasOk at hp
 have h1:=h.slots p.1
 have h2:=h.slots p.2
 split at hp
 ·rename_i r g r' g' e1 e2
  simp only[Bool.and_eq_true,beq_iff_eq]at hp
  obtain⟨⟨rfl,rfl⟩,h3⟩:=hp
  split at h3
  ·rename_i e k xs hh fz ho
   simp only[beq_iff_eq]at h3
   subst h3
   rw[e1]at h1
   rw[e2]at h2
   simp only[Rel,one]at h1 h2
   obtain⟨_,_,_,_,_,h4,_,h5⟩:=h1
   obtain⟨_,_,_,_,_,h6,_,h7⟩:=h2
   rw[ho]at h4 h6
   cases h4
   cases h6
   exact(h5 rfl).trans (h7 rfl).symm
  ·cases h3
 ·rename_i e1 e2
  rw[e1]at h1
  rw[e2]at h2
  simp only[Rel,one]at h1 h2
  exact h1.trans h2.symm
 ·cases hp
theorem aliased_sound{τ:Env}{κ':Nat→Value}(h:St F w0 κ' τ a w):∀(al:List (Nat×Nat)),(∀ p∈al,a.tmps.getD p.1 undef=a.tmps.getD p.2 undef)→St F w0 κ' (aliased τ al) a w
 | [],_=>h
 | (i,m)::l,hl=>by
   have ih:=aliased_sound h l fun p hp=>hl p (List.mem_cons_of_mem _ hp)
   refine⟨fun t=>?_,ih.objs,ih.apart,ih.below,ih.defers,ih.size,ih.mine,ih.fix⟩
   show(Rel _ w κ' _ (upd (aliased τ l).slots i ((aliased τ l).slots m) t)).val _
   by_cases e:t=i
   ·subst e
    rw[upd_same,hl (t,m) (by simp)]
    exact ih.slots m
   ·rw[upd_ne _ _ e]
    exact ih.slots t
theorem normB_sound(h:St F w0 κ σ a w){keep:Keep}{al:List (Nat×Nat)}{τ:Env}(hn:normB keep al σ=some τ):∃κ',St F w0 κ' τ a w:=by
 unfold normB at hn
 split at hn
 case isFalse=>cases hn
 rename_i hal
 obtain⟨τ',h1,h2⟩:=map_some hn
 obtain⟨κ',h3⟩:=norm_sound h h1
 rw[List.all_eq_true]at hal
 exact⟨κ',h2▸aliased_sound h3 al fun p hp=>aliasOk_spec h (hal p hp)⟩
end
end Go.Abs
