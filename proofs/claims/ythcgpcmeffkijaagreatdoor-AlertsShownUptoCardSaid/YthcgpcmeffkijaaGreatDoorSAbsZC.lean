import Derived.Test.YthcgpcmeffkijaaGreatDoorSAbsZB
set_option linter.unusedVariables false
set_option linter.unusedSimpArgs false
namespace Go.Abs
open Go.RowKit
theorem looks_operand{ops:Array Oper}{o:Oper}{t:Tmp}(h:Operand.tmp t∈o.op.operands):t∈o.looksAt ops:=by
 unfold Oper.looksAt
 refine List.mem_append.2 (.inl (List.mem_filterMap.2 ⟨.tmp t,by simpa using h,rfl⟩))
theorem looks_guard{ops:Array Oper}{o:Oper}{j:Nat}{want:Bool}{t:Tmp}(hg:o.guard=some (j,want))(ht:(ops[j]?).bind (·.dst)=some t):t∈o.looksAt ops:=by
 unfold Oper.looksAt
 refine List.mem_append.2 (.inr ?_)
 rw[hg]
 simp only[ht]
 simp
theorem evA_looks{ops:Array Oper}{o:Oper}{s s':Nat→AV}(h:∀t∈o.looksAt ops,s t=s' t):∀x∈o.op.operands,evA s x=evA s' x:=by
 intro x hx
 cases x with
 | tmp t=>exact h t (looks_operand hx)
 | _=>rfl
theorem wantedA_looks{ops:Array Oper}{o:Oper}{s s':Nat→AV}(h:∀t∈o.looksAt ops,s t=s' t):wantedA ops s o=wantedA ops s' o:=by
 unfold wantedA
 cases hg:o.guard with
 | none=>rfl
 | some jw=>
   obtain⟨j,want⟩:=jw
   simp only
   cases ht:(ops[j]?).bind (·.dst)with
   | none=>rfl
   | some t=>simp only[h t (looks_guard hg ht)]
section
variable {F:Nat→Prop} {w0:Base} {κ:Nat→Value} {a:Act} {w:World}
theorem stepE_sound{σj τ:Env}(h:St F w0 κ τ a w){P:Program}{C:Callee}(hC:CallAt P C w0){ops:Array Oper}{o:Oper}{e:REff}(hs:stepE P C ops σj o=some e)(hn:σj.n=τ.n)
  (hl:∀t∈o.looksAt ops,σj.slots t=τ.slots t) {U:Nat→List (Nat×Nat)} (ho:Alike U σj.objs τ.objs) (hm:mayA P σj U o.op=true) (hsame:∀id,e.on id→τ.objs id=σj.objs id) (hfree:∀p∈e.e.news,τ.objs p.1=none) {K:Act→World→Prop} {Q:Exit→Act→World→Prop}
  (hK:∀κ' a' w',St F w0 κ' (τ.reff o.dst e) a' w'→K a' w'):if Region.wanted o (yielded ops a.tmps)then o.wp P a w K Q else K (a.put o.dst undef) w:=by
 unfold stepE at hs
 split at hs
 case isFalse=>cases hs
 rename_i hd
 rw[hn]at hd
 obtain⟨b,hw,hs⟩:=bind_some' hs
 rw[wantedA_looks hl]at hw
 cases b with
 | false=>
   rw[wantedA_sound h hw]
   simp only[Option.some.injEq]at hs
   subst hs
   simp only[Bool.false_eq_true,if_false]
   exact hK _ _ _ (h.value (x:= .und) (v:=undef) hd (by simp[Rel,one]))
 | true=>
   simp only at hs
   have hev:=evA_looks (o:=o) hl
   unfold doneE at hs
   split at hs
   ·rename_i t x y hop
    unfold storeE at hs
    obtain⟨k,h1,hs⟩:=bind_some' hs
    split at hs
    case isFalse=>cases hs
    rename_i hlen
    obtain⟨⟨id,ob,frz⟩,h2,hs⟩:=bind_some' hs
    simp only at hs
    split at hs
    case isFalse=>cases hs
    rename_i hf
    have hf:frz=[]:=by simpa using hf
    subst hf
    have hst:e.on id:=by cases hs;exact⟨_,_,_,rfl⟩
    have hx:evA σj.slots x=evA τ.slots x:=hev x (by rw[hop];simp[Op.operands])
    have hy:evA σj.slots y=evA τ.slots y:=hev y (by rw[hop];simp[Op.operands])
    rw[hop]at hm
    have h3:=storeA_in ho (σ:=σj) (σ':=τ) rfl rfl h2 hm (hsame id hst)
    rw[hx,hy]at h3
    rw[hy]at hlen
    refine step_sound h hC (σ':=τ.reff o.dst e) ?_ hK
    unfold stepA
    rw[if_pos hd,hw]
    have he:effOf P C τ.slots τ.objs (o.dst.getD 0) o.type o.op=none:=by rw[hop];rfl
    have hmod:modOf P C τ o.dst o.op=some (τ.reff o.dst e):=by
     rw[hop]
     simp only[modOf,h1,Option.bind_some]
     rw[if_pos hlen,h3]
     cases hs
     rfl
    simp only[Option.bind_some,he,hmod]
   ·split at hs
    ·rename_i e1 hin
     simp only[Option.some.injEq]at hs
     subst hs
     have hon:=hsame
     unfold inplE at hin
     split at hin
     case h_2=>cases hin
     rename_i c hop
     split at hin
     case h_2=>cases hin
     rename_i f hcal
     split at hin
     case isFalse=>cases hin
     rename_i hgv
     split at hin
     case h_2=>cases hin
     rename_i b rest hargs
     split at hin
     case h_2=>cases hin
     rename_i cs hb
     split at hin
     case isFalse=>cases hin
     rename_i hcs
     obtain⟨q,h2,hin⟩:=bind_some' hin
     split at hin
     case h_2=>cases hin
     rename_i r cs' frz v
     split at hin
     case isFalse=>cases hin
     rename_i hr
     obtain⟨⟨rfl,hlen⟩,hfz⟩:=hr
     cases hin
     have hob:=hsame r ⟨_,_,_,rfl⟩
     rw[hop]at hm
     have hm2:noClash U ((c.args.toList.map (evA σj.slots)).flatMap (refsOf σj.objs DEPTH))=true:=by
      have:=hm
      simp only[mayA,hcal]at this
      exact this
     rw[hargs]at hm2
     have h3:=inplA_in ho (σ:=σj) (σ':=τ) rfl rfl hb (by simpa using hcs) h2 hm2 hob
     have hargs':c.args.toList.map (evA τ.slots)= .ba r 0::rest:=by
      rw[← hargs]
      refine List.map_congr_left fun x hx=>(hev x ?_).symm
      rw[hop]
      simp only[Op.operands,Call.operands,Array.mem_append]
      exact .inr (by simpa using hx)
     simp only[Bool.and_eq_true]at hgv
     obtain⟨⟨g1,g2⟩,g3⟩:=hgv
     refine step_sound h hC (σ':=τ.reff o.dst _) ?_ hK
     unfold stepA
     rw[if_pos hd,hw]
     have he:effOf P C τ.slots τ.objs (o.dst.getD 0) o.type o.op=none:=by
      rw[hop]
      simp only[effOf,hcal,callE,g1,g2,Bool.not_true,Bool.and_false,Bool.false_eq_true,if_false]
     have hmod:modOf P C τ o.dst o.op=some (τ.reff o.dst { e:={ val:=v,frz:=frz },st:=some (r,.box cs' false,0,cs.length) }):=by
      rw[hop]
      simp only[modOf,hcal,g1,g2,g3,Bool.and_self,if_true,hargs',h3,Option.map_some]
      congr 1
      have hro:r∉frz:=fun hin=>by
       have:=List.all_eq_true.1 hfz r hin
       simp at this
      have hE:(τ.turn r (.box cs' false) frz)={ (τ.obj r (.box cs' false))with objs:=freeze (τ.obj r (.box cs' false)).objs frz }:=by
       unfold Env.turn Env.obj
       congr 1
       funext id
       simp only
       rw[freeze_eq]
       by_cases hid:id=r
       ·subst hid
        have hc:frz.contains id=false:=by simpa using hro
        simp only[upd_same,hc,Option.map_some,orFz_false]
       ·rw[upd_ne _ _ hid,upd_ne _ _ hid,freeze_eq]
      rw[hE]
      rfl
     simp only[Option.bind_some,he,hmod]
    unfold quietE at hs
    obtain⟨e',h1,h2⟩:=bind_some' hs
    split at h2
    case isFalse=>cases h2
    cases h2
    have h3:=effOf_objs ho rfl h1 hm
    rw[effOf_slots P C _ _ _ _ hev]at h3
    rw[wantedA_sound h hw]
    simp only[if_true]
    exact eff_sound h hC h3 hd hfree hK
abbrev lst(ops:Array Oper)(ord:List Nat)(listed:Array Bool)(p:Nat):Bool:=listed.getD (ixOf ops ord p) false
section
variable {P:Program} {C:Callee} {ops:Array Oper} {ord:List Nat} {n:Nat} {befs:List (List Nat)} (S:Stat ops ord n befs)
include S
theorem lst_on{listed:Array Bool}(hsz:listed.size=ops.size)(i:Nat):lst ops ord listed (ord.idxOf i)=listed.getD i false:=by
 rcases Nat.lt_or_ge i ops.size with h|h
 ·rw[lst,(S.surj i h).2]
 ·rw[lst,S.beyond i h]
  simp[hsz,h]
theorem lst_out{listed:Array Bool}(hsz:listed.size=ops.size){p:Nat}(hp:ops.size≤p):lst ops ord listed p=false:=by
 have:ord.length=ops.size:=by have:=S.len;rwa[inOrd,List.length_map]at this
 have e:ixOf ops ord p=ops.size:=by simp[ixOf,this,hp]
 rw[lst,e]
 simp[hsz]
theorem lst_set{listed:Array Bool}(hsz:listed.size=ops.size){i:Nat}(hi:i<ops.size)(k:Nat):lst ops ord (listed.setIfInBounds (ixOf ops ord i) true) k=(lst ops ord listed k||k == i):=by
 have h1:=S.get i hi
 by_cases e:k=i
 ·subst e
  simp[lst,hsz,h1.2.1]
 ·have hne:ixOf ops ord i≠ixOf ops ord k:=by
   intro h
   rcases Nat.lt_or_ge k ops.size with hk|hk
   ·have h2:=(S.get k hk).2.2
    rw[← h,h1.2.2]at h2
    exact e h2.symm
   ·have:ord.length=ops.size:=by have:=S.len;rwa[inOrd,List.length_map]at this
    have e2:ixOf ops ord k=ops.size:=by simp[ixOf,this,hk]
    have:=h1.2.1
    omega
  rw[lst,getD_set_ne false hne]
  simp[lst,e]
theorem ready_lst{listed:Array Bool}(hsz:listed.size=ops.size){j:Nat}:j∈Region.ready .any ops listed↔∃p o,p<ops.size∧j=ixOf ops ord p∧ops[j]? = some o∧(inOrd ops ord)[p]? = some o∧lst ops ord listed p=false∧∀e∈o.after,Region.binds .any e=true→lst ops ord listed (ord.idxOf e.on)=true:=by
 have lt_:∀{i:Nat}(d:Bool),i<ops.size→listed.getD i d=listed.getD i false:=fun d hi=>by simp[hsz,hi]
 rw[mem_ready]
 constructor
 ·rintro⟨h1,o,h2,h3⟩
  have hj:j<ops.size:=(Array.getElem?_eq_some_iff.1 h2).1
  obtain⟨hp,hpe⟩:=S.surj j hj
  refine⟨ord.idxOf j,o,hp,hpe.symm,h2,?_,?_,fun e he hb=>?_⟩
  ·rw[(S.get _ hp).1,hpe];exact h2
  ·rw[lst_on S hsz,←lt_ true hj];exact h1
  ·rw[lst_on S hsz];exact h3 e he hb
 ·rintro⟨p,o,hp,rfl,h2,_,h1,h3⟩
  refine⟨?_,o,h2,fun e he hb=>?_⟩
  ·rw[lt_ true (S.get p hp).2.1];exact h1
  ·have:=h3 e he hb
   rwa[lst_on S hsz]at this
theorem ready_bef{listed:Array Bool}(hsz:listed.size=ops.size)(hcl:∀k,lst ops ord listed k=true→∀m,befAt befs k m=true→lst ops ord listed m=true){p:Nat}{o:Oper}(ho:(inOrd ops ord)[p]? = some o)
  (hall:∀e∈o.after,Region.binds .any e=true→lst ops ord listed (ord.idxOf e.on)=true) :
  ∀m,befAt befs p m=true→lst ops ord listed m=true:=by
 intro m hm
 obtain⟨e,he,hb,h1|h1⟩:=S.by_ p o m ho hm
 ·rw[← h1];exact hall e he hb
 ·exact hcl _ (hall e he hb) m h1
theorem tail_any{Q:Exit→Act→World→Prop}(hC:CallAt P C w0):∀(l:List Oper)(m:Nat)(listed:Array Bool){κ:Nat→Value}{σ τ:Env}{a:Act}{w:World},n≤m→m+l.length=ops.size→(∀ j,l[j]? = (inOrd ops ord)[m+j]?)→listed.size=ops.size→
  (∀ i,i<ops.size→lst ops ord listed i=decide (i<m))→opsA P C ops l σ=some τ→St F w0 κ σ a w→(∀ κ' a' w',St F w0 κ' τ a' w'→Q .normal a' w')→∀fuel,l.length≤fuel→wpAny P .any ops Q fuel listed a w
 | [],m,listed,κ,σ,τ,a,w,hnm,hm,hl,hsz,hlist,hs,h,hQ,fuel,hf=>by
   simp only[opsA,Option.some.injEq]at hs
   subst hs
   have hno:Region.ready .any ops listed=[]:=by
    apply List.eq_nil_iff_forall_not_mem.2
    intro j hj
    obtain⟨p,o,hp,_,_,_,h1,_⟩:=(ready_lst S hsz).1 hj
    rw[hlist p hp]at h1
    simp only[decide_eq_false_iff_not,List.length_nil]at h1 hm
    omega
   cases fuel with
   | zero=>exact⟨hno,hQ _ _ _ h⟩
   | succ fuel=>exact⟨fun _=>hQ _ _ _ h,fun j hj=>by rw[hno]at hj;cases hj⟩
 | o::l,m,listed,κ,σ,τ,a,w,hnm,hm,hl,hsz,hlist,hs,h,hQ,fuel,hf=>by
   simp only[List.length_cons]at hm hf
   have hmlt:m<ops.size:=by omega
   have ho:(inOrd ops ord)[m]? = some o:=by simpa using(hl 0).symm
   cases fuel with
   | zero=>omega
   | succ fuel=>
     have hlm:lst ops ord listed m=false:=by rw[hlist m hmlt];simp
     have hcl:∀k,lst ops ord listed k=true→∀x,befAt befs k x=true→lst ops ord listed x=true:=by
      intro k hk x hx
      have hks:k<ops.size:=by
       rcases Nat.lt_or_ge k ops.size with h1|h1
       ·omega
       ·rw[lst_out S hsz h1]at hk
        cases hk
      rw[hlist k hks]at hk
      have hkm:k<m:=by simpa using hk
      have:=S.lt k x hks hx
      rw[hlist x (by omega)]
      simp only[decide_eq_true_eq]
      omega
     have honly:∀j,j∈Region.ready .any ops listed→j=ixOf ops ord m:=by
      intro j hj
      obtain⟨p,o',hp,hjp,_,h2,h1,hall⟩:=(ready_lst S hsz).1 hj
      rw[hlist p hp]at h1
      simp only[decide_eq_false_iff_not]at h1
      by_cases hjm:p=m
      ·rw[hjp,hjm]
      ·have h3:=ready_bef S hsz hcl h2 hall m (S.tail p m (by omega) hp (by omega))
       rw[hlm]at h3
       cases h3
     have hom:ops[ixOf ops ord m]? = some o:=by rw[← (S.get m hmlt).1];exact ho
     have hready:ixOf ops ord m∈Region.ready .any ops listed:=by
      refine(ready_lst S hsz).2 ⟨m,o,hmlt,rfl,hom,ho,hlm,fun e he hb=>?_⟩
      have:=S.edges m o e ho he hb
      rw[hlist _ (by omega)]
      simpa using this
     refine⟨fun hno=>(by rw[hno]at hready;cases hready),fun j hj=>?_⟩
     have hjm:=honly j hj
     subst hjm
     simp only[opsA]at hs
     obtain⟨σ',h1,h2⟩:=bind_some' hs
     have hst:=step_sound h hC (ops:=ops) (o:=o) h1 (K:=wpAny P .any ops Q fuel (listed.setIfInBounds (ixOf ops ord m) true)) (Q:=Q) fun κ' a' w' h'=>
      tail_any hC l (m+1) _ (by omega) (by omega) (fun k=>by have:=hl (k+1);simpa[Nat.add_assoc,Nat.add_comm 1 k]using this) (by simpa using hsz)
       (fun i hi=>by
        rw[lst_set S hsz hmlt,hlist i hi,Bool.eq_iff_iff]
        simp only[Bool.or_eq_true,decide_eq_true_eq,beq_iff_eq]
        omega) h2 h' hQ fuel (by omega)
     unfold wpOp
     rw[hom]
     simp only
     split
     ·rename_i hw;rw[if_pos hw]at hst;exact .inl hst
     ·rename_i hw;rw[if_neg hw]at hst;exact hst
end
end
end Go.Abs
