import Derived.Test.YthcgpcmeffkijaaGreatDoorSAbsZC
set_option linter.unusedVariables false
set_option linter.unusedSimpArgs false
namespace Go.Abs
open Go.RowKit
section
variable {ops:Array Oper} {ord:List Nat} {n:Nat} {befs:List (List Nat)} (S:Stat ops ord n befs)
def cntU(ops:Array Oper)(ord:List Nat)(listed:Array Bool):Nat→Nat
 | 0=>0
 | n+1=>cntU ops ord listed n+(if lst ops ord listed n then 0 else 1)
include S in
theorem cntU_set{listed:Array Bool}(hsz:listed.size=ops.size){j:Nat}(hj:j<ops.size)(hl:lst ops ord listed j=false):∀n,cntU ops ord (listed.setIfInBounds (ixOf ops ord j) true) n+(if j<n then 1 else 0)=cntU ops ord listed n
 | 0=>by simp[cntU]
 | n+1=>by
   have ih:=cntU_set hsz hj hl n
   simp only[cntU]
   rw[lst_set S hsz hj]
   by_cases e:n=j
   ·subst e
    rw[hl]
    simp at ih ⊢
    omega
   ·have e':(n == j)=false:=by simpa using e
    rw[e',Bool.or_false]
    have e2:(if j<n+1 then 1 else 0)=(if j<n then 1 else 0):=by
     by_cases h1:j<n
     ·simp[h1,show j<n+1 by omega]
     ·simp[h1,show ¬j<n+1 by omega]
    rw[e2]
    omega
theorem first_unlisted(f:Nat→Bool):∀n,(∀ i,i<n→f i=true)∨∃i,i<n∧f i=false∧∀k,k<i→f k=true
 | 0=> .inl fun i h=>by omega
 | n+1=>by
   rcases first_unlisted f n with h|⟨i,h1,h2,h3⟩
   ·cases hn:f n with
    | false=>exact .inr ⟨n,by omega,hn,h⟩
    | true=>
      refine .inl fun i hi=>?_
      by_cases e:i=n
      ·subst e;exact hn
      ·exact h i (by omega)
   ·exact .inr ⟨i,by omega,h2,h3⟩
end
abbrev befN(ops:Array Oper)(befs:List (List Nat)):Nat→Nat→Bool:=fun i k=>decide (i<ops.size)&&befAt befs i k
section
variable {F:Nat→Prop} {w0:Base}
theorem head_any{P:Program}{C:Callee}{ops:Array Oper}{ord:List Nat}{n:Nat}{befs:List (List Nat)}(S:Stat ops ord n befs){Q:Exit→Act→World→Prop}(hC:CallAt P C w0){σ0 τ:Env}{es:REffs}(G:Good σ0 es (befN ops befs))(T:StOK σ0 es (befN ops befs))(hlen:es.length=n)
  (hstep:∀j o,j<n→(inOrd ops ord)[j]? = some o→∃e,es[j]? = some (o.dst,e)∧stepE P C ops (envSub (befAt befs j) (es.take j) 0 σ0) o=some e)
  (hmay:∀j o,j<n→(inOrd ops ord)[j]? = some o→mayA P (envSub (befAt befs j) (es.take j) 0 σ0) (clash befs es j) o.op=true)
  (hfrz:∀j,j<n→FrzOK σ0 es (befN ops befs) j)
  (hs:opsA P C ops ((inOrd ops ord).drop n) (envSub (fun _=>true) es 0 σ0)=some τ) (hQ:∀κ' a' w',St F w0 κ' τ a' w'→Q .normal a' w') :
  ∀(fuel:Nat)(listed:Array Bool){κ:Nat→Value}{σ:Env}{a:Act}{w:World},listed.size=ops.size→St F w0 κ σ a w→Desc σ0 es (lst ops ord listed) σ→(∀ k,lst ops ord listed k=true→∀m,befAt befs k m=true→lst ops ord listed m=true)→
   (∀ j,n≤j→lst ops ord listed j=false)→cntU ops ord listed n+(ops.size-n)≤fuel→wpAny P .any ops Q fuel listed a w:=by
 have hnle:=S.le
 have hLlen:=S.len
 have Lsome:∀{j:Nat},j<ops.size→∃o,(inOrd ops ord)[j]? = some o:=fun hj=>⟨_,List.getElem?_eq_getElem (by omega)⟩
 have done:∀(fuel:Nat)(listed:Array Bool){κ:Nat→Value}{σ:Env}{a:Act}{w:World},listed.size=ops.size→St F w0 κ σ a w→Desc σ0 es (lst ops ord listed) σ→(∀ j,n≤j→lst ops ord listed j=false)→ops.size-n≤fuel→
   (∀ i,i<n→lst ops ord listed i=true)→wpAny P .any ops Q fuel listed a w:=by
  intro fuel listed κ σ a w hsz hst hD hno hf hall
  have hτ:σ=envSub (fun _=>true) es 0 σ0:=by
   have h4:=envSub_desc G (b:=fun _=>true) (fun _ _ _ _=>rfl) n (by omega) hfrz
   rw[List.take_of_length_le (by omega)]at h4
   refine desc_unique (desc_congr hD fun i hi=>?_) h4
   simp only[Bool.true_and]
   rw[hall i (by omega)]
   simp;omega
  rw[← hτ]at hs
  exact tail_any S hC ((inOrd ops ord).drop n) n listed (Nat.le_refl _) (by simp;omega) (fun j=>by simp) hsz (fun i hi=>by
   by_cases hin:i<n
   ·rw[hall i hin];simp[hin]
   ·rw[hno i (by omega)];simp[hin]) hs hst hQ fuel (by simp;omega)
 intro fuel
 induction fuel with
 | zero=>
   intro listed κ σ a w hsz hst hD hcl hno hf
   rcases first_unlisted (lst ops ord listed) n with hall|⟨i,h1,h2,h3⟩
   ·exact done 0 listed hsz hst hD hno (by omega) hall
   ·exfalso
    have:=cntU_set S (listed:=listed) (j:=i) hsz (by omega) h2 n
    rw[if_pos h1]at this
    omega
 | succ fuel ih=>
   intro listed κ σ a w hsz hst hD hcl hno hf
   rcases first_unlisted (lst ops ord listed) n with hall|⟨i,h1,h2,h3⟩
   ·exact done (fuel+1) listed hsz hst hD hno (by omega) hall
   ·have hi0:i<ops.size:=by omega
    have hready:ixOf ops ord i∈Region.ready .any ops listed:=by
     obtain⟨oi,hoi⟩:=Lsome hi0
     refine(ready_lst S hsz).2 ⟨i,oi,hi0,rfl,by rw[← (S.get i hi0).1];exact hoi,hoi,h2,fun e he hb=>?_⟩
     exact h3 _ (S.edges i _ e hoi he hb)
    refine⟨fun hno=>(by rw[hno]at hready;cases hready),fun jr hj=>?_⟩
    obtain⟨j,o,hjs,hjr,hor,ho,hju,hall⟩:=(ready_lst S hsz).1 hj
    have hbj:=ready_bef S hsz hcl ho hall
    have hjn:j<n:=by
     rcases Nat.lt_or_ge j n with h|h
     ·exact h
     ·have:=hbj i (S.tail j i h hjs (by omega))
      rw[h2]at this
      cases this
    obtain⟨e,he,hse⟩:=hstep j o hjn ho
    have hclN:∀k,lst ops ord listed k=true→∀m,befN ops befs k m=true→lst ops ord listed m=true:=fun k hk m hm=>by
     simp only[befN,Bool.and_eq_true]at hm
     exact hcl k hk m hm.2
    have Dj:=envSub_desc G (b:=befAt befs j) (fun k x hk hx=>by
     simp only[befN,Bool.and_eq_true,decide_eq_true_eq]at hx
     exact S.trans j k x hjs hk hx.2) j (by omega) fun k hk=>hfrz k (by omega)
    have hsub:∀k,(befAt befs j k&&decide (k<j))=true→lst ops ord listed k=true:=fun k hk=>by
     simp only[Bool.and_eq_true]at hk
     exact hbj k hk.1
    have esAt:∀{k:Nat}{d e'},es[k]? = some (d,e')→k<n∧∃q,(inOrd ops ord)[k]? = some q∧q.dst=d:=by
     intro k d e' hk
     have hkn:k<n:=by rw[← hlen];exact(List.getElem?_eq_some_iff.1 hk).1
     have hks:k<ops.size:=by omega
     obtain⟨q,hq⟩:=Lsome hks
     obtain⟨e2,h5,_⟩:=hstep k _ hkn hq
     rw[hk]at h5
     simp only[Option.some.injEq,Prod.mk.injEq]at h5
     exact⟨hkn,_,hq,h5.1.symm⟩
    have hnb:∀k,lst ops ord listed k=true→befAt befs k j=false:=fun k hk=>by
     cases hb:befAt befs k j with
     | false=>rfl
     | true=>
       have:=hcl k hk j hb
       rw[hju]at this;cases this
    have hlook:∀t∈o.looksAt ops,(envSub (befAt befs j) (es.take j) 0 σ0).slots t=σ.slots t:=by
     intro t ht
     by_cases hex:∃(k:Nat)(e':REff),es[k]? = some (some t,e')∧k≠j
     ·obtain⟨k,e',hk,hkj⟩:=hex
      obtain⟨hkn,q,hq,hqd⟩:=esAt hk
      rcases(S.apart k j q o t hkn hjn hq ho hkj hqd).2 ht with hb|hb
      ·rw[Dj.slot1 k t e' hk (by simp[hb,S.lt j k hjs hb]),hD.slot1 k t e' hk (hbj k hb)]
      ·have hku:lst ops ord listed k=false:=by
        cases hk1:lst ops ord listed k with
        | false=>rfl
        | true=>rw[hnb k hk1]at hb;cases hb
       have hjk:=S.lt k j (by omega) hb
       have only:∀(k':Nat)(e2:REff),es[k']? = some (some t,e2)→k'=k∨k'=j:=fun k' e2 hk'=>by
        obtain⟨hkn',q',hq',hqd'⟩:=esAt hk'
        by_cases h1:k'=k
        ·exact .inl h1
        ·exact absurd hqd (S.apart k' k q' q t hkn' hkn hq' hq h1 hqd').1
       rw[Dj.slot0 t fun k' e2 hk'=>by
          rcases only k' e2 hk' with rfl|rfl
          ·simp;omega
          ·simp,hD.slot0 t fun k' e2 hk'=>by
          rcases only k' e2 hk' with rfl|rfl
          ·exact hku
          ·exact hju]
     ·have hnot:∀(k:Nat)(e':REff),es[k]? = some (some t,e')→k=j:=fun k e' hk=>by
       apply Classical.byContradiction
       intro hkj
       exact hex ⟨k,e',hk,hkj⟩
      rw[Dj.slot0 t fun k e' hk=>by rw[hnot k e' hk];simp,hD.slot0 t fun k e' hk=>by rw[hnot k e' hk];exact hju]
    have hobjs:Alike (clash befs es j) (envSub (befAt befs j) (es.take j) 0 σ0).objs σ.objs:=by
     refine desc_alike G T Dj hD hsub (fun k hk m hm=>?_) hclN (fun k x m h4 h5=>?_) (fun k d e' id o' off n' hk hLk hnL hst'=>?_)
     ·simp only[befN,Bool.and_eq_true,decide_eq_true_eq]at hk hm ⊢
      exact⟨S.trans j k m hjs hk.1 hm.2,by have:=S.lt k m hm.1 hm.2;omega⟩
     ·simp only[befN,Bool.and_eq_true,decide_eq_true_eq]at h4 h5 ⊢
      exact⟨h4.1,S.trans k x m h4.1 h4.2 h5.2⟩
     ·have hkj:k≠j:=fun e1=>by rw[e1,hju]at hLk;cases hLk
      have hb1:befAt befs j k=false:=by
       cases hb:befAt befs j k with
       | false=>rfl
       | true=>
         have:=S.lt j k hjs hb
         simp[hb,this]at hnL
      exact clash_mem hk hst' hkj hb1 (hnb k hLk)
    have hsame:∀id,e.on id→σ.objs id=(envSub (befAt befs j) (es.take j) 0 σ0).objs id:=by
     intro id hon
     obtain⟨o',off,n',hs'⟩:=hon
     obtain⟨τj,ob,Dτ,h4,_⟩:=T j _ e id o' off n' he hs'
     have eτ:τj=envSub (befAt befs j) (es.take j) 0 σ0:=desc_unique Dτ (desc_congr Dj fun k hk=>by
      simp only[befN]
      rw[Bool.eq_iff_iff]
      simp only[Bool.and_eq_true,decide_eq_true_eq]
      exact⟨fun⟨_,hb⟩=>⟨hb,S.lt j k hjs hb⟩,fun⟨hb,_⟩=>⟨hjs,hb⟩⟩)
     rw[eτ]at h4
     refine desc_same G Dj hD hsub (fun m d' e' hm hLm hom=>?_) (fun L=>unfz_L G he ⟨o',off,n',hs'⟩ L) h4
     have hmj:m≠j:=fun e1=>by rw[e1,hju]at hLm;cases hLm
     rcases G.row m j d' _ e' e id hm he hom ⟨o',off,n',hs'⟩ hmj with hb|hb
     ·simp only[befN,Bool.and_eq_true]at hb
      rw[hnb m hLm]at hb
      cases hb.2
     ·simp only[befN,Bool.and_eq_true,decide_eq_true_eq]at hb ⊢
      exact⟨hb.2,S.lt j m hjs hb.2⟩
    have hfree:∀p∈e.e.news,σ.objs p.1=none:=by
     intro p hp
     have hnst:NoSt es (lst ops ord listed) p.1:=fun k d e' hk hLk hon=>by
      have hb:=G.stold k d e' p.1 hk hon j _ e he (List.mem_map.2 ⟨p,hp,rfl⟩)
      simp only[befN,Bool.and_eq_true]at hb
      rw[hnb k hLk]at hb
      cases hb.2
     rw[hD.obj0 p.1 (fun k d e' hk hlk hid=>G.apart k j d _ e' e _ hk he (fun ekj=>by rw[ekj,hju]at hlk;cases hlk) hid (List.mem_map.2 ⟨p,hp,rfl⟩)) hnst,G.free j _ e p he hp]
     rfl
    have hset:(fun k=>lst ops ord listed k||k == j)=lst ops ord (listed.setIfInBounds (ixOf ops ord j) true):=by funext k;rw[lst_set S hsz hjs]
    subst hjr
    have hst':=stepE_sound hst hC (ops:=ops) (o:=o) hse (Dj.n.trans hD.n.symm) hlook hobjs (hmay j o hjn ho) hsame hfree (K:=wpAny P .any ops Q fuel (listed.setIfInBounds (ixOf ops ord j) true)) (Q:=Q) fun κ' a' w' h'=>by
     refine ih (listed.setIfInBounds (ixOf ops ord j) true) (by simpa using hsz) h' ?_ ?_ ?_ ?_
     ·rw[← hset]
      refine desc_step G hD he hju hclN (fun m hm=>?_) (fun k hk=>?_)
      ·simp only[befN,Bool.and_eq_true]at hm
       exact hbj m hm.2
      ·simp only[Bool.or_eq_true,beq_iff_eq]at hk
       refine hfrz k ?_
       rcases hk with hk|hk
       ·rcases Nat.lt_or_ge k n with h|h
        ·exact h
        ·rw[hno k h]at hk;cases hk
       ·omega
     ·intro k hk m hm
      rw[lst_set S hsz hjs]at hk ⊢
      simp only[Bool.or_eq_true,beq_iff_eq]at hk ⊢
      rcases hk with hk|hk
      ·exact .inl (hcl k hk m hm)
      ·subst hk
       exact .inl (hbj m hm)
     ·intro k hk
      rw[lst_set S hsz hjs,hno k hk]
      simp;omega
     ·have:=cntU_set S hsz hjs hju n
      rw[if_pos hjn]at this
      omega
    unfold wpOp
    rw[hor]
    simp only
    split
    ·rename_i hw;rw[if_pos hw]at hst';exact .inl hst'
    ·rename_i hw;rw[if_neg hw]at hst';exact hst'
end
theorem St.drawn{F:Nat→Prop}{w0:Base}{κ:Nat→Value}{σ:Env}{a:Act}{w:World}(h:St F w0 κ σ a w):St F w0 κ σ a { w with drawn:=w.drawn+1 }:=by
 have hS:∀k,Sset F w0.mine w κ σ.objs k→Sset F w0.mine { w with drawn:=w.drawn+1 } κ σ.objs k:=fun k hk=>hk
 refine⟨fun t=>(Rel_mono (w:=w) (w':={ w with drawn:=w.drawn+1 }) hS (fun _ _=>rfl) (ObjLe.refl _ _) (σ.slots t)).val _ (h.slots t),fun id o ho=>(h.objs id o ho).mono (w':={ w with drawn:=w.drawn+1 }) hS (fun _ _=>rfl) (ObjLe.refl _ _) rfl fun _ _=>rfl,h.apart,⟨h.below.os,h.below.tape,h.below.output,h.below.size,h.below.block,fun q=>Nat.le_succ_of_le (h.below.drawn q)⟩,h.defers,h.size,h.mine,h.fix⟩
theorem storeA_agree{σ:Env}{x p:AV}{id:Nat}{o:AObj}{frz:List Nat}{k:Nat}(hs:storeA σ x p=some (id,o,frz))(hk:x.cells.length=k):∃ob,σ.objs id=some ob∧Agree [rangeOf p k] ob o:=by
 unfold storeA at hs
 split at hs
 case isFalse=>cases hs
 cases p with
 | ba b off=>
   simp only at hs
   split at hs
   ·rename_i cs hb
    obtain⟨q,h2,h3⟩:=map_some hs
    simp only[Prod.mk.injEq]at h3
    obtain⟨rfl,rfl,rfl⟩:=h3
    refine⟨_,hb,q,false,rfl,?_⟩
    unfold putAt at h2
    split at h2
    case isFalse=>cases h2
    rename_i hle
    cases h2
    refine⟨by simp only[List.length_append,List.length_take,List.length_drop];omega,fun i hi=>?_⟩
    have hi:=hi (off,k) (by simp[rangeOf])
    simp only at hi
    rcases hi with hi|hi
    ·rw[List.append_assoc,List.getElem?_append_left (by rw[List.length_take];omega),List.getElem?_take,if_pos hi]
    ·rw[List.getElem?_append_right (by simp only[List.length_append,List.length_take];omega),List.getElem?_drop]
     congr 1
     simp only[List.length_append,List.length_take]
     omega
   ·cases hs
 | oa r g i off=>
   simp only at hs
   split at hs
   ·rename_i e k' xs g' hb
    split at hs
    case isFalse=>cases hs
    obtain⟨y,h2,hs⟩:=bind_some' hs
    obtain⟨vs,h3,hs⟩:=bind_some' hs
    split at hs
    case isFalse=>cases hs
    obtain⟨q,h4,h5⟩:=map_some hs
    simp only[Prod.mk.injEq]at h5
    obtain⟨rfl,rfl,rfl⟩:=h5
    exact⟨_,hb,_,false,rfl,by simp,fun h=>by cases h⟩
   ·cases hs
 | _=>cases hs
theorem inplE_form{P:Program}{C:Callee}{σ:Env}{o:Oper}{e:REff}(hin:inplE P C σ o=some e):∃b cs cs' v frz,e={ e:={ val:=v,frz:=frz },st:=some (b,.box cs' false,0,cs.length) }∧σ.objs b=some (.box cs false)∧cs'.length=cs.length∧(frz.all (fun id=>(σ.objs id).isSome&&(id != b)))=true:=by
 unfold inplE at hin
 split at hin
 case h_2=>cases hin
 split at hin
 case h_2=>cases hin
 split at hin
 case isFalse=>cases hin
 split at hin
 case h_2=>cases hin
 split at hin
 case h_2=>cases hin
 rename_i cs hb
 split at hin
 case isFalse=>cases hin
 obtain⟨q,h2,hin⟩:=bind_some' hin
 split at hin
 case h_2=>cases hin
 split at hin
 case isFalse=>cases hin
 rename_i hr
 cases hin
 exact⟨_,cs,_,_,_,rfl,hb,hr.1.2,hr.2⟩
theorem draw_ok{P:Program}(hm:P.follows .mixedOrders=true):∀C,DrawOK P C:=by
 intro C F w0 κ σ τ a w id ops ord hdn Q hC hd hst hQ
 unfold drawA at hd
 simp only at hd
 split at hd
 case isFalse=>cases hd
 rename_i hstat
 have S:=statOk_spec hstat
 generalize hn:hdn.getD ((inOrd ops ord).findIdx fun o => !quietOp o.op)=n at S hd
 generalize hbf:befsOf ord (inOrd ops ord) []=befs at S hd
 obtain⟨es,he,hd⟩:=bind_some' hd
 split at hd
 case isFalse=>cases hd
 rename_i hchk
 simp only[Bool.and_eq_true]at hchk
 obtain⟨⟨hnew,hstores⟩,hclash⟩:=hchk
 have hnle:=S.le
 have hLlen:=S.len
 have Lsome:∀{j:Nat},j<ops.size→∃o,(inOrd ops ord)[j]? = some o:=fun hj=>⟨_,List.getElem?_eq_getElem (by omega)⟩
 obtain⟨hl,_,hsp⟩:=effsA_spec _ he
 have hlen:es.length=n:=by rw[hl,List.length_take];simp;omega
 have hstep:∀j o,j<n→(inOrd ops ord)[j]? = some o→∃e,es[j]? = some (o.dst,e)∧stepE P C ops (envSub (befAt befs j) (es.take j) 0 σ) o=some e:=by
  intro j o hj ho
  obtain⟨e,h1,h2⟩:=hsp j o (by rw[List.getElem?_take,if_pos hj];simpa using ho)
  simp only[List.length_nil,Nat.zero_add]at h1 h2
  exact⟨e,h1,h2⟩
 have stepAt:∀{k:Nat}{d:Option Nat}{e:REff},es[k]? = some (d,e)→k<n∧∃o,(inOrd ops ord)[k]? = some o∧o.dst=d∧stepE P C ops (envSub (befAt befs k) (es.take k) 0 σ) o=some e:=by
  intro k d e hk
  have hkn:k<n:=by rw[← hlen];exact(List.getElem?_eq_some_iff.1 hk).1
  obtain⟨o,ho⟩:=Lsome (j:=k) (by omega)
  obtain⟨e',h1,h2⟩:=hstep k o hkn ho
  rw[hk]at h1
  simp only[Option.some.injEq,Prod.mk.injEq]at h1
  obtain⟨rfl,rfl⟩:=h1
  exact⟨hkn,o,ho,rfl,h2⟩
 have storeAt:∀{k:Nat}{d:Option Nat}{e:REff}{q},es[k]? = some (d,e)→e.st=some q→(∃ t x y,storeE P (envSub (befAt befs k) (es.take k) 0 σ) t x y=some e)∨∃o,inplE P C (envSub (befAt befs k) (es.take k) 0 σ) o=some e:=by
  intro k d e q hk hq
  obtain⟨_,o,_,_,h2⟩:=stepAt hk
  unfold stepE at h2
  split at h2
  case isFalse=>cases h2
  obtain⟨b,_,h2⟩:=bind_some' h2
  cases b with
  | false=>cases h2;cases hq
  | true=>
    simp only at h2
    unfold doneE at h2
    split at h2
    ·exact .inl ⟨_,_,_,h2⟩
    ·split at h2
     ·rename_i e1 hin
      cases h2
      exact .inr ⟨o,hin⟩
     unfold quietE at h2
     obtain⟨e',_,h3⟩:=bind_some' h2
     split at h3
     case isFalse=>cases h3
     cases h3;cases hq
 have plain:∀(i:Nat)(d:Option Nat)(e:REff) q,es[i]? = some (d,e)→e.st=some q→e.e.news=[]:=by
  intro i d e q hi hq
  rcases storeAt hi hq with⟨t,x,y,h1⟩|⟨o,h1⟩
  ·unfold storeE at h1
   obtain⟨k,_,h1⟩:=bind_some' h1
   split at h1
   case isFalse=>cases h1
   obtain⟨⟨r,o,frz⟩,_,h1⟩:=bind_some' h1
   simp only at h1
   split at h1
   case isFalse=>cases h1
   cases h1
   rfl
  ·obtain⟨b,cs,cs',v,frz,rfl,_⟩:=inplE_form h1
   rfl
 obtain⟨hfree,hnodup,hap⟩:=newsOk_free hnew
 have lift:∀{i k:Nat}{d:Option Nat}{e:REff},es[i]? = some (d,e)→befAt befs i k=true→befN ops befs i k=true:=fun hi hb=>by
  have:=(stepAt hi).1
  simp only[befN,Bool.and_eq_true,decide_eq_true_eq]
  exact⟨by omega,hb⟩
 have G:Good σ es (befN ops befs):=by
  refine⟨fun i j d e e' hi hj=>?_,hfree,hnodup,hap,fun i k h=>?_,plain,fun i j d d' e e' id hi hj hon=>(storesOk_spec hstores hi hon).1 j d' e' hj,fun i d e id hi hon j d' e' hj hid=>lift hi ((storesOk_spec hstores hi hon).2.1 j d' e' hj hid),fun i j d d' e e' id hi hj hon hon' hij=>?_⟩
  ·apply Classical.byContradiction
   intro hij
   obtain⟨hin,oi,hoi,hdi,_⟩:=stepAt hi
   obtain⟨hjn,oj,hoj,hdj,_⟩:=stepAt hj
   exact(S.apart i j _ _ d hin hjn hoi hoj hij hdi).1 hdj
  ·simp only[befN,Bool.and_eq_true,decide_eq_true_eq]at h
   exact S.lt i k h.1 h.2
  ·rcases(storesOk_spec hstores hi hon).2.2 j d' e' hj hon' hij with h|h
   ·exact .inl (lift hi h)
   ·exact .inr (lift hj h)
 have hfrz:∀j,j<n→FrzOK σ es (befN ops befs) j:=by
  intro j
  induction j using Nat.strongRecOn with
  | _ j ih=>
    intro hj d e id hej hid
    have hjs:j<ops.size:=by omega
    obtain⟨_,oj,hoj,_,h2⟩:=stepAt hej
    have Dj:=envSub_desc G (b:=befAt befs j) (fun k x hk hx=>by
     simp only[befN,Bool.and_eq_true,decide_eq_true_eq]at hx
     exact S.trans j k x hjs hk hx.2) j (by omega) fun k hk=>ih k hk (by omega)
    have hsome:((envSub (befAt befs j) (es.take j) 0 σ).objs id).isSome=true:=by
     unfold stepE at h2
     split at h2
     case isFalse=>cases h2
     obtain⟨b,_,h2⟩:=bind_some' h2
     cases b with
     | false=>
       simp only[Option.some.injEq]at h2
       subst h2
       cases hid
     | true=>
       simp only at h2
       unfold doneE at h2
       split at h2
       ·unfold storeE at h2
        obtain⟨k,_,h1⟩:=bind_some' h2
        split at h1
        case isFalse=>cases h1
        obtain⟨⟨r,o,frz⟩,_,h1⟩:=bind_some' h1
        simp only at h1
        split at h1
        case isFalse=>cases h1
        cases h1
        cases hid
       ·split at h2
        ·rename_i e1 hin
         cases h2
         obtain⟨b,cs,cs',v,frz,rfl,_,_,hfz⟩:=inplE_form hin
         have:=List.all_eq_true.1 hfz id hid
         simp only[Bool.and_eq_true]at this
         exact this.1
        unfold quietE at h2
        obtain⟨e2,_,h3⟩:=bind_some' h2
        split at h3
        case isFalse=>cases h3
        rename_i hall
        cases h3
        exact List.all_eq_true.1 hall id hid
    have hnst:NoSt es (fun k=>befAt befs j k&&decide (k<j)) id:=fun k d' e' hk _ hon=>G.unfz k j d' d e' e id hk hej hon hid
    by_cases hex:∃(k:Nat)(d:Option Nat)(e':REff),es[k]? = some (d,e')∧(befAt befs j k&&decide (k<j))=true∧id∈e'.e.news.map (·.1)
    ·obtain⟨k,d2,e2,hk,hb,hid2⟩:=hex
     simp only[Bool.and_eq_true]at hb
     exact .inr ⟨k,d2,e2,by simp[befN,hjs,hb.1],hk,hid2⟩
    ·rw[Dj.obj0 id (fun k d e' hk hb hid=>hex ⟨k,d,e',hk,hb,hid⟩) hnst]at hsome
     refine .inl fun hnone=>?_
     rw[hnone]at hsome
     cases hsome
 have T:StOK σ es (befN ops befs):=by
  intro k d e id o off n' hk hs
  have hks:k<ops.size:=by have:=(stepAt hk).1;omega
  have Dk:=envSub_desc G (b:=befAt befs k) (fun m x hk hx=>by
   simp only[befN,Bool.and_eq_true,decide_eq_true_eq]at hx
   exact S.trans k m x hks hk hx.2) k (by have:=(stepAt hk).1;omega) fun m hm=>hfrz m (by have:=(stepAt hk).1;omega)
  rcases storeAt hk hs with⟨t,x,y,h1⟩|⟨oo,h1⟩
  rotate_left
  ·obtain⟨b,cs,cs',v,frz,rfl,hb,hl,_⟩:=inplE_form h1
   simp only[Option.some.injEq,Prod.mk.injEq]at hs
   obtain⟨rfl,rfl,rfl,rfl⟩:=hs
   refine⟨_,_,desc_congr Dk fun m hm=>?_,hb,cs',false,rfl,hl,fun i hi=>?_⟩
   ·simp only[befN]
    rw[Bool.eq_iff_iff]
    simp only[Bool.and_eq_true,decide_eq_true_eq]
    exact⟨fun⟨_,hb⟩=>⟨hb,S.lt k m hks hb⟩,fun⟨hb,_⟩=>⟨hks,hb⟩⟩
   ·have:=hi (0,cs.length) (by simp)
    simp only at this
    rw[List.getElem?_eq_none (by omega),List.getElem?_eq_none (by omega)]
  unfold storeE at h1
  obtain⟨kk,_,h1⟩:=bind_some' h1
  split at h1
  case isFalse=>cases h1
  rename_i hlen2
  obtain⟨⟨r,o2,frz⟩,h2,h1⟩:=bind_some' h1
  simp only at h1
  split at h1
  case isFalse=>cases h1
  cases h1
  simp only[Option.some.injEq,Prod.mk.injEq]at hs
  obtain⟨rfl,rfl,rfl,rfl⟩:=hs
  obtain⟨ob,h3,h4⟩:=storeA_agree h2 hlen2
  refine⟨_,ob,desc_congr Dk fun m hm=>?_,h3,h4⟩
  simp only[befN]
  rw[Bool.eq_iff_iff]
  simp only[Bool.and_eq_true,decide_eq_true_eq]
  exact⟨fun⟨_,hb⟩=>⟨hb,S.lt k m hks hb⟩,fun⟨hb,_⟩=>⟨hks,hb⟩⟩
 have hmay:∀j o,j<n→(inOrd ops ord)[j]? = some o→mayA P (envSub (befAt befs j) (es.take j) 0 σ) (clash befs es j) o.op=true:=by
  intro j o hj ho
  unfold clashOk at hclash
  rw[Bool.or_eq_true]at hclash
  rcases hclash with h|h
  ·have:clash befs es j=fun _=>[]:=by
    funext id
    unfold clash
    apply List.filterMap_eq_nil_iff.2
    rintro⟨⟨d,e⟩,k⟩ hk
    have hk:=List.mem_zipIdx_iff_getElem?.1 hk
    have:=List.all_eq_true.1 h (d,e) (List.mem_of_getElem? hk)
    cases hst:e.st with
    | none=>simp[hst]
    | some q=>simp[hst]at this
   rw[this]
   exact mayA_nil _
  ·have hidx:(o,j)∈((inOrd ops ord).take n).zipIdx:=List.mem_zipIdx_iff_getElem?.2 (by rw[List.getElem?_take,if_pos hj];exact ho)
   exact List.all_eq_true.1 h (o,j) hidx
 refine wp_region_any hm ?_
 have hlst0:lst ops ord (Array.replicate ops.size false)=fun _=>false:=by
  funext i
  simp only[lst,Array.getD_eq_getD_getElem?,Array.getElem?_replicate]
  split<;>rfl
 refine head_any S hC G T hlen hstep hmay hfrz hd hQ _ _ (by simp) hst.drawn (by rw[hlst0];exact desc_none) (fun k hk=>by rw[hlst0]at hk;cases hk) (fun j _=>by rw[hlst0]) ?_
 have hc:∀m,cntU ops ord (Array.replicate ops.size false) m≤m:=by
  intro m
  induction m with
  | zero=>simp[cntU]
  | succ m ih=>
    simp only[cntU]
    split<;>omega
 have:=hc n
 omega
end Go.Abs
