import Derived.Test.YthcgpcmeffkijaaGreatDoorSAbsZA
set_option linter.unusedVariables false
set_option linter.unusedSimpArgs false
namespace Go.Abs
open Go.RowKit
theorem envSub_snoc(b:Nat→Bool)(d:Option Nat)(e:REff):∀(l:REffs)(k:Nat)(σ:Env),envSub b (l++[(d,e)]) k σ=if b (k+l.length)then(envSub b l k σ).reff d e else envSub b l k σ
 | [],k,σ=>by simp only[List.nil_append,envSub,List.length_nil,Nat.add_zero]
 | (d',e')::l,k,σ=>by
   simp only[List.cons_append,envSub,List.length_cons]
   rw[envSub_snoc b d e l]
   rw[show k+1+l.length=k+(l.length+1) by omega]
theorem envSub_desc{σ0:Env}{es:REffs}{bef:Nat→Nat→Bool}(G:Good σ0 es bef){b:Nat→Bool}(hb:∀k x,b k=true→bef k x=true→b x=true) :
  ∀m,m≤es.length→(∀ k,k<m→FrzOK σ0 es bef k)→Desc σ0 es (fun i=>b i&&decide (i<m)) (envSub b (es.take m) 0 σ0)
 | 0,_,_=>by
   have:(fun i=>b i&&decide (i<0))=fun _=>false:=by funext i;simp
   rw[this]
   exact desc_none
 | m+1,hm,hF=>by
   have ih:=envSub_desc G hb m (by omega) fun k hk=>hF k (by omega)
   have hmlt:m<es.length:=by omega
   have hget:es[m]? = some es[m]:=List.getElem?_eq_getElem hmlt
   have htake:es.take (m+1)=es.take m++[(es[m].1,es[m].2)]:=by
    rw[List.take_add_one,hget]
    rfl
   rw[htake,envSub_snoc]
   have hl:0+(es.take m).length=m:=by rw[List.length_take];omega
   rw[hl]
   by_cases hbm:b m=true
   ·rw[if_pos hbm]
    have:=desc_step (bef:=bef) G ih (i:=m) (d:=es[m].1) (e:=es[m].2) hget (by simp) (fun k hk x hx=>by
     simp only[Bool.and_eq_true,decide_eq_true_eq]at hk ⊢
     have:=G.lt k x hx
     exact⟨hb k x hk.1 hx,by omega⟩) (fun x hx=>by
     simp only[Bool.and_eq_true,decide_eq_true_eq]
     exact⟨hb m x hbm hx,G.lt m x hx⟩) (fun k hk=>by
     simp only[Bool.or_eq_true,Bool.and_eq_true,decide_eq_true_eq,beq_iff_eq]at hk
     exact hF k (by omega))
    have e1:(fun k=>(b k&&decide (k<m))||k == m)=fun i=>b i&&decide (i<m+1):=by
     funext k
     rw[Bool.eq_iff_iff]
     simp only[Bool.or_eq_true,Bool.and_eq_true,decide_eq_true_eq,beq_iff_eq]
     constructor
     ·rintro(⟨h1,h2⟩|rfl)
      ·exact⟨h1,by omega⟩
      ·exact⟨hbm,by omega⟩
     ·rintro⟨h1,h2⟩
      by_cases hk:k=m
      ·exact .inr hk
      ·exact .inl ⟨h1,by omega⟩
    rw[← e1]
    exact this
   ·rw[if_neg hbm]
    have e1:(fun k=>b k&&decide (k<m))=fun i=>b i&&decide (i<m+1):=by
     funext k
     rw[Bool.eq_iff_iff]
     simp only[Bool.and_eq_true,decide_eq_true_eq]
     constructor
     ·rintro⟨h1,h2⟩;exact⟨h1,by omega⟩
     ·rintro⟨h1,h2⟩
      refine⟨h1,?_⟩
      by_cases hk:k=m
      ·subst hk;exact absurd h1 hbm
      ·omega
    rw[← e1]
    exact ih
theorem agree_refl(R:List (Nat×Nat))(o:AObj):Agree R o o:=by
 cases o with
 | row e k xs g fz=>exact⟨xs,fz,rfl,rfl,fun _=>rfl⟩
 | box cs fz=>exact⟨cs,fz,rfl,rfl,fun _ _=>rfl⟩
 | mp ks vs fz=>exact⟨ks,vs,fz,rfl,rfl,fun _=>⟨rfl,rfl⟩⟩
theorem agree_fz(R:List (Nat×Nat))(o:AObj)(a b:Bool):Agree R (orFz o a) (orFz o b):=by
 cases o with
 | row e k xs g fz=>exact⟨xs,_,rfl,rfl,fun _=>rfl⟩
 | box cs fz=>exact⟨cs,_,rfl,rfl,fun _ _=>rfl⟩
 | mp ks vs fz=>exact⟨ks,vs,_,rfl,rfl,fun _=>⟨rfl,rfl⟩⟩
theorem agree_trans{R R':List (Nat×Nat)}{a b c:AObj}(h:Agree R a b)(h':Agree R' b c)(hs:∀q∈R',q∈R):Agree R a c:=by
 have hnil:R=[]→R'=[]:=fun hr=>by
  cases R' with
  | nil=>rfl
  | cons q l=>have:=hs q (by simp);rw[hr]at this;cases this
 cases a with
 | row e k xs g fz=>
   obtain⟨xs1,f1,rfl,h1,h2⟩:=h
   obtain⟨xs2,f2,rfl,h3,h4⟩:=h'
   exact⟨xs2,f2,rfl,h3.trans h1,fun hr=>(h4 (hnil hr)).trans (h2 hr)⟩
 | box cs fz=>
   obtain⟨cs1,f1,rfl,h1,h2⟩:=h
   obtain⟨cs2,f2,rfl,h3,h4⟩:=h'
   exact⟨cs2,f2,rfl,h3.trans h1,fun i hi=>(h4 i fun q hq=>hi q (hs q hq)).trans (h2 i hi)⟩
 | mp ks vs fz=>
   obtain⟨k1,v1,f1,rfl,l1,h1⟩:=h
   obtain⟨k2,v2,f2,rfl,l2,h3⟩:=h'
   refine⟨k2,v2,f2,rfl,l2.trans l1,fun hr=>?_⟩
   obtain⟨a1,a2⟩:=h1 hr
   obtain⟨a3,a4⟩:=h3 (hnil hr)
   exact⟨a3.trans a1,a4.trans a2⟩
section
variable {σ0:Env} {es:REffs} {bef:Nat→Nat→Bool}
theorem unfz_L(G:Good σ0 es bef){i:Nat}{d:Option Nat}{e:REff}{id:Nat}(hi:es[i]? = some (d,e))(hon:e.on id)(L:Nat→Bool):fzL es L id=false:=by
 cases hf:fzL es L id with
 | false=>rfl
 | true=>
   obtain⟨k,d',e',h1,_,h3⟩:=fzL_iff.1 hf
   exact absurd h3 (G.unfz i k d d' e e' id hi h1 hon)
def StOK(σ0:Env)(es:REffs)(bef:Nat→Nat→Bool):Prop:=∀(k:Nat)(d:Option Nat)(e:REff)(id:Nat)(o:AObj)(off n:Nat),es[k]? = some (d,e)→e.st=some (id,o,off,n)→∃τ ob,Desc σ0 es (fun m=>bef k m) τ∧τ.objs id=some ob∧Agree [(off,n)] ob o
theorem base_agree(G:Good σ0 es bef){L1 L2:Nat→Bool}{τ1 τ2:Env}(D1:Desc σ0 es L1 τ1)(D2:Desc σ0 es L2 τ2){id:Nat}(n1:NoSt es L1 id)(n2:NoSt es L2 id)(hnew:∀(i:Nat)(d:Option Nat)(e:REff),es[i]? = some (d,e)→L1 i=true→id∈e.e.news.map (·.1)→L2 i=true){o1:AObj}(h1:τ1.objs id=some o1)(R:List (Nat×Nat)) :
  ∃o2,τ2.objs id=some o2∧Agree R o1 o2:=by
 by_cases hex:∃(i:Nat)(d:Option Nat)(e:REff),es[i]? = some (d,e)∧L1 i=true∧id∈e.e.news.map (·.1)
 ·obtain⟨i,d,e,hi,hL,hid⟩:=hex
  have hL2:=hnew i d e hi hL hid
  obtain⟨p,hp,rfl⟩:=List.mem_map.1 hid
  rw[D1.obj1 i d e p hi hL hp n1]at h1
  cases h1
  exact⟨_,D2.obj1 i d e p hi hL2 hp n2,agree_fz _ _ _ _⟩
 ·rw[D1.obj0 id (fun i d e hi hL hid=>hex ⟨i,d,e,hi,hL,hid⟩) n1]at h1
  obtain⟨ob,h2,h3⟩:=map_some h1
  subst h3
  have h4:∀(i:Nat)(d:Option Nat)(e:REff),es[i]? = some (d,e)→L2 i=true→id∉e.e.news.map (·.1):=fun i d e hi _ hid=>by
   obtain⟨p,hp,rfl⟩:=List.mem_map.1 hid
   rw[G.free i d e p hi hp]at h2
   cases h2
  exact⟨_,by rw[D2.obj0 id h4 n2,h2];rfl,agree_fz _ _ _ _⟩
theorem desc_alike(G:Good σ0 es bef)(S:StOK σ0 es bef){L1 L2:Nat→Bool}{τ1 τ2:Env}(D1:Desc σ0 es L1 τ1)(D2:Desc σ0 es L2 τ2)(hsub:∀k,L1 k=true→L2 k=true)(hc1:∀k,L1 k=true→∀m,bef k m=true→L1 m=true)(hc2:∀k,L2 k=true→∀m,bef k m=true→L2 m=true)
  (hct:∀k x m,bef k x=true→bef x m=true→bef k m=true) {U:Nat→List (Nat×Nat)} (hU:∀(k:Nat)(d:Option Nat)(e:REff) id o off n,es[k]? = some (d,e)→L2 k=true→L1 k=false→e.st=some (id,o,off,n)→(off,n)∈U id):Alike U τ1.objs τ2.objs:=by
 intro id ob1 h1
 rcases last_st es L2 id with hn|⟨k2,d2,e2,hk2,hL2,⟨o2,off2,n2,hs2⟩,hmax2⟩
 ·exact base_agree G D1 D2 (fun i d e hi hL=>hn i d e hi (hsub i hL)) hn (fun i d e hi hL _=>hsub i hL) h1 _
 ·refine⟨o2,D2.obj2 k2 d2 e2 id o2 off2 n2 hk2 hL2 hs2 hmax2,?_⟩
  have key:∀(k:Nat)(d:Option Nat)(e:REff)(o:AObj)(off n:Nat),es[k]? = some (d,e)→L2 k=true→e.st=some (id,o,off,n)→(L1 k=true→∀(m:Nat)(d':Option Nat)(e':REff),es[m]? = some (d',e')→L1 m=true→e'.on id→m≤k)→Agree (U id) ob1 o:=by
   intro k
   induction k using Nat.strongRecOn with
   | _ k ih=>
     intro d e o off n hk hLk hs hmax
     by_cases hL1:L1 k=true
     ·rw[D1.obj2 k d e id o off n hk hL1 hs (hmax hL1)]at h1
      cases h1
      exact agree_refl _ _
     ·have hL1:L1 k=false:=by simpa using hL1
      have hin:=hU k d e id o off n hk hLk hL1 hs
      have before:∀(m:Nat)(d':Option Nat)(e':REff),es[m]? = some (d',e')→L1 m=true→e'.on id→bef k m=true:=by
       intro m d' e' hm hLm hom
       have hne:m≠k:=fun e1=>by rw[e1,hL1]at hLm;cases hLm
       rcases G.row m k d' d e' e id hm hk hom ⟨o,off,n,hs⟩ hne with h4|h4
       ·have:=hc1 m hLm k h4
        rw[hL1]at this;cases this
       ·exact h4
      obtain⟨τ,ob,Dk,h5,h6⟩:=S k d e id o off n hk hs
      have hsub1:∀q∈[(off,n)],q∈U id:=fun q hq=>by
       rw[List.mem_singleton]at hq
       rw[hq];exact hin
      rcases last_st es (fun m=>bef k m) id with hnk|⟨k',d',e',hk',hbk',⟨o',off',n',hs'⟩,hmax'⟩
      ·have n1:NoSt es L1 id:=fun m d' e' hm hLm hom=>hnk m d' e' hm (before m d' e' hm hLm hom) hom
       obtain⟨ob',h7,h8⟩:=base_agree G D1 Dk n1 hnk (fun i d' e' hi hL hid=>G.stold k d e id hk ⟨o,off,n,hs⟩ i d' e' hi hid) h1 (U id)
       rw[h5]at h7
       cases h7
       exact agree_trans h8 h6 hsub1
      ·rw[Dk.obj2 k' d' e' id o' off' n' hk' hbk' hs' hmax']at h5
       have e5:o'=ob:=Option.some.inj h5
       rw[← e5]at h6
       refine agree_trans (ih k' (G.lt k k' hbk') d' e' o' off' n' hk' (hc2 k hLk k' hbk') hs' fun _ m d3 e3 hm hLm hom=>?_) h6 hsub1
       exact hmax' m d3 e3 hm (before m d3 e3 hm hLm hom) hom
  exact key k2 d2 e2 o2 off2 n2 hk2 hL2 hs2 fun _ m d3 e3 hm hLm hom=>hmax2 m d3 e3 hm (hsub m hLm) hom
theorem desc_same(G:Good σ0 es bef){L1 L2:Nat→Bool}{τ1 τ2:Env}(D1:Desc σ0 es L1 τ1)(D2:Desc σ0 es L2 τ2)(hsub:∀k,L1 k=true→L2 k=true){id:Nat}(hst:∀(m:Nat)(d':Option Nat)(e':REff),es[m]? = some (d',e')→L2 m=true→e'.on id→L1 m=true)
  (hfz:∀L,fzL es L id=false) {ob:AObj} (h1:τ1.objs id=some ob):τ2.objs id=τ1.objs id:=by
 rcases last_st es L2 id with hn|⟨k2,d2,e2,hk2,hL2,⟨o2,off2,n2,hs2⟩,hmax2⟩
 ·have n1:NoSt es L1 id:=fun i d e hi hL=>hn i d e hi (hsub i hL)
  by_cases hex:∃(i:Nat)(d:Option Nat)(e:REff),es[i]? = some (d,e)∧L1 i=true∧id∈e.e.news.map (·.1)
  ·obtain⟨i,d,e,hi,hL,hid⟩:=hex
   obtain⟨p,hp,rfl⟩:=List.mem_map.1 hid
   rw[D1.obj1 i d e p hi hL hp n1,D2.obj1 i d e p hi (hsub i hL) hp hn,hfz,hfz]
  ·rw[D1.obj0 id (fun i d e hi hL hid=>hex ⟨i,d,e,hi,hL,hid⟩) n1,hfz]at h1
   obtain⟨ob',h2,_⟩:=map_some h1
   have h4:∀(i:Nat)(d:Option Nat)(e:REff),es[i]? = some (d,e)→L2 i=true→id∉e.e.news.map (·.1):=fun i d e hi _ hid=>by
    obtain⟨p,hp,rfl⟩:=List.mem_map.1 hid
    rw[G.free i d e p hi hp]at h2
    cases h2
   rw[D1.obj0 id (fun i d e hi hL hid=>hex ⟨i,d,e,hi,hL,hid⟩) n1,D2.obj0 id h4 hn,hfz,hfz]
 ·have hL1:=hst k2 d2 e2 hk2 hL2 ⟨o2,off2,n2,hs2⟩
  rw[D1.obj2 k2 d2 e2 id o2 off2 n2 hk2 hL1 hs2 fun m d3 e3 hm hLm hom=>hmax2 m d3 e3 hm (hsub m hLm) hom,D2.obj2 k2 d2 e2 id o2 off2 n2 hk2 hL2 hs2 hmax2]
end
theorem effsA_spec{P:Program}{C:Callee}{ops:Array Oper}{σ:Env}{befs:List (List Nat)}:∀(l:List Oper){es0 es:REffs},effsA P C ops σ befs l es0=some es→
  es.length=es0.length+l.length∧es.take es0.length=es0∧∀j o,l[j]? = some o→∃e,es[es0.length+j]? = some (o.dst,e)∧stepE P C ops (envSub (befAt befs (es0.length+j)) (es.take (es0.length+j)) 0 σ) o=some e
 | [],es0,es,h=>by
   simp only[effsA,Option.some.injEq]at h
   subst h
   exact⟨by simp,by simp,fun j o h=>by simp at h⟩
 | o::l,es0,es,h=>by
   simp only[effsA]at h
   obtain⟨e,h1,h2⟩:=bind_some' h
   obtain⟨h3,h4,h5⟩:=effsA_spec l h2
   have hlen:(es0++[(o.dst,e)]).length=es0.length+1:=by simp
   rw[hlen]at h3 h4
   have ht:es.take es0.length=es0:=by
    have:=congrArg (List.take es0.length) h4
    rw[List.take_take,List.take_left]at this
    rwa[Nat.min_eq_left (by omega)]at this
   refine⟨by rw[h3,List.length_cons];omega,ht,fun j o' hj=>?_⟩
   cases j with
   | zero=>
     simp only[List.getElem?_cons_zero,Option.some.injEq]at hj
     subst hj
     refine⟨e,?_,by rw[Nat.add_zero,ht];exact h1⟩
     have:(es.take (es0.length+1))[es0.length]? = some (o.dst,e):=by rw[h4];simp
     rw[List.getElem?_take]at this
     simpa using this
   | succ j=>
     simp only[List.getElem?_cons_succ]at hj
     obtain⟨e',h6,h7⟩:=h5 j o' hj
     rw[hlen]at h6 h7
     rw[show es0.length+(j+1)=es0.length+1+j by omega]
     exact⟨e',h6,h7⟩
def ixOf(ops:Array Oper)(ord:List Nat)(p:Nat):Nat:=ord.getD p ops.size
structure Stat(ops:Array Oper)(ord:List Nat)(n:Nat)(befs:List (List Nat)):Prop where
 edges:∀(j:Nat) o e,(inOrd ops ord)[j]? = some o→e∈o.after→Region.binds .any e=true→ord.idxOf e.on<j
 lt:∀j i,j<ops.size→befAt befs j i=true→i<j
 by_:∀(j:Nat) o i,(inOrd ops ord)[j]? = some o→befAt befs j i=true→∃e∈o.after,Region.binds .any e=true∧(ord.idxOf e.on=i∨befAt befs (ord.idxOf e.on) i=true)
 trans:∀j i k,j<ops.size→befAt befs j i=true→befAt befs i k=true→befAt befs j k=true
 apart:∀(i j:Nat) q o d,i<n→j<n→(inOrd ops ord)[i]? = some q→(inOrd ops ord)[j]? = some o→i≠j→q.dst=some d→o.dst≠some d∧(d∈o.looksAt ops→befAt befs j i=true∨befAt befs i j=true)
 tail:∀j i,n≤j→j<ops.size→i<j→befAt befs j i=true
 le:n≤ops.size
 len:(inOrd ops ord).length=ops.size
 get:∀p,p<ops.size→(inOrd ops ord)[p]? = ops[ixOf ops ord p]? ∧ ixOf ops ord p<ops.size∧ord.idxOf (ixOf ops ord p)=p
 surj:∀i,i<ops.size→ord.idxOf i<ops.size∧ixOf ops ord (ord.idxOf i)=i
 beyond:∀i,ops.size≤i→ixOf ops ord (ord.idxOf i)=ops.size
theorem statOk_spec{ops:Array Oper}{ord:List Nat}{n:Nat}{befs:List (List Nat)}(h:statOk ops ord befs n=true):Stat ops ord n befs:=by
 unfold statOk at h
 simp only[Bool.and_eq_true,decide_eq_true_eq]at h
 obtain⟨⟨⟨⟨⟨h0,h1⟩,h2⟩,h3⟩,h4⟩,h5⟩:=h
 unfold ordOk at h0
 simp only[Bool.and_eq_true,beq_iff_eq,List.all_eq_true,decide_eq_true_eq]at h0
 obtain⟨⟨⟨hnd0,hlt⟩,hsur⟩,hol⟩:=h0
 have hnd:=noDup_spec hnd0
 have hlen:(inOrd ops ord).length=ops.size:=by rw[inOrd,List.length_map];exact hol
 have hget:∀p,p<ops.size→(inOrd ops ord)[p]? = ops[ixOf ops ord p]? ∧ ixOf ops ord p<ops.size∧ord.idxOf (ixOf ops ord p)=p:=by
  intro p hp
  have hp':p<ord.length:=by omega
  have e1:ixOf ops ord p=ord[p]:=by simp[ixOf,hp']
  have e2:ord[p]<ops.size:=hlt _ (List.getElem_mem hp')
  refine⟨?_,by rw[e1];exact e2,by rw[e1];exact hnd.idxOf_getElem p hp'⟩
  rw[e1,inOrd,List.getElem?_map,List.getElem?_eq_getElem hp',Option.map_some,Array.getElem?_eq_getElem e2]
  simp[e2]
 have hsurj:∀i,i<ops.size→ord.idxOf i<ops.size∧ixOf ops ord (ord.idxOf i)=i:=by
  intro i hi
  have hm:i∈ord:=by simpa using hsur i (List.mem_range.2 hi)
  have h6:=List.idxOf_lt_length_iff.2 hm
  refine⟨by omega,?_⟩
  simp[ixOf,h6]
 have hbey:∀i,ops.size≤i→ixOf ops ord (ord.idxOf i)=ops.size:=by
  intro i hi
  have hm:i∉ord:=fun h=>by have:=hlt i h;omega
  have h6:ord.idxOf i=ord.length:=List.idxOf_eq_length hm
  simp[ixOf,h6]
 have idx:∀{L:List Oper}{j:Nat}{o:Oper},L[j]? = some o→(o,j)∈L.zipIdx:=fun h=>List.mem_zipIdx_iff_getElem?.2 h
 have some_:∀{j:Nat},j<ops.size→∃o,(inOrd ops ord)[j]? = some o:=fun hj=>⟨_,List.getElem?_eq_getElem (by omega)⟩
 have b2:∀(j:Nat) o i,(inOrd ops ord)[j]? = some o→befAt befs j i=true→i<j∧(∃ e∈o.after,Region.binds .any e=true∧(ord.idxOf e.on=i∨befAt befs (ord.idxOf e.on) i=true))∧∀k,befAt befs i k=true→befAt befs j k=true:=by
  intro j o i ho hb
  have h6:=List.all_eq_true.1 (List.all_eq_true.1 h2 (o,j) (idx ho)) i (by simpa[befAt]using hb)
  simp only[Bool.and_eq_true,decide_eq_true_eq]at h6
  obtain⟨⟨h7,h8⟩,h9⟩:=h6
  refine⟨h7,?_,fun k hk=>List.all_eq_true.1 h9 k (by simpa[befAt]using hk)⟩
  obtain⟨e,he,h10⟩:=List.any_eq_true.1 h8
  simp only[Bool.and_eq_true,Bool.or_eq_true,beq_iff_eq]at h10
  exact⟨e,by simpa using he,h10.1,h10.2⟩
 refine⟨fun j o e ho he hb=>?_,fun j i hj hb=>?_,fun j o i ho hb=>(b2 j o i ho hb).2.1,fun j i k hj hb hk=>?_,?_,?_,by simpa using h5,hlen,hget,hsurj,hbey⟩
 ·have h6:=List.all_eq_true.1 (List.all_eq_true.1 h1 (o,j) (idx ho)) e (by simpa using he)
  simp only[hb,Bool.not_true,Bool.false_or,decide_eq_true_eq]at h6
  exact h6
 ·obtain⟨o,ho⟩:=some_ hj
  exact(b2 j o i ho hb).1
 ·obtain⟨o,ho⟩:=some_ hj
  exact(b2 j o i ho hb).2.2 k hk
 ·intro i j q o d hi hj hq ho hij hd
  have hq':((inOrd ops ord).take n)[i]? = some q:=by rw[List.getElem?_take,if_pos hi];exact hq
  have ho':((inOrd ops ord).take n)[j]? = some o:=by rw[List.getElem?_take,if_pos hj];exact ho
  have h6:=List.all_eq_true.1 (List.all_eq_true.1 h3 (o,j) (idx ho')) (q,i) (idx hq')
  simp only[hd,Bool.or_eq_true,Bool.and_eq_true,beq_iff_eq,bne_iff_ne,ne_eq,Bool.not_eq_true']at h6
  rcases h6 with h6|⟨h6,h7⟩
  ·exact absurd h6 hij
  ·refine⟨h6,fun hl=>?_⟩
   rcases h7 with(h7|h7)|h7
   ·have:(o.looksAt ops).contains d=true:=by simpa using hl
    rw[this]at h7
    cases h7
   ·exact .inl h7
   ·exact .inr h7
 ·intro j i hn hj hi
  have h6:=List.all_eq_true.1 h4 j (List.mem_range.2 (by simpa using hj))
  simp only[Bool.or_eq_true,decide_eq_true_eq]at h6
  rcases h6 with h6|h6
  ·omega
  ·exact List.all_eq_true.1 h6 i (List.mem_range.2 hi)
theorem newsOk_free{σ:Env}{es:REffs}(h:newsOk σ es=true):(∀(i:Nat)(d:Option Nat)(e:REff) p,es[i]? = some (d,e)→p∈e.e.news→σ.objs p.1=none)∧(∀(i:Nat)(d:Option Nat)(e:REff),es[i]? = some (d,e)→(e.e.news.map (·.1)).Nodup)∧
  (∀(i j:Nat)(d d':Option Nat)(e e':REff)(id:Nat),es[i]? = some (d,e)→es[j]? = some (d',e')→i≠j→id∈e.e.news.map (·.1)→id∉e'.e.news.map (·.1)):=by
 unfold newsOk at h
 simp only[Bool.and_eq_true]at h
 obtain⟨h1,h2⟩:=h
 have hn:=noDup_spec h1
 refine⟨fun i d e p hi hp=>?_,fun i d e hi=>?_,fun i j d d' e e' id hi hj hij hid=>?_⟩
 ·have:=List.all_eq_true.1 h2 p.1 (List.mem_flatMap.2 ⟨(d,e),List.mem_of_getElem? hi,List.mem_map.2 ⟨p,hp,rfl⟩⟩)
  simpa using this
 ·have key:∀{l:REffs}{i:Nat},(l.flatMap fun p=>p.2.e.news.map (·.1)).Nodup→l[i]? = some (d,e)→(e.e.news.map (·.1)).Nodup:=by
   intro l
   induction l with
   | nil=>intro i _ h;simp at h
   | cons q l ih=>
     intro i hn hi
     rw[List.flatMap_cons]at hn
     obtain⟨h3,h4,_⟩:=List.nodup_append.1 hn
     cases i with
     | zero=>
       simp only[List.getElem?_cons_zero,Option.some.injEq]at hi
       subst hi
       exact h3
     | succ i=>exact ih h4 (by simpa using hi)
  exact key hn hi
 ·exact flat_apart hn i j (d,e) (d',e') hi hj hij id hid
theorem storesOk_spec{befs:List (List Nat)}{es:REffs}(h:storesOk befs es=true){i:Nat}{d:Option Nat}{e:REff}{id:Nat}(hi:es[i]? = some (d,e))(hon:e.on id) :
  (∀(j:Nat)(d':Option Nat)(e':REff),es[j]? = some (d',e')→id∉e'.e.frz)∧(∀(j:Nat)(d':Option Nat)(e':REff),es[j]? = some (d',e')→id∈e'.e.news.map (·.1)→befAt befs i j=true)∧
  (∀(j:Nat)(d':Option Nat)(e':REff),es[j]? = some (d',e')→e'.on id→i≠j→befAt befs i j=true∨befAt befs j i=true):=by
 obtain⟨o,off,n,hs⟩:=hon
 have h1:=List.all_eq_true.1 h ((d,e),i) (List.mem_zipIdx_iff_getElem?.2 hi)
 simp only[hs,Bool.and_eq_true]at h1
 obtain⟨⟨h2,h3⟩,h4⟩:=h1
 refine⟨fun j d' e' hj hf=>?_,fun j d' e' hj hf=>?_,fun j d' e' hj ⟨o',off',n',hs'⟩ hij=>?_⟩
 ·have:=List.all_eq_true.1 h2 (d',e') (List.mem_of_getElem? hj)
  simp[hf]at this
 ·have:=List.all_eq_true.1 h3 ((d',e'),j) (List.mem_zipIdx_iff_getElem?.2 hj)
  have hc:(e'.e.news.map (·.1)).contains id=true:=by simpa using hf
  rw[hc]at this
  simpa using this
 ·have:=List.all_eq_true.1 h4 ((d',e'),j) (List.mem_zipIdx_iff_getElem?.2 hj)
  simp only[hs',bne_self_eq_false,Bool.false_or,Bool.or_eq_true,beq_iff_eq]at this
  rcases this with(this|this)|this
  ·exact absurd this.symm hij
  ·exact .inl this
  ·exact .inr this
theorem clash_mem{befs:List (List Nat)}{es:REffs}{j k id off n:Nat}{d:Option Nat}{e:REff}{o:AObj}(hk:es[k]? = some (d,e))(hs:e.st=some (id,o,off,n))(hne:k≠j)(h1:befAt befs j k=false)(h2:befAt befs k j=false):(off,n)∈clash befs es j id:=by
 unfold clash
 refine List.mem_filterMap.2 ⟨((d,e),k),List.mem_zipIdx_iff_getElem?.2 hk,?_⟩
 simp[hs,hne,h1,h2]
theorem mayA_nil{P:Program}{σ:Env}(op:Op):mayA P σ (fun _=>[]) op=true:=by
 have hn:∀ids,noClash (fun _=>[]) ids=true:=fun ids=>List.all_eq_true.2 fun _ _=>rfl
 cases op with
 | load t a=>
   simp only[mayA]
   split
   ·split<;>simp
   ·rfl
   ·rfl
 | call c=>
   simp only[mayA]
   split
   ·exact hn _
   ·split
    ·exact hn _
    ·rfl
   ·rfl
 | buildSlice t n ps=>exact hn _
 | store t a x=>exact hn _
 | lookup t m x ok=>simp only[mayA];split<;>rfl
 | _=>rfl
end Go.Abs
