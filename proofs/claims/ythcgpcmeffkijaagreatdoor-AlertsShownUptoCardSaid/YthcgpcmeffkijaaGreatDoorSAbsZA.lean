import Derived.Test.YthcgpcmeffkijaaGreatDoorSAbsY
set_option linter.unusedVariables false
set_option linter.unusedSimpArgs false
namespace Go.Abs
open Go.RowKit
theorem orFz_orFz(o:AObj)(a b:Bool):orFz (orFz o a) b=orFz o (a||b):=by cases o<;>simp[orFz,Bool.or_assoc]
theorem freeze_eq:∀(l:List Nat)(objs:Nat→Option AObj)(id:Nat),freeze objs l id=(objs id).map (orFz · (l.contains id))
 | [],objs,id=>by
   simp only[freeze,List.contains_nil]
   cases objs id<;>simp[orFz_false]
 | r::rs,objs,id=>by
   have key:∀objs':Nat→Option AObj,(objs' id=(objs id).map (orFz · (id == r)))→freeze objs' rs id=(objs id).map (orFz · ((r::rs).contains id)):=by
    intro objs' h
    rw[freeze_eq rs objs' id,h,List.contains_cons]
    cases objs id with
    | none=>rfl
    | some o=>simp only[Option.map_some,orFz_orFz]
   have same:id≠r→objs id=(objs id).map (orFz · (id == r)):=fun hne=>by
    have e:(id == r)=false:=by simpa using hne
    rw[e]
    cases objs id<;>simp[orFz_false]
   simp only[freeze]
   cases hr:objs r with
   | none=>
     refine key objs ?_
     by_cases e:id=r
     ·subst e;rw[hr];rfl
     ·exact same e
   | some q=>
     cases q with
     | row e k xs g f=>
       refine key _ ?_
       by_cases e:id=r
       ·subst e;rw[upd_same,hr];simp[orFz]
       ·rw[upd_ne _ _ e]
        exact same e
     | box cs f=>
       refine key _ ?_
       by_cases e:id=r
       ·subst e;rw[upd_same,hr];simp[orFz]
       ·rw[upd_ne _ _ e]
        exact same e
     | mp c1 c2 f=>
       refine key _ ?_
       by_cases e:id=r
       ·subst e;rw[upd_same,hr];simp[orFz]
       ·rw[upd_ne _ _ e]
        exact same e
def fzL(es:REffs)(L:Nat→Bool)(id:Nat):Bool:=es.zipIdx.any fun p=>L p.2&&p.1.2.e.frz.contains id
theorem fzL_iff{es:REffs}{L:Nat→Bool}{id:Nat}:fzL es L id=true↔∃(i:Nat)(d:Option Nat)(e:REff),es[i]? = some (d,e)∧L i=true∧id∈e.e.frz:=by
 unfold fzL
 rw[List.any_eq_true]
 constructor
 ·rintro⟨⟨⟨d,e⟩,i⟩,hm,h⟩
  simp only[Bool.and_eq_true,List.contains_iff_mem]at h
  have:=List.mem_zipIdx_iff_getElem?.1 hm
  exact⟨i,d,e,this,h.1,h.2⟩
 ·rintro⟨i,d,e,h1,h2,h3⟩
  exact⟨((d,e),i),List.mem_zipIdx_iff_getElem?.2 h1,by simp[h2,h3]⟩
def REff.on(r:REff)(id:Nat):Prop:=∃o off n,r.st=some (id,o,off,n)
def NoSt(es:REffs)(L:Nat→Bool)(id:Nat):Prop:=∀(i:Nat)(d:Option Nat)(e:REff),es[i]? = some (d,e)→L i=true→¬e.on id
structure Desc(σ0:Env)(es:REffs)(L:Nat→Bool)(τ:Env):Prop where
 n:τ.n=σ0.n
 slot1:∀(i d:Nat)(e:REff),es[i]? = some (some d,e)→L i=true→τ.slots d=e.e.val
 slot0:∀t,(∀(i:Nat)(e:REff),es[i]? = some (some t,e)→L i=false)→τ.slots t=σ0.slots t
 obj2:∀(i:Nat)(d:Option Nat)(e:REff) id o off n,es[i]? = some (d,e)→L i=true→e.st=some (id,o,off,n)→(∀(k:Nat)(d':Option Nat)(e':REff),es[k]? = some (d',e')→L k=true→e'.on id→k≤i)→τ.objs id=some o
 obj1:∀(i:Nat)(d:Option Nat)(e:REff) p,es[i]? = some (d,e)→L i=true→p∈e.e.news→NoSt es L p.1→τ.objs p.1=some (orFz p.2 (fzL es L p.1))
 obj0:∀id,(∀(i:Nat)(d:Option Nat)(e:REff),es[i]? = some (d,e)→L i=true→id∉e.e.news.map (·.1))→NoSt es L id→τ.objs id=(σ0.objs id).map (orFz · (fzL es L id))
structure Good(σ0:Env)(es:REffs)(bef:Nat→Nat→Bool):Prop where
 dst:∀(i j d:Nat)(e e':REff),es[i]? = some (some d,e)→es[j]? = some (some d,e')→i=j
 free:∀(i:Nat)(d:Option Nat)(e:REff) p,es[i]? = some (d,e)→p∈e.e.news→σ0.objs p.1=none
 nodup:∀(i:Nat)(d:Option Nat)(e:REff),es[i]? = some (d,e)→(e.e.news.map (·.1)).Nodup
 apart:∀(i j:Nat)(d d':Option Nat)(e e':REff)(id:Nat),es[i]? = some (d,e)→es[j]? = some (d',e')→i≠j→id∈e.e.news.map (·.1)→id∉e'.e.news.map (·.1)
 lt:∀i k,bef i k=true→k<i
 plain:∀(i:Nat)(d:Option Nat)(e:REff) q,es[i]? = some (d,e)→e.st=some q→e.e.news=[]
 unfz:∀(i j:Nat)(d d':Option Nat)(e e':REff) id,es[i]? = some (d,e)→es[j]? = some (d',e')→e.on id→id∉e'.e.frz
 stold:∀(i:Nat)(d:Option Nat)(e:REff) id,es[i]? = some (d,e)→e.on id→∀(j:Nat)(d':Option Nat)(e':REff),es[j]? = some (d',e')→id∈e'.e.news.map (·.1)→bef i j=true
 row:∀(i j:Nat)(d d':Option Nat)(e e':REff) id,es[i]? = some (d,e)→es[j]? = some (d',e')→e.on id→e'.on id→i≠j→bef i j=true∨bef j i=true
def FrzOK(σ0:Env)(es:REffs)(bef:Nat→Nat→Bool)(i:Nat):Prop:=
 ∀(d:Option Nat)(e:REff)(id:Nat),es[i]? = some (d,e)→id∈e.e.frz→σ0.objs id≠none∨∃(k:Nat)(d':Option Nat)(e':REff),bef i k=true∧es[k]? = some (d',e')∧id∈e'.e.news.map (·.1)
section
variable {σ0:Env} {es:REffs} {bef:Nat→Nat→Bool}
theorem desc_none:Desc σ0 es (fun _=>false) σ0:=by
 have h0:∀id,fzL es (fun _=>false) id=false:=fun id=>by
  cases h:fzL es (fun _=>false) id with
  | false=>rfl
  | true=>
    obtain⟨i,d,e,_,h2,_⟩:=fzL_iff.1 h
    cases h2
 refine⟨rfl,fun i d e _ h=>(by cases h),fun _ _=>rfl,fun i d e id o off n _ h=>(by cases h),fun i d e p _ h=>(by cases h),fun id _ _=>?_⟩
 rw[h0]
 cases σ0.objs id<;>simp[orFz_false]
theorem desc_congr{L L':Nat→Bool}{τ:Env}(h:Desc σ0 es L τ)(hL:∀i,i<es.length→L' i=L i):Desc σ0 es L' τ:=by
 have hlt:∀{i:Nat}{p},es[i]? = some p→i<es.length:=fun h=>(List.getElem?_eq_some_iff.1 h).1
 have hf:∀id,fzL es L' id=fzL es L id:=fun id=>by
  rw[Bool.eq_iff_iff,fzL_iff,fzL_iff]
  constructor
  ·rintro⟨i,d,e,h1,h2,h3⟩;exact⟨i,d,e,h1,by rw[← hL i (hlt h1)];exact h2,h3⟩
  ·rintro⟨i,d,e,h1,h2,h3⟩;exact⟨i,d,e,h1,by rw[hL i (hlt h1)];exact h2,h3⟩
 have hns:∀id,NoSt es L' id→NoSt es L id:=fun id hn i d e h1 h2=>hn i d e h1 (by rw[hL i (hlt h1)];exact h2)
 refine⟨h.n,fun i d e h1 h2=>h.slot1 i d e h1 (by rw[← hL i (hlt h1)];exact h2),fun t ht=>h.slot0 t fun i e h1=>by rw[← hL i (hlt h1)];exact ht i e h1,
  fun i d e id o off n h1 h2 h3 h4=>h.obj2 i d e id o off n h1 (by rw[← hL i (hlt h1)];exact h2) h3 fun k d' e' h5 h6 h7=>h4 k d' e' h5 (by rw[hL k (hlt h5)];exact h6) h7,
  fun i d e p h1 h2 h3 h4=>by rw[hf];exact h.obj1 i d e p h1 (by rw[← hL i (hlt h1)];exact h2) h3 (hns _ h4),fun id hid hn=>by rw[hf];exact h.obj0 id (fun i d e h1 h2=>hid i d e h1 (by rw[hL i (hlt h1)];exact h2)) (hns _ hn)⟩
theorem last_st(es:REffs)(L:Nat→Bool)(id:Nat):NoSt es L id∨∃(i:Nat)(d:Option Nat)(e:REff),es[i]? = some (d,e)∧L i=true∧e.on id∧∀(k:Nat)(d':Option Nat)(e':REff),es[k]? = some (d',e')→L k=true→e'.on id→k≤i:=by
 have key:∀m,(∀(i:Nat)(d:Option Nat)(e:REff),i<m→es[i]? = some (d,e)→L i=true→¬e.on id)∨∃(i:Nat)(d:Option Nat)(e:REff),es[i]? = some (d,e)∧L i=true∧e.on id∧∀(k:Nat)(d':Option Nat)(e':REff),k<m→es[k]? = some (d',e')→L k=true→e'.on id→k≤i:=by
  intro m
  induction m with
  | zero=>exact .inl fun i d e h=>by omega
  | succ m ih=>
    by_cases hm:∃(d:Option Nat)(e:REff),es[m]? = some (d,e)∧L m=true∧e.on id
    ·obtain⟨d,e,h1,h2,h3⟩:=hm
     exact .inr ⟨m,d,e,h1,h2,h3,fun k d' e' hk _ _ _=>by omega⟩
    ·rcases ih with ih|⟨i,d,e,h1,h2,h3,h4⟩
     ·refine .inl fun i d e hi h1 h2 h3=>?_
      by_cases e1:i=m
      ·subst e1;exact hm ⟨d,e,h1,h2,h3⟩
      ·exact ih i d e (by omega) h1 h2 h3
     ·refine .inr ⟨i,d,e,h1,h2,h3,fun k d' e' hk h5 h6 h7=>?_⟩
      by_cases e1:k=m
      ·subst e1;exact absurd ⟨d',e',h5,h6,h7⟩ hm
      ·exact h4 k d' e' (by omega) h5 h6 h7
 have hlt:∀{i:Nat}{p},es[i]? = some p→i<es.length:=fun h=>(List.getElem?_eq_some_iff.1 h).1
 rcases key es.length with h|⟨i,d,e,h1,h2,h3,h4⟩
 ·exact .inl fun i d e h1=>h i d e (hlt h1) h1
 ·exact .inr ⟨i,d,e,h1,h2,h3,fun k d' e' h5=>h4 k d' e' (hlt h5) h5⟩
theorem desc_unique{L:Nat→Bool}{τ τ':Env}(h:Desc σ0 es L τ)(h':Desc σ0 es L τ'):τ=τ':=by
 have e1:τ.slots=τ'.slots:=by
  funext t
  by_cases ht:∀(i:Nat)(e:REff),es[i]? = some (some t,e)→L i=false
  ·rw[h.slot0 t ht,h'.slot0 t ht]
  ·simp only[Classical.not_forall]at ht
   obtain⟨i,e,h1,h2⟩:=ht
   have h2:L i=true:=by simpa using h2
   rw[h.slot1 i t e h1 h2,h'.slot1 i t e h1 h2]
 have e2:τ.objs=τ'.objs:=by
  funext id
  rcases last_st es L id with hn|⟨i,d,e,h1,h2,⟨o,off,n,h3⟩,h4⟩
  ·by_cases ht:∀(i:Nat)(d:Option Nat)(e:REff),es[i]? = some (d,e)→L i=true→id∉e.e.news.map (·.1)
   ·rw[h.obj0 id ht hn,h'.obj0 id ht hn]
   ·simp only[Classical.not_forall,Classical.not_not]at ht
    obtain⟨i,d,e,h1,h2,h3⟩:=ht
    obtain⟨p,hp,rfl⟩:=List.mem_map.1 h3
    rw[h.obj1 i d e p h1 h2 hp hn,h'.obj1 i d e p h1 h2 hp hn]
  ·rw[h.obj2 i d e id o off n h1 h2 h3 h4,h'.obj2 i d e id o off n h1 h2 h3 h4]
 have e3:τ.n=τ'.n:=h.n.trans h'.n.symm
 cases τ;cases τ'
 simp only at e1 e2 e3
 subst e1;subst e2;subst e3
 rfl
theorem desc_step(G:Good σ0 es bef){L:Nat→Bool}{τ:Env}(h:Desc σ0 es L τ){i:Nat}{d:Option Nat}{e:REff}(hi:es[i]? = some (d,e))(hL:L i=false)
  (hcl:∀k,L k=true→∀m,bef k m=true→L m=true) (hb:∀m,bef i m=true→L m=true) (hfrz:∀k,(L k||k == i)=true→FrzOK σ0 es bef k):Desc σ0 es (fun k=>L k||k == i) (τ.reff d e):=by
 have hfz:∀id,fzL es (fun k=>L k||k == i) id=(fzL es L id||e.e.frz.contains id):=fun id=>by
  rw[Bool.eq_iff_iff,fzL_iff,Bool.or_eq_true,fzL_iff,List.contains_iff_mem]
  constructor
  ·rintro⟨k,d',e',h1,h2,h3⟩
   simp only[Bool.or_eq_true,beq_iff_eq]at h2
   rcases h2 with h2|h2
   ·exact .inl ⟨k,d',e',h1,h2,h3⟩
   ·subst h2
    rw[hi]at h1
    cases h1
    exact .inr h3
  ·rintro(⟨k,d',e',h1,h2,h3⟩|h3)
   ·exact⟨k,d',e',h1,by simp[h2],h3⟩
   ·exact⟨i,d,e,hi,by simp,h3⟩
 have hnew:∀id∈e.e.news.map (·.1),fzL es (fun k=>L k||k == i) id=false:=fun id hid=>by
  cases hf:fzL es (fun k=>L k||k == i) id with
  | false=>rfl
  | true=>
    exfalso
    obtain⟨m,d',e',h1,h2,h3⟩:=fzL_iff.1 hf
    obtain⟨p,hp,rfl⟩:=List.mem_map.1 hid
    have hbm:∀x,bef m x=true→L x=true:=by
     simp only[Bool.or_eq_true,beq_iff_eq]at h2
     rcases h2 with h2|h2
     ·exact hcl m h2
     ·subst h2;exact hb
    rcases hfrz m h2 d' e' _ h1 h3 with h4|⟨k,d2,e2,h4,h5,h6⟩
    ·exact h4 (G.free i d e p hi hp)
    ·have hLk:=hbm k h4
     have hki:k≠i:=fun e=>by rw[e,hL]at hLk;cases hLk
     exact G.apart k i d2 d e2 e _ h5 hi hki h6 (List.mem_map.2 ⟨p,hp,rfl⟩)
 have rslots:∀t,(τ.reff d e).slots t=if d=some t then e.e.val else τ.slots t:=fun t=>by
  unfold Env.reff
  rw[eff_slots]
  cases e.st with
  | none=>rfl
  | some q=>rfl
 have rn:(τ.reff d e).n=τ.n:=by
  unfold Env.reff
  rw[(eff_objs _ _ _).2]
  cases e.st with
  | none=>rfl
  | some q=>rfl
 have rother:∀id,¬e.on id→id∉e.e.news.map (·.1)→(τ.reff d e).objs id=(τ.objs id).map (orFz · (e.e.frz.contains id)):=fun id hon hni=>by
  unfold Env.reff
  rw[(eff_objs _ _ _).1,objsL_old _ _ _ hni]
  show freeze _ e.e.frz id=_
  rw[freeze_eq]
  cases hst:e.st with
  | none=>rfl
  | some q=>
    obtain⟨id',o,off,n⟩:=q
    have:id≠id':=fun e1=>hon ⟨o,off,n,by rw[hst,e1]⟩
    simp only[Env.obj,upd_ne _ _ this]
 have nost:∀id,NoSt es (fun k=>L k||k == i) id→NoSt es L id∧¬e.on id:=fun id hn=>⟨fun k d' e' h1 h2=>hn k d' e' h1 (by simp[h2]),hn i d e hi (by simp)⟩
 refine⟨by rw[rn];exact h.n,fun k d' e' h1 h2=>?_,fun t ht=>?_,fun k d' e' id o off n h1 h2 h3 h4=>?_,fun k d' e' p h1 h2 hp hn=>?_,fun id hid hn=>?_⟩
 ·rw[rslots]
  by_cases hk:k=i
  ·subst hk
   rw[hi]at h1
   cases h1
   simp
  ·have hne:d≠some d':=fun e1=>by
    subst e1
    exact hk (G.dst k i d' e' e h1 hi)
   rw[if_neg hne]
   refine h.slot1 k d' e' h1 ?_
   simpa[hk]using h2
 ·have hne:d≠some t:=fun e1=>by
   subst e1
   have:=ht i e hi
   simp at this
  rw[rslots,if_neg hne]
  refine h.slot0 t fun k e' h1=>?_
  have:=ht k e' h1
  simp only[Bool.or_eq_false_iff]at this
  exact this.1
 ·by_cases hk:k=i
  ·subst hk
   rw[hi]at h1
   cases h1
   have hp:=G.plain k d e _ hi h3
   have hz:id∉e.e.frz:=G.unfz k k d d e e id hi hi ⟨o,off,n,h3⟩
   unfold Env.reff
   rw[h3,(eff_objs _ _ _).1,hp]
   show freeze (upd τ.objs id o) e.e.frz id=_
   have hz2:e.e.frz.contains id=false:=by simpa using hz
   rw[freeze_eq,hz2,upd_same]
   simp[orFz_false]
  ·have hLk:L k=true:=by simpa[hk]using h2
   have hon:¬e.on id:=by
    intro hon
    have hle:=h4 i d e hi (by simp) hon
    rcases G.row i k d d' e e' id hi h1 hon ⟨o,off,n,h3⟩ (fun e1=>hk e1.symm)with hb1|hb1
    ·have:=G.lt i k hb1;omega
    ·have:=hcl k hLk i hb1
     rw[hL]at this;cases this
   have hfr:id∉e.e.frz:=G.unfz k i d' d e' e id h1 hi ⟨o,off,n,h3⟩
   have hni:id∉e.e.news.map (·.1):=by
    intro hin
    obtain⟨p,hp,rfl⟩:=List.mem_map.1 hin
    have:=hcl k hLk i (G.stold k d' e' p.1 h1 ⟨o,off,n,h3⟩ i d e hi hin)
    rw[hL]at this;cases this
   rw[rother id hon hni,h.obj2 k d' e' id o off n h1 hLk h3 fun m d2 e2 h5 h6 h7=>h4 m d2 e2 h5 (by simp[h6]) h7]
   have:e.e.frz.contains id=false:=by simpa using hfr
   rw[this]
   simp[orFz_false]
 ·obtain⟨hn1,hn2⟩:=nost p.1 hn
  by_cases hk:k=i
  ·subst hk
   rw[hi]at h1
   cases h1
   have hst:e.st=none:=by
    cases hst:e.st with
    | none=>rfl
    | some q=>
      have:=G.plain k d e q hi hst
      rw[this]at hp
      cases hp
   unfold Env.reff
   rw[hst,(eff_objs _ _ _).1,objsL_new _ _ p (G.nodup k d e hi) hp,hnew p.1 (List.mem_map.2 ⟨p,hp,rfl⟩),orFz_false]
  ·have hni:p.1∉e.e.news.map (·.1):=G.apart k i d' d e' e _ h1 hi hk (List.mem_map.2 ⟨p,hp,rfl⟩)
   have hLk:L k=true:=by simpa[hk]using h2
   rw[rother p.1 hn2 hni,h.obj1 k d' e' p h1 hLk hp hn1,hfz]
   simp[orFz_orFz]
 ·obtain⟨hn1,hn2⟩:=nost id hn
  have hni:id∉e.e.news.map (·.1):=hid i d e hi (by simp)
  rw[rother id hn2 hni,h.obj0 id (fun k d' e' h1 h2=>hid k d' e' h1 (by simp[h2])) hn1,hfz]
  cases σ0.objs id<;>simp[orFz_orFz]
end
end Go.Abs
