import Derived.Test.YthcgpcmeffkijaaGreatDoorSAbsM
set_option linter.unusedVariables false
set_option linter.unusedSimpArgs false
namespace Go.Abs
open Go.RowKit
theorem freeze_mem:∀(l:List Nat)(objs:Nat→Option AObj)(id:Nat)(o:AObj),id∈l→objs id=some o→∃o2,freeze objs l id=some o2∧isFz o2=true
 | [],objs,id,o,hm,h=>by cases hm
 | r::rs,objs,id,o,hm,h=>by
   simp only[freeze]
   by_cases e:id=r
   ·subst e
    rw[h]
    cases o with
    | row e1 k1 xs1 g1 f1=>
      obtain⟨fz,hz⟩:=freeze_some rs (upd objs id (some (.row e1 k1 xs1 g1 true))) id _ (upd_same _ _ _)
      exact⟨_,hz,by simp[orFz,isFz]⟩
    | box c1 f1=>
      obtain⟨fz,hz⟩:=freeze_some rs (upd objs id (some (.box c1 true))) id _ (upd_same _ _ _)
      exact⟨_,hz,by simp[orFz,isFz]⟩
    | mp c1 c2 f1=>
      obtain⟨fz,hz⟩:=freeze_some rs (upd objs id (some (.mp c1 c2 true))) id _ (upd_same _ _ _)
      exact⟨_,hz,by simp[orFz,isFz]⟩
   ·have hm':id∈rs:=by
     rcases List.mem_cons.1 hm with h|h
     ·exact absurd h e
     ·exact h
    cases hr:objs r with
    | none=>exact freeze_mem rs objs id o hm' h
    | some q=>cases q<;>exact freeze_mem rs _ id o hm' (by rw[upd_ne _ _ e];exact h)
theorem isFz_orFz{o:AObj}{fz:Bool}(h:isFz (orFz o fz)=false):isFz o=false:=by cases o<;>simp_all [isFz,orFz]
structure Turn(κ:Nat→Value)(σ:Env)(w w':World)(r:Nat)(o':AObj)(v':Value)(frz:List Nat):Prop where
 size:w.heap.size≤w'.heap.size
 heap:∀k,k<w.heap.size→(∀ o,σ.objs r=some o→blkOf (κ r)≠some k)→w'.heap[k]? = w.heap[k]?
 unf:∀o,σ.objs r=some o→isFz o=false
 notin:r∉frz
 blk:∀b,blkOf v'=some b→(∃ o,σ.objs r=some o∧blkOf (κ r)=some b)∨w.heap.size≤b
 le:∀o,σ.objs r=some o→match o with
  | .row e k _ g _=>∃xs' g',o'= .row e k xs' g' false∧g≤g'∧(g=g'→v'=κ r)
  | .box _ _=>∃cs',o'= .box cs' false∧v'=κ r
  | .mp _ _ _=>∃ks' vs',o'= .mp ks' vs' false∧v'=κ r
theorem turn_objs(σ:Env)(r:Nat)(o':AObj)(frz:List Nat)(id:Nat):(σ.turn r o' frz).objs id=if id=r then some o' else freeze σ.objs frz id:=by
 simp only[Env.turn,Env.obj,upd]
section
variable {F:Nat→Prop} {w0:Base} {κ:Nat→Value} {σ:Env} {a:Act} {w w':World} {r:Nat} {o':AObj} {v':Value} {frz:List Nat}
theorem Turn.objLe(m:Turn κ σ w w' r o' v' frz):ObjLe σ.objs κ (σ.turn r o' frz).objs (upd κ r v'):=by
 intro id o ho
 rw[turn_objs]
 by_cases e:id=r
 ·subst e
  have:=m.le o ho
  cases o with
  | row e k xs g f=>
    obtain⟨xs',g',h1,h2,h3⟩:=this
    exact⟨xs',g',false,by simp[h1],h2,fun e=>by rw[upd_same];exact h3 e⟩
  | box cs f=>
    obtain⟨cs',h1,h2⟩:=this
    exact⟨cs',false,by simp[h1],by rw[upd_same];exact h2⟩
  | mp c1 c2 f=>
    obtain⟨ks',vs',h1,h2⟩:=this
    exact⟨ks',vs',false,by simp[h1],by rw[upd_same];exact h2⟩
 ·obtain⟨fz,hz⟩:=freeze_some frz σ.objs id o ho
  rw[if_neg e,upd_ne _ _ e,hz]
  cases o with
  | row e k xs g f=>exact⟨xs,g,_,rfl,Nat.le_refl _,fun _=>rfl⟩
  | box cs f=>exact⟨cs,_,rfl,rfl⟩
  | mp c1 c2 f=>exact⟨c1,c2,_,rfl,rfl⟩
theorem Turn.sub(m:Turn κ σ w w' r o' v' frz)(k:Nat)(hs:SS F w0 κ σ w k):Sset F w0.mine w' (upd κ r v') (σ.turn r o' frz).objs k:=by
 obtain⟨h1,h2,h3⟩:=hs
 refine⟨h1,Nat.lt_of_lt_of_le h2 m.size,fun id o ho hf hb=>?_⟩
 rw[turn_objs]at ho
 by_cases e:id=r
 ·subst e
  rw[upd_same]at hb
  rcases m.blk k hb with⟨o2,h4,h5⟩|h4
  ·exact h3 id o2 h4 (m.unf o2 h4) h5
  ·omega
 ·rw[if_neg e]at ho
  rw[upd_ne _ _ e]at hb
  obtain⟨o2,h4,fz,rfl⟩:=freeze_back ho
  exact h3 id o2 h4 (isFz_orFz hf) hb
theorem Turn.keepS(m:Turn κ σ w w' r o' v' frz)(k:Nat)(hs:SS F w0 κ σ w k):w'.heap[k]? = w.heap[k]? :=
 m.heap k hs.2.1 fun o ho=>hs.2.2 r o ho (m.unf o ho)
theorem Turn.other(m:Turn κ σ w w' r o' v' frz)(h:St F w0 κ σ a w){id:Nat}{o:AObj}(hne:id≠r)(ho:σ.objs id=some o){b:Nat}(hb:blkOf (κ id)=some b):w'.heap[b]? = w.heap[b]? :=
 m.heap b ((h.objs id o ho).lt hb).2 fun o2 ho2=>h.apart id r o o2 ho ho2 hne b hb
theorem Turn.frozen(m:Turn κ σ w w' r o' v' frz)(h:St F w0 κ σ a w){id:Nat}(hid:id∈frz)(hne:σ.objs id≠none){b:Nat}(hb:blkOf (κ id)=some b) :
  Sset F w0.mine w' (upd κ r v') (σ.turn r o' frz).objs b:=by
 obtain⟨o,ho⟩:=Option.ne_none_iff_exists'.1 hne
 have hir:id≠r:=fun e=>m.notin (e▸hid)
 have hlt:=(h.objs id o ho).lt hb
 refine⟨.inr (h.mine id o b ho hb),Nat.lt_of_lt_of_le hlt.2 m.size,fun id2 o2 ho2 hf hb2=>?_⟩
 rw[turn_objs]at ho2
 by_cases e:id2=r
 ·subst e
  rw[upd_same]at hb2
  rcases m.blk b hb2 with⟨o3,h4,h5⟩|h4
  ·exact h.apart id id2 o o3 ho h4 hir b hb h5
  ·omega
 ·rw[if_neg e]at ho2
  rw[upd_ne _ _ e]at hb2
  obtain⟨o3,h4,fz,rfl⟩:=freeze_back ho2
  by_cases e2:id2=id
  ·subst e2
   obtain⟨o4,h5,h6⟩:=freeze_mem frz σ.objs id2 o hid ho
   rw[h5]at ho2
   cases ho2
   rw[h6]at hf
   cases hf
  ·exact h.apart id id2 o o3 ho h4 (fun e=>e2 e.symm) b hb hb2
theorem St.turned(h:St F w0 κ σ a w)(m:Turn κ σ w w' r o' v' frz)(hbel:BelowB w0 w'){dst:Option Nat}{x:AV}{v:Value}(hd:dst.all σ.n.ok=true)
  (hobj:ObjOK (Sset F w0.mine w' (upd κ r v') (σ.turn r o' frz).objs) w' (upd κ r v') (σ.turn r o' frz).objs 0 r o')
  (hval:(Rel (Sset F w0.mine w' (upd κ r v') (σ.turn r o' frz).objs) w' (upd κ r v') (σ.turn r o' frz).objs x).val v) :
  St F w0 (upd κ r v') ((σ.turn r o' frz).put dst x) (a.put dst v) w':=by
 have hS:=fun k=>m.sub (F:=F) (w0:=w0) k
 have hw:=fun k=>m.keepS (F:=F) (w0:=w0) k
 have hle:=m.objLe
 have hobjs:((σ.turn r o' frz).put dst x).objs=(σ.turn r o' frz).objs:=(put_objs _ _ _).1
 have hslots:∀t,((σ.turn r o' frz).put dst x).slots t=if dst=some t then x else σ.slots t:=by
  intro t
  cases dst with
  | none=>simp[Env.put,Env.turn,Env.obj]
  | some d=>
    by_cases e:t=d
    ·subst e;simp[Env.put,upd]
    ·have e':¬d=t:=fun h=>e h.symm
     simp[Env.put,upd,e,e',Env.turn,Env.obj]
 refine⟨fun t=>?_,fun id o ho=>?_,fun i j oi oj hi hj hij b hb=>?_,hbel,?_,?_,fun id o b ho hb=>?_,fun hz=>?_⟩
 ·rw[hobjs,hslots]
  cases dst with
  | none=>simpa[Act.put]using(Rel_mono hS hw hle (σ.slots t)).val _ (h.slots t)
  | some d=>
    have hdn:d<a.tmps.size:=by
     have:d<σ.n.n:=Lim.ok_lt (by simpa using hd)
     exact Nat.lt_of_lt_of_le this h.size
    rw[getD_put t hdn]
    by_cases e:t=d
    ·subst e;simpa using hval
    ·have e':¬d=t:=fun x=>e x.symm
     simp only[Option.some.injEq,if_neg e',if_neg e]
     exact(Rel_mono hS hw hle (σ.slots t)).val _ (h.slots t)
 ·rw[hobjs]at ho ⊢
  rw[turn_objs]at ho
  by_cases e:id=r
  ·subst e
   simp only[if_true,Option.some.injEq]at ho
   subst ho
   exact hobj
  ·rw[if_neg e]at ho
   obtain⟨o2,ho2,fz,rfl⟩:=freeze_back ho
   have h1:=h.objs id o2 ho2
   have h2:=h1.mono hS hw hle (upd_ne _ _ e) fun b hb=>m.other h e ho2 hb
   cases o2<;>exact h2
 ·rw[hobjs]at hi hj
  rw[turn_objs]at hi hj
  by_cases ei:i=r
  ·subst ei
   rw[upd_same]at hb
   have ej:j≠i:=fun e=>hij e.symm
   rw[if_neg ej]at hj
   rw[upd_ne _ _ ej]
   obtain⟨o2,ho2,_⟩:=freeze_back hj
   rcases m.blk b hb with⟨o3,h4,h5⟩|h4
   ·exact h.apart i j o3 o2 h4 ho2 hij b h5
   ·intro hb2
    have:=((h.objs j o2 ho2).lt hb2).2
    omega
  ·rw[if_neg ei]at hi
   rw[upd_ne _ _ ei]at hb
   obtain⟨o1,ho1,_⟩:=freeze_back hi
   by_cases ej:j=r
   ·subst ej
    rw[upd_same]
    intro hb2
    rcases m.blk b hb2 with⟨o3,h4,h5⟩|h4
    ·exact h.apart i j o1 o3 ho1 h4 hij b hb h5
    ·have:=((h.objs i o1 ho1).lt hb).2
     omega
   ·rw[if_neg ej]at hj
    rw[upd_ne _ _ ej]
    obtain⟨o2,ho2,_⟩:=freeze_back hj
    exact h.apart i j o1 o2 ho1 ho2 hij b hb
 ·cases dst<;>simpa[Act.put]using h.defers
 ·have:((σ.turn r o' frz).put dst x).n=σ.n:=by rw[(put_objs _ _ _).2];rfl
  rw[this]
  cases dst<;>simpa[Act.put]using h.size
 ·rw[hobjs]at ho
  rw[turn_objs]at ho
  by_cases e:id=r
  ·subst e
   rw[upd_same]at hb
   rcases m.blk b hb with⟨o2,h4,h5⟩|h4
   ·exact h.mine id o2 b h4 h5
   ·exact .inr (Nat.le_trans h.below.size h4)
  ·rw[if_neg e]at ho
   rw[upd_ne _ _ e]at hb
   obtain⟨o2,ho2,_⟩:=freeze_back ho
   exact h.mine id o2 b ho2 hb
 ·have e1:((σ.turn r o' frz).put dst x).n=σ.n:=by rw[(put_objs _ _ _).2];rfl
  rw[e1]at hz
  rw[put_fix hd hz]
  exact h.fix hz
end
end Go.Abs
