import Derived.Test.YthcgpcmeffkijaaGreatDoorSAbsMk
set_option linter.unusedVariables false
set_option linter.unusedSimpArgs false
namespace Go.Abs
open Go.RowKit
section
variable {F:Nat→Prop} {w0:Base} {κ:Nat→Value} {σ:Env} {a:Act} {w:World}
theorem newMap_sound(h:St F w0 κ σ a w){dst:Option Nat}{d:Nat}(hd:dst.all σ.n.ok=true)(hfree:σ.objs (8*d)=none) :
  ∃κ',St F w0 κ' (σ.eff dst { val:= .mr (8*d),news:=[(8*d,.mp [] [] false)] }) (a.put dst (.map (some w.heap.size))) (w.alloc (.map #[] 0)):=by
 let e:Eff:={ val:= .mr (8*d),news:=[(8*d,.mp [] [] false)] }
 let κ':=upd κ (8*d) (.map (some w.heap.size))
 have m:Made κ κ' σ w (w.alloc (.map #[] 0)) e:=by
  refine⟨(Below.refl _ w).alloc (Nat.le_refl _) _,by simpa[e]using hfree,by simp[e],fun id hid=>upd_ne _ _ (fun e=>hid (by rw[e];exact hfree)),?_,?_⟩
  ·intro p hp b hb
   simp only[e,List.mem_singleton]at hp
   subst hp
   simp only[κ',upd_same,blkOf,Option.some.injEq]at hb
   omega
  ·intro p hp q hq hpq
   simp only[e,List.mem_singleton]at hp hq
   subst hp;subst hq
   exact absurd rfl hpq
 have hobj:(σ.eff dst e).objs (8*d)=some (.mp [] [] false):=by
  rw[(eff_objs σ dst e).1]
  exact objsL_new _ _ (8*d,.mp [] [] false) m.nodup (by simp[e])
 refine⟨κ',h.made m (fun _=>Nat.le_refl _) hd (fun p hp=>?_) ?_⟩
 ·simp only[e,List.mem_singleton]at hp
  subst hp
  exact⟨w.heap.size,#[],0,upd_same _ _ _,Nat.zero_le _,heap_alloc_new w _,by simp[RelL,AllV],by simp[RelL,AllV],MapKept.stamped_empty 0⟩
 ·show(Rel _ _ κ' _ (AV.mr (8*d))).val _
  simp only[Rel,one]
  exact⟨[],[],false,hobj,w.heap.size,upd_same _ _ _,rfl⟩
theorem findK_now{P:Program}{t:TypeId}{S:Nat→Prop}{D:TypeDesc}{x:AV}{u:Value}(hD:P.underlying t=some D)(hx:Key1 D x)(hu:toV x=some u) :
  ∀(ks:List AV)(es:List MapEntry)(i:Nat)(r:Option Nat),AllV (RelL S w κ0 o0 ks) (es.map (·.key))→findK x ks i=some r→
   match r with
   | some j=>i≤j∧∃e,es[j-i]? = some e∧Instr.findNow D u es i=some (some (j,e.val))∧e.key=u
   | none=>Instr.findNow D u es i=some none∧∀e∈es,e.key≠u
 | [],es,i,r,ha,hf=>by
   cases hf
   obtain⟨h1,_⟩:=AllV_get _ _ _ _ ha
   have:es=[]:=by cases es with
    | nil=>rfl
    | cons a t=>simp at h1
   subst this
   exact⟨rfl,fun e he=>by cases he⟩
 | k::ks,es,i,r,ha,hf=>by
   obtain⟨h1,h2⟩:=AllV_get _ _ _ _ ha
   cases es with
   | nil=>simp at h1
   | cons e es=>
     simp only[findK]at hf
     obtain⟨b,hb,hf⟩:=bind_some' hf
     obtain⟨u',v,e1,e2,e3,e4,_⟩:=sameK_spec hD (.inl hx) hb
     rw[hu]at e1
     cases e1
     have hv:e.key=v:=toV_sound S w κ0 o0 k v e.key e2 (h2 0 k e.key (by simp) (by simp))
     have hs:=e4 hx
     rw[← hv]at hs e3
     cases b with
     | true=>
       simp only[if_true,Option.some.injEq]at hf
       subst hf
       refine⟨Nat.le_refl _,e,by simp,?_,(e3.1 rfl).symm⟩
       simp only[Instr.findNow,hs]
     | false=>
       simp only[Bool.false_eq_true,if_false]at hf
       have ha':AllV (RelL S w κ0 o0 ks) (es.map (·.key)):=by
        refine AllV_of _ _ _ _ (by simpa using h1) fun j y v hy hv=>h2 (j+1) y v (by simpa using hy) (by simpa using hv)
       have ih:=findK_now hD hx hu ks es (i+1) r ha' hf
       cases r with
       | none=>
         refine⟨by simpa[Instr.findNow,hs]using ih.1,fun e' he'=>?_⟩
         rcases List.mem_cons.1 he' with rfl|he'
         ·intro h
          have:=e3.2 h.symm
          cases this
         ·exact ih.2 e' he'
       | some j=>
         obtain⟨g1,e',g2,g3,g4⟩:=ih
         refine⟨by omega,e',?_,?_,g4⟩
         ·have:j-i=(j-(i+1))+1:=by omega
          rw[this,List.getElem?_cons_succ]
          exact g2
         ·simp only[Instr.findNow,hs]
          exact g3
theorem findK_ask{P:Program}{t:TypeId}{S:Nat→Prop}{D:TypeDesc}{x:AV}{u:Value}(hD:P.underlying t=some D)(hx:KeyD P t D x)(hx2:∃fs cs,D= .struct fs∧x= .agg cs)(hu:toV x=some u) :
  ∀(ks:List AV)(es:List MapEntry)(i:Nat)(r:Option Nat),AllV (RelL S w κ0 o0 ks) (es.map (·.key))→findK x ks i=some r→
   match r with
   | some j=>i≤j∧∃e,es[j-i]? = some e∧pureRun P (Instr.findAsking t u es i)=some (some (j,e.val))∧e.key=u
   | none=>pureRun P (Instr.findAsking t u es i)=some none∧∀e∈es,e.key≠u
 | [],es,i,r,ha,hf=>by
   cases hf
   obtain⟨h1,_⟩:=AllV_get _ _ _ _ ha
   have:es=[]:=by cases es with
    | nil=>rfl
    | cons a t=>simp at h1
   subst this
   exact⟨rfl,fun e he=>by cases he⟩
 | k::ks,es,i,r,ha,hf=>by
   obtain⟨h1,h2⟩:=AllV_get _ _ _ _ ha
   cases es with
   | nil=>simp at h1
   | cons e es=>
     simp only[findK]at hf
     obtain⟨b,hb,hf⟩:=bind_some' hf
     obtain⟨u',v,e1,e2,e3,_,e4⟩:=sameK_spec hD hx hb
     rw[hu]at e1
     cases e1
     have hv:e.key=v:=toV_sound S w κ0 o0 k v e.key e2 (h2 0 k e.key (by simp) (by simp))
     have hs:=e4 hx2
     rw[← hv]at hs e3
     cases b with
     | true=>
       simp only[if_true,Option.some.injEq]at hf
       subst hf
       refine⟨Nat.le_refl _,e,by simp,?_,(e3.1 rfl).symm⟩
       unfold Instr.findAsking
       rw[prn_bind,hs]
       rfl
     | false=>
       simp only[Bool.false_eq_true,if_false]at hf
       have ha':AllV (RelL S w κ0 o0 ks) (es.map (·.key)):=by
        refine AllV_of _ _ _ _ (by simpa using h1) fun j y v hy hv=>h2 (j+1) y v (by simpa using hy) (by simpa using hv)
       have ih:=findK_ask hD hx hx2 hu ks es (i+1) r ha' hf
       have step:pureRun P (Instr.findAsking t u (e::es) i)=pureRun P (Instr.findAsking t u es (i+1)):=by
        rw[Instr.findAsking,prn_bind,hs]
        rfl
       cases r with
       | none=>
         refine⟨step.trans ih.1,fun e' he'=>?_⟩
         rcases List.mem_cons.1 he' with rfl|he'
         ·intro h
          have:=e3.2 h.symm
          cases this
         ·exact ih.2 e' he'
       | some j=>
         obtain⟨g1,e',g2,g3,g4⟩:=ih
         refine⟨by omega,e',?_,step.trans g3,g4⟩
         have:j-i=(j-(i+1))+1:=by omega
         rw[this,List.getElem?_cons_succ]
         exact g2
theorem find_run{P:Program}{t:TypeId}{S:Nat→Prop}{D:TypeDesc}{x:AV}{u:Value}(hD:P.underlying t=some D)(hx:KeyD P t D x)(hu:toV x=some u){ks:List AV}{es:List MapEntry}{r:Option Nat}
  (ha:AllV (RelL S w κ0 o0 ks) (es.map (·.key))) (hf:findK x ks 0=some r) (w':World) :
   match r with
   | some j=>∃e,es[j]? = some e∧(Instr.findKey t u es).run P w'= .ok (some (j,e.val)) w'∧e.key=u
   | none=>(Instr.findKey t u es).run P w'= .ok none w'∧∀e∈es,e.key≠u:=by
 have now:∀q,Instr.findNow D u es 0=some q→(Instr.findKey t u es).run P w'= .ok q w':=by
  intro q hq
  unfold Instr.findKey
  rw[Sem.run_bind,run_underlying hD,Result.andThen_ok,hq]
  rfl
 rcases hx with hx1|hx2
 ·have h:=findK_now hD hx1 hu ks es 0 r ha hf
  cases r with
  | none=>exact⟨now _ h.1,h.2⟩
  | some j=>
    obtain⟨_,e,h1,h2,h3⟩:=h
    exact⟨e,h1,now _ h2,h3⟩
 ·have hx2':=hx2
  obtain⟨fs,cs,rfl,rfl,_,_⟩:=hx2'
  have h:=findK_ask hD (.inr hx2) ⟨fs,cs,rfl,rfl⟩ hu ks es 0 r ha hf
  cases es with
  | nil=>
    cases r with
    | none=>exact⟨now _ rfl,h.2⟩
    | some j=>
      obtain⟨_,e,h1,_⟩:=h
      simp at h1
  | cons e0 es=>
    have hn:Instr.findNow (.struct fs) u (e0::es) 0=none:=by
     unfold Instr.findNow
     have:Instr.sameNow (.struct fs) u e0.key=none:=by
      unfold Instr.sameNow
      split<;>first|rfl|(rename_i hh;cases hh)|simp_all
     rw[this]
    have ask:∀q,pureRun P (Instr.findAsking t u (e0::es) 0)=some q→(Instr.findKey t u (e0::es)).run P w'= .ok q w':=by
     intro q hq
     unfold Instr.findKey
     rw[Sem.run_bind,run_underlying hD,Result.andThen_ok,hn]
     exact pureRun_sound hq w'
    cases r with
    | none=>exact⟨ask _ h.1,h.2⟩
    | some j=>
      obtain⟨_,e,h1,h2,h3⟩:=h
      exact⟨e,h1,ask _ h2,h3⟩
theorem key_rel{P:Program}{t:TypeId}{S S':Nat→Prop}{κ κ':Nat→Value}{objs objs':Nat→Option AObj}{D:TypeDesc}{x:AV}{u:Value}(hx:KeyD P t D x)(h:(Rel S w κ objs x).val u):toV x=some u∧(Rel S' w κ' objs' x).val u∧Instr.sameBits 10000 u u=true:=by
 obtain⟨v,h1,h2,h3⟩:=key_val hx
 have:u=v:=toV_sound S w κ objs x v u h1 h
 subst this
 exact⟨h1,h2 _ _ _ _,h3 9999⟩
theorem map_at(h:St F w0 κ σ a w){id:Nat}{ks vs:List AV}{fz:Bool}(ho:σ.objs id=some (.mp ks vs fz)){vm:Value}(hm:(Rel (SS F w0 κ σ w) w κ σ.objs (.mr id)).val vm) :
  ∃blk es clock,vm= .map (some blk)∧κ id= .map (some blk)∧w.heap[blk]? = some (.map es clock)∧AllV (RelL (SS F w0 κ σ w) w κ0 o0 ks) (es.toList.map (·.key))∧AllV (RelL (SS F w0 κ σ w) w κ0 o0 vs) (es.toList.map (·.val))∧MapKept.Stamped es clock:=by
 obtain⟨blk,es,clock,h1,_,h2,h3,h4,h4s⟩:=h.objs id _ ho
 simp only[Rel,one]at hm
 obtain⟨_,_,_,_,blk',h5,h6⟩:=hm
 rw[h1]at h5
 cases h5
 exact⟨blk,es,clock,h6,h1,h2,h3,h4,h4s⟩
theorem slz_val{S:Nat→Prop}{w:World}{κ:Nat→Value}{objs:Nat→Option AObj}{z:AV}{v:Value}(h:(Rel S w κ objs z).val v):(Rel S w κ objs (slz z)).val v:=by
 cases z with
 | agg cs=>
   simp only[Rel]at h
   obtain⟨vs,rfl,h1⟩:=h
   simp only[slz,Rel]
   obtain⟨h2,h3⟩:=AllV_get _ _ _ _ h1
   refine⟨vs,rfl,AllV_of _ _ _ _ (by simpa using h2) fun i x u hx hu=>?_⟩
   rw[List.getElem?_map]at hx
   obtain⟨y,hy,rfl⟩:=Option.map_eq_some_iff.1 hx
   exact slz1_val (h3 i y u hy hu)
 | _=>exact slz1_val h
theorem lookIn_sound{S:Nat→Prop}{κ':Nat→Value}{objs':Nat→Option AObj}{P:Program}{t:TypeId}{ks vs:List AV}{x:AV}{v:AV}{b:Bool}{vx:Value}{blk:Nat}{es:Array MapEntry}{clock:Nat}(he:lookIn P t ks vs x=some (v,b))
  (h2:w.heap[blk]? = some (.map es clock)) (h3:AllV (RelL S w κ0 o0 ks) (es.toList.map (·.key))) (h4:AllV (RelL S w κ0 o0 vs) (es.toList.map (·.val))) (hx:(Rel S w κ' objs' x).val vx) (ok:Bool) :
  ∃u,(Instr.lookup t (.map (some blk)) vx ok).run P w= .ok (if ok=true then .tuple #[u,.bool b]else u) w∧(Rel S w κ' objs' v).val u:=by
 unfold lookIn at he
 obtain⟨⟨kt,et⟩,hT,he⟩:=bind_some' he
 simp only at he
 split at he
 case isFalse=>cases he
 rename_i hkey
 obtain⟨r,hr,he⟩:=bind_some' he
 have hmt:P.underlying t=some (.map kt et):=by
  unfold mapT at hT
  split at hT
  ·rename_i k e hu
   cases hT
   exact hu
  ·cases hT
 obtain⟨D,hD,hxs⟩:=keyOk_spec hkey
 obtain⟨hxv,_,_⟩:=key_rel (S':=S) (κ':=κ') (objs':=objs') hxs hx
 have hf:=find_run (S:=S) hD hxs hxv h3 hr w
 have hget:(getObj blk).run P w= .ok (.map es clock) w:=MapKept.run_getObj_map h2
 cases r with
 | some j=>
   obtain⟨e,g1,g2,_⟩:=hf
   obtain⟨z,hz,he⟩:=map_some he
   cases he
   obtain⟨h5,h6⟩:=AllV_get _ _ _ _ h4
   have hrel:=h6 j v e.val hz (by simp[g1])
   refine⟨e.val,?_,(Rel_lift (κ:=κ0) v).val _ hrel⟩
   simp[Instr.lookup,run_underlying hmt,hget,checkKey_run hD hxs _ hxv,g2,Result.andThen]
 | none=>
   obtain⟨z,hz,he⟩:=map_some he
   cases he
   unfold zeroM zeroOf at hz
   obtain⟨z0,hz0,rfl⟩:=Option.map_eq_some_iff.1 hz
   obtain⟨i,hi,hz⟩:=bind_some' hz0
   obtain⟨zv,hzv,hz⟩:=bind_some' hz
   refine⟨zv,?_,slz_val (ofV_sound _ _ _ _ _ _ hz)⟩
   simp[Instr.lookup,run_underlying hmt,hget,checkKey_run hD hxs _ hxv,hf.1,Result.andThen,typeInfo_zero hi hzv]
theorem lookup_sound(h:St F w0 κ σ a w){P:Program}{t:TypeId}{m x:AV}{v:AV}{b:Bool}{vm vx:Value}(he:lookA P σ.objs t m x=some (v,b))(hm:(Rel (SS F w0 κ σ w) w κ σ.objs m).val vm)(hx:(Rel (SS F w0 κ σ w) w κ σ.objs x).val vx)(ok:Bool) :
  ∃u,(Instr.lookup t vm vx ok).run P w= .ok (if ok=true then .tuple #[u,.bool b]else u) w∧(Rel (SS F w0 κ σ w) w κ σ.objs v).val u:=by
 unfold lookA at he
 split at he
 ·rename_i id
  split at he
  case h_2=>cases he
  rename_i ks vs fz ho
  obtain⟨blk,es,clock,rfl,_,h2,h3,h4,_⟩:=map_at h ho hm
  exact lookIn_sound he h2 h3 h4 hx ok
 ·rename_i ks vs
  simp only[Rel,one]at hm
  obtain⟨blk,es,clock,rfl,_,h2,h3,h4,_⟩:=hm
  exact lookIn_sound he h2 ((RelL_mono (fun _ h=>h) (fun _ _=>rfl) (ObjLe.none _ _) ks).allV h3) ((RelL_mono (fun _ h=>h) (fun _ _=>rfl) (ObjLe.none _ _) vs).allV h4) hx ok
 ·cases he
end
end Go.Abs
