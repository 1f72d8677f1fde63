import Derived.Test.YthcgpcmeffkijaaGreatDoorSAbsO
set_option linter.unusedVariables false
set_option linter.unusedSimpArgs false
namespace Go.Abs
open Go.RowKit
section
variable {F:Nat→Prop} {w0:Base} {κ:Nat→Value} {σ:Env} {a:Act} {w:World}
theorem below_setMap{w0:Base}{w:World}(h:BelowB w0 w){b:Nat}(hb:w0.mine b)(o:Obj):BelowB w0 { w with heap:=w.heap.setIfInBounds b o }:=
 h.turn rfl rfl rfl (by simp) (some b) (fun k hk hne=>by
  have:b≠k:=fun e=>hne (by rw[e])
  simp[Array.getElem?_setIfInBounds_ne this]) (fun k hk=>by cases hk;exact hb) (fun _=>Nat.le_refl _)
theorem map_turned(h:St F w0 κ σ a w){id:Nat}{ks vs ks' vs':List AV}{frz:List Nat}{dst:Option Nat}{blk:Nat}{es es':Array MapEntry}{clock clock':Nat}(ho:σ.objs id=some (.mp ks vs false))(hk:κ id= .map (some blk))(hb:w.heap[blk]? = some (.map es clock))
  (hnot:id∉frz) (hd:dst.all σ.n.ok=true)
  (hks:∀T,(∀ k,SS F w0 κ σ w k→T k)→AllV (RelL T w κ0 o0 ks') (es'.toList.map (·.key)))
  (hvs:∀T,(∀ k,SS F w0 κ σ w k→T k)→(∀ i∈frz,σ.objs i≠none→∀b,blkOf (κ i)=some b→T b)→AllV (RelL T w κ0 o0 vs') (es'.toList.map (·.val))) (hst':MapKept.Stamped es' clock') :
  ∃κ',St F w0 κ' ((σ.turn id (.mp ks' vs' false) frz).put dst .und) (a.put dst undef) { w with heap:=w.heap.setIfInBounds blk (.map es' clock') }:=by
 have hlt:blk<w.heap.size:=(Array.getElem?_eq_some_iff.1 hb).1
 have hmine:=h.mine id _ blk ho (by rw[hk];rfl)
 have m:Turn κ σ w { w with heap:=w.heap.setIfInBounds blk (.map es' clock') } id (.mp ks' vs' false) (κ id) frz:=by
  refine⟨by simp,fun k hkk hne=>?_,fun o ho'=>?_,hnot,fun b' hb'=> .inl ⟨_,ho,hb'⟩,fun o ho'=>?_⟩
  ·have:blk≠k:=fun e=>hne _ ho (by rw[hk,←e];rfl)
   simp[Array.getElem?_setIfInBounds_ne this]
  ·rw[ho]at ho';cases ho';rfl
  ·rw[ho]at ho';cases ho'
   exact⟨_,_,rfl,rfl⟩
 have hS:=fun k=>m.sub (F:=F) (w0:=w0) k
 let T:=Sset F w0.mine { w with heap:=w.heap.setIfInBounds blk (.map es' clock') } (upd κ id (κ id)) (σ.turn id (.mp ks' vs' false) frz).objs
 have hTw:∀k,T k→({ w with heap:=w.heap.setIfInBounds blk (.map es' clock') }:World).heap[k]? = w.heap[k]? := by
  intro k hkT
  have:blk≠k:=by
   intro e
   refine hkT.2.2 id (.mp ks' vs' false) (by rw[turn_objs,if_pos rfl]) rfl ?_
   rw[upd_same,hk,e]
   rfl
  simp[Array.getElem?_setIfInBounds_ne this]
 have hT1:∀k,SS F w0 κ σ w k→T k:=hS
 have hT2:∀i∈frz,σ.objs i≠none→∀b,blkOf (κ i)=some b→T b:=fun i hi hne b hbb=>m.frozen h hi hne hbb
 refine⟨_,h.turned m (below_setMap h.below hmine _) hd ⟨blk,es',clock',by rw[upd_same];exact hk,Nat.zero_le _,by simp[hlt],?_,?_,hst'⟩ (by simp[Rel,one])⟩
 ·exact(RelL_mono (fun k hk=>hk) hTw (ObjLe.none _ _) ks').allV (hks T hT1)
 ·exact(RelL_mono (fun k hk=>hk) hTw (ObjLe.none _ _) vs').allV (hvs T hT1 hT2)
theorem update_sound(h:St F w0 κ σ a w){P:Program}{t:TypeId}{m x v:AV}{vm vx vv:Value}{r:Nat}{o:AObj}{frz:List Nat}{dst:Option Nat}
  (hm:(Rel (SS F w0 κ σ w) w κ σ.objs m).val vm) (hx:(Rel (SS F w0 κ σ w) w κ σ.objs x).val vx) (hv:(Rel (SS F w0 κ σ w) w κ σ.objs v).val vv) (hu:updA P σ t m x v=some (r,o,frz)) (hd:dst.all σ.n.ok=true) :
  ∃w',(Instr.mapUpdate t vm vx vv).run P w= .ok () w'∧∃κ',St F w0 κ' ((σ.turn r o frz).put dst .und) (a.put dst undef) w':=by
 unfold updA at hu
 split at hu
 case h_2=>cases hu
 rename_i id
 split at hu
 case h_2=>cases hu
 rename_i ks vs ho
 obtain⟨⟨kt,et⟩,hT,hu⟩:=bind_some' hu
 simp only at hu
 split at hu
 case isFalse=>cases hu
 rename_i hkey
 split at hu
 case isFalse=>cases hu
 rename_i hnot
 obtain⟨u,hexp,hu⟩:=bind_some' hu
 obtain⟨q,hq,hu⟩:=map_some hu
 have hmt:P.underlying t=some (.map kt et):=by
  unfold mapT at hT
  split at hT
  ·rename_i k e hu
   cases hT
   exact hu
  ·cases hT
 obtain⟨D,hD,hxs⟩:=keyOk_spec hkey
 obtain⟨blk,es,clock,rfl,hk,h2,h3,h4,h4s⟩:=map_at h ho hm
 obtain⟨hxv,hx0,hbits⟩:=key_rel (S':=SS F w0 κ σ w) (κ':=κ0) (objs':=o0) hxs hx
 have hf:=find_run (S:=SS F w0 κ σ w) hD hxs hxv h3 hq w
 have hget:(getObj blk).run P w= .ok (.map es clock) w:=MapKept.run_getObj_map h2
 have hnotin:id∉refsOf σ.objs DEPTH v:=fun hmem=>by
  have:=List.all_eq_true.1 hnot id hmem
  simp at this
 have hval:∀T,(∀ k,SS F w0 κ σ w k→T k)→(∀ i∈refsOf σ.objs DEPTH v,σ.objs i≠none→∀b,blkOf (κ i)=some b→T b)→(Rel T w κ0 o0 u).val vv:=fun T h1 h2=>expt_sound h h1 DEPTH v u vv hexp hv h2
 have hup:∀(T:Nat→Prop)(l:List AV)(us:List Value),(∀ k,SS F w0 κ σ w k→T k)→AllV (RelL (SS F w0 κ σ w) w κ0 o0 l) us→AllV (RelL T w κ0 o0 l) us:=fun T l us h1 h2=>(RelL_mono h1 (fun _ _=>rfl) (ObjLe.none _ _) l).allV h2
 cases q with
 | some j=>
   simp only at hu
   cases hu
   obtain⟨e,g1,g2,k1⟩:=hf
   have k2:Instr.sameBits 10000 e.key vx=true:=by rw[k1];exact hbits
   have hje:es[j]? = some e:=by rw[← Array.getElem?_toList];exact g1
   have hmod:(es.modify j fun e=>{ e with key:=vx,val:=vv }).toList=es.toList.set j { e with key:=vx,val:=vv }:=by
    refine List.ext_getElem? fun i=>?_
    rw[Array.getElem?_toList,Array.getElem?_modify,List.getElem?_set,←Array.getElem?_toList]
    by_cases hij:j=i
    ·subst hij
     have hjl:j<es.toList.length:=(List.getElem?_eq_some_iff.1 g1).1
     rw[if_pos rfl,if_pos rfl,if_pos hjl,g1]
     rfl
    ·rw[if_neg hij,if_neg hij]
   obtain⟨κ',hst⟩:=map_turned h (ks':=ks) (vs':=vs.set j u) (frz:=refsOf σ.objs DEPTH v) (dst:=dst) (es':=es.modify j fun e=>{ e with key:=vx,val:=vv }) (clock':=clock) ho hk h2 hnotin hd (fun T hT=>by
    rw[hmod]
    have:(es.toList.set j { e with key:=vx,val:=vv }).map (·.key)=es.toList.map (·.key):=by
     rw[List.map_set]
     refine List.ext_getElem? fun i=>?_
     rw[List.getElem?_set]
     split
     ·rename_i hij
      subst hij
      split
      ·rw[List.getElem?_map,g1,Option.map_some,k1]
      ·rename_i hlt
       rw[List.getElem?_eq_none (by omega)]
     ·rfl
    rw[this]
    exact hup T ks _ hT h3) (fun T hT1 hT2=>by
    rw[hmod,List.map_set]
    have h5:=hup T vs _ hT1 h4
    obtain⟨h6,h7⟩:=AllV_get _ _ _ _ h5
    refine AllV_of _ _ _ _ (by simpa using h6) fun i y z hy hz=>?_
    rw[List.getElem?_set]at hy hz
    by_cases hij:j=i
    ·subst hij
     rw[if_pos rfl]at hy hz
     split at hy
     ·split at hz
      ·cases hy;cases hz
       exact hval T hT1 hT2
      ·cases hz
     ·cases hy
    ·rw[if_neg hij]at hy hz
     exact h7 i y z hy hz) (MapKept.stamped_modify h4s j _ (fun _ _=>rfl) fun e' _ he'=>by
    rw[hje]at he'
    cases he'
    exact k1.symm)
   refine⟨_,?_,κ',hst⟩
   simp[Instr.mapUpdate,run_underlying hmt,hget,checkKey_run hD hxs _ hxv,g2,Result.andThen,hje,Instr.keyThatStays,k2,MapKept.run_setObj_map _ h2]
 | none=>
   simp only at hu
   cases hu
   obtain⟨κ',hst⟩:=map_turned h (ks':=ks++[x]) (vs':=vs++[u]) (frz:=refsOf σ.objs DEPTH v) (dst:=dst) (es':=es.push { key:=vx,val:=vv,born:=clock }) (clock':=clock+1) ho hk h2 hnotin hd (fun T hT=>by
    simp only[Array.toList_push,List.map_append,List.map_cons,List.map_nil]
    have h5:=hup T ks _ hT h3
    obtain⟨h6,h7⟩:=AllV_get _ _ _ _ h5
    refine AllV_of _ _ _ _ (by simpa using h6) fun i y z hy hz=>?_
    by_cases hi:i<ks.length
    ·rw[List.getElem?_append_left hi]at hy
     rw[List.getElem?_append_left (by rw[← h6];exact hi)]at hz
     exact h7 i y z hy hz
    ·rw[List.getElem?_append_right (by omega)]at hy
     rw[List.getElem?_append_right (by rw[← h6];omega)]at hz
     have h0:i-ks.length=0:=by
      cases hq2:i-ks.length with
      | zero=>rfl
      | succ n=>rw[hq2]at hy;simp at hy
     rw[h0]at hy
     rw[← h6,h0]at hz
     simp only[List.getElem?_cons_zero,Option.some.injEq]at hy hz
     subst hy;subst hz
     exact(key_rel hxs hx0).2.1) (fun T hT1 hT2=>by
    simp only[Array.toList_push,List.map_append,List.map_cons,List.map_nil]
    have h5:=hup T vs _ hT1 h4
    obtain⟨h6,h7⟩:=AllV_get _ _ _ _ h5
    refine AllV_of _ _ _ _ (by simpa using h6) fun i y z hy hz=>?_
    by_cases hi:i<vs.length
    ·rw[List.getElem?_append_left hi]at hy
     rw[List.getElem?_append_left (by rw[← h6];exact hi)]at hz
     exact h7 i y z hy hz
    ·rw[List.getElem?_append_right (by omega)]at hy
     rw[List.getElem?_append_right (by rw[← h6];omega)]at hz
     have h0:i-vs.length=0:=by
      cases hq2:i-vs.length with
      | zero=>rfl
      | succ n=>rw[hq2]at hy;simp at hy
     rw[h0]at hy
     rw[← h6,h0]at hz
     simp only[List.getElem?_cons_zero,Option.some.injEq]at hy hz
     subst hy;subst hz
     exact hval T hT1 hT2) (MapKept.stamped_push h4s fun e he hke=>by
    exact hf.2 e he hke)
   refine⟨_,?_,κ',hst⟩
   simp[Instr.mapUpdate,run_underlying hmt,hget,checkKey_run hD hxs _ hxv,hf.1,Result.andThen,MapKept.run_setObj_map _ h2]
end
end Go.Abs
