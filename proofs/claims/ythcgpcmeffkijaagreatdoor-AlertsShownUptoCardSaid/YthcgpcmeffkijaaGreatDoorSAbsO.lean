import Derived.Test.YthcgpcmeffkijaaGreatDoorSAbsN
set_option linter.unusedVariables false
set_option linter.unusedSimpArgs false
namespace Go.Abs
open Go.RowKit
theorem splice_get{α:Type}(l vs:List α)(p q:Nat)(h:p+vs.length≤l.length) :
  (l.take p++vs++l.drop (p+vs.length))[q]? = if q<p then l[q]? else if q<p+vs.length then vs[q-p]? else l[q]? := by
 simp only[List.getElem?_append,List.length_append,List.length_take,List.getElem?_take,List.getElem?_drop]
 have e:min p l.length=p:=by omega
 rw[e]
 by_cases h1:q<p
 ·simp[h1,show q<p+vs.length from by omega]
 ·by_cases h2:q<p+vs.length
  ·simp[h1,h2]
  ·simp only[h1,h2,if_false]
   congr 1
   omega
theorem splice_length{α:Type}(l vs:List α)(p:Nat)(h:p+vs.length≤l.length):(l.take p++vs++l.drop (p+vs.length)).length=l.length:=by
 simp only[List.length_append,List.length_take,List.length_drop]
 omega
theorem splice_take{α:Type}(l vs:List α)(p m:Nat)(h:p+vs.length≤m)(hm:m≤l.length) :
  (l.take p++vs++l.drop (p+vs.length)).take m=(l.take m).take p++vs++(l.take m).drop (p+vs.length):=by
 apply List.ext_getElem?
 intro q
 rw[splice_get _ _ _ _ (by rw[List.length_take];omega),List.getElem?_take]
 by_cases hq:q<m
 ·rw[if_pos hq,splice_get _ _ _ _ (by omega)]
  simp only[List.getElem?_take,if_pos hq]
 ·rw[if_neg hq]
  simp[List.getElem?_take,hq,show ¬q<p from by omega,show ¬q<p+vs.length from by omega]
theorem run_store{P:Program}{t:TypeId}{k b off:Nat}{vx:Value}{w:World}{cur:Array Value}{T:TypeId}(hk:sizeT P t=some k)(hsz:vx.cells.size=k)(hb:w.heap[b]? = some (.cells cur T (0,0)))
  (hfit:off+k≤cur.size) (h1:∀u∈vx.cells.toList,u.oneCell'=true) :
  (Instr.storeAt t (.pointer (some (at_ b off))) vx).run P w= .ok () (w.setRow b (cur.toList.take off++vx.cells.toList++cur.toList.drop (off+vx.cells.toList.length)).toArray):=by
 have hst:=run_storeCells_at P b off T vx.cells.toList 0 cur w hb (by simpa[hsz]using hfit) h1
 simp only[Nat.add_zero]at hst
 unfold Instr.storeAt
 simp only[Instr.sureAddr,Sem.run_bind,Sem.run_pure,Result.andThen_ok]
 unfold storeVar
 simp only[Sem.run_bind,sizeT_run hk,Result.andThen_ok,hsz]
 simpa using hst
theorem below_setRow{w0:Base}{w:World}(h:BelowB w0 w){b:Nat}(hb:w0.mine b)(cs:Array Value):BelowB w0 (w.setRow b cs):=
 h.turn rfl rfl rfl (by rw[size_setRow];exact Nat.le_refl _) (some b) (fun k hk hne=>setRow_other w b k cs (fun e=>hne (by rw[e]))) (fun k hk=>by cases hk;exact hb) (fun _=>Nat.le_refl _)
theorem AllM_lt{S:Nat→Prop}{w:World}{κ:Nat→Value}{objs:Nat→Option AObj}{xs:List AV}{get get':Nat→Option Value}(h:AllM (RelL S w κ objs xs) get)(hg:∀i,i<xs.length→get' i=get i):AllM (RelL S w κ objs xs) get':=by
 refine AllM_of fun i x hx=>?_
 obtain⟨u,h1,h2⟩:=AllM_get h i x hx
 exact⟨u,(hg i (List.getElem?_eq_some_iff.1 hx).1).trans h1,h2⟩
theorem shaped_cells{y:AV}{vs cs:List AV}{off:Nat}(h:putAt y.cells off vs=some cs)(hok:vs.all cellOK=true):(shaped y cs).cells=cs:=by
 have one:∀y:AV,y.cells=[y]→(∀ cs,shaped y cs=cs.headD y)→putAt y.cells off vs=some cs→(shaped y cs).cells=cs:=by
  intro y hy hs h
  rw[hs]
  rw[hy]at h
  unfold putAt at h
  split at h
  ·rename_i hle
   simp only[List.length_singleton]at hle
   cases vs with
   | nil=>
     cases off with
     | zero=>simp at h;subst h;simpa using hy
     | succ n=>
       cases n with
       | zero=>simp at h;subst h;simpa using hy
       | succ n=>simp at hle
   | cons v vs=>
     simp only[List.length_cons]at hle
     have e1:off=0:=by omega
     have e2:vs=[]:=List.eq_nil_of_length_eq_zero (by omega)
     subst e1;subst e2
     simp at h
     subst h
     simp only[List.all_cons,List.all_nil,Bool.and_true]at hok
     cases v<;>simp[cellOK]at hok<;>rfl
  ·cases h
 cases y with
 | agg xs=>rfl
 | _=>exact one _ rfl (fun _=>rfl) h
section
variable {F:Nat→Prop} {w0:Base} {κ:Nat→Value} {σ:Env} {a:Act} {w:World}
theorem cells_one(h:St F w0 κ σ a w){x:AV}{v:Value}(hc:cellsNow σ.objs x=true)(hall:x.cells.all (cellNow σ.objs)=true)(hv:(Rel (SS F w0 κ σ w) w κ σ.objs x).val v) :
  AllV (RelL (SS F w0 κ σ w) w κ σ.objs x.cells) v.cells.toList∧∀u∈v.cells.toList,u.oneCell'=true:=by
 have h1:=cellsNow_val h hc hv
 refine⟨h1,fun u hu=>?_⟩
 obtain⟨i,hi,rfl⟩:=List.getElem_of_mem hu
 obtain⟨h2,h3⟩:=AllV_get _ _ _ _ h1
 have hi':i<x.cells.length:=by omega
 exact cellNow_one h (List.all_eq_true.1 hall _ (List.getElem_mem hi')) (h3 i _ _ (List.getElem?_eq_getElem hi') (List.getElem?_eq_getElem hi))
theorem store_sound(h:St F w0 κ σ a w){P:Program}{t:TypeId}{k:Nat}{x p:AV}{vx vp:Value}{r:Nat}{o:AObj}{frz:List Nat}{dst:Option Nat}
  (hx:(Rel (SS F w0 κ σ w) w κ σ.objs x).val vx) (hp:(Rel (SS F w0 κ σ w) w κ σ.objs p).val vp) (hk:sizeT P t=some k) (hl:x.cells.length=k) (hs:storeA σ x p=some (r,o,frz)) (hd:dst.all σ.n.ok=true) :
  ∃w',(Instr.storeAt t vp vx).run P w= .ok () w'∧∃κ',St F w0 κ' ((σ.turn r o frz).put dst .und) (a.put dst undef) w':=by
 unfold storeA at hs
 split at hs
 case isFalse=>cases hs
 rename_i hc
 simp only[Bool.and_eq_true]at hc
 obtain⟨hcv,hone⟩:=cells_one h hc.1 hc.2 hx
 have hsz:vx.cells.size=k:=by
  have:=(AllV_get _ _ _ _ hcv).1
  simp only[Array.length_toList]at this
  omega
 cases p with
 | ba b off=>
   simp only at hs
   split at hs
   case h_2=>cases hs
   rename_i cs hb
   obtain⟨cs',h1,h2⟩:=map_some hs
   cases h2
   simp only[Rel,one]at hp
   obtain⟨_,_,_,blk,h3,h4⟩:=hp
   subst h4
   obtain⟨blk',T,arr,h5,h6,h7,h8⟩:=h.objs r _ hb
   have hblk:blk'=blk:=by rw[h3]at h5;cases h5;rfl
   subst hblk
   obtain⟨h9,h10⟩:=putAt_sound h8 hcv h1
   simp only[Array.length_toList]at h9
   refine⟨_,run_store hk hsz h7 (by omega) hone,?_⟩
   have m:Turn κ σ w (w.setRow blk' (arr.toList.take off++vx.cells.toList++arr.toList.drop (off+vx.cells.toList.length)).toArray) r (.box cs' false) (κ r) []:=by
    refine⟨by rw[size_setRow];exact Nat.le_refl _,fun k hk hne=>setRow_other _ _ _ _ fun e=>?_,fun o ho=>?_,by simp,fun b' hb'=> .inl ⟨_,hb,hb'⟩,fun o ho=>?_⟩
    ·subst e
     exact hne _ hb (by rw[h3];rfl)
    ·rw[hb]at ho;cases ho;rfl
    ·rw[hb]at ho;cases ho
     exact⟨cs',rfl,rfl⟩
   refine⟨_,h.turned m (below_setRow h.below (h.mine r _ blk' hb (by rw[h5];rfl)) _) hd ⟨blk',T,_,by rw[upd_same];exact h3,h6,setRow_heap w blk' arr _ T _ h7,?_⟩ (by simp[Rel,one])⟩
   have:=(RelL_mono (fun k=>m.sub (F:=F) (w0:=w0) k) (fun k=>m.keepS (F:=F) (w0:=w0) k) m.objLe cs').allV h10
   simpa using this
 | oa r' g i off=>
   simp only at hs
   split at hs
   case h_2=>cases hs
   rename_i e k' xs g' hr
   split at hs
   case isFalse=>cases hs
   rename_i hg
   subst hg
   obtain⟨y,hy,hs⟩:=bind_some' hs
   obtain⟨vs,hvs,hs⟩:=bind_some' hs
   split at hs
   case isFalse=>cases hs
   rename_i hok
   simp only[Bool.and_eq_true]at hok
   obtain⟨cs,hput,h2⟩:=map_some hs
   cases h2
   simp only[Rel,one]at hp
   obtain⟨_,_,_,_,_,hr',_,hpp⟩:=hp
   rw[hr]at hr'
   cases hr'
   obtain⟨blk,hblk,hvp⟩:=hpp rfl
   subst hvp
   obtain⟨hk0,zs,hown,hzone,hzs⟩:=h.objs r _ hr
   have hi:i<xs.length:=(List.getElem?_eq_some_iff.1 hy).1
   rcases hown.2 with⟨_,h0⟩|⟨b,cap,cur,hv,hB,hheap,hn,hcap,hcsz,htake⟩
   ·omega
   have:b=blk:=by rw[hv]at hblk;simpa[blkOf]using hblk
   subst this
   have hykn:y.cells.length=k':=by
    obtain⟨h4,_⟩:=hzs i (Rel _ w (fun _=>undef) (fun _=>none) y) (by rw[RelL_get,hy];rfl)
    rw[Rel_n]at h4
    exact h4
   have hvl:vs.length=x.cells.length:=(mapO_some hvs).1
   have hoff:off+k≤k':=by
    unfold putAt at hput
    split at hput
    ·omega
    ·cases hput
   have hsl:vx.cells.toList.length=k:=by rw[Array.length_toList];exact hsz
   have hik:i*k'+k'≤xs.length*k':=by
    have:=Nat.mul_le_mul_right k' (show i+1≤xs.length from hi)
    rwa[Nat.add_mul,Nat.one_mul]at this
   have hcapk:xs.length*k'≤cap*k':=Nat.mul_le_mul_right k' hn
   have hcurl:cur.toList.length=cap*k':=by rw[Array.length_toList];exact hcsz
   have hrun:=run_store (b:=b) (off:=i*k'+off) hk hsz hheap (by rw[hcsz];omega) hone
   refine⟨_,hrun,?_⟩
   let frz:=x.cells.flatMap (refsOf σ.objs DEPTH)
   have hnot:r∉frz:=fun hm=>by
    have:=List.all_eq_true.1 hok.2 r hm
    simp at this
   have m:Turn κ σ w (w.setRow b (cur.toList.take (i*k'+off)++vx.cells.toList++cur.toList.drop (i*k'+off+vx.cells.toList.length)).toArray) r (.row e k' (xs.set i (shaped y cs)) g' false) (κ r) frz:=by
    refine⟨by rw[size_setRow];exact Nat.le_refl _,fun k hk hne=>setRow_other _ _ _ _ fun e=>?_,fun o ho=>?_,hnot,fun b' hb'=> .inl ⟨_,hr,hb'⟩,fun o ho=>?_⟩
    ·subst e
     exact hne _ hr hblk
    ·rw[hr]at ho;cases ho;rfl
    ·rw[hr]at ho;cases ho
     exact⟨_,g',rfl,Nat.le_refl _,fun _=>rfl⟩
   have hS:=fun k=>m.sub (F:=F) (w0:=w0) k
   have hwS:=fun k=>m.keepS (F:=F) (w0:=w0) k
   refine⟨_,h.turned m (below_setRow h.below (h.mine r _ b hr hblk) _) hd ⟨hk0,zs.take (i*k'+off)++vx.cells.toList++zs.drop (i*k'+off+vx.cells.toList.length),?_,?_,?_⟩ (by simp[Rel,one])⟩
   ·have hzl:=hown.1
    refine⟨by rw[List.length_set,splice_length _ _ _ (by omega),hzl],.inr ⟨b,cap,_,by rw[upd_same,List.length_set];exact hv,hB,setRow_heap w b cur _ _ _ hheap,by rw[List.length_set];exact hn,hcap,?_,?_⟩⟩
    ·rw[List.size_toArray,splice_length _ _ _ (by omega),Array.length_toList,hcsz]
    ·rw[List.length_set]
     show(cur.toList.take (i*k'+off)++vx.cells.toList++cur.toList.drop (i*k'+off+vx.cells.toList.length)).take (xs.length*k')=_
     rw[splice_take _ _ _ _ (by omega) (by omega),htake]
   ·intro u hu
    simp only[List.mem_append]at hu
    rcases hu with(hu|hu)|hu
    ·exact hzone u (List.mem_of_mem_take hu)
    ·exact hone u hu
    ·exact hzone u (List.mem_of_mem_drop hu)
   ·intro j rel hj
    rw[RelL_get]at hj
    have hzl:=hown.1
    have hjl:j<xs.length:=by
     rw[← List.length_set (as:=xs) (i:=i) (a:=shaped y cs)]
     cases hx2:(xs.set i (shaped y cs))[j]? with
     | none=>rw[hx2]at hj;cases hj
     | some q=>exact(List.getElem?_eq_some_iff.1 hx2).1
    have hjk:j*k'+k'≤xs.length*k':=by
     have:=Nat.mul_le_mul_right k' (show j+1≤xs.length from hjl)
     rwa[Nat.add_mul,Nat.one_mul]at this
    have mono0:∀(q:List AV)(get:Nat→Option Value),AllM (RelL (SS F w0 κ σ w) w (fun _=>undef) (fun _=>none) q) get→
      AllM (RelL (Sset F w0.mine (w.setRow b (cur.toList.take (i*k'+off)++vx.cells.toList++cur.toList.drop (i*k'+off+vx.cells.toList.length)).toArray) (upd κ r (κ r)) (σ.turn r (.row e k' (xs.set i (shaped y cs)) g' false) frz).objs) (w.setRow b (cur.toList.take (i*k'+off)++vx.cells.toList++cur.toList.drop (i*k'+off+vx.cells.toList.length)).toArray) (fun _=>undef) (fun _=>none) q) get:=
     fun q get=>(RelL_mono hS hwS (ObjLe.none _ _) q).allM
    by_cases hij:j=i
    ·subst hij
     rw[List.getElem?_set_self hjl]at hj
     simp only[Option.map_some,Option.some.injEq]at hj
     subst hj
     have hcells:=shaped_cells hput hok.1
     have hcl:cs.length=k':=by
      unfold putAt at hput
      split at hput
      ·rename_i hle
       simp only[Option.some.injEq]at hput
       subst hput
       rw[splice_length _ _ _ hle,hykn]
      ·cases hput
     refine⟨by rw[Rel_n,hcells,hcl],?_⟩
     apply cells_mem
     rw[hcells]
     refine AllM_of fun c q hq=>?_
     have hcd:cs=y.cells.take off++vs++y.cells.drop (off+vs.length):=by
      unfold putAt at hput
      split at hput
      ·exact(Option.some.inj hput).symm
      ·cases hput
     have hc':c<k':=by rw[← hcl];exact(List.getElem?_eq_some_iff.1 hq).1
     rw[hcd,splice_get _ _ _ _ (by omega)]at hq
     rw[splice_get _ _ _ _ (by omega)]
     obtain⟨_,hy5⟩:=hzs j (Rel _ w (fun _=>undef) (fun _=>none) y) (by rw[RelL_get,hy];rfl)
     have hy6:=mono0 _ _ (mem_cells hy5)
     by_cases c1:c<off
     ·rw[if_pos c1]at hq
      rw[if_pos (show j*k'+c<j*k'+off by omega)]
      exact AllM_get hy6 c q hq
     ·rw[if_neg c1]at hq
      rw[if_neg (show ¬j*k'+c<j*k'+off by omega)]
      by_cases c2:c<off+vs.length
      ·rw[if_pos c2]at hq
       rw[if_pos (show j*k'+c<j*k'+off+vx.cells.toList.length by omega),show j*k'+c-(j*k'+off)=c-off by omega]
       obtain⟨_,hm2⟩:=mapO_some hvs
       have hcx:c-off<x.cells.length:=by omega
       obtain⟨z,hz1,hz2⟩:=hm2 (c-off) _ (List.getElem?_eq_getElem hcx)
       rw[hz2]at hq
       cases hq
       have hcu:c-off<vx.cells.toList.length:=by omega
       refine⟨vx.cells.toList[c-off],List.getElem?_eq_getElem hcu,?_⟩
       have hval:=(AllV_get _ _ _ _ hcv).2 (c-off) _ _ (List.getElem?_eq_getElem hcx) (List.getElem?_eq_getElem hcu)
       let T:Nat→Prop:=fun b=>SS F w0 κ σ w b∨∃id∈frz,σ.objs id≠none∧blkOf (κ id)=some b
       have h3:=expt_sound h (T:=T) (fun b hb=> .inl hb) _ _ _ _ hz1 hval fun id hid hne b hb=> .inr ⟨id,List.mem_flatMap.2 ⟨_,List.getElem_mem hcx,hid⟩,hne,hb⟩
       refine(Rel_mono (κ:=κ0) (κ':=fun _=>undef) ?_ ?_ (ObjLe.none _ _) _).val _ h3
       ·rintro b' (hb'|⟨id,hid,hne,hb'⟩)
        ·exact hS b' hb'
        ·exact m.frozen h hid hne hb'
       ·rintro b' (hb'|⟨id,hid,hne,hb'⟩)
        ·exact hwS b' hb'
        ·obtain⟨o,ho⟩:=Option.ne_none_iff_exists'.1 hne
         exact m.other h (fun e=>hnot (e▸hid)) ho hb'
      ·rw[if_neg c2]at hq
       rw[if_neg (show ¬j*k'+c<j*k'+off+vx.cells.toList.length by omega)]
       exact AllM_get hy6 c q hq
    ·rw[List.getElem?_set_ne (fun e=>hij e.symm)]at hj
     cases hxj:xs[j]? with
     | none=>rw[hxj]at hj;cases hj
     | some q=>
       rw[hxj]at hj
       simp only[Option.map_some,Option.some.injEq]at hj
       subst hj
       obtain⟨h4,h5⟩:=hzs j (Rel _ w (fun _=>undef) (fun _=>none) q) (by rw[RelL_get,hxj];rfl)
       rw[Rel_n]at h4
       refine⟨by rw[Rel_n];exact h4,cells_mem (AllM_lt (mono0 _ _ (mem_cells h5)) fun c hc=>?_)⟩
       rw[h4]at hc
       rw[splice_get _ _ _ _ (by omega)]
       rcases Nat.lt_or_gt_of_ne hij with hlt|hlt
       ·have:=Nat.mul_le_mul_right k' (show j+1≤i from hlt)
        rw[Nat.add_mul,Nat.one_mul]at this
        rw[if_pos (by omega)]
       ·have:=Nat.mul_le_mul_right k' (show i+1≤j from hlt)
        rw[Nat.add_mul,Nat.one_mul]at this
        rw[if_neg (by omega),if_neg (by omega)]
 | _=>simp at hs
end
end Go.Abs
