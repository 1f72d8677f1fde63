import Derived.Test.YthcgpcmeffkijaaGreatDoorSAbsP
set_option linter.unusedVariables false
set_option linter.unusedSimpArgs false
namespace Go.Abs
open Go.RowKit
section
variable {F:Nat→Prop} {w0:Base} {κ:Nat→Value} {σ:Env} {a:Act} {w:World}
theorem row_head{S:Nat→Prop}{w:World}{B:Nat}{v:Value}{e k:Nat}{xs:List AV}(h:RowOK S w B v e k xs):∃A c,v= .slice A xs.length c∧xs.length≤c∧(A=none→xs.length=0∧c=0)∧∀ad,A=some ad→ad=at_ ad.block 0:=by
 obtain⟨_,zs,hown,_⟩:=h
 rcases hown.2 with⟨h4,h5⟩|⟨b,cap,cur,h4,_,_,h5,_⟩
 ·exact⟨none,0,by rw[h4,h5],by omega,fun _=>⟨h5,rfl⟩,fun ad h=>(by cases h)⟩
 ·exact⟨_,cap,h4,h5,fun h=>(by cases h),fun ad h=>(by cases h;rfl)⟩
theorem at_add(b o n:Nat):(at_ b o).add n=at_ b (o+n):=by simp[at_,Addr.add_lit]
theorem cutOwn_sound(h:St F w0 κ σ a w){P:Program}{t:TypeId}{x q:Operand}{r:Nat}{o:AObj}{v:AV}{dst:Option Nat}(hc:cutOwn P σ t (evA σ.slots x) (evA σ.slots q)=some (r,o,v))(hd:dst.all σ.n.ok=true) :
  ∃u,(Instr.sliceAt t (a.eval x) none (some (a.eval q)) none).run P w= .ok u w∧∃κ',St F w0 κ' ((σ.turn r o []).put dst v) (a.put dst u) w:=by
 have hx:=h.evA x
 unfold cutOwn at hc
 generalize evA σ.slots x=X at hc hx
 cases X with
 | own r' g=>
   simp only at hc
   split at hc
   case h_2=>cases hc
   rename_i e k xs g' hr
   split at hc
   case isFalse=>cases hc
   rename_i hc1
   obtain⟨rfl,het,hkt⟩:=hc1
   obtain⟨hh,hq,hc2⟩:=bind_some' hc
   split at hc2
   case isFalse=>cases hc2
   rename_i hle
   simp only[Option.some.injEq,Prod.mk.injEq]at hc2
   obtain⟨rfl,rfl,rfl⟩:=hc2
   simp only[Rel,one]at hx
   obtain⟨_,_,_,_,_,hr',_,hxv⟩:=hx
   rw[hr]at hr'
   cases hr'
   have hxv:=hxv rfl
   have hrow:RowOK _ _ _ _ _ _ _:=h.objs r' _ hr
   obtain⟨A,c,hkr,hnc,hA0,hA1⟩:=row_head hrow
   have hrun:=run_cut (n:=xs.length) (c:=c) (A:=A) (lo:=none) (hi:=some q) (hh:=hh) (l:=0) h het hkt hq rfl (Nat.zero_le _) hle hnc
   have hu:(Value.slice (if c=0 then A else A.map (·.add (0*k))) (hh-0) (c-0))= .slice A hh c:=by
    congr 1
    split
    ·rfl
    ·cases A with
     | none=>rfl
     | some ad=>
       rw[hA1 ad rfl]
       simp only[Option.map_some,Nat.zero_mul,at_add]
   rw[hu]at hrun
   refine⟨.slice A hh c,by rw[hxv,hkr];exact hrun,?_⟩
   have hblk:∀b,blkOf (.slice A hh c)=some b→blkOf (κ r')=some b:=fun b hb=>by
    rw[hkr]
    cases A<;>exact hb
   have m:Turn κ σ w w r' (.row e k (xs.take hh) (g'+1) false) (.slice A hh c) []:=by
    refine⟨Nat.le_refl _,fun _ _ _=>rfl,fun o2 ho2=>?_,by simp,fun b hb=> .inl ⟨_,hr,hblk b hb⟩,fun o2 ho2=>?_⟩
    ·rw[hr]at ho2;cases ho2;rfl
    ·rw[hr]at ho2;cases ho2
     exact⟨_,g'+1,rfl,by omega,fun e=>by omega⟩
   have hS:=fun k=>m.sub (F:=F) (w0:=w0) k
   obtain⟨hk0,zs,hown,hzone,hzs⟩:=hrow
   have hlen:(xs.take hh).length=hh:=by rw[List.length_take];omega
   have hmul:hh*k≤xs.length*k:=Nat.mul_le_mul_right k hle
   refine⟨_,h.turned m h.below hd ⟨hk0,zs.take (hh*k),?_,fun u hu=>hzone u (List.mem_of_mem_take hu),fun j rel hj=>?_⟩ ?_⟩
   ·rw[upd_same,hlen]
    refine⟨by rw[List.length_take,hown.1];omega,?_⟩
    rcases hown.2 with⟨h4,h5⟩|⟨b,cap,cur,h4,hB,h5,h6,h7,h8,h9⟩
    ·rw[hkr]at h4
     simp only[Value.slice.injEq]at h4
     obtain⟨rfl,h4a,rfl⟩:=h4
     have h4b:hh=0:=by omega
     subst h4b
     exact .inl ⟨rfl,rfl⟩
    ·rw[hkr]at h4
     simp only[Value.slice.injEq,true_and]at h4
     obtain⟨rfl,rfl⟩:=h4
     refine .inr ⟨b,c,cur,rfl,hB,h5,by omega,h7,h8,?_⟩
     rw[← h9,List.take_take]
     congr 1
     omega
   ·rw[RelL_get,List.getElem?_take]at hj
    split at hj
    case isFalse=>cases hj
    rename_i hjh
    cases hy:xs[j]? with
    | none=>rw[hy]at hj;cases hj
    | some y=>
      rw[hy]at hj
      simp only[Option.map_some,Option.some.injEq]at hj
      subst hj
      obtain⟨h4,h5⟩:=hzs j (Rel _ w (fun _=>undef) (fun _=>none) y) (by rw[RelL_get,hy];rfl)
      rw[Rel_n]at h4
      refine⟨by rw[Rel_n];exact h4,cells_mem ?_⟩
      have h6:=(RelL_mono (κ:=fun _=>undef) (κ':=fun _=>undef) hS (fun _ _=>rfl) (ObjLe.none _ _) y.cells).allM (mem_cells h5)
      refine AllM_lt h6 fun p hp=>?_
      have hjk:j*k+k≤hh*k:=by
       have:=Nat.mul_le_mul_right k (show j+1≤hh from hjh)
       rwa[Nat.add_mul,Nat.one_mul]at this
      rw[List.getElem?_take,if_pos (by omega)]
   ·simp only[Rel,one]
    exact⟨e,k,xs.take hh,g'+1,false,by rw[turn_objs,if_pos rfl],Nat.le_refl _,fun _=>(upd_same _ _ _).symm⟩
 | _=>simp at hc
theorem zeroCells_size(z:Array Value)(n:Nat):(Builtin.zeroCells z n).size=n*z.size:=by simp[Builtin.zeroCells]
theorem zeroCells_get(z:Array Value)(n q:Nat)(hq:q<n*z.size)(h0:0<z.size):(Builtin.zeroCells z n)[q]? = z[q % z.size]? := by
 have h1:q % z.size<z.size:=Nat.mod_lt _ h0
 simp[Builtin.zeroCells,hq,Array.getElem?_eq_getElem h1]
 exact getElem!_pos z (q % z.size) h1
theorem clear_sound(h:St F w0 κ σ a w){P:Program}{t ty:TypeId}{x:AV}{vx:Value}{r:Nat}{o:AObj}{dst:Option Nat}(hx:(Rel (SS F w0 κ σ w) w κ σ.objs x).val vx)(hc:clearA P σ t x=some (r,o))(hd:dst.all σ.n.ok=true) :
  ∃w',(Builtin.clear_ #[t] ty #[vx]).run P w= .ok (.tuple #[]) w'∧∃κ',St F w0 κ' ((σ.turn r o []).put dst (.tup [])) (a.put dst (.tuple #[])) w':=by
 unfold clearA at hc
 cases x with
 | vw r' g i=>
   simp only at hc
   split at hc
   case h_2=>cases hc
   rename_i e k xs g' hr
   split at hc
   case isFalse=>cases hc
   rename_i hc1
   obtain⟨rfl,het,hi⟩:=hc1
   obtain⟨z,hz,hc2⟩:=bind_some' hc
   split at hc2
   case isFalse=>cases hc2
   rename_i hze
   obtain⟨hzk,hkt⟩:=hze
   simp only[Option.some.injEq,Prod.mk.injEq]at hc2
   obtain⟨rfl,rfl⟩:=hc2
   simp only[Rel,one]at hx
   obtain⟨_,_,_,_,_,hr',_,hxv⟩:=hx
   rw[hr]at hr'
   cases hr'
   obtain⟨A,n,c,hkr,hin,rfl⟩:=hxv rfl
   clear hxv
   have hrow:RowOK _ _ _ _ _ _ _:=h.objs r' _ hr
   obtain⟨A',c',hkr',hnc,hA0,hA1⟩:=row_head hrow
   rw[hkr]at hkr'
   simp only[Value.slice.injEq]at hkr'
   obtain⟨rfl,rfl,rfl⟩:=hkr'
   obtain⟨it,zv,hit,hzv,_,_⟩:=zero_cells hz (SS F w0 κ σ w) w κ σ.objs
   have hput:Rel (fun _=>False) w κ0 o0 (.tup [])=Rel (fun _=>False) w κ0 o0 (.tup []):=rfl
   have htup:∀(S:Nat→Prop)(w2:World)(κ2:Nat→Value)(objs2:Nat→Option AObj),(Rel S w2 κ2 objs2 (.tup [])).val (.tuple #[]):=fun S w2 κ2 objs2=>by
    simp only[Rel,one]
    exact⟨[],rfl,rfl,fun i r u hr=>by simp[RelL]at hr⟩
   rcases Nat.eq_zero_or_pos (xs.length-i)with h0|h0
   ·-- nothing to clear
    refine⟨w,?_,?_⟩
    ·unfold Builtin.clear_
     simp only[h0,List.getElem?_toArray,List.getElem?_cons_zero,Sem.run_bind,run_underlying (elemT_some het),Result.andThen_ok]
     generalize (if c=i then A else A.map (·.add (i*k)))=A2
     cases A2<;>rfl
    ·have e1:xs.take i++List.replicate (xs.length-i) z=xs:=by
      rw[h0,List.replicate_zero,List.append_nil,List.take_of_length_le (by omega)]
     have m:Turn κ σ w w r' (.row e k (xs.take i++List.replicate (xs.length-i) z) g' false) (κ r') []:=by
      refine⟨Nat.le_refl _,fun _ _ _=>rfl,fun o2 ho2=>?_,by simp,fun b hb=> .inl ⟨_,hr,hb⟩,fun o2 ho2=>?_⟩
      ·rw[hr]at ho2;cases ho2;rfl
      ·rw[hr]at ho2;cases ho2
       exact⟨_,g',rfl,Nat.le_refl _,fun _=>rfl⟩
     refine⟨_,h.turned m h.below hd ?_ (htup _ _ _ _)⟩
     show RowOK _ _ _ _ _ _ _
     rw[upd_same]
     exact(congrArg (RowOK _ _ _ _ _ _) e1).mpr (hrow.mono (fun k=>m.sub (F:=F) (w0:=w0) k) (fun _ _=>rfl) fun b hb=>⟨rfl,Nat.zero_le _⟩)
   ·obtain⟨hk0,zs,hown,hzone,hzs⟩:=hrow
    rcases hown.2 with⟨_,h5⟩|⟨b,cap,cur,h4,hB,hheap,h6,hcap,hcsz,htake⟩
    ·omega
    rw[hkr]at h4
    cases h4
    have hblk:blkOf (κ r')=some b:=by rw[hkr];rfl
    have hzok:z.cells.length=k∧z.cells.all cellOK=true:=by
     unfold elemOk at hzk
     simpa using hzk
    obtain⟨it2,zv2,hit2,hzv2,_,hzc0⟩:=zero_cells hz (fun _=>False) w κ0 o0
    rw[hit]at hit2
    cases hit2
    rw[hzv]at hzv2
    cases hzv2
    obtain⟨hzl,hzc⟩:=AllV_get _ _ _ _ hzc0
    have hzs2:zv.cells.size=k:=by rw[← hzok.1,hzl];simp
    have hone:∀u∈zv.cells.toList,u.oneCell'=true:=fun u hu=>by
     obtain⟨p,hp⟩:=List.getElem?_of_mem hu
     have hpl:p<z.cells.length:=by rw[hzl];exact(List.getElem?_eq_some_iff.1 hp).1
     exact cellOK_one (List.all_eq_true.1 hzok.2 _ (List.getElem_mem hpl)) (hzc p _ u (List.getElem?_eq_getElem hpl) hp)
    let L:=(Builtin.zeroCells zv.cells (xs.length-i)).toList
    have hLl:L.length=(xs.length-i)*k:=by simp[L,zeroCells_size,hzs2]
    have hLg:∀q,q<(xs.length-i)*k→L[q]? = zv.cells[q % k]? := fun q hq=>by
     have:=zeroCells_get zv.cells (xs.length-i) q (by rw[hzs2];exact hq) (by omega)
     rw[hzs2]at this
     rw[← this]
     simp[L]
    have hLone:∀u∈L,u.oneCell'=true:=fun u hu=>by
     obtain⟨q,hq⟩:=List.getElem?_of_mem hu
     have hql:q<(xs.length-i)*k:=by rw[← hLl];exact(List.getElem?_eq_some_iff.1 hq).1
     rw[hLg q hql]at hq
     exact hone u (by rw[← Array.getElem?_toList]at hq;exact List.mem_of_getElem? hq)
    have hmul:i*k+(xs.length-i)*k=xs.length*k:=by
     have hd2:i+(xs.length-i)=xs.length:=Nat.add_sub_cancel' hi
     rw[← Nat.add_mul,hd2]
    have hcapk:xs.length*k≤c*k:=Nat.mul_le_mul_right k h6
    have hcurl:cur.toList.length=c*k:=by rw[Array.length_toList];exact hcsz
    have hst:=run_storeCells_at P b (i*k) e L 0 cur w hheap (by rw[hLl,hcsz];omega) hLone
    simp only[Nat.add_zero]at hst
    refine⟨w.setRow b (cur.toList.take (i*k)++L++cur.toList.drop (i*k+L.length)).toArray,?_,?_⟩
    ·unfold Builtin.clear_
     obtain⟨mm,hmm⟩:∃mm,xs.length-i=mm+1:=⟨xs.length-i-1,by omega⟩
     have hci:¬c=i:=by omega
     simp only[List.getElem?_toArray,List.getElem?_cons_zero,Sem.run_bind,run_underlying (elemT_some het),Result.andThen_ok,if_neg hci,Option.map_some,at_add,Nat.zero_add]
     have hst2:=hst
     simp only[L,hmm]at hst2
     simp only[hmm,Sem.run_bind,typeInfo_zero hit hzv,Result.andThen_ok,hst2]
     simp only[L,hmm]
     rfl
    have m:Turn κ σ w (w.setRow b (cur.toList.take (i*k)++L++cur.toList.drop (i*k+L.length)).toArray) r' (.row e k (xs.take i++List.replicate (xs.length-i) z) g' false) (κ r') []:=by
     refine⟨by rw[size_setRow];exact Nat.le_refl _,fun k hk hne=>setRow_other _ _ _ _ fun e=>?_,fun o2 ho2=>?_,by simp,fun b' hb'=> .inl ⟨_,hr,hb'⟩,fun o2 ho2=>?_⟩
     ·subst e
      exact hne _ hr hblk
     ·rw[hr]at ho2;cases ho2;rfl
     ·rw[hr]at ho2;cases ho2
      exact⟨_,g',rfl,Nat.le_refl _,fun _=>rfl⟩
    have hS:=fun k=>m.sub (F:=F) (w0:=w0) k
    have hwS:=fun k=>m.keepS (F:=F) (w0:=w0) k
    have hzl2:=hown.1
    have hnl:(xs.take i++List.replicate (xs.length-i) z).length=xs.length:=by rw[List.length_append,List.length_take,List.length_replicate];omega
    refine⟨_,h.turned m (below_setRow h.below (h.mine r' _ b hr hblk) _) hd ⟨hk0,zs.take (i*k)++L++zs.drop (i*k+L.length),?_,?_,?_⟩ (htup _ _ _ _)⟩
    ·refine⟨by rw[hnl,splice_length _ _ _ (by omega),hzl2],.inr ⟨b,c,_,by rw[upd_same,hnl];exact hkr,hB,setRow_heap w b cur _ _ _ hheap,by rw[hnl];exact h6,hcap,?_,?_⟩⟩
     ·rw[List.size_toArray,splice_length _ _ _ (by omega),Array.length_toList,hcsz]
     ·rw[hnl]
      show(cur.toList.take (i*k)++L++cur.toList.drop (i*k+L.length)).take (xs.length*k)=_
      rw[splice_take _ _ _ _ (by omega) (by omega),htake]
    ·intro u hu
     simp only[List.mem_append]at hu
     rcases hu with(hu|hu)|hu
     ·exact hzone u (List.mem_of_mem_take hu)
     ·exact hLone u hu
     ·exact hzone u (List.mem_of_mem_drop hu)
    ·intro j rel hj
     rw[RelL_get]at hj
     have hjl:j<xs.length:=by
      rw[← hnl]
      cases hx2:(xs.take i++List.replicate (xs.length-i) z)[j]? with
      | none=>rw[hx2]at hj;cases hj
      | some q=>exact(List.getElem?_eq_some_iff.1 hx2).1
     have hjk:j*k+k≤xs.length*k:=by
      have:=Nat.mul_le_mul_right k (show j+1≤xs.length from hjl)
      rwa[Nat.add_mul,Nat.one_mul]at this
     by_cases hji:j<i
     ·have hjk2:j*k+k≤i*k:=by
       have:=Nat.mul_le_mul_right k (show j+1≤i from hji)
       rwa[Nat.add_mul,Nat.one_mul]at this
      rw[List.getElem?_append_left (by rw[List.length_take];omega),List.getElem?_take,if_pos hji,List.getElem?_eq_getElem hjl]at hj
      simp only[Option.map_some,Option.some.injEq]at hj
      subst hj
      obtain⟨h4,h5⟩:=hzs j (Rel _ w (fun _=>undef) (fun _=>none) xs[j]) (by rw[RelL_get,List.getElem?_eq_getElem hjl];rfl)
      rw[Rel_n]at h4
      refine⟨by rw[Rel_n];exact h4,cells_mem ?_⟩
      have h6:=(RelL_mono (κ:=fun _=>undef) (κ':=fun _=>undef) hS hwS (ObjLe.none _ _) (xs[j]).cells).allM (mem_cells h5)
      refine AllM_lt h6 fun p hp=>?_
      rw[splice_get _ _ _ _ (by omega),if_pos (by omega)]
     ·have hjk3:i*k≤j*k:=Nat.mul_le_mul_right k (by omega)
      have hsub:j*k-i*k=(j-i)*k:=(Nat.sub_mul _ _ _).symm
      rw[List.getElem?_append_right (by rw[List.length_take];omega),List.getElem?_replicate,if_pos (by rw[List.length_take];omega)]at hj
      simp only[Option.map_some,Option.some.injEq]at hj
      subst hj
      refine⟨by rw[Rel_n];exact hzok.1,cells_mem (AllM_of fun p y hy=>?_)⟩
      have hp:p<k:=by rw[← hzok.1];exact(List.getElem?_eq_some_iff.1 hy).1
      obtain⟨_,_,hit3,hzv3,_,hzc3⟩:=zero_cells hz (Sset F w0.mine (w.setRow b (cur.toList.take (i*k)++L++cur.toList.drop (i*k+L.length)).toArray) (upd κ r' (κ r')) (σ.turn r' (.row e k (xs.take i++List.replicate (xs.length-i) z) g' false) []).objs) (w.setRow b (cur.toList.take (i*k)++L++cur.toList.drop (i*k+L.length)).toArray) (fun _=>undef) (fun _=>none)
      rw[hit]at hit3
      cases hit3
      rw[hzv]at hzv3
      cases hzv3
      have hpz:p<zv.cells.size:=by omega
      refine⟨zv.cells[p],?_,(AllV_get _ _ _ _ hzc3).2 p y _ hy (by rw[Array.getElem?_toList,Array.getElem?_eq_getElem hpz])⟩
      show(zs.take (i*k)++L++zs.drop (i*k+L.length))[j*k+p]? = _
      rw[splice_get _ _ _ _ (by omega),if_neg (by omega),if_pos (by omega)]
      have e3:j*k+p-i*k=(j-i)*k+p:=by omega
      rw[e3,hLg _ (by
       have:(j-i)*k+k≤(xs.length-i)*k:=by
        have:=Nat.mul_le_mul_right k (show j-i+1≤xs.length-i by omega)
        rwa[Nat.add_mul,Nat.one_mul]at this
       omega)]
      rw[show ((j-i)*k+p) % k=p from by rw[Nat.add_comm,Nat.add_mul_mod_self_right,Nat.mod_eq_of_lt hp],Array.getElem?_eq_getElem hpz]
 | _=>simp at hc
end
end Go.Abs
