import Derived.Test.YthcgpcmeffkijaaGreatDoorSAbsE
import Derived.Lib.DecodeN
import Derived.Laws.Tables
import Derived.Great.BuildSlice
import Derived.Laws.MakeOwn
set_option linter.unusedVariables false
set_option linter.unusedSimpArgs false
namespace Go.Abs
open Go.RowKit
section
variable {F:Nat→Prop} {w0:Base} {κ:Nat→Value} {σ:Env} {a:Act} {w:World}
theorem elemT_some{P:Program}{t e:TypeId}(h:elemT P t=some e):P.underlying t=some (.slice e):=by
 unfold elemT at h
 split at h
 ·rename_i e' hu;simp only[Option.some.injEq]at h;subst h;exact hu
 ·cases h
theorem idx_sound{S:Nat→Prop}{κ:Nat→Value}{objs:Nat→Option AObj}{x:AV}{v:Value}{j:Nat}(h:idx x=some j)(hv:(Rel S w κ objs x).val v):∃k i,v= .int k i∧0≤i∧i.toNat=j:=by
 unfold idx at h
 split at h
 ·rename_i k i
  split at h
  ·rename_i hi
   simp only[Option.some.injEq]at h
   simp only[Rel,one]at hv
   exact⟨k,i,hv,hi,h⟩
  ·cases h
 ·cases h
theorem addr_sound(h:St F w0 κ σ a w){P:Program}{t:TypeId}{x i y:AV}{v vi:Value}(hv:(Rel (SS F w0 κ σ w) w κ σ.objs x).val v)(hi:(Rel (SS F w0 κ σ w) w κ σ.objs i).val vi)
  (ha:addr P σ.objs t x i=some y):∃u,(Instr.indexAt t v vi).run P w= .ok u w∧(Rel (SS F w0 κ σ w) w κ σ.objs y).val u:=by
 unfold addr at ha
 cases h1:elemT P t with
 | none=>rw[h1]at ha;simp at ha
 | some e=>
 cases h2:sizeT P e with
 | none=>rw[h1]at ha;simp[h2]at ha
 | some k=>
 cases h3:idx i with
 | none=>rw[h1]at ha;simp[h2,h3]at ha
 | some j=>
 rw[h1]at ha
 simp only[Option.bind_some,h2,h3]at ha
 obtain⟨ki,n,rfl,hn,hnj⟩:=idx_sound h3 hi
 have hu:=elemT_some h1
 cases x with
 | sl xs=>
   simp only at ha
   cases hx:xs[j]? with
   | none=>rw[hx]at ha;simp at ha
   | some z=>
     rw[hx]at ha
     simp only[Option.bind_some]at ha
     split at ha
     ·rename_i hk
      simp only[Option.some.injEq]at ha
      subst ha
      simp only[Rel,one]at hv
      obtain⟨A,c,rfl,hc,_,hm⟩:=hv
      have hj:j<xs.length:=(List.getElem?_eq_some_iff.1 hx).1
      obtain⟨b,o,k',rfl,hb,hm⟩:=hm (by intro e;rw[e]at hj;simp at hj)
      obtain⟨h4,h5⟩:=hm j (Rel _ w κ (fun _=>none) z) (by rw[RelL_get,hx];rfl)
      rw[Rel_n,hk]at h4
      subst h4
      refine⟨.pointer (some (at_ b (o+j*k))),?_,?_⟩
      ·unfold Instr.indexAt
       simp only[asIntOf,Sem.run_bind,Sem.run_pure,Result.andThen_ok,run_underlying hu]
       rw[if_pos ⟨hn,by omega⟩]
       simp only[Sem.run_bind,sizeT_run h2,Result.andThen_ok,Sem.run_pure,hnj,Addr.add_lit]
      ·simp only[Rel,one]
       exact⟨b,o+j*k,rfl,hb,mem_cells h5⟩
     ·cases ha
 | own r g=>
   simp only at ha
   split at ha
   ·rename_i e' k' xs g' fz ho
    split at ha
    ·rename_i hg
     subst hg
     split at ha
     ·rename_i hj
      split at ha
      ·rename_i hk
       simp only[Option.some.injEq]at ha
       subst ha
       subst hk
       simp only[Rel,one]at hv
       obtain⟨_,_,_,_,_,ho',_,h4⟩:=hv
       rw[ho]at ho'
       simp only[Option.some.injEq,AObj.row.injEq]at ho'
       obtain⟨rfl,rfl,rfl,rfl,rfl⟩:=ho'
       have hv:=h4 rfl
       obtain⟨b,c,h5,h6,h7⟩:=row_elem h ho (List.getElem?_eq_getElem hj)
       rw[hv,h5]
       refine⟨.pointer (some (at_ b (j*k'))),?_,?_⟩
       ·unfold Instr.indexAt
        simp only[asIntOf,Sem.run_bind,Sem.run_pure,Result.andThen_ok,run_underlying hu]
        rw[if_pos ⟨hn,by omega⟩]
        simp only[Sem.run_bind,sizeT_run h2,Result.andThen_ok,Sem.run_pure,hnj,Addr.add_lit,Nat.zero_add]
       ·simp only[Rel,one]
        exact⟨_,_,_,_,_,ho,Nat.le_refl _,fun _=>⟨b,by rw[h5];rfl,rfl⟩⟩
      ·cases ha
     ·cases ha
    ·cases ha
   ·cases ha
 | _=>simp at ha
theorem faddr_sound(h:St F w0 κ σ a w){P:Program}{s:TypeId}{f:Nat}{x y:AV}{v:Value}(hv:(Rel (SS F w0 κ σ w) w κ σ.objs x).val v)(ha:faddr P σ.objs s f x=some y) :
  ∃u,(Instr.fieldAt s v f).run P w= .ok u w∧(Rel (SS F w0 κ σ w) w κ σ.objs y).val u:=by
 unfold faddr at ha
 split at ha
 ·rename_i fs hu
  cases hf:fs[f]? with
  | none=>rw[hf]at ha;simp at ha
  | some fd=>
  cases hk:sizeT P fd.type with
  | none=>rw[hf]at ha;simp[hk]at ha
  | some k=>
    rw[hf]at ha
    simp only[Option.bind_some,hk]at ha
    split at ha
    ·cases ha
    ·rename_i hk0
     have run:∀b o,(Instr.fieldAt s (.pointer (some (at_ b o))) f).run P w= .ok (.pointer (some (at_ b (o+fd.offset)))) w:=by
      intro b o
      unfold Instr.fieldAt
      simp only[Sem.run_bind,run_underlying hu,Result.andThen_ok,hf,Instr.sureAddr,Sem.run_pure]
      unfold fieldPlace
      simp only[Sem.run_bind,sizeT_run hk,Result.andThen_ok,if_neg hk0,Sem.run_pure,Addr.add_lit]
     cases x with
     | ia cs off=>
       simp only[plus,Option.some.injEq]at ha
       subst ha
       simp only[Rel,one]at hv
       obtain⟨b,o,rfl,hb,hm⟩:=hv
       refine⟨_,run _ _,?_⟩
       simp only[Rel,one]
       exact⟨b,o,by rw[Nat.add_assoc],hb,hm⟩
     | oa r g i off=>
       simp only[plus]at ha
       split at ha
       ·rename_i e0 k0 xs0 g0 fz0 ho0
        split at ha
        ·rename_i hg0
         subst hg0
         simp only[Option.some.injEq]at ha
         subst ha
         simp only[Rel,one]at hv
         obtain⟨e,k',xs,g',fz,ho,hg,h1⟩:=hv
         have e1:g'=g0:=by rw[ho0]at ho;simp only[Option.some.injEq,AObj.row.injEq]at ho;exact ho.2.2.2.1.symm
         obtain⟨b,h2,rfl⟩:=h1 e1.symm
         refine⟨_,run _ _,?_⟩
         simp only[Rel,one]
         exact⟨_,_,_,_,_,ho,hg,fun _=>⟨b,h2,by rw[Nat.add_assoc]⟩⟩
        ·cases ha
       ·cases ha
     | ba b0 off=>
       simp only[plus,Option.some.injEq]at ha
       subst ha
       simp only[Rel,one]at hv
       obtain⟨cs,fz,ho,blk,h1,rfl⟩:=hv
       refine⟨_,run _ _,?_⟩
       simp only[Rel,one]
       exact⟨cs,fz,ho,blk,h1,rfl⟩
     | _=>simp[plus]at ha
 ·cases ha
theorem AllV_cons{S:Nat→Prop}{w:World}{κ:Nat→Value}{objs:Nat→Option AObj}{x:AV}{xs:List AV}{v:Value}{vs:List Value}(h:(Rel S w κ objs x).val v)(hs:AllV (RelL S w κ objs xs) vs):AllV (RelL S w κ objs (x::xs)) (v::vs):=by
 refine⟨by simp[RelL,hs.1],fun i r u hr hu=>?_⟩
 cases i with
 | zero=>
   simp only[RelL,List.getElem?_cons_zero,Option.some.injEq]at hr hu
   subst hr;subst hu
   exact h
 | succ i=>
   simp only[RelL,List.getElem?_cons_succ]at hr hu
   exact hs.2 i r u hr hu
theorem take_drop_V{S:Nat→Prop}{w:World}{κ:Nat→Value}{objs:Nat→Option AObj}{cs:List AV}{vs:List Value}(h:AllV (RelL S w κ objs cs) vs)(off k:Nat):AllV (RelL S w κ objs ((cs.drop off).take k)) ((vs.drop off).take k):=by
 obtain⟨h1,h2⟩:=AllV_get _ _ _ _ h
 refine AllV_of _ _ _ _ (by simp[h1]) fun i x u hx hu=>?_
 rw[List.getElem?_take]at hx hu
 split at hx
 ·rename_i hi
  rw[if_pos hi]at hu
  rw[List.getElem?_drop]at hx hu
  exact h2 _ x u hx hu
 ·cases hx
theorem fieldV_sound(h:St F w0 κ σ a w){P:Program}{s:TypeId}{f:Nat}{x y:AV}{v:Value}(hv:(Rel (SS F w0 κ σ w) w κ σ.objs x).val v)(ha:fieldV P s f x=some y) :
  ∃u,(Instr.field s v f).run P w= .ok u w∧(Rel (SS F w0 κ σ w) w κ σ.objs y).val u:=by
 unfold fieldV at ha
 split at ha
 ·rename_i fs hu
  cases hf:fs[f]? with
  | none=>rw[hf]at ha;simp at ha
  | some fd=>
  cases hag:isAggT P fd.type with
  | none=>rw[hf]at ha;simp[hag]at ha
  | some ag=>
  cases hk:sizeT P fd.type with
  | none=>rw[hf]at ha;simp[hag,hk]at ha
  | some k=>
    rw[hf]at ha
    simp only[Option.bind_some,hk,hag]at ha
    cases x with
    | agg cs=>
      simp only at ha
      simp only[Rel]at hv
      obtain⟨vs,rfl,hvs⟩:=hv
      obtain⟨h1,h2⟩:=AllV_get _ _ _ _ hvs
      unfold Instr.field
      simp only[Sem.run_bind,run_underlying hu,Result.andThen_ok,hf,asAgg,Sem.run_pure]
      unfold part
      simp only[Sem.run_bind,isAggT_run hag,Result.andThen_ok]
      unfold takeAs at ha
      cases ag with
      | true=>
        simp only[if_true]at ha ⊢
        split at ha
        ·rename_i hle
         simp only[Option.some.injEq]at ha
         subst ha
         refine⟨.agg (vs.toArray.extract fd.offset (fd.offset+k)),by simp only[Sem.run_bind,sizeT_run hk,Result.andThen_ok,Sem.run_pure],?_⟩
         simp only[Rel]
         refine⟨(vs.drop fd.offset).take k,?_,take_drop_V hvs _ _⟩
         congr 1
         apply Array.ext'
         simp[Array.toList_extract,List.extract]
        ·cases ha
      | false=>
        simp only[Bool.false_eq_true,if_false]at ha ⊢
        have hlt:fd.offset<vs.length:=by rw[← h1];exact(List.getElem?_eq_some_iff.1 ha).1
        refine⟨vs[fd.offset],?_,h2 _ _ _ ha (List.getElem?_eq_getElem hlt)⟩
        simp only[List.getElem?_toArray,List.getElem?_eq_getElem hlt,Sem.run_pure]
    | _=>simp at ha
 ·cases ha
theorem arrA_sound(h:St F w0 κ σ a w){P:Program}{t:TypeId}{cs:List AV}{i y:AV}{v vi:Value}(hv:(Rel (SS F w0 κ σ w) w κ σ.objs (.agg cs)).val v)(hi:(Rel (SS F w0 κ σ w) w κ σ.objs i).val vi)(ha:arrA P t cs i=some y) :
  ∃u,(Instr.index t v vi).run P w= .ok u w∧(Rel (SS F w0 κ σ w) w κ σ.objs y).val u:=by
 unfold arrA at ha
 split at ha
 case h_2=>cases ha
 rename_i len e hu
 cases hag:isAggT P e with
 | none=>simp[hag]at ha
 | some ag=>
 cases hk:sizeT P e with
 | none=>simp[hag,hk]at ha
 | some k=>
 cases hj:idx i with
 | none=>simp[hag,hk,hj]at ha
 | some j=>
 simp only[hag,hk,hj,Option.bind_some]at ha
 split at ha
 case isFalse=>cases ha
 rename_i hjl
 obtain⟨ki,n,rfl,hn0,hnj⟩:=idx_sound hj hi
 simp only[Rel]at hv
 obtain⟨vs,rfl,hvs⟩:=hv
 obtain⟨h1,h2⟩:=AllV_get _ _ _ _ hvs
 have hc:0≤n∧n<(len:Int):=⟨hn0,by omega⟩
 have e0:(Instr.index t (.agg vs.toArray) (.int ki n)).run P w=(part e vs.toArray (j*k)).run P w:=by
  unfold Instr.index
  simp only[asIntOf,Sem.run_bind,Sem.run_pure,Result.andThen_ok,run_underlying hu,if_pos hc,sizeT_run hk,hnj]
 rw[e0]
 unfold part
 simp only[Sem.run_bind,isAggT_run hag,Result.andThen_ok]
 unfold takeAs at ha
 cases ag with
 | true=>
   simp only[if_true]at ha ⊢
   split at ha
   ·rename_i hle
    simp only[Option.some.injEq]at ha
    subst ha
    refine⟨.agg (vs.toArray.extract (j*k) (j*k+k)),by simp only[Sem.run_bind,sizeT_run hk,Result.andThen_ok,Sem.run_pure],?_⟩
    simp only[Rel]
    refine⟨(vs.drop (j*k)).take k,?_,take_drop_V hvs _ _⟩
    congr 1
    apply Array.ext'
    simp[Array.toList_extract,List.extract]
   ·cases ha
 | false=>
   simp only[Bool.false_eq_true,if_false]at ha ⊢
   have hlt:j*k<vs.length:=by rw[← h1];exact(List.getElem?_eq_some_iff.1 ha).1
   refine⟨vs[j*k],?_,h2 _ _ _ ha (List.getElem?_eq_getElem hlt)⟩
   simp only[List.getElem?_toArray,List.getElem?_eq_getElem hlt,Sem.run_pure]
theorem wp_value{P:Program}{o:Oper}{K:Act→World→Prop}{Q:Exit→Act→World→Prop}{v:Value}(hr:(execOp a.eval o).run P w= .ok (.value v) w)(h:K (a.put o.dst v) w):o.wp P a w K Q:=by
 unfold Oper.wp
 rw[hr]
 exact h
theorem pure2_sound{S:Nat→Prop}{objs:Nat→Option AObj}{P:Program}{f:Value→Value→Sem Value}{x y z:AV}{v u:Value}(hx:(Rel S w κ objs x).val v)(hy:(Rel S w κ objs y).val u)(h:pure2 P f x y=some z) :
  ∃r,(f v u).run P w= .ok r w∧(Rel S w κ objs z).val r:=by
 unfold pure2 at h
 cases h1:toV x with
 | none=>rw[h1]at h;simp at h
 | some v'=>
 cases h2:toV y with
 | none=>rw[h1]at h;simp[h2]at h
 | some u'=>
 rw[h1]at h
 simp only[Option.bind_some,h2]at h
 cases h3:pureRun P (f v' u')with
 | none=>rw[h3]at h;simp at h
 | some r=>
   rw[h3]at h
   simp only[Option.bind_some]at h
   have e1:=toV_sound S w κ objs x v' v h1 hx
   have e2:=toV_sound S w κ objs y u' u h2 hy
   subst e1;subst e2
   exact⟨r,pureRun_sound h3 w,ofV_sound S w κ objs r z h⟩
theorem pure1_sound{S:Nat→Prop}{objs:Nat→Option AObj}{P:Program}{f:Value→Sem Value}{x z:AV}{v:Value}(hx:(Rel S w κ objs x).val v)(h:pure1 P f x=some z) :
  ∃r,(f v).run P w= .ok r w∧(Rel S w κ objs z).val r:=by
 unfold pure1 at h
 cases h1:toV x with
 | none=>rw[h1]at h;simp at h
 | some v'=>
 rw[h1]at h
 simp only[Option.bind_some]at h
 cases h3:pureRun P (f v')with
 | none=>rw[h3]at h;simp at h
 | some r=>
   rw[h3]at h
   simp only[Option.bind_some]at h
   have e1:=toV_sound S w κ objs x v' v h1 hx
   subst e1
   exact⟨r,pureRun_sound h3 w,ofV_sound S w κ objs r z h⟩
theorem pickA_sound{S:Nat→Prop}{objs:Nat→Option AObj}{P:Program}{c x y z:AV}{vc vx vy:Value}(hc:(Rel S w κ objs c).val vc)(hx:(Rel S w κ objs x).val vx)(hy:(Rel S w κ objs y).val vy)(h:pickA c x y=some z) :
  ∃t,vc= .bool t∧(Rel S w κ objs z).val (if t then vx else vy):=by
 unfold pickA at h
 split at h
 ·rename_i t
  simp only[Rel,one]at hc
  refine⟨t,hc,?_⟩
  split at h
  ·rename_i p q
   simp only[Option.some.injEq]at h
   subst h
   simp only[Rel,one]at hx hy ⊢
   subst hx;subst hy
   cases t<;>rfl
  ·cases t<;>simp at h<;>subst h<;>simpa
 ·cases h
end
end Go.Abs
set_option linter.unusedVariables false
set_option linter.unusedSimpArgs false
namespace Go.Abs
open Go.RowKit
abbrev κ0:Nat→Value:=fun _=>undef
abbrev o0:Nat→Option AObj:=fun _=>none
theorem RowOK.read{S T:Nat→Prop}{w:World}{B:Nat}{v:Value}{e k:Nat}{xs:List AV}{κ:Nat→Value}{objs:Nat→Option AObj}(h:RowOK S w B v e k xs)(hS:∀k,S k→T k)(hb:∀b,blkOf v=some b→T b):(Rel T w κ objs (.sl xs)).val v:=by
 obtain⟨hk,zs,h1,h2,h3⟩:=h
 simp only[Rel,one]
 rcases h1.2 with⟨rfl,h0⟩|⟨b,cap,cur,rfl,hB,hblk,hn,hcap,hsz,htake⟩
 ·refine⟨none,0,by rw[h0],by omega,by simp,fun hne=>absurd (List.eq_nil_of_length_eq_zero h0) hne⟩
 ·refine⟨some (at_ b 0),cap,rfl,hn,hcap,fun _=>⟨b,0,k,rfl,hb b rfl,fun j r hr=>?_⟩⟩
  have hL:=RelL_mono (S:=S) (S':=T) (w:=w) (w':=w) (κ:=fun _=>undef) (κ':=κ) hS (fun _ _=>rfl) (ObjLe.none _ _) xs
  have hi:j<(RelL S w (fun _=>undef) (fun _=>none) xs).length:=by rw[hL.1];exact(List.getElem?_eq_some_iff.1 hr).1
  have hle:=hL.2 j _ _ (List.getElem?_eq_getElem hi) hr
  obtain⟨h4,h5⟩:=h3 j _ (List.getElem?_eq_getElem hi)
  refine⟨hle.n.trans h4,hle.mem _ ?_⟩
  have hmm:∀get get':Nat→Option Value,(∀ i u,get i=some u→get' i=some u)→∀x,(Rel S w (fun _=>undef) (fun _=>none) x).mem get→(Rel S w (fun _=>undef) (fun _=>none) x).mem get':=by
   intro get get' hg x hx
   refine cells_mem ?_
   intro i r hr
   obtain⟨u,h6,h7⟩:=mem_cells hx i r hr
   exact⟨u,hg _ _ h6,h7⟩
  obtain⟨x,hx⟩:∃x,xs[j]? = some x:=by
   rw[RelL_length]at hi
   exact⟨_,List.getElem?_eq_getElem hi⟩
  have e1:(RelL S w (fun _=>undef) (fun _=>none) xs)[j]=Rel S w (fun _=>undef) (fun _=>none) x:=by
   have:=RelL_get S w (fun _=>undef) (fun _=>none) xs j
   rw[hx,List.getElem?_eq_getElem hi]at this
   simpa using this
  rw[e1]at h5 ⊢
  refine hmm _ _ (fun i u hu=>?_) x h5
  have:=h1.cells (g:=b) rfl (j*k+i) u hu
  rw[Addr.add_lit,Nat.zero_add]at this
  rw[Nat.zero_add]
  exact this
section
variable {F:Nat→Prop} {w0:Base} {κ:Nat→Value} {σ:Env} {a:Act} {w:World}
theorem row_elem0(h:St F w0 κ σ a w){r e k:Nat}{xs:List AV}{g:Nat}{fz:Bool}(hr:σ.objs r=some (.row e k xs g fz)){j:Nat}{x:AV}(hx:xs[j]? = some x) :
  ∃b c,κ r= .slice (some (at_ b 0)) xs.length c∧x.cells.length=k∧AllM (RelL (SS F w0 κ σ w) w κ0 o0 x.cells) (fun i=>w.cell? (at_ b (j*k+i))):=by
 obtain⟨hk,zs,h1,h2,h3⟩:=h.objs r _ hr
 have hj:j<xs.length:=(List.getElem?_eq_some_iff.1 hx).1
 rcases h1.2 with⟨_,h0⟩|⟨b,cap,cur,hv,hB,hblk,hn,hcap,hsz,htake⟩
 ·omega
 ·obtain⟨h4,h5⟩:=h3 j (Rel _ w (fun _=>undef) (fun _=>none) x) (by rw[RelL_get,hx];rfl)
  rw[Rel_n]at h4
  refine⟨b,cap,hv,h4,fun i q hq=>?_⟩
  obtain⟨u,h8,h9⟩:=mem_cells h5 i q hq
  refine⟨u,?_,h9⟩
  have:=h1.cells (g:=b) (by rw[hv];rfl) (j*k+i) u h8
  rw[Addr.add_lit,Nat.zero_add]at this
  exact this
theorem ppC_val{T:Nat→Prop}{w:World}{κ:Nat→Value}{objs:Nat→Option AObj}(y:AV)(v:Value)(h:(Rel T w κ objs y).val v):(Rel T w κ objs (ppC y)).val v:=by
 unfold ppC
 split
 ·simp only[Rel,one]at h ⊢
  obtain⟨b,o,h1,h2,h3⟩:=h
  simp only[Bool.false_eq_true,if_false]
  exact⟨b,o,by simpa using h1,h2,h3⟩
 ·exact h
theorem ppC_all{T:Nat→Prop}{w:World}{κ:Nat→Value}{objs:Nat→Option AObj}{ys:List AV}{vs:List Value}(h:AllV (RelL T w κ objs ys) vs):AllV (RelL T w κ objs (ys.map ppC)) vs:=by
 obtain⟨h1,h2⟩:=AllV_get _ _ _ _ h
 refine AllV_of _ _ _ _ (by rw[List.length_map];exact h1) fun i x u hx hu=>?_
 rw[List.getElem?_map]at hx
 cases hy:ys[i]? with
 | none=>rw[hy]at hx;cases hx
 | some y=>
   rw[hy]at hx
   cases hx
   exact ppC_val y u (h2 i y u hy hu)
theorem expt_sound(h:St F w0 κ σ a w){no:Nat→Bool}{T:Nat→Prop}(hT:∀k,SS F w0 κ σ w k→T k):∀(n:Nat)(x y:AV)(v:Value),expt no σ.objs n x=some y→(Rel (SS F w0 κ σ w) w κ σ.objs x).val v→
  (∀ id∈refsOf σ.objs n x,σ.objs id≠none→∀b,blkOf (κ id)=some b→T b)→(Rel T w κ0 o0 y).val v:=by
 intro n
 induction n with
 | zero=>intro x y v he;simp[expt]at he
 | succ n ih=>
   have list:∀(cs ys:List AV)(vs:List Value),mapO (expt no σ.objs n) cs=some ys→AllV (RelL (SS F w0 κ σ w) w κ σ.objs cs) vs→(∀ id∈cs.flatMap (refsOf σ.objs n),σ.objs id≠none→∀b,blkOf (κ id)=some b→T b)→AllV (RelL T w κ0 o0 ys) vs:=by
    intro cs ys vs hm hv hr
    obtain⟨h1,h2⟩:=mapO_some hm
    obtain⟨h3,h4⟩:=AllV_get _ _ _ _ hv
    refine AllV_of _ _ _ _ (by omega) fun i y u hy hu=>?_
    have hi:i<cs.length:=by rw[← h1];exact(List.getElem?_eq_some_iff.1 hy).1
    obtain⟨y',h5,h6⟩:=h2 i _ (List.getElem?_eq_getElem hi)
    rw[h6]at hy
    cases hy
    exact ih _ _ _ h5 (h4 i _ u (List.getElem?_eq_getElem hi) hu) fun id hid=>hr id (List.mem_flatMap.2 ⟨_,List.getElem_mem hi,hid⟩)
   have listM:∀(cs ys:List AV)(get:Nat→Option Value),mapO (expt no σ.objs n) cs=some ys→AllM (RelL (SS F w0 κ σ w) w κ σ.objs cs) get→(∀ id∈cs.flatMap (refsOf σ.objs n),σ.objs id≠none→∀b,blkOf (κ id)=some b→T b)→AllM (RelL T w κ0 o0 ys) get:=by
    intro cs ys get hm hv hr
    obtain⟨h1,h2⟩:=mapO_some hm
    refine AllM_of fun i y hy=>?_
    have hi:i<cs.length:=by rw[← h1];exact(List.getElem?_eq_some_iff.1 hy).1
    obtain⟨y',h5,h6⟩:=h2 i _ (List.getElem?_eq_getElem hi)
    rw[h6]at hy
    cases hy
    obtain⟨u,h7,h8⟩:=AllM_get hv i _ (List.getElem?_eq_getElem hi)
    exact⟨u,h7,ih _ _ _ h5 h8 fun id hid=>hr id (List.mem_flatMap.2 ⟨_,List.getElem_mem hi,hid⟩)⟩
   have imm:∀x:AV,(∀ objs objs' κ κ',RLe (Rel (SS F w0 κ σ w) w κ objs x) (Rel (SS F w0 κ σ w) w κ' objs' x))→True:=fun _ _=>trivial
   intro x y v he hv hr
   cases x with
   | int k m=>simp only[expt,Option.some.injEq]at he;subst he;simpa[Rel]using hv
   | bool b=>simp only[expt,Option.some.injEq]at he;subst he;simpa[Rel]using hv
   | str s=>simp only[expt,Option.some.injEq]at he;subst he;simpa[Rel]using hv
   | undef=>simp[expt]at he
   | und=>simp[expt]at he
   | tup vs=>simp[expt]at he
   | fr e k xs=>simp[expt]at he
   | fb cs=>simp[expt]at he
   | inp r f=>simp[expt]at he
   | vw r g i=>simp[expt]at he
   | mr r=>
     simp only[expt]at he
     split at he
     ·rename_i ks vs fz _ ho
      simp only[Option.some.injEq]at he
      subst he
      obtain⟨blk,es,clock,h1,_,h2,h3,h4,h4s⟩:=h.objs r _ ho
      simp only[Rel,one]at hv
      obtain⟨_,_,_,_,blk',h5,h6⟩:=hv
      rw[h1]at h5
      cases h5
      simp only[Rel,one]
      exact⟨blk,es,clock,h6,hr r (by simp[refsOf]) (by rw[ho];simp) blk (by rw[h1];rfl),h2,(RelL_mono hT (fun _ _=>rfl) (ObjLe.none _ _) ks).allV h3,(RelL_mono hT (fun _ _=>rfl) (ObjLe.none _ _) vs).allV h4,h4s⟩
     ·cases he
   | mv ks vs=>
     simp only[expt,Option.some.injEq]at he
     subst he
     have hv':(Rel (SS F w0 κ σ w) w κ o0 (.mv ks vs)).val v:=by simpa[Rel]using hv
     exact(Rel_mono hT (fun _ _=>rfl) (ObjLe.none _ _) _).val _ hv'
   | agg cs=>
     simp only[expt]at he
     cases hm:mapO (expt no σ.objs n) cs with
     | none=>rw[hm]at he;simp at he
     | some ys=>
       rw[hm]at he
       simp only[Option.map_some,Option.some.injEq]at he
       subst he
       simp only[Rel]at hv ⊢
       obtain⟨vs,h1,h2⟩:=hv
       exact⟨vs,h1,ppC_all (list cs ys vs hm h2 (by simpa[refsOf]using hr))⟩
   | fn f cs=>
     simp only[expt]at he
     cases hm:mapO (expt no σ.objs n) cs with
     | none=>rw[hm]at he;simp at he
     | some ys=>
       rw[hm]at he
       simp only[Option.map_some,Option.some.injEq]at he
       subst he
       simp only[Rel,one]at hv ⊢
       obtain⟨vs,h1,h2⟩:=hv
       exact⟨vs,h1,list cs ys vs hm h2 (by simpa[refsOf]using hr)⟩
   | sl xs=>
     simp only[expt,Option.some.injEq]at he
     subst he
     have hv':(Rel (SS F w0 κ σ w) w κ o0 (.sl xs)).val v:=by simpa[Rel]using hv
     exact(Rel_mono hT (fun _ _=>rfl) (ObjLe.none _ _) _).val _ hv'
   | nils=>
     simp only[expt,Option.some.injEq]at he
     subst he
     simp only[Rel,one]at hv ⊢
     exact⟨none,0,by simpa using hv,by simp,by simp,fun hne=>absurd rfl hne⟩
   | pp nl cs=>
     simp only[expt,Option.some.injEq]at he
     subst he
     have hv':(Rel (SS F w0 κ σ w) w κ o0 (.pp nl cs)).val v:=by simpa[Rel]using hv
     exact(Rel_mono hT (fun _ _=>rfl) (ObjLe.none _ _) _).val _ hv'
   | ia cs off=>
     simp only[expt,Option.some.injEq]at he
     subst he
     have hv':(Rel (SS F w0 κ σ w) w κ o0 (.ia cs off)).val v:=by simpa[Rel]using hv
     exact(Rel_mono hT (fun _ _=>rfl) (ObjLe.none _ _) _).val _ hv'
   | bp cs=>
     simp only[expt,Option.some.injEq]at he
     subst he
     have hv':(Rel (SS F w0 κ σ w) w κ o0 (.bp cs)).val v:=by simpa[Rel]using hv
     exact(Rel_mono hT (fun _ _=>rfl) (ObjLe.none _ _) _).val _ hv'
   | own r g=>
     simp only[expt]at he
     split at he
     ·rename_i e k xs g' fz _ ho
      split at he
      ·rename_i hg
       subst hg
       simp only[Option.some.injEq]at he
       subst he
       simp only[Rel,one]at hv
       obtain⟨_,_,_,_,_,ho',_,h1⟩:=hv
       rw[ho]at ho'
       simp only[Option.some.injEq,AObj.row.injEq]at ho'
       obtain⟨rfl,rfl,rfl,rfl,rfl⟩:=ho'
       rw[h1 rfl]
       exact RowOK.read (h.objs r _ ho) hT fun b hb=>hr r (by simp[refsOf]) (by rw[ho];simp) b hb
      ·cases he
     ·cases he
   | oa r g i off=>
     simp only[expt]at he
     split at he
     ·rename_i e k xs g' fz _ ho
      split at he
      ·rename_i hg
       subst hg
       cases hx:xs[i]? with
       | none=>rw[hx]at he;simp at he
       | some x=>
         rw[hx]at he
         simp only[Option.map_some,Option.some.injEq]at he
         subst he
         simp only[Rel,one]at hv
         obtain⟨_,_,_,_,_,ho',_,h1⟩:=hv
         rw[ho]at ho'
         simp only[Option.some.injEq,AObj.row.injEq]at ho'
         obtain⟨rfl,rfl,rfl,rfl,rfl⟩:=ho'
         obtain⟨b,h2,h3⟩:=h1 rfl
         obtain⟨b',c,h4,h5,h6⟩:=row_elem0 h ho hx
         have hb:=hr r (by simp[refsOf]) (by rw[ho];simp) b h2
         rw[h4]at h2
         simp only[blkOf,Option.some.injEq]at h2
         subst h2
         simp only[Rel,one]
         refine⟨b',i*k,h3,hb,?_⟩
         exact(RelL_mono hT (fun _ _=>rfl) (ObjLe.none _ _) x.cells).allM h6
      ·cases he
     ·cases he
   | ba b0 off=>
     simp only[expt]at he
     split at he
     ·rename_i cs fz _ ho
      cases hm:mapO (expt no σ.objs n) cs with
      | none=>rw[hm]at he;simp at he
      | some ys=>
        rw[hm]at he
        simp only[Option.map_some,Option.some.injEq]at he
        subst he
        have hb:=behind_sound h hv (cs:=cs) (off:=off) (by simp[behind,ho])
        obtain⟨b,o,h1,h2⟩:=hb
        simp only[Rel,one]at hv
        obtain⟨_,_,ho',blk,h3,h4⟩:=hv
        have h5:b=blk:=by rw[h1]at h4;injection h4 with h4;injection h4 with h4;injection h4
        subst h5
        simp only[Rel,one]
        refine⟨b,o,h1,hr b0 (by simp[refsOf,ho]) (by rw[ho];simp) b (by rw[h3];rfl),?_⟩
        exact listM cs ys _ hm h2 fun id hid=>hr id (by simp only[refsOf,ho];exact List.mem_cons_of_mem _ hid)
     ·cases he
end
def compOK(S:Nat→Prop)(w:World)(B:Nat):AV→Value→Prop
 | .fr e k xs,u=>RowOK S w B u e k xs
 | .fb cs,u=>BoxOK S w u cs
 | x,u=>(Rel S w κ0 o0 x).val u
def compsOf:AV→List AV
 | .tup xs=>xs
 | x=>[x]
def partsOf(r:AV)(v:Value)(us:List Value):Prop:=match r with
 | .tup _=>v= .tuple us.toArray
 | _=>us=[v]
def resS(F:Nat→Prop)(b:Base)(w':World)(xs:List AV)(us:List Value)(k:Nat):Prop:=
 (F k∨b.mine k)∧k<w'.heap.size∧∀(i:Nat) x u,xs[i]? = some x→us[i]? = some u→isFr x=true→blkOf u≠some k
structure ResOK(F:Nat→Prop)(b:Base)(w':World)(r:AV)(v:Value):Prop where
 below:BelowB b w'
 parts:∃us:List Value,partsOf r v us∧(compsOf r).length=us.length∧
  (∀(i:Nat) x u,(compsOf r)[i]? = some x→us[i]? = some u→compOK (resS F b w' (compsOf r) us) w' 0 x u)∧
  (∀(i j:Nat) x y u u',(compsOf r)[i]? = some x→(compsOf r)[j]? = some y→us[i]? = some u→us[j]? = some u'→i≠j→isFr x=true→isFr y=true→∀b,blkOf u=some b→blkOf u'≠some b)∧
  (∀(i:Nat) x u,(compsOf r)[i]? = some x→us[i]? = some u→isFr x=true→∀k,blkOf u=some k→b.mine k)
def inpS(F:Nat→Prop)(b:Base)(w':World)(k:Nat):Prop:=(F k∨b.mine k)∧k<w'.heap.size∧blkOf b.arg≠some k
structure InpOK(F:Nat→Prop)(b:Base)(w':World)(r fin:AV)(v:Value):Prop where
 below:BelowB b w'
 rel:(Rel (inpS F b w') w' κ0 o0 r).val v
 obj:compOK (inpS F b w') w' 0 fin b.arg
 isfr:isFr fin=true
def ResX(P:Program)(f:Nat)(F:Nat→Prop)(b:Base)(w':World)(r:AV)(v:Value):Prop:=
 if inplB P f=true then ∃r0 fin,r= .inp r0 fin∧InpOK F b w' r0 fin v else ResOK F b w' r v
def argOK(F:Nat→Prop)(b:Base):AV→Value→Prop
 | .fr e k xs,u=>RowOK F b.w 0 u e k xs∧∀k,blkOf u=some k→b.own k
 | .fb cs,u=>BoxOK F b.w u cs∧∀k,blkOf u=some k→b.own k
 | x,u=>(Rel F b.w κ0 o0 x).val u
structure ArgsOK(F:Nat→Prop)(b:Base)(args:List AV)(vals:List Value):Prop where
 len:args.length=vals.length
 one:∀(i:Nat) x u,args[i]? = some x→vals[i]? = some u→argOK F b x u
 apart:∀(i j:Nat) x y u u',args[i]? = some x→args[j]? = some y→vals[i]? = some u→vals[j]? = some u'→i≠j→isFr x=true→isFr y=true→∀k,blkOf u=some k→blkOf u'≠some k
 free:∀k,F k→k<b.w.heap.size∧¬b.own k
 arg0:∀x u,args[0]? = some x→vals[0]? = some u→isFr x=true→b.arg=u
def mlOf(P:Program):Option Nat:=P.globals.findIdx? (·.name == "internal/bytealg.MaxLen")
def u8Of(P:Program):Option (Nat×Nat):=(P.globals.findIdx? (·.name == "unicode/utf8.first")).bind fun g=>(P.globals.findIdx? (·.name == "unicode/utf8.acceptRanges")).map fun h=>(g,h)
def U8Tab(g h:Nat)(w:World):Prop:=
 (∀ c,c<256→w.cell? (at_ g c)=some (.int .u8 (Go.Lib.firstT c)))∧∀i,i<16→w.cell? (at_ h (2*i))=some (.int .u8 (Go.Lib.accLo i))∧w.cell? (at_ h (2*i+1))=some (.int .u8 (Go.Lib.accHi i))
structure GOK(P:Program)(b:Base):Prop where
 ml:∀k,mlOf P=some k→¬b.own k∧∃m,b.w.cell? (at_ k 0)=some (.int .i64 m)
 u8:∀g h,u8Of P=some (g,h)→¬b.own g∧¬b.own h∧U8Tab g h b.w
theorem cellB_lt{w:World}{k i:Nat}{v:Value}(h:w.cell? (at_ k i)=some v):k<w.heap.size:=by
 by_cases hk:k<w.heap.size
 ·exact hk
 ·rw[World.cell?]at h
  simp[Array.getElem?_eq_none (Nat.le_of_not_lt hk)]at h
theorem GOK.of{P:Program}{b b':Base}(h:GOK P b)(hw:∀k,k<b.w.heap.size→¬b.own k→b'.w.heap[k]? = b.w.heap[k]? ∧ ¬b'.own k):GOK P b':=by
 have hc:∀k i v,¬b.own k→b.w.cell? (at_ k i)=some v→b'.w.cell? (at_ k i)=some v:=fun k i v h1 h2=>by
  have:b'.w.cell? (at_ k i)=b.w.cell? (at_ k i):=World.cell?_of_block (hw k (cellB_lt h2) h1).1
  exact this.trans h2
 refine⟨fun k hk=>?_,fun g g2 hk=>?_⟩
 ·obtain⟨h1,m,h2⟩:=h.ml k hk
  exact⟨(hw k (cellB_lt h2) h1).2,m,hc _ _ _ h1 h2⟩
 ·obtain⟨h1,h2,h3⟩:=h.u8 g g2 hk
  exact⟨(hw g (cellB_lt (h3.1 0 (by decide))) h1).2,(hw g2 (cellB_lt (h3.2 0 (by decide)).1) h2).2,fun c hh=>hc _ _ _ h1 (h3.1 c hh),fun i hi=>⟨hc _ _ _ h2 (h3.2 i hi).1,hc _ _ _ h2 (h3.2 i hi).2⟩⟩
theorem GOK.next{P:Program}{b:Base}(h:GOK P b){w:World}{d:Bool}(hw:∀k,k<b.w.heap.size→¬b.own k→w.heap[k]? = b.w.heap[k]?):GOK P (base0 w d):=
 h.of fun k h1 h2=>⟨hw k h1 h2,fun hh=>hh.elim⟩
theorem GOK.base{P:Program}{b:Base}{d:Bool}(h:GOK P b):GOK P (base0 b.w d):=h.next fun _ _ _=>rfl
theorem GOK.below{P:Program}{b:Base}(h:GOK P b){w:World}{d:Bool}(hb:BelowB b w):GOK P (base0 w d):=h.next hb.block
def CallOK(P:Program)(C:Callee):Prop:=∀f args r,C f args=some r→∀(F:Nat→Prop)(b:Base)(vals:List Value),(b.dr=true→quietB P f=true)→GOK P b→ArgsOK F b args vals→
 Calls P f vals.toArray b.w fun e w'=>∃v,e= .returned v∧ResX P f F b w' r v
theorem argsOK_byval{F:Nat→Prop}{w:World}{d:Bool}{args:List AV}{vals:List Value}(hF:∀k,F k→k<w.heap.size)(hv:AllV (RelL F w κ0 o0 args) vals):ArgsOK F (base0 w d) args vals:=by
 have key:∀(i:Nat) x u,args[i]? = some x→vals[i]? = some u→(Rel F w κ0 o0 x).val u:=fun i x u hx hu=>hv.2 i _ u (by rw[RelL_get,hx];rfl) hu
 have nofr:∀(i:Nat) x u,args[i]? = some x→vals[i]? = some u→isFr x=true→False:=fun i x u hx hu hf=>by
  have h1:=key i x u hx hu
  cases x with
  | fr e k xs=>simp[Rel,one]at h1
  | fb cs=>simp[Rel,one]at h1
  | _=>cases hf
 refine⟨by simpa[RelL_length]using hv.1,fun i x u hx hu=>?_,fun i j x y u u' hx hy hu hu' hij hfx=>?_,fun k hk=>⟨hF k hk,fun h=>h.elim⟩,fun x u hx hu hf=>(nofr 0 x u hx hu hf).elim⟩
 ·have h1:=key i x u hx hu
  cases x with
  | fr e k xs=>simp[Rel,one]at h1
  | fb cs=>simp[Rel,one]at h1
  | _=>exact h1
 ·exact(nofr i x u hx hu hfx).elim
theorem CallOK.byval{P:Program}{C:Callee}(h:CallOK P C){f:Nat}{args:List AV}{r:AV}(hc:C f args=some r){F:Nat→Prop}{w:World}{vals:List Value}{d:Bool}(hg:GOK P (base0 w d))(hq:d=true→quietB P f=true)(hF:∀k,F k→k<w.heap.size)(hv:AllV (RelL F w κ0 o0 args) vals) :
 Calls P f vals.toArray w fun e w'=>∃v,e= .returned v∧ResX P f F (base0 w d) w' r v:=h f args r hc F (base0 w d) vals hq hg (argsOK_byval hF hv)
structure CallAt(P:Program)(C:Callee)(b:Base):Prop where
 ok:∀f args r,C f args=some r→∀(F:Nat→Prop)(b':Base)(vals:List Value),b'.dr=b.dr→GOK P b'→ArgsOK F b' args vals→
  Calls P f vals.toArray b'.w fun e w'=>∃v,e= .returned v∧ResX P f F b' w' r v
 g:GOK P b
theorem CallAt.byval{P:Program}{C:Callee}{b:Base}(h:CallAt P C b){f:Nat}{args:List AV}{r:AV}(hc:C f args=some r){F:Nat→Prop}{w:World}{vals:List Value}(hg:GOK P (base0 w b.dr))(hF:∀k,F k→k<w.heap.size)(hv:AllV (RelL F w κ0 o0 args) vals) :
 Calls P f vals.toArray w fun e w'=>∃v,e= .returned v∧ResX P f F (base0 w b.dr) w' r v:=h.ok f args r hc F (base0 w b.dr) vals rfl hg (argsOK_byval hF hv)
theorem callAt_of{P:Program}{C:Callee}{b:Base}{f:Nat}(h:CallOK P C)(hq:b.dr=true→quietB P f=true)(hg:GOK P b):CallAt P (guardC P (quietB P f) C) b:=by
 refine⟨fun g args r hr F b' vals hb hg' hA=>?_,hg⟩
 unfold guardC at hr
 cases hqf:quietB P f with
 | true=>
   rw[hqf]at hr
   cases hqg:quietB P g with
   | true=>
     rw[hqg]at hr
     exact h g args r hr F b' vals (fun _=>hqg) hg' hA
   | false=>
     rw[hqg]at hr
     cases hr
 | false=>
   rw[hqf]at hr hq
   refine h g args r hr F b' vals (fun hd=>?_) hg' hA
   rw[hb]at hd
   cases hq hd
theorem ResX.res{P:Program}{f:Nat}{F:Nat→Prop}{b:Base}{w':World}{r:AV}{v:Value}(h:ResX P f F b w' r v)(hi:inplB P f=false):ResOK F b w' r v:=by
 unfold ResX at h
 rw[hi]at h
 simpa using h
theorem ResX.inp{P:Program}{f:Nat}{F:Nat→Prop}{b:Base}{w':World}{r:AV}{v:Value}(h:ResX P f F b w' r v)(hi:inplB P f=true):∃r0 fin,r= .inp r0 fin∧InpOK F b w' r0 fin v:=by
 unfold ResX at h
 rw[hi]at h
 simpa using h
theorem ResOK.x{P:Program}{f:Nat}{F:Nat→Prop}{b:Base}{w':World}{r:AV}{v:Value}(h:ResOK F b w' r v)(hi:inplB P f=false):ResX P f F b w' r v:=by
 unfold ResX
 rw[hi]
 simpa using h
theorem InpOK.x{P:Program}{f:Nat}{F:Nat→Prop}{b:Base}{w':World}{r fin:AV}{v:Value}(h:InpOK F b w' r fin v)(hi:inplB P f=true):ResX P f F b w' (.inp r fin) v:=by
 unfold ResX
 rw[hi]
 exact⟨r,fin,rfl,h⟩
theorem givesB_of{P:Program}{f:Nat}(h:givesB P f=false):inplB P f=false:=by
 unfold givesB at h
 unfold inplB
 split at h<;>simp_all
def fzObj:AV→Option AObj
 | .fr e k ys=>some (.row e k ys 0 false)
 | .fb cs=>some (.box cs false)
 | _=>none
theorem fzObj_fr{x:AV}{o:AObj}(h:fzObj x=some o):isFr x=true:=by cases x<;>simp_all [fzObj,isFr]
theorem recv1_news(id:Nat)(x:AV):(recv1 id x).2=match fzObj x with
 | some o=>[(id,o)]
 | none=>[]:=by cases x<;>rfl
theorem recvL_get(id:Nat):∀(xs:List AV)(id:Nat)(i:Nat),(recvL id xs).1[i]? = (xs[i]?).map fun x=>(recv1 (id+i) x).1
 | [],id,i=>by simp[recvL]
 | x::xs,id,0=>by simp[recvL]
 | x::xs,id,i+1=>by
   simp only[recvL,List.getElem?_cons_succ]
   rw[recvL_get 0 xs (id+1) i,show id+1+i=id+(i+1) by omega]
theorem recvL_news:∀(xs:List AV)(id:Nat)(p:Nat×AObj),p∈(recvL id xs).2↔∃i x,xs[i]? = some x∧fzObj x=some p.2∧p.1=id+i
 | [],id,p=>by simp[recvL]
 | x::xs,id,p=>by
   simp only[recvL,List.mem_append]
   rw[recvL_news xs (id+1) p,recv1_news]
   constructor
   ·rintro(h|⟨i,y,h1,h2,h3⟩)
    ·split at h
     ·rename_i o ho
      simp only[List.mem_singleton]at h
      subst h
      exact⟨0,x,by simp,ho,rfl⟩
     ·cases h
    ·exact⟨i+1,y,by simpa using h1,h2,by omega⟩
   ·rintro⟨i,y,h1,h2,h3⟩
    cases i with
    | zero=>
      simp only[List.getElem?_cons_zero,Option.some.injEq]at h1
      subst h1
      refine .inl ?_
      rw[h2]
      simp only[List.mem_singleton]
      exact Prod.ext h3 rfl
    | succ i=>exact .inr ⟨i,y,by simpa using h1,h2,by omega⟩
theorem recvL_nodup:∀(xs:List AV)(id:Nat),((recvL id xs).2.map (·.1)).Nodup
 | [],id=>by simp[recvL]
 | x::xs,id=>by
   simp only[recvL,List.map_append]
   refine List.nodup_append.2 ⟨?_,recvL_nodup xs (id+1),?_⟩
   ·rw[recv1_news]
    split<;>simp
   ·intro p hp q hq e
    subst e
    obtain⟨q1,hq1,rfl⟩:=List.mem_map.1 hq
    obtain⟨i,y,h1,h2,h3⟩:=(recvL_news xs (id+1) _).1 hq1
    rw[recv1_news]at hp
    split at hp
    ·simp only[List.map_cons,List.map_nil,List.mem_singleton]at hp
     omega
    ·cases hp
theorem recv_eq(id:Nat)(r:AV):(recv id r).2=(recvL id (compsOf r)).2:=by
 cases r<;>simp[recv,compsOf,recvL]
end Go.Abs
set_option linter.unusedVariables false
set_option linter.unusedSimpArgs false
namespace Go.Abs
open Go.RowKit
section
variable {F:Nat→Prop} {w0:Base} {κ:Nat→Value} {σ:Env} {a:Act} {w:World}
theorem scalar_rel{S S':Nat→Prop}{w w':World}{κ κ':Nat→Value}{objs objs':Nat→Option AObj}{x:AV}{v:Value}(hx:(match x with | .int _ _ | .bool _ | .str _=>true|_=>false)=true)(h:(Rel S w κ objs x).val v):(Rel S' w' κ' objs' x).val v:=by
 cases x<;>simp at hx<;>simpa[Rel]using h
theorem recv_sound(h:St F w0 κ σ a w){r:AV}{v:Value}{w':World}{dst:Option Nat}{d:Nat}{frz:List Nat}{G:Nat→Prop}
  (hG:∀k,G k→SS F w0 κ σ w k∨∃id∈frz,σ.objs id≠none∧blkOf (κ id)=some k) (hd:dst.all σ.n.ok=true)
  (hfree:∀p∈(recv (8*d) r).2,σ.objs p.1=none)
  (hr:ResOK G (base0 w w0.dr) w' r v∨(scalarR r=true∧∃G',ResOK G' (base0 w w0.dr) w' r v)) :
  ∃κ',St F w0 κ' (σ.eff dst { val:=(recv (8*d) r).1,news:=(recv (8*d) r).2,frz:=frz }) (a.put dst v) w':=by
 have hb:Below w.heap.size w w':=by rcases hr with hr|⟨_,_,hr⟩<;>exact hr.below.to0
 have hbd:w0.dr=true→w.drawn≤w'.drawn:=by rcases hr with hr|⟨_,_,hr⟩<;>exact hr.below.drawn
 have scal:scalarR r=true→(∃ G',ResOK G' (base0 w w0.dr) w' r v)→∃κ',St F w0 κ' (σ.eff dst { val:=(recv (8*d) r).1,news:=(recv (8*d) r).2,frz:=frz }) (a.put dst v) w':=by
  rintro hs ⟨G',hr⟩
  have e1:(recv (8*d) r).2=[]∧(recv (8*d) r).1=r:=by
   cases r with
   | tup vs=>
     simp only[scalarR]at hs
     have key:∀(vs:List AV)(id:Nat),(vs.all fun | .int _ _ | .bool _ | .str _=>true|_=>false)=true→recvL id vs=(vs,[]):=by
      intro vs
      induction vs with
      | nil=>intro id _;rfl
      | cons x xs ih=>
        intro id hx
        simp only[List.all_cons,Bool.and_eq_true]at hx
        simp only[recvL,ih (id+1) hx.2]
        cases x<;>simp at hx<;>simp[recv1]
     simp only[recv,key vs _ hs]
     exact⟨trivial,trivial⟩
   | _=>simp[scalarR]at hs<;>simp[recv,recv1]
  rw[e1.1,e1.2]
  have m:Made κ κ σ w w' { val:=r,news:=[],frz:=frz }:=⟨hb,by simp,by simp,fun _ _=>rfl,by simp,by simp⟩
  refine⟨κ,h.made m hbd hd (by simp) ?_⟩
  obtain⟨us,h1,h2,h3,h4,h4'⟩:=hr.parts
  cases r with
  | tup vs=>
    simp only[partsOf]at h1
    simp only[Rel]
    simp only[compsOf]at h2 h3
    refine⟨us,h1,AllV_of _ _ _ _ h2 fun i x u hx hu=>?_⟩
    have h5:=h3 i x u hx hu
    simp only[scalarR,List.all_eq_true]at hs
    have hx2:=hs x (List.mem_of_getElem? hx)
    have h6:(Rel (resS G' (base0 w w0.dr) w' vs us) w' κ0 o0 x).val u:=by cases x<;>simp at hx2<;>exact h5
    exact scalar_rel hx2 h6
  | int k n=>simp only[partsOf]at h1;subst h1;exact scalar_rel rfl (h3 0 (.int k n) v (by simp[compsOf]) (by simp))
  | bool b=>simp only[partsOf]at h1;subst h1;exact scalar_rel rfl (h3 0 (.bool b) v (by simp[compsOf]) (by simp))
  | str s=>simp only[partsOf]at h1;subst h1;exact scalar_rel rfl (h3 0 (.str s) v (by simp[compsOf]) (by simp))
  | _=>simp[scalarR]at hs
 refine Or.elim hr (fun hr=>?_) (fun⟨hs,hr⟩=>scal hs hr)
 obtain⟨us,h1,h2,h3,h4,h4'⟩:=hr.parts
 let e:Eff:={ val:=(recv (8*d) r).1,news:=(recv (8*d) r).2,frz:=frz }
 let κ':Nat→Value:=fun id=>if(σ.objs id).isSome then κ id else us.getD (id-8*d) undef
 have hnews:∀p∈e.news,∃i x u,(compsOf r)[i]? = some x∧us[i]? = some u∧fzObj x=some p.2∧p.1=8*d+i∧κ' p.1=u:=by
  intro p hp
  have hp':p∈(recvL (8*d) (compsOf r)).2:=by rw[← recv_eq];exact hp
  obtain⟨i,x,hx,ho,he⟩:=(recvL_news _ _ _).1 hp'
  have hi:i<us.length:=by rw[← h2];exact(List.getElem?_eq_some_iff.1 hx).1
  refine⟨i,x,us[i],hx,List.getElem?_eq_getElem hi,ho,he,?_⟩
  have:=hfree p hp
  simp only[κ',this,Option.isSome_none,Bool.false_eq_true,if_false]
  rw[he]
  simp[List.getD,hi]
 have m:Made κ κ' σ w w' e:=by
  refine⟨hb,hfree,?_,fun id hid=>?_,fun p hp b hbk=>?_,fun p hp q hq hpq b hbk=>?_⟩
  ·show((recv (8*d) r).2.map (·.1)).Nodup
   rw[recv_eq]
   exact recvL_nodup _ _
  ·simp only[κ']
   cases ho:σ.objs id with
   | none=>exact absurd ho hid
   | some o=>simp
  ·obtain⟨i,x,u,hx,hu,ho,he,hk⟩:=hnews p hp
   rw[hk]at hbk
   exact base0_mine.1 (h4' i _ u hx hu (fzObj_fr ho) b hbk)
  ·obtain⟨i,x,u,hx,hu,ho,he,hk⟩:=hnews p hp
   obtain⟨j,x2,u2,hx2,hu2,ho2,he2,hk2⟩:=hnews q hq
   rw[hk]at hbk
   rw[hk2]
   refine h4 i j _ _ u u2 hx hx2 hu hu2 (fun e=>hpq ?_) (fzObj_fr ho) (fzObj_fr ho2) b hbk
   rw[he,he2,e]
 have hsub:∀k,resS G (base0 w w0.dr) w' (compsOf r) us k→Sset F w0.mine w' κ' (σ.eff dst e).objs k:=by
  rintro k ⟨hk1,hk2,hk3⟩
  have hfr:∀p∈e.news,blkOf (κ' p.1)≠some k:=by
   intro p hp
   obtain⟨i,x,u,hx,hu,ho,he,hk⟩:=hnews p hp
   rw[hk]
   exact hk3 i _ u hx hu (fzObj_fr ho)
  rcases hk1 with hG1|hnew
  ·rcases hG k hG1 with hs|⟨id,hid,hne,hblk⟩
   ·exact m.sub dst k hs
   ·obtain⟨o,ho⟩:=Option.ne_none_iff_exists'.1 hne
    have hlt:=(h.objs id o ho).lt hblk
    refine⟨.inr (h.mine id o k ho hblk),hk2,fun id' o' ho' hf hb'=>?_⟩
    rcases m.case dst ho' with⟨p,hp,rfl,rfl⟩|⟨hne',hi',hz⟩
    ·exact hfr p hp hb'
    ·rw[m.old id' hne']at hb'
     by_cases hii:id'=id
     ·subst hii
      have fro:∀(l:List Nat)(objs:Nat→Option AObj)(o:AObj),id'∈l→objs id'=some o→∃o2,freeze objs l id'=some o2∧isFz o2=true:=by
       intro l
       induction l with
       | nil=>intro objs o hm;cases hm
       | cons x l ih=>
         intro objs o hm ho
         simp only[freeze]
         by_cases hx:x=id'
         ·subst hx
          rw[ho]
          cases o with
          | row e1 k1 xs1 g1 f1=>
            simp only
            obtain⟨fz,hz⟩:=freeze_some l (upd objs x (some (.row e1 k1 xs1 g1 true))) x _ (upd_same _ _ _)
            exact⟨_,hz,by simp[orFz,isFz]⟩
          | box c1 f1=>
            simp only
            obtain⟨fz,hz⟩:=freeze_some l (upd objs x (some (.box c1 true))) x _ (upd_same _ _ _)
            exact⟨_,hz,by simp[orFz,isFz]⟩
          | mp c1 c2 f1=>
            simp only
            obtain⟨fz,hz⟩:=freeze_some l (upd objs x (some (.mp c1 c2 true))) x _ (upd_same _ _ _)
            exact⟨_,hz,by simp[orFz,isFz]⟩
         ·have hm':id'∈l:=by
           rcases List.mem_cons.1 hm with e|e
           ·exact absurd e.symm hx
           ·exact e
          cases hox:objs x with
          | none=>exact ih objs o hm' ho
          | some q=>cases q<;>exact ih _ o hm' (by rw[upd_ne _ _ (fun e=>hx e.symm)];exact ho)
      obtain⟨o2,ho2,hf2⟩:=fro frz σ.objs o hid ho
      have hz':freeze σ.objs frz id'=some o':=hz
      rw[ho2]at hz'
      cases hz'
      rw[hf]at hf2
      cases hf2
     ·obtain⟨o3,ho3⟩:=Option.ne_none_iff_exists'.1 hne'
      exact h.apart id' id o3 o ho3 ho hii k hb' hblk
  ·have hnew:=base0_mine.1 hnew
   refine⟨.inr (.inr (Nat.le_trans h.below.size hnew)),hk2,fun id' o' ho' hf hb'=>?_⟩
   rcases m.case dst ho' with⟨p,hp,rfl,rfl⟩|⟨hne',hi',hz⟩
   ·exact hfr p hp hb'
   ·rw[m.old id' hne']at hb'
    obtain⟨o3,ho3⟩:=Option.ne_none_iff_exists'.1 hne'
    have:=((h.objs id' o3 ho3).lt hb').2
    omega
 have hobj:∀p∈e.news,(σ.eff dst e).objs p.1=some p.2:=by
  intro p hp
  rw[(eff_objs σ dst e).1]
  exact objsL_new _ _ p m.nodup hp
 have hcomp:∀(i:Nat) x u,(compsOf r)[i]? = some x→us[i]? = some u→(Rel (Sset F w0.mine w' κ' (σ.eff dst e).objs) w' κ' (σ.eff dst e).objs (recv1 (8*d+i) x).1).val u:=by
  intro i x u hx hu
  have h5:=h3 i x u hx hu
  have hat:∀o,fzObj x=some o→(σ.eff dst e).objs (8*d+i)=some o∧κ' (8*d+i)=u:=by
   intro o ho
   have hp:((8*d+i,o):Nat×AObj)∈e.news:=by
    show _∈(recv (8*d) r).2
    rw[recv_eq]
    exact(recvL_news _ _ _).2 ⟨i,x,hx,ho,rfl⟩
   obtain⟨i',x',u',hx',hu',ho',he',hk'⟩:=hnews _ hp
   simp only at he'
   have:i'=i:=by omega
   subst this
   rw[hu]at hu'
   cases hu'
   exact⟨hobj _ hp,hk'⟩
  cases x with
  | fr ek k ys=>
    obtain⟨h6,h7⟩:=hat _ rfl
    simp only[recv1,Rel,one]
    exact⟨ek,k,ys,0,false,h6,Nat.le_refl _,fun _=>h7.symm⟩
  | fb cs=>
    obtain⟨h6,h7⟩:=hat _ rfl
    obtain⟨blk,T,arr,h8,_⟩:=h5
    simp only[recv1,Rel,one]
    exact⟨cs,false,h6,blk,h7.trans h8,h8⟩
  | _=>
    simp only[recv1]
    have h6:=(Rel_mono hsub (fun _ _=>rfl) (ObjLe.none κ0 κ0) _).val _ h5
    exact(Rel_lift _).val _ h6
 refine⟨κ',h.made m hbd hd (fun p hp=>?_) ?_⟩
 ·obtain⟨i,x,u,hx,hu,ho,he,hk⟩:=hnews p hp
  have h5:=h3 i _ u hx hu
  rw[he]
  have hk2:κ' (8*d+i)=u:=by rw[he]at hk;exact hk
  cases x with
  | fr ek k ys=>
    simp only[fzObj,Option.some.injEq]at ho
    rw[← ho]
    show RowOK _ w' 0 (κ' (8*d+i)) ek k ys
    rw[hk2]
    exact RowOK.mono h5 hsub (fun _ _=>rfl) fun b hbk=>⟨rfl,Nat.zero_le _⟩
  | fb cs=>
    simp only[fzObj,Option.some.injEq]at ho
    rw[← ho]
    obtain⟨blk,T,arr,h6,h7,h8⟩:=h5
    refine⟨blk,T,arr,hk2.trans h6,Nat.zero_le _,h7,?_⟩
    exact(RelL_lift cs).allV ((RelL_mono hsub (fun _ _=>rfl) (ObjLe.none κ0 κ0) cs).allV h8)
  | _=>simp[fzObj]at ho
 ·cases r with
  | tup vs=>
    simp only[partsOf]at h1
    show(Rel _ w' κ' _ (AV.tup (recvL (8*d) vs).1)).val v
    simp only[Rel]
    have hlen:(recvL (8*d) vs).1.length=vs.length:=by
     have key:∀(vs:List AV)(id:Nat),(recvL id vs).1.length=vs.length:=by
      intro vs
      induction vs with
      | nil=>intro id;rfl
      | cons x xs ih=>intro id;simp[recvL,ih]
     exact key _ _
    refine⟨us,h1,AllV_of _ _ _ _ (by rw[hlen];exact h2) fun i x u hx hu=>?_⟩
    rw[recvL_get 0]at hx
    cases hy:vs[i]? with
    | none=>rw[hy]at hx;cases hx
    | some y=>
      rw[hy]at hx
      simp only[Option.map_some,Option.some.injEq]at hx
      subst hx
      exact hcomp i y u hy hu
  | _=>
    simp only[partsOf]at h1
    subst h1
    exact hcomp 0 _ v (by simp[compsOf]) (by simp)
end
end Go.Abs
set_option linter.unusedVariables false
set_option linter.unusedSimpArgs false
namespace Go.Abs
open Go.RowKit
section
variable {F:Nat→Prop} {w0:Base} {κ:Nat→Value} {σ:Env} {a:Act} {w:World}
theorem cellNow_one(h:St F w0 κ σ a w){x:AV}{v:Value}(hc:cellNow σ.objs x=true)(hv:(Rel (SS F w0 κ σ w) w κ σ.objs x).val v):v.oneCell'=true:=by
 cases x with
 | own r g=>
   simp only[cellNow]at hc
   split at hc
   ·rename_i e k xs g' fz ho
    simp only[Rel,one]at hv
    obtain⟨_,_,_,_,_,ho',_,h1⟩:=hv
    rw[ho]at ho'
    simp only[Option.some.injEq,AObj.row.injEq]at ho'
    rw[h1 (by rw[← ho'.2.2.2.1];simpa using hc)]
    obtain⟨hk,zs,h2,_⟩:=h.objs r _ ho
    rcases h2.2 with⟨e,_⟩|⟨b,cap,cur,e,_⟩<;>rw[e]<;>rfl
   ·cases hc
 | oa r g i off=>
   simp only[cellNow]at hc
   split at hc
   ·rename_i e k xs g' fz ho
    simp only[Rel,one]at hv
    obtain⟨_,_,_,_,_,ho',_,h1⟩:=hv
    rw[ho]at ho'
    simp only[Option.some.injEq,AObj.row.injEq]at ho'
    obtain⟨b,_,h2⟩:=h1 (by rw[← ho'.2.2.2.1];simpa using hc)
    rw[h2]
    rfl
   ·cases hc
 | ba b off=>
   simp only[Rel,one]at hv
   obtain⟨_,_,_,_,_,h1⟩:=hv
   rw[h1]
   rfl
 | int k n=>simp only[Rel,one]at hv;rw[hv];rfl
 | bool b=>simp only[Rel,one]at hv;rw[hv];rfl
 | str s=>simp only[Rel,one]at hv;rw[hv];rfl
 | sl xs=>simp only[Rel,one]at hv;obtain⟨A,c,h1,_⟩:=hv;rw[h1];rfl
 | nils=>simp only[Rel,one]at hv;rw[hv];rfl
 | pp nl cs=>simp only[Rel,one]at hv;cases nl with
   | true=>simp only[if_true]at hv;rw[hv];rfl
   | false=>simp only[Bool.false_eq_true,if_false]at hv;obtain⟨b,o,h1,_⟩:=hv;rw[h1];rfl
 | fn f cs=>simp only[Rel,one]at hv;obtain⟨vs,h1,_⟩:=hv;rw[h1];rfl
 | ia cs off=>simp only[Rel,one]at hv;obtain⟨b,o,h1,_⟩:=hv;rw[h1];rfl
 | mr r=>simp only[Rel,one]at hv;obtain⟨_,_,_,_,_,_,h1⟩:=hv;rw[h1];rfl
 | mv ks vs=>simp only[Rel,one]at hv;obtain⟨_,_,_,h1,_⟩:=hv;rw[h1];rfl
 | _=>simp[cellNow]at hc
theorem cells_of_one{v:Value}(h:v.oneCell'=true):v.cells=#[v]:=by cases v<;>simp[Value.oneCell']at h<;>rfl
theorem cellsNow_val(h:St F w0 κ σ a w){x:AV}{v:Value}(hc:cellsNow σ.objs x=true)(hv:(Rel (SS F w0 κ σ w) w κ σ.objs x).val v):AllV (RelL (SS F w0 κ σ w) w κ σ.objs x.cells) v.cells.toList:=by
 have other:cellNow σ.objs x=true→AllV (RelL (SS F w0 κ σ w) w κ σ.objs [x]) v.cells.toList:=fun hc=>by
  rw[cells_of_one (cellNow_one h hc hv)]
  exact AllV_cons hv ⟨by simp[RelL],fun i r u hr=>by simp[RelL]at hr⟩
 cases x with
 | agg cs=>
   simp only[Rel]at hv
   obtain⟨vs,rfl,h1⟩:=hv
   simpa[Value.cells,AV.cells]using h1
 | _=>exact other (by simpa[cellsNow]using hc)
theorem zero_cells{P:Program}{t:TypeId}{z:AV}(hz:zeroOf P t=some z)(S:Nat→Prop)(w:World)(κ:Nat→Value)(objs:Nat→Option AObj) :
  ∃i zv,P.info? t=some i∧i.zero=some zv∧(Rel S w κ objs z).val zv∧AllV (RelL S w κ objs z.cells) zv.cells.toList:=by
 unfold zeroOf at hz
 cases hi:P.info? t with
 | none=>rw[hi]at hz;simp at hz
 | some i=>
   rw[hi]at hz
   simp only[Option.bind_some]at hz
   cases hzv:i.zero with
   | none=>rw[hzv]at hz;simp at hz
   | some zv=>
     rw[hzv]at hz
     simp only[Option.bind_some]at hz
     have hr:=ofV_sound S w κ objs zv z hz
     refine⟨i,zv,rfl,hzv,hr,?_⟩
     have one_:(∀ cs,z ≠ .agg cs)→zv.cells=#[zv]→AllV (RelL S w κ objs z.cells) zv.cells.toList:=fun h1 h2=>by
      rw[h2]
      have:z.cells=[z]:=by cases z<;>simp[AV.cells]at h1 ⊢
      rw[this]
      exact AllV_cons hr ⟨by simp[RelL],fun i r u hr=>by simp[RelL]at hr⟩
     cases zv with
     | agg cs=>
       unfold ofV at hz
       simp only at hz
       cases hm:mapO cellV cs.toList with
       | none=>rw[hm]at hz;simp at hz
       | some ys=>
         rw[hm]at hz
         simp only[Option.map_some,Option.some.injEq]at hz
         subst hz
         simp only[Rel]at hr
         obtain⟨vs,h1,h2⟩:=hr
         injection h1 with h1
         subst h1
         simpa[Value.cells,AV.cells]using h2
     | tuple vs=>simp[ofV,cellV]at hz
     | _=>
       refine one_ (fun cs e=>?_) rfl
       subst e
       simp only[Rel]at hr
       obtain⟨vs,h1,_⟩:=hr
       cases h1
theorem typeInfo_zero{P:Program}{t:TypeId}{i:TypeInfo}{zv:Value}(hi:P.info? t=some i)(hz:i.zero=some zv)(w:World):(zeroValue t).run P w= .ok zv w:=by
 unfold zeroValue
 simp only[Sem.run_bind,run_typeInfo w hi,Result.andThen_ok,hz,Sem.run_pure]
theorem box_sound(h:St F w0 κ σ a w){dst:Option Nat}{d:Nat}{cs:List AV}{v:Value}{t:TypeId}(hd:dst.all σ.n.ok=true)(hfree:σ.objs (8*d)=none)
  (hc:AllV (RelL (SS F w0 κ σ w) w κ σ.objs cs) v.cells.toList) :
  ∃κ',St F w0 κ' (σ.eff dst { val:= .ba (8*d) 0,news:=[(8*d,.box cs false)] }) (a.put dst (.pointer (some (at_ w.heap.size 0)))) (w.alloc (.cells v.cells t)):=by
 let e:Eff:={ val:= .ba (8*d) 0,news:=[(8*d,.box cs false)] }
 let κ':=upd κ (8*d) (.pointer (some (at_ w.heap.size 0)))
 have m:Made κ κ' σ w (w.alloc (.cells v.cells t)) e:=by
  refine⟨(Below.refl _ w).alloc (Nat.le_refl _) _,by simpa[e]using hfree,by simp[e],fun id hid=>upd_ne _ _ (fun e=>hid (by rw[e];exact hfree)),?_,?_⟩
  ·intro p hp b hb
   simp only[e,List.mem_singleton]at hp
   subst hp
   simp only[κ',upd_same,blkOf,Option.some.injEq]at hb
   omega
  ·intro p hp q hq hpq
   simp only[e,List.mem_singleton]at hp hq
   subst hp;subst hq
   exact absurd rfl hpq
 have hobj:(σ.eff dst e).objs (8*d)=some (.box cs false):=by
  rw[(eff_objs σ dst e).1]
  exact objsL_new _ _ (8*d,.box cs false) m.nodup (by simp[e])
 refine⟨κ',h.made m (fun _=>Nat.le_refl _) hd (fun p hp=>?_) ?_⟩
 ·simp only[e,List.mem_singleton]at hp
  subst hp
  refine⟨w.heap.size,t,v.cells,upd_same _ _ _,Nat.zero_le _,heap_alloc_new w _,?_⟩
  exact(RelL_mono (fun k=>m.sub (F:=F) (B:=w0.mine) dst k) (fun k hk=>m.below.block k hk.2.1) (m.le dst) cs).allV hc
 ·show(Rel _ _ κ' _ (AV.ba (8*d) 0)).val _
  simp only[Rel,one]
  exact⟨cs,false,hobj,w.heap.size,upd_same _ _ _,rfl⟩
theorem exptA_cases{k:Bool}{objs:Nat→Option AObj}{x y:AV}(h:exptA k objs x=some y):(x= .nils∧y= .nils)∨expt (fun _=>false) objs DEPTH x=some y:=by
 cases x with
 | nils=>
   simp only[exptA,Option.some.injEq]at h
   cases k with
   | true=>exact .inl ⟨rfl,h.symm⟩
   | false=>exact .inr (by rw[← h];rfl)
 | _=>exact .inr h
theorem callE_sound(h:St F w0 κ σ a w){P:Program}{C:Callee}(hC:CallAt P C w0){d f:Nat}{args:List AV}{e:Eff}{vals:List Value}{dst:Option Nat}
  (he:callE P C σ.objs d f args=some e) (hv:AllV (RelL (SS F w0 κ σ w) w κ σ.objs args) vals) (hd:dst.all σ.n.ok=true) (hfree:∀p∈e.news,σ.objs p.1=none) :
  (∃ fn,P.funcs[f]? = some fn∧fn.name ≠ "runtime.NumGoroutine"∧fn.body.isSome=true)∧
  Calls P f vals.toArray w fun en w'=>∃v,en= .returned v∧∃κ',St F w0 κ' (σ.eff dst e) (a.put dst v) w':=by
 unfold callE at he
 split at he
 ·rename_i hen
  cases hm:mapO (exptA (keepsNil P f) σ.objs) args with
  | none=>rw[hm]at he;simp at he
  | some as=>
  rw[hm]at he
  simp only[Option.bind_some]at he
  cases hcr:C f as with
  | none=>rw[hcr]at he;simp at he
  | some r=>
    rw[hcr]at he
    simp only[Option.map_some,Option.some.injEq]at he
    subst he
    refine⟨?_,?_⟩
    ·have hen:=((Bool.and_eq_true _ _).mp hen).1
     unfold entersB at hen
     split at hen
     ·rename_i fn hfn
      simp only[Bool.and_eq_true,bne_iff_ne,ne_eq]at hen
      exact⟨fn,hfn,hen.1,hen.2⟩
     ·cases hen
    ·let G:Nat→Prop:=fun k=>SS F w0 κ σ w k∨∃id∈args.flatMap (refsOf σ.objs DEPTH),σ.objs id≠none∧blkOf (κ id)=some k
     have hG:∀k,G k→k<w.heap.size:=by
      rintro k (hk|⟨id,_,hne,hb⟩)
      ·exact hk.2.1
      ·obtain⟨o,ho⟩:=Option.ne_none_iff_exists'.1 hne
       exact((h.objs id o ho).lt hb).2
     have hargs:AllV (RelL G w κ0 o0 as) vals:=by
      obtain⟨h1,h2⟩:=mapO_some hm
      obtain⟨h3,h4⟩:=AllV_get _ _ _ _ hv
      refine AllV_of _ _ _ _ (by omega) fun i y u hy hu=>?_
      have hi:i<args.length:=by rw[← h1];exact(List.getElem?_eq_some_iff.1 hy).1
      obtain⟨y',h5,h6⟩:=h2 i _ (List.getElem?_eq_getElem hi)
      rw[h6]at hy
      cases hy
      rcases exptA_cases h5 with⟨e1,rfl⟩|h5
      ·have h7:=h4 i args[i] u (List.getElem?_eq_getElem hi) hu
       rw[e1]at h7
       exact h7
      refine expt_sound h (fun k hk=> .inl hk) _ _ _ _ h5 (h4 i _ u (List.getElem?_eq_getElem hi) hu) fun id hid hne b hb=> .inr ⟨id,List.mem_flatMap.2 ⟨_,List.getElem_mem hi,hid⟩,hne,hb⟩
     refine(hC.byval hcr (hC.g.below h.below) hG hargs).mono fun en w' ⟨v,hen',hres⟩=>⟨v,hen',?_⟩
     have hres:=hres.res (givesB_of (by have:=((Bool.and_eq_true _ _).mp hen).2;simpa using this))
     by_cases hs:scalarR r=true
     ·have:=recv_sound h (r:=r) (v:=v) (w':=w') (dst:=dst) (d:=d) (frz:=[]) (G:=fun _=>False) (fun k hk=>hk.elim) hd hfree (.inr ⟨hs,G,hres⟩)
      simpa[hs]using this
     ·have:=recv_sound h (r:=r) (v:=v) (w':=w') (dst:=dst) (d:=d) (frz:=args.flatMap (refsOf σ.objs DEPTH)) (G:=G) (fun k hk=>hk) hd hfree (.inl hres)
      simpa[hs]using this
 ·cases he
end
end Go.Abs
set_option linter.unusedVariables false
set_option linter.unusedSimpArgs false
namespace Go.Abs
open Go.RowKit
theorem foldl_set(off:Nat):∀(l:List Value)(k:Nat)(arr:Array Value),off+k+l.length≤arr.size→
  ((l.zipIdx k).foldl (fun cs p=>cs.setIfInBounds (off+p.2) p.1) arr).size=arr.size∧
  ∀i,((l.zipIdx k).foldl (fun cs p=>cs.setIfInBounds (off+p.2) p.1) arr)[i]? = if off+k≤i∧i<off+k+l.length then l[i-(off+k)]? else arr[i]?
 | [],k,arr,h=>by
   refine⟨rfl,fun i=>?_⟩
   rw[if_neg (by simp)]
   rfl
 | v::l,k,arr,h=>by
   simp only[List.length_cons]at h
   simp only[List.zipIdx_cons,List.foldl_cons]
   obtain⟨h1,h2⟩:=foldl_set off l (k+1) (arr.setIfInBounds (off+k) v) (by rw[Array.size_setIfInBounds];omega)
   refine⟨by rw[h1];simp,fun i=>?_⟩
   rw[h2 i]
   by_cases hi:i=off+k
   ·subst hi
    rw[if_neg (by omega),if_pos (by simp),Array.getElem?_setIfInBounds,if_pos rfl,if_pos (by omega)]
    simp
   ·by_cases hi2:off+k≤i∧i<off+k+(v::l).length
    ·rw[if_pos hi2]
     simp only[List.length_cons]at hi2
     rw[if_pos (by omega)]
     rw[show i-(off+k)=(i-(off+(k+1)))+1 by omega,List.getElem?_cons_succ]
    ·rw[if_neg hi2]
     simp only[List.length_cons]at hi2
     rw[if_neg (by omega),Array.getElem?_setIfInBounds_ne (by omega)]
theorem put_cells(off:Nat)(vs arr:Array Value)(h:off+vs.size≤arr.size) :
  (vs.zipIdx.foldl (fun cs (p:Value×Nat)=>cs.setIfInBounds (off+p.2) p.1) arr).toList=arr.toList.take off++vs.toList++arr.toList.drop (off+vs.size):=by
 have e:vs.zipIdx.foldl (fun cs (p:Value×Nat)=>cs.setIfInBounds (off+p.2) p.1) arr=(vs.toList.zipIdx 0).foldl (fun cs p=>cs.setIfInBounds (off+p.2) p.1) arr:=by
  rw[← Array.foldl_toList,Array.toList_zipIdx]
 rw[e]
 obtain⟨h1,h2⟩:=foldl_set off vs.toList 0 arr (by simpa using h)
 apply List.ext_getElem?
 intro i
 rw[Array.getElem?_toList,h2 i]
 simp only[Nat.add_zero,Array.length_toList,List.append_assoc]
 by_cases ha:i<off
 ·rw[if_neg (by omega),List.getElem?_append_left (by simp;omega),List.getElem?_take,if_pos ha,Array.getElem?_toList]
 ·rw[List.getElem?_append_right (by simp;omega)]
  simp only[List.length_take,Array.length_toList]
  rw[Nat.min_eq_left (by omega)]
  by_cases hb:i<off+vs.size
  ·rw[if_pos ⟨by omega,hb⟩,List.getElem?_append_left (by simp;omega)]
  ·rw[if_neg (by omega),List.getElem?_append_right (by simp;omega)]
   simp only[Array.length_toList,List.getElem?_drop,Array.getElem?_toList]
   congr 1
   omega
section
variable {S:Nat→Prop} {w:World} {κ:Nat→Value} {objs:Nat→Option AObj}
theorem AllV_append{xs ys:List AV}{us vs:List Value}(h1:AllV (RelL S w κ objs xs) us)(h2:AllV (RelL S w κ objs ys) vs):AllV (RelL S w κ objs (xs++ys)) (us++vs):=by
 obtain⟨a1,b1⟩:=AllV_get _ _ _ _ h1
 obtain⟨a2,b2⟩:=AllV_get _ _ _ _ h2
 refine AllV_of _ _ _ _ (by simp[a1,a2]) fun i x u hx hu=>?_
 by_cases hi:i<xs.length
 ·rw[List.getElem?_append_left hi]at hx
  rw[List.getElem?_append_left (by omega)]at hu
  exact b1 i x u hx hu
 ·rw[List.getElem?_append_right (by omega)]at hx
  rw[List.getElem?_append_right (by omega),←a1]at hu
  exact b2 _ x u hx hu
theorem AllV_take{xs:List AV}{us:List Value}(h:AllV (RelL S w κ objs xs) us)(n:Nat):AllV (RelL S w κ objs (xs.take n)) (us.take n):=by
 simpa using take_drop_V h 0 n
theorem AllV_drop{xs:List AV}{us:List Value}(h:AllV (RelL S w κ objs xs) us)(n:Nat):AllV (RelL S w κ objs (xs.drop n)) (us.drop n):=by
 have:=take_drop_V h n us.length
 have e:=(AllV_get _ _ _ _ h).1
 rw[List.take_of_length_le (by rw[List.length_drop];omega),List.take_of_length_le (by rw[List.length_drop];omega)]at this
 exact this
theorem putAt_sound{cs vs cs':List AV}{off:Nat}{us ws:List Value}(h1:AllV (RelL S w κ objs cs) us)(h2:AllV (RelL S w κ objs vs) ws)(h:putAt cs off vs=some cs') :
  off+ws.length≤us.length∧AllV (RelL S w κ objs cs') (us.take off++ws++us.drop (off+ws.length)):=by
 unfold putAt at h
 split at h
 ·rename_i hle
  simp only[Option.some.injEq]at h
  subst h
  have e1:=(AllV_get _ _ _ _ h1).1
  have e2:=(AllV_get _ _ _ _ h2).1
  refine⟨by omega,?_⟩
  rw[← e2]
  exact AllV_append (AllV_append (AllV_take h1 off) h2) (AllV_drop h1 _)
 ·cases h
theorem fill_sound{P:Program}{places:Nat→Option (Nat×Nat)}:∀(parts:List (Nat×AV))(vparts:List (Nat×Value))(cs cs':List AV)(arr:Array Value),
  parts.length=vparts.length→(∀(i:Nat) p q,parts[i]? = some p→vparts[i]? = some q→p.1=q.1∧AllV (RelL S w κ objs p.2.cells) q.2.cells.toList)→
  AllV (RelL S w κ objs cs) arr.toList→fill P cs places parts=some cs'→∃arr',Instr.fill places arr vparts=some arr'∧AllV (RelL S w κ objs cs') arr'.toList
 | [],[],cs,cs',arr,_,_,hr,hf=>by
   simp only[fill,Option.some.injEq]at hf
   subst hf
   exact⟨arr,rfl,hr⟩
 | [],_::_,cs,cs',arr,hl,_,_,_=>by simp at hl
 | _::_,[],cs,cs',arr,hl,_,_,_=>by simp at hl
 | (i,x)::parts,(j,v)::vparts,cs,cs',arr,hl,hp,hr,hf=>by
   obtain⟨e,hx⟩:=hp 0 (i,x) (j,v) (by simp) (by simp)
   simp only at e hx
   subst e
   simp only[fill]at hf
   cases hpl:places i with
   | none=>rw[hpl]at hf;simp at hf
   | some q=>
     obtain⟨off,size⟩:=q
     rw[hpl]at hf
     simp only[Option.bind_some]at hf
     split at hf
     ·rename_i hsz
      cases hput:putAt cs off x.cells with
      | none=>rw[hput]at hf;simp at hf
      | some c2=>
        rw[hput]at hf
        simp only[Option.bind_some]at hf
        obtain⟨h1,h2⟩:=putAt_sound hr hx hput
        have e2:=(AllV_get _ _ _ _ hx).1
        simp only[Array.length_toList]at h1 e2
        have hpc:=put_cells off v.cells arr h1
        obtain⟨arr',h3,h4⟩:=fill_sound parts vparts c2 cs' _ (by simpa using hl) (fun k p q hk hk2=>hp (k+1) p q (by simpa using hk) (by simpa using hk2)) (by rw[hpc];simpa using h2) hf
        refine⟨arr',?_,h4⟩
        simp only[Instr.fill,hpl]
        rw[if_neg (by simp;omega)]
        exact h3
     ·cases hf
end
end Go.Abs
set_option linter.unusedVariables false
set_option linter.unusedSimpArgs false
namespace Go.Abs
open Go.RowKit
theorem fill_rows{k:Nat}(hk:0<k):∀(vs:List Value)(m:Nat)(arr:Array Value),(∀ v∈vs,v.cells.size=k)→(m+vs.length)*k≤arr.size→
  ∃arr',Instr.fill (fun i=>some (i*k,k)) arr ((vs.zipIdx m).map fun p=>(p.2,p.1))=some arr'∧arr'.size=arr.size∧
   (∀ j v,vs[j]? = some v→∀i,i<k→arr'[(m+j)*k+i]? = v.cells[i]?)∧(∀ p,p<m*k→arr'[p]? = arr[p]?)
 | [],m,arr,_,_=>⟨arr,rfl,rfl,fun j v h=>by simp at h,fun _ _=>rfl⟩
 | v::vs,m,arr,hv,hs=>by
   have hvk:v.cells.size=k:=hv v (by simp)
   have hmk:m*k+k≤arr.size:=by
    have:(m+1)*k≤(m+(v::vs).length)*k:=Nat.mul_le_mul_right _ (by simp)
    rw[Nat.add_mul]at this
    omega
   have hpc:=put_cells (m*k) v.cells arr (by omega)
   let arr1:=v.cells.zipIdx.foldl (fun cs (p:Value×Nat)=>cs.setIfInBounds (m*k+p.2) p.1) arr
   have hsz:arr1.size=arr.size:=by
    have:arr1.toList.length=arr.toList.length:=by
     show(v.cells.zipIdx.foldl (fun cs (p:Value×Nat)=>cs.setIfInBounds (m*k+p.2) p.1) arr).toList.length=_
     rw[hpc]
     simp
     omega
    simpa using this
   obtain⟨arr',h1,h2,h3,h4⟩:=fill_rows hk vs (m+1) arr1 (fun u hu=>hv u (by simp[hu])) (by rw[hsz];simp only[List.length_cons]at hs;rw[show m+1+vs.length=m+(vs.length+1) by omega];exact hs)
   refine⟨arr',?_,h2.trans hsz,fun j u hu i hi=>?_,fun p hp=>?_⟩
   ·simp only[List.zipIdx_cons,List.map_cons,Instr.fill]
    rw[if_neg (by simp;omega)]
    exact h1
   ·cases j with
    | zero=>
      simp only[List.getElem?_cons_zero,Option.some.injEq]at hu
      subst hu
      rw[Nat.add_zero,h4 _ (by rw[Nat.add_mul];omega),←Array.getElem?_toList,hpc]
      rw[List.append_assoc,List.getElem?_append_right (by simp;omega),List.getElem?_append_left (by simp;omega)]
      simp only[List.length_take,Array.length_toList,Array.getElem?_toList]
      rw[Nat.min_eq_left (by omega)]
      congr 1
      omega
    | succ j=>
      have:=h3 j u (by simpa using hu) i hi
      rwa[show m+1+j=m+(j+1) by omega]at this
   ·rw[h4 p (by rw[Nat.add_mul];omega),←Array.getElem?_toList,hpc,List.append_assoc,List.getElem?_append_left (by simp;omega),List.getElem?_take,if_pos hp,Array.getElem?_toList]
theorem noParts_eq{α:Type}(f:α→AV):∀(ps:List (Nat×α))(m:Nat)(vs:List AV),noParts (ps.map fun p=>(p.1,f p.2)) m=some vs→vs=ps.map (fun p=>f p.2)∧∀(g:α→Value),(ps.map fun p=>(p.1,g p.2))=((ps.map fun p=>g p.2).zipIdx m).map fun q=>(q.2,q.1)
 | [],m,vs,h=>by simp only[List.map_nil,noParts,Option.some.injEq]at h;subst h;exact⟨rfl,fun _=>rfl⟩
 | (i,x)::ps,m,vs,h=>by
   simp only[List.map_cons,noParts]at h
   split at h
   ·rename_i e
    subst e
    cases hr:noParts (ps.map fun p=>(p.1,f p.2)) (i+1)with
    | none=>rw[hr]at h;simp at h
    | some us=>
      rw[hr]at h
      simp only[Option.map_some,Option.some.injEq]at h
      subst h
      obtain⟨h1,h2⟩:=noParts_eq f ps (i+1) us hr
      refine⟨by rw[h1];rfl,fun g=>?_⟩
      simp only[List.map_cons,List.zipIdx_cons,h2 g]
   ·cases h
theorem cellOK_one{S:Nat→Prop}{w:World}{κ:Nat→Value}{objs:Nat→Option AObj}{x:AV}{v:Value}(hc:cellOK x=true)(hv:(Rel S w κ objs x).val v):v.oneCell'=true:=by
 cases x with
 | int k n=>simp only[Rel,one]at hv;rw[hv];rfl
 | bool b=>simp only[Rel,one]at hv;rw[hv];rfl
 | str s=>simp only[Rel,one]at hv;rw[hv];rfl
 | sl xs=>simp only[Rel,one]at hv;obtain⟨A,c,h1,_⟩:=hv;rw[h1];rfl
 | nils=>simp only[Rel,one]at hv;rw[hv];rfl
 | pp nl cs=>simp only[Rel,one]at hv;cases nl with
   | true=>simp only[if_true]at hv;rw[hv];rfl
   | false=>simp only[Bool.false_eq_true,if_false]at hv;obtain⟨b,o,h1,_⟩:=hv;rw[h1];rfl
 | fn f cs=>simp only[Rel,one]at hv;obtain⟨vs,h1,_⟩:=hv;rw[h1];rfl
 | ia cs off=>simp only[Rel,one]at hv;obtain⟨b,o,h1,_⟩:=hv;rw[h1];rfl
 | mv ks vs=>simp only[Rel,one]at hv;obtain⟨_,_,_,h1,_⟩:=hv;rw[h1];rfl
 | _=>simp[cellOK]at hc
theorem elemOk_val{P:Program}{e k:Nat}{S:Nat→Prop}{w:World}{κ:Nat→Value}{objs:Nat→Option AObj}{x:AV}{v:Value}(hc:elemOk P e k x=true)(hv:(Rel S w κ objs x).val v) :
  v.cells.size=k∧AllV (RelL S w κ objs x.cells) v.cells.toList∧∀u∈v.cells.toList,u.oneCell'=true:=by
 unfold elemOk at hc
 simp only[Bool.and_eq_true,beq_iff_eq,List.all_eq_true]at hc
 obtain⟨h1,h2⟩:=hc
 have key:AllV (RelL S w κ objs x.cells) v.cells.toList:=by
  have other:cellOK x=true→AllV (RelL S w κ objs [x]) v.cells.toList:=fun hc=>by
   rw[cells_of_one (cellOK_one hc hv)]
   exact AllV_cons hv ⟨by simp[RelL],fun i r u hr=>by simp[RelL]at hr⟩
  cases x with
  | agg cs=>
    simp only[Rel]at hv
    obtain⟨vs,rfl,h3⟩:=hv
    simpa[Value.cells,AV.cells]using h3
  | _=>exact other (h2 _ (by simp[AV.cells]))
 obtain⟨h3,h4⟩:=AllV_get _ _ _ _ key
 refine⟨by have:=h3;simp only[Array.length_toList]at this;omega,key,fun u hu=>?_⟩
 obtain⟨i,hi,rfl⟩:=List.getElem_of_mem hu
 have hi2:i<x.cells.length:=by omega
 exact cellOK_one (h2 _ (List.getElem_mem hi2)) (h4 i _ _ (List.getElem?_eq_getElem hi2) (List.getElem?_eq_getElem hi))
section
variable {F:Nat→Prop} {w0:Base} {κ:Nat→Value} {σ:Env} {a:Act} {w:World}
theorem rowOk_info{P:Program}{e k:Nat}(h:rowOk P e k=true):∃i z,P.info? e=some i∧i.size=k∧0<k∧i.zero=some z∧z.cells.size=k:=by
 unfold rowOk at h
 split at h
 ·rename_i i hi
  simp only[Bool.and_eq_true,beq_iff_eq,decide_eq_true_eq]at h
  obtain⟨⟨h1,h2⟩,h3⟩:=h
  split at h3
  ·rename_i z hz
   exact⟨i,z,hi,h1,h2,hz,by simpa using h3⟩
  ·cases h3
 ·cases h
theorem lit_sound(h:St F w0 κ σ a w){P:Program}{t e k n:Nat}{ps:Array (Nat×Operand)}{vs xs:List AV}{dst:Option Nat}{d:Nat}(hd:dst.all σ.n.ok=true)(hfree:σ.objs (8*d)=none)
  (he:elemT P t=some e) (hk:sizeT P e=some k) (hp:noParts (ps.toList.map fun(i,x)=>(i,evA σ.slots x)) 0=some vs) (hn:vs.length=n∧n*k≤16777216∧rowOk P e k=true)
  (hx:mapO (expt (fun _=>false) σ.objs DEPTH) vs=some xs) (hok:xs.all (elemOk P e k)=true) :
  ∃v w',(Instr.buildSlice t n (ps.map fun(i,x)=>(i,a.eval x))).run P w= .ok v w'∧
   ∃κ',St F w0 κ' (σ.eff dst { val:= .own (8*d) 0,news:=[(8*d,.row e k xs 0 false)],frz:=vs.flatMap (refsOf σ.objs DEPTH) }) (a.put dst v) w':=by
 obtain⟨hn1,hn2,hro⟩:=hn
 obtain⟨i,z,hi,hik,hk0,hz,hzk⟩:=rowOk_info hro
 subst hik
 obtain⟨hvs,hvp⟩:=noParts_eq (fun x=>evA σ.slots x) ps.toList 0 vs hp
 have hparts:(ps.map fun(i,x)=>(i,a.eval x)).toList=((ps.toList.map fun p=>a.eval p.2).zipIdx 0).map fun q=>(q.2,q.1):=by
  rw[Array.toList_map];exact hvp fun x=>a.eval x
 let us:=ps.toList.map fun p=>a.eval p.2
 obtain⟨hxl,hxm⟩:=mapO_some hx
 have hul:us.length=n:=by simp only[us,List.length_map];rw[← hn1,hvs,List.length_map]
 let G:Nat→Prop:=fun b=>SS F w0 κ σ w b∨∃id∈vs.flatMap (refsOf σ.objs DEPTH),σ.objs id≠none∧blkOf (κ id)=some b
 have hrel:∀(j:Nat) x u,xs[j]? = some x→us[j]? = some u→(Rel G w κ0 o0 x).val u:=by
  intro j x u hj hu
  have hjl:j<vs.length:=by rw[← hxl];exact(List.getElem?_eq_some_iff.1 hj).1
  obtain⟨y,h1,h2⟩:=hxm j _ (List.getElem?_eq_getElem hjl)
  rw[h2]at hj
  cases hj
  have hev:(Rel (SS F w0 κ σ w) w κ σ.objs vs[j]).val u:=by
   have e1:vs[j]? = (ps.toList[j]?).map fun p=>evA σ.slots p.2:=by rw[hvs,List.getElem?_map]
   have e2:us[j]? = (ps.toList[j]?).map fun p=>a.eval p.2:=by simp only[us,List.getElem?_map]
   cases hpj:ps.toList[j]? with
   | none=>rw[hpj]at e2;rw[e2]at hu;cases hu
   | some p=>
     rw[hpj]at e1 e2
     rw[e2]at hu
     rw[List.getElem?_eq_getElem hjl]at e1
     simp only[Option.map_some,Option.some.injEq]at e1 hu
     rw[e1,←hu]
     exact h.evA p.2
  exact expt_sound h (fun b hb=> .inl hb) _ _ _ _ h1 hev fun id hid hne b hb=> .inr ⟨id,List.mem_flatMap.2 ⟨_,List.getElem_mem hjl,hid⟩,hne,hb⟩
 have hcell:∀(j:Nat) u,us[j]? = some u→u.cells.size=i.size∧∃x,xs[j]? = some x∧AllV (RelL G w κ0 o0 x.cells) u.cells.toList∧x.cells.length=i.size∧∀c∈u.cells.toList,c.oneCell'=true:=by
  intro j u hu
  have hjl:j<xs.length:=by rw[hxl,hn1,←hul];exact(List.getElem?_eq_some_iff.1 hu).1
  have hx2:=List.getElem?_eq_getElem hjl
  have h3:=List.all_eq_true.1 hok _ (List.getElem_mem hjl)
  obtain⟨h4,h5,h6⟩:=elemOk_val h3 (hrel j _ u hx2 hu)
  refine⟨h4,_,hx2,h5,?_,h6⟩
  unfold elemOk at h3
  simp only[Bool.and_eq_true,beq_iff_eq]at h3
  exact h3.1
 have hrun:∃cells:Array Value,(Instr.buildSlice t n (ps.map fun(i,x)=>(i,a.eval x))).run P w= .ok (.slice (some (at_ w.heap.size 0)) n n) (w.alloc (.cells cells e))∧cells.size=n*i.size∧
   (∀ j u,us[j]? = some u→∀c,c<i.size→cells[j*i.size+c]? = u.cells[c]?):=by
  by_cases hn0:n=0
  ·subst hn0
   refine⟨#[],?_,by simp,fun j u hu=>?_⟩
   ·have:ps.toList=[]:=by
     have:=hul
     simp only[us,List.length_map]at this
     exact List.eq_nil_of_length_eq_zero this
    have hps:ps=#[]:=by apply Array.ext';simpa using this
    subst hps
    simp[Instr.buildSlice,run_underlying (elemT_some he),sizeOf,typeInfo,hi,Instr.fill,newRow]
    congr 2
    apply Array.ext'
    simp
   ·have:us=[]:=List.eq_nil_of_length_eq_zero hul
    rw[this]at hu
    simp at hu
  ·obtain⟨arr',h1,h2,h3,h4⟩:=fill_rows hk0 us 0 ((Array.range (n*i.size)).map (z.cells[· % z.cells.size]!)) (fun v hv=>by
    obtain⟨j,hj,rfl⟩:=List.getElem_of_mem hv
    exact(hcell j _ (List.getElem?_eq_getElem hj)).1) (by rw[Nat.zero_add,hul];simp)
   refine⟨arr',?_,by rw[h2];simp,fun j u hu c hc=>by have:=h3 j u hu c hc;rwa[Nat.zero_add]at this⟩
   refine run_buildSlice w t e n _ arr' i z (elemT_some he) hi hz (by omega) (fun e0=>?_) ?_
   ·rcases Nat.mul_eq_zero.1 e0 with e0|e0
    ·exact hn0 e0
    ·omega
   ·rw[hparts];exact h1
 obtain⟨cells,hr,hcs,hcg⟩:=hrun
 refine⟨_,_,hr,?_⟩
 let ef:Eff:={ val:= .own (8*d) 0,news:=[(8*d,.row e i.size xs 0 false)],frz:=vs.flatMap (refsOf σ.objs DEPTH) }
 have hres:ResOK G (base0 w w0.dr) (w.alloc (.cells cells e)) (.fr e i.size xs) (.slice (some (at_ w.heap.size 0)) n n):=by
  refine⟨BelowB.base0 ((Below.refl _ w).alloc (Nat.le_refl _) _) (fun _=>Nat.le_refl _),[.slice (some (at_ w.heap.size 0)) n n],rfl,rfl,?_,?_,?_⟩
  ·intro j x u hj hu
   cases j with
   | succ j=>simp[compsOf]at hj
   | zero=>
     simp only[compsOf,List.getElem?_cons_zero,Option.some.injEq]at hj hu
     subst hj;subst hu
     show RowOK _ _ _ _ _ _ _
     have hnb:n≤maxLen:=by
      have:n≤n*i.size:=Nat.le_mul_of_pos_right n hk0
      have hm:(16777216:Nat)≤maxLen:=by unfold maxLen;decide
      omega
     refine⟨hk0,cells.toList,⟨by rw[Array.length_toList,hcs,hxl,hn1],.inr ⟨w.heap.size,n,cells,by rw[hxl,hn1],Nat.zero_le _,heap_alloc_new w _,by rw[hxl,hn1];omega,hnb,hcs,?_⟩⟩,fun u hu=>?_,fun j r hjr=>?_⟩
     ·rw[hxl,hn1]
      exact List.take_of_length_le (by rw[Array.length_toList,hcs];omega)
     ·obtain⟨p,hp,rfl⟩:=List.getElem_of_mem hu
      rw[Array.length_toList,hcs]at hp
      have hj:p / i.size<us.length:=by rw[hul];exact Nat.div_lt_of_lt_mul (by rw[Nat.mul_comm];exact hp)
      have hc:p % i.size<i.size:=Nat.mod_lt _ hk0
      obtain⟨h5,x,hx1,h6,h7,h8⟩:=hcell _ _ (List.getElem?_eq_getElem hj)
      have h9:=hcg _ _ (List.getElem?_eq_getElem hj) _ hc
      have e1:p / i.size*i.size+p % i.size=p:=by rw[Nat.mul_comm];exact Nat.div_add_mod _ _
      rw[e1]at h9
      have hpl:p<cells.size:=by rw[hcs];exact hp
      rw[Array.getElem?_eq_getElem hpl,Array.getElem?_eq_getElem (by omega)]at h9
      simp only[Option.some.injEq]at h9
      rw[Array.getElem_toList,h9]
      exact h8 _ (by simp)
     ·rw[RelL_get]at hjr
      cases hxj:xs[j]? with
      | none=>rw[hxj]at hjr;cases hjr
      | some x=>
        rw[hxj]at hjr
        simp only[Option.map_some,Option.some.injEq]at hjr
        subst hjr
        have hjl:j<us.length:=by rw[hul,←hn1,←hxl];exact(List.getElem?_eq_some_iff.1 hxj).1
        obtain⟨h5,x',hx1,h6,h7,h8⟩:=hcell _ _ (List.getElem?_eq_getElem hjl)
        rw[hx1]at hxj
        cases hxj
        rw[Rel_n]
        refine⟨h7,cells_mem ?_⟩
        have hmono:AllV (RelL (resS G (base0 w w0.dr) (w.alloc (.cells cells e)) (compsOf (.fr e i.size xs)) [.slice (some (at_ w.heap.size 0)) n n]) (w.alloc (.cells cells e)) κ0 o0 x.cells) us[j].cells.toList:=by
         refine(RelL_mono (fun b hb=>?_) (fun b hb=>?_) (ObjLe.none _ _) x.cells).allV h6
         ·have hblt:b<w.heap.size:=by
           rcases hb with hb|⟨id,_,hne,hb⟩
           ·exact hb.2.1
           ·obtain⟨o,ho⟩:=Option.ne_none_iff_exists'.1 hne
            exact((h.objs id o ho).lt hb).2
          refine⟨.inl hb,by simp;omega,fun q y u hq hu hf hbk=>?_⟩
          cases q with
          | succ q=>simp[compsOf]at hq
          | zero=>
            simp only[List.getElem?_cons_zero,Option.some.injEq]at hu
            subst hu
            simp only[blkOf,Option.some.injEq]at hbk
            omega
         ·have hblt:b<w.heap.size:=by
           rcases hb with hb|⟨id,_,hne,hb⟩
           ·exact hb.2.1
           ·obtain⟨o,ho⟩:=Option.ne_none_iff_exists'.1 hne
            exact((h.objs id o ho).lt hb).2
          exact Below.heap_alloc w _ b hblt
        obtain⟨h10,h11⟩:=AllV_get _ _ _ _ hmono
        refine AllM_of fun c y hy=>?_
        have hcl:c<x.cells.length:=(List.getElem?_eq_some_iff.1 hy).1
        have hcu:c<us[j].cells.size:=by omega
        refine⟨us[j].cells[c],?_,h11 c y _ hy (by rw[Array.getElem?_toList,Array.getElem?_eq_getElem hcu])⟩
        rw[Array.getElem?_toList,hcg _ _ (List.getElem?_eq_getElem hjl) c (by omega),Array.getElem?_eq_getElem hcu]
  ·intro p q x y u u' hp hq hu hu' hpq
   cases p with
   | succ p=>simp[compsOf]at hp
   | zero=>
     cases q with
     | zero=>exact absurd rfl hpq
     | succ q=>simp[compsOf]at hq
  ·intro q y u hq hu hf b hb
   cases q with
   | succ q=>simp[compsOf]at hq
   | zero=>
     simp only[List.getElem?_cons_zero,Option.some.injEq]at hu
     subst hu
     simp only[blkOf,Option.some.injEq]at hb
     subst hb
     exact base0_mine.2 (Nat.le_refl _)
 exact recv_sound h (r:= .fr e i.size xs) (v:= .slice (some (at_ w.heap.size 0)) n n) (dst:=dst) (d:=d) (frz:=vs.flatMap (refsOf σ.objs DEPTH)) (G:=G) (fun b hb=>hb) hd (by simpa[recv,recv1]using hfree) (.inl hres)
theorem slz1_val{S:Nat→Prop}{w:World}{κ:Nat→Value}{objs:Nat→Option AObj}{z:AV}{v:Value}(h:(Rel S w κ objs z).val v):(Rel S w κ objs (slz1 z)).val v:=by
 cases z with
 | nils=>
   simp only[Rel,one]at h
   subst h
   simp only[slz1,Rel,one]
   exact⟨none,0,rfl,Nat.le_refl _,Nat.zero_le _,fun h=>absurd rfl h⟩
 | _=>exact h
theorem slz_cells(z:AV):(slz z).cells=z.cells.map slz1:=by
 cases z<;>rfl
theorem make_sound(h:St F w0 κ σ a w){P:Program}{t e k b:Nat}{kl kc:IntKind}{n m:Int}{z:AV}{dst:Option Nat}{d:Nat}(hd:dst.all σ.n.ok=true)(hfree:σ.objs (8*d)=none)
  (he:elemT P t=some e) (hk:sizeT P e=some k) (hb:bytesT P e=some b) (hz:zeroM P e=some z) (hro:rowOk P e k=true) (hok:elemOk P e k z=true) (hn:0≤n∧n≤m∧(b:Int)*m≤281474976710656∧m≤9223372036854775807) :
  ∃v w',(Instr.makeSlice t (.int kl n) (.int kc m)).run P w= .ok v w'∧
   ∃κ',St F w0 κ' (σ.eff dst { val:= .own (8*d) 0,news:=[(8*d,.row e k (List.replicate n.toNat z) 0 false)] }) (a.put dst v) w':=by
 obtain⟨i,zv,hi,hik,hk0,hzv,hzk⟩:=rowOk_info hro
 subst hik
 have hbi:i.bytes=b:=by
  unfold bytesT at hb
  rw[hi]at hb
  simpa using hb
 subst hbi
 obtain⟨h0,hnm,hby,h63⟩:=hn
 have hr:=run_make (P:=P) w t e i zv (elemT_some he) hi hzv kl kc n m h0 hnm hby h63
 refine⟨_,_,hr,?_⟩
 have hzrel:AllV (RelL (fun _=>False) w κ0 o0 z.cells) zv.cells.toList:=by
  unfold zeroM at hz
  obtain⟨z0,hz0,rfl⟩:=Option.map_eq_some_iff.1 hz
  obtain⟨i',zv',hi',hzv',_,h5⟩:=zero_cells hz0 (fun _=>False) w κ0 o0
  rw[hi]at hi'
  cases hi'
  rw[hzv]at hzv'
  cases hzv'
  rw[slz_cells]
  obtain⟨h6,h7⟩:=AllV_get _ _ _ _ h5
  refine AllV_of _ _ _ _ (by simpa using h6) fun j x u hx hu=>?_
  rw[List.getElem?_map]at hx
  obtain⟨y,hy,rfl⟩:=Option.map_eq_some_iff.1 hx
  exact slz1_val (h7 j y u hy hu)
 have hcl:z.cells.length=i.size:=by
  unfold elemOk at hok
  simp only[Bool.and_eq_true,beq_iff_eq]at hok
  exact hok.1
 have hone:∀u∈zv.cells.toList,u.oneCell'=true:=by
  intro u hu
  obtain⟨j,hj,rfl⟩:=List.getElem_of_mem hu
  obtain⟨h6,h7⟩:=AllV_get _ _ _ _ hzrel
  have hj2:j<z.cells.length:=by omega
  unfold elemOk at hok
  simp only[Bool.and_eq_true,List.all_eq_true]at hok
  exact cellOK_one (hok.2 _ (List.getElem_mem hj2)) (h7 j _ _ (List.getElem?_eq_getElem hj2) (List.getElem?_eq_getElem hj))
 let cells:=madeCells zv.cells (m.toNat*i.size)
 have hcsz:cells.size=m.toNat*i.size:=size_madeCells _ _
 have hget:∀p,p<m.toNat*i.size→cells[p]? = zv.cells[p % i.size]? := by
  intro p hp
  have hm:p % i.size<zv.cells.size:=by rw[hzk];exact Nat.mod_lt _ hk0
  rw[Array.getElem?_eq_getElem (by rw[hcsz];exact hp),Array.getElem?_eq_getElem hm]
  simp only[cells,madeCells,Array.getElem_map,Array.getElem_range]
  rw[getElem!_pos zv.cells _ (by rw[hzk];exact Nat.mod_lt _ hk0)]
  simp only[hzk]
 have hnm':n.toNat≤m.toNat:=by omega
 have hle:n.toNat*i.size≤m.toNat*i.size:=Nat.mul_le_mul_right _ hnm'
 have hres:ResOK (fun _=>False) (base0 w w0.dr) (w.alloc (.cells cells e)) (.fr e i.size (List.replicate n.toNat z)) (.slice (some (at_ w.heap.size 0)) n.toNat m.toNat):=by
  refine⟨BelowB.base0 ((Below.refl _ w).alloc (Nat.le_refl _) _) (fun _=>Nat.le_refl _),[.slice (some (at_ w.heap.size 0)) n.toNat m.toNat],rfl,rfl,?_,?_,?_⟩
  ·intro j x u hj hu
   cases j with
   | succ j=>simp[compsOf]at hj
   | zero=>
     simp only[compsOf,List.getElem?_cons_zero,Option.some.injEq]at hj hu
     subst hj;subst hu
     show RowOK _ _ _ _ _ _ _
     have hml:m.toNat≤maxLen:=by
      have:m.toNat≤9223372036854775807:=by omega
      simpa[maxLen]using this
     refine⟨hk0,cells.toList.take (n.toNat*i.size),⟨?_,.inr ⟨w.heap.size,m.toNat,cells,by rw[List.length_replicate],Nat.zero_le _,heap_alloc_new w _,by rw[List.length_replicate];exact hnm',hml,hcsz,by rw[List.length_replicate]⟩⟩,fun u hu=>?_,fun j r hjr=>?_⟩
     ·rw[List.length_take,List.length_replicate,Array.length_toList,hcsz]
      omega
     ·obtain⟨p,hp,rfl⟩:=List.getElem_of_mem hu
      have hp0:=hp
      rw[List.length_take,Array.length_toList,hcsz]at hp
      have h9:=hget p (by omega)
      have hm:p % i.size<zv.cells.size:=by rw[hzk];exact Nat.mod_lt _ hk0
      rw[Array.getElem?_eq_getElem (by rw[hcsz];omega),Array.getElem?_eq_getElem hm]at h9
      simp only[Option.some.injEq]at h9
      rw[List.getElem_take,Array.getElem_toList,h9]
      exact hone _ (by simp)
     ·rw[RelL_get]at hjr
      cases hxj:(List.replicate n.toNat z)[j]? with
      | none=>rw[hxj]at hjr;cases hjr
      | some x=>
        rw[hxj]at hjr
        simp only[Option.map_some,Option.some.injEq]at hjr
        subst hjr
        have hjl:j<n.toNat:=by
         have:=(List.getElem?_eq_some_iff.1 hxj).1
         simpa using this
        have hxz:x=z:=by
         rw[List.getElem?_replicate,if_pos hjl]at hxj
         exact(Option.some.inj hxj).symm
        subst hxz
        rw[Rel_n]
        refine⟨hcl,cells_mem ?_⟩
        obtain⟨h10,h11⟩:=AllV_get _ _ _ _ ((RelL_mono (w':=w.alloc (.cells cells e)) (S':=resS (fun _=>False) (base0 w w0.dr) (w.alloc (.cells cells e)) (compsOf (.fr e i.size (List.replicate n.toNat x))) [.slice (some (at_ w.heap.size 0)) n.toNat m.toNat]) (fun q hq=>hq.elim) (fun q hq=>hq.elim) (ObjLe.none κ0 κ0) x.cells).allV hzrel)
        refine AllM_of fun c y hy=>?_
        have hcx:c<i.size:=by rw[← hcl];exact(List.getElem?_eq_some_iff.1 hy).1
        have hcz:c<zv.cells.size:=by omega
        refine⟨zv.cells[c],?_,h11 c y _ hy (by rw[Array.getElem?_toList,Array.getElem?_eq_getElem hcz])⟩
        have hp:j*i.size+c<n.toNat*i.size:=by
         have:=Nat.mul_le_mul_right i.size (show j+1≤n.toNat from hjl)
         rw[Nat.add_mul,Nat.one_mul]at this
         omega
        rw[List.getElem?_take,if_pos hp,Array.getElem?_toList,hget _ (by omega)]
        have e4:(j*i.size+c) % i.size=c:=by rw[Nat.mul_comm,Nat.mul_add_mod,Nat.mod_eq_of_lt hcx]
        rw[e4,Array.getElem?_eq_getElem hcz]
  ·intro p q x y u u' hp hq hu hu' hpq
   cases p with
   | succ p=>simp[compsOf]at hp
   | zero=>
     cases q with
     | zero=>exact absurd rfl hpq
     | succ q=>simp[compsOf]at hq
  ·intro q y u hq hu hf b hb
   cases q with
   | succ q=>simp[compsOf]at hq
   | zero=>
     simp only[List.getElem?_cons_zero,Option.some.injEq]at hu
     subst hu
     simp only[blkOf,Option.some.injEq]at hb
     subst hb
     exact base0_mine.2 (Nat.le_refl _)
 exact recv_sound h (r:= .fr e i.size (List.replicate n.toNat z)) (v:= .slice (some (at_ w.heap.size 0)) n.toNat m.toNat) (dst:=dst) (d:=d) (frz:=[]) (G:=fun _=>False) (fun b hb=>hb.elim) hd (by simpa[recv,recv1]using hfree) (.inl hres)
end
end Go.Abs
set_option linter.unusedVariables false
set_option linter.unusedSimpArgs false
namespace Go.Abs
open Go.RowKit
section
variable {F:Nat→Prop} {w0:Base} {κ:Nat→Value} {σ:Env} {a:Act} {w:World}
theorem map_some{α β:Type}{x:Option α}{f:α→β}{y:β}(h:x.map f=some y):∃z,x=some z∧f z=y:=by
 cases x with
 | none=>cases h
 | some z=>exact⟨z,rfl,by simpa using h⟩
theorem bind_some'{α β:Type}{x:Option α}{f:α→Option β}{y:β}(h:x.bind f=some y):∃z,x=some z∧f z=some y:=by
 cases x with
 | none=>cases h
 | some z=>exact⟨z,rfl,by simpa using h⟩
theorem argsV(h:St F w0 κ σ a w)(xs:List Operand):AllV (RelL (SS F w0 κ σ w) w κ σ.objs (xs.map (evA σ.slots))) (xs.map a.eval):=by
 refine AllV_of _ _ _ _ (by simp) fun i x u hx hu=>?_
 rw[List.getElem?_map]at hx hu
 cases hxi:xs[i]? with
 | none=>rw[hxi]at hx;cases hx
 | some y=>
   rw[hxi]at hx hu
   simp only[Option.map_some,Option.some.injEq]at hx hu
   subst hx;subst hu
   exact h.evA y
theorem build_sound(h:St F w0 κ σ a w){P:Program}{t:TypeId}{ps:Array (Nat×Operand)}{y:AV}(hb:buildA P σ.objs t (ps.toList.map fun(i,x)=>(i,evA σ.slots x))=some y) :
  ∃u,(Instr.build t (ps.map fun(i,x)=>(i,a.eval x))).run P w= .ok u w∧(Rel (SS F w0 κ σ w) w κ σ.objs y).val u:=by
 unfold buildA at hb
 split at hb
 ·rename_i hall
  have hparts:∀(i:Nat) p q,(ps.toList.map fun(i,x)=>(i,evA σ.slots x))[i]? = some p→(ps.map fun(i,x)=>(i,a.eval x)).toList[i]? = some q→p.1=q.1∧AllV (RelL (SS F w0 κ σ w) w κ σ.objs p.2.cells) q.2.cells.toList:=by
   intro i p q hp hq
   have hcn:=List.all_eq_true.1 hall p (List.mem_of_getElem? hp)
   rw[Array.toList_map,List.getElem?_map]at hq
   rw[List.getElem?_map]at hp
   cases hpi:ps.toList[i]? with
   | none=>rw[hpi]at hp;cases hp
   | some z=>
     rw[hpi]at hp hq
     simp only[Option.map_some,Option.some.injEq]at hp hq
     subst hp;subst hq
     exact⟨rfl,cellsNow_val h hcn (h.evA z.2)⟩
  have zc:∀(zv:Value)(z:AV),ofV zv=some z→AllV (RelL (SS F w0 κ σ w) w κ σ.objs z.cells) zv.cells.toList:=by
   intro zv z hz
   have hr:=ofV_sound (SS F w0 κ σ w) w κ σ.objs zv z hz
   have one_:(∀ cs,z ≠ .agg cs)→zv.cells=#[zv]→AllV (RelL (SS F w0 κ σ w) w κ σ.objs z.cells) zv.cells.toList:=fun h1 h2=>by
    rw[h2]
    have:z.cells=[z]:=by cases z<;>simp[AV.cells]at h1 ⊢
    rw[this]
    exact AllV_cons hr ⟨by simp[RelL],fun i r u hr=>by simp[RelL]at hr⟩
   cases zv with
   | agg cs=>
     unfold ofV at hz
     simp only at hz
     obtain⟨ys,hm,rfl⟩:=map_some hz
     simp only[Rel]at hr
     obtain⟨vs,h1,h2⟩:=hr
     injection h1 with h1
     subst h1
     simpa[Value.cells,AV.cells]using h2
   | tuple vs=>simp[ofV,cellV]at hz
   | _=>
     refine one_ (fun cs e=>?_) rfl
     subst e
     simp only[Rel]at hr
     obtain⟨vs,h1,_⟩:=hr
     cases h1
  have fin:∀(places:Nat→Option (Nat×Nat))(zv:Value)(z:AV)(cs:List AV),ofV zv=some z→fill P z.cells places (ps.toList.map fun(i,x)=>(i,evA σ.slots x))=some cs→
    (∀ arr',Instr.fill places zv.cells (ps.map fun(i,x)=>(i,a.eval x)).toList=some arr'→P.built t (ps.map fun(i,x)=>(i,a.eval x)).toList=some arr')→
    ∃u,(Instr.build t (ps.map fun(i,x)=>(i,a.eval x))).run P w= .ok u w∧(Rel (SS F w0 κ σ w) w κ σ.objs (.agg cs)).val u:=by
   intro places zv z cs hz hf hbt
   obtain⟨arr',h1,h2⟩:=fill_sound _ _ z.cells cs zv.cells (by simp) hparts (zc zv z hz) hf
   refine⟨_,run_build w t _ arr' (hbt arr' h1),?_⟩
   simp only[Rel]
   exact⟨arr'.toList,by simp,h2⟩
  split at hb
  ·rename_i it e hi hu
   split at hb
   ·rename_i zv ie hz hie
    obtain⟨z,hz2,hb⟩:=bind_some' hb
    obtain⟨cs,hf,rfl⟩:=map_some hb
    refine fin _ zv z cs hz2 hf fun arr' h1=>?_
    simp only[Program.built,hi,hu,hz,hie]
    exact h1
   ·cases hb
  ·rename_i it fields hi hu
   split at hb
   ·rename_i zv places hz hpl
    obtain⟨z,hz2,hb⟩:=bind_some' hb
    obtain⟨cs,hf,rfl⟩:=map_some hb
    refine fin _ zv z cs hz2 hf fun arr' h1=>?_
    simp only[Program.built,hi,hu,hz,hpl]
    exact h1
   ·cases hb
  ·cases hb
 ·cases hb
theorem run_cut(h:St F w0 κ σ a w){P:Program}{t e k n c:Nat}{A:Option Addr}{lo hi:Option Operand}{l hh:Nat}(he:elemT P t=some e)(hk:sizeT P e=some k)
  (hhi:(match hi with|none=>some n|some q=>idx (evA σ.slots q))=some hh) (hlo:(match lo with|none=>some 0|some q=>idx (evA σ.slots q))=some l) (h1:l≤hh) (h2:hh≤n) (hc:n≤c) :
  (Instr.sliceAt t (.slice A n c) (lo.map a.eval) (hi.map a.eval) none).run P w= .ok (.slice (if c=l then A else A.map (·.add (l*k))) (hh-l) (c-l)) w:=by
 have hb:∀(q:Operand)(n y:Nat)(code:BoundsCode),idx (evA σ.slots q)=some n→n≤y→(Instr.sliceBound (a.eval q) y code).run P w= .ok n w:=by
  intro q n y code hq hn
  obtain⟨kk,i,h3,h4,h5⟩:=idx_sound hq (h.evA q)
  rw[h3]
  unfold Instr.sliceBound
  simp only[asIntOf,Sem.run_bind,Sem.run_pure,Result.andThen_ok]
  rw[if_pos ⟨h4,by omega⟩]
  simp only[Sem.run_pure,h5]
 have hbounds:(Instr.sliceBounds true n c (lo.map a.eval) (hi.map a.eval) none).run P w= .ok (l,hh,c) w:=by
  unfold Instr.sliceBounds
  cases hi with
  | none=>
    simp only[Option.some.injEq]at hhi
    cases lo with
    | none=>simp only[Option.some.injEq]at hlo;simp[hhi,hlo]
    | some q=>simp[hb q l _ _ hlo (by omega),hhi]
  | some q2=>
    cases lo with
    | none=>simp only[Option.some.injEq]at hlo;simp[hb q2 hh c _ hhi (by omega),hlo]
    | some q=>simp[hb q2 hh c _ hhi (by omega),hb q l hh _ hlo h1]
 unfold Instr.sliceAt
 simp only[Sem.run_bind,run_underlying (elemT_some he),Result.andThen_ok]
 unfold Instr.slice
 simp only[Sem.run_bind,run_underlying (elemT_some he),Result.andThen_ok,hbounds,sizeT_run hk,Sem.run_pure]
theorem slice_sound(h:St F w0 κ σ a w){P:Program}{t e k:Nat}{xs:List AV}{v:Value}{lo hi:Option Operand}{l hh:Nat}(hv:(Rel (SS F w0 κ σ w) w κ σ.objs (.sl xs)).val v)
  (he:elemT P t=some e) (hk:sizeT P e=some k) (hhi:(match hi with|none=>some xs.length|some q=>idx (evA σ.slots q))=some hh) (hlo:(match lo with|none=>some 0|some q=>idx (evA σ.slots q))=some l)
  (h1:l≤hh) (h2:hh≤xs.length) (hok:xs.all (elemOk P e k)=true) :
  ∃u,(Instr.sliceAt t v (lo.map a.eval) (hi.map a.eval) none).run P w= .ok u w∧(Rel (SS F w0 κ σ w) w κ σ.objs (.sl ((xs.take hh).drop l))).val u:=by
 simp only[Rel,one]at hv
 obtain⟨A,c,rfl,hc,hcm,hm⟩:=hv
 have hb:∀(q:Operand)(n y:Nat)(code:BoundsCode),idx (evA σ.slots q)=some n→n≤y→(Instr.sliceBound (a.eval q) y code).run P w= .ok n w:=by
  intro q n y code hq hn
  obtain⟨kk,i,h3,h4,h5⟩:=idx_sound hq (h.evA q)
  rw[h3]
  unfold Instr.sliceBound
  simp only[asIntOf,Sem.run_bind,Sem.run_pure,Result.andThen_ok]
  rw[if_pos ⟨h4,by omega⟩]
  simp only[Sem.run_pure,h5]
 have hbounds:(Instr.sliceBounds true xs.length c (lo.map a.eval) (hi.map a.eval) none).run P w= .ok (l,hh,c) w:=by
  unfold Instr.sliceBounds
  cases hi with
  | none=>
    simp only[Option.some.injEq]at hhi
    cases lo with
    | none=>simp only[Option.some.injEq]at hlo;simp[hhi,hlo]
    | some q=>simp[hb q l _ _ hlo (by omega),hhi]
  | some q2=>
    cases lo with
    | none=>simp only[Option.some.injEq]at hlo;simp[hb q2 hh c _ hhi (by omega),hlo]
    | some q=>simp[hb q2 hh c _ hhi (by omega),hb q l hh _ hlo h1]
 refine⟨.slice (if c=l then A else A.map (·.add (l*k))) (hh-l) (c-l),?_,?_⟩
 ·unfold Instr.sliceAt
  simp only[Sem.run_bind,run_underlying (elemT_some he),Result.andThen_ok]
  unfold Instr.slice
  simp only[Sem.run_bind,run_underlying (elemT_some he),Result.andThen_ok,hbounds,sizeT_run hk,Sem.run_pure]
 ·simp only[Rel,one]
  have hlen:((xs.take hh).drop l).length=hh-l:=by rw[List.length_drop,List.length_take];omega
  refine⟨_,c-l,by rw[hlen],by rw[hlen];omega,by omega,fun hne=>?_⟩
  have hlt:l<hh:=by
   rcases Nat.lt_or_ge l hh with h3|h3
   ·exact h3
   ·exact absurd (List.eq_nil_of_length_eq_zero (by rw[hlen];omega)) hne
  obtain⟨b,o,k',rfl,hS,hm⟩:=hm (by intro e0;rw[e0]at h2;simp at h2;omega)
  have hk':k'=k:=by
   have hx:xs[l]? = some xs[l]:=List.getElem?_eq_getElem (by omega)
   obtain⟨h4,_⟩:=hm l (Rel _ w κ (fun _=>none) xs[l]) (by rw[RelL_get,hx];rfl)
   rw[Rel_n]at h4
   have:=List.all_eq_true.1 hok _ (List.getElem_mem (show l<xs.length by omega))
   unfold elemOk at this
   simp only[Bool.and_eq_true,beq_iff_eq]at this
   omega
  subst hk'
  refine⟨b,o+l*k',k',?_,hS,fun j r hr=>?_⟩
  ·rw[if_neg (by omega)]
   simp only[Option.map_some,Addr.add_lit]
  ·rw[RelL_get,List.getElem?_drop,List.getElem?_take]at hr
   split at hr
   ·rename_i hj
    obtain⟨h4,h5⟩:=hm (l+j) r (by rw[RelL_get];exact hr)
    refine⟨h4,?_⟩
    have e1:(fun i=>w.cell? (at_ b (o+l*k'+j*k'+i)))=(fun i=>w.cell? (at_ b (o+(l+j)*k'+i))):=by
     funext i
     rw[Nat.add_mul]
     congr 2
     omega
    rw[e1]
    exact h5
   ·cases hr
end
end Go.Abs
