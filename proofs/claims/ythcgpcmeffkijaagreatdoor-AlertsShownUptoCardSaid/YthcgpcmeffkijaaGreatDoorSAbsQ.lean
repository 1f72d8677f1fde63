import Derived.Test.YthcgpcmeffkijaaGreatDoorSAbsMq
import Derived.Test.YthcgpcmeffkijaaGreatDoorSAbsP2
set_option linter.unusedVariables false
set_option linter.unusedSimpArgs false
namespace Go.Abs
open Go.RowKit
theorem expt_fb'(no:Nat→Bool)(objs:Nat→Option AObj)(n:Nat)(x:AV)(vs:List AV):expt no objs n x≠some (.fb vs):=by
 intro h
 cases n with
 | zero=>simp[expt]at h
 | succ n=>
   cases x<;>simp only[expt]at h<;>(try (simp at h))
   all_goals (try (split at h<;>(try split at h)<;>simp at h))
theorem expt_isFr{no:Nat→Bool}{objs:Nat→Option AObj}{n:Nat}{x z:AV}(h:expt no objs n x=some z):isFr z=false:=by
 cases z with
 | fr e k vs=>
   exfalso
   cases n with
   | zero=>simp[expt]at h
   | succ n=>
     cases x<;>simp only[expt]at h<;>(try (simp at h))
     all_goals (try (split at h<;>(try split at h)<;>simp at h))
 | fb vs=>exact absurd h (expt_fb' _ _ _ _ _)
 | _=>rfl
section
variable {F:Nat→Prop} {w0:Base} {κ:Nat→Value} {σ:Env} {a:Act} {w:World}
theorem newsA_sound(h:St F w0 κ σ a w){y:AV}{vy:Value}{frz:List Nat}{ys:List AV}(hy:(Rel (SS F w0 κ σ w) w κ σ.objs y).val vy)(hn:newsA σ.objs y=some (frz,ys)) :
  (Rel (fun b=>SS F w0 κ σ w b∨∃id∈frz,σ.objs id≠none∧blkOf (κ id)=some b) w (fun _=>undef) (fun _=>none) (.sl ys)).val vy:=by
 cases y with
 | own r g=>
   simp only[newsA]at hn
   split at hn
   case h_2=>cases hn
   rename_i e k xs g' fz hr
   split at hn
   case isFalse=>cases hn
   rename_i hg
   cases hn
   simp only[Rel,one]at hy
   obtain⟨_,_,_,_,_,hr',_,h1⟩:=hy
   rw[hr]at hr'
   cases hr'
   rw[h1 hg.symm]
   have ho:RowOK _ _ _ _ _ _ _:=h.objs r _ hr
   exact ho.read (fun _ hk=> .inl hk) fun b hb=> .inr ⟨r,by simp,by rw[hr];simp,hb⟩
 | sl xs=>
   simp only[newsA]at hn
   cases hn
   have h2:(Rel (SS F w0 κ σ w) w κ (fun _=>none) (.sl ys)).val vy:=by simpa only[Rel]using hy
   exact(Rel_mono (fun _ hk=> .inl hk) (fun _ _=>rfl) (ObjLe.none _ _) (.sl ys)).val _ h2
 | nils=>
   simp only[newsA]at hn
   cases hn
   simp only[Rel,one]at hy ⊢
   exact⟨none,0,hy,by simp,by simp[maxLen],fun hne=>absurd rfl hne⟩
 | _=>simp[newsA]at hn
theorem append_sound(h:St F w0 κ σ a w){P:Program}{t ty:TypeId}{x y val:AV}{vx vy:Value}{r d:Nat}{o:AObj}{frz:List Nat}{dst:Option Nat}
  (hx:(Rel (SS F w0 κ σ w) w κ σ.objs x).val vx) (hy:(Rel (SS F w0 κ σ w) w κ σ.objs y).val vy) (hs:appendA P σ d t x y=some (r,o,frz,val)) (hd:dst.all σ.n.ok=true) :
  ∃v' w',(Builtin.append_ #[t,t] ty #[vx,vy]).run P w= .ok v' w'∧∃κ',St F w0 κ' ((σ.turn r o frz).put dst val) (a.put dst v') w':=by
 unfold appendA at hs
 obtain⟨⟨frz',ys⟩,hn,hs⟩:=bind_some' hs
 obtain⟨e,he,hs⟩:=bind_some' hs
 obtain⟨k,hk,hs⟩:=bind_some' hs
 obtain⟨b,hb,hs⟩:=bind_some' hs
 split at hs
 case isFalse=>cases hs
 rename_i hro
 obtain⟨i,z,hi,hik,hk0,hz,hzk⟩:=rowOk_info hro.1
 subst hik
 have hbi:i.bytes=b:=by
  unfold bytesT at hb
  rw[hi]at hb
  simpa using hb
 subst hbi
 obtain⟨news,A,c,rfl,hnl,hn1,hA,hnc⟩:=sl_news (newsA_sound h hy hn) hro.2 hk0
 have hA':(A=none∧ys.length=0)∨∃ad,A=some ad∧∀j u,news[j]? = some u→w.cell? (ad.add j)=some u:=by
  rcases hA with⟨h1,h2⟩|h1
  ·exact .inl ⟨h1,by rw[h2];rfl⟩
  ·exact .inr h1
 have ht:=elemT_some he
 have fin:∀(xs:List AV)(g g':Nat)(zs:List Value)(S0:Nat→Prop),(∀ k,S0 k→SS F w0 κ σ w k)→r∉frz'→w.ownsRow 0 e i.size vx xs.length zs→(∀ u∈zs,u.oneCell'=true)→
   (∀(j:Nat) q,(RelL S0 w (fun _=>undef) (fun _=>none) xs)[j]? = some q→q.n=i.size∧q.mem (fun c=>zs[j*i.size+c]?))→
   ((σ.objs r=some (.row e i.size xs g false)∧vx=κ r∧g'=g+1)∨(σ.objs r=none∧vx= .slice none 0 0∧g'=0))→o= .row e i.size (xs++ys) g' false→frz=frz'→val= .own r g'→
   xs.length+ys.length≤maxLen→(xs.length+ys.length)*i.bytes≤140737488355328→
   ∃v' w',(Builtin.append_ #[t,t] ty #[vx,.slice A ys.length c]).run P w= .ok v' w'∧∃κ',St F w0 κ' ((σ.turn r o frz).put dst val) (a.put dst v') w':=by
  intro xs g g' zs S0 hS0 hnot hown hzone hzs hcase ho hf hv hmax hby
  subst ho;subst hf;subst hv
  obtain⟨v',w',hrun,hown',hgr,hblk⟩:=run_append_any w 0 t ty e i z ht hi hz hzk hk0 vx xs.length zs hown A ys.length c news hnl hA' hn1 hmax hby (Nat.zero_le _)
  refine⟨v',w',hrun,?_⟩
  have hob:∀b,vx.ownBlock=some b→blkOf vx=some b:=by
   intro b hb
   cases vx<;>simp[Value.ownBlock]at hb
   rename_i A n c
   cases A<;>simp[Value.ownBlock]at hb
   simp[blkOf,hb]
  have m:Turn κ σ w w' r (.row e i.size (xs++ys) g' false) v' frz:=by
   refine⟨hgr.size,fun k hk hne=>hgr.block k hk fun ek=>?_,fun o ho=>?_,hnot,fun b hb=>?_,fun o ho=>?_⟩
   ·have h2:=hob k ek.symm
    rcases hcase with⟨h3,h4,_⟩|⟨h3,h4,_⟩
    ·rw[h4]at h2
     exact hne _ h3 h2
    ·rw[h4]at h2;cases h2
   ·rcases hcase with⟨h3,_⟩|⟨h3,_⟩<;>rw[h3]at ho<;>cases ho
    rfl
   ·rcases hblk b hb with h2|h2
    ·rcases hcase with⟨h3,h4,_⟩|⟨h3,h4,_⟩
     ·rw[h4]at h2
      exact .inl ⟨_,h3,h2⟩
     ·rw[h4]at h2;cases h2
    ·exact .inr h2
   ·rcases hcase with⟨h3,h4,h5⟩|⟨h3,_⟩<;>rw[h3]at ho<;>cases ho
    exact⟨_,g',rfl,by omega,fun e=>by omega⟩
  have hS:=fun k=>m.sub (F:=F) (w0:=w0) k
  have hwS:=fun k=>m.keepS (F:=F) (w0:=w0) k
  have hbel:BelowB w0 w':=h.below.turn hgr.os hgr.tape hgr.output hgr.size vx.ownBlock (fun k hk hne=>hgr.block k hk fun e=>hne e.symm) (fun k hk=>by
   have h2:=hob k hk
   rcases hcase with⟨h3,h4,_⟩|⟨h3,h4,_⟩
   ·rw[h4]at h2
    exact h.mine r _ k h3 h2
   ·rw[h4]at h2;cases h2) (fun _=>run_drawn _ _ _ _ hrun)
  refine⟨_,h.turned m hbel hd ⟨hk0,zs++news,?_,?_,?_⟩ ?_⟩
  ·rw[upd_same,List.length_append]
   exact hown'
  ·intro u hu
   rcases List.mem_append.1 hu with hu|hu
   ·exact hzone u hu
   ·exact hn1 u hu
  ·intro j rel hj
   rw[RelL_get]at hj
   have hzl:zs.length=xs.length*i.size:=hown.1
   by_cases hjx:j<xs.length
   ·rw[List.getElem?_append_left hjx,List.getElem?_eq_getElem hjx]at hj
    simp only[Option.map_some,Option.some.injEq]at hj
    subst hj
    obtain⟨h4,h5⟩:=hzs j (Rel S0 w (fun _=>undef) (fun _=>none) xs[j]) (by rw[RelL_get,List.getElem?_eq_getElem hjx];rfl)
    rw[Rel_n]at h4
    refine⟨by rw[Rel_n];exact h4,cells_mem ?_⟩
    have h6:=(RelL_mono (κ:=fun _=>undef) (κ':=fun _=>undef) (fun k hk=>hS k (hS0 k hk)) (fun k hk=>hwS k (hS0 k hk)) (ObjLe.none _ _) (xs[j]).cells).allM (mem_cells h5)
    refine AllM_lt h6 fun p hp=>?_
    have hjk:j*i.size+i.size≤xs.length*i.size:=by
     have:=Nat.mul_le_mul_right i.size (show j+1≤xs.length from hjx)
     rwa[Nat.add_mul,Nat.one_mul]at this
    exact List.getElem?_append_left (by omega)
   ·rw[List.getElem?_append_right (by omega)]at hj
    cases hq:ys[j-xs.length]? with
    | none=>rw[hq]at hj;cases hj
    | some q=>
      rw[hq]at hj
      simp only[Option.map_some,Option.some.injEq]at hj
      subst hj
      obtain⟨h4,h5⟩:=hnc _ _ hq
      refine⟨by rw[Rel_n];exact h4,cells_mem ?_⟩
      have h6:=(RelL_mono (κ:=fun _=>undef) (κ':=fun _=>undef) (S':=Sset F w0.mine w' (upd κ r v') (σ.turn r (.row e i.size (xs++ys) g' false) frz).objs) (w':=w') ?_ ?_ (ObjLe.none _ _) q.cells).allM h5
      ·refine AllM_lt h6 fun p hp=>?_
       have e1:j*i.size=xs.length*i.size+(j-xs.length)*i.size:=by
        rw[← Nat.add_mul]
        congr 1
        omega
       rw[List.getElem?_append_right (by omega)]
       congr 1
       omega
      ·rintro b' (hb'|⟨id,hid,hne,hb'⟩)
       ·exact hS b' hb'
       ·exact m.frozen h hid hne hb'
      ·rintro b' (hb'|⟨id,hid,hne,hb'⟩)
       ·exact hwS b' hb'
       ·obtain⟨o,ho⟩:=Option.ne_none_iff_exists'.1 hne
        exact m.other h (fun e=>hnot (e▸hid)) ho hb'
  ·simp only[Rel,one]
   exact⟨e,i.size,xs++ys,g',false,by rw[turn_objs,if_pos rfl],Nat.le_refl _,fun _=>(upd_same _ _ _).symm⟩
 cases x with
 | own r' g=>
   simp only at hs
   split at hs
   case h_2=>cases hs
   rename_i e' k' xs g' hr
   split at hs
   case isFalse=>cases hs
   rename_i hc
   obtain⟨h1,h2,h3,h4,h5,h6⟩:=hc
   subst h1;subst h2;subst h3
   cases hs
   simp only[Rel,one]at hx
   obtain⟨_,_,_,_,_,hr',_,hxv⟩:=hx
   rw[hr]at hr'
   cases hr'
   obtain⟨_,zs,hown,hzone,hzs⟩:=h.objs r _ hr
   have hvx:=hxv rfl
   refine fin xs g' (g'+1) zs _ (fun _ hk=>hk) (fun hm=>?_) (by rw[hvx];exact hown) hzone hzs (.inl ⟨hr,hvx,rfl⟩) rfl rfl rfl h5 h6
   have:=List.all_eq_true.1 h4 r hm
   simp at this
 | nils=>
   simp only at hs
   split at hs
   case isFalse=>cases hs
   rename_i hc
   obtain⟨h1,h4,h5,h6⟩:=hc
   cases hs
   simp only[Rel,one]at hx
   refine fin [] 0 0 [] (fun _=>False) (fun _ hk=>hk.elim) (fun hm=>?_) (by rw[hx];exact World.ownsRow_nil _ _ _ _) (by simp) (by simp[RelL]) (.inr ⟨by simpa using h1,hx,rfl⟩) rfl rfl rfl (by simpa using h5) (by simpa using h6)
   have:=List.all_eq_true.1 h4 _ hm
   simp at this
 | _=>simp at hs
theorem give_sound(h:St F w0 κ σ a w){P:Program}{C:Callee}(hC:CallAt P C w0){f:Nat}{args:List AV}{vals:List Value}{r:Nat}{o:AObj}{frz:List Nat}{x:AV}{dst:Option Nat}(hi:inplB P f=false)
  (hv:AllV (RelL (SS F w0 κ σ w) w κ σ.objs args) vals) (hg:giveA C σ f args=some (r,o,frz,x)) (hd:dst.all σ.n.ok=true) :
  Calls P f vals.toArray w fun en w'=>∃v,en= .returned v∧∃κ',St F w0 κ' ((σ.turn r o frz).put dst x) (a.put dst v) w':=by
 unfold giveA at hg
 split at hg
 case h_2=>cases hg
 rename_i r' g rest
 split at hg
 case h_2=>cases hg
 rename_i e k xs g' hr
 split at hg
 case isFalse=>cases hg
 rename_i hc
 obtain⟨rfl,hnot⟩:=hc
 obtain⟨as,has,hg⟩:=bind_some' hg
 obtain⟨res,hres,hg⟩:=bind_some' hg
 obtain⟨⟨y,ob⟩,hgot,hg⟩:=map_some hg
 simp only[Prod.mk.injEq]at hg
 obtain⟨rfl,rfl,rfl,rfl⟩:=hg
 obtain⟨hvl,hv1⟩:=AllV_get _ _ _ _ hv
 match vals,hvl with
 | v0::vs,hvl=>
 have hvr:=hv1 0 _ v0 rfl rfl
 simp only[Rel,one]at hvr
 obtain⟨_,_,_,_,_,hr',_,hv0⟩:=hvr
 rw[hr]at hr'
 cases hr'
 have hv0:=hv0 rfl
 have hrow:RowOK _ _ _ _ _ _ _:=h.objs r' _ hr
 have hnotin:r'∉rest.flatMap (refsOf σ.objs DEPTH):=fun hm=>by
  have:=List.all_eq_true.1 hnot r' hm
  simp at this
 let b:Base:=⟨w,fun q=>blkOf v0=some q,fun q hq=>by rw[hv0]at hq;exact(hrow.lt hq).2,v0,w0.dr⟩
 let G:Nat→Prop:=fun q=>SS F w0 κ σ w q∨∃id∈rest.flatMap (refsOf σ.objs DEPTH),σ.objs id≠none∧blkOf (κ id)=some q
 have hfree:∀q,G q→q<w.heap.size∧¬b.own q:=by
  rintro q (hq|⟨id,hid,hne,hq⟩)
  ·refine⟨hq.2.1,fun ho=>?_⟩
   have ho:blkOf v0=some q:=ho
   rw[hv0]at ho
   exact hq.2.2 r' _ hr rfl ho
  ·obtain⟨o2,ho2⟩:=Option.ne_none_iff_exists'.1 hne
   refine⟨((h.objs id o2 ho2).lt hq).2,fun ho=>?_⟩
   have ho:blkOf v0=some q:=ho
   rw[hv0]at ho
   exact h.apart id r' o2 _ ho2 hr (fun e=>hnotin (e▸hid)) q hq ho
 have hA:ArgsOK G b (.fr e k xs::as) (v0::vs):=by
  obtain⟨h1,h2⟩:=mapO_some has
  have hbv:∀(i:Nat) z u,as[i]? = some z→vs[i]? = some u→(Rel G w κ0 o0 z).val u∧isFr z=false:=by
   intro i z u hz hu
   have hil:i<rest.length:=by rw[← h1];exact(List.getElem?_eq_some_iff.1 hz).1
   obtain⟨z',h5,h6⟩:=h2 i _ (List.getElem?_eq_getElem hil)
   rw[h6]at hz
   have hzz:=Option.some.inj hz
   rw[hzz]at h5
   exact⟨expt_sound h (fun q hq=> .inl hq) _ _ _ _ h5 (hv1 (i+1) _ u (by rw[List.getElem?_cons_succ];exact List.getElem?_eq_getElem hil) (by simpa using hu)) fun id hid hne q hq=> .inr ⟨id,List.mem_flatMap.2 ⟨_,List.getElem_mem hil,hid⟩,hne,hq⟩,expt_isFr h5⟩
  refine⟨by simp at hvl ⊢;omega,fun i z u hz hu=>?_,fun i j z z' u u' hz hz' hu hu' hij hf hf'=>?_,hfree,fun z u hz hu _=>?_⟩
  ·cases i with
   | zero=>
     simp only[List.getElem?_cons_zero,Option.some.injEq]at hz hu
     subst hz;subst hu
     refine⟨?_,fun q hq=>hq⟩
     rw[hv0]
     exact hrow.mono (fun q hq=> .inl hq) (fun _ _=>rfl) fun q hq=>⟨rfl,Nat.zero_le _⟩
   | succ i=>
     obtain⟨h3,h4⟩:=hbv i z u (by simpa using hz) (by simpa using hu)
     cases z with
     | fr e2 k2 zs=>cases h4
     | fb cs=>cases h4
     | _=>exact h3
  ·cases i with
   | zero=>cases j with
     | zero=>exact absurd rfl hij
     | succ j=>
       have:=(hbv j z' u' (by simpa using hz') (by simpa using hu')).2
       rw[hf']at this;cases this
   | succ i=>
     have:=(hbv i z u (by simpa using hz) (by simpa using hu)).2
     rw[hf]at this;cases this
  ·simp only[List.getElem?_cons_zero,Option.some.injEq]at hu
   exact hu
 have hgo:GOK P b:=hC.g.of fun q hlt h1=>⟨h.below.block q hlt h1,fun hown=>by
  have hown:blkOf v0=some q:=hown
  rw[hv0]at hown
  rcases h.mine _ _ q hr hown with h3|h3
  ·exact h1 h3
  ·omega⟩
 refine(hC.ok f _ res hres G b (v0::vs) rfl hgo hA).mono fun en w' ⟨v,hen,hR⟩=>⟨v,hen,?_⟩
 have hR:=hR.res hi
 obtain⟨us,hp,hlen,hcomp,_,hmine⟩:=hR.parts
 have hbel:=hR.below
 obtain⟨v',ys,rfl,hval,hblk,hrowv⟩:∃v' ys,ob= .row e k ys (g'+1) false∧(y= .own r' (g'+1)∧v=v'∨(∃ kk n,y= .tup [.own r' (g'+1),.int kk n]∧v= .tuple [v',.int kk n].toArray)∨(∀(S:Nat→Prop) κ2 objs2,(Rel S w' κ2 objs2 y).val v))∧(∀ q,blkOf v'=some q→b.mine q)∧
   (∃ S:Nat→Prop,(∀ q,S q→(G q∨b.mine q)∧q<w'.heap.size∧blkOf v'≠some q)∧RowOK S w' 0 v' e k ys):=by
  have one1:∀z:AV,(∀ vs,z ≠ .tup vs)→compsOf z=[z]∧(partsOf z v us→us=[v]):=by
   intro z hz
   cases z with
   | tup vs=>exact absurd rfl (hz vs)
   | _=>exact⟨rfl,id⟩
  have scal:scalarR res=true→gotG e k r' g' res=some (res,.row e k [] (g'+1) false)→(y,ob)=(res,AObj.row e k [] (g'+1) false)∧∀(S:Nat→Prop) κ2 objs2,(Rel S w' κ2 objs2 res).val v:=by
   intro hs hgt
   rw[hgt]at hgot
   refine⟨(Option.some.inj hgot).symm,fun S κ2 objs2=>?_⟩
   cases res with
   | tup zs=>
     simp only[partsOf]at hp
     simp only[Rel]
     refine⟨us,hp,AllV_of _ _ _ _ hlen fun i z u hz hu=>?_⟩
     have h5:=hcomp i z u hz hu
     simp only[scalarR,List.all_eq_true]at hs
     have hx2:=hs z (List.mem_of_getElem? hz)
     have h6:(Rel (resS G b w' zs us) w' κ0 o0 z).val u:=by cases z<;>simp at hx2<;>exact h5
     exact scalar_rel hx2 h6
   | int k2 n=>
     have hp:us=[v]:=hp
     subst hp
     exact scalar_rel rfl (hcomp 0 (.int k2 n) v rfl rfl)
   | bool c=>
     have hp:us=[v]:=hp
     subst hp
     exact scalar_rel rfl (hcomp 0 (.bool c) v rfl rfl)
   | str c=>
     have hp:us=[v]:=hp
     subst hp
     exact scalar_rel rfl (hcomp 0 (.str c) v rfl rfl)
   | _=>cases hs
  have hk0:0<k:=hrow.1
  have finS:scalarR res=true→gotG e k r' g' res=some (res,.row e k [] (g'+1) false)→∃v' ys,ob= .row e k ys (g'+1) false∧(y= .own r' (g'+1)∧v=v'∨(∃ kk n,y= .tup [.own r' (g'+1),.int kk n]∧v= .tuple [v',.int kk n].toArray)∨(∀(S:Nat→Prop) κ2 objs2,(Rel S w' κ2 objs2 y).val v))∧(∀ q,blkOf v'=some q→b.mine q)∧
   (∃ S:Nat→Prop,(∀ q,S q→(G q∨b.mine q)∧q<w'.heap.size∧blkOf v'≠some q)∧RowOK S w' 0 v' e k ys):=by
   intro hs hgt
   obtain⟨h1,h2⟩:=scal hs hgt
   cases h1
   exact⟨.slice none 0 0,[],rfl,.inr (.inr h2),fun q hq=>(by cases hq),fun _=>False,fun q hq=>hq.elim,hk0,[],World.ownsRow_nil _ _ _ _,by simp,by simp[RelL]⟩
  cases res with
  | fr e2 k2 ys=>
    simp only[gotG]at hgot
    split at hgot
    case isFalse=>cases hgot
    rename_i hek
    obtain⟨rfl,rfl⟩:=hek
    cases hgot
    have hp:us=[v]:=hp
    subst hp
    have h5:RowOK _ w' 0 v e2 k2 ys:=hcomp 0 (.fr e2 k2 ys) v rfl rfl
    refine⟨v,ys,rfl,.inl ⟨rfl,rfl⟩,fun q hq=>hmine 0 (.fr e2 k2 ys) v rfl rfl rfl q hq,_,fun q hq=>⟨hq.1,hq.2.1,hq.2.2 0 (.fr e2 k2 ys) v rfl rfl rfl⟩,h5⟩
  | tup zs=>
    cases ht:tupG zs with
    | none=>
      have hs:scalarR (.tup zs)=true:=by
       cases hs:scalarR (.tup zs)with
       | true=>rfl
       | false=>simp[gotG,ht,hs]at hgot
      exact finS hs (by simp[gotG,ht,hs])
    | some q=>
      obtain⟨e2,k2,ys,kk,n⟩:=q
      have hz:=tupG_eq ht
      simp only[gotG,ht]at hgot
      split at hgot
      case isFalse=>cases hgot
      rename_i hek
      obtain⟨rfl,rfl⟩:=hek
      cases hgot
      subst hz
      have hp:v= .tuple us.toArray:=hp
      match us,hlen with
      | [u0,u1],_=>
      have h5:RowOK _ w' 0 u0 e2 k2 ys:=hcomp 0 (.fr e2 k2 ys) u0 rfl rfl
      have h6:(Rel _ w' κ0 o0 (.int kk n)).val u1:=hcomp 1 (.int kk n) u1 rfl rfl
      simp only[Rel,one]at h6
      subst h6
      refine⟨u0,ys,rfl,.inr (.inl ⟨kk,n,rfl,hp⟩),fun q hq=>hmine 0 (.fr e2 k2 ys) u0 rfl rfl rfl q hq,_,fun q hq=>⟨hq.1,hq.2.1,hq.2.2 0 (.fr e2 k2 ys) u0 rfl rfl rfl⟩,h5⟩
  | int k2 n=>exact finS rfl rfl
  | bool c=>exact finS rfl rfl
  | str c=>exact finS rfl rfl
  | _=>simp[gotG,scalarR]at hgot
 let frz:=rest.flatMap (refsOf σ.objs DEPTH)
 have hown:∀q,b.own q↔blkOf (κ r')=some q:=fun q=>by rw[← hv0]
 have m:Turn κ σ w w' r' (.row e k ys (g'+1) false) v' frz:=by
  refine⟨hbel.size,fun q hq hne=>hbel.block q hq fun ho=>hne _ hr ((hown q).1 ho),fun o2 ho2=>?_,hnotin,fun q hq=>?_,fun o2 ho2=>?_⟩
  ·rw[hr]at ho2;cases ho2;rfl
  ·rcases hblk q hq with h1|h1
   ·exact .inl ⟨_,hr,(hown q).1 h1⟩
   ·exact .inr h1
  ·rw[hr]at ho2;cases ho2
   exact⟨_,g'+1,rfl,by omega,fun e=>by omega⟩
 have hbelow:BelowB w0 w':=h.below.turn hbel.os hbel.tape hbel.output hbel.size (blkOf (κ r')) (fun q hq hne=>hbel.block q hq fun ho=>hne ((hown q).1 ho)) (fun q hq=>h.mine r' _ q hr hq) hbel.drawn
 obtain⟨S,hS,hrow'⟩:=hrowv
 have hsub:∀q,S q→Sset F w0.mine w' (upd κ r' v') (σ.turn r' (.row e k ys (g'+1) false) frz).objs q:=by
  intro q hq
  obtain⟨h1,h2,h3⟩:=hS q hq
  rcases h1 with(h1|⟨id,hid,hne,h1⟩)|h1
  ·exact m.sub q h1
  ·exact m.frozen h hid hne h1
  ·refine⟨.inr ?_,h2,fun id2 o2 ho2 hf hb2=>?_⟩
   ·rcases h1 with h1|h1
    ·exact h.mine r' _ q hr ((hown q).1 h1)
    ·exact .inr (Nat.le_trans h.below.size h1)
   ·rw[turn_objs]at ho2
    by_cases e2:id2=r'
    ·subst e2
     rw[upd_same]at hb2
     exact h3 hb2
    ·rw[if_neg e2]at ho2
     rw[upd_ne _ _ e2]at hb2
     obtain⟨o3,ho3,_⟩:=freeze_back ho2
     rcases h1 with h1|h1
     ·exact h.apart id2 r' o3 _ ho3 hr e2 q hb2 ((hown q).1 h1)
     ·have:=((h.objs id2 o3 ho3).lt hb2).2
      have h1:w.heap.size≤q:=h1
      omega
 refine⟨upd κ r' v',h.turned m hbelow hd ?_ ?_⟩
 ·show RowOK _ _ _ _ _ _ _
  rw[upd_same]
  exact hrow'.mono hsub (fun _ _=>rfl) fun q hq=>⟨rfl,Nat.zero_le _⟩
 ·rcases hval with⟨rfl,rfl⟩|⟨kk,n,rfl,rfl⟩|hval
  ·simp only[Rel,one]
   exact⟨e,k,ys,g'+1,false,by rw[turn_objs,if_pos rfl],Nat.le_refl _,fun _=>(upd_same _ _ _).symm⟩
  ·simp only[Rel]
   refine⟨[v',.int kk n],rfl,AllV_of _ _ _ _ rfl fun i z u hz hu=>?_⟩
   match i with
   | 0=>
     cases hz;cases hu
     simp only[Rel,one]
     exact⟨e,k,ys,g'+1,false,by rw[turn_objs,if_pos rfl],Nat.le_refl _,fun _=>(upd_same _ _ _).symm⟩
   | 1=>
     cases hz;cases hu
     simp only[Rel,one]
   | j+2=>simp at hz
  ·exact hval _ _ _
theorem inpl_core(h:St F w0 κ σ a w){P:Program}{C:Callee}(hC:CallAt P C w0){f:Nat}(hi:inplB P f=true){id:Nat}{o1 ob:AObj}{x0 val res:AV}{as:List AV}{v0:Value}{vs:List Value}{frz:List Nat}{dst:Option Nat}
  (ho:σ.objs id=some o1) (hf1:isFz o1=false) (hv0:v0=κ id) (hnot:id∉frz) (hx0:isFr x0=true)
  (h0:compOK (fun q=>SS F w0 κ σ w q∨∃i∈frz,σ.objs i≠none∧blkOf (κ i)=some q) w 0 x0 v0)
  (hl:as.length=vs.length) (has:∀(i:Nat) z u,as[i]? = some z→vs[i]? = some u→(Rel (fun q=>SS F w0 κ σ w q∨∃i∈frz,σ.objs i≠none∧blkOf (κ i)=some q) w κ0 o0 z).val u∧isFr z=false)
  (hres:C f (x0::as)=some res) (hgot:gotI id o1 frz res=some (id,ob,frz,val)) (hd:dst.all σ.n.ok=true) :
  Calls P f (v0::vs).toArray w fun en w'=>∃v,en= .returned v∧∃κ',St F w0 κ' ((σ.turn id ob frz).put dst val) (a.put dst v) w':=by
 have hobj:=h.objs id _ ho
 let b:Base:=⟨w,fun q=>blkOf v0=some q,fun q hq=>by rw[hv0]at hq;exact(hobj.lt hq).2,v0,w0.dr⟩
 let G:Nat→Prop:=fun q=>SS F w0 κ σ w q∨∃i∈frz,σ.objs i≠none∧blkOf (κ i)=some q
 have hfree:∀q,G q→q<w.heap.size∧¬b.own q:=by
  rintro q (hq|⟨i,hid,hne,hq⟩)
  ·refine⟨hq.2.1,fun hown=>?_⟩
   have hown:blkOf v0=some q:=hown
   rw[hv0]at hown
   exact hq.2.2 id _ ho hf1 hown
  ·obtain⟨o2,ho2⟩:=Option.ne_none_iff_exists'.1 hne
   refine⟨((h.objs i o2 ho2).lt hq).2,fun hown=>?_⟩
   have hown:blkOf v0=some q:=hown
   rw[hv0]at hown
   exact h.apart i id o2 _ ho2 ho (fun e=>hnot (e▸hid)) q hq hown
 have hA:ArgsOK G b (x0::as) (v0::vs):=by
  refine⟨by simp[hl],fun i z u hz hu=>?_,fun i j z z' u u' hz hz' hu hu' hij hf hf'=>?_,hfree,fun z u hz hu _=>?_⟩
  ·cases i with
   | zero=>
     simp only[List.getElem?_cons_zero,Option.some.injEq]at hz hu
     subst hz;subst hu
     cases x0 with
     | fr e k xs=>exact⟨h0,fun q hq=>hq⟩
     | fb cs=>exact⟨h0,fun q hq=>hq⟩
     | _=>cases hx0
   | succ i=>
     obtain⟨h3,h4⟩:=has i z u (by simpa using hz) (by simpa using hu)
     cases z with
     | fr e2 k2 zs=>cases h4
     | fb cs=>cases h4
     | _=>exact h3
  ·cases i with
   | zero=>cases j with
     | zero=>exact absurd rfl hij
     | succ j=>
       have:=(has j z' u' (by simpa using hz') (by simpa using hu')).2
       rw[hf']at this;cases this
   | succ i=>
     have:=(has i z u (by simpa using hz) (by simpa using hu)).2
     rw[hf]at this;cases this
  ·simp only[List.getElem?_cons_zero,Option.some.injEq]at hu
   exact hu
 have hgo:GOK P b:=hC.g.of fun q hlt h1=>⟨h.below.block q hlt h1,fun hown=>by
  have hown:blkOf v0=some q:=hown
  rw[hv0]at hown
  rcases h.mine _ _ q ho hown with h3|h3
  ·exact h1 h3
  ·omega⟩
 refine(hC.ok f _ res hres G b (v0::vs) rfl hgo hA).mono fun en w' ⟨v,hen,hR⟩=>⟨v,hen,?_⟩
 obtain⟨r0,fin,rfl,hI⟩:=hR.inp hi
 have hbel:=hI.below
 have hown:∀q,b.own q↔blkOf (κ id)=some q:=fun q=>by rw[← hv0]
 have harg:b.arg=κ id:=hv0
 have hshape:val=r0∧((∃ e k xs g ys,o1= .row e k xs g false∧ob= .row e k ys g false∧fin= .fr e k ys)∨(∃ cs cs',o1= .box cs false∧ob= .box cs' false∧fin= .fb cs')):=by
  simp only[gotI]at hgot
  cases o1 with
  | row e k xs g fz=>
    have hf1:fz=false:=hf1
    subst hf1
    cases fin with
    | fr e' k' ys=>
      simp only at hgot
      split at hgot
      case isFalse=>cases hgot
      rename_i hek
      obtain⟨rfl,rfl⟩:=hek
      simp only[Option.some.injEq,Prod.mk.injEq,true_and]at hgot
      obtain⟨rfl,rfl⟩:=hgot
      exact⟨rfl,.inl ⟨e',k',xs,g,ys,rfl,rfl,rfl⟩⟩
    | _=>cases hgot
  | box cs fz=>
    have hf1:fz=false:=hf1
    subst hf1
    cases fin with
    | fb cs'=>
      simp only[Option.some.injEq,Prod.mk.injEq,true_and]at hgot
      obtain⟨rfl,rfl⟩:=hgot
      exact⟨rfl,.inr ⟨cs,cs',rfl,rfl,rfl⟩⟩
    | _=>cases hgot
  | mp c1 c2 fz=>cases fin<;>cases hgot
 obtain⟨rfl,hshape⟩:=hshape
 have m:Turn κ σ w w' id ob (κ id) frz:=by
  refine⟨hbel.size,fun q hq hne=>hbel.block q hq fun hw=>hne _ ho ((hown q).1 hw),fun o2 ho2=>?_,hnot,fun q hq=> .inl ⟨_,ho,hq⟩,fun o2 ho2=>?_⟩
  ·rw[ho]at ho2;cases ho2;exact hf1
  ·rw[ho]at ho2;cases ho2
   rcases hshape with⟨e,k,xs,g,ys,rfl,rfl,_⟩|⟨cs,cs',rfl,rfl,_⟩
   ·exact⟨_,g,rfl,Nat.le_refl _,fun _=>rfl⟩
   ·exact⟨_,rfl,rfl⟩
 have hbelow:BelowB w0 w':=h.below.turn hbel.os hbel.tape hbel.output hbel.size (blkOf (κ id)) (fun q hq hne=>hbel.block q hq fun hw=>hne ((hown q).1 hw)) (fun q hq=>h.mine id _ q ho hq) hbel.drawn
 have hsub:∀q,inpS G b w' q→Sset F w0.mine w' (upd κ id (κ id)) (σ.turn id ob frz).objs q:=by
  rintro q ⟨h1,h2,h3⟩
  rw[harg]at h3
  rcases h1 with(h1|⟨i,hid,hne,h1⟩)|h1
  ·exact m.sub q h1
  ·exact m.frozen h hid hne h1
  ·refine⟨.inr ?_,h2,fun id2 o2 ho2 hf hb2=>?_⟩
   ·rcases h1 with h1|h1
    ·exact absurd ((hown q).1 h1) h3
    ·exact .inr (Nat.le_trans h.below.size h1)
   ·rw[turn_objs]at ho2
    by_cases e2:id2=id
    ·subst e2
     rw[upd_same]at hb2
     exact h3 hb2
    ·rw[if_neg e2]at ho2
     rw[upd_ne _ _ e2]at hb2
     obtain⟨o3,ho3,_⟩:=freeze_back ho2
     rcases h1 with h1|h1
     ·exact h.apart id2 id o3 _ ho3 ho e2 q hb2 ((hown q).1 h1)
     ·have:=((h.objs id2 o3 ho3).lt hb2).2
      have h1:w.heap.size≤q:=h1
      omega
 have hfin:=hI.obj
 rw[harg]at hfin
 refine⟨upd κ id (κ id),h.turned m hbelow hd ?_ ?_⟩
 ·rcases hshape with⟨e,k,xs,g,ys,rfl,rfl,rfl⟩|⟨cs,cs',rfl,rfl,rfl⟩
  ·show RowOK _ _ _ _ _ _ _
   rw[upd_same]
   exact RowOK.mono hfin hsub (fun _ _=>rfl) fun q hq=>⟨rfl,Nat.zero_le _⟩
  ·obtain⟨blk,T,arr,h6,h7,h8⟩:=hfin
   refine⟨blk,T,arr,by rw[upd_same];exact h6,Nat.zero_le _,h7,?_⟩
   exact(RelL_lift cs').allV ((RelL_mono hsub (fun _ _=>rfl) (ObjLe.none κ0 κ0) cs').allV h8)
 ·exact(Rel_lift (κ:=κ0) _).val _ ((Rel_mono hsub (fun _ _=>rfl) (ObjLe.none κ0 κ0) _).val _ hI.rel)
theorem gotI_id{id:Nat}{o1:AObj}{frz:List Nat}{res:AV}{q:Nat×AObj×List Nat×AV}(h:gotI id o1 frz res=some q):q.1=id∧q.2.2.1=frz:=by
 unfold gotI at h
 split at h
 ·split at h
  ·split at h
   ·cases h;exact⟨rfl,rfl⟩
   ·cases h
  ·cases h;exact⟨rfl,rfl⟩
  ·cases h
 ·cases h
theorem inpl_sound(h:St F w0 κ σ a w){P:Program}{C:Callee}(hC:CallAt P C w0){f:Nat}{args:List AV}{vals:List Value}{r:Nat}{o:AObj}{frz:List Nat}{x:AV}{dst:Option Nat}(hi:inplB P f=true)
  (hv:AllV (RelL (SS F w0 κ σ w) w κ σ.objs args) vals) (hg:inplA C σ f args=some (r,o,frz,x)) (hd:dst.all σ.n.ok=true) :
  Calls P f vals.toArray w fun en w'=>∃v,en= .returned v∧∃κ',St F w0 κ' ((σ.turn r o frz).put dst x) (a.put dst v) w':=by
 obtain⟨hvl,hv1⟩:=AllV_get _ _ _ _ hv
 have lst:∀{l as:List AV}{us:List Value}{frz:List Nat},mapO (expt (fun _=>false) σ.objs DEPTH) l=some as→(∀ id∈l.flatMap (refsOf σ.objs DEPTH),id∈frz)→l.length=us.length→(∀(i:Nat) z u,l[i]? = some z→us[i]? = some u→(Rel (SS F w0 κ σ w) w κ σ.objs z).val u)→
   as.length=us.length∧∀(i:Nat) z u,as[i]? = some z→us[i]? = some u→(Rel (fun q=>SS F w0 κ σ w q∨∃i∈frz,σ.objs i≠none∧blkOf (κ i)=some q) w κ0 o0 z).val u∧isFr z=false:=by
  intro l as us frz has hsub hlen hrel
  obtain⟨h1,h2⟩:=mapO_some has
  refine⟨by omega,fun i z u hz hu=>?_⟩
  have hil:i<l.length:=by rw[← h1];exact(List.getElem?_eq_some_iff.1 hz).1
  obtain⟨z',h5,h6⟩:=h2 i _ (List.getElem?_eq_getElem hil)
  rw[h6]at hz
  have hzz:=Option.some.inj hz
  rw[hzz]at h5
  exact⟨expt_sound h (fun q hq=> .inl hq) _ _ _ _ h5 (hrel i _ u (List.getElem?_eq_getElem hil) hu) fun id hid hne q hq=> .inr ⟨id,hsub id (List.mem_flatMap.2 ⟨_,List.getElem_mem hil,hid⟩),hne,hq⟩,expt_isFr h5⟩
 unfold inplA at hg
 split at hg
 case h_3=>cases hg
 ·-- a row
  rename_i r' g rest
  split at hg
  case h_2=>cases hg
  rename_i e k xs g' hr
  split at hg
  case isFalse=>cases hg
  rename_i hc
  obtain⟨rfl,hnot⟩:=hc
  obtain⟨as,has,hg⟩:=bind_some' hg
  obtain⟨res,hres,hg⟩:=bind_some' hg
  obtain⟨e1,e2⟩:=gotI_id hg
  simp only at e1 e2
  subst e1;subst e2
  match vals,hvl,hv1 with
  | v0::vs,hvl,hv1=>
  have hvr:=hv1 0 _ v0 rfl rfl
  simp only[Rel,one]at hvr
  obtain⟨_,_,_,_,_,hr',_,hv0⟩:=hvr
  rw[hr]at hr'
  cases hr'
  have hv0:=hv0 rfl
  have hrow:RowOK _ _ _ _ _ _ _:=h.objs r _ hr
  obtain⟨h3,h4⟩:=lst (frz:=rest.flatMap (refsOf σ.objs DEPTH)) has (fun id hid=>hid) (us:=vs) (by simpa using hvl) fun i z u hz hu=>hv1 (i+1) z u (by simpa using hz) (by simpa using hu)
  refine inpl_core h hC hi hr rfl hv0 (fun hm=>?_) (x0:= .fr e k xs) rfl ?_ h3 h4 hres hg hd
  ·have:=List.all_eq_true.1 hnot r hm
   simp at this
  ·show RowOK _ _ _ _ _ _ _
   rw[hv0]
   exact hrow.mono (fun q hq=> .inl hq) (fun _ _=>rfl) fun q hq=>⟨rfl,Nat.zero_le _⟩
 ·-- a box
  rename_i b rest
  split at hg
  case h_2=>cases hg
  rename_i cs hr
  split at hg
  case isFalse=>cases hg
  rename_i hnot
  obtain⟨bs,hbs,hg⟩:=bind_some' hg
  obtain⟨as,has,hg⟩:=bind_some' hg
  obtain⟨res,hres,hg⟩:=bind_some' hg
  obtain⟨e1,e2⟩:=gotI_id hg
  simp only at e1 e2
  subst e1;subst e2
  match vals,hvl,hv1 with
  | v0::vs,hvl,hv1=>
  have hvr:=hv1 0 _ v0 rfl rfl
  simp only[Rel,one]at hvr
  obtain⟨cs2,fz2,hr',blk,hk,hv0⟩:=hvr
  rw[hr]at hr'
  cases hr'
  have hv0:v0=κ r:=by rw[hk];exact hv0
  obtain⟨blk2,T,arr,h5,h6,h7,h8⟩:=h.objs r _ hr
  obtain⟨h9,h10⟩:=AllV_get _ _ _ _ h8
  obtain⟨h3,h4⟩:=lst (frz:=(cs++rest).flatMap (refsOf σ.objs DEPTH)) has (fun id hid=>by rw[List.flatMap_append];exact List.mem_append.2 (.inr hid)) (us:=vs) (by simpa using hvl) fun i z u hz hu=>hv1 (i+1) z u (by simpa using hz) (by simpa using hu)
  obtain⟨h11,h12⟩:=lst (frz:=(cs++rest).flatMap (refsOf σ.objs DEPTH)) hbs (fun id hid=>by rw[List.flatMap_append];exact List.mem_append.2 (.inl hid)) (us:=arr.toList) h9 h10
  refine inpl_core h hC hi hr rfl hv0 (fun hm=>?_) (x0:= .fb bs) rfl ?_ h3 h4 hres hg hd
  ·have:=List.all_eq_true.1 hnot r hm
   simp at this
  ·refine⟨blk2,T,arr,by rw[hv0];exact h5,h7,AllV_of _ _ _ _ h11 fun i z u hz hu=>(h12 i z u hz hu).1⟩
theorem mod_sound(h:St F w0 κ σ a w){P:Program}{C:Callee}(hC:CallAt P C w0){o:Oper}{σ':Env}(hm:modOf P C σ o.dst o.op=some σ')(hd:o.dst.all σ.n.ok=true){K:Act→World→Prop}{Q:Exit→Act→World→Prop}
  (hK:∀κ' a' w',St F w0 κ' σ' a' w'→K a' w'):o.wp P a w K Q:=by
 cases hop:o.op with
 | store t p x=>
   rw[hop]at hm
   simp only[modOf]at hm
   obtain⟨k,h1,hm⟩:=bind_some' hm
   split at hm
   case isFalse=>cases hm
   rename_i hl
   obtain⟨⟨r,ob,frz⟩,h2,h3⟩:=map_some hm
   obtain⟨w',h4,κ',h5⟩:=store_sound h (h.evA x) (h.evA p) h1 hl h2 hd
   subst h3
   unfold Oper.wp
   simp only[execOp,hop,Sem.run_bind,h4,Result.andThen_ok]
   exact hK κ' _ _ h5
 | mapUpdate t m x v=>
   rw[hop]at hm
   simp only[modOf]at hm
   obtain⟨⟨r,ob,frz⟩,h2,h3⟩:=map_some hm
   obtain⟨w',h4,κ',h5⟩:=update_sound h (h.evA m) (h.evA x) (h.evA v) h2 hd
   subst h3
   unfold Oper.wp
   simp only[execOp,hop,Sem.run_bind,h4,Result.andThen_ok]
   exact hK κ' _ _ h5
 | call c=>
   rw[hop]at hm
   simp only[modOf]at hm
   split at hm
   case h_4=>cases hm
   case h_2=>
    rename_i hcal
    split at hm
    case h_2=>cases hm
    rename_i x t hargs hats
    obtain⟨⟨r,ob⟩,h2,h3⟩:=map_some hm
    obtain⟨w',h4,κ',h5⟩:=clear_sound (ty:=o.type) h (h.evA x) h2 hd
    subst h3
    have e1:c.args.map a.eval=#[a.eval x]:=by
     apply Array.ext'
     simp[hargs]
    have e2:c.argTypes=#[t]:=by
     apply Array.ext'
     simp[hats]
    refine wp_ran (v:= .tuple #[]) (w':=w') ?_ (hK κ' _ _ h5)
    simp only[execOp,hop]
    unfold resolve
    simp only[hcal]
    rw[Sem.run_bind,Sem.run_pure,Result.andThen_ok]
    simp only[invoke,builtin,e1,e2]
    rw[Sem.run_bind,h4]
    rfl
   case h_3=>
    rename_i f hcal
    split at hm
    case isFalse=>cases hm
    rename_i hen
    obtain⟨⟨r,ob,frz,v⟩,h2,h3⟩:=map_some hm
    subst h3
    have hv:AllV (RelL (SS F w0 κ σ w) w κ σ.objs (c.args.toList.map (evA σ.slots))) (c.args.toList.map a.eval):=by
     refine AllV_of _ _ _ _ (by simp) fun i x u hx hu=>?_
     rw[List.getElem?_map]at hx hu
     cases ha:c.args.toList[i]? with
     | none=>rw[ha]at hx;cases hx
     | some y=>
       rw[ha]at hx hu
       cases hx;cases hu
       exact h.evA y
    have h4:Calls P f (c.args.toList.map a.eval).toArray w fun en w'=>∃u,en= .returned u∧∃κ',St F w0 κ' ((σ.turn r ob frz).put o.dst v) (a.put o.dst u) w':=by
     cases hi:inplB P f with
     | false=>
       rw[hi]at h2
       exact give_sound h hC hi hv (by simpa using h2) hd
     | true=>
       rw[hi]at h2
       exact inpl_sound h hC hi hv (by simpa using h2) hd
    obtain⟨fn,h5,h6,h7⟩:∃fn,P.funcs[f]? = some fn∧fn.name ≠ "runtime.NumGoroutine"∧fn.body.isSome=true:=by
     have hen:=((Bool.and_eq_true _ _).mp hen).1
     unfold entersB at hen
     split at hen
     ·rename_i fn hfn
      simp only[Bool.and_eq_true,bne_iff_ne,ne_eq]at hen
      exact⟨fn,hfn,hen.1,hen.2⟩
     ·cases hen
    refine wp_calls ?_ h4 fun v w' ⟨κ',hst⟩=>hK κ' _ _ hst
    rw[← run_callFunc' h5 h6 h7]
    simp only[execOp,hop]
    rw[resolve_fn (g:=f) (caps:=#[]) hcal rfl w]
    congr 2
    apply Array.ext'
    simp
   rename_i hcal
   split at hm
   case h_2=>cases hm
   rename_i x y t t' d hargs hats hdst
   split at hm
   case isFalse=>cases hm
   rename_i htt
   subst htt
   obtain⟨⟨r,ob,frz,v⟩,h2,h3⟩:=map_some hm
   obtain⟨v',w',h4,κ',h5⟩:=append_sound (ty:=o.type) h (h.evA x) (h.evA y) h2 hd
   subst h3
   have e1:c.args.map a.eval=#[a.eval x,a.eval y]:=by
    apply Array.ext'
    simp[hargs]
   have e2:c.argTypes=#[t',t']:=by
    apply Array.ext'
    simp[hats]
   refine wp_ran (v:=v') (w':=w') ?_ (by rw[hdst]at h5;rw[hdst];exact hK κ' _ _ h5)
   simp only[execOp,hop]
   unfold resolve
   simp only[hcal]
   rw[Sem.run_bind,Sem.run_pure,Result.andThen_ok]
   simp only[invoke,builtin,e1,e2]
   rw[Sem.run_bind,h4]
   rfl
 | slice t x lo hi mx=>
   rw[hop]at hm
   cases lo with
   | some l=>cases hi<;>cases mx<;>simp[modOf]at hm
   | none=>
     cases hi with
     | none=>cases mx<;>simp[modOf]at hm
     | some q=>
       cases mx with
       | some m=>simp[modOf]at hm
       | none=>
         simp only[modOf]at hm
         obtain⟨⟨r,ob,v⟩,h2,h3⟩:=map_some hm
         obtain⟨u,h4,κ',h5⟩:=cutOwn_sound h h2 hd
         subst h3
         refine wp_ran (v:=u) (w':=w) ?_ (hK κ' _ _ h5)
         simp only[execOp,hop]
         rw[Sem.run_bind]
         simp only[Option.map_none,Option.map_some,h4,Result.andThen_ok]
         rfl
 | _=>rw[hop]at hm;simp[modOf]at hm
end
end Go.Abs
