import Derived.Test.YthcgpcmeffkijaaGreatDoorSAbsV
set_option linter.unusedVariables false
set_option linter.unusedSimpArgs false
namespace Go.Abs
open Go.RowKit
section
variable {F:Nat→Prop} {w0:Base} {κ:Nat→Value} {σ:Env} {a:Act} {w:World}
theorem results_sound(h:St F w0 κ σ a w){P:Program}{bv:Bool}{fn:Func}{r:AV}(hr:resultsA P bv fn σ=some r):∃v,(results fn a.tmps).run P w= .ok v w∧ResOK F w0 w r v:=by
 unfold resultsA at hr
 simp only at hr
 split at hr
 case isFalse=>cases hr
 rename_i hnd
 obtain⟨vs,hvs,hr⟩:=bind_some' hr
 split at hr
 case isFalse=>cases hr
 rename_i hlen
 have hnd:=noDup_spec hnd
 let no:Nat→Bool:=(fn.results.toList.flatMap (claimR σ bv)).contains
 obtain⟨hl1,hl2⟩:=mapO_some hvs
 rw[List.length_zip]at hl1
 simp only[Array.length_toList]at hl1
 have hone:∀(i:Nat),i<vs.length→∃rv u,fn.results[i]? = some rv∧(resOne a.tmps rv).run P w= .ok u w∧∃y,vs[i]? = some y∧ConvAs σ κ (SS F w0 κ σ w) w no bv rv y u:=by
  intro i hi
  have h1:i<fn.results.size:=by omega
  have h2:i<fn.resultTypes.size:=by omega
  have hz:(fn.results.toList.zip fn.resultTypes.toList)[i]? = some (fn.results[i],fn.resultTypes[i]):=by
   rw[List.getElem?_eq_getElem (by rw[List.length_zip];simp;omega),List.getElem_zip]
   simp
  obtain⟨y,h3,h4⟩:=hl2 i _ hz
  obtain⟨u,h5,h6⟩:=convR_spec h h3
  exact⟨fn.results[i],u,Array.getElem?_eq_getElem h1,h5,y,h4,h6⟩
 let us:List Value:=(List.range vs.length).map fun i=>if hi:i<vs.length then Classical.choose (Classical.choose_spec (hone i hi))else undef
 have hus:us.length=vs.length:=by simp[us]
 have husi:∀(i:Nat) u,us[i]? = some u→∃rv y,fn.results[i]? = some rv∧(resOne a.tmps rv).run P w= .ok u w∧vs[i]? = some y∧ConvAs σ κ (SS F w0 κ σ w) w no bv rv y u:=by
  intro i u hu
  have hi:i<vs.length:=by rw[← hus];exact(List.getElem?_eq_some_iff.1 hu).1
  have h0:=Classical.choose_spec (Classical.choose_spec (hone i hi))
  have h1:us[i]? = some (Classical.choose (Classical.choose_spec (hone i hi))):=by
   simp only[us,List.getElem?_map,List.getElem?_range hi,Option.map_some,dif_pos hi]
  rw[h1]at hu
  simp only[Option.some.injEq]at hu
  subst hu
  obtain⟨h2,h3,y,h4,h5⟩:=h0
  exact⟨_,y,h2,h3,h4,h5⟩
 have hrun:=run_results (P:=P) (w:=w) (fn:=fn) (tmps:=a.tmps) (us:=us) (by omega) fun i x u hx hu=>by
  obtain⟨rv,y,h1,h2,_⟩:=husi i u hu
  rw[hx]at h1
  cases h1
  exact h2
 have hcomp:compsOf r=vs∧partsOf r (packV us) us:=by
  match vs,hvs,hr,hus,hlen,husi with
  | [],_,hr,hus,_,_=>
    cases hr
    have:us=[]:=List.eq_nil_of_length_eq_zero hus
    rw[this]
    exact⟨rfl,rfl⟩
  | [v],hvs,hr,hus,_,husi=>
    have hr:v=r:=Option.some.inj hr
    subst hr
    obtain⟨u,hu⟩:∃u,us=[u]:=by
     cases hx:us with
     | nil=>rw[hx]at hus;simp at hus
     | cons u l=>cases l with
       | nil=>exact⟨u,rfl⟩
       | cons _ _=>rw[hx]at hus;simp at hus
    rw[hu]
    have hnt:∀xs,v ≠ .tup xs:=by
     intro xs e
     obtain⟨rv,y,_,_,h3,h4⟩:=husi 0 u (by rw[hu];rfl)
     simp only[List.getElem?_cons_zero,Option.some.injEq]at h3
     subst h3
     subst e
     cases h4
     rename_i x hx _
     exact expt_tup _ _ _ _ _ hx
    cases v with
    | tup xs=>exact absurd rfl (hnt xs)
    | _=>exact⟨rfl,rfl⟩
  | v1::v2::l,_,hr,hus,_,_=>
    cases hr
    refine⟨rfl,?_⟩
    show packV us= .tuple us.toArray
    match us,hus with
    | u1::u2::l,_=>rfl
 refine⟨packV us,hrun,h.below,us,hcomp.2,by rw[hcomp.1,hus],?_,?_,?_⟩
 all_goals rw[hcomp.1]
 ·have claimAt:∀(i:Nat) rv r,fn.results[i]? = some rv→claimR σ bv rv=[r]→no r=true:=by
   intro i rv r h1 h2
   simp only[no,List.contains_iff_mem]
   refine List.mem_flatMap.2 ⟨rv,?_,by rw[h2];simp⟩
   have:fn.results.toList[i]? = some rv:=by simpa using h1
   exact List.mem_of_getElem? this
  have claimNe:∀(i j:Nat) rv rv2 r r2,fn.results[i]? = some rv→fn.results[j]? = some rv2→claimR σ bv rv=[r]→claimR σ bv rv2=[r2]→i≠j→r≠r2:=by
   intro i j rv rv2 r r2 h1 h2 h3 h4 hij e
   have:=flat_apart hnd i j rv rv2 (by simpa using h1) (by simpa using h2) hij r (by rw[h3];simp)
   rw[h4,e]at this
   exact this (by simp)
  have hS:∀k,SS F w0 κ σ w k→resS F w0 w vs us k:=by
   rintro k ⟨h1,h2,h3⟩
   refine⟨h1,h2,fun i x u hx hu hf hb=>?_⟩
   obtain⟨rv,y,_,_,h4,h5⟩:=husi i u hu
   rw[hx]at h4
   cases h4
   cases h5 with
   | fr r e k g xs ho hc=>exact h3 r _ ho rfl hb
   | sl r e k g xs ho hc=>cases hf
   | nils e k hk=>cases hb
   | val z y u hz hzu=>rw[expt_isFr hz]at hf;cases hf
  have hT:∀id o b,σ.objs id=some o→blkOf (κ id)=some b→(∀(i:Nat) rv r,fn.results[i]? = some rv→claimR σ bv rv=[r]→(∃ e k g xs,σ.objs r=some (.row e k xs g false))→r≠id)→resS F w0 w vs us b:=by
   intro id o b ho hb hne
   have hlt:=(h.objs id o ho).lt hb
   refine⟨.inr (h.mine id o b ho hb),hlt.2,fun i x u hx hu hf hb2=>?_⟩
   obtain⟨rv,y,h3,_,h4,h5⟩:=husi i u hu
   rw[hx]at h4
   cases h4
   cases h5 with
   | fr r e k g xs ho2 hc=>exact h.apart r id _ o ho2 ho (hne i rv r h3 hc ⟨e,k,g,xs,ho2⟩) b hb2 hb
   | sl r e k g xs ho hc=>cases hf
   | nils e k hk=>cases hb2
   | val z y u hz hzu=>rw[expt_isFr hz]at hf;cases hf
  intro i x u hx hu
  obtain⟨rv,y,h3,_,h4,h5⟩:=husi i u hu
  rw[hx]at h4
  cases h4
  cases h5 with
  | fr r e k g xs ho hc=>
    have h6:RowOK _ _ _ _ _ _ _:=h.objs r _ ho
    exact h6.mono hS (fun _ _=>rfl) fun b hb=>⟨rfl,(h6.lt hb).1⟩
  | sl r e k g xs ho hc=>
    have h6:RowOK _ _ _ _ _ _ _:=h.objs r _ ho
    refine h6.read hS fun b hb=>hT r _ b ho hb fun j rv2 r2 hj hc2 hex e=>?_
    subst e
    obtain⟨e2,k2,g2,xs2,ho2⟩:=hex
    rw[ho]at ho2
    cases ho2
  | nils e k hk=>
    exact⟨hk,[],World.ownsRow_nil _ _ _ _,by simp,by simp[RelL]⟩
  | val z y u hz hzu=>
    have h7:=expt_sound h (T:=resS F w0 w vs us) hS _ _ _ _ hz hzu fun id hid hne b hb=>by
     obtain⟨o,ho⟩:=Option.ne_none_iff_exists'.1 hne
     refine hT id o b ho hb fun j rv2 r2 hj hc2 _ e=>?_
     subst e
     have:=expt_refs _ _ _ _ _ hz r2 hid
     rw[claimAt j rv2 r2 hj hc2]at this
     cases this
    cases x with
    | fr e k vs=>exact absurd hz (expt_fr _ _ _ _ _ _ _)
    | fb vs=>exact absurd hz (expt_fb' _ _ _ _ _)
    | _=>exact h7
 ·intro i j x y u u' hx hy hu hu' hij hfx hfy b hb hb'
  obtain⟨rv,y1,h3,_,h4,h5⟩:=husi i u hu
  obtain⟨rv2,y2,h6,_,h7,h8⟩:=husi j u' hu'
  rw[hx]at h4
  rw[hy]at h7
  cases h4;cases h7
  cases h5 with
  | fr r e k g xs ho hc=>
    cases h8 with
    | fr r2 e2 k2 g2 xs2 ho2 hc2=>
      have:r≠r2:=by
       intro e
       have:=flat_apart hnd i j rv rv2 (by simpa using h3) (by simpa using h6) hij r (by rw[hc];simp)
       rw[hc2,e]at this
       exact this (by simp)
      exact h.apart r r2 _ _ ho ho2 this b hb hb'
    | sl=>cases hfy
    | nils=>cases hb'
    | val z _ _ hz hzu=>rw[expt_isFr hz]at hfy;cases hfy
  | sl=>cases hfx
  | nils=>cases hb
  | val z _ _ hz hzu=>rw[expt_isFr hz]at hfx;cases hfx
 ·intro i x u hx hu hf k hb
  obtain⟨rv,y,h3,_,h4,h5⟩:=husi i u hu
  rw[hx]at h4
  cases h4
  cases h5 with
  | fr r e k' g xs ho hc=>exact h.mine r _ k ho hb
  | sl=>cases hf
  | nils=>cases hb
  | val z _ _ hz hzu=>rw[expt_isFr hz]at hf;cases hf
theorem resultsI_sound(h:St F w0 κ σ a w){P:Program}{fn:Func}{r:AV}(hr:resultsI P fn σ=some r):∃v r0 fin,(results fn a.tmps).run P w= .ok v w∧r= .inp r0 fin∧InpOK F w0 w r0 fin v:=by
 unfold resultsI at hr
 split at hr
 case isFalse=>cases hr
 rename_i hz
 obtain⟨id,hid,hr⟩:=bind_some' hr
 obtain⟨vs,hvs,hr⟩:=bind_some' hr
 split at hr
 case isFalse=>cases hr
 rename_i hlen
 obtain⟨fin,hfin,hr⟩:=map_some hr
 subst hr
 have hs0:=h.slots 0
 rw[h.fix hz]at hs0
 have hob:∃o,σ.objs id=some o∧isFz o=false∧w0.arg=κ id∧((∃ e k xs g,o= .row e k xs g false∧fin= .fr e k xs)∨(∃ cs cs',o= .box cs false∧mapO (expt (fun r=>r == id) σ.objs DEPTH) cs=some cs'∧fin= .fb cs')):=by
  unfold claim0 at hid
  unfold finA at hfin
  cases hs:σ.slots 0 with
  | own r g=>
    rw[hs]at hid hfin hs0
    simp only[Option.some.injEq]at hid hfin
    subst hid
    split at hfin
    case h_2=>cases hfin
    rename_i e k xs g' ho
    split at hfin
    case isFalse=>cases hfin
    rename_i hg
    cases hfin
    simp only[Rel,one]at hs0
    obtain⟨_,_,_,_,_,ho',_,h1⟩:=hs0
    rw[ho]at ho'
    cases ho'
    exact⟨_,ho,rfl,h1 hg.symm,.inl ⟨e,k,xs,g',rfl,rfl⟩⟩
  | ba b off=>
    rw[hs]at hid hfin hs0
    cases off with
    | succ n=>cases hid
    | zero=>
      simp only[Option.some.injEq]at hid hfin
      subst hid
      split at hfin
      case h_2=>cases hfin
      rename_i cs ho
      obtain⟨cs',h1,h2⟩:=map_some hfin
      subst h2
      simp only[Rel,one]at hs0
      obtain⟨_,_,ho',blk,h3,h4⟩:=hs0
      exact⟨_,ho,rfl,h4.trans h3.symm,.inr ⟨cs,cs',rfl,h1,rfl⟩⟩
  | _=>rw[hs]at hid;cases hid
 obtain⟨o,ho,hfz,harg,hcase⟩:=hob
 have hS:∀k,SS F w0 κ σ w k→inpS F w0 w k:=by
  rintro k ⟨h1,h2,h3⟩
  exact⟨h1,h2,by rw[harg];exact h3 id o ho hfz⟩
 have hT:∀i,σ.objs i≠none→(i == id)=false→∀b,blkOf (κ i)=some b→inpS F w0 w b:=by
  intro i hne hni b hb
  obtain⟨o2,ho2⟩:=Option.ne_none_iff_exists'.1 hne
  have hlt:=(h.objs i o2 ho2).lt hb
  refine⟨.inr (h.mine i o2 b ho2 hb),hlt.2,?_⟩
  rw[harg]
  exact h.apart i id o2 o ho2 ho (by simpa using hni) b hb
 have hex:∀x y u,expt (fun r=>r == id) σ.objs DEPTH x=some y→(Rel (SS F w0 κ σ w) w κ σ.objs x).val u→(Rel (inpS F w0 w) w κ0 o0 y).val u:=by
  intro x y u hx hu
  exact expt_sound h hS _ _ _ _ hx hu fun i hi hne b hb=>hT i hne (expt_refs _ _ _ _ _ hx i hi) b hb
 obtain⟨hl1,hl2⟩:=mapO_some hvs
 rw[List.length_zip]at hl1
 simp only[Array.length_toList]at hl1
 have hone:∀(i:Nat),i<vs.length→∃u,(∃ rv,fn.results[i]? = some rv∧(resOne a.tmps rv).run P w= .ok u w)∧∃y,vs[i]? = some y∧(Rel (inpS F w0 w) w κ0 o0 y).val u:=by
  intro i hi
  have h1:i<fn.results.size:=by omega
  have h2:i<fn.resultTypes.size:=by omega
  have hzp:(fn.results.toList.zip fn.resultTypes.toList)[i]? = some (fn.results[i],fn.resultTypes[i]):=by
   rw[List.getElem?_eq_getElem (by rw[List.length_zip];simp;omega),List.getElem_zip]
   simp
  obtain⟨y,h3,h4⟩:=hl2 i _ hzp
  obtain⟨u,x,h5,h6,h7⟩:=convR_true h h3
  exact⟨u,⟨_,Array.getElem?_eq_getElem h1,h5⟩,y,h4,hex x y u h6 h7⟩
 let us:List Value:=(List.range vs.length).map fun i=>if hi:i<vs.length then Classical.choose (hone i hi)else undef
 have hus:us.length=vs.length:=by simp[us]
 have husi:∀(i:Nat) u,us[i]? = some u→(∃ rv,fn.results[i]? = some rv∧(resOne a.tmps rv).run P w= .ok u w)∧∃y,vs[i]? = some y∧(Rel (inpS F w0 w) w κ0 o0 y).val u:=by
  intro i u hu
  have hi:i<vs.length:=by rw[← hus];exact(List.getElem?_eq_some_iff.1 hu).1
  have h0:=Classical.choose_spec (hone i hi)
  have h1:us[i]? = some (Classical.choose (hone i hi)):=by
   simp only[us,List.getElem?_map,List.getElem?_range hi,Option.map_some,dif_pos hi]
  rw[h1]at hu
  simp only[Option.some.injEq]at hu
  rw[hu]at h0
  exact h0
 have hrun:=run_results (P:=P) (w:=w) (fn:=fn) (tmps:=a.tmps) (us:=us) (by omega) fun i x u hx hu=>by
  obtain⟨⟨rv,h1,h2⟩,_⟩:=husi i u hu
  rw[hx]at h1
  cases h1
  exact h2
 have hall:AllV (RelL (inpS F w0 w) w κ0 o0 vs) us:=AllV_of _ _ _ _ hus.symm fun i x u hx hu=>by
  obtain⟨_,y,h3,h4⟩:=husi i u hu
  rw[hx]at h3
  cases h3
  exact h4
 refine⟨packV us,packA vs,fin,hrun,rfl,h.below,?_,?_,?_⟩
 ·match vs,us,hus,hall with
  | [],[],_,hall=>exact⟨[],rfl,hall⟩
  | [v],[u],_,hall=>exact(AllV_get _ _ _ _ hall).2 0 v u rfl rfl
  | v1::v2::l,u1::u2::m,_,hall=>exact⟨u1::u2::m,rfl,hall⟩
 ·rcases hcase with⟨e,k,xs,g,rfl,rfl⟩|⟨cs,cs',rfl,hm,rfl⟩
  ·have h6:RowOK _ _ _ _ _ _ _:=h.objs id _ ho
   rw[harg]
   exact h6.mono hS (fun _ _=>rfl) fun b hb=>⟨rfl,(h6.lt hb).1⟩
  ·obtain⟨blk,T,arr,h5,h6,h7,h8⟩:=h.objs id _ ho
   rw[harg]
   refine⟨blk,T,arr,h5,h7,?_⟩
   obtain⟨h9,h10⟩:=mapO_some hm
   obtain⟨h11,h12⟩:=AllV_get _ _ _ _ h8
   refine AllV_of _ _ _ _ (by omega) fun i y u hy hu=>?_
   have hil:i<cs.length:=by rw[← h9];exact(List.getElem?_eq_some_iff.1 hy).1
   obtain⟨z,h13,h14⟩:=h10 i _ (List.getElem?_eq_getElem hil)
   rw[h14]at hy
   cases hy
   exact hex _ _ u h13 (h12 i _ u (List.getElem?_eq_getElem hil) hu)
 ·rcases hcase with⟨e,k,xs,g,rfl,rfl⟩|⟨cs,cs',rfl,hm,rfl⟩<;>rfl
end
theorem mkO_mem:∀(l:List (Nat×AObj))(id:Nat)(o:AObj),mkO l id=some o→(id,o)∈l
 | [],id,o,h=>by cases h
 | (i,q)::l,id,o,h=>by
   simp only[mkO]at h
   by_cases e:id=i
   ·subst e
    rw[upd_same]at h
    cases h
    simp
   ·rw[upd_ne _ _ e]at h
    exact List.mem_cons_of_mem _ (mkO_mem l id o h)
theorem mkO_of:∀(l:List (Nat×AObj))(id:Nat)(o:AObj),(l.map (·.1)).Nodup→(id,o)∈l→mkO l id=some o
 | [],id,o,_,h=>by cases h
 | (i,q)::l,id,o,hn,h=>by
   simp only[List.map_cons,List.nodup_cons]at hn
   simp only[mkO]
   rcases List.mem_cons.1 h with h|h
   ·cases h
    exact upd_same _ _ _
   ·have:id≠i:=fun e=>hn.1 (List.mem_map.2 ⟨(id,o),h,e⟩)
    rw[upd_ne _ _ this]
    exact mkO_of l id o hn.2 h
theorem frame_st{F:Nat→Prop}{b:Base}{args:List AV}{vals:List Value}(hA:ArgsOK F b args vals)(n:Nat)(z:Bool)(hz:z=true→headFr args=true) :
  ∃κ,St F b κ (frame0 args n z) { tmps:=vals.toArray++Array.replicate (n-vals.toArray.size) undef,defers:=[] } b.w:=by
 let κ:Nat→Value:=fun id=>vals.getD id undef
 have hl:=hA.len
 have hob:∀id ob,(frame0 args n z).objs id=some ob→∃x u,args[id]? = some x∧fzObj x=some ob∧vals[id]? = some u∧κ id=u:=by
  intro id ob ho
  obtain⟨i,x,hx,h1,he⟩:=(recvL_news _ _ _).1 (mkO_mem _ _ _ ho)
  simp only[Nat.zero_add]at he h1
  subst he
  have hi:id<vals.length:=by rw[← hl];exact(List.getElem?_eq_some_iff.1 hx).1
  exact⟨x,vals[id],hx,h1,List.getElem?_eq_getElem hi,by simp[κ,List.getD,hi]⟩
 have hown:∀(id:Nat) x u ob,args[id]? = some x→vals[id]? = some u→fzObj x=some ob→∀k,blkOf u=some k→b.own k:=by
  intro id x u ob hx hu ho k hk
  have h1:=hA.one id x u hx hu
  cases x with
  | fr e k' xs=>exact h1.2 k hk
  | fb cs=>exact h1.2 k hk
  | _=>simp[fzObj]at ho
 have hS:∀k,F k→Sset F b.mine b.w κ (frame0 args n z).objs k:=fun k hk=>by
  obtain⟨h1,h2⟩:=hA.free k hk
  refine⟨.inl hk,h1,fun id o ho _ hb=>?_⟩
  obtain⟨x,u,hx,ho1,hu,hk2⟩:=hob id o ho
  rw[hk2]at hb
  exact h2 (hown id x u o hx hu ho1 k hb)
 have hat:∀(i:Nat) x o,args[i]? = some x→fzObj x=some o→(frame0 args n z).objs i=some o:=fun i x o hx ho=>mkO_of _ _ _ (recvL_nodup args 0) ((recvL_news _ _ _).2 ⟨i,x,hx,ho,by simp⟩)
 have hget:∀(i:Nat)(hi:i<vals.length),(vals.toArray++Array.replicate (n-vals.toArray.size) undef).getD i undef=vals[i]:=fun i hi=>by
  simp[Array.getD_eq_getD_getElem?,Array.getElem?_append,hi]
 refine⟨κ,fun t=>?_,fun id o ho=>?_,fun i j oi oj hi hj hij k hb hb2=>?_,BelowB.refl _,rfl,?_,fun id o k ho hb=>?_,fun hzz=>?_⟩
 ·show(Rel _ b.w κ (frame0 args n z).objs (mkS ((recvL 0 args).1.zipIdx.map fun p=>(p.2,p.1)) t)).val _
  rcases mkS_spec ((recvL 0 args).1.zipIdx.map fun p=>(p.2,p.1)) t with h|⟨p,hp,h1,h2⟩
  ·rw[h];simp[Rel,one]
  ·rw[h2]
   obtain⟨⟨y,i⟩,hq,rfl⟩:=List.mem_map.1 hp
   have hy:=List.mem_zipIdx_iff_getElem?.1 hq
   simp only at h1 hy
   subst h1
   rw[recvL_get 0 args 0 i]at hy
   cases hx:args[i]? with
   | none=>rw[hx]at hy;cases hy
   | some x=>
     rw[hx]at hy
     simp only[Option.map_some,Option.some.injEq,Nat.zero_add]at hy
     subst hy
     have ht:i<args.length:=(List.getElem?_eq_some_iff.1 hx).1
     have ht':i<vals.length:=by omega
     simp only
     rw[hget i ht']
     have h3:=hA.one i x _ hx (List.getElem?_eq_getElem ht')
     cases x with
     | fr e k xs=>
       simp only[recv1,Rel,one]
       exact⟨e,k,xs,0,false,hat i _ _ hx rfl,Nat.le_refl _,fun _=>by simp[κ,List.getD,ht']⟩
     | fb cs=>
       obtain⟨⟨blk,T,arr,h4,_⟩,_⟩:=h3
       simp only[recv1,Rel,one]
       exact⟨cs,false,hat i _ _ hx rfl,blk,by simp[κ,List.getD,ht',h4],h4⟩
     | _=>
       simp only[recv1]
       have h4:=(Rel_mono (κ:=κ0) (κ':=κ0) hS (fun _ _=>rfl) (ObjLe.none _ _) _).val _ h3
       exact(Rel_lift (κ:=κ0) _).val _ h4
 ·obtain⟨x,u,hx,ho1,hu,hk2⟩:=hob id o ho
  have h3:=hA.one id x u hx hu
  cases x with
  | fr e k xs=>
    simp only[fzObj,Option.some.injEq]at ho1
    subst ho1
    show RowOK _ _ _ _ _ _ _
    rw[hk2]
    exact RowOK.mono h3.1 hS (fun _ _=>rfl) fun b hb=>⟨rfl,Nat.zero_le _⟩
  | fb cs=>
    simp only[fzObj,Option.some.injEq]at ho1
    subst ho1
    obtain⟨⟨blk,T,arr,h4,h5,h6⟩,_⟩:=h3
    refine⟨blk,T,arr,hk2.trans h4,Nat.zero_le _,h5,?_⟩
    exact(RelL_lift (κ:=κ0) cs).allV ((RelL_mono (κ:=κ0) (κ':=κ0) hS (fun _ _=>rfl) (ObjLe.none _ _) cs).allV h6)
  | _=>simp[fzObj]at ho1
 ·obtain⟨x,u,hx,ho1,hu,hk2⟩:=hob i oi hi
  obtain⟨x2,u2,hx2,ho2,hu2,hk3⟩:=hob j oj hj
  rw[hk2]at hb
  rw[hk3]at hb2
  exact hA.apart i j _ _ u u2 hx hx2 hu hu2 hij (fzObj_fr ho1) (fzObj_fr ho2) k hb hb2
 ·show max args.length n≤_
  simp only[Array.size_append,List.size_toArray,Array.size_replicate]
  omega
 ·obtain⟨x,u,hx,ho1,hu,hk2⟩:=hob id o ho
  rw[hk2]at hb
  exact .inl (hown id x u o hx hu ho1 k hb)
 ·have hh:=hz hzz
  cases args with
  | nil=>cases hh
  | cons x rest=>
    have hl':0<vals.length:=by rw[← hl];simp
    rw[hget 0 hl']
    exact(hA.arg0 x _ rfl (List.getElem?_eq_getElem hl') hh).symm
def LeafAt(P:Program)(f:Nat)(L:Callee→List AV→Option AV):Prop:=∀C,CallOK P C→∀args r,L C args=some r→∀(F:Nat→Prop)(b:Base)(vals:List Value),(b.dr=true→quietB P f=true)→GOK P b→ArgsOK F b args vals→
 Calls P f vals.toArray b.w fun e w'=>∃v,e= .returned v∧ResX P f F b w' r v
def LeafOK(P:Program)(cfg:Cfg):Prop:=∀f L,cfg.leaf f=some L→LeafAt P f L
theorem callA_sound{P:Program}{cfg:Cfg}(hL:LeafOK P cfg)(hD:∀C,DrawOK P C):∀n,CallOK P (callA P cfg n)
 | 0=>fun f args r h=>by simp[callA]at h
 | n+1=>fun f args r h F b vals hQ hG hA=>by
   simp only[callA]at h
   have ih:=callA_sound hL hD n
   split at h
   ·rename_i L hLf
    exact hL f L hLf _ ih args r h F b vals hQ hG hA
   ·split at h
    case h_2=>cases h
    rename_i fn hfn
    unfold bodyA at h
    split at h
    case h_2=>cases h
    rename_i c hc
    have fin:∀x τ,execA P (guardC P (quietB P f) (callA P cfg n)) (cfg.fn f) c (frame0 args fn.ntmps (inplB P f&&headFr args))=some (x,τ)→(x= .normal∨x= .ret)→resA P (cfg.fn f).byval f fn τ=some r→Calls P f vals.toArray b.w fun e w'=>∃v,e= .returned v∧ResX P f F b w' r v:=by
     intro x τ hx hxx hr
     obtain⟨κ,hst0⟩:=frame_st hA fn.ntmps (inplB P f&&headFr args) (fun hz=>((Bool.and_eq_true _ _).mp hz).2)
     refine calls_of_wp hfn hc (exec_sound (callAt_of ih hQ hG) (hD _) c hx hst0 fun κ' a' w' hst=>?_)
     have hres:∃v,(results fn a'.tmps).run P w'= .ok v w'∧ResX P f F b w' r v:=by
      unfold resA at hr
      cases hi:inplB P f with
      | false=>
        rw[hi]at hr
        obtain⟨v,h1,h2⟩:=results_sound hst (by simpa using hr)
        exact⟨v,h1,h2.x hi⟩
      | true=>
        rw[hi]at hr
        obtain⟨v,r0,fin,h1,rfl,h2⟩:=resultsI_sound hst (by simpa using hr)
        exact⟨v,h1,h2.x hi⟩
     obtain⟨v,h1,h2⟩:=hres
     rcases hxx with rfl|rfl<;>exact⟨hst.defers,v,h1,v,rfl,h2⟩
    split at h
    ·rename_i τ hx
     exact fin _ _ hx (.inl rfl) h
    ·rename_i τ hx
     exact fin _ _ hx (.inr rfl) h
    ·cases h
end Go.Abs
