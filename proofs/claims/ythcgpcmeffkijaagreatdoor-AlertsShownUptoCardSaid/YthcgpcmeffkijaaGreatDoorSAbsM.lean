import Derived.Test.YthcgpcmeffkijaaGreatDoorSAbsMp
set_option linter.unusedVariables false
set_option linter.unusedSimpArgs false
namespace Go.Abs
open Go.RowKit
section
variable {F:Nat→Prop} {w0:Base} {κ:Nat→Value} {σ:Env} {a:Act} {w:World}
theorem wp_ran{P:Program}{o:Oper}{K:Act→World→Prop}{Q:Exit→Act→World→Prop}{v:Value}{w':World}(hr:(execOp a.eval o).run P w= .ok (.value v) w')(h:K (a.put o.dst v) w'):o.wp P a w K Q:=by
 unfold Oper.wp
 rw[hr]
 exact h
theorem wp_calls{P:Program}{o:Oper}{K:Act→World→Prop}{Q:Exit→Act→World→Prop}{f:Nat}{args:Array Value}{K':Value→World→Prop}
  (hr:(execOp a.eval o).run P w= .ok (.enter f args) w) (hc:Calls P f args w fun en w'=>∃v,en= .returned v∧K' v w') (h:∀v w',K' v w'→K (a.put o.dst v) w'):o.wp P a w K Q:=by
 unfold Oper.wp
 rw[hr]
 refine hc.mono fun en w' ⟨v,e,hk⟩=>?_
 subst e
 exact h v w' hk
theorem run_callFunc'{P:Program}{f:Nat}{fn:Func}(hf:P.funcs[f]? = some fn)(hn:fn.name ≠ "runtime.NumGoroutine")(hb:fn.body.isSome=true)(args:Array Value)(w:World) :
  (callFunc f args).run P w= .ok (.enter f args) w:=by
 have h1:(fn.name == "runtime.NumGoroutine")=false:=by simpa using hn
 have h2:fn.body.isNone=false:=by
  cases hfb:fn.body with
  | none=>rw[hfb]at hb;cases hb
  | some b=>rfl
 unfold callFunc
 rw[Sem.run_bind,run_program,Result.andThen_ok]
 simp only[hf,h1,h2,Bool.false_eq_true,if_false]
 rfl
theorem lenT_sound(h:St F w0 κ σ a w){P:Program}{t:TypeId}{x:AV}{v:Value}{n:Nat}(hv:(Rel (SS F w0 κ σ w) w κ σ.objs x).val v)(hl:lenT P σ.objs t x=some n)(ty:TypeId){ats:Array TypeId}(ht:ats[0]? = some t) :
  (Builtin.len_ ats ty #[v]).run P w= .ok (.int .i64 n) w:=by
 unfold lenT at hl
 unfold Builtin.len_
 split at hl
 ·rename_i s hu
  simp only[Rel,one]at hv
  subst hv
  cases hl
  simp[ht,run_underlying hu,goInt]
 ·rename_i e xs hu
  simp only[Rel,one]at hv
  obtain⟨A,c,rfl,_⟩:=hv
  cases hl
  simp[ht,run_underlying hu,goInt]
 ·rename_i e hu
  simp only[Rel,one]at hv
  subst hv
  cases hl
  simp[ht,run_underlying hu,goInt]
 ·rename_i e r g hu
  simp only[lenOf]at hl
  cases hr:σ.objs r with
  | none=>rw[hr]at hl;simp at hl
  | some o=>
  cases o with
  | box cs fz=>rw[hr]at hl;simp at hl
  | mp c1 c2 fz=>rw[hr]at hl;simp at hl
  | row e' k xs g' fz=>
    rw[hr]at hl
    simp only at hl
    split at hl
    ·rename_i hg
     cases hl
     have hob:=h.objs _ _ hr
     simp only[Rel,one]at hv
     obtain⟨_,_,_,_,_,h1,_,h3⟩:=hv
     rw[hr]at h1
     cases h1
     rw[h3 hg.symm]
     obtain⟨hk,zs,ho,_⟩:=hob
     obtain⟨_,⟨h5,h6⟩|⟨b,c,cur,h5,_⟩⟩:=ho
     ·rw[h5]
      simp[ht,run_underlying hu,goInt,h6]
     ·rw[h5]
      simp[ht,run_underlying hu,goInt]
    ·cases hl
 ·rename_i k1 k2 b hu
  split at hl
  case h_2=>cases hl
  rename_i ks vs fz ho
  cases hl
  obtain⟨blk,es,clock,rfl,_,h2,h3,h4,_⟩:=map_at h ho hv
  have hlen:=(AllV_get _ _ _ _ h3).1
  simp only[List.length_map,Array.length_toList]at hlen
  simp[ht,run_underlying hu,goInt,MapKept.run_getObj_map h2,hlen]
 ·rename_i k1 k2 ks vs hu
  cases hl
  simp only[Rel,one]at hv
  obtain⟨blk,es,clock,rfl,_,h2,h3,h4,_⟩:=hv
  have hlen:=(AllV_get _ _ _ _ h3).1
  simp only[List.length_map,Array.length_toList]at hlen
  simp[ht,run_underlying hu,goInt,MapKept.run_getObj_map h2,hlen]
 ·cases hl
theorem resolve_fn{P:Program}{c:Call}{ty:TypeId}{f:Operand}{g:Nat}{caps:Array Value}(hc:c.callee= .value f)(hv:a.eval f= .func (.func g) #[] caps)(w:World) :
  (do let d ←resolve a.eval c ty;invoke d.target d.args:Sem Next).run P w=(callFunc g (c.args.map a.eval++caps)).run P w:=by
 unfold resolve
 simp only[hc,hv,Deferred.ofValue,Sem.run_bind,Sem.run_pure,Result.andThen_ok,invoke]
 congr 2
 simp
theorem argsArr(xs:Array Operand)(ev:Operand→Value)(us:List Value):xs.map ev++us.toArray=(xs.toList.map ev++us).toArray:=by
 apply Array.ext'
 simp
theorem eff_sound(h:St F w0 κ σ a w){P:Program}{C:Callee}(hC:CallAt P C w0){o:Oper}{e:Eff}(he:effOf P C σ.slots σ.objs (o.dst.getD 0) o.type o.op=some e)
  (hd:o.dst.all σ.n.ok=true) (hfree:∀p∈e.news,σ.objs p.1=none) {K:Act→World→Prop} {Q:Exit→Act→World→Prop}
  (hK:∀κ' a' w',St F w0 κ' (σ.eff o.dst e) a' w'→K a' w'):o.wp P a w K Q:=by
 have val:∀{x:AV}{v:Value},(execOp a.eval o).run P w= .ok (.value v) w→(Rel (SS F w0 κ σ w) w κ σ.objs x).val v→e={ val:=x }→o.wp P a w K Q:=by
  intro x v hr hv hx
  subst hx
  exact wp_value hr (hK κ _ _ (h.value hd hv))
 have lift:∀{s:Sem Value}{v:Value}{w':World},s.run P w= .ok v w'→(do pure (.value (← s)):Sem Next).run P w= .ok (.value v) w':=by
  intro s v w' hs
  rw[Sem.run_bind,hs]
  rfl
 have call:∀{f:Nat}{args:List AV}{vals:List Value},(execOp a.eval o).run P w=(callFunc f vals.toArray).run P w→callE P C σ.objs (o.dst.getD 0) f args=some e→AllV (RelL (SS F w0 κ σ w) w κ σ.objs args) vals→o.wp P a w K Q:=by
  intro f args vals hr hc hv
  obtain⟨⟨fn,h1,h2,h3⟩,h4⟩:=callE_sound h hC hc hv hd hfree
  rw[run_callFunc' h1 h2 h3]at hr
  exact wp_calls hr h4 fun v w' ⟨κ',hst⟩=>hK κ' _ _ hst
 cases hop:o.op with
 | move x=>rw[hop]at he;simp only[effOf,Option.some.injEq]at he;exact val (by simp only[execOp,hop];rfl) (h.evA x) he.symm
 | assign x=>rw[hop]at he;simp only[effOf,Option.some.injEq]at he;exact val (by simp only[execOp,hop];rfl) (h.evA x) he.symm
 | pick c x y=>
   rw[hop]at he
   obtain⟨z,h1,h2⟩:=map_some he
   obtain⟨t,h3,h4⟩:=pickA_sound (P:=P) (h.evA c) (h.evA x) (h.evA y) h1
   exact val (by simp[execOp,hop,h3,asBool]) h4 h2.symm
 | binOp b t x y p=>
   rw[hop]at he
   obtain⟨z,h1,h2⟩:=map_some he
   obtain⟨r,h3,h4⟩:=pure2_sound (h.evA x) (h.evA y) h1
   exact val (by simp only[execOp,hop];exact lift h3) h4 h2.symm
 | unOp b t x=>
   rw[hop]at he
   obtain⟨z,h1,h2⟩:=map_some he
   obtain⟨r,h3,h4⟩:=pure1_sound (h.evA x) h1
   exact val (by simp only[execOp,hop];exact lift h3) h4 h2.symm
 | convert s t x=>
   rw[hop]at he
   obtain⟨z,h1,h2⟩:=map_some he
   obtain⟨r,h3,h4⟩:=pure1_sound (h.evA x) h1
   exact val (by simp only[execOp,hop];exact lift h3) h4 h2.symm
 | box t x=>
   rw[hop]at he
   obtain⟨k,h1,h2⟩:=bind_some' he
   split at h2
   ·rename_i hc
    cases h2
    have hl:=cellsNow_val h hc.2 (h.evA x)
    obtain⟨κ',h3⟩:=box_sound h (dst:=o.dst) (d:=o.dst.getD 0) (t:=t) hd (hfree _ (List.mem_singleton.2 rfl)) hl
    refine wp_ran (v:= .pointer (some (at_ w.heap.size 0))) ?_ (hK κ' _ _ h3)
    simp only[execOp,hop]
    refine lift ?_
    rfl
   ·cases h2
 | alloc t=>
   rw[hop]at he
   obtain⟨z,h1,h2⟩:=bind_some' he
   cases h2
   obtain⟨i,zv,h3,h4,h5,h6⟩:=zero_cells h1 (SS F w0 κ σ w) w κ σ.objs
   obtain⟨κ',h7⟩:=box_sound h (dst:=o.dst) (d:=o.dst.getD 0) (t:=t) hd (hfree _ (List.mem_singleton.2 rfl)) h6
   refine wp_ran (v:= .pointer (some (at_ w.heap.size 0))) ?_ (hK κ' _ _ h7)
   simp only[execOp,hop]
   refine lift ?_
   simp only[Instr.alloc,Sem.run_bind,typeInfo_zero h3 h4,Result.andThen_ok]
   rfl
 | build t ps=>
   rw[hop]at he
   obtain⟨z,h1,h2⟩:=map_some he
   obtain⟨r,h3,h4⟩:=build_sound h h1
   exact val (by simp only[execOp,hop];exact lift h3) h4 h2.symm
 | buildSlice t n ps=>
   rw[hop]at he
   obtain⟨e',h1,he⟩:=bind_some' he
   obtain⟨k,h2,he⟩:=bind_some' he
   obtain⟨vs,h3,he⟩:=bind_some' he
   split at he
   ·rename_i hn
    obtain⟨xs,h4,he⟩:=bind_some' he
    split at he
    ·rename_i hok
     cases he
     obtain⟨v,w',h5,κ',h6⟩:=lit_sound h (dst:=o.dst) (d:=o.dst.getD 0) hd (hfree _ (List.mem_singleton.2 rfl)) h1 h2 h3 hn h4 hok
     exact wp_ran (by simp only[execOp,hop];exact lift h5) (hK κ' _ _ h6)
    ·cases he
   ·cases he
 | makeMap t q=>
   rw[hop]at he
   cases q with
   | some q=>simp[effOf]at he
   | none=>
     obtain⟨z,_,h2⟩:=map_some he
     cases h2
     obtain⟨κ',h7⟩:=newMap_sound h (dst:=o.dst) (d:=o.dst.getD 0) hd (hfree _ (List.mem_singleton.2 rfl))
     refine wp_ran (v:= .map (some w.heap.size)) ?_ (hK κ' _ _ h7)
     simp only[execOp,hop]
     refine lift ?_
     rfl
 | lookup t m x ok=>
   rw[hop]at he
   obtain⟨⟨z,b⟩,h1,h2⟩:=map_some he
   obtain⟨u,h3,h4⟩:=lookup_sound h h1 (h.evA m) (h.evA x) ok
   refine val (by simp only[execOp,hop];exact lift h3) ?_ h2.symm
   cases ok with
   | false=>exact h4
   | true=>
     simp only[if_true,Rel,one]
     refine⟨[u,.bool b],rfl,AllV_of _ _ _ _ rfl fun i x v hx hv=>?_⟩
     match i,hx,hv with
     | 0,hx,hv=>simp at hx hv;subst hx;subst hv;exact h4
     | 1,hx,hv=>simp at hx hv;subst hx;subst hv;simp[Rel,one]
     | i+2,hx,hv=>simp at hx
 | load t x=>
   rw[hop]at he
   obtain⟨z,h1,h2⟩:=map_some he
   obtain⟨r,h3,h4⟩:=loadA_sound h (h.evA x) h1
   exact val (by simp only[execOp,hop];exact lift h3) h4 h2.symm
 | fieldAddr t x f=>
   rw[hop]at he
   obtain⟨z,h1,h2⟩:=map_some he
   obtain⟨r,h3,h4⟩:=faddr_sound h (h.evA x) h1
   exact val (by simp only[execOp,hop];exact lift h3) h4 h2.symm
 | field t x f=>
   rw[hop]at he
   obtain⟨z,h1,h2⟩:=map_some he
   obtain⟨r,h3,h4⟩:=fieldV_sound h (h.evA x) h1
   exact val (by simp only[execOp,hop];exact lift h3) h4 h2.symm
 | indexAddr t x i=>
   rw[hop]at he
   obtain⟨z,h1,h2⟩:=map_some he
   obtain⟨r,h3,h4⟩:=addr_sound h (h.evA x) (h.evA i) h1
   exact val (by simp only[execOp,hop];exact lift h3) h4 h2.symm
 | index t x i=>
   rw[hop]at he
   simp only[effOf]at he
   have hx:=h.evA x
   split at he
   ·rename_i cs hcs
    rw[hcs]at hx
    obtain⟨z,h1,h2⟩:=map_some he
    obtain⟨r,h3,h4⟩:=arrA_sound h hx (h.evA i) h1
    exact val (by simp only[execOp,hop];exact lift h3) h4 h2.symm
   ·obtain⟨z,h1,h2⟩:=map_some he
    obtain⟨r,h3,h4⟩:=pure2_sound hx (h.evA i) h1
    exact val (by simp only[execOp,hop];exact lift h3) h4 h2.symm
 | slice t x lo hi mx=>
   rw[hop]at he
   cases mx with
   | some m=>simp[effOf]at he
   | none=>
   simp only[effOf]at he
   have hx:=h.evA x
   generalize evA σ.slots x=X at he hx
   cases X with
   | str b=>
     simp only at he
     obtain⟨z,h1,h2⟩:=map_some he
     have hb:a.eval x= .string b:=hx
     cases lo with
     | none=>
       cases hi with
       | none=>
         obtain⟨r,h3,h4⟩:=pure1_sound hx h1
         exact val (by simp only[execOp,hop];exact lift h3) h4 h2.symm
       | some q=>
         obtain⟨r,h3,h4⟩:=pure2_sound hx (h.evA q) h1
         exact val (by simp only[execOp,hop];exact lift h3) h4 h2.symm
     | some l=>
       cases hi with
       | none=>
         obtain⟨r,h3,h4⟩:=pure2_sound hx (h.evA l) h1
         exact val (by simp only[execOp,hop];exact lift h3) h4 h2.symm
       | some q=>
         simp only at h1
         obtain⟨vl,h5,h1⟩:=bind_some' h1
         obtain⟨vh,h6,h1⟩:=bind_some' h1
         obtain⟨r,h7,h8⟩:=bind_some' h1
         have e1:=toV_sound _ _ _ _ _ _ _ h5 (h.evA l)
         have e2:=toV_sound _ _ _ _ _ _ _ h6 (h.evA q)
         refine val (v:=r) ?_ (ofV_sound _ _ _ _ r z h8) h2.symm
         simp only[execOp,hop]
         refine lift ?_
         simp only[Option.map_some,Option.map_none]
         rw[hb,e1,e2]
         exact pureRun_sound h7 w
   | sl xs=>
     simp only at he
     obtain⟨e',h1,he⟩:=bind_some' he
     obtain⟨k,h2,he⟩:=bind_some' he
     obtain⟨hh,h3,he⟩:=bind_some' he
     obtain⟨l,h4,he⟩:=bind_some' he
     split at he
     ·rename_i hl
      split at he
      ·rename_i hhl
       split at he
       ·rename_i hok
        obtain⟨u,h5,h6⟩:=slice_sound h hx h1 h2 h3 h4 hl hhl hok
        exact val (by simp only[execOp,hop];exact lift h5) h6 (Option.some.inj he).symm
       ·cases he
      ·cases he
     ·cases he
   | nils=>
     simp only at he
     obtain⟨e',h1,he1⟩:=bind_some' he
     obtain⟨k,h2,he2⟩:=bind_some' he1
     obtain⟨hh,h3,he3⟩:=bind_some' he2
     obtain⟨l,h4,he4⟩:=bind_some' he3
     clear he he1 he2 he3
     split at he4
     case isFalse=>cases he4
     rename_i hl
     obtain⟨rfl,rfl⟩:=hl
     have hxv:a.eval x= .slice none 0 0:=hx
     have hrun:=run_cut (n:=0) (c:=0) (A:=none) (lo:=lo) (hi:=hi) (hh:=0) (l:=0) h h1 h2 h3 h4 (Nat.le_refl _) (Nat.le_refl _) (Nat.le_refl _)
     refine val (v:= .slice none 0 0) ?_ (x:= .nils) (by simp[Rel,one]) (Option.some.inj he4).symm
     simp only[execOp,hop]
     refine lift ?_
     rw[hxv]
     exact hrun
   | own r g=>
     simp only at he
     split at he
     case h_2=>cases he
     rename_i q
     obtain⟨e',h1,he1⟩:=bind_some' he
     obtain⟨k,h2,he2⟩:=bind_some' he1
     obtain⟨l,h3,he3⟩:=bind_some' he2
     clear he he1 he2
     split at he3
     case h_2=>cases he3
     rename_i e2 k2 xs g' fz hr
     split at he3
     case isFalse=>cases he3
     rename_i hc
     obtain⟨rfl,rfl,rfl,hl⟩:=hc
     have hrow:RowOK _ _ _ _ _ _ _:=h.objs r _ hr
     simp only[Rel,one]at hx
     obtain⟨_,_,_,_,_,hr',_,hxv⟩:=hx
     rw[hr]at hr'
     cases hr'
     have hxv:=hxv rfl
     obtain⟨A,c,hkr,hnc⟩:∃A c,κ r= .slice A xs.length c∧xs.length≤c:=by
      obtain⟨_,zs,hown,_⟩:=hrow
      rcases hown.2 with⟨h4,h5⟩|⟨b,cap,cur,h4,_,_,h5,_⟩
      ·exact⟨none,0,by rw[h4,h5],by omega⟩
      ·exact⟨_,cap,h4,h5⟩
     have hrun:=run_cut (n:=xs.length) (c:=c) (A:=A) (lo:=some q) (hi:=none) (hh:=xs.length) (l:=l) h h1 h2 rfl h3 hl (Nat.le_refl _) hnc
     refine val (v:= .slice (if c=l then A else A.map (·.add (l*k2))) (xs.length-l) (c-l)) ?_ (x:= .vw r g' l) ?_ (Option.some.inj he3).symm
     ·simp only[execOp,hop]
      refine lift ?_
      rw[hxv,hkr]
      exact hrun
     ·simp only[Rel,one]
      exact⟨_,_,xs,g',fz,hr,Nat.le_refl _,fun _=>⟨A,xs.length,c,hkr,hl,rfl⟩⟩
   | _=>simp at he
 | makeSlice t l c=>
   rw[hop]at he
   simp only[effOf]at he
   have hl:=h.evA l
   have hc:=h.evA c
   generalize evA σ.slots l=L at he hl
   generalize evA σ.slots c=M at he hc
   split at he
   case h_2=>cases he
   rename_i kl n kc m
   have hl:a.eval l= .int kl n:=hl
   have hc:a.eval c= .int kc m:=hc
   obtain⟨e',h1,he⟩:=bind_some' he
   obtain⟨k,h2,he⟩:=bind_some' he
   obtain⟨b,h3,he⟩:=bind_some' he
   obtain⟨z,h4,he⟩:=bind_some' he
   split at he
   case isFalse=>cases he
   rename_i hcond
   split at he
   case isFalse=>cases he
   rename_i hcond2
   cases he
   obtain⟨v,w',h5,κ',h6⟩:=make_sound h (kl:=kl) (kc:=kc) (dst:=o.dst) (d:=o.dst.getD 0) hd (hfree _ (List.mem_singleton.2 rfl)) h1 h2 h3 h4 hcond.1 hcond.2 hcond2
   exact wp_ran (by simp only[execOp,hop];rw[hl,hc];exact lift h5) (hK κ' _ _ h6)
 | extract t i=>
   rw[hop]at he
   simp only[effOf]at he
   have hx:=h.evA t
   generalize evA σ.slots t=X at he hx
   cases X with
   | tup vs=>
     simp only at he
     obtain⟨y,h1,h2⟩:=map_some he
     simp only[Rel,one]at hx
     obtain⟨us,h3,h4⟩:=hx
     obtain⟨h5,h6⟩:=AllV_get _ _ _ _ h4
     have hi:i<us.length:=by rw[← h5];exact(List.getElem?_eq_some_iff.1 h1).1
     refine val (v:=us[i]) ?_ (h6 i y _ h1 (List.getElem?_eq_getElem hi)) h2.symm
     simp only[execOp,hop]
     refine lift ?_
     simp only[Instr.extract,h3,List.getElem?_toArray,List.getElem?_eq_getElem hi,Sem.run_pure]
   | _=>simp at he
 | makeFunc f fi caps=>
   rw[hop]at he
   cases f with
   | func f=>
     simp only[effOf]at he
     split at he
     ·rename_i hfi
      refine val (v:= .func (.func f) #[] (caps.toList.map a.eval).toArray) ?_ (x:= .fn f (caps.toList.map (evA σ.slots))) ?_ (Option.some.inj he).symm
      ·simp only[execOp,hop]
       refine lift ?_
       have:fi=#[]:=Array.eq_empty_of_size_eq_zero hfi
       subst this
       have e2:caps.map a.eval=(caps.toList.map a.eval).toArray:=by apply Array.ext';simp
       simp only[Instr.makeFunc,Sem.run_pure,e2,Array.map_empty]
      ·simp only[Rel,one]
       exact⟨_,rfl,argsV h caps.toList⟩
     ·cases he
   | _=>simp[effOf]at he
 | nilCheck x=>
   rw[hop]at he
   simp only[effOf]at he
   have hx:=h.evA x
   generalize hX:evA σ.slots x=X at he hx
   cases X with
   | ia cs off=>
     simp only[Option.some.injEq]at he
     have hx':=hx
     simp only[Rel,one]at hx'
     obtain⟨b,o',h1,_⟩:=hx'
     exact val (v:=a.eval x) (by simp only[execOp,hop];rw[h1];rfl) hx he.symm
   | ba b off=>
     simp only[Option.some.injEq]at he
     have hx':=hx
     simp only[Rel,one]at hx'
     obtain⟨_,_,_,blk,_,h1⟩:=hx'
     exact val (v:=a.eval x) (by simp only[execOp,hop];rw[h1];rfl) hx he.symm
   | pp nl cs=>
     simp only at he
     split at he
     ·cases he
     ·rename_i hnl
      simp only[Option.some.injEq]at he
      have hx':=hx
      simp only[Rel,one]at hx'
      rw[if_neg hnl]at hx'
      obtain⟨b,o',h1,h2,h3⟩:=hx'
      refine val (v:=a.eval x) (by simp only[execOp,hop];rw[h1];rfl) ?_ he.symm
      simp only[Rel,one]
      exact⟨b,o',by simpa using h1,h2,h3⟩
   | oa r g i off=>
     simp only at he
     obtain⟨z,h1,h2⟩:=map_some he
     simp only[plus]at h1
     have hx':=hx
     simp only[Rel,one]at hx'
     obtain⟨e',k,xs,g',fz,h3,h4,h5⟩:=hx'
     rw[h3]at h1
     simp only at h1
     split at h1
     ·rename_i hg
      cases h1
      obtain⟨b,_,h6⟩:=h5 hg.symm
      exact val (v:=a.eval x) (by simp only[execOp,hop];rw[h6];rfl) hx h2.symm
     ·cases h1
   | _=>simp at he
 | call c=>
   rw[hop]at he
   simp only[effOf]at he
   have hexec:execOp a.eval o=(do let d ←resolve a.eval c o.type;invoke d.target d.args):=by simp only[execOp,hop]
   cases hcal:c.callee with
   | value f=>
     rw[hcal]at he
     cases f with
     | func g=>
       simp only at he
       refine call (vals:=c.args.toList.map a.eval) ?_ he (argsV h _)
       rw[hexec,resolve_fn hcal (g:=g) (caps:=#[]) rfl]
       congr 2
       apply Array.ext'
       simp
     | tmp t=>
       simp only at he
       have hx:=h.slots t
       generalize σ.slots t=X at he hx
       cases X with
       | fn g caps=>
         simp only at he
         simp only[Rel,one]at hx
         obtain⟨us,h1,h2⟩:=hx
         refine call (vals:=c.args.toList.map a.eval++us) ?_ he (AllV_append (argsV h _) h2)
         rw[hexec,resolve_fn hcal (g:=g) (caps:=us.toArray) h1,argsArr]
       | _=>simp at he
     | _=>simp at he
   | invoke r n=>rw[hcal]at he;simp at he
   | builtin b=>
     rw[hcal]at he
     have hrb:(execOp a.eval o).run P w=(builtin b c.argTypes o.type (c.args.map fun | .const _=>true|_=>false) (c.args.map a.eval)).run P w:=by
      rw[hexec]
      unfold resolve
      simp only[hcal]
      rw[Sem.run_bind]
      rfl
     have mm:∀(b:Builtin),c.callee= .builtin b→(match c.args.toList with
       | [x,y]=>(toV (evA σ.slots x)).bind fun vx=>(toV (evA σ.slots y)).bind fun vy=>(pureRun P (builtin b c.argTypes o.type (c.args.map fun | .const _=>true|_=>false) #[vx,vy])).bind fun
         | .value v=>(ofV v).map fun v=>({ val:=v }:Eff)
         | _=>none
       | _=>none)=some e→(execOp a.eval o).run P w=(builtin b c.argTypes o.type (c.args.map fun | .const _=>true|_=>false) (c.args.map a.eval)).run P w→o.wp P a w K Q:=by
      intro b hb he hrb
      split at he
      ·rename_i x y hxy
       obtain⟨vx,h1,he⟩:=bind_some' he
       obtain⟨vy,h2,he⟩:=bind_some' he
       obtain⟨nx,h3,he⟩:=bind_some' he
       have e1:=toV_sound _ _ _ _ _ _ _ h1 (h.evA x)
       have e2:=toV_sound _ _ _ _ _ _ _ h2 (h.evA y)
       have e3:c.args.map a.eval=#[vx,vy]:=by
        apply Array.ext'
        simp[hxy,e1,e2]
       rw[e3,pureRun_sound h3 w]at hrb
       split at he
       ·obtain⟨z,h4,h5⟩:=map_some he
        exact val hrb (ofV_sound _ _ _ _ _ _ h4) h5.symm
       ·cases he
      ·cases he
     cases b with
     | len=>
       simp only at he
       split at he
       ·rename_i x t hx ht
        obtain⟨n,h1,h2⟩:=map_some he
        obtain⟨m,hm1,hmn⟩:=bind_some' h1
        have hmn:(m:Int)=n:=Option.some.inj hmn
        subst hmn
        have e3:c.args.map a.eval=#[a.eval x]:=by
         apply Array.ext'
         simp[hx]
        rw[e3]at hrb
        refine val (v:= .int .i64 m) (x:= .int .i64 m) ?_ rfl h2.symm
        rw[hrb]
        have h3:=lenT_sound h (h.evA x) hm1 o.type ht
        unfold builtin
        exact lift h3
       ·cases he
     | cap=>
       simp only at he
       split at he
       ·rename_i x t hx ht
        split at he
        ·rename_i e' hu hxn
         have hxv:=h.evA x
         rw[hxn]at hxv
         have hxv:a.eval x= .slice none 0 0:=hxv
         have e3:c.args.map a.eval=#[.slice none 0 0]:=by
          apply Array.ext'
          simp[hx,hxv]
         rw[e3]at hrb
         refine val (v:= .int .i64 0) (x:= .int .i64 0) ?_ (by simp[Rel,one]) (Option.some.inj he).symm
         rw[hrb]
         unfold builtin
         exact lift (by simp[Builtin.cap_,goInt,ht,run_underlying hu])
        ·cases he
       ·cases he
     | min=>
       simp only[true_or,if_true]at he
       exact mm _ hcal he hrb
     | max=>
       simp only[or_true,if_true]at he
       exact mm _ hcal he hrb
     | _=>simp at he
 | _=>rw[hop]at he;simp[effOf]at he
end
end Go.Abs
