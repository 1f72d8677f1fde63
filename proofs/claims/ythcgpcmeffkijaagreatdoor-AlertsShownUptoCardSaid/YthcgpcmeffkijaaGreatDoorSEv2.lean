import Derived.Test.YthcgpcmeffkijaaGreatDoorSEv1
set_option linter.unusedVariables false
set_option linter.unusedSimpArgs false
namespace Go.Abs
open Go.RowKit
abbrev bf(R:Array Oper)(ord:List Nat):List (List Nat):=befsOf ord (inOrd R ord) []
abbrev qe(v:AV):REff:={ e:={ val:=v } }
def isStore:Op→Bool
 | .store .. => true
 | _=>false
def loudOp(P:Program):Op→Bool
 | .store _ _ _=>true
 | .call c=>match c.callee with
   | .value (.func f)=>inplB P f
   | _=>false
 | _=>false
theorem done_quiet{P:Program}{C:Callee}{σ:Env}{o:Oper}(h:loudOp P o.op=false):doneE P C σ o=quietE P C σ o:=by
 unfold doneE
 split
 ·rename_i t a x hop
  rw[hop]at h
  cases h
 ·have:inplE P C σ o=none:=by
   unfold inplE
   split
   ·rename_i c hop
    rw[hop]at h
    split
    ·rename_i f hcal
     simp only[loudOp,hcal]at h
     rw[h]
     simp
    ·rfl
   ·rfl
  rw[this]
def drawK(P:Program)(C:Callee)(R:Array Oper)(ord:List Nat)(σ:Env)(n:Nat)(es:REffs):Option Env:=if newsOk σ es&&storesOk (bf R ord) es&&clashOk P ((inOrd R ord).take n) σ (bf R ord) es then opsA P C R ((inOrd R ord).drop n) (envSub (fun _=>true) es 0 σ)else none
theorem effsA_append{P:Program}{C:Callee}{R:Array Oper}{σ:Env}{befs:List (List Nat)}:∀(l m:List Oper)(es:REffs),effsA P C R σ befs (l++m) es=(effsA P C R σ befs l es).bind (effsA P C R σ befs m)
 | [],m,es=>rfl
 | o::l,m,es=>by
   simp only[List.cons_append,effsA]
   cases stepE P C R (envSub (befAt befs es.length) es 0 σ) o with
   | none=>rfl
   | some e=>exact effsA_append l m _
section
variable {ρ σT:Type} {P:Program} {C:Callee} {K:FCfg} {fin:AExit×Env→Option ρ} {s:List KI} {σ:Env} {X:Option ρ} {fn:Func} {p:List Bool}
noncomputable abbrev dr_(P:Program)(C:Callee)(K:FCfg)(fin:AExit×Env→Option ρ)(s:List KI)(live:Option (List Nat×List Nat))(R:Array Oper)(ord:List Nat)(σ:Env)(n i:Nat)(es:REffs):Option ρ:=
 runs P C K fin s (ops_ live ((effsA P C R σ (bf R ord) (((inOrd R ord).take n).drop i) es).bind (drawK P C R ord σ n)))
theorem gD(id n:Nat)(R:Array Oper)(ord:List Nat)(h:dr_ P C K fin s (K.live id) R ord σ n 0 []=X)(hc:nr fn p= .region id R true:=by kernel_rfl)(ho:ordOf R (K.ord id)=ord:=by kernel_rfl)(hn:(K.hd id).getD ((inOrd R ord).findIdx fun o => !quietOp o.op)=n:=by kernel_rfl)(hst:statOk R ord (bf R ord) n=true:=by kernel_rfl) :
  runs P C K fin s (execA P C K (nr fn p) σ)=X:=by
 rw[hc]
 have e:drawA P C R ord (K.hd id) σ=(effsA P C R σ (bf R ord) ((inOrd R ord).take n) []).bind (drawK P C R ord σ n):=by
  unfold drawA
  simp only[hn]
  rw[if_pos hst]
  rfl
 show runs P C K fin s (ops_ (K.live id) (drawA P C R (ordOf R (K.ord id)) (K.hd id) σ))=X
 rw[ho,e]
 exact h
section
variable {live:Option (List Nat×List Nat)} {R:Array Oper} {ord:List Nat} {n i:Nat} {es:REffs}
theorem dg(j:Nat)(es':REffs)(h:dr_ P C K fin s live R ord σ n j es'=X)(hij:decide (i≤j)=true:=by kernel_rfl)(hseg:effsA P C R σ (bf R ord) ((((inOrd R ord).take n).drop i).take (j-i)) es=some es':=by kernel_rfl):dr_ P C K fin s live R ord σ n i es=X:=by
 have hij':i≤j:=by simpa using hij
 have e:((inOrd R ord).take n).drop i=(((inOrd R ord).take n).drop i).take (j-i)++((inOrd R ord).take n).drop j:=by
  have:=(List.take_append_drop (j-i) (((inOrd R ord).take n).drop i)).symm
  rwa[List.drop_drop,show i+(j-i)=j by omega]at this
 unfold dr_
 rw[e,effsA_append,hseg]
 exact h
theorem de(σ':Env)(h:run_ P C K fin s live R (inOrd R ord) n σ'=X)(hl:((inOrd R ord).take n).drop i=[]:=by kernel_rfl)(hnew:(newsOk σ es&&storesOk (bf R ord) es&&clashOk P ((inOrd R ord).take n) σ (bf R ord) es)=true:=by kernel_rfl)(he:envSub (fun _=>true) es 0 σ=σ':=by kernel_rfl):dr_ P C K fin s live R ord σ n i es=X:=by
 unfold dr_
 rw[hl]
 simp only[effsA,Option.bind_some,drawK,hnew,if_true,he]
 exact h
theorem set_same{α:Type}{l:List α}{k:Nat}{x:α}(h:l[k]? = some x):l.set k x=l:=by
 apply List.ext_getElem?
 intro i
 rw[List.getElem?_set]
 split
 ·rename_i e
  subst e
  split
  ·exact h.symm
  ·rename_i hn
   rw[List.getElem?_eq_none (by omega)]at h
   cases h
 ·rfl
theorem db(k d:Nat)(b:Bool){h:σT→ρ}{x y:Option σT}(ht:dr_ P C K fin s live R ord σ n i (es.set k (some d,qe (.bool true)))=x.map h)(hf:dr_ P C K fin s live R ord σ n i (es.set k (some d,qe (.bool false)))=y.map h)
  (hb:es[k]? = some (some d,qe (.bool b)):=by kernel_rfl) :
  dr_ P C K fin s live R ord σ n i es=(bif b then x else y).map h:=by
 cases b
 ·rw[set_same hb]at hf;exact hf
 ·rw[set_same hb]at ht;exact ht
abbrev od(R:Array Oper)(ord:List Nat)(i:Nat):Oper:=(inOrd R ord).getD i default
theorem dv(d:Nat){α:Type}{ov:Option α}{f:α→AV}{h:σT→ρ}{T:α→Option σT}(σj:Env)(he:effOf P C σj.slots σj.objs d (od R ord i).type (od R ord i).op=(ov.map f).map fun v=>{ val:=v })
  (hs:∀x,dr_ P C K fin s live R ord σ n (i+1) (es++[(some d,qe (f x))])=(T x).map h)
  (hσ:envSub (befAt (bf R ord) es.length) es 0 σ=σj:=by kernel_rfl) (ho:((inOrd R ord).take n).drop i=od R ord i::((inOrd R ord).take n).drop (i+1):=by kernel_rfl) (hd:(od R ord i).dst=some d:=by kernel_rfl) (hdn:σj.n.ok d=true:=by kernel_rfl)
  (hq:loudOp P (od R ord i).op=false:=by kernel_rfl) (hw:wantedA R σj.slots (od R ord i)=some true:=by kernel_rfl):dr_ P C K fin s live R ord σ n i es=(ov.bind T).map h:=by
 have e:effsA P C R σ (bf R ord) (((inOrd R ord).take n).drop i) es=ov.bind fun x=>effsA P C R σ (bf R ord) (((inOrd R ord).take n).drop (i+1)) (es++[(some d,qe (f x))]):=by
  rw[ho]
  simp only[effsA,hσ,stepE,hd,Option.all_some,hdn,if_true,hw,Option.bind_some,done_quiet hq,quietE,Option.getD_some,he]
  cases ov<;>rfl
 unfold dr_
 rw[e]
 cases ov
 ·exact runs_none
 ·exact hs _
theorem df(d:Nat)(v:AV)(σj:Env)(he:effOf P C σj.slots σj.objs d (od R ord i).type (od R ord i).op=some { val:=v })
  (hs:dr_ P C K fin s live R ord σ n (i+1) (es++[(some d,qe v)])=X)
  (hσ:envSub (befAt (bf R ord) es.length) es 0 σ=σj:=by kernel_rfl) (ho:((inOrd R ord).take n).drop i=od R ord i::((inOrd R ord).take n).drop (i+1):=by kernel_rfl) (hd:(od R ord i).dst=some d:=by kernel_rfl) (hdn:σj.n.ok d=true:=by kernel_rfl)
  (hq:loudOp P (od R ord i).op=false:=by kernel_rfl) (hw:wantedA R σj.slots (od R ord i)=some true:=by kernel_rfl):dr_ P C K fin s live R ord σ n i es=X:=by
 have e:effsA P C R σ (bf R ord) (((inOrd R ord).take n).drop i) es=effsA P C R σ (bf R ord) (((inOrd R ord).take n).drop (i+1)) (es++[(some d,qe v)]):=by
  rw[ho]
  simp only[effsA,hσ,stepE,hd,Option.all_some,hdn,if_true,hw,Option.bind_some,done_quiet hq,quietE,Option.getD_some,he]
  rfl
 unfold dr_
 rw[e]
 exact hs
theorem dc(d:Nat)(fr:List Nat){f:Nat}{args:List AV}{α:Type}{ov:Option α}{g:α→AV}{h:σT→ρ}{T:α→Option σT}(σj:Env)(hcall:C f args=ov.map g)
  (hs:∀x,dr_ P C K fin s live R ord σ n (i+1) (es++[(some d,{ e:=callR d fr (g x) })])=(T x).map h)
  (hσ:envSub (befAt (bf R ord) es.length) es 0 σ=σj:=by kernel_rfl) (ho:((inOrd R ord).take n).drop i=od R ord i::((inOrd R ord).take n).drop (i+1):=by kernel_rfl) (hd:(od R ord i).dst=some d:=by kernel_rfl) (hdn:σj.n.ok d=true:=by kernel_rfl)
  (hq:loudOp P (od R ord i).op=false:=by kernel_rfl) (hw:wantedA R σj.slots (od R ord i)=some true:=by kernel_rfl) (he:effOf P C σj.slots σj.objs d (od R ord i).type (od R ord i).op=(C f args).map (callR d fr):=by kernel_rfl)
  (hz:∀x,((callR d fr (g x)).frz.all fun id=>(σj.objs id).isSome)=true:=by intro _;kernel_rfl):dr_ P C K fin s live R ord σ n i es=(ov.bind T).map h:=by
 have e:effsA P C R σ (bf R ord) (((inOrd R ord).take n).drop i) es=ov.bind fun x=>effsA P C R σ (bf R ord) (((inOrd R ord).take n).drop (i+1)) (es++[(some d,{ e:=callR d fr (g x) })]):=by
  rw[ho]
  simp only[effsA,hσ,stepE,hd,Option.all_some,hdn,if_true,hw,Option.bind_some,done_quiet hq,quietE,Option.getD_some,he,hcall]
  cases ov with
  | none=>rfl
  | some x=>simp only[Option.map_some,Option.bind_some,hz x,if_true]
 unfold dr_
 rw[e]
 cases ov
 ·exact runs_none
 ·exact hs _
end
end
section
variable {ρ σT:Type} {P:Program} {C:Callee} {K:FCfg} {fin:AExit×Env→Option ρ} {s:List KI} {σ:Env} {X:Option ρ} {fn:Func} {p:List Bool} {live:Option (List Nat×List Nat)} {R:Array Oper} {L:List Oper} {i:Nat}
theorem zN{j:Nat}{q:List Bool}(σ':Env)(h:runs P C K fin s (execA P C K (nr fn q) σ')=X)(hseg:(opsA P C R (L.drop i) σ).bind (forget live)=some σ':=by kernel_rfl)(hl:K.lin j=none:=by kernel_rfl):run_ P C K fin (.fg j :: .seq (nr fn q)::s) live R L i σ=X:=se σ' (pN (pS h) hl) hseg
theorem zE{j:Nat}{q:List Bool}{y:ρ}(σ':Env)(hseg:(opsA P C R (L.drop i) σ).bind (forget live)=some σ':=by kernel_rfl)(hl:K.lin j=none:=by kernel_rfl)(hc:nr fn q= .ret:=by kernel_rfl)(h1:execS P C K s (some (.ret,σ'))=some (.ret,σ'):=by kernel_rfl)(h2:fin (.ret,σ')=some y:=by kernel_rfl):run_ P C K fin (.fg j :: .seq (nr fn q)::s) live R L i σ=some y:=se σ' (pN (pS (gE (pL h1 h2) hc)) hl) hseg
theorem zR(k id:Nat)(h:run_ P C K fin (.fg k :: .seq (nr fn (true::p))::s) (K.live id) (rg fn id) (rg fn id).toList 0 σ=X)(hc:nr fn p= .seq (nr fn (false::p)) (nr fn (true::p)):=by kernel_rfl)(hk:firstRegion (nr fn (true::p))=k:=by kernel_rfl)(hr:nr fn (false::p)= .region id (rg fn id) false:=by kernel_rfl):runs P C K fin s (execA P C K (nr fn p) σ)=X:=gS k (gR id (rg fn id) h hr) hc hk
theorem zS(k id:Nat)(σ':Env)(h:runs P C K fin s (execA P C K (nr fn (true::p)) σ')=X)(hc:nr fn p= .seq (nr fn (false::p)) (nr fn (true::p)):=by kernel_rfl)(hk:firstRegion (nr fn (true::p))=k:=by kernel_rfl)(hr:nr fn (false::p)= .region id (rg fn id) false:=by kernel_rfl)
 (hseg:(opsA P C (rg fn id) ((rg fn id).toList.drop 0) σ).bind (forget (K.live id))=some σ':=by kernel_rfl) (hl:K.lin k=none:=by kernel_rfl):runs P C K fin s (execA P C K (nr fn p) σ)=X:=zR k id (zN σ' h hseg hl) hc hk hr
theorem zF(k id:Nat){y:ρ}(σ':Env)(hc:nr fn p= .seq (nr fn (false::p)) (nr fn (true::p)):=by kernel_rfl)(hk:firstRegion (nr fn (true::p))=k:=by kernel_rfl)(hr:nr fn (false::p)= .region id (rg fn id) false:=by kernel_rfl)
 (hseg:(opsA P C (rg fn id) ((rg fn id).toList.drop 0) σ).bind (forget (K.live id))=some σ':=by kernel_rfl) (hl:K.lin k=none:=by kernel_rfl) (hc2:nr fn (true::p)= .ret:=by kernel_rfl) (h1:execS P C K s (some (.ret,σ'))=some (.ret,σ'):=by kernel_rfl) (h2:fin (.ret,σ')=some y:=by kernel_rfl):runs P C K fin s (execA P C K (nr fn p) σ)=some y:=zR k id (zE σ' hseg hl hc2 h1 h2) hc hk hr
theorem zP{j:Nat}{q:List Bool}(h:runs P C K fin s (execA P C K (nr fn q) σ)=X)(hl:K.lin j=none:=by kernel_rfl):runs P C K fin (.fg j :: .seq (nr fn q)::s) (some (.normal,σ))=X:=pN (pS h) hl
end
end Go.Abs
