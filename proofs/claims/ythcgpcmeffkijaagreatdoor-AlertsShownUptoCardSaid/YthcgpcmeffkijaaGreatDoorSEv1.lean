import Derived.Test.YthcgpcmeffkijaaGreatDoorSEvK
import Derived.KernelRfl
set_option linter.unusedVariables false
set_option linter.unusedSimpArgs false
namespace Go.Abs
open Go.RowKit
abbrev I(x:Int):AV:= .int .i64 x
abbrev U(x:Int):AV:= .int .u8 x
abbrev B(x:Bool):AV:= .bool x
abbrev S(x:ByteArray):AV:= .str x
abbrev LL{α:Type}(f:α→AV)(l:List α):AV:= .sl (l.map f)
abbrev RR{α:Type}(e k:Nat)(f:α→AV)(l:List α)(g:Nat)(fz:Bool):AObj:= .row e k (l.map f) g fz
def chd(b:Bool):Code→Code
 | .seq x y=>match b with|true=>y|false=>x
 | .cond _ x y=>match b with|true=>y|false=>x
 | .block _ x=>x
 | .loop x=>x
 | c=>c
def nr(fn:Func):List Bool→Code
 | []=>body_ fn
 | b::p=>chd b (nr fn p)
section
variable {ρ σT:Type} {P:Program} {C:Callee} {K:FCfg} {fin:AExit×Env→Option ρ} {s:List KI} {σ:Env} {X:Option ρ} {fn:Func} {p:List Bool}
theorem gS(k:Nat)(h:runs P C K fin (.fg k :: .seq (nr fn (true::p))::s) (execA P C K (nr fn (false::p)) σ)=X)(hc:nr fn p= .seq (nr fn (false::p)) (nr fn (true::p)):=by kernel_rfl)(hk:firstRegion (nr fn (true::p))=k:=by kernel_rfl):runs P C K fin s (execA P C K (nr fn p) σ)=X:=by
 rw[hc,runs_seq,hk]
 exact h
theorem gB(id:Nat)(h:runs P C K fin (.blk id::s) (execA P C K (nr fn (false::p)) σ)=X)(hc:nr fn p= .block id (nr fn (false::p)):=by kernel_rfl):runs P C K fin s (execA P C K (nr fn p) σ)=X:=go_block id _ hc h
theorem gK(h:runs P C K fin s (some (.normal,σ))=X)(hc:nr fn p= .skip:=by kernel_rfl):runs P C K fin s (execA P C K (nr fn p) σ)=X:=go_skip hc h
theorem gE(h:runs P C K fin s (some (.ret,σ))=X)(hc:nr fn p= .ret:=by kernel_rfl):runs P C K fin s (execA P C K (nr fn p) σ)=X:=go_ret hc h
theorem gX(id:Nat)(h:runs P C K fin s (some (.exit id,σ))=X)(hc:nr fn p= .exit id:=by kernel_rfl):runs P C K fin s (execA P C K (nr fn p) σ)=X:=go_exit id hc h
theorem gT(v:Operand)(h:runs P C K fin s (execA P C K (nr fn (false::p)) σ)=X)(hc:nr fn p= .cond v (nr fn (false::p)) (nr fn (true::p)):=by kernel_rfl)(hv:evA σ.slots v= .bool true:=by kernel_rfl):runs P C K fin s (execA P C K (nr fn p) σ)=X:=go_true v _ _ hc hv h
theorem gF(v:Operand)(h:runs P C K fin s (execA P C K (nr fn (true::p)) σ)=X)(hc:nr fn p= .cond v (nr fn (false::p)) (nr fn (true::p)):=by kernel_rfl)(hv:evA σ.slots v= .bool false:=by kernel_rfl):runs P C K fin s (execA P C K (nr fn p) σ)=X:=go_false v _ _ hc hv h
theorem gC(t:Nat)(b:Bool){h:σT→ρ}{x y:Option σT}(ht:runs P C K fin s (execA P C K (nr fn (false::p)) σ)=x.map h)(hf:runs P C K fin s (execA P C K (nr fn (true::p)) σ)=y.map h)
  (hc:nr fn p= .cond (.tmp t) (nr fn (false::p)) (nr fn (true::p)):=by kernel_rfl) (hv:evA σ.slots (.tmp t)= .bool b:=by kernel_rfl):runs P C K fin s (execA P C K (nr fn p) σ)=(bif b then x else y).map h:=by
 cases b
 ·exact go_false _ _ _ hc hv hf
 ·exact go_true _ _ _ hc hv ht
theorem pS{q:List Bool}(h:runs P C K fin s (execA P C K (nr fn q) σ)=X):runs P C K fin (.seq (nr fn q)::s) (some (.normal,σ))=X:=h
theorem pN{k:Nat}(h:runs P C K fin s (some (.normal,σ))=X)(hl:K.lin k=none:=by kernel_rfl):runs P C K fin (.fg k::s) (some (.normal,σ))=X:=by
 simp only[runs,execS,hl,forget,Option.map_some]
 exact h
theorem pF{k:Nat}{i:Nat}(h:runs P C K fin s (some (.exit i,σ))=X):runs P C K fin (.fg k::s) (some (.exit i,σ))=X:=h
theorem pB{id:Nat}(h:runs P C K fin s (some (.normal,σ))=X):runs P C K fin (.blk id::s) (some (.normal,σ))=X:=h
theorem pH{id:Nat}(h:runs P C K fin s (some (.normal,σ))=X):runs P C K fin (.blk id::s) (some (.exit id,σ))=X:=pop_here h
theorem pL{x:AExit}{y:ρ}(h1:execS P C K s (some (x,σ))=some (x,σ):=by kernel_rfl)(h2:fin (x,σ)=some y:=by kernel_rfl):runs P C K fin s (some (x,σ))=some y:=pop_leaf h1 h2
noncomputable abbrev run_(P:Program)(C:Callee)(K:FCfg)(fin:AExit×Env→Option ρ)(s:List KI)(live:Option (List Nat×List Nat))(R:Array Oper)(L:List Oper)(i:Nat)(σ:Env):Option ρ:=runs P C K fin s (ops_ live (opsA P C R (L.drop i) σ))
theorem gR(id:Nat)(R:Array Oper)(h:run_ P C K fin s (K.live id) R R.toList 0 σ=X)(hc:nr fn p= .region id R false:=by kernel_rfl):runs P C K fin s (execA P C K (nr fn p) σ)=X:=go_region id R hc h
section
variable {live:Option (List Nat×List Nat)} {R:Array Oper} {L:List Oper} {i:Nat}
theorem opsA_app:∀(l m:List Oper)(σ:Env),opsA P C R (l++m) σ=(opsA P C R l σ).bind (opsA P C R m)
 | [],m,σ=>rfl
 | o::l,m,σ=>by
   simp only[List.cons_append,opsA]
   cases stepA P C R σ o with
   | none=>rfl
   | some τ=>exact opsA_app l m τ
theorem sg(j:Nat)(σ':Env)(h:run_ P C K fin s live R L j σ'=X)(hij:decide (i≤j)=true:=by kernel_rfl)(hseg:opsA P C R ((L.drop i).take (j-i)) σ=some σ':=by kernel_rfl):run_ P C K fin s live R L i σ=X:=by
 have hij':i≤j:=by simpa using hij
 have e:L.drop i=(L.drop i).take (j-i)++L.drop j:=by
  have:=(List.take_append_drop (j-i) (L.drop i)).symm
  rwa[List.drop_drop,show i+(j-i)=j by omega]at this
 unfold run_
 rw[e,opsA_app,hseg]
 exact h
theorem se(σ':Env)(h:runs P C K fin s (some (.normal,σ'))=X)(hseg:(opsA P C R (L.drop i) σ).bind (forget live)=some σ':=by kernel_rfl):run_ P C K fin s live R L i σ=X:=by
 have e:ops_ live (opsA P C R (L.drop i) σ)=some (.normal,σ'):=by
  cases ho:opsA P C R (L.drop i) σ with
  | none=>rw[ho]at hseg;cases hseg
  | some τ=>
    rw[ho,Option.bind_some]at hseg
    simp only[ops_,Option.bind_some,hseg,Option.map_some]
 unfold run_
 rw[e]
 exact h
theorem put_same{t:Nat}{v:AV}(h:σ.slots t=v):σ.put (some t) v=σ:=by
 obtain⟨sl,ob,n⟩:=σ
 simp only[Env.put,Env.mk.injEq,and_true]
 funext j
 simp only[upd]
 split
 ·rename_i e;rw[e];exact h.symm
 ·rfl
theorem sb(t:Nat)(b:Bool){h:σT→ρ}{x y:Option σT}(ht:run_ P C K fin s live R L i (σ.put (some t) (.bool true))=x.map h)(hf:run_ P C K fin s live R L i (σ.put (some t) (.bool false))=y.map h)(hb:σ.slots t= .bool b:=by kernel_rfl) :
  run_ P C K fin s live R L i σ=(bif b then x else y).map h:=by
 cases b
 ·rw[put_same hb]at hf;exact hf
 ·rw[put_same hb]at ht;exact ht
theorem vo(d:Nat){α:Type}{ov:Option α}{f:α→AV}{h:σT→ρ}{T:α→Option σT}(he:effOf P C σ.slots σ.objs d (L.getD i default).type (L.getD i default).op=(ov.map f).map fun v=>{ val:=v })
  (hs:∀x,run_ P C K fin s live R L (i+1) (σ.put (some d) (f x))=(T x).map h)
  (ho:L.drop i=L.getD i default::L.drop (i+1):=by kernel_rfl) (hd:(L.getD i default).dst=some d:=by kernel_rfl) (hdn:σ.n.ok d=true:=by kernel_rfl) (hw:wantedA R σ.slots (L.getD i default)=some true:=by kernel_rfl)
  (hm:modOf P C σ (some d) (L.getD i default).op=none:=by kernel_rfl):run_ P C K fin s live R L i σ=(ov.bind T).map h:=by
 have e:opsA P C R (L.drop i) σ=ov.bind fun x=>opsA P C R (L.drop (i+1)) (σ.put (some d) (f x)):=by
  rw[ho]
  simp only[opsA,stepA,hd,Option.all_some,hdn,if_true,hw,Option.bind_some,Option.getD_some,he]
  cases ov with
  | none=>simp only[Option.map_none,hm,Option.bind_none]
  | some x=>rfl
 unfold run_
 rw[e,runs_bind]
 cases ov
 ·rfl
 ·exact hs _
theorem eo(d:Nat)(v:AV)(he:effOf P C σ.slots σ.objs d (L.getD i default).type (L.getD i default).op=some { val:=v })
  (hs:run_ P C K fin s live R L (i+1) (σ.put (some d) v)=X)
  (ho:L.drop i=L.getD i default::L.drop (i+1):=by kernel_rfl) (hd:(L.getD i default).dst=some d:=by kernel_rfl) (hdn:σ.n.ok d=true:=by kernel_rfl) (hw:wantedA R σ.slots (L.getD i default)=some true:=by kernel_rfl) :
  run_ P C K fin s live R L i σ=X:=by
 unfold run_
 rw[ho]
 simp only[opsA,stepA,hd,Option.all_some,hdn,if_true,hw,Option.bind_some,Option.getD_some,he]
 exact hs
theorem co(d:Nat)(fr:List Nat){f:Nat}{args:List AV}{α:Type}{ov:Option α}{g:α→AV}{h:σT→ρ}{T:α→Option σT}(hcall:C f args=ov.map g)
  (hs:∀x,run_ P C K fin s live R L (i+1) (σ.eff (some d) (callR d fr (g x)))=(T x).map h)
  (ho:L.drop i=L.getD i default::L.drop (i+1):=by kernel_rfl) (hd:(L.getD i default).dst=some d:=by kernel_rfl) (hdn:σ.n.ok d=true:=by kernel_rfl) (hw:wantedA R σ.slots (L.getD i default)=some true:=by kernel_rfl)
  (he:effOf P C σ.slots σ.objs d (L.getD i default).type (L.getD i default).op=(C f args).map (callR d fr):=by kernel_rfl)
  (hm:modOf P C σ (some d) (L.getD i default).op=none:=by kernel_rfl)
  (hn:∀x,((callR d fr (g x)).news.all fun p=>(σ.objs p.1).isNone)=true:=by intro _;kernel_rfl):run_ P C K fin s live R L i σ=(ov.bind T).map h:=by
 have e:opsA P C R (L.drop i) σ=ov.bind fun x=>opsA P C R (L.drop (i+1)) (σ.eff (some d) (callR d fr (g x))):=by
  rw[ho]
  simp only[opsA,stepA,hd,Option.all_some,hdn,if_true,hw,Option.bind_some,Option.getD_some,he,hcall]
  cases ov with
  | none=>simp only[Option.map_none,hm,Option.bind_none]
  | some x=>simp only[Option.map_some,hn x,if_true,Option.bind_some]
 unfold run_
 rw[e,runs_bind]
 cases ov
 ·rfl
 ·exact hs _
theorem nC(d:Nat)(fr:List Nat){f:Nat}{args:List AV}{h:σT→ρ}(hcall:C f args=none)
  (ho:L.drop i=L.getD i default::L.drop (i+1):=by kernel_rfl) (hd:(L.getD i default).dst=some d:=by kernel_rfl) (hdn:σ.n.ok d=true:=by kernel_rfl) (hw:wantedA R σ.slots (L.getD i default)=some true:=by kernel_rfl)
  (he:effOf P C σ.slots σ.objs d (L.getD i default).type (L.getD i default).op=(C f args).map (callR d fr):=by kernel_rfl)
  (hm:modOf P C σ (some d) (L.getD i default).op=none:=by kernel_rfl):run_ P C K fin s live R L i σ=(none:Option σT).map h:=by
 unfold run_
 rw[ho]
 simp only[opsA,stepA,hd,Option.all_some,hdn,if_true,hw,Option.bind_some,Option.getD_some,he,hcall,Option.map_none,hm,Option.bind_none]
 exact runs_none
theorem mo(d:Option Nat){α:Type}{ov:Option α}{E:α→Env}{h:σT→ρ}{T:α→Option σT}(hmod:modOf P C σ d (L.getD i default).op=ov.map E)
  (hs:∀x,run_ P C K fin s live R L (i+1) (E x)=(T x).map h)
  (ho:L.drop i=L.getD i default::L.drop (i+1):=by kernel_rfl) (hd:(L.getD i default).dst=d:=by kernel_rfl) (hdn:d.all σ.n.ok=true:=by kernel_rfl) (hw:wantedA R σ.slots (L.getD i default)=some true:=by kernel_rfl)
  (he:effOf P C σ.slots σ.objs (d.getD 0) (L.getD i default).type (L.getD i default).op=none:=by kernel_rfl):run_ P C K fin s live R L i σ=(ov.bind T).map h:=by
 have e:opsA P C R (L.drop i) σ=ov.bind fun x=>opsA P C R (L.drop (i+1)) (E x):=by
  rw[ho]
  simp only[opsA,stepA,hd,hdn,if_true,hw,Option.bind_some,he,hmod]
  cases ov<;>rfl
 unfold run_
 rw[e,runs_bind]
 cases ov
 ·rfl
 ·exact hs _
end
theorem ss{α β:Type}(x:α⊕β){Z:α⊕β→AExit×Env}{h:σT→ρ}{T1:α→Option σT}{T2:β→Option σT}(h1:∀a,runs P C K fin s (some (Z (.inl a)))=(T1 a).map h)(h2:∀b,runs P C K fin s (some (Z (.inr b)))=(T2 b).map h):runs P C K fin s (some (Z x))=(Sum.elim T1 T2 x).map h:=by
 cases x
 ·exact h1 _
 ·exact h2 _
theorem lo{S X:Type}(keep:Keep)(al:List (Nat×Nat))(stp:S→Option (S⊕X))(H:S→Env)(HX:X→AExit×Env)(s0:S){h:σT→ρ}{T:X→Option σT}(hst:∀z,runs P C K (finLoop keep al) [] (execA P C K (nr fn (false::p)) (H z))=(stp z).map (Sum.elim (fun z=> .inl (H z)) (fun x=> .inr (HX x))))(hs:∀x,runs P C K fin s (some (HX x))=(T x).map h)
  (hc:nr fn p= .loop (nr fn (false::p)):=by kernel_rfl) (hk:K.keep (firstRegion (nr fn (false::p)))=keep:=by kernel_rfl) (hal:K.al (firstRegion (nr fn (false::p)))=al:=by kernel_rfl) (hn:normB keep al σ=some (H s0):=by kernel_rfl):runs P C K fin s (execA P C K (nr fn p) σ)=((iter stp s0).bind T).map h:=
 step_loop (nr fn (false::p)) keep al stp H HX s0 (by rw[hc]) hk hal hn hst hs
end
end Go.Abs
