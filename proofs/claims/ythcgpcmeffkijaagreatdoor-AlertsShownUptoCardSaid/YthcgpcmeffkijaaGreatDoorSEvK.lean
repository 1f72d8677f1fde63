import Derived.Test.YthcgpcmeffkijaaGreatDoorSAbsZD
import Derived.Test.YthcgpcmeffkijaaGreatDoorSEvA
set_option linter.unusedVariables false
set_option linter.unusedSimpArgs false
namespace Go.Abs
open Go.RowKit
def mkE(l:List (Nat×AV))(os:List (Nat×AObj))(n:Lim):Env:={ slots:=mkS l,objs:=mkO os,n:=n }
inductive KI where
 | seq (c:Code)
 | fg (key:Nat)
 | blk (id:Nat)
abbrev Res:=Option (AExit×Env)
noncomputable def execS(P:Program)(C:Callee)(K:FCfg):List KI→Res→Res
 | [],r=>r
 | .seq c::s,r=>execS P C K s (match r with
   | some (.normal,τ)=>execA P C K c τ
   | r=>r)
 | .fg k::s,r=>execS P C K s (match r with
   | some (.normal,τ)=>(forget (K.lin k) τ).map fun τ=>(.normal,τ)
   | r=>r)
 | .blk id::s,r=>execS P C K s (match r with
   | some (.exit i,τ)=>if i=id then some (.normal,τ)else some (.exit i,τ)
   | r=>r)
noncomputable def runs{ρ:Type}(P:Program)(C:Callee)(K:FCfg)(fin:AExit×Env→Option ρ)(s:List KI)(r:Res):Option ρ:=(execS P C K s r).bind fin
def finLoop(keep:Keep)(al:List (Nat×Nat)):AExit×Env→Option (Env⊕(AExit×Env))
 | (.normal,τ)=>(normB keep al τ).map .inl
 | r=>some (.inr r)
def finNode:AExit×Env→Option (AExit×Env):=some
def finFnI(P:Program)(fn:Func):AExit×Env→Option AV
 | (.normal,τ)=>resultsI P fn τ
 | (.ret,τ)=>resultsI P fn τ
 | _=>none
def finFn(P:Program)(bv:Bool)(fn:Func):AExit×Env→Option AV
 | (.normal,τ)=>resultsA P bv fn τ
 | (.ret,τ)=>resultsA P bv fn τ
 | _=>none
section
variable {ρ σT:Type} {P:Program} {C:Callee} {K:FCfg} {fin:AExit×Env→Option ρ} {s:List KI}
theorem execS_none:∀s:List KI,execS P C K s none=none
 | []=>rfl
 | .seq c::s=>execS_none s
 | .fg k::s=>execS_none s
 | .blk id::s=>execS_none s
theorem runs_none:runs P C K fin s none=none:=by rw[runs,execS_none];rfl
theorem runs_seq(a b:Code)(σ:Env):runs P C K fin s (execA P C K (.seq a b) σ)=runs P C K fin (.fg (firstRegion b) :: .seq b::s) (execA P C K a σ):=by
 show(execS P C K s _).bind fin=(execS P C K s _).bind fin
 congr 2
 simp only[execA]
 cases execA P C K a σ with
 | none=>rfl
 | some r=>
   obtain⟨x,τ⟩:=r
   cases x with
   | normal=>
     simp only
     cases forget (K.lin (firstRegion b)) τ<;>rfl
   | _=>rfl
abbrev ops_(live:Option (List Nat×List Nat))(o:Option Env):Res:=o.bind fun τ=>(forget live τ).map fun τ=>(AExit.normal,τ)
theorem runs_bind{α:Type}(live:Option (List Nat×List Nat))(o:Option α)(k:α→Option Env):runs P C K fin s (ops_ live (o.bind k))=o.bind fun x=>runs P C K fin s (ops_ live (k x)):=by
 cases o
 ·exact runs_none
 ·rfl
end
end Go.Abs
namespace Go.Abs
section
variable {P:Program} {cfg:Cfg}
theorem callA_body{f:Nat}{fn:Func}{c:Code}(m:Nat)(args:List AV)(hl:cfg.leaf f=none)(hf:P.funcs[f]? = some fn)(hb:fn.body=some c)(hi:inplB P f=false:=by kernel_rfl)(hq:quietB P f=false:=by kernel_rfl) :
  callA P cfg (m+1) f args=runs P (callA P cfg m) (cfg.fn f) (finFn P (cfg.fn f).byval fn) [] (execA P (callA P cfg m) (cfg.fn f) c (frame0 args fn.ntmps false)):=by
 simp only[callA,hl,hf,bodyA,hb,runs,execS,hi,hq,guard_no,Bool.false_and]
 cases execA P (callA P cfg m) (cfg.fn f) c (frame0 args fn.ntmps false)with
 | none=>rfl
 | some r=>
   obtain⟨x,τ⟩:=r
   cases x<;>simp only[resA,hi]<;>rfl
theorem callA_bodyQ{f:Nat}{fn:Func}{c:Code}(m:Nat)(args:List AV)(hl:cfg.leaf f=none)(hf:P.funcs[f]? = some fn)(hb:fn.body=some c)(hi:inplB P f=false:=by kernel_rfl)(hq:quietB P f=true:=by kernel_rfl) :
  callA P cfg (m+1) f args=runs P (guardC P true (callA P cfg m)) (cfg.fn f) (finFn P (cfg.fn f).byval fn) [] (execA P (guardC P true (callA P cfg m)) (cfg.fn f) c (frame0 args fn.ntmps false)):=by
 simp only[callA,hl,hf,bodyA,hb,runs,execS,hi,hq,Bool.false_and]
 cases execA P (guardC P true (callA P cfg m)) (cfg.fn f) c (frame0 args fn.ntmps false)with
 | none=>rfl
 | some r=>
   obtain⟨x,τ⟩:=r
   cases x<;>simp only[resA,hi]<;>rfl
end
def findOps(id:Nat):Code→Option (Array Oper)
 | .region i ops _=>if i=id then some ops else none
 | .seq a b=>match findOps id a with
   | some r=>some r
   | none=>findOps id b
 | .block _ b=>findOps id b
 | .loop b=>findOps id b
 | .cond _ a b=>match findOps id a with
   | some r=>some r
   | none=>findOps id b
 | _=>none
def nd:Code→List Bool→Code
 | .seq a _,false::p=>nd a p
 | .seq _ b,true::p=>nd b p
 | .block _ b,false::p=>nd b p
 | .loop b,false::p=>nd b p
 | .cond _ a _,false::p=>nd a p
 | .cond _ _ b,true::p=>nd b p
 | c,_=>c
def body_(fn:Func):Code:=match fn.body with
 | some c=>c
 | none=> .skip
def rg(fn:Func)(id:Nat):Array Oper:=match findOps id (body_ fn)with
 | some r=>r
 | none=>#[]
def leI(a b:Int):Bool:=decide (a≤b)
def ltI(a b:Int):Bool:=decide (a<b)
def eqI(a b:Int):Bool:=a == b
def neI(a b:Int):Bool:=a != b
def eqS(a b:ByteArray):Bool:=a.toList == b.toList
def ltS(a b:ByteArray):Bool:=Op.bytesLess a.toList b.toList
def addI(k:IntKind)(a b:Int):Int:=k.wrap (a+b)
def subI(k:IntKind)(a b:Int):Int:=k.wrap (a-b)
def mulI(k:IntKind)(a b:Int):Int:=k.wrap (a*b)
def quoI(k:IntKind)(a b:Int):Int:=k.wrap (a.tdiv b)
def remI(k:IntKind)(a b:Int):Int:=a.tmod b
def lenS(s:ByteArray):Int:=(s.size:Nat)
def lenL{α:Type}(l:List α):Int:=(l.length:Nat)
def byteAt(s:ByteArray)(i:Int):Option Int:=if h:0≤i∧i.toNat<s.size then some ((s[i.toNat]'h.2).toNat:Int)else none
def listAt{α:Type}(l:List α)(i:Int):Option α:=if 0≤i then l[i.toNat]? else none
def op_(fn:Func)(id i:Nat):Oper:=(rg fn id).toList.getD i default
section
variable {ρ σT:Type} {P:Program} {C:Callee} {K:FCfg} {fin:AExit×Env→Option ρ} {s:List KI}
def callR(d:Nat)(fr:List Nat)(r:AV):Eff:={ val:=(recv (8*d) r).1,news:=(recv (8*d) r).2,frz:=if scalarR r then []else fr }
theorem iter_map{E R S X:Type}(st:E→Option (E⊕R))(stp:S→Option (S⊕X))(H:S→E)(HX:X→R)(hst:∀z,st (H z)=(stp z).map (Sum.elim (fun z=> .inl (H z)) (fun x=> .inr (HX x))))(s0:S):iter st (H s0)=(iter stp s0).map HX:=by
 have hiter:∀(n:Nat)(z:S),iterN st n (H z)=(iterN stp n z).map HX:=by
  intro n
  induction n with
  | zero=>intro z;rfl
  | succ n ih=>
    intro z
    simp only[iterN,hst z]
    cases hz:stp z with
    | none=>rfl
    | some r=>
      cases r with
      | inl z'=>simp only[Option.map_some,Sum.elim_inl];exact ih z'
      | inr x=>rfl
 apply Option.ext
 intro r
 constructor
 ·intro hr
  obtain⟨n,hn⟩:=iter_some.1 hr
  rw[hiter]at hn
  obtain⟨x,hx,hxr⟩:=Option.map_eq_some_iff.1 hn
  rw[iter_some.2 ⟨n,hx⟩]
  simp[hxr]
 ·intro hr
  obtain⟨x,hx,hxr⟩:=Option.map_eq_some_iff.1 hr
  obtain⟨n,hn⟩:=iter_some.1 hx
  exact iter_some.2 ⟨n,by rw[hiter,hn];simp[hxr]⟩
theorem step_loop{A:Option ρ}{S X:Type}{σ:Env}{h:σT→ρ}{T:X→Option σT}(b:Code)(keep:Keep)(al:List (Nat×Nat))(stp:S→Option (S⊕X))(H:S→Env)(HX:X→AExit×Env)(s0:S)(hA:A=runs P C K fin s (execA P C K (.loop b) σ))(hk:K.keep (firstRegion b)=keep)(hal:K.al (firstRegion b)=al)
  (hn:normB keep al σ=some (H s0)) (hst:∀z,runs P C K (finLoop keep al) [] (execA P C K b (H z))=(stp z).map (Sum.elim (fun z=> .inl (H z)) (fun x=> .inr (HX x)))) (hs:∀x,runs P C K fin s (some (HX x))=(T x).map h):A=((iter stp s0).bind T).map h:=by
 have key:execA P C K (.loop b) σ=(iter stp s0).map HX:=by
  simp only[execA,hk,hal,hn,Option.bind_some]
  have hstep:∀z,(match execA P C K b (H z)with
   | some (.normal,τ)=>(normB keep al τ).map Sum.inl
   | some r=>some (.inr r)
   | none=>none)=(stp z).map (Sum.elim (fun z=>Sum.inl (H z)) (fun x=>Sum.inr (HX x))):=by
   intro z
   rw[← hst z]
   simp only[runs,execS]
   cases execA P C K b (H z)with
   | none=>rfl
   | some r=>
     obtain⟨x,τ⟩:=r
     cases x<;>rfl
  exact iter_map _ stp H HX (fun z=>hstep z) s0
 rw[hA,key]
 cases iter stp s0 with
 | none=>exact runs_none
 | some x=>exact hs x
end
section
variable (P:Program)
theorem pureRun_bounds{α:Type}(k:IntKind)(x y:Int)(c:BoundsCode):pureRun P (boundsPanic k x y c:Sem α)=none:=by
 have hp:∀signed,pureRun P (runtimePanic (RuntimeError.bounds (IntKind.i64.wrap x) y signed c):Sem α)=none:=fun _=>rfl
 unfold boundsPanic
 simp only
 split
 ·rw[pureRun_bind]
  cases pureRun P ((fun x=>x == 1) <$> choose (Question.extern "runtime.boundsError.signed" 2))with
  | none=>rfl
  | some b=>exact hp b
 ·rw[pureRun_bind]
  exact hp (k != IntKind.u64)
theorem indexA_byte(t:TypeId)(k:IntKind)(s:ByteArray)(hu:P.underlying t=some .string){i:Int}:indexA P t (.str s) (.int k i)=(byteAt s i).map fun x=>AV.int .u8 x:=by
 unfold byteAt
 by_cases h:0≤i∧i.toNat<s.size
 ·rw[dif_pos h,indexA_str P t k s hu h.1 h.2]
  rfl
 ·rw[dif_neg h]
  show((pureRun P (Instr.index t (.string s) (.int k i))).bind ofV)=_
  unfold Instr.index
  rw[pureRun_bind]
  have:pureRun P (asIntOf (.int k i))=some (k,i):=rfl
  rw[this,Option.bind_some]
  simp only
  rw[pureRun_bind,pureRun_underlying P t hu,Option.bind_some]
  have hno:(if 0≤i then s[i.toNat]? else none)=none:=by
   by_cases h0:0≤i
   ·rw[if_pos h0]
    have:¬i.toNat<s.size:=fun hh=>h ⟨h0,hh⟩
    simp[this]
   ·rw[if_neg h0]
  simp only[hno]
  rw[pureRun_bounds]
  rfl
theorem addr_list(objs:Nat→Option AObj){α:Type}(l:List α){t e n:Nat}{f:α→AV}{k:IntKind}{i:Int}(he:elemT P t=some e)(hn:sizeT P e=some n)(hf:∀x,(f x).cells.length=n) :
  addr P objs t (.sl (l.map f)) (.int k i)=(listAt l i).map fun x=>AV.ia (AV.cells (f x)) 0:=by
 unfold addr listAt
 rw[he,Option.bind_some,hn,Option.bind_some]
 simp only[idx]
 by_cases h0:0≤i
 ·simp only[h0,if_true,Option.bind_some,List.getElem?_map]
  cases l[i.toNat]? with
  | none=>rfl
  | some x=>simp[hf]
 ·simp[h0]
theorem lenT_list'(objs:Nat→Option AObj){α:Type}(l:List α){t:TypeId}{f:α→AV}(hu:(elemT P t).isSome=true):lenT P objs t (.sl (l.map f))=some l.length:=by
 unfold lenT
 unfold elemT at hu
 cases h:P.underlying t with
 | none=>rw[h]at hu;cases hu
 | some d=>
   rw[h]at hu
   cases d<;>simp at hu ⊢
theorem len_eff{e0:Option Eff}{objs:Nat→Option AObj}{α:Type}(l:List α){t:TypeId}{f:α→AV}(hu:(elemT P t).isSome=true)(he:e0=(lenT P objs t (.sl (l.map f))).bind fun n=>some ({ val:= .int .i64 ((n:Nat):Int) }:Eff)):e0=some { val:= .int .i64 (lenL l) }:=by
 rw[he,lenT_list' P objs l hu]
 rfl
end
end Go.Abs
namespace Go.Abs
section
variable {ρ σT:Type} {P:Program} {C:Callee} {K:FCfg} {fin:AExit×Env→Option ρ} {s:List KI} {σ:Env} {X:Option ρ}
theorem go_region{c:Code}(id:Nat)(R:Array Oper)(hc:c= .region id R false)(h:runs P C K fin s (ops_ (K.live id) (opsA P C R (R.toList.drop 0) σ))=X):runs P C K fin s (execA P C K c σ)=X:=by
 subst hc
 exact h
theorem go_block{c:Code}(id:Nat)(b:Code)(hc:c= .block id b)(h:runs P C K fin (.blk id::s) (execA P C K b σ)=X):runs P C K fin s (execA P C K c σ)=X:=by
 subst hc
 exact h
theorem go_skip{c:Code}(hc:c= .skip)(h:runs P C K fin s (some (.normal,σ))=X):runs P C K fin s (execA P C K c σ)=X:=by
 subst hc
 exact h
theorem go_exit{c:Code}(id:Nat)(hc:c= .exit id)(h:runs P C K fin s (some (.exit id,σ))=X):runs P C K fin s (execA P C K c σ)=X:=by
 subst hc
 exact h
theorem go_ret{c:Code}(hc:c= .ret)(h:runs P C K fin s (some (.ret,σ))=X):runs P C K fin s (execA P C K c σ)=X:=by
 subst hc
 exact h
theorem go_true{c:Code}(v:Operand)(a b:Code)(hc:c= .cond v a b)(hv:evA σ.slots v= .bool true)(h:runs P C K fin s (execA P C K a σ)=X):runs P C K fin s (execA P C K c σ)=X:=by
 subst hc
 simp only[execA,hv]
 exact h
theorem go_false{c:Code}(v:Operand)(a b:Code)(hc:c= .cond v a b)(hv:evA σ.slots v= .bool false)(h:runs P C K fin s (execA P C K b σ)=X):runs P C K fin s (execA P C K c σ)=X:=by
 subst hc
 simp only[execA,hv]
 exact h
theorem pop_here{id:Nat}(h:runs P C K fin s (some (.normal,σ))=X):runs P C K fin (.blk id::s) (some (.exit id,σ))=X:=by
 simp only[runs,execS,if_true]
 exact h
theorem pop_leaf{x:AExit}{y:ρ}(h1:execS P C K s (some (x,σ))=some (x,σ))(h2:fin (x,σ)=some y):runs P C K fin s (some (x,σ))=some y:=by
 rw[runs,h1]
 exact h2
end
end Go.Abs
namespace Go.Abs
end Go.Abs
namespace Go.Abs
def minI(a b:Int):Int:=if b<a then b else a
def maxI(a b:Int):Int:=if b>a then b else a
def quoO(k:IntKind)(a b:Int):Option Int:=if b=0 then none else some (k.wrap (a.tdiv b))
def remO(k:IntKind)(a b:Int):Option Int:=if b=0 then none else some (a.tmod b)
end Go.Abs
