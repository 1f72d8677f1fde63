import Derived.Test.YthcgpcmeffkijaaGreatDoorSEv2
import Derived.Test.YthcgpcmeffkijaaGreatDoorSEvL
set_option linter.unusedVariables false
set_option linter.unusedSimpArgs false
namespace Go.Abs
open Go.RowKit
def cvI(k:IntKind)(n:Int):Int:=k.wrap n
def shrI(a:Int)(n:Nat):Int:=a.fdiv (2^n)
def shlI(k:IntKind)(a:Int)(n:Nat):Int:=k.wrap (a*2^n)
def shrO(k:IntKind)(a b:Int):Option Int:=if b<0 then none else some (a.fdiv (2^min b.toNat k.bits))
def shlO(k:IntKind)(a b:Int):Option Int:=if b<0 then none else some (k.wrap (a*2^min b.toNat k.bits))
def bitI(op:BinOp)(k:IntKind)(a b:Int):Int:=match op with
 | .and=>k.wrap (BitVec.ofInt k.bits a &&& BitVec.ofInt k.bits b).toNat
 | .or=>k.wrap (BitVec.ofInt k.bits a ||| BitVec.ofInt k.bits b).toNat
 | .xor=>k.wrap (BitVec.ofInt k.bits a ^^^ BitVec.ofInt k.bits b).toNat
 | _=>k.wrap (BitVec.ofInt k.bits a &&& ~~~BitVec.ofInt k.bits b).toNat
def catO(a b:ByteArray):Option ByteArray:=if((a.size+b.size:Nat):Int)>IntKind.i64.max then none else some (a++b)
def eqB(a b:ByteArray):Bool:=a == b
def cutB(n:Nat)(lo hi:Option Int):Option (Nat×Nat):=
 (match hi with|none=>some n|some h=>if 0≤h∧h≤n then some h.toNat else none).bind fun h=>
 (match lo with|none=>some 0|some l=>if 0≤l∧l≤h then some l.toNat else none).map fun l=>(l,h)
def cutS(s:ByteArray)(lo hi:Option Int):Option ByteArray:=(cutB s.size lo hi).map fun p=>s.extract p.1 p.2
def cutL{α:Type}(l:List α)(lo hi:Option Int):Option (List α):=(cutB l.length lo hi).map fun p=>(l.take p.2).drop p.1
section
variable {P:Program} {C:Callee} {s:Nat→AV} {objs:Nat→Option AObj} {d:Nat} {ty:TypeId} {op:Op}
abbrev EffIs(P:Program)(C:Callee)(s:Nat→AV)(objs:Nat→Option AObj)(d:Nat)(ty:TypeId)(op:Op){α:Type}(ov:Option α)(f:α→AV):Prop:=effOf P C s objs d ty op=(ov.map f).map fun v=>{ val:=v }
theorem byteE(t:TypeId)(k:IntKind)(b:ByteArray)(i:Int)(hop:effOf P C s objs d ty op=(indexA P t (.str b) (.int k i)).map fun v=>{ val:=v }:=by kernel_rfl)(hu:P.underlying t=some .string:=by kernel_rfl) :
 effOf P C s objs d ty op=((byteAt b i).map (fun x=>AV.int .u8 x)).map fun v=>{ val:=v }:=by rw[hop,indexA_byte P t k b hu]
def PO{α:Type}(f:α→AV)(e:Option α):AV:= .pp e.isNone (match e with|none=>[]|some x=>(f x).cells)
theorem addrE(t e n:Nat){α:Type}(f:α→AV)(k:IntKind)(l:List α)(i:Int)(hop:effOf P C s objs d ty op=(addr P objs t (.sl (l.map f)) (.int k i)).map fun v=>{ val:=v }:=by kernel_rfl)
 (he:elemT P t=some e:=by kernel_rfl) (hn:sizeT P e=some n:=by kernel_rfl) (hf:∀x,(f x).cells.length=n:=by intro _;kernel_rfl) :
 effOf P C s objs d ty op=((listAt l i).map (fun x=>AV.ia (f x).cells 0)).map fun v=>{ val:=v }:=by rw[hop,addr_list P objs l he hn hf]
theorem lenE(t:TypeId){α:Type}(f:α→AV)(l:List α)(hop:effOf P C s objs d ty op=(lenT P objs t (.sl (l.map f))).bind fun n=>some ({ val:= .int .i64 ((n:Nat):Int) }:Eff):=by kernel_rfl)(hu:(elemT P t).isSome=true:=by kernel_rfl) :
 effOf P C s objs d ty op=some { val:= .int .i64 (lenL l) }:=len_eff P l hu hop
theorem lenOE(t:TypeId)(e k:Nat){α:Type}(f:α→AV)(l:List α)(hop:effOf P C s objs d ty op=some { val:= .int .i64 (((l.map f).length:Nat):Int) }:=by kernel_rfl) :
 effOf P C s objs d ty op=some { val:= .int .i64 (lenL l) }:=by rw[hop,List.length_map];rfl
theorem sliceBound_run(k:IntKind)(i:Int)(y:Nat)(c:BoundsCode):pureRun P (Instr.sliceBound (.int k i) y c)=if 0≤i∧i≤y then some i.toNat else none:=by
 unfold Instr.sliceBound
 rw[pureRun_bind]
 have:pureRun P (asIntOf (.int k i))=some (k,i):=rfl
 rw[this,Option.bind_some]
 simp only
 split
 ·rfl
 ·exact pureRun_bounds P _ _ _ _
theorem sliceBounds_run(sl:Bool)(n:Nat)(ki kh:IntKind)(lo hi:Option Int):pureRun P (Instr.sliceBounds sl n n (lo.map (Value.int ki)) (hi.map (Value.int kh)) none)=(cutB n lo hi).map fun p=>(p.1,p.2,n):=by
 have e0:∀{α:Type}(x:α),pureRun P (pure x:Sem α)=some x:=fun _=>rfl
 cases hi with
 | none=>
   cases lo with
   | none=>rfl
   | some l=>
     show pureRun P (do let m ←pure n;let h ←pure n;let l ←Instr.sliceBound (.int ki l) h .sliceB;pure (l,h,m):Sem (Nat×Nat×Nat))=_
     simp only[pureRun_bind,e0,Option.bind_some,sliceBound_run,cutB]
     split<;>rfl
 | some h=>
   cases lo with
   | none=>
     show pureRun P (do let m ←pure n;let h ←Instr.sliceBound (.int kh h) m (if sl then .sliceAcap else .sliceAlen);let l ←pure 0;pure (l,h,m):Sem (Nat×Nat×Nat))=_
     simp only[pureRun_bind,e0,Option.bind_some,sliceBound_run,cutB]
     split<;>rfl
   | some l=>
     show pureRun P (do let m ←pure n;let h ←Instr.sliceBound (.int kh h) m (if sl then .sliceAcap else .sliceAlen);let l ←Instr.sliceBound (.int ki l) h .sliceB;pure (l,h,m):Sem (Nat×Nat×Nat))=_
     simp only[pureRun_bind,e0,Option.bind_some,sliceBound_run,cutB]
     split
     ·simp only[Option.bind_some]
      split<;>rfl
     ·rfl
theorem cutS_ok(t:TypeId)(ki kh:IntKind)(b:ByteArray)(lo hi:Option Int)(hu:P.underlying t=some .string) :
  ((pureRun P (Instr.sliceAt t (.string b) (lo.map (Value.int ki)) (hi.map (Value.int kh)) none)).bind ofV)=(cutS b lo hi).map AV.str:=by
 unfold Instr.sliceAt
 rw[pureRun_bind,pureRun_underlying P t hu,Option.bind_some]
 show((pureRun P (Instr.slice t (.string b) (lo.map (Value.int ki)) (hi.map (Value.int kh)) none)).bind ofV)=_
 unfold Instr.slice
 rw[pureRun_bind,pureRun_underlying P t hu,Option.bind_some]
 show((pureRun P (do let x ←Instr.sliceBounds false b.size b.size (lo.map (Value.int ki)) (hi.map (Value.int kh)) none;pure (.string (b.extract x.1 x.2.1)):Sem Value)).bind ofV)=_
 rw[pureRun_bind,sliceBounds_run]
 unfold cutS
 cases cutB b.size lo hi with
 | none=>rfl
 | some p=>rfl
theorem cutSE(t:TypeId)(ki kh:IntKind)(b:ByteArray)(lo hi:Option Int)(hop:effOf P C s objs d ty op=((pureRun P (Instr.sliceAt t (.string b) (lo.map (Value.int ki)) (hi.map (Value.int kh)) none)).bind ofV).map fun v=>{ val:=v }:=by kernel_rfl)(hu:P.underlying t=some .string:=by kernel_rfl) :
 effOf P C s objs d ty op=((cutS b lo hi).map AV.str).map fun v=>{ val:=v }:=by rw[hop,cutS_ok t ki kh b lo hi hu]
def cutA(P:Program)(t:TypeId)(xs:List AV)(lo hi:Option AV):Option AV:=(elemT P t).bind fun e=>(sizeT P e).bind fun k=>(match hi with|none=>some xs.length|some h=>idx h).bind fun h=>(match lo with|none=>some 0|some l=>idx l).bind fun l=>
 if l≤h then if h≤xs.length then if xs.all (elemOk P e k)then some (.sl ((xs.take h).drop l))else none else none else none
end
section
variable {P:Program} {C:Callee} {σ:Env} {op:Op} {y:AV} {α:Type} {l1 l2:List α}
theorem apO(t e k b r:Nat)(f:α→AV)(g:Nat)(frz:List Nat){d:Nat}(hop:modOf P C σ (some d) op=(appendA P σ d t (.own r g) y).map (appE σ d):=by kernel_rfl)
 (ho:σ.objs r=some (.row e k (l1.map f) g false):=by kernel_rfl) (hy:newsA σ.objs y=some (frz,l2.map f):=by kernel_rfl) (he:elemT P t=some e:=by kernel_rfl) (hk:sizeT P e=some k:=by kernel_rfl) (hb:bytesT P e=some b:=by kernel_rfl)
 (hr:rowOk P e k=true:=by kernel_rfl) (hf:∀x,elemOk P e k (f x)=true:=by intro _;kernel_rfl) (hz:frz.all (· != r)=true:=by kernel_rfl) :
 modOf P C σ (some d) op=(appO b l1 l2).map fun l=>appE σ d (r,.row e k (l.map f) (g+1) false,frz,.own r (g+1)):=app_map hop (app_own ho hy he hk hb hr hf hz)
end
def idxO(n:Nat)(i:Int):Option Nat:=if 0≤i then if i.toNat<n then some i.toNat else none else none
def getN{α:Type}(l:List α)(i:Nat):Option α:=l[i]?
section
variable {P:Program} {C:Callee} {s:Nat→AV} {objs:Nat→Option AObj} {d:Nat} {ty:TypeId} {op:Op}
theorem addrOE(t e n r g:Nat)(fz:Bool){α:Type}(f:α→AV)(k:IntKind)(l:List α)(i:Int)(hop:effOf P C s objs d ty op=(addr P objs t (.own r g) (.int k i)).map fun v=>{ val:=v }:=by kernel_rfl)
  (ho:objs r=some (.row e n (l.map f) g fz):=by kernel_rfl) (he:elemT P t=some e:=by kernel_rfl) (hn:sizeT P e=some n:=by kernel_rfl) :
  effOf P C s objs d ty op=((idxO l.length i).map (fun j=>AV.oa r g j 0)).map fun v=>{ val:=v }:=by
 rw[hop]
 congr 1
 unfold addr idxO
 rw[he,Option.bind_some,hn,Option.bind_some]
 simp only[idx]
 by_cases h0:0≤i
 ·simp only[h0,if_true,Option.bind_some,ho,List.length_map]
  split<;>rfl
 ·simp[h0]
theorem loadOE(t r g j off e n k:Nat)(ag fz:Bool){α:Type}(f gf:α→AV)(l:List α)(hop:effOf P C s objs d ty op=(loadA P objs t (.oa r g j off)).map fun v=>{ val:=v }:=by kernel_rfl)
  (ho:objs r=some (.row e n (l.map f) g fz):=by kernel_rfl) (ha:isAggT P t=some ag:=by kernel_rfl) (hk:sizeT P t=some k:=by kernel_rfl) (hg:∀x,takeAs ag k (f x).cells off=some (gf x):=by intro _;kernel_rfl) :
  effOf P C s objs d ty op=((getN l j).map gf).map fun v=>{ val:=v }:=by
 rw[hop]
 congr 1
 unfold loadA getN
 rw[ha,Option.bind_some,hk,Option.bind_some]
 simp only[behind,ho,if_true,List.getElem?_map]
 cases l[j]? with
 | none=>rfl
 | some x=>simp[hg]
end
theorem stO{P:Program}{C:Callee}{σ:Env}{op:Op}{dst:Option Nat}(e k r g j off:Nat){α:Type}(f:α→AV)(l:List α)(frz:List Nat)(vs:List AV)(x:AV)(u:α→α)(t:TypeId)(a b:Operand)(n:Nat)
  (hop:op= .store t a b:=by kernel_rfl) (hn:sizeT P t=some n:=by kernel_rfl) (hx:evA σ.slots b=x:=by kernel_rfl) (ha:evA σ.slots a= .oa r g j off:=by kernel_rfl) (hl:decide (x.cells.length=n)=true:=by kernel_rfl)
  (hc:(cellsNow σ.objs x&&x.cells.all (cellNow σ.objs))=true:=by kernel_rfl) (ho:σ.objs r=some (.row e k (l.map f) g false):=by kernel_rfl)
  (hv:mapO (expt (fun _=>false) σ.objs DEPTH) x.cells=some vs:=by kernel_rfl) (hr:x.cells.flatMap (refsOf σ.objs DEPTH)=frz:=by kernel_rfl) (hz:(vs.all cellOK&&frz.all (· != r))=true:=by kernel_rfl)
  (hu:∀y,(putAt (f y).cells off vs).map (shaped (f y))=some (f (u y)):=by intro _;kernel_rfl) :
  modOf P C σ dst op=(getN l j).map fun y=>(σ.turn r (.row e k ((l.set j (u y)).map f) g false) frz).put dst .und:=by
 subst hop
 have hl':x.cells.length=n:=by simpa using hl
 simp only[modOf,hn,Option.bind_some,hx,ha,hl',if_true,storeA,hc,ho,List.getElem?_map,getN,hv,hr]
 cases hj:l[j]? with
 | none=>rfl
 | some y=>
   have h1:=hu y
   simp only[Option.map_some,Option.bind_some,hz,if_true]
   cases hp:putAt (f y).cells off vs with
   | none=>rw[hp]at h1;cases h1
   | some cs=>
     rw[hp]at h1
     simp only[Option.map_some,Option.some.injEq]at h1
     simp only[Option.map_some,h1,List.map_set]
def cutN{α:Type}(l:List α)(h:Int):Option (List α):=if 0≤h then if h.toNat≤l.length then some (l.take h.toNat)else none else none
def vwN(n:Nat)(l:Int):Option Nat:=if 0≤l then if l.toNat≤n then some l.toNat else none else none
def clrN{α:Type}(l:List α)(i:Nat)(z:α):Option (List α):=if i≤l.length then some (l.take i++List.replicate (l.length-i) z)else none
section
variable {P:Program} {C:Callee} {σ:Env} {op:Op} {dst:Option Nat} {α:Type}
theorem ipR(f e k r g:Nat){β:Type}(fe:β→AV)(l:List β)(rest as:List AV)(frz:List Nat){ov:Option α}(V:α→AV)(N:α→List β)(hC:C f (.fr e k (l.map fe)::as)=ov.map fun x=> .inp (V x) (.fr e k ((N x).map fe)))
  (hop:modOf P C σ dst op=(inplA C σ f (.own r g::rest)).map fun(r,o,frz,v)=>(σ.turn r o frz).put dst v:=by kernel_rfl)
  (ho:σ.objs r=some (.row e k (l.map fe) g false):=by kernel_rfl) (hn:(rest.flatMap (refsOf σ.objs DEPTH)).all (· != r)=true:=by kernel_rfl) (ha:mapO (expt (fun _=>false) σ.objs DEPTH) rest=some as:=by kernel_rfl) (hf:rest.flatMap (refsOf σ.objs DEPTH)=frz:=by kernel_rfl) :
  modOf P C σ dst op=ov.map fun x=>(σ.turn r (.row e k ((N x).map fe) g false) frz).put dst (V x):=by
 rw[hop]
 unfold inplA
 simp only[ho]
 rw[if_pos ⟨trivial,hn⟩,ha,Option.bind_some,hC,hf]
 cases ov with
 | none=>rfl
 | some x=>simp[gotI]
def mkZ{α:Type}(b:Nat)(z:α)(n m:Int):Option (List α):=if 0≤n∧n≤m∧(b:Int)*m≤281474976710656∧m≤9223372036854775807 then some (List.replicate n.toNat z)else none
end
end Go.Abs
