import Derived.WalkKit
import Derived.LoopN
import Derived.Laws.AppendOwn
import Derived.OrdersHeld
import Derived.Below
import Derived.MapKept
import Derived.ChangeKeysEq
set_option linter.unusedVariables false
set_option linter.unusedSimpArgs false
namespace Go.Abs
open Go.RowKit
def pureRun{α:Type}(P:Program):Sem α→Option α
 | .pure a=>some a
 | .program k=>pureRun P (k P)
 | .mark _ k=>pureRun P k
 | _=>none
theorem pureRun_sound{α:Type}{P:Program}{s:Sem α}{a:α}(h:pureRun P s=some a)(w:World):s.run P w= .ok a w:=by
 induction s with
 | pure b=>simp only[pureRun,Option.some.injEq]at h;subst h;rfl
 | program k ih=>exact ih P h
 | mark m k ih=>exact ih h
 | _=>simp[pureRun]at h
inductive AV where
 | undef
 | und
 | int (k:IntKind) (n:Int)
 | bool (b:Bool)
 | str (s:ByteArray)
 | agg (cs:List AV)
 | sl (xs:List AV)
 | nils
 | pp (nl:Bool) (cs:List AV)
 | fn (f:Nat) (caps:List AV)
 | tup (vs:List AV)
 | ia (cs:List AV) (off:Nat)
 | bp (cs:List AV)
 | own (r g:Nat)
 | oa (r g i off:Nat)
 | vw (r g i:Nat)
 | ba (b off:Nat)
 | mr (id:Nat)
 | mv (ks vs:List AV)
 | fr (e k:Nat) (xs:List AV)
 | fb (cs:List AV)
 | inp (r fin:AV)
 deriving Inhabited
def isFr:AV→Bool
 | .fr _ _ _=>true
 | .fb _=>true
 | _=>false
def headFr:List AV→Bool
 | x::_=>isFr x
 | []=>false
def AV.cells:AV→List AV
 | .agg cs=>cs
 | v=>[v]
inductive AObj where
 | row (e k:Nat) (xs:List AV) (g:Nat) (fz:Bool)
 | box (cs:List AV) (fz:Bool)
 | mp (ks vs:List AV) (fz:Bool)
 deriving Inhabited
structure Lim where
 n:Nat
 z:Bool
instance (k:Nat):OfNat Lim k:=⟨⟨k,false⟩⟩
def Lim.ok(l:Lim)(d:Nat):Bool:=decide (d<l.n) && !(l.z&&d == 0)
structure Env where
 slots:Nat→AV
 objs:Nat→Option AObj
 n:Lim
def upd{α:Type}(s:Nat→α)(i:Nat)(v:α):Nat→α:=fun j=>if j=i then v else s j
def Env.put(σ:Env)(dst:Option Nat)(v:AV):Env:=
 match dst with
 | some d=>{ σ with slots:=upd σ.slots d v }
 | none=>σ
def Env.obj(σ:Env)(i:Nat)(o:AObj):Env:={ σ with objs:=upd σ.objs i (some o) }
def Env.objsL(σ:Env):List (Nat×AObj)→Env
 | []=>σ
 | (i,o)::l=>(σ.obj i o).objsL l
mutual
def toV:AV→Option Value
 | .int k n=>some (.int k n)
 | .bool b=>some (.bool b)
 | .str s=>some (.string s)
 | .agg cs=>(toVs cs).map fun vs=> .agg vs.toArray
 | _=>none
def toVs:List AV→Option (List Value)
 | []=>some []
 | x::xs=>(toV x).bind fun v=>(toVs xs).map fun vs=>v::vs
end
def cellV:Value→Option AV
 | .int k n=>some (.int k n)
 | .bool b=>some (.bool b)
 | .string s=>some (.str s)
 | .slice none 0 0=>some .nils
 | .map none=>some .undef
 | .pointer none=>some (.pp true [])
 | _=>none
def mapO{α β:Type}(f:α→Option β):List α→Option (List β)
 | []=>some []
 | x::xs=>(f x).bind fun v=>(mapO f xs).map fun vs=>v::vs
def ofV:Value→Option AV
 | .agg cs=>(mapO cellV cs.toList).map .agg
 | .func (.func f) fi ca=>if fi.size=0∧ca.size=0 then some (.fn f [])else none
 | v=>cellV v
def evA(s:Nat→AV):Operand→AV
 | .tmp t=>s t
 | .const v=>(ofV v).getD .undef
 | .func f=> .fn f []
 | .global _=> .undef
def ppC:AV→AV
 | .ia cs 0=> .pp false cs
 | x=>x
def expt(no:Nat→Bool)(objs:Nat→Option AObj):Nat→AV→Option AV
 | 0,_=>none
 | _+1,.int k m=>some (.int k m)
 | _+1,.bool b=>some (.bool b)
 | _+1,.str s=>some (.str s)
 | n+1,.agg cs=>(mapO (expt no objs n) cs).map fun ys=> .agg (ys.map ppC)
 | _+1,.sl xs=>some (.sl xs)
 | _+1,.nils=>some (.sl [])
 | _+1,.pp nl cs=>some (.pp nl cs)
 | n+1,.fn f caps=>(mapO (expt no objs n) caps).map (.fn f)
 | _+1,.ia cs off=>some (.ia cs off)
 | _+1,.bp cs=>some (.bp cs)
 | _+1,.own r g=>match no r,objs r with
   | false,some (.row _ _ xs g' _)=>if g'=g then some (.sl xs)else none
   | _,_=>none
 | _+1,.oa r g i off=>match no r,objs r with
   | false,some (.row _ _ xs g' _)=>if g'=g then(xs[i]?).map fun x=> .ia x.cells off else none
   | _,_=>none
 | n+1,.ba b off=>match no b,objs b with
   | false,some (.box cs _)=>(mapO (expt no objs n) cs).map fun cs=> .ia cs off
   | _,_=>none
 | _+1,.mr r=>match no r,objs r with
   | false,some (.mp ks vs _)=>some (.mv ks vs)
   | _,_=>none
 | _+1,.mv ks vs=>some (.mv ks vs)
 | _+1,_=>none
def DEPTH:Nat:=6
def refsOf(objs:Nat→Option AObj):Nat→AV→List Nat
 | 0,_=>[]
 | n+1,.agg cs=>cs.flatMap (refsOf objs n)
 | n+1,.fn _ caps=>caps.flatMap (refsOf objs n)
 | n+1,.tup vs=>vs.flatMap (refsOf objs n)
 | _+1,.own r _=>[r]
 | _+1,.oa r _ _ _=>[r]
 | n+1,.ba b _=>match objs b with
   | some (.box cs _)=>b::cs.flatMap (refsOf objs n)
   | _=>[b]
 | _+1,.mr r=>[r]
 | _+1,_=>[]
def freeze(objs:Nat→Option AObj):List Nat→(Nat→Option AObj)
 | []=>objs
 | r::rs=>match objs r with
   | some (.row e k xs g _)=>freeze (upd objs r (some (.row e k xs g true))) rs
   | some (.box cs _)=>freeze (upd objs r (some (.box cs true))) rs
   | some (.mp ks vs _)=>freeze (upd objs r (some (.mp ks vs true))) rs
   | _=>freeze objs rs
def idx(v:AV):Option Nat:=match v with
 | .int _ i=>if 0≤i then some i.toNat else none
 | _=>none
def lenOf(objs:Nat→Option AObj):AV→Option Nat
 | .sl xs=>some xs.length
 | .nils=>some 0
 | .str s=>some s.size
 | .own r g=>match objs r with
   | some (.row _ _ xs g' _)=>if g'=g then some xs.length else none
   | _=>none
 | _=>none
def lenT(P:Program)(objs:Nat→Option AObj)(t:TypeId)(v:AV):Option Nat:=match P.underlying t,v with
 | some .string,.str s=>some s.size
 | some (.slice _),.sl xs=>some xs.length
 | some (.slice _),.nils=>some 0
 | some (.slice _),.own r g=>lenOf objs (.own r g)
 | some (.map _ _),.mr b=>match objs b with
   | some (.mp ks _ _)=>some ks.length
   | _=>none
 | some (.map _ _),.mv ks _=>some ks.length
 | _,_=>none
def behind(objs:Nat→Option AObj):AV→Option (List AV×Nat)
 | .ia cs off=>some (cs,off)
 | .ba b off=>match objs b with
   | some (.box cs _)=>some (cs,off)
   | _=>none
 | .oa r g i off=>match objs r with
   | some (.row _ _ xs g' _)=>if g'=g then(xs[i]?).map fun x=>(x.cells,off)else none
   | _=>none
 | _=>none
def isAggT(P:Program)(t:TypeId):Option Bool:=(P.underlying t).map fun
 | .struct _ | .array _ _=>true
 | _=>false
def sizeT(P:Program)(t:TypeId):Option Nat:=(P.info? t).map (·.size)
def takeAs(ag:Bool)(k:Nat)(cs:List AV)(off:Nat):Option AV:=
 if ag then(if off+k≤cs.length then some (.agg ((cs.drop off).take k))else none)else cs[off]?
def putAt(cs:List AV)(off:Nat)(vs:List AV):Option (List AV):=
 if off+vs.length≤cs.length then some (cs.take off++vs++cs.drop (off+vs.length))else none
def shaped(x:AV)(cs:List AV):AV:=match x with
 | .agg _=> .agg cs
 | v=>cs.headD v
def elemT(P:Program)(t:TypeId):Option TypeId:=match P.underlying t with
 | some (.slice e)=>some e
 | _=>none
def addr(P:Program)(objs:Nat→Option AObj)(t:TypeId)(x i:AV):Option AV:=
 (elemT P t).bind fun e=>(sizeT P e).bind fun k=>(idx i).bind fun j=>match x with
 | .sl xs=>(xs[j]?).bind fun y=>if y.cells.length=k then some (.ia y.cells 0)else none
 | .own r g=>match objs r with
   | some (.row _ k' xs g' _)=>if g'=g then(if j<xs.length then(if k'=k then some (.oa r g j 0)else none)else none)else none
   | _=>none
 | _=>none
def plus(objs:Nat→Option AObj)(v:AV)(n:Nat):Option AV:=match v with
 | .ia cs off=>some (.ia cs (off+n))
 | .oa r g i off=>match objs r with
   | some (.row _ _ _ g' _)=>if g'=g then some (.oa r g i (off+n))else none
   | _=>none
 | .ba b off=>some (.ba b (off+n))
 | _=>none
def faddr(P:Program)(objs:Nat→Option AObj)(s:TypeId)(f:Nat)(x:AV):Option AV:=match P.underlying s with
 | some (.struct fs)=>(fs[f]?).bind fun fd=>(sizeT P fd.type).bind fun k=>if k=0 then none else plus objs x fd.offset
 | _=>none
def fieldV(P:Program)(s:TypeId)(f:Nat)(x:AV):Option AV:=match P.underlying s with
 | some (.struct fs)=>(fs[f]?).bind fun fd=>(isAggT P fd.type).bind fun ag=>(sizeT P fd.type).bind fun k=>match x with
   | .agg cs=>takeAs ag k cs fd.offset
   | _=>none
 | _=>none
def loadA(P:Program)(objs:Nat→Option AObj)(t:TypeId)(x:AV):Option AV:=
 (isAggT P t).bind fun ag=>(sizeT P t).bind fun k=>(behind objs x).bind fun(cs,off)=>takeAs ag k cs off
def pure2(P:Program)(f:Value→Value→Sem Value)(x y:AV):Option AV:=
 (toV x).bind fun a=>(toV y).bind fun b=>(pureRun P (f a b)).bind ofV
def pure1(P:Program)(f:Value→Sem Value)(x:AV):Option AV:=
 (toV x).bind fun a=>(pureRun P (f a)).bind ofV
def binA(P:Program)(op:BinOp)(t:TypeId)(x y:Operand)(u v:AV):Option AV:=pure2 P (fun a b=>do eqGuard op t x y a b;binOp op t a b) u v
def unA(P:Program)(op:UnOp)(u:AV):Option AV:=pure1 P (Op.unary op) u
def convA(P:Program)(a b:TypeId)(u:AV):Option AV:=pure1 P (convert a b) u
def indexA(P:Program)(t:TypeId)(u v:AV):Option AV:=pure2 P (Instr.index t) u v
def arrA(P:Program)(t:TypeId)(cs:List AV)(v:AV):Option AV:=match P.underlying t with
 | some (.array len e)=>(isAggT P e).bind fun ag=>(sizeT P e).bind fun k=>(idx v).bind fun j=>if j<len then takeAs ag k cs (j*k)else none
 | _=>none
def pickA(c a b:AV):Option AV:=match c with
 | .bool t=>match a,b with
   | .bool p,.bool q=>some (.bool (if t then p else q))
   | _,_=>if t then some a else some b
 | _=>none
def recv1(id:Nat):AV→AV×List (Nat×AObj)
 | .fr e k xs=>(.own id 0,[(id,.row e k xs 0 false)])
 | .fb cs=>(.ba id 0,[(id,.box cs false)])
 | v=>(v,[])
def recvL(id:Nat):List AV→List AV×List (Nat×AObj)
 | []=>([],[])
 | v::vs=>((recv1 id v).1::(recvL (id+1) vs).1,(recv1 id v).2++(recvL (id+1) vs).2)
def recv(id:Nat):AV→AV×List (Nat×AObj)
 | .tup vs=>(.tup (recvL id vs).1,(recvL id vs).2)
 | v=>recv1 id v
structure Eff where
 val:AV
 news:List (Nat×AObj):=[]
 frz:List Nat:=[]
def scalarR:AV→Bool
 | .int _ _ | .bool _ | .str _=>true
 | .tup vs=>vs.all fun
   | .int _ _ | .bool _ | .str _=>true
   | _=>false
 | _=>false
abbrev Callee:=Nat→List AV→Option AV
def zeroOf(P:Program)(t:TypeId):Option AV:=(P.info? t).bind fun i=>i.zero.bind ofV
def slz1:AV→AV
 | .nils=> .sl []
 | v=>v
def slz:AV→AV
 | .agg cs=> .agg (cs.map slz1)
 | v=>slz1 v
def zeroM(P:Program)(t:TypeId):Option AV:=(zeroOf P t).map slz
def entersB(P:Program)(f:Nat):Bool:=match P.funcs[f]? with
 | some fn=>fn.name != "runtime.NumGoroutine"&&fn.body.isSome
 | none=>false
def giveNames:List String:=["slices.DeleteFunc[[]signboard/schedule.span,signboard/schedule.span]","slices.DeleteFunc[[]signboard/api.Beat,signboard/api.Beat]","slices.DeleteFunc[[]signboard/api.Window,signboard/api.Window]","slices.Compact[[]int,int]","signboard/screen.bounded","slices.Compact[[]string,string]","slices.Compact[[]signboard/api.Log,signboard/api.Log]","slices.CompactFunc[[]signboard/api.Receipt,signboard/api.Receipt]","slices.DeleteFunc[[]signboard/api.Play,signboard/api.Play]"]
def inplNames:List String:=["slices.Sort[[]int,int]","slices.SortFunc[[]signboard/screen.run,signboard/screen.run]","slices.SortFunc[[]signboard/api.Tally,signboard/api.Tally]","(*signboard/signmake.Stream).Next","(*signboard/signmake.Stream).Range","(*signboard/signmake.Stream).Flip","(*signboard/signmake.Stream).Pick","(*signboard/signmake.Stream).Some","(*signboard/signmake.Stream).RightRect","(*signboard/signmake.Stream).RightWall","(*signboard/signmake.Stream).RightLayout","(*signboard/signmake.Stream).RightPlays","(*signboard/signmake.Stream).RightCampaigns","slices.Reverse[[]signboard/api.Rect,signboard/api.Rect]","(*signboard/signmake.Stream).RightAlerts","(*signboard/signmake.Stream).RightEntries","(*signboard/signmake.Stream).RightPlayer","(*signboard/signmake.Stream).RightPosts","(*signboard/signmake.Stream).Receipts","(*signboard/signmake.Stream).Odd","(*signboard/signmake.Stream).RightSpots","(*signboard/signmake.Stream).Played","(*signboard/signmake.Stream).RightLogs","(*signboard/signmake.Stream).RightBeats","(*signboard/signmake.Stream).Order","slices.SortFunc[[]signboard/api.Alert,signboard/api.Alert]","slices.SortFunc[[]signboard/api.Debt,signboard/api.Debt]","slices.SortFunc[[]signboard/api.Receipt,signboard/api.Receipt]","slices.Sort[[]string,string]","slices.SortFunc[[]signboard/schedule.span,signboard/schedule.span]","slices.MinFunc[[]signboard/schedule.span,signboard/schedule.span]","signboard/signkeep2.spoil[signboard/api.Rect]","signboard/signkeep2.spoil[signboard/api.Piece]","signboard/signkeep2.spoil[signboard/api.View]","signboard/signkeep2.spoil[string]","signboard/signkeep2.spoil[int]","signboard/signkeep2.spoil[signboard/api.Entry]","signboard/signkeep2.spoil[signboard/api.Slot]","signboard/signkeep2.spoil[signboard/api.Alert]","signboard/signkeep2.spoil[signboard/api.Receipt]","signboard/signkeep2.spoil[signboard/api.Debt]","signboard/signkeep2.spoil[signboard/api.Pair]","signboard/signkeep2.spoil[signboard/api.Share]","signboard/signkeep2.spoil[signboard/api.Pace]","signboard/signkeep2.spoil[signboard/api.Log]","signboard/signkeep2.spoil[signboard/api.Play]","signboard/signkeep2.spoil[signboard/api.Tally]","signboard/signkeep2.spoil[signboard/api.Match]","slices.SortFunc[[]signboard/api.Log,signboard/api.Log]","slices.SortFunc[[]signboard/api.Play,signboard/api.Play]","slices.SortFunc[[]signboard/api.Pair,signboard/api.Pair]","slices.SortFunc[[]signboard/api.Entry,signboard/api.Entry]","slices.SortFunc[[]signboard/proof.placed,signboard/proof.placed]","slices.SortFunc[[]signboard/signref2.dated,signboard/signref2.dated]","slices.SortStableFunc[[]signboard/api.Log,signboard/api.Log]","slices.SortStableFunc[[]signboard/proof.placed,signboard/proof.placed]","slices.SortStableFunc[[]signboard/signref2.dated,signboard/signref2.dated]"]
def inplB(P:Program)(f:Nat):Bool:=match P.funcs[f]? with
 | some fn=>inplNames.contains fn.name
 | none=>false
def givesB(P:Program)(f:Nat):Bool:=match P.funcs[f]? with
 | some fn=>giveNames.contains fn.name||inplNames.contains fn.name
 | none=>false
def quietNames:List String:=["cmp.Compare[int]","cmp.Compare[string]","cmp.Or[int]","cmp.isNaN[int]","cmp.isNaN[string]","cmp.Less[int]","cmp.Less[string]","strings.Compare","internal/bytealg.CompareString","signboard/schedule.compare","signboard/schedule.through$1","signboard/alert.compare","signboard/alert.before","signboard/alert.compareReceipts","signboard/alert.Debts$1","signboard/alert.Known$1","signboard/screen.runs$1","signboard/signmake.alertOrder","signboard/signref2.alertOrder","signboard/signref2.receiptOrder","signboard/signref2.RankedOf$1","signboard/signref2.ReceiptsOf$1","signboard/signref2.DebtsOf$1","signboard/signref2.EntriesOf$1","signboard/signref2.WhyOf$1","signboard/signref2.LongOf$1","signboard/signref2.LogOrder","signboard/signref2.sign","signboard/signref2.PlaysOf$1","signboard/signref2.CountsOf$1","signboard/proof.compareLogs","signboard/proof.compareBeats","signboard/proof.placedOf$1","signboard/proof.Counts$1","slices.isNaN[int]","slices.isNaN[string]","signboard/signref2.EntriesOf$2","signboard/signref2.floor","signboard/signref2.in","signboard/signref2.began","slices.Compare[[]int,int]","slices.Index[[]int,int]","slices.Contains[[]int,int]","signboard/signref2.timeOf","signboard/signref2.dayOf","slices.Compare[[]string,string]","signboard/signref2.receiptKey","signboard/alert.flagNumber"]
def quietB(P:Program)(f:Nat):Bool:=match P.funcs[f]? with
 | some fn=>quietNames.contains fn.name
 | none=>false
def nilNames:List String:=["slices.Grow[[]signboard/api.Rect,signboard/api.Rect]","slices.Grow[[]signboard/api.Entry,signboard/api.Entry]","slices.Grow[[]signboard/api.Alert,signboard/api.Alert]","slices.Grow[[]signboard/api.Receipt,signboard/api.Receipt]","slices.Grow[[]signboard/api.Log,signboard/api.Log]","slices.Grow[[]signboard/api.Window,signboard/api.Window]","slices.Grow[[]signboard/api.Play,signboard/api.Play]","slices.Grow[[]int,int]","slices.Grow[[]string,string]"]
def keepsNil(P:Program)(f:Nat):Bool:=match P.funcs[f]? with
 | some fn=>nilNames.contains fn.name
 | none=>false
def exptA(k:Bool)(objs:Nat→Option AObj):AV→Option AV
 | .nils=>some (bif k then .nils else .sl [])
 | x=>expt (fun _=>false) objs DEPTH x
def callE(P:Program)(C:Callee)(objs:Nat→Option AObj)(d:Nat)(f:Nat)(args:List AV):Option Eff:=
 if entersB P f && !givesB P f then(mapO (exptA (keepsNil P f) objs) args).bind fun as=>(C f as).map fun r=>
  { val:=(recv (8*d) r).1,news:=(recv (8*d) r).2,frz:=if scalarR r then []else args.flatMap (refsOf objs DEPTH) }
 else none
def sameK1:AV→AV→Option Bool
 | .int k a,.int k' b=>if k=k' then some (a == b)else none
 | .str a,.str b=>some (a == b)
 | .bool a,.bool b=>some (a == b)
 | _,_=>none
def sameL:List AV→List AV→Option Bool
 | [],[]=>some true
 | x::xs,y::ys=>(sameK1 x y).bind fun b=>(sameL xs ys).map fun c=>b&&c
 | _,_=>none
def sameK:AV→AV→Option Bool
 | .agg xs,.agg ys=>sameL xs ys
 | .int k a,.int k' b=>if k=k' then some (a == b)else none
 | .str a,.str b=>some (a == b)
 | .bool a,.bool b=>some (a == b)
 | _,_=>none
def findK(x:AV):List AV→Nat→Option (Option Nat)
 | [],_=>some none
 | k::ks,i=>(sameK x k).bind fun b=>if b=true then some (some i)else findK x ks (i+1)
def keyOk1(P:Program)(t:TypeId)(x:AV):Bool:=match P.underlying t,x with
 | some (.int k),.int k' _=>k == k'
 | some .string,.str _=>true
 | some .bool,.bool _=>true
 | _,_=>false
def keyOkL(P:Program):Nat→List Field→List AV→Bool
 | _,[],[]=>true
 | i,f::fs,c::cs=>f.name != "_"&&(f.offset == i&&(keyOk1 P f.type c&&keyOkL P (i+1) fs cs))
 | _,_,_=>false
def keyOk(P:Program)(t:TypeId)(x:AV):Bool:=match P.underlying t,x with
 | some (.int k),.int k' _=>k == k'
 | some .string,.str _=>true
 | some .bool,.bool _=>true
 | some (.struct fs),.agg cs => !P.stoodInHeld t&&keyOkL P 0 fs.toList cs
 | _,_=>false
def mapT(P:Program)(t:TypeId):Option (TypeId×TypeId):=match P.underlying t with
 | some (.map k e)=>some (k,e)
 | _=>none
def lookIn(P:Program)(t:TypeId)(ks vs:List AV)(x:AV):Option (AV×Bool):=(mapT P t).bind fun(kt,et)=>if keyOk P kt x=true then(findK x ks 0).bind fun
    | some i=>(vs[i]?).map fun v=>(v,true)
    | none=>(zeroM P et).map fun z=>(z,false)
 else none
def lookA(P:Program)(objs:Nat→Option AObj)(t:TypeId)(m x:AV):Option (AV×Bool):=match m with
 | .mr id=>match objs id with
   | some (.mp ks vs _)=>lookIn P t ks vs x
   | _=>none
 | .mv ks vs=>lookIn P t ks vs x
 | _=>none
def noParts:List (Nat×AV)→Nat→Option (List AV)
 | [],_=>some []
 | (i,v)::l,n=>if i=n then(noParts l (n+1)).map fun vs=>v::vs else none
def fill(P:Program)(cs:List AV)(places:Nat→Option (Nat×Nat)):List (Nat×AV)→Option (List AV)
 | []=>some cs
 | (i,v)::rest=>(places i).bind fun(off,size)=>if v.cells.length=size then(putAt cs off v.cells).bind fun cs=>fill P cs places rest else none
def cellOK:AV→Bool
 | .int _ _ | .bool _ | .str _ | .sl _ | .nils | .pp _ _ | .fn _ _ | .ia _ _ | .mv _ _=>true
 | _=>false
def elemOk(P:Program)(e:TypeId)(k:Nat)(v:AV):Bool:=v.cells.length == k&&v.cells.all cellOK
def cellNow(objs:Nat→Option AObj):AV→Bool
 | .int _ _ | .bool _ | .str _ | .sl _ | .nils | .pp _ _ | .fn _ _ | .ia _ _ | .mv _ _=>true
 | .mr r=>(objs r).isSome
 | .own r g | .oa r g _ _=>match objs r with
   | some (.row _ _ _ g' _)=>g == g'
   | _=>false
 | .ba b _=>(objs b).isSome
 | _=>false
def cellsNow(objs:Nat→Option AObj):AV→Bool
 | .agg _=>true
 | x=>cellNow objs x
def buildA(P:Program)(objs:Nat→Option AObj)(t:TypeId)(parts:List (Nat×AV)):Option AV:=
 if parts.all fun p=>cellsNow objs p.2 then match P.info? t,P.underlying t with
 | some it,some (.array _ e)=>match it.zero,P.info? e with
   | some z,some ie=>(ofV z).bind fun z=>(fill P z.cells (fun i=>some (i*ie.size,ie.size)) parts).map .agg
   | _,_=>none
 | some it,some (.struct fields)=>match it.zero,fields.toList.mapM (fun f=>(P.info? f.type).map fun i=>(f.offset,i.size))with
   | some z,some places=>(ofV z).bind fun z=>(fill P z.cells (places.toArray[·]?) parts).map .agg
   | _,_=>none
 | _,_=>none
 else none
def rowOk(P:Program)(e k:Nat):Bool:=match P.info? e with
 | some i=>i.size == k&&decide (0<k)&&(match i.zero with
   | some z=>z.cells.size == k
   | none=>false)
 | none=>false
def bytesT(P:Program)(t:TypeId):Option Nat:=(P.info? t).map (·.bytes)
def effOf(P:Program)(C:Callee)(s:Nat→AV)(objs:Nat→Option AObj)(d:Nat)(ty:TypeId):Op→Option Eff
 | .move x | .assign x=>some { val:=evA s x }
 | .pick c a b=>(pickA (evA s c) (evA s a) (evA s b)).map fun v=>{ val:=v }
 | .binOp op t x y _=>(binA P op t x y (evA s x) (evA s y)).map fun v=>{ val:=v }
 | .unOp op _ x=>(unA P op (evA s x)).map fun v=>{ val:=v }
 | .convert a b x=>(convA P a b (evA s x)).map fun v=>{ val:=v }
 | .box t x=>(sizeT P t).bind fun k=>if(evA s x).cells.length=k∧cellsNow objs (evA s x)=true then some { val:= .ba (8*d) 0,news:=[(8*d,.box (evA s x).cells false)] }else none
 | .alloc t=>(zeroOf P t).bind fun z=>some { val:= .ba (8*d) 0,news:=[(8*d,.box z.cells false)] }
 | .build t ps=>(buildA P objs t (ps.toList.map fun(i,x)=>(i,evA s x))).map fun v=>{ val:=v }
 | .buildSlice t n ps=>(elemT P t).bind fun e=>(sizeT P e).bind fun k=>(noParts (ps.toList.map fun(i,x)=>(i,evA s x)) 0).bind fun vs=>
  if vs.length=n∧n*k≤16777216∧rowOk P e k=true then
   (mapO (expt (fun _=>false) objs DEPTH) vs).bind fun xs=>if xs.all (elemOk P e k)then some { val:= .own (8*d) 0,news:=[(8*d,.row e k xs 0 false)],frz:=vs.flatMap (refsOf objs DEPTH) }else none else none
 | .load t a=>(loadA P objs t (evA s a)).map fun v=>{ val:=v }
 | .fieldAddr t x f=>(faddr P objs t f (evA s x)).map fun v=>{ val:=v }
 | .field t x f=>(fieldV P t f (evA s x)).map fun v=>{ val:=v }
 | .indexAddr t x i=>(addr P objs t (evA s x) (evA s i)).map fun v=>{ val:=v }
 | .index t x i=>match evA s x with
   | .agg cs=>(arrA P t cs (evA s i)).map fun v=>{ val:=v }
   | u=>(indexA P t u (evA s i)).map fun v=>{ val:=v }
 | .slice t x lo hi none=>match evA s x with
   | .str b=>(match lo,hi with
     | none,none=>pure1 P (fun x=>Instr.sliceAt t x none none none) (.str b)
     | some l,none=>pure2 P (fun x l=>Instr.sliceAt t x (some l) none none) (.str b) (evA s l)
     | none,some h=>pure2 P (fun x h=>Instr.sliceAt t x none (some h) none) (.str b) (evA s h)
     | some l,some h=>(toV (evA s l)).bind fun vl=>(toV (evA s h)).bind fun vh=>(pureRun P (Instr.sliceAt t (.string b) (some vl) (some vh) none)).bind ofV).map fun v=>{ val:=v }
   | .sl xs=>(elemT P t).bind fun e=>(sizeT P e).bind fun k=>(match hi with|none=>some xs.length|some h=>idx (evA s h)).bind fun h=>(match lo with|none=>some 0|some l=>idx (evA s l)).bind fun l=>
    if l≤h then if h≤xs.length then if xs.all (elemOk P e k)then some { val:= .sl ((xs.take h).drop l) }else none else none else none
   | .nils=>(elemT P t).bind fun e=>(sizeT P e).bind fun k=>(match hi with|none=>some 0|some h=>idx (evA s h)).bind fun h=>(match lo with|none=>some 0|some l=>idx (evA s l)).bind fun l=>if l=0∧h=0 then some { val:= .nils }else none
   | .own r g=>match hi,lo with
     | none,some q=>(elemT P t).bind fun e=>(sizeT P e).bind fun k=>(idx (evA s q)).bind fun l=>match objs r with
       | some (.row e' k' xs g' _)=>if g'=g∧e'=e∧k'=k∧l≤xs.length then some { val:= .vw r g l }else none
       | _=>none
     | _,_=>none
   | _=>none
 | .makeSlice t l c=>match evA s l,evA s c with
   | .int _ n,.int _ m=>(elemT P t).bind fun e=>(sizeT P e).bind fun k=>(bytesT P e).bind fun b=>(zeroM P e).bind fun z=>
    if rowOk P e k=true∧elemOk P e k z=true then if 0≤n∧n≤m∧(b:Int)*m≤281474976710656∧m≤9223372036854775807 then some { val:= .own (8*d) 0,news:=[(8*d,.row e k (List.replicate n.toNat z) 0 false)] }else none else none
   | _,_=>none
 | .makeMap t none=>(mapT P t).map fun _=>{ val:= .mr (8*d),news:=[(8*d,.mp [] [] false)] }
 | .lookup t m k ok=>(lookA P objs t (evA s m) (evA s k)).map fun(v,b)=>{ val:=if ok then .tup [v,.bool b]else v }
 | .extract t i=>match evA s t with
   | .tup vs=>(vs[i]?).map fun v=>{ val:=v }
   | _=>none
 | .makeFunc (.func f) fi caps=>if fi.size=0 then some { val:= .fn f (caps.toList.map (evA s)) }else none
 | .nilCheck x=>match evA s x with
   | .pp nl cs=>if nl=true then none else some { val:= .ia cs 0 }
   | .ia cs o=>some { val:= .ia cs o }
   | .ba b o=>some { val:= .ba b o }
   | .oa r g i o=>(plus objs (.oa r g i o) 0).map fun v=>{ val:=v }
   | _=>none
 | .call c=>match c.callee with
   | .value (.func f)=>callE P C objs d f (c.args.toList.map (evA s))
   | .value (.tmp t)=>match s t with
     | .fn f caps=>callE P C objs d f (c.args.toList.map (evA s)++caps)
     | _=>none
   | .builtin .len=>match c.args.toList,c.argTypes[0]? with
     | [x],some t=>(lenT P objs t (evA s x)).map fun n=>{ val:= .int .i64 n }
     | _,_=>none
   | .builtin .cap=>match c.args.toList,c.argTypes[0]? with
     | [x],some t=>match P.underlying t,evA s x with
       | some (.slice _),.nils=>some { val:= .int .i64 0 }
       | _,_=>none
     | _,_=>none
   | .builtin b=>if b= .min∨b= .max then match c.args.toList with
     | [x,y]=>(toV (evA s x)).bind fun vx=>(toV (evA s y)).bind fun vy=>(pureRun P (builtin b c.argTypes ty (c.args.map fun | .const _=>true|_=>false) #[vx,vy])).bind fun
       | .value v=>(ofV v).map fun v=>{ val:=v }
       | _=>none
     | _=>none else none
   | _=>none
 | _=>none
def Env.turn(σ:Env)(r:Nat)(o:AObj)(frz:List Nat):Env:=({ σ with objs:=freeze σ.objs frz }:Env).obj r o
def storeA(σ:Env)(x:AV)(p:AV):Option (Nat×AObj×List Nat):=
 if cellsNow σ.objs x&&x.cells.all (cellNow σ.objs)then match p with
  | .ba b off=>match σ.objs b with
    | some (.box cs false)=>(putAt cs off x.cells).map fun cs=>(b,.box cs false,[])
    | _=>none
  | .oa r g i off=>match σ.objs r with
    | some (.row e k xs g' false)=>if g'=g then(xs[i]?).bind fun y=>(mapO (expt (fun _=>false) σ.objs DEPTH) x.cells).bind fun vs=>
     if vs.all cellOK&&(x.cells.flatMap (refsOf σ.objs DEPTH)).all (· != r)then(putAt y.cells off vs).map fun cs=>
      (r,.row e k (xs.set i (shaped y cs)) g' false,x.cells.flatMap (refsOf σ.objs DEPTH))else none else none
    | _=>none
  | _=>none
 else none
def newsA(objs:Nat→Option AObj):AV→Option (List Nat×List AV)
 | .own r g=>match objs r with
   | some (.row _ _ ys g' _)=>if g'=g then some ([r],ys)else none
   | _=>none
 | .sl ys=>some ([],ys)
 | .nils=>some ([],[])
 | _=>none
def appendA(P:Program)(σ:Env)(d:Nat)(t:TypeId)(x y:AV):Option (Nat×AObj×List Nat×AV):=
 (newsA σ.objs y).bind fun(frz,ys)=>(elemT P t).bind fun e=>(sizeT P e).bind fun k=>(bytesT P e).bind fun b=>
  if rowOk P e k=true∧ys.all (elemOk P e k)=true then match x with
   | .own r g=>match σ.objs r with
     | some (.row e' k' xs g' false)=>if g'=g∧e'=e∧k'=k∧frz.all (· != r)=true∧xs.length+ys.length≤maxLen∧(xs.length+ys.length)*b≤140737488355328 then
      some (r,.row e k (xs++ys) (g+1) false,frz,.own r (g+1))else none
     | _=>none
   | .nils=>if(σ.objs (8*d)).isNone=true∧frz.all (· != 8*d)=true∧ys.length≤maxLen∧ys.length*b≤140737488355328 then
    some (8*d,.row e k ys 0 false,frz,.own (8*d) 0)else none
   | _=>none
  else none
def tupG:List AV→Option (Nat×Nat×List AV×IntKind×Int)
 | [.fr e k ys,.int kk n]=>some (e,k,ys,kk,n)
 | _=>none
theorem tupG_eq{zs:List AV}{e k:Nat}{ys:List AV}{kk:IntKind}{n:Int}(h:tupG zs=some (e,k,ys,kk,n)):zs=[.fr e k ys,.int kk n]:=by
 unfold tupG at h
 split at h
 ·cases h;rfl
 ·cases h
def gotG(e k r g:Nat):AV→Option (AV×AObj)
 | .fr e' k' ys=>if e'=e∧k'=k then some (.own r (g+1),.row e k ys (g+1) false)else none
 | .tup zs=>match tupG zs with
   | some (e',k',ys,kk,n)=>if e'=e∧k'=k then some (.tup [.own r (g+1),.int kk n],.row e k ys (g+1) false)else none
   | none=>if scalarR (.tup zs)then some (.tup zs,.row e k [] (g+1) false)else none
 | v=>if scalarR v then some (v,.row e k [] (g+1) false)else none
def giveA(C:Callee)(σ:Env)(f:Nat):List AV→Option (Nat×AObj×List Nat×AV)
 | .own r g::rest=>match σ.objs r with
   | some (.row e k xs g' false)=>if g'=g∧(rest.flatMap (refsOf σ.objs DEPTH)).all (· != r)=true then
    (mapO (expt (fun _=>false) σ.objs DEPTH) rest).bind fun as=>(C f (.fr e k xs::as)).bind fun res=>(gotG e k r g res).map fun(v,o)=>(r,o,rest.flatMap (refsOf σ.objs DEPTH),v)else none
   | _=>none
 | _=>none
def isFb:AV→Bool
 | .fb _=>true
 | _=>false
def gotI(id:Nat)(o:AObj)(frz:List Nat):AV→Option (Nat×AObj×List Nat×AV)
 | .inp v fin=>match o,fin with
   | .row e k _ g _,.fr e' k' ys=>if e'=e∧k'=k then some (id,.row e k ys g false,frz,v)else none
   | .box _ _,.fb cs=>some (id,.box cs false,frz,v)
   | _,_=>none
 | _=>none
def inplA(C:Callee)(σ:Env)(f:Nat):List AV→Option (Nat×AObj×List Nat×AV)
 | .own r g::rest=>match σ.objs r with
   | some (.row e k xs g' false)=>if g'=g∧(rest.flatMap (refsOf σ.objs DEPTH)).all (· != r)=true then
    (mapO (expt (fun _=>false) σ.objs DEPTH) rest).bind fun as=>(C f (.fr e k xs::as)).bind (gotI r (.row e k xs g' false) (rest.flatMap (refsOf σ.objs DEPTH)))else none
   | _=>none
 | .ba b 0::rest=>match σ.objs b with
   | some (.box cs false)=>if((cs++rest).flatMap (refsOf σ.objs DEPTH)).all (· != b)=true then
    (mapO (expt (fun _=>false) σ.objs DEPTH) cs).bind fun bs=>(mapO (expt (fun _=>false) σ.objs DEPTH) rest).bind fun as=>(C f (.fb bs::as)).bind (gotI b (.box cs false) ((cs++rest).flatMap (refsOf σ.objs DEPTH)))else none
   | _=>none
 | _=>none
def cutOwn(P:Program)(σ:Env)(t:TypeId)(x:AV)(q:AV):Option (Nat×AObj×AV):=match x with
 | .own r g=>match σ.objs r with
   | some (.row e k xs g' false)=>if g'=g∧elemT P t=some e∧sizeT P e=some k then(idx q).bind fun h=>if h≤xs.length then some (r,.row e k (xs.take h) (g+1) false,.own r (g+1))else none else none
   | _=>none
 | _=>none
def clearA(P:Program)(σ:Env)(t:TypeId)(x:AV):Option (Nat×AObj):=match x with
 | .vw r g i=>match σ.objs r with
   | some (.row e k xs g' false)=>if g'=g∧elemT P t=some e∧i≤xs.length then(zeroOf P e).bind fun z=>if elemOk P e k z=true∧sizeT P e=some k then some (r,.row e k (xs.take i++List.replicate (xs.length-i) z) g false)else none else none
   | _=>none
 | _=>none
def updA(P:Program)(σ:Env)(t:TypeId)(m x v:AV):Option (Nat×AObj×List Nat):=match m with
 | .mr id=>match σ.objs id with
   | some (.mp ks vs false)=>(mapT P t).bind fun(kt,_)=>if keyOk P kt x=true then
     if((refsOf σ.objs DEPTH v).all (· != id))=true then(expt (fun _=>false) σ.objs DEPTH v).bind fun u=>(findK x ks 0).map fun
      | some i=>(id,.mp ks (vs.set i u) false,refsOf σ.objs DEPTH v)
      | none=>(id,.mp (ks++[x]) (vs++[u]) false,refsOf σ.objs DEPTH v)
     else none
    else none
   | _=>none
 | _=>none
def modOf(P:Program)(C:Callee)(σ:Env)(dst:Option Nat):Op→Option Env
 | .store t a x=>(sizeT P t).bind fun k=>if(evA σ.slots x).cells.length=k then(storeA σ (evA σ.slots x) (evA σ.slots a)).map fun(r,o,frz)=>(σ.turn r o frz).put dst .und else none
 | .mapUpdate t m k x=>(updA P σ t (evA σ.slots m) (evA σ.slots k) (evA σ.slots x)).map fun(r,o,frz)=>(σ.turn r o frz).put dst .und
 | .slice t x none (some q) none=>(cutOwn P σ t (evA σ.slots x) (evA σ.slots q)).map fun(r,o,v)=>(σ.turn r o []).put dst v
 | .call c=>match c.callee with
   | .builtin .append=>match c.args.toList,c.argTypes.toList,dst with
     | [x,y],[t,t'],some d=>if t'=t then(appendA P σ d t (evA σ.slots x) (evA σ.slots y)).map fun(r,o,frz,v)=>(σ.turn r o frz).put (some d) v else none
     | _,_,_=>none
   | .builtin .clear=>match c.args.toList,c.argTypes.toList with
     | [x],[t]=>(clearA P σ t (evA σ.slots x)).map fun(r,o)=>(σ.turn r o []).put dst (.tup [])
     | _,_=>none
   | .value (.func f)=>if entersB P f&&givesB P f then(if inplB P f then inplA C σ f (c.args.toList.map (evA σ.slots))else giveA C σ f (c.args.toList.map (evA σ.slots))).map fun(r,o,frz,v)=>(σ.turn r o frz).put dst v else none
   | _=>none
 | _=>none
def Env.eff(σ:Env)(dst:Option Nat)(e:Eff):Env:=(({ σ with objs:=freeze σ.objs e.frz }).objsL e.news).put dst e.val
def wantedA(ops:Array Oper)(s:Nat→AV)(o:Oper):Option Bool:=match o.guard with
 | none=>some true
 | some (j,want)=>match (ops[j]?).bind (·.dst)with
   | some t=>match s t with
     | .bool b=>some (b == want)
     | .und=>some false
     | _=>none
   | none=>none
def stepA(P:Program)(C:Callee)(ops:Array Oper)(σ:Env)(o:Oper):Option Env:=
 if o.dst.all σ.n.ok then(wantedA ops σ.slots o).bind fun
  | false=>some (σ.put o.dst .und)
  | true=>match effOf P C σ.slots σ.objs (o.dst.getD 0) o.type o.op with
    | some e=>if e.news.all (fun p=>(σ.objs p.1).isNone)then some (σ.eff o.dst e)else none
    | none=>modOf P C σ o.dst o.op
 else none
def opsA(P:Program)(C:Callee)(ops:Array Oper):List Oper→Env→Option Env
 | [],σ=>some σ
 | o::rest,σ=>(stepA P C ops σ o).bind (opsA P C ops rest)
end Go.Abs
set_option linter.unusedVariables false
set_option linter.unusedSimpArgs false
namespace Go.Abs
open Go.RowKit
def iterN{σ ρ:Type}(step:σ→Option (σ⊕ρ)):Nat→σ→Option ρ
 | 0,_=>none
 | n+1,s=>match step s with
   | none=>none
   | some (.inr r)=>some r
   | some (.inl s')=>iterN step n s'
open Classical in
noncomputable def iter{σ ρ:Type}(step:σ→Option (σ⊕ρ))(s:σ):Option ρ:=
 match iterN step 10000 s with
 | some r=>some r
 | none=>if h:∃n r,iterN step n s=some r then some (Classical.choose (Classical.choose_spec h))else none
theorem iterN_mono{σ ρ:Type}(step:σ→Option (σ⊕ρ)):∀n s r,iterN step n s=some r→∀m,n≤m→iterN step m s=some r:=by
 intro n
 induction n with
 | zero=>intro s r h;simp[iterN]at h
 | succ n ih=>
   intro s r h m hm
   obtain⟨m,rfl⟩:∃q,m=q+1:=⟨m-1,by omega⟩
   simp only[iterN]at h ⊢
   split<;>simp_all
theorem iterN_one{σ ρ:Type}{step:σ→Option (σ⊕ρ)}{s:σ}{n m:Nat}{r q:ρ}(h1:iterN step n s=some r)(h2:iterN step m s=some q):r=q:=by
 have h3:=iterN_mono step n s r h1 (max n m) (Nat.le_max_left _ _)
 have h4:=iterN_mono step m s q h2 (max n m) (Nat.le_max_right _ _)
 rw[h3]at h4
 exact Option.some.inj h4
theorem iter_some{σ ρ:Type}{step:σ→Option (σ⊕ρ)}{s:σ}{r:ρ}:iter step s=some r↔∃n,iterN step n s=some r:=by
 unfold iter
 cases hN:iterN step 10000 s with
 | some q=>
   constructor
   ·intro h
    exact⟨10000,hN.trans h⟩
   ·rintro⟨n,hn⟩
    rw[iterN_one hN hn]
 | none=>
   constructor
   ·intro h
    simp only at h
    split at h
    ·rename_i hh
     refine⟨Classical.choose hh,?_⟩
     rw[Classical.choose_spec (Classical.choose_spec hh)]
     exact h
    ·cases h
   ·rintro⟨n,hn⟩
    have hh:∃n r,iterN step n s=some r:=⟨n,r,hn⟩
    simp only
    rw[dif_pos hh]
    exact congrArg some (iterN_one (Classical.choose_spec (Classical.choose_spec hh)) hn)
theorem iter_eq{σ ρ:Type}(step:σ→Option (σ⊕ρ))(s:σ):iter step s=match step s with
  | none=>none
  | some (.inr r)=>some r
  | some (.inl s')=>iter step s':=by
 apply Option.ext
 intro r
 rw[iter_some]
 constructor
 ·rintro⟨n,hn⟩
  cases n with
  | zero=>simp[iterN]at hn
  | succ n=>
    simp only[iterN]at hn
    split<;>simp_all
    exact iter_some.2 ⟨n,hn⟩
 ·intro h
  split at h
  ·cases h
  ·exact⟨1,by simp_all [iterN]⟩
  ·rename_i s' hs
   obtain⟨n,hn⟩:=iter_some.1 h
   exact⟨n+1,by simp[iterN,hs,hn]⟩
abbrev Keep:=List (Nat×Option (Nat×Nat))
def claimOf(σ:Env):Nat×Option (Nat×Nat)→List Nat
 | (t,some _)=>match σ.slots t with
   | .own r _=>[r]
   | .ba b _=>[b]
   | _=>[]
 | (t,none)=>match σ.slots t with
   | .ba b _=>[b]
   | .mr b=>[b]
   | _=>[]
def noDup:List Nat→Bool
 | []=>true
 | x::xs => !xs.contains x&&noDup xs
def renOf(σ:Env)(keep:Keep)(r:Nat):Option Nat:=(keep.find? fun p=>p.2.isNone&&(match σ.slots p.1 with | .mr b=>b == r|_=>false)).map (·.1)
def cellR(σ:Env)(no:Nat→Bool)(ren:Nat→Option Nat):AV→Option AV
 | .mr r=>match ren r with
   | some t=>some (.mr (8*t))
   | none=>expt no σ.objs DEPTH (.mr r)
 | x=>expt no σ.objs DEPTH x
def phOf(t j:Nat):Nat:=4096+64*t+j
def cellAt(σ:Env)(T:Nat):AV:=match σ.slots ((T-4096) / 64)with
 | .ba b 0=>match σ.objs b with
   | some (.box cs _)=>cs.getD ((T-4096) % 64) .undef
   | _=> .undef
 | _=> .undef
def openB(σ:Env):Env:={ slots:=fun t=>bif Nat.blt t 4096 then σ.slots t else cellAt σ t,objs:=σ.objs,n:=σ.n }
def hasRow:Keep→Nat→Bool
 | (T',some (_,k))::l,T=>bif Nat.blt T' 4096 then false else(Nat.beq T' T&&Nat.blt 0 k)||hasRow l T
 | _,_=>false
def rowAt(keep:Keep)(t j:Nat):Bool:=hasRow keep (phOf t j)&&(Nat.blt j 64&&Nat.blt t 4096)
def cellsR(σ:Env)(no:Nat→Bool)(ren:Nat→Option Nat)(hr:Nat→Nat→Bool)(t:Nat):Nat→List AV→Option (List AV)
 | _,[]=>some []
 | j,x::xs=>(bif hr t j then some (.own (8*phOf t j) 0)else cellR σ no ren x).bind fun y=>(cellsR σ no ren hr t (j+1) xs).map fun ys=>y::ys
def normOne(σ:Env)(no:Nat→Bool)(ren:Nat→Option Nat)(hr:Nat→Nat→Bool):Nat×Option (Nat×Nat)→Option (AV×Option AObj)
 | (t,some (e,k))=>match σ.slots t with
   | .own r g=>match σ.objs r with
     | some (.row e' k' xs g' false)=>if g'=g∧e'=e∧k'=k then some (.own (8*t) 0,some (.row e k xs 0 false))else none
     | _=>none
   | .nils=>if 0<k then some (.own (8*t) 0,some (.row e k [] 0 false))else none
   | .ba b 0=>if k=0 then match σ.objs b with
     | some (.box cs _)=>(mapO (expt no σ.objs DEPTH) cs).map fun cs=>(.ba (8*t) 0,some (.box cs true))
     | _=>none
     else none
   | _=>none
 | (t,none)=>match σ.slots t with
   | .ba b 0=>match σ.objs b with
     | some (.box cs fz)=>(cellsR σ no ren hr t 0 cs).map fun cs=>(.ba (8*t) 0,some (.box cs fz))
     | _=>none
   | .mr b=>match σ.objs b with
     | some (.mp ks vs fz)=>some (.mr (8*t),some (.mp ks vs fz))
     | _=>none
   | .und=>some (.und,none)
   | v=>(expt no σ.objs DEPTH v).map fun v=>(v,none)
def normAll(σ:Env)(no:Nat→Bool)(ren:Nat→Option Nat)(hr:Nat→Nat→Bool):Keep→Option Env
 | []=>some { slots:=fun _=> .undef,objs:=fun _=>none,n:=σ.n }
 | (t,q)::l=>(normOne σ no ren hr (t,q)).bind fun(v,o)=>(normAll σ no ren hr l).map fun τ=>
  { slots:=bif Nat.blt t 4096 then upd τ.slots t v else τ.slots,objs:=match o with|some o=>upd τ.objs (8*t) (some o)|none=>τ.objs,n:=σ.n }
def normC(keep:Keep)(σ:Env):Option Env:=
 if noDup (keep.map (·.1))&&noDup (keep.flatMap (claimOf σ))then normAll σ (fun r=>(keep.flatMap (claimOf σ)).contains r) (renOf σ keep) (rowAt keep) keep else none
def normA(keep:Keep)(σ:Env):Option Env:=normC keep (openB σ)
def aliasOk(σ:Env)(p:Nat×Nat):Bool:=match σ.slots p.1,σ.slots p.2 with
 | .own r g,.own r' g'=>r == r'&&g == g'&&(match σ.objs r with
   | some (.row _ _ _ h _)=>g == h
   | _=>false)
 | .nils,.nils=>true
 | _,_=>false
def aliased(τ:Env):List (Nat×Nat)→Env
 | []=>τ
 | (a,m)::l=>{ aliased τ l with slots:=upd (aliased τ l).slots a ((aliased τ l).slots m) }
def normB(keep:Keep)(al:List (Nat×Nat))(σ:Env):Option Env:=
 if al.all (aliasOk σ)then(normA keep σ).map fun τ=>aliased τ al else none
inductive AExit where
 | normal|exit (id:Nat)|ret
def firstRegion:Code→Nat
 | .region id _ _=>id
 | .seq a _=>firstRegion a
 | .block _ b=>firstRegion b
 | .loop b=>firstRegion b
 | _=>0
def quietOp:Op→Bool
 | .store .. => false
 | .mapUpdate .. => false
 | .call c=>match c.callee with
   | .builtin .append=>false
   | _=>true
 | _=>true
def befOne(ord:List Nat)(j:Nat)(o:Oper)(befs:List (List Nat)):List Nat:=
 (List.range j).filter fun i=>o.after.toList.any fun e=>Region.binds .any e&&(ord.idxOf e.on == i||(befs.getD (ord.idxOf e.on) []).contains i)
def befsOf(ord:List Nat):List Oper→List (List Nat)→List (List Nat)
 | [],befs=>befs
 | o::l,befs=>befsOf ord l (befs++[befOne ord befs.length o befs])
def inOrd(ops:Array Oper)(ord:List Nat):List Oper:=ord.map fun i=>ops.getD i default
def ordOk(ops:Array Oper)(ord:List Nat):Bool:=noDup ord&&(ord.all fun i=>decide (i<ops.size))&&(List.range ops.size).all ord.contains&&ord.length == ops.size
def befAt(befs:List (List Nat))(j i:Nat):Bool:=(befs.getD j []).contains i
def statEdges(ord:List Nat)(L:List Oper):Bool:=L.zipIdx.all fun(o,j)=>o.after.toList.all fun e => !Region.binds .any e||decide (ord.idxOf e.on<j)
def statBef(ord:List Nat)(L:List Oper)(befs:List (List Nat)):Bool:=L.zipIdx.all fun(o,j)=>(befs.getD j []).all fun i=>decide (i<j) &&
 (o.after.toList.any fun e=>Region.binds .any e&&(ord.idxOf e.on == i||befAt befs (ord.idxOf e.on) i))&&(befs.getD i []).all (befAt befs j)
def statApart(ops:Array Oper)(L:List Oper)(befs:List (List Nat)):Bool:=L.zipIdx.all fun(o,j)=>L.zipIdx.all fun(q,i)=>i == j||match q.dst with
    | some d=>o.dst != some d&&(!(o.looksAt ops).contains d||befAt befs j i||befAt befs i j)
    | none=>true
def statTail(n m:Nat)(befs:List (List Nat)):Bool:=(List.range m).all fun j=>decide (j<n)||(List.range j).all (befAt befs j)
def statOk(ops:Array Oper)(ord:List Nat)(befs:List (List Nat))(n:Nat):Bool:=
 ordOk ops ord&&statEdges ord (inOrd ops ord)&&statBef ord (inOrd ops ord) befs&&statApart ops ((inOrd ops ord).take n) befs&&statTail n ops.size befs&&decide (n≤ops.size)
structure REff where
 e:Eff
 st:Option (Nat×AObj×Nat×Nat):=none
def Env.reff(σ:Env)(dst:Option Nat)(r:REff):Env:=(match r.st with
 | none=>σ
 | some (id,o,_,_)=>σ.obj id o).eff dst r.e
abbrev REffs:=List (Option Nat×REff)
def envSub(bef:Nat→Bool):REffs→Nat→Env→Env
 | [],_,σ=>σ
 | (d,e)::l,i,σ=>envSub bef l (i+1) (if bef i then σ.reff d e else σ)
def rangeOf(p:AV)(k:Nat):Nat×Nat:=match p with
 | .ba _ off=>(off,k)
 | _=>(0,0)
def storeE(P:Program)(σ:Env)(t:TypeId)(a x:Operand):Option REff:=
 (sizeT P t).bind fun k=>if(evA σ.slots x).cells.length=k then(storeA σ (evA σ.slots x) (evA σ.slots a)).bind fun(r,o,frz)=>
  if frz.isEmpty then some { e:={ val:= .und },st:=some (r,o,(rangeOf (evA σ.slots a) k).1,(rangeOf (evA σ.slots a) k).2) }else none else none
def quietE(P:Program)(C:Callee)(σ:Env)(o:Oper):Option REff:=(effOf P C σ.slots σ.objs (o.dst.getD 0) o.type o.op).bind fun e=>if e.frz.all (fun id=>(σ.objs id).isSome)then some { e:=e }else none
def inplE(P:Program)(C:Callee)(σ:Env)(o:Oper):Option REff:=match o.op with
 | .call c=>match c.callee with
   | .value (.func f)=>if entersB P f&&givesB P f&&inplB P f then(match c.args.toList.map (evA σ.slots)with
     | .ba b 0::rest=>match σ.objs b with
       | some (.box cs false)=>if(cs.flatMap (refsOf σ.objs DEPTH)).isEmpty then(inplA C σ f (.ba b 0::rest)).bind fun
         | (r,.box cs' false,frz,v)=>if(r=b∧cs'.length=cs.length)∧(frz.all (fun id=>(σ.objs id).isSome&&(id != b)))=true then some { e:={ val:=v,frz:=frz },st:=some (b,.box cs' false,0,cs.length) }else none
         | _=>none
        else none
       | _=>none
     | _=>none)else none
   | _=>none
 | _=>none
def doneE(P:Program)(C:Callee)(σ:Env)(o:Oper):Option REff:=match o.op with
 | .store t a x=>storeE P σ t a x
 | _=>match inplE P C σ o with
   | some e=>some e
   | none=>quietE P C σ o
def stepE(P:Program)(C:Callee)(ops:Array Oper)(σ:Env)(o:Oper):Option REff:=
 if o.dst.all σ.n.ok then(wantedA ops σ.slots o).bind fun
  | false=>some { e:={ val:= .und } }
  | true=>doneE P C σ o
 else none
def effsA(P:Program)(C:Callee)(ops:Array Oper)(σ:Env)(befs:List (List Nat)):List Oper→REffs→Option REffs
 | [],es=>some es
 | o::l,es=>(stepE P C ops (envSub (befAt befs es.length) es 0 σ) o).bind fun e=>effsA P C ops σ befs l (es++[(o.dst,e)])
def clash(befs:List (List Nat))(es:REffs)(j:Nat)(id:Nat):List (Nat×Nat):=es.zipIdx.filterMap fun p=>match p.1.2.st with
 | some (id',_,off,n)=>if id'=id∧p.2≠j∧befAt befs j p.2=false∧befAt befs p.2 j=false then some (off,n)else none
 | none=>none
def noClash(U:Nat→List (Nat×Nat))(ids:List Nat):Bool:=ids.all fun id=>(U id).isEmpty
def mayA(P:Program)(σ:Env)(U:Nat→List (Nat×Nat)):Op→Bool
 | .load t a=>match evA σ.slots a with
   | .ba b off=>match sizeT P t with
     | some k=>(U b).all fun q=>decide (off+max k 1≤q.1)||decide (q.1+q.2≤off)
     | none=>true
   | .oa r _ _ _=>(U r).isEmpty
   | _=>true
 | .call c=>match c.callee with
   | .value (.func _)=>noClash U ((c.args.toList.map (evA σ.slots)).flatMap (refsOf σ.objs DEPTH))
   | .value (.tmp t)=>match σ.slots t with
     | .fn _ caps=>noClash U ((c.args.toList.map (evA σ.slots)++caps).flatMap (refsOf σ.objs DEPTH))
     | _=>true
   | _=>true
 | .buildSlice _ _ ps=>noClash U ((ps.toList.map fun(_,x)=>evA σ.slots x).flatMap (refsOf σ.objs DEPTH))
 | .store _ _ x=>noClash U ((evA σ.slots x).cells.flatMap (refsOf σ.objs DEPTH))
 | .lookup _ m _ _=>match evA σ.slots m with
   | .mr b=>(U b).isEmpty
   | _=>true
 | _=>true
def clashOk(P:Program)(L:List Oper)(σ:Env)(befs:List (List Nat))(es:REffs):Bool:=(es.all fun p=>p.2.st.isNone)||L.zipIdx.all fun(o,j)=>mayA P (envSub (befAt befs j) (es.take j) 0 σ) (clash befs es j) o.op
def storesOk(befs:List (List Nat))(es:REffs):Bool:=es.zipIdx.all fun p=>match p.1.2.st with
 | none=>true
 | some (id,_,_,_)=>(es.all fun q => !q.2.e.frz.contains id)&&(es.zipIdx.all fun q => !(q.1.2.e.news.map (·.1)).contains id||befAt befs p.2 q.2)&&es.zipIdx.all fun q=>match q.1.2.st with
   | none=>true
   | some (id',_,_,_)=>id' != id||q.2 == p.2||befAt befs p.2 q.2||befAt befs q.2 p.2
def newsOk(σ:Env)(es:REffs):Bool:=
 noDup (es.flatMap fun p=>p.2.e.news.map (·.1))&&(es.flatMap fun p=>p.2.e.news.map (·.1)).all fun id=>(σ.objs id).isNone
def ordOf(ops:Array Oper)(l:List Nat):List Nat:=if l.isEmpty then List.range ops.size else l
def drawA(P:Program)(C:Callee)(ops:Array Oper)(ord:List Nat)(hd:Option Nat)(σ:Env):Option Env:=
 let L:=inOrd ops ord
 let n:=hd.getD (L.findIdx fun o => !quietOp o.op)
 let befs:=befsOf ord L []
 if statOk ops ord befs n then(effsA P C ops σ befs (L.take n) []).bind fun es=>
  if newsOk σ es&&storesOk befs es&&clashOk P (L.take n) σ befs es then opsA P C ops (L.drop n) (envSub (fun _=>true) es 0 σ)else none
 else none
def mkS:List (Nat×AV)→Nat→AV
 | []=>fun _=> .undef
 | (t,v)::l=>upd (mkS l) t v
def mkO:List (Nat×AObj)→Nat→Option AObj
 | []=>fun _=>none
 | (i,o)::l=>upd (mkO l) i (some o)
mutual
def within(ids:List Nat):AV→Bool
 | .agg cs=>withinL ids cs
 | .fn _ caps=>withinL ids caps
 | .tup vs=>withinL ids vs
 | .own r _=>ids.contains r
 | .oa r _ _ _=>ids.contains r
 | .vw r _ _=>ids.contains r
 | .ba b _=>ids.contains b
 | .mr b=>ids.contains b
 | _=>true
def withinL(ids:List Nat):List AV→Bool
 | []=>true
 | x::xs=>within ids x&&withinL ids xs
end
def keepO(objs:Nat→Option AObj):List Nat→List (Nat×AObj)
 | []=>[]
 | i::l=>match objs i with
   | some o=>(i,o)::keepO objs l
   | none=>keepO objs l
def forget:Option (List Nat×List Nat)→Env→Option Env
 | none,σ=>some σ
 | some (live,ids),σ=>if(live.all fun t=>within ids (σ.slots t))&&((keepO σ.objs ids).all fun p=>match p.2 with
  | .box cs _=>withinL ids cs
  | _=>true)then some { slots:=mkS (live.map fun t=>(t,σ.slots t)),objs:=mkO (keepO σ.objs ids),n:=σ.n }else none
structure FCfg where
 keep:Nat→Keep
 ord:Nat→List Nat:=fun _=>[]
 /-- How many operations of a region that draws may be in any order (none: all that are quiet ahead of the first that is not). -/
 hd:Nat→Option Nat:=fun _=>none
 live:Nat→Option (List Nat×List Nat)
 /-- What is kept between two parts,by the first region of the second. -/
 lin:Nat→Option (List Nat×List Nat):=fun _=>none
 /-- At a loop's head: slots that hold the same own row as another slot that is kept. -/
 al:Nat→List (Nat×Nat):=fun _=>[]
 /-- All that is handed back is handed back by value. -/
 byval:Bool:=false
noncomputable def execA(P:Program)(C:Callee)(K:FCfg):Code→Env→Option (AExit×Env)
 | .skip,σ=>some (.normal,σ)
 | .ret,σ=>some (.ret,σ)
 | .exit id,σ=>some (.exit id,σ)
 | .region id ops draw,σ=>(if draw then drawA P C ops (ordOf ops (K.ord id)) (K.hd id) σ else opsA P C ops ops.toList σ).bind fun τ=>(forget (K.live id) τ).map fun τ=>(.normal,τ)
 | .seq a b,σ=>match execA P C K a σ with
   | some (.normal,τ)=>(forget (K.lin (firstRegion b)) τ).bind fun τ=>execA P C K b τ
   | r=>r
 | .cond c t e,σ=>match evA σ.slots c with
   | .bool true=>execA P C K t σ
   | .bool false=>execA P C K e σ
   | _=>none
 | .block id b,σ=>match execA P C K b σ with
   | some (.exit i,τ)=>if i=id then some (.normal,τ)else some (.exit i,τ)
   | r=>r
 | .loop b,σ=>(normB (K.keep (firstRegion b)) (K.al (firstRegion b)) σ).bind (iter fun s=>match execA P C K b s with
   | some (.normal,τ)=>(normB (K.keep (firstRegion b)) (K.al (firstRegion b)) τ).map .inl
   | some r=>some (.inr r)
   | none=>none)
 | _,_=>none
def convR(P:Program)(σ:Env)(no:Nat→Bool)(bv:Bool)(ty:TypeId):ResultVar→Option AV
 | .tmp t=>if bv then expt no σ.objs DEPTH (σ.slots t)else match σ.slots t with
   | .own r g=>match σ.objs r with
     | some (.row e k xs g' fz)=>if g'=g then(if fz then some (.sl xs)else some (.fr e k xs))else none
     | _=>none
   | .nils=>(elemT P ty).bind fun e=>(sizeT P e).bind fun k=>if 0<k then some (.fr e k [])else none
   | v=>expt no σ.objs DEPTH v
 | .cell a t=>(loadA P σ.objs t (σ.slots a)).bind (expt no σ.objs DEPTH)
def claimR(σ:Env)(bv:Bool):ResultVar→List Nat
 | .tmp t=>if bv then []else match σ.slots t with
   | .own r _=>[r]
   | _=>[]
 | _=>[]
def resultsA(P:Program)(bv:Bool)(fn:Func)(σ:Env):Option AV:=
 let cl:=fn.results.toList.flatMap (claimR σ bv)
 if noDup cl then
  (mapO (fun(r,ty)=>convR P σ cl.contains bv ty r) (fn.results.toList.zip fn.resultTypes.toList)).bind fun vs=>
   if vs.length=fn.results.size then match vs with
    | [v]=>some v
    | vs=>some (.tup vs)
   else none
 else none
def claim0(σ:Env):Option Nat:=match σ.slots 0 with
 | .own r _=>some r
 | .ba b 0=>some b
 | _=>none
def finA(no:Nat→Bool)(σ:Env):Option AV:=match σ.slots 0 with
 | .own r g=>match σ.objs r with
   | some (.row e k xs g' false)=>if g'=g then some (.fr e k xs)else none
   | _=>none
 | .ba b 0=>match σ.objs b with
   | some (.box cs false)=>(mapO (expt no σ.objs DEPTH) cs).map .fb
   | _=>none
 | _=>none
def packA:List AV→AV
 | [v]=>v
 | vs=> .tup vs
def resultsI(P:Program)(fn:Func)(σ:Env):Option AV:=if σ.n.z then(claim0 σ).bind fun id=>
    (mapO (fun(r,ty)=>convR P σ (fun r=>r == id) true ty r) (fn.results.toList.zip fn.resultTypes.toList)).bind fun vs=>
     if vs.length=fn.results.size then(finA (fun r=>r == id) σ).map (.inp (packA vs))else none
 else none
def resA(P:Program)(bv:Bool)(f:Nat)(fn:Func)(σ:Env):Option AV:=if inplB P f then resultsI P fn σ else resultsA P bv fn σ
structure Cfg where
 fn:Nat→FCfg
 leaf:Nat→Option (Callee→List AV→Option AV)
def frame0(args:List AV)(n:Nat)(z:Bool):Env:={ slots:=mkS ((recvL 0 args).1.zipIdx.map fun p=>(p.2,p.1)),objs:=mkO (recvL 0 args).2,n:=⟨max args.length n,z⟩ }
def guardC(P:Program)(q:Bool)(C:Callee):Callee:=fun f args=>bif q && !quietB P f then none else C f args
theorem guard_no(P:Program)(C:Callee):guardC P false C=C:=rfl
theorem guard_q{P:Program}{C:Callee}{f:Nat}(h:quietB P f=true)(args:List AV):guardC P true C f args=C f args:=by
 unfold guardC
 rw[h]
 rfl
noncomputable def bodyA(P:Program)(cfg:Cfg)(C:Callee)(f:Nat)(fn:Func)(args:List AV):Option AV:=
 match fn.body with
 | some c=>match execA P (guardC P (quietB P f) C) (cfg.fn f) c (frame0 args fn.ntmps (inplB P f&&headFr args))with
   | some (.normal,τ)=>resA P (cfg.fn f).byval f fn τ
   | some (.ret,τ)=>resA P (cfg.fn f).byval f fn τ
   | _=>none
 | none=>none
noncomputable def callA(P:Program)(cfg:Cfg):Nat→Callee
 | 0=>fun _ _=>none
 | n+1=>fun f args=>match cfg.leaf f with
   | some L=>L (callA P cfg n) args
   | none=>match P.funcs[f]? with
     | some fn=>bodyA P cfg (callA P cfg n) f fn args
     | none=>none
end Go.Abs
set_option linter.unusedVariables false
set_option linter.unusedSimpArgs false
namespace Go.Abs
open Go.RowKit
theorem viewStore_drawn{P:Program}{w:World}{a k:Addr}{u:TypeId}{v:Value}{b:Bool}{r:World×List Addr}(h:w.viewStore P a u k v b= .ok r):r.1.drawn=w.drawn:=by
 unfold World.viewStore at h
 simp only[bind,Except.bind,pure,Except.pure]at h
 repeat' (split at h<;>try (cases h))
 all_goals rfl
theorem ask_drawn{α:Type}:∀(s:Ask α)(w:World),w.drawn≤(w.ask s).2.drawn
 | .done a,w=>Nat.le_refl _
 | .ask what range k,w=>by
   simp only[World.ask]
   split
   ·exact ask_drawn _ _
   ·have h2:=ask_drawn (k ((Question.extern what range).cut (w.tape w.drawn (Question.extern what range)))) { w with drawn:=w.drawn+1 }
    exact Nat.le_of_succ_le h2
theorem run_drawn{α:Type}{P:Program}:∀(s:Sem α)(w:World)(v:α)(w':World),s.run P w= .ok v w'→w.drawn≤w'.drawn:=by
 intro s
 induction s with
 | pure a=>intro w v w' h;cases h;exact Nat.le_refl _
 | load m a k ih=>
   intro w v w' h
   simp only[Sem.run]at h
   split at h
   ·exact ih _ _ _ _ h
   ·split at h
    ·exact ih _ _ _ _ h
    ·cases h
 | store m a v k ih=>
   intro w v' w' h
   have h1:∀w2,w.farStore P a v (m == Mode.atomic)= .ok w2→w2.1.drawn=w.drawn:=fun w2 he=>by
    unfold World.farStore at he
    split at he
    ·split at he
     ·rename_i r hr
      cases he
      exact viewStore_drawn hr
     ·cases he
    ·cases he
   cases v<;>simp only[Sem.run]at h<;>first
    | (exfalso;cases h;done)
    | (split at h
       ·split at h
        ·cases h
        ·have h2:=ih _ _ _ h
         exact h2
       ·split at h
        ·rename_i w2 l he
         rw[← h1 _ he]
         exact ih _ _ _ h
        ·cases h)
 | new o k ih=>intro w v w' h;simp only[Sem.run]at h;have h2:=ih _ _ _ _ h;exact h2
 | shape r k ih=>intro w v w' h;simp only[Sem.run]at h;exact ih _ _ _ _ h
 | freeze a n k ih=>
   intro w v w' h
   have e:(w.freeze a n).drawn=w.drawn:=by
    unfold World.freeze
    split<;>rfl
   rw[← e]
   exact ih _ _ _ h
 | frozen a k ih=>intro w v w' h;simp only[Sem.run]at h;exact ih _ _ _ _ h
 | getObj r k ih=>
   intro w v w' h
   simp only[Sem.run]at h
   split at h
   ·cases h
   ·exact ih _ _ _ _ h
   ·cases h
 | setObj r o k ih=>
   intro w v w' h
   simp only[Sem.run]at h
   split at h
   ·cases h
   ·have h2:=ih _ _ _ h
    exact h2
   ·cases h
 | choose q k ih=>
   intro w v w' h
   simp only[Sem.run]at h
   split at h
   ·exact ih _ _ _ _ h
   ·have h2:=ih _ _ _ _ h
    exact Nat.le_of_succ_le h2
 | sys c k ih=>
   intro w v w' h
   have e:w.drawn≤(w.sys c).2.drawn:=by
    unfold World.sys
    split
    ·exact Nat.le_refl _
    ·rename_i r os w2 _ he
     have h2:=ask_drawn (Kernel.perform c w.os) w
     rw[he]at h2
     exact h2
   have h:(k (w.sys c).1).run P (w.sys c).2= .ok v w':=h
   exact Nat.le_trans e (ih (w.sys c).1 (w.sys c).2 v w' h)
 | program k ih=>intro w v w' h;exact ih _ _ _ _ h
 | mark m k ih=>intro w v w' h;exact ih _ _ _ h
 | halt h=>intro w v w' hh;cases hh
structure RelP where
 val:Value→Prop
 mem:(Nat→Option Value)→Prop
 n:Nat
def one(p:Value→Prop):RelP:=⟨p,fun get=>∃u,get 0=some u∧p u,1⟩
def AllV(rs:List RelP)(vs:List Value):Prop:=rs.length=vs.length∧∀(i:Nat) r u,rs[i]? = some r→vs[i]? = some u→r.val u
def AllM(rs:List RelP)(get:Nat→Option Value):Prop:=∀(i:Nat) r,rs[i]? = some r→∃u,get i=some u∧r.val u
def blkOf:Value→Option Nat
 | .slice (some a) _ _=>some a.block
 | .pointer (some a)=>some a.block
 | .map (some b)=>some b
 | _=>none
abbrev at_(b o:Nat):Addr:=⟨b,o,none⟩
section
variable (S:Nat→Prop) (w:World) (κ:Nat→Value)
mutual
def Rel:(Nat→Option AObj)→AV→RelP
 | _,.undef=>one fun _=>True
 | _,.und=>one fun v=>v=undef
 | _,.int k n=>one fun v=>v= .int k n
 | _,.bool b=>one fun v=>v= .bool b
 | _,.str s=>one fun v=>v= .string s
 | objs,.agg cs=>⟨fun v=>∃vs:List Value,v= .agg vs.toArray∧AllV (RelL objs cs) vs,AllM (RelL objs cs),cs.length⟩
 | _,.sl xs=>one fun v=>∃A c,v= .slice A xs.length c∧xs.length≤c∧c≤maxLen∧(xs≠[]→∃b o k,A=some (at_ b o)∧S b∧
  ∀(j:Nat) r,(RelL (fun _=>none) xs)[j]? = some r→r.n=k∧r.mem (fun i=>w.cell? (at_ b (o+j*k+i))))
 | _,.nils=>one fun v=>v= .slice none 0 0
 | _,.pp nl cs=>one fun v=>if nl=true then v= .pointer none else ∃b o,v= .pointer (some (at_ b o))∧S b∧AllM (RelL (fun _=>none) cs) (fun i=>w.cell? (at_ b (o+i)))
 | objs,.fn f caps=>one fun v=>∃vs:List Value,v= .func (.func f) #[] vs.toArray∧AllV (RelL objs caps) vs
 | objs,.tup xs=>one fun v=>∃vs:List Value,v= .tuple vs.toArray∧AllV (RelL objs xs) vs
 | _,.ia cs off=>one fun v=>∃b o,v= .pointer (some (at_ b (o+off)))∧S b∧AllM (RelL (fun _=>none) cs) (fun i=>w.cell? (at_ b (o+i)))
 | _,.bp cs=>one fun v=>∃b,v= .pointer (some (at_ b 0))∧S b∧AllM (RelL (fun _=>none) cs) (fun i=>w.cell? (at_ b i))
 | objs,.own r g=>one fun v=>∃e k xs g' fz,objs r=some (.row e k xs g' fz)∧g≤g'∧(g=g'→v=κ r)
 | objs,.oa r g i off=>one fun v=>∃e k xs g' fz,objs r=some (.row e k xs g' fz)∧g≤g'∧(g=g'→∃b,blkOf (κ r)=some b∧v= .pointer (some (at_ b (i*k+off))))
 | objs,.vw r g i=>one fun v=>∃e k xs g' fz,objs r=some (.row e k xs g' fz)∧g≤g'∧(g=g'→∃A n c,κ r= .slice A n c∧i≤n∧v= .slice (if c=i then A else A.map (·.add (i*k))) (n-i) (c-i))
 | objs,.ba b off=>one fun v=>∃cs fz,objs b=some (.box cs fz)∧∃blk,κ b= .pointer (some (at_ blk 0))∧v= .pointer (some (at_ blk off))
 | objs,.mr b=>one fun v=>∃ks vs fz,objs b=some (.mp ks vs fz)∧∃blk,κ b= .map (some blk)∧v= .map (some blk)
 | _,.mv ks vs=>one fun v=>∃blk es clock,v= .map (some blk)∧S blk∧w.heap[blk]? = some (.map es clock)∧AllV (RelL (fun _=>none) ks) (es.toList.map (·.key))∧AllV (RelL (fun _=>none) vs) (es.toList.map (·.val))∧MapKept.Stamped es clock
 | _,.fr _ _ _=>one fun _=>False
 | _,.fb _=>one fun _=>False
 | _,.inp _ _=>one fun _=>False
def RelL:(Nat→Option AObj)→List AV→List RelP
 | _,[]=>[]
 | objs,x::xs=>Rel objs x::RelL objs xs
end
end
def isFz:AObj→Bool
 | .row _ _ _ _ fz=>fz
 | .box _ fz=>fz
 | .mp _ _ fz=>fz
structure Base where
 w:World
 own:Nat→Prop
 lt:∀k,own k→k<w.heap.size
 /-- The first argument,where what it leads to is turned. -/
 arg:Value:=undef
 /-- Whether it must be known that draws are only added. -/
 dr:Bool:=true
def Base.mine(b:Base)(k:Nat):Prop:=b.own k∨b.w.heap.size≤k
def base0(w:World)(d:Bool:=true):Base:=⟨w,fun _=>False,fun _ h=>h.elim,undef,d⟩
structure BelowB(b:Base)(w':World):Prop where
 os:w'.os=b.w.os
 tape:w'.tape=b.w.tape
 output:w'.output=b.w.output
 size:b.w.heap.size≤w'.heap.size
 block:∀k,k<b.w.heap.size→¬b.own k→w'.heap[k]? = b.w.heap[k]?
 drawn:b.dr=true→b.w.drawn≤w'.drawn
def Sset(F:Nat→Prop)(B:Nat→Prop)(w:World)(κ:Nat→Value)(objs:Nat→Option AObj)(k:Nat):Prop:=
 (F k∨B k)∧k<w.heap.size∧∀id o,objs id=some o→isFz o=false→blkOf (κ id)≠some k
def RowOK(S:Nat→Prop)(w:World)(B:Nat)(v:Value)(e k:Nat)(xs:List AV):Prop:=
 0<k∧∃zs:List Value,w.ownsRow B e k v xs.length zs∧(∀ u∈zs,u.oneCell'=true)∧
  ∀(j:Nat) r,(RelL S w (fun _=>undef) (fun _=>none) xs)[j]? = some r→r.n=k∧r.mem (fun i=>zs[j*k+i]?)
def BoxOK(S:Nat→Prop)(w:World)(v:Value)(cs:List AV):Prop:=
 ∃blk T arr,v= .pointer (some (at_ blk 0))∧w.heap[blk]? = some (.cells arr T (0,0))∧AllV (RelL S w (fun _=>undef) (fun _=>none) cs) arr.toList
def MapOK(S:Nat→Prop)(w:World)(B:Nat)(v:Value)(ks vs:List AV):Prop:=
 ∃blk es clock,v= .map (some blk)∧B≤blk∧w.heap[blk]? = some (.map es clock)∧AllV (RelL S w (fun _=>undef) (fun _=>none) ks) (es.toList.map (·.key))∧AllV (RelL S w (fun _=>undef) (fun _=>none) vs) (es.toList.map (·.val))∧MapKept.Stamped es clock
def ObjOK(S:Nat→Prop)(w:World)(κ:Nat→Value)(objs:Nat→Option AObj)(B:Nat)(id:Nat):AObj→Prop
 | .row e k xs _ _=>RowOK S w B (κ id) e k xs
 | .box cs _=>∃blk T arr,κ id= .pointer (some (at_ blk 0))∧B≤blk∧w.heap[blk]? = some (.cells arr T (0,0))∧AllV (RelL S w κ objs cs) arr.toList
 | .mp ks vs _=>MapOK S w B (κ id) ks vs
structure St(F:Nat→Prop)(w0:Base)(κ:Nat→Value)(σ:Env)(a:Act)(w:World):Prop where
 slots:∀t,(Rel (Sset F w0.mine w κ σ.objs) w κ σ.objs (σ.slots t)).val (a.tmps.getD t undef)
 objs:∀id o,σ.objs id=some o→ObjOK (Sset F w0.mine w κ σ.objs) w κ σ.objs 0 id o
 apart:∀i j oi oj,σ.objs i=some oi→σ.objs j=some oj→i≠j→∀b,blkOf (κ i)=some b→blkOf (κ j)≠some b
 below:BelowB w0 w
 defers:a.defers=[]
 size:σ.n.n≤a.tmps.size
 mine:∀id o b,σ.objs id=some o→blkOf (κ id)=some b→w0.mine b
 fix:σ.n.z=true→a.tmps.getD 0 undef=w0.arg
theorem BelowB.refl(b:Base):BelowB b b.w:=⟨rfl,rfl,rfl,Nat.le_refl _,fun _ _ _=>rfl,fun _=>Nat.le_refl _⟩
theorem BelowB.next{b:Base}{w w':World}(h:BelowB b w)(k:Below w.heap.size w w')(hd:b.dr=true→w.drawn≤w'.drawn):BelowB b w':=
 ⟨k.os.trans h.os,k.tape.trans h.tape,k.output.trans h.output,Nat.le_trans h.size k.size,fun i hi ho=>(k.block i (Nat.lt_of_lt_of_le hi h.size)).trans (h.block i hi ho),fun q=>Nat.le_trans (h.drawn q) (hd q)⟩
theorem BelowB.turn{b:Base}{w w':World}(h:BelowB b w)(h1:w'.os=w.os)(h2:w'.tape=w.tape)(h3:w'.output=w.output)(h4:w.heap.size≤w'.heap.size)(r:Option Nat)(h5:∀k,k<w.heap.size→r≠some k→w'.heap[k]? = w.heap[k]?)(h6:∀k,r=some k→b.mine k)(hd:b.dr=true→w.drawn≤w'.drawn):BelowB b w':=
 ⟨h1.trans h.os,h2.trans h.tape,h3.trans h.output,Nat.le_trans h.size h4,fun i hi ho=>(h5 i (Nat.lt_of_lt_of_le hi h.size) fun e=>by
  rcases h6 i e with h7|h7
  ·exact ho h7
  ·omega).trans (h.block i hi ho),fun q=>Nat.le_trans (h.drawn q) (hd q)⟩
theorem base0_mine{w:World}{k:Nat}{d:Bool}:(base0 w d).mine k↔w.heap.size≤k:=⟨fun h=>h.elim (fun h=>h.elim) id,.inr⟩
theorem BelowB.base0{w w':World}{d:Bool}(h:Below w.heap.size w w')(hd:d=true→w.drawn≤w'.drawn):BelowB (base0 w d) w':=⟨h.os,h.tape,h.output,h.size,fun k hk _=>h.block k hk,hd⟩
theorem BelowB.to0{w w':World}{d:Bool}(h:BelowB (Go.Abs.base0 w d) w'):Below w.heap.size w w':=⟨h.os,h.tape,h.output,h.size,fun k hk=>h.block k hk fun h=>h.elim⟩
theorem RelL_length(S:Nat→Prop)(w:World)(κ:Nat→Value)(objs:Nat→Option AObj):∀xs,(RelL S w κ objs xs).length=xs.length
 | []=>by simp[RelL]
 | x::xs=>by simp[RelL,RelL_length S w κ objs xs]
theorem RelL_get(S:Nat→Prop)(w:World)(κ:Nat→Value)(objs:Nat→Option AObj):∀xs (i:Nat),(RelL S w κ objs xs)[i]? = (xs[i]?).map (Rel S w κ objs)
 | [],i=>by simp[RelL]
 | x::xs,0=>by simp[RelL]
 | x::xs,i+1=>by simp[RelL,RelL_get S w κ objs xs i]
def ObjLe(objs:Nat→Option AObj)(κ:Nat→Value)(objs':Nat→Option AObj)(κ':Nat→Value):Prop:=
 ∀id o,objs id=some o→match o with
  | .row e k _ g _=>∃xs' g' fz',objs' id=some (.row e k xs' g' fz')∧g≤g'∧(g=g'→κ' id=κ id)
  | .box _ _=>∃cs' fz',objs' id=some (.box cs' fz')∧κ' id=κ id
  | .mp _ _ _=>∃ks' vs' fz',objs' id=some (.mp ks' vs' fz')∧κ' id=κ id
theorem ObjLe.refl(objs:Nat→Option AObj)(κ:Nat→Value):ObjLe objs κ objs κ:=by
 intro id o h
 cases o with
 | row e k xs g fz=>exact⟨xs,g,fz,h,Nat.le_refl _,fun _=>rfl⟩
 | box cs fz=>exact⟨cs,fz,h,rfl⟩
 | mp ks vs fz=>exact⟨ks,vs,fz,h,rfl⟩
theorem ObjLe.none(κ κ':Nat→Value):ObjLe (fun _=>none) κ (fun _=>none) κ':=by intro id o h;cases h
structure RLe(r r':RelP):Prop where
 val:∀v,r.val v→r'.val v
 mem:∀get,r.mem get→r'.mem get
 n:r'.n=r.n
theorem RLe.one{p q:Value→Prop}(h:∀v,p v→q v):RLe (one p) (one q):=⟨h,fun get ⟨u,h1,h2⟩=>⟨u,h1,h _ h2⟩,rfl⟩
def RLeL(rs rs':List RelP):Prop:=rs.length=rs'.length∧∀(i:Nat) r r',rs[i]? = some r→rs'[i]? = some r'→RLe r r'
theorem RLeL.allV{rs rs':List RelP}(h:RLeL rs rs'){vs:List Value}(hv:AllV rs vs):AllV rs' vs:=by
 refine⟨h.1.symm.trans hv.1,fun i r u hr hu=>?_⟩
 have hi:i<rs.length:=by rw[h.1];exact(List.getElem?_eq_some_iff.1 hr).1
 exact(h.2 i _ _ (List.getElem?_eq_getElem hi) hr).val _ (hv.2 i _ _ (List.getElem?_eq_getElem hi) hu)
theorem RLeL.allM{rs rs':List RelP}(h:RLeL rs rs'){get:Nat→Option Value}(hv:AllM rs get):AllM rs' get:=by
 intro i r hr
 have hi:i<rs.length:=by rw[h.1];exact(List.getElem?_eq_some_iff.1 hr).1
 obtain⟨u,h1,h2⟩:=hv i _ (List.getElem?_eq_getElem hi)
 exact⟨u,h1,(h.2 i _ _ (List.getElem?_eq_getElem hi) hr).val _ h2⟩
theorem AllM.congr{rs:List RelP}{get get':Nat→Option Value}(h:∀i,get i=get' i)(hv:AllM rs get):AllM rs get':=by
 have:get=get':=funext h
 rwa[← this]
mutual
theorem Rel_mono'{S S':Nat→Prop}{w w':World}{κ κ':Nat→Value}(hS:∀k,S k→S' k)(hw:∀k,S k→w'.heap[k]? = w.heap[k]?){objs objs':Nat→Option AObj}(ho:ObjLe objs κ objs' κ'):∀x,RLe (Rel S w κ objs x) (Rel S' w' κ' objs' x)
 | .undef=>by simp only[Rel];exact RLe.one fun _ h=>h
 | .und=>by simp only[Rel];exact RLe.one fun _ h=>h
 | .int k n=>by simp only[Rel];exact RLe.one fun _ h=>h
 | .bool b=>by simp only[Rel];exact RLe.one fun _ h=>h
 | .str s=>by simp only[Rel];exact RLe.one fun _ h=>h
 | .agg cs=>by
   simp only[Rel]
   exact⟨fun v ⟨vs,h1,h2⟩=>⟨vs,h1,(RelL_mono' hS hw ho cs).allV h2⟩,fun get h=>(RelL_mono' hS hw ho cs).allM h,rfl⟩
 | .sl xs=>by
   simp only[Rel]
   refine RLe.one fun v ⟨A,c,h1,h2,h2',h3⟩=>⟨A,c,h1,h2,h2',fun hne=>?_⟩
   obtain⟨b,o,k,rfl,hb,hm⟩:=h3 hne
   refine⟨b,o,k,rfl,hS _ hb,fun j r hr=>?_⟩
   have hL:=RelL_mono' hS hw (ObjLe.none κ κ') xs
   have hi:j<(RelL S w κ (fun _=>none) xs).length:=by rw[hL.1];exact(List.getElem?_eq_some_iff.1 hr).1
   have hle:=hL.2 j _ _ (List.getElem?_eq_getElem hi) hr
   obtain⟨h4,h5⟩:=hm j _ (List.getElem?_eq_getElem hi)
   refine⟨hle.n.trans h4,?_⟩
   have e:(fun i=>w'.cell? (at_ b (o+j*k+i)))=(fun i=>w.cell? (at_ b (o+j*k+i))):=by
    funext i
    exact World.cell?_of_block (w:=w) (hw b hb)
   rw[e]
   exact hle.mem _ h5
 | .nils=>by simp only[Rel];exact RLe.one fun _ h=>h
 | .pp nl cs=>by
   simp only[Rel]
   refine RLe.one fun v hv=>?_
   cases nl with
   | true=>exact hv
   | false=>
     obtain⟨b,o,h1,hb,h2⟩:=hv
     refine⟨b,o,h1,hS _ hb,?_⟩
     have e:(fun i=>w'.cell? (at_ b (o+i)))=(fun i=>w.cell? (at_ b (o+i))):=by
      funext i
      exact World.cell?_of_block (w:=w) (hw b hb)
     rw[e]
     exact(RelL_mono' hS hw (ObjLe.none κ κ') cs).allM h2
 | .fn f caps=>by simp only[Rel];exact RLe.one fun v ⟨vs,h1,h2⟩=>⟨vs,h1,(RelL_mono' hS hw ho caps).allV h2⟩
 | .tup xs=>by simp only[Rel];exact RLe.one fun v ⟨vs,h1,h2⟩=>⟨vs,h1,(RelL_mono' hS hw ho xs).allV h2⟩
 | .ia cs off=>by
   simp only[Rel]
   refine RLe.one fun v ⟨b,o,h1,hb,h2⟩=>⟨b,o,h1,hS _ hb,?_⟩
   have e:(fun i=>w'.cell? (at_ b (o+i)))=(fun i=>w.cell? (at_ b (o+i))):=by
    funext i
    exact World.cell?_of_block (w:=w) (hw b hb)
   rw[e]
   exact(RelL_mono' hS hw (ObjLe.none κ κ') cs).allM h2
 | .bp cs=>by
   simp only[Rel]
   refine RLe.one fun v ⟨b,h1,hb,h2⟩=>⟨b,h1,hS _ hb,?_⟩
   have e:(fun i=>w'.cell? (at_ b i))=(fun i=>w.cell? (at_ b i)):=by
    funext i
    exact World.cell?_of_block (w:=w) (hw b hb)
   rw[e]
   exact(RelL_mono' hS hw (ObjLe.none κ κ') cs).allM h2
 | .own r g=>by
   simp only[Rel]
   refine RLe.one fun v ⟨e,k,xs,g',fz,h1,h2,h3⟩=>?_
   obtain⟨xs',g2,fz',h4,h5,h6⟩:=ho _ _ h1
   refine⟨e,k,xs',g2,fz',h4,Nat.le_trans h2 h5,fun e=>?_⟩
   have e1:g'=g2:=by omega
   rw[h6 e1]
   exact h3 (by omega)
 | .oa r g i off=>by
   simp only[Rel]
   refine RLe.one fun v ⟨e,k,xs,g',fz,h1,h2,h3⟩=>?_
   obtain⟨xs',g2,fz',h4,h5,h6⟩:=ho _ _ h1
   refine⟨e,k,xs',g2,fz',h4,Nat.le_trans h2 h5,fun e=>?_⟩
   have e1:g'=g2:=by omega
   rw[h6 e1]
   exact h3 (by omega)
 | .vw r g i=>by
   simp only[Rel]
   refine RLe.one fun v ⟨e,k,xs,g',fz,h1,h2,h3⟩=>?_
   obtain⟨xs',g2,fz',h4,h5,h6⟩:=ho _ _ h1
   refine⟨e,k,xs',g2,fz',h4,Nat.le_trans h2 h5,fun e=>?_⟩
   have e1:g'=g2:=by omega
   rw[h6 e1]
   exact h3 (by omega)
 | .ba b off=>by
   simp only[Rel]
   refine RLe.one fun v ⟨cs,fz,h1,blk,h2,h3⟩=>?_
   obtain⟨cs',fz',h4,h5⟩:=ho _ _ h1
   exact⟨cs',fz',h4,blk,by rw[h5];exact h2,h3⟩
 | .mr b=>by
   simp only[Rel]
   refine RLe.one fun v ⟨ks,vs,fz,h1,blk,h2,h3⟩=>?_
   obtain⟨ks',vs',fz',h4,h5⟩:=ho _ _ h1
   exact⟨ks',vs',fz',h4,blk,by rw[h5];exact h2,h3⟩
 | .mv ks vs=>by
   simp only[Rel]
   refine RLe.one fun v ⟨blk,es,clock,h1,h2,h3,h4,h5,h6⟩=>⟨blk,es,clock,h1,hS _ h2,by rw[hw _ h2];exact h3,(RelL_mono' hS hw (ObjLe.none κ κ') ks).allV h4,(RelL_mono' hS hw (ObjLe.none κ κ') vs).allV h5,h6⟩
 | .fr _ _ _=>by simp only[Rel];exact RLe.one fun _ h=>h
 | .fb _=>by simp only[Rel];exact RLe.one fun _ h=>h
 | .inp _ _=>by simp only[Rel];exact RLe.one fun _ h=>h
theorem RelL_mono'{S S':Nat→Prop}{w w':World}{κ κ':Nat→Value}(hS:∀k,S k→S' k)(hw:∀k,S k→w'.heap[k]? = w.heap[k]?){objs objs':Nat→Option AObj}(ho:ObjLe objs κ objs' κ'):∀xs,RLeL (RelL S w κ objs xs) (RelL S' w' κ' objs' xs)
 | []=>⟨by simp[RelL],fun i r r' h=>by simp[RelL]at h⟩
 | x::xs=>by
   have h1:=Rel_mono' hS hw ho x
   have h2:=RelL_mono' hS hw ho xs
   refine⟨by simp[RelL_length],fun i r r' hr hr'=>?_⟩
   cases i with
   | zero=>
     simp only[RelL,List.getElem?_cons_zero,Option.some.injEq]at hr hr'
     subst hr;subst hr'
     exact h1
   | succ i=>
     simp only[RelL,List.getElem?_cons_succ]at hr hr'
     exact h2.2 i _ _ hr hr'
end
theorem Rel_mono{S S':Nat→Prop}{w w':World}{κ κ':Nat→Value}{objs objs':Nat→Option AObj}(hS:∀k,S k→S' k)(hw:∀k,S k→w'.heap[k]? = w.heap[k]?)(ho:ObjLe objs κ objs' κ')(x:AV):RLe (Rel S w κ objs x) (Rel S' w' κ' objs' x):=Rel_mono' hS hw ho x
theorem RelL_mono{S S':Nat→Prop}{w w':World}{κ κ':Nat→Value}{objs objs':Nat→Option AObj}(hS:∀k,S k→S' k)(hw:∀k,S k→w'.heap[k]? = w.heap[k]?)(ho:ObjLe objs κ objs' κ')(xs:List AV):RLeL (RelL S w κ objs xs) (RelL S' w' κ' objs' xs):=RelL_mono' hS hw ho xs
end Go.Abs
set_option linter.unusedVariables false
set_option linter.unusedSimpArgs false
namespace Go.Abs
open Go.RowKit
theorem upd_same{α:Type}(s:Nat→α)(i:Nat)(v:α):upd s i v i=v:=by simp[upd]
theorem upd_ne{α:Type}(s:Nat→α){i j:Nat}(v:α)(h:j≠i):upd s i v j=s j:=by simp[upd,h]
def orFz:AObj→Bool→AObj
 | .row e k xs g f,fz=> .row e k xs g (f||fz)
 | .box cs f,fz=> .box cs (f||fz)
 | .mp ks vs f,fz=> .mp ks vs (f||fz)
theorem orFz_false(o:AObj):orFz o false=o:=by cases o<;>simp[orFz]
theorem freeze_some:∀(l:List Nat)(objs:Nat→Option AObj)(id:Nat)(o:AObj),objs id=some o→
  ∃fz,freeze objs l id=some (orFz o fz)
 | [],objs,id,o,h=>⟨false,by rw[orFz_false];exact h⟩
 | r::rs,objs,id,o,h=>by
   simp only[freeze]
   cases hr:objs r with
   | none=>exact freeze_some rs objs id o h
   | some q=>
     by_cases e:id=r
     ·subst e
      rw[h]at hr
      cases hr
      cases o with
      | row e' k xs g f=>
        obtain⟨fz,hz⟩:=freeze_some rs (upd objs id (some (.row e' k xs g true))) id _ (upd_same _ _ _)
        exact⟨true,by simp only at hz ⊢;rw[hz];simp[orFz]⟩
      | box cs f=>
        obtain⟨fz,hz⟩:=freeze_some rs (upd objs id (some (.box cs true))) id _ (upd_same _ _ _)
        exact⟨true,by simp only at hz ⊢;rw[hz];simp[orFz]⟩
      | mp ks vs f=>
        obtain⟨fz,hz⟩:=freeze_some rs (upd objs id (some (.mp ks vs true))) id _ (upd_same _ _ _)
        exact⟨true,by simp only at hz ⊢;rw[hz];simp[orFz]⟩
     ·cases q<;>exact freeze_some rs _ id o (by rw[upd_ne _ _ e];exact h)
theorem freeze_none:∀(l:List Nat)(objs:Nat→Option AObj)(id:Nat),objs id=none→freeze objs l id=none
 | [],objs,id,h=>h
 | r::rs,objs,id,h=>by
   simp only[freeze]
   cases hr:objs r with
   | none=>exact freeze_none rs objs id h
   | some q=>
     have e:id≠r:=by intro e;subst e;rw[h]at hr;cases hr
     cases q<;>exact freeze_none rs _ id (by rw[upd_ne _ _ e];exact h)
theorem freeze_back{l:List Nat}{objs:Nat→Option AObj}{id:Nat}{o:AObj}(h:freeze objs l id=some o) :
  ∃o',objs id=some o'∧(∃ fz,o=orFz o' fz):=by
 cases ho:objs id with
 | none=>rw[freeze_none l objs id ho]at h;cases h
 | some o'=>
   obtain⟨fz,hz⟩:=freeze_some l objs id o' ho
   rw[hz]at h
   exact⟨o',rfl,fz,(Option.some.inj h).symm⟩
theorem RowOK.lt{S:Nat→Prop}{w:World}{B:Nat}{v:Value}{e k:Nat}{xs:List AV}(h:RowOK S w B v e k xs){b:Nat}(hb:blkOf v=some b):B≤b∧b<w.heap.size:=by
 obtain⟨_,zs,ho,_⟩:=h
 rcases ho.2 with⟨rfl,_⟩|⟨g,cap,cur,rfl,h1,h2,_⟩
 ·simp[blkOf]at hb
 ·simp[blkOf]at hb
  subst hb
  exact⟨h1,(Array.getElem?_eq_some_iff.1 h2).1⟩
theorem ObjOK.lt{S:Nat→Prop}{w:World}{κ:Nat→Value}{objs:Nat→Option AObj}{B id:Nat}{o:AObj}(h:ObjOK S w κ objs B id o){b:Nat}(hb:blkOf (κ id)=some b):B≤b∧b<w.heap.size:=by
 cases o with
 | row e k xs g fz=>exact RowOK.lt h hb
 | box cs fz=>
   obtain⟨blk,T,arr,h1,h2,h3,_⟩:=h
   rw[h1]at hb
   simp[blkOf]at hb
   subst hb
   exact⟨h2,(Array.getElem?_eq_some_iff.1 h3).1⟩
 | mp ks vs fz=>
   obtain⟨blk,es,clock,h1,h2,h3,_⟩:=h
   rw[h1]at hb
   simp[blkOf]at hb
   subst hb
   exact⟨h2,(Array.getElem?_eq_some_iff.1 h3).1⟩
theorem ownsRow_same{w w':World}{B e k:Nat}{v:Value}{n:Nat}{zs:List Value}(h:w.ownsRow B e k v n zs)(hb:∀b,blkOf v=some b→w'.heap[b]? = w.heap[b]?):w'.ownsRow B e k v n zs:=by
 refine⟨h.1,?_⟩
 rcases h.2 with hn|⟨g,cap,cur,rfl,h1,h2,h3⟩
 ·exact .inl hn
 ·exact .inr ⟨g,cap,cur,rfl,h1,by rw[hb g rfl];exact h2,h3⟩
theorem RowOK.mono{S S':Nat→Prop}{w w':World}{B B':Nat}{v:Value}{e k:Nat}{xs:List AV}(h:RowOK S w B v e k xs)(hS:∀k,S k→S' k)(hw:∀k,S k→w'.heap[k]? = w.heap[k]?)
  (hb:∀b,blkOf v=some b→w'.heap[b]? = w.heap[b]? ∧ B'≤b):RowOK S' w' B' v e k xs:=by
 obtain⟨h0,zs,h1,h2,h3⟩:=h
 refine⟨h0,zs,?_,h2,fun j r hr=>?_⟩
 ·have:=ownsRow_same h1 (fun b e=>(hb b e).1)
  refine⟨this.1,?_⟩
  rcases this.2 with hn|⟨g,cap,cur,rfl,h4,h5⟩
  ·exact .inl hn
  ·exact .inr ⟨g,cap,cur,rfl,(hb g rfl).2,h5⟩
 ·have hL:=RelL_mono hS hw (ObjLe.none (fun _=>undef) (fun _=>undef)) xs
  have hi:j<(RelL S w (fun _=>undef) (fun _=>none) xs).length:=by rw[hL.1];exact(List.getElem?_eq_some_iff.1 hr).1
  have hle:=hL.2 j _ _ (List.getElem?_eq_getElem hi) hr
  obtain⟨h4,h5⟩:=h3 j _ (List.getElem?_eq_getElem hi)
  exact⟨hle.n.trans h4,hle.mem _ h5⟩
theorem ObjOK.mono{S S':Nat→Prop}{w w':World}{κ κ':Nat→Value}{objs objs':Nat→Option AObj}{B id:Nat}{o:AObj}(h:ObjOK S w κ objs B id o)(hS:∀k,S k→S' k)(hw:∀k,S k→w'.heap[k]? = w.heap[k]?)(ho:ObjLe objs κ objs' κ')
  (hk:κ' id=κ id) (hb:∀b,blkOf (κ id)=some b→w'.heap[b]? = w.heap[b]?):ObjOK S' w' κ' objs' B id o:=by
 cases o with
 | row e k xs g fz=>
   show RowOK S' w' B (κ' id) e k xs
   rw[hk]
   exact RowOK.mono h hS hw fun b e=>⟨hb b e,(RowOK.lt h e).1⟩
 | box cs fz=>
   obtain⟨blk,T,arr,h1,h2,h3,h4⟩:=h
   refine⟨blk,T,arr,hk.trans h1,h2,?_,(RelL_mono hS hw ho cs).allV h4⟩
   rw[hb blk (by rw[h1];rfl)]
   exact h3
 | mp ks vs fz=>
   obtain⟨blk,es,clock,h1,h2,h3,h4,h5,h6⟩:=h
   have hn:=ObjLe.none (fun _=>undef) (fun _=>undef)
   refine⟨blk,es,clock,hk.trans h1,h2,?_,(RelL_mono hS hw hn ks).allV h4,(RelL_mono hS hw hn vs).allV h5,h6⟩
   rw[hb blk (by rw[h1];rfl)]
   exact h3
theorem mapO_some{α β:Type}{f:α→Option β}:∀{l:List α}{r:List β},mapO f l=some r→r.length=l.length∧∀(i:Nat) x,l[i]? = some x→∃y,f x=some y∧r[i]? = some y
 | [],r,h=>by simp only[mapO,Option.some.injEq]at h;subst h;simp
 | x::xs,r,h=>by
   simp only[mapO]at h
   cases h1:f x with
   | none=>rw[h1]at h;simp at h
   | some y=>
     rw[h1]at h
     cases h2:mapO f xs with
     | none=>rw[h2]at h;simp at h
     | some ys=>
       rw[h2]at h
       simp only[Option.bind_some,Option.map_some,Option.some.injEq]at h
       subst h
       obtain⟨h3,h4⟩:=mapO_some h2
       refine⟨by simp[h3],fun i z hz=>?_⟩
       cases i with
       | zero=>
         simp only[List.getElem?_cons_zero,Option.some.injEq]at hz
         subst hz
         exact⟨y,h1,by simp⟩
       | succ i=>
         simp only[List.getElem?_cons_succ]at hz ⊢
         exact h4 i z hz
section
variable (S:Nat→Prop) (w:World) (κ:Nat→Value) (objs:Nat→Option AObj)
theorem cellV_sound(u:Value)(y:AV)(hy:cellV u=some y):(Rel S w κ objs y).val u:=by
 unfold cellV at hy
 split at hy<;>simp at hy<;>subst hy<;>simp[Rel,one]
theorem AllV_of{xs:List AV}{us:List Value}(hl:xs.length=us.length)(h:∀(i:Nat) x u,xs[i]? = some x→us[i]? = some u→(Rel S w κ objs x).val u):AllV (RelL S w κ objs xs) us:=by
 refine⟨by rw[RelL_length];exact hl,fun i r u hr hu=>?_⟩
 rw[RelL_get]at hr
 cases hx:xs[i]? with
 | none=>rw[hx]at hr;cases hr
 | some x=>
   rw[hx]at hr
   simp only[Option.map_some,Option.some.injEq]at hr
   subst hr
   exact h i x u hx hu
theorem AllV_get{xs:List AV}{us:List Value}(h:AllV (RelL S w κ objs xs) us):xs.length=us.length∧∀(i:Nat) x u,xs[i]? = some x→us[i]? = some u→(Rel S w κ objs x).val u:=by
 refine⟨by rw[← RelL_length S w κ objs];exact h.1,fun i x u hx hu=>h.2 i _ u ?_ hu⟩
 rw[RelL_get,hx]
 rfl
theorem ofV_sound(v:Value)(x:AV)(hv:ofV v=some x):(Rel S w κ objs x).val v:=by
 unfold ofV at hv
 split at hv
 ·rename_i cs
  cases hm:mapO cellV cs.toList with
  | none=>rw[hm]at hv;simp at hv
  | some ys=>
    rw[hm]at hv
    simp only[Option.map_some,Option.some.injEq]at hv
    subst hv
    simp only[Rel]
    obtain⟨h1,h2⟩:=mapO_some hm
    refine⟨cs.toList,by simp,AllV_of S w κ objs h1 fun i x u hx hu=>?_⟩
    obtain⟨y,h3,h4⟩:=h2 i u hu
    rw[h4]at hx
    cases hx
    exact cellV_sound S w κ objs _ _ h3
 ·rename_i f fi ca
  split at hv
  ·rename_i hz
   simp only[Option.some.injEq]at hv
   subst hv
   obtain⟨h1,h2⟩:=hz
   rw[Array.size_eq_zero_iff]at h1 h2
   subst h1;subst h2
   simp only[Rel,one]
   exact⟨[],rfl,by simp[AllV,RelL]⟩
  ·cases hv
 ·exact cellV_sound S w κ objs _ _ hv
mutual
theorem toV_sound:∀(x:AV)(v u:Value),toV x=some v→(Rel S w κ objs x).val u→u=v
 | .int k n,v,u,h,hr=>by simp only[toV,Option.some.injEq]at h;simp only[Rel,one]at hr;rw[hr,h]
 | .bool b,v,u,h,hr=>by simp only[toV,Option.some.injEq]at h;simp only[Rel,one]at hr;rw[hr,h]
 | .str s,v,u,h,hr=>by simp only[toV,Option.some.injEq]at h;simp only[Rel,one]at hr;rw[hr,h]
 | .agg cs,v,u,h,hr=>by
   simp only[toV]at h
   cases hc:toVs cs with
   | none=>rw[hc]at h;simp at h
   | some vs=>
     rw[hc]at h
     simp only[Option.map_some,Option.some.injEq]at h
     simp only[Rel]at hr
     obtain⟨us,h1,h2⟩:=hr
     rw[h1,←h,toVs_sound cs vs us hc h2]
 | .undef,v,u,h,hr=>by simp[toV]at h
 | .und,v,u,h,hr=>by simp[toV]at h
 | .sl _,v,u,h,hr=>by simp[toV]at h
 | .nils,v,u,h,hr=>by simp[toV]at h
 | .pp _ _,v,u,h,hr=>by simp[toV]at h
 | .fn _ _,v,u,h,hr=>by simp[toV]at h
 | .tup _,v,u,h,hr=>by simp[toV]at h
 | .ia _ _,v,u,h,hr=>by simp[toV]at h
 | .bp _,v,u,h,hr=>by simp[toV]at h
 | .own _ _,v,u,h,hr=>by simp[toV]at h
 | .oa _ _ _ _,v,u,h,hr=>by simp[toV]at h
 | .vw _ _ _,v,u,h,hr=>by simp[toV]at h
 | .ba _ _,v,u,h,hr=>by simp[toV]at h
 | .fr _ _ _,v,u,h,hr=>by simp[toV]at h
 | .fb _,v,u,h,hr=>by simp[toV]at h
 | .inp _ _,v,u,h,hr=>by simp[toV]at h
theorem toVs_sound:∀(xs:List AV)(vs us:List Value),toVs xs=some vs→AllV (RelL S w κ objs xs) us→us=vs
 | [],vs,us,h,hr=>by
   simp only[toVs,Option.some.injEq]at h
   subst h
   exact List.eq_nil_of_length_eq_zero hr.1.symm
 | x::xs,vs,us,h,hr=>by
   simp only[toVs]at h
   cases h1:toV x with
   | none=>rw[h1]at h;simp at h
   | some v=>
     rw[h1]at h
     cases h2:toVs xs with
     | none=>rw[h2]at h;simp at h
     | some vs'=>
       rw[h2]at h
       simp only[Option.bind_some,Option.map_some,Option.some.injEq]at h
       subst h
       cases us with
       | nil=>have:=hr.1;simp[RelL]at this
       | cons u us=>
         have e1:=toV_sound x v u h1 (hr.2 0 _ u (by simp[RelL]) (by simp))
         have e2:=toVs_sound xs vs' us h2 ⟨by have:=hr.1;simpa[RelL]using this,fun i r u' hr' hu'=>hr.2 (i+1) r u' (by simpa[RelL]using hr') (by simpa using hu')⟩
         rw[e1,e2]
end
end
theorem St.evA{F:Nat→Prop}{w0:Base}{κ:Nat→Value}{σ:Env}{a:Act}{w:World}(h:St F w0 κ σ a w)(x:Operand) :
  (Rel (Sset F w0.mine w κ σ.objs) w κ σ.objs (evA σ.slots x)).val (a.eval x):=by
 cases x with
 | tmp t=>exact h.slots t
 | func f=>
   simp only[Abs.evA,Rel,one,Act.eval]
   exact⟨[],rfl,by simp[AllV,RelL]⟩
 | global g=>simp[Abs.evA,Rel,one]
 | const v=>
   simp only[Abs.evA,Act.eval]
   cases hv:ofV v with
   | none=>simp[Rel,one]
   | some x=>exact ofV_sound _ _ _ _ _ _ hv
theorem getD_put{a:Act}{d:Nat}{v:Value}(t:Nat)(hd:d<a.tmps.size):(a.put (some d) v).tmps.getD t undef=if t=d then v else a.tmps.getD t undef:=by
 simp only[Act.put]
 by_cases h:t=d
 ·subst h;simp[Array.getD,hd]
 ·simp only[if_neg h]
  rw[Array.getD_eq_getD_getElem?,Array.getD_eq_getD_getElem?,Array.getElem?_setIfInBounds_ne (by omega)]
theorem Lim.ok_lt{l:Lim}{d:Nat}(h:l.ok d=true):d<l.n:=by
 unfold Lim.ok at h
 simp only[Bool.and_eq_true,decide_eq_true_eq]at h
 exact h.1
theorem Lim.ok_ne{l:Lim}{d:Nat}(h:l.ok d=true)(hz:l.z=true):d≠0:=by
 unfold Lim.ok at h
 rw[hz]at h
 have h2:=((Bool.and_eq_true _ _).mp h).2
 simpa using h2
theorem put_fix{l:Lim}{a:Act}{dst:Option Nat}{v:Value}(hd:dst.all l.ok=true)(hz:l.z=true):(a.put dst v).tmps.getD 0 undef=a.tmps.getD 0 undef:=by
 cases dst with
 | none=>rfl
 | some d=>
   have h0:d≠0:=Lim.ok_ne (l:=l) (by simpa using hd) hz
   have e:(a.put (some d) v).tmps=a.tmps.setIfInBounds d v:=rfl
   rw[e,Array.getD_eq_getD_getElem?,Array.getD_eq_getD_getElem?,Array.getElem?_setIfInBounds_ne h0]
theorem objsL_slots:∀(l:List (Nat×AObj))(σ:Env),(σ.objsL l).slots=σ.slots∧(σ.objsL l).n=σ.n
 | [],σ=>⟨rfl,rfl⟩
 | (i,o)::l,σ=>by simpa[Env.objsL,Env.obj]using objsL_slots l (σ.obj i o)
theorem objsL_old:∀(l:List (Nat×AObj))(σ:Env)(id:Nat),id∉l.map (·.1)→(σ.objsL l).objs id=σ.objs id
 | [],σ,id,_=>rfl
 | (i,o)::l,σ,id,h=>by
   simp only[List.map_cons,List.mem_cons,not_or]at h
   simp only[Env.objsL]
   rw[objsL_old l _ id h.2]
   exact upd_ne _ _ h.1
theorem objsL_new:∀(l:List (Nat×AObj))(σ:Env)(p:Nat×AObj),(l.map (·.1)).Nodup→p∈l→(σ.objsL l).objs p.1=some p.2
 | [],σ,p,_,h=>by cases h
 | (i,o)::l,σ,p,hn,h=>by
   simp only[List.map_cons,List.nodup_cons]at hn
   simp only[Env.objsL]
   rcases List.mem_cons.1 h with rfl|h
   ·rw[objsL_old l _ _ hn.1]
    exact upd_same _ _ _
   ·exact objsL_new l _ p hn.2 h
theorem put_objs(σ:Env)(dst:Option Nat)(v:AV):(σ.put dst v).objs=σ.objs∧(σ.put dst v).n=σ.n:=by cases dst<;>exact⟨rfl,rfl⟩
theorem eff_objs(σ:Env)(dst:Option Nat)(e:Eff):(σ.eff dst e).objs=(({ σ with objs:=freeze σ.objs e.frz }:Env).objsL e.news).objs∧(σ.eff dst e).n=σ.n:=by
 unfold Env.eff
 exact⟨(put_objs _ _ _).1,by rw[(put_objs _ _ _).2,(objsL_slots _ _).2]⟩
theorem eff_slots(σ:Env)(dst:Option Nat)(e:Eff)(t:Nat):(σ.eff dst e).slots t=if dst=some t then e.val else σ.slots t:=by
 unfold Env.eff Env.put
 cases dst with
 | none=>simp[objsL_slots]
 | some d=>
   by_cases h:t=d
   ·subst h;simp[upd]
   ·have h':¬d=t:=fun e=>h e.symm
    simp[upd,h,h',objsL_slots]
structure Made(κ κ':Nat→Value)(σ:Env)(w w':World)(e:Eff):Prop where
 below:Below w.heap.size w w'
 free:∀p∈e.news,σ.objs p.1=none
 nodup:(e.news.map (·.1)).Nodup
 old:∀id,σ.objs id≠none→κ' id=κ id
 fresh:∀p∈e.news,∀b,blkOf (κ' p.1)=some b→w.heap.size≤b
 apart:∀p∈e.news,∀q∈e.news,p.1≠q.1→∀b,blkOf (κ' p.1)=some b→blkOf (κ' q.1)≠some b
theorem Made.case{κ κ':Nat→Value}{σ:Env}{w w':World}{e:Eff}(m:Made κ κ' σ w w' e)(dst:Option Nat){id:Nat}{o:AObj}(h:(σ.eff dst e).objs id=some o) :
  (∃ p∈e.news,p.1=id∧p.2=o)∨(σ.objs id≠none∧id∉e.news.map (·.1)∧freeze σ.objs e.frz id=some o):=by
 rw[(eff_objs σ dst e).1]at h
 by_cases hi:id∈e.news.map (·.1)
 ·obtain⟨p,hp,rfl⟩:=List.mem_map.1 hi
  rw[objsL_new _ _ p m.nodup hp]at h
  exact .inl ⟨p,hp,rfl,Option.some.inj h⟩
 ·rw[objsL_old _ _ _ hi]at h
  refine .inr ⟨fun hn=>?_,hi,h⟩
  have h2:freeze σ.objs e.frz id=some o:=h
  rw[freeze_none _ _ _ hn]at h2
  cases h2
theorem Made.keep{κ κ':Nat→Value}{σ:Env}{w w':World}{e:Eff}(m:Made κ κ' σ w w' e)(dst:Option Nat){id:Nat}{o:AObj}(h:σ.objs id=some o) :
  ∃fz,(σ.eff dst e).objs id=some (orFz o fz):=by
 have hi:id∉e.news.map (·.1):=fun hi=>by
  obtain⟨p,hp,rfl⟩:=List.mem_map.1 hi
  rw[m.free p hp]at h
  cases h
 rw[(eff_objs σ dst e).1,objsL_old _ _ _ hi]
 exact freeze_some e.frz σ.objs id o h
theorem Made.le{κ κ':Nat→Value}{σ:Env}{w w':World}{e:Eff}(m:Made κ κ' σ w w' e)(dst:Option Nat):ObjLe σ.objs κ (σ.eff dst e).objs κ':=by
 intro id o h
 obtain⟨fz,hz⟩:=m.keep dst h
 have hk:=m.old id (by rw[h];simp)
 cases o with
 | row e' k xs g f=>exact⟨xs,g,_,hz,Nat.le_refl _,fun _=>hk⟩
 | box cs f=>exact⟨cs,_,hz,hk⟩
 | mp ks vs f=>exact⟨ks,vs,_,hz,hk⟩
theorem Made.sub{F:Nat→Prop}{B:Nat→Prop}{κ κ':Nat→Value}{σ:Env}{w w':World}{e:Eff}(m:Made κ κ' σ w w' e)(dst:Option Nat)(k:Nat)(hs:Sset F B w κ σ.objs k):Sset F B w' κ' (σ.eff dst e).objs k:=by
 obtain⟨h1,h2,h3⟩:=hs
 refine⟨h1,Nat.lt_of_lt_of_le h2 m.below.size,fun id o ho hf hb=>?_⟩
 rcases m.case dst ho with⟨p,hp,rfl,rfl⟩|⟨hne,hi,hz⟩
 ·have:=m.fresh p hp k hb;omega
 ·obtain⟨o',ho',fz,rfl⟩:=freeze_back hz
  rw[m.old id hne]at hb
  refine h3 id o' ho' ?_ hb
  cases o'<;>simp_all [isFz,orFz]
theorem St.made{F:Nat→Prop}{w0:Base}{κ κ':Nat→Value}{σ:Env}{a:Act}{w w':World}{e:Eff}{dst:Option Nat}{v:Value}(h:St F w0 κ σ a w)(m:Made κ κ' σ w w' e)(hdr:w0.dr=true→w.drawn≤w'.drawn)(hd:dst.all σ.n.ok=true)
  (hnews:∀p∈e.news,ObjOK (Sset F w0.mine w' κ' (σ.eff dst e).objs) w' κ' (σ.eff dst e).objs 0 p.1 p.2)
  (hval:(Rel (Sset F w0.mine w' κ' (σ.eff dst e).objs) w' κ' (σ.eff dst e).objs e.val).val v):St F w0 κ' (σ.eff dst e) (a.put dst v) w':=by
 have hS:=fun k=>m.sub (F:=F) (B:=w0.mine) dst k
 have hw:∀k,Sset F w0.mine w κ σ.objs k→w'.heap[k]? = w.heap[k]? := fun k hk=>m.below.block k hk.2.1
 have hle:=m.le dst
 refine⟨fun t=>?_,fun id o ho=>?_,fun i j oi oj hi hj hij b hb=>?_,?_,?_,?_,?_,?_⟩
 ·rw[eff_slots]
  cases dst with
  | none=>simpa[Act.put]using(Rel_mono hS hw hle (σ.slots t)).val _ (h.slots t)
  | some d=>
    have hdn:d<a.tmps.size:=by
     have:d<σ.n.n:=Lim.ok_lt (by simpa using hd)
     exact Nat.lt_of_lt_of_le this h.size
    rw[getD_put t hdn]
    by_cases e:t=d
    ·subst e;simpa using hval
    ·have e':¬d=t:=fun x=>e x.symm
     simp only[Option.some.injEq,if_neg e',if_neg e]
     exact(Rel_mono hS hw hle (σ.slots t)).val _ (h.slots t)
 ·rcases m.case dst ho with⟨p,hp,rfl,rfl⟩|⟨hne,hi,hz⟩
  ·exact hnews p hp
  ·obtain⟨o',ho',fz,rfl⟩:=freeze_back hz
   have h1:=h.objs id o' ho'
   have hk:=m.old id hne
   have h2:=h1.mono hS hw hle hk fun b hb=>m.below.block b (h1.lt hb).2
   cases o'<;>exact h2
 ·rcases m.case dst hi with⟨p,hp,rfl,rfl⟩|⟨hne,hi',hz⟩<;>rcases m.case dst hj with⟨q,hq,rfl,rfl⟩|⟨hne2,hj',hz2⟩
  ·exact m.apart p hp q hq hij b hb
  ·intro hb2
   have h1:=m.fresh p hp b hb
   obtain⟨o',ho',_⟩:=freeze_back hz2
   rw[m.old j hne2]at hb2
   have:=((h.objs j o' ho').lt hb2).2
   omega
  ·intro hb2
   have h1:=m.fresh q hq b hb2
   obtain⟨o',ho',_⟩:=freeze_back hz
   rw[m.old i hne]at hb
   have:=((h.objs i o' ho').lt hb).2
   omega
  ·obtain⟨o1,ho1,_⟩:=freeze_back hz
   obtain⟨o2,ho2,_⟩:=freeze_back hz2
   rw[m.old i hne]at hb
   rw[m.old j hne2]
   exact h.apart i j o1 o2 ho1 ho2 hij b hb
 ·exact h.below.next m.below hdr
 ·cases dst<;>simpa[Act.put]using h.defers
 ·rw[(eff_objs σ dst e).2]
  cases dst<;>simpa[Act.put]using h.size
 ·intro id o b ho hb
  rcases m.case dst ho with⟨p,hp,rfl,rfl⟩|⟨hne,hi,hz⟩
  ·exact .inr (Nat.le_trans h.below.size (m.fresh p hp b hb))
  ·obtain⟨o',ho',_⟩:=freeze_back hz
   rw[m.old id hne]at hb
   exact h.mine id o' b ho' hb
 ·intro hz
  rw[(eff_objs σ dst e).2]at hz
  rw[put_fix hd hz]
  exact h.fix hz
theorem St.value{F:Nat→Prop}{w0:Base}{κ:Nat→Value}{σ:Env}{a:Act}{w:World}{x:AV}{dst:Option Nat}{v:Value}(h:St F w0 κ σ a w)(hd:dst.all σ.n.ok=true)
  (hval:(Rel (Sset F w0.mine w κ σ.objs) w κ σ.objs x).val v):St F w0 κ (σ.eff dst { val:=x }) (a.put dst v) w:=by
 have m:Made κ κ σ w w { val:=x }:=⟨Below.refl _ _,by simp,by simp,fun _ _=>rfl,by simp,by simp⟩
 refine h.made m (fun _=>Nat.le_refl _) hd (by simp) ?_
 exact(Rel_mono (fun k=>m.sub (F:=F) (B:=w0.mine) dst k) (fun _ _=>rfl) (m.le dst) x).val _ hval
end Go.Abs
set_option linter.unusedVariables false
set_option linter.unusedSimpArgs false
namespace Go.Abs
open Go.RowKit
theorem run_loads(P:Program)(w:World)(a:Addr):∀(vs:List Value)(i:Nat)(acc:Array Value),(∀ j v,vs[j]? = some v→w.cell? (a.add (i+j))=some v)→
  (loadCellsFrom a i vs.length acc).run P w= .ok (acc++vs.toArray) w
 | [],i,acc,_=>by simp[loadCellsFrom]
 | v::vs,i,acc,h=>by
   have h0:=h 0 v (by simp)
   rw[Nat.add_zero]at h0
   simp only[List.length_cons,loadCellsFrom,Sem.run_bind,run_load,h0,Result.andThen_ok]
   rw[run_loads P w a vs (i+1) (acc.push v) fun j u hu=>by have:=h (j+1) u (by simpa using hu);rwa[show i+1+j=i+(j+1) by omega]]
   congr 1
   apply Array.ext'
   simp
theorem Rel_n(S:Nat→Prop)(w:World)(κ:Nat→Value)(objs:Nat→Option AObj)(x:AV):(Rel S w κ objs x).n=x.cells.length:=by
 cases x<;>simp[Rel,one,AV.cells]
theorem mem_cells{S:Nat→Prop}{w:World}{κ:Nat→Value}{objs:Nat→Option AObj}{x:AV}{get:Nat→Option Value}(h:(Rel S w κ objs x).mem get):AllM (RelL S w κ objs x.cells) get:=by
 have other:(∃ u,get 0=some u∧(Rel S w κ objs x).val u)→AllM (RelL S w κ objs [x]) get:=fun⟨u,h1,h2⟩ i r hr=>by
  cases i with
  | zero=>
    simp only[RelL,List.getElem?_cons_zero,Option.some.injEq]at hr
    subst hr
    exact⟨u,h1,h2⟩
  | succ i=>simp[RelL]at hr
 cases x with
 | agg cs=>simpa[Rel,AV.cells]using h
 | fr e k ys=>
   simp only[Rel,one]at h
   obtain⟨u,_,h2⟩:=h
   exact h2.elim
 | fb cs=>
   simp only[Rel,one]at h
   obtain⟨u,_,h2⟩:=h
   exact h2.elim
 | inp r f=>
   simp only[Rel,one]at h
   obtain⟨u,_,h2⟩:=h
   exact h2.elim
 | _=>exact other (by simpa[Rel,one]using h)
theorem cells_mem{S:Nat→Prop}{w:World}{κ:Nat→Value}{objs:Nat→Option AObj}{x:AV}{get:Nat→Option Value}(h:AllM (RelL S w κ objs x.cells) get):(Rel S w κ objs x).mem get:=by
 have other:AllM (RelL S w κ objs [x]) get→∃u,get 0=some u∧(Rel S w κ objs x).val u:=fun h=>h 0 (Rel S w κ objs x) (by simp[RelL])
 cases x with
 | agg cs=>simpa[Rel,AV.cells]using h
 | _=>simpa[Rel,one]using other (by simpa[AV.cells]using h)
theorem AllM_get{S:Nat→Prop}{w:World}{κ:Nat→Value}{objs:Nat→Option AObj}{xs:List AV}{get:Nat→Option Value}(h:AllM (RelL S w κ objs xs) get)(i:Nat)(x:AV)(hx:xs[i]? = some x):∃u,get i=some u∧(Rel S w κ objs x).val u:=
 h i _ (by rw[RelL_get,hx];rfl)
theorem AllM_of{S:Nat→Prop}{w:World}{κ:Nat→Value}{objs:Nat→Option AObj}{xs:List AV}{get:Nat→Option Value}(h:∀(i:Nat)(x:AV),xs[i]? = some x→∃u,get i=some u∧(Rel S w κ objs x).val u):AllM (RelL S w κ objs xs) get:=by
 intro i r hr
 rw[RelL_get]at hr
 cases hx:xs[i]? with
 | none=>rw[hx]at hr;cases hr
 | some x=>
   rw[hx]at hr
   simp only[Option.map_some,Option.some.injEq]at hr
   subst hr
   exact h i x hx
theorem Rel_lift{S:Nat→Prop}{w:World}{κ κ':Nat→Value}{objs:Nat→Option AObj}(x:AV):RLe (Rel S w κ (fun _=>none) x) (Rel S w κ' objs x):=
 Rel_mono (fun _ h=>h) (fun _ _=>rfl) (fun _ _ h=>by cases h) x
theorem RelL_lift{S:Nat→Prop}{w:World}{κ κ':Nat→Value}{objs:Nat→Option AObj}(xs:List AV):RLeL (RelL S w κ (fun _=>none) xs) (RelL S w κ' objs xs):=
 RelL_mono (fun _ h=>h) (fun _ _=>rfl) (fun _ _ h=>by cases h) xs
section
variable {F:Nat→Prop} {w0:Base} {κ:Nat→Value} {σ:Env} {a:Act} {w:World}
abbrev SS(F:Nat→Prop)(w0:Base)(κ:Nat→Value)(σ:Env)(w:World):Nat→Prop:=Sset F w0.mine w κ σ.objs
theorem row_elem(h:St F w0 κ σ a w){r e k:Nat}{xs:List AV}{g:Nat}{fz:Bool}(hr:σ.objs r=some (.row e k xs g fz)){j:Nat}{x:AV}(hx:xs[j]? = some x) :
  ∃b c,κ r= .slice (some (at_ b 0)) xs.length c∧x.cells.length=k∧AllM (RelL (SS F w0 κ σ w) w κ σ.objs x.cells) (fun i=>w.cell? (at_ b (j*k+i))):=by
 obtain⟨hk,zs,h1,h2,h3⟩:=h.objs r _ hr
 have hj:j<xs.length:=(List.getElem?_eq_some_iff.1 hx).1
 rcases h1.2 with⟨_,h0⟩|⟨b,cap,cur,hv,hB,hblk,hn,hcap,hsz,htake⟩
 ·omega
 ·refine⟨b,cap,hv,?_,?_⟩
  ·obtain⟨h4,_⟩:=h3 j (Rel _ w (fun _=>undef) (fun _=>none) x) (by rw[RelL_get,hx];rfl)
   rw[Rel_n]at h4
   exact h4
  ·obtain⟨_,h5⟩:=h3 j (Rel _ w (fun _=>undef) (fun _=>none) x) (by rw[RelL_get,hx];rfl)
   have h6:=mem_cells h5
   have h7:=(RelL_lift (κ':=κ) (objs:=σ.objs) x.cells).allM h6
   intro i q hq
   obtain⟨u,h8,h9⟩:=h7 i q hq
   refine⟨u,?_,h9⟩
   have:=h1.cells (g:=b) (by rw[hv];rfl) (j*k+i) u h8
   rw[Addr.add_lit,Nat.zero_add]at this
   exact this
theorem behind_sound(h:St F w0 κ σ a w){x:AV}{v:Value}{cs:List AV}{off:Nat}(hv:(Rel (SS F w0 κ σ w) w κ σ.objs x).val v)(hb:behind σ.objs x=some (cs,off)) :
  ∃b o,v= .pointer (some (at_ b (o+off)))∧AllM (RelL (SS F w0 κ σ w) w κ σ.objs cs) (fun i=>w.cell? (at_ b (o+i))):=by
 cases x with
 | ia cs' off'=>
   simp only[behind,Option.some.injEq,Prod.mk.injEq]at hb
   obtain⟨rfl,rfl⟩:=hb
   simp only[Rel,one]at hv
   obtain⟨b,o,h1,_,h2⟩:=hv
   exact⟨b,o,h1,(RelL_lift cs').allM h2⟩
 | ba b0 off'=>
   simp only[behind]at hb
   split at hb
   ·rename_i cs' fz ho
    simp only[Option.some.injEq,Prod.mk.injEq]at hb
    obtain⟨rfl,rfl⟩:=hb
    simp only[Rel,one]at hv
    obtain⟨_,_,ho',blk,h1,h2⟩:=hv
    rw[ho]at ho'
    obtain⟨blk',T,arr,h3,h4,h5,h6⟩:=h.objs b0 _ ho
    rw[h1]at h3
    injection h3 with h3
    injection h3 with h3
    injection h3 with h3
    subst h3
    refine⟨blk,0,by rw[h2,Nat.zero_add],AllM_of fun i x hx=>?_⟩
    obtain⟨h7,h8⟩:=AllV_get _ _ _ _ h6
    have hi:i<arr.toList.length:=by rw[← h7];exact(List.getElem?_eq_some_iff.1 hx).1
    refine⟨arr.toList[i],?_,h8 i x _ hx (List.getElem?_eq_getElem hi)⟩
    rw[Nat.zero_add]
    simp only[World.cell?,h5]
    simp at hi
    simp[hi]
   ·cases hb
 | oa r g i off'=>
   simp only[behind]at hb
   split at hb
   ·rename_i e k xs g' fz ho
    split at hb
    ·rename_i hg
     subst hg
     cases hx:xs[i]? with
     | none=>rw[hx]at hb;simp at hb
     | some y=>
       rw[hx]at hb
       simp only[Option.map_some,Option.some.injEq,Prod.mk.injEq]at hb
       obtain⟨rfl,rfl⟩:=hb
       simp only[Rel,one]at hv
       obtain⟨_,_,_,_,_,ho',_,h1⟩:=hv
       rw[ho]at ho'
       simp only[Option.some.injEq,AObj.row.injEq]at ho'
       obtain⟨rfl,rfl,rfl,rfl,rfl⟩:=ho'
       obtain⟨b,h2,h3⟩:=h1 rfl
       obtain⟨b',c,h4,h5,h6⟩:=row_elem h ho hx
       rw[h4]at h2
       simp only[blkOf,Option.some.injEq]at h2
       subst h2
       exact⟨b',i*k,h3,h6⟩
    ·cases hb
   ·cases hb
 | _=>simp[behind]at hb
theorem loads_of{cs:List AV}{S:Nat→Prop}{objs:Nat→Option AObj}{b o off k:Nat}(P:Program)(hm:AllM (RelL S w κ objs cs) (fun i=>w.cell? (at_ b (o+i))))(hk:off+k≤cs.length) :
  ∃vs:List Value,(loadCells (at_ b (o+off)) k).run P w= .ok vs.toArray w∧AllV (RelL S w κ objs ((cs.drop off).take k)) vs:=by
 have key:∀n,off+n≤cs.length→∃vs:List Value,vs.length=n∧∀j v,vs[j]? = some v→w.cell? ((at_ b (o+off)).add j)=some v∧∀x,cs[off+j]? = some x→(Rel S w κ objs x).val v:=by
  intro n
  induction n with
  | zero=>intro _;exact⟨[],rfl,by simp⟩
  | succ n ih=>
    intro hn
    obtain⟨vs,h1,h2⟩:=ih (by omega)
    have hx:cs[off+n]? = some cs[off+n]:=List.getElem?_eq_getElem (by omega)
    obtain⟨u,h3,h4⟩:=AllM_get hm _ _ hx
    refine⟨vs++[u],by simp[h1],fun j v hv=>?_⟩
    by_cases hj:j<vs.length
    ·rw[List.getElem?_append_left hj]at hv
     exact h2 j v hv
    ·rw[List.getElem?_append_right (by omega)]at hv
     have e:j=n:=by
      have:j-vs.length<1:=by
       rcases Nat.lt_or_ge (j-vs.length) 1 with h|h
       ·exact h
       ·rw[List.getElem?_eq_none (by simpa using h)]at hv;cases hv
      omega
     subst e
     rw[h1,Nat.sub_self]at hv
     simp only[List.getElem?_cons_zero,Option.some.injEq]at hv
     subst hv
     refine⟨by rw[Addr.add_lit,Nat.add_assoc];exact h3,fun x hx'=>?_⟩
     rw[hx]at hx'
     cases hx'
     exact h4
 obtain⟨vs,h1,h2⟩:=key k hk
 refine⟨vs,?_,AllV_of _ _ _ _ (by simp;omega) fun i x u hx hu=>?_⟩
 ·unfold loadCells
  have:=run_loads P w (at_ b (o+off)) vs 0 #[] fun j v hv=>by rw[Nat.zero_add];exact(h2 j v hv).1
  rw[h1]at this
  simpa using this
 ·have hi:i<k:=by rw[← h1];exact(List.getElem?_eq_some_iff.1 hu).1
  rw[List.getElem?_take,if_pos hi,List.getElem?_drop]at hx
  exact(h2 i u hu).2 x hx
theorem isAggT_run{P:Program}{t:TypeId}{ag:Bool}(h:isAggT P t=some ag)(w:World):(isAgg t).run P w= .ok ag w:=by
 unfold isAggT at h
 cases hu:P.underlying t with
 | none=>rw[hu]at h;simp at h
 | some d=>
   rw[hu]at h
   simp only[Option.map_some,Option.some.injEq]at h
   unfold isAgg
   simp only[Sem.run_bind,run_underlying hu,Result.andThen_ok]
   cases d<;>simp_all
theorem sizeT_run{P:Program}{t:TypeId}{k:Nat}(h:sizeT P t=some k)(w:World):(sizeOf t).run P w= .ok k w:=by
 unfold sizeT at h
 cases hi:P.info? t with
 | none=>rw[hi]at h;simp at h
 | some i=>
   rw[hi]at h
   simp only[Option.map_some,Option.some.injEq]at h
   unfold sizeOf
   simp only[Sem.run_bind,run_typeInfo w hi,Result.andThen_ok,Sem.run_pure,h]
theorem loadA_sound(h:St F w0 κ σ a w){P:Program}{t:TypeId}{x y:AV}{v:Value}(hv:(Rel (SS F w0 κ σ w) w κ σ.objs x).val v)(hl:loadA P σ.objs t x=some y) :
  ∃u,(Instr.loadAt t v).run P w= .ok u w∧(Rel (SS F w0 κ σ w) w κ σ.objs y).val u:=by
 unfold loadA at hl
 cases h1:isAggT P t with
 | none=>rw[h1]at hl;simp at hl
 | some ag=>
   cases h2:sizeT P t with
   | none=>rw[h1,h2]at hl;simp at hl
   | some k=>
     cases h3:behind σ.objs x with
     | none=>rw[h1,h2,h3]at hl;simp at hl
     | some p=>
       obtain⟨cs,off⟩:=p
       rw[h1,h2,h3]at hl
       simp only[Option.bind_some]at hl
       obtain⟨b,o,rfl,h4⟩:=behind_sound h hv h3
       unfold Instr.loadAt Instr.sureAddr loadVar
       simp only[Sem.run_bind,Sem.run_pure,Result.andThen_ok,isAggT_run h1]
       unfold takeAs at hl
       cases ag with
       | true=>
         simp only[if_true]at hl ⊢
         split at hl
         ·rename_i hk
          simp only[Option.some.injEq]at hl
          subst hl
          obtain⟨vs,h5,h6⟩:=loads_of P h4 hk
          refine⟨.agg vs.toArray,?_,?_⟩
          ·simp only[Sem.run_bind,sizeT_run h2,Result.andThen_ok,h5,Sem.run_pure]
          ·simp only[Rel]
           exact⟨vs,rfl,h6⟩
         ·cases hl
       | false=>
         simp only[Bool.false_eq_true,if_false]at hl ⊢
         obtain⟨u,h5,h6⟩:=AllM_get h4 off y hl
         exact⟨u,by simp only[run_load,h5],h6⟩
end
end Go.Abs
