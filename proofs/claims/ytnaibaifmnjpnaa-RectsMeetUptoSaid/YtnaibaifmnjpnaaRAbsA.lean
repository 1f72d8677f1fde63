import Derived.WalkKit
import Derived.LoopN
import Derived.Laws.AppendOwn
import Derived.OrdersHeld
import Derived.Below
set_option linter.unusedVariables false
set_option linter.unusedSimpArgs false
namespace Go.Abs
open Go.RowKit

/-! ### What a computation that asks nothing of the world gives -/
def pureRun {α : Type} (P : Program) : Sem α → Option α
  | .pure a => some a
  | .program k => pureRun P (k P)
  | .mark _ k => pureRun P k
  | _ => none
theorem pureRun_sound {α : Type} {P : Program} {s : Sem α} {a : α} (h : pureRun P s = some a) (w : World) : s.run P w = .ok a w := by
  induction s with
  | pure b => simp only [pureRun, Option.some.injEq] at h; subst h; rfl
  | program k ih => exact ih P h
  | mark m k ih => exact ih h
  | _ => simp [pureRun] at h

/-! ### Abstract values -/
inductive AV where
  | undef
  | und
  | int (k : IntKind) (n : Int)
  | bool (b : Bool)
  | str (s : ByteArray)
  | agg (cs : List AV)
  | sl (xs : List AV)
  | nils
  | fn (f : Nat) (caps : List AV)
  | tup (vs : List AV)
  | ia (cs : List AV) (off : Nat)
  | own (r g : Nat)
  | oa (r g i off : Nat)
  | vw (r g i : Nat)
  | ba (b off : Nat)
  | fr (e k : Nat) (xs : List AV)
  | fb (cs : List AV)
  | inp (r fin : AV)
  deriving Inhabited

def isFr : AV → Bool
  | .fr _ _ _ => true
  | .fb _ => true
  | _ => false
def headFr : List AV → Bool
  | x :: _ => isFr x
  | [] => false
def AV.cells : AV → List AV
  | .agg cs => cs
  | v => [v]

inductive AObj where
  | row (e k : Nat) (xs : List AV) (g : Nat) (fz : Bool)
  | box (cs : List AV) (fz : Bool)
  deriving Inhabited

/-- How many slots a frame has; whether its first one is written by nothing. -/
structure Lim where
  n : Nat
  z : Bool
instance (k : Nat) : OfNat Lim k := ⟨⟨k, false⟩⟩
def Lim.ok (l : Lim) (d : Nat) : Bool := decide (d < l.n) && !(l.z && d == 0)
structure Env where
  slots : Nat → AV
  objs : Nat → Option AObj
  n : Lim

def upd {α : Type} (s : Nat → α) (i : Nat) (v : α) : Nat → α := fun j => if j = i then v else s j
def Env.put (σ : Env) (dst : Option Nat) (v : AV) : Env :=
  match dst with
  | some d => { σ with slots := upd σ.slots d v }
  | none => σ
def Env.obj (σ : Env) (i : Nat) (o : AObj) : Env := { σ with objs := upd σ.objs i (some o) }
def Env.objsL (σ : Env) : List (Nat × AObj) → Env
  | [] => σ
  | (i, o) :: l => (σ.obj i o).objsL l

/-! ### Values that lie in no memory -/
mutual
def toV : AV → Option Value
  | .int k n => some (.int k n)
  | .bool b => some (.bool b)
  | .str s => some (.string s)
  | .agg cs => (toVs cs).map fun vs => .agg vs.toArray
  | _ => none
def toVs : List AV → Option (List Value)
  | [] => some []
  | x :: xs => (toV x).bind fun v => (toVs xs).map fun vs => v :: vs
end
def cellV : Value → Option AV
  | .int k n => some (.int k n)
  | .bool b => some (.bool b)
  | .string s => some (.str s)
  | .slice none 0 0 => some .nils
  | _ => none
def mapO {α β : Type} (f : α → Option β) : List α → Option (List β)
  | [] => some []
  | x :: xs => (f x).bind fun v => (mapO f xs).map fun vs => v :: vs
def ofV : Value → Option AV
  | .agg cs => (mapO cellV cs.toList).map .agg
  | .func (.func f) fi ca => if fi.size = 0 ∧ ca.size = 0 then some (.fn f []) else none
  | v => cellV v

def evA (s : Nat → AV) : Operand → AV
  | .tmp t => s t
  | .const v => (ofV v).getD .undef
  | .func f => .fn f []
  | .global _ => .undef

/-! ### A value out of the frame's memory: by value -/
def expt (no : Nat → Bool) (objs : Nat → Option AObj) : Nat → AV → Option AV
  | 0, _ => none
  | _ + 1, .int k m => some (.int k m)
  | _ + 1, .bool b => some (.bool b)
  | _ + 1, .str s => some (.str s)
  | n + 1, .agg cs => (mapO (expt no objs n) cs).map .agg
  | _ + 1, .sl xs => some (.sl xs)
  | _ + 1, .nils => some (.sl [])
  | n + 1, .fn f caps => (mapO (expt no objs n) caps).map (.fn f)
  | _ + 1, .ia cs off => some (.ia cs off)
  | _ + 1, .own r g => match no r, objs r with
    | false, some (.row _ _ xs g' _) => if g' = g then some (.sl xs) else none
    | _, _ => none
  | _ + 1, .oa r g i off => match no r, objs r with
    | false, some (.row _ _ xs g' _) => if g' = g then (xs[i]?).map fun x => .ia x.cells off else none
    | _, _ => none
  | n + 1, .ba b off => match no b, objs b with
    | false, some (.box cs _) => (mapO (expt no objs n) cs).map fun cs => .ia cs off
    | _, _ => none
  | _ + 1, _ => none
def DEPTH : Nat := 6
/-- The rows that a value names. -/
def refsOf (objs : Nat → Option AObj) : Nat → AV → List Nat
  | 0, _ => []
  | n + 1, .agg cs => cs.flatMap (refsOf objs n)
  | n + 1, .fn _ caps => caps.flatMap (refsOf objs n)
  | n + 1, .tup vs => vs.flatMap (refsOf objs n)
  | _ + 1, .own r _ => [r]
  | _ + 1, .oa r _ _ _ => [r]
  | n + 1, .ba b _ => match objs b with
    | some (.box cs _) => b :: cs.flatMap (refsOf objs n)
    | _ => [b]
  | _ + 1, _ => []
/-- Rows that are named by what is told by value from now on: they are written no more. -/
def freeze (objs : Nat → Option AObj) : List Nat → (Nat → Option AObj)
  | [] => objs
  | r :: rs => match objs r with
    | some (.row e k xs g _) => freeze (upd objs r (some (.row e k xs g true))) rs
    | some (.box cs _) => freeze (upd objs r (some (.box cs true))) rs
    | _ => freeze objs rs

/-! ### Single operations -/
def idx (v : AV) : Option Nat := match v with
  | .int _ i => if 0 ≤ i then some i.toNat else none
  | _ => none
def lenOf (objs : Nat → Option AObj) : AV → Option Nat
  | .sl xs => some xs.length
  | .nils => some 0
  | .str s => some s.size
  | .own r g => match objs r with
    | some (.row _ _ xs g' _) => if g' = g then some xs.length else none
    | _ => none
  | _ => none
def lenT (P : Program) (objs : Nat → Option AObj) (t : TypeId) (v : AV) : Option Nat := match P.underlying t, v with
  | some .string, .str s => some s.size
  | some (.slice _), .sl xs => some xs.length
  | some (.slice _), .nils => some 0
  | some (.slice _), .own r g => lenOf objs (.own r g)
  | _, _ => none
/-- The cells behind an address. -/
def behind (objs : Nat → Option AObj) : AV → Option (List AV × Nat)
  | .ia cs off => some (cs, off)
  | .ba b off => match objs b with
    | some (.box cs _) => some (cs, off)
    | _ => none
  | .oa r g i off => match objs r with
    | some (.row _ _ xs g' _) => if g' = g then (xs[i]?).map fun x => (x.cells, off) else none
    | _ => none
  | _ => none
def isAggT (P : Program) (t : TypeId) : Option Bool := (P.underlying t).map fun
  | .struct _ | .array _ _ => true
  | _ => false
def sizeT (P : Program) (t : TypeId) : Option Nat := (P.info? t).map (·.size)
def takeAs (ag : Bool) (k : Nat) (cs : List AV) (off : Nat) : Option AV :=
  if ag then (if off + k ≤ cs.length then some (.agg ((cs.drop off).take k)) else none) else cs[off]?
def putAt (cs : List AV) (off : Nat) (vs : List AV) : Option (List AV) :=
  if off + vs.length ≤ cs.length then some (cs.take off ++ vs ++ cs.drop (off + vs.length)) else none
/-- The like of 'cs' in the form of 'x'. -/
def shaped (x : AV) (cs : List AV) : AV := match x with
  | .agg _ => .agg cs
  | v => cs.headD v
def elemT (P : Program) (t : TypeId) : Option TypeId := match P.underlying t with
  | some (.slice e) => some e
  | _ => none
def addr (P : Program) (objs : Nat → Option AObj) (t : TypeId) (x i : AV) : Option AV :=
  (elemT P t).bind fun e => (sizeT P e).bind fun k => (idx i).bind fun j => match x with
  | .sl xs => (xs[j]?).bind fun y => if y.cells.length = k then some (.ia y.cells 0) else none
  | .own r g => match objs r with
    | some (.row _ k' xs g' _) => if g' = g then (if j < xs.length then (if k' = k then some (.oa r g j 0) else none) else none) else none
    | _ => none
  | _ => none
def plus (objs : Nat → Option AObj) (v : AV) (n : Nat) : Option AV := match v with
  | .ia cs off => some (.ia cs (off + n))
  | .oa r g i off => match objs r with
    | some (.row _ _ _ g' _) => if g' = g then some (.oa r g i (off + n)) else none
    | _ => none
  | .ba b off => some (.ba b (off + n))
  | _ => none
def faddr (P : Program) (objs : Nat → Option AObj) (s : TypeId) (f : Nat) (x : AV) : Option AV := match P.underlying s with
  | some (.struct fs) => (fs[f]?).bind fun fd => (sizeT P fd.type).bind fun k => if k = 0 then none else plus objs x fd.offset
  | _ => none
def fieldV (P : Program) (s : TypeId) (f : Nat) (x : AV) : Option AV := match P.underlying s with
  | some (.struct fs) => (fs[f]?).bind fun fd => (isAggT P fd.type).bind fun ag => (sizeT P fd.type).bind fun k => match x with
    | .agg cs => takeAs ag k cs fd.offset
    | _ => none
  | _ => none
def loadA (P : Program) (objs : Nat → Option AObj) (t : TypeId) (x : AV) : Option AV :=
  (isAggT P t).bind fun ag => (sizeT P t).bind fun k => (behind objs x).bind fun (cs, off) => takeAs ag k cs off
def pure2 (P : Program) (f : Value → Value → Sem Value) (x y : AV) : Option AV :=
  (toV x).bind fun a => (toV y).bind fun b => (pureRun P (f a b)).bind ofV
def pure1 (P : Program) (f : Value → Sem Value) (x : AV) : Option AV :=
  (toV x).bind fun a => (pureRun P (f a)).bind ofV
def binA (P : Program) (op : BinOp) (t : TypeId) (x y : Operand) (u v : AV) : Option AV := pure2 P (fun a b => do eqGuard op t x y a b; binOp op t a b) u v
def unA (P : Program) (op : UnOp) (u : AV) : Option AV := pure1 P (Op.unary op) u
def convA (P : Program) (a b : TypeId) (u : AV) : Option AV := pure1 P (convert a b) u
def indexA (P : Program) (t : TypeId) (u v : AV) : Option AV := pure2 P (Instr.index t) u v
/-- An element of an array that is a value. -/
def arrA (P : Program) (t : TypeId) (cs : List AV) (v : AV) : Option AV := match P.underlying t with
  | some (.array len e) => (isAggT P e).bind fun ag => (sizeT P e).bind fun k => (idx v).bind fun j => if j < len then takeAs ag k cs (j * k) else none
  | _ => none
def pickA (c a b : AV) : Option AV := match c with
  | .bool t => match a, b with
    | .bool p, .bool q => some (.bool (if t then p else q))
    | _, _ => if t then some a else some b
  | _ => none
/-- What a call hands back, laid into the frame. -/
def recv1 (id : Nat) : AV → AV × List (Nat × AObj)
  | .fr e k xs => (.own id 0, [(id, .row e k xs 0 false)])
  | .fb cs => (.ba id 0, [(id, .box cs false)])
  | v => (v, [])
def recvL (id : Nat) : List AV → List AV × List (Nat × AObj)
  | [] => ([], [])
  | v :: vs => ((recv1 id v).1 :: (recvL (id + 1) vs).1, (recv1 id v).2 ++ (recvL (id + 1) vs).2)
def recv (id : Nat) : AV → AV × List (Nat × AObj)
  | .tup vs => (.tup (recvL id vs).1, (recvL id vs).2)
  | v => recv1 id v
/-! ### The effect of one operation: its value, what it makes, what is named by value from now on -/
structure Eff where
  val : AV
  news : List (Nat × AObj) := []
  frz : List Nat := []
def scalarR : AV → Bool
  | .int _ _ | .bool _ | .str _ => true
  | .tup vs => vs.all fun
    | .int _ _ | .bool _ | .str _ => true
    | _ => false
  | _ => false
abbrev Callee := Nat → List AV → Option AV
def zeroOf (P : Program) (t : TypeId) : Option AV := (P.info? t).bind fun i => i.zero.bind ofV
/-- A call: its arguments by value. -/
def entersB (P : Program) (f : Nat) : Bool := match P.funcs[f]? with
  | some fn => fn.name != "runtime.NumGoroutine" && fn.body.isSome
  | none => false
/-- Functions that are handed the row of their first argument (by name). -/
def giveNames : List String := ["slices.DeleteFunc[[]signboard/api.Beat,signboard/api.Beat]", "slices.DeleteFunc[[]signboard/api.Window,signboard/api.Window]", "slices.Compact[[]int,int]"]
/-- Functions that turn what their first argument leads to, and hand it back so (by name). -/
def inplNames : List String := ["slices.Sort[[]int,int]", "slices.SortFunc[[]signboard/screen.run,signboard/screen.run]", "slices.SortFunc[[]signboard/api.Tally,signboard/api.Tally]"]
def inplB (P : Program) (f : Nat) : Bool := match P.funcs[f]? with
  | some fn => inplNames.contains fn.name
  | none => false
def givesB (P : Program) (f : Nat) : Bool := match P.funcs[f]? with
  | some fn => giveNames.contains fn.name || inplNames.contains fn.name
  | none => false
/-- Functions that are told where a slice is none. -/
def nilNames : List String := ["slices.Grow[[]signboard/api.Rect,signboard/api.Rect]"]
def keepsNil (P : Program) (f : Nat) : Bool := match P.funcs[f]? with
  | some fn => nilNames.contains fn.name
  | none => false
def exptA (k : Bool) (objs : Nat → Option AObj) : AV → Option AV
  | .nils => some (bif k then .nils else .sl [])
  | x => expt (fun _ => false) objs DEPTH x
def callE (P : Program) (C : Callee) (objs : Nat → Option AObj) (d : Nat) (f : Nat) (args : List AV) : Option Eff :=
  if entersB P f && !givesB P f then (mapO (exptA (keepsNil P f) objs) args).bind fun as => (C f as).map fun r =>
    { val := (recv (8 * d) r).1, news := (recv (8 * d) r).2, frz := if scalarR r then [] else args.flatMap (refsOf objs DEPTH) }
  else none
def noParts : List (Nat × AV) → Nat → Option (List AV)
  | [], _ => some []
  | (i, v) :: l, n => if i = n then (noParts l (n + 1)).map fun vs => v :: vs else none
def fill (P : Program) (cs : List AV) (places : Nat → Option (Nat × Nat)) : List (Nat × AV) → Option (List AV)
  | [] => some cs
  | (i, v) :: rest => (places i).bind fun (off, size) => if v.cells.length = size then (putAt cs off v.cells).bind fun cs => fill P cs places rest else none
def cellOK : AV → Bool
  | .int _ _ | .bool _ | .str _ | .sl _ | .nils | .fn _ _ | .ia _ _ => true
  | _ => false
def elemOk (P : Program) (e : TypeId) (k : Nat) (v : AV) : Bool := v.cells.length == k && v.cells.all cellOK
/-- A cell's value, of which something is known now. -/
def cellNow (objs : Nat → Option AObj) : AV → Bool
  | .int _ _ | .bool _ | .str _ | .sl _ | .nils | .fn _ _ | .ia _ _ => true
  | .own r g | .oa r g _ _ => match objs r with
    | some (.row _ _ _ g' _) => g == g'
    | _ => false
  | .ba b _ => (objs b).isSome
  | _ => false
def cellsNow (objs : Nat → Option AObj) : AV → Bool
  | .agg _ => true
  | x => cellNow objs x

def buildA (P : Program) (objs : Nat → Option AObj) (t : TypeId) (parts : List (Nat × AV)) : Option AV :=
  if parts.all fun p => cellsNow objs p.2 then match P.info? t, P.underlying t with
  | some it, some (.array _ e) => match it.zero, P.info? e with
    | some z, some ie => (ofV z).bind fun z => (fill P z.cells (fun i => some (i * ie.size, ie.size)) parts).map .agg
    | _, _ => none
  | some it, some (.struct fields) => match it.zero, fields.toList.mapM (fun f => (P.info? f.type).map fun i => (f.offset, i.size)) with
    | some z, some places => (ofV z).bind fun z => (fill P z.cells (places.toArray[·]?) parts).map .agg
    | _, _ => none
  | _, _ => none
  else none
/-- The row's own type, in the program. -/
def rowOk (P : Program) (e k : Nat) : Bool := match P.info? e with
  | some i => i.size == k && decide (0 < k) && (match i.zero with
    | some z => z.cells.size == k
    | none => false)
  | none => false
def bytesT (P : Program) (t : TypeId) : Option Nat := (P.info? t).map (·.bytes)
/-- An operation that turns nothing that is there. -/
def effOf (P : Program) (C : Callee) (s : Nat → AV) (objs : Nat → Option AObj) (d : Nat) (ty : TypeId) : Op → Option Eff
  | .move x | .assign x => some { val := evA s x }
  | .pick c a b => (pickA (evA s c) (evA s a) (evA s b)).map fun v => { val := v }
  | .binOp op t x y _ => (binA P op t x y (evA s x) (evA s y)).map fun v => { val := v }
  | .unOp op _ x => (unA P op (evA s x)).map fun v => { val := v }
  | .convert a b x => (convA P a b (evA s x)).map fun v => { val := v }
  | .box t x => (sizeT P t).bind fun k => if (evA s x).cells.length = k ∧ cellsNow objs (evA s x) = true then some { val := .ba (8 * d) 0, news := [(8 * d, .box (evA s x).cells false)] } else none
  | .alloc t => (zeroOf P t).bind fun z => some { val := .ba (8 * d) 0, news := [(8 * d, .box z.cells false)] }
  | .build t ps => (buildA P objs t (ps.toList.map fun (i, x) => (i, evA s x))).map fun v => { val := v }
  | .buildSlice t n ps => (elemT P t).bind fun e => (sizeT P e).bind fun k => (noParts (ps.toList.map fun (i, x) => (i, evA s x)) 0).bind fun vs =>
      if vs.length = n ∧ n * k ≤ 16777216 ∧ rowOk P e k = true then
        (mapO (expt (fun _ => false) objs DEPTH) vs).bind fun xs => if xs.all (elemOk P e k) then some { val := .own (8 * d) 0, news := [(8 * d, .row e k xs 0 false)], frz := vs.flatMap (refsOf objs DEPTH) } else none else none
  | .load t a => (loadA P objs t (evA s a)).map fun v => { val := v }
  | .fieldAddr t x f => (faddr P objs t f (evA s x)).map fun v => { val := v }
  | .field t x f => (fieldV P t f (evA s x)).map fun v => { val := v }
  | .indexAddr t x i => (addr P objs t (evA s x) (evA s i)).map fun v => { val := v }
  | .index t x i => match evA s x with
    | .agg cs => (arrA P t cs (evA s i)).map fun v => { val := v }
    | u => (indexA P t u (evA s i)).map fun v => { val := v }
  | .slice t x lo hi none => match evA s x with
    | .str b => (match lo, hi with
      | none, none => pure1 P (fun x => Instr.sliceAt t x none none none) (.str b)
      | some l, none => pure2 P (fun x l => Instr.sliceAt t x (some l) none none) (.str b) (evA s l)
      | none, some h => pure2 P (fun x h => Instr.sliceAt t x none (some h) none) (.str b) (evA s h)
      | some l, some h => (toV (evA s l)).bind fun vl => (toV (evA s h)).bind fun vh => (pureRun P (Instr.sliceAt t (.string b) (some vl) (some vh) none)).bind ofV).map fun v => { val := v }
    | .sl xs => (elemT P t).bind fun e => (sizeT P e).bind fun k => (match hi with | none => some xs.length | some h => idx (evA s h)).bind fun h => (match lo with | none => some 0 | some l => idx (evA s l)).bind fun l =>
        if l ≤ h then if h ≤ xs.length then if xs.all (elemOk P e k) then some { val := .sl ((xs.take h).drop l) } else none else none else none
    | .nils => (elemT P t).bind fun e => (sizeT P e).bind fun k => (match hi with | none => some 0 | some h => idx (evA s h)).bind fun h => (match lo with | none => some 0 | some l => idx (evA s l)).bind fun l => if l = 0 ∧ h = 0 then some { val := .nils } else none
    | .own r g => match hi, lo with
      | none, some q => (elemT P t).bind fun e => (sizeT P e).bind fun k => (idx (evA s q)).bind fun l => match objs r with
        | some (.row e' k' xs g' _) => if g' = g ∧ e' = e ∧ k' = k ∧ l ≤ xs.length then some { val := .vw r g l } else none
        | _ => none
      | _, _ => none
    | _ => none
  | .makeSlice t l c => match evA s l, evA s c with
    | .int _ n, .int _ m => (elemT P t).bind fun e => (sizeT P e).bind fun k => (bytesT P e).bind fun b => (zeroOf P e).bind fun z =>
        if rowOk P e k = true ∧ elemOk P e k z = true then if 0 ≤ n ∧ n ≤ m ∧ (b : Int) * m ≤ 281474976710656 ∧ m ≤ 9223372036854775807 then some { val := .own (8 * d) 0, news := [(8 * d, .row e k (List.replicate n.toNat z) 0 false)] } else none else none
    | _, _ => none
  | .extract t i => match evA s t with
    | .tup vs => (vs[i]?).map fun v => { val := v }
    | _ => none
  | .makeFunc (.func f) fi caps => if fi.size = 0 then some { val := .fn f (caps.toList.map (evA s)) } else none
  | .nilCheck x => match evA s x with
    | .ia cs o => some { val := .ia cs o }
    | .ba b o => some { val := .ba b o }
    | .oa r g i o => (plus objs (.oa r g i o) 0).map fun v => { val := v }
    | _ => none
  | .call c => match c.callee with
    | .value (.func f) => callE P C objs d f (c.args.toList.map (evA s))
    | .value (.tmp t) => match s t with
      | .fn f caps => callE P C objs d f (c.args.toList.map (evA s) ++ caps)
      | _ => none
    | .builtin .len => match c.args.toList, c.argTypes[0]? with
      | [x], some t => (lenT P objs t (evA s x)).map fun n => { val := .int .i64 n }
      | _, _ => none
    | .builtin .cap => match c.args.toList, c.argTypes[0]? with
      | [x], some t => match P.underlying t, evA s x with
        | some (.slice _), .nils => some { val := .int .i64 0 }
        | _, _ => none
      | _, _ => none
    | .builtin b => if b = .min ∨ b = .max then match c.args.toList with
      | [x, y] => (toV (evA s x)).bind fun vx => (toV (evA s y)).bind fun vy => (pureRun P (builtin b c.argTypes ty (c.args.map fun | .const _ => true | _ => false) #[vx, vy])).bind fun
        | .value v => (ofV v).map fun v => { val := v }
        | _ => none
      | _ => none else none
    | _ => none
  | _ => none

def Env.turn (σ : Env) (r : Nat) (o : AObj) (frz : List Nat) : Env := ({ σ with objs := freeze σ.objs frz } : Env).obj r o
/-- A store of cells into what is the frame's own. -/
def storeA (σ : Env) (x : AV) (p : AV) : Option (Nat × AObj × List Nat) :=
  if cellsNow σ.objs x && x.cells.all (cellNow σ.objs) then match p with
    | .ba b off => match σ.objs b with
      | some (.box cs false) => (putAt cs off x.cells).map fun cs => (b, .box cs false, [])
      | _ => none
    | .oa r g i off => match σ.objs r with
      | some (.row e k xs g' false) => if g' = g then (xs[i]?).bind fun y => (mapO (expt (fun _ => false) σ.objs DEPTH) x.cells).bind fun vs =>
          if vs.all cellOK && (x.cells.flatMap (refsOf σ.objs DEPTH)).all (· != r) then (putAt y.cells off vs).map fun cs =>
            (r, .row e k (xs.set i (shaped y cs)) g' false, x.cells.flatMap (refsOf σ.objs DEPTH)) else none else none
      | _ => none
    | _ => none
  else none
/-- The elements that an append adds, with the row that they come from. -/
def newsA (objs : Nat → Option AObj) : AV → Option (List Nat × List AV)
  | .own r g => match objs r with
    | some (.row _ _ ys g' _) => if g' = g then some ([r], ys) else none
    | _ => none
  | .sl ys => some ([], ys)
  | .nils => some ([], [])
  | _ => none
def appendA (P : Program) (σ : Env) (d : Nat) (t : TypeId) (x y : AV) : Option (Nat × AObj × List Nat × AV) :=
  (newsA σ.objs y).bind fun (frz, ys) => (elemT P t).bind fun e => (sizeT P e).bind fun k => (bytesT P e).bind fun b =>
    if rowOk P e k = true ∧ ys.all (elemOk P e k) = true then match x with
      | .own r g => match σ.objs r with
        | some (.row e' k' xs g' false) => if g' = g ∧ e' = e ∧ k' = k ∧ frz.all (· != r) = true ∧ xs.length + ys.length ≤ maxLen ∧ (xs.length + ys.length) * b ≤ 140737488355328 then
            some (r, .row e k (xs ++ ys) (g + 1) false, frz, .own r (g + 1)) else none
        | _ => none
      | .nils => if (σ.objs (8 * d)).isNone = true ∧ frz.all (· != 8 * d) = true ∧ ys.length ≤ maxLen ∧ ys.length * b ≤ 140737488355328 then
            some (8 * d, .row e k ys 0 false, frz, .own (8 * d) 0) else none
      | _ => none
    else none
/-- A call that hands a row over: what the row is then, and the call's value. -/
def gotG (e k r g : Nat) : AV → Option (AV × AObj)
  | .fr e' k' ys => if e' = e ∧ k' = k then some (.own r (g + 1), .row e k ys (g + 1) false) else none
  | v => if scalarR v then some (v, .row e k [] (g + 1) false) else none
def giveA (C : Callee) (σ : Env) (f : Nat) : List AV → Option (Nat × AObj × List Nat × AV)
  | .own r g :: rest => match σ.objs r with
    | some (.row e k xs g' false) => if g' = g ∧ (rest.flatMap (refsOf σ.objs DEPTH)).all (· != r) = true then
        (mapO (expt (fun _ => false) σ.objs DEPTH) rest).bind fun as => (C f (.fr e k xs :: as)).bind fun res => (gotG e k r g res).map fun (v, o) => (r, o, rest.flatMap (refsOf σ.objs DEPTH), v) else none
    | _ => none
  | _ => none
/-- A call that turns what its first argument leads to: what that is then, and the call's value. -/
def isFb : AV → Bool
  | .fb _ => true
  | _ => false
def gotI (id : Nat) (o : AObj) (frz : List Nat) : AV → Option (Nat × AObj × List Nat × AV)
  | .inp v fin => match o, fin with
    | .row e k _ g _, .fr e' k' ys => if e' = e ∧ k' = k then some (id, .row e k ys g false, frz, v) else none
    | .box _ _, .fb cs => some (id, .box cs false, frz, v)
    | _, _ => none
  | _ => none
def inplA (C : Callee) (σ : Env) (f : Nat) : List AV → Option (Nat × AObj × List Nat × AV)
  | .own r g :: rest => match σ.objs r with
    | some (.row e k xs g' false) => if g' = g ∧ (rest.flatMap (refsOf σ.objs DEPTH)).all (· != r) = true then
        (mapO (expt (fun _ => false) σ.objs DEPTH) rest).bind fun as => (C f (.fr e k xs :: as)).bind (gotI r (.row e k xs g' false) (rest.flatMap (refsOf σ.objs DEPTH))) else none
    | _ => none
  | .ba b 0 :: rest => match σ.objs b with
    | some (.box cs false) => if ((cs ++ rest).flatMap (refsOf σ.objs DEPTH)).all (· != b) = true then
        (mapO (expt (fun _ => false) σ.objs DEPTH) cs).bind fun bs => (mapO (expt (fun _ => false) σ.objs DEPTH) rest).bind fun as => (C f (.fb bs :: as)).bind (gotI b (.box cs false) ((cs ++ rest).flatMap (refsOf σ.objs DEPTH))) else none
    | _ => none
  | _ => none
/-- An own row, cut short. -/
def cutOwn (P : Program) (σ : Env) (t : TypeId) (x : AV) (q : AV) : Option (Nat × AObj × AV) := match x with
  | .own r g => match σ.objs r with
    | some (.row e k xs g' false) => if g' = g ∧ elemT P t = some e ∧ sizeT P e = some k then (idx q).bind fun h => if h ≤ xs.length then some (r, .row e k (xs.take h) (g + 1) false, .own r (g + 1)) else none else none
    | _ => none
  | _ => none
/-- The rest of an own row, cleared. -/
def clearA (P : Program) (σ : Env) (t : TypeId) (x : AV) : Option (Nat × AObj) := match x with
  | .vw r g i => match σ.objs r with
    | some (.row e k xs g' false) => if g' = g ∧ elemT P t = some e ∧ i ≤ xs.length then (zeroOf P e).bind fun z => if elemOk P e k z = true ∧ sizeT P e = some k then some (r, .row e k (xs.take i ++ List.replicate (xs.length - i) z) g false) else none else none
    | _ => none
  | _ => none
/-- An operation that writes: a store into what is the frame's own, an append to a row of its own. -/
def modOf (P : Program) (C : Callee) (σ : Env) (dst : Option Nat) : Op → Option Env
  | .store t a x => (sizeT P t).bind fun k => if (evA σ.slots x).cells.length = k then (storeA σ (evA σ.slots x) (evA σ.slots a)).map fun (r, o, frz) => (σ.turn r o frz).put dst .und else none
  | .slice t x none (some q) none => (cutOwn P σ t (evA σ.slots x) (evA σ.slots q)).map fun (r, o, v) => (σ.turn r o []).put dst v
  | .call c => match c.callee with
    | .builtin .append => match c.args.toList, c.argTypes.toList, dst with
      | [x, y], [t, t'], some d => if t' = t then (appendA P σ d t (evA σ.slots x) (evA σ.slots y)).map fun (r, o, frz, v) => (σ.turn r o frz).put (some d) v else none
      | _, _, _ => none
    | .builtin .clear => match c.args.toList, c.argTypes.toList with
      | [x], [t] => (clearA P σ t (evA σ.slots x)).map fun (r, o) => (σ.turn r o []).put dst (.tup [])
      | _, _ => none
    | .value (.func f) => if entersB P f && givesB P f then (if inplB P f then inplA C σ f (c.args.toList.map (evA σ.slots)) else giveA C σ f (c.args.toList.map (evA σ.slots))).map fun (r, o, frz, v) => (σ.turn r o frz).put dst v else none
    | _ => none
  | _ => none
def Env.eff (σ : Env) (dst : Option Nat) (e : Eff) : Env := (({ σ with objs := freeze σ.objs e.frz }).objsL e.news).put dst e.val
def wantedA (ops : Array Oper) (s : Nat → AV) (o : Oper) : Option Bool := match o.guard with
  | none => some true
  | some (j, want) => match (ops[j]?).bind (·.dst) with
    | some t => match s t with
      | .bool b => some (b == want)
      | .und => some false
      | _ => none
    | none => none
def stepA (P : Program) (C : Callee) (ops : Array Oper) (σ : Env) (o : Oper) : Option Env :=
  if o.dst.all σ.n.ok then (wantedA ops σ.slots o).bind fun
    | false => some (σ.put o.dst .und)
    | true => match effOf P C σ.slots σ.objs (o.dst.getD 0) o.type o.op with
      | some e => if e.news.all (fun p => (σ.objs p.1).isNone) then some (σ.eff o.dst e) else none
      | none => modOf P C σ o.dst o.op
  else none
def opsA (P : Program) (C : Callee) (ops : Array Oper) : List Oper → Env → Option Env
  | [], σ => some σ
  | o :: rest, σ => (stepA P C ops σ o).bind (opsA P C ops rest)
end Go.Abs
