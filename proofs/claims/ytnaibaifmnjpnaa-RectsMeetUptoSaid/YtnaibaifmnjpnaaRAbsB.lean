import Derived.Test.YtnaibaifmnjpnaaRAbsA
set_option linter.unusedVariables false
set_option linter.unusedSimpArgs false
namespace Go.Abs
open Go.RowKit

/-! ### Rounds without a bound -/
def iterN {σ ρ : Type} (step : σ → Option (σ ⊕ ρ)) : Nat → σ → Option ρ
  | 0, _ => none
  | n + 1, s => match step s with
    | none => none
    | some (.inr r) => some r
    | some (.inl s') => iterN step n s'
open Classical in
noncomputable def iter {σ ρ : Type} (step : σ → Option (σ ⊕ ρ)) (s : σ) : Option ρ :=
  if h : ∃ n r, iterN step n s = some r then some (Classical.choose (Classical.choose_spec h)) else none
theorem iterN_mono {σ ρ : Type} (step : σ → Option (σ ⊕ ρ)) : ∀ n s r, iterN step n s = some r → ∀ m, n ≤ m → iterN step m s = some r := by
  intro n
  induction n with
  | zero => intro s r h; simp [iterN] at h
  | succ n ih =>
    intro s r h m hm
    obtain ⟨m, rfl⟩ : ∃ q, m = q + 1 := ⟨m - 1, by omega⟩
    simp only [iterN] at h ⊢
    split <;> simp_all
theorem iter_some {σ ρ : Type} {step : σ → Option (σ ⊕ ρ)} {s : σ} {r : ρ} : iter step s = some r ↔ ∃ n, iterN step n s = some r := by
  unfold iter
  constructor
  · intro h
    split at h
    · rename_i hh
      refine ⟨Classical.choose hh, ?_⟩
      rw [Classical.choose_spec (Classical.choose_spec hh)]
      exact h
    · cases h
  · rintro ⟨n, hn⟩
    have hh : ∃ n r, iterN step n s = some r := ⟨n, r, hn⟩
    rw [dif_pos hh]
    have h1 := Classical.choose_spec (Classical.choose_spec hh)
    have h2 := iterN_mono step _ _ _ h1 (max n (Classical.choose hh)) (Nat.le_max_right ..)
    have h3 := iterN_mono step _ _ _ hn (max n (Classical.choose hh)) (Nat.le_max_left ..)
    rw [h2] at h3
    exact h3
theorem iter_eq {σ ρ : Type} (step : σ → Option (σ ⊕ ρ)) (s : σ) : iter step s = match step s with
    | none => none
    | some (.inr r) => some r
    | some (.inl s') => iter step s' := by
  apply Option.ext
  intro r
  rw [iter_some]
  constructor
  · rintro ⟨n, hn⟩
    cases n with
    | zero => simp [iterN] at hn
    | succ n =>
      simp only [iterN] at hn
      split <;> simp_all
      exact iter_some.2 ⟨n, hn⟩
  · intro h
    split at h
    · cases h
    · exact ⟨1, by simp_all [iterN]⟩
    · rename_i s' hs
      obtain ⟨n, hn⟩ := iter_some.1 h
      exact ⟨n + 1, by simp [iterN, hs, hn]⟩

/-! ### What is kept at a loop's head -/
abbrev Keep := List (Nat × Option (Nat × Nat))
def claimOf (σ : Env) : Nat × Option (Nat × Nat) → List Nat
  | (t, some _) => match σ.slots t with
    | .own r _ => [r]
    | _ => []
  | (t, none) => match σ.slots t with
    | .ba b _ => [b]
    | _ => []
def noDup : List Nat → Bool
  | [] => true
  | x :: xs => !xs.contains x && noDup xs
def normOne (σ : Env) (no : Nat → Bool) : Nat × Option (Nat × Nat) → Option (AV × Option AObj)
  | (t, some (e, k)) => match σ.slots t with
    | .own r g => match σ.objs r with
      | some (.row e' k' xs g' false) => if g' = g ∧ e' = e ∧ k' = k then some (.own (8 * t) 0, some (.row e k xs 0 false)) else none
      | _ => none
    | .nils => if 0 < k then some (.own (8 * t) 0, some (.row e k [] 0 false)) else none
    | _ => none
  | (t, none) => match σ.slots t with
    | .ba b 0 => match σ.objs b with
      | some (.box cs fz) => (mapO (expt no σ.objs DEPTH) cs).map fun cs => (.ba (8 * t) 0, some (.box cs fz))
      | _ => none
    | .und => some (.und, none)
    | v => (expt no σ.objs DEPTH v).map fun v => (v, none)
def normAll (σ : Env) (no : Nat → Bool) : Keep → Option Env
  | [] => some { slots := fun _ => .undef, objs := fun _ => none, n := σ.n }
  | (t, q) :: l => (normOne σ no (t, q)).bind fun (v, o) => (normAll σ no l).map fun τ =>
      { slots := upd τ.slots t v, objs := match o with | some o => upd τ.objs (8 * t) (some o) | none => τ.objs, n := σ.n }
def normA (keep : Keep) (σ : Env) : Option Env :=
  if noDup (keep.map (·.1)) && noDup (keep.flatMap (claimOf σ)) then normAll σ (fun r => (keep.flatMap (claimOf σ)).contains r) keep else none
/-- Two slots that hold the same own row. -/
def aliasOk (σ : Env) (p : Nat × Nat) : Bool := match σ.slots p.1, σ.slots p.2 with
  | .own r g, .own r' g' => r == r' && g == g' && (match σ.objs r with
    | some (.row _ _ _ h _) => g == h
    | _ => false)
  | .nils, .nils => true
  | _, _ => false
def aliased (τ : Env) : List (Nat × Nat) → Env
  | [] => τ
  | (a, m) :: l => { aliased τ l with slots := upd (aliased τ l).slots a ((aliased τ l).slots m) }
def normB (keep : Keep) (al : List (Nat × Nat)) (σ : Env) : Option Env :=
  if al.all (aliasOk σ) then (normA keep σ).map fun τ => aliased τ al else none

/-! ### Code -/
inductive AExit where
  | normal | exit (id : Nat) | ret
def firstRegion : Code → Nat
  | .region id _ _ => id
  | .seq a _ => firstRegion a
  | .block _ b => firstRegion b
  | .loop b => firstRegion b
  | _ => 0
/-! A region that draws its order: quiet operations ahead in any order, the rest behind them all in one order. -/
def quietOp : Op → Bool
  | .store .. => false
  | .call c => match c.callee with
    | .builtin .append => false
    | _ => true
  | _ => true
def befOne (ord : List Nat) (j : Nat) (o : Oper) (befs : List (List Nat)) : List Nat :=
  (List.range j).filter fun i => o.after.toList.any fun e => Region.binds .any e && (ord.idxOf e.on == i || (befs.getD (ord.idxOf e.on) []).contains i)
def befsOf (ord : List Nat) : List Oper → List (List Nat) → List (List Nat)
  | [], befs => befs
  | o :: l, befs => befsOf ord l (befs ++ [befOne ord befs.length o befs])
/-- The operations of a region in an order of their own. -/
def inOrd (ops : Array Oper) (ord : List Nat) : List Oper := ord.map fun i => ops.getD i default
def ordOk (ops : Array Oper) (ord : List Nat) : Bool := noDup ord && (ord.all fun i => decide (i < ops.size)) && (List.range ops.size).all ord.contains && ord.length == ops.size
/-- What may be looked at once and for all. -/
def befAt (befs : List (List Nat)) (j i : Nat) : Bool := (befs.getD j []).contains i
def statEdges (ord : List Nat) (L : List Oper) : Bool := L.zipIdx.all fun (o, j) => o.after.toList.all fun e => !Region.binds .any e || decide (ord.idxOf e.on < j)
def statBef (ord : List Nat) (L : List Oper) (befs : List (List Nat)) : Bool := L.zipIdx.all fun (o, j) => (befs.getD j []).all fun i => decide (i < j) &&
  (o.after.toList.any fun e => Region.binds .any e && (ord.idxOf e.on == i || befAt befs (ord.idxOf e.on) i)) && (befs.getD i []).all (befAt befs j)
def statApart (ops : Array Oper) (L : List Oper) (befs : List (List Nat)) : Bool := L.zipIdx.all fun (o, j) => L.zipIdx.all fun (q, i) => i == j || match q.dst with
    | some d => o.dst != some d && (!(o.looksAt ops).contains d || befAt befs j i || befAt befs i j)
    | none => true
def statTail (n m : Nat) (befs : List (List Nat)) : Bool := (List.range m).all fun j => decide (j < n) || (List.range j).all (befAt befs j)
def statOk (ops : Array Oper) (ord : List Nat) (befs : List (List Nat)) (n : Nat) : Bool :=
  ordOk ops ord && statEdges ord (inOrd ops ord) && statBef ord (inOrd ops ord) befs && statApart ops ((inOrd ops ord).take n) befs && statTail n ops.size befs && decide (n ≤ ops.size)
/-- An effect in a region: of an operation that is quiet, or of a store: the object as the store leaves it, and which of its cells it turns. -/
structure REff where
  e : Eff
  st : Option (Nat × AObj × Nat × Nat) := none
def Env.reff (σ : Env) (dst : Option Nat) (r : REff) : Env := (match r.st with
  | none => σ
  | some (id, o, _, _) => σ.obj id o).eff dst r.e
abbrev REffs := List (Option Nat × REff)
def envSub (bef : Nat → Bool) : REffs → Nat → Env → Env
  | [], _, σ => σ
  | (d, e) :: l, i, σ => envSub bef l (i + 1) (if bef i then σ.reff d e else σ)
def rangeOf (p : AV) (k : Nat) : Nat × Nat := match p with
  | .ba _ off => (off, k)
  | _ => (0, 0)
def storeE (P : Program) (σ : Env) (t : TypeId) (a x : Operand) : Option REff :=
  (sizeT P t).bind fun k => if (evA σ.slots x).cells.length = k then (storeA σ (evA σ.slots x) (evA σ.slots a)).bind fun (r, o, frz) =>
    if frz.isEmpty then some { e := { val := .und }, st := some (r, o, (rangeOf (evA σ.slots a) k).1, (rangeOf (evA σ.slots a) k).2) } else none else none
def quietE (P : Program) (C : Callee) (σ : Env) (o : Oper) : Option REff := (effOf P C σ.slots σ.objs (o.dst.getD 0) o.type o.op).bind fun e => if e.frz.all (fun id => (σ.objs id).isSome) then some { e := e } else none
def doneE (P : Program) (C : Callee) (σ : Env) (o : Oper) : Option REff := match o.op with
  | .store t a x => storeE P σ t a x
  | _ => quietE P C σ o
def stepE (P : Program) (C : Callee) (ops : Array Oper) (σ : Env) (o : Oper) : Option REff :=
  if o.dst.all σ.n.ok then (wantedA ops σ.slots o).bind fun
    | false => some { e := { val := .und } }
    | true => doneE P C σ o
  else none
def effsA (P : Program) (C : Callee) (ops : Array Oper) (σ : Env) (befs : List (List Nat)) : List Oper → REffs → Option REffs
  | [], es => some es
  | o :: l, es => (stepE P C ops (envSub (befAt befs es.length) es 0 σ) o).bind fun e => effsA P C ops σ befs l (es ++ [(o.dst, e)])
/-- The stores that may come ahead of an operation or behind it: what they turn of an object. -/
def clash (befs : List (List Nat)) (es : REffs) (j : Nat) (id : Nat) : List (Nat × Nat) := es.zipIdx.filterMap fun p => match p.1.2.st with
  | some (id', _, off, n) => if id' = id ∧ p.2 ≠ j ∧ befAt befs j p.2 = false ∧ befAt befs p.2 j = false then some (off, n) else none
  | none => none
def noClash (U : Nat → List (Nat × Nat)) (ids : List Nat) : Bool := ids.all fun id => (U id).isEmpty
/-- An operation sees nothing of what these stores turn. -/
def mayA (P : Program) (σ : Env) (U : Nat → List (Nat × Nat)) : Op → Bool
  | .load t a => match evA σ.slots a with
    | .ba b off => match sizeT P t with
      | some k => (U b).all fun q => decide (off + max k 1 ≤ q.1) || decide (q.1 + q.2 ≤ off)
      | none => true
    | .oa r _ _ _ => (U r).isEmpty
    | _ => true
  | .call c => match c.callee with
    | .value (.func _) => noClash U ((c.args.toList.map (evA σ.slots)).flatMap (refsOf σ.objs DEPTH))
    | .value (.tmp t) => match σ.slots t with
      | .fn _ caps => noClash U ((c.args.toList.map (evA σ.slots) ++ caps).flatMap (refsOf σ.objs DEPTH))
      | _ => true
    | _ => true
  | .buildSlice _ _ ps => noClash U ((ps.toList.map fun (_, x) => evA σ.slots x).flatMap (refsOf σ.objs DEPTH))
  | .store _ _ x => noClash U ((evA σ.slots x).cells.flatMap (refsOf σ.objs DEPTH))
  | _ => true
def clashOk (P : Program) (L : List Oper) (σ : Env) (befs : List (List Nat)) (es : REffs) : Bool := (es.all fun p => p.2.st.isNone) || L.zipIdx.all fun (o, j) => mayA P (envSub (befAt befs j) (es.take j) 0 σ) (clash befs es j) o.op
/-- Stores on one object are in an order, and nothing is named by value that they turn. -/
def storesOk (befs : List (List Nat)) (es : REffs) : Bool := es.zipIdx.all fun p => match p.1.2.st with
  | none => true
  | some (id, _, _, _) => (es.all fun q => !q.2.e.frz.contains id) && (es.zipIdx.all fun q => !(q.1.2.e.news.map (·.1)).contains id || befAt befs p.2 q.2) && es.zipIdx.all fun q => match q.1.2.st with
    | none => true
    | some (id', _, _, _) => id' != id || q.2 == p.2 || befAt befs p.2 q.2 || befAt befs q.2 p.2
def newsOk (σ : Env) (es : REffs) : Bool :=
  noDup (es.flatMap fun p => p.2.e.news.map (·.1)) && (es.flatMap fun p => p.2.e.news.map (·.1)).all fun id => (σ.objs id).isNone
def ordOf (ops : Array Oper) (l : List Nat) : List Nat := if l.isEmpty then List.range ops.size else l
def drawA (P : Program) (C : Callee) (ops : Array Oper) (ord : List Nat) (hd : Option Nat) (σ : Env) : Option Env :=
  let L := inOrd ops ord
  let n := hd.getD (L.findIdx fun o => !quietOp o.op)
  let befs := befsOf ord L []
  if statOk ops ord befs n then (effsA P C ops σ befs (L.take n) []).bind fun es =>
    if newsOk σ es && storesOk befs es && clashOk P (L.take n) σ befs es then opsA P C ops (L.drop n) (envSub (fun _ => true) es 0 σ) else none
  else none
def mkS : List (Nat × AV) → Nat → AV
  | [] => fun _ => .undef
  | (t, v) :: l => upd (mkS l) t v
def mkO : List (Nat × AObj) → Nat → Option AObj
  | [] => fun _ => none
  | (i, o) :: l => upd (mkO l) i (some o)
mutual
def within (ids : List Nat) : AV → Bool
  | .agg cs => withinL ids cs
  | .fn _ caps => withinL ids caps
  | .tup vs => withinL ids vs
  | .own r _ => ids.contains r
  | .oa r _ _ _ => ids.contains r
  | .vw r _ _ => ids.contains r
  | .ba b _ => ids.contains b
  | _ => true
def withinL (ids : List Nat) : List AV → Bool
  | [] => true
  | x :: xs => within ids x && withinL ids xs
end
def keepO (objs : Nat → Option AObj) : List Nat → List (Nat × AObj)
  | [] => []
  | i :: l => match objs i with
    | some o => (i, o) :: keepO objs l
    | none => keepO objs l
/-- From here on only these slots are known, and these rows and boxes. -/
def forget : Option (List Nat × List Nat) → Env → Option Env
  | none, σ => some σ
  | some (live, ids), σ => if (live.all fun t => within ids (σ.slots t)) && ((keepO σ.objs ids).all fun p => match p.2 with
      | .box cs _ => withinL ids cs
      | _ => true) then some { slots := mkS (live.map fun t => (t, σ.slots t)), objs := mkO (keepO σ.objs ids), n := σ.n } else none
structure FCfg where
  keep : Nat → Keep
  ord : Nat → List Nat := fun _ => []
  /-- How many operations of a region that draws may be in any order (none: all that are quiet ahead of the first that is not). -/
  hd : Nat → Option Nat := fun _ => none
  live : Nat → Option (List Nat × List Nat)
  /-- What is kept between two parts, by the first region of the second. -/
  lin : Nat → Option (List Nat × List Nat) := fun _ => none
  /-- At a loop's head: slots that hold the same own row as another slot that is kept. -/
  al : Nat → List (Nat × Nat) := fun _ => []
  /-- All that is handed back is handed back by value. -/
  byval : Bool := false
noncomputable def execA (P : Program) (C : Callee) (K : FCfg) : Code → Env → Option (AExit × Env)
  | .skip, σ => some (.normal, σ)
  | .ret, σ => some (.ret, σ)
  | .exit id, σ => some (.exit id, σ)
  | .region id ops draw, σ => (if draw then drawA P C ops (ordOf ops (K.ord id)) (K.hd id) σ else opsA P C ops ops.toList σ).bind fun τ => (forget (K.live id) τ).map fun τ => (.normal, τ)
  | .seq a b, σ => match execA P C K a σ with
    | some (.normal, τ) => (forget (K.lin (firstRegion b)) τ).bind fun τ => execA P C K b τ
    | r => r
  | .cond c t e, σ => match evA σ.slots c with
    | .bool true => execA P C K t σ
    | .bool false => execA P C K e σ
    | _ => none
  | .block id b, σ => match execA P C K b σ with
    | some (.exit i, τ) => if i = id then some (.normal, τ) else some (.exit i, τ)
    | r => r
  | .loop b, σ => (normB (K.keep (firstRegion b)) (K.al (firstRegion b)) σ).bind (iter fun s => match execA P C K b s with
    | some (.normal, τ) => (normB (K.keep (firstRegion b)) (K.al (firstRegion b)) τ).map .inl
    | some r => some (.inr r)
    | none => none)
  | _, _ => none

/-! ### Functions -/
def convR (P : Program) (σ : Env) (no : Nat → Bool) (bv : Bool) (ty : TypeId) : ResultVar → Option AV
  | .tmp t => if bv then expt no σ.objs DEPTH (σ.slots t) else match σ.slots t with
    | .own r g => match σ.objs r with
      | some (.row e k xs g' fz) => if g' = g then (if fz then some (.sl xs) else some (.fr e k xs)) else none
      | _ => none
    | .nils => (elemT P ty).bind fun e => (sizeT P e).bind fun k => if 0 < k then some (.fr e k []) else none
    | v => expt no σ.objs DEPTH v
  | .cell a t => (loadA P σ.objs t (σ.slots a)).bind (expt no σ.objs DEPTH)
def claimR (σ : Env) (bv : Bool) : ResultVar → List Nat
  | .tmp t => if bv then [] else match σ.slots t with
    | .own r _ => [r]
    | _ => []
  | _ => []
def resultsA (P : Program) (bv : Bool) (fn : Func) (σ : Env) : Option AV :=
  let cl := fn.results.toList.flatMap (claimR σ bv)
  if noDup cl then
    (mapO (fun (r, ty) => convR P σ cl.contains bv ty r) (fn.results.toList.zip fn.resultTypes.toList)).bind fun vs =>
      if vs.length = fn.results.size then match vs with
        | [v] => some v
        | vs => some (.tup vs)
      else none
  else none
/-! A function that turns what its first argument leads to: its results by value, and what that is at the end. -/
def claim0 (σ : Env) : Option Nat := match σ.slots 0 with
  | .own r _ => some r
  | .ba b 0 => some b
  | _ => none
def finA (no : Nat → Bool) (σ : Env) : Option AV := match σ.slots 0 with
  | .own r g => match σ.objs r with
    | some (.row e k xs g' false) => if g' = g then some (.fr e k xs) else none
    | _ => none
  | .ba b 0 => match σ.objs b with
    | some (.box cs false) => (mapO (expt no σ.objs DEPTH) cs).map .fb
    | _ => none
  | _ => none
def packA : List AV → AV
  | [v] => v
  | vs => .tup vs
def resultsI (P : Program) (fn : Func) (σ : Env) : Option AV := if σ.n.z then (claim0 σ).bind fun id =>
    (mapO (fun (r, ty) => convR P σ (fun r => r == id) true ty r) (fn.results.toList.zip fn.resultTypes.toList)).bind fun vs =>
      if vs.length = fn.results.size then (finA (fun r => r == id) σ).map (.inp (packA vs)) else none
  else none
def resA (P : Program) (bv : Bool) (f : Nat) (fn : Func) (σ : Env) : Option AV := if inplB P f then resultsI P fn σ else resultsA P bv fn σ
structure Cfg where
  fn : Nat → FCfg
  leaf : Nat → Option (Callee → List AV → Option AV)
/-- The frame as it begins: the rows that are handed over are the frame's own. -/
def frame0 (args : List AV) (n : Nat) (z : Bool) : Env := { slots := mkS ((recvL 0 args).1.zipIdx.map fun p => (p.2, p.1)), objs := mkO (recvL 0 args).2, n := ⟨max args.length n, z⟩ }
noncomputable def bodyA (P : Program) (cfg : Cfg) (C : Callee) (f : Nat) (fn : Func) (args : List AV) : Option AV :=
  match fn.body with
  | some c => match execA P C (cfg.fn f) c (frame0 args fn.ntmps (inplB P f && headFr args)) with
    | some (.normal, τ) => resA P (cfg.fn f).byval f fn τ
    | some (.ret, τ) => resA P (cfg.fn f).byval f fn τ
    | _ => none
  | none => none
noncomputable def callA (P : Program) (cfg : Cfg) : Nat → Callee
  | 0 => fun _ _ => none
  | n + 1 => fun f args => match cfg.leaf f with
    | some L => L (callA P cfg n) args
    | none => match P.funcs[f]? with
      | some fn => bodyA P cfg (callA P cfg n) f fn args
      | none => none
end Go.Abs
