import Derived.Test.YtnaibaifmnjpnaaRAbsB
set_option linter.unusedVariables false
set_option linter.unusedSimpArgs false
namespace Go.Abs
open Go.RowKit

/-! Draws are only ever added. -/
theorem viewStore_drawn {P : Program} {w : World} {a k : Addr} {u : TypeId} {v : Value} {b : Bool} {r : World × List Addr} (h : w.viewStore P a u k v b = .ok r) : r.1.drawn = w.drawn := by
  unfold World.viewStore at h
  simp only [bind, Except.bind, pure, Except.pure] at h
  repeat' (split at h <;> try (cases h))
  all_goals rfl
theorem ask_drawn {α : Type} : ∀ (s : Ask α) (w : World), w.drawn ≤ (w.ask s).2.drawn
  | .done a, w => Nat.le_refl _
  | .ask what range k, w => by
    simp only [World.ask]
    split
    · exact ask_drawn _ _
    · have h2 := ask_drawn (k ((Question.extern what range).cut (w.tape w.drawn (Question.extern what range)))) { w with drawn := w.drawn + 1 }
      exact Nat.le_of_succ_le h2
theorem run_drawn {α : Type} {P : Program} : ∀ (s : Sem α) (w : World) (v : α) (w' : World), s.run P w = .ok v w' → w.drawn ≤ w'.drawn := by
  intro s
  induction s with
  | pure a => intro w v w' h; cases h; exact Nat.le_refl _
  | load m a k ih =>
    intro w v w' h
    simp only [Sem.run] at h
    split at h
    · exact ih _ _ _ _ h
    · split at h
      · exact ih _ _ _ _ h
      · cases h
  | store m a v k ih =>
    intro w v' w' h
    have h1 : ∀ w2, w.farStore P a v (m == Mode.atomic) = .ok w2 → w2.1.drawn = w.drawn := fun w2 he => by
      unfold World.farStore at he
      split at he
      · split at he
        · rename_i r hr
          cases he
          exact viewStore_drawn hr
        · cases he
      · cases he
    cases v <;> simp only [Sem.run] at h <;> first
      | (exfalso; cases h; done)
      | (split at h
         · split at h
           · cases h
           · have h2 := ih _ _ _ h
             exact h2
         · split at h
           · rename_i w2 l he
             rw [← h1 _ he]
             exact ih _ _ _ h
           · cases h)
  | new o k ih => intro w v w' h; simp only [Sem.run] at h; have h2 := ih _ _ _ _ h; exact h2
  | shape r k ih => intro w v w' h; simp only [Sem.run] at h; exact ih _ _ _ _ h
  | freeze a n k ih =>
    intro w v w' h
    have e : (w.freeze a n).drawn = w.drawn := by
      unfold World.freeze
      split <;> rfl
    rw [← e]
    exact ih _ _ _ h
  | frozen a k ih => intro w v w' h; simp only [Sem.run] at h; exact ih _ _ _ _ h
  | getObj r k ih =>
    intro w v w' h
    simp only [Sem.run] at h
    split at h
    · cases h
    · exact ih _ _ _ _ h
    · cases h
  | setObj r o k ih =>
    intro w v w' h
    simp only [Sem.run] at h
    split at h
    · cases h
    · have h2 := ih _ _ _ h
      exact h2
    · cases h
  | choose q k ih =>
    intro w v w' h
    simp only [Sem.run] at h
    split at h
    · exact ih _ _ _ _ h
    · have h2 := ih _ _ _ _ h
      exact Nat.le_of_succ_le h2
  | sys c k ih =>
    intro w v w' h
    have e : w.drawn ≤ (w.sys c).2.drawn := by
      unfold World.sys
      split
      · exact Nat.le_refl _
      · rename_i r os w2 _ he
        have h2 := ask_drawn (Kernel.perform c w.os) w
        rw [he] at h2
        exact h2
    have h : (k (w.sys c).1).run P (w.sys c).2 = .ok v w' := h
    exact Nat.le_trans e (ih (w.sys c).1 (w.sys c).2 v w' h)
  | program k ih => intro w v w' h; exact ih _ _ _ _ h
  | mark m k ih => intro w v w' h; exact ih _ _ _ h
  | halt h => intro w v w' hh; cases hh
structure RelP where
  val : Value → Prop
  mem : (Nat → Option Value) → Prop
  n : Nat
def one (p : Value → Prop) : RelP := ⟨p, fun get => ∃ u, get 0 = some u ∧ p u, 1⟩
/-- Values side by side. -/
def AllV (rs : List RelP) (vs : List Value) : Prop := rs.length = vs.length ∧ ∀ (i : Nat) r u, rs[i]? = some r → vs[i]? = some u → r.val u
/-- Cells side by side. -/
def AllM (rs : List RelP) (get : Nat → Option Value) : Prop := ∀ (i : Nat) r, rs[i]? = some r → ∃ u, get i = some u ∧ r.val u
def blkOf : Value → Option Nat
  | .slice (some a) _ _ => some a.block
  | .pointer (some a) => some a.block
  | _ => none
abbrev at_ (b o : Nat) : Addr := ⟨b, o, none⟩

section
variable (S : Nat → Prop) (w : World) (κ : Nat → Value)
mutual
def Rel : (Nat → Option AObj) → AV → RelP
  | _, .undef => one fun _ => True
  | _, .und => one fun v => v = undef
  | _, .int k n => one fun v => v = .int k n
  | _, .bool b => one fun v => v = .bool b
  | _, .str s => one fun v => v = .string s
  | objs, .agg cs => ⟨fun v => ∃ vs : List Value, v = .agg vs.toArray ∧ AllV (RelL objs cs) vs, AllM (RelL objs cs), cs.length⟩
  | _, .sl xs => one fun v => ∃ A c, v = .slice A xs.length c ∧ xs.length ≤ c ∧ c ≤ maxLen ∧ (xs ≠ [] → ∃ b o k, A = some (at_ b o) ∧ S b ∧
      ∀ (j : Nat) r, (RelL (fun _ => none) xs)[j]? = some r → r.n = k ∧ r.mem (fun i => w.cell? (at_ b (o + j * k + i))))
  | _, .nils => one fun v => v = .slice none 0 0
  | objs, .fn f caps => one fun v => ∃ vs : List Value, v = .func (.func f) #[] vs.toArray ∧ AllV (RelL objs caps) vs
  | objs, .tup xs => one fun v => ∃ vs : List Value, v = .tuple vs.toArray ∧ AllV (RelL objs xs) vs
  | _, .ia cs off => one fun v => ∃ b o, v = .pointer (some (at_ b (o + off))) ∧ S b ∧ AllM (RelL (fun _ => none) cs) (fun i => w.cell? (at_ b (o + i)))
  | objs, .own r g => one fun v => ∃ e k xs g' fz, objs r = some (.row e k xs g' fz) ∧ g ≤ g' ∧ (g = g' → v = κ r)
  | objs, .oa r g i off => one fun v => ∃ e k xs g' fz, objs r = some (.row e k xs g' fz) ∧ g ≤ g' ∧ (g = g' → ∃ b, blkOf (κ r) = some b ∧ v = .pointer (some (at_ b (i * k + off))))
  | objs, .vw r g i => one fun v => ∃ e k xs g' fz, objs r = some (.row e k xs g' fz) ∧ g ≤ g' ∧ (g = g' → ∃ A n c, κ r = .slice A n c ∧ i ≤ n ∧ v = .slice (if c = i then A else A.map (·.add (i * k))) (n - i) (c - i))
  | objs, .ba b off => one fun v => ∃ cs fz, objs b = some (.box cs fz) ∧ ∃ blk, κ b = .pointer (some (at_ blk 0)) ∧ v = .pointer (some (at_ blk off))
  | _, .fr _ _ _ => one fun _ => False
  | _, .fb _ => one fun _ => False
  | _, .inp _ _ => one fun _ => False
def RelL : (Nat → Option AObj) → List AV → List RelP
  | _, [] => []
  | objs, x :: xs => Rel objs x :: RelL objs xs
end
end

def isFz : AObj → Bool
  | .row _ _ _ _ fz => fz
  | .box _ fz => fz
/-- Where a frame begins: the world then, and which of its blocks the frame was handed. -/
structure Base where
  w : World
  own : Nat → Prop
  lt : ∀ k, own k → k < w.heap.size
  /-- The first argument, where what it leads to is turned. -/
  arg : Value := undef
def Base.mine (b : Base) (k : Nat) : Prop := b.own k ∨ b.w.heap.size ≤ k
def base0 (w : World) : Base := ⟨w, fun _ => False, fun _ h => h.elim, undef⟩
structure BelowB (b : Base) (w' : World) : Prop where
  os : w'.os = b.w.os
  tape : w'.tape = b.w.tape
  output : w'.output = b.w.output
  size : b.w.heap.size ≤ w'.heap.size
  block : ∀ k, k < b.w.heap.size → ¬ b.own k → w'.heap[k]? = b.w.heap[k]?
  drawn : b.w.drawn ≤ w'.drawn
/-- The blocks that are written no more: what came in, and what was made since and is no open row or box of the frame. -/
def Sset (F : Nat → Prop) (B : Nat → Prop) (w : World) (κ : Nat → Value) (objs : Nat → Option AObj) (k : Nat) : Prop :=
  (F k ∨ B k) ∧ k < w.heap.size ∧ ∀ id o, objs id = some o → isFz o = false → blkOf (κ id) ≠ some k
def RowOK (S : Nat → Prop) (w : World) (B : Nat) (v : Value) (e k : Nat) (xs : List AV) : Prop :=
  0 < k ∧ ∃ zs : List Value, w.ownsRow B e k v xs.length zs ∧ (∀ u ∈ zs, u.oneCell' = true) ∧
    ∀ (j : Nat) r, (RelL S w (fun _ => undef) (fun _ => none) xs)[j]? = some r → r.n = k ∧ r.mem (fun i => zs[j * k + i]?)
def BoxOK (S : Nat → Prop) (w : World) (v : Value) (cs : List AV) : Prop :=
  ∃ blk T arr, v = .pointer (some (at_ blk 0)) ∧ w.heap[blk]? = some (.cells arr T (0, 0)) ∧ AllV (RelL S w (fun _ => undef) (fun _ => none) cs) arr.toList
def ObjOK (S : Nat → Prop) (w : World) (κ : Nat → Value) (objs : Nat → Option AObj) (B : Nat) (id : Nat) : AObj → Prop
  | .row e k xs _ _ => RowOK S w B (κ id) e k xs
  | .box cs _ => ∃ blk T arr, κ id = .pointer (some (at_ blk 0)) ∧ B ≤ blk ∧ w.heap[blk]? = some (.cells arr T (0, 0)) ∧ AllV (RelL S w κ objs cs) arr.toList
structure St (F : Nat → Prop) (w0 : Base) (κ : Nat → Value) (σ : Env) (a : Act) (w : World) : Prop where
  slots : ∀ t, (Rel (Sset F w0.mine w κ σ.objs) w κ σ.objs (σ.slots t)).val (a.tmps.getD t undef)
  objs : ∀ id o, σ.objs id = some o → ObjOK (Sset F w0.mine w κ σ.objs) w κ σ.objs 0 id o
  apart : ∀ i j oi oj, σ.objs i = some oi → σ.objs j = some oj → i ≠ j → ∀ b, blkOf (κ i) = some b → blkOf (κ j) ≠ some b
  below : BelowB w0 w
  defers : a.defers = []
  size : σ.n.n ≤ a.tmps.size
  mine : ∀ id o b, σ.objs id = some o → blkOf (κ id) = some b → w0.mine b
  fix : σ.n.z = true → a.tmps.getD 0 undef = w0.arg

theorem BelowB.refl (b : Base) : BelowB b b.w := ⟨rfl, rfl, rfl, Nat.le_refl _, fun _ _ _ => rfl, Nat.le_refl _⟩
theorem BelowB.next {b : Base} {w w' : World} (h : BelowB b w) (k : Below w.heap.size w w') (hd : w.drawn ≤ w'.drawn) : BelowB b w' :=
  ⟨k.os.trans h.os, k.tape.trans h.tape, k.output.trans h.output, Nat.le_trans h.size k.size, fun i hi ho => (k.block i (Nat.lt_of_lt_of_le hi h.size)).trans (h.block i hi ho), Nat.le_trans h.drawn hd⟩
/-- A step that turns one block, which is one of the frame's. -/
theorem BelowB.turn {b : Base} {w w' : World} (h : BelowB b w) (h1 : w'.os = w.os) (h2 : w'.tape = w.tape) (h3 : w'.output = w.output) (h4 : w.heap.size ≤ w'.heap.size) (r : Option Nat) (h5 : ∀ k, k < w.heap.size → r ≠ some k → w'.heap[k]? = w.heap[k]?) (h6 : ∀ k, r = some k → b.mine k) (hd : w.drawn ≤ w'.drawn) : BelowB b w' :=
  ⟨h1.trans h.os, h2.trans h.tape, h3.trans h.output, Nat.le_trans h.size h4, fun i hi ho => (h5 i (Nat.lt_of_lt_of_le hi h.size) fun e => by
    rcases h6 i e with h7 | h7
    · exact ho h7
    · omega).trans (h.block i hi ho), Nat.le_trans h.drawn hd⟩
theorem base0_mine {w : World} {k : Nat} : (base0 w).mine k ↔ w.heap.size ≤ k := ⟨fun h => h.elim (fun h => h.elim) id, .inr⟩
theorem BelowB.base0 {w w' : World} (h : Below w.heap.size w w') (hd : w.drawn ≤ w'.drawn) : BelowB (base0 w) w' := ⟨h.os, h.tape, h.output, h.size, fun k hk _ => h.block k hk, hd⟩
theorem BelowB.to0 {w w' : World} (h : BelowB (Go.Abs.base0 w) w') : Below w.heap.size w w' := ⟨h.os, h.tape, h.output, h.size, fun k hk => h.block k hk fun h => h.elim⟩
/-! ### From one world to a later one -/
theorem RelL_length (S : Nat → Prop) (w : World) (κ : Nat → Value) (objs : Nat → Option AObj) : ∀ xs, (RelL S w κ objs xs).length = xs.length
  | [] => by simp [RelL]
  | x :: xs => by simp [RelL, RelL_length S w κ objs xs]
theorem RelL_get (S : Nat → Prop) (w : World) (κ : Nat → Value) (objs : Nat → Option AObj) : ∀ xs (i : Nat), (RelL S w κ objs xs)[i]? = (xs[i]?).map (Rel S w κ objs)
  | [], i => by simp [RelL]
  | x :: xs, 0 => by simp [RelL]
  | x :: xs, i + 1 => by simp [RelL, RelL_get S w κ objs xs i]
def ObjLe (objs : Nat → Option AObj) (κ : Nat → Value) (objs' : Nat → Option AObj) (κ' : Nat → Value) : Prop :=
  ∀ id o, objs id = some o → match o with
    | .row e k _ g _ => ∃ xs' g' fz', objs' id = some (.row e k xs' g' fz') ∧ g ≤ g' ∧ (g = g' → κ' id = κ id)
    | .box _ _ => ∃ cs' fz', objs' id = some (.box cs' fz') ∧ κ' id = κ id
theorem ObjLe.refl (objs : Nat → Option AObj) (κ : Nat → Value) : ObjLe objs κ objs κ := by
  intro id o h
  cases o with
  | row e k xs g fz => exact ⟨xs, g, fz, h, Nat.le_refl _, fun _ => rfl⟩
  | box cs fz => exact ⟨cs, fz, h, rfl⟩
theorem ObjLe.none (κ κ' : Nat → Value) : ObjLe (fun _ => none) κ (fun _ => none) κ' := by intro id o h; cases h
structure RLe (r r' : RelP) : Prop where
  val : ∀ v, r.val v → r'.val v
  mem : ∀ get, r.mem get → r'.mem get
  n : r'.n = r.n
theorem RLe.one {p q : Value → Prop} (h : ∀ v, p v → q v) : RLe (one p) (one q) := ⟨h, fun get ⟨u, h1, h2⟩ => ⟨u, h1, h _ h2⟩, rfl⟩
def RLeL (rs rs' : List RelP) : Prop := rs.length = rs'.length ∧ ∀ (i : Nat) r r', rs[i]? = some r → rs'[i]? = some r' → RLe r r'
theorem RLeL.allV {rs rs' : List RelP} (h : RLeL rs rs') {vs : List Value} (hv : AllV rs vs) : AllV rs' vs := by
  refine ⟨h.1.symm.trans hv.1, fun i r u hr hu => ?_⟩
  have hi : i < rs.length := by rw [h.1]; exact (List.getElem?_eq_some_iff.1 hr).1
  exact (h.2 i _ _ (List.getElem?_eq_getElem hi) hr).val _ (hv.2 i _ _ (List.getElem?_eq_getElem hi) hu)
theorem RLeL.allM {rs rs' : List RelP} (h : RLeL rs rs') {get : Nat → Option Value} (hv : AllM rs get) : AllM rs' get := by
  intro i r hr
  have hi : i < rs.length := by rw [h.1]; exact (List.getElem?_eq_some_iff.1 hr).1
  obtain ⟨u, h1, h2⟩ := hv i _ (List.getElem?_eq_getElem hi)
  exact ⟨u, h1, (h.2 i _ _ (List.getElem?_eq_getElem hi) hr).val _ h2⟩
theorem AllM.congr {rs : List RelP} {get get' : Nat → Option Value} (h : ∀ i, get i = get' i) (hv : AllM rs get) : AllM rs get' := by
  have : get = get' := funext h
  rwa [← this]
mutual
theorem Rel_mono' {S S' : Nat → Prop} {w w' : World} {κ κ' : Nat → Value} (hS : ∀ k, S k → S' k) (hw : ∀ k, S k → w'.heap[k]? = w.heap[k]?) {objs objs' : Nat → Option AObj} (ho : ObjLe objs κ objs' κ') : ∀ x, RLe (Rel S w κ objs x) (Rel S' w' κ' objs' x)
  | .undef => by simp only [Rel]; exact RLe.one fun _ h => h
  | .und => by simp only [Rel]; exact RLe.one fun _ h => h
  | .int k n => by simp only [Rel]; exact RLe.one fun _ h => h
  | .bool b => by simp only [Rel]; exact RLe.one fun _ h => h
  | .str s => by simp only [Rel]; exact RLe.one fun _ h => h
  | .agg cs => by
    simp only [Rel]
    exact ⟨fun v ⟨vs, h1, h2⟩ => ⟨vs, h1, (RelL_mono' hS hw ho cs).allV h2⟩, fun get h => (RelL_mono' hS hw ho cs).allM h, rfl⟩
  | .sl xs => by
    simp only [Rel]
    refine RLe.one fun v ⟨A, c, h1, h2, h2', h3⟩ => ⟨A, c, h1, h2, h2', fun hne => ?_⟩
    obtain ⟨b, o, k, rfl, hb, hm⟩ := h3 hne
    refine ⟨b, o, k, rfl, hS _ hb, fun j r hr => ?_⟩
    have hL := RelL_mono' hS hw (ObjLe.none κ κ') xs
    have hi : j < (RelL S w κ (fun _ => none) xs).length := by rw [hL.1]; exact (List.getElem?_eq_some_iff.1 hr).1
    have hle := hL.2 j _ _ (List.getElem?_eq_getElem hi) hr
    obtain ⟨h4, h5⟩ := hm j _ (List.getElem?_eq_getElem hi)
    refine ⟨hle.n.trans h4, ?_⟩
    have e : (fun i => w'.cell? (at_ b (o + j * k + i))) = (fun i => w.cell? (at_ b (o + j * k + i))) := by
      funext i
      exact World.cell?_of_block (w := w) (hw b hb)
    rw [e]
    exact hle.mem _ h5
  | .nils => by simp only [Rel]; exact RLe.one fun _ h => h
  | .fn f caps => by simp only [Rel]; exact RLe.one fun v ⟨vs, h1, h2⟩ => ⟨vs, h1, (RelL_mono' hS hw ho caps).allV h2⟩
  | .tup xs => by simp only [Rel]; exact RLe.one fun v ⟨vs, h1, h2⟩ => ⟨vs, h1, (RelL_mono' hS hw ho xs).allV h2⟩
  | .ia cs off => by
    simp only [Rel]
    refine RLe.one fun v ⟨b, o, h1, hb, h2⟩ => ⟨b, o, h1, hS _ hb, ?_⟩
    have e : (fun i => w'.cell? (at_ b (o + i))) = (fun i => w.cell? (at_ b (o + i))) := by
      funext i
      exact World.cell?_of_block (w := w) (hw b hb)
    rw [e]
    exact (RelL_mono' hS hw (ObjLe.none κ κ') cs).allM h2
  | .own r g => by
    simp only [Rel]
    refine RLe.one fun v ⟨e, k, xs, g', fz, h1, h2, h3⟩ => ?_
    obtain ⟨xs', g2, fz', h4, h5, h6⟩ := ho _ _ h1
    refine ⟨e, k, xs', g2, fz', h4, Nat.le_trans h2 h5, fun e => ?_⟩
    have e1 : g' = g2 := by omega
    rw [h6 e1]
    exact h3 (by omega)
  | .oa r g i off => by
    simp only [Rel]
    refine RLe.one fun v ⟨e, k, xs, g', fz, h1, h2, h3⟩ => ?_
    obtain ⟨xs', g2, fz', h4, h5, h6⟩ := ho _ _ h1
    refine ⟨e, k, xs', g2, fz', h4, Nat.le_trans h2 h5, fun e => ?_⟩
    have e1 : g' = g2 := by omega
    rw [h6 e1]
    exact h3 (by omega)
  | .vw r g i => by
    simp only [Rel]
    refine RLe.one fun v ⟨e, k, xs, g', fz, h1, h2, h3⟩ => ?_
    obtain ⟨xs', g2, fz', h4, h5, h6⟩ := ho _ _ h1
    refine ⟨e, k, xs', g2, fz', h4, Nat.le_trans h2 h5, fun e => ?_⟩
    have e1 : g' = g2 := by omega
    rw [h6 e1]
    exact h3 (by omega)
  | .ba b off => by
    simp only [Rel]
    refine RLe.one fun v ⟨cs, fz, h1, blk, h2, h3⟩ => ?_
    obtain ⟨cs', fz', h4, h5⟩ := ho _ _ h1
    exact ⟨cs', fz', h4, blk, by rw [h5]; exact h2, h3⟩
  | .fr _ _ _ => by simp only [Rel]; exact RLe.one fun _ h => h
  | .fb _ => by simp only [Rel]; exact RLe.one fun _ h => h
  | .inp _ _ => by simp only [Rel]; exact RLe.one fun _ h => h
theorem RelL_mono' {S S' : Nat → Prop} {w w' : World} {κ κ' : Nat → Value} (hS : ∀ k, S k → S' k) (hw : ∀ k, S k → w'.heap[k]? = w.heap[k]?) {objs objs' : Nat → Option AObj} (ho : ObjLe objs κ objs' κ') : ∀ xs, RLeL (RelL S w κ objs xs) (RelL S' w' κ' objs' xs)
  | [] => ⟨by simp [RelL], fun i r r' h => by simp [RelL] at h⟩
  | x :: xs => by
    have h1 := Rel_mono' hS hw ho x
    have h2 := RelL_mono' hS hw ho xs
    refine ⟨by simp [RelL_length], fun i r r' hr hr' => ?_⟩
    cases i with
    | zero =>
      simp only [RelL, List.getElem?_cons_zero, Option.some.injEq] at hr hr'
      subst hr; subst hr'
      exact h1
    | succ i =>
      simp only [RelL, List.getElem?_cons_succ] at hr hr'
      exact h2.2 i _ _ hr hr'
end
theorem Rel_mono {S S' : Nat → Prop} {w w' : World} {κ κ' : Nat → Value} {objs objs' : Nat → Option AObj} (hS : ∀ k, S k → S' k) (hw : ∀ k, S k → w'.heap[k]? = w.heap[k]?) (ho : ObjLe objs κ objs' κ') (x : AV) : RLe (Rel S w κ objs x) (Rel S' w' κ' objs' x) := Rel_mono' hS hw ho x
theorem RelL_mono {S S' : Nat → Prop} {w w' : World} {κ κ' : Nat → Value} {objs objs' : Nat → Option AObj} (hS : ∀ k, S k → S' k) (hw : ∀ k, S k → w'.heap[k]? = w.heap[k]?) (ho : ObjLe objs κ objs' κ') (xs : List AV) : RLeL (RelL S w κ objs xs) (RelL S' w' κ' objs' xs) := RelL_mono' hS hw ho xs
end Go.Abs
