import Derived.Test.YtebjpnnikmkopaaAEv11
import Derived.Shelf.SlIter.Nil
import Derived.Shelf.SortM.Plain
import Derived.Shelf.SortM.SortNone
set_option linter.unusedVariables false
set_option linter.unusedSimpArgs false
namespace Go.Abs
open Go.RowKit Go.Proofs Go.Maps Go.Sort Go.Shelf
/-! slices.Sorted(maps.Keys(m)): from the kit's contracts. -/
def keyB (x : MapEntry) : List UInt8 := match x.key with
  | .string s => s.data.toList
  | _ => []
def noR (_ : Value) : Option (DataW Unit × List MemPlace) := some (.nil, [])
theorem rdk_str {P : Program} {k : TypeId} {x : MapEntry} {s : ByteArray} (hk : P.underlying k = some .string) (h1 : x.key = .string s) (h2 : s.size ≤ 1000000) : WideElems.rd P k noR x = some (Lit.string s.data.toList, DataW.nil) := by
  have h3 : s.size ≤ maxLen := Nat.le_trans h2 (by decide)
  simp [WideElems.rd, keyOf, hk, mapKey, h1, h3, noR]
theorem keys_perm {P : Program} {k : TypeId} {es : Array MapEntry} (hk : P.underlying k = some .string) (h : ∀ x ∈ es.toList, ∃ s : ByteArray, x.key = .string s ∧ s.size ≤ 1000000) :
    (strKeys (.map ((es.toList.map (WideElems.rg P k noR)).foldr DataW.insert []))).Perm (es.toList.map keyB) := by
  have h1 := (WideShapes.sorted_perm (es.toList.map (WideElems.rg P k noR))).map fun p => strOf p.1
  refine h1.trans ?_
  rw [List.map_map]
  refine List.Perm.of_eq (List.map_congr_left fun x hx => ?_)
  obtain ⟨s, h2, h3⟩ := h x hx
  simp [WideElems.rg, rdk_str hk h2 h3, strOf, keyB, h2]
theorem sorted_at {P : Program} {ρ σ : Ren} (L : SlLaysZ.n10 P ρ) (L6 : SlLaysZ.n6 P σ) (hs : AnyZ.SortsIn P σ Fence.wide 4) (hk : P.underlying (ρ.t 26) = some .string)
    (e9 : ∀ args w, (callFunc (σ.f 9) args).run P w = .ok (.enter (σ.f 9) args) w) (e10 : ∀ args w, (callFunc (ρ.f 10) args).run P w = .ok (.enter (ρ.f 10) args) w)
    (w : World) (bp b : Nat) (es : Array MapEntry) (clock : Nat) (h1 : bp < w.heap.size) (h2 : w.cell? ⟨bp, 0, none⟩ = some (.map (some b))) (h3 : w.heap[b]? = some (.map es clock)) (h4 : MapKept.Stamped es clock) (h5 : ∀ x ∈ es.toList, ∃ s : ByteArray, x.key = .string s ∧ s.size ≤ 1000000) (h6 : es.size ≤ 1000000) :
    Calls P (σ.f 6) #[.func (.func (ρ.f 10)) #[] #[.pointer (some ⟨bp, 0, none⟩)]] w fun en w' => ∃ v, en = .returned v ∧ w'.ownsRow w.heap.size (σ.t 26) 1 v es.size (((es.toList.map fun x => match x.key with | .string s => s.data.toList | _ => []).mergeSort fun x y => decide (x ≤ y)).map fun x => Value.string ⟨x.toArray⟩) ∧ Below w.heap.size w w' := by
  have hown : w.ownsMap P (ρ.t 26) noR b es.size (.map ((es.toList.map (WideElems.rg P (ρ.t 26) noR)).foldr DataW.insert [])) :=
    ⟨es, clock, h3, ⟨Nat.le_trans h6 (by decide), h4, fun x hx => by obtain ⟨s, h7, h8⟩ := h5 x hx; exact ⟨_, rdk_str hk h7 h8⟩⟩, Nat.le_refl _, rfl⟩
  have hseq := AnyZ.keys_gives L Fence.wide 2 trivial rfl (by omega) bp b es.size _ w h1 h2 hown
  have hp := keys_perm hk h5
  have hsz : Maps.size (.map ((es.toList.map (WideElems.rg P (ρ.t 26) noR)).foldr DataW.insert []) : DataW Unit) = es.size := by
    rw [size_eq, (WideShapes.sorted_perm _).length_eq]
    simp
  rw [hsz] at hseq
  have cS := AnyZ.sorted_in L6 Fence.wide 5 trivial trivial trivial trivial rfl (by omega) hs e9 (ρ.f 10) #[.pointer (some ⟨bp, 0, none⟩)] trivial e10 _ es.size (Nat.le_trans h6 (by decide)) (by omega) w hseq
  refine (callsIn_wide.1 cS).mono fun en w' ⟨v, ss, e1, hS, hrow, _, hb⟩ => ⟨v, e1, ?_, hb⟩
  have hS2 : ss.Perm (es.toList.map keyB) := hS.trans hp
  have e2 : ss.length = es.size := by rw [hS2.length_eq]; simp
  have e3 : ss.mergeSort (fun x y => decide (x ≤ y)) = (es.toList.map keyB).mergeSort fun x y => decide (x ≤ y) := mergeSort_of_perm hS2
  rw [e2, e3] at hrow
  exact hrow
end Go.Abs
