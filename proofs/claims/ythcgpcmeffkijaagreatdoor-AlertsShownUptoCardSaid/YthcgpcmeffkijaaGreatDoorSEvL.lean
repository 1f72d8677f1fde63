import Derived.Test.YthcgpcmeffkijaaGreatDoorSEvK
set_option linter.unusedVariables false
set_option linter.unusedSimpArgs false
namespace Go.Abs
open Go.RowKit
def appO{α:Type}(b:Nat)(l1 l2:List α):Option (List α):=if l1.length+l2.length≤maxLen∧(l1.length+l2.length)*b≤140737488355328 then some (l1++l2)else none
theorem app_own{P:Program}{σ:Env}{d t e k b r g:Nat}{α:Type}{l1 l2:List α}{f:α→AV}{y:AV}{frz:List Nat}(ho:σ.objs r=some (.row e k (l1.map f) g false))(hy:newsA σ.objs y=some (frz,l2.map f))
  (he:elemT P t=some e) (hk:sizeT P e=some k) (hb:bytesT P e=some b) (hr:rowOk P e k=true) (hf:∀x,elemOk P e k (f x)=true) (hz:frz.all (· != r)=true) :
  appendA P σ d t (.own r g) y=(appO b l1 l2).map fun l=>(r,.row e k (l.map f) (g+1) false,frz,.own r (g+1)):=by
 have hall:(l2.map f).all (elemOk P e k)=true:=List.all_eq_true.2 fun z hz=>by
  obtain⟨x,_,rfl⟩:=List.mem_map.1 hz
  exact hf x
 unfold appendA appO
 rw[hy,Option.bind_some]
 simp only
 rw[he,Option.bind_some,hk,Option.bind_some,hb,Option.bind_some,if_pos ⟨hr,hall⟩]
 simp only[ho,List.length_map]
 by_cases hc:l1.length+l2.length≤maxLen∧(l1.length+l2.length)*b≤140737488355328
 ·rw[if_pos ⟨trivial,trivial,trivial,hz,hc.1,hc.2⟩,if_pos hc]
  simp
 ·rw[if_neg (fun h=>hc ⟨h.2.2.2.2.1,h.2.2.2.2.2⟩),if_neg hc]
  rfl
section
variable {ρ σT:Type} {P:Program} {C:Callee} {K:FCfg} {fin:AExit×Env→Option ρ} {s:List KI}
end
def appE(σ:Env)(d:Nat)(p:Nat×AObj×List Nat×AV):Env:=(σ.turn p.1 p.2.1 p.2.2.1).put (some d) p.2.2.2
theorem app_map{α:Type}{A:Option Env}{σ:Env}{d:Nat}{B:Option (Nat×AObj×List Nat×AV)}{ov:Option α}{g:α→Nat×AObj×List Nat×AV}(ha:A=B.map (appE σ d))(hb:B=ov.map g):A=ov.map fun x=>appE σ d (g x):=by
 rw[ha,hb]
 cases ov<;>rfl
end Go.Abs
