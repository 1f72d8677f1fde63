import Derived.Test.YthcgpcmeffkijaaGreatDoorSEv5
import Derived.Shelf.Strings.Search3
set_option linter.unusedVariables false
set_option linter.unusedSimpArgs false
namespace Go.Abs
open Go.RowKit Go.Proofs
def contB(s t:ByteArray):Bool:=Lib.contains s.data.toList t.data.toList
def contO(s t:ByteArray):Option Bool:=if s.size<4294967281 then some (contB s t)else none
def leafCont:LeafF:=fun _ args=>match args with
 | [.str s,.str t]=>if s.size<4294967281 then some (.bool (contB s t))else none
 | _=>none
theorem cont_leaf(C:Callee)(s t:ByteArray):leafCont C [.str s,.str t]=(contO s t).map fun b=>AV.bool b:=by
 simp only[leafCont,contO]
 split<;>rfl
theorem resOK_b{F:Nat→Prop}{w:World}{x:Bool}:ResOK F (base0 w) w (.bool x) (.bool x):=by
 refine⟨BelowB.refl (base0 w),[.bool x],rfl,rfl,fun i x u hx hu=>?_,fun i j x y u u' hx hy hu hu' hij=>?_,fun i x u hx hu hf=>?_⟩
 ·cases i with
  | zero=>
    simp only[compsOf,List.getElem?_cons_zero,Option.some.injEq]at hx hu
    subst hx;subst hu
    show(Rel _ w κ0 o0 (.bool _)).val _
    simp[Rel,one]
  | succ i=>simp[compsOf]at hx
 ·cases i with
  | zero=>cases j with
    | zero=>exact absurd rfl hij
    | succ j=>simp[compsOf]at hy
  | succ i=>simp[compsOf]at hx
 ·cases i with
  | zero=>
    simp only[compsOf,List.getElem?_cons_zero,Option.some.injEq]at hx
    subst hx
    cases hf
  | succ i=>simp[compsOf]at hx
theorem leaf_cont{P:Program}{f g:Nat}(hi:inplB P f=false)(hg:mlOf P=some g)(h:∀(s t:ByteArray)(m:Int)(w:World),s.size<4294967281→w.cell? ⟨g,0,none⟩=some (.int .i64 m)→Calls P f #[.string s,.string t] w fun e w'=>e= .returned (.bool (Lib.contains s.data.toList t.data.toList))∧w'=w):LeafAt P f leafCont:=by
 refine leafV hi ⟨fun C args r hr x hx=>?_,?_⟩
 ·unfold leafCont at hr
  split at hr
  ·simp only[List.mem_cons,List.not_mem_nil,or_false]at hx
   rcases hx with rfl|rfl<;>rfl
  ·cases hr
 intro C hC args r hr F w vals hG hF hv
 unfold leafCont at hr
 split at hr
 case h_2=>cases hr
 rename_i a b
 split at hr
 case isFalse=>cases hr
 rename_i hlt
 cases hr
 obtain⟨v,u,rfl,h1,h2⟩:=allV_two hv
 simp only[Rel,one]at h1 h2
 subst h1;subst h2
 obtain⟨_,m,hm⟩:=hG.ml g hg
 refine(h a b m w hlt hm).mono fun e w' ⟨h3,h4⟩=>⟨_,h3,?_⟩
 subst h4
 exact resOK_b
end Go.Abs
