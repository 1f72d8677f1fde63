import Derived.Test.YthcgpcmeffkijaaGreatDoorSEv10
import Derived.Test.YthcgpcmeffkijaaGreatDoorSEv7
import Derived.Lib.ValidU
import Derived.Shelf.Unicode.DecodeSlow
import Derived.Shelf.GgClosure.StringsIndexFunc
set_option linter.unusedVariables false
set_option linter.unusedSimpArgs false
namespace Go.Abs
open Go.RowKit Go.Proofs
theorem resOK_bb{F:Nat→Prop}{w w':World}{x:Bool}(hb:Below w.heap.size w w'):ResOK F (base0 w false) w' (.bool x) (.bool x):=by
 refine⟨⟨hb.os,hb.tape,hb.output,hb.size,fun k hk _=>hb.block k hk,fun q=>by cases q⟩,[.bool x],rfl,rfl,fun i x u hx hu=>?_,fun i j x y u u' hx hy hu hu' hij=>?_,fun i x u hx hu hf=>?_⟩
 ·cases i with
  | zero=>
    simp only[compsOf,List.getElem?_cons_zero,Option.some.injEq]at hx hu
    subst hx;subst hu
    show(Rel _ w' κ0 o0 (.bool _)).val _
    simp[Rel,one]
  | succ i=>simp[compsOf]at hx
 ·cases i with
  | zero=>cases j with
    | zero=>exact absurd rfl hij
    | succ j=>simp[compsOf]at hy
  | succ i=>simp[compsOf]at hx
 ·cases i with
  | zero=>
    simp only[compsOf,List.getElem?_cons_zero,Option.some.injEq]at hx
    subst hx
    cases hf
  | succ i=>simp[compsOf]at hx
def validB(s:ByteArray):Bool:=Lib.validD s.data.toList
def validO(s:ByteArray):Option Bool:=if s.size<4294967281 then some (validB s)else none
def leafValid:LeafF:=fun _ args=>match args with
 | [.str s]=>if s.size<4294967281 then some (.bool (validB s))else none
 | _=>none
theorem valid_leaf(C:Callee)(s:ByteArray):leafValid C [.str s]=(validO s).map fun b=>AV.bool b:=by
 simp only[leafValid,validO]
 split<;>rfl
theorem leaf_valid{P:Program}{f g h:Nat}(hi:inplB P f=false)(hq:quietB P f=false)(hg:u8Of P=some (g,h))
  (H:∀(s:ByteArray)(w:World),s.size≤9223372036854775807→Lib.Utf8Tabs g h w→Calls P f #[.string s] w fun e w'=>e= .returned (.bool (Lib.validD s.data.toList))∧Below w.heap.size w w'):LeafAt P f leafValid:=by
 refine leafQ hi hq ⟨fun C args r hr x hx=>?_,?_⟩
 ·unfold leafValid at hr
  split at hr
  ·simp only[List.mem_cons,List.not_mem_nil,or_false]at hx
   subst hx
   rfl
  ·cases hr
 intro C hC args r hr F w vals hG hF hv
 unfold leafValid at hr
 split at hr
 case h_2=>cases hr
 rename_i a
 split at hr
 case isFalse=>cases hr
 rename_i hlt
 cases hr
 obtain⟨v,rfl,h1⟩:=allV_one hv
 simp only[Rel,one]at h1
 subst h1
 refine(H a w (by omega) (hG.u8 g h hg).2.2).mono fun e w' ⟨h3,h4⟩=>⟨_,h3,?_⟩
 exact resOK_bb h4
def saysR(C:Callee)(g:Nat)(r:Nat):Bool:=match C g [.int .i32 (r:Int)]with
 | some (.bool b)=>b
 | _=>false
open Classical in
noncomputable def leafHas(P:Program):LeafF:=fun C args=>match args with
 | [.str s,.fn g []]=>if(entersB P g && !givesB P g)=true∧∀r:Nat,r≤1114111→∃b,C g [.int .i32 (r:Int)]=some (.bool b)then some (.bool (decide (0≤Lib.idxFunc (saysR C g) true s)))else none
 | _=>none
open Classical in
noncomputable def hasO(p:Int→Option Bool)(s:ByteArray):Option Bool:=
 if ∀r:Nat,r≤1114111→(p (r:Int)).isSome=true then some (decide (0≤Lib.idxFunc (fun r=>(p (r:Int)).getD false) true s))else none
theorem has_leaf{P:Program}(g:Nat)(p:Int→Option Bool)(C:Callee)(s:ByteArray)(hp:∀x:Int,C g [.int .i32 x]=(p x).map AV.bool)(hg:(entersB P g && !givesB P g)=true):leafHas P C [.str s,.fn g []]=(hasO p s).map AV.bool:=by
 unfold leafHas hasO
 have e:saysR C g=fun r:Nat=>(p (r:Int)).getD false:=by
  funext r
  unfold saysR
  rw[hp]
  cases p (r:Int)<;>rfl
 have e2:(∀ r:Nat,r≤1114111→∃b,C g [.int .i32 (r:Int)]=some (.bool b))↔∀r:Nat,r≤1114111→(p (r:Int)).isSome=true:=by
  refine forall_congr' fun r=>forall_congr' fun _=>?_
  rw[hp]
  cases p (r:Int)<;>simp
 simp only[e2,hg,true_and,e]
 split<;>rfl
theorem leaf_has{P:Program}{f:Nat}(hi:inplB P f=false)(hq:quietB P f=false)
  (H:∀(g:Nat)(lb:Array Value)(p:Nat→Bool)(s:ByteArray)(w:World),(∀ args w,(callFunc g args).run P w= .ok (.enter g args) w)→
   (∀(W:World)(x:Nat),x≤1114111→Below w.heap.size w W→Calls P g (#[encR x]++lb) W fun e w'=>e= .returned (.bool (p x))∧Below W.heap.size W w')→
   Calls P f #[.string s,.func (.func g) #[] lb] w fun e w'=>e= .returned (.bool (decide (0≤Lib.idxFunc p true s)))∧Below w.heap.size w w'):LeafAt P f (leafHas P):=by
 refine leafQ hi hq ⟨fun C args r hr x hx=>?_,?_⟩
 ·unfold leafHas at hr
  split at hr
  ·simp only[List.mem_cons,List.not_mem_nil,or_false]at hx
   rcases hx with rfl|rfl<;>rfl
  ·cases hr
 intro C hC args r hr F w vals hG hF hv
 unfold leafHas at hr
 split at hr
 case h_2=>cases hr
 rename_i s g
 split at hr
 case isFalse=>cases hr
 rename_i hc
 obtain⟨hc1,hc2⟩:=hc
 obtain⟨hen,hgv⟩:=(Bool.and_eq_true _ _).mp hc1
 cases hr
 obtain⟨v,u,rfl,h1,h2⟩:=allV_two hv
 simp only[Rel,one]at h1 h2
 subst h1
 obtain⟨cvs,rfl,hcaps⟩:=h2
 have hcv:cvs=[]:=by
  have:=(AllV_get _ _ _ _ hcaps).1
  exact List.length_eq_zero_iff.1 (by simpa using this.symm)
 subst hcv
 refine(H g #[] (saysR C g) s w (callA_enters hen) (fun W x hx hb=>?_)).mono fun e w' ⟨h3,h4⟩=>⟨_,h3,resOK_bb h4⟩
 obtain⟨b,hb2⟩:=hc2 x hx
 have hs:saysR C g x=b:=by unfold saysR;rw[hb2]
 have hvals:AllV (RelL F W κ0 o0 [.int .i32 (x:Int)]) [.int .i32 (x:Int)]:=AllV_cons (by simp[Rel,one]) (AllV_of _ _ _ _ rfl fun i x v hx hv=>by cases hx)
 have hcall:=hC.byval (d:=false) hb2 (hG.below ⟨hb.os,hb.tape,hb.output,hb.size,fun k hk _=>hb.block k hk,fun q=>by cases q⟩) (fun h=>by cases h) (fun q hq=>Nat.lt_of_lt_of_le (hF q hq) hb.size) hvals
 refine hcall.mono fun en w' ⟨v,hen',hres⟩=>?_
 have hres:=hres.res (givesB_of (by simpa using hgv))
 obtain⟨us,hp,hlen,hcomp,_⟩:=hres.parts
 have hp:us=[v]:=hp
 subst hp
 have hv:=hcomp 0 (.bool b) v rfl rfl
 have hv:v= .bool b:=hv
 rw[hen',hv,hs]
 exact⟨rfl,hres.below.to0⟩
end Go.Abs
