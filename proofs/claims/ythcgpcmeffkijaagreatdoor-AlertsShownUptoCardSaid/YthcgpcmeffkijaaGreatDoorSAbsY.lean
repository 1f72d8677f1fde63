import Derived.Test.YthcgpcmeffkijaaGreatDoorSAbsX
set_option linter.unusedVariables false
set_option linter.unusedSimpArgs false
namespace Go.Abs
open Go.RowKit
theorem noClash_nil{U:Nat→List (Nat×Nat)}{ids:List Nat}(h:noClash U ids=true):∀id∈ids,U id=[]:=fun id hid=>by
 have:=List.all_eq_true.1 h id hid
 simpa using this
section
variable {U:Nat→List (Nat×Nat)} {objs objs':Nat→Option AObj} (h:Alike U objs objs')
include h
theorem buildA_in{P:Program}{t:TypeId}{parts:List (Nat×AV)}{y:AV}(hb:buildA P objs t parts=some y):buildA P objs' t parts=some y:=by
 unfold buildA at hb ⊢
 split at hb
 case isFalse=>cases hb
 rename_i hc
 have:(parts.all fun p=>cellsNow objs' p.2)=true:=List.all_eq_true.2 fun p hp=>cellsNow_in h (List.all_eq_true.1 hc p hp)
 rw[if_pos this]
 exact hb
theorem exptL_in{no:Nat→Bool}{n:Nat}{l r:List AV}(hl:mapO (expt no objs n) l=some r)(hU:∀id∈l.flatMap (refsOf objs n),U id=[]):mapO (expt no objs' n) l=some r∧l.flatMap (refsOf objs' n)=l.flatMap (refsOf objs n):=by
 refine⟨mapO_in hl fun z hz y hy=>(expt_in h hy fun id hid=>hU id (List.mem_flatMap.2 ⟨z,hz,hid⟩)).1,?_⟩
 have h0:∀z∈l,refsOf objs' n z=refsOf objs n z:=fun z hz=>by
  obtain⟨y,hy⟩:=mapO_mem hl hz
  exact(expt_in h hy fun id hid=>hU id (List.mem_flatMap.2 ⟨z,hz,hid⟩)).2
 rw[List.flatMap_def,List.flatMap_def,List.map_congr_left h0]
theorem callE_in{P:Program}{C:Callee}{d f:Nat}{args:List AV}{e:Eff}(hc:callE P C objs d f args=some e)(hU:noClash U (args.flatMap (refsOf objs DEPTH))=true):callE P C objs' d f args=some e:=by
 unfold callE at hc ⊢
 split at hc
 case isFalse=>cases hc
 rename_i hen
 rw[if_pos hen]
 obtain⟨as,h1,h2⟩:=bind_some' hc
 have h3:∀z∈args,∀y,exptA (keepsNil P f) objs z=some y→exptA (keepsNil P f) objs' z=some y∧refsOf objs' DEPTH z=refsOf objs DEPTH z:=by
  intro z hz y hy
  have hU':∀id∈refsOf objs DEPTH z,U id=[]:=fun id hid=>noClash_nil hU id (List.mem_flatMap.2 ⟨z,hz,hid⟩)
  cases z with
  | nils=>exact⟨hy,rfl⟩
  | _=>exact expt_in h hy hU'
 have h4:args.flatMap (refsOf objs' DEPTH)=args.flatMap (refsOf objs DEPTH):=by
  rw[List.flatMap_def,List.flatMap_def]
  congr 1
  refine List.map_congr_left fun z hz=>?_
  obtain⟨y,hy⟩:=mapO_mem h1 hz
  exact(h3 z hz y hy).2
 rw[mapO_in h1 fun z hz y hy=>(h3 z hz y hy).1,Option.bind_some,h4]
 exact h2
omit h in
theorem takeAs_in{ag:Bool}{k off:Nat}{cs cs':List AV}{v:AV}(hl:cs'.length=cs.length)(hc:∀i,off≤i→i<off+max k 1→cs'[i]? = cs[i]?)(ht:takeAs ag k cs off=some v):takeAs ag k cs' off=some v:=by
 unfold takeAs at ht ⊢
 cases ag with
 | false=>
   simp only[Bool.false_eq_true,if_false]at ht ⊢
   rw[hc off (Nat.le_refl _) (by omega)]
   exact ht
 | true=>
   simp only[if_true]at ht ⊢
   rw[hl]
   split at ht
   case isFalse=>cases ht
   rename_i hk
   rw[if_pos hk]
   cases ht
   congr 2
   apply List.ext_getElem?
   intro i
   rw[List.getElem?_take,List.getElem?_take]
   split
   ·rw[List.getElem?_drop,List.getElem?_drop]
    exact hc _ (by omega) (by omega)
   ·rfl
theorem loadA_in{P:Program}{σ:Env}(hσ:σ.objs=objs){t:TypeId}{a:Operand}{v:AV}(hl:loadA P objs t (evA σ.slots a)=some v)(hm:mayA P σ U (.load t a)=true):loadA P objs' t (evA σ.slots a)=some v:=by
 unfold loadA at hl ⊢
 obtain⟨ag,h3,h1⟩:=bind_some' hl
 obtain⟨k,h4,h1⟩:=bind_some' h1
 obtain⟨q,h5,h1⟩:=bind_some' h1
 rw[h3,Option.bind_some,h4,Option.bind_some]
 simp only[mayA]at hm
 generalize evA σ.slots a=X at h5 hm ⊢
 cases X with
 | ia cs off=>
   simp only[behind,Option.some.injEq]at h5
   subst h5
   exact h1
 | ba b off=>
   simp only[behind]at h5 ⊢
   split at h5
   ·rename_i cs fz ho
    simp only[Option.some.injEq]at h5
    subst h5
    obtain⟨cs',fz',h6,h7,h8⟩:=h.box ho
    rw[h6]
    simp only[Option.bind_some]
    rw[h4]at hm
    simp only[List.all_eq_true,Bool.or_eq_true,decide_eq_true_eq]at hm
    refine takeAs_in h7 (fun i hi1 hi2=>h8 i fun q hq=>?_) h1
    rcases hm q hq with h9|h9<;>omega
   ·cases h5
 | oa r g i off=>
   simp only[behind]at h5 ⊢
   split at h5
   ·rename_i ho
    obtain⟨xs',fz',h6,h7,h8⟩:=h.row ho
    rw[h6]
    rw[h8 (by simpa using hm)]
    simp only
    rw[h5,Option.bind_some]
    exact h1
   ·cases h5
 | _=>simp[behind]at h5
theorem effOf_objs{P:Program}{C:Callee}{σ:Env}(hσ:σ.objs=objs){d:Nat}{ty:TypeId}{op:Op}{e:Eff}(he:effOf P C σ.slots objs d ty op=some e)(hm:mayA P σ U op=true):effOf P C σ.slots objs' d ty op=some e:=by
 cases op with
 | box t x=>
   simp only[effOf]at he ⊢
   obtain⟨k,h1,h2⟩:=bind_some' he
   rw[h1,Option.bind_some]
   split at h2
   case isFalse=>cases h2
   rename_i hc
   rw[if_pos ⟨hc.1,cellsNow_in h hc.2⟩]
   exact h2
 | build t ps=>
   simp only[effOf]at he ⊢
   obtain⟨v,h1,h2⟩:=map_some he
   rw[buildA_in h h1]
   simp[h2]
 | buildSlice t n ps=>
   simp only[effOf]at he ⊢
   obtain⟨e',h1,he⟩:=bind_some' he
   obtain⟨k,h2,he⟩:=bind_some' he
   obtain⟨vs,h3,he⟩:=bind_some' he
   rw[h1,Option.bind_some,h2,Option.bind_some,h3,Option.bind_some]
   split at he
   case isFalse=>cases he
   rename_i hc
   rw[if_pos hc]
   obtain⟨xs,h4,he⟩:=bind_some' he
   have hparts:∀(l:List (Nat×AV))(n:Nat)(vs:List AV),noParts l n=some vs→vs=l.map (·.2):=by
    intro l
    induction l with
    | nil=>intro n vs hv;simp only[noParts,Option.some.injEq]at hv;rw[← hv];rfl
    | cons p l ih=>
      intro n vs hv
      obtain⟨i,v⟩:=p
      simp only[noParts]at hv
      split at hv
      case isFalse=>cases hv
      obtain⟨ws,h5,h6⟩:=map_some hv
      rw[← h6,ih _ _ h5]
      rfl
   have hvs:=hparts _ _ _ h3
   have hU:∀id∈vs.flatMap (refsOf objs DEPTH),U id=[]:=by
    simp only[mayA]at hm
    rw[hσ]at hm
    have:=noClash_nil hm
    rw[hvs,List.map_map]
    exact this
   obtain⟨h5,h6⟩:=exptL_in h h4 hU
   rw[h5,Option.bind_some,h6]
   exact he
 | load t x=>
   simp only[effOf]at he ⊢
   obtain⟨v,h1,h2⟩:=map_some he
   rw[loadA_in h hσ h1 hm]
   simp[h2]
 | fieldAddr t x f=>
   simp only[effOf]at he ⊢
   obtain⟨v,h1,h2⟩:=map_some he
   have:faddr P objs' t f (evA σ.slots x)=some v:=by
    unfold faddr at h1 ⊢
    split at h1
    ·obtain⟨fd,h3,h1⟩:=bind_some' h1
     obtain⟨k,h4,h1⟩:=bind_some' h1
     rw[h3,Option.bind_some,h4,Option.bind_some]
     split at h1
     ·cases h1
     ·rename_i hk
      rw[if_neg hk]
      exact plus_in h h1
    ·cases h1
   rw[this]
   simp[h2]
 | indexAddr t x i=>
   simp only[effOf]at he ⊢
   obtain⟨v,h1,h2⟩:=map_some he
   rw[addr_in h h1]
   simp[h2]
 | slice t x lo hi mx=>
   cases mx with
   | some m=>simp[effOf]at he
   | none=>
     simp only[effOf]at he ⊢
     generalize evA σ.slots x=X at he ⊢
     cases X with
     | own r g=>
       simp only at he ⊢
       split at he
       case h_2=>cases he
       rename_i q
       obtain⟨e',h1,he1⟩:=bind_some' he
       obtain⟨k,h2,he2⟩:=bind_some' he1
       obtain⟨l,h3,he3⟩:=bind_some' he2
       clear he he1 he2
       split at he3
       case h_2=>cases he3
       rename_i e2 k2 xs g' fz hr
       obtain⟨xs',fz',h4,h5,_⟩:=Alike.row h hr
       simp only[h1,h2,h3,Option.bind_some,h4,h5]
       exact he3
     | _=>exact he
 | nilCheck x=>
   simp only[effOf]at he ⊢
   generalize evA σ.slots x=X at he ⊢
   cases X with
   | oa r g i off=>
     simp only at he ⊢
     obtain⟨v,h1,h2⟩:=map_some he
     rw[plus_in h h1]
     simp[h2]
   | _=>exact he
 | call c=>
   simp only[effOf,mayA]at he hm ⊢
   rw[hσ]at hm
   cases hc:c.callee with
   | value f=>
     rw[hc]at he hm
     cases f with
     | func g=>exact callE_in h he hm
     | tmp t=>
       simp only at he hm ⊢
       generalize σ.slots t=X at he hm ⊢
       cases X with
       | fn f caps=>exact callE_in h he hm
       | _=>exact he
     | _=>exact he
   | invoke r n=>rw[hc]at he;exact he
   | builtin b=>
     rw[hc]at he
     cases b with
     | len=>
       simp only at he ⊢
       generalize c.args.toList=l at he ⊢
       match l,he with
       | [x],he=>
         cases ht:c.argTypes[0]? with
         | none=>rw[ht]at he;exact he
         | some t=>
           rw[ht]at he
           simp only at he ⊢
           obtain⟨n,h1,h2⟩:=map_some he
           obtain⟨m,hm1,hmn⟩:=bind_some' h1
           rw[lenT_in h hm1]
           have:(do let a ←some m;pure (a:Int):Option Int)=some n:=hmn
           rw[this]
           simp[h2]
       | [],he=>exact he
       | _::_::_,he=>exact he
     | _=>exact he
 | makeFunc f fi caps=>cases f<;>exact he
 | makeMap t q=>cases q<;>exact he
 | lookup t m x ok=>
   simp only[effOf]at he ⊢
   simp only[mayA]at hm
   obtain⟨⟨v,b⟩,h1,h2⟩:=map_some he
   have:lookA P objs' t (evA σ.slots m) (evA σ.slots x)=some (v,b):=by
    unfold lookA at h1 ⊢
    split at h1
    ·rename_i id hmr
     split at h1
     case h_2=>cases h1
     rename_i ks vs fz ho
     rw[hmr]at hm
     obtain⟨fz',h3⟩:=h.map0 ho (List.isEmpty_iff.1 hm)
     rw[h3]
     exact h1
    ·exact h1
    ·cases h1
   rw[this]
   simp[h2]
 | _=>exact he
theorem storeA_in{σ σ':Env}(hσ:σ.objs=objs)(hσ':σ'.objs=objs'){x p:AV}{id:Nat}{o:AObj}(hs:storeA σ x p=some (id,o,[]))(hU:noClash U (x.cells.flatMap (refsOf objs DEPTH))=true)(ho:objs' id=objs id):storeA σ' x p=some (id,o,[]):=by
 unfold storeA at hs ⊢
 rw[hσ]at hs
 rw[hσ']
 split at hs
 case isFalse=>cases hs
 rename_i hc
 simp only[Bool.and_eq_true]at hc
 have h1:(cellsNow objs' x&&x.cells.all (cellNow objs'))=true:=by
  simp only[Bool.and_eq_true]
  exact⟨cellsNow_in h hc.1,List.all_eq_true.2 fun z hz=>cellNow_in h (List.all_eq_true.1 hc.2 z hz)⟩
 rw[if_pos h1]
 cases p with
 | ba b off=>
   simp only at hs ⊢
   split at hs
   ·rename_i cs hb
    obtain⟨q,h2,h3⟩:=map_some hs
    cases h3
    rw[ho,hb]
    simp only
    rw[h2]
    rfl
   ·cases hs
 | oa r g i off=>
   simp only at hs ⊢
   split at hs
   ·rename_i e k xs g' hb
    split at hs
    case isFalse=>cases hs
    rename_i hg
    obtain⟨y,h2,hs⟩:=bind_some' hs
    obtain⟨vs,h3,hs⟩:=bind_some' hs
    split at hs
    case isFalse=>cases hs
    rename_i hv
    obtain⟨q,h4,h5⟩:=map_some hs
    simp only[Prod.mk.injEq]at h5
    obtain⟨rfl,h6,h7⟩:=h5
    obtain⟨h8,h9⟩:=exptL_in h h3 (noClash_nil hU)
    rw[ho,hb]
    simp only
    rw[if_pos hg,h2,Option.bind_some,h8,Option.bind_some,h9,if_pos hv,h4]
    simp only[Option.map_some,h6,h7]
   ·cases hs
 | _=>cases hs
theorem inplA_in{C:Callee}{σ σ':Env}(hσ:σ.objs=objs)(hσ':σ'.objs=objs'){f b:Nat}{cs rest:List AV}{r:Nat×AObj×List Nat×AV}(hb:objs b=some (.box cs false))(hcs:cs.flatMap (refsOf objs DEPTH)=[])(hs:inplA C σ f (.ba b 0::rest)=some r)
  (hU:noClash U ((AV.ba b 0::rest).flatMap (refsOf objs DEPTH))=true) (ho:objs' b=objs b):inplA C σ' f (.ba b 0::rest)=some r:=by
 unfold inplA at hs ⊢
 simp only at hs ⊢
 rw[hσ,hb]at hs
 rw[hσ',ho,hb]
 simp only at hs ⊢
 split at hs
 case isFalse=>cases hs
 rename_i hall
 obtain⟨bs,h1,hs⟩:=bind_some' hs
 obtain⟨as,h2,hs⟩:=bind_some' hs
 have hU':=noClash_nil hU
 obtain⟨h3,h4⟩:=exptL_in h h1 (fun id hid=>by rw[hcs]at hid;cases hid)
 obtain⟨h5,h6⟩:=exptL_in h h2 (fun id hid=>hU' id (by rw[List.flatMap_cons];exact List.mem_append_right _ hid))
 rw[List.flatMap_append]at hall hs
 rw[List.flatMap_append,h4,h6,if_pos hall,h3,Option.bind_some,h5,Option.bind_some]
 exact hs
end
end Go.Abs
