import Derived.Test.YthcgpcmeffkijaaGreatDoorSAbsW
set_option linter.unusedVariables false
set_option linter.unusedSimpArgs false
namespace Go.Abs
open Go.RowKit
theorem effOf_slots(P:Program)(C:Callee){s s':Nat→AV}(objs:Nat→Option AObj)(d:Nat)(ty:TypeId)(op:Op)(h:∀x∈op.operands,evA s x=evA s' x) :
  effOf P C s objs d ty op=effOf P C s' objs d ty op:=by
 have lst:∀(l:List Operand),(∀ x∈l,evA s x=evA s' x)→l.map (evA s)=l.map (evA s'):=fun l hl=>List.map_congr_left hl
 have prs:∀(l:List (Nat×Operand)),(∀ p∈l,evA s p.2=evA s' p.2)→(l.map fun(i,x)=>(i,evA s x))=l.map fun(i,x)=>(i,evA s' x):=fun l hl=>List.map_congr_left fun⟨i,x⟩ hp=>by have:=hl (i,x) hp;simp only at this;simp only[this]
 cases op with
 | move x=>simp only[effOf,h x (by simp[Op.operands])]
 | assign x=>simp only[effOf,h x (by simp[Op.operands])]
 | pick c a b=>simp only[effOf,h c (by simp[Op.operands]),h a (by simp[Op.operands]),h b (by simp[Op.operands])]
 | binOp o t x y z=>simp only[effOf,h x (by simp[Op.operands]),h y (by simp[Op.operands])]
 | unOp o t x=>simp only[effOf,h x (by simp[Op.operands])]
 | convert a b x=>simp only[effOf,h x (by simp[Op.operands])]
 | box t x=>simp only[effOf,h x (by simp[Op.operands])]
 | load t x=>simp only[effOf,h x (by simp[Op.operands])]
 | fieldAddr t x f=>simp only[effOf,h x (by simp[Op.operands])]
 | field t x f=>simp only[effOf,h x (by simp[Op.operands])]
 | indexAddr t x i=>simp only[effOf,h x (by simp[Op.operands]),h i (by simp[Op.operands])]
 | index t x i=>simp only[effOf,h x (by simp[Op.operands]),h i (by simp[Op.operands])]
 | nilCheck x=>simp only[effOf,h x (by simp[Op.operands])]
 | makeSlice t l c=>simp only[effOf,h l (by simp[Op.operands]),h c (by simp[Op.operands])]
 | extract x i=>simp only[effOf,h x (by simp[Op.operands])]
 | build t ps=>
   simp only[effOf,prs ps.toList fun p hp=>h p.2 (by simp only[Op.operands,List.mem_toArray];exact List.mem_map.2 ⟨p,hp,rfl⟩)]
 | buildSlice t n ps=>
   simp only[effOf,prs ps.toList fun p hp=>h p.2 (by simp only[Op.operands,List.mem_toArray];exact List.mem_map.2 ⟨p,hp,rfl⟩)]
 | makeFunc f fi caps=>
   have hl:=lst caps.toList fun x hx=>h x (by simp only[Op.operands,Array.mem_append];exact .inr (by simpa using hx))
   cases f<;>simp only[effOf,hl]
 | slice t x lo hi mx=>
   have hx:=h x (by simp[Op.operands])
   cases mx with
   | some m=>simp only[effOf]
   | none=>
     cases lo with
     | none=>
       cases hi with
       | none=>simp only[effOf,hx]
       | some q=>simp only[effOf,hx,h q (by simp[Op.operands])]
     | some l=>
       cases hi with
       | none=>simp only[effOf,hx,h l (by simp[Op.operands])]
       | some q=>simp only[effOf,hx,h q (by simp[Op.operands]),h l (by simp[Op.operands])]
 | call c=>
   have hargs:=lst c.args.toList fun x hx=>h x (by simp only[Op.operands,Call.operands,Array.mem_append];exact .inr (by simpa using hx))
   simp only[effOf]
   cases hc:c.callee with
   | value f=>
     cases f with
     | func g=>simp only[hargs]
     | tmp t=>
       have ht:s t=s' t:=h (.tmp t) (by simp[Op.operands,Call.operands,hc])
       simp only[hargs,ht]
     | _=>rfl
   | invoke r n=>rfl
   | builtin b=>
     have one:∀x∈c.args.toList,evA s x=evA s' x:=fun x hx=>h x (by simp only[Op.operands,Call.operands,Array.mem_append];exact .inr (by simpa using hx))
     cases b with
     | len=>
       generalize c.args.toList=l at one
       match l,one with
       | [x],one=>cases c.argTypes[0]? <;> simp only[one x (by simp)]
       | [],_=>rfl
       | _::_::_,_=>rfl
     | cap=>
       generalize c.args.toList=l at one
       match l,one with
       | [x],one=>cases c.argTypes[0]? <;> simp only[one x (by simp)]
       | [],_=>rfl
       | _::_::_,_=>rfl
     | min=>
       simp only[true_or,or_true,if_true]
       generalize c.args.toList=l at one
       match l,one with
       | [x,y],one=>simp only[one x (by simp),one y (by simp)]
       | [],_=>rfl
       | [_],_=>rfl
       | _::_::_::_,_=>rfl
     | max=>
       simp only[true_or,or_true,if_true]
       generalize c.args.toList=l at one
       match l,one with
       | [x,y],one=>simp only[one x (by simp),one y (by simp)]
       | [],_=>rfl
       | [_],_=>rfl
       | _::_::_::_,_=>rfl
     | _=>rfl
 | makeMap t q=>cases q<;>rfl
 | lookup t m x ok=>simp only[effOf,h m (by simp[Op.operands]),h x (by simp[Op.operands])]
 | _=>rfl
theorem mapO_in{α β:Type}{f g:α→Option β}:∀{l:List α}{r:List β},mapO f l=some r→(∀ x∈l,∀y,f x=some y→g x=some y)→mapO g l=some r
 | [],r,h1,_=>h1
 | x::l,r,h1,h2=>by
   simp only[mapO]at h1 ⊢
   obtain⟨y,h3,h4⟩:=bind_some' h1
   obtain⟨ys,h5,h6⟩:=map_some h4
   rw[h2 x (by simp) y h3,Option.bind_some,mapO_in h5 fun z hz=>h2 z (by simp[hz])]
   simp[h6]
def Agree(R:List (Nat×Nat)):AObj→AObj→Prop
 | .row e k xs g _,o'=>∃xs' fz',o'= .row e k xs' g fz'∧xs'.length=xs.length∧(R=[]→xs'=xs)
 | .box cs _,o'=>∃cs' fz',o'= .box cs' fz'∧cs'.length=cs.length∧∀i,(∀ q∈R,i<q.1∨q.1+q.2≤i)→cs'[i]? = cs[i]?
 | .mp ks vs _,o'=>∃ks' vs' fz',o'= .mp ks' vs' fz'∧ks'.length=ks.length∧(R=[]→ks'=ks∧vs'=vs)
def Alike(U:Nat→List (Nat×Nat))(objs objs':Nat→Option AObj):Prop:=∀id o,objs id=some o→∃o',objs' id=some o'∧Agree (U id) o o'
section
variable {U:Nat→List (Nat×Nat)} {objs objs':Nat→Option AObj} (h:Alike U objs objs')
include h
theorem Alike.row{r e k:Nat}{xs:List AV}{g:Nat}{fz:Bool}(ho:objs r=some (.row e k xs g fz)):∃xs' fz',objs' r=some (.row e k xs' g fz')∧xs'.length=xs.length∧(U r=[]→xs'=xs):=by
 obtain⟨o',h1,xs',fz',rfl,h2,h3⟩:=h r _ ho
 exact⟨xs',fz',h1,h2,h3⟩
theorem Alike.box{r:Nat}{cs:List AV}{fz:Bool}(ho:objs r=some (.box cs fz)):∃cs' fz',objs' r=some (.box cs' fz')∧cs'.length=cs.length∧(∀ i,(∀ q∈U r,i<q.1∨q.1+q.2≤i)→cs'[i]? = cs[i]?):=by
 obtain⟨o',h1,cs',fz',rfl,h2,h3⟩:=h r _ ho
 exact⟨cs',fz',h1,h2,h3⟩
theorem Alike.box0{r:Nat}{cs:List AV}{fz:Bool}(ho:objs r=some (.box cs fz))(hU:U r=[]):∃fz',objs' r=some (.box cs fz'):=by
 obtain⟨cs',fz',h1,h2,h3⟩:=h.box ho
 have:cs'=cs:=List.ext_getElem? fun i=>h3 i (by rw[hU];intro q hq;cases hq)
 exact⟨fz',by rw[h1,this]⟩
theorem Alike.map0{r:Nat}{ks vs:List AV}{fz:Bool}(ho:objs r=some (.mp ks vs fz))(hU:U r=[]):∃fz',objs' r=some (.mp ks vs fz'):=by
 obtain⟨o',h1,ks',vs',fz',rfl,_,h2⟩:=h r _ ho
 obtain⟨rfl,rfl⟩:=h2 hU
 exact⟨fz',h1⟩
theorem cellNow_in{x:AV}(hc:cellNow objs x=true):cellNow objs' x=true:=by
 cases x with
 | own r g=>
   simp only[cellNow]at hc ⊢
   split at hc
   ·rename_i ho
    obtain⟨xs',fz,h1,_⟩:=h.row ho
    rw[h1];exact hc
   ·cases hc
 | oa r g i off=>
   simp only[cellNow]at hc ⊢
   split at hc
   ·rename_i ho
    obtain⟨xs',fz,h1,_⟩:=h.row ho
    rw[h1];exact hc
   ·cases hc
 | ba b off=>
   simp only[cellNow]at hc ⊢
   cases hb:objs b with
   | none=>rw[hb]at hc;cases hc
   | some o=>
     obtain⟨o',h1,_⟩:=h b o hb
     rw[h1];rfl
 | mr b=>
   simp only[cellNow]at hc ⊢
   cases hb:objs b with
   | none=>rw[hb]at hc;cases hc
   | some o=>
     obtain⟨o',h1,_⟩:=h b o hb
     rw[h1];rfl
 | _=>exact hc
theorem cellsNow_in{x:AV}(hc:cellsNow objs x=true):cellsNow objs' x=true:=by
 cases x with
 | agg cs=>rfl
 | undef=>exact cellNow_in h (x:= .undef) hc
 | und=>exact cellNow_in h (x:= .und) hc
 | int k n=>exact cellNow_in h (x:= .int k n) hc
 | bool b=>exact cellNow_in h (x:= .bool b) hc
 | str s=>exact cellNow_in h (x:= .str s) hc
 | sl xs=>exact cellNow_in h (x:= .sl xs) hc
 | nils=>exact cellNow_in h (x:= .nils) hc
 | pp nl cs=>exact cellNow_in h (x:= .pp nl cs) hc
 | fn f cs=>exact cellNow_in h (x:= .fn f cs) hc
 | tup xs=>exact cellNow_in h (x:= .tup xs) hc
 | ia cs off=>exact cellNow_in h (x:= .ia cs off) hc
 | bp cs=>exact cellNow_in h (x:= .bp cs) hc
 | own r g=>exact cellNow_in h (x:= .own r g) hc
 | oa r g i off=>exact cellNow_in h (x:= .oa r g i off) hc
 | ba b off=>exact cellNow_in h (x:= .ba b off) hc
 | fr e k xs=>exact cellNow_in h (x:= .fr e k xs) hc
 | vw r g i=>exact cellNow_in h (x:= .vw r g i) hc
 | mr r=>exact cellNow_in h (x:= .mr r) hc
 | mv ks vs=>exact cellNow_in h (x:= .mv ks vs) hc
 | fb cs=>exact cellNow_in h (x:= .fb cs) hc
 | inp r f=>exact cellNow_in h (x:= .inp r f) hc
theorem plus_in{x y:AV}{n:Nat}(hb:plus objs x n=some y):plus objs' x n=some y:=by
 cases x with
 | oa r g i off=>
   simp only[plus]at hb ⊢
   split at hb
   ·rename_i ho
    obtain⟨xs',fz,h1,_⟩:=h.row ho
    rw[h1];exact hb
   ·cases hb
 | _=>exact hb
theorem lenT_in{P:Program}{t:TypeId}{x:AV}{n:Nat}(hl:lenT P objs t x=some n):lenT P objs' t x=some n:=by
 unfold lenT at hl ⊢
 split at hl
 ·exact hl
 ·exact hl
 ·exact hl
 ·rename_i r g hu
  simp only[lenOf]at hl ⊢
  split at hl
  ·rename_i ho
   obtain⟨xs',fz,h1,h2,_⟩:=h.row ho
   rw[h1]
   simp only[h2]
   exact hl
  ·cases hl
 ·split at hl
  case h_2=>cases hl
  rename_i ho
  obtain⟨o',h1,ks',vs',fz',rfl,h2,_⟩:=h _ _ ho
  rw[h1]
  simp only[h2]
  exact hl
 ·exact hl
 ·cases hl
theorem addr_in{P:Program}{t:TypeId}{x i y:AV}(ha:addr P objs t x i=some y):addr P objs' t x i=some y:=by
 unfold addr at ha ⊢
 obtain⟨e,h1,ha⟩:=bind_some' ha
 obtain⟨k,h2,ha⟩:=bind_some' ha
 obtain⟨j,h3,ha⟩:=bind_some' ha
 rw[h1,Option.bind_some,h2,Option.bind_some,h3,Option.bind_some]
 cases x with
 | own r g=>
   simp only at ha ⊢
   split at ha
   ·rename_i ho
    obtain⟨xs',fz,h1,h2,_⟩:=h.row ho
    rw[h1]
    simp only[h2]
    exact ha
   ·cases ha
 | _=>exact ha
theorem expt_in{no:Nat→Bool}:∀{n:Nat}{x y:AV},expt no objs n x=some y→(∀ id∈refsOf objs n x,U id=[])→expt no objs' n x=some y∧refsOf objs' n x=refsOf objs n x:=by
 intro n
 induction n with
 | zero=>intro x y hx;simp[expt]at hx
 | succ n ih=>
   intro x y hx hU
   have lst:∀{l:List AV}{r:List AV},mapO (expt no objs n) l=some r→(∀ id∈l.flatMap (refsOf objs n),U id=[])→mapO (expt no objs' n) l=some r∧l.flatMap (refsOf objs' n)=l.flatMap (refsOf objs n):=by
    intro l r hl hU
    refine⟨mapO_in hl fun z hz y hy=>(ih hy fun id hid=>hU id (List.mem_flatMap.2 ⟨z,hz,hid⟩)).1,?_⟩
    have h0:∀z∈l,refsOf objs' n z=refsOf objs n z:=fun z hz=>by
     obtain⟨y,hy⟩:=mapO_mem hl hz
     exact(ih hy fun id hid=>hU id (List.mem_flatMap.2 ⟨z,hz,hid⟩)).2
    rw[List.flatMap_def,List.flatMap_def,List.map_congr_left h0]
   cases x with
   | agg cs=>
     simp only[expt,refsOf]at hx hU ⊢
     obtain⟨r,h1,h2⟩:=map_some hx
     obtain⟨h3,h4⟩:=lst h1 hU
     rw[h3,h4]
     simp[h2]
   | fn f cs=>
     simp only[expt,refsOf]at hx hU ⊢
     obtain⟨r,h1,h2⟩:=map_some hx
     obtain⟨h3,h4⟩:=lst h1 hU
     rw[h3,h4]
     simp[h2]
   | tup cs=>simp[expt]at hx
   | own r g=>
     have hUr:=hU r (by simp[refsOf])
     refine⟨?_,rfl⟩
     simp only[expt]at hx ⊢
     split at hx
     ·rename_i hno ho
      obtain⟨xs',fz,h1,_,h2⟩:=h.row ho
      rw[hno,h1,h2 hUr];exact hx
     ·cases hx
   | oa r g i off=>
     have hUr:=hU r (by simp[refsOf])
     refine⟨?_,rfl⟩
     simp only[expt]at hx ⊢
     split at hx
     ·rename_i hno ho
      obtain⟨xs',fz,h1,_,h2⟩:=h.row ho
      rw[hno,h1,h2 hUr];exact hx
     ·cases hx
   | ba b off=>
     simp only[expt]at hx
     split at hx
     ·rename_i hno ho
      obtain⟨r,h2,h3⟩:=map_some hx
      simp only[refsOf,ho]at hU
      obtain⟨fz,h1⟩:=h.box0 ho (hU b (by simp))
      obtain⟨h4,h5⟩:=lst h2 fun id hid=>hU id (by simp only[List.mem_cons];exact .inr hid)
      simp only[expt,refsOf,hno,h1,ho,h4,h5]
      simp[h3]
     ·cases hx
   | mr r=>
     have hUr:=hU r (by simp[refsOf])
     refine⟨?_,rfl⟩
     simp only[expt]at hx ⊢
     split at hx
     ·rename_i hno ho
      obtain⟨fz,h1⟩:=h.map0 ho hUr
      rw[hno,h1];exact hx
     ·cases hx
   | _=>exact⟨hx,rfl⟩
end
end Go.Abs
