import Derived.Test.YthcgpcmeffkijaaGreatDoorSEv5
import Derived.Shelf.SlSortCmp.NoneTotal
import Derived.Shelf.Slices.CompactI
import Derived.Shelf.Spec.SlicesGrow
set_option linter.unusedVariables false
set_option linter.unusedSimpArgs false
namespace Go.Abs
open Go.RowKit Go.Sort Go.Proofs
theorem grow_of{w w':World}(h1:w'.os=w.os)(h2:w'.tape=w.tape)(h3:w'.output=w.output)(h4:w.heap.size≤w'.heap.size)(h5:∀k,k<w.heap.size→w'.heap[k]? = w.heap[k]?)(h6:w.drawn≤w'.drawn) :
  ∃q os,w'=grow (w.drewN q) os:=by
 refine⟨w'.drawn-w.drawn,w'.heap.extract w.heap.size w'.heap.size,?_⟩
 cases w with
 | mk heap tape drawn os output=>
 cases w' with
 | mk heap' tape' drawn' os' output'=>
 simp only at h1 h2 h3 h4 h5 h6
 subst h1;subst h2;subst h3
 simp only[grow,World.drewN]
 congr 1
 ·apply Array.ext_getElem?
  intro k
  rw[Array.getElem?_append]
  split
  ·rename_i hk
   exact h5 k hk
  ·rename_i hk
   simp only[Array.getElem?_extract]
   by_cases hk2:k<heap'.size
   ·rw[if_pos (by omega)]
    congr 1
    omega
   ·rw[if_neg (by omega)]
    simp;omega
 ·omega
section
variable {α:Type} [Inhabited α]
theorem turned_heap{enc:α→Value}{w:World}{g m:Nat}{d:Array α}{os:Array Obj}{cur:Array Value}{e:TypeId}(hg:w.heap[g]? = some (.cells cur e (0,0)))(hs:d.size≤cur.size) :
  ∃cur',(grow (putRow enc (Sort.ahead w m) g 0 d) os).heap[g]? = some (.cells cur' e (0,0))∧cur'.size=cur.size∧cur'.toList.take d.size=d.toList.map enc:=by
 have hlt:g<w.heap.size:=(Array.getElem?_eq_some_iff.1 hg).1
 refine⟨putCells enc 0 d cur,?_,by simp[putCells],?_⟩
 ·rw[heap_grow_old _ _ (by simpa using hlt)]
  simp only[putRow,mapBlock,Array.getElem?_modify,if_true,Sort.ahead]
  rw[hg]
  rfl
 ·apply List.ext_getElem?
  intro j
  rw[List.getElem?_take]
  by_cases hj:j<d.size
  ·rw[if_pos hj,List.getElem?_map,Array.getElem?_toList,Array.getElem?_toList]
   simp only[putCells,Array.getElem?_mapIdx]
   rw[Array.getElem?_eq_getElem (by omega:j<cur.size),Array.getElem?_eq_getElem hj]
   simp[hj,getElem!_pos]
  ·rw[if_neg hj]
   exact(List.getElem?_eq_none (by rw[List.length_map,Array.length_toList];omega)).symm
theorem turned_below{enc:α→Value}{b:Base}{g m:Nat}{d:Array α}{os:Array Obj}(hown:b.own g):BelowB b (grow (putRow enc (Sort.ahead b.w m) g 0 d) os):=by
 refine⟨rfl,rfl,rfl,by simp,fun k hk hne=>?_,?_⟩
 ·have hkg:g≠k:=fun e=>hne (e▸hown)
  rw[heap_grow_old _ _ (by simpa using hk)]
  simp only[putRow,mapBlock,Array.getElem?_modify,if_neg hkg,Sort.ahead]
 ·intro _
  show b.w.drawn≤b.w.drawn+m
  omega
end
theorem rowOK_cells{S:Nat→Prop}{w:World}{g n cap e k:Nat}{cur:Array Value}{xs:List AV}{zs:List Value}(hk0:0<k)(hg:w.heap[g]? = some (.cells cur e (0,0)))(hn:n≤cap)(hcap:cap≤maxLen)(hcs:cur.size=cap*k)(hxl:xs.length=n)
  (hz:cur.toList.take (n*k)=zs) (h1:∀u∈zs,u.oneCell'=true) (hx:∀(j:Nat) r,(RelL S w (fun _=>undef) (fun _=>none) xs)[j]? = some r→r.n=k∧r.mem (fun i=>zs[j*k+i]?)) :
  RowOK S w 0 (.slice (some ⟨g,0,none⟩) n cap) e k xs:=by
 refine⟨hk0,zs,⟨?_,.inr ⟨g,cap,cur,by rw[hxl],Nat.zero_le _,hg,by rw[hxl];exact hn,hcap,hcs,by rw[hxl];exact hz⟩⟩,h1,hx⟩
 rw[← hz,List.length_take,Array.length_toList,hcs,hxl]
 exact Nat.min_eq_left (Nat.mul_le_mul_right _ hn)
theorem row_open{S:Nat→Prop}{w:World}{v:Value}{e k:Nat}{xs:List AV}(h:RowOK S w 0 v e k xs)(hne:xs≠[]) :
  ∃g cap cur zs,v= .slice (some ⟨g,0,none⟩) xs.length cap∧w.heap[g]? = some (.cells cur e (0,0))∧xs.length≤cap∧cap≤maxLen∧cur.size=cap*k∧cur.toList.take (xs.length*k)=zs∧zs.length=xs.length*k∧(∀ u∈zs,u.oneCell'=true)∧
   ∀(j:Nat) x,xs[j]? = some x→x.cells.length=k∧AllM (RelL S w (fun _=>undef) (fun _=>none) x.cells) (fun i=>zs[j*k+i]?):=by
 obtain⟨hk0,zs,⟨hl,hc⟩,h1,h2⟩:=h
 rcases hc with⟨_,h3⟩|⟨g,cap,cur,h3,_,h4,h5,h6,h7,h8⟩
 ·exact absurd (List.eq_nil_of_length_eq_zero h3) hne
 ·refine⟨g,cap,cur,zs,h3,h4,h5,h6,h7,h8,hl,h1,fun j x hx=>?_⟩
  obtain⟨h9,h10⟩:=h2 j (Rel S w _ _ x) (by rw[RelL_get,hx];rfl)
  rw[Rel_n]at h9
  exact⟨h9,mem_cells h10⟩
theorem row_slice{S:Nat→Prop}{w:World}{v:Value}{e k:Nat}{xs:List AV}(h:RowOK S w 0 v e k xs):∃A c,v= .slice A xs.length c:=by
 obtain⟨hk0,zs,⟨hl,hc⟩,h1,h2⟩:=h
 rcases hc with⟨h3,h4⟩|⟨g,cap,cur,h3,_⟩
 ·exact⟨none,0,by rw[h3,h4]⟩
 ·exact⟨_,_,h3⟩
section
variable {α:Type} [Inhabited α]
theorem inp_row{F:Nat→Prop}{b:Base}{w':World}{g cap e k m n:Nat}{cur:Array Value}{os:Array Obj}{enc:α→Value}{d:Array α}{xs:List AV}(hk0:0<k)(hg:b.w.heap[g]? = some (.cells cur e (0,0)))(hn:n≤cap)(hcap:cap≤maxLen)(hcs:cur.size=cap*k)(hxl:xs.length=n)
  (hd:d.size=n*k) (h1:∀x∈d.toList,(enc x).oneCell'=true) (hx:∀(j:Nat) x,xs[j]? = some x→x.cells.length=k∧AllM (RelL F b.w (fun _=>undef) (fun _=>none) x.cells) (fun i=>(d.toList.map enc)[j*k+i]?))
  (hw:w'=grow (putRow enc (Sort.ahead b.w m) g 0 d) os) (hown:b.own g) (hF:∀k,F k→k<b.w.heap.size∧¬b.own k) (harg:b.arg= .slice (some ⟨g,0,none⟩) n cap):InpOK F b w' (.tup []) (.fr e k xs) (.tuple #[]):=by
 subst hw
 have hbel:=turned_below (enc:=enc) (m:=m) (d:=d) (os:=os) hown
 obtain⟨cur',h2,h3,h4⟩:=turned_heap (enc:=enc) (m:=m) (d:=d) (os:=os) hg (by rw[hcs,hd];exact Nat.mul_le_mul_right _ hn)
 have hsub:∀q,F q→inpS F b (grow (putRow enc (Sort.ahead b.w m) g 0 d) os) q:=fun q hq=>by
  refine⟨.inl hq,Nat.lt_of_lt_of_le (hF q hq).1 hbel.size,fun e=>?_⟩
  rw[harg]at e
  simp only[blkOf,Option.some.injEq]at e
  exact(hF q hq).2 (e▸hown)
 have hsame:∀q,F q→(grow (putRow enc (Sort.ahead b.w m) g 0 d) os).heap[q]? = b.w.heap[q]? := fun q hq=>hbel.block q (hF q hq).1 (hF q hq).2
 refine⟨hbel,⟨[],rfl,by simp[RelL],fun i r u hr=>by simp[RelL]at hr⟩,?_,rfl⟩
 show RowOK _ _ 0 b.arg e k xs
 rw[harg]
 refine rowOK_cells (zs:=d.toList.map enc) hk0 h2 hn hcap (by rw[h3,hcs]) hxl (by rw[← hd];exact h4) (fun u hu=>?_) fun j r hr=>?_
 ·obtain⟨x,hx,rfl⟩:=List.mem_map.1 hu
  exact h1 x hx
 ·rw[RelL_get]at hr
  cases hj:xs[j]? with
  | none=>rw[hj]at hr;cases hr
  | some x=>
    rw[hj]at hr
    simp only[Option.map_some,Option.some.injEq]at hr
    subst hr
    obtain⟨h5,h6⟩:=hx j x hj
    rw[Rel_n]
    exact⟨h5,cells_mem ((RelL_mono hsub hsame (ObjLe.none _ _) x.cells).allM h6)⟩
end
theorem inp_same{F:Nat→Prop}{b:Base}{e k:Nat}{xs:List AV}(h:RowOK F b.w 0 b.arg e k xs)(hF:∀k,F k→k<b.w.heap.size∧¬b.own k)(hown:∀k,blkOf b.arg=some k→b.own k):InpOK F b b.w (.tup []) (.fr e k xs) (.tuple #[]):=by
 refine⟨BelowB.refl b,⟨[],rfl,by simp[RelL],fun i r u hr=>by simp[RelL]at hr⟩,?_,rfl⟩
 exact h.mono (fun q hq=>⟨.inl hq,(hF q hq).1,fun e=>(hF q hq).2 (hown q e)⟩) (fun _ _=>rfl) fun q hq=>⟨rfl,Nat.zero_le _⟩
def sortI(l:List Int):List Int:=l.mergeSort fun x y=>decide (x≤y)
def intsOf:List AV→Option (List Int):=mapO fun
 | .int .i64 n=>some n
 | _=>none
def leafSortI(e:Nat):LeafF:=fun _ args=>match args with
 | [.fr e' k xs]=>if e'=e∧k=1∧xs.length<4611686018427387904 then(intsOf xs).map fun l=> .inp (.tup []) (.fr e 1 ((sortI l).map (AV.int .i64)))else none
 | _=>none
theorem allV_vals2{F:Nat→Prop}{b:Base}{x y:AV}{vals:List Value}(hA:ArgsOK F b [x,y] vals):∃v u,vals=[v,u]∧argOK F b x v∧argOK F b y u:=by
 have:=hA.len
 match vals,this with
 | [v,u],_=>exact⟨v,u,rfl,hA.one 0 x v rfl rfl,hA.one 1 y u rfl rfl⟩
theorem holds_of{α:Type}[Inhabited α]{w:World}{g n k:Nat}{e:TypeId}{cur:Array Value}{enc:α→Value}{d:Array α}(hg:w.heap[g]? = some (.cells cur e (0,0)))(hz:cur.toList.take (n*k)=d.toList.map enc)(hd:d.size=n*k):Holds enc w g 0 d:=by
 intro j hj
 have h1:(cur.toList.take (n*k))[j]? = some (enc d[j]):=by rw[hz,List.getElem?_map,Array.getElem?_toList,Array.getElem?_eq_getElem hj];rfl
 rw[List.getElem?_take,if_pos (by omega),Array.getElem?_toList]at h1
 constructor
 ·simp only[World.cell?,hg,Nat.zero_add,h1,getElem!_pos d j hj]
  rfl
 ·simp[World.frozen?,hg]
def cmpAV(C:Callee)(g:Nat)(caps:List AV)(x y:AV):Int:=match C g (x::y::caps)with
 | some (.int .i64 n)=>n
 | _=>0
def isAggV:AV→Bool
 | .agg _=>true
 | _=>false
def sortIx(lt:Nat→Nat→Bool)(n:Nat):List Nat:=(pdq lt (Array.range n) 0 n (Lib.bitLen n) true true).toList
def ltIx(C:Callee)(g:Nat)(caps xs:List AV)(i j:Nat):Bool:=decide (cmpAV C g caps (xs.getD (min i (xs.length-1)) .undef) (xs.getD (min j (xs.length-1)) .undef)<0)
open Classical in
noncomputable def leafSortF(P:Program)(e k:Nat):LeafF:=fun C args=>match args with
 | [.fr e' k' xs,.fn g caps]=>if e'=e∧k'=k then if xs.isEmpty=true then some (.inp (.tup []) (.fr e k []))else if xs.all (fun x=>isAggV x&&elemOk P e k x)=true∧xs.length<4611686018427387904∧(entersB P g&&quietB P g)=true∧givesB P g=false∧
  (∀ x∈xs,∀y∈xs,∃n,C g (x::y::caps)=some (.int .i64 n))∧SWO (ltIx C g caps xs)then
  some (.inp (.tup []) (.fr e k ((sortIx (ltIx C g caps xs) xs.length).map fun i=>xs.getD i .undef)))else none else none
 | _=>none
theorem agg_val{S:Nat→Prop}{w:World}{κ:Nat→Value}{objs:Nat→Option AObj}{x:AV}{vs:List Value}(ha:isAggV x=true)(h:AllV (RelL S w κ objs x.cells) vs):(Rel S w κ objs x).val (.agg vs.toArray):=by
 cases x with
 | agg cs=>simp only[Rel];exact⟨vs,rfl,h⟩
 | _=>cases ha
theorem callA_enters{P:Program}{g:Nat}(h:entersB P g=true)(args:Array Value)(w:World):(callFunc g args).run P w= .ok (.enter g args) w:=by
 unfold entersB at h
 split at h
 ·rename_i fn hfn
  simp only[Bool.and_eq_true,bne_iff_ne,ne_eq]at h
  exact run_callFunc' hfn h.1 h.2 args w
 ·cases h
theorem sortIx_perm{lt:Nat→Nat→Bool}(hO:SWO lt)(n:Nat):(sortIx lt n).Perm (List.range n)∧SortedIn lt 0 n (pdq lt (Array.range n) 0 n (Lib.bitLen n) true true):=by
 have h:=pdq_sorts lt hO (Array.range n) 0 n (Lib.bitLen n) true true (Nat.zero_le _) (by simp) (Or.inl rfl)
 refine⟨?_,h.2⟩
 have h1:=h.1.2.2
 have hsz:=h.1.1
 have e1:(pdq lt (Array.range n) 0 n (Lib.bitLen n) true true).extract 0 n=pdq lt (Array.range n) 0 n (Lib.bitLen n) true true:=by
  apply Array.ext_getElem?
  intro i
  simp only[Array.getElem?_extract,Nat.zero_add,Nat.sub_zero]
  by_cases hi:i<n
  ·rw[if_pos (by rw[hsz];simp;omega)]
  ·rw[if_neg (by rw[hsz];simp;omega),Array.getElem?_eq_none (by rw[hsz];simp;omega)]
 have e2:(Array.range n).extract 0 n=Array.range n:=by
  apply Array.ext_getElem?
  intro i
  simp only[Array.getElem?_extract,Nat.zero_add,Nat.sub_zero]
  by_cases hi:i<n
  ·rw[if_pos (by simp;omega)]
  ·rw[if_neg (by simp;omega),Array.getElem?_eq_none (by simp;omega)]
 rw[e1,e2]at h1
 simpa[sortIx]using h1
theorem leaf_sortF{P:Program}{f e k:Nat}(hi:inplB P f=true)
  (hs:∀(enc:Nat→List Value),(∀ x,(enc x).length=k)→(∀ x,∀v∈enc x,v.oneCell'=true)→∀(cf:Nat→Nat→Int),SWO (ltOf cf)→∀(g:Nat)(cb:Array Value)(blk off cap:Nat)(d:Array Nat)(w:World),
   (∀ args w,(callFunc g args).run P w= .ok (.enter g args) w)→CmpLays P g cb enc k cf blk off d.size w→HoldsK enc k w blk off d→blk<w.heap.size→d.size<4611686018427387904→
   Calls P f #[.slice (some ⟨blk,off,none⟩) d.size cap,.func (.func g) #[] cb] w fun e w'=>e= .returned (.tuple #[])∧∃n os,w'=sortWorldK enc k w blk off n (pdq (ltOf cf) d 0 d.size (Lib.bitLen d.size) true true) os)
  (hn:∀(p:Option Addr)(cap:Nat)(fv:Value)(w:World),Calls P f #[.slice p 0 cap,fv] w fun e w'=>e= .returned (.tuple #[])∧w'=w):LeafAt P f (leafSortF P e k):=by
 intro C hC args r hr F b vals hQ hGO hA
 unfold leafSortF at hr
 split at hr
 case h_2=>cases hr
 rename_i e' k' xs g caps
 split at hr
 case isFalse=>cases hr
 rename_i hek
 obtain⟨rfl,rfl⟩:=hek
 split at hr
 ·rename_i hemp
  have hemp:xs=[]:=by simpa using hemp
  subst hemp
  cases hr
  obtain⟨v,u,rfl,⟨hrow,hown⟩,hfn⟩:=allV_vals2 hA
  have harg:b.arg=v:=hA.arg0 _ _ rfl rfl rfl
  obtain⟨A,c,hv⟩:=row_slice hrow
  rw[hv]
  refine(hn A c _ b.w).mono fun en w' ⟨h1,h2⟩=>⟨_,h1,?_⟩
  subst h2
  refine InpOK.x ?_ hi
  exact inp_same (by rw[harg];exact hrow) hA.free (by rw[harg];exact hown)
 rename_i hemp
 split at hr
 case isFalse=>cases hr
 rename_i hc
 obtain⟨hall,hlt,hen2,hgv,hcmp,hO⟩:=hc
 have hen:=((Bool.and_eq_true _ _).mp hen2).1
 have hqg:=((Bool.and_eq_true _ _).mp hen2).2
 cases hr
 have hne:xs≠[]:=by simpa using hemp
 obtain⟨v,u,rfl,⟨hrow,hown⟩,hfn⟩:=allV_vals2 hA
 have harg:b.arg=v:=hA.arg0 _ _ rfl rfl rfl
 simp only[argOK,Rel,one]at hfn
 obtain⟨cvs,rfl,hcaps⟩:=hfn
 have hperm:=sortIx_perm hO xs.length
 ·obtain⟨blk,cap,cur,zs,hv,h4,h5,h6,h7,h8,h9,h10,h11⟩:=row_open hrow hne
  subst hv
  have hb:b.own blk:=hown blk rfl
  have hk0:0<k':=hrow.1
  have hn0:0<xs.length:=List.length_pos_iff.2 hne
  let enc:Nat→List Value:=fun i=>(zs.drop (min i (xs.length-1)*k')).take k'
  have hin:∀i,min i (xs.length-1)*k'+k'≤zs.length:=fun i=>by
   rw[h9]
   have:=Nat.mul_le_mul_right k' (show min i (xs.length-1)+1≤xs.length by omega)
   rwa[Nat.add_mul,Nat.one_mul]at this
  have hk:∀x,(enc x).length=k':=fun x=>by
   have:=hin x
   simp only[enc,List.length_take,List.length_drop]
   omega
  have henc:∀i c,c<k'→(enc i)[c]? = zs[min i (xs.length-1)*k'+c]? := fun i c hc=>by
   simp only[enc,List.getElem?_take,if_pos hc,List.getElem?_drop]
  have h1:∀x,∀v∈enc x,v.oneCell'=true:=fun x v hv=>h10 v (List.mem_of_mem_drop (List.mem_of_mem_take hv))
  let cf:Nat→Nat→Int:=fun i j=>cmpAV C g caps (xs.getD (min i (xs.length-1)) .undef) (xs.getD (min j (xs.length-1)) .undef)
  have hltcf:ltOf cf=ltIx C g caps xs:=rfl
  have hget:∀i,∃x,xs[min i (xs.length-1)]? = some x∧xs.getD (min i (xs.length-1)) .undef=x∧x∈xs:=fun i=>by
   have hlt:min i (xs.length-1)<xs.length:=by omega
   exact⟨xs[min i (xs.length-1)],List.getElem?_eq_getElem hlt,by simp[List.getD,hlt],List.getElem_mem hlt⟩
  have hFsame:∀(m:Nat)(os:Array Obj)(dk:Array Nat),∀q,F q→(sortWorldK enc k' b.w blk 0 m dk os).heap[q]? = b.w.heap[q]? := fun m os dk q hq=>(turned_below (enc:=id) (m:=m) (d:=flatK enc k' dk) (os:=os) hb).block q (hA.free q hq).1 (hA.free q hq).2
  have hcmpL:CmpLays P g cvs.toArray enc k' cf blk 0 (Array.range xs.length).size b.w:=by
   intro m os dk hdk i j
   obtain⟨x,hx1,hx2,hx3⟩:=hget i
   obtain⟨y,hy1,hy2,hy3⟩:=hget j
   obtain⟨n,hn⟩:=hcmp x hx3 y hy3
   have hcf:cf i j=n:=by
    show cmpAV C g caps (xs.getD (min i (xs.length-1)) .undef) (xs.getD (min j (xs.length-1)) .undef)=n
    rw[hx2,hy2]
    unfold cmpAV
    rw[hn]
   have hone:∀i x,xs[min i (xs.length-1)]? = some x→x∈xs→(Rel F (sortWorldK enc k' b.w blk 0 m dk os) κ0 o0 x).val (.agg (enc i).toArray):=by
    intro i x hx hxm
    have ha:=List.all_eq_true.1 hall x hxm
    simp only[Bool.and_eq_true]at ha
    obtain⟨h12,h13⟩:=h11 _ x hx
    refine agg_val ha.1 (AllV_of _ _ _ _ (by rw[h12,hk]) fun c z v hz hv=>?_)
    have hc:c<k':=by rw[← h12];exact(List.getElem?_eq_some_iff.1 hz).1
    obtain⟨v',h14,h15⟩:=AllM_get h13 c z hz
    rw[henc i c hc,h14]at hv
    cases hv
    exact(Rel_mono (fun _ hq=>hq) (hFsame m os dk) (ObjLe.none _ _) z).val _ h15
   have hvals:AllV (RelL F (sortWorldK enc k' b.w blk 0 m dk os) κ0 o0 (x::y::caps)) (.agg (enc i).toArray :: .agg (enc j).toArray::cvs):=by
    refine AllV_cons (hone i x hx1 hx3) (AllV_cons (hone j y hy1 hy3) ?_)
    exact(RelL_mono (fun _ hq=>hq) (hFsame m os dk) (ObjLe.none _ _) caps).allV hcaps
   have hFlt:∀q,F q→q<(sortWorldK enc k' b.w blk 0 m dk os).heap.size:=fun q hq=>Nat.lt_of_lt_of_le (hA.free q hq).1 (turned_below (enc:=id) (m:=m) (d:=flatK enc k' dk) (os:=os) hb).size
   have hcall:=hC.byval (d:=true) hn (hGO.below (turned_below (enc:=id) (m:=m) (d:=flatK enc k' dk) (os:=os) hb)) (fun _=>hqg) hFlt hvals
   have earr:(Value.agg (enc i).toArray :: .agg (enc j).toArray::cvs).toArray=#[.agg (enc i).toArray,.agg (enc j).toArray]++cvs.toArray:=by apply Array.ext';simp
   rw[earr]at hcall
   refine hcall.mono fun en w' ⟨v,hen',hres⟩=>?_
   have hres:=hres.res (givesB_of hgv)
   obtain⟨us,hp,hlen,hcomp,_⟩:=hres.parts
   have hp:us=[v]:=hp
   subst hp
   have hv:=hcomp 0 (.int .i64 n) v rfl rfl
   have hv:v= .int .i64 n:=hv
   rw[hen',hv,hcf]
   refine⟨rfl,?_⟩
   have hbel:=hres.below
   exact grow_of hbel.os hbel.tape hbel.output hbel.size (fun q hq=>hbel.block q hq fun h=>h.elim) (hbel.drawn rfl)
  have hfl:(flatK enc k' (Array.range xs.length)).toList=zs:=by
   apply List.ext_getElem?
   intro t
   rw[Array.getElem?_toList]
   by_cases ht:t<xs.length*k'
   ·have hj:t / k'<xs.length:=(Nat.div_lt_iff_lt_mul hk0).2 ht
    have hm:t % k'<k':=Nat.mod_lt _ hk0
    rw[Array.getElem?_eq_getElem (by simpa using ht)]
    simp only[flatK,Array.getElem_map,Array.getElem_range]
    have e1:(Array.range xs.length)[t / k']! = t / k':=by rw[getElem!_pos _ _ (by simpa using hj)];simp
    rw[e1]
    have h12:=henc (t / k') (t % k') hm
    rw[show min (t / k') (xs.length-1)=t / k' by omega]at h12
    have e2:t / k'*k'+t % k'=t:=by rw[Nat.mul_comm];exact Nat.div_add_mod _ _
    rw[e2]at h12
    rw[← h12,getElem!_pos _ _ (by rw[hk];exact hm)]
    exact(List.getElem?_eq_getElem _).symm
   ·rw[Array.getElem?_eq_none (by simpa using Nat.le_of_not_lt ht),List.getElem?_eq_none (by omega)]
  have hH:HoldsK enc k' b.w blk 0 (Array.range xs.length):=holds_of (enc:=id) (n:=xs.length) (k:=k') h4 (by rw[hfl];simpa using h8) (by simp)
  have hcall:=hs enc hk h1 cf hO g cvs.toArray blk 0 cap (Array.range xs.length) b.w (callA_enters hen) hcmpL hH (b.lt blk hb) (by simpa using hlt)
  simp only[Array.size_range]at hcall
  refine hcall.mono fun en w' ⟨h12,m,os,h13⟩=>⟨_,h12,?_⟩
  refine InpOK.x ?_ hi
  rw[hltcf]at h13
  have hsz:(pdq (ltIx C g caps xs) (Array.range xs.length) 0 xs.length (Lib.bitLen xs.length) true true).size=xs.length:=by
   have:=hperm.1.length_eq
   simpa[sortIx]using this
  refine inp_row (enc:=id) (d:=flatK enc k' (pdq (ltIx C g caps xs) (Array.range xs.length) 0 xs.length (Lib.bitLen xs.length) true true)) (n:=xs.length) hk0 h4 h5 h6 h7 (by simp[sortIx,hsz]) (by simp[hsz]) (fun x hx=>?_) (fun j x hj=>?_) h13 hb hA.free harg
  ·obtain⟨t,ht,rfl⟩:=List.getElem_of_mem hx
   simp only[Array.length_toList,size_flatK,hsz]at ht
   simp only[flatK,Array.getElem_toList,Array.getElem_map,Array.getElem_range,id]
   rw[getElem!_pos _ _ (by rw[hk];exact Nat.mod_lt _ hk0)]
   exact h1 _ _ (List.getElem_mem _)
  ·rw[List.getElem?_map]at hj
   cases hq:(sortIx (ltIx C g caps xs) xs.length)[j]? with
   | none=>rw[hq]at hj;cases hj
   | some i=>
     rw[hq]at hj
     simp only[Option.map_some,Option.some.injEq]at hj
     have hil:i<xs.length:=List.mem_range.1 (hperm.1.mem_iff.1 (List.mem_of_getElem? hq))
     have hx2:xs[i]? = some x:=by
      rw[← hj]
      simp[List.getD,hil]
     obtain⟨h14,h15⟩:=h11 i x hx2
     refine⟨h14,AllM_lt h15 fun c hc=>?_⟩
     rw[h14]at hc
     have hjl:j<xs.length:=by
      have:=(List.getElem?_eq_some_iff.1 hq).1
      have h16:=hperm.1.length_eq
      simp only[List.length_range]at h16
      omega
     have hjk:j*k'+c<xs.length*k':=by
      have:=Nat.mul_le_mul_right k' (show j+1≤xs.length from hjl)
      rw[Nat.add_mul,Nat.one_mul]at this
      omega
     rw[List.map_id,Array.getElem?_toList,Array.getElem?_eq_getElem (by simp only[size_flatK,hsz];exact hjk)]
     simp only[flatK,Array.getElem_map,Array.getElem_range]
     have e3:(j*k'+c) / k'=j:=by rw[Nat.mul_comm,Nat.mul_add_div hk0,Nat.div_eq_of_lt hc,Nat.add_zero]
     have e4:(j*k'+c) % k'=c:=by rw[Nat.mul_comm,Nat.mul_add_mod,Nat.mod_eq_of_lt hc]
     have e5:(pdq (ltIx C g caps xs) (Array.range xs.length) 0 xs.length (Lib.bitLen xs.length) true true)[j]! = i:=by
      have:(pdq (ltIx C g caps xs) (Array.range xs.length) 0 xs.length (Lib.bitLen xs.length) true true)[j]? = some i:=by
       rw[← Array.getElem?_toList];exact hq
      rw[getElem!_def,this]
     rw[e3,e4,e5]
     have h17:=henc i c hc
     rw[show min i (xs.length-1)=i by omega]at h17
     rw[← h17,getElem!_pos _ _ (by rw[hk];exact hc)]
     exact(List.getElem?_eq_getElem _).symm
def sortIO(l:List Int):Option (List Int):=if l.length<4611686018427387904 then some (sortI l)else none
section
variable {α:Type}
def ltT(cmp:α→α→Option Int)(l:List α)(i j:Nat):Bool:=match l[min i (l.length-1)]?,l[min j (l.length-1)]? with
 | some x,some y=>decide ((cmp x y).getD 0<0)
 | _,_=>false
open Classical in
noncomputable def sortO(cmp:α→α→Option Int)(l:List α):Option (List α):=
 if l=[]then some []else if l.length<4611686018427387904∧(∀ x∈l,∀y∈l,(cmp x y).isSome=true)∧SWO (ltT cmp l)then some ((sortIx (ltT cmp l) l.length).filterMap (l[·]?))else none
theorem sortF_leaf{P:Program}(e k g:Nat)(caps:List AV)(a:α→AV)(cmp:α→α→Option Int)(C:Callee)(l:List α)(hcmp:∀x y,C g (a x::a y::caps)=(cmp x y).map (AV.int .i64))
  (hok:∀x,(isAggV (a x)&&elemOk P e k (a x))=true) (hg:((entersB P g&&quietB P g) && !givesB P g)=true) :
  leafSortF P e k C [.fr e k (l.map a),.fn g caps]=(sortO cmp l).map fun r=>AV.inp (.tup []) (.fr e k (r.map a)):=by
 have hg:(entersB P g&&quietB P g)=true∧givesB P g=false:=by
  obtain⟨h1,h2⟩:=(Bool.and_eq_true _ _).mp hg
  exact⟨h1,by simpa using h2⟩
 have hall:(l.map a).all (fun x=>isAggV x&&elemOk P e k x)=true:=List.all_eq_true.2 fun z hz=>by
  obtain⟨x,_,rfl⟩:=List.mem_map.1 hz
  exact hok x
 have hlt:ltIx C g caps (l.map a)=ltT cmp l∨l=[]:=by
  by_cases hl:l=[]
  ·exact .inr hl
  refine .inl (funext fun i=>funext fun j=>?_)
  have h0:0<l.length:=List.length_pos_iff.2 hl
  unfold ltIx ltT cmpAV
  simp only[List.length_map]
  have hi:min i (l.length-1)<l.length:=by omega
  have hj:min j (l.length-1)<l.length:=by omega
  simp only[List.getD,List.getElem?_map,List.getElem?_eq_getElem hi,List.getElem?_eq_getElem hj,Option.map_some,Option.getD_some,hcmp]
  cases cmp l[min i (l.length-1)] l[min j (l.length-1)]<;>simp
 by_cases hl:l=[]
 ·subst hl
  simp[leafSortF,sortO]
 ·have hlt:=hlt.resolve_right hl
  have hiff:(∀ x∈l.map a,∀y∈l.map a,∃n,C g (x::y::caps)=some (.int .i64 n))↔∀x∈l,∀y∈l,(cmp x y).isSome=true:=by
   constructor
   ·intro h x hx y hy
    obtain⟨n,hn⟩:=h (a x) (List.mem_map.2 ⟨x,hx,rfl⟩) (a y) (List.mem_map.2 ⟨y,hy,rfl⟩)
    rw[hcmp]at hn
    cases hc:cmp x y with
    | none=>rw[hc]at hn;cases hn
    | some v=>rfl
   ·intro h x hx y hy
    obtain⟨x',hx',rfl⟩:=List.mem_map.1 hx
    obtain⟨y',hy',rfl⟩:=List.mem_map.1 hy
    have:=h x' hx' y' hy'
    rw[hcmp]
    cases hc:cmp x' y' with
    | none=>rw[hc]at this;cases this
    | some v=>exact⟨v,rfl⟩
  have hem:¬(l.map a).isEmpty=true:=by simpa using hl
  unfold leafSortF sortO
  rw[if_neg hl]
  simp only[and_self,if_true,if_neg hem]
  by_cases hc:l.length<4611686018427387904∧(∀ x∈l,∀y∈l,(cmp x y).isSome=true)∧SWO (ltT cmp l)
  ·rw[if_pos hc,if_pos ⟨hall,by simpa using hc.1,hg.1,hg.2,hiff.2 hc.2.1,hlt▸hc.2.2⟩]
   simp only[Option.map_some,Option.some.injEq,AV.inp.injEq,AV.fr.injEq,true_and,hlt,List.length_map]
   have hp:=(sortIx_perm hc.2.2 l.length).1
   have:∀m:List Nat,(∀ i∈m,i<l.length)→m.map (fun i=>(l.map a).getD i .undef)=(m.filterMap (l[·]?)).map a:=by
    intro m
    induction m with
    | nil=>intro _;rfl
    | cons i m ih=>
      intro hm
      have hi:i<l.length:=hm i (by simp)
      rw[List.map_cons,List.filterMap_cons]
      simp only[List.getElem?_eq_getElem hi,List.map_cons]
      rw[ih fun j hj=>hm j (by simp[hj])]
      simp[List.getD,hi]
   exact this _ fun i hi=>List.mem_range.1 (hp.mem_iff.1 hi)
  ·rw[if_neg hc,if_neg (fun h=>hc ⟨by simpa using h.2.1,hiff.1 h.2.2.2.2.1,hlt▸h.2.2.2.2.2⟩)]
   rfl
end
def leafCompI(e:Nat):LeafF:=fun _ args=>match args with
 | [.fr e' k xs]=>if e'=e∧k=1 then(intsOf xs).map fun l=> .fr e 1 ((Lib.compact l).map (AV.int .i64))else none
 | _=>none
def compIO(l:List Int):Option (List Int):=some (Lib.compact l)
def leafGrow(P:Program)(e k b:Nat):LeafF:=fun _ args=>match args with
 | [.nils,.int .i64 n]=>if rowOk P e k=true then if 0≤n∧n.toNat*b≤140737488355328∧n≤4611686018427387904 then some (.fr e k [])else none else none
 | _=>none
def growO(α:Type)(b:Nat)(n:Int):Option (List α):=if 0≤n∧n.toNat*b≤140737488355328∧n≤4611686018427387904 then some []else none
end Go.Abs
