import Derived.Test.YthcgpcmeffkijaaGreatDoorSEv5
import Derived.Deep.Slices
import Derived.ProofKit
import Derived.OpenShut
set_option linter.unusedVariables false
set_option linter.unusedSimpArgs false
namespace Go.Abs
open Go.RowKit
structure BulkOK{H:Type}(bulk:DataW H→Nat):Prop where
 str:∀l,l.length≤bulk (.lit (.string l))
 len:∀es sp,es.length≤bulk (.slice es sp)
 elem:∀es sp d,d∈es→bulk d≤bulk (.slice es sp)
 part:∀ps d,d∈ps→bulk d≤bulk (.agg ps)
abbrev Fin_(w:World):Nat→Prop:=fun k=>k<w.heap.size
def Rd(P:Program)(t:TypeId){α:Type}(f:α→AV)(ok:Nat→α→Prop):Prop:=∀{H:Type}{enc:TypeId×Value→H}{bulk:DataW H→Nat},BulkOK bulk→∀{w:World}{fuel:Nat}{cs:List Value}{d:DataW H}{ps:List MemPlace}{N:Nat},
 DataW.trod enc P w 0 (fun _=>true) true fuel t cs=some (d,ps)→bulk d≤N→∃x:α,AllV (RelL (Fin_ w) w κ0 o0 (f x).cells) cs∧ok N x
section
variable {P:Program} {t:TypeId}
theorem allV_single{S:Nat→Prop}{w:World}{x:AV}{v:Value}(h:(Rel S w κ0 o0 x).val v):AllV (RelL S w κ0 o0 [x]) [v]:=AllV_cons h ⟨rfl,fun i r u hr=>by simp[RelL]at hr⟩
theorem rd_int{k:IntKind}(hu:P.underlying t=some (.int k)):Rd P t (AV.int k) fun _ n=>k.min≤n∧n≤k.max:=by
 intro H enc bulk hB w fuel cs d ps N h hN
 cases fuel with
 | zero=>cases h
 | succ n=>
   unfold DataW.trod at h
   rw[hu]at h
   match cs,h with
   | [.int k' m],h=>
     simp only at h
     split at h
     case isFalse=>cases h
     rename_i hk
     obtain⟨rfl,hwf⟩:=hk
     refine⟨m,allV_single (by simp[Rel,one]),?_⟩
     simpa[Lit.wf]using hwf
theorem rd_str(hu:P.underlying t=some .string):Rd P t AV.str fun N s=>s.size≤N:=by
 intro H enc bulk hB w fuel cs d ps N h hN
 cases fuel with
 | zero=>cases h
 | succ n=>
   unfold DataW.trod at h
   rw[hu]at h
   match cs,h with
   | [.string s],h=>
     simp only at h
     split at h
     case isFalse=>cases h
     simp only[Option.some.injEq,Prod.mk.injEq]at h
     obtain⟨rfl,rfl⟩:=h
     refine⟨s,allV_single (by simp[Rel,one]),?_⟩
     have:=hB.str s.data.toList
     have e:s.data.toList.length=s.size:=by rw[Array.length_toList];rfl
     omega
theorem cell_lt{w:World}{a:Addr}{v:Value}(h:w.cell? a=some v):a.block<w.heap.size∧a.spot=none:=by
 unfold World.cell? at h
 split at h
 ·rename_i c t f hb
  refine⟨(Array.getElem?_eq_some_iff.1 hb).1,?_⟩
  split at h
  ·cases h
  ·rename_i hs;simpa using hs
 ·cases h
theorem rd_slice{e k:Nat}{α:Type}{f:α→AV}{ok:Nat→α→Prop}(hu:P.underlying t=some (.slice e))(hk:P.cellsOf e=k)(hk0:0<k)(hf:∀x,(f x).cells.length=k)(he:Rd P e f ok) :
  Rd P t (fun l:List α=> .sl (l.map f)) fun N l=>l.length≤N∧∀x∈l,ok N x:=by
 intro H enc bulk hB w fuel cs d ps N h hN
 rcases Go.Deep.open_slice hu h with⟨rfl,hx⟩|⟨a,len,cap,m,n,D,Pl,rfl,hb,hl,hm,hmm,hx,hel⟩
 ·refine⟨[],allV_single ?_,by simp,by simp⟩
  simp only[Rel,one,List.map_nil,List.length_nil]
  exact⟨none,0,rfl,Nat.le_refl _,by unfold maxLen;omega,fun h=>absurd rfl h⟩
 ·simp only[Prod.mk.injEq]at hx
  obtain⟨rfl,rfl⟩:=hx
  have hm':m=cap:=by simpa using hmm
  subst hm'
  have hlit:0<len→∃b o,a=at_ b o∧b<w.heap.size:=by
   intro h0
   obtain⟨cs',h1,_⟩:=hel 0 (by omega)
   obtain⟨_,h7,h8⟩:=World.cells?_some h1
   rw[hk]at h7 h8
   have hc:=h8 0 hk0
   rw[List.getElem?_eq_getElem (by omega)]at hc
   have e:(a.add (0*k)).add 0=a:=by simp[Addr.add]
   rw[e]at hc
   obtain⟨h9,h10⟩:=cell_lt hc
   obtain⟨b,o,s⟩:=a
   simp only at h10
   subst h10
   exact⟨b,o,rfl,h9⟩
  have one_:∀i,i<len→∃x:α,AllM (RelL (Fin_ w) w κ0 o0 (f x).cells) (fun j=>w.cell? (a.add (i*k+j)))∧ok N x:=by
   intro i hi
   obtain⟨b,o,rfl,hlt⟩:=hlit (by omega)
   obtain⟨cs',h1,h2⟩:=hel i (by omega)
   obtain⟨x,h3,h4⟩:=he hB h2 (Nat.le_trans (hB.elem _ _ (D i) (List.mem_map.2 ⟨i,List.mem_range.2 hi,rfl⟩)) hN)
   obtain⟨h5,h6⟩:=AllV_get _ _ _ _ h3
   obtain⟨_,h7,h8⟩:=World.cells?_some h1
   rw[hk]at h7 h8
   have hc:∀j,j<k→w.cell? ((at_ b o).add (i*k+j))=cs'[j]? := by
    intro j hj
    rw[← h8 j hj]
    congr 1
    simp only[Addr.add_lit,Nat.add_assoc]
   refine⟨x,AllM_of fun j y hy=>?_,h4⟩
   have hj:j<(f x).cells.length:=(List.getElem?_eq_some_iff.1 hy).1
   rw[hf]at hj
   have hj':j<cs'.length:=by omega
   exact⟨cs'[j],by rw[hc j hj,List.getElem?_eq_getElem hj'],h6 j y _ hy (List.getElem?_eq_getElem hj')⟩
  have hX:∃l:List α,l.length=len∧∀i x,l[i]? = some x→AllM (RelL (Fin_ w) w κ0 o0 (f x).cells) (fun j=>w.cell? (a.add (i*k+j)))∧ok N x:=by
   have:∀n,n≤len→∃l:List α,l.length=n∧∀i x,l[i]? = some x→AllM (RelL (Fin_ w) w κ0 o0 (f x).cells) (fun j=>w.cell? (a.add (i*k+j)))∧ok N x:=by
    intro n
    induction n with
    | zero=>intro _;exact⟨[],rfl,fun i x h=>by simp at h⟩
    | succ n ih=>
      intro hn
      obtain⟨l,h1,h2⟩:=ih (by omega)
      obtain⟨x,h3,h4⟩:=one_ n (by omega)
      refine⟨l++[x],by simp[h1],fun i y hy=>?_⟩
      rcases Nat.lt_or_ge i l.length with hi|hi
      ·rw[List.getElem?_append_left hi]at hy
       exact h2 i y hy
      ·rw[List.getElem?_append_right hi]at hy
       have:i=n:=by
        have:=(List.getElem?_eq_some_iff.1 hy).1
        simp at this
        omega
       subst this
       rw[h1,Nat.sub_self]at hy
       simp only[List.getElem?_cons_zero,Option.some.injEq]at hy
       subst hy
       exact⟨h3,h4⟩
   exact this len (Nat.le_refl _)
  obtain⟨l,hll,hX⟩:=hX
  refine⟨l,allV_single ?_,?_,?_⟩
  ·simp only[Rel,one,List.length_map]
   refine⟨some a,m,by rw[hll],by omega,hm,fun hne=>?_⟩
   have hpos:0<len:=by
    rw[← hll]
    cases l with
    | nil=>exact absurd rfl hne
    | cons _ _=>simp
   obtain⟨b,o,rfl,hblk⟩:=hlit hpos
   refine⟨b,o,k,rfl,hblk,fun j r hr=>?_⟩
   rw[RelL_get,List.getElem?_map]at hr
   cases hx:l[j]? with
   | none=>rw[hx]at hr;cases hr
   | some x=>
     rw[hx]at hr
     simp only[Option.map_some,Option.some.injEq]at hr
     subst hr
     refine⟨by rw[Rel_n,hf],cells_mem ?_⟩
     have h9:=(hX j x hx).1
     refine AllM.congr (fun i=>?_) h9
     simp only[Addr.add_lit,Nat.add_assoc]
  ·have:=hB.len ((List.range len).map D) ((List.range (m-len)).map fun j=>D (len+j))
   simp only[List.length_map,List.length_range]at this
   omega
  ·intro x hx
   obtain⟨i,hi⟩:=List.getElem?_of_mem hx
   exact(hX i x hi).2
theorem open_struct{H:Type}{enc:TypeId×Value→H}{w:World}{fuel:Nat}{cs:List Value}{d:DataW H}{ps:List MemPlace}(hu:P.underlying t=some (.struct (sf P t)))(h:DataW.trod enc P w 0 (fun _=>true) true fuel t cs=some (d,ps)) :
  cs.length=P.cellsOf t∧∃parts n,d= .agg parts∧∀(i ty off k:Nat),((sf P t)[i]?).map (fun f=>(f.type,f.offset,P.cellsOf f.type))=some (ty,off,k)→∃q pq,q∈parts∧DataW.trod enc P w 0 (fun _=>true) true n ty ((cs.drop off).take k)=some (q,pq):=by
 cases fuel with
 | zero=>cases h
 | succ n=>
   unfold DataW.trod at h
   rw[hu]at h
   simp only at h
   split at h
   case isFalse=>cases h
   rename_i hl
   obtain⟨xs,h1,h2⟩:=map_some h
   simp only[Prod.mk.injEq]at h2
   obtain⟨rfl,rfl⟩:=h2
   refine⟨hl,_,n,rfl,fun i ty off k hf=>?_⟩
   cases hfi:(sf P t)[i]? with
   | none=>rw[hfi]at hf;cases hf
   | some f=>
     rw[hfi]at hf
     simp only[Option.map_some,Option.some.injEq,Prod.mk.injEq]at hf
     obtain⟨rfl,rfl,rfl⟩:=hf
     have h3:=mapM_some_get h1 i f (by rw[Array.getElem?_toList];exact hfi)
     cases hx:xs[i]? with
     | none=>
       have h4:xs.length=(sf P t).size:=by simpa using mapM_some_length h1
       have h5:=List.getElem?_eq_none_iff.1 hx
       have h6:=(Array.getElem?_eq_some_iff.1 hfi).1
       omega
     | some y=>exact⟨y.1,y.2,List.mem_map.2 ⟨y,List.mem_of_getElem? hx,rfl⟩,by rw[h3,hx]⟩
theorem stp{S:Nat→Prop}{w:World}{xs ys:List AV}{cs:List Value}(o k:Nat)(hx:AllV (RelL S w κ0 o0 xs) ((cs.drop o).take k))(hk:xs.length=k)(hy:AllV (RelL S w κ0 o0 ys) (cs.drop (o+k))):AllV (RelL S w κ0 o0 (xs++ys)) (cs.drop o):=by
 obtain⟨h1,h2⟩:=AllV_get _ _ _ _ hx
 obtain⟨h3,h4⟩:=AllV_get _ _ _ _ hy
 have e:cs.drop o=(cs.drop o).take k++cs.drop (o+k):=by
  rw[← List.drop_drop]
  exact(List.take_append_drop k (cs.drop o)).symm
 rw[e]
 refine AllV_of _ _ _ _ (by simp only[List.length_append];omega) fun i x u hi hu=>?_
 rcases Nat.lt_or_ge i xs.length with h|h
 ·rw[List.getElem?_append_left h]at hi
  rw[List.getElem?_append_left (by omega)]at hu
  exact h2 i x u hi hu
 ·rw[List.getElem?_append_right h]at hi
  rw[List.getElem?_append_right (by omega),←h1]at hu
  exact h4 _ x u hi hu
theorem stp_end{S:Nat→Prop}{w:World}{cs:List Value}(o:Nat)(h:cs.length≤o):AllV (RelL S w κ0 o0 []) (cs.drop o):=by
 rw[List.drop_of_length_le h]
 exact⟨rfl,fun i r u hr=>by simp[RelL]at hr⟩
end
end Go.Abs
namespace Go.Abs
open Go.RowKit
def okI(n:Int):Prop := -9223372036854775808≤n∧n≤9223372036854775807
section
variable {P:Program} {t:TypeId}
theorem rd_i64(hu:P.underlying t=some (.int .i64)):Rd P t I fun _ n=>okI n:=rd_int hu
theorem rel_one{S:Nat→Prop}{w:World}{x:AV}{v:Value}(h:AllV (RelL S w κ0 o0 x.cells) v.cells.toList)(hx:x.cells=[x])(hv:v.cells=#[v]):(Rel S w κ0 o0 x).val v:=by
 rw[hx,hv]at h
 exact(AllV_get _ _ _ _ h).2 0 x v rfl rfl
theorem allV_nil{S:Nat→Prop}{w:World}:AllV (RelL S w κ0 o0 []) []:=⟨rfl,fun i r u hr=>by simp[RelL]at hr⟩
theorem resOK_bool{F:Nat→Prop}{w:Base}{w':World}{b:Bool}{v:Value}(h:ResOK F w w' (.bool b) v):v= .bool b:=by
 obtain⟨us,h1,h2,h3,_⟩:=h.parts
 have h1:us=[v]:=h1
 subst h1
 have:=h3 0 (.bool b) v rfl rfl
 simpa[compOK,Rel,one]using this
end
end Go.Abs
namespace Go.Abs
theorem rd_as{P:Program}{t u:TypeId}{α:Type}{f:α→AV}{ok:Nat→α→Prop}(ht:P.underlying t=some (.struct (sf P u)))(hu:P.underlying u=some (.struct (sf P u)))(hc:P.cellsOf t=P.cellsOf u)(h:Rd P u f ok):Rd P t f ok:=by
 intro H enc bulk hB w fuel cs d ps N htr hN
 refine h (enc:=enc) hB (fuel:=fuel) (d:=d) (ps:=ps) ?_ hN
 rw[← htr]
 cases fuel with
 | zero=>rfl
 | succ n=>
   unfold DataW.trod
   rw[hu,ht,hc]
end Go.Abs
