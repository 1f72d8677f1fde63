import Derived.Test.YthcgpcmeffkijaaGreatDoorSAbsL
import Derived.MapKept
set_option linter.unusedVariables false
set_option linter.unusedSimpArgs false
namespace Go.Abs
open Go.RowKit
section
variable {P:Program}
theorem prn_bind{α β:Type}(s:Sem α)(f:α→Sem β):pureRun P (s >>= f)=(pureRun P s).bind fun a=>pureRun P (f a):=by
 induction s with
 | pure b=>rfl
 | program k ih=>exact ih P
 | mark m k ih=>exact ih
 | _=>rfl
theorem prn_underlying{t:TypeId}{d:TypeDesc}(h:P.underlying t=some d):pureRun P (underlying t)=some d:=by
 unfold underlying
 rw[prn_bind]
 show pureRun P (match P.underlying t with|some d=>pure d|none=>stuck "no such type")=_
 rw[h]
 rfl
def Key1(D:TypeDesc)(x:AV):Prop:=(∃ k n,D= .int k∧x= .int k n)∨(∃ s,D= .string∧x= .str s)∨∃b,D= .bool∧x= .bool b
theorem keyOk1_spec{t:TypeId}{x:AV}(h:keyOk1 P t x=true):∃D,P.underlying t=some D∧Key1 D x:=by
 unfold keyOk1 at h
 split at h
 ·rename_i k k' n hu
  simp only[beq_iff_eq]at h
  subst h
  exact⟨_,hu,.inl ⟨k,n,rfl,rfl⟩⟩
 ·rename_i s hu
  exact⟨_,hu,.inr (.inl ⟨s,rfl,rfl⟩)⟩
 ·rename_i b hu
  exact⟨_,hu,.inr (.inr ⟨b,rfl,rfl⟩)⟩
 ·cases h
def KeyD(P:Program)(t:TypeId)(D:TypeDesc)(x:AV):Prop:=Key1 D x∨∃fs cs,D= .struct fs∧x= .agg cs∧P.stoodInHeld t=false∧keyOkL P 0 fs.toList cs=true
theorem keyOk_spec{t:TypeId}{x:AV}(h:keyOk P t x=true):∃D,P.underlying t=some D∧KeyD P t D x:=by
 unfold keyOk at h
 split at h
 ·rename_i k k' n hu
  simp only[beq_iff_eq]at h
  subst h
  exact⟨_,hu,.inl (.inl ⟨k,n,rfl,rfl⟩)⟩
 ·rename_i s hu
  exact⟨_,hu,.inl (.inr (.inl ⟨s,rfl,rfl⟩))⟩
 ·rename_i b hu
  exact⟨_,hu,.inl (.inr (.inr ⟨b,rfl,rfl⟩))⟩
 ·rename_i fs cs hu
  simp only[Bool.and_eq_true,Bool.not_eq_true']at h
  exact⟨_,hu,.inr ⟨fs,cs,rfl,rfl,h.1,h.2⟩⟩
 ·cases h
def Sc(v:Value):Prop:=(∃ k n,v= .int k n)∨(∃ s,v= .string s)∨∃b,v= .bool b
theorem sc_same{v:Value}(h:Sc v)(n:Nat):Instr.sameBits n v v=true:=by
 rcases h with⟨k,m,rfl⟩|⟨s,rfl⟩|⟨b,rfl⟩<;>unfold Instr.sameBits
 ·simp
 ·show(s.data == s.data)=true
  exact beq_self_eq_true _
 ·simp
theorem key1_val{D:TypeDesc}{x:AV}(h:Key1 D x):∃v,toV x=some v∧Sc v∧∀S w κ objs,(Rel S w κ objs x).val v:=by
 rcases h with⟨k,n,rfl,rfl⟩|⟨s,rfl,rfl⟩|⟨b,rfl,rfl⟩
 ·exact⟨_,rfl,.inl ⟨k,n,rfl⟩,fun S w κ objs=>by simp[Rel,one]⟩
 ·exact⟨_,rfl,.inr (.inl ⟨s,rfl⟩),fun S w κ objs=>by simp[Rel,one]⟩
 ·exact⟨_,rfl,.inr (.inr ⟨b,rfl⟩),fun S w κ objs=>by simp[Rel,one]⟩
theorem keyL_vals:∀(i:Nat)(fs:List Field)(cs:List AV),keyOkL P i fs cs=true→∃us,toVs cs=some us∧(∀ u∈us,Sc u)∧us.length=fs.length∧∀S w κ objs,AllV (RelL S w κ objs cs) us
 | _,[],[],_=>⟨[],rfl,by simp,rfl,fun S w κ objs=>by simp[RelL,AllV]⟩
 | _,[],_::_,h=>by simp[keyOkL]at h
 | _,_::_,[],h=>by simp[keyOkL]at h
 | i,f::fs,c::cs,h=>by
   simp only[keyOkL,Bool.and_eq_true]at h
   obtain⟨_,_,h3,h4⟩:=h
   obtain⟨D,_,h5⟩:=keyOk1_spec h3
   obtain⟨v,h6,h7,h8⟩:=key1_val h5
   obtain⟨us,g1,g2,g3,g4⟩:=keyL_vals (i+1) fs cs h4
   refine⟨v::us,by simp only[toVs,h6,g1,Option.bind_some,Option.map_some],fun u hu=>?_,by simp[g3],fun S w κ objs=>?_⟩
   ·rcases List.mem_cons.1 hu with rfl|hu
    ·exact h7
    ·exact g2 u hu
   ·have h9:=g4 S w κ objs
    refine AllV_of _ _ _ _ (by have:=h9.1;simp[RelL_length]at this ⊢;omega) fun j y u hy hu=>?_
    cases j with
    | zero=>cases hy;cases hu;exact h8 S w κ objs
    | succ j=>exact(AllV_get _ _ _ _ h9).2 j y u (by simpa using hy) (by simpa using hu)
theorem key_val{t:TypeId}{D:TypeDesc}{x:AV}(h:KeyD P t D x):∃v,toV x=some v∧(∀ S w κ objs,(Rel S w κ objs x).val v)∧∀n,Instr.sameBits (n+1) v v=true:=by
 rcases h with h|⟨fs,cs,rfl,rfl,_,h⟩
 ·obtain⟨v,h1,h2,h3⟩:=key1_val h
  exact⟨v,h1,h3,fun n=>sc_same h2 _⟩
 ·obtain⟨us,h1,h2,_,h3⟩:=keyL_vals 0 _ _ h
  refine⟨.agg us.toArray,by simp only[toV,h1,Option.map_some],fun S w κ objs=>?_,fun n=>?_⟩
  ·simp only[Rel]
   exact⟨us,rfl,h3 S w κ objs⟩
  ·simp only[Instr.sameBits,beq_self_eq_true,Bool.true_and,List.all_eq_true]
   rintro⟨a,b⟩ hab
   have hz:∀(l:List Value)(p:Value×Value),p∈l.zip l→p.1=p.2∧p.1∈l:=by
    intro l
    induction l with
    | nil=>intro p hp;cases hp
    | cons z l ih=>
      intro p hp
      rw[List.zip_cons_cons]at hp
      rcases List.mem_cons.1 hp with rfl|hp
      ·exact⟨rfl,List.mem_cons_self⟩
      ·exact⟨(ih p hp).1,List.mem_cons_of_mem _ (ih p hp).2⟩
   obtain⟨e,hm⟩:=hz _ _ hab
   simp only at e hm
   subst e
   exact sc_same (h2 a (by simpa using hm)) n
theorem sameK1_spec{x y:AV}{b:Bool}(h:sameK1 x y=some b):∃u v,toV x=some u∧toV y=some v∧Sc u∧Sc v∧(b=true↔u=v)∧∀(t:TypeId)(n:Nat),keyOk1 P t x=true→pureRun P (Op.equalIn (n+1) t u v)=some b:=by
 unfold sameK1 at h
 split at h
 ·rename_i k a k' b'
  split at h
  case isFalse=>cases h
  rename_i e
  subst e
  cases h
  refine⟨_,_,rfl,rfl,.inl ⟨_,_,rfl⟩,.inl ⟨_,_,rfl⟩,by simp,fun t n ht=>?_⟩
  obtain⟨D,hD,hk⟩:=keyOk1_spec ht
  rcases hk with⟨kk,m,rfl,hx⟩|⟨s,rfl,hx⟩|⟨c,rfl,hx⟩<;>cases hx
  unfold Op.equalIn
  rw[prn_bind,prn_underlying hD,Option.bind_some]
  simp only[if_true]
  rfl
 ·rename_i a b'
  cases h
  refine⟨_,_,rfl,rfl,.inr (.inl ⟨_,rfl⟩),.inr (.inl ⟨_,rfl⟩),?_,fun t n ht=>?_⟩
  ·constructor
   ·intro h
    have h1:(a.data == b'.data)=true:=h
    have h2:a=b':=ByteArray.ext (by simpa using h1)
    rw[h2]
   ·intro h
    cases h
    show(a.data == a.data)=true
    exact beq_self_eq_true _
  ·obtain⟨D,hD,hk⟩:=keyOk1_spec ht
   rcases hk with⟨kk,m,rfl,hx⟩|⟨s,rfl,hx⟩|⟨c,rfl,hx⟩<;>cases hx
   unfold Op.equalIn
   rw[prn_bind,prn_underlying hD,Option.bind_some]
   rfl
 ·rename_i a b'
  cases h
  refine⟨_,_,rfl,rfl,.inr (.inr ⟨_,rfl⟩),.inr (.inr ⟨_,rfl⟩),by simp,fun t n ht=>?_⟩
  obtain⟨D,hD,hk⟩:=keyOk1_spec ht
  rcases hk with⟨kk,m,rfl,hx⟩|⟨s,rfl,hx⟩|⟨c,rfl,hx⟩<;>cases hx
  unfold Op.equalIn
  rw[prn_bind,prn_underlying hD,Option.bind_some]
  rfl
 ·cases h
theorem prn_part{t:TypeId}{D:TypeDesc}{x:AV}(hD:P.underlying t=some D)(hk:Key1 D x){us:Array Value}{i:Nat}{u:Value}(hu:us[i]? = some u):pureRun P (part t us i)=some u:=by
 have hA:pureRun P (isAgg t)=some false:=by
  unfold isAgg
  rw[prn_bind,prn_underlying hD,Option.bind_some]
  rcases hk with⟨kk,m,rfl,hx⟩|⟨s,rfl,hx⟩|⟨c,rfl,hx⟩<;>rfl
 unfold part
 rw[prn_bind,hA,Option.bind_some]
 simp only[Bool.false_eq_true,if_false,hu]
 rfl
theorem prn_fields{us vs:Array Value}(n:Nat):∀(i:Nat)(fs:List Field)(xs ys:List AV)(b:Bool),keyOkL P i fs xs=true→sameL xs ys=some b→(∃ us',toVs xs=some us'∧us.toList.drop i=us')→(∃ vs',toVs ys=some vs'∧vs.toList.drop i=vs')→
  pureRun P (forIn fs ((none,()):Option Bool×Unit) fun f __s=>if f.name ≠ "_" then do
            let a ←part f.type us f.offset
            let b ←part f.type vs f.offset
            let c ←Op.equalIn (n+1) f.type a b
            if(!c)=true then pure (ForInStep.done (some false,()))else pure (ForInStep.yield (none,()))
   else pure (ForInStep.yield (none,())))=some (if b then(none,())else(some false,()))
 | i,[],[],[],b,_,h,_,_=>by simp only[sameL,Option.some.injEq]at h;subst h;rfl
 | i,[],[],_::_,b,_,h,_,_=>by simp[sameL]at h
 | i,[],_::_,_,b,h,_,_,_=>by simp[keyOkL]at h
 | i,_::_,[],_,b,h,_,_,_=>by simp[keyOkL]at h
 | i,_::_,_::_,[],b,_,h,_,_=>by simp[sameL]at h
 | i,f::fs,x::xs,y::ys,b,hk,h,⟨us',hu1,hu2⟩,⟨vs',hv1,hv2⟩=>by
   simp only[keyOkL,Bool.and_eq_true,bne_iff_ne,ne_eq,beq_iff_eq]at hk
   obtain⟨k1,k2,k3,k4⟩:=hk
   simp only[sameL]at h
   obtain⟨b1,hb1,h⟩:=bind_some' h
   obtain⟨b2,hb2,h⟩:=map_some h
   subst h
   obtain⟨u,v,e1,e2,_,_,_,e3⟩:=sameK1_spec (P:=P) hb1
   obtain⟨D,hD,hkk⟩:=keyOk1_spec k3
   simp only[toVs,e1,Option.bind_some]at hu1
   obtain⟨us2,hus2,hu1⟩:=map_some hu1
   simp only[toVs,e2,Option.bind_some]at hv1
   obtain⟨vs2,hvs2,hv1⟩:=map_some hv1
   have g1:us[i]? = some u:=by
    rw[← Array.getElem?_toList]
    have:=congrArg (·[0]?) hu2
    rw[← hu1]at this
    simpa using this
   have g2:vs[i]? = some v:=by
    rw[← Array.getElem?_toList]
    have:=congrArg (·[0]?) hv2
    rw[← hv1]at this
    simpa using this
   have d1:us.toList.drop (i+1)=us2:=by
    have:=congrArg (List.drop 1) hu2
    rw[← hu1]at this
    simpa[List.drop_drop]using this
   have d2:vs.toList.drop (i+1)=vs2:=by
    have:=congrArg (List.drop 1) hv2
    rw[← hv1]at this
    simpa[List.drop_drop]using this
   rw[List.forIn_cons,prn_bind,if_pos (by simpa using k1),prn_bind,k2,prn_part hD hkk g1,Option.bind_some,prn_bind,prn_part hD hkk g2,Option.bind_some,prn_bind,e3 f.type n k3,Option.bind_some]
   cases b1 with
   | false=>rfl
   | true=>
     simp only[Bool.not_true,Bool.false_eq_true,if_false]
     exact prn_fields n (i+1) fs xs ys b2 k4 hb2 ⟨us2,hus2,d1⟩ ⟨vs2,hvs2,d2⟩
theorem sameL_vals(P:Program):∀(xs ys:List AV)(b:Bool),sameL xs ys=some b→∃us vs,toVs xs=some us∧toVs ys=some vs∧(b=true↔us=vs)
 | [],[],b,h=>by simp only[sameL,Option.some.injEq]at h;subst h;exact⟨[],[],rfl,rfl,by simp⟩
 | [],_::_,b,h=>by simp[sameL]at h
 | _::_,[],b,h=>by simp[sameL]at h
 | x::xs,y::ys,b,h=>by
   simp only[sameL]at h
   obtain⟨b1,hb1,h⟩:=bind_some' h
   obtain⟨b2,hb2,h⟩:=map_some h
   subst h
   obtain⟨u,v,e1,e2,_,_,e3,_⟩:=sameK1_spec (P:=P) hb1
   obtain⟨us,vs,g1,g2,g3⟩:=sameL_vals P xs ys b2 hb2
   refine⟨u::us,v::vs,by simp only[toVs,e1,g1,Option.bind_some,Option.map_some],by simp only[toVs,e2,g2,Option.bind_some,Option.map_some],?_⟩
   rw[Bool.and_eq_true,e3,g3,List.cons.injEq]
theorem sameK_spec{t:TypeId}{D:TypeDesc}{x y:AV}{b:Bool}(hD:P.underlying t=some D)(hx:KeyD P t D x)(h:sameK x y=some b):∃u v,toV x=some u∧toV y=some v∧(b=true↔u=v)∧
  (Key1 D x→Instr.sameNow D u v=some b)∧((∃ fs cs,D= .struct fs∧x= .agg cs)→pureRun P (Op.equal t u v)=some b):=by
 rcases hx with hx|⟨fs,cs,rfl,rfl,hs,hk⟩
 ·have h1:sameK1 x y=some b:=by
   rcases hx with⟨kk,m,rfl,rfl⟩|⟨s,rfl,rfl⟩|⟨c,rfl,rfl⟩<;>cases y<;>exact h
  obtain⟨u,v,e1,e2,_,_,e3,_⟩:=sameK1_spec (P:=P) h1
  refine⟨u,v,e1,e2,e3,fun _=>?_,fun⟨fs,cs,_,hc⟩=>?_⟩
  ·rcases hx with⟨kk,m,rfl,rfl⟩|⟨s,rfl,rfl⟩|⟨c,rfl,rfl⟩<;>cases y<;>simp only[sameK1]at h1<;>first|(cases h1;done)|skip
   ·simp only[toV,Option.some.injEq]at e1 e2
    subst e1;subst e2
    simpa[Instr.sameNow]using h1
   ·simp only[toV,Option.some.injEq]at e1 e2
    subst e1;subst e2
    simpa[Instr.sameNow]using h1
   ·simp only[toV,Option.some.injEq]at e1 e2
    subst e1;subst e2
    simpa[Instr.sameNow]using h1
  ·rcases hx with⟨kk,m,rfl,rfl⟩|⟨s,rfl,rfl⟩|⟨c,rfl,rfl⟩<;>cases hc
 ·cases y with
  | agg ys=>
    simp only[sameK]at h
    obtain⟨us,vs,g1,g2,g3⟩:=sameL_vals P cs ys b h
    refine⟨.agg us.toArray,.agg vs.toArray,by simp only[toV,g1,Option.map_some],by simp only[toV,g2,Option.map_some],?_,fun hx=>?_,fun _=>?_⟩
    ·rw[g3]
     constructor
     ·rintro rfl;rfl
     ·intro e
      simpa using e
    ·rcases hx with⟨kk,m,e,_⟩|⟨s,e,_⟩|⟨c,e,_⟩<;>cases e
    ·have hf:=prn_fields (P:=P) (us:=us.toArray) (vs:=vs.toArray) 9998 0 fs.toList cs ys b hk h ⟨us,g1,rfl⟩ ⟨vs,g2,rfl⟩
     show pureRun P (Op.equalIn (9999+1) t (.agg us.toArray) (.agg vs.toArray))=some b
     unfold Op.equalIn
     rw[prn_bind,prn_underlying hD,Option.bind_some]
     simp only
     rw[prn_bind]
     have hp:pureRun P program=some P:=rfl
     rw[hp,Option.bind_some,hs]
     simp only[Bool.false_eq_true,if_false]
     rw[prn_bind,←Array.forIn_toList,hf,Option.bind_some]
     cases b<;>rfl
  | _=>simp[sameK]at h
theorem checkKey1{t:TypeId}{D:TypeDesc}(hD:P.underlying t=some D){x:AV}(hx:Key1 D x)(em:Bool)(n:Nat)(v:Value):pureRun P (Instr.checkKey em (n+1) t v)=some ():=by
 unfold Instr.checkKey
 rw[prn_bind,prn_underlying hD,Option.bind_some]
 rcases hx with⟨k,n,rfl,rfl⟩|⟨s,rfl,rfl⟩|⟨b,rfl,rfl⟩<;>rfl
theorem checkKeyL{us:Array Value}(em:Bool)(n:Nat):∀(i:Nat)(fs:List Field)(xs:List AV),keyOkL P i fs xs=true→(∃ us',toVs xs=some us'∧us.toList.drop i=us')→
  pureRun P (forIn fs PUnit.unit fun f (__s:PUnit)=>if f.name ≠ "_" then do
            let a ←part f.type us f.offset
            Instr.checkKey em (n+1) f.type a
            pure (ForInStep.yield PUnit.unit)
   else pure (ForInStep.yield PUnit.unit))=some PUnit.unit
 | i,[],[],_,_=>rfl
 | i,[],_::_,h,_=>by simp[keyOkL]at h
 | i,_::_,[],h,_=>by simp[keyOkL]at h
 | i,f::fs,x::xs,hk,⟨us',hu1,hu2⟩=>by
   simp only[keyOkL,Bool.and_eq_true,bne_iff_ne,ne_eq,beq_iff_eq]at hk
   obtain⟨k1,k2,k3,k4⟩:=hk
   obtain⟨D,hD,hkk⟩:=keyOk1_spec k3
   obtain⟨u,e1,_,_⟩:=key1_val hkk
   simp only[toVs,e1,Option.bind_some]at hu1
   obtain⟨us2,hus2,hu1⟩:=map_some hu1
   have g1:us[i]? = some u:=by
    rw[← Array.getElem?_toList]
    have:=congrArg (·[0]?) hu2
    rw[← hu1]at this
    simpa using this
   have d1:us.toList.drop (i+1)=us2:=by
    have:=congrArg (List.drop 1) hu2
    rw[← hu1]at this
    simpa[List.drop_drop]using this
   rw[List.forIn_cons,prn_bind,if_pos (by simpa using k1),prn_bind,k2,prn_part hD hkk g1,Option.bind_some,prn_bind,checkKey1 hD hkk,Option.bind_some]
   exact checkKeyL em n (i+1) fs xs k4 ⟨us2,hus2,d1⟩
theorem checkKey_run{t:TypeId}{D:TypeDesc}(hD:P.underlying t=some D){x:AV}(hx:KeyD P t D x)(em:Bool){v:Value}(hv:toV x=some v)(w:World):(Instr.checkKey em 10000 t v).run P w= .ok () w:=by
 refine pureRun_sound ?_ w
 rcases hx with hx|⟨fs,cs,rfl,rfl,hs,hk⟩
 ·exact checkKey1 hD hx em 9999 v
 ·simp only[toV]at hv
  obtain⟨us,h1,rfl⟩:=map_some hv
  have hf:=checkKeyL (P:=P) (us:=us.toArray) em 9998 0 fs.toList cs hk ⟨us,h1,rfl⟩
  show pureRun P (Instr.checkKey em (9999+1) t (.agg us.toArray))=some ()
  unfold Instr.checkKey
  rw[prn_bind,prn_underlying hD,Option.bind_some]
  simp only
  rw[← Array.forIn_toList,prn_bind]
  rw[hf]
  rfl
end
end Go.Abs
