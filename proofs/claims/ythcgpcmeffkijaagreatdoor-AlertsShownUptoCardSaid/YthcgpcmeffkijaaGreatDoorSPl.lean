import Derived.Test.YthcgpcmeffkijaaGreatDoorSEv5
import Derived.IntWalk
set_option linter.unusedVariables false
set_option linter.unusedSimpArgs false
namespace Go.Abs
open Go.RowKit
section
variable {a b:Int}
theorem addI_eq(h1 : -9223372036854775808≤a+b)(h2:a+b≤9223372036854775807):addI .i64 a b=a+b:=IntWalk.i64_in _ ⟨h1,h2⟩
theorem subI_eq(h1 : -9223372036854775808≤a-b)(h2:a-b≤9223372036854775807):subI .i64 a b=a-b:=IntWalk.i64_in _ ⟨h1,h2⟩
theorem ltI_iff:ltI a b=decide (a<b):=rfl
theorem leI_iff:leI a b=decide (a≤b):=rfl
theorem eqI_iff:eqI a b=decide (a=b):=by unfold eqI;rw[Bool.eq_iff_iff];simp
theorem neI_iff:neI a b = !decide (a=b):=by unfold neI;rw[Bool.eq_iff_iff];simp
theorem minI_eq:minI a b=min a b:=by unfold minI;omega
end
theorem lenL_eq{α:Type}(l:List α):lenL l=(l.length:Int):=rfl
theorem lenS_eq(s:ByteArray):lenS s=(s.size:Int):=rfl
theorem listAt_nat{α:Type}(l:List α)(i:Nat):listAt l (i:Int)=l[i]? := by
 unfold listAt
 rw[if_pos (by omega)]
 rfl
theorem listAt_some{α:Type}{l:List α}{i:Nat}{x:α}(h:l[i]? = some x):listAt l (i:Int)=some x:=by rw[listAt_nat,h]
abbrev by_(s:ByteArray):List UInt8:=s.data.toList
theorem by_len(s:ByteArray):(by_ s).length=s.size:=by rw[by_,Array.length_toList];rfl
theorem byteAt_nat(s:ByteArray)(i:Nat):byteAt s (i:Int)=(by_ s)[i]?.map fun c=>(c.toNat:Int):=by
 unfold byteAt
 by_cases h:i<s.size
 ·have h2:(0:Int)≤(i:Int)∧(i:Int).toNat<s.size:=⟨by omega,by omega⟩
  rw[dif_pos h2]
  have h3:i<(by_ s).length:=by rw[by_len];exact h
  rw[List.getElem?_eq_getElem h3]
  rfl
 ·have h2:¬((0:Int)≤(i:Int)∧(i:Int).toNat<s.size):=by omega
  rw[dif_neg h2,List.getElem?_eq_none (by rw[by_len];omega)]
  rfl
theorem byteAt_some{s:ByteArray}{i:Nat}{c:UInt8}(h:(by_ s)[i]? = some c):byteAt s (i:Int)=some (c.toNat:Int):=by rw[byteAt_nat,h];rfl
theorem toList_eq(s:ByteArray):s.toList=by_ s:=by
 have loop:∀(n i:Nat)(r:List UInt8),i+n=s.size→ByteArray.toList.loop s i r=r.reverse++(by_ s).drop i:=by
  intro n
  induction n with
  | zero=>
    intro i r h
    unfold ByteArray.toList.loop
    rw[if_neg (by omega),List.drop_of_length_le (by rw[by_len];omega)]
    simp
  | succ n ih=>
    intro i r h
    unfold ByteArray.toList.loop
    rw[if_pos (by omega),ih (i+1) _ (by omega)]
    have h3:i<(by_ s).length:=by rw[by_len];omega
    rw[List.drop_eq_getElem_cons h3]
    have:s.get! i=(by_ s)[i]:=by
     show s.data[i]! = _
     rw[getElem!_pos s.data i (by rw[by_len]at h3;exact h3)]
     rfl
    simp[this]
 have:=loop s.size 0 [] (by omega)
 simpa[ByteArray.toList]using this
theorem by_inj{a b:ByteArray}(h:by_ a=by_ b):a=b:=by
 cases a with
 | mk x=>
   cases b with
   | mk y=>
     congr 1
     exact Array.toList_inj.1 h
theorem eqS_iff(a b:ByteArray):eqS a b=decide (a=b):=by
 unfold eqS
 rw[toList_eq,toList_eq,Bool.eq_iff_iff]
 simp only[beq_iff_eq,decide_eq_true_eq]
 exact⟨by_inj,fun h=>by rw[h]⟩
theorem ltS_eq(a b:ByteArray):ltS a b=Op.bytesLess (by_ a) (by_ b):=by unfold ltS;rw[toList_eq,toList_eq]
theorem by_extract(s:ByteArray)(a b:Nat):by_ (s.extract a b)=((by_ s).take b).drop a:=by
 unfold by_
 rw[ByteArray.data_extract,Array.toList_extract]
 simp[List.extract,List.drop_take]
theorem iter_stop{Z R:Type}{st:Z→Option (Z⊕R)}{s:Z}{r:R}(h:st s=some (.inr r)):iter st s=some r:=by rw[iter_eq,h]
theorem iter_next{Z R:Type}{st:Z→Option (Z⊕R)}{s s':Z}(h:st s=some (.inl s')):iter st s=iter st s':=by rw[iter_eq,h]
def wp{α σ ρ:Type}(f:Nat→σ→α→σ⊕ρ):Nat→σ→List α→σ⊕ρ
 | _,s,[]=> .inl s
 | i,s,a::l=>match f i s a with
   | .inl s'=>wp f (i+1) s' l
   | .inr r=> .inr r
theorem iter_wp{Z R σ ρ α:Type}{st:Z→Option (Z⊕R)}(enc:σ→Nat→Z)(E:σ→R)(X:ρ→R)(l:List α)(f:Nat→σ→α→σ⊕ρ)(Inv:Nat→σ→Prop)
  (hstep:∀i s x,l[i]? = some x→Inv i s→st (enc s i)=some (match f i s x with | .inl s'=> .inl (enc s' (i+1)) | .inr r=> .inr (X r))∧∀s',f i s x= .inl s'→Inv (i+1) s')
  (hend:∀s,Inv l.length s→st (enc s l.length)=some (.inr (E s))) (s:σ) (h0:Inv 0 s):iter st (enc s 0)=some (Sum.elim E X (wp f 0 s l)):=by
 have key:∀(m:List α)(i:Nat)(s:σ),m=l.drop i→i≤l.length→Inv i s→iter st (enc s i)=some (Sum.elim E X (wp f i s m)):=by
  intro m
  induction m with
  | nil=>
    intro i s hm hi hI
    have:i=l.length:=by
     have:=congrArg List.length hm
     simp at this
     omega
    subst this
    rw[iter_stop (hend s hI)]
    rfl
  | cons a m ih=>
    intro i s hm hi hI
    have hlt:i<l.length:=by
     rcases Nat.lt_or_ge i l.length with h|h
     ·exact h
     ·rw[List.drop_of_length_le h]at hm;cases hm
    have ha:l[i]? = some a:=by
     have:(l.drop i)[0]? = some a:=by rw[← hm];rfl
     simpa using this
    have hm':m=l.drop (i+1):=by
     rw[List.drop_eq_getElem_cons hlt]at hm
     exact(List.cons.inj hm).2
    obtain⟨h1,h2⟩:=hstep i s a ha hI
    cases hf:f i s a with
    | inl s'=>
      rw[hf]at h1
      rw[iter_next h1,ih (i+1) s' hm' (by omega) (h2 s' hf)]
      simp only[wp,hf]
    | inr r=>
      rw[hf]at h1
      rw[iter_stop h1]
      simp only[wp,hf]
      rfl
 exact key l 0 s (by simp) (Nat.zero_le _) h0
theorem iter_wpS{Z R σ ρ:Type}{st:Z→Option (Z⊕R)}(enc:σ→Nat→Z)(E:σ→R)(X:ρ→R)(b:ByteArray)(f:Nat→σ→UInt8→σ⊕ρ)(Inv:Nat→σ→Prop)
  (hstep:∀i s x,(by_ b)[i]? = some x→Inv i s→st (enc s i)=some (match f i s x with | .inl s'=> .inl (enc s' (i+1)) | .inr r=> .inr (X r))∧∀s',f i s x= .inl s'→Inv (i+1) s')
  (hend:∀s,Inv b.size s→st (enc s b.size)=some (.inr (E s))) (s:σ) (h0:Inv 0 s):iter st (enc s 0)=some (Sum.elim E X (wp f 0 s (by_ b))):=
 iter_wp enc E X (by_ b) f Inv hstep (by rw[by_len];exact hend) s h0
theorem wp_all{α:Type}(p:Nat→α→Bool)(i:Nat)(l:List α):(wp (fun i (_:Unit) x=>bif p i x then(.inl ():Unit⊕Unit)else .inr ()) i () l)=bif (l.zipIdx i).all (fun q=>p q.2 q.1)then .inl ()else .inr ():=by
 induction l generalizing i with
 | nil=>rfl
 | cons a l ih=>
   simp only[wp,List.zipIdx_cons,List.all_cons]
   cases p i a with
   | true=>simpa using ih (i+1)
   | false=>rfl
theorem wp_all'{α:Type}(p:α→Bool)(i:Nat)(l:List α):(wp (fun _ (_:Unit) x=>bif p x then(.inl ():Unit⊕Unit)else .inr ()) i () l)=bif l.all p then .inl ()else .inr ():=by
 induction l generalizing i with
 | nil=>rfl
 | cons a l ih=>
   simp only[wp,List.all_cons]
   cases p a with
   | true=>simpa using ih (i+1)
   | false=>rfl
theorem elim_cond{α β γ:Type}(c:Bool)(f:α→γ)(g:β→γ)(a:α)(b:β):Sum.elim f g (bif c then(.inl a:α⊕β)else .inr b)=bif c then f a else g b:=by cases c<;>rfl
theorem iter_meas{Z R:Type}{st:Z→Option (Z⊕R)}(Inv:Z→Prop)(m:Z→Nat)(Q:R→Prop)(h:∀s,Inv s→(∃ s',st s=some (.inl s')∧Inv s'∧m s'<m s)∨∃r,st s=some (.inr r)∧Q r):∀s,Inv s→∃r,iter st s=some r∧Q r:=by
 have key:∀n s,m s≤n→Inv s→∃r,iter st s=some r∧Q r:=by
  intro n
  induction n with
  | zero=>
    intro s hm hI
    rcases h s hI with⟨s',_,_,h3⟩|⟨r,h1,h2⟩
    ·omega
    ·exact⟨r,iter_stop h1,h2⟩
  | succ n ih=>
    intro s hm hI
    rcases h s hI with⟨s',h1,h2,h3⟩|⟨r,h1,h2⟩
    ·obtain⟨r,h4,h5⟩:=ih s' (by omega) h2
     exact⟨r,(iter_next h1).trans h4,h5⟩
    ·exact⟨r,iter_stop h1,h2⟩
 exact fun s hI=>key (m s) s (Nat.le_refl _) hI
theorem bl_irrefl:∀a:List UInt8,Op.bytesLess a a=false
 | []=>rfl
 | a::l=>by simp[Op.bytesLess,bl_irrefl l]
theorem bl_trans:∀a b c:List UInt8,Op.bytesLess a b=true→Op.bytesLess b c=true→Op.bytesLess a c=true
 | _,_,[],_,h=>by cases ‹List UInt8› <;> simp[Op.bytesLess]at h
 | _,[],_::_,h,_=>by cases ‹List UInt8› <;> simp[Op.bytesLess]at h
 | [],_::_,_::_,_,_=>rfl
 | a::x,b::y,c::z,h1,h2=>by
   simp only[Op.bytesLess,Bool.or_eq_true,decide_eq_true_eq,Bool.and_eq_true,beq_iff_eq]at h1 h2 ⊢
   rcases h1 with h1|⟨rfl,h1⟩
   ·rcases h2 with h2|⟨rfl,h2⟩
    ·exact .inl (UInt8.lt_trans h1 h2)
    ·exact .inl h1
   ·rcases h2 with h2|⟨rfl,h2⟩
    ·exact .inl h2
    ·exact .inr ⟨rfl,bl_trans x y z h1 h2⟩
theorem bl_total:∀a b:List UInt8,Op.bytesLess a b=true∨a=b∨Op.bytesLess b a=true
 | [],[]=> .inr (.inl rfl)
 | [],_::_=> .inl rfl
 | _::_,[]=> .inr (.inr rfl)
 | a::x,b::y=>by
   simp only[Op.bytesLess,Bool.or_eq_true,decide_eq_true_eq,Bool.and_eq_true,beq_iff_eq,List.cons.injEq]
   have ht:a<b∨a=b∨b<a:=by
    rcases Nat.lt_trichotomy a.toNat b.toNat with h|h|h
    ·exact .inl (UInt8.lt_iff_toNat_lt.2 h)
    ·exact .inr (.inl (UInt8.toNat_inj.1 h))
    ·exact .inr (.inr (UInt8.lt_iff_toNat_lt.2 h))
   rcases ht with h|h|h
   ·exact .inl (.inl h)
   ·subst h
    rcases bl_total x y with h|h|h
    ·exact .inl (.inr ⟨rfl,h⟩)
    ·exact .inr (.inl ⟨rfl,h⟩)
    ·exact .inr (.inr (.inr ⟨rfl,h⟩))
   ·exact .inr (.inr (.inl h))
theorem ltS_irrefl(a:ByteArray):ltS a a=false:=by rw[ltS_eq,bl_irrefl]
theorem ltS_trans{a b c:ByteArray}(h1:ltS a b=true)(h2:ltS b c=true):ltS a c=true:=by rw[ltS_eq]at *;exact bl_trans _ _ _ h1 h2
theorem ltS_total(a b:ByteArray):ltS a b=true∨a=b∨ltS b a=true:=by
 rw[ltS_eq,ltS_eq]
 rcases bl_total (by_ a) (by_ b)with h|h|h
 ·exact .inl h
 ·exact .inr (.inl (by_inj h))
 ·exact .inr (.inr h)
theorem eqS_self(a:ByteArray):eqS a a=true:=by rw[eqS_iff];simp
def leS(a b:ByteArray):Bool:=ltS a b||eqS a b
theorem appO_eq{α:Type}{b:Nat}{l1 l2:List α}(h:(l1.length+l2.length)*b≤140737488355328)(h2:l1.length+l2.length≤9223372036854775807):appO b l1 l2=some (l1++l2):=by
 unfold appO
 rw[if_pos ⟨by unfold maxLen;omega,h⟩]
end Go.Abs
