import Derived.Test.YtpnddbpcioepnaaGreatDoorDEv5
import Derived.IntWalk
set_option linter.unusedVariables false
set_option linter.unusedSimpArgs false
namespace Go.Abs
open Go.RowKit
section
variable {a b:Int}
theorem addI_eq(h1 : -9223372036854775808≤a+b)(h2:a+b≤9223372036854775807):addI .i64 a b=a+b:=IntWalk.i64_in _ ⟨h1,h2⟩
theorem subI_eq(h1 : -9223372036854775808≤a-b)(h2:a-b≤9223372036854775807):subI .i64 a b=a-b:=IntWalk.i64_in _ ⟨h1,h2⟩
theorem mulI_eq(h1 : -9223372036854775808≤a*b)(h2:a*b≤9223372036854775807):mulI .i64 a b=a*b:=IntWalk.i64_in _ ⟨h1,h2⟩
theorem ltI_iff:ltI a b=decide (a<b):=rfl
theorem eqI_iff:eqI a b=decide (a=b):=by unfold eqI;rw[Bool.eq_iff_iff];simp
theorem neI_iff:neI a b = !decide (a=b):=by unfold neI;rw[Bool.eq_iff_iff];simp
theorem minI_eq:minI a b=min a b:=by unfold minI;omega
end
theorem lenL_eq{α:Type}(l:List α):lenL l=(l.length:Int):=rfl
theorem listAt_nat{α:Type}(l:List α)(i:Nat):listAt l (i:Int)=l[i]? := by
 unfold listAt
 rw[if_pos (by omega)]
 rfl
theorem listAt_some{α:Type}{l:List α}{i:Nat}{x:α}(h:l[i]? = some x):listAt l (i:Int)=some x:=by rw[listAt_nat,h]
abbrev by_(s:ByteArray):List UInt8:=s.data.toList
theorem by_len(s:ByteArray):(by_ s).length=s.size:=by rw[by_,Array.length_toList];rfl
theorem toList_eq(s:ByteArray):s.toList=by_ s:=by
 have loop:∀(n i:Nat)(r:List UInt8),i+n=s.size→ByteArray.toList.loop s i r=r.reverse++(by_ s).drop i:=by
  intro n
  induction n with
  | zero=>
    intro i r h
    unfold ByteArray.toList.loop
    rw[if_neg (by omega),List.drop_of_length_le (by rw[by_len];omega)]
    simp
  | succ n ih=>
    intro i r h
    unfold ByteArray.toList.loop
    rw[if_pos (by omega),ih (i+1) _ (by omega)]
    have h3:i<(by_ s).length:=by rw[by_len];omega
    rw[List.drop_eq_getElem_cons h3]
    have:s.get! i=(by_ s)[i]:=by
     show s.data[i]! = _
     rw[getElem!_pos s.data i (by rw[by_len]at h3;exact h3)]
     rfl
    simp[this]
 have:=loop s.size 0 [] (by omega)
 simpa[ByteArray.toList]using this
theorem by_inj{a b:ByteArray}(h:by_ a=by_ b):a=b:=by
 cases a with
 | mk x=>
   cases b with
   | mk y=>
     congr 1
     exact Array.toList_inj.1 h
theorem eqS_iff(a b:ByteArray):eqS a b=decide (a=b):=by
 unfold eqS
 rw[toList_eq,toList_eq,Bool.eq_iff_iff]
 simp only[beq_iff_eq,decide_eq_true_eq]
 exact⟨by_inj,fun h=>by rw[h]⟩
theorem ltS_eq(a b:ByteArray):ltS a b=Op.bytesLess (by_ a) (by_ b):=by unfold ltS;rw[toList_eq,toList_eq]
def wp{α σ ρ:Type}(f:Nat→σ→α→σ⊕ρ):Nat→σ→List α→σ⊕ρ
 | _,s,[]=> .inl s
 | i,s,a::l=>match f i s a with
   | .inl s'=>wp f (i+1) s' l
   | .inr r=> .inr r
theorem bl_irrefl:∀a:List UInt8,Op.bytesLess a a=false
 | []=>rfl
 | a::l=>by simp[Op.bytesLess,bl_irrefl l]
theorem bl_trans:∀a b c:List UInt8,Op.bytesLess a b=true→Op.bytesLess b c=true→Op.bytesLess a c=true
 | _,_,[],_,h=>by cases ‹List UInt8› <;> simp[Op.bytesLess]at h
 | _,[],_::_,h,_=>by cases ‹List UInt8› <;> simp[Op.bytesLess]at h
 | [],_::_,_::_,_,_=>rfl
 | a::x,b::y,c::z,h1,h2=>by
   simp only[Op.bytesLess,Bool.or_eq_true,decide_eq_true_eq,Bool.and_eq_true,beq_iff_eq]at h1 h2 ⊢
   rcases h1 with h1|⟨rfl,h1⟩
   ·rcases h2 with h2|⟨rfl,h2⟩
    ·exact .inl (UInt8.lt_trans h1 h2)
    ·exact .inl h1
   ·rcases h2 with h2|⟨rfl,h2⟩
    ·exact .inl h2
    ·exact .inr ⟨rfl,bl_trans x y z h1 h2⟩
theorem bl_total:∀a b:List UInt8,Op.bytesLess a b=true∨a=b∨Op.bytesLess b a=true
 | [],[]=> .inr (.inl rfl)
 | [],_::_=> .inl rfl
 | _::_,[]=> .inr (.inr rfl)
 | a::x,b::y=>by
   simp only[Op.bytesLess,Bool.or_eq_true,decide_eq_true_eq,Bool.and_eq_true,beq_iff_eq,List.cons.injEq]
   have ht:a<b∨a=b∨b<a:=by
    rcases Nat.lt_trichotomy a.toNat b.toNat with h|h|h
    ·exact .inl (UInt8.lt_iff_toNat_lt.2 h)
    ·exact .inr (.inl (UInt8.toNat_inj.1 h))
    ·exact .inr (.inr (UInt8.lt_iff_toNat_lt.2 h))
   rcases ht with h|h|h
   ·exact .inl (.inl h)
   ·subst h
    rcases bl_total x y with h|h|h
    ·exact .inl (.inr ⟨rfl,h⟩)
    ·exact .inr (.inl ⟨rfl,h⟩)
    ·exact .inr (.inr (.inr ⟨rfl,h⟩))
   ·exact .inr (.inr (.inl h))
theorem ltS_irrefl(a:ByteArray):ltS a a=false:=by rw[ltS_eq,bl_irrefl]
theorem ltS_trans{a b c:ByteArray}(h1:ltS a b=true)(h2:ltS b c=true):ltS a c=true:=by rw[ltS_eq]at *;exact bl_trans _ _ _ h1 h2
theorem ltS_total(a b:ByteArray):ltS a b=true∨a=b∨ltS b a=true:=by
 rw[ltS_eq,ltS_eq]
 rcases bl_total (by_ a) (by_ b)with h|h|h
 ·exact .inl h
 ·exact .inr (.inl (by_inj h))
 ·exact .inr (.inr h)
theorem eqS_self(a:ByteArray):eqS a a=true:=by rw[eqS_iff];simp
def leS(a b:ByteArray):Bool:=ltS a b||eqS a b
theorem leS_false{a b:ByteArray}:leS a b=false↔ltS b a=true:=by
 unfold leS
 constructor
 ·intro h
  rw[Bool.or_eq_false_iff,eqS_iff]at h
  rcases ltS_total a b with h1|h1|h1
  ·rw[h.1]at h1;cases h1
  ·have:=h.2;simp[h1]at this
  ·exact h1
 ·intro h
  rw[Bool.or_eq_false_iff,eqS_iff]
  constructor
  ·cases h1:ltS a b with
   | false=>rfl
   | true=>have:=ltS_trans h h1;rw[ltS_irrefl]at this;cases this
  ·simp only[decide_eq_false_iff_not]
   intro e
   rw[e,ltS_irrefl]at h
   cases h
theorem appO_eq{α:Type}{b:Nat}{l1 l2:List α}(h:(l1.length+l2.length)*b≤140737488355328)(h2:l1.length+l2.length≤9223372036854775807):appO b l1 l2=some (l1++l2):=by
 unfold appO
 rw[if_pos ⟨by unfold maxLen;omega,h⟩]
end Go.Abs
