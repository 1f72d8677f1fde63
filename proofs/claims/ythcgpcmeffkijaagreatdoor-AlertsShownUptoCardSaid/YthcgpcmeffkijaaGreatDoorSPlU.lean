import Derived.Test.YthcgpcmeffkijaaGreatDoorSPl
set_option linter.unusedVariables false
set_option linter.unusedSimpArgs false
namespace Go.Abs
theorem iter_inl{σ ρ:Type}{step:σ→Option (σ⊕ρ)}{s s':σ}(h:step s=some (.inl s')):iter step s=iter step s':=by rw[iter_eq,h]
theorem iter_inr{σ ρ:Type}{step:σ→Option (σ⊕ρ)}{s:σ}{r:ρ}(h:step s=some (.inr r)):iter step s=some r:=by rw[iter_eq,h]
theorem iter_upx{Z R σ:Type}{st:Z→Option (Z⊕R)}(enc:σ→Nat→Z)(n:Nat)(Inv:Nat→σ→Prop)(Q:R→Prop)
  (hs:∀i s,i<n→Inv i s→(∃ s',st (enc s i)=some (.inl (enc s' (i+1)))∧Inv (i+1) s')∨∃r,st (enc s i)=some (.inr r)∧Q r)
  (he:∀s,Inv n s→∃r,st (enc s n)=some (.inr r)∧Q r) (i:Nat) (s:σ) (hi:i≤n) (h:Inv i s):∃r,iter st (enc s i)=some r∧Q r:=by
 suffices H:∀k i s,i+k=n→Inv i s→∃r,iter st (enc s i)=some r∧Q r from H (n-i) i s (by omega) h
 intro k
 induction k with
 | zero=>
   intro i s hi h
   have:i=n:=by omega
   subst this
   obtain⟨r,h1,h2⟩:=he s h
   exact⟨r,iter_inr h1,h2⟩
 | succ k ih=>
   intro i s hi h
   rcases hs i s (by omega) h with⟨s',h1,h2⟩|⟨r,h1,h2⟩
   ·obtain⟨r,h3,h4⟩:=ih (i+1) s' (by omega) h2
    exact⟨r,by rw[iter_inl h1];exact h3,h4⟩
   ·exact⟨r,iter_inr h1,h2⟩
theorem iter_up{Z R σ:Type}{st:Z→Option (Z⊕R)}(enc:σ→Nat→Z)(n:Nat)(Inv:Nat→σ→Prop)(Q:R→Prop)
  (hs:∀i s,i<n→Inv i s→∃s',st (enc s i)=some (.inl (enc s' (i+1)))∧Inv (i+1) s')
  (he:∀s,Inv n s→∃r,st (enc s n)=some (.inr r)∧Q r) (s:σ) (h:Inv 0 s):∃r,iter st (enc s 0)=some r∧Q r:=
 iter_upx enc n Inv Q (fun i s hi h=> .inl (hs i s hi h)) he 0 s (Nat.zero_le n) h
def upto{α:Type}(l:List α)(i:Nat)(P:α→Prop):Prop:=∃j x,j<i∧l[j]? = some x∧P x
theorem ltL_true{α:Type}{l:List α}{i:Nat}(h:i<l.length):ltI (i:Int) (lenL l)=true:=by rw[ltI_iff,lenL_eq];simpa using h
theorem ltL_false{α:Type}{l:List α}{i:Nat}(h:l.length≤i):ltI (i:Int) (lenL l)=false:=by rw[ltI_iff,lenL_eq];simpa using h
theorem nextI{i:Nat}(h:i<9223372036854775807):addI .i64 (i:Int) 1=((i+1:Nat):Int):=by rw[addI_eq (by omega) (by omega)];omega
theorem idx_nat{n i:Nat}(h:i<n):idxO n (i:Int)=some i:=by
 unfold idxO
 rw[if_pos (by omega),Int.toNat_natCast,if_pos h]
theorem getN_some{α:Type}{l:List α}{i:Nat}{x:α}(h:l[i]? = some x):getN l i=some x:=h
theorem eqI_self(a:Int):eqI a a=true:=by rw[eqI_iff];simp
theorem appO_big{α:Type}{b:Nat}{l1 l2:List α}(hb:b≤64)(h:l1.length+l2.length≤2000000000000):appO b l1 l2=some (l1++l2):=by
 refine appO_eq ?_ (by omega)
 exact Nat.le_trans (Nat.mul_le_mul h hb) (by decide)
end Go.Abs
