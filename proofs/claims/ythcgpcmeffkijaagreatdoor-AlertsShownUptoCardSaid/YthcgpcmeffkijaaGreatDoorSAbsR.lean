import Derived.Test.YthcgpcmeffkijaaGreatDoorSAbsQ
set_option linter.unusedVariables false
set_option linter.unusedSimpArgs false
namespace Go.Abs
open Go.RowKit
section
variable {F:Nat→Prop} {w0:Base} {κ:Nat→Value} {σ:Env} {a:Act} {w:World}
theorem wantedA_sound(h:St F w0 κ σ a w){ops:Array Oper}{o:Oper}{b:Bool}(hw:wantedA ops σ.slots o=some b):Region.wanted o (yielded ops a.tmps)=b:=by
 unfold wantedA at hw
 unfold Region.wanted
 cases hg:o.guard with
 | none=>rw[hg]at hw;simpa using hw
 | some jw=>
   obtain⟨j,want⟩:=jw
   rw[hg]at hw
   simp only at hw ⊢
   unfold yielded
   cases hd:(ops[j]?).bind (·.dst)with
   | none=>rw[hd]at hw;simp at hw
   | some t=>
     rw[hd]at hw
     simp only at hw
     have ht:=h.slots t
     generalize σ.slots t=X at hw ht
     cases X with
     | bool c=>
       simp only[Option.some.injEq]at hw
       simp only[Rel,one]at ht
       have:a.tmps[t]? = some (.bool c):=by
        rw[Array.getD_eq_getD_getElem?]at ht
        cases hx:a.tmps[t]? with
        | none=>rw[hx]at ht;cases ht
        | some v=>rw[hx]at ht;simp at ht;rw[ht]
       simp only[Option.bind_some,this]
       subst hw
       cases c<;>cases want<;>rfl
     | und=>
       simp only[Option.some.injEq]at hw
       simp only[Rel,one]at ht
       rw[Array.getD_eq_getD_getElem?]at ht
       subst hw
       cases hx:a.tmps[t]? with
       | none=>simp[hx]
       | some v=>rw[hx]at ht;simp at ht;simp[hx,ht,undef]
     | _=>simp at hw
theorem step_sound(h:St F w0 κ σ a w){P:Program}{C:Callee}(hC:CallAt P C w0){ops:Array Oper}{o:Oper}{σ':Env}(hs:stepA P C ops σ o=some σ'){K:Act→World→Prop}{Q:Exit→Act→World→Prop}
  (hK:∀κ' a' w',St F w0 κ' σ' a' w'→K a' w'):if Region.wanted o (yielded ops a.tmps)then o.wp P a w K Q else K (a.put o.dst undef) w:=by
 unfold stepA at hs
 split at hs
 case isFalse=>cases hs
 rename_i hd
 obtain⟨b,hw,hs⟩:=bind_some' hs
 rw[wantedA_sound h hw]
 cases b with
 | false=>
   simp only[Option.some.injEq]at hs
   subst hs
   simp only[Bool.false_eq_true,if_false]
   have:=h.value (x:= .und) (v:=undef) hd (by simp[Rel,one])
   have e1:σ.eff o.dst { val:= .und }=σ.put o.dst .und:=by simp[Env.eff,freeze,Env.objsL]
   rw[e1]at this
   exact hK _ _ _ this
 | true=>
   simp only at hs
   simp only[if_true]
   cases he:effOf P C σ.slots σ.objs (o.dst.getD 0) o.type o.op with
   | some e=>
     rw[he]at hs
     simp only at hs
     split at hs
     case isFalse=>cases hs
     rename_i hn
     simp only[Option.some.injEq]at hs
     subst hs
     refine eff_sound h hC he hd (fun p hp=>?_) hK
     have:=List.all_eq_true.1 hn p hp
     simpa using this
   | none=>
     rw[he]at hs
     exact mod_sound h hC hs hd hK
theorem ops_sound{P:Program}{C:Callee}(hC:CallAt P C w0){ops:Array Oper}{Q:Exit→Act→World→Prop}:∀(l:List Oper){κ:Nat→Value}{σ τ:Env}{a:Act}{w:World},St F w0 κ σ a w→opsA P C ops l σ=some τ→
  (∀ κ' a' w',St F w0 κ' τ a' w'→Q .normal a' w')→wpList P ops Q l a w
 | [],κ,σ,τ,a,w,h,hs,hQ=>by
   simp only[opsA,Option.some.injEq]at hs
   subst hs
   exact hQ _ _ _ h
 | o::l,κ,σ,τ,a,w,h,hs,hQ=>by
   simp only[opsA]at hs
   obtain⟨σ',h1,h2⟩:=bind_some' hs
   refine wpList_step fun K hK=>?_
   exact step_sound h hC h1 fun κ' a' w' h'=>hK _ _ (ops_sound hC l h' h2 hQ)
end
end Go.Abs
