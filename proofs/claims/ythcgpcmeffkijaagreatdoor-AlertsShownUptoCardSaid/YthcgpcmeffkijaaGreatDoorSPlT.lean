import Derived.Test.YthcgpcmeffkijaaGreatDoorSPlU
import Derived.Test.YthcgpcmeffkijaaGreatDoorSPlL
set_option linter.unusedVariables false
set_option linter.unusedSimpArgs false
namespace Go.Abs
theorem ltI_t{a b:Int}(h:a<b):ltI a b=true:=by unfold ltI;exact decide_eq_true h
theorem ltI_f{a b:Int}(h:b≤a):ltI a b=false:=by unfold ltI;exact decide_eq_false (by omega)
theorem leI_t{a b:Int}(h:a≤b):leI a b=true:=by unfold leI;exact decide_eq_true h
theorem neI_no(a:Int):neI a a=false:=by rw[neI_iff];simp
theorem neI_t{a b:Int}(h:a≠b):neI a b=true:=by rw[neI_iff];simpa using h
theorem neI_f{a b:Int}(h:a=b):neI a b=false:=by rw[neI_iff];simpa using h
theorem eqI_t{a b:Int}(h:a=b):eqI a b=true:=by rw[eqI_iff];simpa using h
theorem eqI_f{a b:Int}(h:a≠b):eqI a b=false:=by rw[eqI_iff];simpa using h
theorem bs{α β:Type}{x:Option α}{a:α}{f:α→Option β}{b:Option β}(h:x=some a)(h2:f a=b):x.bind f=b:=by rw[h];exact h2
theorem cf{α:Type}{c:Bool}{x y b:α}(h:c=false)(h2:y=b):(bif c then x else y)=b:=by rw[h];exact h2
theorem ct{α:Type}{c:Bool}{x y b:α}(h:c=true)(h2:x=b):(bif c then x else y)=b:=by rw[h];exact h2
theorem si{α β γ:Type}{f:α→γ}{g:β→γ}{a:α}{b:γ}(h:f a=b):Sum.elim f g (.inl a)=b:=h
theorem prevI{i:Nat}(h0:0<i)(h:i<9223372036854775807):subI .i64 (i:Int) 1=((i-1:Nat):Int):=by rw[subI_eq (by omega) (by omega)];omega
theorem take_next{α:Type}{l:List α}{i:Nat}{x:α}(h:l[i]? = some x):l.take (i+1)=l.take i++[x]:=by
 rw[List.take_add_one,h];rfl
theorem any_iter{α:Type}{st:Int→Option (Int⊕((Int×Bool)⊕Int))}{l:List α}(p:α→Bool)(hl:l.length≤1048576)(hs:∀(i:Nat) x,l[i]? = some x→st (i:Int)=some (bif p x then .inr (.inr (i:Int))else .inl ((i+1:Nat):Int)))
  (he:st (l.length:Int)=some (.inr (.inl ((l.length:Int),false)))):∃v,((iter st 0).bind fun y=>Sum.elim (fun _=>some (-1)) (fun b=>some b) y)=some v∧leI 0 v=l.any p:=by
 have hstep:∀(i:Nat)(s:Unit),i<l.length→(∀ j x,j<i→l[j]? = some x→p x=false)→(∃ s':Unit,st (i:Int)=some (.inl ((i+1:Nat):Int))∧∀j x,j<i+1→l[j]? = some x→p x=false)∨∃r,st (i:Int)=some (.inr r)∧((∃ y,r= .inl y∧l.any p=false)∨∃k:Nat,r= .inr (k:Int)∧l.any p=true):=by
  intro i _ hi hI
  have hx:=List.getElem?_eq_getElem hi
  have h1:=hs i _ hx
  cases hp:p l[i]with
  | true=>
    rw[hp]at h1
    exact .inr ⟨_,h1,.inr ⟨i,rfl,List.any_eq_true.2 ⟨_,List.getElem_mem hi,hp⟩⟩⟩
  | false=>
    rw[hp]at h1
    refine .inl ⟨(),h1,fun j x hj hjx=>?_⟩
    by_cases hji:j=i
    ·subst hji
     rw[hx]at hjx
     cases hjx
     exact hp
    ·exact hI j x (by omega) hjx
 obtain⟨r,h1,h2⟩:=iter_upx (st:=st) (fun(_:Unit) i=>(i:Int)) l.length (fun i _=>∀j x,j<i→l[j]? = some x→p x=false) (fun r=>(∃ y,r= .inl y∧l.any p=false)∨∃k:Nat,r= .inr (k:Int)∧l.any p=true) hstep
  (fun _ hI=>⟨_,he,.inl ⟨_,rfl,List.any_eq_false.2 fun x hx=>by
   obtain⟨j,hj⟩:=List.getElem?_of_mem hx
   rw[hI j x (List.getElem?_eq_some_iff.1 hj).1 hj]
   decide⟩⟩) 0 () (Nat.zero_le _) (fun j x hj=>by omega)
 have h1:iter st 0=some r:=h1
 rcases h2 with⟨y,rfl,h3⟩|⟨k,rfl,h3⟩
 ·exact⟨-1,by rw[h1];rfl,by rw[h3];rfl⟩
 ·exact⟨k,by rw[h1];rfl,by rw[h3];exact leI_t (by omega)⟩
end Go.Abs
