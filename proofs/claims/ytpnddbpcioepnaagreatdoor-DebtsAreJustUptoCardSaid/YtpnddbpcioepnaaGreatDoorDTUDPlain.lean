import Derived.Test.YtpnddbpcioepnaaGreatDoorDTUDR
import Derived.Test.YtpnddbpcioepnaaGreatDoorDPlL
import Derived.Test.YtpnddbpcioepnaaGreatDoorDPlS
import Derived.Test.YtpnddbpcioepnaaGreatDoorDPlU
import Derived.Test.YtpnddbpcioepnaaGreatDoorDPlT
import Derived.Test.YtpnddbpcioepnaaGreatDoorDPlV
set_option linter.unusedVariables false
set_option linter.unusedSimpArgs false
set_option maxRecDepth 10000
namespace Go.Abs.TUD.R
open Go.RowKit Go.Proofs Go.Abs
def B(a:S173):Prop := -100000≤a.f0∧a.f0<a.f1∧a.f1≤100000
def Can(l:List S173):Prop:=(∀ a∈l,B a)∧l.Pairwise fun a b=>a.f1<b.f0
def inn(l:List S173)(x:Int):Prop:=∃a,a∈l∧a.f0≤x∧x<a.f1
theorem inn_nil(x:Int):¬inn [] x:=fun⟨_,h,_⟩=>by simp at h
theorem inn_cons(a:S173)(l:List S173)(x:Int):inn (a::l) x↔(a.f0≤x∧x<a.f1)∨inn l x:=by
 unfold inn
 constructor
 ·rintro⟨b,h,h2⟩
  rcases List.mem_cons.1 h with e|e
  ·subst e;exact .inl h2
  ·exact .inr ⟨b,e,h2⟩
 ·rintro(h|⟨b,e,h2⟩)
  ·exact⟨a,by simp,h⟩
  ·exact⟨b,by simp[e],h2⟩
theorem inn_app(l:List S173)(a:S173)(x:Int):inn (l++[a]) x↔inn l x∨(a.f0≤x∧x<a.f1):=by
 unfold inn
 constructor
 ·rintro⟨b,h,h2⟩
  rcases List.mem_append.1 h with e|e
  ·exact .inl ⟨b,e,h2⟩
  ·rw[List.mem_singleton]at e
   subst e;exact .inr h2
 ·rintro(⟨b,e,h2⟩|h)
  ·exact⟨b,by simp[e],h2⟩
  ·exact⟨a,by simp,h⟩
theorem can_nil:Can []:=⟨by simp,.nil⟩
theorem can_cons{a:S173}{l:List S173}:Can (a::l)↔B a∧Can l∧∀b∈l,a.f1<b.f0:=by
 unfold Can
 rw[List.pairwise_cons,List.forall_mem_cons]
 constructor
 ·rintro⟨⟨h1,h2⟩,h3,h4⟩
  exact⟨h1,⟨h2,h4⟩,h3⟩
 ·rintro⟨h1,⟨h2,h4⟩,h3⟩
  exact⟨⟨h1,h2⟩,h3,h4⟩
theorem can_app{a:S173}{l:List S173}:Can (l++[a])↔B a∧Can l∧∀b∈l,b.f1<a.f0:=by
 unfold Can
 rw[List.pairwise_append]
 constructor
 ·rintro⟨h1,h2,h3,h4⟩
  exact⟨h1 a (by simp),⟨fun b hb=>h1 b (by simp[hb]),h2⟩,fun b hb=>h4 b hb a (by simp)⟩
 ·rintro⟨h1,⟨h2,h4⟩,h3⟩
  refine⟨fun b hb=>?_,h4,by simp,fun b hb c hc=>?_⟩
  ·rcases List.mem_append.1 hb with e|e
   ·exact h2 b e
   ·rw[List.mem_singleton]at e
    subst e;exact h1
  ·rw[List.mem_singleton]at hc
   subst hc;exact h3 b hb
theorem can_len_lo(l:List S173)(lo:Int)(h:Can l)(hlo:∀a∈l,lo≤a.f0)(hb:lo≤100000):(l.length:Int)≤100000-lo:=by
 induction l generalizing lo with
 | nil=>simp;omega
 | cons a l ih=>
   obtain⟨h1,h2,h3⟩:=can_cons.1 h
   unfold B at h1
   have:=ih a.f1 h2 (fun b hb=>by have:=h3 b hb;omega) (by omega)
   have h4:=hlo a (by simp)
   rw[List.length_cons]
   omega
theorem can_len{l:List S173}(h:Can l):l.length≤200000:=by
 have:=can_len_lo l (-100000) h (fun a ha=>(h.1 a ha).1) (by omega)
 omega
def W(r:S64):Prop := -100000≤r.f0 ∧ -100000≤r.f1∧1≤r.f2∧r.f0+r.f2≤100000∧1≤r.f3∧r.f1+r.f3≤100000
def has(r:S64)(x y:Int):Prop:=r.f0≤x∧x<r.f0+r.f2∧r.f1≤y∧y<r.f1+r.f3
def hasL(p:List S64)(x y:Int):Prop:=∃r,r∈p∧has r x y
structure Cut(m:List S173)(x1:S173)(P:Int→Prop)(i:Nat)(s:List S173)(fr:Int):Prop where
 can:Can s
 lt:∀a∈s,a.f1<fr
 hi:∀a∈s,a.f1≤x1.f1
 lo:x1.f0≤fr
 past:∀k b,k<i→m[k]? = some b→b.f1≤fr
 pts:∀x,inn s x↔P x∨(x1.f0≤x∧x<fr∧x<x1.f1∧¬inn m x)
end Go.Abs.TUD.R
set_option linter.unusedVariables false
set_option linter.unusedSimpArgs false
set_option maxRecDepth 10000
namespace Go.Abs.TUD.R
open Go.RowKit Go.Proofs Go.Abs
noncomputable def G9(h:Int→Int→Option Bool)(z0:((List Int)×(List Int)×(List S64)×(List S64)×Int))(z1:((List Int)×(List Int)×(List S64)×(List S64)×(List S64)×Int)):Option (((List Int)×(List Int)×(List S64)×(List S64)×(List S64)×Int)⊕(Int×Bool×(List Int)×(List Int)×(List S64)×(List S64)×(List S64))):=(bif (ltI (addI .i64 z1.2.2.2.2.2 1) (lenL z1.1))then((idxO (List.length z1.1) z1.2.2.2.2.2).bind fun x3=>((getN z1.1 x3).bind fun x4=>((idxO (List.length z1.2.1) z0.2.2.2.2).bind fun x5=>((getN z1.2.1 x5).bind fun x6=>((h x4 x6).bind fun x7=>(bif (!x7)then(some (.inl (z1.1,z1.2.1,z1.2.2.1,z1.2.2.2.1,z1.2.2.2.2.1,(addI .i64 z1.2.2.2.2.2 1))))else(bif (leI 0 (subI .i64 (lenL z1.2.2.2.2.1) 1))then((idxO (List.length z1.2.2.2.2.1) (subI .i64 (lenL z1.2.2.2.2.1) 1)).bind fun x8=>((getN z1.2.2.2.2.1 x8).bind fun x9=>((idxO (List.length z1.2.2.2.2.1) (subI .i64 (lenL z1.2.2.2.2.1) 1)).bind fun x10=>((getN z1.2.2.2.2.1 x10).bind fun x11=>((idxO (List.length z1.1) z1.2.2.2.2.2).bind fun x12=>((getN z1.1 x12).bind fun x13=>(bif (eqI (addI .i64 x9.f0 x11.f2) x13)then((idxO (List.length z1.1) (addI .i64 z1.2.2.2.2.2 1)).bind fun x14=>((getN z1.1 x14).bind fun x15=>((idxO (List.length z1.2.2.2.2.1) (subI .i64 (lenL z1.2.2.2.2.1) 1)).bind fun x16=>((getN z1.2.2.2.2.1 x16).bind fun x17=>((idxO (List.length z1.2.2.2.2.1) (subI .i64 (lenL z1.2.2.2.2.1) 1)).bind fun x18=>((getN z1.2.2.2.2.1 x18).bind fun x19=>(some (.inl (z1.1,z1.2.1,z1.2.2.1,z1.2.2.2.1,(List.set z1.2.2.2.2.1 x18 (S64.mk x19.f0 x19.f1 (subI .i64 x15 x17.f0) x19.f3)),(addI .i64 z1.2.2.2.2.2 1))))))))))else((idxO (List.length z1.1) z1.2.2.2.2.2).bind fun x20=>((getN z1.1 x20).bind fun x21=>((idxO (List.length z1.2.1) z0.2.2.2.2).bind fun x22=>((getN z1.2.1 x22).bind fun x23=>((idxO (List.length z1.1) (addI .i64 z1.2.2.2.2.2 1)).bind fun x24=>((getN z1.1 x24).bind fun x25=>((idxO (List.length z1.1) z1.2.2.2.2.2).bind fun x26=>((getN z1.1 x26).bind fun x27=>((idxO (List.length z1.2.1) (addI .i64 z0.2.2.2.2 1)).bind fun x28=>((getN z1.2.1 x28).bind fun x29=>((idxO (List.length z1.2.1) z0.2.2.2.2).bind fun x30=>((getN z1.2.1 x30).bind fun x31=>((appO 32 z1.2.2.2.2.1 ([(S64.mk x21 x23 (subI .i64 x25 x27) (subI .i64 x29 x31))]:List S64)).bind fun x32=>(some (.inl (z1.1,z1.2.1,z1.2.2.1,z1.2.2.2.1,x32,(addI .i64 z1.2.2.2.2.2 1))))))))))))))))))))))))else((idxO (List.length z1.1) z1.2.2.2.2.2).bind fun x33=>((getN z1.1 x33).bind fun x34=>((idxO (List.length z1.2.1) z0.2.2.2.2).bind fun x35=>((getN z1.2.1 x35).bind fun x36=>((idxO (List.length z1.1) (addI .i64 z1.2.2.2.2.2 1)).bind fun x37=>((getN z1.1 x37).bind fun x38=>((idxO (List.length z1.1) z1.2.2.2.2.2).bind fun x39=>((getN z1.1 x39).bind fun x40=>((idxO (List.length z1.2.1) (addI .i64 z0.2.2.2.2 1)).bind fun x41=>((getN z1.2.1 x41).bind fun x42=>((idxO (List.length z1.2.1) z0.2.2.2.2).bind fun x43=>((getN z1.2.1 x43).bind fun x44=>((appO 32 z1.2.2.2.2.1 ([(S64.mk x34 x36 (subI .i64 x38 x40) (subI .i64 x42 x44))]:List S64)).bind fun x45=>(some (.inl (z1.1,z1.2.1,z1.2.2.1,z1.2.2.2.1,x45,(addI .i64 z1.2.2.2.2.2 1))))))))))))))))))))))))else(some (.inr (z1.2.2.2.2.2,(ltI (addI .i64 z1.2.2.2.2.2 1) (lenL z1.1)),z1.1,z1.2.1,z1.2.2.1,z1.2.2.2.1,z1.2.2.2.2.1))))
noncomputable def G19(h:Int→Int→Option Bool)(z0:((List Int)×(List Int)×(List S64)×(List S64)×Int))(y46:(Int×Bool×(List Int)×(List Int)×(List S64)×(List S64)×(List S64)))(z2:((List Int)×(List Int)×(List S64)×(List S64)×(List S64)×Int)):Option (((List Int)×(List Int)×(List S64)×(List S64)×(List S64)×Int)⊕(Int×Bool×(List Int)×(List Int)×(List S64)×(List S64)×(List S64))):=(bif (ltI z2.2.2.2.2.2 (lenL y46.2.2.2.2.2.1))then((idxO (List.length z2.2.2.2.1) z2.2.2.2.2.2).bind fun x48=>((getN z2.2.2.2.1 x48).bind fun x49=>((idxO (List.length z2.2.2.2.2.1) z2.2.2.2.2.2).bind fun x50=>((getN z2.2.2.2.2.1 x50).bind fun x51=>((idxO (List.length z2.2.2.2.1) z2.2.2.2.2.2).bind fun x52=>((getN z2.2.2.2.1 x52).bind fun x53=>(some (.inl (z2.1,z2.2.1,z2.2.2.1,(List.set z2.2.2.2.1 x52 (S64.mk x53.f0 x53.f1 x53.f2 (addI .i64 x49.f3 x51.f3))),z2.2.2.2.2.1,(addI .i64 z2.2.2.2.2.2 1))))))))))else(some (.inr (z2.2.2.2.2.2,(ltI z2.2.2.2.2.2 (lenL y46.2.2.2.2.2.1)),z2.1,z2.2.1,z2.2.2.1,z2.2.2.2.1,z2.2.2.2.2.1))))
def eX(p:List S64):List Int:=p.flatMap fun r=>[r.f0,addI .i64 r.f0 r.f2]
def eY(p:List S64):List Int:=p.flatMap fun r=>[r.f1,addI .i64 r.f1 r.f3]
theorem take_next{α:Type}{l:List α}{i:Nat}{x:α}(h:l[i]? = some x):l.take (i+1)=l.take i++[x]:=by
 rw[List.take_add_one,h];rfl
theorem next_to{xs:List Int}(hs:xs.Pairwise (· < ·)){j:Nat}{a b v:Int}(ha:xs[j]? = some a)(hb:xs[j+1]? = some b)(hv:v∈xs):v≤a∨b≤v:=by
 obtain⟨k,hk,rfl⟩:=List.getElem_of_mem hv
 obtain⟨h1,rfl⟩:=List.getElem?_eq_some_iff.1 ha
 obtain⟨h2,rfl⟩:=List.getElem?_eq_some_iff.1 hb
 have hp:=List.pairwise_iff_getElem.1 hs
 rcases Nat.lt_trichotomy k j with h|h|h
 ·have:=hp k j hk h1 h
  omega
 ·subst h;exact .inl (Int.le_refl _)
 ·by_cases e:k=j+1
  ·subst e;exact .inr (Int.le_refl _)
  ·have:=hp (j+1) k h2 hk (by omega)
   omega
theorem between:∀(xs:List Int),xs.Pairwise (· < ·)→∀x u v:Int,u∈xs→u≤x→v∈xs→x<v→∃j a b,xs[j]? = some a∧xs[j+1]? = some b∧a≤x∧x<b:=by
 intro xs
 induction xs with
 | nil=>intro _ x u v hu;simp at hu
 | cons c t ih=>
   intro hs x u v hu hux hv hxv
   obtain⟨hc,ht⟩:=List.pairwise_cons.1 hs
   cases t with
   | nil=>simp at hu hv;omega
   | cons d t=>
     by_cases hx:x<d
     ·refine⟨0,c,d,rfl,rfl,?_,hx⟩
      rcases List.mem_cons.1 hu with e|e
      ·omega
      ·have:=hc u e;omega
     ·have hcd:=hc d (by simp)
      have hv':v∈d::t:=by
       rcases List.mem_cons.1 hv with e|e
       ·omega
       ·exact e
      obtain⟨j,a,b,h1,h2,h3⟩:=ih ht x d v (by simp) (by omega) hv' hxv
      exact⟨j+1,a,b,h1,h2,h3⟩
def cell(y h:Int)(a:S173):S64:=⟨a.f0,y,a.f1-a.f0,h⟩
def pts(xs:List Int)(H:Int→Prop)(i:Nat)(x:Int):Prop:=∃j a b,j<i∧xs[j]? = some a∧xs[j+1]? = some b∧a≤x∧x<b∧H a
theorem pts_succ{xs:List Int}(H:Int→Prop){i:Nat}{a b:Int}(ha:xs[i]? = some a)(hb:xs[i+1]? = some b)(x:Int):pts xs H (i+1) x↔pts xs H i x∨(a≤x∧x<b∧H a):=by
 constructor
 ·rintro⟨j,c,d,h1,h2,h3,h4⟩
  by_cases e:j=i
  ·subst e
   rw[ha]at h2
   rw[hb]at h3
   cases h2;cases h3
   exact .inr h4
  ·exact .inl ⟨j,c,d,by omega,h2,h3,h4⟩
 ·rintro(⟨j,c,d,h1,h2,h3,h4⟩|h4)
  ·exact⟨j,c,d,by omega,h2,h3,h4⟩
  ·exact⟨i,a,b,by omega,ha,hb,h4⟩
theorem row_ok(h:Int→Int→Option Bool)(xs ys:List Int)(out last:List S64)(k:Nat)(y y':Int)(hy:ys[k]? = some y)(hy':ys[k+1]? = some y')(by1 : -100000≤y∧y≤100000)(by2 : -100000≤y'∧y'≤100000)
  (hxs:xs.Pairwise (· < ·)) (hB:∀x∈xs,-100000≤x∧x≤100000) (hlx:xs.length≤10000000) (hly:ys.length≤10000000) (H:Int→Prop) (hh:∀x∈xs,∃b,h x y=some b∧(b=true↔H x)) :
  ∃r rr,iter (G9 h (xs,ys,out,last,(k:Int))) (xs,ys,out,last,[],0)=some r∧r.2.2=(xs,ys,out,last,rr.map (cell y (y'-y)))∧Can rr∧∀x,inn rr x↔∃j a b,xs[j]? = some a∧xs[j+1]? = some b∧a≤x∧x<b∧H a:=by
 suffices HH:∃r,iter (G9 h (xs,ys,out,last,(k:Int))) (xs,ys,out,last,[],0)=some r∧∃rr,r.2.2=(xs,ys,out,last,rr.map (cell y (y'-y)))∧Can rr∧∀x,inn rr x↔∃j a b,xs[j]? = some a∧xs[j+1]? = some b∧a≤x∧x<b∧H a by
  obtain⟨r,h1,rr,h2⟩:=HH
  exact⟨r,rr,h1,h2⟩
 have hk:=(List.getElem?_eq_some_iff.1 hy).1
 have hk':=(List.getElem?_eq_some_iff.1 hy').1
 refine iter_up (st:=G9 h (xs,ys,out,last,(k:Int))) (fun(rr:List S173) i=>(xs,ys,out,last,rr.map (cell y (y'-y)),(i:Int))) (xs.length-1) (fun i rr=>Can rr∧(∀ a∈rr,∀x,xs[i]? = some x→a.f1≤x)∧∀x,inn rr x↔pts xs H i x)
  (fun r=>∃rr,r.2.2=(xs,ys,out,last,rr.map (cell y (y'-y)))∧Can rr∧∀x,inn rr x↔∃j a b,xs[j]? = some a∧xs[j+1]? = some b∧a≤x∧x<b∧H a) ?_ ?_ [] ⟨can_nil,by simp,fun x=>⟨fun h=>absurd h (inn_nil x),fun⟨j,_,_,h,_⟩=>absurd h (Nat.not_lt_zero j)⟩⟩
 ·intro i rr hi ⟨h1,h2,h3⟩
  have hi0:i<xs.length:=by omega
  have hi1:i+1<xs.length:=by omega
  obtain⟨a,ha⟩:∃a,xs[i]? = some a:=⟨_,List.getElem?_eq_getElem hi0⟩
  obtain⟨b,hb⟩:∃a,xs[i+1]? = some a:=⟨_,List.getElem?_eq_getElem hi1⟩
  have hab:a<b:=by
   have:=List.pairwise_iff_getElem.1 hxs i (i+1) hi0 hi1 (by omega)
   rw[(List.getElem?_eq_some_iff.1 ha).2,(List.getElem?_eq_some_iff.1 hb).2]at this
   exact this
  have ba:=hB a (List.mem_of_getElem? ha)
  have bb:=hB b (List.mem_of_getElem? hb)
  obtain⟨c,hc,hcH⟩:=hh a (List.mem_of_getElem? ha)
  have hlen:=can_len h1
  simp only[G9,nextI (show i<9223372036854775807 by omega),nextI (show k<9223372036854775807 by omega),ltL_true hi1,idx_nat hi0,idx_nat hi1,getN_some ha,getN_some hb,idx_nat hk,idx_nat hk',getN_some hy,getN_some hy',cond_true,Option.bind_some,hc,subI_eq (a:=b) (b:=a) (by omega) (by omega),subI_eq (a:=y') (b:=y) (by omega) (by omega)]
  cases c with
  | false=>
    have hnH:¬H a:=fun hH=>by simpa using hcH.2 hH
    simp only[Bool.not_false,cond_true]
    refine⟨rr,rfl,h1,fun q hq x hx=>?_,fun x=>?_⟩
    ·rw[hb]at hx
     cases hx
     have:=h2 q hq a ha
     omega
    ·rw[h3,pts_succ H ha hb]
     exact⟨.inl,fun h=>h.resolve_right fun h=>hnH h.2.2⟩
  | true=>
    have hH:H a:=hcH.1 rfl
    simp only[Bool.not_true,cond_false]
    rcases List.eq_nil_or_concat rr with e|⟨q,g,e⟩
    ·subst e
     rw[List.map_nil,show leI 0 (subI .i64 (lenL ([]:List S64)) 1)=false from rfl]
     simp only[cond_false]
     rw[appO_big (by omega) (by simp)]
     refine⟨[⟨a,b⟩],rfl,can_app (l:=[]).2 ⟨⟨ba.1,hab,bb.2⟩,can_nil,by simp⟩,?_,fun x=>?_⟩
     ·intro q hq x hx
      rw[List.mem_singleton]at hq
      subst hq
      rw[hb]at hx
      cases hx
      exact Int.le_refl _
     ·rw[pts_succ H ha hb,←h3,inn_cons]
      constructor
      ·rintro(h|h)
       ·exact .inr ⟨h.1,h.2,hH⟩
       ·exact .inl h
      ·rintro(h|h)
       ·exact .inr h
       ·exact .inl ⟨h.1,h.2.1⟩
    ·subst e
     simp only[List.concat_eq_append]at *
     obtain⟨hg1,hq,hqg⟩:=can_app.1 h1
     have hqlen:(q.map (cell y (y'-y))).length<200000:=by simp only[List.length_append,List.length_cons,List.length_nil,List.length_map]at *;omega
     have hga:=h2 g (by simp) a ha
     have hgB:=hg1
     unfold B at hgB
     simp only[List.map_append,List.map_cons,List.map_nil]
     have hlast:=last_len (q.map (cell y (y'-y))) (cell y (y'-y) g) (by omega)
     simp only[hlast,idx_nat (show(q.map (cell y (y'-y))).length<(q.map (cell y (y'-y))++[cell y (y'-y) g]).length by simp),last_at,Option.bind_some,last_set]
     rw[show leI 0 ((q.map (cell y (y'-y))).length:Int)=true from decide_eq_true (by omega)]
     have hend:addI .i64 (cell y (y'-y) g).f0 (cell y (y'-y) g).f2=g.f1:=by
      show addI .i64 g.f0 (g.f1-g.f0)=g.f1
      rw[addI_eq (by omega) (by omega)]
      omega
     have hw:subI .i64 b (cell y (y'-y) g).f0=b-g.f0:=by
      show subI .i64 b g.f0=b-g.f0
      rw[subI_eq (by omega) (by omega)]
     simp only[cond_true,hend,hw]
     by_cases ce:g.f1=a
     ·rw[show eqI g.f1 a=true by rw[eqI_iff];exact decide_eq_true ce]
      simp only[cond_true]
      refine⟨q++[⟨g.f0,b⟩],?_,can_app.2 ⟨⟨by simp only;omega,by simp only;omega,bb.2⟩,hq,hqg⟩,?_,fun x=>?_⟩
      ·simp only[List.map_append,List.map_cons,List.map_nil]
       rfl
      ·intro z hz x hx
       rw[hb]at hx
       cases hx
       rcases List.mem_append.1 hz with e|e
       ·have:=h2 z (by simp[e]) a ha
        omega
       ·rw[List.mem_singleton]at e
        subst e
        exact Int.le_refl _
      ·have h4:=h3 x
       rw[inn_app]at h4
       rw[inn_app,pts_succ H ha hb,←h4]
       simp only
       constructor
       ·rintro(h|h)
        ·exact .inl (.inl h)
        ·by_cases hx:x<g.f1
         ·exact .inl (.inr ⟨h.1,hx⟩)
         ·exact .inr ⟨by omega,h.2,hH⟩
       ·rintro((h|h)|h)
        ·exact .inl h
        ·exact .inr ⟨h.1,by omega⟩
        ·exact .inr ⟨by omega,h.2.1⟩
     ·rw[show eqI g.f1 a=false by rw[eqI_iff];exact decide_eq_false ce]
      simp only[cond_false]
      rw[appO_big (by omega) (by simp only[List.length_append,List.length_cons,List.length_nil];omega)]
      refine⟨(q++[g])++[⟨a,b⟩],?_,can_app.2 ⟨⟨ba.1,hab,bb.2⟩,h1,?_⟩,?_,fun x=>?_⟩
      ·simp only[List.map_append,List.map_cons,List.map_nil]
       rfl
      ·intro z hz
       rcases List.mem_append.1 hz with e|e
       ·have:=hqg z e
        simp only
        omega
       ·rw[List.mem_singleton]at e
        subst e
        simp only
        omega
      ·intro z hz x hx
       rw[hb]at hx
       cases hx
       rcases List.mem_append.1 hz with e|e
       ·have:=h2 z e a ha
        omega
       ·rw[List.mem_singleton]at e
        subst e
        exact Int.le_refl _
      ·rw[inn_app,pts_succ H ha hb,←h3]
       constructor
       ·rintro(h|h)
        ·exact .inl h
        ·exact .inr ⟨h.1,h.2,hH⟩
       ·rintro(h|h)
        ·exact .inl h
        ·exact .inr ⟨h.1,h.2.1⟩
 ·intro rr ⟨h1,h2,h3⟩
  have hlt:ltI ((xs.length-1+1:Nat):Int) (lenL xs)=false:=ltL_false (by omega)
  simp only[G9,nextI (show xs.length-1<9223372036854775807 by omega),hlt,cond_false]
  refine⟨_,rfl,rr,rfl,h1,fun x=>(h3 x).trans ⟨?_,?_⟩⟩
  ·rintro⟨j,a,b,h,h4⟩
   exact⟨j,a,b,h4⟩
  ·rintro⟨j,a,b,h4,h5,h6⟩
   have:=(List.getElem?_eq_some_iff.1 h5).1
   exact⟨j,a,b,by omega,h4,h5,h6⟩
end Go.Abs.TUD.R
set_option linter.unusedVariables false
set_option linter.unusedSimpArgs false
set_option maxRecDepth 10000
namespace Go.Abs.TUD.R
open Go.RowKit Go.Proofs Go.Abs
noncomputable def rowAt(p q:List S64)(y:Int):List S173:=((T124 p y).bind fun a=>(T124 q y).bind fun b=>T123 a b).getD []
attribute [local irreducible] rowAt
open Classical in
noncomputable def St(R:Int→List S173)(ys:List Int):Nat→List S64×List S173×Int
 | 0=>([],[],0)
 | k+1=>if(St R ys k).2.1=R (ys.getD k 0)then St R ys k else((St R ys k).1++(St R ys k).2.1.map (cell (St R ys k).2.2 (ys.getD k 0-(St R ys k).2.2)),R (ys.getD k 0),ys.getD k 0)
noncomputable def Fin(R:Int→List S173)(ys:List Int):List S64:=
 (St R ys (ys.length-1)).1++(St R ys (ys.length-1)).2.1.map (cell (St R ys (ys.length-1)).2.2 (ys.getD (ys.length-1) 0-(St R ys (ys.length-1)).2.2))
theorem St_same{R:Int→List S173}{ys:List Int}{k:Nat}{y:Int}(hy:ys[k]? = some y)(h:(St R ys k).2.1=R y):St R ys (k+1)=St R ys k:=by
 rw[St]
 rw[List.getD_eq_getElem?_getD,hy,Option.getD_some,if_pos h]
theorem St_new{R:Int→List S173}{ys:List Int}{k:Nat}{y:Int}(hy:ys[k]? = some y)(h:¬(St R ys k).2.1=R y):St R ys (k+1)=((St R ys k).1++(St R ys k).2.1.map (cell (St R ys k).2.2 (y-(St R ys k).2.2)),R y,y):=by
 rw[St]
 rw[List.getD_eq_getElem?_getD,hy,Option.getD_some,if_neg h]
theorem St_ok(R:Int→List S173)(ys:List Int)(hR:∀y,Can (R y))(hys:∀y∈ys,-100000≤y∧y≤100000):∀k,k≤ys.length→(St R ys k).1.length≤k*200000∧Can (St R ys k).2.1 ∧ -100000≤(St R ys k).2.2∧(St R ys k).2.2≤100000:=by
 intro k
 induction k with
 | zero=>intro _;exact⟨by simp[St],can_nil,by simp[St],by simp[St]⟩
 | succ k ih=>
   intro hk
   obtain⟨h1,h2,h3,h4⟩:=ih (by omega)
   obtain⟨y,hy⟩:∃r,ys[k]? = some r:=⟨_,List.getElem?_eq_getElem (by omega)⟩
   have hb:=hys y (List.mem_of_getElem? hy)
   by_cases c:(St R ys k).2.1=R y
   ·rw[St_same hy c]
    exact⟨Nat.le_trans h1 (Nat.mul_le_mul_right _ (Nat.le_succ k)),h2,h3,h4⟩
   ·rw[St_new hy c]
    have hl:=can_len h2
    refine⟨?_,hR y,hb.1,hb.2⟩
    simp only[List.length_append,List.length_map]
    rw[Nat.succ_mul]
    omega
end Go.Abs.TUD.R
set_option linter.unusedVariables false
set_option linter.unusedSimpArgs false
set_option maxRecDepth 10000
namespace Go.Abs.TUD.R
open Go.RowKit Go.Proofs Go.Abs
open Classical in
noncomputable def stp(R:Int→List S173)(s:List S64×List S173×Int)(y:Int):List S64×List S173×Int:=
 if s.2.1=R y then s else(s.1++s.2.1.map (cell s.2.2 (y-s.2.2)),R y,y)
def edgesY(p:List S64):List Int:=Lib.compact (sortI (eY p))
def edgesX(p:List S64):List Int:=Lib.compact (sortI (eX p))
end Go.Abs.TUD.R
set_option linter.unusedVariables false
set_option linter.unusedSimpArgs false
set_option maxRecDepth 10000
namespace Go.Abs.TUD.R
open Go.RowKit Go.Proofs Go.Abs
open Classical in
noncomputable def cnt1(P:Int→Prop):Nat:=(List.range 200001).countP fun i:Nat=>decide (P ((i:Int)-100000))
noncomputable def cnt(P:Int→Int→Prop):Nat:=((List.range 200001).map fun j:Nat=>cnt1 fun x=>P x ((j:Int)-100000)).sum
open Classical in
def disj(r s:S64):Prop:=∀x y,¬(has r x y∧has s x y)
def areaL(l:List S64):Int:=(l.map fun r=>r.f2*r.f3).sum
theorem hasL_app(l m:List S64)(x y:Int):hasL (l++m) x y↔hasL l x y∨hasL m x y:=by
 unfold hasL
 constructor
 ·rintro⟨s,hs,h⟩
  rcases List.mem_append.1 hs with e|e
  ·exact .inl ⟨s,e,h⟩
  ·exact .inr ⟨s,e,h⟩
 ·rintro(⟨s,hs,h⟩|⟨s,hs,h⟩)
  ·exact⟨s,by simp[hs],h⟩
  ·exact⟨s,by simp[hs],h⟩
theorem hasL_cells(c:List S173)(f h x v:Int):hasL (c.map (cell f h)) x v↔inn c x∧f≤v∧v<f+h:=by
 unfold hasL inn
 constructor
 ·rintro⟨r,hr,h1⟩
  obtain⟨a,ha,rfl⟩:=List.mem_map.1 hr
  unfold has cell at h1
  simp only at h1
  exact⟨⟨a,ha,by omega⟩,by omega⟩
 ·rintro⟨⟨a,ha,h1⟩,h2⟩
  refine⟨cell f h a,List.mem_map.2 ⟨a,ha,rfl⟩,?_⟩
  unfold has cell
  simp only
  omega
theorem cells_disj{c:List S173}(hc:Can c)(f h:Int):(c.map (cell f h)).Pairwise disj:=by
 rw[List.pairwise_map]
 refine hc.2.imp fun{a b} hab=>?_
 rintro x y ⟨h1,h2⟩
 unfold has cell at h1 h2
 simp only at h1 h2
 omega
structure Passed(R:Int→List S173)(ys:List Int)(k:Nat)(y:Int)(S:List S64×List S173×Int):Prop where
 from_lt:(S.2.1=[]∧S.1=[])∨(-100000≤S.2.2∧S.2.2<y)
 ends:∀r∈S.1,r.f1+r.f3≤S.2.2
 wf:∀r∈S.1,W r
 apart:S.1.Pairwise disj
 pix:∀x v,v<y→(hasL (S.1++S.2.1.map (cell S.2.2 (y-S.2.2))) x v↔inn (R v) x)
theorem passed_all{R:Int→List S173}{ys:List Int}{k:Nat}{y:Int}{S:List S64×List S173×Int}(h:Passed R ys k y S)(hc:Can S.2.1)(hy:y≤100000) :
  (∀ r∈S.1++S.2.1.map (cell S.2.2 (y-S.2.2)),W r∧r.f1+r.f3≤y)∧(S.1++S.2.1.map (cell S.2.2 (y-S.2.2))).Pairwise disj:=by
 have hcell:∀a∈S.2.1,W (cell S.2.2 (y-S.2.2) a)∧(cell S.2.2 (y-S.2.2) a).f1+(cell S.2.2 (y-S.2.2) a).f3≤y:=by
  intro a ha
  have hB:=hc.1 a ha
  unfold B at hB
  rcases h.from_lt with⟨h1,_⟩|h1
  ·rw[h1]at ha;simp at ha
  ·unfold W cell
   simp only
   omega
 constructor
 ·intro r hr
  rcases List.mem_append.1 hr with e|e
  ·refine⟨h.wf r e,?_⟩
   have h1:=h.ends r e
   rcases h.from_lt with⟨_,h2⟩|h2
   ·rw[h2]at e;simp at e
   ·omega
  ·obtain⟨a,ha,rfl⟩:=List.mem_map.1 e
   exact hcell a ha
 ·refine List.pairwise_append.2 ⟨h.apart,cells_disj hc _ _,fun r hr s hs=>?_⟩
  obtain⟨a,ha,rfl⟩:=List.mem_map.1 hs
  have h1:=h.ends r hr
  rintro x v ⟨h2,h3⟩
  simp only[has,cell]at h2 h3
  omega
theorem passed(R:Int→List S173)(ys:List Int)(hR:∀y,Can (R y))(hord:ys.Pairwise (· < ·))(hys:∀y∈ys,-100000≤y∧y≤100000)(hK:∀a b,a≤b→(∀ e∈ys,¬(a<e∧e≤b))→R a=R b)(hlo:∀y,(∀ e∈ys,y<e)→R y=[]) :
  ∀k y,ys[k]? = some y→Passed R ys k y (St R ys k):=by
 intro k
 induction k with
 | zero=>
   intro y hy
   refine⟨.inl ⟨rfl,rfl⟩,by simp[St],by simp[St],by simp[St],fun x v hv=>?_⟩
   have:R v=[]:=hlo v fun e he=>by
    obtain⟨j,hj⟩:=List.getElem?_of_mem he
    by_cases e0:j=0
    ·subst e0;rw[hy]at hj;cases hj;exact hv
    ·have:=List.pairwise_iff_getElem.1 hord 0 j (List.getElem?_eq_some_iff.1 hy).1 (List.getElem?_eq_some_iff.1 hj).1 (by omega)
     rw[(List.getElem?_eq_some_iff.1 hy).2,(List.getElem?_eq_some_iff.1 hj).2]at this
     omega
   rw[this]
   simp only[St,List.map_nil,List.append_nil]
   exact⟨fun⟨r,hr,_⟩=>by simp at hr,fun h=>absurd h (inn_nil x)⟩
 | succ k ih=>
   intro y' hy'
   have hlt:=(List.getElem?_eq_some_iff.1 hy').1
   obtain⟨y,hy⟩:∃r,ys[k]? = some r:=⟨_,List.getElem?_eq_getElem (by omega)⟩
   have P:=ih y hy
   have hyy:y<y':=by
    have:=List.pairwise_iff_getElem.1 hord k (k+1) (by omega) hlt (by omega)
    rw[(List.getElem?_eq_some_iff.1 hy).2,(List.getElem?_eq_some_iff.1 hy').2]at this
    exact this
   have hb:=hys y (List.mem_of_getElem? hy)
   obtain⟨_,hcan,_⟩:=St_ok R ys hR hys k (by omega)
   obtain⟨A1,A2⟩:=passed_all P hcan hb.2
   have hconst:∀v,y≤v→v<y'→R y=R v:=fun v h1 h2=>hK y v h1 fun e he hh=>by
    rcases next_to hord hy hy' he with h|h<;>omega
   have hnone:∀x v,y≤v→¬hasL ((St R ys k).1++(St R ys k).2.1.map (cell (St R ys k).2.2 (y-(St R ys k).2.2))) x v:=by
    rintro x v hv ⟨r,hr,hh⟩
    have:=(A1 r hr).2
    unfold has at hh
    omega
   by_cases c:(St R ys k).2.1=R y
   ·rw[St_same hy c]
    refine⟨?_,P.ends,P.wf,P.apart,fun x v hv=>?_⟩
    ·rcases P.from_lt with h|h
     ·exact .inl h
     ·exact .inr (by omega)
    ·rw[hasL_app,hasL_cells]
     have h0:=P.pix x v
     rw[hasL_app,hasL_cells]at h0
     have hends:∀v,(St R ys k).2.2≤v→¬hasL (St R ys k).1 x v:=by
      rintro v hv ⟨r,hr,hh⟩
      have:=P.ends r hr
      unfold has at hh
      omega
     by_cases hvy:v<y
     ·rw[← h0 hvy]
      constructor
      ·rintro(h|h)
       ·exact .inl h
       ·exact .inr ⟨h.1,h.2.1,by omega⟩
      ·rintro(h|h)
       ·exact .inl h
       ·exact .inr ⟨h.1,h.2.1,by omega⟩
     ·rw[← hconst v (by omega) hv,←c]
      rcases P.from_lt with⟨g1,g2⟩|g
      ·rw[g1,g2]
       exact⟨fun h=>h.elim (fun⟨r,hr,_⟩=>by simp at hr) fun h=>h.1,fun h=>absurd h (inn_nil x)⟩
      ·constructor
       ·rintro(h|h)
        ·exact absurd h (hends v (by omega))
        ·exact h.1
       ·intro h
        exact .inr ⟨h,by omega,by omega⟩
   ·rw[St_new hy c]
    refine⟨.inr ⟨hb.1,hyy⟩,fun r hr=>(A1 r hr).2,fun r hr=>(A1 r hr).1,A2,fun x v hv=>?_⟩
    simp only
    rw[hasL_app,hasL_cells]
    by_cases hvy:v<y
    ·rw[P.pix x v hvy]
     exact⟨fun h=>h.elim id fun h=>by omega,.inl⟩
    ·rw[← hconst v (by omega) hv]
     constructor
     ·rintro(h|h)
      ·exact absurd h (hnone x v (by omega))
      ·exact h.1
     ·intro h
      exact .inr ⟨h,by omega,by omega⟩
end Go.Abs.TUD.R
set_option linter.unusedVariables false
set_option linter.unusedSimpArgs false
set_option maxRecDepth 10000
namespace Go.Abs.TUD.R
open Go.RowKit Go.Proofs Go.Abs
def inB(a b c:Int):Bool:=leI b a&&leI a c
theorem t126(a b c:Int):T30 a b c=some (!inB a b c):=by
 unfold T30 inB ltI leI
 by_cases h1:a<b
 ·have:¬b≤a:=by omega
  simp[h1,this]
 ·have:b≤a:=by omega
  by_cases h2:c<a
  ·have h3:¬a≤c:=by omega
   simp[h1,h2,this,h3]
  ·have h3:a≤c:=by omega
   simp[h1,h2,this,h3]
def good(r:S64):Bool:=inB r.f0 (-100000) 100000&&inB r.f1 (-100000) 100000&&inB r.f2 1 (subI .i64 100000 r.f0)&&inB r.f3 1 (subI .i64 100000 r.f1)
theorem t117(r:S64):T121 r=some (bif good r then 0 else 1):=by
 unfold T121 good
 simp only[t126,Option.bind_some]
 cases inB r.f0 (-100000) 100000<;>cases inB r.f1 (-100000) 100000<;>cases inB r.f2 1 (subI .i64 100000 r.f0)<;>cases inB r.f3 1 (subI .i64 100000 r.f1)<;>rfl
def code(p:List S64):Int:=if 2000<p.length then 2 else if p.all good=true then 0 else 1
end Go.Abs.TUD.R
set_option linter.unusedVariables false
set_option linter.unusedSimpArgs false
set_option maxRecDepth 10000
namespace Go.Abs.TUD.R
open Go.RowKit Go.Proofs Go.Abs
theorem good_of{r:S64}(h:W r):good r=true:=by
 unfold W at h
 unfold good inB leI
 rw[subI_eq (by omega) (by omega),subI_eq (by omega) (by omega)]
 simp only[Bool.and_eq_true,decide_eq_true_eq]
 omega
theorem rect_ok{r:S64}(h:W r):T121 r=some 0:=by
 rw[t117,good_of h]
 rfl
end Go.Abs.TUD.R
set_option linter.unusedVariables false
set_option linter.unusedSimpArgs false
set_option maxRecDepth 10000
namespace Go.Abs.TUD
open Go.RowKit Go.Proofs Go.Abs
theorem lit_sort1(x:S173):sortO (fun x y=>T157 x y) [x]=some [x]:=by
 obtain⟨l',h1,h2,_⟩:=sortO_le (fun x y=>T157 x y) (fun _ _=>True) (fun _ _=> .inl trivial) (fun _ _ _ _ _=>trivial) [x] (by simp) (by
  intro a ha b hb
  simp only[List.mem_singleton]at ha hb
  subst ha;subst hb
  refine⟨_,rfl,?_⟩
  have:subI .i64 b.f0 b.f0=0:=by unfold subI;rw[Int.sub_self];rfl
  simp[this])
 rw[h1,List.perm_singleton.1 h2]
theorem lit_sort2:sortO (fun x y=>T157 x y) [⟨0,2⟩,⟨1,3⟩]=some [⟨0,2⟩,⟨1,3⟩]:=by
 obtain⟨l',h1,h2,h3⟩:=sortO_key (fun x y=>T157 x y) (·.f0) [⟨0,2⟩,⟨1,3⟩] (by simp) (by
  intro a ha b hb
  simp only[List.mem_cons,List.not_mem_nil,or_false]at ha hb
  rcases ha with rfl|rfl<;>rcases hb with rfl|rfl<;>exact⟨_,rfl,by decide⟩)
 rw[h1]
 congr 1
 match l',h2.length_eq with
 | [a,b],_=>
   have ha:a∈[(⟨0,2⟩:S173),⟨1,3⟩]:=h2.mem_iff.1 (by simp)
   have hb:b∈[(⟨0,2⟩:S173),⟨1,3⟩]:=h2.mem_iff.1 (by simp)
   have hp:=h2.countP_eq (fun x:S173=>x.f0 == 0)
   simp only[List.mem_cons,List.not_mem_nil,or_false]at ha hb
   simp only[List.pairwise_cons,List.mem_singleton,forall_eq]at h3
   rcases ha with rfl|rfl<;>rcases hb with rfl|rfl
   ·simp at hp
   ·rfl
   ·have:=h3.1
    simp at this
   ·simp at hp
abbrev r0:S64:=S64.mk 0 0 2 2
abbrev r1:S64:=S64.mk 1 1 2 2
theorem runs_nil(y:Int):T124 [] y=some []:=by
 unfold T124
 rw[iter_run (r:=(0,false,[])) 1 (by kernel_rfl)]
 simp only[Option.bind_some]
 rw[show sortO (fun x y=>T157 x y) ([]:List S173)=some []from by simp[sortO],Option.bind_some,iter_run (r:=(0,false,[],[])) 1 (by kernel_rfl)]
 rfl
theorem runs0:T124 [r0,r1] 0=some [⟨0,2⟩]:=by
 unfold T124
 rw[iter_run (r:=(2,false,[⟨0,2⟩])) 3 (by kernel_rfl)]
 simp only[Option.bind_some]
 rw[lit_sort1,Option.bind_some,iter_run (r:=(1,false,[⟨0,2⟩],[⟨0,2⟩])) 2 (by kernel_rfl)]
 rfl
theorem runs1:T124 [r0,r1] 1=some [⟨0,3⟩]:=by
 unfold T124
 rw[iter_run (r:=(2,false,[⟨0,2⟩,⟨1,3⟩])) 3 (by kernel_rfl)]
 simp only[Option.bind_some]
 rw[lit_sort2,Option.bind_some,iter_run (r:=(2,false,[⟨0,3⟩],[⟨0,2⟩,⟨1,3⟩])) 3 (by kernel_rfl)]
 rfl
theorem runs2:T124 [r0,r1] 2=some [⟨1,3⟩]:=by
 unfold T124
 rw[iter_run (r:=(2,false,[⟨1,3⟩])) 3 (by kernel_rfl)]
 simp only[Option.bind_some]
 rw[lit_sort1,Option.bind_some,iter_run (r:=(1,false,[⟨1,3⟩],[⟨1,3⟩])) 2 (by kernel_rfl)]
 rfl
theorem less_nil(x:S173)(hx:ltI x.f0 x.f1=true):T123 [x] []=some [x]:=by
 have h:L123_4 [x] [] ([],0,0)=some (.inl ([x],0,1)):=by
  unfold L123_4
  have e1:ltI ((([],0,0):List S173×Int×Int).2.2) (lenL [x])=true:=rfl
  have e2:listAt [x] ((([],0,0):List S173×Int×Int).2.2)=some x:=rfl
  rw[e1,e2]
  simp only[cond_true,Option.bind_some]
  rw[iter_run (r:=(0,false)) 1 (by kernel_rfl),Option.bind_some,iter_run (r:=(0,false,[],x.f0)) 1 (by kernel_rfl)]
  simp only[Option.bind_some,hx,cond_true]
  rfl
 unfold T123
 rw[iter_inl h,iter_inr (r:=(0,1,false,[x])) (by kernel_rfl)]
 rfl
theorem same_no(a b:S173)(h:allB [eqI a.f0 b.f0,eqI a.f1 b.f1]=false):T125 [a] [b]=some false:=by
 unfold T125
 rw[iter_inr (r:= .inr ()) (by
  unfold L125_4
  have e1:ltI 0 (lenL [a])=true:=rfl
  have e2:listAt [a] 0=some a:=rfl
  have e3:listAt [b] 0=some b:=rfl
  rw[e1,e2,e3]
  simp only[cond_true,Option.bind_some,h,Bool.not_false])]
 rfl
theorem lit_region:T73 [r0,r1] []=some [⟨0,0,2,1⟩,⟨0,1,3,1⟩,⟨1,2,2,1⟩]:=by
 unfold T73 T122
 rw[iter_run (r:=(2,2,false)) 3 (by kernel_rfl)]
 simp only[Option.bind_some]
 rw[show growO S64 32 2=some [] by unfold growO;rw[if_pos (by decide)],Option.bind_some,iter_run (r:=(2,false,[r0,r1])) 3 (by kernel_rfl)]
 simp only[Option.bind_some]
 rw[iter_run (r:=(2,false,[0,2,1,3],[r0,r1])) 3 (by kernel_rfl)]
 simp only[Option.bind_some]
 rw[show sortIO [0,2,1,3]=some [0,1,2,3] by
  unfold sortIO
  rw[if_pos (by simp),sortI_of (l':=[0,1,2,3]) (by decide) (by decide)]]
 simp only[Option.bind_some]
 rw[show compIO [0,1,2,3]=some [0,1,2,3] by decide]
 simp only[Option.bind_some]
 have s0:L73_13 [r0,r1] [] [0,1,2,3] ([0,1,2,3],[],[],0,0)=some (.inl ([0,1,2,3],[],[⟨0,2⟩],0,1)):=by
  unfold L73_13
  rw[show ltI ((([0,1,2,3],[],[],0,0):List Int×List S64×List S173×Int×Int).2.2.2.2) (lenL ([0,1,2,3]:List Int))=true by decide]
  simp only[cond_true]
  rw[show idxO (List.length ([0,1,2,3]:List Int)) 0=some 0 by decide]
  simp only[Option.bind_some]
  rw[show getN ([0,1,2,3]:List Int) 0=some 0 by decide]
  simp only[Option.bind_some]
  rw[show ltI (addI .i64 0 1) (lenL ([0,1,2,3]:List Int))=true by decide]
  simp only[cond_true]
  rw[runs0,runs_nil]
  simp only[Option.bind_some]
  rw[less_nil ⟨0,2⟩ (by decide)]
  simp only[Option.bind_some]
  rw[show T125 [] [⟨0,2⟩]=some false by unfold T125;rfl]
  simp only[Option.bind_some,cond_false]
  rw[iter_run (r:=(0,false,[0,1,2,3],[])) 1 (by kernel_rfl)]
  rfl
 have s1:L73_13 [r0,r1] [] [0,1,2,3] ([0,1,2,3],[],[⟨0,2⟩],0,1)=some (.inl ([0,1,2,3],[⟨0,0,2,1⟩],[⟨0,3⟩],1,2)):=by
  unfold L73_13
  rw[show ltI ((([0,1,2,3],[],[⟨0,2⟩],0,1):List Int×List S64×List S173×Int×Int).2.2.2.2) (lenL ([0,1,2,3]:List Int))=true by decide]
  simp only[cond_true]
  rw[show idxO (List.length ([0,1,2,3]:List Int)) 1=some 1 by decide]
  simp only[Option.bind_some]
  rw[show getN ([0,1,2,3]:List Int) 1=some 1 by decide]
  simp only[Option.bind_some]
  rw[show ltI (addI .i64 1 1) (lenL ([0,1,2,3]:List Int))=true by decide]
  simp only[cond_true]
  rw[runs1,runs_nil]
  simp only[Option.bind_some]
  rw[less_nil ⟨0,3⟩ (by decide)]
  simp only[Option.bind_some]
  rw[same_no _ _ (by decide)]
  simp only[Option.bind_some,cond_false]
  rw[iter_run (r:=(1,false,[0,1,2,3],[⟨0,0,2,1⟩])) 2 (by kernel_rfl)]
  rfl
 have s2:L73_13 [r0,r1] [] [0,1,2,3] ([0,1,2,3],[⟨0,0,2,1⟩],[⟨0,3⟩],1,2)=some (.inl ([0,1,2,3],[⟨0,0,2,1⟩,⟨0,1,3,1⟩],[⟨1,3⟩],2,3)):=by
  unfold L73_13
  rw[show ltI ((([0,1,2,3],[⟨0,0,2,1⟩],[⟨0,3⟩],1,2):List Int×List S64×List S173×Int×Int).2.2.2.2) (lenL ([0,1,2,3]:List Int))=true by decide]
  simp only[cond_true]
  rw[show idxO (List.length ([0,1,2,3]:List Int)) 2=some 2 by decide]
  simp only[Option.bind_some]
  rw[show getN ([0,1,2,3]:List Int) 2=some 2 by decide]
  simp only[Option.bind_some]
  rw[show ltI (addI .i64 2 1) (lenL ([0,1,2,3]:List Int))=true by decide]
  simp only[cond_true]
  rw[runs2,runs_nil]
  simp only[Option.bind_some]
  rw[less_nil ⟨1,3⟩ (by decide)]
  simp only[Option.bind_some]
  rw[same_no _ _ (by decide)]
  simp only[Option.bind_some,cond_false]
  rw[iter_run (r:=(1,false,[0,1,2,3],[⟨0,0,2,1⟩,⟨0,1,3,1⟩])) 2 (by kernel_rfl)]
  rfl
 have s3:L73_13 [r0,r1] [] [0,1,2,3] ([0,1,2,3],[⟨0,0,2,1⟩,⟨0,1,3,1⟩],[⟨1,3⟩],2,3)=some (.inl ([0,1,2,3],[⟨0,0,2,1⟩,⟨0,1,3,1⟩,⟨1,2,2,1⟩],[],3,4)):=by
  unfold L73_13
  rw[show ltI ((([0,1,2,3],[⟨0,0,2,1⟩,⟨0,1,3,1⟩],[⟨1,3⟩],2,3):List Int×List S64×List S173×Int×Int).2.2.2.2) (lenL ([0,1,2,3]:List Int))=true by decide]
  simp only[cond_true]
  rw[show idxO (List.length ([0,1,2,3]:List Int)) 3=some 3 by decide]
  simp only[Option.bind_some]
  rw[show getN ([0,1,2,3]:List Int) 3=some 3 by decide]
  simp only[Option.bind_some]
  rw[show ltI (addI .i64 3 1) (lenL ([0,1,2,3]:List Int))=false by decide]
  simp only[cond_false]
  rw[show T125 [⟨1,3⟩] []=some false by unfold T125;rfl]
  simp only[Option.bind_some,cond_false]
  rw[iter_run (r:=(1,false,[0,1,2,3],[⟨0,0,2,1⟩,⟨0,1,3,1⟩,⟨1,2,2,1⟩])) 2 (by kernel_rfl)]
  rfl
 rw[iter_inl s0,iter_inl s1,iter_inl s2,iter_inl s3,iter_inr (r:=([],3,4,false,[0,1,2,3],[⟨0,0,2,1⟩,⟨0,1,3,1⟩,⟨1,2,2,1⟩])) (by kernel_rfl)]
 rfl
theorem lit_area:T41 [r0,r1]=some (7,0):=by
 unfold T41 T71 T72
 rw[iter_run (r:= .inl (2,false)) 3 (by kernel_rfl)]
 rw[show (bif ltI 2000 (lenL ([r0,r1]:List S64))then(some 2:Option Int)else(some (Sum.inl (2,false):(Int×Bool)⊕Int)).bind fun y3=>(Sum.elim (fun y3a=>some 0) (fun y3b=>some y3b) y3))=some 0 by decide]
 simp only[Option.bind_some]
 rw[show neI 0 0=false by decide]
 simp only[cond_false]
 rw[lit_region]
 simp only[Option.bind_some]
 rw[iter_run (r:=(7,3,false)) 4 (by kernel_rfl)]
 rfl
theorem ready_ok:T16=some true:=by
 unfold T16
 rw[lit_area]
 simp only[Option.bind_some]
 kernel_rfl
end Go.Abs.TUD
set_option linter.unusedVariables false
set_option linter.unusedSimpArgs false
set_option maxRecDepth 10000
namespace Go.Abs.TUD
open Go.RowKit Go.Proofs Go.Abs
theorem below_ok(x:Int){n:Int}(hn:n≤1000000000000000):∃v,T63 x n=some v∧(1≤n→0≤v∧v<n)∧(n<1→v=0):=by
 unfold T63
 by_cases h:n<1
 ·rw[show ltI n 1=true by unfold ltI;exact decide_eq_true h]
  exact⟨0,rfl,fun h1=>by omega,fun _=>rfl⟩
 ·rw[show ltI n 1=false by unfold ltI;exact decide_eq_false h]
  have hr:remO .i64 x n=some (x.tmod n):=by unfold remO;rw[if_neg (by omega)]
  have h1:=Int.tmod_lt_of_pos x (by omega:0<n)
  have h2:=Int.lt_tmod_of_pos x (by omega:0<n)
  simp only[cond_false,hr,Option.bind_some]
  by_cases h0:x.tmod n<0
  ·rw[show ltI (x.tmod n) 0=true by unfold ltI;exact decide_eq_true h0]
   refine⟨_,rfl,fun _=>?_,fun h3=>by omega⟩
   rw[addI_eq (by omega) (by omega)]
   omega
  ·rw[show ltI (x.tmod n) 0=false by unfold ltI;exact decide_eq_false h0]
   exact⟨_,rfl,fun _=>⟨by omega,h1⟩,fun h3=>by omega⟩
theorem next_ok{L:List Int}{at_ n:Int}(hL:L.length≤1048576)(h0:0≤at_)(h1:at_≤1000000000)(hn:n≤1000000000000000):∃v,T28 L at_ n=some (v,L,at_+1)∧(1≤n→0≤v∧v<n)∧(n<1→v=0):=by
 unfold T28
 have e1:addI .i64 at_ 1=at_+1:=addI_eq (by omega) (by omega)
 rw[e1]
 by_cases hl:L.length=0
 ·rw[show eqI (lenL L) 0=true by rw[eqI_iff,lenL_eq,hl];rfl]
  obtain⟨v,h2,h3⟩:=below_ok (mulI .i64 (at_+1) 7919) hn
  simp only[cond_true,h2,Option.bind_some]
  exact⟨v,rfl,h3⟩
 ·rw[show eqI (lenL L) 0=false by rw[eqI_iff,lenL_eq];exact decide_eq_false (by omega)]
  have e2:subI .i64 (at_+1) 1=at_:=by rw[subI_eq (by omega) (by omega)];omega
  have hr:remO .i64 at_ (lenL L)=some (at_.tmod L.length):=by unfold remO;rw[lenL_eq,if_neg (by omega)]
  have hq:∃q,quoO .i64 at_ (lenL L)=some q:=by unfold quoO;rw[lenL_eq,if_neg (by omega)];exact⟨_,rfl⟩
  obtain⟨q,hq⟩:=hq
  have h2:=Int.tmod_lt_of_pos at_ (by omega:(0:Int)<L.length)
  have h3:=Int.tmod_nonneg (L.length:Int) h0
  generalize at_.tmod L.length=k at *
  obtain⟨j,rfl⟩:∃j:Nat,k=j:=⟨k.toNat,by omega⟩
  have hx:=List.getElem?_eq_getElem (show j<L.length by omega)
  obtain⟨v,h4,_⟩:=below_ok (L[j]'(by omega)) (n:=1073741824) (by omega)
  obtain⟨u,h6,h7⟩:=below_ok (addI .i64 v (mulI .i64 q (addI .i64 7919 j))) hn
  simp only[cond_false,e2,hr,hq,Option.bind_some,listAt_some hx,h4,h6]
  exact⟨u,rfl,h7⟩
theorem range_ok{L:List Int}{at_ lo hi:Int}(hL:L.length≤1048576)(h0:0≤at_)(h1:at_≤1000000000)(hlo : -1000000000000≤lo)(hle:lo≤hi)(hhi:hi≤1000000000000):∃v,T8 L at_ lo hi=some (v,L,at_+1)∧lo≤v∧v≤hi:=by
 unfold T8
 rw[show ltI hi lo=false by unfold ltI;exact decide_eq_false (by omega)]
 have e1:subI .i64 hi lo=hi-lo:=subI_eq (by omega) (by omega)
 have e2:addI .i64 (hi-lo) 1=hi-lo+1:=addI_eq (by omega) (by omega)
 obtain⟨v,h2,h3,_⟩:=next_ok (n:=hi-lo+1) hL h0 h1 (by omega)
 have h4:=h3 (by omega)
 simp only[cond_false,e1,e2,h2,Option.bind_some]
 exact⟨_,rfl,by rw[addI_eq (by omega) (by omega)];omega,by rw[addI_eq (by omega) (by omega)];omega⟩
end Go.Abs.TUD
set_option linter.unusedVariables false
set_option linter.unusedSimpArgs false
set_option maxRecDepth 10000
namespace Go.Abs.TUD
open Go.RowKit Go.Proofs Go.Abs R
def Sm(r:S64):Prop := -2≤r.f0 ∧ -2≤r.f1∧1≤r.f2∧1≤r.f3∧r.f0+r.f2≤13∧r.f1+r.f3≤13
theorem sm_W{r:S64}(h:Sm r):W r:=by unfold Sm at h;unfold W;omega
def big:S64:=⟨-2,-2,15,15⟩
theorem rect_drawn{L:List Int}{at_:Int}(hL:L.length≤1048576)(h0:0≤at_)(h1:at_≤1000000):∃r,T25 L at_=some (r,L,at_+1+1+1+1)∧Sm r:=by
 obtain⟨x,e1,x1,x2⟩:=range_ok (L:=L) (at_:=at_) (lo := -2) (hi:=8) hL h0 (by omega) (by decide) (by decide) (by decide)
 obtain⟨y,e2,y1,y2⟩:=range_ok (L:=L) (at_:=at_+1) (lo := -2) (hi:=8) hL (by omega) (by omega) (by decide) (by decide) (by decide)
 obtain⟨w,e3,w1,w2⟩:=range_ok (L:=L) (at_:=at_+1+1) (lo:=1) (hi:=5) hL (by omega) (by omega) (by decide) (by decide) (by decide)
 obtain⟨h,e4,h1,h2⟩:=range_ok (L:=L) (at_:=at_+1+1+1) (lo:=1) (hi:=5) hL (by omega) (by omega) (by decide) (by decide) (by decide)
 refine⟨⟨x,y,w,h⟩,?_,?_⟩
 ·unfold T25
  simp only[e1,e2,e3,e4,Option.bind_some]
 ·unfold Sm;simp only;omega
structure Drw(l:List S64)(i:Nat)(at0 at_:Int):Prop where
 a:∀r∈l,Sm r
 n:l.length=i
 s:0≤at_∧at_≤at0+4*i
structure Ap(l:List S64):Prop where
 w:∀r∈l,W r
 d:l.Pairwise disj
 b:∀x y,hasL l x y→has big x y
noncomputable def Reg(p q:List S64):List S64:=Fin (R.rowAt p q) (edgesY (p++q))
def hasB(x y:Int)(r:S64):Bool:=leI r.f0 x&&ltI x (addI .i64 r.f0 r.f2)&&(leI r.f1 y&&ltI y (addI .i64 r.f1 r.f3))
end Go.Abs.TUD
set_option linter.unusedVariables false
set_option linter.unusedSimpArgs false
set_option maxRecDepth 10000
namespace Go.Abs.TUD
open Go.RowKit Go.Proofs Go.Abs R
theorem pick_ok{L:List Int}{at_:Int}{l:List Int}(hL:L.length≤1048576)(h0:0≤at_)(h1:at_≤1000000000)(hl:1≤l.length)(hl2:l.length≤1000):∃v,T24 L at_ l=some (v,L,at_+1)∧v∈l:=by
 obtain⟨k,e,h2,_⟩:=next_ok (n:=lenL l) hL h0 h1 (by rw[lenL_eq];omega)
 rw[lenL_eq]at h2
 have h2:=h2 (by omega)
 obtain⟨j,rfl⟩:∃j:Nat,k=j:=⟨k.toNat,by omega⟩
 have hj:j<l.length:=by omega
 refine⟨l[j],?_,List.getElem_mem hj⟩
 unfold T24
 simp only[e,Option.bind_some,listAt_some (List.getElem?_eq_getElem hj)]
theorem some_ok{L:List Int}{at_:Int}{l:List ByteArray}(hL:L.length≤1048576)(h0:0≤at_)(h1:at_≤1000000000)(hl:1≤l.length)(hl2:l.length≤1000):∃v,T23 L at_ l=some (v,L,at_+1)∧v∈l:=by
 obtain⟨k,e,h2,_⟩:=next_ok (n:=lenL l) hL h0 h1 (by rw[lenL_eq];omega)
 rw[lenL_eq]at h2
 have h2:=h2 (by omega)
 obtain⟨j,rfl⟩:∃j:Nat,k=j:=⟨k.toNat,by omega⟩
 have hj:j<l.length:=by omega
 refine⟨l[j],?_,List.getElem_mem hj⟩
 unfold T23
 simp only[e,Option.bind_some,listAt_some (List.getElem?_eq_getElem hj)]
theorem flip_ok{L:List Int}{at_ n:Int}(hL:L.length≤1048576)(h0:0≤at_)(h1:at_≤1000000000)(hn:n≤1000000000000000):∃b,T9 L at_ n=some (b,L,at_+1):=by
 obtain⟨k,e,_⟩:=next_ok (n:=n) hL h0 h1 hn
 refine⟨eqI k 0,?_⟩
 unfold T9
 rw[e]
 rfl
abbrev gN:ByteArray:=ByteArray.mk #[]
abbrev gA:ByteArray:=ByteArray.mk #[97,97]
abbrev gB:ByteArray:=ByteArray.mk #[97,98]
abbrev gC:ByteArray:=ByteArray.mk #[97,99]
abbrev gD:ByteArray:=ByteArray.mk #[97,100]
abbrev gE:ByteArray:=ByteArray.mk #[97,101]
abbrev gF:ByteArray:=ByteArray.mk #[97,102]
abbrev gZ:ByteArray:=ByteArray.mk #[122,122]
abbrev gY:ByteArray:=ByteArray.mk #[122,121]
abbrev gW:ByteArray:=ByteArray.mk #[119,120]
abbrev gR:ByteArray:=ByteArray.mk #[102,105,114,101]
abbrev tF:ByteArray:=ByteArray.mk #[102,108,111,111,100]
abbrev tM:ByteArray:=ByteArray.mk #[102,105,114,101,32,105,110,32,116,104,101,32,109,97,108,108]
abbrev tO:ByteArray:=ByteArray.mk #[111,118,101,114]
abbrev I6:List ByteArray:=[gA,gB,gC,gD,gE,gF]
abbrev R5:List ByteArray:=[gA,gB,gC,gD,gZ]
abbrev AllK:List ByteArray:=[gA,gB,gC,gD,gE,gF,gZ,gY,gW,gR]
theorem k_key{s:ByteArray}(h:s∈AllK):T108 s=some true:=by
 simp only[List.mem_cons,List.not_mem_nil,or_false]at h
 rcases h with rfl|rfl|rfl|rfl|rfl|rfl|rfl|rfl|rfl|rfl<;>kernel_rfl
theorem i6_all{s:ByteArray}(h:s∈I6):s∈AllK:=by
 simp only[List.mem_cons,List.not_mem_nil,or_false]at h ⊢
 rcases h with h|h|h|h|h|h<;>simp[h]
theorem r5_all{s:ByteArray}(h:s∈R5):s∈AllK:=by
 simp only[List.mem_cons,List.not_mem_nil,or_false]at h ⊢
 rcases h with h|h|h|h|h<;>simp[h]
theorem o01:ltS gA gB=true:=by kernel_rfl
theorem o02:ltS gA gC=true:=by kernel_rfl
theorem o03:ltS gA gD=true:=by kernel_rfl
theorem o04:ltS gA gZ=true:=by kernel_rfl
theorem o12:ltS gB gC=true:=by kernel_rfl
theorem o13:ltS gB gD=true:=by kernel_rfl
theorem o14:ltS gB gZ=true:=by kernel_rfl
theorem o23:ltS gC gD=true:=by kernel_rfl
theorem o24:ltS gC gZ=true:=by kernel_rfl
theorem o34:ltS gD gZ=true:=by kernel_rfl
theorem R5_ord:∀(i j:Nat)(a b:ByteArray),i<j→R5[i]? = some a→R5[j]? = some b→ltS a b=true:=by
 intro i j a b hij ha hb
 have hj:j<5:=(List.getElem?_eq_some_iff.1 hb).1
 have:(i=0∧j=1)∨(i=0∧j=2)∨(i=0∧j=3)∨(i=0∧j=4)∨(i=1∧j=2)∨(i=1∧j=3)∨(i=1∧j=4)∨(i=2∧j=3)∨(i=2∧j=4)∨(i=3∧j=4):=by omega
 rcases this with⟨rfl,rfl⟩|⟨rfl,rfl⟩|⟨rfl,rfl⟩|⟨rfl,rfl⟩|⟨rfl,rfl⟩|⟨rfl,rfl⟩|⟨rfl,rfl⟩|⟨rfl,rfl⟩|⟨rfl,rfl⟩|⟨rfl,rfl⟩<;>cases ha<;>cases hb
 ·exact o01
 ·exact o02
 ·exact o03
 ·exact o04
 ·exact o12
 ·exact o13
 ·exact o14
 ·exact o23
 ·exact o24
 ·exact o34
structure Refs(id:ByteArray)(l:List ByteArray):Prop where
 all:∀r∈l,r∈AllK∧r≠id
 ord:l.Pairwise fun a b=>ltS a b=true
 few:l.length≤5
structure RA(a:S46):Prop where
 id:a.f0∈I6
 sender:a.f1∈AllK
 kind:1≤a.f2∧a.f2≤3
 refs:Refs a.f0 a.f3
 new:a.f2=1↔a.f3=[]
 at_:0≤a.f4∧a.f4≤30
 til:a.f4+1≤a.f5∧a.f5≤a.f4+50
 weight:1≤a.f6∧a.f6≤9
 areas:(∀ r∈a.f7,Sm r)∧a.f7.length≤2
 cancel:a.f2=3↔a.f7=[]
 text:(a.f2=3∧a.f8∈[gN,tO])∨(a.f2≠3∧a.f8∈[tF,tM])
theorem refs_drawn{L:List Int}(hL:L.length≤1048576)(x2:List ByteArray)(z0:List Int×Int×List S46×List ByteArray×Int)(id:ByteArray)(x5:ByteArray×List Int×Int)(x6 x7 x8:Int×List Int×Int)(x9:ByteArray×List Int×Int)(x10:Int×List Int×Int){at_:Int}(h0:0≤at_∧at_≤100000)(out:List S46)(ks:List ByteArray) :
  ∃a' refs,iter (L6_9 x2 z0 id x5 x6 x7 x8 x9 x10) (L,at_,out,[],[],ks,R5,0)=some (5,false,L,a',out,ks,R5,refs,[])∧Refs id refs∧at_≤a'∧a'≤at_+5:=by
 let enc:Int×List ByteArray→Nat→List Int×Int×List S46×List ByteArray×List S64×List ByteArray×List ByteArray×Int:=fun s i=>(L,s.1,out,s.2,[],ks,R5,(i:Int))
 let Inv:Nat→Int×List ByteArray→Prop:=fun i s=>(at_≤s.1∧s.1≤at_+i)∧(∀ r∈s.2,r≠id∧∃j,j<i∧R5[j]? = some r)∧(s.2.Pairwise fun a b=>ltS a b=true)∧s.2.length≤i
 have key:∀(i:Nat) s,i<5→Inv i s→∃s',L6_9 x2 z0 id x5 x6 x7 x8 x9 x10 (enc s i)=some (.inl (enc s' (i+1)))∧Inv (i+1) s':=by
  rintro i ⟨a,l⟩ hi ⟨h1,h2,h3,h4⟩
  simp only at h1 h2 h3 h4
  obtain⟨k,hk⟩:∃k,R5[i]? = some k:=⟨_,List.getElem?_eq_getElem (show i<R5.length from hi)⟩
  have c1:ltI (i:Int) (lenL R5)=true:=ltL_true (show i<R5.length from hi)
  have e:=nextI (i:=i) (by omega)
  have more:∀r∈l,r≠id∧∃j,j<i+1∧R5[j]? = some r:=fun r hr=>by
   obtain⟨g1,j,g2,g3⟩:=h2 r hr
   exact⟨g1,j,by omega,g3⟩
  cases hb:eqS k id with
  | true=>
    refine⟨(a,l),?_,by simp only;omega,more,h3,by simp only;omega⟩
    unfold L6_9
    refine ct c1 (bs (idx_nat (show i<R5.length from hi)) (bs (getN_some hk) (cf (by rw[hb];rfl) ?_)))
    simp only[enc,e]
  | false=>
    obtain⟨b,e0⟩:=flip_ok (L:=L) (at_:=a) (n:=3) hL (by omega) (by omega) (by decide)
    cases b with
    | false=>
      refine⟨(a+1,l),?_,by simp only;omega,more,h3,by simp only;omega⟩
      unfold L6_9
      refine ct c1 (bs (idx_nat (show i<R5.length from hi)) (bs (getN_some hk) (ct (by rw[hb];rfl) (bs e0 (cf rfl ?_)))))
      simp only[enc,e]
    | true=>
      refine⟨(a+1,l++[k]),?_,by simp only;omega,fun r hr=>?_,?_,?_⟩
      ·unfold L6_9
       refine ct c1 (bs (idx_nat (show i<R5.length from hi)) (bs (getN_some hk) (ct (by rw[hb];rfl) (bs e0 (ct rfl (bs (appO_eq (l1:=l) (l2:=[k]) ?_ ?_) ?_))))))
       ·simp only[List.length_cons,List.length_nil];omega
       ·simp only[List.length_cons,List.length_nil];omega
       ·simp only[enc,e]
      ·rcases List.mem_append.1 hr with hr|hr
       ·exact more r hr
       ·rw[List.mem_singleton]at hr
        subst hr
        refine⟨fun e=>?_,i,by omega,hk⟩
        rw[e,eqS_self]at hb
        cases hb
      ·refine List.pairwise_append.2 ⟨h3,by simp,fun x hx y hy=>?_⟩
       rw[List.mem_singleton]at hy
       subst hy
       obtain⟨_,j,h6,h7⟩:=h2 x hx
       exact R5_ord j i _ _ h6 h7 hk
      ·simp only[List.length_append,List.length_cons,List.length_nil];omega
 have kend:∀s,Inv 5 s→∃r,L6_9 x2 z0 id x5 x6 x7 x8 x9 x10 (enc s 5)=some (.inr r)∧∃a' refs,r=(5,false,L,a',out,ks,R5,refs,[])∧Refs id refs∧at_≤a'∧a'≤at_+5:=by
  rintro⟨a,l⟩ ⟨h1,h2,h3,h4⟩
  refine⟨_,rfl,a,l,rfl,⟨fun r hr=>?_,h3,h4⟩,?_⟩
  ·obtain⟨g1,j,_,g3⟩:=h2 r hr
   exact⟨r5_all (List.mem_of_getElem? g3),g1⟩
  ·simp only at h1
   omega
 obtain⟨r,h1,a',refs,rfl,h2⟩:=iter_up enc 5 Inv _ key kend (at_,[]) ⟨by simp only;omega,fun c hc=>(by cases hc),.nil,Nat.le_refl _⟩
 exact⟨a',refs,h1,h2⟩
theorem areas_drawn{L:List Int}(hL:L.length≤1048576)(x2:List ByteArray)(z0:List Int×Int×List S46×List ByteArray×Int)(id:ByteArray)(x5:ByteArray×List Int×Int)(x6 x7 x8:Int×List Int×Int)(x9:ByteArray×List Int×Int)(x10:Int×List Int×Int){n:Int}(q:List Int×Int)(hn:1≤n∧n≤2){at_:Int}(h0:0≤at_∧at_≤100000)(out:List S46)(refs ks:List ByteArray) :
  ∃a' areas,iter (L6_19 x2 z0 id x5 x6 x7 x8 x9 x10 (n,q)) (L,at_,out,refs,[],ks,0)=some (n,false,L,a',out,ks,refs,areas)∧(∀ r∈areas,Sm r)∧(areas.length:Int)=n∧at_≤a'∧a'≤at_+8:=by
 obtain⟨m,rfl⟩:∃m:Nat,n=m:=⟨n.toNat,by omega⟩
 let enc:Int×List S64→Nat→List Int×Int×List S46×List ByteArray×List S64×List ByteArray×Int:=fun s i=>(L,s.1,out,refs,s.2,ks,(i:Int))
 let Inv:Nat→Int×List S64→Prop:=fun i s=>(at_≤s.1∧s.1≤at_+4*i)∧(∀ r∈s.2,Sm r)∧s.2.length=i
 have key:∀(i:Nat) s,i<m→Inv i s→∃s',L6_19 x2 z0 id x5 x6 x7 x8 x9 x10 ((m:Int),q) (enc s i)=some (.inl (enc s' (i+1)))∧Inv (i+1) s':=by
  rintro i ⟨a,l⟩ hi ⟨h1,h2,h3⟩
  simp only at h1 h2 h3
  obtain⟨r,e1,hr⟩:=rect_drawn (L:=L) (at_:=a) hL (by omega) (by omega)
  refine⟨(a+1+1+1+1,l++[r]),?_,by simp only;omega,fun x hx=>?_,by simp only[List.length_append,List.length_cons,List.length_nil];omega⟩
  ·unfold L6_19
   refine ct (ltI_t (by simp only[enc];omega)) (bs e1 (bs (appO_eq (l1:=l) (l2:=[r]) ?_ ?_) ?_))
   ·simp only[List.length_cons,List.length_nil];omega
   ·simp only[List.length_cons,List.length_nil];omega
   ·simp only[enc,nextI (i:=i) (by omega)]
  ·rcases List.mem_append.1 hx with hx|hx
   ·exact h2 x hx
   ·rw[List.mem_singleton]at hx
    subst hx
    exact hr
 have kend:∀s,Inv m s→∃r,L6_19 x2 z0 id x5 x6 x7 x8 x9 x10 ((m:Int),q) (enc s m)=some (.inr r)∧∃a' areas,r=((m:Int),false,L,a',out,ks,refs,areas)∧(∀ r∈areas,Sm r)∧(areas.length:Int)=m∧at_≤a'∧a'≤at_+8:=by
  rintro⟨a,l⟩ ⟨h1,h2,h3⟩
  simp only at h1 h2 h3
  refine⟨_,by unfold L6_19;exact cf (ltI_f (Int.le_refl _)) rfl,a,l,?_,h2,by omega,by omega,by omega⟩
  show((m:Int),ltI (m:Int) (m:Int),L,a,out,ks,refs,l)=_
  rw[ltI_f (Int.le_refl _)]
 obtain⟨r,h1,a',areas,rfl,h2⟩:=iter_up enc m Inv _ key kend (at_,[]) ⟨by simp only;omega,fun c hc=>(by cases hc),rfl⟩
 exact⟨a',areas,h1,h2⟩
end Go.Abs.TUD
set_option linter.unusedVariables false
set_option linter.unusedSimpArgs false
set_option maxRecDepth 10000
namespace Go.Abs.TUD
open Go.RowKit Go.Proofs Go.Abs R
theorem ra_mk{k v5 text:ByteArray}{v6 v7 v8 v10:Int}{refs:List ByteArray}{areas:List S64}(hk:k∈I6)(h5:v5∈AllK)(h6:1≤v6∧v6≤3)(hr:Refs k refs)(hn:v6=1↔refs=[])(h7:0≤v7∧v7≤6)(h10:1≤v10∧v10≤50)(h8:1≤v8∧v8≤9)
  (ha:(∀ r∈areas,Sm r)∧areas.length≤2) (hc:v6=3↔areas=[]) (ht:(v6=3∧text∈[gN,tO])∨(v6≠3∧text∈[tF,tM])) :
  RA ⟨k,v5,v6,refs,mulI .i64 v7 5,addI .i64 (mulI .i64 v7 5) v10,v8,areas,text⟩:=by
 have s7:mulI .i64 v7 5=v7*5:=mulI_eq (by omega) (by omega)
 have s10:addI .i64 (mulI .i64 v7 5) v10=v7*5+v10:=by rw[s7];exact addI_eq (by omega) (by omega)
 exact⟨hk,h5,h6,hr,hn,by simp only[s7];omega,by simp only;rw[s10,s7];omega,h8,ha,hc,ht⟩
theorem one_ref{k:ByteArray}(hk:k∈I6):Refs k [gY]:=by
 refine⟨fun r hr=>?_,by simp,by simp⟩
 rw[List.mem_singleton]at hr
 subst hr
 refine⟨by simp,fun e=>?_⟩
 simp only[List.mem_cons,List.not_mem_nil,or_false]at hk
 rcases hk with h|h|h|h|h|h<;>rw[h]at e<;>exact absurd e (by decide)
theorem no_ref(k:ByteArray):Refs k []:=⟨fun r hr=>(by cases hr),.nil,by simp⟩
theorem len_ne{α:Type}{l:List α}{n:Int}(h:(l.length:Int)=n)(hn:1≤n):l≠[]:=by
 intro e
 rw[e]at h
 simp only[List.length_nil]at h
 omega
theorem alert_drawn{L:List Int}(hL:L.length≤1048576)(K:List ByteArray)(hK:∀k∈K,k∈I6){i:Nat}(hi:i<K.length)(hKl:K.length≤6){at_:Int}(h0:0≤at_∧at_≤10000)(out:List S46)(hout:out.length≤10) :
  ∃a' a,L6_3 K (L,at_,out,K,(i:Int))=some (.inl (L,a',out++[a],K,((i+1:Nat):Int)))∧RA a∧a.f0=K[i]∧at_≤a'∧a'≤at_+30:=by
 have hk:=List.getElem?_eq_getElem hi
 have hk6:=hK _ (List.getElem_mem hi)
 generalize K[i]=k at *
 have e:=nextI (i:=i) (by omega)
 obtain⟨v5,e5,m5⟩:=some_ok (L:=L) (at_:=at_) (l:=[gW,gW,gR]) hL (by omega) (by omega) (by decide) (by decide)
 obtain⟨v6,e6,m6⟩:=pick_ok (L:=L) (at_:=at_+1) (l:=[1,1,2,2,3]) hL (by omega) (by omega) (by decide) (by decide)
 obtain⟨v7,e7,p7,q7⟩:=range_ok (L:=L) (at_:=at_+1+1) (lo:=0) (hi:=6) hL (by omega) (by omega) (by decide) (by decide) (by decide)
 obtain⟨v8,e8,m8⟩:=pick_ok (L:=L) (at_:=at_+1+1+1) (l:=[1,5,5,9]) hL (by omega) (by omega) (by decide) (by decide)
 obtain⟨v9,e9,m9⟩:=some_ok (L:=L) (at_:=at_+1+1+1+1) (l:=[tF,tM]) hL (by omega) (by omega) (by decide) (by decide)
 obtain⟨v10,e10,m10⟩:=pick_ok (L:=L) (at_:=at_+1+1+1+1+1) (l:=[1,10,20,50]) hL (by omega) (by omega) (by decide) (by decide)
 simp only[List.mem_cons,List.not_mem_nil,or_false]at m6 m8 m10
 have h5:v5∈AllK:=by
  simp only[List.mem_cons,List.not_mem_nil,or_false]at m5 ⊢
  rcases m5 with h|h|h<;>simp[h]
 have h6:1≤v6∧v6≤3:=by omega
 have h8:1≤v8∧v8≤9:=by omega
 have h10:1≤v10∧v10≤50:=by omega
 clear m6 m8 m10 m5
 have ap:∀a:S46,appO 128 out [a]=some (out++[a]):=fun a=>appO_eq (by simp only[List.length_cons,List.length_nil];omega) (by simp only[List.length_cons,List.length_nil];omega)
 suffices H:∃a' a,((bif (neI v6 1)then((iter (L6_9 K (L,at_,out,K,(i:Int)) k (v5,L,at_+1) (v6,L,at_+1+1) (v7,L,at_+1+1+1) (v8,L,at_+1+1+1+1) (v9,L,at_+1+1+1+1+1) (v10,L,at_+1+1+1+1+1+1)) (L,at_+1+1+1+1+1+1,out,([]:List ByteArray),([]:List S64),K,R5,0)).bind fun y15=>(bif (eqI (lenL y15.2.2.2.2.2.2.2.1) 0)then(bif (eqI v6 3)then((T23 y15.2.2.1 y15.2.2.2.1 ([gN,tO]:List ByteArray)).bind fun x16=>((appO 128 y15.2.2.2.2.1 ([(S46.mk k v5 v6 ([gY]:List ByteArray) (mulI .i64 v7 5) (addI .i64 (mulI .i64 v7 5) v10) v8 y15.2.2.2.2.2.2.2.2 x16.1)]:List S46)).bind fun x17=>(some (x16.2.1,x16.2.2,x17,y15.2.2.2.2.2.1))))else((T8 y15.2.2.1 y15.2.2.2.1 1 2).bind fun x18=>((iter (L6_19 K (L,at_,out,K,(i:Int)) k (v5,L,at_+1) (v6,L,at_+1+1) (v7,L,at_+1+1+1) (v8,L,at_+1+1+1+1) (v9,L,at_+1+1+1+1+1) (v10,L,at_+1+1+1+1+1+1) x18) (x18.2.1,x18.2.2,y15.2.2.2.2.1,([gY]:List ByteArray),y15.2.2.2.2.2.2.2.2,y15.2.2.2.2.2.1,0)).bind fun y21=>((appO 128 y21.2.2.2.2.1 ([(S46.mk k v5 v6 y21.2.2.2.2.2.2.1 (mulI .i64 v7 5) (addI .i64 (mulI .i64 v7 5) v10) v8 y21.2.2.2.2.2.2.2 v9)]:List S46)).bind fun x22=>(some (y21.2.2.1,y21.2.2.2.1,x22,y21.2.2.2.2.2.1))))))else(bif (eqI v6 3)then((T23 y15.2.2.1 y15.2.2.2.1 ([gN,tO]:List ByteArray)).bind fun x23=>((appO 128 y15.2.2.2.2.1 ([(S46.mk k v5 v6 y15.2.2.2.2.2.2.2.1 (mulI .i64 v7 5) (addI .i64 (mulI .i64 v7 5) v10) v8 y15.2.2.2.2.2.2.2.2 x23.1)]:List S46)).bind fun x24=>(some (x23.2.1,x23.2.2,x24,y15.2.2.2.2.2.1))))else((T8 y15.2.2.1 y15.2.2.2.1 1 2).bind fun x25=>((iter (L6_19 K (L,at_,out,K,(i:Int)) k (v5,L,at_+1) (v6,L,at_+1+1) (v7,L,at_+1+1+1) (v8,L,at_+1+1+1+1) (v9,L,at_+1+1+1+1+1) (v10,L,at_+1+1+1+1+1+1) x25) (x25.2.1,x25.2.2,y15.2.2.2.2.1,y15.2.2.2.2.2.2.2.1,y15.2.2.2.2.2.2.2.2,y15.2.2.2.2.2.1,0)).bind fun y28=>((appO 128 y28.2.2.2.2.1 ([(S46.mk k v5 v6 y28.2.2.2.2.2.2.1 (mulI .i64 v7 5) (addI .i64 (mulI .i64 v7 5) v10) v8 y28.2.2.2.2.2.2.2 v9)]:List S46)).bind fun x29=>(some (y28.2.2.1,y28.2.2.2.1,x29,y28.2.2.2.2.2.1))))))))else(bif (eqI v6 3)then((T23 L (at_+1+1+1+1+1+1) ([gN,tO]:List ByteArray)).bind fun x30=>((appO 128 out ([(S46.mk k v5 v6 [] (mulI .i64 v7 5) (addI .i64 (mulI .i64 v7 5) v10) v8 [] x30.1)]:List S46)).bind fun x31=>(some (x30.2.1,x30.2.2,x31,K))))else((T8 L (at_+1+1+1+1+1+1) 1 2).bind fun x32=>((iter (L6_19 K (L,at_,out,K,(i:Int)) k (v5,L,at_+1) (v6,L,at_+1+1) (v7,L,at_+1+1+1) (v8,L,at_+1+1+1+1) (v9,L,at_+1+1+1+1+1) (v10,L,at_+1+1+1+1+1+1) x32) (x32.2.1,x32.2.2,out,([]:List ByteArray),([]:List S64),K,0)).bind fun y35=>((appO 128 y35.2.2.2.2.1 ([(S46.mk k v5 v6 y35.2.2.2.2.2.2.1 (mulI .i64 v7 5) (addI .i64 (mulI .i64 v7 5) v10) v8 y35.2.2.2.2.2.2.2 v9)]:List S46)).bind fun x36=>(some (y35.2.2.1,y35.2.2.2.1,x36,y35.2.2.2.2.2.1))))))):Option ((List Int)×Int×(List S46)×(List ByteArray)))=some (L,a',out++[a],K)∧RA a∧a.f0=k∧at_≤a'∧a'≤at_+30 by
  obtain⟨a',a,H1,H2⟩:=H
  refine⟨a',a,?_,H2⟩
  unfold L6_3
  refine ct (ltL_true hi) (bs (bs (idx_nat hi) (bs (getN_some hk) (bs e5 (bs e6 (bs e7 (bs e8 (bs e9 (bs e10 H1)))))))) ?_)
  simp only[e]
 by_cases c1:v6=1
 ·have c3:v6≠3:=by omega
  obtain⟨n,f1,n1,n2⟩:=range_ok (L:=L) (at_:=at_+1+1+1+1+1+1) (lo:=1) (hi:=2) hL (by omega) (by omega) (by decide) (by decide) (by decide)
  obtain⟨a',areas,f2,g1,g2,g3,g4⟩:=areas_drawn hL K (L,at_,out,K,(i:Int)) k (v5,L,at_+1) (v6,L,at_+1+1) (v7,L,at_+1+1+1) (v8,L,at_+1+1+1+1) (v9,L,at_+1+1+1+1+1) (v10,L,at_+1+1+1+1+1+1) (n:=n) (L,at_+1+1+1+1+1+1+1) ⟨n1,n2⟩ (at_:=at_+1+1+1+1+1+1+1) (by omega) out [] K
  refine⟨a',_,cf (neI_f c1) (cf (eqI_f c3) (bs f1 (bs f2 (bs (ap _) rfl)))),ra_mk hk6 h5 h6 (no_ref k) ⟨fun _=>rfl,fun _=>c1⟩ ⟨p7,q7⟩ h10 h8 ⟨g1,show areas.length≤2 by omega⟩ ⟨fun h=>absurd h c3,fun h=>absurd h (len_ne g2 n1)⟩ (.inr ⟨c3,m9⟩),rfl,by omega,by omega⟩
 ·obtain⟨a1,refs,f0,r1,r2,r3⟩:=refs_drawn hL K (L,at_,out,K,(i:Int)) k (v5,L,at_+1) (v6,L,at_+1+1) (v7,L,at_+1+1+1) (v8,L,at_+1+1+1+1) (v9,L,at_+1+1+1+1+1) (v10,L,at_+1+1+1+1+1+1) (at_:=at_+1+1+1+1+1+1) (by omega) out K
  by_cases cz:refs=[]
  ·have cz':eqI (lenL refs) 0=true:=by rw[cz];rfl
   by_cases c3:v6=3
   ·obtain⟨t,f1,mt_⟩:=some_ok (L:=L) (at_:=a1) (l:=[gN,tO]) hL (by omega) (by omega) (by decide) (by decide)
    refine⟨a1+1,_,ct (neI_t c1) (bs f0 (ct cz' (ct (eqI_t c3) (bs f1 (bs (ap _) rfl))))),ra_mk hk6 h5 h6 (one_ref hk6) ⟨fun h=>absurd h c1,fun h=>(by cases h)⟩ ⟨p7,q7⟩ h10 h8 ⟨fun r hr=>(by cases hr),by simp⟩ ⟨fun _=>rfl,fun _=>c3⟩ (.inl ⟨c3,mt_⟩),rfl,by omega,by omega⟩
   ·obtain⟨n,f1,n1,n2⟩:=range_ok (L:=L) (at_:=a1) (lo:=1) (hi:=2) hL (by omega) (by omega) (by decide) (by decide) (by decide)
    obtain⟨a',areas,f2,g1,g2,g3,g4⟩:=areas_drawn hL K (L,at_,out,K,(i:Int)) k (v5,L,at_+1) (v6,L,at_+1+1) (v7,L,at_+1+1+1) (v8,L,at_+1+1+1+1) (v9,L,at_+1+1+1+1+1) (v10,L,at_+1+1+1+1+1+1) (n:=n) (L,a1+1) ⟨n1,n2⟩ (at_:=a1+1) (by omega) out [gY] K
    refine⟨a',_,ct (neI_t c1) (bs f0 (ct cz' (cf (eqI_f c3) (bs f1 (bs f2 (bs (ap _) rfl)))))),ra_mk hk6 h5 h6 (one_ref hk6) ⟨fun h=>absurd h c1,fun h=>(by cases h)⟩ ⟨p7,q7⟩ h10 h8 ⟨g1,show areas.length≤2 by omega⟩ ⟨fun h=>absurd h c3,fun h=>absurd h (len_ne g2 n1)⟩ (.inr ⟨c3,m9⟩),rfl,by omega,by omega⟩
  ·have cz':eqI (lenL refs) 0=false:=by
    rw[lenL_eq]
    refine eqI_f fun h=>cz ?_
    exact List.length_eq_zero_iff.1 (by omega)
   by_cases c3:v6=3
   ·obtain⟨t,f1,mt_⟩:=some_ok (L:=L) (at_:=a1) (l:=[gN,tO]) hL (by omega) (by omega) (by decide) (by decide)
    refine⟨a1+1,_,ct (neI_t c1) (bs f0 (cf cz' (ct (eqI_t c3) (bs f1 (bs (ap _) rfl))))),ra_mk hk6 h5 h6 r1 ⟨fun h=>absurd h c1,fun h=>absurd h cz⟩ ⟨p7,q7⟩ h10 h8 ⟨fun r hr=>(by cases hr),by simp⟩ ⟨fun _=>rfl,fun _=>c3⟩ (.inl ⟨c3,mt_⟩),rfl,by omega,by omega⟩
   ·obtain⟨n,f1,n1,n2⟩:=range_ok (L:=L) (at_:=a1) (lo:=1) (hi:=2) hL (by omega) (by omega) (by decide) (by decide) (by decide)
    obtain⟨a',areas,f2,g1,g2,g3,g4⟩:=areas_drawn hL K (L,at_,out,K,(i:Int)) k (v5,L,at_+1) (v6,L,at_+1+1) (v7,L,at_+1+1+1) (v8,L,at_+1+1+1+1) (v9,L,at_+1+1+1+1+1) (v10,L,at_+1+1+1+1+1+1) (n:=n) (L,a1+1) ⟨n1,n2⟩ (at_:=a1+1) (by omega) out refs K
    refine⟨a',_,ct (neI_t c1) (bs f0 (cf cz' (cf (eqI_f c3) (bs f1 (bs f2 (bs (ap _) rfl)))))),ra_mk hk6 h5 h6 r1 ⟨fun h=>absurd h c1,fun h=>absurd h cz⟩ ⟨p7,q7⟩ h10 h8 ⟨g1,show areas.length≤2 by omega⟩ ⟨fun h=>absurd h c3,fun h=>absurd h (len_ne g2 n1)⟩ (.inr ⟨c3,m9⟩),rfl,by omega,by omega⟩
end Go.Abs.TUD
set_option linter.unusedVariables false
set_option linter.unusedSimpArgs false
set_option maxRecDepth 10000
namespace Go.Abs.TUD
open Go.RowKit Go.Proofs Go.Abs R
theorem leS_iff(a b:ByteArray):leS a b=true↔ltS b a=false:=by
 cases h:ltS b a with
 | true=>rw[leS_false.2 h];simp
 | false=>
   cases h2:leS a b with
   | true=>simp
   | false=>rw[leS_false.1 h2]at h;cases h
theorem leS_tot(a b:ByteArray):leS a b=true∨leS b a=true:=by
 rw[leS_iff,leS_iff]
 rcases ltS_total a b with h|h|h
 ·refine .inl ?_
  cases h2:ltS b a with
  | false=>rfl
  | true=>have:=ltS_trans h h2;rw[ltS_irrefl]at this;cases this
 ·rw[h];exact .inl (ltS_irrefl _)
 ·refine .inr ?_
  cases h2:ltS a b with
  | false=>rfl
  | true=>have:=ltS_trans h h2;rw[ltS_irrefl]at this;cases this
theorem leS_tr{a b c:ByteArray}(h1:leS a b=true)(h2:leS b c=true):leS a c=true:=by
 rw[leS_iff]at *
 cases h:ltS c a with
 | false=>rfl
 | true=>
   rcases ltS_total b a with g|g|g
   ·rw[g]at h1;cases h1
   ·rw[g,h]at h2;cases h2
   ·have:=ltS_trans h g
    rw[this]at h2;cases h2
def AB(a b:S46):Prop:=a.f4<b.f4∨(a.f4=b.f4∧leS a.f0 b.f0=true)
theorem ab_tot(a b:S46):AB a b∨AB b a:=by
 unfold AB
 have:=leS_tot a.f0 b.f0
 rcases Int.lt_trichotomy a.f4 b.f4 with h|h|h
 ·exact .inl (.inl h)
 ·rcases this with g|g
  ·exact .inl (.inr ⟨h,g⟩)
  ·exact .inr (.inr ⟨h.symm,g⟩)
 ·exact .inr (.inl h)
theorem ab_tr(a b c:S46)(h1:AB a b)(h2:AB b c):AB a c:=by
 unfold AB at *
 rcases h1 with h1|⟨h1,g1⟩
 ·rcases h2 with h2|⟨h2,g2⟩
  ·exact .inl (by omega)
  ·exact .inl (by omega)
 ·rcases h2 with h2|⟨h2,g2⟩
  ·exact .inl (by omega)
  ·exact .inr ⟨by omega,leS_tr g1 g2⟩
theorem order_ok{x y:S46}(hx:RA x)(hy:RA y):∃n,T27 x y=some n∧(n<0↔¬AB y x):=by
 have h1:=hx.at_
 have h2:=hy.at_
 unfold T27 AB
 by_cases h:x.f4=y.f4
 ·cases h3:ltS x.f0 y.f0 with
  | true=>
    refine⟨-1,cf (neI_f h) rfl,⟨fun _ hc=>?_,fun _=>by omega⟩⟩
    rcases hc with hc|⟨_,hc⟩
    ·omega
    ·rw[leS_iff,h3]at hc;cases hc
  | false=>
    refine⟨1,cf (neI_f h) rfl,⟨fun hc=>by omega,fun hc=>?_⟩⟩
    exact absurd (.inr ⟨h.symm,(leS_iff _ _).2 h3⟩) hc
 ·refine⟨x.f4-y.f4,ct (neI_t h) (by rw[subI_eq (by omega) (by omega)]),⟨fun hc hd=>?_,fun hc=>?_⟩⟩
  ·rcases hd with hd|⟨hd,_⟩
   ·omega
   ·omega
  ·have:¬y.f4<x.f4:=fun g=>hc (.inl g)
   omega
structure Als(l:List S46):Prop where
 all:∀a∈l,RA a
 ord:l.Pairwise AB
 ids:(l.map (·.f0)).Nodup
theorem alerts_drawn{L:List Int}(hL:L.length≤1048576){at_ most:Int}(h0:0≤at_∧at_≤1000)(hm:0≤most∧most≤6):∃l a',T6 L at_ most=some (l,L,a')∧Als l∧(l.length:Int)≤most∧at_≤a'∧a'≤at_+200∧∀x∈l,x.f0∈I6.take most.toNat:=by
 obtain⟨n,e1,n1,n2⟩:=range_ok (L:=L) (at_:=at_) (lo:=0) (hi:=most) hL (by omega) (by omega) (by omega) (by omega) (by omega)
 obtain⟨m,rfl⟩:∃m:Nat,n=m:=⟨n.toNat,by omega⟩
 have e2:cutN I6 (m:Int)=some (I6.take m):=by
  unfold cutN
  rw[if_pos (by omega),Int.toNat_natCast,if_pos (show m≤I6.length by simp only[List.length_cons,List.length_nil];omega)]
 have hKl:(I6.take m).length=m:=by rw[List.length_take];simp only[List.length_cons,List.length_nil];omega
 have hK:∀k∈I6.take m,k∈I6:=fun k hk=>List.mem_of_mem_take hk
 have hK5:∀k∈I6.take m,k∈I6.take most.toNat:=fun k hk=>(List.take_sublist_take_left (show m≤most.toNat by omega)).subset hk
 have hnd:(I6.take m).Nodup:=List.Nodup.sublist (List.take_sublist _ _) (by decide)
 generalize I6.take m=K at *
 let enc:Int×List S46→Nat→List Int×Int×List S46×List ByteArray×Int:=fun s i=>(L,s.1,s.2,K,(i:Int))
 let Inv:Nat→Int×List S46→Prop:=fun i s=>(at_+1≤s.1∧s.1≤at_+1+30*i)∧(∀ a∈s.2,RA a)∧s.2.map (·.f0)=K.take i
 have key:∀(i:Nat) s,i<m→Inv i s→∃s',L6_3 K (enc s i)=some (.inl (enc s' (i+1)))∧Inv (i+1) s':=by
  rintro i ⟨a,out⟩ hi ⟨h1,h2,h3⟩
  simp only at h1 h2 h3
  have hlen:out.length≤10:=by
   have:=congrArg List.length h3
   rw[List.length_map,List.length_take]at this
   omega
  obtain⟨a',x,g1,g2,g3,g4,g5⟩:=alert_drawn hL K hK (i:=i) (by omega) (by omega) (at_:=a) (by omega) out hlen
  refine⟨(a',out++[x]),g1,by simp only;omega,fun y hy=>?_,?_⟩
  ·rcases List.mem_append.1 hy with hy|hy
   ·exact h2 y hy
   ·rw[List.mem_singleton]at hy
    subst hy
    exact g2
  ·rw[List.map_append,h3,take_next (List.getElem?_eq_getElem (show i<K.length by omega))]
   simp only[List.map_cons,List.map_nil,g3]
 have kend:∀s,Inv m s→∃r,L6_3 K (enc s m)=some (.inr r)∧∃a out,r=((m:Int),false,L,a,out,K)∧(∀ x∈out,RA x)∧out.map (·.f0)=K∧at_≤a∧a≤at_+200:=by
  rintro⟨a,out⟩ ⟨h1,h2,h3⟩
  simp only at h1 h2 h3
  have hlt:ltI (m:Int) (lenL K)=false:=ltL_false (by omega)
  refine⟨_,by unfold L6_3;exact cf hlt rfl,a,out,?_,h2,by rw[h3,←hKl,List.take_length],by omega,by omega⟩
  show((m:Int),ltI (m:Int) (lenL K),L,a,out,K)=_
  rw[hlt]
 obtain⟨r,h1,a,out,rfl,k1,k2,k3⟩:=iter_up enc m Inv _ key kend (at_+1,[]) ⟨by simp only;omega,fun c hc=>(by cases hc),by simp⟩
 have h1:iter (L6_3 K) (L,at_+1,[],K,0)=some ((m:Int),false,L,a,out,K):=h1
 have hol:out.length=m:=by
  have:=congrArg List.length k2
  rw[List.length_map]at this
  omega
 obtain⟨l,s1,s2,s3⟩:=sortO_le (fun x y=>T27 x y) AB ab_tot ab_tr out (by omega) (fun x hx y hy=>order_ok (k1 x hx) (k1 y hy))
 refine⟨l,a,?_,⟨fun x hx=>k1 x (s2.mem_iff.1 hx),s3,?_⟩,by rw[s2.length_eq,hol];exact n2,k3.1,k3.2,fun x hx=>hK5 _ (by rw[← k2];exact List.mem_map.2 ⟨x,s2.mem_iff.1 hx,rfl⟩)⟩
 ·unfold T6
  exact bs e1 (bs e2 (bs h1 (bs s1 rfl)))
 ·rw[(s2.map (·.f0)).nodup_iff,k2]
  exact hnd
theorem t95_in{a b c:Int}(h1:b≤a)(h2:a≤c):T30 a b c=some false:=by
 unfold T30
 rw[ltI_f h1,ltI_f h2]
 rfl
theorem t107_in{a:Int}(h1:0≤a)(h2:a<345686400000):T31 a=some true:=by
 unfold T31
 rw[leI_t h1,ltI_t h2]
 rfl
theorem refs_ok{a:S46}(h:RA a):T140 a=some 0:=by
 have hf:=h.refs.few
 obtain⟨r,h1,y,rfl⟩:=iter_up (st:=L140_4 a) (fun(_:Unit) i=>(i:Int)) a.f3.length (fun _ _=>True) (fun r=>∃y,r= .inl y)
  (fun i _ hi _=>by
   have hx:=List.getElem?_eq_getElem hi
   obtain⟨m1,m2⟩:=h.refs.all _ (List.getElem_mem hi)
   have e:=nextI (i:=i) (by omega)
   have hne:eqS a.f3[i] a.f0=false:=by rw[eqS_iff];exact decide_eq_false m2
   refine⟨(),?_,trivial⟩
   unfold L140_4
   refine ct (ltL_true hi) (bs (listAt_some hx) (bs (k_key m1) (cf rfl ?_)))
   rcases Nat.eq_zero_or_pos i with hz|hz
   ·refine cf (by rw[hz];rfl) (cf hne ?_)
    rw[e]
   ·obtain⟨d,hd⟩:∃d,a.f3[i-1]? = some d:=⟨_,List.getElem?_eq_getElem (by omega)⟩
    have hlt:ltS d a.f3[i]=true:=by
     have:=List.pairwise_iff_getElem.1 h.refs.ord (i-1) i (by omega) hi (by omega)
     rw[(List.getElem?_eq_some_iff.1 hd).2]at this
     exact this
    refine ct (ltI_t (by omega)) (bs (by rw[prevI hz (by omega)];exact listAt_some hd) (cf (leS_false.2 hlt) (cf hne ?_)))
    rw[e])
  (fun _ _=>⟨_,by unfold L140_4;exact cf (ltL_false (Nat.le_refl _)) rfl,_,rfl⟩) () trivial
 have h1:iter (L140_4 a) 0=some (.inl y):=h1
 unfold T140
 refine cf (by rw[lenL_eq];exact ltI_f (by omega)) (bs h1 (si (cf ?_ rfl)))
 have hn:=h.new
 by_cases c:a.f2=1
 ·rw[eqI_t c,hn.1 c];rfl
 ·have c2:a.f3≠[]:=fun e=>c (hn.2 e)
  have:(a.f3.length:Int)≠0:=fun e=>c2 (List.length_eq_zero_iff.1 (by omega))
  rw[eqI_f c,lenL_eq,eqI_f this]
  rfl
theorem text_ok{s:ByteArray}(h:s∈[gN,tO,tF,tM]):T141 s=some true∧ltI 500 (lenS s)=false:=by
 simp only[List.mem_cons,List.not_mem_nil,or_false]at h
 rcases h with rfl|rfl|rfl|rfl<;>exact⟨by kernel_rfl,by kernel_rfl⟩
theorem alert_ok{a:S46}(h:RA a):T87 a=some 0:=by
 have hf:=h.areas.2
 have hat:=h.at_
 have hun:=h.til
 have hw:=h.weight
 obtain⟨r,h1,y,rfl⟩:=iter_up (st:=L87_13 a) (fun(_:Unit) i=>(i:Int)) a.f7.length (fun _ _=>True) (fun r=>∃y,r= .inl y)
  (fun i _ hi _=>by
   have hx:=List.getElem?_eq_getElem hi
   have hr:=h.areas.1 _ (List.getElem_mem hi)
   refine⟨(),?_,trivial⟩
   unfold L87_13
   refine ct (ltL_true hi) (bs (listAt_some hx) (bs (rect_ok (sm_W hr)) (cf rfl ?_)))
   rw[nextI (i:=i) (by omega)])
  (fun _ _=>⟨_,by unfold L87_13;exact cf (ltL_false (Nat.le_refl _)) rfl,_,rfl⟩) () trivial
 have h1:iter (L87_13 a) 0=some (.inl y):=h1
 have hc:=h.cancel
 have htx:a.f8∈[gN,tO,tF,tM]:=by
  have:=h.text
  simp only[List.mem_cons,List.not_mem_nil,or_false]at this ⊢
  rcases this with⟨_,g|g⟩|⟨_,g|g⟩<;>simp[g]
 obtain⟨t1,t2⟩:=text_ok htx
 unfold T87
 refine bs (k_key (i6_all h.id)) (cf rfl (bs (k_key h.sender) (cf rfl (bs (t95_in h.kind.1 h.kind.2) (cf rfl (bs (refs_ok h) (cf rfl ?_)))))))
 refine bs (t107_in hat.1 (by omega)) (cf rfl (bs (t95_in (by rw[addI_eq (by omega) (by omega)];omega) (by rw[addI_eq (by omega) (by omega)];omega)) (cf rfl (bs (t95_in hw.1 hw.2) (cf rfl ?_)))))
 refine cf (by rw[lenL_eq];exact ltI_f (by omega)) (bs h1 (si (cf ?_ (cf t2 (bs t1 (cf rfl ?_))))))
 ·by_cases c:a.f2=3
  ·rw[eqI_t c,hc.1 c];rfl
  ·have c2:a.f7≠[]:=fun e=>c (hc.2 e)
   have:(a.f7.length:Int)≠0:=fun e=>c2 (List.length_eq_zero_iff.1 (by omega))
   rw[eqI_f c,lenL_eq,eqI_f this]
   rfl
 ·rcases h.text with⟨c,_⟩|⟨c,g⟩
  ·cases eqS a.f8 (ByteArray.mk #[])with
   | true=>exact ct rfl (cf (by rw[eqI_t c];rfl) rfl)
   | false=>rfl
  ·refine cf ?_ rfl
   rw[eqS_iff]
   refine decide_eq_false ?_
   simp only[List.mem_cons,List.not_mem_nil,or_false]at g
   rcases g with g|g<;>rw[g]<;>decide
end Go.Abs.TUD
set_option linter.unusedVariables false
set_option linter.unusedSimpArgs false
set_option maxRecDepth 10000
namespace Go.Abs.TUD
open Go.RowKit Go.Proofs Go.Abs R
theorem T163_eq(x:Int):T163 x=some false:=by unfold T163;rw[neI_no]
theorem cmp_spec:∀x y:List UInt8,Lib.compareBytes x y=if Op.bytesLess x y=true then -1 else if Op.bytesLess y x=true then 1 else 0
 | [],[]=>rfl
 | [],_::_=>rfl
 | _::_,[]=>rfl
 | a::x,b::y=>by
   have ih:=cmp_spec x y
   simp only[Lib.compareBytes,Op.bytesLess]
   by_cases h1:a<b
   ·simp[h1]
   ·by_cases h2:b<a
    ·have h3:¬a=b:=fun e=>by subst e;exact h1 h2
     simp[h1,h2,h3]
    ·have h3:a=b:=UInt8.toNat_inj.1 (by
      have h4:=UInt8.lt_iff_toNat_lt (a:=a) (b:=b)
      have h5:=UInt8.lt_iff_toNat_lt (a:=b) (b:=a)
      rw[h4]at h1
      rw[h5]at h2
      omega)
     subst h3
     simp[h1,ih]
theorem cmpS_eq(a b:ByteArray):cmpS a b=if ltS a b=true then -1 else if ltS b a=true then 1 else 0:=by
 unfold cmpS
 rw[cmp_spec,ltS_eq,ltS_eq]
theorem t146(x y:Int):T135 x y=some (if x<y then -1 else if y<x then 1 else 0):=by
 unfold T135
 refine bs (T163_eq x) (bs (T163_eq y) (cf rfl (cf rfl ?_)))
 by_cases h:x<y
 ·rw[ltI_t h,if_pos h];rfl
 ·rw[ltI_f (by omega),if_neg h]
  by_cases h2:y<x
  ·rw[ltI_t h2,if_pos h2];rfl
  ·rw[ltI_f (by omega),if_neg h2];rfl
def first0:List Int→Int
 | []=>0
 | x::l=>if x≠0 then x else first0 l
theorem or_ok(a b c:Int):T37 [a,b,c]=some (if a≠0 then a else if b≠0 then b else c):=by
 unfold T37
 have st:∀(i:Nat)(x:Int),([a,b,c]:List Int)[i]? = some x→L37_3 [a,b,c] (i:Int)=some (if x≠0 then .inr (.inr x)else .inl ((i+1:Nat):Int)):=by
  intro i x hx
  have hi:i<([a,b,c]:List Int).length:=(List.getElem?_eq_some_iff.1 hx).1
  unfold L37_3
  refine ct (ltL_true hi) (bs (listAt_some hx) ?_)
  by_cases h:x=0
  ·rw[neI_f h,if_neg (by simp[h]),nextI (by simp at hi;omega)]
   rfl
  ·rw[neI_t h,if_pos h]
   rfl
 have en:L37_3 [a,b,c] ((3:Nat):Int)=some (.inr (.inl (3,false))):=rfl
 have s0:=st 0 a rfl
 have s1:=st 1 b rfl
 have s2:=st 2 c rfl
 by_cases ha:a≠0
 ·rw[if_pos ha]at s0 ⊢
  rw[show (0:Int)=((0:Nat):Int)from rfl,iter_inr s0]
  rfl
 ·rw[if_neg ha]at s0 ⊢
  by_cases hb:b≠0
  ·rw[if_pos hb]at s1 ⊢
   rw[show (0:Int)=((0:Nat):Int)from rfl,iter_inl s0,iter_inr s1]
   rfl
  ·rw[if_neg hb]at s1 ⊢
   by_cases hc:c≠0
   ·rw[if_pos hc]at s2
    rw[show (0:Int)=((0:Nat):Int)from rfl,iter_inl s0,iter_inl s1,iter_inr s2]
    rfl
   ·rw[if_neg hc]at s2
    have hc:c=0:=by omega
    rw[show (0:Int)=((0:Nat):Int)from rfl,iter_inl s0,iter_inl s1,iter_inl s2,iter_inr en,hc]
    rfl
theorem or2_ok(a b:Int):T37 [a,b]=some (if a≠0 then a else b):=by
 unfold T37
 have st:∀(i:Nat)(x:Int),([a,b]:List Int)[i]? = some x→L37_3 [a,b] (i:Int)=some (if x≠0 then .inr (.inr x)else .inl ((i+1:Nat):Int)):=by
  intro i x hx
  have hi:i<([a,b]:List Int).length:=(List.getElem?_eq_some_iff.1 hx).1
  unfold L37_3
  refine ct (ltL_true hi) (bs (listAt_some hx) ?_)
  by_cases h:x=0
  ·rw[neI_f h,if_neg (by simp[h]),nextI (by simp at hi;omega)]
   rfl
  ·rw[neI_t h,if_pos h]
   rfl
 have en:L37_3 [a,b] ((2:Nat):Int)=some (.inr (.inl (2,false))):=rfl
 have s0:=st 0 a rfl
 have s1:=st 1 b rfl
 by_cases ha:a≠0
 ·rw[if_pos ha]at s0 ⊢
  rw[show (0:Int)=((0:Nat):Int)from rfl,iter_inr s0]
  rfl
 ·rw[if_neg ha]at s0 ⊢
  by_cases hb:b≠0
  ·rw[if_pos hb]at s1
   rw[show (0:Int)=((0:Nat):Int)from rfl,iter_inl s0,iter_inr s1]
   rfl
  ·rw[if_neg hb]at s1
   have hb:b=0:=by omega
   rw[show (0:Int)=((0:Nat):Int)from rfl,iter_inl s0,iter_inl s1,iter_inr en,hb]
   rfl
def Bef(x y:S46):Prop:=x.f4<y.f4∨(x.f4=y.f4∧ltS x.f0 y.f0=true)
theorem cmp127(x y:S46):∃n,T84 x y=some n∧(n<0↔Bef x y):=by
 unfold T84
 refine⟨_,bs (t146 _ _) (bs (a:=cmpS x.f0 y.f0) rfl (bs (or2_ok _ _) rfl)),?_⟩
 unfold Bef
 by_cases h1:x.f4<y.f4
 ·simp[h1]
 ·by_cases h2:y.f4<x.f4
  ·simp[h1,h2]
   intro h3
   omega
  ·have h3:x.f4=y.f4:=by omega
   rw[cmpS_eq]
   simp only[h1,h2,h3,if_false,ne_eq,not_true_eq_false]
   cases g1:ltS x.f0 y.f0 with
   | true=>simp
   | false=>
     simp only[Bool.false_eq_true,if_false,and_false,or_false]
     cases g2:ltS y.f0 x.f0<;>simp
theorem als_ids{l:List S46}(h:Als l){i j:Nat}(hi:i<l.length)(hj:j<l.length)(e:l[i].f0=l[j].f0):i=j:=by
 have hn:(l.map (·.f0)).Pairwise (· ≠ ·):=h.ids
 rcases Nat.lt_trichotomy i j with hij|hij|hij
 ·have:=List.pairwise_iff_getElem.1 hn i j (by simpa using hi) (by simpa using hj) hij
  simp only[List.getElem_map]at this
  exact absurd e this
 ·exact hij
 ·have:=List.pairwise_iff_getElem.1 hn j i (by simpa using hj) (by simpa using hi) hij
  simp only[List.getElem_map]at this
  exact absurd e.symm this
theorem als_bef{l:List S46}(h:Als l){i j:Nat}(hi:i<l.length)(hj:j<l.length)(hij:i<j):Bef l[i] l[j]:=by
 rcases List.pairwise_iff_getElem.1 h.ord i j hi hj hij with h1|⟨h1,h2⟩
 ·exact .inl h1
 ·refine .inr ⟨h1,?_⟩
  rw[leS_iff]at h2
  rcases ltS_total l[i].f0 l[j].f0 with g|g|g
  ·exact g
  ·have:=als_ids h hi hj g
   omega
  ·rw[g]at h2;cases h2
end Go.Abs.TUD
set_option linter.unusedVariables false
set_option linter.unusedSimpArgs false
set_option maxRecDepth 10000
namespace Go.Abs.TUD
open Go.RowKit Go.Proofs Go.Abs R
theorem list_ok{l:List S46}(h:Als l)(hl:l.length≤100):T50 l=some 0:=by
 obtain⟨r,h1,y,rfl⟩:=iter_up (st:=L50_4 l) (fun(_:Unit) i=>(i:Int)) l.length (fun _ _=>True) (fun r=>∃y,r= .inl y)
  (fun i _ hi _=>by
   have hx:=List.getElem?_eq_getElem hi
   refine⟨(),?_,trivial⟩
   unfold L50_4
   refine ct (ltL_true hi) (bs (listAt_some hx) (bs (alert_ok (h.all _ (List.getElem_mem hi))) (cf rfl ?_)))
   rcases Nat.eq_zero_or_pos i with hz|hz
   ·refine cf (by rw[hz];rfl) ?_
    rw[nextI (by omega)]
   ·have hp:=List.getElem?_eq_getElem (show i-1<l.length by omega)
    obtain⟨n,n1,n2⟩:=cmp127 l[i-1] l[i]
    have hn:n<0:=n2.2 (als_bef h (by omega) hi (by omega))
    refine ct (ltI_t (by omega)) (bs (by rw[prevI hz (by omega)];exact listAt_some hp) (bs n1 (cf (leI_f hn) ?_)))
    rw[nextI (by omega)])
  (fun _ _=>⟨_,by unfold L50_4;exact cf (ltL_false (Nat.le_refl _)) rfl,_,rfl⟩) () trivial
 obtain⟨r2,h2,y2,rfl⟩:=iter_up (st:=L50_14 l) (fun(m:List (ByteArray×Bool)) i=>(m,(i:Int))) l.length (fun i m=>m.map (·.1)=(l.take i).map (·.f0)) (fun r=>∃y,r= .inl y)
  (fun i m hi hm=>by
   have hx:=List.getElem?_eq_getElem hi
   have hnot:l[i].f0∉m.map (·.1):=by
    rw[hm]
    intro hmem
    obtain⟨a,ha,hae⟩:=List.mem_map.1 hmem
    obtain⟨j,hj,rfl⟩:=List.getElem_of_mem ha
    rw[List.getElem_take]at hae
    have hj':j<i:=by simp at hj;omega
    have:=als_ids h (i:=j) (j:=i) (by omega) hi hae
    omega
   refine⟨m++[(l[i].f0,true)],?_,?_⟩
   ·unfold L50_14
    refine ct (ltL_true hi) (bs (listAt_some hx) (cf (by rw[mget_none hnot];rfl) (bs (congrArg some (mset_new true hnot)) ?_)))
    simp only
    rw[nextI (by omega)]
   ·rw[List.map_append,hm,take_next hx,List.map_append]
    rfl)
  (fun m _=>⟨_,by unfold L50_14;exact cf (ltL_false (Nat.le_refl _)) rfl,_,rfl⟩) [] (by simp)
 have h1:iter (L50_4 l) 0=some (.inl y):=h1
 have h2:iter (L50_14 l) ([],0)=some (.inl y2):=h2
 unfold T50
 exact cf (ltI_f (by rw[lenL_eq];omega)) (bs h1 (si (bs h2 rfl)))
abbrev pA:ByteArray:=ByteArray.mk #[112,97]
theorem one_ok{a:S46}(h:RA a):T50 [a]=some 0:=by
 have n0:addI .i64 0 1=1:=by decide
 have s0:L50_4 [a] 0=some (.inl 1):=by
  unfold L50_4
  refine ct rfl (bs (a:=a) rfl (bs (alert_ok h) (cf rfl (cf rfl ?_))))
  rw[n0]
 have s1:L50_4 [a] 1=some (.inr (.inl (1,false))):=by
  unfold L50_4
  exact cf rfl rfl
 have u0:L50_14 [a] ([],0)=some (.inl ([(a.f0,true)],1)):=by
  unfold L50_14
  refine ct rfl (bs (a:=a) rfl (cf rfl (bs (a:=[(a.f0,true)]) rfl ?_)))
  rw[n0]
 have u1:L50_14 [a] ([(a.f0,true)],1)=some (.inr (.inl (1,false,[(a.f0,true)]))):=by
  unfold L50_14
  exact cf rfl rfl
 unfold T50
 refine cf rfl (bs ((iter_inl s0).trans (iter_inr s1)) (si (bs ((iter_inl u0).trans (iter_inr u1)) rfl)))
theorem t159{r:S64}(hw:W r)(c:ByteArray)(x y:Int):T70 r c x y=some (hasB x y r):=by
 unfold T70 hasB
 cases leI r.f0 x<;>cases ltI x (addI .i64 r.f0 r.f2)<;>cases leI r.f1 y<;>rfl
end Go.Abs.TUD
set_option linter.unusedVariables false
set_option linter.unusedSimpArgs false
set_option maxRecDepth 10000
namespace Go.Abs.TUD
open Go.RowKit Go.Proofs Go.Abs R
instance befDec (x y:S46):Decidable (Bef x y):=by unfold Bef;infer_instance
def pf(a:S46)(r:ByteArray)(o:S46):Bool:=bif eqS o.f0 r then(bif eqS o.f1 a.f1 then decide (Bef o a)else false)else false
theorem t188(a:S46)(r:ByteArray)(o:S46):T110 o r a.f0 a.f1 a.f2 a.f3 a.f4 a.f5 a.f6 a.f7 a.f8=some (pf a r o):=by
 obtain⟨n,n1,n2⟩:=cmp127 o a
 unfold T110 pf
 cases eqS o.f0 r with
 | false=>rfl
 | true=>
   cases eqS o.f1 a.f1 with
   | false=>rfl
   | true=>
     refine ct rfl (ct rfl (bs n1 ?_))
     by_cases hb:Bef o a
     ·rw[ltI_t (n2.2 hb)]
      simp[hb]
     ·rw[ltI_f (by
       by_cases c:n<0
       ·exact absurd (n2.1 c) hb
       ·omega)]
      simp[hb]
theorem pf_id{a:S46}{r:ByteArray}{o:S46}(h:pf a r o=true):o.f0=r:=by
 unfold pf at h
 by_cases c:o.f0=r
 ·exact c
 ·rw[show eqS o.f0 r=false by rw[eqS_iff];exact decide_eq_false c]at h
  cases h
theorem find_ok{l:List S46}(h:Als l)(hl:l.length≤100)(a:S46)(r:ByteArray) :
  (T65 l a r=some (-1)∧∀o∈l,pf a r o=false)∨∃(k:Nat)(o:S46),l[k]? = some o∧T65 l a r=some (k:Int)∧pf a r o=true:=by
 have hs:∀(i:Nat) x,l[i]? = some x→L11_2 l r a.f0 a.f1 a.f2 a.f3 a.f4 a.f5 a.f6 a.f7 a.f8 (i:Int)=some (bif pf a r x then .inr (.inr (i:Int))else .inl ((i+1:Nat):Int)):=fun i x hx=>by
  have hi:=(List.getElem?_eq_some_iff.1 hx).1
  unfold L11_2
  refine ct (ltL_true hi) (bs (listAt_some hx) (bs (t188 a r x) ?_))
  rw[nextI (by omega)]
  cases pf a r x<;>rfl
 have he:L11_2 l r a.f0 a.f1 a.f2 a.f3 a.f4 a.f5 a.f6 a.f7 a.f8 (l.length:Int)=some (.inr (.inl ((l.length:Int),false))):=by
  unfold L11_2
  rw[ltL_false (Nat.le_refl _)]
  rfl
 rcases idx_iter (pf a r) (by omega) hs he with⟨h1,h2⟩|⟨k,x,h1,h2,h3,_⟩
 ·refine .inl ⟨?_,h2⟩
  unfold T65 T11
  exact bs (bs h1 rfl) rfl
 ·refine .inr ⟨k,x,h1,?_,h3⟩
  unfold T65 T11
  exact bs (bs h2 rfl) rfl
def Ends(z a:S46):Prop:=∃r∈a.f3,pf a r z=true
theorem refs_ok2{l:List S46}(h:Als l)(hl:l.length≤100){a:S46}(ha:a.f3.length≤100)(z1:List Int×Int)(es:List Int)(hes:es.length=l.length) :
  ∃es',iter (L33_11 l z1 a) (es,0)=some ((a.f3.length:Int),false,es')∧es'.length=l.length∧∀(i:Nat) z x x',l[i]? = some z→es[i]? = some x→es'[i]? = some x'→∀t,t<x'↔t<x∧(Ends z a→t<a.f4):=by
 obtain⟨r,h1,es',rfl,h2,h3⟩:=iter_up (st:=L33_11 l z1 a) (fun(s:List Int)(i:Nat)=>(s,(i:Int))) a.f3.length
  (fun j s=>s.length=l.length∧∀(i:Nat) z x x',l[i]? = some z→es[i]? = some x→s[i]? = some x'→∀t,t<x'↔t<x∧((∃ r∈a.f3.take j,pf a r z=true)→t<a.f4))
  (fun r=>∃es',r=((a.f3.length:Int),false,es')∧es'.length=l.length∧∀(i:Nat) z x x',l[i]? = some z→es[i]? = some x→es'[i]? = some x'→∀t,t<x'↔t<x∧(Ends z a→t<a.f4))
  (fun j s hj hI=>by
   obtain⟨hI1,hI2⟩:=hI
   have hx:=List.getElem?_eq_getElem hj
   have mem:∀r,r∈a.f3.take (j+1)↔r∈a.f3.take j∨r=a.f3[j]:=fun r=>by
    rw[take_next hx,List.mem_append,List.mem_singleton]
   rcases find_ok h hl a a.f3[j]with⟨f1,f2⟩|⟨k,o,f1,f2,f3⟩
   ·refine⟨s,?_,hI1,fun i z x x' hz hx0 hx1 t=>?_⟩
    ·unfold L33_11
     refine ct (ltL_true hj) (bs (listAt_some hx) (bs f1 (cf rfl ?_)))
     rw[nextI (by omega)]
    ·rw[hI2 i z x x' hz hx0 hx1 t]
     constructor
     ·rintro⟨g1,g2⟩
      refine⟨g1,fun⟨r,hr,hp⟩=>?_⟩
      rcases(mem r).1 hr with hr|rfl
      ·exact g2 ⟨r,hr,hp⟩
      ·rw[f2 z (List.mem_of_getElem? hz)]at hp
       cases hp
     ·rintro⟨g1,g2⟩
      exact⟨g1,fun⟨r,hr,hp⟩=>g2 ⟨r,(mem r).2 (.inl hr),hp⟩⟩
   ·have hk:k<l.length:=(List.getElem?_eq_some_iff.1 f1).1
    have hks:k<s.length:=by omega
    have hy:=List.getElem?_eq_getElem hks
    refine⟨s.set k (minI s[k] a.f4),?_,by rw[List.length_set];exact hI1,fun i z x x' hz hx0 hx1 t=>?_⟩
    ·unfold L33_11
     refine ct (ltL_true hj) (bs (listAt_some hx) (bs f2 (ct (leI_t (by omega)) (bs (idx_nat hks) (bs (getN_some hy) (bs (idx_nat hks) (bs (getN_some hy) ?_)))))))
     simp only
     rw[nextI (by omega)]
    ·by_cases hik:i=k
     ·subst hik
      rw[List.getElem?_set_self hks]at hx1
      cases hx1
      rw[f1]at hz
      cases hz
      have:=hI2 i o x s[i] f1 hx0 hy t
      rw[minI_eq]
      constructor
      ·intro g
       have g1:t<s[i]:=by omega
       exact⟨(this.1 g1).1,fun _=>by omega⟩
      ·rintro⟨g1,g2⟩
       have g3:t<a.f4:=g2 ⟨_,(mem _).2 (.inr rfl),f3⟩
       have g4:t<s[i]:=this.2 ⟨g1,fun _=>g3⟩
       omega
     ·rw[List.getElem?_set_ne (fun e=>hik e.symm)]at hx1
      rw[hI2 i z x x' hz hx0 hx1 t]
      have hno:pf a a.f3[j] z=false:=by
       cases hp:pf a a.f3[j] z with
       | false=>rfl
       | true=>
         have e1:=pf_id hp
         have e2:=pf_id f3
         have hi':=(List.getElem?_eq_some_iff.1 hz)
         have hk':=(List.getElem?_eq_some_iff.1 f1)
         have:=als_ids h (i:=i) (j:=k) hi'.1 hk (by rw[hi'.2,hk'.2,e1,e2])
         exact absurd this hik
      constructor
      ·rintro⟨g1,g2⟩
       refine⟨g1,fun⟨r,hr,hp⟩=>?_⟩
       rcases(mem r).1 hr with hr|rfl
       ·exact g2 ⟨r,hr,hp⟩
       ·rw[hno]at hp
        cases hp
      ·rintro⟨g1,g2⟩
       exact⟨g1,fun⟨r,hr,hp⟩=>g2 ⟨r,(mem r).2 (.inl hr),hp⟩⟩)
  (fun s hI=>by
   obtain⟨hI1,hI2⟩:=hI
   refine⟨((a.f3.length:Int),false,s),?_,s,rfl,hI1,?_⟩
   ·unfold L33_11
    refine cf (ltL_false (Nat.le_refl _)) ?_
    rw[ltL_false (Nat.le_refl _)]
   ·intro i z x x' hz hx0 hx1 t
    rw[hI2 i z x x' hz hx0 hx1 t,List.take_length]
    rfl) es ⟨hes,fun i z x x' hz hx0 hx1 t=>by
   rw[hx0]at hx1
   cases hx1
   simp⟩
 exact⟨es',h1,h2,h3⟩
structure EndsOf(l:List S46)(es:List Int):Prop where
 len:es.length=l.length
 at_:∀(i:Nat) z x,l[i]? = some z→es[i]? = some x→∀t,t<x↔t<z.f5∧∀a∈l,Ends z a→t<a.f4
theorem ends_ok{l:List S46}(h:Als l)(hl:l.length≤100):∃es,T33 l=some es∧EndsOf l es:=by
 obtain⟨r,h1,rfl⟩:=iter_up (st:=L33_3 l) (fun(s:List Int)(i:Nat)=>(s,(i:Int))) l.length (fun i s=>s=(l.take i).map (·.f5))
  (fun r=>r=((l.length:Int),false,l.map (·.f5)))
  (fun i s hi hI=>by
   have hx:=List.getElem?_eq_getElem hi
   subst hI
   refine⟨_,?_,rfl⟩
   unfold L33_3
   refine ct (ltL_true hi) (bs (listAt_some hx) (bs (appO_big (by omega) (by simp;omega)) ?_))
   simp only
   rw[nextI (by omega),take_next hx,List.map_append]
   rfl)
  (fun s hI=>by
   subst hI
   refine⟨_,?_,rfl⟩
   unfold L33_3
   rw[List.take_length]
   refine cf (ltL_false (Nat.le_refl _)) ?_
   rw[ltL_false (Nat.le_refl _)]) [] (by simp)
 obtain⟨r2,h2,es,rfl,h3⟩:=iter_up (st:=L33_8 l) (fun(s:List Int)(i:Nat)=>(s,(i:Int))) l.length
  (fun k s=>s.length=l.length∧∀(i:Nat) z x,l[i]? = some z→s[i]? = some x→∀t,t<x↔t<z.f5∧∀a∈l.take k,Ends z a→t<a.f4)
  (fun r=>∃es,r=((l.length:Int),false,es)∧EndsOf l es)
  (fun k s hk hI=>by
   obtain⟨hI1,hI2⟩:=hI
   have hx:=List.getElem?_eq_getElem hk
   have hrl:=(h.all _ (List.getElem_mem hk)).refs.few
   obtain⟨es',g1,g2,g3⟩:=refs_ok2 h hl (a:=l[k]) (by omega) (s,(k:Int)) s hI1
   refine⟨es',?_,g2,fun i z x' hz hx1 t=>?_⟩
   ·unfold L33_8
    refine ct (ltL_true hk) (bs (listAt_some hx) (bs g1 ?_))
    simp only
    rw[nextI (by omega)]
   ·have hi:=(List.getElem?_eq_some_iff.1 hz).1
    have hx0:=List.getElem?_eq_getElem (show i<s.length by omega)
    rw[g3 i z _ x' hz hx0 hx1 t,hI2 i z _ hz hx0 t]
    constructor
    ·rintro⟨⟨q1,q2⟩,q3⟩
     refine⟨q1,fun a ha he=>?_⟩
     rw[take_next hx,List.mem_append,List.mem_singleton]at ha
     rcases ha with ha|rfl
     ·exact q2 a ha he
     ·exact q3 he
    ·rintro⟨q1,q2⟩
     refine⟨⟨q1,fun a ha he=>q2 a ?_ he⟩,fun he=>q2 _ ?_ he⟩
     ·rw[take_next hx,List.mem_append]
      exact .inl ha
     ·rw[take_next hx,List.mem_append,List.mem_singleton]
      exact .inr rfl)
  (fun s hI=>by
   obtain⟨hI1,hI2⟩:=hI
   refine⟨((l.length:Int),false,s),?_,s,rfl,hI1,?_⟩
   ·unfold L33_8
    refine cf (ltL_false (Nat.le_refl _)) ?_
    rw[ltL_false (Nat.le_refl _)]
   ·intro i z x hz hx1 t
    rw[hI2 i z x hz hx1 t,List.take_length]) (l.map (·.f5)) ⟨by simp,fun i z x hz hx1 t=>by
   rw[List.getElem?_map,hz]at hx1
   cases hx1
   simp⟩
 have h1:iter (L33_3 l) ([],0)=some ((l.length:Int),false,l.map (·.f5)):=h1
 have h2:iter (L33_8 l) (l.map (·.f5),0)=some ((l.length:Int),false,es):=h2
 refine⟨es,?_,h3⟩
 unfold T33
 exact bs h1 (bs h2 rfl)
end Go.Abs.TUD
set_option linter.unusedVariables false
set_option linter.unusedSimpArgs false
set_option maxRecDepth 10000
namespace Go.Abs.TUD
open Go.RowKit Go.Proofs Go.Abs R
abbrev pB:ByteArray:=ByteArray.mk #[112,98]
abbrev pC:ByteArray:=ByteArray.mk #[112,99]
abbrev P3:List ByteArray:=[pA,pB,pC]
structure OkP(y:S32):Prop where
 key:y.f0∈P3
 x : -2≤y.f1∧y.f1≤10
 y : -2≤y.f2∧y.f2≤10
structure Pos(p:List S32):Prop where
 all:∀y∈p,OkP y
 ord:p.Pairwise fun a b=>ltS a.f0 b.f0=true
 few:p.length≤3
theorem p_key{s:ByteArray}(h:s∈P3):T108 s=some true:=by
 simp only[List.mem_cons,List.not_mem_nil,or_false]at h
 rcases h with rfl|rfl|rfl<;>kernel_rfl
theorem q01:ltS pA pB=true:=by kernel_rfl
theorem q02:ltS pA pC=true:=by kernel_rfl
theorem q12:ltS pB pC=true:=by kernel_rfl
theorem P3_ord{i:Nat}{a e:ByteArray}(hi:P3[i]? = some a)(he:e∈P3.take i):ltS e a=true:=by
 have h3:i<3:=(List.getElem?_eq_some_iff.1 hi).1
 rcases(show i=0∨i=1∨i=2 by omega)with rfl|rfl|rfl
 ·simp at he
 ·cases hi
  simp only[List.take_succ_cons,List.take_zero,List.mem_cons,List.not_mem_nil,or_false]at he
  subst he
  exact q01
 ·cases hi
  simp only[List.take_succ_cons,List.take_zero,List.mem_cons,List.not_mem_nil,or_false]at he
  rcases he with rfl|rfl
  ·exact q02
  ·exact q12
theorem posts_drawn{L:List Int}(hL:L.length≤1048576){at_:Int}(h0:0≤at_∧at_≤1000):∃p a',T7 L at_=some (p,L,a')∧Pos p∧at_≤a'∧a'≤at_+20:=by
 obtain⟨r,h1,a,out,rfl,h2,h3,h4,h5⟩:=iter_up (st:=L7_3) (fun(s:Int×List S32)(i:Nat)=>(L,s.1,s.2,(i:Int))) 3
  (fun i s=>(at_≤s.1∧s.1≤at_+3*i)∧(∀ y∈s.2,OkP y∧y.f0∈P3.take i)∧(s.2.Pairwise fun a b=>ltS a.f0 b.f0=true)∧s.2.length≤i)
  (fun r=>∃a out,r=((3:Int),false,L,a,out)∧(at_≤a∧a≤at_+9)∧(∀ y∈out,OkP y)∧(out.Pairwise fun a b=>ltS a.f0 b.f0=true)∧out.length≤3)
  (fun i s hi hI=>by
   obtain⟨a,out⟩:=s
   obtain⟨i1,i2,i3,i4⟩:=hI
   simp only at i1 i2 i3 i4
   have hk:i<P3.length:=hi
   have hx:=List.getElem?_eq_getElem hk
   obtain⟨b,hb⟩:=flip_ok (L:=L) (at_:=a) (n:=5) hL (by omega) (by omega) (by omega)
   have hlt:ltI (i:Int) (lenL ([ByteArray.mk #[112,97],ByteArray.mk #[112,98],ByteArray.mk #[112,99]]:List ByteArray))=true:=ltL_true hk
   cases b with
   | true=>
     refine⟨(a+1,out),?_,by simp only;omega,fun y hy=>⟨(i2 y hy).1,(List.take_sublist_take_left (Nat.le_succ i)).subset (i2 y hy).2⟩,i3,by simp only;omega⟩
     unfold L7_3
     refine ct hlt (bs (listAt_some hx) (bs hb (cf rfl ?_)))
     simp only
     rw[nextI (by omega)]
   | false=>
     obtain⟨v,hv,v1,v2⟩:=range_ok (L:=L) (at_:=a+1) (lo := -2) (hi:=10) hL (by omega) (by omega) (by omega) (by omega) (by omega)
     obtain⟨w,hw,w1,w2⟩:=range_ok (L:=L) (at_:=a+1+1) (lo := -2) (hi:=10) hL (by omega) (by omega) (by omega) (by omega) (by omega)
     refine⟨(a+1+1+1,out++[⟨P3[i],v,w⟩]),?_,by simp only;omega,fun y hy=>?_,?_,by simp only[List.length_append,List.length_cons,List.length_nil];omega⟩
     ·unfold L7_3
      refine ct hlt (bs (listAt_some hx) (bs hb (ct rfl (bs hv (bs hw (bs (appO_big (by omega) (by simp only[List.length_cons,List.length_nil];omega)) ?_))))))
      simp only
      rw[nextI (by omega)]
     ·rcases List.mem_append.1 hy with hy|hy
      ·exact⟨(i2 y hy).1,(List.take_sublist_take_left (Nat.le_succ i)).subset (i2 y hy).2⟩
      ·rw[List.mem_singleton]at hy
       subst hy
       exact⟨⟨List.getElem_mem hk,⟨v1,v2⟩,⟨w1,w2⟩⟩,by rw[take_next hx];exact List.mem_append_right _ (List.mem_singleton.2 rfl)⟩
     ·simp only
      rw[List.pairwise_append]
      refine⟨i3,List.pairwise_singleton _ _,fun y hy z hz=>?_⟩
      rw[List.mem_singleton]at hz
      subst hz
      exact P3_ord hx (i2 y hy).2)
  (fun s hI=>by
   obtain⟨a,out⟩:=s
   obtain⟨i1,i2,i3,i4⟩:=hI
   simp only at i1 i2 i3 i4
   have hlt:ltI ((3:Nat):Int) (lenL ([ByteArray.mk #[112,97],ByteArray.mk #[112,98],ByteArray.mk #[112,99]]:List ByteArray))=false:=by decide
   exact⟨_,by unfold L7_3;exact cf hlt rfl,a,out,by simp only;rw[hlt];rfl,by omega,fun y hy=>(i2 y hy).1,i3,i4⟩) (at_,[]) ⟨by simp only;omega,fun y hy=>(by cases hy),List.Pairwise.nil,Nat.le_refl 0⟩
 have h1:iter L7_3 (L,at_,[],0)=some ((3:Int),false,L,a,out):=h1
 refine⟨out,a,?_,⟨h3,h4,h5⟩,by omega,by omega⟩
 unfold T7
 exact bs h1 rfl
theorem ltS_no{a b:ByteArray}(h:ltS a b=true):(ltS b a||eqS b a)=false:=by
 cases h1:ltS b a with
 | true=>
   have:=ltS_trans h h1
   rw[ltS_irrefl]at this
   cases this
 | false=>
   rw[eqS_iff]
   show decide (b=a)=false
   refine decide_eq_false fun e=>?_
   rw[e,ltS_irrefl]at h
   cases h
theorem posts_ok{p:List S32}(h:Pos p):T68 p=some 0:=by
 have hl:=h.few
 obtain⟨r,h1,y,rfl⟩:=iter_up (st:=L68_4 p) (fun(_:Unit) i=>(i:Int)) p.length (fun _ _=>True) (fun r=>∃y,r= .inl y)
  (fun i _ hi _=>by
   have hx:=List.getElem?_eq_getElem hi
   have ho:=h.all _ (List.getElem_mem hi)
   have hX:=ho.x
   have hY:=ho.y
   refine⟨(),?_,trivial⟩
   unfold L68_4
   refine ct (ltL_true hi) (bs (listAt_some hx) (bs (p_key ho.key) (cf rfl (bs (t95_in (by omega) (by omega)) (cf rfl (bs (t95_in (by omega) (by omega)) (cf rfl ?_)))))))
   rcases Nat.eq_zero_or_pos i with hz|hz
   ·refine cf (by rw[hz];rfl) ?_
    rw[nextI (by omega)]
   ·have hp:=List.getElem?_eq_getElem (show i-1<p.length by omega)
    refine ct (ltI_t (by omega)) (bs (by rw[prevI hz (by omega)];exact listAt_some hp) (cf (ltS_no (List.pairwise_iff_getElem.1 h.ord (i-1) i (by omega) hi (by omega))) ?_))
    rw[nextI (by omega)])
  (fun _ _=>⟨_,by unfold L68_4;exact cf (ltL_false (Nat.le_refl _)) rfl,_,rfl⟩) () trivial
 have h1:iter (L68_4 p) 0=some (.inl y):=h1
 unfold T68
 exact cf (ltI_f (by rw[lenL_eq];omega)) (bs h1 rfl)
theorem pos_one{y:S32}(h:OkP y):Pos [y]:=⟨fun z hz=>by rw[List.mem_singleton]at hz;rw[hz];exact h,List.pairwise_singleton _ _,by simp⟩
def rc(a:S46)(y:S32):Bool:=a.f7.any (hasB y.f1 y.f2)
theorem t40_ok{a:S46}(h:RA a){y:S32}:T40 a y=some (rc a y):=by
 have hf:=h.areas.2
 obtain⟨v,h1,h2⟩:=any_iter (st:=L120_2 a.f7 y.f0 y.f1 y.f2) (l:=a.f7) (hasB y.f1 y.f2) (by omega) (fun i r hr=>by
  have hi:=(List.getElem?_eq_some_iff.1 hr).1
  unfold L120_2
  simp only[ltL_true hi,cond_true,listAt_some hr,Option.bind_some,t159 (sm_W (h.areas.1 r (List.mem_of_getElem? hr))),nextI (i:=i) (by omega)]
  cases hasB y.f1 y.f2 r<;>rfl) (by unfold L120_2;rw[ltL_false (Nat.le_refl _)];rfl)
 unfold T40 T69 T120
 exact bs (bs h1 (congrArg some h2)) rfl
theorem reaches_ok{a:S46}(h:RA a){y:S32}(hy:OkP y):T15 a y=some (rc a y,0):=by
 unfold T15 T39
 exact bs (bs (one_ok h) (cf (neI_no 0) (bs (posts_ok (pos_one hy)) rfl))) (cf (neI_no 0) (bs (t40_ok h) rfl))
theorem lists_ok{l:List S46}(h:Als l)(hl:l.length≤100){p:List S32}(hp:Pos p):T39 l p=some 0:=by
 unfold T39
 exact bs (list_ok h hl) (cf (neI_no 0) (bs (posts_ok hp) rfl))
theorem should_ok{a:S46}(h:RA a)(e:Int)(y:S32)(t:Int):∃b,T34 a e y t=some b∧(b=true→rc a y=true):=by
 unfold T34
 cases neI a.f2 3
 ·exact⟨false,rfl,fun c=>by cases c⟩
 cases leI a.f4 t
 ·exact⟨false,rfl,fun c=>by cases c⟩
 cases ltI a.f4 e
 ·exact⟨false,rfl,fun c=>by cases c⟩
 exact⟨rc a y,bs (t40_ok h) rfl,id⟩
end Go.Abs.TUD
set_option linter.unusedVariables false
set_option linter.unusedSimpArgs false
set_option maxRecDepth 10000
namespace Go.Abs.TUD
open Go.RowKit Go.Proofs Go.Abs R
abbrev A5:List ByteArray:=[gA,gB,gC,gD,gE]
theorem a5_all{s:ByteArray}(h:s∈A5):s∈AllK:=by
 simp only[List.mem_cons,List.not_mem_nil,or_false]at h ⊢
 rcases h with h|h|h|h|h<;>simp[h]
theorem oE0:ltS gA gE=true:=by kernel_rfl
theorem oE1:ltS gB gE=true:=by kernel_rfl
theorem oE2:ltS gC gE=true:=by kernel_rfl
theorem oE3:ltS gD gE=true:=by kernel_rfl
theorem A5_ord:∀(i j:Nat)(a b:ByteArray),i<j→A5[i]? = some a→A5[j]? = some b→ltS a b=true:=by
 intro i j a b hij ha hb
 have hj:j<5:=(List.getElem?_eq_some_iff.1 hb).1
 have:(i=0∧j=1)∨(i=0∧j=2)∨(i=0∧j=3)∨(i=0∧j=4)∨(i=1∧j=2)∨(i=1∧j=3)∨(i=1∧j=4)∨(i=2∧j=3)∨(i=2∧j=4)∨(i=3∧j=4):=by omega
 rcases this with⟨rfl,rfl⟩|⟨rfl,rfl⟩|⟨rfl,rfl⟩|⟨rfl,rfl⟩|⟨rfl,rfl⟩|⟨rfl,rfl⟩|⟨rfl,rfl⟩|⟨rfl,rfl⟩|⟨rfl,rfl⟩|⟨rfl,rfl⟩<;>cases ha<;>cases hb
 ·exact o01
 ·exact o02
 ·exact o03
 ·exact oE0
 ·exact o12
 ·exact o13
 ·exact oE1
 ·exact o23
 ·exact oE2
 ·exact oE3
def RB(e f:S36):Prop:=ltS e.f0 f.f0=true∨(e.f0=f.f0∧ltS e.f1 f.f1=true)
structure OkR(e:S36):Prop where
 pl:e.f0∈P3
 al:e.f1∈A5
 at_:0≤e.f2∧e.f2≤60
 seen:e.f3=false
structure Rcs(r:List S36):Prop where
 all:∀e∈r,OkR e
 ord:r.Pairwise RB
 few:r.length≤15
theorem cmp2(a b c d:ByteArray):(if cmpS a b≠0 then cmpS a b else cmpS c d)<0↔(ltS a b=true∨(a=b∧ltS c d=true)):=by
 rw[cmpS_eq,cmpS_eq]
 cases h1:ltS a b with
 | true=>simp
 | false=>
   cases h2:ltS b a with
   | true=>
     simp
     intro e
     rw[e,ltS_irrefl]at h2
     cases h2
   | false=>
     have e:a=b:=by
      rcases ltS_total a b with h|h|h
      ·rw[h1]at h;cases h
      ·exact h
      ·rw[h2]at h;cases h
     cases h3:ltS c d with
     | true=>simp[e]
     | false=>cases h4:ltS d c<;>simp
theorem cmp109{x y:S36}(hx:x.f3=false)(hy:y.f3=false)(h:RB x y):∃n,T109 x y=some n∧n<0:=by
 have h1:T151 false=some 0:=rfl
 refine⟨_,?_,(cmp2 x.f0 y.f0 x.f1 y.f1).2 h⟩
 unfold T109
 rw[hx,hy]
 refine bs (a:=cmpS x.f0 y.f0) rfl (bs (a:=cmpS x.f1 y.f1) rfl (bs h1 (bs h1 (bs (t146 0 0) (bs (or_ok _ _ _) ?_)))))
 congr 1
 by_cases c:cmpS x.f0 y.f0=0
 ·by_cases d:cmpS x.f1 y.f1=0
  ·simp[c,d]
  ·simp[c,d]
 ·simp[c]
theorem receipts_ok{r:List S36}(h:Rcs r):T64 r=some 0:=by
 have hl:=h.few
 obtain⟨q,h1,y,rfl⟩:=iter_up (st:=L64_4 r) (fun(_:Unit) i=>(i:Int)) r.length (fun _ _=>True) (fun q=>∃y,q= .inl y)
  (fun i _ hi _=>by
   have hx:=List.getElem?_eq_getElem hi
   have ho:=h.all _ (List.getElem_mem hi)
   have hA:=ho.at_
   refine⟨(),?_,trivial⟩
   unfold L64_4
   refine ct (ltL_true hi) (bs (listAt_some hx) (bs (p_key ho.pl) (cf rfl (bs (k_key (a5_all ho.al)) (cf rfl (bs (t107_in hA.1 (by omega)) (cf rfl ?_)))))))
   rcases Nat.eq_zero_or_pos i with hz|hz
   ·refine cf (by rw[hz];rfl) ?_
    rw[nextI (by omega)]
   ·have hj:i-1<r.length:=by omega
    have hp:=List.getElem?_eq_getElem hj
    obtain⟨n,n1,n2⟩:=cmp109 (h.all _ (List.getElem_mem hj)).seen ho.seen (List.pairwise_iff_getElem.1 h.ord (i-1) i hj hi (by omega))
    refine ct (ltI_t (by omega)) (bs (by rw[prevI hz (by omega)];exact listAt_some hp) (bs n1 (cf (leI_f n2) ?_)))
    rw[nextI (by omega)])
  (fun _ _=>⟨_,by unfold L64_4;exact cf (ltL_false (Nat.le_refl _)) rfl,_,rfl⟩) () trivial
 have h1:iter (L64_4 r) 0=some (.inl y):=h1
 unfold T64
 exact cf (ltI_f (by rw[lenL_eq];omega)) (bs h1 rfl)
structure Pre(p:List S32)(i j:Nat)(out:List S36):Prop where
 all:∀e∈out,OkR e
 ord:out.Pairwise RB
 pos:∀e∈out,(∃ i' y,i'<i∧p[i']? = some y∧y.f0=e.f0)∨(∃ y j',p[i]? = some y∧y.f0=e.f0∧j'<j∧A5[j']? = some e.f1)
 few:out.length≤5*i+j
theorem Pre.skip{p:List S32}{i j:Nat}{out:List S36}(h:Pre p i j out):Pre p i (j+1) out:=by
 refine⟨h.all,h.ord,fun e he=>?_,by have:=h.few;omega⟩
 rcases h.pos e he with g|⟨y,j',g1,g2,g3,g4⟩
 ·exact .inl g
 ·exact .inr ⟨y,j',g1,g2,by omega,g4⟩
theorem Pre.add{p:List S32}{i j:Nat}{out:List S36}{y:S32}{a:ByteArray}{t:Int}(hp:Pos p)(h:Pre p i j out)(hi:p[i]? = some y)(hj:A5[j]? = some a)(ht:0≤t∧t≤60):Pre p i (j+1) (out++[⟨y.f0,a,t,false⟩]) where
 all:=fun e he=>by
  rcases List.mem_append.1 he with he|he
  ·exact h.all e he
  ·rw[List.mem_singleton]at he
   subst he
   exact⟨(hp.all y (List.mem_of_getElem? hi)).key,List.mem_of_getElem? hj,ht,rfl⟩
 ord:=by
  rw[List.pairwise_append]
  refine⟨h.ord,List.pairwise_singleton _ _,fun e he f hf=>?_⟩
  rw[List.mem_singleton]at hf
  subst hf
  rcases h.pos e he with⟨i',z,g1,g2,g3⟩|⟨z,j',g1,g2,g3,g4⟩
  ·refine .inl ?_
   rw[← g3]
   obtain⟨b1,b2⟩:=List.getElem?_eq_some_iff.1 g2
   obtain⟨c1,c2⟩:=List.getElem?_eq_some_iff.1 hi
   have:=List.pairwise_iff_getElem.1 hp.ord i' i b1 c1 g1
   rw[b2,c2]at this
   exact this
  ·rw[hi]at g1
   cases g1
   exact .inr ⟨g2.symm,A5_ord j' j _ _ g3 g4 hj⟩
 pos:=fun e he=>by
  rcases List.mem_append.1 he with he|he
  ·exact(h.skip).pos e he
  ·rw[List.mem_singleton]at he
   subst he
   exact .inr ⟨y,j,hi,rfl,by omega,hj⟩
 few:=by
  have:=h.few
  simp only[List.length_append,List.length_cons,List.length_nil]
  omega
theorem Pre.next{p:List S32}{i:Nat}{out:List S36}(h:Pre p i 5 out):Pre p (i+1) 0 out:=by
 refine⟨h.all,h.ord,fun e he=>?_,by have:=h.few;omega⟩
 rcases h.pos e he with⟨i',y,g1,g2⟩|⟨y,j',g1,g2,g3,g4⟩
 ·exact .inl ⟨i',y,by omega,g2⟩
 ·exact .inl ⟨i,y,by omega,g1,g2⟩
theorem Pre.nil(p:List S32):Pre p 0 0 []:=⟨fun e he=>(by cases he),.nil,fun e he=>(by cases he),by simp⟩
theorem Pre.done{p:List S32}(hp:Pos p){out:List S36}(h:Pre p p.length 0 out):Rcs out:=⟨h.all,h.ord,by have:=h.few;have:=hp.few;omega⟩
section
variable (x1:List S46×List Int×Int) (x2:List S32×List Int×Int) (x3 x4:Int×List Int×Int) (x12:List S42×Int)
theorem inner_drawn{L:List Int}(hL:L.length≤1048576)(hp:Pos x2.1)(z0:List Int×Int×List S36×Int){i:Nat}{y:S32}(hi:x2.1[i]? = some y)(hi3:i≤10){at_:Int}(h0:0≤at_∧at_≤100000){out:List S36}(h:Pre x2.1 i 0 out) :
  ∃a r,iter (L3_8 x1 x2 x3 x4 z0 y) (L,at_,out,0)=some ((5:Int),false,L,a,r)∧Pre x2.1 (i+1) 0 r∧at_≤a∧a≤at_+10:=by
 obtain⟨q,h1,a,r,rfl,h2,h3⟩:=iter_up (st:=L3_8 x1 x2 x3 x4 z0 y) (fun(s:Int×List S36)(j:Nat)=>(L,s.1,s.2,(j:Int))) 5
  (fun j s=>(at_≤s.1∧s.1≤at_+2*j)∧Pre x2.1 i j s.2)
  (fun q=>∃a r,q=((5:Int),false,L,a,r)∧Pre x2.1 (i+1) 0 r∧at_≤a∧a≤at_+10)
  (fun j s hj hI=>by
   obtain⟨a,out⟩:=s
   obtain⟨i1,i2⟩:=hI
   simp only at i1 i2
   have hk:j<A5.length:=hj
   have hx:=List.getElem?_eq_getElem hk
   obtain⟨b,hb⟩:=flip_ok (L:=L) (at_:=a) (n:=2) hL (by omega) (by omega) (by omega)
   have hlt:ltI (j:Int) (lenL ([ByteArray.mk #[97,97],ByteArray.mk #[97,98],ByteArray.mk #[97,99],ByteArray.mk #[97,100],ByteArray.mk #[97,101]]:List ByteArray))=true:=ltL_true hk
   have hf:=i2.few
   cases b with
   | false=>
     refine⟨(a+1,out),?_,by simp only;omega,i2.skip⟩
     unfold L3_8
     refine ct hlt (bs (listAt_some hx) (bs hb (cf rfl ?_)))
     simp only
     rw[nextI (by omega)]
   | true=>
     obtain⟨v,hv,v1,v2⟩:=range_ok (L:=L) (at_:=a+1) (lo:=0) (hi:=60) hL (by omega) (by omega) (by omega) (by omega) (by omega)
     refine⟨(a+1+1,out++[⟨y.f0,A5[j],v,false⟩]),?_,by simp only;omega,i2.add hp hi hx ⟨v1,v2⟩⟩
     unfold L3_8
     refine ct hlt (bs (listAt_some hx) (bs hb (ct rfl (bs hv (bs (appO_big (by omega) (by simp only[List.length_cons,List.length_nil];omega)) ?_)))))
     simp only
     rw[nextI (by omega)])
  (fun s hI=>by
   obtain⟨a,out⟩:=s
   obtain⟨i1,i2⟩:=hI
   simp only at i1 i2
   have hlt:ltI ((5:Nat):Int) (lenL ([ByteArray.mk #[97,97],ByteArray.mk #[97,98],ByteArray.mk #[97,99],ByteArray.mk #[97,100],ByteArray.mk #[97,101]]:List ByteArray))=false:=by decide
   exact⟨_,by unfold L3_8;exact cf hlt rfl,a,out,by simp only;rw[hlt];rfl,i2.next,by omega,by omega⟩) (at_,out) ⟨by simp only;omega,h⟩
 exact⟨a,r,h1,h2,h3⟩
theorem got_drawn{L:List Int}(hL:L.length≤1048576)(hp:Pos x2.1){at_:Int}(h0:0≤at_∧at_≤1000) :
  ∃a r,iter (L3_5 x1 x2 x3 x4) (L,at_,[],0)=some ((x2.1.length:Int),false,L,a,r)∧Rcs r:=by
 have hl:=hp.few
 obtain⟨q,h1,a,r,rfl,h2⟩:=iter_up (st:=L3_5 x1 x2 x3 x4) (fun(s:Int×List S36)(i:Nat)=>(L,s.1,s.2,(i:Int))) x2.1.length
  (fun i s=>(at_≤s.1∧s.1≤at_+10*i)∧Pre x2.1 i 0 s.2)
  (fun q=>∃a r,q=((x2.1.length:Int),false,L,a,r)∧Rcs r)
  (fun i s hi hI=>by
   obtain⟨a,out⟩:=s
   obtain⟨i1,i2⟩:=hI
   simp only at i1 i2
   have hx:=List.getElem?_eq_getElem hi
   obtain⟨b,r,g1,g2,g3,g4⟩:=inner_drawn x1 x2 x3 x4 hL hp (L,a,out,(i:Int)) hx (by omega) (at_:=a) (by omega) i2
   refine⟨(b,r),?_,by simp only;omega,g2⟩
   unfold L3_5
   refine ct (ltL_true hi) (bs (listAt_some hx) (bs g1 ?_))
   simp only
   rw[nextI (by omega)])
  (fun s hI=>by
   obtain⟨a,out⟩:=s
   obtain⟨i1,i2⟩:=hI
   simp only at i1 i2
   have hlt:ltI (x2.1.length:Int) (lenL x2.1)=false:=ltL_false (Nat.le_refl _)
   exact⟨_,by unfold L3_5;exact cf hlt rfl,a,out,by simp only;rw[hlt],i2.done hp⟩) (at_,[]) ⟨by simp only;omega,Pre.nil _⟩
 exact⟨a,r,h1,h2⟩
structure Full(p:List S32)(i j:Nat)(out:List S36):Prop where
 pre:Pre p i j out
 zero:∀e∈out,e.f2=0
 old:∀i' y a,i'<i→p[i']? = some y→a∈A5→∃e∈out,e.f0=y.f0∧e.f1=a
 now:∀y j' a,p[i]? = some y→j'<j→A5[j']? = some a→∃e∈out,e.f0=y.f0∧e.f1=a
theorem Full.add{p:List S32}{i j:Nat}{out:List S36}{y:S32}{a:ByteArray}(hp:Pos p)(h:Full p i j out)(hi:p[i]? = some y)(hj:A5[j]? = some a):Full p i (j+1) (out++[⟨y.f0,a,0,false⟩]) where
 pre:=h.pre.add hp hi hj (by omega)
 zero:=fun e he=>by
  rcases List.mem_append.1 he with he|he
  ·exact h.zero e he
  ·rw[List.mem_singleton]at he
   subst he
   rfl
 old:=fun i' z b h1 h2 h3=>by
  obtain⟨e,e1,e2⟩:=h.old i' z b h1 h2 h3
  exact⟨e,List.mem_append_left _ e1,e2⟩
 now:=fun z j' b h1 h2 h3=>by
  by_cases hjj:j'=j
  ·subst hjj
   rw[hj]at h3
   rw[hi]at h1
   cases h3
   cases h1
   exact⟨_,List.mem_append_right _ (List.mem_singleton.2 rfl),rfl,rfl⟩
  ·obtain⟨e,e1,e2⟩:=h.now z j' b h1 (by omega) h3
   exact⟨e,List.mem_append_left _ e1,e2⟩
theorem Full.next{p:List S32}{i:Nat}{out:List S36}(h:Full p i 5 out):Full p (i+1) 0 out where
 pre:=h.pre.next
 zero:=h.zero
 old:=fun i' y a h1 h2 h3=>by
  by_cases hii:i'=i
  ·subst hii
   obtain⟨j',hj⟩:=List.getElem?_of_mem h3
   exact h.now y j' a h2 (List.getElem?_eq_some_iff.1 hj).1 hj
  ·exact h.old i' y a (by omega) h2 h3
 now:=fun y j' a h1 h2 h3=>by omega
theorem full_in{p:List S32}(hp:Pos p)(z1:List S36×Int){i:Nat}{y:S32}(hi:p[i]? = some y)(hi3:i≤10)(he:x2.1=p){out:List S36}(h:Full p i 0 out) :
  ∃r,iter (L3_22 x1 x2 x3 x4 x12 z1 y) (out,0)=some ((5:Int),false,r)∧Full p (i+1) 0 r:=by
 obtain⟨q,h1,r,rfl,h2⟩:=iter_up (st:=L3_22 x1 x2 x3 x4 x12 z1 y) (fun(s:List S36)(j:Nat)=>(s,(j:Int))) 5
  (fun j s=>Full p i j s) (fun q=>∃r,q=((5:Int),false,r)∧Full p (i+1) 0 r)
  (fun j s hj hI=>by
   have hk:j<A5.length:=hj
   have hx:=List.getElem?_eq_getElem hk
   have hlt:ltI (j:Int) (lenL ([ByteArray.mk #[97,97],ByteArray.mk #[97,98],ByteArray.mk #[97,99],ByteArray.mk #[97,100],ByteArray.mk #[97,101]]:List ByteArray))=true:=ltL_true hk
   have hf:=hI.pre.few
   refine⟨s++[⟨y.f0,A5[j],0,false⟩],?_,hI.add hp hi hx⟩
   unfold L3_22
   refine ct hlt (bs (listAt_some hx) (bs (appO_big (by omega) (by simp only[List.length_cons,List.length_nil];omega)) ?_))
   simp only
   rw[nextI (by omega)])
  (fun s hI=>by
   have hlt:ltI ((5:Nat):Int) (lenL ([ByteArray.mk #[97,97],ByteArray.mk #[97,98],ByteArray.mk #[97,99],ByteArray.mk #[97,100],ByteArray.mk #[97,101]]:List ByteArray))=false:=by decide
   exact⟨_,by unfold L3_22;exact cf hlt rfl,s,by simp only;rw[hlt];rfl,hI.next⟩) out h
 exact⟨r,h1,h2⟩
theorem all_drawn(hp:Pos x2.1) :
  ∃r,iter (L3_19 x1 x2 x3 x4 x12) ([],0)=some ((x2.1.length:Int),false,r)∧Rcs r∧(∀ e∈r,e.f2=0)∧∀y∈x2.1,∀a∈A5,∃e∈r,e.f0=y.f0∧e.f1=a:=by
 have hl:=hp.few
 obtain⟨q,h1,r,rfl,h2⟩:=iter_up (st:=L3_19 x1 x2 x3 x4 x12) (fun(s:List S36)(i:Nat)=>(s,(i:Int))) x2.1.length
  (fun i s=>Full x2.1 i 0 s) (fun q=>∃r,q=((x2.1.length:Int),false,r)∧Full x2.1 x2.1.length 0 r)
  (fun i s hi hI=>by
   have hx:=List.getElem?_eq_getElem hi
   obtain⟨r,g1,g2⟩:=full_in x1 x2 x3 x4 x12 hp (s,(i:Int)) hx (by omega) rfl hI
   refine⟨r,?_,g2⟩
   unfold L3_19
   refine ct (ltL_true hi) (bs (listAt_some hx) (bs g1 ?_))
   simp only
   rw[nextI (by omega)])
  (fun s hI=>by
   have hlt:ltI (x2.1.length:Int) (lenL x2.1)=false:=ltL_false (Nat.le_refl _)
   exact⟨_,by unfold L3_19;exact cf hlt rfl,s,by simp only;rw[hlt],hI⟩) [] ⟨Pre.nil _,fun e he=>(by cases he),fun i' y a h=>by omega,fun y j' a _ h=>by omega⟩
 refine⟨r,h1,h2.pre.done hp,h2.zero,fun y hy a ha=>?_⟩
 obtain⟨i,hi⟩:=List.getElem?_of_mem hy
 exact h2.old i y a (List.getElem?_eq_some_iff.1 hi).1 hi ha
end
end Go.Abs.TUD
set_option linter.unusedVariables false
set_option linter.unusedSimpArgs false
set_option maxRecDepth 10000
namespace Go.Abs.TUD
open Go.RowKit Go.Proofs Go.Abs R Classical
def kq(a b:S77):Bool:=allB [eqB a.f0 b.f0,eqB a.f1 b.f1]
theorem kq_iff{a b:S77}:kq a b=true↔a=b:=by
 obtain⟨a0,a1⟩:=a
 obtain⟨b0,b1⟩:=b
 constructor
 ·intro h
  by_cases h0:a0=b0
  ·by_cases h1:a1=b1
   ·rw[h0,h1]
   ·simp only[kq,allB,eqB_no h1,Bool.and_false,Bool.false_and]at h
    cases h
  ·simp only[kq,allB,eqB_no h0,Bool.false_and]at h
   cases h
 ·intro h
  cases h
  simp only[kq,allB,eqB_self,Bool.and_true]
theorem mget_cons{β:Type}(p:S77×β)(m:List (S77×β))(k:S77):mgetB kq (p::m) k=if k=p.1 then some p.2 else mgetB kq m k:=by
 unfold mgetB
 rw[List.find?_cons]
 by_cases h:k=p.1
 ·rw[if_pos h,kq_iff.2 h]
  rfl
 ·rw[if_neg h]
  cases hq:kq k p.1 with
  | true=>exact absurd (kq_iff.1 hq) h
  | false=>rfl
theorem mget_mset{β:Type}(v:β)(k k2:S77):∀m:List (S77×β),mgetB kq (msetB kq m k v) k2=if k2=k then some v else mgetB kq m k2
 | []=>by
   unfold msetB
   rw[mget_cons]
 | p::m=>by
   unfold msetB
   cases hq:kq k p.1 with
   | true=>
     have e:=kq_iff.1 hq
     rw[cond_true,mget_cons,mget_cons]
     simp only
     rw[← e]
     by_cases h:k2=k
     ·rw[if_pos h,if_pos h]
     ·rw[if_neg h,if_neg h,if_neg h]
   | false=>
     rw[cond_false,mget_cons,mget_cons,mget_mset v k k2 m]
     by_cases h:k2=p.1
     ·rw[if_pos h,if_pos h,if_neg]
      intro e
      rw[← e,h]at hq
      rw[kq_iff.2 rfl]at hq
      cases hq
     ·rw[if_neg h,if_neg h]
theorem got_ok{r:List S36}(hl:r.length≤1000)(t:Int):∃m,T32 r t=some m∧((∀ e∈r,e.f2=0)→0≤t→∀e∈r,mgetB kq m ⟨e.f0,e.f1⟩=some 0):=by
 obtain⟨q,h1,m,rfl,h2⟩:=iter_up (st:=L32_3 r t) (fun(m:List (S77×Int))(i:Nat)=>(m,(i:Int))) r.length
  (fun i m=>(∀ e∈r,e.f2=0)→0≤t→(∀ k v,mgetB kq m k=some v→v=0)∧∀e∈r.take i,mgetB kq m ⟨e.f0,e.f1⟩=some 0)
  (fun q=>∃m,q=((r.length:Int),false,m)∧((∀ e∈r,e.f2=0)→0≤t→∀e∈r,mgetB kq m ⟨e.f0,e.f1⟩=some 0))
  (fun i m hi hI=>by
   have hx:=List.getElem?_eq_getElem hi
   have hset:∃m',(some (msetB kq m ⟨r[i].f0,r[i].f1⟩ r[i].f2):Option (List (S77×Int)))=some m'∧((∀ e∈r,e.f2=0)→0≤t→(∀ k v,mgetB kq m' k=some v→v=0)∧∀e∈r.take (i+1),mgetB kq m' ⟨e.f0,e.f1⟩=some 0):=by
    refine⟨_,rfl,fun hz h0=>?_⟩
    obtain⟨g1,g2⟩:=hI hz h0
    have hi0:=hz _ (List.getElem_mem hi)
    refine⟨fun k v hv=>?_,fun e he=>?_⟩
    ·rw[mget_mset]at hv
     by_cases hk:k=⟨r[i].f0,r[i].f1⟩
     ·rw[if_pos hk]at hv
      cases hv
      exact hi0
     ·rw[if_neg hk]at hv
      exact g1 k v hv
    ·rw[mget_mset]
     by_cases hk:(⟨e.f0,e.f1⟩:S77)=⟨r[i].f0,r[i].f1⟩
     ·rw[if_pos hk,hi0]
     ·rw[if_neg hk]
      rw[take_next hx]at he
      rcases List.mem_append.1 he with he|he
      ·exact g2 e he
      ·rw[List.mem_singleton]at he
       rw[he]at hk
       exact absurd rfl hk
   cases c1:leI r[i].f2 t with
   | false=>
     refine⟨m,?_,fun hz h0=>?_⟩
     ·unfold L32_3
      refine ct (ltL_true hi) (bs (listAt_some hx) (cf c1 ?_))
      simp only
      rw[nextI (by omega)]
     ·rw[hz _ (List.getElem_mem hi),leI_t h0]at c1
      cases c1
   | true=>
     cases c2:mgetB kq m ⟨r[i].f0,r[i].f1⟩with
     | none=>
       obtain⟨m',e1,e2⟩:=hset
       refine⟨m',?_,e2⟩
       unfold L32_3
       refine ct (ltL_true hi) (bs (listAt_some hx) (ct c1 (ct ?_ (bs e1 ?_))))
       ·show(!(mgetB kq m ⟨r[i].f0,r[i].f1⟩).isSome)=true
        rw[c2]
        rfl
       ·simp only
        rw[nextI (by omega)]
     | some v=>
       cases c3:ltI r[i].f2 v with
       | true=>
         obtain⟨m',e1,e2⟩:=hset
         refine⟨m',?_,e2⟩
         unfold L32_3
         refine ct (ltL_true hi) (bs (listAt_some hx) (ct c1 (cf ?_ (ct ?_ (bs e1 ?_)))))
         ·show(!(mgetB kq m ⟨r[i].f0,r[i].f1⟩).isSome)=false
          rw[c2]
          rfl
         ·show ltI r[i].f2 ((mgetB kq m ⟨r[i].f0,r[i].f1⟩).getD 0)=true
          rw[c2]
          exact c3
         ·simp only
          rw[nextI (by omega)]
       | false=>
         refine⟨m,?_,fun hz h0=>?_⟩
         ·unfold L32_3
          refine ct (ltL_true hi) (bs (listAt_some hx) (ct c1 (cf ?_ (cf ?_ ?_))))
          ·show(!(mgetB kq m ⟨r[i].f0,r[i].f1⟩).isSome)=false
           rw[c2]
           rfl
          ·show ltI r[i].f2 ((mgetB kq m ⟨r[i].f0,r[i].f1⟩).getD 0)=false
           rw[c2]
           exact c3
          ·simp only
           rw[nextI (by omega)]
         ·obtain⟨g1,g2⟩:=hI hz h0
          refine⟨g1,fun e he=>?_⟩
          rw[take_next hx]at he
          rcases List.mem_append.1 he with he|he
          ·exact g2 e he
          ·rw[List.mem_singleton]at he
           rw[he,c2,g1 _ _ c2])
  (fun m hI=>⟨_,by unfold L32_3;exact cf (ltL_false (Nat.le_refl _)) rfl,m,by simp only;rw[ltL_false (Nat.le_refl _)],fun hz h0=>by
   have:=(hI hz h0).2
   rw[List.take_length]at this
   exact this⟩) [] (fun _ _=>⟨fun k v hv=>(by cases hv),fun e he=>(by cases he)⟩)
 have h1:iter (L32_3 r t) ([],0)=some ((r.length:Int),false,m):=h1
 refine⟨m,?_,h2⟩
 unfold T32
 exact bs h1 rfl
end Go.Abs.TUD
set_option linter.unusedVariables false
set_option linter.unusedSimpArgs false
set_option maxRecDepth 10000
namespace Go.Abs.TUD
open Go.RowKit Go.Proofs Go.Abs R
structure Good(l:List S46)(p:List S32)(long t:Int)(x:S42):Prop where
 ex:∃a∈l,∃y∈p,x.f0=y.f0∧x.f1=a.f0∧x.f2=a.f4+long∧x.f2<t∧(x.f3<0∨x.f2<x.f3)∧rc a y=true
def LD(x y:S42):Prop:=ltS x.f0 y.f0=true∨(x.f0=y.f0∧leS x.f1 y.f1=true)
theorem ld_tot(x y:S42):LD x y∨LD y x:=by
 unfold LD
 rcases ltS_total x.f0 y.f0 with h|h|h
 ·exact .inl (.inl h)
 ·rcases leS_tot x.f1 y.f1 with g|g
  ·exact .inl (.inr ⟨h,g⟩)
  ·exact .inr (.inr ⟨h.symm,g⟩)
 ·exact .inr (.inl h)
theorem ld_tr(x y z:S42)(h1:LD x y)(h2:LD y z):LD x z:=by
 unfold LD at *
 rcases h1 with h1|⟨h1,g1⟩
 ·rcases h2 with h2|⟨h2,g2⟩
  ·exact .inl (ltS_trans h1 h2)
  ·exact .inl (by rw[← h2];exact h1)
 ·rcases h2 with h2|⟨h2,g2⟩
  ·exact .inl (by rw[h1];exact h2)
  ·exact .inr ⟨h1.trans h2,leS_tr g1 g2⟩
theorem cmp36(x y:S42):∃n,T36 x y=some n∧(n<0↔¬LD y x):=by
 refine⟨_,?_,(cmp2 x.f0 y.f0 x.f1 y.f1).trans ?_⟩
 ·unfold T36
  exact bs (a:=cmpS x.f0 y.f0) rfl (bs (a:=cmpS x.f1 y.f1) rfl (bs (or2_ok _ _) rfl))
 ·unfold LD
  constructor
  ·rintro(h|⟨h,g⟩) (k|⟨k,m⟩)
   ·have:=ltS_trans h k
    rw[ltS_irrefl]at this
    cases this
   ·rw[k,ltS_irrefl]at h
    cases h
   ·rw[h,ltS_irrefl]at k
    cases k
   ·rw[leS_iff,g]at m
    cases m
  ·intro h
   rcases ltS_total x.f0 y.f0 with k|k|k
   ·exact .inl k
   ·refine .inr ⟨k,?_⟩
    cases g:ltS x.f1 y.f1 with
    | true=>rfl
    | false=>exact absurd (.inr ⟨k.symm,(leS_iff _ _).2 g⟩) h
   ·exact absurd (.inl k) h
section
variable {l:List S46} {p:List S32} {long t:Int}
theorem row_ok(h:Als l)(hl:l.length≤100)(hg:0≤long∧long≤20){es:List Int}(hes:es.length=l.length)(m:List (S77×Int))(z0:List Int×List S42×Int){y:S32}(hy:y∈p)
  (Z:Prop) (hZ:Z→∀a∈l,mgetB kq m ⟨y.f0,a.f0⟩=some 0) {out:List S42} (ho:∀x∈out,Good l p long t x) (hz:Z→out=[]) (hn:out.length≤1000) :
  ∃d,iter (L10_13 l p long t m z0 y) (es,out,0)=some ((l.length:Int),false,es,d)∧(∀ x∈d,Good l p long t x)∧(Z→d=[])∧d.length≤out.length+l.length:=by
 obtain⟨q,h1,d,rfl,h2,h3,h4⟩:=iter_up (st:=L10_13 l p long t m z0 y) (fun(s:List S42)(i:Nat)=>(es,s,(i:Int))) l.length
  (fun i s=>(∀ x∈s,Good l p long t x)∧(Z→s=[])∧s.length≤out.length+i)
  (fun q=>∃d,q=((l.length:Int),false,es,d)∧(∀ x∈d,Good l p long t x)∧(Z→d=[])∧d.length≤out.length+l.length)
  (fun i s hi hI=>by
   obtain⟨i1,i2,i3⟩:=hI
   have hx:=List.getElem?_eq_getElem hi
   have hk:i<es.length:=by omega
   have hy2:=List.getElem?_eq_getElem hk
   have ha:=h.all _ (List.getElem_mem hi)
   have hat:=ha.at_
   obtain⟨b,b1,b2⟩:=should_ok ha es[i] y t
   have hd:addI .i64 l[i].f4 long=l[i].f4+long:=addI_eq (by omega) (by omega)
   have stay:∀{X:Option ((List Int×List S42×Int)⊕(Int×Bool×List Int×List S42))},X=some (.inl (es,s,((i+1:Nat):Int)))→∃s',X=some (.inl (es,s',((i+1:Nat):Int)))∧(∀ x∈s',Good l p long t x)∧(Z→s'=[])∧s'.length≤out.length+(i+1):=fun e=>⟨s,e,i1,i2,by omega⟩
   have hnx:addI .i64 ((es,s,(i:Int)):List Int×List S42×Int).2.2 1=((i+1:Nat):Int):=nextI (by omega)
   cases b with
   | false=>
     refine stay ?_
     unfold L10_13
     refine ct (ltL_true hi) (bs (listAt_some hx) (bs (idx_nat hk) (bs (getN_some hy2) (bs b1 (ct rfl ?_)))))
     rw[hnx]
   | true=>
   cases c1:leI t (addI .i64 l[i].f4 long)with
   | true=>
     refine stay ?_
     unfold L10_13
     refine ct (ltL_true hi) (bs (listAt_some hx) (bs (idx_nat hk) (bs (getN_some hy2) (bs b1 (cf rfl (ct c1 ?_))))))
     rw[hnx]
   | false=>
   cases c2:ltI es[i] (addI .i64 l[i].f4 long)with
   | true=>
     refine stay ?_
     unfold L10_13
     refine ct (ltL_true hi) (bs (listAt_some hx) (bs (idx_nat hk) (bs (getN_some hy2) (bs b1 (cf rfl (cf c1 (bs (idx_nat hk) (bs (getN_some hy2) (ct c2 ?_)))))))))
     rw[hnx]
   | false=>
   have hlt:l[i].f4+long<t:=by
    rw[hd]at c1
    refine Int.lt_of_not_ge fun g=>?_
    rw[leI_t g]at c1
    cases c1
   have grow:∀(g:Int),(g<0∨l[i].f4+long<g)→¬Z→∀{X:Option ((List Int×List S42×Int)⊕(Int×Bool×List Int×List S42))},X=some (.inl (es,s++[⟨y.f0,l[i].f0,addI .i64 l[i].f4 long,g⟩],((i+1:Nat):Int)))→∃s',X=some (.inl (es,s',((i+1:Nat):Int)))∧(∀ x∈s',Good l p long t x)∧(Z→s'=[])∧s'.length≤out.length+(i+1):=fun g hg2 hnz X e=>by
    refine⟨_,e,fun x hx2=>?_,fun z=>absurd z hnz,by simp only[List.length_append,List.length_cons,List.length_nil];omega⟩
    rcases List.mem_append.1 hx2 with hx2|hx2
    ·exact i1 x hx2
    ·rw[List.mem_singleton]at hx2
     subst hx2
     exact⟨l[i],List.getElem_mem hi,y,hy,rfl,rfl,hd,by simp only;rw[hd];exact hlt,by simp only;rw[hd];exact hg2,b2 rfl⟩
   cases c3:mgetB kq m ⟨y.f0,l[i].f0⟩with
   | none=>
     refine grow (-1) (.inl (by omega)) (fun z=>by rw[hZ z _ (List.getElem_mem hi)]at c3;cases c3) ?_
     unfold L10_13
     refine ct (ltL_true hi) (bs (listAt_some hx) (bs (idx_nat hk) (bs (getN_some hy2) (bs b1 (cf rfl (cf c1 (bs (idx_nat hk) (bs (getN_some hy2) (cf c2 (ct ?_ (bs (appO_big (by omega) (by simp only[List.length_cons,List.length_nil];omega)) ?_)))))))))))
     ·show(!(mgetB kq m ⟨y.f0,l[i].f0⟩).isSome)=true
      rw[c3]
      rfl
     ·rw[hnx]
   | some g=>
   have e1:(!(mgetB kq m ⟨y.f0,l[i].f0⟩).isSome)=false:=by rw[c3];rfl
   have e2:(mgetB kq m ⟨y.f0,l[i].f0⟩).getD 0=g:=by rw[c3];rfl
   cases c4:ltI (addI .i64 l[i].f4 long) g with
   | true=>
     have hgt:l[i].f4+long<g:=by
      rw[hd]at c4
      exact of_decide_eq_true c4
     refine grow g (.inr hgt) (fun z=>by rw[hZ z _ (List.getElem_mem hi)]at c3;cases c3;omega) ?_
     unfold L10_13
     refine ct (ltL_true hi) (bs (listAt_some hx) (bs (idx_nat hk) (bs (getN_some hy2) (bs b1 (cf rfl (cf c1 (bs (idx_nat hk) (bs (getN_some hy2) (cf c2 (cf e1 (ct ?_ (bs (a:=s++[⟨y.f0,l[i].f0,addI .i64 l[i].f4 long,g⟩]) ?_ ?_))))))))))))
     ·show ltI (addI .i64 l[i].f4 long) ((mgetB kq m ⟨y.f0,l[i].f0⟩).getD 0)=true
      rw[e2]
      exact c4
     ·show appO 48 s [⟨y.f0,l[i].f0,addI .i64 l[i].f4 long,(mgetB kq m ⟨y.f0,l[i].f0⟩).getD 0⟩]=_
      rw[e2]
      exact appO_big (by omega) (by simp only[List.length_cons,List.length_nil];omega)
     ·rw[hnx]
   | false=>
     refine stay ?_
     unfold L10_13
     refine ct (ltL_true hi) (bs (listAt_some hx) (bs (idx_nat hk) (bs (getN_some hy2) (bs b1 (cf rfl (cf c1 (bs (idx_nat hk) (bs (getN_some hy2) (cf c2 (cf e1 (cf ?_ ?_)))))))))))
     ·show ltI (addI .i64 l[i].f4 long) ((mgetB kq m ⟨y.f0,l[i].f0⟩).getD 0)=false
      rw[e2]
      exact c4
     ·rw[hnx])
  (fun s hI=>by
   obtain⟨i1,i2,i3⟩:=hI
   exact⟨_,by unfold L10_13;exact cf (ltL_false (Nat.le_refl _)) rfl,s,by simp only;rw[ltL_false (Nat.le_refl _)],i1,i2,i3⟩) out ⟨ho,hz,by omega⟩
 exact⟨d,h1,h2,h3,h4⟩
theorem debts_ok(h:Als l)(hl:l.length≤100)(hp:Pos p){r:List S36}(hr:Rcs r)(hg:0≤long∧long≤20)(ht:0≤t∧t≤80) :
  ∃d,T10 l p r long t=some (d,0)∧(∀ x∈d,Good l p long t x)∧d.length≤1000∧((∀ e∈r,e.f2=0)→(∀ y∈p,∀a∈l,∃e∈r,e.f0=y.f0∧e.f1=a.f0)→d=[]):=by
 have hrl:=hr.few
 have hpl:=hp.few
 obtain⟨m,m1,m2⟩:=got_ok (r:=r) (by omega) t
 obtain⟨es,e1,e2⟩:=ends_ok h hl
 have hes:=e2.len
 obtain⟨q,h1,d,rfl,h2,h3,h4⟩:=iter_up (st:=L10_10 l p long t m) (fun(s:List S42)(i:Nat)=>(es,s,(i:Int))) p.length
  (fun i s=>(∀ x∈s,Good l p long t x)∧(((∀ e∈r,e.f2=0)∧(∀ y∈p,∀a∈l,∃e∈r,e.f0=y.f0∧e.f1=a.f0))→s=[])∧s.length≤100*i)
  (fun q=>∃d,q=((p.length:Int),false,es,d)∧(∀ x∈d,Good l p long t x)∧(((∀ e∈r,e.f2=0)∧(∀ y∈p,∀a∈l,∃e∈r,e.f0=y.f0∧e.f1=a.f0))→d=[])∧d.length≤1000)
  (fun i s hi hI=>by
   obtain⟨i1,i2,i3⟩:=hI
   have hx:=List.getElem?_eq_getElem hi
   obtain⟨d,g1,g2,g3,g4⟩:=row_ok h hl hg hes m (es,s,(i:Int)) (List.getElem_mem hi) ((∀ e∈r,e.f2=0)∧(∀ y∈p,∀a∈l,∃e∈r,e.f0=y.f0∧e.f1=a.f0))
    (fun z a ha=>by
     obtain⟨e,he,q1,q2⟩:=z.2 _ (List.getElem_mem hi) a ha
     rw[← q1,←q2]
     exact m2 z.1 ht.1 e he) i1 i2 (by omega)
   refine⟨d,?_,g2,g3,by omega⟩
   unfold L10_10
   refine ct (ltL_true hi) (bs (listAt_some hx) (bs g1 ?_))
   simp only
   rw[nextI (by omega)])
  (fun s hI=>by
   obtain⟨i1,i2,i3⟩:=hI
   exact⟨_,by unfold L10_10;exact cf (ltL_false (Nat.le_refl _)) rfl,s,by simp only;rw[ltL_false (Nat.le_refl _)],i1,i2,by omega⟩) [] ⟨fun x hx=>(by cases hx),fun _=>rfl,Nat.zero_le _⟩
 have h1:iter (L10_10 l p long t m) (es,[],0)=some ((p.length:Int),false,es,d):=h1
 obtain⟨d',s1,s2,s3⟩:=sortO_le (fun x y=>T36 x y) LD ld_tot ld_tr d (by omega) (fun x _ y _=>cmp36 x y)
 refine⟨d',?_,fun x hx=>h2 x (s2.mem_iff.1 hx),by rw[s2.length_eq];exact h4,fun z1 z2=>?_⟩
 ·unfold T10 T29
  refine bs (bs (lists_ok h hl hp) (cf (neI_no 0) (bs (receipts_ok hr) rfl))) (cf (neI_no 0) (bs (t95_in (by omega) (by omega)) (cf rfl (bs (t107_in ht.1 (by omega)) (cf rfl (bs m1 (bs e1 (bs h1 (bs s1 rfl)))))))))
 ·have:=h3 ⟨z1,z2⟩
  subst this
  exact List.perm_nil.1 s2
end
end Go.Abs.TUD
set_option linter.unusedVariables false
set_option linter.unusedSimpArgs false
set_option maxRecDepth 10000
namespace Go.Abs.TUD
open Go.RowKit Go.Proofs Go.Abs R
theorem who_ok{l:List S46}(hl:l.length≤100)(x:S42){a:S46}(ha:a∈l)(he:x.f1=a.f0)(hu:(l.map (·.f0)).Nodup):∃k:Nat,T11_1 l x.f0 x.f1 x.f2 x.f3=some (k:Int)∧l[k]? = some a:=by
 have hs:∀(i:Nat) y,l[i]? = some y→L11_1_2 l x.f0 x.f1 x.f2 x.f3 (i:Int)=some (bif eqS y.f0 x.f1 then .inr (.inr (i:Int))else .inl ((i+1:Nat):Int)):=fun i y hy=>by
  have hi:=(List.getElem?_eq_some_iff.1 hy).1
  unfold L11_1_2 T12
  refine ct (ltL_true hi) (bs (listAt_some hy) (bs rfl ?_))
  rw[nextI (by omega)]
  cases eqS y.f0 x.f1<;>rfl
 have hend:L11_1_2 l x.f0 x.f1 x.f2 x.f3 (l.length:Int)=some (.inr (.inl ((l.length:Int),false))):=by
  unfold L11_1_2
  rw[ltL_false (Nat.le_refl _)]
  rfl
 rcases idx_iter (fun y:S46=>eqS y.f0 x.f1) (by omega) hs hend with⟨h1,h2⟩|⟨k,y,h1,h2,h3,_⟩
 ·have:=h2 a ha
  rw[he,eqS_self]at this
  cases this
 ·refine⟨k,?_,?_⟩
  ·unfold T11_1
   exact bs h2 rfl
  ·rw[eqS_iff,decide_eq_true_eq,he]at h3
   obtain⟨j,hj⟩:=List.getElem?_of_mem ha
   have e:k=j:=by
    obtain⟨k1,k2⟩:=List.getElem?_eq_some_iff.1 h1
    obtain⟨j1,j2⟩:=List.getElem?_eq_some_iff.1 hj
    refine(List.getElem_inj (h₀:=by rw[List.length_map];exact k1) (h₁:=by rw[List.length_map];exact j1) hu).1 ?_
    rw[List.getElem_map,List.getElem_map,k2,j2,h3]
   rw[e]
   exact hj
theorem pos_nodup{p:List S32}(h:Pos p):(p.map (·.f0)).Nodup:=by
 rw[List.Nodup,List.pairwise_map]
 exact h.ord.imp fun{a b} hab e=>by
  rw[e,ltS_irrefl]at hab
  cases hab
theorem whom_ok{p:List S32}(hp:Pos p)(x:S42){a:S32}(ha:a∈p)(he:x.f0=a.f0):∃k:Nat,T13 p x.f0 x.f1 x.f2 x.f3=some (k:Int)∧p[k]? = some a:=by
 have hl:=hp.few
 have hs:∀(i:Nat) y,p[i]? = some y→L13_2 p x.f0 x.f1 x.f2 x.f3 (i:Int)=some (bif eqS y.f0 x.f0 then .inr (.inr (i:Int))else .inl ((i+1:Nat):Int)):=fun i y hy=>by
  have hi:=(List.getElem?_eq_some_iff.1 hy).1
  unfold L13_2 T14
  refine ct (ltL_true hi) (bs (listAt_some hy) (bs rfl ?_))
  rw[nextI (by omega)]
  cases eqS y.f0 x.f0<;>rfl
 have hend:L13_2 p x.f0 x.f1 x.f2 x.f3 (p.length:Int)=some (.inr (.inl ((p.length:Int),false))):=by
  unfold L13_2
  rw[ltL_false (Nat.le_refl _)]
  rfl
 rcases idx_iter (fun y:S32=>eqS y.f0 x.f0) (by omega) hs hend with⟨h1,h2⟩|⟨k,y,h1,h2,h3,_⟩
 ·have:=h2 a ha
  rw[he,eqS_self]at this
  cases this
 ·refine⟨k,?_,?_⟩
  ·unfold T13
   exact bs h2 rfl
  ·rw[eqS_iff,decide_eq_true_eq,he]at h3
   obtain⟨j,hj⟩:=List.getElem?_of_mem ha
   have e:k=j:=by
    obtain⟨k1,k2⟩:=List.getElem?_eq_some_iff.1 h1
    obtain⟨j1,j2⟩:=List.getElem?_eq_some_iff.1 hj
    refine(List.getElem_inj (h₀:=by rw[List.length_map];exact k1) (h₁:=by rw[List.length_map];exact j1) (pos_nodup hp)).1 ?_
    rw[List.getElem_map,List.getElem_map,k2,j2,h3]
   rw[e]
   exact hj
theorem just_ok(x1:List S46×List Int×Int)(x2:List S32×List Int×Int)(x3 x4:Int×List Int×Int)(x12 x18:List S42×Int)(h:Als x1.1)(hl:x1.1.length≤100)(hp:Pos x2.1)(hg:0≤x3.1∧x3.1≤20)(hd:∀x∈x12.1,Good x1.1 x2.1 x3.1 x4.1 x)(hn:x12.1.length≤1000)(z:List S42) :
  iter (L3_29 x1 x2 x3 x4 x12 x18) (z,0)=some (.inl ((x12.1.length:Int),false,z)):=by
 obtain⟨r,h1,rfl⟩:=iter_up (st:=L3_29 x1 x2 x3 x4 x12 x18) (fun(_:Unit)(i:Nat)=>(z,(i:Int))) x12.1.length (fun _ _=>True) (fun r=>r= .inl ((x12.1.length:Int),false,z))
  (fun i _ hi _=>by
   have hx:=List.getElem?_eq_getElem hi
   obtain⟨a,ha,y,hy,g1,g2,g3,g4,g5,g6⟩:=(hd _ (List.getElem_mem hi)).ex
   obtain⟨k,k1,k2⟩:=who_ok hl x12.1[i] ha g2 h.ids
   obtain⟨j,j1,j2⟩:=whom_ok hp x12.1[i] hy g1
   have hat:=(h.all a ha).at_
   have hadd:addI .i64 a.f4 x3.1=a.f4+x3.1:=addI_eq (by omega) (by omega)
   have hrch:=reaches_ok (h.all a ha) (hp.all y hy)
   rw[g6]at hrch
   have hnx:addI .i64 ((z,(i:Int)):List S42×Int).2 1=((i+1:Nat):Int):=nextI (by omega)
   refine⟨(),?_,trivial⟩
   unfold L3_29
   refine ct (ltL_true hi) (bs (listAt_some hx) (bs k1 (bs j1 (cf (ltI_f (by omega)) (cf (ltI_f (by omega)) (bs (listAt_some k2) (cf (neI_f (by rw[hadd];exact g3)) (cf (leI_f g4) ?_))))))))
   cases c:leI 0 x12.1[i].f3 with
   | true=>
     have hge:0≤x12.1[i].f3:=of_decide_eq_true c
     refine ct rfl (cf (leI_f (by omega)) (bs (listAt_some k2) (bs (listAt_some j2) (bs hrch (cf (neI_no 0) (cf rfl ?_))))))
     rw[hnx]
   | false=>
     refine cf rfl (bs (listAt_some k2) (bs (listAt_some j2) (bs hrch (cf (neI_no 0) (cf rfl ?_)))))
     rw[hnx])
  (fun _ _=>⟨_,by
   unfold L3_29
   refine cf (ltL_false (Nat.le_refl _)) ?_
   rw[ltL_false (Nat.le_refl _)],rfl⟩) () trivial
 exact h1
theorem plain(p0:(List Int))(h0:(p0.length≤1048576∧∀x∈p0,okI x)):T3 p0=some true:=by
 have hL:=h0.1
 obtain⟨l,b1,e1,hA,hAl,n1,n2,hI⟩:=alerts_drawn hL (at_:=0) (most:=5) (by omega) (by omega)
 obtain⟨p,b2,e2,hP,n3,n4⟩:=posts_drawn hL (at_:=b1) (by omega)
 obtain⟨long,e3,q1,q2⟩:=range_ok (L:=p0) (at_:=b2) (lo:=0) (hi:=20) hL (by omega) (by omega) (by omega) (by omega) (by omega)
 obtain⟨t,e4,q3,q4⟩:=range_ok (L:=p0) (at_:=b2+1) (lo:=0) (hi:=80) hL (by omega) (by omega) (by omega) (by omega) (by omega)
 have hl:l.length≤100:=by omega
 obtain⟨b5,r,e5,hR⟩:=got_drawn (l,p0,b1) (p,p0,b2) (long,p0,b2+1) (t,p0,b2+1+1) (L:=p0) hL hP (at_:=b2+1+1) (by omega)
 obtain⟨d,e6,hd,hdn,_⟩:=debts_ok hA hl hP hR (long:=long) (t:=t) ⟨q1,q2⟩ ⟨q3,q4⟩
 obtain⟨s,e7,hS,hS0,hSa⟩:=all_drawn (l,p0,b1) (p,p0,b2) (long,p0,b2+1) (t,p0,b2+1+1) (d,0) hP
 obtain⟨d2,e8,_,_,hd2⟩:=debts_ok hA hl hP hS (long:=long) (t:=t) ⟨q1,q2⟩ ⟨q3,q4⟩
 have hno:d2=[]:=hd2 hS0 fun y hy a ha=>hSa y hy a.f0 (hI a ha)
 subst hno
 have e9:=just_ok (l,p0,b1) (p,p0,b2) (long,p0,b2+1) (t,p0,b2+1+1) (d,0) ([],0) hA hl hP ⟨q1,q2⟩ hd hdn []
 unfold T3
 refine bs e1 (bs e2 (bs e3 (bs e4 (bs e5 (bs e6 (cf (neI_no 0) (bs e7 (bs e8 (bs e9 (si (ct (eqI_self 0) (ct rfl (bs ready_ok rfl)))))))))))))
end Go.Abs.TUD
