import Derived.Test.YthcgpcmeffkijaaGreatDoorSAbsO
set_option linter.unusedVariables false
set_option linter.unusedSimpArgs false
namespace Go.Abs
open Go.RowKit
theorem sl_news{T:Nat→Prop}{w:World}{κ:Nat→Value}{objs:Nat→Option AObj}{P:Program}{e k:Nat}{ys:List AV}{vy:Value}(h:(Rel T w κ objs (.sl ys)).val vy)(hok:ys.all (elemOk P e k)=true)(hk0:0<k) :
  ∃(news:List Value)(A:Option Addr)(c:Nat),vy= .slice A ys.length c∧news.length=ys.length*k∧(∀ u∈news,u.oneCell'=true)∧
   ((A=none∧ys=[])∨∃ad,A=some ad∧∀j u,news[j]? = some u→w.cell? (ad.add j)=some u)∧
   ∀(j:Nat) q,ys[j]? = some q→q.cells.length=k∧AllM (RelL T w (fun _=>undef) (fun _=>none) q.cells) (fun i=>news[j*k+i]?):=by
 simp only[Rel,one]at h
 obtain⟨A,c,rfl,h1,h2,h3⟩:=h
 by_cases hne:ys=[]
 ·subst hne
  refine⟨[],A,c,rfl,by simp,by simp,?_,by simp⟩
  cases A with
  | none=>exact .inl ⟨rfl,rfl⟩
  | some ad=>exact .inr ⟨ad,rfl,by simp⟩
 ·obtain⟨b,o,k',rfl,hb,hm⟩:=h3 hne
  have hel:∀(j:Nat) q,ys[j]? = some q→q.cells.length=k∧q.cells.all cellOK=true∧AllM (RelL T w κ (fun _=>none) q.cells) (fun i=>w.cell? (at_ b (o+j*k+i))):=by
   intro j q hq
   obtain⟨h4,h5⟩:=hm j (Rel T w κ (fun _=>none) q) (by rw[RelL_get,hq];rfl)
   have hj:j<ys.length:=(List.getElem?_eq_some_iff.1 hq).1
   have h6:=List.all_eq_true.1 hok q (List.mem_of_getElem? hq)
   unfold elemOk at h6
   simp only[Bool.and_eq_true,beq_iff_eq]at h6
   rw[Rel_n,h6.1]at h4
   subst h4
   exact⟨h6.1,h6.2,mem_cells h5⟩
  have hcell:∀p,p<ys.length*k→∃u,w.cell? (at_ b (o+p))=some u∧u.oneCell'=true:=by
   intro p hp
   have hj:p / k<ys.length:=(Nat.div_lt_iff_lt_mul hk0).2 hp
   obtain⟨h4,h5,h6⟩:=hel (p / k) _ (List.getElem?_eq_getElem hj)
   have hc:p % k<ys[p / k].cells.length:=by rw[h4];exact Nat.mod_lt _ hk0
   obtain⟨u,h7,h8⟩:=AllM_get h6 (p % k) _ (List.getElem?_eq_getElem hc)
   have e1:o+p / k*k+p % k=o+p:=by
    have:=Nat.div_add_mod p k
    rw[Nat.mul_comm]at this
    omega
   rw[e1]at h7
   exact⟨u,h7,cellOK_one (List.all_eq_true.1 h5 _ (List.getElem_mem hc)) h8⟩
  refine⟨(List.range (ys.length*k)).map fun p=>(w.cell? (at_ b (o+p))).getD undef,some (at_ b o),c,rfl,by simp,?_,.inr ⟨_,rfl,?_⟩,?_⟩
  ·intro u hu
   obtain⟨p,hp,rfl⟩:=List.mem_map.1 hu
   obtain⟨u,h4,h5⟩:=hcell p (List.mem_range.1 hp)
   rw[h4]
   exact h5
  ·intro j u hu
   rw[List.getElem?_map]at hu
   cases hr:(List.range (ys.length*k))[j]? with
   | none=>rw[hr]at hu;cases hu
   | some p=>
     rw[hr]at hu
     obtain⟨hjl,hjp⟩:=List.getElem?_eq_some_iff.1 hr
     rw[List.getElem_range]at hjp
     subst hjp
     simp only[List.length_range]at hjl
     obtain⟨u',h4,h5⟩:=hcell j hjl
     simp only[Option.map_some,Option.some.injEq,h4,Option.getD_some]at hu
     subst hu
     rw[Addr.add_lit]
     exact h4
  ·intro j q hq
   obtain⟨h4,h5,h6⟩:=hel j q hq
   refine⟨h4,?_⟩
   have h7:=(RelL_lift (κ':=fun _=>undef) (objs:=fun _=>none) q.cells).allM h6
   refine AllM_lt h7 fun i hi=>?_
   have hj:j<ys.length:=(List.getElem?_eq_some_iff.1 hq).1
   have hjk:j*k+k≤ys.length*k:=by
    have:=Nat.mul_le_mul_right k (show j+1≤ys.length from hj)
    rwa[Nat.add_mul,Nat.one_mul]at this
   have hlt:j*k+i<ys.length*k:=by omega
   rw[List.getElem?_map,List.getElem?_range hlt]
   obtain⟨u,h8,_⟩:=hcell _ hlt
   simp only[Option.map_some,h8,Option.getD_some]
   rw[Nat.add_assoc]
   exact h8.symm
theorem run_append_any{P:Program}(w:World)(base:Nat)(t ty e:TypeId)(i:TypeInfo)(z:Value)(ht:P.underlying t=some (.slice e))(hi:P.info? e=some i)(hz:i.zero=some z)
  (hzs:z.cells.size=i.size) (hsz:0<i.size) (v:Value) (n:Nat) (xs:List Value) (hown:w.ownsRow base e i.size v n xs)
  (A:Option Addr) (m c:Nat) (news:List Value) (hl:news.length=m*i.size) (hA:(A=none∧m=0)∨∃ad,A=some ad∧∀j u,news[j]? = some u→w.cell? (ad.add j)=some u) (h1:∀u∈news,u.oneCell'=true)
  (h63:n+m≤maxLen) (hbytes:(n+m)*i.bytes≤140737488355328) (hbase:base≤w.heap.size) :
  ∃v' w',(Builtin.append_ #[t,t] ty #[v,.slice A m c]).run P w= .ok v' w'∧w'.ownsRow base e i.size v' (n+m) (xs++news)∧w.grownBy w' v.ownBlock∧
   (∀ b,blkOf v'=some b→blkOf v=some b∨w.heap.size≤b):=by
 rcases hA with⟨rfl,rfl⟩|⟨ad,rfl,hnews⟩
 ·have hn:news=[]:=List.eq_nil_of_length_eq_zero (by simpa using hl)
  subst hn
  refine⟨v,w,?_,by simpa using hown,⟨rfl,rfl,rfl,Nat.le_refl _,fun _ _ _=>rfl⟩,fun b hb=> .inl hb⟩
  rcases hown.2 with⟨rfl,rfl⟩|⟨g,cap,cur,rfl,hbg,hg,hnc,hcm,hcs,htake⟩
  ·simp[Builtin.append_,run_underlying ht,sizeOf,typeInfo,hi,Builtin.lenOf,Builtin.firstCells]
  ·simp[Builtin.append_,run_underlying ht,sizeOf,typeInfo,hi,Builtin.lenOf,Builtin.firstCells,hnc,storeCells]
 ·obtain⟨v',w',hr,ho,hg,_⟩:=run_append_own (P:=P) w base t ty e i z i.size i.bytes ht hi hz rfl rfl hzs hsz v n xs hown ad m c news hl hnews h1 h63 hbytes hbase
  refine⟨v',w',hr,ho,hg,?_⟩
  have hsmall:n+m≤9223372036854775807:=by simp only[maxLen]at h63;omega
  rcases hown.2 with⟨rfl,rfl⟩|⟨g,cap,cur,rfl,hbg,hgg,hnc,hcm,hcs,htake⟩
  ·by_cases hm:m=0
   ·subst hm
    rcases ho.2 with⟨rfl,_⟩|⟨g,cap,cur,rfl,hbg,hgg,_⟩
    ·intro b hb;cases hb
    ·intro b hb
     exfalso
     have hn:news=[]:=List.eq_nil_of_length_eq_zero (by simpa using hl)
     subst hn
     simp[Builtin.append_,run_underlying ht,sizeOf,typeInfo,hi,Builtin.lenOf,Builtin.firstCells,loadCells,loadCellsFrom]at hr
   ·have hr2:=run_append_nil (P:=P) w t ty e i z ht hi hz ad m c news hl hnews (by omega) (by omega) (by have hb:=hbytes;simp only[Nat.zero_add]at hb;omega)
    rw[hr]at hr2
    cases hr2
    intro b hb
    simp only[blkOf,Option.some.injEq]at hb
    exact .inr (by omega)
  ·by_cases hroom:n+m≤cap
   ·have hfit:n*i.size+news.length≤cur.size:=by rw[hl,hcs,←Nat.add_mul];exact Nat.mul_le_mul_right _ hroom
    have hr2:=run_append_room (P:=P) w t ty e i ht hi g n cap cur hgg ad m c news hl hnews h1 hroom hfit
    rw[hr]at hr2
    cases hr2
    exact fun b hb=> .inl hb
   ·have holds:∀j u,xs[j]? = some u→w.cell? ((⟨g,0,none⟩:Addr).add j)=some u:=hown.cells (g:=g) rfl
    have hr2:=run_append_grow (P:=P) w t ty e i z ht hi hz ⟨g,0,none⟩ n cap xs hown.1 holds ad m c news hl hnews (by omega) (by omega) (growslice_fits (by omega) hbytes)
    rw[hr]at hr2
    cases hr2
    intro b hb
    simp only[blkOf,Option.some.injEq]at hb
    exact .inr (by omega)
end Go.Abs
