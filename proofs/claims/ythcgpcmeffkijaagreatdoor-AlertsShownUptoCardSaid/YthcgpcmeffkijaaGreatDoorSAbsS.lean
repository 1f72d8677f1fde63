import Derived.Test.YthcgpcmeffkijaaGreatDoorSAbsR
set_option linter.unusedVariables false
set_option linter.unusedSimpArgs false
namespace Go.Abs
open Go.RowKit
theorem mapO_mem{α β:Type}{f:α→Option β}{l:List α}{r:List β}(h:mapO f l=some r){x:α}(hx:x∈l):∃y,f x=some y:=by
 obtain⟨i,hi,rfl⟩:=List.getElem_of_mem hx
 obtain⟨y,h1,_⟩:=(mapO_some h).2 i _ (List.getElem?_eq_getElem hi)
 exact⟨y,h1⟩
theorem expt_refs(no:Nat→Bool)(objs:Nat→Option AObj):∀(n:Nat)(x y:AV),expt no objs n x=some y→∀id∈refsOf objs n x,no id=false:=by
 intro n
 induction n with
 | zero=>intro x y h;simp[expt]at h
 | succ n ih=>
   intro x y h id hid
   have lst:∀{xs:List AV}{r:List AV},mapO (expt no objs n) xs=some r→∀id∈xs.flatMap (refsOf objs n),no id=false:=by
    intro xs r hm id hid
    obtain⟨z,hz,hid⟩:=List.mem_flatMap.1 hid
    obtain⟨y,hy⟩:=mapO_mem hm hz
    exact ih z y hy id hid
   cases x with
   | agg cs=>
     simp only[expt]at h
     simp only[refsOf]at hid
     obtain⟨r,h1,_⟩:=map_some h
     exact lst h1 id hid
   | fn f cs=>
     simp only[expt]at h
     simp only[refsOf]at hid
     obtain⟨r,h1,_⟩:=map_some h
     exact lst h1 id hid
   | tup cs=>simp[expt]at h
   | own r g=>
     simp only[refsOf,List.mem_singleton]at hid
     subst hid
     simp only[expt]at h
     split at h
     ·assumption
     ·cases h
   | oa r g i off=>
     simp only[refsOf,List.mem_singleton]at hid
     subst hid
     simp only[expt]at h
     split at h
     ·assumption
     ·cases h
   | ba b off=>
     simp only[expt]at h
     split at h
     ·rename_i cs fz hno hb
      obtain⟨r,h1,_⟩:=map_some h
      simp only[refsOf,hb,List.mem_cons]at hid
      rcases hid with rfl|hid
      ·exact hno
      ·exact lst h1 id hid
     ·cases h
   | mr b=>
     simp only[refsOf,List.mem_singleton]at hid
     subst hid
     simp only[expt]at h
     split at h
     ·assumption
     ·cases h
   | _=>simp[refsOf]at hid
theorem noDup_spec:∀{l:List Nat},noDup l=true→l.Nodup
 | [],_=>by simp
 | x::xs,h=>by
   simp only[noDup,Bool.and_eq_true,Bool.not_eq_true']at h
   refine List.nodup_cons.2 ⟨fun hm=>?_,noDup_spec h.2⟩
   have:xs.contains x=true:=by simpa using hm
   rw[this]at h
   exact absurd h.1 (by simp)
theorem flat_apart{α:Type}{f:α→List Nat}:∀{l:List α},(l.flatMap f).Nodup→∀(i j:Nat) p q,l[i]? = some p→l[j]? = some q→i≠j→∀x∈f p,x∉f q
 | [],_,i,j,p,q,hi,_,_,x,_=>by simp at hi
 | a::l,h,i,j,p,q,hi,hj,hij,x,hx=>by
   simp only[List.flatMap_cons]at h
   obtain⟨h1,h2,h3⟩:=List.nodup_append.1 h
   intro hx2
   cases i with
   | zero=>
     simp only[List.getElem?_cons_zero,Option.some.injEq]at hi
     subst hi
     cases j with
     | zero=>exact hij rfl
     | succ j=>
       simp only[List.getElem?_cons_succ]at hj
       exact h3 x hx x (List.mem_flatMap.2 ⟨q,List.mem_of_getElem? hj,hx2⟩) rfl
   | succ i=>
     simp only[List.getElem?_cons_succ]at hi
     cases j with
     | zero=>
       simp only[List.getElem?_cons_zero,Option.some.injEq]at hj
       subst hj
       exact h3 x hx2 x (List.mem_flatMap.2 ⟨p,List.mem_of_getElem? hi,hx⟩) rfl
     | succ j=>
       simp only[List.getElem?_cons_succ]at hj
       exact flat_apart h2 i j p q hi hj (fun e=>hij (by rw[e])) x hx hx2
theorem cellsR_spec{σ:Env}{no:Nat→Bool}{ren:Nat→Option Nat}{hr:Nat→Nat→Bool}{t:Nat}:∀(cs:List AV)(T:Nat)(cs':List AV),cellsR σ no ren hr t T cs=some cs'→cs'.length=cs.length∧∀(i:Nat) x,cs[i]? = some x→∃y,cs'[i]? = some y∧((hr t (T+i)=true∧y= .own (8*phOf t (T+i)) 0)∨cellR σ no ren x=some y)
 | [],T,cs',h=>by
   simp only[cellsR,Option.some.injEq]at h
   subst h
   exact⟨rfl,fun i x h=>by simp at h⟩
 | x::xs,T,cs',h=>by
   simp only[cellsR]at h
   obtain⟨y,h1,h⟩:=bind_some' h
   obtain⟨ys,h2,h3⟩:=map_some h
   subst h3
   obtain⟨h4,h5⟩:=cellsR_spec xs (T+1) ys h2
   refine⟨by simp[h4],fun i z hz=>?_⟩
   cases i with
   | zero=>
     simp only[List.getElem?_cons_zero,Option.some.injEq]at hz
     subst hz
     refine⟨y,by simp,?_⟩
     cases h6:hr t T with
     | true=>rw[h6]at h1;simp only[cond_true,Option.some.injEq]at h1;exact .inl ⟨rfl,h1.symm⟩
     | false=>rw[h6]at h1;exact .inr h1
   | succ i=>
     simp only[List.getElem?_cons_succ]at hz ⊢
     have:=h5 i z hz
     rwa[show T+1+i=T+(i+1) by omega]at this
structure Norm(σ:Env)(no:Nat→Bool)(ren:Nat→Option Nat)(hr:Nat→Nat→Bool)(keep:Keep)(τ:Env):Prop where
 n:τ.n=σ.n
 out:∀t,(∀ p∈keep,p.1≠t)→τ.slots t= .undef
 far:∀t,4096≤t→τ.slots t= .undef
 kept:∀p∈keep,∃v o,normOne σ no ren hr p=some (v,o)∧(p.1<4096→τ.slots p.1=v)∧τ.objs (8*p.1)=o
 objs:∀id ob,τ.objs id=some ob→∃p∈keep,id=8*p.1
theorem normAll_spec(σ:Env)(no:Nat→Bool)(ren:Nat→Option Nat)(hr:Nat→Nat→Bool):∀{keep:Keep}{τ:Env},(keep.map (·.1)).Nodup→normAll σ no ren hr keep=some τ→Norm σ no ren hr keep τ
 | [],τ,_,h=>by
   simp only[normAll,Option.some.injEq]at h
   subst h
   exact⟨rfl,fun _ _=>rfl,fun _ _=>rfl,fun p hp=>(by cases hp),fun id ob h=>(by cases h)⟩
 | (t,q)::l,τ,hn,h=>by
   simp only[normAll]at h
   obtain⟨⟨v,o⟩,h1,h⟩:=bind_some' h
   obtain⟨τ',h2,h3⟩:=map_some h
   simp only[List.map_cons,List.nodup_cons]at hn
   have ih:=normAll_spec σ no ren hr hn.2 h2
   have hne:∀p∈l,p.1≠t:=fun p hp e=>hn.1 (List.mem_map.2 ⟨p,hp,e⟩)
   have hz:τ'.objs (8*t)=none:=by
    cases ho:τ'.objs (8*t)with
    | none=>rfl
    | some ob=>
      obtain⟨p,hp,e⟩:=ih.objs _ _ ho
      exact absurd (by omega) (hne p hp)
   have hso:τ.slots=(bif Nat.blt t 4096 then upd τ'.slots t v else τ'.slots)∧τ.n=σ.n∧τ.objs=(o.elim τ'.objs fun o=>upd τ'.objs (8*t) (some o)):=by
    subst h3;cases o<;>exact⟨rfl,rfl,rfl⟩
   obtain⟨e1,e2,e3⟩:=hso
   have e4:∀t',t'≠t→τ.slots t'=τ'.slots t':=fun t' h=>by
    rw[e1]
    cases Nat.blt t 4096
    ·rfl
    ·exact upd_ne _ _ h
   refine⟨e2,fun t' ht=>?_,fun t' ht=>?_,fun p hp=>?_,fun id ob hob=>?_⟩
   ·rw[e4 _ (fun e=>ht (t,q) (by simp) e.symm)]
    exact ih.out t' fun p hp=>ht p (by simp[hp])
   ·by_cases e:t'=t
    ·have h9:Nat.blt t 4096=false:=by
      cases h8:Nat.blt t 4096 with
      | false=>rfl
      | true=>rw[Nat.blt_eq]at h8;omega
     rw[e1,h9]
     exact ih.far t' ht
    ·rw[e4 _ e];exact ih.far t' ht
   ·rcases List.mem_cons.1 hp with rfl|hp
    ·refine⟨v,o,h1,fun hlt=>by
      have h9:Nat.blt t 4096=true:=by rw[Nat.blt_eq];exact hlt
      rw[e1,h9];exact upd_same _ _ _,?_⟩
     rw[e3]
     cases o with
     | none=>exact hz
     | some o=>exact upd_same _ _ _
    ·obtain⟨v',o',h4,h5,h6⟩:=ih.kept p hp
     refine⟨v',o',h4,fun hlt=>by rw[e4 _ (hne p hp)];exact h5 hlt,?_⟩
     rw[e3]
     cases o with
     | none=>exact h6
     | some o=>
       rw[← h6]
       exact upd_ne _ _ (fun e=>hne p hp (by omega))
   ·rw[e3]at hob
    by_cases e:id=8*t
    ·exact⟨(t,q),by simp,e⟩
    ·have:τ'.objs id=some ob:=by
      cases o with
      | none=>exact hob
      | some o=>
        have h9:upd τ'.objs (8*t) (some o) id=some ob:=hob
        rwa[upd_ne _ _ e]at h9
     obtain⟨p,hp,e⟩:=ih.objs id ob this
     exact⟨p,by simp[hp],e⟩
section
variable {F:Nat→Prop} {w0:Base} {κ:Nat→Value} {σ:Env} {a:Act} {w:World}
inductive KeptAs(σ:Env)(no:Nat→Bool)(ren:Nat→Option Nat)(hr:Nat→Nat→Bool)(p:Nat×Option (Nat×Nat)):AV→Option AObj→Prop
 | row (r g e k:Nat) (xs:List AV) (hs:σ.slots p.1= .own r g) (ho:σ.objs r=some (.row e k xs g false)) (hc:claimOf σ p=[r]):KeptAs σ no ren hr p (.own (8*p.1) 0) (some (.row e k xs 0 false))
 | nils (e k:Nat) (hk:0<k) (hs:σ.slots p.1= .nils) (hc:claimOf σ p=[]):KeptAs σ no ren hr p (.own (8*p.1) 0) (some (.row e k [] 0 false))
 | box (b:Nat) (cs cs':List AV) (fz fz':Bool) (hs:σ.slots p.1= .ba b 0) (ho:σ.objs b=some (.box cs fz)) (hc:claimOf σ p=[b]) (hm:cellsR σ no ren hr p.1 0 cs=some cs') (hf:fz'=false→fz=false):KeptAs σ no ren hr p (.ba (8*p.1) 0) (some (.box cs' fz'))
 | fbox (b:Nat) (cs cs':List AV) (fz:Bool) (hs:σ.slots p.1= .ba b 0) (ho:σ.objs b=some (.box cs fz)) (hc:claimOf σ p=[b]) (hm:mapO (expt no σ.objs DEPTH) cs=some cs'):KeptAs σ no ren hr p (.ba (8*p.1) 0) (some (.box cs' true))
 | map (b:Nat) (ks vs:List AV) (fz:Bool) (hq:p.2=none) (hs:σ.slots p.1= .mr b) (ho:σ.objs b=some (.mp ks vs fz)) (hc:claimOf σ p=[b]):KeptAs σ no ren hr p (.mr (8*p.1)) (some (.mp ks vs fz))
 | und (hs:σ.slots p.1= .und):KeptAs σ no ren hr p .und none
 | val (v:AV) (hm:expt no σ.objs DEPTH (σ.slots p.1)=some v):KeptAs σ no ren hr p v none
theorem normOne_spec{no:Nat→Bool}{ren:Nat→Option Nat}{hr:Nat→Nat→Bool}{p:Nat×Option (Nat×Nat)}{v:AV}{o:Option AObj}(h:normOne σ no ren hr p=some (v,o)):KeptAs σ no ren hr p v o∧(∀ e k,p.2=some (e,k)→k≠0→(∃ xs,o=some (.row e k xs 0 false))):=by
 obtain⟨t,q⟩:=p
 cases q with
 | some ek=>
   obtain⟨e,k⟩:=ek
   simp only[normOne]at h
   cases hs:σ.slots t with
   | own r g=>
     rw[hs]at h
     simp only at h
     split at h
     case h_2=>cases h
     rename_i e' k' xs g' hr
     split at h
     case isFalse=>cases h
     rename_i hc
     obtain⟨h1,h2,h3⟩:=hc
     subst h1;subst h2;subst h3
     cases h
     exact⟨.row r g' e' k' xs hs hr (by simp[claimOf,hs]),fun e k he _=>by cases he;exact⟨_,rfl⟩⟩
   | nils=>
     rw[hs]at h
     simp only at h
     split at h
     case isFalse=>cases h
     rename_i hk
     cases h
     exact⟨.nils e k hk hs (by simp[claimOf,hs]),fun e k he _=>by cases he;exact⟨_,rfl⟩⟩
   | ba b j=>
     rw[hs]at h
     cases j with
     | succ j=>simp at h
     | zero=>
       simp only at h
       split at h
       case isFalse=>cases h
       rename_i hk
       split at h
       case h_2=>cases h
       rename_i cs fz hb
       obtain⟨cs',h1,h2⟩:=map_some h
       cases h2
       exact⟨.fbox b cs cs' fz hs hb (by simp[claimOf,hs]) h1,fun e k he hk0=>by cases he;exact absurd hk hk0⟩
   | _=>rw[hs]at h;simp at h
 | none=>
   refine⟨?_,fun e k he=>by cases he⟩
   simp only[normOne]at h
   split at h
   ·rename_i b hs
    split at h
    case h_2=>cases h
    rename_i cs fz hb
    obtain⟨cs',h1,h2⟩:=map_some h
    cases h2
    exact .box b cs cs' fz fz hs hb (by simp[claimOf,hs]) h1 id
   ·rename_i b hs
    split at h
    case h_2=>cases h
    rename_i ks vs fz hb
    cases h
    exact .map b ks vs fz rfl hs hb (by simp[claimOf,hs])
   ·rename_i hs
    cases h
    exact .und hs
   ·obtain⟨v',h1,h2⟩:=map_some h
    cases h2
    exact .val v h1
end
end Go.Abs
