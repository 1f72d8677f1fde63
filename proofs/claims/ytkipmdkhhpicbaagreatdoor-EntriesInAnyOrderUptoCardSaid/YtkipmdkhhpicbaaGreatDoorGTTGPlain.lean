import Derived.Test.YtkipmdkhhpicbaaGreatDoorGTTGR
import Derived.Test.YtkipmdkhhpicbaaGreatDoorGPlS
import Derived.Test.YtkipmdkhhpicbaaGreatDoorGPlU
import Derived.Test.YtkipmdkhhpicbaaGreatDoorGPlT
import Derived.Test.YtkipmdkhhpicbaaGreatDoorGPlV
set_option linter.unusedVariables false
set_option linter.unusedSimpArgs false
set_option maxRecDepth 10000
namespace Go.Abs.TTG
open Go.RowKit Go.Proofs Go.Abs
theorem lit_sort1(x:S248):sortO (fun x y=>T217 x y) [x]=some [x]:=by
 obtain⟨l',h1,h2,_⟩:=sortO_le (fun x y=>T217 x y) (fun _ _=>True) (fun _ _=> .inl trivial) (fun _ _ _ _ _=>trivial) [x] (by simp) (by
  intro a ha b hb
  simp only[List.mem_singleton]at ha hb
  subst ha;subst hb
  refine⟨_,rfl,?_⟩
  have:subI .i64 b.f0 b.f0=0:=by unfold subI;rw[Int.sub_self];rfl
  simp[this])
 rw[h1,List.perm_singleton.1 h2]
theorem lit_sort2:sortO (fun x y=>T217 x y) [⟨0,2⟩,⟨1,3⟩]=some [⟨0,2⟩,⟨1,3⟩]:=by
 obtain⟨l',h1,h2,h3⟩:=sortO_key (fun x y=>T217 x y) (·.f0) [⟨0,2⟩,⟨1,3⟩] (by simp) (by
  intro a ha b hb
  simp only[List.mem_cons,List.not_mem_nil,or_false]at ha hb
  rcases ha with rfl|rfl<;>rcases hb with rfl|rfl<;>exact⟨_,rfl,by decide⟩)
 rw[h1]
 congr 1
 match l',h2.length_eq with
 | [a,b],_=>
   have ha:a∈[(⟨0,2⟩:S248),⟨1,3⟩]:=h2.mem_iff.1 (by simp)
   have hb:b∈[(⟨0,2⟩:S248),⟨1,3⟩]:=h2.mem_iff.1 (by simp)
   have hp:=h2.countP_eq (fun x:S248=>x.f0 == 0)
   simp only[List.mem_cons,List.not_mem_nil,or_false]at ha hb
   simp only[List.pairwise_cons,List.mem_singleton,forall_eq]at h3
   rcases ha with rfl|rfl<;>rcases hb with rfl|rfl
   ·simp at hp
   ·rfl
   ·have:=h3.1
    simp at this
   ·simp at hp
abbrev r0:S40:=S40.mk 0 0 2 2
abbrev r1:S40:=S40.mk 1 1 2 2
theorem runs_nil(y:Int):T155 [] y=some []:=by
 unfold T155
 rw[iter_run (r:=(0,false,[])) 1 (by kernel_rfl)]
 simp only[Option.bind_some]
 rw[show sortO (fun x y=>T217 x y) ([]:List S248)=some []from by simp[sortO],Option.bind_some,iter_run (r:=(0,false,[],[])) 1 (by kernel_rfl)]
 rfl
theorem runs0:T155 [r0,r1] 0=some [⟨0,2⟩]:=by
 unfold T155
 rw[iter_run (r:=(2,false,[⟨0,2⟩])) 3 (by kernel_rfl)]
 simp only[Option.bind_some]
 rw[lit_sort1,Option.bind_some,iter_run (r:=(1,false,[⟨0,2⟩],[⟨0,2⟩])) 2 (by kernel_rfl)]
 rfl
theorem runs1:T155 [r0,r1] 1=some [⟨0,3⟩]:=by
 unfold T155
 rw[iter_run (r:=(2,false,[⟨0,2⟩,⟨1,3⟩])) 3 (by kernel_rfl)]
 simp only[Option.bind_some]
 rw[lit_sort2,Option.bind_some,iter_run (r:=(2,false,[⟨0,3⟩],[⟨0,2⟩,⟨1,3⟩])) 3 (by kernel_rfl)]
 rfl
theorem runs2:T155 [r0,r1] 2=some [⟨1,3⟩]:=by
 unfold T155
 rw[iter_run (r:=(2,false,[⟨1,3⟩])) 3 (by kernel_rfl)]
 simp only[Option.bind_some]
 rw[lit_sort1,Option.bind_some,iter_run (r:=(1,false,[⟨1,3⟩],[⟨1,3⟩])) 2 (by kernel_rfl)]
 rfl
theorem less_nil(x:S248)(hx:ltI x.f0 x.f1=true):T154 [x] []=some [x]:=by
 have h:L154_4 [x] [] ([],0,0)=some (.inl ([x],0,1)):=by
  unfold L154_4
  have e1:ltI ((([],0,0):List S248×Int×Int).2.2) (lenL [x])=true:=rfl
  have e2:listAt [x] ((([],0,0):List S248×Int×Int).2.2)=some x:=rfl
  rw[e1,e2]
  simp only[cond_true,Option.bind_some]
  rw[iter_run (r:=(0,false)) 1 (by kernel_rfl),Option.bind_some,iter_run (r:=(0,false,[],x.f0)) 1 (by kernel_rfl)]
  simp only[Option.bind_some,hx,cond_true]
  rfl
 unfold T154
 rw[iter_inl h,iter_inr (r:=(0,1,false,[x])) (by kernel_rfl)]
 rfl
theorem same_no(a b:S248)(h:allB [eqI a.f0 b.f0,eqI a.f1 b.f1]=false):T156 [a] [b]=some false:=by
 unfold T156
 rw[iter_inr (r:= .inr ()) (by
  unfold L156_4
  have e1:ltI 0 (lenL [a])=true:=rfl
  have e2:listAt [a] 0=some a:=rfl
  have e3:listAt [b] 0=some b:=rfl
  rw[e1,e2,e3]
  simp only[cond_true,Option.bind_some,h,Bool.not_false])]
 rfl
theorem lit_region:T86 [r0,r1] []=some [⟨0,0,2,1⟩,⟨0,1,3,1⟩,⟨1,2,2,1⟩]:=by
 unfold T86 T151
 rw[iter_run (r:=(2,2,false)) 3 (by kernel_rfl)]
 simp only[Option.bind_some]
 rw[show growO S40 32 2=some [] by unfold growO;rw[if_pos (by decide)],Option.bind_some,iter_run (r:=(2,false,[r0,r1])) 3 (by kernel_rfl)]
 simp only[Option.bind_some]
 rw[iter_run (r:=(2,false,[0,2,1,3],[r0,r1])) 3 (by kernel_rfl)]
 simp only[Option.bind_some]
 rw[show sortIO [0,2,1,3]=some [0,1,2,3] by
  unfold sortIO
  rw[if_pos (by simp),sortI_of (l':=[0,1,2,3]) (by decide) (by decide)]]
 simp only[Option.bind_some]
 rw[show compIO [0,1,2,3]=some [0,1,2,3] by decide]
 simp only[Option.bind_some]
 have s0:L86_13 [r0,r1] [] [0,1,2,3] ([0,1,2,3],[],[],0,0)=some (.inl ([0,1,2,3],[],[⟨0,2⟩],0,1)):=by
  unfold L86_13
  rw[show ltI ((([0,1,2,3],[],[],0,0):List Int×List S40×List S248×Int×Int).2.2.2.2) (lenL ([0,1,2,3]:List Int))=true by decide]
  simp only[cond_true]
  rw[show idxO (List.length ([0,1,2,3]:List Int)) 0=some 0 by decide]
  simp only[Option.bind_some]
  rw[show getN ([0,1,2,3]:List Int) 0=some 0 by decide]
  simp only[Option.bind_some]
  rw[show ltI (addI .i64 0 1) (lenL ([0,1,2,3]:List Int))=true by decide]
  simp only[cond_true]
  rw[runs0,runs_nil]
  simp only[Option.bind_some]
  rw[less_nil ⟨0,2⟩ (by decide)]
  simp only[Option.bind_some]
  rw[show T156 [] [⟨0,2⟩]=some false by unfold T156;rfl]
  simp only[Option.bind_some,cond_false]
  rw[iter_run (r:=(0,false,[0,1,2,3],[])) 1 (by kernel_rfl)]
  rfl
 have s1:L86_13 [r0,r1] [] [0,1,2,3] ([0,1,2,3],[],[⟨0,2⟩],0,1)=some (.inl ([0,1,2,3],[⟨0,0,2,1⟩],[⟨0,3⟩],1,2)):=by
  unfold L86_13
  rw[show ltI ((([0,1,2,3],[],[⟨0,2⟩],0,1):List Int×List S40×List S248×Int×Int).2.2.2.2) (lenL ([0,1,2,3]:List Int))=true by decide]
  simp only[cond_true]
  rw[show idxO (List.length ([0,1,2,3]:List Int)) 1=some 1 by decide]
  simp only[Option.bind_some]
  rw[show getN ([0,1,2,3]:List Int) 1=some 1 by decide]
  simp only[Option.bind_some]
  rw[show ltI (addI .i64 1 1) (lenL ([0,1,2,3]:List Int))=true by decide]
  simp only[cond_true]
  rw[runs1,runs_nil]
  simp only[Option.bind_some]
  rw[less_nil ⟨0,3⟩ (by decide)]
  simp only[Option.bind_some]
  rw[same_no _ _ (by decide)]
  simp only[Option.bind_some,cond_false]
  rw[iter_run (r:=(1,false,[0,1,2,3],[⟨0,0,2,1⟩])) 2 (by kernel_rfl)]
  rfl
 have s2:L86_13 [r0,r1] [] [0,1,2,3] ([0,1,2,3],[⟨0,0,2,1⟩],[⟨0,3⟩],1,2)=some (.inl ([0,1,2,3],[⟨0,0,2,1⟩,⟨0,1,3,1⟩],[⟨1,3⟩],2,3)):=by
  unfold L86_13
  rw[show ltI ((([0,1,2,3],[⟨0,0,2,1⟩],[⟨0,3⟩],1,2):List Int×List S40×List S248×Int×Int).2.2.2.2) (lenL ([0,1,2,3]:List Int))=true by decide]
  simp only[cond_true]
  rw[show idxO (List.length ([0,1,2,3]:List Int)) 2=some 2 by decide]
  simp only[Option.bind_some]
  rw[show getN ([0,1,2,3]:List Int) 2=some 2 by decide]
  simp only[Option.bind_some]
  rw[show ltI (addI .i64 2 1) (lenL ([0,1,2,3]:List Int))=true by decide]
  simp only[cond_true]
  rw[runs2,runs_nil]
  simp only[Option.bind_some]
  rw[less_nil ⟨1,3⟩ (by decide)]
  simp only[Option.bind_some]
  rw[same_no _ _ (by decide)]
  simp only[Option.bind_some,cond_false]
  rw[iter_run (r:=(1,false,[0,1,2,3],[⟨0,0,2,1⟩,⟨0,1,3,1⟩])) 2 (by kernel_rfl)]
  rfl
 have s3:L86_13 [r0,r1] [] [0,1,2,3] ([0,1,2,3],[⟨0,0,2,1⟩,⟨0,1,3,1⟩],[⟨1,3⟩],2,3)=some (.inl ([0,1,2,3],[⟨0,0,2,1⟩,⟨0,1,3,1⟩,⟨1,2,2,1⟩],[],3,4)):=by
  unfold L86_13
  rw[show ltI ((([0,1,2,3],[⟨0,0,2,1⟩,⟨0,1,3,1⟩],[⟨1,3⟩],2,3):List Int×List S40×List S248×Int×Int).2.2.2.2) (lenL ([0,1,2,3]:List Int))=true by decide]
  simp only[cond_true]
  rw[show idxO (List.length ([0,1,2,3]:List Int)) 3=some 3 by decide]
  simp only[Option.bind_some]
  rw[show getN ([0,1,2,3]:List Int) 3=some 3 by decide]
  simp only[Option.bind_some]
  rw[show ltI (addI .i64 3 1) (lenL ([0,1,2,3]:List Int))=false by decide]
  simp only[cond_false]
  rw[show T156 [⟨1,3⟩] []=some false by unfold T156;rfl]
  simp only[Option.bind_some,cond_false]
  rw[iter_run (r:=(1,false,[0,1,2,3],[⟨0,0,2,1⟩,⟨0,1,3,1⟩,⟨1,2,2,1⟩])) 2 (by kernel_rfl)]
  rfl
 rw[iter_inl s0,iter_inl s1,iter_inl s2,iter_inl s3,iter_inr (r:=([],3,4,false,[0,1,2,3],[⟨0,0,2,1⟩,⟨0,1,3,1⟩,⟨1,2,2,1⟩])) (by kernel_rfl)]
 rfl
theorem lit_area:T91 [r0,r1]=some (7,0):=by
 unfold T91 T84 T160
 rw[iter_run (r:= .inl (2,false)) 3 (by kernel_rfl)]
 rw[show (bif ltI 2000 (lenL ([r0,r1]:List S40))then(some 2:Option Int)else(some (Sum.inl (2,false):(Int×Bool)⊕Int)).bind fun y3=>(Sum.elim (fun y3a=>some 0) (fun y3b=>some y3b) y3))=some 0 by decide]
 simp only[Option.bind_some]
 rw[show neI 0 0=false by decide]
 simp only[cond_false]
 rw[lit_region]
 simp only[Option.bind_some]
 rw[iter_run (r:=(7,3,false)) 4 (by kernel_rfl)]
 rfl
theorem ready_ok:T30=some true:=by
 unfold T30
 rw[lit_area]
 simp only[Option.bind_some]
 kernel_rfl
end Go.Abs.TTG
set_option linter.unusedVariables false
set_option linter.unusedSimpArgs false
set_option maxRecDepth 10000
namespace Go.Abs.TTG
open Go.RowKit Go.Proofs Go.Abs
theorem below_ok(x:Int){n:Int}(hn:n≤1000000000000000):∃v,T123 x n=some v∧(1≤n→0≤v∧v<n)∧(n<1→v=0):=by
 unfold T123
 by_cases h:n<1
 ·rw[show ltI n 1=true by unfold ltI;exact decide_eq_true h]
  exact⟨0,rfl,fun h1=>by omega,fun _=>rfl⟩
 ·rw[show ltI n 1=false by unfold ltI;exact decide_eq_false h]
  have hr:remO .i64 x n=some (x.tmod n):=by unfold remO;rw[if_neg (by omega)]
  have h1:=Int.tmod_lt_of_pos x (by omega:0<n)
  have h2:=Int.lt_tmod_of_pos x (by omega:0<n)
  simp only[cond_false,hr,Option.bind_some]
  by_cases h0:x.tmod n<0
  ·rw[show ltI (x.tmod n) 0=true by unfold ltI;exact decide_eq_true h0]
   refine⟨_,rfl,fun _=>?_,fun h3=>by omega⟩
   rw[addI_eq (by omega) (by omega)]
   omega
  ·rw[show ltI (x.tmod n) 0=false by unfold ltI;exact decide_eq_false h0]
   exact⟨_,rfl,fun _=>⟨by omega,h1⟩,fun h3=>by omega⟩
theorem next_ok{L:List Int}{at_ n:Int}(hL:L.length≤1048576)(h0:0≤at_)(h1:at_≤1000000000)(hn:n≤1000000000000000):∃v,T46 L at_ n=some (v,L,at_+1)∧(1≤n→0≤v∧v<n)∧(n<1→v=0):=by
 unfold T46
 have e1:addI .i64 at_ 1=at_+1:=addI_eq (by omega) (by omega)
 rw[e1]
 by_cases hl:L.length=0
 ·rw[show eqI (lenL L) 0=true by rw[eqI_iff,lenL_eq,hl];rfl]
  obtain⟨v,h2,h3⟩:=below_ok (mulI .i64 (at_+1) 7919) hn
  simp only[cond_true,h2,Option.bind_some]
  exact⟨v,rfl,h3⟩
 ·rw[show eqI (lenL L) 0=false by rw[eqI_iff,lenL_eq];exact decide_eq_false (by omega)]
  have e2:subI .i64 (at_+1) 1=at_:=by rw[subI_eq (by omega) (by omega)];omega
  have hr:remO .i64 at_ (lenL L)=some (at_.tmod L.length):=by unfold remO;rw[lenL_eq,if_neg (by omega)]
  have hq:∃q,quoO .i64 at_ (lenL L)=some q:=by unfold quoO;rw[lenL_eq,if_neg (by omega)];exact⟨_,rfl⟩
  obtain⟨q,hq⟩:=hq
  have h2:=Int.tmod_lt_of_pos at_ (by omega:(0:Int)<L.length)
  have h3:=Int.tmod_nonneg (L.length:Int) h0
  generalize at_.tmod L.length=k at *
  obtain⟨j,rfl⟩:∃j:Nat,k=j:=⟨k.toNat,by omega⟩
  have hx:=List.getElem?_eq_getElem (show j<L.length by omega)
  obtain⟨v,h4,_⟩:=below_ok (L[j]'(by omega)) (n:=1073741824) (by omega)
  obtain⟨u,h6,h7⟩:=below_ok (addI .i64 v (mulI .i64 q (addI .i64 7919 j))) hn
  simp only[cond_false,e2,hr,hq,Option.bind_some,listAt_some hx,h4,h6]
  exact⟨u,rfl,h7⟩
theorem range_ok{L:List Int}{at_ lo hi:Int}(hL:L.length≤1048576)(h0:0≤at_)(h1:at_≤1000000000)(hlo : -1000000000000≤lo)(hle:lo≤hi)(hhi:hi≤1000000000000):∃v,T14 L at_ lo hi=some (v,L,at_+1)∧lo≤v∧v≤hi:=by
 unfold T14
 rw[show ltI hi lo=false by unfold ltI;exact decide_eq_false (by omega)]
 have e1:subI .i64 hi lo=hi-lo:=subI_eq (by omega) (by omega)
 have e2:addI .i64 (hi-lo) 1=hi-lo+1:=addI_eq (by omega) (by omega)
 obtain⟨v,h2,h3,_⟩:=next_ok (n:=hi-lo+1) hL h0 h1 (by omega)
 have h4:=h3 (by omega)
 simp only[cond_false,e1,e2,h2,Option.bind_some]
 exact⟨_,rfl,by rw[addI_eq (by omega) (by omega)];omega,by rw[addI_eq (by omega) (by omega)];omega⟩
end Go.Abs.TTG
set_option linter.unusedVariables false
set_option linter.unusedSimpArgs false
set_option maxRecDepth 10000
namespace Go.Abs.TTG.E
open Go.RowKit Go.Proofs Go.Abs
theorem pick_ok{L:List Int}{at_:Int}{xs:List Int}(hL:L.length≤1048576)(h0:0≤at_)(h1:at_≤1000000000)(hx:1≤xs.length)(hm:xs.length≤1000):∃v,T37 L at_ xs=some (v,L,at_+1)∧v∈xs:=by
 unfold T37
 obtain⟨v,h2,h3,_⟩:=next_ok (n:=lenL xs) hL h0 h1 (by rw[lenL_eq];omega)
 have h4:=h3 (by rw[lenL_eq];omega)
 rw[lenL_eq]at h4
 obtain⟨j,rfl⟩:∃j:Nat,v=j:=⟨v.toNat,by omega⟩
 have h5:=List.getElem?_eq_getElem (show j<xs.length by omega)
 exact⟨xs[j]'(by omega),bs h2 (bs (listAt_some h5) rfl),List.getElem_mem _⟩
theorem some_ok{L:List Int}{at_:Int}{xs:List ByteArray}(hL:L.length≤1048576)(h0:0≤at_)(h1:at_≤1000000000)(hx:1≤xs.length)(hm:xs.length≤1000):∃v,T81 L at_ xs=some (v,L,at_+1)∧v∈xs:=by
 unfold T81
 obtain⟨v,h2,h3,_⟩:=next_ok (n:=lenL xs) hL h0 h1 (by rw[lenL_eq];omega)
 have h4:=h3 (by rw[lenL_eq];omega)
 rw[lenL_eq]at h4
 obtain⟨j,rfl⟩:∃j:Nat,v=j:=⟨v.toNat,by omega⟩
 have h5:=List.getElem?_eq_getElem (show j<xs.length by omega)
 exact⟨xs[j]'(by omega),bs h2 (bs (listAt_some h5) rfl),List.getElem_mem _⟩
theorem flip_ok{L:List Int}{at_ n:Int}(hL:L.length≤1048576)(h0:0≤at_)(h1:at_≤1000000000)(hn:n≤1000):∃b,T24 L at_ n=some (b,L,at_+1):=by
 unfold T24
 obtain⟨v,h2,_⟩:=next_ok (n:=n) hL h0 h1 (by omega)
 exact⟨_,bs h2 rfl⟩
def city:ByteArray:= .mk #[99,105,116,121]
def mall:ByteArray:= .mk #[109,97,108,108]
def tags2:List ByteArray:=[.mk #[99,105,116,121],.mk #[109,97,108,108]]
def keys4:List ByteArray:=[.mk #[101,97],.mk #[101,98],.mk #[101,99],.mk #[101,100]]
def items3:List ByteArray:=[.mk #[105,97],.mk #[105,98],.mk #[105,99]]
structure OkE(e:S59):Prop where
 key:e.f0∈keys4
 item:e.f1∈items3
 ver:0≤e.f2∧e.f2≤10
 first:0≤e.f3∧e.f3≤3
 last:e.f3≤e.f4∧e.f4≤33
 every:1≤e.f5∧e.f5≤7
 days:1≤e.f6∧e.f6≤127
 ex:e.f7.Sublist [1,2,8]
 from_:0≤e.f8∧e.f8≤1439
 to_:0≤e.f9∧e.f9≤1439
 prio:0≤e.f10∧e.f10≤9
 tags:e.f11.Sublist tags2
theorem except_ok{L:List Int}{a:Int}(hL:L.length≤1048576)(h0:0≤a)(h1:a≤999999990){z0 x2 x4 x5 x6 x7 x8 x9 x10 x11 x12 x13}{out:List S59}{ks:List ByteArray} :
  ∃ex,iter (L20_9 z0 x2 x4 x5 x6 x7 x8 x9 x10 x11 x12 x13) (L,a,out,([]:List Int),([]:List ByteArray),ks,([1,2,8]:List Int),0)=some (3,false,L,a+3,out,ks,[1,2,8],ex,[])∧ex.Sublist [1,2,8]:=by
 obtain⟨r,h2,ex,h3,h4⟩:=iter_up (st:=L20_9 z0 x2 x4 x5 x6 x7 x8 x9 x10 x11 x12 x13) (fun(s:List Int)(i:Nat)=>(L,a+(i:Int),out,s,([]:List ByteArray),ks,([1,2,8]:List Int),(i:Int))) 3
  (fun i s=>s.Sublist (([1,2,8]:List Int).take i)) (fun r=>∃ex,r=((3:Int),false,L,a+3,out,ks,([1,2,8]:List Int),ex,([]:List ByteArray))∧ex.Sublist [1,2,8])
  (fun i s hi hI=>by
   obtain⟨b,hb⟩:=flip_ok (n:=4) (at_:=a+(i:Int)) hL (by omega) (by omega) (by omega)
   have hx:=List.getElem?_eq_getElem (show i<([1,2,8]:List Int).length from hi)
   have e1:a+(i:Int)+1=a+((i+1:Nat):Int):=by omega
   have hs:s.length≤3:=by
    have:=hI.length_le
    rw[List.length_take]at this
    simp at this
    omega
   cases b with
   | true=>
     refine⟨s++[([1,2,8]:List Int)[i]],?_,?_⟩
     ·unfold L20_9
      refine ct (ltL_true hi) ?_
      refine bs (idx_nat hi) (bs (getN_some hx) (bs hb ?_))
      refine ct rfl (bs (appO_big (by omega) (by simp;omega)) ?_)
      show some (Sum.inl (L,a+(i:Int)+1,_,_,_,_,_,addI .i64 (i:Int) 1))=_
      rw[e1,nextI (by omega)]
     ·rw[take_next hx]
      exact hI.append (List.Sublist.refl _)
   | false=>
     refine⟨s,?_,?_⟩
     ·unfold L20_9
      refine ct (ltL_true hi) ?_
      refine bs (idx_nat hi) (bs (getN_some hx) (bs hb ?_))
      refine cf rfl ?_
      show some (Sum.inl (L,a+(i:Int)+1,_,_,_,_,_,addI .i64 (i:Int) 1))=_
      rw[e1,nextI (by omega)]
     ·rw[take_next hx]
      exact hI.trans (List.sublist_append_left _ _))
  (fun s hI=>⟨_,rfl,s,rfl,hI⟩) [] (List.Sublist.refl _)
 exact⟨ex,by rw[show ((L,a,out,([]:List Int),([]:List ByteArray),ks,([1,2,8]:List Int),(0:Int)))=(L,a+((0:Nat):Int),out,[],[],ks,[1,2,8],((0:Nat):Int)) by simp];rw[h2,h3],h4⟩
theorem tags_ok{L:List Int}{a:Int}(hL:L.length≤1048576)(h0:0≤a)(h1:a≤999999990){z0 x2 x4 x5 x6 x7 x8 x9 x10 x11 x12 x13}{out:List S59}{ks:List ByteArray}{ex:List Int} :
  ∃tg,iter (L20_15 z0 x2 x4 x5 x6 x7 x8 x9 x10 x11 x12 x13) (L,a,out,ex,([]:List ByteArray),ks,tags2,0)=some (2,false,L,a+2,out,ks,tags2,ex,tg)∧tg.Sublist tags2:=by
 obtain⟨r,h2,tg,h3,h4⟩:=iter_up (st:=L20_15 z0 x2 x4 x5 x6 x7 x8 x9 x10 x11 x12 x13) (fun(s:List ByteArray)(i:Nat)=>(L,a+(i:Int),out,ex,s,ks,tags2,(i:Int))) 2
  (fun i s=>s.Sublist (tags2.take i)) (fun r=>∃tg,r=((2:Int),false,L,a+2,out,ks,tags2,ex,tg)∧tg.Sublist tags2)
  (fun i s hi hI=>by
   obtain⟨b,hb⟩:=flip_ok (n:=4) (at_:=a+(i:Int)) hL (by omega) (by omega) (by omega)
   have hi':i<tags2.length:=hi
   have hx:=List.getElem?_eq_getElem hi'
   have e1:a+(i:Int)+1=a+((i+1:Nat):Int):=by omega
   have hs:s.length≤3:=by
    have:=hI.length_le
    rw[List.length_take]at this
    omega
   cases b with
   | true=>
     refine⟨s++[tags2[i]],?_,?_⟩
     ·unfold L20_15
      refine ct (ltL_true hi) ?_
      refine bs (idx_nat hi') (bs (getN_some hx) (bs hb ?_))
      refine ct rfl (bs (appO_big (by omega) (by simp;omega)) ?_)
      show some (Sum.inl (L,a+(i:Int)+1,_,_,_,_,_,addI .i64 (i:Int) 1))=_
      rw[e1,nextI (by omega)]
     ·rw[take_next hx]
      exact hI.append (List.Sublist.refl _)
   | false=>
     refine⟨s,?_,?_⟩
     ·unfold L20_15
      refine ct (ltL_true hi) ?_
      refine bs (idx_nat hi') (bs (getN_some hx) (bs hb ?_))
      refine cf rfl ?_
      show some (Sum.inl (L,a+(i:Int)+1,_,_,_,_,_,addI .i64 (i:Int) 1))=_
      rw[e1,nextI (by omega)]
     ·rw[take_next hx]
      exact hI.trans (List.sublist_append_left _ _))
  (fun s hI=>⟨_,rfl,s,rfl,hI⟩) [] (List.Sublist.refl _)
 exact⟨tg,by rw[show ((L,a,out,ex,([]:List ByteArray),ks,tags2,(0:Int)))=(L,a+((0:Nat):Int),out,ex,[],ks,tags2,((0:Nat):Int)) by simp];rw[h2,h3],h4⟩
end Go.Abs.TTG.E
set_option linter.unusedVariables false
set_option linter.unusedSimpArgs false
set_option maxRecDepth 10000
namespace Go.Abs.TTG.E
open Go.RowKit Go.Proofs Go.Abs
def OkL(l:List S59):Prop:=(l.map (·.f0)).Sublist keys4∧∀e∈l,OkE e
theorem entries_ok{L:List Int}{q:Int}(hL:L.length≤1048576)(q0:0≤q)(q1:q≤1000):∃a at_,T20 L q=some (a,L,at_)∧(OkL a∧∀e∈a,e.f2≤2)∧q≤at_∧at_≤q+400:=by
 obtain⟨r,h2,a,at_,h3,h4⟩:=iter_up (st:=L20_3) (fun(s:Int×List S59)(i:Nat)=>(L,s.1,s.2,keys4,(i:Int))) 4
  (fun i s=>q≤s.1∧s.1≤q+100*i∧(s.2.map (·.f0)).Sublist (keys4.take i)∧∀e∈s.2,OkE e∧e.f2≤2)
  (fun r=>∃a at_,r=((4:Int),false,L,at_,a,keys4)∧(OkL a∧∀e∈a,e.f2≤2)∧q≤at_∧at_≤q+400)
  (fun i s hi hI=>by
   obtain⟨a0,out⟩:=s
   obtain⟨i0,i1,i2,i3⟩:=hI
   simp only at i0 i1 i2 i3
   have hi':i<keys4.length:=hi
   have hx:=List.getElem?_eq_getElem hi'
   have hlen:out.length≤4:=by
    have:=i2.length_le
    rw[List.length_take,List.length_map]at this
    omega
   obtain⟨b,hb⟩:=flip_ok (n:=4) (at_:=a0) hL (by omega) (by omega) (by omega)
   cases b with
   | true=>
     refine⟨(a0+1,out),?_,by omega,by omega,?_,i3⟩
     ·unfold L20_3
      refine ct (ltL_true hi) (bs (idx_nat hi') (bs (getN_some hx) (bs hb (ct rfl ?_))))
      rw[nextI (by omega)]
     ·rw[take_next hx]
      exact i2.trans (List.sublist_append_left _ _)
   | false=>
     obtain⟨v4,g4,m4⟩:=some_ok (at_:=a0+1) (xs:=items3) hL (by omega) (by omega) (by decide) (by decide)
     obtain⟨v5,g5,l5,u5⟩:=range_ok (at_:=a0+1+1) (lo:=0) (hi:=2) hL (by omega) (by omega) (by omega) (by omega) (by omega)
     obtain⟨v6,g6,m6⟩:=pick_ok (at_:=a0+1+1+1) (xs:=[0,0,1,3]) hL (by omega) (by omega) (by decide) (by decide)
     obtain⟨v7,g7,m7⟩:=pick_ok (at_:=a0+1+1+1+1) (xs:=[1,1,2,3,7]) hL (by omega) (by omega) (by decide) (by decide)
     obtain⟨v8,g8,m8⟩:=pick_ok (at_:=a0+1+1+1+1+1) (xs:=[127,127,31,96,1,2]) hL (by omega) (by omega) (by decide) (by decide)
     obtain⟨v9,g9,m9⟩:=pick_ok (at_:=a0+1+1+1+1+1+1) (xs:=[0,0,60,600,1380]) hL (by omega) (by omega) (by decide) (by decide)
     obtain⟨v10,g10,m10⟩:=pick_ok (at_:=a0+1+1+1+1+1+1+1) (xs:=[0,60,120,600,720,1439]) hL (by omega) (by omega) (by decide) (by decide)
     obtain⟨v11,g11,m11⟩:=pick_ok (at_:=a0+1+1+1+1+1+1+1+1) (xs:=[0,0,1,5]) hL (by omega) (by omega) (by decide) (by decide)
     obtain⟨b12,g12⟩:=flip_ok (n:=8) (at_:=a0+1+1+1+1+1+1+1+1+1) hL (by omega) (by omega) (by omega)
     obtain⟨v13,g13,m13⟩:=pick_ok (at_:=a0+1+1+1+1+1+1+1+1+1+1) (xs:=[0,1,5,10,30]) hL (by omega) (by omega) (by decide) (by decide)
     obtain⟨ex,g14,m14⟩:=except_ok (L:=L) (a:=a0+1+1+1+1+1+1+1+1+1+1+1) hL (by omega) (by omega) (z0:=(L,a0,out,keys4,(i:Int))) (x2:=keys4[i]) (x4:=(v4,L,a0+1+1)) (x5:=(v5,L,a0+1+1+1)) (x6:=(v6,L,a0+1+1+1+1)) (x7:=(v7,L,a0+1+1+1+1+1)) (x8:=(v8,L,a0+1+1+1+1+1+1)) (x9:=(v9,L,a0+1+1+1+1+1+1+1)) (x10:=(v10,L,a0+1+1+1+1+1+1+1+1)) (x11:=(v11,L,a0+1+1+1+1+1+1+1+1+1)) (x12:=(b12,L,a0+1+1+1+1+1+1+1+1+1+1)) (x13:=(v13,L,a0+1+1+1+1+1+1+1+1+1+1+1)) (out:=out) (ks:=keys4)
     obtain⟨tg,g15,m15⟩:=tags_ok (L:=L) (a:=a0+1+1+1+1+1+1+1+1+1+1+1+3) hL (by omega) (by omega) (z0:=(L,a0,out,keys4,(i:Int))) (x2:=keys4[i]) (x4:=(v4,L,a0+1+1)) (x5:=(v5,L,a0+1+1+1)) (x6:=(v6,L,a0+1+1+1+1)) (x7:=(v7,L,a0+1+1+1+1+1)) (x8:=(v8,L,a0+1+1+1+1+1+1)) (x9:=(v9,L,a0+1+1+1+1+1+1+1)) (x10:=(v10,L,a0+1+1+1+1+1+1+1+1)) (x11:=(v11,L,a0+1+1+1+1+1+1+1+1+1)) (x12:=(b12,L,a0+1+1+1+1+1+1+1+1+1+1)) (x13:=(v13,L,a0+1+1+1+1+1+1+1+1+1+1+1)) (out:=out) (ks:=keys4) (ex:=ex)
     have b6:0≤v6∧v6≤3:=by simp at m6;omega
     have b7:1≤v7∧v7≤7:=by simp at m7;omega
     have b8:1≤v8∧v8≤127:=by simp at m8;omega
     have b9:0≤v9∧v9≤1439:=by simp at m9;omega
     have b10:0≤v10∧v10≤1439:=by simp at m10;omega
     have b11:0≤v11∧v11≤9:=by simp at m11;omega
     have b13:0≤v13∧v13≤30:=by simp at m13;omega
     refine⟨(a0+1+1+1+1+1+1+1+1+1+1+1+3+2,out++[S59.mk keys4[i] v4 v5 v6 (v6+v13) v7 v8 ex v9 v10 v11 tg b12]),?_,by simp only;omega,by simp only;omega,?_,?_⟩
     ·unfold L20_3
      refine ct (ltL_true hi) (bs (idx_nat hi') (bs (getN_some hx) (bs hb (cf rfl ?_))))
      refine bs g4 (bs g5 (bs g6 (bs g7 (bs g8 (bs g9 (bs g10 (bs g11 (bs g12 (bs g13 (bs g14 (bs g15 ?_)))))))))))
      refine bs (appO_eq (by simp;omega) (by simp;omega)) ?_
      simp only
      rw[nextI (by omega),addI_eq (by omega) (by omega)]
     ·rw[take_next hx,List.map_append]
      exact i2.append (List.Sublist.refl _)
     ·intro e he
      rcases List.mem_append.1 he with h|h
      ·exact i3 e h
      ·simp only[List.mem_singleton]at h
       subst h
       exact⟨⟨List.getElem_mem _,m4,⟨l5,Int.le_trans u5 (by decide)⟩,b6,⟨by simp only;omega,by simp only;omega⟩,b7,b8,m14,b9,b10,b11,m15⟩,u5⟩)
  (fun s hI=>by
   obtain⟨i0,i1,i2,i3⟩:=hI
   exact⟨_,rfl,s.2,s.1,rfl,⟨⟨i2,fun e he=>(i3 e he).1⟩,fun e he=>(i3 e he).2⟩,i0,by omega⟩) (q,[]) ⟨by simp,by simp,List.nil_sublist _,fun e he=>by cases he⟩
 refine⟨a,at_,?_,h4⟩
 unfold T20
 refine bs (a:=((4:Int),false,L,at_,a,keys4)) ?_ rfl
 rw[← h3,←h2]
 rfl
end Go.Abs.TTG.E
set_option linter.unusedVariables false
set_option linter.unusedSimpArgs false
set_option maxRecDepth 10000
namespace Go.Abs.TTG.E
open Go.RowKit Go.Proofs Go.Abs
theorem subs2{α:Type}{a b:α}{s:List α}(h:s.Sublist [a,b]):s=[]∨s=[a]∨s=[b]∨s=[a,b]:=by
 simp only[List.sublist_cons_iff,List.sublist_nil]at h
 rcases h with(h|⟨t,h,h'⟩)|⟨t,h,h'|⟨u,h',h''⟩⟩<;>simp_all
theorem subs3{α:Type}{a b c:α}{s:List α}(h:s.Sublist [a,b,c]):s=[]∨s=[a]∨s=[b]∨s=[c]∨s=[a,b]∨s=[a,c]∨s=[b,c]∨s=[a,b,c]:=by
 rw[List.sublist_cons_iff]at h
 rcases h with h|⟨t,h,h'⟩
 ·rcases subs2 h with h|h|h|h<;>simp[h]
 ·rcases subs2 h' with h'|h'|h'|h'<;>simp[h,h']
theorem out_no{p lo hi:Int}(h:lo≤p∧p≤hi):T95 p lo hi=some false:=by
 unfold T95
 exact cf (ltI_f h.1) (by rw[ltI_f h.2])
theorem key_ok{k:ByteArray}(h:k∈keys4):T195 k=some true:=by
 simp only[keys4,List.mem_cons,List.not_mem_nil,or_false]at h
 rcases h with rfl|rfl|rfl|rfl<;>kernel_rfl
theorem item_ok{k:ByteArray}(h:k∈items3):T195 k=some true:=by
 simp only[items3,List.mem_cons,List.not_mem_nil,or_false]at h
 rcases h with rfl|rfl|rfl<;>kernel_rfl
theorem ex_ok{l:List Int}(h:l.Sublist [1,2,8]):T230 l=some 0:=by
 rcases subs3 h with rfl|rfl|rfl|rfl|rfl|rfl|rfl|rfl<;>kernel_rfl
theorem tag_ok{l:List ByteArray}(h:l.Sublist tags2):T226 l=some 0:=by
 rcases subs2 h with rfl|rfl|rfl|rfl<;>kernel_rfl
theorem entry_ok{e:S59}(h:OkE e):T176 e=some 0:=by
 unfold T176
 refine bs (key_ok h.key) (cf rfl (bs (item_ok h.item) (cf rfl ?_)))
 refine bs (out_no ⟨h.ver.1,by have:=h.ver.2;omega⟩) (cf rfl (bs (out_no ⟨h.first.1,h.last.1⟩) (cf rfl ?_)))
 refine cf (ltI_f (by have:=h.last.2;omega)) (bs (out_no ⟨h.every.1,by have:=h.every.2;omega⟩) (cf rfl (bs (out_no h.days) (cf rfl ?_))))
 refine bs (ex_ok h.ex) (cf (neI_no 0) (bs (out_no h.from_) (cf rfl (bs (out_no h.to_) (cf rfl (bs (out_no h.prio) (cf rfl ?_)))))))
 exact bs (tag_ok h.tags) rfl
theorem keys_lt:keys4.Pairwise fun a b=>ltS a b=true:=by
 have e:∀a b:ByteArray,ltS a b=Op.bytesLess (by_ a) (by_ b):=fun a b=>ltS_eq a b
 simp only[keys4,List.pairwise_cons,List.mem_cons,List.not_mem_nil,or_false,forall_eq_or_imp,forall_eq,e]
 refine⟨⟨?_,?_,?_⟩,⟨?_,?_⟩,?_,fun _ h=>h.elim,.nil⟩<;>kernel_rfl
theorem list_ok{l:List S59}(h:OkL l):T99 l=some 0:=by
 have hp:(l.map (·.f0)).Pairwise fun a b=>ltS a b=true:=keys_lt.sublist h.1
 have hl:l.length≤4:=by
  have:=h.1.length_le
  rw[List.length_map]at this
  exact this
 unfold T99
 refine cf (ltI_f (by rw[lenL_eq];omega)) ?_
 obtain⟨r,h2,h3⟩:=iter_up (st:=L99_4 l) (fun(_:Unit)(i:Nat)=>(i:Int)) l.length (fun _ _=>True) (fun r=>∃x,r= .inl x)
  (fun i s hi _=>by
   have hx:=List.getElem?_eq_getElem hi
   refine⟨(),?_,trivial⟩
   unfold L99_4
   refine ct (ltL_true hi) (bs (listAt_some hx) (bs (entry_ok (h.2 _ (List.getElem_mem hi))) (cf (neI_no 0) ?_)))
   by_cases h0:0<i
   ·refine ct (ltI_t (by omega)) ?_
    have hy:=List.getElem?_eq_getElem (show i-1<l.length by omega)
    rw[prevI h0 (by omega)]
    refine bs (listAt_some hy) (cf ?_ (by rw[nextI (by omega)]))
    have hlt:ltS (l[i-1]'(by omega)).f0 l[i].f0=true:=by
     have:=List.pairwise_iff_getElem.1 hp (i-1) i (by simp;omega) (by simpa using hi) (by omega)
     simpa using this
    cases hc:ltS l[i].f0 (l[i-1]'(by omega)).f0 with
    | true=>
      have:=ltS_trans hlt hc
      rw[ltS_irrefl]at this
      cases this
    | false=>
      rw[Bool.false_or,eqS_iff]
      refine decide_eq_false fun hee=>?_
      rw[hee,ltS_irrefl]at hlt
      cases hlt
   ·refine cf (ltI_f (by omega)) (by rw[nextI (by omega)]))
  (fun s _=>⟨_,by unfold L99_4;exact cf (ltL_false (Nat.le_refl _)) rfl,_,rfl⟩) () trivial
 obtain⟨x,rfl⟩:=h3
 have h2:iter (L99_4 l) 0=some (.inl x):=h2
 exact bs h2 rfl
end Go.Abs.TTG.E
set_option linter.unusedVariables false
set_option linter.unusedSimpArgs false
set_option maxRecDepth 10000
namespace Go.Abs.TTG.E
open Go.RowKit Go.Proofs Go.Abs
abbrev gt(M:List (ByteArray×S59))(k:ByteArray):Option S59:=mgetB eqB M k
theorem eqB_iff{a b:ByteArray}:eqB a b=true↔a=b:=by
 constructor
 ·intro h
  refine Classical.byContradiction fun hn=>?_
  rw[eqB_no hn]at h
  cases h
 ·intro h
  rw[h,eqB_self]
theorem eqB_ne{a b:ByteArray}(h:a≠b):eqB a b=false:=by
 cases hb:eqB a b with
 | false=>rfl
 | true=>exact absurd (eqB_iff.1 hb) h
theorem gt_nil(k:ByteArray):gt [] k=none:=rfl
theorem gt_cons(p:ByteArray×S59)(M:List (ByteArray×S59))(k:ByteArray):gt (p::M) k=if k=p.1 then some p.2 else gt M k:=by
 unfold gt mgetB
 rw[List.find?_cons]
 by_cases h:k=p.1
 ·rw[if_pos h,eqB_iff.2 h];rfl
 ·rw[if_neg h,eqB_ne h]
theorem gt_set:∀(M:List (ByteArray×S59))(k:ByteArray)(v:S59)(k':ByteArray),gt (msetB eqB M k v) k'=if k'=k then some v else gt M k'
 | [],k,v,k'=>by
   show gt [(k,v)] k'=_
   rw[gt_cons]
 | p::M,k,v,k'=>by
   unfold msetB
   by_cases h:k=p.1
   ·rw[eqB_iff.2 h,cond_true,gt_cons,gt_cons,h]
    by_cases h2:k'=p.1
    ·rw[if_pos h2,if_pos h2]
    ·rw[if_neg h2,if_neg h2,if_neg h2]
   ·rw[eqB_ne h,cond_false,gt_cons,gt_cons,gt_set M k v k']
    by_cases h2:k'=p.1
    ·rw[if_pos h2,if_pos h2,if_neg (show ¬k'=k from fun e=>h (e.symm.trans h2))]
    ·rw[if_neg h2,if_neg h2]
theorem set_len:∀(M:List (ByteArray×S59))(k:ByteArray)(v:S59),(msetB eqB M k v).length≤M.length+1
 | [],k,v=>Nat.le_refl _
 | p::M,k,v=>by
   unfold msetB
   cases eqB k p.1 with
   | true=>simp
   | false=>simpa using set_len M k v
theorem set_keys:∀(M:List (ByteArray×S59))(k:ByteArray)(v:S59)(x:ByteArray),x∈(msetB eqB M k v).map (·.1)↔x=k∨x∈M.map (·.1)
 | [],k,v,x=>by simp[msetB]
 | p::M,k,v,x=>by
   unfold msetB
   by_cases h:k=p.1
   ·rw[eqB_iff.2 h,cond_true,List.map_cons,List.map_cons,List.mem_cons,←h]
    constructor
    ·rintro(h2|h2)
     ·exact .inl h2
     ·exact .inr (.inr h2)
    ·rintro(h2|h2|h2)
     ·exact .inl h2
     ·exact .inl h2
     ·exact .inr h2
   ·rw[eqB_ne h,cond_false,List.map_cons,List.map_cons,List.mem_cons,List.mem_cons,set_keys M k v x]
    constructor
    ·rintro(h2|h2|h2)
     ·exact .inr (.inl h2)
     ·exact .inl h2
     ·exact .inr (.inr h2)
    ·rintro(h2|h2|h2)
     ·exact .inr (.inl h2)
     ·exact .inl h2
     ·exact .inr (.inr h2)
theorem set_nodup:∀(M:List (ByteArray×S59))(k:ByteArray)(v:S59),(M.map (·.1)).Nodup→((msetB eqB M k v).map (·.1)).Nodup
 | [],k,v,_=>by simp[msetB]
 | p::M,k,v,h=>by
   rw[List.map_cons,List.nodup_cons]at h
   unfold msetB
   by_cases h2:k=p.1
   ·rw[eqB_iff.2 h2,cond_true,List.map_cons]
    exact List.nodup_cons.2 h
   ·rw[eqB_ne h2,cond_false,List.map_cons,List.nodup_cons,set_keys]
    exact⟨fun e=>e.elim (fun e=>h2 e.symm) h.1,set_nodup M k v h.2⟩
theorem gt_keys:∀(M:List (ByteArray×S59))(k:ByteArray),(gt M k).isSome=true↔k∈M.map (·.1)
 | [],k=>by simp[gt_nil]
 | p::M,k=>by
   rw[gt_cons,List.map_cons,List.mem_cons]
   by_cases h:k=p.1
   ·simp[h]
   ·rw[if_neg h,gt_keys M k]
    simp[h]
def put(M:List (ByteArray×S59))(e:S59):List (ByteArray×S59):=match gt M e.f0 with
 | none=>msetB eqB M e.f0 e
 | some o=>if o.f2<e.f2 then msetB eqB M e.f0 e else M
def bst:Option S59→Option S59→Option S59
 | none,y=>y
 | x,none=>x
 | some x,some y=>if x.f2<y.f2 then some y else some x
theorem gt_put(M:List (ByteArray×S59))(e:S59)(k:ByteArray):gt (put M e) k=if k=e.f0 then bst (gt M k) (some e)else gt M k:=by
 unfold put
 by_cases hk:k=e.f0
 ·subst hk
  rw[if_pos rfl]
  split
  ·rename_i h
   rw[gt_set,if_pos rfl,h];rfl
  ·rename_i o h
   rw[h]
   simp only[bst]
   split
   ·rw[gt_set,if_pos rfl]
   ·exact h
 ·rw[if_neg hk]
  split
  ·rw[gt_set,if_neg hk]
  ·split
   ·rw[gt_set,if_neg hk]
   ·rfl
end Go.Abs.TTG.E
set_option linter.unusedVariables false
set_option linter.unusedSimpArgs false
set_option maxRecDepth 10000
namespace Go.Abs.TTG.E
open Go.RowKit Go.Proofs Go.Abs
theorem ints_self(l:List Int)(h:l.length≤1048576):T105 l l=some true:=by
 unfold T105
 refine cf (neI_no _) ?_
 obtain⟨r,h2,h3⟩:=iter_up (st:=L105_4 l l) (fun(_:Unit)(i:Nat)=>(i:Int)) l.length (fun _ _=>True) (fun r=>∃x,r= .inl x)
  (fun i s hi _=>by
   have hx:=List.getElem?_eq_getElem hi
   refine⟨(),?_,trivial⟩
   unfold L105_4
   refine ct (ltL_true hi) (bs (listAt_some hx) (bs (listAt_some hx) (cf (neI_no _) ?_)))
   rw[nextI (by omega)])
  (fun s _=>⟨.inl ((l.length:Int),false),by
   unfold L105_4
   rw[ltL_false (Nat.le_refl _)]
   rfl,_,rfl⟩) () trivial
 obtain⟨x,rfl⟩:=h3
 refine bs h2 rfl
theorem strs_self(l:List ByteArray)(h:l.length≤1048576):T53 l l=some true:=by
 unfold T53
 refine cf (neI_no _) ?_
 obtain⟨r,h2,h3⟩:=iter_up (st:=L53_4 l l) (fun(_:Unit)(i:Nat)=>(i:Int)) l.length (fun _ _=>True) (fun r=>∃x,r= .inl x)
  (fun i s hi _=>by
   have hx:=List.getElem?_eq_getElem hi
   refine⟨(),?_,trivial⟩
   unfold L53_4
   refine ct (ltL_true hi) (bs (listAt_some hx) (bs (listAt_some hx) (cf ?_ ?_)))
   ·simp[eqS]
   ·rw[nextI (by omega)])
  (fun s _=>⟨.inl ((l.length:Int),false),by
   unfold L53_4
   rw[ltL_false (Nat.le_refl _)]
   rfl,_,rfl⟩) () trivial
 obtain⟨x,rfl⟩:=h3
 refine bs h2 rfl
theorem same_self{e:S59}(h:OkE e):T101 e e=some true:=by
 have h1:e.f7.length≤3:=h.ex.length_le
 have h2:e.f11.length≤2:=h.tags.length_le
 have hs:∀a:ByteArray,eqS a a=true:=fun a=>by simp[eqS]
 have hi:∀a:Int,eqI a a=true:=fun a=>by simp[eqI]
 unfold T101
 refine ct (hs _) (ct (hs _) (ct (hi _) (ct (hi _) (ct (hi _) (ct (hi _) (ct (hi _) (bs (ints_self _ (by omega)) (ct rfl (ct (hi _) (ct (hi _) (ct (hi _) (bs (strs_self _ (by omega)) (ct rfl ?_)))))))))))))
 simp
theorem copy_ok{e:S59}(h:OkE e):T104 e=some e:=by
 have h1:e.f7.length≤3:=h.ex.length_le
 have h2:e.f11.length≤2:=h.tags.length_le
 unfold T104
 refine bs (appO_eq (by simp;omega) (by simp;omega)) (bs (appO_eq (by simp;omega) (by simp;omega)) ?_)
 simp
theorem put_step{all:List S59}{M:List (ByteArray×S59)}{i:Nat}{e:S59}(hi:all[i]? = some e)(hl:all.length≤1000)(hok:OkE e)(hc:∀o,gt M e.f0=some o→o.f2=e.f2→o=e) :
  L25_10 all (M,all,(i:Int))=some (.inl (put M e,all,((i+1:Nat):Int))):=by
 have hlt:i<all.length:=(List.getElem?_eq_some_iff.1 hi).1
 unfold L25_10
 refine ct (ltL_true hlt) (bs (a:= .inl (put M e)) (bs (idx_nat hlt) (bs (getN_some hi) ?_)) ?_)
 ·unfold put
  cases hg:mgetB eqB M e.f0 with
  | none=>
    rw[show gt M e.f0=none from hg]
    rfl
  | some o=>
    rw[show gt M e.f0=some o from hg]
    simp only[Option.isSome_some,cond_true,Option.getD_some,Bool.not_true,cond_false]
    by_cases hr:o.f2=e.f2
    ·have ho:=hc o hg hr
     subst ho
     refine ct (by simp[eqI]) (bs (same_self hok) (cf rfl ?_))
     refine(cf (by simp[ltI]) ?_)
     simp
    ·refine cf (by simp[eqI];exact hr) ?_
     by_cases hlt2:o.f2<e.f2
     ·refine(ct (by simp[ltI];exact hlt2) ?_)
      simp[hlt2]
     ·refine(cf (by simp[ltI];omega) ?_)
      simp[hlt2]
 ·show some (Sum.inl (put M e,all,addI .i64 (i:Int) 1))=_
  rw[nextI (by omega)]
end Go.Abs.TTG.E
set_option linter.unusedVariables false
set_option linter.unusedSimpArgs false
set_option maxRecDepth 10000
namespace Go.Abs.TTG.E
open Go.RowKit Go.Proofs Go.Abs
theorem leL_trans(a b c:List UInt8)(h1:decide (a≤b)=true)(h2:decide (b≤c)=true):decide (a≤c)=true:=by
 simp only[decide_eq_true_eq]at *
 exact List.le_trans h1 h2
theorem leL_total(a b:List UInt8):(decide (a≤b)||decide (b≤a))=true:=by
 simp only[Bool.or_eq_true,decide_eq_true_eq]
 exact List.le_total a b
theorem sortS_of{l c:List ByteArray}(hp:l.Perm c)(hs:c.Pairwise fun a b=>a.data.toList≤b.data.toList):sortS l=c:=by
 have h1:(l.map fun s=>s.data.toList).mergeSort (fun x y=>decide (x≤y))=c.map fun s=>s.data.toList:=by
  refine List.Perm.eq_of_pairwise (le:=fun a b=>decide (a≤b)=true) (fun a b _ _ h1 h2=>?_) (List.pairwise_mergeSort leL_trans leL_total _) ?_ ((List.mergeSort_perm _ _).trans (hp.map _))
  ·simp only[decide_eq_true_eq]at h1 h2
   exact List.le_antisymm h1 h2
  ·refine List.pairwise_map.2 (hs.imp fun h=>?_)
   simpa using h
 unfold sortS
 rw[h1,List.map_map]
 conv=>rhs;rw[← List.map_id c]
 exact List.map_congr_left fun s _=>rfl
theorem keys_le:keys4.Pairwise fun a b=>a.data.toList≤b.data.toList:=by
 simp only[keys4,List.pairwise_cons,List.mem_cons,List.not_mem_nil,or_false,forall_eq_or_imp,forall_eq]
 refine⟨⟨?_,?_,?_⟩,⟨?_,?_⟩,?_,fun _ h=>h.elim,.nil⟩<;>decide
theorem keys_nodup:keys4.Nodup:=by
 refine keys_lt.imp fun{a b} h e=>?_
 subst e
 rw[ltS_eq,bl_irrefl]at h
 cases h
theorem key_size{k:ByteArray}(h:k∈keys4):k.size≤1000000:=by
 simp only[keys4,List.mem_cons,List.not_mem_nil,or_false]at h
 rcases h with rfl|rfl|rfl|rfl<;>decide
theorem names_ok{M:List (ByteArray×S59)}(hn:(M.map (·.1)).Nodup)(hk:∀k,k∈M.map (·.1)→k∈keys4)(hl:M.length≤1000):sortSO M=some (keys4.filter fun k=>(gt M k).isSome):=by
 unfold sortSO
 rw[if_pos ⟨by omega,fun p hp=>key_size (hk _ (List.mem_map.2 ⟨p,hp,rfl⟩))⟩]
 congr 1
 refine sortS_of ((List.perm_ext_iff_of_nodup hn (keys_nodup.sublist List.filter_sublist)).2 fun k=>?_) (keys_le.sublist List.filter_sublist)
 rw[List.mem_filter,gt_keys]
 exact⟨fun h=>⟨hk k h,h⟩,fun h=>h.2⟩
def lst(g:ByteArray→Option S59):List S59:=keys4.filterMap g
structure Good(g:ByteArray→Option S59):Prop where
 key:∀k e,g k=some e→e.f0=k
 ok:∀k e,g k=some e→OkE e
theorem lst_len(g:ByteArray→Option S59):(lst g).length≤4:=List.length_filterMap_le _ _
theorem lst_sub{g:ByteArray→Option S59}(h:∀k e,g k=some e→e.f0=k):∀ks:List ByteArray,((ks.filterMap g).map (·.f0)).Sublist ks
 | []=> .slnil
 | k::ks=>by
   cases hg:g k with
   | none=>rw[List.filterMap_cons_none hg];exact(lst_sub h ks).cons _
   | some e=>
     rw[List.filterMap_cons_some hg,List.map_cons,h k e hg]
     exact(lst_sub h ks).cons_cons _
theorem Good.okL{g:ByteArray→Option S59}(h:Good g):OkL (lst g):=⟨lst_sub h.key keys4,fun e he=>by
 obtain⟨k,_,h1⟩:=List.mem_filterMap.1 he
 exact h.ok k e h1⟩
end Go.Abs.TTG.E
set_option linter.unusedVariables false
set_option linter.unusedSimpArgs false
set_option maxRecDepth 10000
namespace Go.Abs.TTG.E
open Go.RowKit Go.Proofs Go.Abs
theorem bst_none(x:Option S59):bst x none=x:=by cases x<;>rfl
theorem cat_ok{a b:List S59}(ha:a.length≤100)(hb:b.length≤100):T100 [a,b]=some (a++b):=by
 have h1:iter (L100_3 [a,b]) (0,0)=some (((a.length+b.length:Nat):Int),2,false):=by
  have e1:addI .i64 0 (lenL a)=((a.length:Nat):Int):=by rw[lenL_eq,addI_eq (by omega) (by omega)];omega
  have e2:addI .i64 ((a.length:Nat):Int) (lenL b)=((a.length+b.length:Nat):Int):=by rw[lenL_eq,addI_eq (by omega) (by omega)];omega
  rw[iter_inl (s':=(((a.length:Nat):Int),1)) ?_,iter_inl (s':=(((a.length+b.length:Nat):Int),2)) ?_]
  ·exact iter_inr rfl
  ·unfold L100_3
   refine ct rfl (bs (a:=b) rfl (cf ?_ ?_))
   ·simp only[e2];exact ltI_f (by omega)
   ·simp only[e2];rfl
  ·unfold L100_3
   refine ct rfl (bs (a:=a) rfl (cf ?_ ?_))
   ·simp only[e1];exact ltI_f (by omega)
   ·simp only[e1];rfl
 have h2:iter (L100_11 [a,b]) ([],0)=some (2,false,a++b):=by
  rw[iter_inl (s':=(a,1)) ?_,iter_inl (s':=(a++b,2)) ?_]
  ·exact iter_inr rfl
  ·unfold L100_11
   refine ct rfl (bs (a:=b) rfl (bs (appO_eq (by simp only;omega) (by simp only;omega)) ?_))
   rfl
  ·unfold L100_11
   refine ct rfl (bs (a:=a) rfl (bs (appO_eq (by simp;omega) (by simp;omega)) ?_))
   rfl
 unfold T100
 refine bs h1 (bs (a:=[]) ?_ (bs h2 rfl))
 unfold growO
 rw[if_pos ⟨by omega,by simp only[Int.toNat_natCast];omega,by omega⟩]
theorem all_ok{all:List S59}(hl:all.length≤1000)(hok:∀e∈all,OkE e)(hc:∀x∈all,∀y∈all,x.f0=y.f0→x.f2=y.f2→x=y) :
  iter (L25_10 all) ([],all,0)=some (.inl ((all.length:Int),false,all.foldl put [],all)):=by
 obtain⟨r,h2,h3⟩:=iter_up (st:=L25_10 all) (fun(M:List (ByteArray×S59))(i:Nat)=>(M,all,(i:Int))) all.length
  (fun i M=>M=(all.take i).foldl put []∧∀k o,gt M k=some o→o∈all∧o.f0=k) (fun r=>r= .inl ((all.length:Int),false,all.foldl put [],all))
  (fun i M hi hI=>by
   obtain⟨h4,h5⟩:=hI
   have hx:=List.getElem?_eq_getElem hi
   have hm:all[i]∈all:=List.getElem_mem hi
   refine⟨put M all[i],put_step hx hl (hok _ hm) (fun o ho he=>?_),?_,fun k o ho=>?_⟩
   ·obtain⟨h6,h7⟩:=h5 _ o ho
    exact hc o h6 _ hm h7 he
   ·rw[take_next hx,List.foldl_append,h4];rfl
   ·rw[gt_put]at ho
    by_cases hk:k=all[i].f0
    ·rw[if_pos hk]at ho
     cases hg:gt M k with
     | none=>
       rw[hg]at ho
       simp only[bst,Option.some.injEq]at ho
       subst ho
       exact⟨hm,hk.symm⟩
     | some z=>
       rw[hg]at ho
       simp only[bst]at ho
       split at ho
       ·cases ho;exact⟨hm,hk.symm⟩
       ·cases ho;exact h5 k _ hg
    ·rw[if_neg hk]at ho
     exact h5 k o ho)
  (fun M hI=>⟨.inl ((all.length:Int),false,M,all),by
   unfold L25_10
   simp only[ltL_false (Nat.le_refl all.length)]
   rfl,by rw[hI.1,List.take_length]⟩) [] ⟨rfl,fun k o h=>by cases h⟩
 rw[h3]at h2
 exact h2
theorem put_keys{M:List (ByteArray×S59)}{e:S59}(k:ByteArray):k∈(put M e).map (·.1)→k=e.f0∨k∈M.map (·.1):=by
 unfold put
 split
 ·exact(set_keys M e.f0 e k).1
 ·split
  ·exact(set_keys M e.f0 e k).1
  ·exact .inr
theorem put_nodup{M:List (ByteArray×S59)}{e:S59}(h:(M.map (·.1)).Nodup):((put M e).map (·.1)).Nodup:=by
 unfold put
 split
 ·exact set_nodup _ _ _ h
 ·split
  ·exact set_nodup _ _ _ h
  ·exact h
theorem put_len{M:List (ByteArray×S59)}{e:S59}:(put M e).length≤M.length+1:=by
 unfold put
 split
 ·exact set_len _ _ _
 ·split
  ·exact set_len _ _ _
  ·omega
theorem fold_keys:∀(l:List S59)(M:List (ByteArray×S59)),(∀ e∈l,e.f0∈keys4)→(M.map (·.1)).Nodup→(∀ k,k∈M.map (·.1)→k∈keys4)→((l.foldl put M).map (·.1)).Nodup∧(∀ k,k∈(l.foldl put M).map (·.1)→k∈keys4)∧(l.foldl put M).length≤M.length+l.length
 | [],M,_,h1,h2=>⟨h1,h2,Nat.le_refl _⟩
 | e::l,M,h0,h1,h2=>by
   obtain⟨h3,h4,h5⟩:=fold_keys l (put M e) (fun x hx=>h0 x (List.mem_cons_of_mem _ hx)) (put_nodup h1) (fun k hk=>(put_keys k hk).elim (fun h=>h▸h0 e (List.mem_cons_self)) (h2 k))
   refine⟨h3,h4,Nat.le_trans h5 ?_⟩
   have:=put_len (M:=M) (e:=e)
   rw[List.length_cons]
   omega
open Classical in
theorem fold_gt{g:ByteArray→Option S59}(hg:∀k e,g k=some e→e.f0=k):∀(ks:List ByteArray)(M:List (ByteArray×S59))(k:ByteArray),ks.Nodup→gt ((ks.filterMap g).foldl put M) k=if k∈ks then bst (gt M k) (g k)else gt M k
 | [],M,k,_=>by rw[if_neg (by simp)];rfl
 | k0::ks,M,k,hn=>by
   rw[List.nodup_cons]at hn
   cases hk:g k0 with
   | none=>
     rw[List.filterMap_cons_none hk,fold_gt hg ks M k hn.2]
     by_cases h1:k=k0
     ·subst h1
      rw[if_neg hn.1,if_pos List.mem_cons_self,hk,bst_none]
     ·by_cases h2:k∈ks
      ·rw[if_pos h2,if_pos (List.mem_cons_of_mem _ h2)]
      ·rw[if_neg h2,if_neg (by simp[h1,h2])]
   | some e=>
     rw[List.filterMap_cons_some hk,List.foldl_cons,fold_gt hg ks _ k hn.2,gt_put,hg k0 e hk]
     by_cases h1:k=k0
     ·subst h1
      rw[if_neg hn.1,if_pos rfl,if_pos List.mem_cons_self,hk]
     ·rw[if_neg h1]
      by_cases h2:k∈ks
      ·rw[if_pos h2,if_pos (List.mem_cons_of_mem _ h2)]
      ·rw[if_neg h2,if_neg (by simp[h1,h2])]
end Go.Abs.TTG.E
set_option linter.unusedVariables false
set_option linter.unusedSimpArgs false
set_option maxRecDepth 10000
namespace Go.Abs.TTG.E
open Go.RowKit Go.Proofs Go.Abs
theorem out_ok{M:List (ByteArray×S59)}{ns:List ByteArray}(hn:ns.length≤1000)(h:∀k∈ns,∃e,gt M k=some e∧OkE e) :
  iter (L25_22 ns) (M,[],0)=some ((ns.length:Int),false,M,ns.filterMap (gt M)):=by
 obtain⟨r,h2,h3⟩:=iter_up (st:=L25_22 ns) (fun(out:List S59)(i:Nat)=>(M,out,(i:Int))) ns.length
  (fun i out=>out=(ns.take i).filterMap (gt M)) (fun r=>r=((ns.length:Int),false,M,ns.filterMap (gt M)))
  (fun i out hi hI=>by
   have hx:=List.getElem?_eq_getElem hi
   obtain⟨e,h4,h5⟩:=h _ (List.getElem_mem hi)
   have hl:out.length≤i:=by
    rw[hI]
    refine Nat.le_trans (List.length_filterMap_le _ _) ?_
    rw[List.length_take]
    omega
   refine⟨out++[e],?_,?_⟩
   ·unfold L25_22
    refine ct (ltL_true hi) (bs (listAt_some hx) (bs (a:=e) ?_ (bs (appO_eq (by simp;omega) (by simp;omega)) ?_)))
    ·rw[show mgetB eqB M ns[i]=some e from h4]
     exact copy_ok h5
    ·simp only
     rw[nextI (by omega)]
   ·rw[take_next hx,List.filterMap_append,hI,List.filterMap_cons_some h4]
    rfl)
  (fun out hI=>⟨((ns.length:Int),false,M,out),by
   unfold L25_22
   simp only[ltL_false (Nat.le_refl ns.length)]
   rfl,by rw[hI,List.take_length]⟩) [] rfl
 rw[h3]at h2
 exact h2
theorem fm_congr{f g:ByteArray→Option S59}:∀(ks:List ByteArray),(∀ k∈ks,f k=g k)→ks.filterMap f=ks.filterMap g
 | [],_=>rfl
 | k::ks,h=>by rw[List.filterMap_cons,List.filterMap_cons,h k List.mem_cons_self,fm_congr ks fun x hx=>h x (List.mem_cons_of_mem _ hx)]
theorem filter_map{ks:List ByteArray}{f:ByteArray→Option S59}:(ks.filter fun k=>(f k).isSome).filterMap f=ks.filterMap f:=by
 induction ks with
 | nil=>rfl
 | cons k ks ih=>
   cases hk:f k with
   | none=>rw[List.filter_cons_of_neg (by simp[hk]),ih,List.filterMap_cons_none hk]
   | some e=>rw[List.filter_cons_of_pos (by simp[hk]),List.filterMap_cons_some hk,List.filterMap_cons_some hk,ih]
def Apart(g h:ByteArray→Option S59):Prop:=∀k x y,g k=some x→h k=some y→x.f2=y.f2→x=y
theorem lst_mem{g:ByteArray→Option S59}{e:S59}(hg:Good g)(h:e∈lst g):g e.f0=some e∧e.f0∈keys4:=by
 obtain⟨k,h1,h2⟩:=List.mem_filterMap.1 h
 have h3:=hg.key k e h2
 rw[h3]
 exact⟨h2,h1⟩
theorem merge_ok{g h:ByteArray→Option S59}(hg:Good g)(hh:Good h)(ha:Apart g h):T25 (lst g) (lst h)=some (lst (fun k=>bst (g k) (h k)),0):=by
 have l1:=lst_len g
 have l2:=lst_len h
 have e1:iter (L25_2 (lst g) (lst h)) 0=some (.inl (2,false)):=by
  rw[iter_inl (s':=(1:Int)) ?_,iter_inl (s':=(2:Int)) ?_]
  ·exact iter_inr rfl
  ·unfold L25_2
   exact ct rfl (bs (a:=lst h) rfl (bs (list_ok hh.okL) (cf (neI_no _) rfl)))
  ·unfold L25_2
   exact ct rfl (bs (a:=lst g) rfl (bs (list_ok hg.okL) (cf (neI_no _) rfl)))
 have hmem:∀e∈lst g++lst h,(g e.f0=some e∨h e.f0=some e)∧e.f0∈keys4∧OkE e:=fun e he=>by
  rcases List.mem_append.1 he with q|q
  ·obtain⟨h1,h2⟩:=lst_mem hg q
   exact⟨.inl h1,h2,hg.ok _ _ h1⟩
  ·obtain⟨h1,h2⟩:=lst_mem hh q
   exact⟨.inr h1,h2,hh.ok _ _ h1⟩
 have e2:=all_ok (all:=lst g++lst h) (by rw[List.length_append];omega) (fun e he=>(hmem e he).2.2) (fun x hx y hy h1 h2=>by
  obtain⟨h3,_⟩:=hmem x hx
  obtain⟨h4,_⟩:=hmem y hy
  rw[← h1]at h4
  rcases h3 with h3|h3<;>rcases h4 with h4|h4
  ·rw[h3]at h4;exact Option.some.inj h4
  ·exact ha _ _ _ h3 h4 h2
  ·exact(ha _ _ _ h4 h3 h2.symm).symm
  ·rw[h3]at h4;exact Option.some.inj h4)
 obtain⟨n1,n2,n3⟩:=fold_keys (lst g++lst h) [] (fun e he=>(hmem e he).2.1) List.nodup_nil (fun k hk=>by cases hk)
 rw[List.length_append]at n3
 simp only[List.length_nil,Nat.zero_add]at n3
 have hgt:∀k∈keys4,gt ((lst g++lst h).foldl put []) k=bst (g k) (h k):=fun k hk=>by
  rw[List.foldl_append]
  unfold lst
  rw[fold_gt hh.key keys4 _ k keys_nodup,if_pos hk,fold_gt hg.key keys4 _ k keys_nodup,if_pos hk]
  rfl
 have e3:=names_ok n1 n2 (by omega)
 have hlen:(keys4.filter fun k=>(gt ((lst g++lst h).foldl put []) k).isSome).length≤4:=List.length_filter_le _ _
 have e4:=out_ok (M:=(lst g++lst h).foldl put []) (ns:=keys4.filter fun k=>(gt ((lst g++lst h).foldl put []) k).isSome) (by omega) (fun k hk=>by
  obtain⟨h1,h2⟩:=List.mem_filter.1 hk
  obtain⟨e,h3⟩:=Option.isSome_iff_exists.1 h2
  refine⟨e,h3,?_⟩
  rw[hgt k h1]at h3
  cases hx:g k with
  | none=>
    rw[hx]at h3
    exact hh.ok k e h3
  | some x=>
    cases hy:h k with
    | none=>
      rw[hx,hy]at h3
      cases h3
      exact hg.ok k _ hx
    | some y=>
      rw[hx,hy]at h3
      simp only[bst]at h3
      split at h3
      ·cases h3;exact hh.ok k _ hy
      ·cases h3;exact hg.ok k _ hx)
 have e5:(keys4.filter fun k=>(gt ((lst g++lst h).foldl put []) k).isSome).filterMap (gt ((lst g++lst h).foldl put []))=lst fun k=>bst (g k) (h k):=by
  rw[filter_map]
  exact fm_congr keys4 hgt
 unfold T25
 refine bs e1 ?_
 refine bs (cat_ok (by omega) (by omega)) (bs e2 ?_)
 refine cf (ltI_f (by rw[lenL_eq];simp only;omega)) (bs rfl (bs e3 (bs e4 ?_)))
 simp only[e5]
end Go.Abs.TTG.E
set_option linter.unusedVariables false
set_option linter.unusedSimpArgs false
set_option maxRecDepth 10000
namespace Go.Abs.TTG.E
open Go.RowKit Go.Proofs Go.Abs
theorem fm_none:∀ks:List ByteArray,ks.filterMap (fun _=>(none:Option S59))=[]
 | []=>rfl
 | _::ks=>fm_none ks
open Classical in
theorem by_keys:∀(ks:List ByteArray)(a:List S59),ks.Nodup→(a.map (·.f0)).Sublist ks→∃g:ByteArray→Option S59,(∀ k e,g k=some e→e.f0=k∧e∈a∧k∈ks)∧a=ks.filterMap g
 | [],a,_,h=>by
   have:a=[]:=by simpa using List.sublist_nil.1 h
   subst this
   exact⟨fun _=>none,fun k e h=>(by cases h),rfl⟩
 | k0::ks,a,hn,h=>by
   rw[List.nodup_cons]at hn
   cases a with
   | nil=>exact⟨fun _=>none,fun k e h=>(by cases h),(fm_none (k0::ks)).symm⟩
   | cons e a=>
     rw[List.map_cons]at h
     cases h with
     | cons _ h1=>
       obtain⟨g,h3,h4⟩:=by_keys ks (e::a) hn.2 (by rw[List.map_cons];exact h1)
       refine⟨g,fun k e h=>?_,?_⟩
       ·obtain⟨h5,h6,h7⟩:=h3 k e h
        exact⟨h5,h6,List.mem_cons_of_mem _ h7⟩
       ·have h5:g k0=none:=by
         cases hg:g k0 with
         | none=>rfl
         | some x=>exact absurd (h3 k0 x hg).2.2 hn.1
        rw[List.filterMap_cons_none h5]
        exact h4
     | cons_cons _ h2=>
       obtain⟨g,h3,h4⟩:=by_keys ks a hn.2 h2
       refine⟨fun k=>if k=e.f0 then some e else g k,fun k x h=>?_,?_⟩
       ·simp only at h
        by_cases hk:k=e.f0
        ·rw[if_pos hk]at h
         cases h
         exact⟨hk.symm,List.mem_cons_self,hk▸List.mem_cons_self⟩
        ·rw[if_neg hk]at h
         obtain⟨h5,h6,h7⟩:=h3 k x h
         exact⟨h5,List.mem_cons_of_mem _ h6,List.mem_cons_of_mem _ h7⟩
       ·rw[List.filterMap_cons_some (f:=fun k=>if k=e.f0 then some e else g k) (a:=e.f0) (b:=e) (if_pos rfl),fm_congr (f:=fun k=>if k=e.f0 then some e else g k) (g:=g) ks (fun k hk=>if_neg (show ¬k=e.f0 from fun q=>hn.1 (q▸hk))),←h4]
theorem same_ok{e:S59}(h:OkE e):T28 e e=some true:=by
 have h1:e.f7.length≤3:=h.ex.length_le
 have h2:e.f11.length≤2:=h.tags.length_le
 have hs:∀a:ByteArray,eqS a a=true:=fun a=>by simp[eqS]
 have hi:∀a:Int,eqI a a=true:=fun a=>by simp[eqI]
 unfold T28
 exact ct (hs _) (ct (hs _) (ct (hi _) (ct (hi _) (ct (hi _) (ct (hi _) (ct (hi _) (ct (hi _) (ct (hi _) (ct (hi _) (ct (by simp) (bs (ints_self _ (by omega)) (ct rfl (bs (strs_self _ (by omega)) rfl)))))))))))))
theorem equal_ok{l:List S59}(hl:l.length≤1000)(h:∀e∈l,OkE e):T26 l l=some true:=by
 unfold T26
 refine bs ?_ rfl
 unfold T27
 refine cf (neI_no _) ?_
 obtain⟨r,h2,h3⟩:=iter_up (st:=L27_4 l l) (fun(_:Unit)(i:Nat)=>(i:Int)) l.length (fun _ _=>True) (fun r=>∃x,r= .inl x)
  (fun i s hi _=>by
   have hx:=List.getElem?_eq_getElem hi
   refine⟨(),?_,trivial⟩
   unfold L27_4
   refine ct (ltL_true hi) (bs (listAt_some hx) (bs (listAt_some hx) (bs (same_ok (h _ (List.getElem_mem hi))) (cf rfl ?_))))
   rw[nextI (by omega)])
  (fun s _=>⟨.inl ((l.length:Int),false),by
   unfold L27_4
   rw[ltL_false (Nat.le_refl _)]
   rfl,_,rfl⟩) () trivial
 obtain⟨x,rfl⟩:=h3
 exact bs h2 rfl
def up1(x:S59):S59:={ x with f2:=x.f2+1 }
def up2(x:S59)(d:Int):S59:={ x with f2:=x.f2+d,f10:=9 }
theorem drawn_ok{L:List Int}{q:Int}{a:List S59}(hL:L.length≤1048576)(q0:0≤q)(q1:q≤1000000)(ha:OkL a)(hr:∀e∈a,e.f2≤2)(x1:List S59×List Int×Int)(hx1:x1.1=a) :
  ∃at_ two three,iter (L5_5 x1) (L,q,[],[],0)=some ((a.length:Int),false,L,at_,two,three)∧((two.map (·.f0)).Sublist keys4∧∀e∈two,∃x∈a,e=up1 x)∧((three.map (·.f0)).Sublist keys4∧∀e∈three,∃x∈a,e=up2 x 2∨e=up2 x 3):=by
 have hal:a.length≤4:=by
  have:=ha.1.length_le
  rw[List.length_map]at this
  exact this
 subst hx1
 obtain⟨r,h2,h3⟩:=iter_up (st:=L5_5 x1) (fun(s:Int×List S59×List S59)(i:Nat)=>(L,s.1,s.2.1,s.2.2,(i:Int))) x1.1.length
  (fun i s=>q≤s.1∧s.1≤q+2*i∧((s.2.1.map (·.f0)).Sublist ((x1.1.map (·.f0)).take i)∧∀e∈s.2.1,∃x∈x1.1,e=up1 x)∧((s.2.2.map (·.f0)).Sublist ((x1.1.map (·.f0)).take i)∧∀e∈s.2.2,∃x∈x1.1,e=up2 x 2∨e=up2 x 3))
  (fun r=>∃at_ two three,r=((x1.1.length:Int),false,L,at_,two,three)∧((two.map (·.f0)).Sublist keys4∧∀e∈two,∃x∈x1.1,e=up1 x)∧((three.map (·.f0)).Sublist keys4∧∀e∈three,∃x∈x1.1,e=up2 x 2∨e=up2 x 3))
  (fun i s hi hI=>by
   obtain⟨a0,two,three⟩:=s
   obtain⟨i0,i1,⟨i2,i3⟩,i4,i5⟩:=hI
   simp only at i0 i1 i2 i3 i4 i5
   have hx:=List.getElem?_eq_getElem hi
   have hm:x1.1[i]∈x1.1:=List.getElem_mem hi
   have hk:(x1.1.map (·.f0))[i]? = some x1.1[i].f0:=by rw[List.getElem?_map,hx];rfl
   have l2:two.length≤4:=by
    have:=i2.length_le
    rw[List.length_take,List.length_map,List.length_map]at this
    omega
   have l3:three.length≤4:=by
    have:=i4.length_le
    rw[List.length_take,List.length_map,List.length_map]at this
    omega
   have v0:=(ha.2 _ hm).ver
   have v2:=hr _ hm
   have a1:addI .i64 x1.1[i].f2 1=x1.1[i].f2+1:=addI_eq (by omega) (by omega)
   have a2:addI .i64 x1.1[i].f2 2=x1.1[i].f2+2:=addI_eq (by omega) (by omega)
   have a3:addI .i64 (x1.1[i].f2+1) 2=x1.1[i].f2+3:=by rw[addI_eq (by omega) (by omega)];omega
   obtain⟨b1,hb1⟩:=flip_ok (n:=2) (at_:=a0) hL (by omega) (by omega) (by omega)
   obtain⟨b2,hb2⟩:=flip_ok (n:=2) (at_:=a0+1) hL (by omega) (by omega) (by omega)
   have keep:∀{l:List S59},(l.map (·.f0)).Sublist ((x1.1.map (·.f0)).take i)→(l.map (·.f0)).Sublist ((x1.1.map (·.f0)).take (i+1)):=fun h=>by rw[take_next hk];exact h.trans (List.sublist_append_left _ _)
   have more:∀{l:List S59}{e:S59},e.f0=x1.1[i].f0→(l.map (·.f0)).Sublist ((x1.1.map (·.f0)).take i)→((l++[e]).map (·.f0)).Sublist ((x1.1.map (·.f0)).take (i+1)):=fun he h=>by
    rw[take_next hk,List.map_append,List.map_cons,he];exact h.append (List.Sublist.refl _)
   have two1:∀e∈two++[up1 x1.1[i]],∃x∈x1.1,e=up1 x:=fun e he=>by
    rcases List.mem_append.1 he with h|h
    ·exact i3 e h
    ·simp only[List.mem_singleton]at h
     exact⟨_,hm,h⟩
   have three1:∀d,(d=2∨d=3)→∀e∈three++[up2 x1.1[i] d],∃x∈x1.1,e=up2 x 2∨e=up2 x 3:=fun d hd e he=>by
    rcases List.mem_append.1 he with h|h
    ·exact i5 e h
    ·simp only[List.mem_singleton]at h
     refine⟨_,hm,?_⟩
     rcases hd with rfl|rfl
     ·exact .inl h
     ·exact .inr h
   cases b1 with
   | true=>
     cases b2 with
     | true=>
       refine⟨(a0+1+1,two++[up1 x1.1[i]],three++[up2 x1.1[i] 3]),?_,by simp only;omega,by simp only;omega,⟨more rfl i2,two1⟩,more rfl i4,three1 3 (.inr rfl)⟩
       unfold L5_5
       refine ct (ltL_true hi) (bs (listAt_some hx) (bs hb1 (ct rfl (bs (appO_eq (by simp;omega) (by simp;omega)) (bs hb2 (ct rfl (bs (appO_eq (by simp;omega) (by simp;omega)) ?_)))))))
       simp only[a1,a3]
       rw[nextI (by omega)]
       rfl
     | false=>
       refine⟨(a0+1+1,two++[up1 x1.1[i]],three),?_,by simp only;omega,by simp only;omega,⟨more rfl i2,two1⟩,keep i4,i5⟩
       unfold L5_5
       refine ct (ltL_true hi) (bs (listAt_some hx) (bs hb1 (ct rfl (bs (appO_eq (by simp;omega) (by simp;omega)) (bs hb2 (cf rfl ?_))))))
       simp only[a1]
       rw[nextI (by omega)]
       rfl
   | false=>
     cases b2 with
     | true=>
       refine⟨(a0+1+1,two,three++[up2 x1.1[i] 2]),?_,by simp only;omega,by simp only;omega,⟨keep i2,i3⟩,more rfl i4,three1 2 (.inl rfl)⟩
       unfold L5_5
       refine ct (ltL_true hi) (bs (listAt_some hx) (bs hb1 (cf rfl (bs hb2 (ct rfl (bs (appO_eq (by simp;omega) (by simp;omega)) ?_))))))
       simp only[a2]
       rw[nextI (by omega)]
       rfl
     | false=>
       refine⟨(a0+1+1,two,three),?_,by simp only;omega,by simp only;omega,⟨keep i2,i3⟩,keep i4,i5⟩
       unfold L5_5
       refine ct (ltL_true hi) (bs (listAt_some hx) (bs hb1 (cf rfl (bs hb2 (cf rfl ?_)))))
       rw[nextI (by omega)])
  (fun s hI=>by
   obtain⟨i0,i1,⟨i2,i3⟩,i4,i5⟩:=hI
   refine⟨((x1.1.length:Int),false,L,s.1,s.2.1,s.2.2),?_,s.1,s.2.1,s.2.2,rfl,⟨(i2.trans (List.take_sublist _ _)).trans ha.1,i3⟩,(i4.trans (List.take_sublist _ _)).trans ha.1,i5⟩
   unfold L5_5
   rw[ltL_false (Nat.le_refl _)]
   rfl) (q,[],[]) ⟨by simp,by simp,⟨List.nil_sublist _,fun e he=>by cases he⟩,List.nil_sublist _,fun e he=>by cases he⟩
 obtain⟨at_,two,three,rfl,h4,h5⟩:=h3
 exact⟨at_,two,three,h2,h4,h5⟩
end Go.Abs.TTG.E
set_option linter.unusedVariables false
set_option linter.unusedSimpArgs false
set_option maxRecDepth 10000
namespace Go.Abs.TTG.E
open Go.RowKit Go.Proofs Go.Abs
def Tri(o1 o2 o3:Option S59):Prop:=(o1=none∧o2=none∧o3=none)∨∃x,o1=some x∧(o2=none∨∃y,o2=some y∧x.f2<y.f2∧y.f2≤x.f2+1)∧(o3=none∨∃z,o3=some z∧x.f2+1<z.f2)
theorem Tri.alike{a b c:Option S59}(h:Tri a b c):bst b a=bst a b∧bst a (bst b c)=bst (bst a b) c∧bst (bst (bst a b) c) b=bst (bst a b) c:=by
 rcases h with⟨rfl,rfl,rfl⟩|⟨x,rfl,rfl|⟨y,rfl,h1,h2⟩,rfl|⟨z,rfl,h3⟩⟩
 ·exact⟨rfl,rfl,rfl⟩
 ·exact⟨rfl,rfl,rfl⟩
 ·have e1:x.f2<z.f2:=by omega
  simp[bst,e1]
 ·have e1:¬y.f2<x.f2:=by omega
  have e2:¬y.f2<y.f2:=by omega
  simp[bst,h1,e1,e2]
 ·have e1:¬y.f2<x.f2:=by omega
  have e2:y.f2<z.f2:=by omega
  have e3:x.f2<z.f2:=by omega
  have e4:¬z.f2<y.f2:=by omega
  simp[bst,h1,e1,e2,e3,e4]
theorem Tri.apart{a b c:Option S59}(h:Tri a b c):(∀ x y,a=some x→b=some y→x.f2=y.f2→x=y)∧(∀ x y,b=some x→c=some y→x.f2=y.f2→x=y)∧(∀ x y,bst a b=some x→c=some y→x.f2=y.f2→x=y)∧(∀ x y,a=some x→bst b c=some y→x.f2=y.f2→x=y)∧(∀ x y,bst (bst a b) c=some x→b=some y→x.f2=y.f2→x=y):=by
 rcases h with⟨rfl,rfl,rfl⟩|⟨x,rfl,rfl|⟨y,rfl,h1,h2⟩,rfl|⟨z,rfl,h3⟩⟩
 ·refine⟨?_,?_,?_,?_,?_⟩<;>intro p q hp hq he<;>cases hp
 ·refine⟨?_,?_,?_,?_,?_⟩<;>intro p q hp hq he<;>(try simp only[bst]at hp)<;>(try simp only[bst]at hq)<;>cases hp<;>cases hq
 ·have e1:x.f2<z.f2:=by omega
  refine⟨?_,?_,?_,?_,?_⟩<;>intro p q hp hq he<;>(try simp only[bst,if_pos e1]at hp)<;>(try simp only[bst,if_pos e1]at hq)<;>cases hp<;>cases hq<;>omega
 ·have e1:¬y.f2<x.f2:=by omega
  refine⟨?_,?_,?_,?_,?_⟩<;>intro p q hp hq he<;>(try simp only[bst,if_pos h1]at hp)<;>(try simp only[bst,if_pos h1]at hq)<;>cases hp<;>cases hq<;>first|rfl|omega
 ·have e1:¬y.f2<x.f2:=by omega
  have e2:y.f2<z.f2:=by omega
  refine⟨?_,?_,?_,?_,?_⟩<;>intro p q hp hq he<;>(try simp only[bst,if_pos h1,if_pos e2]at hp)<;>(try simp only[bst,if_pos h1,if_pos e2]at hq)<;>cases hp<;>cases hq<;>first|rfl|omega
theorem Good.bst{g h:ByteArray→Option S59}(hg:Good g)(hh:Good h):Good fun k=>bst (g k) (h k):=by
 have H:∀k e,E.bst (g k) (h k)=some e→g k=some e∨h k=some e:=fun k e he=>by
  cases hx:g k with
  | none=>rw[hx]at he;exact .inr he
  | some x=>
    cases hy:h k with
    | none=>rw[hx,hy]at he;exact .inl he
    | some y=>
      rw[hx,hy]at he
      simp only[E.bst]at he
      split at he
      ·exact .inr he
      ·exact .inl he
 exact⟨fun k e he=>(H k e he).elim (hg.key k e) (hh.key k e),fun k e he=>(H k e he).elim (hg.ok k e) (hh.ok k e)⟩
theorem plain(p0:List Int)(h0:p0.length≤1048576∧∀x∈p0,okI x):T5 p0=some true:=by
 obtain⟨a,at_,h1,⟨h2,h3⟩,h4,h5⟩:=entries_ok (L:=p0) (q:=0) h0.1 (by decide) (by decide)
 obtain⟨at2,two,three,h6,⟨h7,h8⟩,h9,h10⟩:=drawn_ok (L:=p0) (q:=at_) h0.1 (by omega) (by omega) h2 h3 (a,p0,at_) rfl
 obtain⟨g1,k1,rfl⟩:=by_keys keys4 a keys_nodup h2.1
 obtain⟨g2,k2,rfl⟩:=by_keys keys4 two keys_nodup h7
 obtain⟨g3,k3,rfl⟩:=by_keys keys4 three keys_nodup h9
 have G1:Good g1:=⟨fun k e h=>(k1 k e h).1,fun k e h=>h2.2 e (k1 k e h).2.1⟩
 have from2:∀k e,g2 k=some e→∃x,g1 k=some x∧e=up1 x:=fun k e h=>by
  obtain⟨q1,q2,q3⟩:=k2 k e h
  obtain⟨x,q4,q5⟩:=h8 e q2
  obtain⟨q6,_⟩:=lst_mem G1 q4
  refine⟨x,?_,q5⟩
  rw[← q1,q5]
  exact q6
 have from3:∀k e,g3 k=some e→∃x,g1 k=some x∧(e=up2 x 2∨e=up2 x 3):=fun k e h=>by
  obtain⟨q1,q2,q3⟩:=k3 k e h
  obtain⟨x,q4,q5⟩:=h10 e q2
  obtain⟨q6,_⟩:=lst_mem G1 q4
  refine⟨x,?_,q5⟩
  rw[← q1]
  rcases q5 with q5|q5<;>rw[q5]<;>exact q6
 have rev:∀k x,g1 k=some x→0≤x.f2∧x.f2≤2∧OkE x:=fun k x h=>⟨(G1.ok k x h).ver.1,h3 x (k1 k x h).2.1,G1.ok k x h⟩
 have G2:Good g2:=⟨fun k e h=>(k2 k e h).1,fun k e h=>by
  obtain⟨x,q1,rfl⟩:=from2 k e h
  obtain⟨r1,r2,r3⟩:=rev k x q1
  exact⟨r3.key,r3.item,⟨by simp only[up1];omega,by simp only[up1];omega⟩,r3.first,r3.last,r3.every,r3.days,r3.ex,r3.from_,r3.to_,r3.prio,r3.tags⟩⟩
 have G3:Good g3:=⟨fun k e h=>(k3 k e h).1,fun k e h=>by
  obtain⟨x,q1,q2⟩:=from3 k e h
  obtain⟨r1,r2,r3⟩:=rev k x q1
  rcases q2 with rfl|rfl
  ·exact⟨r3.key,r3.item,⟨by simp only[up2];omega,by simp only[up2];omega⟩,r3.first,r3.last,r3.every,r3.days,r3.ex,r3.from_,r3.to_,by simp only[up2];decide,r3.tags⟩
  ·exact⟨r3.key,r3.item,⟨by simp only[up2];omega,by simp only[up2];omega⟩,r3.first,r3.last,r3.every,r3.days,r3.ex,r3.from_,r3.to_,by simp only[up2];decide,r3.tags⟩⟩
 have tri:∀k,Tri (g1 k) (g2 k) (g3 k):=fun k=>by
  cases e1:g1 k with
  | none=>
    refine .inl ⟨rfl,?_,?_⟩
    ·cases e2:g2 k with
     | none=>rfl
     | some y=>obtain⟨x,q1,_⟩:=from2 k y e2;rw[e1]at q1;cases q1
    ·cases e3:g3 k with
     | none=>rfl
     | some z=>obtain⟨x,q1,_⟩:=from3 k z e3;rw[e1]at q1;cases q1
  | some x=>
    refine .inr ⟨x,rfl,?_,?_⟩
    ·cases e2:g2 k with
     | none=>exact .inl rfl
     | some y=>
       obtain⟨x',q1,rfl⟩:=from2 k y e2
       rw[e1]at q1
       cases q1
       exact .inr ⟨_,rfl,by simp only[up1];omega,by simp only[up1];omega⟩
    ·cases e3:g3 k with
     | none=>exact .inl rfl
     | some z=>
       obtain⟨x',q1,q2⟩:=from3 k z e3
       rw[e1]at q1
       cases q1
       refine .inr ⟨_,rfl,?_⟩
       rcases q2 with rfl|rfl<;>simp only[up2]<;>omega
 have G12:=G1.bst G2
 have G21:=G2.bst G1
 have G23:=G2.bst G3
 have G123:=G12.bst G3
 have m12:=merge_ok G1 G2 fun k x y=>(tri k).apart.1 x y
 have m21:=merge_ok G2 G1 fun k x y hx hy he=>((tri k).apart.1 y x hy hx he.symm).symm
 have m23:=merge_ok G2 G3 fun k x y=>(tri k).apart.2.1 x y
 have m123:=merge_ok G12 G3 fun k x y=>(tri k).apart.2.2.1 x y
 have m1_23:=merge_ok G1 G23 fun k x y=>(tri k).apart.2.2.2.1 x y
 have m1232:=merge_ok G123 G2 fun k x y=>(tri k).apart.2.2.2.2 x y
 rw[show (fun k=>E.bst (g2 k) (g1 k))=fun k=>E.bst (g1 k) (g2 k)from funext fun k=>(tri k).alike.1]at m21
 rw[show (fun k=>E.bst (g1 k) (E.bst (g2 k) (g3 k)))=fun k=>E.bst (E.bst (g1 k) (g2 k)) (g3 k)from funext fun k=>(tri k).alike.2.1]at m1_23
 rw[show (fun k=>E.bst (E.bst (E.bst (g1 k) (g2 k)) (g3 k)) (g2 k))=fun k=>E.bst (E.bst (g1 k) (g2 k)) (g3 k)from funext fun k=>(tri k).alike.2.2]at m1232
 have eq12:=equal_ok (Nat.le_trans (lst_len _) (by decide)) G12.okL.2
 have eq123:=equal_ok (Nat.le_trans (lst_len _) (by decide)) G123.okL.2
 have e29:T29 [0,0,0,0,0,0]=some 0:=by
  unfold T29
  rw[iter_run (r:= .inl (6,false)) 7 (by kernel_rfl)]
  rfl
 unfold T5
 refine bs h1 (bs h6 (bs m12 (bs m21 (bs m23 (bs m123 (bs m1_23 (bs m1232 (bs e29 (ct rfl (bs eq12 (ct rfl (bs eq123 (ct rfl (bs eq123 (ct rfl (bs ready_ok rfl))))))))))))))))
end Go.Abs.TTG.E
namespace Go.Abs.TTG
open Go.RowKit Go.Proofs Go.Abs
theorem plain(p0:(List Int))(h0:(p0.length≤1048576∧∀x∈p0,okI x)):T5 p0=some true:=E.plain p0 h0
end Go.Abs.TTG
