import Derived.Test.YtebjpnnikmkopaaGreatCTUXR
import Derived.Test.YtebjpnnikmkopaaGreatCPl
import Derived.Test.YtebjpnnikmkopaaGreatCPlV
import Derived.Test.YtebjpnnikmkopaaGreatCPlD
import Derived.Test.YtebjpnnikmkopaaGreatCPlC
import Derived.Lib.RowBridge
set_option linter.unusedVariables false
set_option linter.unusedSimpArgs false
namespace Go.Abs.TUX
open Go.RowKit
def wc(x:Int):Bool:=(leI 97 x&&leI x 122)||((leI 48 x&&leI x 57)||eqI x 45||eqI x 95)
def okAt(i:Nat)(c:UInt8):Bool:=(leI 97 c.toNat&&leI c.toNat 122)||(ltI 0 i&&((leI 48 c.toNat&&leI c.toNat 57)||eqI c.toNat 45||eqI c.toNat 95))
def key(s:ByteArray):Bool:=((by_ s).zipIdx.all fun q=>okAt q.2 q.1) && !eqS s (ByteArray.mk #[])&&leI (lenS s) 40
theorem T92_eq(s:ByteArray)(h:s.size≤1048576):T92 s=some (key s):=by
 have hi:iter (L92_2 s) ((0:Nat):Int)=some (Sum.elim (fun _:Unit=> .inl ((s.size:Int),false)) (fun _:Unit=> .inr ()) (wp (fun i (_:Unit) x=>bif okAt i x then(.inl ():Unit⊕Unit)else .inr ()) 0 () (by_ s))):=by
  refine iter_wpS (fun _ i=>(i:Int)) _ _ s _ (fun _ _=>True) (fun i u x hx _=>⟨?_,fun _ _=>trivial⟩) (fun u _=>?_) () trivial
  ·have hlt:i<s.size:=by rw[← by_len];exact(List.getElem?_eq_some_iff.1 hx).1
   have h1:ltI (i:Int) (lenS s)=true:=by rw[ltI_iff,lenS_eq];simpa using hlt
   have h2:addI .i64 (i:Int) 1=((i+1:Nat):Int):=by rw[addI_eq (by omega) (by omega)];omega
   simp only[L92_2,h1,cond_true,byteAt_some hx,Option.bind_some,h2,okAt]
   generalize leI 97 (x.toNat:Int)=b1
   generalize leI (x.toNat:Int) 122=b2
   generalize ltI 0 (i:Int)=b3
   generalize leI 48 (x.toNat:Int)=b4
   generalize leI (x.toNat:Int) 57=b5
   generalize eqI (x.toNat:Int) 45=b6
   generalize eqI (x.toNat:Int) 95=b7
   cases b1<;>cases b2<;>cases b3<;>cases b4<;>cases b5<;>cases b6<;>cases b7<;>rfl
  ·have h1:ltI (s.size:Int) (lenS s)=false:=by rw[ltI_iff,lenS_eq];simp
   simp only[L92_2,h1,cond_false]
 unfold T92
 rw[show (0:Int)=((0:Nat):Int)from rfl,hi,wp_all okAt,elim_cond,Option.bind_some]
 unfold key
 cases (by_ s).zipIdx.all fun q=>okAt q.2 q.1<;>cases eqS s (ByteArray.mk #[])<;>rfl
def smalls:ByteArray:=ByteArray.mk #[97,98,99,100,101,102,103,104,105,106,107,108,109,110,111,112,113,114,115,116,117,118,119,120,121,122]
def words:ByteArray:=ByteArray.mk #[97,98,99,100,101,102,103,104,105,106,107,108,109,110,111,112,113,114,115,116,117,118,119,120,121,122,48,49,50,51,52,53,54,55,56,57,45,95]
theorem T75_eq(s t:ByteArray)(h:s.size≤1048576):T75 s t=some ((by_ s).all fun c => !ltI (idxB t c.toNat) 0):=by
 have hi:iter (L75_2 s t) ((0:Nat):Int)=some (Sum.elim (fun _:Unit=> .inl ((s.size:Int),false)) (fun _:Unit=> .inr ()) (wp (fun i (_:Unit) (x:UInt8)=>bif !ltI (idxB t x.toNat) 0 then(.inl ():Unit⊕Unit)else .inr ()) 0 () (by_ s))):=by
  refine iter_wpS (fun _ i=>(i:Int)) _ _ s _ (fun _ _=>True) (fun i u x hx _=>⟨?_,fun _ _=>trivial⟩) (fun u _=>?_) () trivial
  ·have hlt:i<s.size:=by rw[← by_len];exact(List.getElem?_eq_some_iff.1 hx).1
   have h1:ltI (i:Int) (lenS s)=true:=by rw[ltI_iff,lenS_eq];simpa using hlt
   have h2:addI .i64 (i:Int) 1=((i+1:Nat):Int):=by rw[addI_eq (by omega) (by omega)];omega
   simp only[L75_2,T99,h1,cond_true,byteAt_some hx,Option.bind_some,h2]
   cases ltI (idxB t (x.toNat:Int)) 0<;>rfl
  ·have h1:ltI (s.size:Int) (lenS s)=false:=by rw[ltI_iff,lenS_eq];simp
   simp only[L75_2,h1,cond_false]
 unfold T75
 rw[show (0:Int)=((0:Nat):Int)from rfl,hi,wp_all',elim_cond,Option.bind_some]
 cases (by_ s).all fun c => !ltI (idxB t (c.toNat:Int)) 0<;>rfl
theorem smalls_idx:∀n:Fin 256,(!ltI (Lib.indexByte (by_ smalls) (UInt8.ofNat n.val)) 0)=(leI 97 n.val&&leI n.val 122):=by decide +kernel
theorem words_idx:∀n:Fin 256,(!ltI (Lib.indexByte (by_ words) (UInt8.ofNat n.val)) 0)=wc n.val:=by decide +kernel
theorem smalls_at(c:UInt8):(!ltI (idxB smalls c.toNat) 0)=(leI 97 c.toNat&&leI c.toNat 122):=by
 have:=smalls_idx ⟨c.toNat,c.toNat_lt⟩
 simpa[idxB]using this
theorem words_at(c:UInt8):(!ltI (idxB words c.toNat) 0)=wc c.toNat:=by
 have:=words_idx ⟨c.toNat,c.toNat_lt⟩
 simpa[idxB]using this
theorem okAt_pos{i:Nat}(h:1≤i)(c:UInt8):okAt i c=wc c.toNat:=by
 have:ltI 0 (i:Int)=true:=by rw[ltI_iff];simp;omega
 simp only[okAt,wc,this,Bool.true_and]
theorem okAt_all(l:List UInt8)(k:Nat)(h:1≤k):((l.zipIdx k).all fun q=>okAt q.2 q.1)=l.all fun c=>wc c.toNat:=by
 induction l generalizing k with
 | nil=>rfl
 | cons a l ih=>simp only[List.zipIdx_cons,List.all_cons,okAt_pos h,ih (k+1) (by omega)]
theorem eqS_empty{s:ByteArray}(h:s.size≠0):eqS s (ByteArray.mk #[])=false:=by
 rw[eqS_iff]
 simp only[decide_eq_false_iff_not]
 intro e
 rw[e]at h
 exact h rfl
theorem T41_eq(a b c:Int):T41 a b c=some (leI b a&&leI a c):=by
 unfold T41
 cases leI b a<;>rfl
theorem T40_eq(s:ByteArray)(h:s.size≤1048576):T40 s=some (key s):=by
 unfold T40
 rw[T41_eq,Option.bind_some]
 have hlen:=by_len s
 rcases hb:by_ s with _|⟨c,l⟩
 ·rw[hb]at hlen
  have h0:s.size=0:=hlen.symm
  have h1:leI 1 (lenS s)=false:=by rw[leI_iff,lenS_eq,h0];rfl
  have h2:eqS s (ByteArray.mk #[])=true:=by
   rw[eqS_iff];simp only[decide_eq_true_eq];exact by_inj hb
  unfold key
  rw[h1,h2,Bool.false_and,cond_false]
  simp
 ·rw[hb,List.length_cons]at hlen
  have h1:leI 1 (lenS s)=true:=by rw[leI_iff,lenS_eq];simp;omega
  have h2:eqS s (ByteArray.mk #[])=false:=eqS_empty (by omega)
  have h3:cutS s none (some 1)=some (s.extract 0 1):=by
   have:(1:Int)≤(s.size:Int):=by omega
   simp[cutS,cutB,this]
  have h4:by_ (s.extract 0 1)=[c]:=by rw[by_extract,hb];rfl
  have h5:(s.extract 0 1).size≤1048576:=by rw[← by_len,h4];simp
  have h6:=T75_eq (s.extract 0 1) smalls h5
  have h7:=T75_eq s words h
  unfold smalls at h6
  unfold words at h7
  rw[h1,h3,Bool.true_and,Option.bind_some,h6,h4,h7,hb]
  simp only[Option.bind_some,List.all_cons,List.all_nil,Bool.and_true]
  have h8:(!ltI (idxB (ByteArray.mk #[97,98,99,100,101,102,103,104,105,106,107,108,109,110,111,112,113,114,115,116,117,118,119,120,121,122]) c.toNat) 0)=(leI 97 c.toNat&&leI c.toNat 122):=smalls_at c
  have h9:∀c:UInt8,(!ltI (idxB (ByteArray.mk #[97,98,99,100,101,102,103,104,105,106,107,108,109,110,111,112,113,114,115,116,117,118,119,120,121,122,48,49,50,51,52,53,54,55,56,57,45,95]) c.toNat) 0)=wc c.toNat:=words_at
  simp only[h8,h9]
  unfold key
  have h10:okAt 0 c=(leI 97 c.toNat&&leI c.toNat 122):=by simp[okAt,ltI]
  rw[h2,hb,List.zipIdx_cons,List.all_cons,okAt_all l _ (by omega),h10]
  unfold wc
  cases leI 97 (c.toNat:Int)<;>cases leI (c.toNat:Int) 122<;>cases (l.all fun c=>(leI 97 (c.toNat:Int)&&leI (c.toNat:Int) 122)||((leI 48 (c.toNat:Int)&&leI (c.toNat:Int) 57)||eqI (c.toNat:Int) 45||eqI (c.toNat:Int) 95))<;>cases leI (lenS s) 40<;>rfl
theorem key_pos{s:ByteArray}(h:key s=true):s.size≠0:=by
 intro h0
 unfold key at h
 have:eqS s (ByteArray.mk #[])=true:=by
  rw[eqS_iff];simp only[decide_eq_true_eq]
  apply by_inj
  exact List.eq_nil_of_length_eq_zero (by rw[by_len];exact h0)
 rw[this]at h
 simp at h
theorem leS_empty{s:ByteArray}(h:s.size≠0):leS s (ByteArray.mk #[])=false:=by
 unfold leS
 rw[eqS_empty h,ltS_eq]
 cases hb:by_ s with
 | nil=>rfl
 | cons c l=>rfl
def risF(_:Nat)(last:ByteArray)(x:ByteArray):ByteArray⊕Int:=bif !key x then .inr 5 else bif leS x last then .inr 7 else .inl x
def tagsF(l:List ByteArray):Int:=bif ltI 20 (lenL l)then 2 else Sum.elim (fun _=>0) id (wp risF 0 (ByteArray.mk #[]) l)
def Prev{α:Type}(l:List α)(k:α→ByteArray)(i:Nat)(s:ByteArray):Prop:=(i=0∧s=ByteArray.mk #[])∨∃x,0<i∧l[i-1]? = some x∧s=k x
theorem T120_eq(l:List ByteArray)(h:l.length≤1048576)(hs:∀x∈l,x.size≤1048576):T120 l=some (Sum.elim (fun _=>0) id (wp risF 0 (ByteArray.mk #[]) l)):=by
 have hi:iter (L120_2 l) ((0:Nat):Int)=some (Sum.elim (fun _=> .inl ((l.length:Int),false)) (fun r=> .inr r) (wp risF 0 (ByteArray.mk #[]) l)):=by
  refine iter_wp (fun _ i=>(i:Int)) _ _ l risF (Prev l id) (fun i u x hx hI=>?_) (fun u _=>?_) _ (.inl ⟨rfl,rfl⟩)
  ·have hlt:i<l.length:=(List.getElem?_eq_some_iff.1 hx).1
   have h1:ltI (i:Int) (lenL l)=true:=by rw[ltI_iff,lenL_eq];simpa using hlt
   have h2:addI .i64 (i:Int) 1=((i+1:Nat):Int):=by rw[addI_eq (by omega) (by omega)];omega
   have h3:=T92_eq x (hs x (List.mem_of_getElem? hx))
   refine⟨?_,fun s' hf=>?_⟩
   ·simp only[L120_2,h1,cond_true,listAt_some hx,Option.bind_some,h3,h2,risF]
    cases hk:key x with
    | false=>rfl
    | true=>
      simp only[Bool.not_true,cond_false]
      rcases hI with⟨rfl,rfl⟩|⟨y,hi0,hy,hu⟩
      ·have h4:ltI 0 ((0:Nat):Int)=false:=rfl
       rw[h4,leS_empty (key_pos hk)]
       rfl
      ·have h4:ltI 0 (i:Int)=true:=by rw[ltI_iff];simp;omega
       have h5:subI .i64 (i:Int) 1=((i-1:Nat):Int):=by rw[subI_eq (by omega) (by omega)];omega
       rw[h4,h5,listAt_some hy,hu]
       simp only[cond_true,Option.bind_some,leS,id]
       cases (ltS x y||eqS x y)<;>rfl
   ·refine .inr ⟨x,by omega,by simpa using hx,?_⟩
    unfold risF at hf
    cases hk:key x<;>rw[hk]at hf
    ·cases hf
    ·simp only[Bool.not_true,cond_false]at hf
     cases hl:leS x u<;>rw[hl]at hf
     ·exact(Sum.inl.inj hf).symm
     ·cases hf
  ·have h1:ltI (l.length:Int) (lenL l)=false:=by rw[ltI_iff,lenL_eq];simp
   simp only[L120_2,h1,cond_false]
 unfold T120
 rw[show (0:Int)=((0:Nat):Int)from rfl,hi,Option.bind_some]
 cases wp risF 0 (ByteArray.mk #[]) l<;>rfl
theorem listAt_mem{α:Type}{l:List α}{i:Int}{x:α}(h:listAt l i=some x):x∈l:=by
 unfold listAt at h
 split at h
 ·exact List.mem_of_getElem? h
 ·cases h
theorem T76_eq(l:List ByteArray)(h:l.length≤1048576)(hs:∀x∈l,x.size≤1048576):T76 l=some (Sum.elim (fun _=>0) id (wp risF 0 (ByteArray.mk #[]) l)):=by
 rw[← T120_eq l h hs]
 have:L76_2 l=L120_2 l:=by
  funext z
  unfold L76_2 L120_2
  cases hx:listAt l z with
  | none=>rfl
  | some x=>simp only[Option.bind_some,T40_eq x (hs x (listAt_mem hx)),T92_eq x (hs x (listAt_mem hx))]
 unfold T76 T120
 rw[this]
theorem T93_eq(l:List ByteArray)(h:l.length≤1048576)(hs:∀x∈l,x.size≤1048576):T93 l=some (tagsF l):=by
 unfold T93 tagsF
 rw[T120_eq l h hs]
 cases ltI 20 (lenL l)<;>rfl
theorem T42_eq(l:List ByteArray)(h:l.length≤1048576)(hs:∀x∈l,x.size≤1048576):T42 l=some (tagsF l):=by
 unfold T42 tagsF
 rw[T76_eq l h hs]
 cases ltI 20 (lenL l)<;>rfl
def outB(a b c:Int):Bool:=ltI a b||ltI c a
theorem T77_eq(a b c:Int):T77 a b c=some (outB a b c):=by
 unfold T77 outB
 cases ltI a b<;>rfl
theorem ltI_not(a b:Int):ltI a b = !leI b a:=by
 rw[ltI_iff,leI_iff,Bool.eq_iff_iff];simp
theorem inB(a b c:Int):(leI b a&&leI a c) = !outB a b c:=by
 unfold outB
 rw[ltI_not a b,ltI_not c a]
 cases leI b a<;>cases leI a c<;>rfl
theorem wp_true{α:Type}(i:Nat)(l:List α):(wp (fun _ (_:Unit) (_:α)=>(.inl ():Unit⊕Unit)) i () l)= .inl ():=by
 induction l generalizing i with
 | nil=>rfl
 | cons a l ih=>exact ih (i+1)
theorem T69_self(l:List ByteArray)(h:l.length≤1048576):T22 l l=some true:=by
 have hi:iter (L22_4 l l) ((0:Nat):Int)=some (Sum.elim (fun _=> .inl ((l.length:Int),false)) (fun r=> .inr r) (wp (fun _ (_:Unit) (_:ByteArray)=>(.inl ():Unit⊕Unit)) 0 () l)):=by
  refine iter_wp (fun _ i=>(i:Int)) _ _ l _ (fun _ _=>True) (fun i u x hx _=>⟨?_,fun _ _=>trivial⟩) (fun u _=>?_) _ trivial
  ·have hlt:i<l.length:=(List.getElem?_eq_some_iff.1 hx).1
   have h1:ltI (i:Int) (lenL l)=true:=by rw[ltI_iff,lenL_eq];simpa using hlt
   have h2:addI .i64 (i:Int) 1=((i+1:Nat):Int):=by rw[addI_eq (by omega) (by omega)];omega
   simp only[L22_4,h1,cond_true,listAt_some hx,Option.bind_some,h2,eqS_self,Bool.not_true,cond_false]
  ·have h1:ltI (l.length:Int) (lenL l)=false:=by rw[ltI_iff,lenL_eq];simp
   simp only[L22_4,h1,cond_false]
 have h3:neI (lenL l) (lenL l)=false:=by rw[neI_iff];simp
 unfold T22
 rw[show (0:Int)=((0:Nat):Int)from rfl,hi,wp_true,h3]
 rfl
theorem eqI_self(a:Int):eqI a a=true:=by rw[eqI_iff];simp
def Rising(l:List ByteArray):Prop:=∀(i j:Nat)(x y:ByteArray),i<j→l[i]? = some x→l[j]? = some y→ltS x y=true
theorem wp_rising:∀(l:List ByteArray)(i:Nat)(last s:ByteArray),wp risF i last l= .inl s→(∀ x∈l,ltS last x=true)∧Rising l
 | [],i,last,s,_=>⟨by simp,fun i j x y _ h=>by simp at h⟩
 | a::l,i,last,s,h=>by
   simp only[wp]at h
   cases hf:risF i last a with
   | inr r=>rw[hf]at h;cases h
   | inl s'=>
     rw[hf]at h
     have h1:s'=a∧leS a last=false:=by
      unfold risF at hf
      cases hk:key a<;>rw[hk]at hf
      ·cases hf
      ·simp only[Bool.not_true,cond_false]at hf
       cases hl:leS a last<;>rw[hl]at hf
       ·exact⟨(Sum.inl.inj hf).symm,rfl⟩
       ·cases hf
     obtain⟨rfl,h2⟩:=h1
     obtain⟨h3,h4⟩:=wp_rising l (i+1) s' s h
     have h5:=leS_false.1 h2
     refine⟨fun x hx=>?_,fun i j x y hij hx hy=>?_⟩
     ·rcases List.mem_cons.1 hx with rfl|hx
      ·exact h5
      ·exact ltS_trans h5 (h3 x hx)
     ·cases i with
      | zero=>
        cases j with
        | zero=>omega
        | succ j=>
          simp only[List.getElem?_cons_zero,Option.some.injEq,List.getElem?_cons_succ]at hx hy
          subst hx
          exact h3 y (List.mem_of_getElem? hy)
      | succ i=>
        cases j with
        | zero=>omega
        | succ j=>
          simp only[List.getElem?_cons_succ]at hx hy
          exact h4 i j x y (by omega) hx hy
theorem neI_false{a b:Int}:neI a b=false↔a=b:=by rw[neI_iff];simp
theorem tagsF_rising{l:List ByteArray}(h:tagsF l=0):Rising l:=by
 unfold tagsF at h
 cases h1:ltI 20 (lenL l)<;>rw[h1]at h
 ·simp only[cond_false]at h
  cases hw:wp risF 0 (ByteArray.mk #[]) l with
  | inl s=>exact(wp_rising l 0 _ s hw).2
  | inr r=>
    rw[hw]at h
    exfalso
    have:∀(l:List ByteArray)(i:Nat)(u:ByteArray)(r:Int),wp risF i u l= .inr r→r=5∨r=7:=by
     intro l
     induction l with
     | nil=>intro i u r h;cases h
     | cons a l ih=>
       intro i u r h
       simp only[wp]at h
       cases hf:risF i u a with
       | inl s=>rw[hf]at h;exact ih _ _ _ h
       | inr q=>
         rw[hf]at h
         cases h
         unfold risF at hf
         cases hk:key a<;>rw[hk]at hf
         ·cases hf;exact .inl rfl
         ·simp only[Bool.not_true,cond_false]at hf
          cases hl:leS a u<;>rw[hl]at hf
          ·cases hf
          ·cases hf;exact .inr rfl
    have h2:r=0:=h
    rcases this l 0 _ r hw with h3|h3<;>omega
 ·cases h
theorem T150_eq(x t:ByteArray):T150 x t=some (ltS x t):=by
 unfold T150 T160
 rw[eqS_self]
 rfl
theorem T151_eq(x:ByteArray):T151 x=some false:=by
 unfold T151
 rw[eqS_self]
 rfl
theorem half_eq{a b:Nat}(h:a+b≤4611686018427387904):cvI .i64 (shrI (cvI .u64 (addI .i64 (a:Int) (b:Int))) 1)=(((a+b) / 2:Nat):Int):=by
 have h1:addI .i64 (a:Int) (b:Int)=((a+b:Nat):Int):=by rw[addI_eq (by omega) (by omega)];omega
 have h2:cvI .u64 ((a+b:Nat):Int)=((a+b:Nat):Int):=by
  unfold cvI IntKind.wrap
  simp only[IntKind.bits,IntKind.signed,Bool.false_and,Bool.false_eq_true,if_false]
  omega
 have h3:shrI ((a+b:Nat):Int) 1=(((a+b) / 2:Nat):Int):=by
  unfold shrI
  rw[Int.fdiv_eq_ediv_of_nonneg _ (by decide)]
  omega
 rw[h1,h2,h3,cvI_eq (by omega) (by omega)]
theorem T121_eq(l:List ByteArray)(t:ByteArray)(h:l.length≤1048576)(hr:Rising l):∃i,T121 l t=some (i,l.any fun x=>eqS x t):=by
 have hi:∃r,iter (L121_3 l t) (((0:Nat):Int),(l.length:Int))=some r∧∃k:Nat,r.1=(k:Int)∧k≤l.length∧(∀ i x,i<k→l[i]? = some x→ltS x t=true)∧(∀ i x,k≤i→l[i]? = some x→ltS x t=false):=by
  refine iter_meas (fun z=>∃a b:Nat,z=((a:Int),(b:Int))∧a≤b∧b≤l.length∧(∀ i x,i<a→l[i]? = some x→ltS x t=true)∧(∀ i x,b≤i→l[i]? = some x→ltS x t=false)) (fun z=>(z.2-z.1).toNat) _ ?_ _ ⟨0,l.length,rfl,by omega,by omega,fun i x hi=>by omega,fun i x hi hx=>?_⟩
  ·rintro _ ⟨a,b,rfl,hab,hb,h1,h2⟩
   by_cases hlt:a<b
   ·left
    have h3:ltI (a:Int) (b:Int)=true:=by rw[ltI_iff];simp;omega
    have hm:(a+b) / 2<l.length:=by omega
    have hx:=List.getElem?_eq_getElem hm
    cases hc:ltS l[(a+b) / 2] t with
    | true=>
      refine⟨((((a+b) / 2+1:Nat):Int),(b:Int)),?_,⟨_,b,rfl,by omega,hb,fun i x hi hxi=>?_,h2⟩,by simp only;omega⟩
      ·have h4:addI .i64 (((a+b) / 2:Nat):Int) 1=(((a+b) / 2+1:Nat):Int):=by rw[addI_eq (by omega) (by omega)];omega
       simp only[L121_3,h3,cond_true,half_eq (a:=a) (b:=b) (by omega),listAt_some hx,Option.bind_some,T150_eq,hc,h4]
      ·rcases Nat.lt_or_ge i ((a+b) / 2)with h5|h5
       ·exact ltS_trans (hr i _ x _ h5 hxi hx) hc
       ·have:i=(a+b) / 2:=by omega
        subst this
        rw[hx]at hxi
        cases hxi
        exact hc
    | false=>
      refine⟨((a:Int),(((a+b) / 2:Nat):Int)),?_,⟨a,_,rfl,by omega,by omega,h1,fun i x hi hxi=>?_⟩,by simp only;omega⟩
      ·simp only[L121_3,h3,cond_true,half_eq (a:=a) (b:=b) (by omega),listAt_some hx,Option.bind_some,T150_eq,hc,cond_false]
      ·rcases Nat.lt_or_ge ((a+b) / 2) i with h5|h5
       ·cases h6:ltS x t with
        | false=>rfl
        | true=>
          have:=ltS_trans (hr _ i _ x h5 hx hxi) h6
          rw[hc]at this;cases this
       ·have:i=(a+b) / 2:=by omega
        subst this
        rw[hx]at hxi
        cases hxi
        exact hc
   ·right
    have h3:ltI (a:Int) (b:Int)=false:=by rw[ltI_iff];simp;omega
    have:a=b:=by omega
    subst this
    refine⟨((a:Int),(a:Int),false),?_,a,rfl,hb,h1,h2⟩
    simp only[L121_3,h3,cond_false]
  ·have:=(List.getElem?_eq_some_iff.1 hx).1
   omega
 obtain⟨r,h1,k,h2,h3,h4,h5⟩:=hi
 unfold T121
 rw[show (0:Int)=((0:Nat):Int)from rfl,show lenL l=(l.length:Int)from rfl,h1,Option.bind_some,h2]
 by_cases hk:k<l.length
 ·have h6:ltI (k:Int) (l.length:Int)=true:=by rw[ltI_iff];simpa using hk
  have hx:=List.getElem?_eq_getElem hk
  rw[h6]
  simp only[cond_true,listAt_some hx,Option.bind_some,T151_eq,cond_false]
  cases he:eqS l[k] t with
  | true=>
    refine⟨k,?_⟩
    have:(l.any fun x=>eqS x t)=true:=List.any_eq_true.2 ⟨l[k],List.getElem_mem hk,he⟩
    rw[this]
    rfl
  | false=>
    refine⟨k,?_⟩
    have:(l.any fun x=>eqS x t)=false:=by
     rw[List.any_eq_false]
     intro x hxm he2
     obtain⟨i,hi⟩:=List.getElem?_of_mem hxm
     have hxt:x=t:=by rw[eqS_iff]at he2;simpa using he2
     subst hxt
     rcases Nat.lt_trichotomy i k with h7|h7|h7
     ·have:=h4 i x h7 hi;rw[ltS_irrefl]at this;cases this
     ·subst h7
      rw[hx]at hi
      cases hi
      rw[eqS_self]at he;cases he
     ·have h8:=hr k i _ x h7 hx hi
      rw[h5 k _ (Nat.le_refl _) hx]at h8
      cases h8
    rw[this]
    rfl
 ·have h6:ltI (k:Int) (l.length:Int)=false:=by rw[ltI_iff];simp;omega
  rw[h6]
  refine⟨k,?_⟩
  have:(l.any fun x=>eqS x t)=false:=by
   rw[List.any_eq_false]
   intro x hxm he2
   obtain⟨i,hi⟩:=List.getElem?_of_mem hxm
   have hxt:x=t:=by rw[eqS_iff]at he2;simpa using he2
   subst hxt
   have hil:=(List.getElem?_eq_some_iff.1 hi).1
   have:=h4 i x (by omega) hi
   rw[ltS_irrefl]at this;cases this
  rw[this]
  rfl
theorem T103_eq(l:List ByteArray)(t:ByteArray)(h:l.length≤1048576):T103 l t=some (l.any fun x=>eqS x t):=by
 obtain⟨r,h1,h2⟩:=wp_any (fun x=>eqS t x) 0 l
 have hi:iter (L132_2 l t) ((0:Nat):Int)=some (Sum.elim (fun _=> .inl ((l.length:Int),false)) (fun r:Nat=> .inr (r:Int)) (wp (fun i (_:Unit) x=>bif eqS t x then(.inr i:Unit⊕Nat)else .inl ()) 0 () l)):=by
  refine iter_wp (fun _ i=>(i:Int)) _ _ l _ (fun _ _=>True) (fun i u x hx _=>⟨?_,fun _ _=>trivial⟩) (fun u _=>?_) _ trivial
  ·have hlt:i<l.length:=(List.getElem?_eq_some_iff.1 hx).1
   have h1:ltI (i:Int) (lenL l)=true:=by rw[ltI_iff,lenL_eq];simpa using hlt
   have h2:addI .i64 (i:Int) 1=((i+1:Nat):Int):=by rw[addI_eq (by omega) (by omega)];omega
   simp only[L132_2,h1,cond_true,listAt_some hx,Option.bind_some,h2]
   cases eqS t x<;>rfl
  ·have h1:ltI (l.length:Int) (lenL l)=false:=by rw[ltI_iff,lenL_eq];simp
   simp only[L132_2,h1,cond_false]
 have he:(l.any fun x=>eqS x t)=l.any fun x=>eqS t x:=by
  congr 1
  funext x
  rw[eqS_iff,eqS_iff,Bool.eq_iff_iff]
  simp only[decide_eq_true_eq]
  exact⟨Eq.symm,Eq.symm⟩
 unfold T103 T132
 rw[show (0:Int)=((0:Nat):Int)from rfl,hi,h1,he,←h2]
 cases r with
 | inl u=>rfl
 | inr k=>
   simp only[Sum.elim_inr,Option.bind_some,Sum.isRight_inr,leI_iff]
   congr 1
theorem outB_false{a b c:Int}(h:outB a b c=false):b≤a∧a≤c:=by
 unfold outB at h
 rw[ltI_iff,ltI_iff,Bool.or_eq_false_iff,decide_eq_false_iff_not,decide_eq_false_iff_not]at h
 omega
theorem neI_self(a:Int):neI a a=false:=neI_false.2 rfl
end Go.Abs.TUX
set_option linter.unusedVariables false
set_option linter.unusedSimpArgs false
namespace Go.Abs.TUX
open Go.RowKit
def excF(_:Nat)(last:Int)(x:Int):Int⊕Int:=bif !(leI 0 x&&leI x 4000)then .inr 1 else bif leI x last then .inr 7 else .inl x
def excsF(l:List Int):Int:=bif ltI 100 (lenL l)then 2 else Sum.elim (fun _=>0) id (wp excF 0 (-1) l)
def PrevI(l:List Int)(i:Nat)(s:Int):Prop:=(i=0∧s = -1)∨(0<i∧l[i-1]? = some s)
theorem excF_inl{i:Nat}{u s x:Int}(h:excF i u x= .inl s):s=x∧0≤x∧x≤4000∧u<x:=by
 unfold excF at h
 simp only[leI_iff]at h
 by_cases h1:0≤x<;>by_cases h2:x≤4000<;>by_cases h3:x≤u<;>simp[h1,h2,h3]at h
 exact⟨h.symm,h1,h2,by omega⟩
theorem excF_inr{i:Nat}{u r x:Int}(h:excF i u x= .inr r):r≠0:=by
 unfold excF at h
 simp only[leI_iff]at h
 by_cases h1:0≤x<;>by_cases h2:x≤4000<;>by_cases h3:x≤u<;>simp[h1,h2,h3]at h<;>omega
theorem T142_eq(x:Int):T142 x=some (leI 0 x&&leI x 4000):=by
 unfold T142
 cases leI 0 x<;>rfl
theorem exc_iter(l:List Int)(h:l.length≤1048576):iter (L106_4 l) 0=some (Sum.elim (fun _=> .inl ((l.length:Int),false)) (fun r=> .inr r) (wp excF 0 (-1) l)):=by
 rw[show (0:Int)=((0:Nat):Int)from rfl]
 refine iter_wp (fun _ i=>(i:Int)) _ _ l excF (PrevI l) (fun i u x hx hI=>?_) (fun u _=>?_) _ (.inl ⟨rfl,rfl⟩)
 ·have hlt:i<l.length:=(List.getElem?_eq_some_iff.1 hx).1
  have h1:ltI (i:Int) (lenL l)=true:=by rw[ltI_iff,lenL_eq];simpa using hlt
  have h2:addI .i64 (i:Int) 1=((i+1:Nat):Int):=by rw[addI_eq (by omega) (by omega)];omega
  refine⟨?_,fun s' hf=> .inr ⟨by omega,by rw[(excF_inl hf).1];simpa using hx⟩⟩
  simp only[L106_4,h1,cond_true,listAt_some hx,Option.bind_some,T142_eq,h2,excF]
  cases hk:(leI 0 x&&leI x 4000)with
  | false=>rfl
  | true=>
    simp only[Bool.not_true,cond_false]
    rcases hI with⟨rfl,rfl⟩|⟨hi0,hy⟩
    ·have h4:ltI 0 ((0:Nat):Int)=false:=rfl
     have h5:leI x (-1)=false:=by
      rw[Bool.and_eq_true,leI_iff]at hk
      rw[leI_iff]
      have:=hk.1
      simp only[decide_eq_true_eq]at this
      simp only[decide_eq_false_iff_not]
      omega
     rw[h4,h5]
     rfl
    ·have h4:ltI 0 (i:Int)=true:=by rw[ltI_iff];simp;omega
     have h5:subI .i64 (i:Int) 1=((i-1:Nat):Int):=by rw[subI_eq (by omega) (by omega)];omega
     rw[h4,h5,listAt_some hy]
     simp only[cond_true,Option.bind_some]
     cases leI x u<;>rfl
 ·have h1:ltI (l.length:Int) (lenL l)=false:=by rw[ltI_iff,lenL_eq];simp
  simp only[L106_4,h1,cond_false]
theorem T106_eq(l:List Int)(h:l.length≤1048576):T106 l=some (excsF l):=by
 unfold T106 excsF
 rw[exc_iter l h]
 cases ltI 100 (lenL l)<;>cases wp excF 0 (-1) l<;>rfl
theorem L162_eq(e:S36):L39_8 e=L106_4 e.f7:=by
 funext z
 unfold L39_8 L106_4
 cases listAt e.f7 z with
 | none=>rfl
 | some x=>simp only[Option.bind_some,T142_eq,T41_eq]
theorem wp_exc:∀(l:List Int)(i:Nat)(u:Int),(∀ r,wp excF i u l= .inr r→r≠0)∧∀s,wp excF i u l= .inl s→(∀ x∈l,u<x∧0≤x∧x≤4000)∧l.Pairwise (· < ·)
 | [],i,u=>⟨fun r h=>by simp[wp]at h,fun s h=>⟨by simp,.nil⟩⟩
 | x::l,i,u=>by
   simp only[wp]
   cases hf:excF i u x with
   | inl s'=>
     obtain⟨rfl,h1,h2,h3⟩:=excF_inl hf
     have ih:=wp_exc l (i+1) s'
     refine⟨ih.1,fun s hs=>?_⟩
     obtain⟨h4,h5⟩:=ih.2 s hs
     refine⟨fun y hy=>?_,.cons (fun y hy=>(h4 y hy).1) h5⟩
     rcases List.mem_cons.1 hy with rfl|hy
     ·exact⟨h3,h1,h2⟩
     ·have:=h4 y hy
      exact⟨by omega,this.2⟩
   | inr r=>exact⟨fun r' h=>by cases h;exact excF_inr hf,fun s h=>by cases h⟩
theorem excsF_ok{l:List Int}(h:excsF l=0):(∀ x∈l,0≤x∧x≤4000)∧l.Pairwise (· < ·):=by
 unfold excsF at h
 cases h1:ltI 100 (lenL l)with
 | true=>rw[h1]at h;cases h
 | false=>
   rw[h1,cond_false]at h
   cases h2:wp excF 0 (-1) l with
   | inl s=>
     obtain⟨h3,h4⟩:=(wp_exc l 0 (-1)).2 s h2
     exact⟨fun x hx=>(h3 x hx).2,h4⟩
   | inr r=>rw[h2]at h;exact absurd h ((wp_exc l 0 (-1)).1 r h2)
def entF(x:S36):Int:=
 bif !key x.f0 then 5 else bif !key x.f1 then 5 else bif outB x.f2 0 1000000 then 1 else bif outB x.f3 0 x.f4 then 1 else bif ltI 4000 x.f4 then 1 else bif outB x.f5 1 400 then 1 else bif outB x.f6 1 127 then 1 else
 bif neI (excsF x.f7) 0 then excsF x.f7 else bif outB x.f8 0 1439 then 1 else bif outB x.f9 0 1439 then 1 else bif outB x.f10 0 9 then 1 else tagsF x.f11
theorem T84_eq(x:S36)(h:ok36 1048576 x):T84 x=some (entF x):=by
 obtain⟨k0,k1,k2,k3,k4,k5,k6,⟨k7,k7'⟩,k8,k9,k10,⟨k11,k11'⟩,k12⟩:=h
 unfold T84 entF
 simp only[T92_eq x.f0 k0,T92_eq x.f1 k1,T77_eq,Option.bind_some,T106_eq x.f7 k7,T93_eq x.f11 k11 k11']
 cases key x.f0; · rfl
 cases key x.f1; · rfl
 cases outB x.f2 0 1000000;rotate_left; · rfl
 cases outB x.f3 0 x.f4;rotate_left; · rfl
 cases ltI 4000 x.f4;rotate_left; · rfl
 cases outB x.f5 1 400;rotate_left; · rfl
 cases outB x.f6 1 127;rotate_left; · rfl
 cases neI (excsF x.f7) 0;rotate_left; · rfl
 cases outB x.f8 0 1439;rotate_left; · rfl
 cases outB x.f9 0 1439;rotate_left; · rfl
 cases outB x.f10 0 9<;>rfl
theorem T39_eq(x:S36)(h:ok36 1048576 x):T39 x=some (entF x):=by
 obtain⟨k0,k1,k2,k3,k4,k5,k6,⟨k7,k7'⟩,k8,k9,k10,⟨k11,k11'⟩,k12⟩:=h
 unfold T39 entF
 simp only[T40_eq x.f0 k0,T40_eq x.f1 k1,T41_eq,inB,Option.bind_some,L162_eq,exc_iter x.f7 k7,T42_eq x.f11 k11 k11']
 cases key x.f0; · rfl
 cases key x.f1; · rfl
 cases outB x.f2 0 1000000;rotate_left; · rfl
 cases outB x.f3 0 x.f4;rotate_left; · rfl
 cases ltI 4000 x.f4;rotate_left; · rfl
 cases outB x.f5 1 400;rotate_left; · rfl
 cases outB x.f6 1 127;rotate_left; · rfl
 unfold excsF
 cases ltI 100 (lenL x.f7);rotate_left; · rfl
 simp only[Bool.not_true,Bool.not_false,cond_true,cond_false]
 cases hw:wp excF 0 (-1) x.f7 with
 | inr r=>
   have h1:neI r 0=true:=by
    rw[neI_iff]
    simpa using(wp_exc x.f7 0 (-1)).1 r hw
   simp only[Sum.elim_inr,id,h1,cond_true]
 | inl s=>
   simp only[Sum.elim_inl,neI_self,cond_false]
   cases outB x.f8 0 1439;rotate_left; · rfl
   cases outB x.f9 0 1439;rotate_left; · rfl
   cases outB x.f10 0 9<;>rfl
theorem entF_key{x:S36}(h:entF x=0):key x.f0=true:=by
 unfold entF at h
 cases hk:key x.f0 with
 | true=>rfl
 | false=>rw[hk]at h;cases h
theorem T156_one(x:S36)(h:ok36 1048576 x):T51 [x]=some (entF x):=by
 have e1:L51_4 [x] 0=some (bif neI (entF x) 0 then .inr (.inr (entF x))else .inl 1):=by
  show(bif ltI 0 1 then((some x).bind fun x1=>_)else _)=_
  rw[show ltI 0 1=true from rfl]
  simp only[cond_true,Option.bind_some,T84_eq x h]
  cases neI (entF x) 0<;>rfl
 have e2:L51_4 [x] 1=some (.inr (.inl (1,false))):=rfl
 unfold T51
 rw[show ltI 200 (lenL [x])=false from rfl,cond_false]
 cases hn:neI (entF x) 0 with
 | true=>
   rw[hn]at e1
   rw[iter_stop e1]
   rfl
 | false=>
   rw[hn]at e1
   rw[iter_next e1,iter_stop e2,neI_false.1 hn]
   rfl
theorem entF_ok{x:S36}(h:entF x=0):(0≤x.f3∧x.f3≤x.f4∧x.f4≤4000)∧(1≤x.f5∧x.f5≤400)∧(1≤x.f6∧x.f6≤127)∧((∀ d∈x.f7,0≤d∧d≤4000)∧x.f7.Pairwise (· < ·))∧(0≤x.f8∧x.f8≤1439)∧(0≤x.f9∧x.f9≤1439):=by
 unfold entF at h
 cases h0:key x.f0<;>rw[h0]at h; · cases h
 cases h1:key x.f1<;>rw[h1]at h; · cases h
 cases h2:outB x.f2 0 1000000<;>rw[h2]at h;rotate_left; · cases h
 cases h3:outB x.f3 0 x.f4<;>rw[h3]at h;rotate_left; · cases h
 cases h4:ltI 4000 x.f4<;>rw[h4]at h;rotate_left; · cases h
 cases h5:outB x.f5 1 400<;>rw[h5]at h;rotate_left; · cases h
 cases h6:outB x.f6 1 127<;>rw[h6]at h;rotate_left; · cases h
 cases h7:neI (excsF x.f7) 0<;>rw[h7]at h;rotate_left
 ·simp only[Bool.not_true,Bool.not_false,cond_true,cond_false]at h
  rw[h]at h7;cases h7
 cases h8:outB x.f8 0 1439<;>rw[h8]at h;rotate_left; · cases h
 cases h9:outB x.f9 0 1439<;>rw[h9]at h;rotate_left; · cases h
 have g4:x.f4≤4000:=by rw[ltI_iff]at h4;simpa using h4
 have g3:=outB_false h3
 exact⟨⟨g3.1,g3.2,g4⟩,outB_false h5,outB_false h6,excsF_ok (neI_false.1 h7),outB_false h8,outB_false h9⟩
def spanF(w:S32):Int:=bif outB w.f0 0 w.f1 then 1 else bif ltI 345686400000 w.f1 then 1 else bif ltI 34560000000 (subI .i64 w.f1 w.f0)then 2 else 0
theorem T55_eq(w:S32):T55 w=some (spanF w):=by
 unfold T55 spanF
 rw[T77_eq,Option.bind_some]
 cases outB w.f0 0 w.f1<;>cases ltI 345686400000 w.f1<;>cases ltI 34560000000 (subI .i64 w.f1 w.f0)<;>rfl
theorem T31_eq(w:S32):T31 w=some (spanF w):=by
 unfold T31 T58 spanF
 rw[T41_eq,inB,Option.bind_some]
 cases outB w.f0 0 w.f1<;>cases ltI 345686400000 w.f1<;>cases ltI 34560000000 (subI .i64 w.f1 w.f0)<;>rfl
def playF(p:S24):Int:=bif !key p.f0 then 5 else bif !key p.f1 then 5 else bif outB p.f2 (-1440) 1440 then 1 else tagsF p.f3
theorem T64_eq(p:S24)(h:ok24 1048576 p):T64 p=some (playF p):=by
 obtain⟨k0,k1,k2,k3,k3'⟩:=h
 unfold T64 playF
 simp only[T92_eq p.f0 k0,T92_eq p.f1 k1,T77_eq,Option.bind_some,T93_eq p.f3 k3 k3']
 cases key p.f0<;>cases key p.f1<;>cases outB p.f2 (-1440) 1440<;>rfl
theorem T18_eq(p:S24)(h:ok24 1048576 p):T18 p=some (playF p):=by
 obtain⟨k0,k1,k2,k3,k3'⟩:=h
 unfold T18 playF
 simp only[T40_eq p.f0 k0,T40_eq p.f1 k1,T41_eq,inB,Option.bind_some,T42_eq p.f3 k3 k3']
 cases key p.f0<;>cases key p.f1<;>cases outB p.f2 (-1440) 1440<;>rfl
theorem playF_ok{p:S24}(h:playF p=0):Rising p.f3:=by
 unfold playF at h
 cases h0:key p.f0<;>rw[h0]at h; · cases h
 cases h1:key p.f1<;>rw[h1]at h; · cases h
 cases h2:outB p.f2 (-1440) 1440<;>rw[h2]at h;rotate_left; · cases h
 exact tagsF_rising h
theorem T49_two(a b:Int):T16 [a,b]=some (bif neI a 0 then a else b):=by
 have e0:L16_2 [a,b] 0=some (bif neI a 0 then .inr (.inr a)else .inl 1):=by
  show(bif neI a 0 then _ else _)=_
  cases neI a 0<;>rfl
 have e1:L16_2 [a,b] 1=some (bif neI b 0 then .inr (.inr b)else .inl 2):=by
  show(bif neI b 0 then _ else _)=_
  cases neI b 0<;>rfl
 have e2:L16_2 [a,b] 2=some (.inr (.inl (2,false))):=rfl
 unfold T16
 cases ha:neI a 0 with
 | true=>rw[ha]at e0;rw[iter_stop e0];rfl
 | false=>
   rw[ha]at e0
   rw[iter_next e0]
   cases hb:neI b 0 with
   | true=>rw[hb]at e1;rw[iter_stop e1];rfl
   | false=>rw[hb]at e1;rw[iter_next e1,iter_stop e2,neI_false.1 hb];rfl
end Go.Abs.TUX
set_option linter.unusedVariables false
set_option linter.unusedSimpArgs false
namespace Go.Abs.TUX
open Go.RowKit
theorem T114_eq(x t:Int):T114 x t=some (ltI x t):=by
 unfold T114 T97
 rw[neI_self]
 rfl
theorem T143_eq(x:Int):T143 x=some false:=by
 unfold T143
 rw[neI_self]
theorem rise_get{l:List Int}(h:l.Pairwise (· < ·)){i j:Nat}{x y:Int}(hij:i<j)(hx:l[i]? = some x)(hy:l[j]? = some y):x<y:=by
 obtain⟨h1,rfl⟩:=List.getElem?_eq_some_iff.1 hx
 obtain⟨h2,rfl⟩:=List.getElem?_eq_some_iff.1 hy
 exact List.pairwise_iff_getElem.1 h i j h1 h2 hij
theorem T107_eq(l:List Int)(t:Int)(h:l.length≤1048576)(hr:l.Pairwise (· < ·)):∃i,T107 l t=some (i,l.any fun x=>eqI x t):=by
 have hi:∃r,iter (L107_3 l t) (((0:Nat):Int),(l.length:Int))=some r∧∃k:Nat,r.1=(k:Int)∧k≤l.length∧(∀ i x,i<k→l[i]? = some x→x<t)∧(∀ i x,k≤i→l[i]? = some x→t≤x):=by
  refine iter_meas (fun z=>∃a b:Nat,z=((a:Int),(b:Int))∧a≤b∧b≤l.length∧(∀ i x,i<a→l[i]? = some x→x<t)∧(∀ i x,b≤i→l[i]? = some x→t≤x)) (fun z=>(z.2-z.1).toNat) _ ?_ _ ⟨0,l.length,rfl,by omega,by omega,fun i x hi=>by omega,fun i x hi hx=>?_⟩
  ·rintro _ ⟨a,b,rfl,hab,hb,h1,h2⟩
   by_cases hlt:a<b
   ·left
    have h3:ltI (a:Int) (b:Int)=true:=by rw[ltI_iff];simp;omega
    have hm:(a+b) / 2<l.length:=by omega
    have hx:=List.getElem?_eq_getElem hm
    by_cases hc:l[(a+b) / 2]<t
    ·refine⟨((((a+b) / 2+1:Nat):Int),(b:Int)),?_,⟨_,b,rfl,by omega,hb,fun i x hi hxi=>?_,h2⟩,by simp only;omega⟩
     ·have h4:addI .i64 (((a+b) / 2:Nat):Int) 1=(((a+b) / 2+1:Nat):Int):=by rw[addI_eq (by omega) (by omega)];omega
      have h5:ltI l[(a+b) / 2] t=true:=by rw[ltI_iff];simpa using hc
      simp only[L107_3,h3,cond_true,half_eq (a:=a) (b:=b) (by omega),listAt_some hx,Option.bind_some,T114_eq,h5,h4]
     ·rcases Nat.lt_or_ge i ((a+b) / 2)with h5|h5
      ·exact Int.lt_trans (rise_get hr h5 hxi hx) hc
      ·have:i=(a+b) / 2:=by omega
       subst this
       rw[hx]at hxi
       cases hxi
       exact hc
    ·refine⟨((a:Int),(((a+b) / 2:Nat):Int)),?_,⟨a,_,rfl,by omega,by omega,h1,fun i x hi hxi=>?_⟩,by simp only;omega⟩
     ·have h5:ltI l[(a+b) / 2] t=false:=by rw[ltI_iff];simpa using hc
      simp only[L107_3,h3,cond_true,half_eq (a:=a) (b:=b) (by omega),listAt_some hx,Option.bind_some,T114_eq,h5,cond_false]
     ·rcases Nat.lt_or_ge ((a+b) / 2) i with h5|h5
      ·have:=rise_get hr h5 hx hxi
       omega
      ·have:i=(a+b) / 2:=by omega
       subst this
       rw[hx]at hxi
       cases hxi
       omega
   ·right
    have h3:ltI (a:Int) (b:Int)=false:=by rw[ltI_iff];simp;omega
    have:a=b:=by omega
    subst this
    refine⟨((a:Int),(a:Int),false),?_,a,rfl,hb,h1,h2⟩
    simp only[L107_3,h3,cond_false]
  ·have:=(List.getElem?_eq_some_iff.1 hx).1
   omega
 obtain⟨r,h1,k,h2,h3,h4,h5⟩:=hi
 unfold T107
 rw[show (0:Int)=((0:Nat):Int)from rfl,show lenL l=(l.length:Int)from rfl,h1,Option.bind_some,h2]
 by_cases hk:k<l.length
 ·have h6:ltI (k:Int) (l.length:Int)=true:=by rw[ltI_iff];simpa using hk
  have hx:=List.getElem?_eq_getElem hk
  rw[h6]
  simp only[cond_true,listAt_some hx,Option.bind_some,T143_eq,cond_false]
  cases he:eqI l[k] t with
  | true=>
    refine⟨k,?_⟩
    have:(l.any fun x=>eqI x t)=true:=List.any_eq_true.2 ⟨l[k],List.getElem_mem hk,he⟩
    rw[this]
    rfl
  | false=>
    refine⟨k,?_⟩
    have:(l.any fun x=>eqI x t)=false:=by
     rw[List.any_eq_false]
     intro x hxm he2
     obtain⟨i,hi⟩:=List.getElem?_of_mem hxm
     have hxt:x=t:=by rw[eqI_iff]at he2;simpa using he2
     subst hxt
     rcases Nat.lt_trichotomy i k with h7|h7|h7
     ·have:=h4 i x h7 hi;omega
     ·subst h7
      rw[hx]at hi
      cases hi
      rw[eqI_self]at he;cases he
     ·have h8:=rise_get hr h7 hx hi
      have:=h5 k _ (Nat.le_refl _) hx
      omega
    rw[this]
    rfl
 ·have h6:ltI (k:Int) (l.length:Int)=false:=by rw[ltI_iff];simp;omega
  rw[h6]
  refine⟨k,?_⟩
  have:(l.any fun x=>eqI x t)=false:=by
   rw[List.any_eq_false]
   intro x hxm he2
   obtain⟨i,hi⟩:=List.getElem?_of_mem hxm
   have hxt:x=t:=by rw[eqI_iff]at he2;simpa using he2
   subst hxt
   have hil:=(List.getElem?_eq_some_iff.1 hi).1
   have:=h4 i x (by omega) hi
   omega
  rw[this]
  rfl
theorem T119_eq(l:List Int)(t:Int)(h:l.length≤1048576):T119 l t=some (l.any fun x=>eqI x t):=by
 obtain⟨r,h1,h2⟩:=wp_any (fun x=>eqI t x) 0 l
 have hi:iter (L149_2 l t) ((0:Nat):Int)=some (Sum.elim (fun _=> .inl ((l.length:Int),false)) (fun r:Nat=> .inr (r:Int)) (wp (fun i (_:Unit) x=>bif eqI t x then(.inr i:Unit⊕Nat)else .inl ()) 0 () l)):=by
  refine iter_wp (fun _ i=>(i:Int)) _ _ l _ (fun _ _=>True) (fun i u x hx _=>⟨?_,fun _ _=>trivial⟩) (fun u _=>?_) _ trivial
  ·have hlt:i<l.length:=(List.getElem?_eq_some_iff.1 hx).1
   have h1:ltI (i:Int) (lenL l)=true:=by rw[ltI_iff,lenL_eq];simpa using hlt
   have h2:addI .i64 (i:Int) 1=((i+1:Nat):Int):=by rw[addI_eq (by omega) (by omega)];omega
   simp only[L149_2,h1,cond_true,listAt_some hx,Option.bind_some,h2]
   cases eqI t x<;>rfl
  ·have h1:ltI (l.length:Int) (lenL l)=false:=by rw[ltI_iff,lenL_eq];simp
   simp only[L149_2,h1,cond_false]
 have he:(l.any fun x=>eqI x t)=l.any fun x=>eqI t x:=by
  congr 1
  funext x
  rw[eqI_iff,eqI_iff,Bool.eq_iff_iff]
  simp only[decide_eq_true_eq]
  exact⟨Eq.symm,Eq.symm⟩
 unfold T119 T149
 rw[show (0:Int)=((0:Nat):Int)from rfl,hi,h1,he,←h2]
 cases r with
 | inl u=>rfl
 | inr k=>
   simp only[Sum.elim_inr,Option.bind_some,Sum.isRight_inr,leI_iff]
   congr 1
def bitB(m d:Int):Bool:=eqI (bitI .and .i64 (m.fdiv (2^min (d.tmod 7).toNat 64)) 1) 1
theorem bits_eq:∀a:Fin 128,∀r:Fin 7,eqI (bitI .and .i64 (a.val:Int) (IntKind.i64.wrap (1*2^min (r.val:Int).toNat 64))) 0 = !eqI (bitI .and .i64 ((a.val:Int).fdiv (2^min (r.val:Int).toNat 64)) 1) 1:=by decide +kernel
theorem bit_eq{m d:Int}(hm:1≤m∧m≤127)(hd:0≤d):eqI (bitI .and .i64 m (IntKind.i64.wrap (1*2^min (d.tmod 7).toNat 64))) 0 = !bitB m d:=by
 have h1:d.tmod 7=d % 7:=Int.tmod_eq_emod_of_nonneg hd
 have:=bits_eq ⟨m.toNat,by omega⟩ ⟨(d % 7).toNat,by omega⟩
 unfold bitB
 rw[h1]
 simp only at this
 rwa[Int.toNat_of_nonneg (by omega),Int.toNat_of_nonneg (by omega)]at this
def dayB(e:S36)(d:Int):Bool := !outB d e.f3 e.f4&&(eqI ((d-e.f3).tmod e.f5) 0&&(bitB e.f6 d && !(e.f7.any fun x=>eqI x d)))
structure Fine(e:S36):Prop where
 span:0≤e.f3∧e.f3≤e.f4∧e.f4≤4000
 step:1≤e.f5∧e.f5≤400
 mask:1≤e.f6∧e.f6≤127
 exc:(∀ d∈e.f7,0≤d∧d≤4000)∧e.f7.Pairwise (· < ·)
 len:e.f7.length≤1048576
 t8:0≤e.f8∧e.f8≤1439
 t9:0≤e.f9∧e.f9≤1439
theorem fine{e:S36}(h:ok36 1048576 e)(h0:entF e=0):Fine e:=by
 obtain⟨h1,h2,h3,h4,h5,h6⟩:=entF_ok h0
 exact⟨h1,h2,h3,h4,h.2.2.2.2.2.2.2.1.1,h5,h6⟩
theorem T85_eq{e:S36}(F:Fine e){d:Int}(hd:0≤d∧d≤4000):T85 e d=some (dayB e d):=by
 obtain⟨i,h1⟩:=T107_eq e.f7 d F.len F.exc.2
 have hs:=F.span
 have hp:=F.step
 have h2:subI .i64 d e.f3=d-e.f3:=subI_eq (by omega) (by omega)
 have h3:remO .i64 (d-e.f3) e.f5=some ((d-e.f3).tmod e.f5):=by unfold remO;rw[if_neg (by omega)]
 have h4:shlO .i64 1 (remI .i64 d 7)=some (IntKind.i64.wrap (1*2^min (d.tmod 7).toNat 64)):=by
  unfold shlO remI
  rw[Int.tmod_eq_emod_of_nonneg hd.1,if_neg (by omega)]
  rfl
 unfold T85 dayB
 rw[T77_eq,Option.bind_some,h1,h2,h3,h4]
 rw[show eqI ((d-e.f3).tmod e.f5) 0=decide ((d-e.f3).tmod e.f5=0)from eqI_iff]
 simp only[Option.bind_some,bit_eq F.mask hd.1,neI_iff]
 cases outB d e.f3 e.f4;rotate_left; · rfl
 cases decide ((d-e.f3).tmod e.f5=0); · rfl
 cases bitB e.f6 d<;>rfl
theorem T91_eq{e:S36}(F:Fine e){d:Int}(hd:0≤d∧d≤4000):T91 e d=some (dayB e d):=by
 have hs:=F.span
 have hp:=F.step
 have h2:subI .i64 d e.f3=d-e.f3:=subI_eq (by omega) (by omega)
 have h3:remO .i64 (d-e.f3) e.f5=some ((d-e.f3).tmod e.f5):=by unfold remO;rw[if_neg (by omega)]
 have h4:shrO .i64 e.f6 (remI .i64 d 7)=some (e.f6.fdiv (2^min (d.tmod 7).toNat 64)):=by
  unfold shrO remI
  rw[Int.tmod_eq_emod_of_nonneg hd.1,if_neg (by omega)]
  rfl
 unfold T91 dayB
 rw[T41_eq,inB,Option.bind_some,h2,h3,h4,T119_eq _ _ F.len]
 simp only[Option.bind_some,eqI_iff]
 cases outB d e.f3 e.f4;rotate_left; · rfl
 cases decide ((d-e.f3).tmod e.f5=0); · rfl
 unfold bitB
 rw[eqI_iff]
 cases decide (bitI .and .i64 (e.f6.fdiv (2^min (d.tmod 7).toNat 64)) 1=1)<;>rfl
def timeS(e:S36)(off d:Int):S32:=⟨d*86400000-off*60000+e.f8*60000,d*86400000-off*60000+(bif leI e.f9 e.f8 then e.f9+1440 else e.f9)*60000⟩
theorem T90_eq{e:S36}(F:Fine e){off d:Int}(ho : -1440≤off∧off≤1440)(hd:0≤d∧d≤4000):T90 e off d=some (timeS e off d):=by
 have h8:=F.t8
 have h9:=F.t9
 have h1:mulI .i64 d 86400000=d*86400000:=mulI_eq (by omega) (by omega)
 have h2:mulI .i64 off 60000=off*60000:=mulI_eq (by omega) (by omega)
 have h3:mulI .i64 e.f8 60000=e.f8*60000:=mulI_eq (by omega) (by omega)
 have h4:mulI .i64 e.f9 60000=e.f9*60000:=mulI_eq (by omega) (by omega)
 have h5:addI .i64 e.f9 1440=e.f9+1440:=addI_eq (by omega) (by omega)
 have h6:mulI .i64 (e.f9+1440) 60000=(e.f9+1440)*60000:=mulI_eq (by omega) (by omega)
 have h7:subI .i64 (d*86400000) (off*60000)=d*86400000-off*60000:=subI_eq (by omega) (by omega)
 have h10:addI .i64 (d*86400000-off*60000) (e.f8*60000)=d*86400000-off*60000+e.f8*60000:=addI_eq (by omega) (by omega)
 have h11:addI .i64 (d*86400000-off*60000) (e.f9*60000)=d*86400000-off*60000+e.f9*60000:=addI_eq (by omega) (by omega)
 have h12:addI .i64 (d*86400000-off*60000) ((e.f9+1440)*60000)=d*86400000-off*60000+(e.f9+1440)*60000:=addI_eq (by omega) (by omega)
 unfold T90 timeS
 simp only[h1,h2,h3,h4,h5,h6,h7,h10,h11,h12]
 cases leI e.f9 e.f8<;>rfl
theorem T86_eq{e:S36}(F:Fine e){off d:Int}(ho : -1440≤off∧off≤1440)(hd:0≤d∧d≤4000):T86 e off d=some (timeS e off d):=by
 have h8:=F.t8
 have h9:=F.t9
 have h1:mulI .i64 d 1440=d*1440:=mulI_eq (by omega) (by omega)
 have h2:addI .i64 (d*1440) e.f8=d*1440+e.f8:=addI_eq (by omega) (by omega)
 have h3:subI .i64 (d*1440+e.f8) off=d*1440+e.f8-off:=subI_eq (by omega) (by omega)
 have h4:mulI .i64 (d*1440+e.f8-off) 60000=(d*1440+e.f8-off)*60000:=mulI_eq (by omega) (by omega)
 have h5:subI .i64 e.f9 e.f8=e.f9-e.f8:=subI_eq (by omega) (by omega)
 have h6:addI .i64 (e.f9-e.f8) 1440=e.f9-e.f8+1440:=addI_eq (by omega) (by omega)
 have h7:mulI .i64 (e.f9-e.f8) 60000=(e.f9-e.f8)*60000:=mulI_eq (by omega) (by omega)
 have h10:mulI .i64 (e.f9-e.f8+1440) 60000=(e.f9-e.f8+1440)*60000:=mulI_eq (by omega) (by omega)
 have h11:addI .i64 ((d*1440+e.f8-off)*60000) ((e.f9-e.f8)*60000)=(d*1440+e.f8-off)*60000+(e.f9-e.f8)*60000:=addI_eq (by omega) (by omega)
 have h12:addI .i64 ((d*1440+e.f8-off)*60000) ((e.f9-e.f8+1440)*60000)=(d*1440+e.f8-off)*60000+(e.f9-e.f8+1440)*60000:=addI_eq (by omega) (by omega)
 unfold T86 timeS
 simp only[h1,h2,h3,h4,h5,h6,h7,h10,h11,h12]
 have hc:leI (e.f9-e.f8) 0=leI e.f9 e.f8:=by
  rw[leI_iff,leI_iff,Bool.eq_iff_iff]
  simp only[decide_eq_true_eq]
  omega
 rw[hc]
 have h13:(d*1440+e.f8-off)*60000=d*86400000-off*60000+e.f8*60000:=by omega
 have h14:(d*1440+e.f8-off)*60000+(e.f9-e.f8)*60000=d*86400000-off*60000+e.f9*60000:=by omega
 have h15:(d*1440+e.f8-off)*60000+(e.f9-e.f8+1440)*60000=d*86400000-off*60000+(e.f9+1440)*60000:=by omega
 rw[h14,h15,h13]
 cases leI e.f9 e.f8<;>rfl
theorem timeS_span{e:S36}(F:Fine e)(off d:Int):(timeS e off d).f0<(timeS e off d).f1∧d*86400000-off*60000≤(timeS e off d).f0∧(timeS e off d).f1≤d*86400000-off*60000+172740000:=by
 have h8:=F.t8
 have h9:=F.t9
 unfold timeS
 cases h:leI e.f9 e.f8 with
 | true=>
   rw[leI_iff]at h
   simp only[decide_eq_true_eq]at h
   simp only[cond_true]
   omega
 | false=>
   rw[leI_iff]at h
   simp only[decide_eq_false_iff_not]at h
   simp only[cond_false]
   omega
def coll{α:Type}(g:Int→Option α):Int→Nat→List α
 | _,0=>[]
 | a,n+1=>(g a).toList++coll g (a+1) n
theorem iter_days{α:Type}{st:List α×Int→Option ((List α×Int)⊕(Int×Bool×List α))}(g:Int→Option α)(lo b:Int)
  (hstep:∀s d,lo≤d→d≤b→s.length≤4001→st (s,d)=some (.inl (s++(g d).toList,d+1))) (hend:∀s d,b<d→∃x y,st (s,d)=some (.inr (x,y,s))) :
  ∀(n:Nat)(a:Int)(s:List α),lo≤a→(b+1-a).toNat=n→s.length+n≤4001→∃x y,iter st (s,a)=some (x,y,s++coll g a n):=by
 intro n
 induction n with
 | zero=>
   intro a s ha hn hl
   obtain⟨x,y,h⟩:=hend s a (by omega)
   exact⟨x,y,by rw[iter_stop h,coll,List.append_nil]⟩
 | succ n ih=>
   intro a s ha hn hl
   have h1:=hstep s a ha (by omega) (by omega)
   have hg:(g a).toList.length≤1:=by cases g a<;>simp
   obtain⟨x,y,h⟩:=ih (a+1) (s++(g a).toList) (by omega) (by omega) (by rw[List.length_append];omega)
   exact⟨x,y,by rw[iter_next h1,h,coll,List.append_assoc]⟩
theorem coll_none{α:Type}(g:Int→Option α):∀(n:Nat)(a:Int),(∀ d,a≤d→d<a+n→g d=none)→coll g a n=[]
 | 0,_,_=>rfl
 | n+1,a,h=>by
   rw[coll,h a (by omega) (by omega),coll_none g n (a+1) fun d h1 h2=>h d (by omega) (by omega)]
   rfl
theorem coll_split{α:Type}(g:Int→Option α):∀(n m:Nat)(a:Int),coll g a (n+m)=coll g a n++coll g (a+n) m
 | 0,m,a=>by simp[coll]
 | n+1,m,a=>by
   rw[show n+1+m=(n+m)+1 by omega,coll,coll_split g n m (a+1),coll,List.append_assoc]
   congr 3
   omega
theorem coll_map{α β:Type}(g:Int→Option α)(c:α→β):∀(n:Nat)(a:Int),(coll g a n).map c=coll (fun d=>(g d).map c) a n
 | 0,_=>rfl
 | n+1,a=>by
   rw[coll,List.map_append,coll_map g c n (a+1),coll]
   congr 1
   cases g a<;>rfl
theorem coll_congr{α:Type}{g g':Int→Option α}:∀(n:Nat)(a:Int),(∀ d,a≤d→d<a+n→g d=g' d)→coll g a n=coll g' a n
 | 0,_,_=>rfl
 | n+1,a,h=>by rw[coll,coll,h a (by omega) (by omega),coll_congr n (a+1) fun d h1 h2=>h d (by omega) (by omega)]
theorem coll_len{α:Type}(g:Int→Option α):∀(n:Nat)(a:Int),(coll g a n).length≤n
 | 0,_=>Nat.le_refl 0
 | n+1,a=>by
   have:=coll_len g n (a+1)
   have hg:(g a).toList.length≤1:=by cases g a<;>simp
   rw[coll,List.length_append]
   omega
theorem coll_sub{α:Type}(g:Int→Option α){a b lo hi:Int}(h1:a≤lo)(h2:hi≤b)(hn:∀d,a≤d→d≤b→(d<lo∨hi<d)→g d=none):coll g a (b+1-a).toNat=coll g lo (hi+1-lo).toNat:=by
 by_cases h:hi<lo
 ·rw[show (hi+1-lo).toNat=0 by omega,coll,coll_none]
  exact fun d h3 h4=>hn d h3 (by omega) (by omega)
 ·rw[show (b+1-a).toNat=(lo-a).toNat+((hi+1-lo).toNat+(b-hi).toNat) by omega,coll_split,coll_split,coll_none g (lo-a).toNat a (fun d h3 h4=>hn d h3 (by omega) (by omega)),
   coll_none g (b-hi).toNat _ (fun d h3 h4=>hn d (by omega) (by omega) (by omega)),List.nil_append,List.append_nil,show a+((lo-a).toNat:Int)=lo by omega]
end Go.Abs.TUX
set_option linter.unusedVariables false
set_option linter.unusedSimpArgs false
namespace Go.Abs.TUX
open Go.RowKit
def cutW(w t:S32):S32:=⟨max t.f0 w.f0,min t.f1 w.f1⟩
def hit(w t:S32):Bool:=ltI (max t.f0 w.f0) (min t.f1 w.f1)
def dayG(e:S36)(off:Int)(w:S32)(d:Int):Option S32:=bif !e.f12&&(dayB e d&&hit w (timeS e off d))then some (cutW w (timeS e off d))else none
def timesL(e:S36)(off:Int)(w:S32):List S32:=coll (dayG e off w) e.f3 (e.f4+1-e.f3).toNat
structure FineW(w:S32):Prop where
 pos:0≤w.f0
 ord:w.f0≤w.f1
 top:w.f1≤345686400000
theorem spanF_ok{w:S32}(h:spanF w=0):FineW w:=by
 unfold spanF at h
 cases h0:outB w.f0 0 w.f1<;>rw[h0]at h;rotate_left; · cases h
 cases h1:ltI 345686400000 w.f1<;>rw[h1]at h;rotate_left; · cases h
 have:=outB_false h0
 rw[ltI_iff]at h1
 simp only[decide_eq_false_iff_not]at h1
 exact⟨this.1,this.2,by omega⟩
theorem T63_eq{e:S36}(F:Fine e){off:Int}(ho : -1440≤off∧off≤1440)(w:S32):T63 e off w=some (timesL e off w):=by
 have hs:=F.span
 have hst:∀(s:List S32)(d:Int),e.f3≤d→d≤e.f4→s.length≤4001→L63_3 e off w (s,d)=some (.inl (s++(dayG e off w d).toList,d+1)):=fun s d h1 h2 hl=>by
  have h3:leI d e.f4=true:=by rw[leI_iff];simpa using h2
  have h4:addI .i64 d 1=d+1:=addI_eq (by omega) (by omega)
  have h5:∀x:S32,appO 16 s [x]=some (s++[x]):=fun x=>appO_eq (by simp;omega) (by simp;omega)
  simp only[L63_3,h3,cond_true,T90_eq F ho (d:=d) ⟨by omega,by omega⟩,T91_eq F (d:=d) ⟨by omega,by omega⟩,Option.bind_some,maxI_eq,minI_eq,h4,h5,dayG,hit,cutW]
  cases e.f12;rotate_left; · simp
  cases dayB e d; · simp
  cases ltI (max (timeS e off d).f0 w.f0) (min (timeS e off d).f1 w.f1)<;>simp
 have hen:∀(s:List S32)(d:Int),e.f4<d→∃x y,L63_3 e off w (s,d)=some (.inr (x,y,s)):=fun s d h1=>by
  have h3:leI d e.f4=false:=by rw[leI_iff];simp only[decide_eq_false_iff_not];omega
  exact⟨d,false,by simp only[L63_3,h3,cond_false]⟩
 obtain⟨x,y,h⟩:=iter_days (dayG e off w) e.f3 e.f4 hst hen _ e.f3 [] (Int.le_refl _) rfl (by simp only[List.length_nil];omega)
 unfold T63
 rw[h]
 rfl
theorem quo_spec(x:Int)(h : -1000000000000≤x∧x≤1000000000000):∃q:Int,quoI .i64 x 86400000=q∧(q-1)*86400000≤x∧x<(q+1)*86400000 ∧ -100000≤q∧q≤100000:=by
 have key:∃q:Int,x.tdiv 86400000=q∧(q-1)*86400000≤x∧x<(q+1)*86400000 ∧ -100000≤q∧q≤100000:=by
  rcases Int.le_total 0 x with h1|h1
  ·refine⟨x / 86400000,Int.tdiv_eq_ediv_of_nonneg h1,?_⟩
   omega
  ·refine⟨-((-x) / 86400000),?_,?_⟩
   ·rw[← Int.tdiv_eq_ediv_of_nonneg (by omega:0 ≤ -x),Int.neg_tdiv,Int.neg_neg]
   ·omega
 obtain⟨q,h1,h2⟩:=key
 refine⟨q,?_,h2⟩
 unfold quoI
 rw[h1]
 exact IntWalk.i64_in _ ⟨by omega,by omega⟩
def rawG(e:S36)(off:Int)(w:S32)(d:Int):Option S32:=bif dayB e d&&(ltI (timeS e off d).f0 w.f1&&ltI w.f0 (timeS e off d).f1)then some (timeS e off d)else none
theorem hit_eq{e:S36}(F:Fine e){w:S32}(hw:w.f0<w.f1)(off d:Int):hit w (timeS e off d)=(ltI (timeS e off d).f0 w.f1&&ltI w.f0 (timeS e off d).f1):=by
 have h:=(timeS_span F off d).1
 unfold hit
 rw[ltI_iff,ltI_iff,ltI_iff,Bool.eq_iff_iff]
 simp only[Bool.and_eq_true,decide_eq_true_eq]
 omega
theorem T56_eq{e:S36}(F:Fine e){off:Int}(ho : -1440≤off∧off≤1440){w:S32}(W:FineW w):∃l,T56 e off w=some l∧l.length≤4001∧l.map (cutW w)=timesL e off w:=by
 have hs:=F.span
 have hw0:=W.pos
 have hw1:=W.ord
 have hw2:=W.top
 unfold T56
 cases hp:e.f12 with
 | true=>
   refine⟨[],rfl,Nat.zero_le _,?_⟩
   unfold timesL
   rw[coll_none]
   ·rfl
   ·intro d _ _
    unfold dayG
    rw[hp]
    rfl
 | false=>
   rw[cond_false]
   cases hle:leI w.f1 w.f0 with
   | true=>
     refine⟨[],rfl,Nat.zero_le _,?_⟩
     unfold timesL
     rw[coll_none]
     ·rfl
     ·intro d _ _
      have:hit w (timeS e off d)=false:=by
       rw[leI_iff]at hle
       simp only[decide_eq_true_eq]at hle
       unfold hit
       rw[ltI_iff]
       simp only[decide_eq_false_iff_not]
       omega
      unfold dayG
      rw[this,Bool.and_false,Bool.and_false]
      rfl
   | false=>
     have hlt:w.f0<w.f1:=by
      rw[leI_iff]at hle
      simp only[decide_eq_false_iff_not]at hle
      omega
     rw[cond_false]
     have hm:mulI .i64 off 60000=off*60000:=mulI_eq (by omega) (by omega)
     have ha0:addI .i64 w.f0 (off*60000)=w.f0+off*60000:=addI_eq (by omega) (by omega)
     have ha1:addI .i64 w.f1 (off*60000)=w.f1+off*60000:=addI_eq (by omega) (by omega)
     obtain⟨q0,hq0,b0,c0,d0,e0⟩:=quo_spec (w.f0+off*60000) ⟨by omega,by omega⟩
     obtain⟨q1,hq1,b1,c1,d1,e1⟩:=quo_spec (w.f1+off*60000) ⟨by omega,by omega⟩
     have hs0:subI .i64 q0 2=q0-2:=subI_eq (by omega) (by omega)
     have hs1:addI .i64 q1 1=q1+1:=addI_eq (by omega) (by omega)
     rw[hm,ha0,hq0,hs0,maxI_eq]
     have hst:∀(s:List S32)(d:Int),max (q0-2) e.f3≤d→d≤min (q1+1) e.f4→s.length≤4001→L56_7 e off w (s,d)=some (.inl (s++(rawG e off w d).toList,d+1)):=fun s d h1 h2 hl=>by
      have h3:leI d (minI (addI .i64 (quoI .i64 (addI .i64 w.f1 (mulI .i64 off 60000)) 86400000) 1) e.f4)=true:=by
       rw[hm,ha1,hq1,hs1,minI_eq,leI_iff];simpa using h2
      have h4:addI .i64 d 1=d+1:=addI_eq (by omega) (by omega)
      have h5:∀x:S32,appO 16 s [x]=some (s++[x]):=fun x=>appO_eq (by simp;omega) (by simp;omega)
      simp only[L56_7,h3,cond_true,T86_eq F ho (d:=d) ⟨by omega,by omega⟩,T85_eq F (d:=d) ⟨by omega,by omega⟩,Option.bind_some,h4,h5,rawG]
      cases dayB e d; · simp
      cases ltI (timeS e off d).f0 w.f1; · simp
      cases ltI w.f0 (timeS e off d).f1<;>simp
     have hen:∀(s:List S32)(d:Int),min (q1+1) e.f4<d→∃x y,L56_7 e off w (s,d)=some (.inr (x,y,s)):=fun s d h1=>by
      have h3:leI d (minI (addI .i64 (quoI .i64 (addI .i64 w.f1 (mulI .i64 off 60000)) 86400000) 1) e.f4)=false:=by
       rw[hm,ha1,hq1,hs1,minI_eq,leI_iff];simp only[decide_eq_false_iff_not];omega
      exact⟨d,false,by simp only[L56_7,h3,cond_false]⟩
     obtain⟨x,y,h⟩:=iter_days (rawG e off w) (max (q0-2) e.f3) (min (q1+1) e.f4) hst hen _ (max (q0-2) e.f3) [] (Int.le_refl _) rfl (by simp only[List.length_nil];omega)
     refine⟨coll (rawG e off w) (max (q0-2) e.f3) (min (q1+1) e.f4+1-max (q0-2) e.f3).toNat,?_,?_,?_⟩
     ·rw[h];rfl
     ·refine Nat.le_trans (coll_len _ _ _) ?_
      omega
     ·rw[coll_map]
      unfold timesL
      rw[coll_sub (dayG e off w) (a:=e.f3) (b:=e.f4) (lo:=max (q0-2) e.f3) (hi:=min (q1+1) e.f4) (by omega) (by omega) fun d h1 h2 h3=>?_]
      ·refine coll_congr _ _ fun d h1 h2=>?_
       unfold rawG dayG
       rw[hp,hit_eq F hlt]
       cases (dayB e d&&(ltI (timeS e off d).f0 w.f1&&ltI w.f0 (timeS e off d).f1))<;>rfl
      ·have ht:=timeS_span F off d
       have hz:hit w (timeS e off d)=false:=by
        rw[hit_eq F hlt,ltI_iff,ltI_iff]
        simp only[Bool.and_eq_false_iff,decide_eq_false_iff_not]
        rcases h3 with h3|h3
        ·right
         omega
        ·left
         omega
       unfold dayG
       rw[hz,Bool.and_false,Bool.and_false]
       rfl
theorem idxO_nat{n i:Nat}(h:i<n):idxO n (i:Int)=some i:=by
 unfold idxO
 rw[if_pos (by omega),Int.toNat_natCast,if_pos h]
theorem cut_loop(w:S32)(l:List S32)(h:l.length≤4001):iter (L45_11 w l) (l,0)=some ((l.length:Int),false,l.map (cutW w)):=by
 have hi:iter (L45_11 w l) ((l.take 0).map (cutW w)++l.drop 0,((0:Nat):Int))=some (Sum.elim (fun _:Unit=>((l.length:Int),false,l.map (cutW w))) (fun r:Empty=>nomatch r) (wp (fun _ (_:Unit) (_:S32)=>(.inl ():Unit⊕Empty)) 0 () l)):=by
  refine iter_wp (fun _ i=>((l.take i).map (cutW w)++l.drop i,(i:Int))) _ _ l _ (fun _ _=>True) (fun i u x hx _=>⟨?_,fun _ _=>trivial⟩) (fun u _=>?_) _ trivial
  ·have hlt:i<l.length:=(List.getElem?_eq_some_iff.1 hx).1
   have h1:ltI (i:Int) (lenL l)=true:=by rw[ltI_iff,lenL_eq];simpa using hlt
   have h2:addI .i64 (i:Int) 1=((i+1:Nat):Int):=by rw[addI_eq (by omega) (by omega)];omega
   have h3:((l.take i).map (cutW w)++l.drop i).length=l.length:=by simp;omega
   have h4:getN ((l.take i).map (cutW w)++l.drop i) i=some x:=by
    unfold getN
    rw[List.getElem?_append_right (by rw[List.length_map,List.length_take];omega)]
    simp only[List.length_map,List.length_take,List.getElem?_drop]
    rw[show i+(i-min i l.length)=i by omega,hx]
   have h5:((l.take i).map (cutW w)++l.drop i).set i (cutW w x)=(l.take (i+1)).map (cutW w)++l.drop (i+1):=by
    obtain⟨_,rfl⟩:=List.getElem?_eq_some_iff.1 hx
    rw[List.set_append_right _ _ (by rw[List.length_map,List.length_take];omega)]
    simp only[List.length_map,List.length_take]
    rw[show i-min i l.length=0 by omega,List.drop_eq_getElem_cons hlt,List.set_cons_zero,List.take_succ_eq_append_getElem hlt,List.map_append,List.append_assoc]
    rfl
   have h6:T54 x w=some (cutW w x):=by unfold T54 cutW;rw[maxI_eq,minI_eq]
   simp only[L45_11,h1,cond_true,h3,idxO_nat hlt,Option.bind_some,h4,h6,h5,h2]
  ·have h1:ltI (l.length:Int) (lenL l)=false:=by rw[ltI_iff,lenL_eq];simp
   simp only[L45_11,h1,cond_false,List.take_length,List.drop_length,List.append_nil]
 have hw:∀(m:List S32)(i:Nat),wp (fun _ (_:Unit) (_:S32)=>(.inl ():Unit⊕Empty)) i () m= .inl ():=by
  intro m
  induction m with
  | nil=>intro i;rfl
  | cons a m ih=>intro i;exact ih (i+1)
 rw[hw]at hi
 simpa using hi
theorem T45_eq(e:S36)(h:ok36 1048576 e)(off:Int)(w:S32):T45 e off w=some (bif neI (entF e) 0 then([],entF e)else bif outB off (-1440) 1440 then([],1)else bif neI (spanF w) 0 then([],spanF w)else(timesL e off w,0)):=by
 unfold T45
 rw[T156_one e h,Option.bind_some,T77_eq,Option.bind_some,T55_eq,Option.bind_some]
 cases h1:neI (entF e) 0;rotate_left; · rfl
 cases h2:outB off (-1440) 1440;rotate_left; · rfl
 cases h3:neI (spanF w) 0;rotate_left; · rfl
 obtain⟨l,h4,h5,h6⟩:=T56_eq (fine h (neI_false.1 h1)) (outB_false h2) (spanF_ok (neI_false.1 h3))
 simp only[cond_false,h4,Option.bind_some,cut_loop w l h5,h6]
end Go.Abs.TUX
set_option linter.unusedVariables false
set_option linter.unusedSimpArgs false
namespace Go.Abs.TUX
open Go.RowKit
def fitsB(e:S36)(p:S24):Bool:=e.f11.all fun t=>p.f3.any fun x=>eqS x t
theorem T94_eq(e:S36)(p:S24)(h:e.f11.length≤1048576)(h':p.f3.length≤1048576)(hr:Rising p.f3):T94 e p=some (fitsB e p):=by
 have hi:iter (L94_2 e p) ((0:Nat):Int)=some (Sum.elim (fun _=> .inl ((e.f11.length:Int),false)) (fun r=> .inr r) (wp (fun _ (_:Unit) t=>bif p.f3.any (fun x=>eqS x t)then(.inl ():Unit⊕Unit)else .inr ()) 0 () e.f11)):=by
  refine iter_wp (fun _ i=>(i:Int)) _ _ e.f11 _ (fun _ _=>True) (fun i u x hx _=>⟨?_,fun _ _=>trivial⟩) (fun u _=>?_) _ trivial
  ·have hlt:i<e.f11.length:=(List.getElem?_eq_some_iff.1 hx).1
   have h1:ltI (i:Int) (lenL e.f11)=true:=by rw[ltI_iff,lenL_eq];simpa using hlt
   have h2:addI .i64 (i:Int) 1=((i+1:Nat):Int):=by rw[addI_eq (by omega) (by omega)];omega
   obtain⟨k,h3⟩:=T121_eq p.f3 x h' hr
   simp only[L94_2,h1,cond_true,listAt_some hx,Option.bind_some,h2,h3]
   cases (p.f3.any fun y=>eqS y x)<;>rfl
  ·have h1:ltI (e.f11.length:Int) (lenL e.f11)=false:=by rw[ltI_iff,lenL_eq];simp
   simp only[L94_2,h1,cond_false]
 unfold T94 fitsB
 rw[show (0:Int)=((0:Nat):Int)from rfl,hi,wp_all',elim_cond]
 cases (e.f11.all fun t=>p.f3.any fun x=>eqS x t)<;>rfl
theorem T79_eq(e:S36)(p:S24)(h:e.f11.length≤1048576)(h':p.f3.length≤1048576):T79 e p=some (fitsB e p):=by
 obtain⟨r,h1,h2⟩:=wp_any (fun t => !p.f3.any fun x=>eqS x t) 0 e.f11
 have hi:iter (L131_2 e.f11 p.f0 p.f1 p.f2 p.f3) ((0:Nat):Int)=some (Sum.elim (fun _=> .inl ((e.f11.length:Int),false)) (fun r:Nat=> .inr (r:Int)) (wp (fun i (_:Unit) t=>bif !p.f3.any (fun x=>eqS x t)then(.inr i:Unit⊕Nat)else .inl ()) 0 () e.f11)):=by
  refine iter_wp (fun _ i=>(i:Int)) _ _ e.f11 _ (fun _ _=>True) (fun i u x hx _=>⟨?_,fun _ _=>trivial⟩) (fun u _=>?_) _ trivial
  ·have hlt:i<e.f11.length:=(List.getElem?_eq_some_iff.1 hx).1
   have h1:ltI (i:Int) (lenL e.f11)=true:=by rw[ltI_iff,lenL_eq];simpa using hlt
   have h2:addI .i64 (i:Int) 1=((i+1:Nat):Int):=by rw[addI_eq (by omega) (by omega)];omega
   simp only[L131_2,T102,T103_eq p.f3 x h',h1,cond_true,listAt_some hx,Option.bind_some,h2]
   cases p.f3.any (fun y=>eqS y x)<;>rfl
  ·have h1:ltI (e.f11.length:Int) (lenL e.f11)=false:=by rw[ltI_iff,lenL_eq];simp
   simp only[L131_2,h1,cond_false]
 have he:fitsB e p = !r.isRight:=by
  rw[h2,fitsB,List.any_eq_not_all_not]
  simp
 unfold T79 T101 T131
 rw[show (0:Int)=((0:Nat):Int)from rfl,hi,h1,he]
 cases r with
 | inl u=>rfl
 | inr k=>
   have:leI 0 (k:Int)=true:=by rw[leI_iff];simp
   simp only[Sum.elim_inr,Option.bind_some,Sum.isRight_inr]
   rw[show leI ((0:Nat):Int) (k:Int)=true from this]
theorem T6_eq(l:List S24)(h:l.length≤1048576)(hs:∀x∈l,ok24 1048576 x):T6 l=some l:=by
 have hi:iter (L6_3 l) ([],((0:Nat):Int))=some (Sum.elim (fun s=>((l.length:Int),false,s)) (fun r:Empty=>nomatch r) (wp (fun _ (s:List S24) x=>(.inl (s++[x]):List S24⊕Empty)) 0 [] l)):=by
  refine iter_wp (fun s i=>(s,(i:Int))) _ _ l _ (fun i s=>s.length=i) (fun i u x hx hI=>⟨?_,fun s' hs'=>?_⟩) (fun u _=>?_) _ rfl
  ·have hlt:i<l.length:=(List.getElem?_eq_some_iff.1 hx).1
   have h1:ltI (i:Int) (lenL l)=true:=by rw[ltI_iff,lenL_eq];simpa using hlt
   have h2:addI .i64 (i:Int) 1=((i+1:Nat):Int):=by rw[addI_eq (by omega) (by omega)];omega
   obtain⟨k1,k2,k3,k4,k5⟩:=hs x (List.mem_of_getElem? hx)
   have h3:appO 16 ([]:List ByteArray) x.f3=some x.f3:=appO_eq (by simp;omega) (by simp;omega)
   have h4:appO 64 u [S24.mk x.f0 x.f1 x.f2 x.f3]=some (u++[x]):=appO_eq (by simp;omega) (by simp;omega)
   simp only[L6_3,h1,cond_true,listAt_some hx,Option.bind_some,h3,h4,h2]
  ·cases hs';simp[hI]
  ·have h1:ltI (l.length:Int) (lenL l)=false:=by rw[ltI_iff,lenL_eq];simp
   simp only[L6_3,h1,cond_false]
 unfold T6
 rw[show (0:Int)=((0:Nat):Int)from rfl,hi,wp_copy]
 rfl
theorem T5_eq(l:List S36)(h:l.length≤1048576)(hs:∀x∈l,ok36 1048576 x):T5 l=some l:=by
 have hi:iter (L5_3 l) ([],((0:Nat):Int))=some (Sum.elim (fun s=>((l.length:Int),false,s)) (fun r:Empty=>nomatch r) (wp (fun _ (s:List S36) x=>(.inl (s++[x]):List S36⊕Empty)) 0 [] l)):=by
  refine iter_wp (fun s i=>(s,(i:Int))) _ _ l _ (fun i s=>s.length=i) (fun i u x hx hI=>⟨?_,fun s' hs'=>?_⟩) (fun u _=>?_) _ rfl
  ·have hlt:i<l.length:=(List.getElem?_eq_some_iff.1 hx).1
   have h1:ltI (i:Int) (lenL l)=true:=by rw[ltI_iff,lenL_eq];simpa using hlt
   have h2:addI .i64 (i:Int) 1=((i+1:Nat):Int):=by rw[addI_eq (by omega) (by omega)];omega
   obtain⟨k0,k1,k2,k3,k4,k5,k6,⟨k7,k7'⟩,k8,k9,k10,⟨k11,k11'⟩,k12⟩:=hs x (List.mem_of_getElem? hx)
   have h3:appO 8 ([]:List Int) x.f7=some x.f7:=appO_eq (by simp;omega) (by simp;omega)
   have h3':appO 16 ([]:List ByteArray) x.f11=some x.f11:=appO_eq (by simp;omega) (by simp;omega)
   have h4:appO 152 u [S36.mk x.f0 x.f1 x.f2 x.f3 x.f4 x.f5 x.f6 x.f7 x.f8 x.f9 x.f10 x.f11 x.f12]=some (u++[x]):=appO_eq (by simp;omega) (by simp;omega)
   simp only[L5_3,h1,cond_true,listAt_some hx,Option.bind_some,h3,h3',h4,h2]
  ·cases hs';simp[hI]
  ·have h1:ltI (l.length:Int) (lenL l)=false:=by rw[ltI_iff,lenL_eq];simp
   simp only[L5_3,h1,cond_false]
 unfold T5
 rw[show (0:Int)=((0:Nat):Int)from rfl,hi,wp_copy]
 rfl
theorem same_iter{α:Type}(st:Int→Option (Int⊕((Int×Bool)⊕Unit)))(l:List α)(h:l.length≤1048576)
  (hs:∀(i:Nat)(x:α),l[i]? = some x→ltI (i:Int) (lenL l)=true→addI .i64 (i:Int) 1=((i+1:Nat):Int)→st (i:Int)=some (.inl ((i+1:Nat):Int)))
  (he:ltI (l.length:Int) (lenL l)=false→st (l.length:Int)=some (.inr (.inl ((l.length:Int),false)))):iter st 0=some (.inl ((l.length:Int),false)):=by
 have hi:iter st ((0:Nat):Int)=some (Sum.elim (fun _=> .inl ((l.length:Int),false)) (fun r=> .inr r) (wp (fun _ (_:Unit) (_:α)=>(.inl ():Unit⊕Unit)) 0 () l)):=by
  refine iter_wp (fun _ i=>(i:Int)) _ _ l _ (fun _ _=>True) (fun i u x hx _=>⟨?_,fun _ _=>trivial⟩) (fun u _=>?_) _ trivial
  ·have hlt:i<l.length:=(List.getElem?_eq_some_iff.1 hx).1
   exact hs i x hx (by rw[ltI_iff,lenL_eq];simpa using hlt) (by rw[addI_eq (by omega) (by omega)];omega)
  ·exact he (by rw[ltI_iff,lenL_eq];simp)
 rw[show (0:Int)=((0:Nat):Int)from rfl,hi,wp_true]
 rfl
theorem lenL_self{α:Type}(l:List α):neI (lenL l) (lenL l)=false:=neI_self _
theorem T112_self(l:List Int)(h:l.length≤1048576):T50 l l=some true:=by
 have hi:=same_iter (L50_4 l l) l h (fun i x hx h1 h2=>by simp only[L50_4,h1,cond_true,listAt_some hx,Option.bind_some,h2,neI_self,cond_false]) (fun h1=>by simp only[L50_4,h1,cond_false])
 unfold T50
 rw[hi,lenL_self]
 rfl
theorem T82_self(x:S24)(h:x.f3.length≤1048576):T28 x x=some true:=by
 unfold T28
 simp only[eqS_self,eqI_self,cond_true,T69_self x.f3 h,Option.bind_some]
theorem beq_self_b(b:Bool):(b == b)=true:=by cases b<;>rfl
theorem T84_self(x:S36)(h:ok36 1048576 x):T26 x x=some true:=by
 obtain⟨k0,k1,k2,k3,k4,k5,k6,⟨k7,k7'⟩,k8,k9,k10,⟨k11,k11'⟩,k12⟩:=h
 unfold T26
 simp only[eqS_self,eqI_self,beq_self_b,cond_true,T69_self x.f11 k11,T112_self x.f7 k7,Option.bind_some]
theorem T23_self(l:List S24)(h:l.length≤1048576)(hs:∀x∈l,ok24 1048576 x):T9 l l=some true:=by
 have hi:=same_iter (L27_4 l l) l h (fun i x hx h1 h2=>by simp only[L27_4,h1,cond_true,listAt_some hx,Option.bind_some,h2,T82_self x (hs x (List.mem_of_getElem? hx)).2.2.2.1,Bool.not_true,cond_false]) (fun h1=>by simp only[L27_4,h1,cond_false])
 unfold T9 T27
 rw[hi,lenL_self]
 rfl
theorem T24_self(l:List S36)(h:l.length≤1048576)(hs:∀x∈l,ok36 1048576 x):T8 l l=some true:=by
 have hi:=same_iter (L25_4 l l) l h (fun i x hx h1 h2=>by simp only[L25_4,h1,cond_true,listAt_some hx,Option.bind_some,h2,T84_self x (hs x (List.mem_of_getElem? hx)),Bool.not_true,cond_false]) (fun h1=>by simp only[L25_4,h1,cond_false])
 unfold T8 T25
 rw[hi,lenL_self]
 rfl
def e0:S36:=S36.mk (ByteArray.mk #[97]) (ByteArray.mk #[98]) 0 0 0 1 127 [] 1 2 0 [] false
def w0:S32:=S32.mk 0 86400000
theorem e0_ok:ok36 1048576 e0:=by
 refine⟨by decide,by decide,?_,?_,?_,?_,?_,⟨by decide,by simp[e0]⟩,?_,?_,?_,⟨by decide,by simp[e0]⟩,trivial⟩<;>exact⟨by decide,by decide⟩
theorem times_0:T45 e0 0 w0=some ([S32.mk 60000 120000],0):=by
 rw[T45_eq e0 e0_ok]
 have h1:entF e0=0:=by decide +kernel
 have h2:outB 0 (-1440) 1440=false:=by decide
 have h3:spanF w0=0:=by decide +kernel
 have h4:(timesL e0 0 w0).map (fun t=>(t.f0,t.f1))=[(60000,120000)]:=by decide +kernel
 have h5:timesL e0 0 w0=[S32.mk 60000 120000]:=by
  generalize timesL e0 0 w0=l at h4
  match l with
  | []=>cases h4
  | [⟨a,b⟩]=>simp only[List.map_cons,List.map_nil,List.cons.injEq,Prod.mk.injEq,and_true]at h4;rw[h4.1,h4.2]
  | _::_::_=>simp at h4
 rw[h1,h2,h3,h5]
 rfl
theorem T20_eq:T20=some true:=by
 have h:=times_0
 unfold e0 w0 at h
 unfold T20
 rw[h]
 rfl
end Go.Abs.TUX
set_option linter.unusedVariables false
set_option linter.unusedSimpArgs false
set_option maxRecDepth 10000
namespace Go.Abs.TUX
open Go.RowKit
def entsS(_:Nat)(last:ByteArray)(x:S36):ByteArray⊕Int:=bif neI (entF x) 0 then .inr (entF x)else bif leS x.f0 last then .inr 7 else .inl x.f0
def entsF(l:List S36):Int:=bif ltI 200 (lenL l)then 2 else Sum.elim (fun _=>0) id (wp entsS 0 (ByteArray.mk #[]) l)
theorem T51_eq(l:List S36)(h:l.length≤1048576)(hs:∀x∈l,ok36 1048576 x):T51 l=some (entsF l):=by
 have hi:iter (L51_4 l) ((0:Nat):Int)=some (Sum.elim (fun _=> .inl ((l.length:Int),false)) (fun r=> .inr r) (wp entsS 0 (ByteArray.mk #[]) l)):=by
  refine iter_wp (fun _ i=>(i:Int)) _ _ l entsS (Prev l (·.f0)) (fun i u x hx hI=>?_) (fun u _=>?_) _ (.inl ⟨rfl,rfl⟩)
  ·have hlt:i<l.length:=(List.getElem?_eq_some_iff.1 hx).1
   have h1:ltI (i:Int) (lenL l)=true:=by rw[ltI_iff,lenL_eq];simpa using hlt
   have h2:addI .i64 (i:Int) 1=((i+1:Nat):Int):=by rw[addI_eq (by omega) (by omega)];omega
   have h3:=T84_eq x (hs x (List.mem_of_getElem? hx))
   refine⟨?_,fun s' hf=>?_⟩
   ·simp only[L51_4,h1,cond_true,listAt_some hx,Option.bind_some,h3,h2,entsS]
    cases hk:neI (entF x) 0 with
    | true=>rfl
    | false=>
      simp only[cond_false]
      rcases hI with⟨rfl,rfl⟩|⟨y,hi0,hy,hu⟩
      ·have h4:ltI 0 ((0:Nat):Int)=false:=rfl
       rw[h4,leS_empty (key_pos (entF_key (neI_false.1 hk)))]
       rfl
      ·have h4:ltI 0 (i:Int)=true:=by rw[ltI_iff];simp;omega
       have h5:subI .i64 (i:Int) 1=((i-1:Nat):Int):=by rw[subI_eq (by omega) (by omega)];omega
       rw[h4,h5,listAt_some hy,hu]
       simp only[cond_true,Option.bind_some,leS]
       cases (ltS x.f0 y.f0||eqS x.f0 y.f0)<;>rfl
   ·refine .inr ⟨x,by omega,by simpa using hx,?_⟩
    unfold entsS at hf
    cases hk:neI (entF x) 0<;>rw[hk]at hf
    ·simp only[cond_false]at hf
     cases hl:leS x.f0 u<;>rw[hl]at hf
     ·exact(Sum.inl.inj hf).symm
     ·cases hf
    ·cases hf
  ·have h1:ltI (l.length:Int) (lenL l)=false:=by rw[ltI_iff,lenL_eq];simp
   simp only[L51_4,h1,cond_false]
 unfold T51 entsF
 rw[show (0:Int)=((0:Nat):Int)from rfl,hi,Option.bind_some]
 cases ltI 200 (lenL l);rotate_left; · rfl
 cases wp entsS 0 (ByteArray.mk #[]) l<;>rfl
theorem T17_eq(l:List S36)(h:l.length≤1048576)(hs:∀x∈l,ok36 1048576 x):T17 l=some (entsF l):=by
 have hi:iter (L17_5 l) (ByteArray.mk #[],((0:Nat):Int))=some (Sum.elim (fun s=> .inl (s,(l.length:Int),false)) (fun r=> .inr r) (wp entsS 0 (ByteArray.mk #[]) l)):=by
  refine iter_wp (fun s i=>(s,(i:Int))) _ _ l entsS (fun _ _=>True) (fun i u x hx hI=>⟨?_,fun _ _=>trivial⟩) (fun u _=>?_) _ trivial
  ·have hlt:i<l.length:=(List.getElem?_eq_some_iff.1 hx).1
   have h1:ltI (i:Int) (lenL l)=true:=by rw[ltI_iff,lenL_eq];simpa using hlt
   have h2:addI .i64 (i:Int) 1=((i+1:Nat):Int):=by rw[addI_eq (by omega) (by omega)];omega
   have h3:=T39_eq x (hs x (List.mem_of_getElem? hx))
   simp only[L17_5,h1,cond_true,listAt_some hx,Option.bind_some,h3,h2,entsS,leS]
   cases neI (entF x) 0;rotate_left; · rfl
   cases (ltS x.f0 u||eqS x.f0 u)<;>rfl
  ·have h1:ltI (l.length:Int) (lenL l)=false:=by rw[ltI_iff,lenL_eq];simp
   simp only[L17_5,h1,cond_false]
 unfold T17 entsF
 rw[show (0:Int)=((0:Nat):Int)from rfl,hi,Option.bind_some]
 cases ltI 200 (lenL l);rotate_left; · rfl
 cases wp entsS 0 (ByteArray.mk #[]) l<;>rfl
theorem wp_ents:∀(l:List S36)(i:Nat)(last s:ByteArray),wp entsS i last l= .inl s→(∀ x∈l,entF x=0∧ltS last x.f0=true)∧l.Pairwise fun x y=>ltS x.f0 y.f0=true
 | [],i,last,s,h=>⟨fun x hx=>(by cases hx),.nil⟩
 | x::l,i,last,s,h=>by
   unfold wp at h
   have h1:neI (entF x) 0=false∧leS x.f0 last=false∧entsS i last x= .inl x.f0:=by
    unfold entsS at h ⊢
    cases c1:neI (entF x) 0<;>rw[c1]at h
    ·cases c2:leS x.f0 last<;>rw[c2]at h
     ·exact⟨rfl,rfl,rfl⟩
     ·cases h
    ·cases h
   obtain⟨h1,h2,h3⟩:=h1
   rw[h3]at h
   obtain⟨h4,h5⟩:=wp_ents l (i+1) x.f0 s h
   have h6:ltS last x.f0=true:=by
    unfold leS at h2
    rw[Bool.or_eq_false_iff]at h2
    rcases ltS_total x.f0 last with q|q|q
    ·rw[q]at h2;exact absurd h2.1 (by decide)
    ·rw[q]at h2;have:eqS last last=true:=by rw[eqS_iff];simp
     rw[this]at h2;exact absurd h2.2 (by decide)
    ·exact q
   refine⟨fun y hy=>?_,List.pairwise_cons.2 ⟨fun y hy=>(h4 y hy).2,h5⟩⟩
   rcases List.mem_cons.1 hy with rfl|hy
   ·exact⟨neI_false.1 h1,h6⟩
   ·exact⟨(h4 y hy).1,ltS_trans h6 (h4 y hy).2⟩
theorem wp_ents_r:∀(l:List S36)(i:Nat)(last:ByteArray)(r:Int),wp entsS i last l= .inr r→r≠0
 | [],i,last,r,h=>by cases h
 | x::l,i,last,r,h=>by
   unfold wp at h
   unfold entsS at h
   cases c1:neI (entF x) 0<;>rw[c1]at h
   ·cases c2:leS x.f0 last<;>rw[c2]at h
    ·exact wp_ents_r l (i+1) x.f0 r h
    ·cases h;decide
   ·cases h
    rw[neI_iff]at c1
    simpa using c1
structure Ents(l:List S36):Prop where
 len:l.length≤200
 ok:∀x∈l,entF x=0
 rise:l.Pairwise fun x y=>ltS x.f0 y.f0=true
theorem entsF_ok{l:List S36}(h:entsF l=0):Ents l:=by
 unfold entsF at h
 cases hl:ltI 200 (lenL l)<;>rw[hl]at h
 ·simp only[cond_false]at h
  rw[ltI_iff,lenL_eq]at hl
  simp only[decide_eq_false_iff_not]at hl
  cases hw:wp entsS 0 (ByteArray.mk #[]) l with
  | inl s=>
    obtain⟨h1,h2⟩:=wp_ents l 0 _ s hw
    exact⟨by omega,fun x hx=>(h1 x hx).1,h2⟩
  | inr r=>
    rw[hw]at h
    exact absurd h (wp_ents_r l 0 _ r hw)
 ·cases h
theorem eqS_t{a b:ByteArray}:eqS a b=true↔a=b:=by rw[eqS_iff];simp
end Go.Abs.TUX
set_option linter.unusedVariables false
set_option linter.unusedSimpArgs false
set_option maxRecDepth 10000
namespace Go.Abs.TUX
open Go.RowKit Go.Proofs Go.Abs
structure OkE(e:S36):Prop where
 fine:Fine e
 key:key e.f0=true
 l7:e.f7.length≤1048576
 l11:e.f11.length≤1048576
def OkL(l:List S36):Prop:=Ents l∧∀e∈l,OkE e
structure OkP(p:S24):Prop where
 zone : -1440≤p.f2∧p.f2≤1440
 rise:Rising p.f3
 len:p.f3.length≤1048576
theorem okL{l:List S36}(h:∀x∈l,ok36 1048576 x)(h0:entsF l=0):OkL l:=by
 have E:=entsF_ok h0
 exact⟨E,fun e he=>⟨fine (h e he) (E.ok e he),entF_key (E.ok e he),(h e he).2.2.2.2.2.2.2.1.1,(h e he).2.2.2.2.2.2.2.2.2.2.2.1.1⟩⟩
theorem okP{p:S24}(h:ok24 1048576 p)(h0:playF p=0):OkP p:=by
 refine⟨?_,playF_ok h0,h.2.2.2.1⟩
 unfold playF at h0
 cases h1:key p.f0<;>rw[h1]at h0; · cases h0
 cases h2:key p.f1<;>rw[h2]at h0; · cases h0
 cases h3:outB p.f2 (-1440) 1440<;>rw[h3]at h0;rotate_left; · cases h0
 exact outB_false h3
theorem fit_ok{e:S36}{p:S24}(he:OkE e)(hp:OkP p):T94 e p=some (fitsB e p):=T94_eq e p he.l11 hp.len hp.rise
theorem mem_coll{α:Type}(g:Int→Option α)(t:α):∀(n:Nat)(a:Int),t∈coll g a n↔∃d,a≤d∧d<a+n∧g d=some t
 | 0,a=>by simp[coll];intro d h1 h2;omega
 | n+1,a=>by
   rw[coll,List.mem_append,mem_coll g t n (a+1),Option.mem_toList]
   constructor
   ·rintro(h|⟨d,h1,h2,h3⟩)
    ·exact⟨a,by omega,by omega,h⟩
    ·exact⟨d,by omega,by omega,h3⟩
   ·rintro⟨d,h1,h2,h3⟩
    by_cases hd:d=a
    ·subst hd;exact .inl h3
    ·exact .inr ⟨d,by omega,by omega,h3⟩
def rawL(e:S36)(z:Int)(w:S32):List S32:=bif e.f12 then []else coll (rawG e z w) e.f3 (e.f4+1-e.f3).toNat
def Shown(e:S36)(z:Int)(w t:S32):Prop:=e.f12=false∧∃d,e.f3≤d∧d≤e.f4∧dayB e d=true∧t=timeS e z d∧t.f0<w.f1∧w.f0<t.f1
theorem Shown.lasts{e:S36}{z:Int}{w t:S32}(he:OkE e)(h:Shown e z w t):t.f0<t.f1:=by
 obtain⟨_,d,_,_,_,rfl,_⟩:=h
 exact(timeS_span he.fine z d).1
theorem rawG_some{e:S36}{z:Int}{w t:S32}{d:Int}:rawG e z w d=some t↔dayB e d=true∧t=timeS e z d∧t.f0<w.f1∧w.f0<t.f1:=by
 unfold rawG
 constructor
 ·intro h
  cases hb:dayB e d<;>rw[hb]at h; · cases h
  cases h1:ltI (timeS e z d).f0 w.f1<;>rw[h1]at h; · cases h
  cases h2:ltI w.f0 (timeS e z d).f1<;>rw[h2]at h; · cases h
  cases h
  rw[ltI_iff,decide_eq_true_eq]at h1 h2
  exact⟨rfl,rfl,h1,h2⟩
 ·rintro⟨h1,rfl,h2,h3⟩
  rw[h1,ltI_t h2,ltI_t h3]
  rfl
theorem mem_raw{e:S36}{z:Int}{w t:S32}(F:Fine e):t∈rawL e z w↔Shown e z w t:=by
 unfold rawL Shown
 have hs:=F.span
 cases hp:e.f12 with
 | true=>simp
 | false=>
   rw[cond_false,mem_coll]
   constructor
   ·rintro⟨d,h1,h2,h3⟩
    exact⟨rfl,d,h1,by omega,rawG_some.1 h3⟩
   ·rintro⟨_,d,h1,h2,h3⟩
    exact⟨d,h1,by omega,rawG_some.2 h3⟩
theorem raw_len{e:S36}{z:Int}{w:S32}(F:Fine e):(rawL e z w).length≤4001:=by
 have hs:=F.span
 unfold rawL
 cases e.f12 with
 | true=>exact Nat.zero_le _
 | false=>
   refine Nat.le_trans (coll_len _ _ _) ?_
   omega
theorem T56_raw{e:S36}(F:Fine e){off:Int}(ho : -1440≤off∧off≤1440){w:S32}(hw0:0≤w.f0)(hlt:w.f0<w.f1)(hw2:w.f1≤400000000000):T56 e off w=some (rawL e off w):=by
 have hs:=F.span
 unfold T56 rawL
 cases hp:e.f12 with
 | true=>rfl
 | false=>
   rw[cond_false,cond_false,leI_f hlt,cond_false]
   have hm:mulI .i64 off 60000=off*60000:=mulI_eq (by omega) (by omega)
   have ha0:addI .i64 w.f0 (off*60000)=w.f0+off*60000:=addI_eq (by omega) (by omega)
   have ha1:addI .i64 w.f1 (off*60000)=w.f1+off*60000:=addI_eq (by omega) (by omega)
   obtain⟨q0,hq0,b0,c0,d0,e0⟩:=quo_spec (w.f0+off*60000) ⟨by omega,by omega⟩
   obtain⟨q1,hq1,b1,c1,d1,e1⟩:=quo_spec (w.f1+off*60000) ⟨by omega,by omega⟩
   have hs0:subI .i64 q0 2=q0-2:=subI_eq (by omega) (by omega)
   have hs1:addI .i64 q1 1=q1+1:=addI_eq (by omega) (by omega)
   rw[hm,ha0,hq0,hs0,maxI_eq]
   have hst:∀(s:List S32)(d:Int),max (q0-2) e.f3≤d→d≤min (q1+1) e.f4→s.length≤4001→L56_7 e off w (s,d)=some (.inl (s++(rawG e off w d).toList,d+1)):=fun s d h1 h2 hl=>by
    have h3:leI d (minI (addI .i64 (quoI .i64 (addI .i64 w.f1 (mulI .i64 off 60000)) 86400000) 1) e.f4)=true:=by
     rw[hm,ha1,hq1,hs1,minI_eq,leI_iff];simpa using h2
    have h4:addI .i64 d 1=d+1:=addI_eq (by omega) (by omega)
    have h5:∀x:S32,appO 16 s [x]=some (s++[x]):=fun x=>appO_eq (by simp;omega) (by simp;omega)
    simp only[L56_7,h3,cond_true,T86_eq F ho (d:=d) ⟨by omega,by omega⟩,T85_eq F (d:=d) ⟨by omega,by omega⟩,Option.bind_some,h4,h5,rawG]
    cases dayB e d; · simp
    cases ltI (timeS e off d).f0 w.f1; · simp
    cases ltI w.f0 (timeS e off d).f1<;>simp
   have hen:∀(s:List S32)(d:Int),min (q1+1) e.f4<d→∃x y,L56_7 e off w (s,d)=some (.inr (x,y,s)):=fun s d h1=>by
    have h3:leI d (minI (addI .i64 (quoI .i64 (addI .i64 w.f1 (mulI .i64 off 60000)) 86400000) 1) e.f4)=false:=by
     rw[hm,ha1,hq1,hs1,minI_eq,leI_iff];simp only[decide_eq_false_iff_not];omega
    exact⟨d,false,by simp only[L56_7,h3,cond_false]⟩
   obtain⟨x,y,h⟩:=iter_days (rawG e off w) (max (q0-2) e.f3) (min (q1+1) e.f4) hst hen _ (max (q0-2) e.f3) [] (Int.le_refl _) rfl (by simp only[List.length_nil];omega)
   rw[h,coll_sub (rawG e off w) (a:=e.f3) (b:=e.f4) (lo:=max (q0-2) e.f3) (hi:=min (q1+1) e.f4) (by omega) (by omega) fun d h1 h2 h3=>?_]
   ·rfl
   ·cases hg:rawG e off w d with
    | none=>rfl
    | some t=>
      obtain⟨_,rfl,g2,g3⟩:=rawG_some.1 hg
      have ht:=timeS_span F off d
      omega
def spansL(a:List S36)(p:S24)(w:S32):List S78:=a.flatMap fun e=>bif fitsB e p then(rawL e p.f2 w).map (S78.mk (some e))else []
theorem mem_spans{a:List S36}{p:S24}{w:S32}(ha:∀e∈a,OkE e)(s:S78):s∈spansL a p w↔∃e,e∈a∧fitsB e p=true∧s.f0=some e∧Shown e p.f2 w s.f1:=by
 unfold spansL
 rw[List.mem_flatMap]
 constructor
 ·rintro⟨e,h1,h2⟩
  cases hf:fitsB e p<;>rw[hf]at h2
  ·cases h2
  ·rw[cond_true]at h2
   obtain⟨t,h3,rfl⟩:=List.mem_map.1 h2
   exact⟨e,h1,hf,rfl,(mem_raw (ha e h1).fine).1 h3⟩
 ·rintro⟨e,h1,hf,h2,h3⟩
  refine⟨e,h1,?_⟩
  rw[hf,cond_true]
  refine List.mem_map.2 ⟨s.f1,(mem_raw (ha e h1).fine).2 h3,?_⟩
  rw[← h2]
theorem inner_ok{a:List S36}{p:S24}{w:S32}{z0:List S78×Int}{e:S36}{x:List S32}(he:listAt a z0.2=some e)(hx:x.length≤4001)(hz:z0.1.length≤1000000) :
  iter (L66_7 a p w z0 x) (z0.1,x,0)=some ((x.length:Int),false,z0.1++x.map (S78.mk (some e)),x):=by
 obtain⟨r,h2,h3⟩:=iter_up (st:=L66_7 a p w z0 x) (fun(s:List S78)(i:Nat)=>(s,x,(i:Int))) x.length (fun i s=>s=z0.1++(x.take i).map (S78.mk (some e)))
  (fun r=>r=((x.length:Int),false,z0.1++x.map (S78.mk (some e)),x))
  (fun i s hi hI=>by
   have hy:=List.getElem?_eq_getElem hi
   subst hI
   refine⟨_,?_,rfl⟩
   unfold L66_7
   refine ct (ltL_true hi) (bs (idx_nat hi) (bs (getN_some hy) (bs he (bs (appO_big (by omega) (by simp;omega)) ?_))))
   simp only
   rw[nextI (by omega),take_next hy,List.map_append,List.append_assoc]
   rfl)
  (fun s hI=>by
   subst hI
   refine⟨_,?_,rfl⟩
   unfold L66_7
   rw[List.take_length]
   refine cf (ltL_false (Nat.le_refl _)) ?_
   rw[ltL_false (Nat.le_refl _)]) z0.1 (by simp)
 rw[← h3]
 exact h2
theorem spans_len{a:List S36}{p:S24}{w:S32}(ha:∀e∈a,OkE e):(spansL a p w).length≤4001*a.length:=by
 unfold spansL
 induction a with
 | nil=>simp
 | cons e a ih=>
   have h1:=ih fun x hx=>ha x (List.mem_cons_of_mem _ hx)
   have h2:=raw_len (z:=p.f2) (w:=w) (ha e List.mem_cons_self).fine
   rw[List.flatMap_cons,List.length_append,List.length_cons]
   cases fitsB e p with
   | true=>rw[cond_true,List.length_map];omega
   | false=>rw[cond_false,List.length_nil];omega
theorem spans_eq{a:List S36}{p:S24}{w:S32}(ha:OkL a)(hp:OkP p)(h0:0≤w.f0)(h1:w.f0<w.f1)(h2:w.f1≤400000000000):T66 a p w=some (spansL a p w):=by
 have hlen:=ha.1.len
 obtain⟨r,h3,h4⟩:=iter_up (st:=L66_3 a p w) (fun(s:List S78)(i:Nat)=>(s,(i:Int))) a.length
  (fun i s=>s=spansL (a.take i) p w) (fun r=>r=((a.length:Int),false,spansL a p w))
  (fun i s hi hI=>by
   have hx:=List.getElem?_eq_getElem hi
   have he:=ha.2 _ (List.getElem_mem hi)
   have hf:=fit_ok he hp
   have hl:s.length≤1000000:=by
    have:=spans_len (a:=a.take i) (p:=p) (w:=w) fun x hx=>ha.2 x (List.mem_of_mem_take hx)
    rw[List.length_take]at this
    rw[hI]
    omega
   have hn:spansL (a.take (i+1)) p w=s++(bif fitsB a[i] p then(rawL a[i] p.f2 w).map (S78.mk (some a[i]))else []):=by
    rw[take_next hx,hI]
    unfold spansL
    rw[List.flatMap_append]
    simp
   cases hb:fitsB a[i] p with
   | false=>
     rw[hb,cond_false,List.append_nil]at hn
     refine⟨s,?_,hn.symm⟩
     unfold L66_3
     refine ct (ltL_true hi) (bs (listAt_some hx) (bs (hf.trans (congrArg some hb)) (ct rfl ?_)))
     simp only
     rw[nextI (by omega)]
   | true=>
     rw[hb,cond_true]at hn
     refine⟨_,?_,hn.symm⟩
     unfold L66_3
     refine ct (ltL_true hi) (bs (listAt_some hx) (bs (hf.trans (congrArg some hb)) (cf rfl (bs (listAt_some hx) (bs (T56_raw he.fine hp.zone h0 h1 h2) (bs (inner_ok (z0:=(s,(i:Int))) (listAt_some hx) (raw_len he.fine) hl) ?_))))))
     simp only
     rw[nextI (by omega)])
  (fun s hI=>by
   refine⟨((a.length:Int),false,s),?_,by rw[hI,List.take_length]⟩
   unfold L66_3
   refine cf (ltL_false (Nat.le_refl _)) ?_
   rw[ltL_false (Nat.le_refl _)]) [] rfl
 unfold T66
 refine bs (a:=((a.length:Int),false,spansL a p w)) ?_ rfl
 rw[← h4]
 exact h3
theorem spans_ok{a:List S36}{p:S24}{w:S32}(ha:OkL a)(hp:OkP p)(h0:0≤w.f0)(h1:w.f0<w.f1)(h2:w.f1≤400000000000) :
  ∃l,T66 a p w=some l∧l.length≤1000000∧∀s,s∈l↔∃e,e∈a∧fitsB e p=true∧s.f0=some e∧Shown e p.f2 w s.f1:=by
 refine⟨_,spans_eq ha hp h0 h1 h2,?_,mem_spans ha.2⟩
 have:=spans_len (p:=p) (w:=w) ha.2
 have:=ha.1.len
 omega
end Go.Abs.TUX
set_option linter.unusedVariables false
set_option linter.unusedSimpArgs false
set_option maxRecDepth 10000
namespace Go.Abs.TUX
open Go.RowKit Go.Proofs Go.Abs
theorem edges_ok{a:List S36}{p:S24}{w:S32}{l:List S78}(hl:T66 a p w=some l)(h:l.length≤1000000):∃es,T71 a p w=some es∧es.Pairwise (· < ·)∧es.length≤2000002∧∀x,x∈es↔x=w.f0∨x=w.f1∨∃s,s∈l∧(x=max s.f1.f0 w.f0∨x=min s.f1.f1 w.f1):=by
 obtain⟨r,h3,acc,h4,h5,h6⟩:=iter_up (st:=L71_3 w l) (fun(s:List Int)(i:Nat)=>(s,l,(i:Int))) l.length
  (fun i s=>s.length=2+2*i∧∀x,x∈s↔x=w.f0∨x=w.f1∨∃y,y∈l.take i∧(x=max y.f1.f0 w.f0∨x=min y.f1.f1 w.f1))
  (fun r=>∃acc,r=((l.length:Int),false,acc,l)∧acc.length=2+2*l.length∧∀x,x∈acc↔x=w.f0∨x=w.f1∨∃y,y∈l∧(x=max y.f1.f0 w.f0∨x=min y.f1.f1 w.f1))
  (fun i s hi hI=>by
   have hx:=List.getElem?_eq_getElem hi
   have hc:T54 l[i].f1 w=some ⟨max l[i].f1.f0 w.f0,min l[i].f1.f1 w.f1⟩:=by unfold T54;rw[maxI_eq,minI_eq]
   refine⟨s++[max l[i].f1.f0 w.f0,min l[i].f1.f1 w.f1],?_,by simp;omega,fun x=>?_⟩
   ·unfold L71_3
    refine ct (ltL_true hi) (bs (idx_nat hi) (bs (getN_some hx) (bs hc (bs (appO_big (by omega) (by simp;omega)) ?_))))
    simp only
    rw[nextI (by omega)]
   ·rw[List.mem_append,hI.2 x,take_next hx]
    simp only[List.mem_cons,List.not_mem_nil,or_false,List.mem_append]
    constructor
    ·rintro((h|h|⟨y,h,h'⟩)|h)
     ·exact .inl h
     ·exact .inr (.inl h)
     ·exact .inr (.inr ⟨y,.inl h,h'⟩)
     ·exact .inr (.inr ⟨_,.inr rfl,h⟩)
    ·rintro(h|h|⟨y,h|rfl,h'⟩)
     ·exact .inl (.inl h)
     ·exact .inl (.inr (.inl h))
     ·exact .inl (.inr (.inr ⟨y,h,h'⟩))
     ·exact .inr h')
  (fun s hI=>by
   refine⟨((l.length:Int),false,s,l),?_,s,rfl,hI.1,fun x=>?_⟩
   ·unfold L71_3
    refine cf (ltL_false (Nat.le_refl _)) ?_
    rw[ltL_false (Nat.le_refl _)]
   ·rw[hI.2 x,List.take_length]) [w.f0,w.f1] (by simp)
 obtain⟨c1,c2⟩:=compact_facts (sortI acc) (sortI_sorted acc)
 have hsl:(sortI acc).length=acc.length:=(sortI_perm acc).length_eq
 refine⟨Lib.compact (sortI acc),?_,c1,?_,fun x=>?_⟩
 ·unfold T71
  refine bs hl (bs (a:=((l.length:Int),false,acc,l)) ?_ ?_)
  ·rw[← h4,←h3]
   rfl
  ·unfold sortIO compIO
   simp only
   rw[if_pos (by omega)]
   rfl
 ·have:=Lib.compact_length_le (sortI acc)
  omega
 ·rw[c2,(sortI_perm acc).mem_iff,h6 x]
def keep(t:Int)(s:S78):Bool:=ltI t s.f1.f1
theorem past_eq{es:List Int}{i:Int}{t:Int}(h:listAt es i=some t)(s:S78):T73 s es i=some (!keep t s):=by
 unfold T73
 refine bs h ?_
 unfold keep ltI leI
 congr 1
 by_cases c:s.f1.f1≤t
 ·simp[c]
 ·simp[c];omega
theorem first_past{es:List Int}{n:Int}{t:Int}(he:listAt es n=some t)(l:List S78)(h:l.length≤1048576):(T98 l es n=some (-1)∧∀x∈l,keep t x=true)∨∃k,k<l.length∧T98 l es n=some (k:Int)∧(∀ x,l[k]? = some x→keep t x=false)∧∀j x,j<k→l[j]? = some x→keep t x=true:=by
 have hi:∃r,iter (L98_2 l es n) ((0:Nat):Int)=some r∧((∃ y,r= .inl y)∧(∀ x∈l,keep t x=true)∨∃k:Nat,r= .inr (k:Int)∧k<l.length∧(∀ x,l[k]? = some x→keep t x=false)∧∀j x,j<k→l[j]? = some x→keep t x=true):=by
  refine iter_meas (fun z=>∃i:Nat,z=(i:Int)∧i≤l.length∧∀j x,j<i→l[j]? = some x→keep t x=true) (fun z=>(l.length-z).toNat) _ ?_ _ ⟨0,rfl,Nat.zero_le _,fun j x hj=>by omega⟩
  rintro _ ⟨i,rfl,hi,hall⟩
  by_cases hlt:i<l.length
  ·have h1:=ltL_true hlt
   have h2:addI .i64 (i:Int) 1=((i+1:Nat):Int):=nextI (by omega)
   have hx:=List.getElem?_eq_getElem hlt
   cases hm:keep t l[i]with
   | true=>
     left
     refine⟨((i+1:Nat):Int),?_,⟨i+1,rfl,by omega,fun j x hj hjx=>?_⟩,by omega⟩
     ·simp only[L98_2,h1,cond_true,listAt_some hx,Option.bind_some,past_eq he,hm,Bool.not_true,cond_false,h2]
     ·rcases Nat.lt_or_ge j i with h3|h3
      ·exact hall j x h3 hjx
      ·have:j=i:=by omega
       subst this
       rw[hx]at hjx
       cases hjx
       exact hm
   | false=>
     right
     refine⟨.inr (i:Int),?_,.inr ⟨i,rfl,hlt,fun x hx2=>by rw[hx]at hx2;cases hx2;exact hm,hall⟩⟩
     simp only[L98_2,h1,cond_true,listAt_some hx,Option.bind_some,past_eq he,hm,Bool.not_false]
  ·right
   have h1:ltI (i:Int) (lenL l)=false:=ltL_false (by omega)
   refine⟨.inl _,by simp only[L98_2,h1,cond_false];rfl,.inl ⟨⟨_,rfl⟩,fun x hx=>?_⟩⟩
   obtain⟨j,hj⟩:=List.getElem?_of_mem hx
   exact hall j x (by have:=(List.getElem?_eq_some_iff.1 hj).1;omega) hj
 obtain⟨r,h1,h2⟩:=hi
 have h1:iter (L98_2 l es n) 0=some r:=h1
 unfold T98
 rw[h1,Option.bind_some]
 rcases h2 with⟨⟨y,rfl⟩,h3⟩|⟨k,rfl,h3,h4⟩
 ·exact .inl ⟨rfl,h3⟩
 ·exact .inr ⟨k,h3,rfl,h4⟩
theorem drop_past{es:List Int}{n:Int}{t:Int}(he:listAt es n=some t)(l:List S78)(h:l.length≤1048576):T72 l es n=some (l.filter (keep t)):=by
 unfold T72
 rcases first_past he l h with⟨h1,h2⟩|⟨k,hk,h1,hdel,hkeep⟩
 ·rw[h1,Option.bind_some,show eqI (-1) (-1)=true from rfl,cond_true,List.filter_eq_self.2 h2]
 ·have hne:eqI (k:Int) (-1)=false:=eqI_f (by omega)
  have hadd:addI .i64 (k:Int) 1=((k+1:Nat):Int):=nextI (by omega)
  rw[h1,Option.bind_some,hne,cond_false,hadd]
  have hloop:∃r,iter (L72_5 es n) (l,(k:Int),((k+1:Nat):Int))=some r∧∃i:Nat,r.1=(i:Int)∧i≤l.length∧r.2.2.2.length=l.length∧r.2.2.2.take i=l.filter (keep t):=by
   refine iter_meas (fun z=>∃(row:List S78)(i j:Nat),z=(row,(i:Int),(j:Int))∧j≤l.length∧i<j∧row.length=l.length∧row.take i=(l.take j).filter (keep t)∧row.drop j=l.drop j) (fun z=>(l.length-z.2.2).toNat) _ ?_ _ ⟨l,k,k+1,rfl,by omega,by omega,rfl,?_,rfl⟩
   ·rintro _ ⟨row,i,j,rfl,hj,hij,hrl,htake,hdrop⟩
    by_cases hlt:j<l.length
    ·left
     have hg1:ltI (j:Int) (lenL row)=true:=ltL_true (by omega)
     have hj1:addI .i64 (j:Int) 1=((j+1:Nat):Int):=nextI (by omega)
     have hi1:addI .i64 (i:Int) 1=((i+1:Nat):Int):=nextI (by omega)
     have hx:row[j]? = some l[j]:=by
      have:(row.drop j)[0]? = (l.drop j)[0]? := by rw[hdrop]
      simpa[List.getElem?_eq_getElem hlt]using this
     have hil:i<row.length:=by omega
     have hstep:(l.take (j+1)).filter (keep t)=(l.take j).filter (keep t)++[l[j]].filter (keep t):=by
      rw[List.take_succ_eq_append_getElem hlt,List.filter_append]
     cases hm:keep t l[j]with
     | true=>
       refine⟨(row.set i l[j],((i+1:Nat):Int),((j+1:Nat):Int)),?_,⟨row.set i l[j],i+1,j+1,rfl,by omega,by omega,by simpa using hrl,?_,?_⟩,by simp only;omega⟩
       ·simp only[L72_5,hg1,cond_true,idx_nat (show j<row.length by omega),Option.bind_some,getN,hx,past_eq he,hm,Bool.not_true,Bool.not_false,idx_nat hil,List.getElem?_eq_getElem hil,hi1,hj1]
       ·rw[hstep,←htake,List.filter_cons_of_pos hm,List.filter_nil,List.take_succ_eq_append_getElem (by simpa using hil),List.take_set_of_le (Nat.le_refl i)]
        simp
       ·rw[List.drop_set_of_lt (by omega)]
        have:=congrArg (List.drop 1) hdrop
        simpa[List.drop_drop]using this
     | false=>
       refine⟨(row,(i:Int),((j+1:Nat):Int)),?_,⟨row,i,j+1,rfl,by omega,by omega,hrl,?_,?_⟩,by simp only;omega⟩
       ·simp only[L72_5,hg1,cond_true,idx_nat (show j<row.length by omega),Option.bind_some,getN,hx,past_eq he,hm,Bool.not_true,Bool.not_false,cond_false,hj1]
       ·rw[hstep,←htake,List.filter_cons_of_neg (by rw[hm];simp),List.filter_nil,List.append_nil]
       ·have:=congrArg (List.drop 1) hdrop
        simpa[List.drop_drop]using this
    ·right
     have hjl:j=l.length:=by omega
     subst hjl
     have hg1:ltI (l.length:Int) (lenL row)=false:=ltL_false (by omega)
     refine⟨((i:Int),(l.length:Int),false,row),by simp only[L72_5,hg1,cond_false],i,rfl,by omega,hrl,?_⟩
     rw[htake,List.take_length]
   ·rw[List.take_succ_eq_append_getElem hk,List.filter_append,List.filter_cons_of_neg (by rw[hdel _ (List.getElem?_eq_getElem hk)];simp),List.filter_nil,List.append_nil]
    refine(List.filter_eq_self.2 fun x hx=>?_).symm
    obtain⟨j,hj⟩:=List.getElem?_of_mem hx
    rw[List.getElem?_take]at hj
    split at hj
    ·rename_i hjk
     exact hkeep j x hjk hj
    ·cases hj
  obtain⟨r,h2,i,h3,h4,h5,h6⟩:=hloop
  rw[h2,Option.bind_some,h3]
  have hv:vwN (List.length r.2.2.2) (i:Int)=some i:=by unfold vwN;rw[if_pos (by omega),if_pos (by rw[Int.toNat_natCast,h5];exact h4),Int.toNat_natCast]
  have hc:clrN r.2.2.2 i (S78.mk (none:Option S36) (S32.mk 0 0))=some (r.2.2.2.take i++List.replicate (r.2.2.2.length-i) (S78.mk (none:Option S36) (S32.mk 0 0))):=by unfold clrN;rw[if_pos (by rw[h5];exact h4)]
  rw[hv,Option.bind_some,hc,Option.bind_some]
  have hcut:cutN (r.2.2.2.take i++List.replicate (r.2.2.2.length-i) (S78.mk (none:Option S36) (S32.mk 0 0))) (i:Int)=some (l.filter (keep t)):=by
   unfold cutN
   rw[if_pos (by omega),Int.toNat_natCast,if_pos (by rw[List.length_append,List.length_take,List.length_replicate];omega),List.take_append_of_le_length (by rw[List.length_take];omega),List.take_take,Nat.min_self,h6]
  rw[hcut]
  rfl
end Go.Abs.TUX
set_option linter.unusedVariables false
set_option linter.unusedSimpArgs false
set_option maxRecDepth 10000
namespace Go.Abs.TUX
open Go.RowKit Go.Proofs Go.Abs
theorem cmp_spec:∀x y:List UInt8,Lib.compareBytes x y=if Op.bytesLess x y=true then -1 else if Op.bytesLess y x=true then 1 else 0
 | [],[]=>rfl
 | [],_::_=>rfl
 | _::_,[]=>rfl
 | a::x,b::y=>by
   have ih:=cmp_spec x y
   simp only[Lib.compareBytes,Op.bytesLess]
   by_cases h1:a<b
   ·simp[h1]
   ·by_cases h2:b<a
    ·have h3:¬a=b:=fun e=>by subst e;exact h1 h2
     simp[h1,h2,h3]
    ·have h3:a=b:=UInt8.toNat_inj.1 (by
      have h4:=UInt8.lt_iff_toNat_lt (a:=a) (b:=b)
      have h5:=UInt8.lt_iff_toNat_lt (a:=b) (b:=a)
      rw[h4]at h1
      rw[h5]at h2
      omega)
     subst h3
     simp[h1,ih]
theorem cmpS_eq(a b:ByteArray):cmpS a b=if ltS a b=true then -1 else if ltS b a=true then 1 else 0:=by
 unfold cmpS
 rw[cmp_spec,ltS_eq,ltS_eq]
theorem T97_eq(x:Int):T97 x=some false:=by unfold T97;rw[neI_no]
theorem t146(x y:Int):T70 x y=some (if x<y then -1 else if y<x then 1 else 0):=by
 unfold T70
 refine bs (T97_eq x) (bs (T97_eq y) (cf rfl (cf rfl ?_)))
 by_cases h:x<y
 ·rw[ltI_t h,if_pos h];rfl
 ·rw[ltI_f (by omega),if_neg h]
  by_cases h2:y<x
  ·rw[ltI_t h2,if_pos h2];rfl
  ·rw[ltI_f (by omega),if_neg h2];rfl
def first0:List Int→Int
 | []=>0
 | x::l=>if x≠0 then x else first0 l
theorem or_ok(a b c:Int):T96 [a,b,c]=some (if a≠0 then a else if b≠0 then b else c):=by
 unfold T96
 have st:∀(i:Nat)(x:Int),([a,b,c]:List Int)[i]? = some x→L96_3 [a,b,c] (i:Int)=some (if x≠0 then .inr (.inr x)else .inl ((i+1:Nat):Int)):=by
  intro i x hx
  have hi:i<([a,b,c]:List Int).length:=(List.getElem?_eq_some_iff.1 hx).1
  unfold L96_3
  refine ct (ltL_true hi) (bs (listAt_some hx) ?_)
  by_cases h:x=0
  ·rw[neI_f h,if_neg (by simp[h]),nextI (by simp at hi;omega)]
   rfl
  ·rw[neI_t h,if_pos h]
   rfl
 have en:L96_3 [a,b,c] ((3:Nat):Int)=some (.inr (.inl (3,false))):=rfl
 have s0:=st 0 a rfl
 have s1:=st 1 b rfl
 have s2:=st 2 c rfl
 by_cases ha:a≠0
 ·rw[if_pos ha]at s0 ⊢
  rw[show (0:Int)=((0:Nat):Int)from rfl,iter_inr s0]
  rfl
 ·rw[if_neg ha]at s0 ⊢
  by_cases hb:b≠0
  ·rw[if_pos hb]at s1 ⊢
   rw[show (0:Int)=((0:Nat):Int)from rfl,iter_inl s0,iter_inr s1]
   rfl
  ·rw[if_neg hb]at s1 ⊢
   by_cases hc:c≠0
   ·rw[if_pos hc]at s2
    rw[show (0:Int)=((0:Nat):Int)from rfl,iter_inl s0,iter_inl s1,iter_inr s2]
    rfl
   ·rw[if_neg hc]at s2
    have hc:c=0:=by omega
    rw[show (0:Int)=((0:Nat):Int)from rfl,iter_inl s0,iter_inl s1,iter_inl s2,iter_inr en,hc]
    rfl
def pr(s:S78):Int:=(s.f0.map (·.f10)).getD 0
def ke(s:S78):ByteArray:=(s.f0.map (·.f0)).getD (.mk #[])
def ahead(a b:S78):Prop:=pr b<pr a∨(pr a=pr b∧(b.f1.f0<a.f1.f0∨(a.f1.f0=b.f1.f0∧ltS (ke b) (ke a)=true)))
theorem cmp_ok{a b:S78}{ea eb:S36}(ha:a.f0=some ea)(hb:b.f0=some eb):∃n,T68 a b=some n∧(n<0↔ahead a b):=by
 unfold T68
 rw[ha,hb]
 refine⟨_,bs rfl (bs rfl (bs (t146 _ _) (bs (t146 _ _) (bs rfl (bs rfl (bs (by unfold T83;rfl) (bs (or_ok _ _ _) rfl))))))),?_⟩
 have pa:pr a=ea.f10:=by unfold pr;rw[ha];rfl
 have pb:pr b=eb.f10:=by unfold pr;rw[hb];rfl
 have ka:ke a=ea.f0:=by unfold ke;rw[ha];rfl
 have kb:ke b=eb.f0:=by unfold ke;rw[hb];rfl
 unfold ahead
 rw[pa,pb,ka,kb,cmpS_eq]
 by_cases h1:eb.f10<ea.f10
 ·simp[h1]
 ·by_cases h2:ea.f10<eb.f10
  ·simp[h1,h2];omega
  ·have h3:ea.f10=eb.f10:=by omega
   simp only[h3,Int.lt_irrefl,if_false,ne_eq,not_true_eq_false,false_or,true_and]
   by_cases h4:b.f1.f0<a.f1.f0
   ·simp[h4]
   ·by_cases h5:a.f1.f0<b.f1.f0
    ·simp[h4,h5];omega
    ·have h6:a.f1.f0=b.f1.f0:=by omega
     simp only[h6,Int.lt_irrefl,if_false,not_true_eq_false,false_or,true_and]
     by_cases h7:ltS eb.f0 ea.f0=true
     ·simp[h7]
     ·by_cases h8:ltS ea.f0 eb.f0=true
      ·simp[h7,h8]
      ·simp[h7,h8]
theorem ahead_asymm{a b:S78}(h1:ahead a b)(h2:ahead b a):False:=by
 rcases h1 with h1|⟨h1,h1'|⟨h1',h1''⟩⟩<;>rcases h2 with h2|⟨h2,h2'|⟨h2',h2''⟩⟩
 all_goals first
  | omega
  | (have:=ltS_trans h1'' h2'';rw[ltS_irrefl]at this;cases this)
theorem ahead_neg{a b c:S78}(h:ahead a c):ahead a b∨ahead b c:=by
 unfold ahead at *
 rcases h with h|⟨h1,h|⟨h2,h3⟩⟩
 ·by_cases hc:pr b<pr a
  ·exact .inl (.inl hc)
  ·exact .inr (.inl (by omega))
 ·by_cases hc:pr b<pr a
  ·exact .inl (.inl hc)
  ·by_cases hd:pr c<pr b
   ·exact .inr (.inl hd)
   ·by_cases he:b.f1.f0<a.f1.f0
    ·exact .inl (.inr ⟨by omega,.inl he⟩)
    ·exact .inr (.inr ⟨by omega,.inl (by omega)⟩)
 ·by_cases hc:pr b<pr a
  ·exact .inl (.inl hc)
  ·by_cases hd:pr c<pr b
   ·exact .inr (.inl hd)
   ·by_cases he:b.f1.f0<a.f1.f0
    ·exact .inl (.inr ⟨by omega,.inl he⟩)
    ·by_cases hf:c.f1.f0<b.f1.f0
     ·exact .inr (.inr ⟨by omega,.inl hf⟩)
     ·rcases ltS_total (ke b) (ke a)with h5|h5|h5
      ·exact .inl (.inr ⟨by omega,.inr ⟨by omega,h5⟩⟩)
      ·exact .inr (.inr ⟨by omega,.inr ⟨by omega,by rw[h5];exact h3⟩⟩)
      ·exact .inr (.inr ⟨by omega,.inr ⟨by omega,ltS_trans h3 h5⟩⟩)
def Best(l:List S78)(m:S78):Prop:=m∈l∧∀s∈l,¬ahead s m
theorem best_key{l l':List S78}{m m':S78}(hl:∀x,x∈l↔x∈l')(h:Best l m)(h':Best l' m'):ke m=ke m':=by
 have h1:=h.2 m' ((hl m').2 h'.1)
 have h2:=h'.2 m ((hl m).1 h.1)
 unfold ahead at h1 h2
 rcases ltS_total (ke m) (ke m')with h5|h5|h5
 ·exact absurd (.inr ⟨by omega,.inr ⟨by omega,h5⟩⟩) h1
 ·exact h5
 ·exact absurd (.inr ⟨by omega,.inr ⟨by omega,h5⟩⟩) h2
def Full(l:List S78):Prop:=∀s∈l,∃e,s.f0=some e
theorem min_ok{l:List S78}(hf:Full l)(h0:0<l.length)(h1:l.length≤10000000):∃m,T74 l=some (m,l)∧Best l m:=by
 have hx:=List.getElem?_eq_getElem h0
 obtain⟨r,h3,m,h4,h5⟩:=iter_up (st:=L74_5) (fun(s:S78)(i:Nat)=>(l,s.f0,s.f1.f0,s.f1.f1,((i+1:Nat):Int))) (l.length-1)
  (fun i s=>s∈l∧∀x∈l.take (i+1),¬ahead x s)
  (fun r=>∃m,r=((l.length:Int),false,l,m.f0,m.f1.f0,m.f1.f1)∧Best l m)
  (fun i s hi hI=>by
   have hi':i+1<l.length:=by omega
   have hy:=List.getElem?_eq_getElem hi'
   obtain⟨ea,hea⟩:=hf _ (List.getElem_mem hi')
   obtain⟨es,hes⟩:=hf s hI.1
   obtain⟨n,hn,hn2⟩:=cmp_ok hea hes
   by_cases hc:ahead l[i+1] s
   ·refine⟨l[i+1],?_,List.getElem_mem _,fun x hxm=>?_⟩
    ·unfold L74_5
     refine ct (ltL_true hi') (bs (idx_nat hi') (bs (getN_some hy) (bs hn (ct (ltI_t (hn2.2 hc)) (bs (idx_nat hi') (bs (getN_some hy) ?_))))))
     simp only
     rw[nextI (by omega)]
    ·rw[take_next hy]at hxm
     intro hax
     rcases List.mem_append.1 hxm with h|h
     ·rcases ahead_neg (b:=s) hax with h6|h6
      ·exact hI.2 x h h6
      ·exact ahead_asymm hc h6
     ·simp only[List.mem_singleton]at h
      subst h
      exact ahead_asymm hax hax
   ·refine⟨s,?_,hI.1,fun x hxm=>?_⟩
    ·unfold L74_5
     refine ct (ltL_true hi') (bs (idx_nat hi') (bs (getN_some hy) (bs hn (cf (ltI_f (by
      have:=mt hn2.1 hc
      omega)) ?_))))
     simp only
     rw[nextI (by omega)]
    ·rw[take_next hy]at hxm
     rcases List.mem_append.1 hxm with h|h
     ·exact hI.2 x h
     ·simp only[List.mem_singleton]at h
      subst h
      exact hc)
  (fun s hI=>by
   have e:l.length-1+1=l.length:=by omega
   rw[e]at hI ⊢
   rw[List.take_length]at hI
   refine⟨_,?_,s,rfl,hI⟩
   unfold L74_5
   refine cf (ltL_false (Nat.le_refl _)) ?_
   rw[ltL_false (Nat.le_refl _)]) l[0] ⟨List.getElem_mem _,fun x hxm=>by
    rw[List.take_one]at hxm
    have:l.head? = some l[0]:=by rw[List.head?_eq_getElem?,hx]
    rw[this]at hxm
    simp only[Option.toList_some,List.mem_singleton]at hxm
    subst hxm
    exact fun h=>ahead_asymm h h⟩
 refine⟨m,?_,h5⟩
 unfold T74
 refine cf (ltI_f (by rw[lenL_eq];omega)) (bs (idx_nat h0) (bs (getN_some hx) (bs (a:=((l.length:Int),false,l,m.f0,m.f1.f0,m.f1.f1)) ?_ rfl)))
 rw[← h4]
 exact h3
end Go.Abs.TUX
set_option linter.unusedVariables false
set_option linter.unusedSimpArgs false
set_option maxRecDepth 10000
namespace Go.Abs.TUX
open Go.RowKit Go.Proofs Go.Abs
def Act(a:List S36)(p:S24)(t:Int)(s:S78):Prop:=∃e,e∈a∧fitsB e p=true∧s.f0=some e∧Shown e p.f2 ⟨t,t+1⟩ s.f1
theorem act_full{a:List S36}{p:S24}{l:List S78}{t:Int}(h:∀s,s∈l↔Act a p t s):Full l:=fun s hs=>by
 obtain⟨e,_,_,h2,_⟩:=(h s).1 hs
 exact⟨e,h2⟩
end Go.Abs.TUX
set_option linter.unusedVariables false
set_option linter.unusedSimpArgs false
set_option maxRecDepth 10000
namespace Go.Abs.TUX
open Go.RowKit Go.Proofs Go.Abs
def KeyAt(a:List S36)(p:S24)(t:Int)(k:ByteArray):Prop:=((∀ s,¬Act a p t s)∧k= .mk #[])∨∃l m,(∀ s,s∈l↔Act a p t s)∧Best l m∧k=ke m
structure Cov(K:Int→ByteArray→Prop)(out:List S82)(lo hi:Int):Prop where
 ne:out≠[]
 pos:∀x∈out,x.f0.f0<x.f0.f1∧lo≤x.f0.f0∧x.f0.f1≤hi
 key:∀x∈out,∀t,x.f0.f0≤t→t<x.f0.f1→K t x.f1
 adj:∀j x y,out[j]? = some x→out[j+1]? = some y→x.f0.f1=y.f0.f0∧x.f1≠y.f1
 fst:∀x,out[0]? = some x→x.f0.f0=lo
 lst:∀x,out[out.length-1]? = some x→x.f0.f1=hi
variable {K:Int→ByteArray→Prop}
theorem Cov.one{lo hi:Int}{k:ByteArray}(h:lo<hi)(hk:∀t,lo≤t→t<hi→K t k):Cov K [⟨⟨lo,hi⟩,k⟩] lo hi where
 ne:=by simp
 pos x hx:=by simp only[List.mem_singleton]at hx;subst hx;exact⟨h,Int.le_refl _,Int.le_refl _⟩
 key x hx:=by simp only[List.mem_singleton]at hx;subst hx;exact hk
 adj j x y h1 h2:=by simp at h2
 fst x hx:=by simp at hx;subst hx;rfl
 lst x hx:=by simp at hx;subst hx;rfl
theorem Cov.add{pre:List S82}{x0:S82}{lo hi hi':Int}{k:ByteArray}(h:Cov K (pre++[x0]) lo hi)(hh:hi<hi')(hne:x0.f1≠k)(hk:∀t,hi≤t→t<hi'→K t k):Cov K (pre++[x0]++[⟨⟨hi,hi'⟩,k⟩]) lo hi' where
 ne:=by simp
 pos x hx:=by
  rcases List.mem_append.1 hx with hx|hx
  ·have:=h.pos x hx
   omega
  ·simp only[List.mem_singleton]at hx
   subst hx
   have:=h.pos x0 (by simp)
   simp only
   omega
 key x hx:=by
  rcases List.mem_append.1 hx with hx|hx
  ·exact h.key x hx
  ·simp only[List.mem_singleton]at hx;subst hx;exact hk
 adj j x y h1 h2:=by
  have hx0:x0.f0.f1=hi:=h.lst x0 (by simp)
  by_cases hj:j+1<(pre++[x0]).length
  ·rw[List.getElem?_append_left (by omega)]at h1
   rw[List.getElem?_append_left hj]at h2
   exact h.adj j x y h1 h2
  ·have hj2:j+1<(pre++[x0]++[(⟨⟨hi,hi'⟩,k⟩:S82)]).length:=(List.getElem?_eq_some_iff.1 h2).1
   simp at hj hj2
   have:j=pre.length:=by omega
   subst this
   simp at h1 h2
   subst h1
   subst h2
   exact⟨hx0,hne⟩
 fst x hx:=by
  rw[List.getElem?_append_left (by simp)]at hx
  exact h.fst x hx
 lst x hx:=by simp at hx;subst hx;rfl
theorem Cov.more{pre:List S82}{x0:S82}{lo hi hi':Int}(h:Cov K (pre++[x0]) lo hi)(hh:hi<hi')(hk:∀t,hi≤t→t<hi'→K t x0.f1):Cov K (pre++[⟨⟨x0.f0.f0,hi'⟩,x0.f1⟩]) lo hi' where
 ne:=by simp
 pos x hx:=by
  rcases List.mem_append.1 hx with hx|hx
  ·have:=h.pos x (by simp[hx])
   omega
  ·simp only[List.mem_singleton]at hx
   subst hx
   have:=h.pos x0 (by simp)
   simp only
   omega
 key x hx t h1 h2:=by
  rcases List.mem_append.1 hx with hx|hx
  ·exact h.key x (by simp[hx]) t h1 h2
  ·simp only[List.mem_singleton]at hx
   subst hx
   have hx0:x0.f0.f1=hi:=h.lst x0 (by simp)
   by_cases c:t<hi
   ·exact h.key x0 (by simp) t h1 (by omega)
   ·exact hk t (by omega) h2
 adj j x y h1 h2:=by
  by_cases hj:j+1<pre.length
  ·rw[List.getElem?_append_left (by omega)]at h1
   rw[List.getElem?_append_left hj]at h2
   exact h.adj j x y (by rw[List.getElem?_append_left (by omega)];exact h1) (by rw[List.getElem?_append_left hj];exact h2)
  ·have hj2:j+1<(pre++[(⟨⟨x0.f0.f0,hi'⟩,x0.f1⟩:S82)]).length:=(List.getElem?_eq_some_iff.1 h2).1
   simp at hj2
   have hj3:j+1=pre.length:=by omega
   rw[List.getElem?_append_left (by omega)]at h1
   rw[hj3]at h2
   simp at h2
   subst h2
   exact h.adj j x x0 (by rw[List.getElem?_append_left (by omega)];exact h1) (by rw[hj3];simp)
 fst x hx:=by
  cases pre with
  | nil=>simp at hx;subst hx;exact h.fst x0 (by simp)
  | cons c pre=>exact h.fst x (by simpa using hx)
 lst x hx:=by simp at hx;subst hx;rfl
def put(out:List S82)(lo hi:Int)(k:ByteArray):List S82:=match out.getLast? with
 | none=>[⟨⟨lo,hi⟩,k⟩]
 | some x=>if x.f1=k then out.dropLast++[⟨⟨x.f0.f0,hi⟩,x.f1⟩]else out++[⟨⟨lo,hi⟩,k⟩]
theorem put_len(out:List S82)(lo hi:Int)(k:ByteArray):(put out lo hi k).length≤out.length+1:=by
 unfold put
 split
 ·simp
 ·split<;>simp
theorem put_cov{out:List S82}{lo mid hi:Int}{k:ByteArray}(h:(out=[]∧mid=lo)∨Cov K out lo mid)(hh:mid<hi)(hk:∀t,mid≤t→t<hi→K t k):Cov K (put out mid hi k) lo hi:=by
 rcases h with⟨rfl,rfl⟩|h
 ·exact Cov.one hh hk
 ·obtain⟨pre,x,rfl⟩:∃pre x,out=pre++[x]:=by
   rcases List.eq_nil_or_concat out with e|⟨pre,x,e⟩
   ·exact absurd e h.ne
   ·exact⟨pre,x,by rw[e,List.concat_eq_append]⟩
  unfold put
  rw[List.getLast?_concat]
  simp only
  split
  ·rename_i e
   subst e
   rw[List.dropLast_concat]
   exact h.more hh hk
  ·rename_i e
   exact h.add hh e hk
theorem put_text{α:Type}{x3:List Int}{i:Int}{lo hi:Int}{out:List S82}{k:ByteArray}(hlo:listAt x3 i=some lo)(hhi:listAt x3 (addI .i64 i 1)=some hi)(hl:out.length≤10000000)(f:List S82→α) :
  (bif (leI 0 (subI .i64 (lenL out) 1))then((idxO (List.length out) (subI .i64 (lenL out) 1)).bind fun x14=>((getN out x14).bind fun x15=>(bif (eqS x15.f1 k)then((listAt x3 (addI .i64 i 1)).bind fun x16=>((idxO (List.length out) (subI .i64 (lenL out) 1)).bind fun x17=>((getN out x17).bind fun x18=>(some (f (List.set out x17 (S82.mk (S32.mk x18.f0.f0 x16) x18.f1)))))))else((listAt x3 i).bind fun x19=>((listAt x3 (addI .i64 i 1)).bind fun x20=>((appO 32 out ([(S82.mk (S32.mk x19 x20) k)]:List S82)).bind fun x21=>(some (f x21))))))))else((listAt x3 i).bind fun x22=>((listAt x3 (addI .i64 i 1)).bind fun x23=>((appO 32 out ([(S82.mk (S32.mk x22 x23) k)]:List S82)).bind fun x24=>(some (f x24))))))=some (f (put out lo hi k)):=by
 rcases List.eq_nil_or_concat out with e|⟨pre,x,e⟩
 ·subst e
  exact cf rfl (bs hlo (bs hhi (bs (appO_big (by omega) (by simp)) rfl)))
 ·rw[List.concat_eq_append]at e
  subst e
  have hl':pre.length<9223372036854775807:=by simp at hl;omega
  have e1:=last_len pre x hl'
  have hi2:pre.length<(pre++[x]).length:=by simp
  unfold put
  rw[List.getLast?_concat]
  simp only
  refine ct (leI_t (by rw[e1];omega)) ?_
  rw[e1]
  refine bs (idx_nat hi2) (bs (last_at pre x) ?_)
  rw[eqS_iff]
  by_cases hc:x.f1=k
  ·rw[if_pos hc]
   refine ct (decide_eq_true hc) (bs hhi (bs (idx_nat hi2) (bs (last_at pre x) ?_)))
   rw[last_set,List.dropLast_concat]
  ·rw[if_neg hc]
   exact cf (decide_eq_false hc) (bs hlo (bs hhi (bs (appO_big (by omega) (by simp at hl ⊢;omega)) rfl)))
end Go.Abs.TUX
set_option linter.unusedVariables false
set_option linter.unusedSimpArgs false
set_option maxRecDepth 10000
namespace Go.Abs.TUX
open Go.RowKit Go.Proofs Go.Abs
theorem from_ok(x y:S78):∃n,T69 x y=some n∧(n<0↔x.f1.f0<y.f1.f0):=by
 unfold T69
 refine⟨_,bs (t146 _ _) rfl,?_⟩
 by_cases h:x.f1.f0<y.f1.f0
 ·simp[h]
 ·by_cases h2:y.f1.f0<x.f1.f0
  ·simp[h,h2]
  ·simp[h,h2]
structure Sw(all:List S78)(t:Int)(op:List S78)(n:Nat):Prop where
 nle:n≤all.length
 len:op.length≤n
 a:∀s∈op,s∈all∧s.f1.f0≤t
 b:∀s∈all.take n,s∈op∨s.f1.f1≤t
theorem push_ok{all:List S78}{es:List Int}{i:Int}{t:Int}{op:List S78}{n:Nat}{o:List S82}(hs:all.Pairwise fun x y=>x.f1.f0≤y.f1.f0)(hl:all.length≤1000000)(he:listAt es i=some t)(h:Sw all t op n) :
  ∃r,iter (L38_10 es (all,o,op,(n:Int),i)) (op,(n:Int))=some r∧∃n':Nat,r.1=(n':Int)∧Sw all t r.2.2 n'∧∀s∈all.drop n',t<s.f1.f0:=by
 refine iter_meas (fun z=>∃n:Nat,z.2=(n:Int)∧Sw all t z.1 n) (fun z=>((all.length:Int)-z.2).toNat) _ ?_ _ ⟨n,rfl,h⟩
 rintro⟨op,_⟩ ⟨n,rfl,h⟩
 simp only at h
 by_cases hn:n<all.length
 ·have hx:=List.getElem?_eq_getElem hn
  by_cases hc:all[n].f1.f0≤t
  ·left
   refine⟨(op++[all[n]],((n+1:Nat):Int)),?_,⟨n+1,rfl,⟨by omega,by simp;exact h.len,?_,?_⟩⟩,by simp only;omega⟩
   ·unfold L38_10
    refine ct (ltL_true hn) (bs (idx_nat hn) (bs (getN_some hx) (bs he (ct (leI_t hc) (bs (idx_nat hn) (bs (getN_some hx) (bs (appO_big (by omega) (by have:=h.len;simp;omega)) ?_)))))))
    simp only
    rw[nextI (by omega)]
   ·intro s hs'
    rcases List.mem_append.1 hs' with hs'|hs'
    ·exact h.a s hs'
    ·simp only[List.mem_singleton]at hs'
     subst hs'
     exact⟨List.getElem_mem _,hc⟩
   ·intro s hs'
    rw[take_next hx]at hs'
    rcases List.mem_append.1 hs' with hs'|hs'
    ·rcases h.b s hs' with h1|h1
     ·exact .inl (List.mem_append_left _ h1)
     ·exact .inr h1
    ·exact .inl (List.mem_append_right _ hs')
  ·right
   refine⟨((n:Int),leI all[n].f1.f0 t,op),?_,n,rfl,h,fun s hs'=>?_⟩
   ·unfold L38_10
    exact ct (ltL_true hn) (bs (idx_nat hn) (bs (getN_some hx) (bs he (cf (leI_f (by omega)) rfl))))
   ·obtain⟨j,hj,rfl⟩:=List.getElem_of_mem hs'
    rw[List.getElem_drop]
    rw[List.length_drop]at hj
    by_cases hj0:j=0
    ·subst hj0
     have:all[n+0]=all[n]:=rfl
     rw[this]
     omega
    ·have:=List.pairwise_iff_getElem.1 hs n (n+j) hn (by omega) (by omega)
     omega
 ·right
  refine⟨((n:Int),false,op),?_,n,rfl,h,fun s hs'=>?_⟩
  ·unfold L38_10
   exact cf (ltL_false (by simp only;omega)) rfl
  ·rw[List.drop_eq_nil_of_le (by omega)]at hs'
   cases hs'
theorem through_ok{a:List S36}{p:S24}{w:S32}(ha:OkL a)(hp:OkP p)(h0:0≤w.f0)(h1:w.f0<w.f1)(h2:w.f1≤400000000000):∃out,T38 a p w=some out∧Cov (KeyAt a p) out w.f0 w.f1∧out.length≤2000002:=by
 obtain⟨l,hl,hl2,hl3⟩:=spans_ok ha hp h0 h1 (by omega)
 obtain⟨all,s1,s2,s3⟩:=sortO_key (fun x y=>T69 x y) (fun s=>s.f1.f0) l (by omega) (fun x _ y _=>from_ok x y)
 obtain⟨es,e1,e2,e3,e4⟩:=edges_ok hl hl2
 have hlen:all.length≤1000000:=by rw[s2.length_eq];exact hl2
 have hall:∀s,s∈all↔∃e,e∈a∧fitsB e p=true∧s.f0=some e∧Shown e p.f2 w s.f1:=fun s=>s2.mem_iff.trans (hl3 s)
 have hwin:∀s∈all,s.f1.f0<w.f1∧w.f0<s.f1.f1:=fun s hs=>by
  obtain⟨e,_,_,_,_,d,_,_,_,_,h5,h6⟩:=(hall s).1 hs
  exact⟨h5,h6⟩
 have hmem:∀s∈all,max s.f1.f0 w.f0∈es∧min s.f1.f1 w.f1∈es:=fun s hs=>⟨(e4 _).2 (.inr (.inr ⟨s,s2.mem_iff.1 hs,.inl rfl⟩)),(e4 _).2 (.inr (.inr ⟨s,s2.mem_iff.1 hs,.inr rfl⟩))⟩
 have w0:w.f0∈es:=(e4 _).2 (.inl rfl)
 have w1:w.f1∈es:=(e4 _).2 (.inr (.inl rfl))
 have hin:∀x∈es,w.f0≤x∧x≤w.f1:=fun x hx=>by
  rcases(e4 x).1 hx with rfl|rfl|⟨s,hs,rfl|rfl⟩
  ·omega
  ·omega
  ·have:=hwin s (s2.mem_iff.2 hs)
   omega
  ·have:=hwin s (s2.mem_iff.2 hs)
   omega
 have mono:∀(i j:Nat)(hi:i<es.length)(hj:j<es.length),i<j→es[i]<es[j]:=fun i j hi hj hij=>List.pairwise_iff_getElem.1 e2 i j hi hj hij
 have hpos:0<es.length:=List.length_pos_iff.2 (fun e=>by rw[e]at w0;cases w0)
 have first:es[0]=w.f0:=by
  obtain⟨j,hj,hj2⟩:=List.getElem_of_mem w0
  have:=(hin _ (List.getElem_mem hpos)).1
  by_cases hj0:j=0
  ·subst hj0;exact hj2
  ·have:=mono 0 j hpos hj (by omega)
   omega
 have last:es[es.length-1]'(by omega)=w.f1:=by
  obtain⟨j,hj,hj2⟩:=List.getElem_of_mem w1
  have:=(hin _ (List.getElem_mem (show es.length-1<es.length by omega))).2
  by_cases hj0:j=es.length-1
  ·subst hj0;exact hj2
  ·have:=mono j (es.length-1) hj (by omega) (by omega)
   omega
 obtain⟨r,r1,out,r2,r3,r4⟩:=iter_up (st:=L38_8 es) (fun(s:List S82×List S78×Nat)(i:Nat)=>(all,s.1,s.2.1,(s.2.2:Int),(i:Int))) (es.length-1)
  (fun i s=>∃hi:i<es.length,((s.1=[]∧es[i]=w.f0)∨Cov (KeyAt a p) s.1 w.f0 es[i])∧(i≠0→s.1≠[])∧s.1.length≤i∧Sw all es[i] s.2.1 s.2.2)
  (fun r=>∃out,r.2.2.2.1=out∧(out≠[]→Cov (KeyAt a p) out w.f0 w.f1)∧out.length≤es.length-1∧(es.length≠1→out≠[]))
  (fun i s hi hI=>by
   obtain⟨out,op,n⟩:=s
   obtain⟨hi0,i1,i2,i3,i4⟩:=hI
   simp only at i1 i2 i3 i4
   have hi1:i+1<es.length:=by omega
   have g0:listAt es (i:Int)=some es[i]:=listAt_some (List.getElem?_eq_getElem hi0)
   have ea:addI .i64 (i:Int) 1=((i+1:Nat):Int):=nextI (by omega)
   have g1:listAt es (addI .i64 (i:Int) 1)=some es[i+1]:=by rw[ea];exact listAt_some (List.getElem?_eq_getElem hi1)
   have hm:=mono i (i+1) hi0 hi1 (by omega)
   have gap:∀x∈es,x<es[i+1]→x≤es[i]:=fun x hx hlt=>by
    obtain⟨j,hj,rfl⟩:=List.getElem_of_mem hx
    by_cases hji:j≤i
    ·by_cases hji2:j=i
     ·subst hji2;exact Int.le_refl _
     ·exact Int.le_of_lt (mono j i hj hi0 (by omega))
    ·by_cases hji2:j=i+1
     ·subst hji2;omega
     ·have:=mono (i+1) j hi1 hj (by omega)
      omega
   obtain⟨q,q1,n',q2,q3,q4⟩:=push_ok (o:=out) s3 (by omega) g0 i4
   have hdel:=drop_past g0 q.2.2 (by have:=q3.len;have:=q3.nle;omega)
   let op2:=q.2.2.filter (keep es[i])
   have hop:∀s,s∈op2↔s∈all∧s.f1.f0≤es[i]∧es[i]<s.f1.f1:=fun s=>by
    rw[List.mem_filter]
    unfold keep
    rw[ltI_iff,decide_eq_true_eq]
    constructor
    ·rintro⟨h3,h4⟩
     exact⟨(q3.a s h3).1,(q3.a s h3).2,h4⟩
    ·rintro⟨h3,h4,h5⟩
     refine⟨?_,h5⟩
     rw[← List.take_append_drop n' all]at h3
     rcases List.mem_append.1 h3 with h3|h3
     ·rcases q3.b s h3 with h6|h6
      ·exact h6
      ·omega
     ·have:=q4 s h3
      omega
   have hact:∀t,es[i]≤t→t<es[i+1]→∀s,s∈op2↔Act a p t s:=fun t ht1 ht2 s=>by
    have hw0:=(hin _ (List.getElem_mem hi0)).1
    have hw1:=(hin _ (List.getElem_mem hi1)).2
    rw[hop s]
    constructor
    ·rintro⟨h3,h4,h5⟩
     have h6:=(hmem s h3).2
     have h7:t<s.f1.f1:=by
      by_cases hc:min s.f1.f1 w.f1<es[i+1]
      ·have:=gap _ h6 hc
       omega
      ·omega
     obtain⟨e,ha1,ha2,ha3,hg,d,d1,d2,d3,d4,_⟩:=(hall s).1 h3
     exact⟨e,ha1,ha2,ha3,hg,d,d1,d2,d3,d4,by simp only;omega,h7⟩
    ·rintro⟨e,ha1,ha2,ha3,hg,d,d1,d2,d3,d4,d5,d6⟩
     simp only at d5 d6
     have hs:s∈all:=(hall s).2 ⟨e,ha1,ha2,ha3,hg,d,d1,d2,d3,d4,by omega,by omega⟩
     refine⟨hs,?_,by omega⟩
     have h6:=(hmem s hs).1
     have:=gap _ h6 (by omega)
     omega
   have hsw:Sw all es[i+1] op2 n':=⟨q3.nle,Nat.le_trans (List.length_filter_le _ _) q3.len,fun s hs=>⟨((hop s).1 hs).1,by have:=((hop s).1 hs).2.1;omega⟩,fun s hs=>by
    by_cases hc:s.f1.f1≤es[i+1]
    ·exact .inr hc
    ·rcases q3.b s hs with h3|h3
     ·exact .inl ((hop s).2 ⟨(q3.a s h3).1,(q3.a s h3).2,by omega⟩)
     ·exact .inr (by omega)⟩
   have hop2:op2.length≤1000000:=by have:=hsw.len;have:=hsw.nle;omega
   have hfull:Full op2:=act_full (hact es[i] (Int.le_refl _) hm)
   have post:∀k,(∀ t,es[i]≤t→t<es[i+1]→KeyAt a p t k)→∃hi:i+1<es.length,((put out es[i] es[i+1] k=[]∧es[i+1]=w.f0)∨Cov (KeyAt a p) (put out es[i] es[i+1] k) w.f0 es[i+1])∧(i+1≠0→put out es[i] es[i+1] k≠[])∧(put out es[i] es[i+1] k).length≤i+1∧Sw all es[i+1] op2 n':=fun k hk=>by
    have hcov:=put_cov (k:=k) i1 hm hk
    exact⟨hi1,.inr hcov,fun _=>hcov.ne,Nat.le_trans (put_len _ _ _ _) (by omega),hsw⟩
   by_cases hne:0<op2.length
   ·obtain⟨m,m1,m2⟩:=min_ok hfull hne (by omega)
    obtain⟨e,he⟩:=hfull m m2.1
    have hk:ke m=e.f0:=by unfold ke;rw[he];rfl
    have hlt:ltI 0 (lenL op2)=true:=ltI_t (by rw[lenL_eq];omega)
    refine⟨(put out es[i] es[i+1] e.f0,op2,n'),?_,post e.f0 (fun t ht1 ht2=> .inr ⟨op2,m,hact t ht1 ht2,m2,hk.symm⟩)⟩
    unfold L38_8
    refine ct (by rw[ea];exact ltL_true hi1) (bs q1 (bs hdel (ct hlt (bs m1 (bs he ?_)))))
    refine(put_text g0 g1 (by simp only;omega) (fun o=>(Sum.inl (all,o,op2,q.1,addI .i64 (i:Int) 1):_⊕_))).trans ?_
    rw[q2,ea]
   ·have hnil:op2=[]:=List.eq_nil_of_length_eq_zero (by omega)
    have hlt:ltI 0 (lenL op2)=false:=ltI_f (by rw[lenL_eq];omega)
    refine⟨(put out es[i] es[i+1] (.mk #[]),op2,n'),?_,post _ (fun t ht1 ht2=> .inl ⟨fun s hs=>?_,rfl⟩)⟩
    ·unfold L38_8
     refine ct (by rw[ea];exact ltL_true hi1) (bs q1 (bs hdel (cf hlt ?_)))
     refine(put_text g0 g1 (by simp only;omega) (fun o=>(Sum.inl (all,o,op2,q.1,addI .i64 (i:Int) 1):_⊕_))).trans ?_
     rw[q2,ea]
    ·have:=(hact t ht1 ht2 s).2 hs
     rw[hnil]at this
     cases this)
  (fun s hI=>by
   obtain⟨out,op,n⟩:=s
   obtain⟨hi0,i1,i2,i3,i4⟩:=hI
   simp only at i1 i2 i3 i4
   have hf:ltI (addI .i64 ((es.length-1:Nat):Int) 1) (lenL es)=false:=by
    rw[nextI (by omega)]
    exact ltL_false (by omega)
   refine⟨((n:Int),false,all,out,op,((es.length-1:Nat):Int)),?_,out,rfl,fun hne=>?_,i3,fun hne=>i2 (by omega)⟩
   ·unfold L38_8
    refine cf hf ?_
    simp only
    rw[hf]
   ·rcases i1 with⟨i1,_⟩|i1
    ·exact absurd i1 hne
    ·rw[last]at i1
     exact i1) ([],[],0) ⟨hpos,.inl ⟨rfl,first⟩,fun h=>absurd rfl h,Nat.le_refl _,⟨Nat.zero_le _,Nat.le_refl _,fun s hs=>(by cases hs),fun s hs=>(by simp at hs)⟩⟩
 have hne:es.length≠1:=fun h=>by
  have:es[0]=w.f1:=by
   have e:es.length-1=0:=by omega
   rw[← last]
   simp only[e]
  omega
 have r1:iter (L38_8 es) (all,[],[],0,0)=some r:=r1
 refine⟨r.2.2.2.1,?_,by rw[r2];exact r3 (r4.2 hne),by rw[r2];omega⟩
 unfold T38
 exact bs hl (bs s1 (bs e1 (bs r1 rfl)))
end Go.Abs.TUX
set_option linter.unusedVariables false
set_option linter.unusedSimpArgs false
set_option maxRecDepth 10000
namespace Go.Abs.TUX
open Go.RowKit Go.Proofs Go.Abs
theorem time_eq{e:S36}(F:Fine e){off d:Int}(ho : -1440≤off∧off≤1440)(hd : -100≤d∧d≤6000):T90 e off d=some (timeS e off d):=by
 have h8:=F.t8
 have h9:=F.t9
 have h1:mulI .i64 d 86400000=d*86400000:=mulI_eq (by omega) (by omega)
 have h2:mulI .i64 off 60000=off*60000:=mulI_eq (by omega) (by omega)
 have h3:mulI .i64 e.f8 60000=e.f8*60000:=mulI_eq (by omega) (by omega)
 have h4:mulI .i64 e.f9 60000=e.f9*60000:=mulI_eq (by omega) (by omega)
 have h5:addI .i64 e.f9 1440=e.f9+1440:=addI_eq (by omega) (by omega)
 have h6:mulI .i64 (e.f9+1440) 60000=(e.f9+1440)*60000:=mulI_eq (by omega) (by omega)
 have h7:subI .i64 (d*86400000) (off*60000)=d*86400000-off*60000:=subI_eq (by omega) (by omega)
 have h10:addI .i64 (d*86400000-off*60000) (e.f8*60000)=d*86400000-off*60000+e.f8*60000:=addI_eq (by omega) (by omega)
 have h11:addI .i64 (d*86400000-off*60000) (e.f9*60000)=d*86400000-off*60000+e.f9*60000:=addI_eq (by omega) (by omega)
 have h12:addI .i64 (d*86400000-off*60000) ((e.f9+1440)*60000)=d*86400000-off*60000+(e.f9+1440)*60000:=addI_eq (by omega) (by omega)
 unfold T90 timeS
 simp only[h1,h2,h3,h4,h5,h6,h7,h10,h11,h12]
 cases leI e.f9 e.f8<;>rfl
theorem day_eq{e:S36}(F:Fine e)(d:Int):T91 e d=some (dayB e d):=by
 by_cases h:0≤d∧d≤4000
 ·exact T91_eq F h
 ·have hs:=F.span
  have ho:outB d e.f3 e.f4=true:=by
   unfold outB
   rw[Bool.or_eq_true,ltI_iff,ltI_iff,decide_eq_true_eq,decide_eq_true_eq]
   omega
  unfold T91 dayB
  rw[T41_eq,inB,ho]
  rfl
theorem floor_ok(x:Int)(h : -1000000000000≤x∧x≤1000000000000):∃q,T100 x 86400000=some q∧q*86400000≤x∧x<(q+1)*86400000:=by
 obtain⟨q0,hq,b1,b2,_⟩:=quo_spec x h
 have h2:=Int.mul_tdiv_add_tmod x 86400000
 have h3:=Int.tmod_lt_of_pos x (show(0:Int)<86400000 by decide)
 have h4:=Int.lt_tmod_of_pos x (show(0:Int)<86400000 by decide)
 have hr:remO .i64 x 86400000=some (x.tmod 86400000):=by unfold remO;rw[if_neg (by decide)]
 have hqq:quoO .i64 x 86400000=some (quoI .i64 x 86400000):=by unfold quoO quoI;rw[if_neg (by decide)]
 have hqt:quoI .i64 x 86400000=x.tdiv 86400000:=by
  unfold quoI
  exact IntWalk.i64_in _ ⟨by omega,by omega⟩
 unfold T100
 by_cases hn:x.tmod 86400000<0
 ·refine⟨x.tdiv 86400000-1,bs hr (ct (ltI_t hn) (bs hqq ?_)),by omega,by omega⟩
  rw[hqt,subI_eq (by omega) (by omega)]
 ·refine⟨x.tdiv 86400000,bs hr (cf (ltI_f (by omega)) (bs hqq ?_)),by omega,by omega⟩
  rw[hqt]
def hitB(e:S36)(z t d:Int):Bool := !e.f12&&(dayB e d&&(leI (timeS e z d).f0 t&&ltI t (timeS e z d).f1))
theorem hitB_iff{e:S36}{z t d:Int}(F:Fine e):hitB e z t d=true↔e.f12=false∧e.f3≤d∧d≤e.f4∧dayB e d=true∧(timeS e z d).f0<t+1∧t<(timeS e z d).f1:=by
 unfold hitB
 rw[Bool.and_eq_true,Bool.and_eq_true,Bool.and_eq_true,leI_iff,ltI_iff,decide_eq_true_eq,decide_eq_true_eq,Bool.not_eq_true']
 constructor
 ·rintro⟨h1,h2,h3,h4⟩
  have h5:outB d e.f3 e.f4=false:=by
   unfold dayB at h2
   cases ho:outB d e.f3 e.f4 with
   | false=>rfl
   | true=>rw[ho]at h2;cases h2
  obtain⟨h6,h7⟩:=outB_false h5
  exact⟨h1,h6,h7,h2,by omega,h4⟩
 ·rintro⟨h1,_,_,h2,h3,h4⟩
  exact⟨h1,h2,by omega,h4⟩
theorem shown_hit{e:S36}{z t:Int}{x:S32}(F:Fine e):Shown e z ⟨t,t+1⟩ x↔∃d,hitB e z t d=true∧x=timeS e z d:=by
 unfold Shown
 constructor
 ·rintro⟨h1,d,h2,h3,h4,rfl,h5,h6⟩
  exact⟨d,(hitB_iff F).2 ⟨h1,h2,h3,h4,h5,h6⟩,rfl⟩
 ·rintro⟨d,h,rfl⟩
  obtain⟨h1,h2,h3,h4,h5,h6⟩:=(hitB_iff F).1 h
  exact⟨h1,d,h2,h3,h4,rfl,h5,h6⟩
theorem timeS_next{e:S36}(F:Fine e)(z d:Int):(timeS e z d).f1≤d*86400000-z*60000+e.f8*60000+86400000∧(timeS e z d).f0=d*86400000-z*60000+e.f8*60000:=by
 have h8:=F.t8
 have h9:=F.t9
 have e1:(timeS e z d).f1=d*86400000-z*60000+(bif leI e.f9 e.f8 then e.f9+1440 else e.f9)*60000:=rfl
 refine⟨?_,rfl⟩
 rw[e1]
 cases h:leI e.f9 e.f8 with
 | true=>
   rw[leI_iff,decide_eq_true_eq]at h
   rw[cond_true]
   omega
 | false=>
   rw[leI_iff,decide_eq_false_iff_not]at h
   rw[cond_false]
   omega
theorem hit_one{e:S36}{z t d d':Int}(F:Fine e)(h:hitB e z t d=true)(h':hitB e z t d'=true):d=d':=by
 obtain⟨_,_,_,_,h1,h2⟩:=(hitB_iff F).1 h
 obtain⟨_,_,_,_,h3,h4⟩:=(hitB_iff F).1 h'
 have a:=timeS_next F z d
 have b:=timeS_next F z d'
 omega
theorem shown_one{e:S36}{z t:Int}{x y:S32}(F:Fine e)(h:Shown e z ⟨t,t+1⟩ x)(h':Shown e z ⟨t,t+1⟩ y):x=y:=by
 obtain⟨d,h1,rfl⟩:=(shown_hit F).1 h
 obtain⟨d',h2,rfl⟩:=(shown_hit F).1 h'
 rw[hit_one F h1 h2]
theorem began_ok{e:S36}{z t:Int}(F:Fine e)(hz : -1440≤z∧z≤1440)(h0:0≤t)(h1:t≤400000000000) :
  (∃ x,Shown e z ⟨t,t+1⟩ x∧T78 e z t=some (x.f0,true))∨((∀ x,¬Shown e z ⟨t,t+1⟩ x)∧T78 e z t=some (0,false)):=by
 have em:mulI .i64 z 60000=z*60000:=mulI_eq (by omega) (by omega)
 have ea:addI .i64 t (z*60000)=t+z*60000:=addI_eq (by omega) (by omega)
 obtain⟨q,hq,q1,q2⟩:=floor_ok (t+z*60000) ⟨by omega,by omega⟩
 have es:subI .i64 q 1=q-1:=subI_eq (by omega) (by omega)
 have step:∀(i:Nat)(d:Int),i<2→([q-1,q]:List Int)[i]? = some d→L78_3 e z t q ([q-1,q],(i:Int))=some (bif hitB e z t d then .inr (.inr (timeS e z d).f0)else .inl ([q-1,q],((i+1:Nat):Int))):=by
  intro i d hi hd
  have hdd:d=q-1∨d=q:=by
   have:i=0∨i=1:=by omega
   rcases this with rfl|rfl
   ·simp at hd;exact .inl hd.symm
   ·simp at hd;exact .inr hd.symm
  have ht:=time_eq F hz (d:=d) ⟨by omega,by omega⟩
  have hdy:=day_eq F d
  have hl:ltI (i:Int) (lenL ([subI .i64 q 1,q]:List Int))=true:=by rw[ltI_iff,lenL_eq];simp;omega
  unfold L78_3 hitB
  refine ct hl (bs (idx_nat (by simpa using hi)) (bs (getN_some hd) (bs ht ?_)))
  simp only
  rw[nextI (by omega)]
  cases e.f12 with
  | true=>rfl
  | false=>
    refine ct rfl (bs hdy ?_)
    cases dayB e d with
    | false=>rfl
    | true=>
      cases leI (timeS e z d).f0 t with
      | false=>rfl
      | true=>cases ltI t (timeS e z d).f1<;>rfl
 have s0:=step 0 (q-1) (by omega) rfl
 have s1:=step 1 q (by omega) rfl
 have en:L78_3 e z t q ([q-1,q],((2:Nat):Int))=some (.inr (.inl (2,false,[q-1,q]))):=by
  unfold L78_3
  rfl
 have fin:∀r,iter (L78_3 e z t q) ([q-1,q],((0:Nat):Int))=some r→T78 e z t=some (Sum.elim (fun _=>(0,false)) (fun b=>(b,true)) r):=by
  intro r hr
  unfold T78
  rw[em,ea]
  refine bs hq ?_
  rw[es]
  refine bs hr ?_
  cases r<;>rfl
 cases b0:hitB e z t (q-1)with
 | true=>
   rw[b0]at s0
   exact .inl ⟨_,(shown_hit F).2 ⟨_,b0,rfl⟩,fin _ (iter_inr s0)⟩
 | false=>
   rw[b0]at s0
   cases b1:hitB e z t q with
   | true=>
     rw[b1]at s1
     exact .inl ⟨_,(shown_hit F).2 ⟨_,b1,rfl⟩,fin _ ((iter_inl s0).trans (iter_inr s1))⟩
   | false=>
     rw[b1]at s1
     refine .inr ⟨fun x hx=>?_,fin _ ((iter_inl s0).trans ((iter_inl s1).trans (iter_inr en)))⟩
     obtain⟨d,hd,rfl⟩:=(shown_hit F).1 hx
     obtain⟨_,_,_,_,g1,g2⟩:=(hitB_iff F).1 hd
     have ht:=timeS_span F z d
     have:d=q-1∨d=q:=by omega
     rcases this with rfl|rfl
     ·rw[b0]at hd;cases hd
     ·rw[b1]at hd;cases hd
def onB(p:S24)(t:Int)(e:S36):Bool:=((rawL e p.f2 ⟨t,t+1⟩).length != 0)&&fitsB e p
def atE(p:S24)(t:Int)(e:S36):S78:=⟨some e,((rawL e p.f2 ⟨t,t+1⟩)[0]?).getD ⟨0,0⟩⟩
theorem coll_one{α:Type}(g:Int→Option α)(h:∀d d' x y,g d=some x→g d'=some y→d=d'):∀(n:Nat)(a:Int),(coll g a n).length≤1
 | 0,a=>by simp[coll]
 | n+1,a=>by
   rw[coll,List.length_append]
   cases hg:g a with
   | none=>simpa using coll_one g h n (a+1)
   | some x=>
     have:coll g (a+1) n=[]:=coll_none g n (a+1) fun d h1 h2=>by
      cases hd:g d with
      | none=>rfl
      | some y=>
        have:=h a d x y hg hd
        omega
     rw[this]
     simp
theorem raw_one{e:S36}{z t:Int}(F:Fine e):(rawL e z ⟨t,t+1⟩).length≤1:=by
 unfold rawL
 cases hp:e.f12 with
 | true=>exact Nat.zero_le _
 | false=>
   refine coll_one _ (fun d d' x y h h'=>?_) _ _
   obtain⟨h1,rfl,h2,h3⟩:=rawG_some.1 h
   obtain⟨g1,rfl,g2,g3⟩:=rawG_some.1 h'
   have a:=timeS_next F z d
   have b:=timeS_next F z d'
   simp only at h2 h3 g2 g3
   omega
theorem raw_case{e:S36}{z t:Int}(F:Fine e):(rawL e z ⟨t,t+1⟩=[]∧∀x,¬Shown e z ⟨t,t+1⟩ x)∨∃x,rawL e z ⟨t,t+1⟩=[x]∧Shown e z ⟨t,t+1⟩ x:=by
 have h1:=raw_one (z:=z) (t:=t) F
 match hr:rawL e z ⟨t,t+1⟩with
 | []=>
   refine .inl ⟨rfl,fun x hx=>?_⟩
   have:=(mem_raw F).2 hx
   rw[hr]at this
   cases this
 | [x]=>exact .inr ⟨x,rfl,(mem_raw F).1 (by rw[hr];exact List.mem_singleton.2 rfl)⟩
 | _::_::_=>rw[hr]at h1;simp at h1
theorem began_on{e:S36}{p:S24}{t:Int}(F:Fine e)(hp:OkP p)(h0:0≤t)(h1:t≤400000000000):∃b,T78 e p.f2 t=some (b,(rawL e p.f2 ⟨t,t+1⟩).length != 0)∧((rawL e p.f2 ⟨t,t+1⟩).length≠0→b=(atE p t e).f1.f0):=by
 rcases raw_case (z:=p.f2) (t:=t) F with⟨h2,h3⟩|⟨x,h2,h3⟩
 ·rcases began_ok F hp.zone h0 h1 with⟨y,h4,_⟩|⟨_,h5⟩
  ·exact absurd h4 (h3 y)
  ·exact⟨0,by rw[h5,h2];rfl,fun h=>absurd (by rw[h2];rfl) h⟩
 ·rcases began_ok F hp.zone h0 h1 with⟨y,h4,h5⟩|⟨h4,_⟩
  ·have:=shown_one F h3 h4
   subst this
   exact⟨x.f0,by rw[h5,h2];rfl,fun _=>by unfold atE;rw[h2];rfl⟩
  ·exact absurd h3 (h4 x)
theorem spans_at{a:List S36}{p:S24}{t:Int}(ha:∀e∈a,OkE e):spansL a p ⟨t,t+1⟩=(a.filter (onB p t)).map (atE p t):=by
 unfold spansL
 induction a with
 | nil=>rfl
 | cons e a ih=>
   rw[List.flatMap_cons,ih fun x hx=>ha x (List.mem_cons_of_mem _ hx)]
   cases hf:fitsB e p with
   | false=>
     have:onB p t e=false:=by unfold onB;rw[hf,Bool.and_false]
     rw[List.filter_cons_of_neg (by rw[this];decide)]
     rfl
   | true=>
     rcases raw_case (z:=p.f2) (t:=t) (ha e List.mem_cons_self).fine with⟨h2,_⟩|⟨x,h2,_⟩
     ·have:onB p t e=false:=by unfold onB;rw[h2];rfl
      rw[List.filter_cons_of_neg (by rw[this];decide),h2]
      rfl
     ·have:onB p t e=true:=by unfold onB;rw[h2,hf];rfl
      have e1:atE p t e=⟨some e,x⟩:=by unfold atE;rw[h2];rfl
      rw[List.filter_cons_of_pos this,List.map_cons,e1,h2]
      rfl
theorem sortO_map{α β:Type}(f:α→β)(cmp:α→α→Option Int)(cmp':β→β→Option Int)(l:List α)(h:∀x∈l,∀y∈l,∃n m,cmp x y=some n∧cmp' (f x) (f y)=some m∧(n<0↔m<0)) :
  sortO cmp' (l.map f)=(sortO cmp l).map (List.map f):=by
 have hlt:ltT cmp' (l.map f)=ltT cmp l:=by
  funext i j
  unfold ltT
  rw[List.length_map,List.getElem?_map,List.getElem?_map]
  cases hi:l[min i (l.length-1)]? with
  | none=>rfl
  | some x=>
    cases hj:l[min j (l.length-1)]? with
    | none=>rfl
    | some y=>
      obtain⟨n,m,h1,h2,h3⟩:=h x (List.mem_of_getElem? hi) y (List.mem_of_getElem? hj)
      simp only[Option.map_some,h1,h2,Option.getD_some]
      rw[decide_eq_decide]
      exact h3.symm
 unfold sortO
 by_cases hne:l=[]
 ·subst hne
  rfl
 ·rw[if_neg (by simpa using hne),if_neg hne,hlt,List.length_map]
  have hs:(∀ x∈l.map f,∀y∈l.map f,(cmp' x y).isSome=true)↔∀x∈l,∀y∈l,(cmp x y).isSome=true:=by
   constructor
   ·intro _ x hx y hy
    obtain⟨n,m,h1,_⟩:=h x hx y hy
    rw[h1];rfl
   ·intro _ x hx y hy
    obtain⟨x',hx',rfl⟩:=List.mem_map.1 hx
    obtain⟨y',hy',rfl⟩:=List.mem_map.1 hy
    obtain⟨n,m,_,h2,_⟩:=h x' hx' y' hy'
    rw[h2];rfl
  have hb:∀n:Nat,(List.filterMap (fun i=>(l.map f)[i]?) (sortIx (ltT cmp l) n))=(List.filterMap (fun i=>l[i]?) (sortIx (ltT cmp l) n)).map f:=by
   intro n
   rw[List.map_filterMap]
   congr 1
   funext i
   exact List.getElem?_map ..
  by_cases hc:l.length<4611686018427387904∧(∀ x∈l,∀y∈l,(cmp x y).isSome=true)∧Go.Sort.SWO (ltT cmp l)
  ·rw[if_pos hc,if_pos ⟨hc.1,hs.2 hc.2.1,hc.2.2⟩,Option.map_some,hb]
  ·rw[if_neg hc,if_neg fun q=>hc ⟨q.1,hs.1 q.2.1,q.2.2⟩]
   rfl
theorem cmp_two(a b c d:Int):∃n,T82 [a,b] [c,d]=some n∧(n<0↔a<c∨(a=c∧b<d))∧(n=0↔a=c∧b=d):=by
 have s0:L82_2 [a,b] [c,d] ((0:Nat):Int)=some (if a≠c then .inr (.inr (if a<c then -1 else 1))else .inl ((1:Nat):Int)):=by
  unfold L82_2
  refine ct rfl (bs (a:=a) rfl (cf rfl (bs (a:=c) rfl (bs (t146 a c) ?_))))
  by_cases h1:a<c
  ·rw[if_pos h1,if_pos (by omega),if_pos h1];rfl
  ·by_cases h2:c<a
   ·rw[if_neg h1,if_pos h2,if_pos (by omega),if_neg h1];rfl
   ·rw[if_neg h1,if_neg h2,if_neg (by omega)];rfl
 have s1:L82_2 [a,b] [c,d] ((1:Nat):Int)=some (if b≠d then .inr (.inr (if b<d then -1 else 1))else .inl ((2:Nat):Int)):=by
  unfold L82_2
  refine ct rfl (bs (a:=b) rfl (cf rfl (bs (a:=d) rfl (bs (t146 b d) ?_))))
  by_cases h1:b<d
  ·rw[if_pos h1,if_pos (by omega),if_pos h1];rfl
  ·by_cases h2:d<b
   ·rw[if_neg h1,if_pos h2,if_pos (by omega),if_neg h1];rfl
   ·rw[if_neg h1,if_neg h2,if_neg (by omega)];rfl
 have s2:L82_2 [a,b] [c,d] ((2:Nat):Int)=some (.inr (.inl (2,false))):=rfl
 unfold T82
 by_cases h1:a=c
 ·rw[if_neg (by omega)]at s0
  by_cases h2:b=d
  ·rw[if_neg (by omega)]at s1
   refine⟨0,?_,by omega,by omega⟩
   rw[show (0:Int)=((0:Nat):Int)from rfl,iter_inl s0,iter_inl s1,iter_inr s2]
   rfl
  ·rw[if_pos h2]at s1
   refine⟨if b<d then -1 else 1,?_,?_,?_⟩
   ·rw[show (0:Int)=((0:Nat):Int)from rfl,iter_inl s0,iter_inr s1]
    rfl
   ·split<;>omega
   ·split<;>omega
 ·rw[if_pos h1]at s0
  refine⟨if a<c then -1 else 1,?_,?_,?_⟩
  ·rw[show (0:Int)=((0:Nat):Int)from rfl,iter_inr s0]
   rfl
  ·split<;>omega
  ·split<;>omega
theorem ref_cmp{p:S24}{t:Int}{x y:S36}(hp:OkP p)(h0:0≤t)(h1:t≤400000000000)(fx:Fine x)(fy:Fine y)(hx:onB p t x=true)(hy:onB p t y=true) :
  ∃n,T81 x y p.f0 p.f1 p.f2 p.f3 t=some n∧(n<0↔ahead (atE p t x) (atE p t y)):=by
 unfold onB at hx hy
 simp only[Bool.and_eq_true,bne_iff_ne]at hx hy
 obtain⟨bx,ex,ex2⟩:=began_on fx hp h0 h1
 obtain⟨b_y,ey,ey2⟩:=began_on fy hp h0 h1
 have ex2:=ex2 hx.1
 have ey2:=ey2 hy.1
 obtain⟨n,h2,h3,h4⟩:=cmp_two y.f10 b_y x.f10 bx
 unfold T81
 have px:pr (atE p t x)=x.f10:=rfl
 have py:pr (atE p t y)=y.f10:=rfl
 have kx:ke (atE p t x)=x.f0:=rfl
 have ky:ke (atE p t y)=y.f0:=rfl
 unfold ahead
 rw[px,py,kx,ky,←ex2,←ey2]
 by_cases hn:n=0
 ·have:=h4.1 hn
  refine⟨_,bs ex (bs ey (bs h2 (cf (neI_f hn) (bs (a:=cmpS y.f0 x.f0) (by unfold T83;rfl) rfl)))),?_⟩
  rw[cmpS_eq]
  by_cases c1:ltS y.f0 x.f0=true
  ·rw[if_pos c1]
   simp[c1]
   omega
  ·rw[if_neg c1]
   by_cases c2:ltS x.f0 y.f0=true
   ·rw[if_pos c2]
    simp[c1]
    omega
   ·rw[if_neg c2]
    simp[c1]
    omega
 ·refine⟨n,bs ex (bs ey (bs h2 (ct (neI_t hn) rfl))),?_⟩
  rw[h3]
  have hne:¬(y.f10=x.f10∧b_y=bx):=fun q=>hn (h4.2 q)
  constructor
  ·rintro(h|h)
   ·exact .inl h
   ·exact .inr ⟨h.1.symm,.inl h.2⟩
  ·rintro(h|⟨h,h'|h'⟩)
   ·exact .inl h
   ·exact .inr ⟨h.symm,h'⟩
   ·exact absurd ⟨h.symm,h'.1.symm⟩ hne
theorem why_list{a:List S36}{p:S24}{t:Int}(ha:OkL a)(hp:OkP p)(h0:0≤t)(h1:t≤400000000000):iter (L48_3 a p t) ([],0)=some ((a.length:Int),false,a.filter (onB p t)):=by
 have hlen:=ha.1.len
 obtain⟨r,h3,h4⟩:=iter_up (st:=L48_3 a p t) (fun(s:List S36)(i:Nat)=>(s,(i:Int))) a.length
  (fun i s=>s=(a.take i).filter (onB p t)) (fun r=>r=((a.length:Int),false,a.filter (onB p t)))
  (fun i s hi hI=>by
   have hx:=List.getElem?_eq_getElem hi
   have he:=ha.2 _ (List.getElem_mem hi)
   obtain⟨b,hb,_⟩:=began_on he.fine hp h0 h1
   have hf:=T79_eq a[i] p he.l11 hp.len
   have hl:s.length≤1000:=by
    rw[hI]
    refine Nat.le_trans (List.length_filter_le _ _) ?_
    rw[List.length_take]
    omega
   have hn:(a.take (i+1)).filter (onB p t)=s++(if onB p t a[i]then [a[i]]else []):=by
    rw[take_next hx,List.filter_append,hI]
    congr 1
    cases hq:onB p t a[i]with
    | false=>rw[List.filter_cons_of_neg (by rw[hq];decide)];rfl
    | true=>rw[List.filter_cons_of_pos hq];rfl
   unfold L48_3
   cases h5:(rawL a[i] p.f2 ⟨t,t+1⟩).length != 0 with
   | false=>
     have h6:onB p t a[i]=false:=by unfold onB;rw[h5];rfl
     rw[h6]at hn
     refine⟨s,ct (ltL_true hi) (bs (listAt_some hx) (bs hb (cf h5 ?_))),by rw[hn];simp⟩
     simp only
     rw[nextI (by omega)]
   | true=>
     cases h7:fitsB a[i] p with
     | false=>
       have h6:onB p t a[i]=false:=by unfold onB;rw[h7,Bool.and_false]
       rw[h6]at hn
       refine⟨s,ct (ltL_true hi) (bs (listAt_some hx) (bs hb (ct h5 (bs (hf.trans (congrArg some h7)) (cf rfl ?_))))),by rw[hn];simp⟩
       simp only
       rw[nextI (by omega)]
     | true=>
       have h6:onB p t a[i]=true:=by unfold onB;rw[h5,h7];rfl
       rw[h6]at hn
       refine⟨s++[a[i]],ct (ltL_true hi) (bs (listAt_some hx) (bs hb (ct h5 (bs (hf.trans (congrArg some h7)) (ct rfl (bs (appO_eq (by simp;omega) (by simp;omega)) ?_)))))),by rw[hn];simp⟩
       simp only
       rw[nextI (by omega)])
  (fun s hI=>by
   refine⟨((a.length:Int),false,s),?_,by rw[hI,List.take_length]⟩
   unfold L48_3
   refine cf (ltL_false (Nat.le_refl _)) ?_
   rw[ltL_false (Nat.le_refl _)]) [] rfl
 rw[← h4]
 exact h3
theorem on_both{a:List S36}{p:S24}{t:Int}(ha:OkL a)(hp:OkP p)(h0:0≤t)(h1:t≤400000000000) :
  ∃l,T48 a p t=some l∧sortO (fun x y=>T68 x y) (spansL a p ⟨t,t+1⟩)=some (l.map (atE p t))∧l.length≤200∧(∀ e∈l,e∈a)∧(∀ s,s∈l.map (atE p t)↔Act a p t s)∧∀m,l[0]? = some m→Best (l.map (atE p t)) (atE p t m):=by
 have hlen:=ha.1.len
 have hmem:∀x∈a.filter (onB p t),x∈a∧onB p t x=true:=fun x hx=>List.mem_filter.1 hx
 have hL:(a.filter (onB p t)).length≤200:=Nat.le_trans (List.length_filter_le _ _) hlen
 have hc:∀x∈a.filter (onB p t),∀y∈a.filter (onB p t),∃n,T81 x y p.f0 p.f1 p.f2 p.f3 t=some n∧(n<0↔ahead (atE p t x) (atE p t y)):=fun x hx y hy=>
  ref_cmp hp h0 h1 (ha.2 x (hmem x hx).1).fine (ha.2 y (hmem y hy).1).fine (hmem x hx).2 (hmem y hy).2
 obtain⟨l,h2,h3,h4⟩:=sortO_le (fun x y=>T81 x y p.f0 p.f1 p.f2 p.f3 t) (fun x y=>¬ahead (atE p t y) (atE p t x)) (fun x y=>Classical.byContradiction fun h=>ahead_asymm (Classical.not_not.1 fun h'=>h (.inl h')) (Classical.not_not.1 fun h'=>h (.inr h')))
  (fun x y z h1 h2 h=>by
   rcases ahead_neg (b:=atE p t y) h with h|h
   ·exact h2 h
   ·exact h1 h) (a.filter (onB p t)) (by omega) (fun x hx y hy=>by
   obtain⟨n,hn,hn2⟩:=hc x hx y hy
   exact⟨n,hn,hn2.trans Classical.not_not.symm⟩)
 refine⟨l,?_,?_,by rw[h3.length_eq];exact hL,fun e he=>(hmem e (h3.mem_iff.1 he)).1,fun s=>?_,fun m hm=>?_⟩
 ·unfold T48
  exact bs (why_list ha hp h0 h1) (bs h2 rfl)
 ·rw[spans_at ha.2,sortO_map (atE p t) (fun x y=>T81 x y p.f0 p.f1 p.f2 p.f3 t) (fun x y=>T68 x y) (a.filter (onB p t)) fun x hx y hy=>?_,h2]
  ·rfl
  ·obtain⟨n,hn,hn2⟩:=hc x hx y hy
   obtain⟨m,hm,hm2⟩:=cmp_ok (a:=atE p t x) (b:=atE p t y) rfl rfl
   exact⟨n,m,hn,hm,hn2.trans hm2.symm⟩
 ·rw[(h3.map (atE p t)).mem_iff,←spans_at ha.2]
  exact mem_spans ha.2 s
 ·cases l with
  | nil=>simp at hm
  | cons x rest=>
    simp only[List.getElem?_cons_zero,Option.some.injEq]at hm
    subst hm
    refine⟨by simp,fun s hs=>?_⟩
    rw[List.map_cons]at hs
    rcases List.mem_cons.1 hs with rfl|hs
    ·exact fun h=>ahead_asymm h h
    ·obtain⟨y,hy,rfl⟩:=List.mem_map.1 hs
     exact(List.pairwise_cons.1 h4).1 y hy
end Go.Abs.TUX
set_option linter.unusedVariables false
set_option linter.unusedSimpArgs false
set_option maxRecDepth 10000
namespace Go.Abs.TUX
open Go.RowKit Go.Proofs Go.Abs
theorem keyAt_one{a:List S36}{p:S24}{t:Int}{k k':ByteArray}(h:KeyAt a p t k)(h':KeyAt a p t k'):k=k':=by
 rcases h with⟨h1,rfl⟩|⟨l,m,h1,h2,rfl⟩<;>rcases h' with⟨g1,rfl⟩|⟨l',m',g1,g2,rfl⟩
 ·rfl
 ·exact absurd ((g1 m').1 g2.1) (h1 m')
 ·exact absurd ((h1 m).1 h2.1) (g1 m)
 ·exact best_key (fun x=>(h1 x).trans (g1 x).symm) h2 g2
theorem mem_times{e:S36}{z:Int}{w x:S32}(F:Fine e):x∈timesL e z w↔e.f12=false∧∃d,e.f3≤d∧d≤e.f4∧dayB e d=true∧max (timeS e z d).f0 w.f0<min (timeS e z d).f1 w.f1∧x=cutW w (timeS e z d):=by
 have hs:=F.span
 unfold timesL
 rw[mem_coll]
 constructor
 ·rintro⟨d,h1,h2,h3⟩
  unfold dayG at h3
  cases hp:e.f12<;>rw[hp]at h3;rotate_left; · cases h3
  cases hb:dayB e d<;>rw[hb]at h3; · cases h3
  cases hh:hit w (timeS e z d)<;>rw[hh]at h3; · cases h3
  cases h3
  unfold hit at hh
  rw[ltI_iff,decide_eq_true_eq]at hh
  exact⟨rfl,d,h1,by omega,hb,hh,rfl⟩
 ·rintro⟨hp,d,h1,h2,hb,hh,rfl⟩
  refine⟨d,h1,by omega,?_⟩
  unfold dayG hit
  rw[hp,hb,ltI_t hh]
  rfl
theorem times_len{e:S36}{z:Int}{w:S32}(F:Fine e):(timesL e z w).length≤4001:=by
 have hs:=F.span
 refine Nat.le_trans (coll_len _ _ _) ?_
 omega
theorem in_loop{a:List S36}{z:Int}{w:S32}{z0:List Int×Int}{l:List S32}(hl:l.length≤4001)(hz:z0.1.length≤10000000) :
  ∃out,iter (L60_6 a z w z0 l) (z0.1,l,0)=some ((l.length:Int),false,out,l)∧out.length=z0.1.length+2*l.length∧∀x,x∈out↔x∈z0.1∨∃y∈l,x=y.f0∨x=y.f1:=by
 obtain⟨r,h2,out,h3,h4,h5⟩:=iter_up (st:=L60_6 a z w z0 l) (fun(s:List Int)(i:Nat)=>(s,l,(i:Int))) l.length
  (fun i s=>s.length=z0.1.length+2*i∧∀x,x∈s↔x∈z0.1∨∃y∈l.take i,x=y.f0∨x=y.f1)
  (fun r=>∃out,r=((l.length:Int),false,out,l)∧out.length=z0.1.length+2*l.length∧∀x,x∈out↔x∈z0.1∨∃y∈l,x=y.f0∨x=y.f1)
  (fun i s hi hI=>by
   have hx:=List.getElem?_eq_getElem hi
   refine⟨s++[l[i].f0,l[i].f1],?_,by simp;omega,fun x=>?_⟩
   ·unfold L60_6
    refine ct (ltL_true hi) (bs (idx_nat hi) (bs (getN_some hx) (bs (appO_big (by omega) (by simp;omega)) ?_)))
    simp only
    rw[nextI (by omega)]
   ·rw[List.mem_append,hI.2 x,take_next hx]
    simp only[List.mem_cons,List.not_mem_nil,or_false,List.mem_append]
    constructor
    ·rintro((h|⟨y,h,h'⟩)|h)
     ·exact .inl h
     ·exact .inr ⟨y,.inl h,h'⟩
     ·exact .inr ⟨_,.inr rfl,h⟩
    ·rintro(h|⟨y,h|rfl,h'⟩)
     ·exact .inl (.inl h)
     ·exact .inl (.inr ⟨y,h,h'⟩)
     ·exact .inr h')
  (fun s hI=>by
   refine⟨((l.length:Int),false,s,l),?_,s,rfl,hI.1,fun x=>?_⟩
   ·unfold L60_6
    refine cf (ltL_false (Nat.le_refl _)) ?_
    rw[ltL_false (Nat.le_refl _)]
   ·rw[hI.2 x,List.take_length]) z0.1 (by simp)
 refine⟨out,?_,h4,h5⟩
 rw[← h3]
 exact h2
theorem bounds_ok{a:List S36}{z:Int}{w:S32}(ha:OkL a)(hz : -1440≤z∧z≤1440):∃es,T60 a z w=some es∧es.Pairwise (· < ·)∧es.length≤2000002∧∀x,x∈es↔x=w.f0∨x=w.f1∨∃e∈a,∃y∈timesL e z w,x=y.f0∨x=y.f1:=by
 have hlen:=ha.1.len
 obtain⟨r,h3,acc,h4,h5,h6⟩:=iter_up (st:=L60_3 a z w) (fun(s:List Int)(i:Nat)=>(s,(i:Int))) a.length
  (fun i s=>s.length≤2+8002*i∧∀x,x∈s↔x=w.f0∨x=w.f1∨∃e∈a.take i,∃y∈timesL e z w,x=y.f0∨x=y.f1)
  (fun r=>∃acc,r=((a.length:Int),false,acc)∧acc.length≤2+8002*a.length∧∀x,x∈acc↔x=w.f0∨x=w.f1∨∃e∈a,∃y∈timesL e z w,x=y.f0∨x=y.f1)
  (fun i s hi hI=>by
   have hx:=List.getElem?_eq_getElem hi
   have he:=ha.2 _ (List.getElem_mem hi)
   have hl:=times_len (z:=z) (w:=w) he.fine
   obtain⟨out,g1,g2,g3⟩:=in_loop (a:=a) (z:=z) (w:=w) (z0:=(s,(i:Int))) hl (by simp only;omega)
   refine⟨out,?_,by simp only at g2;omega,fun x=>?_⟩
   ·unfold L60_3
    refine ct (ltL_true hi) (bs (listAt_some hx) (bs (T63_eq he.fine hz w) (bs g1 ?_)))
    simp only
    rw[nextI (by omega)]
   ·rw[g3 x]
    simp only
    rw[hI.2 x,take_next hx]
    simp only[List.mem_append,List.mem_singleton]
    constructor
    ·rintro((h|h|⟨e,h,h'⟩)|⟨y,h,h'⟩)
     ·exact .inl h
     ·exact .inr (.inl h)
     ·exact .inr (.inr ⟨e,.inl h,h'⟩)
     ·exact .inr (.inr ⟨_,.inr rfl,y,h,h'⟩)
    ·rintro(h|h|⟨e,h|rfl,y,h',h''⟩)
     ·exact .inl (.inl h)
     ·exact .inl (.inr (.inl h))
     ·exact .inl (.inr (.inr ⟨e,h,y,h',h''⟩))
     ·exact .inr ⟨y,h',h''⟩)
  (fun s hI=>by
   refine⟨((a.length:Int),false,s),?_,s,rfl,hI.1,fun x=>?_⟩
   ·unfold L60_3
    refine cf (ltL_false (Nat.le_refl _)) ?_
    rw[ltL_false (Nat.le_refl _)]
   ·rw[hI.2 x,List.take_length]) [w.f0,w.f1] (by simp)
 obtain⟨c1,c2⟩:=compact_facts (sortI acc) (sortI_sorted acc)
 have hsl:(sortI acc).length=acc.length:=(sortI_perm acc).length_eq
 refine⟨Lib.compact (sortI acc),?_,c1,?_,fun x=>?_⟩
 ·unfold T60
  refine bs (a:=((a.length:Int),false,acc)) ?_ ?_
  ·rw[← h4,←h3]
   rfl
  ·unfold sortIO compIO
   simp only
   rw[if_pos (by omega)]
   rfl
 ·have:=Lib.compact_length_le (sortI acc)
  omega
 ·rw[c2,(sortI_perm acc).mem_iff,h6 x]
theorem same_act{a:List S36}{p:S24}{w:S32}{t t':Int}(ha:OkL a)(h0:w.f0≤t)(h1:t≤t')(h2:t'<w.f1)(hg:∀e∈a,∀y∈timesL e p.f2 w,∀x,x=y.f0∨x=y.f1→¬(t<x∧x≤t'))(s:S78):Act a p t s↔Act a p t' s:=by
 have key:∀e∈a,∀x,Shown e p.f2 ⟨t,t+1⟩ x↔Shown e p.f2 ⟨t',t'+1⟩ x:=fun e he x=>by
  have F:=(ha.2 e he).fine
  unfold Shown
  constructor
  ·rintro⟨g1,d,g2,g3,g4,rfl,g5,g6⟩
   simp only at g5 g6
   have hm:=(mem_times (z:=p.f2) (w:=w) F).2 ⟨g1,d,g2,g3,g4,by omega,rfl⟩
   have:=hg e he _ hm (min (timeS e p.f2 d).f1 w.f1) (.inr rfl)
   exact⟨g1,d,g2,g3,g4,rfl,by simp only;omega,by simp only;omega⟩
  ·rintro⟨g1,d,g2,g3,g4,rfl,g5,g6⟩
   simp only at g5 g6
   have hm:=(mem_times (z:=p.f2) (w:=w) F).2 ⟨g1,d,g2,g3,g4,by omega,rfl⟩
   have:=hg e he _ hm (max (timeS e p.f2 d).f0 w.f0) (.inl rfl)
   exact⟨g1,d,g2,g3,g4,rfl,by simp only;omega,by simp only;omega⟩
 unfold Act
 constructor
 ·rintro⟨e,g1,g2,g3,g4⟩
  exact⟨e,g1,g2,g3,(key e g1 _).1 g4⟩
 ·rintro⟨e,g1,g2,g3,g4⟩
  exact⟨e,g1,g2,g3,(key e g1 _).2 g4⟩
theorem keyAt_same{a:List S36}{p:S24}{t t':Int}{k:ByteArray}(h:∀s,Act a p t s↔Act a p t' s)(hk:KeyAt a p t k):KeyAt a p t' k:=by
 rcases hk with⟨h1,rfl⟩|⟨l,m,h1,h2,rfl⟩
 ·exact .inl ⟨fun s hs=>h1 s ((h s).2 hs),rfl⟩
 ·exact .inr ⟨l,m,fun s=>(h1 s).trans (h s),h2,rfl⟩
theorem Cov.tail{K:Int→ByteArray→Prop}{x y:S82}{l:List S82}{lo hi:Int}(h:Cov K (x::y::l) lo hi):x.f0.f0=lo∧x.f0.f1=y.f0.f0∧x.f1≠y.f1∧Cov K (y::l) x.f0.f1 hi:=by
 have h0:=h.adj 0 x y rfl rfl
 have hf:=h.fst x rfl
 refine⟨hf,h0.1,h0.2,⟨by simp,?_,fun z hz=>h.key z (List.mem_cons_of_mem _ hz),fun j u v hu hv=>h.adj (j+1) u v hu hv,fun z hz=>?_,fun z hz=>h.lst z hz⟩⟩
 ·intro z hz
  have h1:=h.pos z (List.mem_cons_of_mem _ hz)
  refine⟨h1.1,?_,h1.2.2⟩
  obtain⟨j,hj⟩:=List.getElem?_of_mem hz
  clear h1
  induction j generalizing z with
  | zero=>cases hj;omega
  | succ j ih=>
    have hjl:=(List.getElem?_eq_some_iff.1 hj).1
    have hu:=List.getElem?_eq_getElem (l:=y::l) (show j<(y::l).length by omega)
    have h2:=h.adj (j+1) _ z hu hj
    have h3:=ih _ (List.getElem_mem _) hu
    have h4:=h.pos _ (List.mem_cons_of_mem x (List.getElem_mem (l:=y::l) (show j<(y::l).length by omega)))
    omega
 ·cases hz;exact h0.1.symm
end Go.Abs.TUX
set_option linter.unusedVariables false
set_option linter.unusedSimpArgs false
set_option maxRecDepth 10000
namespace Go.Abs.TUX
open Go.RowKit Go.Proofs Go.Abs
def InW(l:List S32)(t:Int):Prop:=∃w∈l,w.f0≤t∧t<w.f1
structure Wn(D:Int→Prop)(lo c:Int)(out:List S32):Prop where
 pos:∀w∈out,lo≤w.f0∧w.f0<w.f1∧w.f1≤c
 gap:out.Pairwise fun v w=>v.f1<w.f0
 set:∀t,InW out t↔lo≤t∧t<c∧D t
theorem inW_app{l l':List S32}{t:Int}:InW (l++l') t↔InW l t∨InW l' t:=by
 unfold InW
 constructor
 ·rintro⟨w,h,h'⟩
  rcases List.mem_append.1 h with h|h
  ·exact .inl ⟨w,h,h'⟩
  ·exact .inr ⟨w,h,h'⟩
 ·rintro(⟨w,h,h'⟩|⟨w,h,h'⟩)
  ·exact⟨w,List.mem_append_left _ h,h'⟩
  ·exact⟨w,List.mem_append_right _ h,h'⟩
theorem inW_one{w:S32}{t:Int}:InW [w] t↔w.f0≤t∧t<w.f1:=by
 unfold InW
 simp
theorem Wn.nil{D:Int→Prop}{lo:Int}:Wn D lo lo []:=⟨fun w h=>(by cases h),.nil,fun t=>by
 unfold InW
 simp
 omega⟩
theorem Wn.skip{D:Int→Prop}{lo c d:Int}{out:List S32}(h:Wn D lo c out)(hl:lo≤c)(hc:c<d)(hD:∀t,c≤t→t<d→¬D t):Wn D lo d out:=by
 refine⟨fun w hw=>by have:=h.pos w hw;omega,h.gap,fun t=>?_⟩
 rw[h.set t]
 constructor
 ·rintro⟨h1,h2,h3⟩
  exact⟨h1,by omega,h3⟩
 ·rintro⟨h1,h2,h3⟩
  refine⟨h1,?_,h3⟩
  refine Classical.byContradiction fun q=>hD t (by omega) h2 h3
def putW(out:List S32)(lo hi:Int):List S32:=match out.getLast? with
 | none=>[⟨lo,hi⟩]
 | some x=>if x.f1=lo then out.dropLast++[⟨x.f0,hi⟩]else out++[⟨lo,hi⟩]
theorem putW_len(out:List S32)(lo hi:Int):(putW out lo hi).length≤out.length+1:=by
 unfold putW
 split
 ·simp
 ·split<;>simp
theorem putW_ok{D:Int→Prop}{lo c d:Int}{out:List S32}(h:Wn D lo c out)(hl:lo≤c)(hc:c<d)(hD:∀t,c≤t→t<d→D t):Wn D lo d (putW out c d):=by
 have hset:∀t,(InW out t∨(c≤t∧t<d))↔lo≤t∧t<d∧D t:=fun t=>by
  rw[h.set t]
  constructor
  ·rintro(⟨h1,h2,h3⟩|⟨h1,h2⟩)
   ·exact⟨h1,by omega,h3⟩
   ·exact⟨by omega,h2,hD t h1 h2⟩
  ·rintro⟨h1,h2,h3⟩
   by_cases q:t<c
   ·exact .inl ⟨h1,q,h3⟩
   ·exact .inr ⟨by omega,h2⟩
 unfold putW
 rcases List.eq_nil_or_concat out with e|⟨pre,x,e⟩
 ·subst e
  refine⟨fun w hw=>?_,by simp,fun t=>?_⟩
  ·rw[List.getLast?_nil]at hw
   simp only[List.mem_singleton]at hw
   subst hw
   exact⟨hl,hc,Int.le_refl _⟩
  ·rw[← hset t,List.getLast?_nil]
   simp only
   rw[inW_one]
   constructor
   ·exact .inr
   ·rintro(⟨w,hw,_⟩|h)
    ·cases hw
    ·exact h
 ·rw[List.concat_eq_append]at e
  subst e
  rw[List.getLast?_concat]
  simp only
  have px:=h.pos x (by simp)
  have hg:=List.pairwise_append.1 h.gap
  by_cases q:x.f1=c
  ·rw[if_pos q,List.dropLast_concat]
   refine⟨fun w hw=>?_,List.pairwise_append.2 ⟨hg.1,by simp,fun v hv w hw=>?_⟩,fun t=>?_⟩
   ·rcases List.mem_append.1 hw with hw|hw
    ·have:=h.pos w (List.mem_append_left _ hw)
     omega
    ·simp only[List.mem_singleton]at hw
     subst hw
     exact⟨px.1,by simp only;omega,Int.le_refl _⟩
   ·simp only[List.mem_singleton]at hw
    subst hw
    exact hg.2.2 v hv x (by simp)
   ·rw[← hset t,inW_app,inW_app,inW_one,inW_one]
    simp only
    constructor
    ·rintro(h1|⟨h1,h2⟩)
     ·exact .inl (.inl h1)
     ·by_cases r:t<x.f1
      ·exact .inl (.inr ⟨h1,r⟩)
      ·exact .inr ⟨by omega,h2⟩
    ·rintro((h1|⟨h1,h2⟩)|⟨h1,h2⟩)
     ·exact .inl h1
     ·exact .inr ⟨h1,by omega⟩
     ·exact .inr ⟨by omega,h2⟩
  ·rw[if_neg q]
   refine⟨fun w hw=>?_,List.pairwise_append.2 ⟨h.gap,by simp,fun v hv w hw=>?_⟩,fun t=>?_⟩
   ·rcases List.mem_append.1 hw with hw|hw
    ·have:=h.pos w hw
     omega
    ·simp only[List.mem_singleton]at hw
     subst hw
     exact⟨hl,hc,Int.le_refl _⟩
   ·simp only[List.mem_singleton]at hw
    subst hw
    simp only
    rcases List.mem_append.1 hv with hv|hv
    ·have:=hg.2.2 v hv x (by simp)
     omega
    ·simp only[List.mem_singleton]at hv
     subst hv
     omega
   ·rw[← hset t,inW_app,inW_one]
theorem wn_one{D:Int→Prop}{lo c:Int}{l l':List S32}(h:Wn D lo c l)(h':Wn D lo c l'):l=l':=by
 have key:∀(l l':List S32),(∀ w∈l,w.f0<w.f1)→(∀ w∈l',w.f0<w.f1)→l.Pairwise (fun v w=>v.f1<w.f0)→l'.Pairwise (fun v w=>v.f1<w.f0)→(∀ t,InW l t↔InW l' t)→l=l':=by
  intro l
  induction l with
  | nil=>
    intro l' _ p' _ _ hs
    cases l' with
    | nil=>rfl
    | cons y r=>
      have:=(hs y.f0).2 ⟨y,List.mem_cons_self,Int.le_refl _,p' y List.mem_cons_self⟩
      obtain⟨w,hw,_⟩:=this
      cases hw
  | cons x r ih=>
    intro l' p p' g g' hs
    cases l' with
    | nil=>
      have:=(hs x.f0).1 ⟨x,List.mem_cons_self,Int.le_refl _,p x List.mem_cons_self⟩
      obtain⟨w,hw,_⟩:=this
      cases hw
    | cons y r'=>
      have gx:=List.pairwise_cons.1 g
      have gy:=List.pairwise_cons.1 g'
      have low:∀(z:S32)(q:List S32),(∀ w∈z::q,w.f0<w.f1)→(z::q).Pairwise (fun v w=>v.f1<w.f0)→∀t,InW (z::q) t→z.f0≤t:=fun z q hp hg t ⟨w,hw,h1,h2⟩=>by
       rcases List.mem_cons.1 hw with rfl|hw
       ·exact h1
       ·have h3:=(List.pairwise_cons.1 hg).1 w hw
        have h4:=hp z List.mem_cons_self
        omega
      have out:∀(z:S32)(q:List S32),(z::q).Pairwise (fun v w=>v.f1<w.f0)→¬InW (z::q) z.f1:=fun z q hg ⟨w,hw,h1,h2⟩=>by
       rcases List.mem_cons.1 hw with rfl|hw
       ·omega
       ·have h3:=(List.pairwise_cons.1 hg).1 w hw
        omega
      have px:=p x List.mem_cons_self
      have py:=p' y List.mem_cons_self
      have e0:x.f0=y.f0:=by
       have a:=low y r' p' g' x.f0 ((hs _).1 ⟨x,List.mem_cons_self,Int.le_refl _,px⟩)
       have b:=low x r p g y.f0 ((hs _).2 ⟨y,List.mem_cons_self,Int.le_refl _,py⟩)
       omega
      have e1:x.f1=y.f1:=by
       have a:¬x.f1<y.f1:=fun q=>out x r g ((hs _).2 ⟨y,List.mem_cons_self,by omega,q⟩)
       have b:¬y.f1<x.f1:=fun q=>out y r' g' ((hs _).1 ⟨x,List.mem_cons_self,by omega,q⟩)
       omega
      have e:x=y:=by
       obtain⟨x0,x1⟩:=x
       obtain⟨y0,y1⟩:=y
       simp only at e0 e1
       rw[e0,e1]
      subst e
      have tl:∀(q:List S32),(x::q).Pairwise (fun v w=>v.f1<w.f0)→∀t,InW q t↔InW (x::q) t∧x.f1≤t:=fun q hg t=>by
       constructor
       ·rintro⟨w,hw,h1,h2⟩
        have h3:=(List.pairwise_cons.1 hg).1 w hw
        exact⟨⟨w,List.mem_cons_of_mem _ hw,h1,h2⟩,by omega⟩
       ·rintro⟨⟨w,hw,h1,h2⟩,h3⟩
        rcases List.mem_cons.1 hw with rfl|hw
        ·omega
        ·exact⟨w,hw,h1,h2⟩
      rw[ih r' (fun w hw=>p w (List.mem_cons_of_mem _ hw)) (fun w hw=>p' w (List.mem_cons_of_mem _ hw)) gx.2 gy.2 fun t=>by rw[tl r g t,tl r' g' t,hs t]]
 exact key l l' (fun w hw=>(h.pos w hw).2.1) (fun w hw=>(h'.pos w hw).2.1) h.gap h'.gap fun t=>(h.set t).trans (h'.set t).symm
theorem putW_text{β:Type}{lo hi:Int}{out:List S32}(hl:out.length≤10000000)(f:List S32→Option β) :
  (bif (leI 0 (subI .i64 (lenL out) 1))then((idxO (List.length out) (subI .i64 (lenL out) 1)).bind fun x16=>((getN out x16).bind fun x17=>(bif (eqI x17.f1 lo)then((idxO (List.length out) (subI .i64 (lenL out) 1)).bind fun x18=>((getN out x18).bind fun x19=>f (List.set out x18 (S32.mk x19.f0 hi))))else((appO 16 out ([(S32.mk lo hi)]:List S32)).bind fun x26=>f x26))))else((appO 16 out ([(S32.mk lo hi)]:List S32)).bind fun x33=>f x33))=f (putW out lo hi):=by
 rcases List.eq_nil_or_concat out with e|⟨pre,x,e⟩
 ·subst e
  exact cf rfl (bs (appO_big (by omega) (by simp)) rfl)
 ·rw[List.concat_eq_append]at e
  subst e
  have hl':pre.length<9223372036854775807:=by simp at hl;omega
  have e1:=last_len pre x hl'
  have hi2:pre.length<(pre++[x]).length:=by simp
  unfold putW
  rw[List.getLast?_concat]
  simp only
  refine ct (leI_t (by rw[e1];omega)) ?_
  rw[e1]
  refine bs (idx_nat hi2) (bs (last_at pre x) ?_)
  by_cases hc:x.f1=lo
  ·rw[if_pos hc]
   refine ct (eqI_t hc) (bs (idx_nat hi2) (bs (last_at pre x) ?_))
   rw[last_set,List.dropLast_concat]
  ·rw[if_neg hc]
   exact cf (eqI_f hc) (bs (appO_big (by omega) (by simp at hl ⊢;omega)) rfl)
def itemOf(a:List S36)(k:ByteArray):ByteArray:=((a.find? fun e=>decide (e.f0=k)).map (·.f1)).getD (.mk #[])
theorem eqB_iff{a b:ByteArray}:eqB a b=true↔a=b:=by
 constructor
 ·intro h
  refine Classical.byContradiction fun hn=>?_
  rw[eqB_no hn]at h
  cases h
 ·intro h
  rw[h,eqB_self]
theorem items_find(k:ByteArray):∀a:List S36,(mgetB eqB (a.map fun e=>(e.f0,e.f1)) k).getD (.mk #[])=itemOf a k
 | []=>rfl
 | e::a=>by
   have ih:=items_find k a
   unfold mgetB itemOf at *
   rw[List.map_cons,List.find?_cons,List.find?_cons]
   by_cases hk:e.f0=k
   ·have:eqB k e.f0=true:=eqB_iff.2 hk.symm
    simp only[this,decide_eq_true hk,Option.map_some]
   ·have:eqB k e.f0=false:=by
     cases hb:eqB k e.f0 with
     | false=>rfl
     | true=>exact absurd (eqB_iff.1 hb).symm hk
    simp only[this,decide_eq_false hk]
    exact ih
theorem items_ok{a:List S36}(ha:a.length≤1000)(hn:(a.map (·.f0)).Nodup):∃M,T53 a=some M∧∀k,(mgetB eqB M k).getD (.mk #[])=itemOf a k:=by
 obtain⟨r,h2,M,h3,h4⟩:=iter_up (st:=L53_3 a) (fun(s:List (ByteArray×ByteArray))(i:Nat)=>(s,(i:Int))) a.length (fun i s=>s=(a.take i).map fun e=>(e.f0,e.f1))
  (fun r=>∃M,r=((a.length:Int),false,M)∧M=a.map fun e=>(e.f0,e.f1))
  (fun i s hi hI=>by
   have hx:=List.getElem?_eq_getElem hi
   refine⟨s++[(a[i].f0,a[i].f1)],?_,by rw[hI,take_next hx,List.map_append];rfl⟩
   have hnew:a[i].f0∉s.map (·.1):=by
    rw[hI,List.map_map]
    intro hm
    obtain⟨e,he,hk⟩:=List.mem_map.1 hm
    obtain⟨j,hj⟩:=List.getElem?_of_mem he
    rw[List.getElem?_take]at hj
    split at hj
    ·rename_i hji
     have a1:(a.map (·.f0))[j]? = some a[i].f0:=by rw[List.getElem?_map,hj];exact congrArg some hk
     have a2:(a.map (·.f0))[i]? = some a[i].f0:=by rw[List.getElem?_map,hx];rfl
     have:=(List.getElem?_inj (List.getElem?_eq_some_iff.1 a1).1 hn).1 (a1.trans a2.symm)
     omega
    ·cases hj
   unfold L53_3
   refine ct (ltL_true hi) (bs (listAt_some hx) (bs (a:=s++[(a[i].f0,a[i].f1)]) ?_ ?_))
   ·rw[mset_new _ hnew]
   ·rw[nextI (by omega)])
  (fun s hI=>by
   refine⟨((a.length:Int),false,s),?_,s,rfl,by rw[hI,List.take_length]⟩
   unfold L53_3
   refine cf (ltL_false (Nat.le_refl _)) ?_
   rw[ltL_false (Nat.le_refl _)]) [] rfl
 have h2:iter (L53_3 a) ([],0)=some r:=h2
 refine⟨M,?_,fun k=>?_⟩
 ·unfold T53
  rw[h3]at h2
  exact bs h2 rfl
 ·rw[h4]
  exact items_find k a
end Go.Abs.TUX
set_option linter.unusedVariables false
set_option linter.unusedSimpArgs false
set_option maxRecDepth 10000
namespace Go.Abs.TUX
open Go.RowKit Go.Proofs Go.Abs
def Diff(a b:List S36)(p:S24)(t:Int):Prop:=∃ka kb,KeyAt a p t ka∧KeyAt b p t kb∧(ka≠kb∨itemOf a ka≠itemOf b kb)
theorem diff_iff{a b:List S36}{p:S24}{t:Int}{ka kb:ByteArray}(h:KeyAt a p t ka)(h':KeyAt b p t kb):Diff a b p t↔(ka≠kb∨itemOf a ka≠itemOf b kb):=by
 constructor
 ·rintro⟨k,k',g,g',q⟩
  rw[keyAt_one h g,keyAt_one h' g']
  exact q
 ·intro q
  exact⟨ka,kb,h,h',q⟩
abbrev mvF{β:Type}(x y:List S82)(i k:Int)(t1:Int)(g:Int→Int→Option β):Option β:=
 ((idxO (List.length x) i).bind fun x20=>((getN x x20).bind fun x21=>(bif (eqI x21.f0.f1 t1)then((idxO (List.length y) k).bind fun x22=>((getN y x22).bind fun x23=>(bif (eqI x23.f0.f1 t1)then g (addI .i64 i 1) (addI .i64 k 1)else g (addI .i64 i 1) k)))else((idxO (List.length y) k).bind fun x24=>((getN y x24).bind fun x25=>(bif (eqI x25.f0.f1 t1)then g i (addI .i64 k 1)else g i k))))))
def nx(i:Nat)(u t1:Int):Nat:=if u=t1 then i+1 else i
theorem mv_text{β:Type}{x y:List S82}{i k:Nat}{xi yk:S82}(hx:x[i]? = some xi)(hy:y[k]? = some yk)(hi:i≤100000000)(hk:k≤100000000)(t1:Int)(g:Int→Int→Option β) :
  mvF x y (i:Int) (k:Int) t1 g=g (nx i xi.f0.f1 t1:Nat) (nx k yk.f0.f1 t1:Nat):=by
 have hil:i<x.length:=(List.getElem?_eq_some_iff.1 hx).1
 have hkl:k<y.length:=(List.getElem?_eq_some_iff.1 hy).1
 unfold nx
 refine bs (idx_nat hil) (bs (getN_some hx) ?_)
 by_cases h1:xi.f0.f1=t1
 ·rw[if_pos h1]
  refine ct (eqI_t h1) (bs (idx_nat hkl) (bs (getN_some hy) ?_))
  by_cases h2:yk.f0.f1=t1
  ·rw[if_pos h2,eqI_t h2,nextI (by omega),nextI (by omega)];rfl
  ·rw[if_neg h2,eqI_f h2,nextI (by omega)];rfl
 ·rw[if_neg h1]
  refine cf (eqI_f h1) (bs (idx_nat hkl) (bs (getN_some hy) ?_))
  by_cases h2:yk.f0.f1=t1
  ·rw[if_pos h2,eqI_t h2,nextI (by omega)];rfl
  ·rw[if_neg h2,eqI_f h2];rfl
theorem cut_eq(t w:S32):T54 t w=some ⟨max t.f0 w.f0,min t.f1 w.f1⟩:=by unfold T54;rw[maxI_eq,minI_eq]
theorem ch_step{M N:List (ByteArray×ByteArray)}{x y:List S82}{out:List S32}{i k:Nat}{xi yk:S82}(hx:x[i]? = some xi)(hy:y[k]? = some yk)(hi:i≤100000000)(hk:k≤100000000)(hl:out.length≤10000000) :
  L29_11 M N (x,y,out,(i:Int),(k:Int))=some (.inl (x,y,(bif !eqS xi.f1 yk.f1 || !eqS ((mgetB eqB M xi.f1).getD (.mk #[])) ((mgetB eqB N yk.f1).getD (.mk #[]))then putW out (max xi.f0.f0 yk.f0.f0) (min xi.f0.f1 yk.f0.f1)else out),((nx i xi.f0.f1 (min xi.f0.f1 yk.f0.f1):Nat):Int),((nx k yk.f0.f1 (min xi.f0.f1 yk.f0.f1):Nat):Int))):=by
 have hil:i<x.length:=(List.getElem?_eq_some_iff.1 hx).1
 have hkl:k<y.length:=(List.getElem?_eq_some_iff.1 hy).1
 have a1:=idx_nat hil
 have a2:=getN_some hx
 have b1:=idx_nat hkl
 have b2:=getN_some hy
 have fin:∀o,mvF x y (i:Int) (k:Int) (min xi.f0.f1 yk.f0.f1) (fun u v=>some (.inl (x,y,o,u,v):(List S82×List S82×List S32×Int×Int)⊕(Int×Int×Bool×List S82×List S82×List S32)))=some (.inl (x,y,o,((nx i xi.f0.f1 (min xi.f0.f1 yk.f0.f1):Nat):Int),((nx k yk.f0.f1 (min xi.f0.f1 yk.f0.f1):Nat):Int))):=fun o=>mv_text hx hy hi hk _ _
 have put:∀(R:Option ((List S82×List S82×List S32×Int×Int)⊕(Int×Int×Bool×List S82×List S82×List S32))),R=some (.inl (x,y,putW out (max xi.f0.f0 yk.f0.f0) (min xi.f0.f1 yk.f0.f1),((nx i xi.f0.f1 (min xi.f0.f1 yk.f0.f1):Nat):Int),((nx k yk.f0.f1 (min xi.f0.f1 yk.f0.f1):Nat):Int)))→R=some (.inl (x,y,putW out (max xi.f0.f0 yk.f0.f0) (min xi.f0.f1 yk.f0.f1),((nx i xi.f0.f1 (min xi.f0.f1 yk.f0.f1):Nat):Int),((nx k yk.f0.f1 (min xi.f0.f1 yk.f0.f1):Nat):Int))):=fun _ h=>h
 unfold L29_11
 refine ct (ltL_true hil) (ct (ltL_true hkl) (bs a1 (bs a2 (bs b1 (bs b2 (bs (cut_eq _ _) (bs a1 (bs a2 (bs b1 (bs b2 ?_))))))))))
 cases h1:eqS xi.f1 yk.f1 with
 | false=>
   refine ct rfl ?_
   exact(putW_text (lo:=max xi.f0.f0 yk.f0.f0) (hi:=min xi.f0.f1 yk.f0.f1) hl (fun o=>mvF x y (i:Int) (k:Int) (min xi.f0.f1 yk.f0.f1) (fun u v=>some (.inl (x,y,o,u,v):(List S82×List S82×List S32×Int×Int)⊕(Int×Int×Bool×List S82×List S82×List S32))))).trans (fin _)
 | true=>
   refine cf rfl (bs a1 (bs a2 (bs b1 (bs b2 ?_))))
   cases h2:eqS ((mgetB eqB M xi.f1).getD (.mk #[])) ((mgetB eqB N yk.f1).getD (.mk #[]))with
   | false=>
     refine ct rfl ?_
     exact(putW_text (lo:=max xi.f0.f0 yk.f0.f0) (hi:=min xi.f0.f1 yk.f0.f1) hl (fun o=>mvF x y (i:Int) (k:Int) (min xi.f0.f1 yk.f0.f1) (fun u v=>some (.inl (x,y,o,u,v):(List S82×List S82×List S32×Int×Int)⊕(Int×Int×Bool×List S82×List S82×List S32))))).trans (fin _)
   | true=>exact cf rfl (fin out)
theorem cov_next{K:Int→ByteArray→Prop}{x:List S82}{lo hi:Int}(h:Cov K x lo hi){i:Nat}{xi:S82}(hx:x[i]? = some xi):(xi.f0.f1=hi∧i+1=x.length)∨(xi.f0.f1<hi∧∃x',x[i+1]? = some x'∧x'.f0.f0=xi.f0.f1∧x'.f0.f0<x'.f0.f1∧x'.f0.f1≤hi):=by
 have hil:i<x.length:=(List.getElem?_eq_some_iff.1 hx).1
 by_cases q:i+1=x.length
 ·refine .inl ⟨h.lst xi (by rw[← q];exact hx),q⟩
 ·have hx':=List.getElem?_eq_getElem (show i+1<x.length by omega)
  have h1:=(h.adj i xi _ hx hx').1
  have h2:=h.pos _ (List.getElem_mem (show i+1<x.length by omega))
  exact .inr ⟨by omega,_,hx',h1.symm,h2.1,h2.2.2⟩
theorem changed_ok{a b:List S36}{p:S24}{w:S32}(ha:OkL a)(hb:OkL b)(hp:OkP p)(h0:0≤w.f0)(h1:w.f0<w.f1)(h2:w.f1≤400000000000){M N:List (ByteArray×ByteArray)}(hM:∀k,(mgetB eqB M k).getD (.mk #[])=itemOf a k)(hN:∀k,(mgetB eqB N k).getD (.mk #[])=itemOf b k){x y:List S82}
  (cx:Cov (KeyAt a p) x w.f0 w.f1) (cy:Cov (KeyAt b p) y w.f0 w.f1) (lx:x.length≤2000002) (ly:y.length≤2000002):∃r,iter (L29_11 M N) (x,y,[],0,0)=some r∧Wn (Diff a b p) w.f0 w.f1 r.2.2.2.2.2∧r.2.2.2.2.2.length≤4000004:=by
 have nx0:0<x.length:=List.length_pos_iff.2 cx.ne
 have ny0:0<y.length:=List.length_pos_iff.2 cy.ne
 refine iter_meas (fun z=>∃(i k:Nat)(out:List S32),z=(x,y,out,(i:Int),(k:Int))∧i≤x.length∧k≤y.length∧out.length≤i+k∧((∃ xi yk,x[i]? = some xi∧y[k]? = some yk∧Wn (Diff a b p) w.f0 (max xi.f0.f0 yk.f0.f0) out∧max xi.f0.f0 yk.f0.f0<min xi.f0.f1 yk.f0.f1)∨(i=x.length∧k=y.length∧Wn (Diff a b p) w.f0 w.f1 out)))
  (fun z=>(x.length+y.length-z.2.2.2.1-z.2.2.2.2).toNat) _ ?_ _ ⟨0,0,[],rfl,Nat.zero_le _,Nat.zero_le _,Nat.zero_le _,.inl ⟨_,_,List.getElem?_eq_getElem nx0,List.getElem?_eq_getElem ny0,?_,?_⟩⟩
 ·rintro _ ⟨i,k,out,rfl,hi,hk,hl,⟨xi,yk,hx,hy,hw,hc⟩|⟨rfl,rfl,hw⟩⟩
  ·left
   have px:=cx.pos xi (List.mem_of_getElem? hx)
   have py:=cy.pos yk (List.mem_of_getElem? hy)
   have hil:i<x.length:=(List.getElem?_eq_some_iff.1 hx).1
   have hkl:k<y.length:=(List.getElem?_eq_some_iff.1 hy).1
   have st:=ch_step (M:=M) (N:=N) (out:=out) hx hy (by omega) (by omega) (by omega)
   rw[hM,hN]at st
   have kx:∀t,max xi.f0.f0 yk.f0.f0≤t→t<min xi.f0.f1 yk.f0.f1→KeyAt a p t xi.f1:=fun t g1 g2=>cx.key xi (List.mem_of_getElem? hx) t (by omega) (by omega)
   have ky:∀t,max xi.f0.f0 yk.f0.f0≤t→t<min xi.f0.f1 yk.f0.f1→KeyAt b p t yk.f1:=fun t g1 g2=>cy.key yk (List.mem_of_getElem? hy) t (by omega) (by omega)
   have hd:∃o,(bif !eqS xi.f1 yk.f1 || !eqS (itemOf a xi.f1) (itemOf b yk.f1)then putW out (max xi.f0.f0 yk.f0.f0) (min xi.f0.f1 yk.f0.f1)else out)=o∧Wn (Diff a b p) w.f0 (min xi.f0.f1 yk.f0.f1) o∧o.length≤out.length+1:=by
    refine⟨_,rfl,?_⟩
    cases hv:(!eqS xi.f1 yk.f1 || !eqS (itemOf a xi.f1) (itemOf b yk.f1))with
    | true=>
      refine⟨putW_ok hw (by omega) hc fun t g1 g2=>?_,putW_len _ _ _⟩
      rw[diff_iff (kx t g1 g2) (ky t g1 g2)]
      rw[Bool.or_eq_true,Bool.not_eq_true',Bool.not_eq_true']at hv
      rcases hv with hv|hv
      ·exact .inl fun q=>by rw[eqS_t.2 q]at hv;cases hv
      ·exact .inr fun q=>by rw[eqS_t.2 q]at hv;cases hv
    | false=>
      refine⟨hw.skip (by omega) hc fun t g1 g2=>?_,by rw[cond_false];omega⟩
      rw[diff_iff (kx t g1 g2) (ky t g1 g2)]
      rw[Bool.or_eq_false_iff,Bool.not_eq_false',Bool.not_eq_false',eqS_t,eqS_t]at hv
      rintro(q|q)
      ·exact q hv.1
      ·exact q hv.2
   obtain⟨o,ho,hwo,hlo⟩:=hd
   rw[ho]at st
   refine⟨_,st,⟨_,_,o,rfl,?_⟩,?_⟩
   ·unfold nx
    rcases cov_next cx hx with⟨ex,ex2⟩|⟨ex,x',hx',gx1,gx2,gx3⟩<;>rcases cov_next cy hy with⟨ey,ey2⟩|⟨ey,y',hy',gy1,gy2,gy3⟩
    ·rw[if_pos (by omega),if_pos (by omega)]
     refine⟨by omega,by omega,by omega,.inr ⟨ex2,ey2,?_⟩⟩
     rw[show w.f1=min xi.f0.f1 yk.f0.f1 by omega]
     exact hwo
    ·have hy'l:k+1<y.length:=(List.getElem?_eq_some_iff.1 hy').1
     rw[if_neg (by omega),if_pos (by omega)]
     refine⟨by omega,by omega,by omega,.inl ⟨xi,y',hx,hy',?_,by omega⟩⟩
     rw[show max xi.f0.f0 y'.f0.f0=min xi.f0.f1 yk.f0.f1 by omega]
     exact hwo
    ·have hx'l:i+1<x.length:=(List.getElem?_eq_some_iff.1 hx').1
     rw[if_pos (by omega),if_neg (by omega)]
     refine⟨by omega,by omega,by omega,.inl ⟨x',yk,hx',hy,?_,by omega⟩⟩
     rw[show max x'.f0.f0 yk.f0.f0=min xi.f0.f1 yk.f0.f1 by omega]
     exact hwo
    ·have hx'l:i+1<x.length:=(List.getElem?_eq_some_iff.1 hx').1
     have hy'l:k+1<y.length:=(List.getElem?_eq_some_iff.1 hy').1
     rcases Int.lt_trichotomy xi.f0.f1 yk.f0.f1 with q|q|q
     ·rw[if_pos (by omega),if_neg (by omega)]
      refine⟨by omega,by omega,by omega,.inl ⟨x',yk,hx',hy,?_,by omega⟩⟩
      rw[show max x'.f0.f0 yk.f0.f0=min xi.f0.f1 yk.f0.f1 by omega]
      exact hwo
     ·rw[if_pos (by omega),if_pos (by omega)]
      refine⟨by omega,by omega,by omega,.inl ⟨x',y',hx',hy',?_,by omega⟩⟩
      rw[show max x'.f0.f0 y'.f0.f0=min xi.f0.f1 yk.f0.f1 by omega]
      exact hwo
     ·rw[if_neg (by omega),if_pos (by omega)]
      refine⟨by omega,by omega,by omega,.inl ⟨xi,y',hx,hy',?_,by omega⟩⟩
      rw[show max xi.f0.f0 y'.f0.f0=min xi.f0.f1 yk.f0.f1 by omega]
      exact hwo
   ·simp only
    unfold nx
    split<;>split<;>omega
  ·right
   refine⟨((x.length:Int),(y.length:Int),false,x,y,out),?_,hw,by simp only;omega⟩
   unfold L29_11
   exact cf (ltL_false (Nat.le_refl _)) rfl
 ·have f1:=cx.fst _ (List.getElem?_eq_getElem nx0)
  have f2:=cy.fst _ (List.getElem?_eq_getElem ny0)
  rw[f1,f2,Int.max_self]
  exact Wn.nil
 ·have f1:=cx.fst _ (List.getElem?_eq_getElem nx0)
  have f2:=cy.fst _ (List.getElem?_eq_getElem ny0)
  have px:=cx.pos _ (List.getElem_mem nx0)
  have py:=cy.pos _ (List.getElem_mem ny0)
  omega
theorem key_item{a:List S36}{p:S24}{t:Int}(ha:OkL a)(hp:OkP p)(h0:0≤t)(h1:t≤400000000000):∃x,T46 a p t=some x∧KeyAt a p t x.f0∧x.f1=itemOf a x.f0:=by
 obtain⟨l,h2,_,h3,h4,h5,h6⟩:=on_both ha hp h0 h1
 unfold T46
 cases l with
 | nil=>
   refine⟨_,bs h2 (cf rfl rfl),.inl ⟨fun s hs=>(by have:=(h5 s).2 hs;cases this),rfl⟩,?_⟩
   unfold itemOf
   rw[List.find?_eq_none.2 fun e he=>?_]
   ·rfl
   ·have:=key_pos (ha.2 e he).key
    simp only[decide_eq_true_eq]
    intro q
    rw[q]at this
    exact this rfl
 | cons m rest=>
   refine⟨m,bs h2 (ct (ltI_t (by rw[lenL_eq];simp only[List.length_cons];omega)) (bs (idx_nat (by simp)) (bs (getN_some rfl) rfl))),.inr ⟨_,atE p t m,h5,h6 m rfl,rfl⟩,?_⟩
   have hm:=h4 m List.mem_cons_self
   unfold itemOf
   have rise:=ha.1.rise
   clear h2 h3 h4 h5 h6
   have hs:∀(a:List S36),m∈a→(a.Pairwise fun x y=>ltS x.f0 y.f0=true)→a.find? (fun e=>decide (e.f0=m.f0))=some m:=by
    intro a
    induction a with
    | nil=>intro h;cases h
    | cons e a ih=>
      intro h hr
      have hr':=List.pairwise_cons.1 hr
      rw[List.find?_cons]
      rcases List.mem_cons.1 h with rfl|h
      ·simp
      ·have hlt:=hr'.1 m h
       have hne:¬e.f0=m.f0:=fun q=>by rw[q,ltS_irrefl]at hlt;cases hlt
       rw[decide_eq_false hne]
       exact ih h hr'.2
   rw[hs a hm rise]
   rfl
theorem cat_ints{a b:List Int}(ha:a.length≤3000000)(hb:b.length≤3000000):T59 [a,b]=some (a++b):=by
 have h1:iter (L59_3 [a,b]) (0,0)=some (((a.length+b.length:Nat):Int),2,false):=by
  have e1:addI .i64 0 (lenL a)=((a.length:Nat):Int):=by rw[lenL_eq,addI_eq (by omega) (by omega)];omega
  have e2:addI .i64 ((a.length:Nat):Int) (lenL b)=((a.length+b.length:Nat):Int):=by rw[lenL_eq,addI_eq (by omega) (by omega)];omega
  rw[iter_inl (s':=(((a.length:Nat):Int),1)) ?_,iter_inl (s':=(((a.length+b.length:Nat):Int),2)) ?_]
  ·exact iter_inr rfl
  ·unfold L59_3
   refine ct rfl (bs (a:=b) rfl (cf ?_ ?_))
   ·simp only[e2];exact ltI_f (by omega)
   ·simp only[e2];rfl
  ·unfold L59_3
   refine ct rfl (bs (a:=a) rfl (cf ?_ ?_))
   ·simp only[e1];exact ltI_f (by omega)
   ·simp only[e1];rfl
 have h2:iter (L59_11 [a,b]) ([],0)=some (2,false,a++b):=by
  rw[iter_inl (s':=(a,1)) ?_,iter_inl (s':=(a++b,2)) ?_]
  ·exact iter_inr rfl
  ·unfold L59_11
   refine ct rfl (bs (a:=b) rfl (bs (appO_eq (by simp only;omega) (by simp only;omega)) ?_))
   rfl
  ·unfold L59_11
   refine ct rfl (bs (a:=a) rfl (bs (appO_eq (by simp;omega) (by simp;omega)) ?_))
   rfl
 unfold T59
 refine bs h1 (bs (a:=[]) ?_ (bs h2 rfl))
 unfold growO
 rw[if_pos ⟨by omega,by simp only[Int.toNat_natCast];omega,by omega⟩]
theorem ref_ok{a b:List S36}{p:S24}{w:S32}(ha:OkL a)(hb:OkL b)(hp:OkP p)(h0:0≤w.f0)(h1:w.f0≤w.f1)(h2:w.f1≤400000000000):∃out,T32 a b p w=some out∧Wn (Diff a b p) w.f0 w.f1 out:=by
 obtain⟨ea,a1,a2,a3,a4⟩:=bounds_ok (w:=w) ha hp.zone
 obtain⟨eb,b1,b2,b3,b4⟩:=bounds_ok (w:=w) hb hp.zone
 have hcat:=cat_ints (a:=ea) (b:=eb) (by omega) (by omega)
 obtain⟨c1,c2⟩:=compact_facts (sortI (ea++eb)) (sortI_sorted _)
 have hsl:(sortI (ea++eb)).length=(ea++eb).length:=(sortI_perm _).length_eq
 generalize hes:Lib.compact (sortI (ea++eb))=es at c1 c2
 have hel:es.length≤4000004:=by
  have:=Lib.compact_length_le (sortI (ea++eb))
  rw[hes,hsl,List.length_append]at this
  omega
 have e4:∀x,x∈es↔x∈ea∨x∈eb:=fun x=>by rw[c2,(sortI_perm _).mem_iff,List.mem_append]
 have w0:w.f0∈es:=(e4 _).2 (.inl ((a4 _).2 (.inl rfl)))
 have w1:w.f1∈es:=(e4 _).2 (.inl ((a4 _).2 (.inr (.inl rfl))))
 have inn:∀(c:List S36),OkL c→∀x,(x=w.f0∨x=w.f1∨∃e∈c,∃y∈timesL e p.f2 w,x=y.f0∨x=y.f1)→w.f0≤x∧x≤w.f1:=fun c hc x hx=>by
  rcases hx with rfl|rfl|⟨e,he,y,hy,h⟩
  ·omega
  ·omega
  ·obtain⟨_,d,_,_,_,h3,rfl⟩:=(mem_times (hc.2 e he).fine).1 hy
   unfold cutW at h
   simp only at h
   rcases h with rfl|rfl<;>omega
 have hin:∀x∈es,w.f0≤x∧x≤w.f1:=fun x hx=>by
  rcases(e4 x).1 hx with h|h
  ·exact inn a ha x ((a4 x).1 h)
  ·exact inn b hb x ((b4 x).1 h)
 have mono:∀(i j:Nat)(hi:i<es.length)(hj:j<es.length),i<j→es[i]<es[j]:=fun i j hi hj hij=>List.pairwise_iff_getElem.1 c1 i j hi hj hij
 have hpos:0<es.length:=List.length_pos_iff.2 (fun e=>by rw[e]at w0;cases w0)
 have first:es[0]=w.f0:=by
  obtain⟨j,hj,hj2⟩:=List.getElem_of_mem w0
  have:=(hin _ (List.getElem_mem hpos)).1
  by_cases hj0:j=0
  ·subst hj0;exact hj2
  ·have:=mono 0 j hpos hj (by omega)
   omega
 have last:es[es.length-1]'(by omega)=w.f1:=by
  obtain⟨j,hj,hj2⟩:=List.getElem_of_mem w1
  have:=(hin _ (List.getElem_mem (show es.length-1<es.length by omega))).2
  by_cases hj0:j=es.length-1
  ·subst hj0;exact hj2
  ·have:=mono j (es.length-1) hj (by omega) (by omega)
   omega
 obtain⟨r,r1,out,r2,r3⟩:=iter_up (st:=L32_6 a b p) (fun(s:List S32)(i:Nat)=>(es,s,((i+1:Nat):Int))) (es.length-1)
  (fun i s=>∃hi:i<es.length,Wn (Diff a b p) w.f0 es[i] s∧s.length≤i)
  (fun r=>∃out,r.2.2.2=out∧Wn (Diff a b p) w.f0 w.f1 out)
  (fun i s hi hI=>by
   obtain⟨hi0,i1,i3⟩:=hI
   have hi1:i+1<es.length:=by omega
   have hm:=mono i (i+1) hi0 hi1 (by omega)
   have hw0:=(hin _ (List.getElem_mem hi0)).1
   have hw1:=(hin _ (List.getElem_mem hi1)).2
   have gap:∀x∈es,x<es[i+1]→x≤es[i]:=fun x hx hlt=>by
    obtain⟨j,hj,rfl⟩:=List.getElem_of_mem hx
    by_cases hji:j≤i
    ·by_cases hji2:j=i
     ·subst hji2;exact Int.le_refl _
     ·exact Int.le_of_lt (mono j i hj hi0 (by omega))
    ·by_cases hji2:j=i+1
     ·subst hji2;omega
     ·have:=mono (i+1) j hi1 hj (by omega)
      omega
   obtain⟨x,hx,hkx,hix⟩:=key_item ha hp (t:=es[i]) (by omega) (by omega)
   obtain⟨y,hy,hky,hiy⟩:=key_item hb hp (t:=es[i]) (by omega) (by omega)
   have kx:∀t,es[i]≤t→t<es[i+1]→KeyAt a p t x.f0:=fun t g1 g2=>by
    refine keyAt_same (fun s=>same_act (w:=w) ha hw0 g1 (by omega) (fun e he u hu z hz q=>?_) s) hkx
    have:=gap z ((e4 z).2 (.inl ((a4 z).2 (.inr (.inr ⟨e,he,u,hu,hz⟩))))) (by omega)
    omega
   have ky:∀t,es[i]≤t→t<es[i+1]→KeyAt b p t y.f0:=fun t g1 g2=>by
    refine keyAt_same (fun s=>same_act (w:=w) hb hw0 g1 (by omega) (fun e he u hu z hz q=>?_) s) hky
    have:=gap z ((e4 z).2 (.inr ((b4 z).2 (.inr (.inr ⟨e,he,u,hu,hz⟩))))) (by omega)
    omega
   have ea1:subI .i64 ((i+1:Nat):Int) 1=(i:Int):=by rw[prevI (by omega) (by omega)];rfl
   have q1:idxO (List.length es) (subI .i64 ((i+1:Nat):Int) 1)=some i:=by rw[ea1];exact idx_nat hi0
   have q2:getN es i=some es[i]:=getN_some (List.getElem?_eq_getElem hi0)
   have p1:idxO (List.length es) ((i+1:Nat):Int)=some (i+1):=idx_nat hi1
   have p2:getN es (i+1)=some es[i+1]:=getN_some (List.getElem?_eq_getElem hi1)
   have nx2:addI .i64 ((i+1:Nat):Int) 1=((i+1+1:Nat):Int):=nextI (by omega)
   have put:∀(g:List S32→Option ((List Int×List S32×Int)⊕(Int×Bool×List Int×List S32))),(bif (leI 0 (subI .i64 (lenL s) 1))then((idxO (List.length s) (subI .i64 (lenL s) 1)).bind fun x12=>((getN s x12).bind fun x13=>((idxO (List.length es) (subI .i64 ((i+1:Nat):Int) 1)).bind fun x14=>((getN es x14).bind fun x15=>(bif (eqI x13.f1 x15)then((idxO (List.length es) ((i+1:Nat):Int)).bind fun x16=>((getN es x16).bind fun x17=>((idxO (List.length s) (subI .i64 (lenL s) 1)).bind fun x18=>((getN s x18).bind fun x19=>g (List.set s x18 (S32.mk x19.f0 x17))))))else((idxO (List.length es) (subI .i64 ((i+1:Nat):Int) 1)).bind fun x20=>((getN es x20).bind fun x21=>((idxO (List.length es) ((i+1:Nat):Int)).bind fun x22=>((getN es x22).bind fun x23=>((appO 16 s ([(S32.mk x21 x23)]:List S32)).bind fun x24=>g x24))))))))))else((idxO (List.length es) (subI .i64 ((i+1:Nat):Int) 1)).bind fun x25=>((getN es x25).bind fun x26=>((idxO (List.length es) ((i+1:Nat):Int)).bind fun x27=>((getN es x27).bind fun x28=>((appO 16 s ([(S32.mk x26 x28)]:List S32)).bind fun x29=>g x29))))))=g (putW s es[i] es[i+1]):=by
    intro g
    rcases List.eq_nil_or_concat s with e|⟨pre,z,e⟩
    ·subst e
     exact cf rfl (bs q1 (bs q2 (bs p1 (bs p2 (bs (appO_big (by omega) (by simp)) rfl)))))
    ·rw[List.concat_eq_append]at e
     subst e
     have hl':pre.length<9223372036854775807:=by simp at i3;omega
     have e1:=last_len pre z hl'
     have hi2:pre.length<(pre++[z]).length:=by simp
     unfold putW
     rw[List.getLast?_concat]
     simp only
     refine ct (leI_t (by rw[e1];omega)) ?_
     rw[e1]
     refine bs (idx_nat hi2) (bs (last_at pre z) (bs q1 (bs q2 ?_)))
     by_cases hc:z.f1=es[i]
     ·rw[if_pos hc]
      refine ct (eqI_t hc) (bs p1 (bs p2 (bs (idx_nat hi2) (bs (last_at pre z) ?_))))
      rw[last_set,List.dropLast_concat]
     ·rw[if_neg hc]
      exact cf (eqI_f hc) (bs q1 (bs q2 (bs p1 (bs p2 (bs (appO_big (by omega) (by simp at i3 ⊢;omega)) rfl)))))
   have dif:∀t,es[i]≤t→t<es[i+1]→(Diff a b p t↔(x.f0≠y.f0∨x.f1≠y.f1)):=fun t g1 g2=>by
    rw[diff_iff (kx t g1 g2) (ky t g1 g2),hix,hiy]
   by_cases h3:x.f0=y.f0
   ·by_cases h4:x.f1=y.f1
    ·refine⟨s,?_,hi1,i1.skip hw0 hm fun t g1 g2 q=>?_,by omega⟩
     ·unfold L32_6
      refine ct (ltL_true hi1) (bs q1 (bs q2 (bs hx (bs q1 (bs q2 (bs hy (ct (eqS_t.2 h3) (ct (eqS_t.2 h4) ?_))))))))
      simp only
      rw[nx2]
     ·rcases(dif t g1 g2).1 q with q|q
      ·exact q h3
      ·exact q h4
    ·refine⟨putW s es[i] es[i+1],?_,hi1,putW_ok i1 hw0 hm fun t g1 g2=>(dif t g1 g2).2 (.inr h4),Nat.le_trans (putW_len _ _ _) (by omega)⟩
     unfold L32_6
     refine ct (ltL_true hi1) (bs q1 (bs q2 (bs hx (bs q1 (bs q2 (bs hy (ct (eqS_t.2 h3) (cf ?_ ?_))))))))
     ·cases hq:eqS x.f1 y.f1 with
      | false=>rfl
      | true=>exact absurd (eqS_t.1 hq) h4
     ·refine(put (fun o=>some (.inl (es,o,addI .i64 ((i+1:Nat):Int) 1)))).trans ?_
      rw[nx2]
   ·refine⟨putW s es[i] es[i+1],?_,hi1,putW_ok i1 hw0 hm fun t g1 g2=>(dif t g1 g2).2 (.inl h3),Nat.le_trans (putW_len _ _ _) (by omega)⟩
    unfold L32_6
    refine ct (ltL_true hi1) (bs q1 (bs q2 (bs hx (bs q1 (bs q2 (bs hy (cf ?_ ?_)))))))
    ·cases hq:eqS x.f0 y.f0 with
     | false=>rfl
     | true=>exact absurd (eqS_t.1 hq) h3
    ·refine(put (fun o=>some (.inl (es,o,addI .i64 ((i+1:Nat):Int) 1)))).trans ?_
     rw[nx2])
  (fun s hI=>by
   obtain⟨hi0,i1,i3⟩:=hI
   have hl:es.length-1+1=es.length:=by omega
   rw[hl]
   refine⟨((es.length:Int),false,es,s),?_,s,rfl,?_⟩
   ·unfold L32_6
    refine cf (ltL_false (Nat.le_refl _)) ?_
    rw[ltL_false (Nat.le_refl _)]
   ·rw[last]at i1
    exact i1) [] ⟨hpos,by rw[first];exact Wn.nil,Nat.zero_le _⟩
 have r1:iter (L32_6 a b p) (es,[],1)=some r:=r1
 refine⟨r.2.2.2,?_,by rw[r2];exact r3⟩
 unfold T32
 refine bs a1 (bs b1 (bs hcat (bs (a:=sortI (ea++eb)) ?_ (bs (a:=es) ?_ (bs r1 rfl)))))
 ·unfold sortIO
  rw[if_pos (by rw[List.length_append];omega)]
 ·unfold compIO
  rw[hes]
end Go.Abs.TUX
set_option linter.unusedVariables false
set_option linter.unusedSimpArgs false
set_option maxRecDepth 10000
namespace Go.Abs.TUX
open Go.RowKit Go.Proofs Go.Abs
theorem ex_take{α:Type}{P:α→Prop}{l:List α}{i:Nat}{x:α}(h:l[i]? = some x):(∃ y,y∈l.take (i+1)∧P y)↔(∃ y,y∈l.take i∧P y)∨P x:=by
 rw[take_next h]
 constructor
 ·rintro⟨y,hy,hp⟩
  rcases List.mem_append.1 hy with hy|hy
  ·exact .inl ⟨y,hy,hp⟩
  ·rw[List.mem_singleton]at hy
   subst hy
   exact .inr hp
 ·rintro(⟨y,hy,hp⟩|hp)
  ·exact⟨y,List.mem_append_left _ hy,hp⟩
  ·exact⟨x,List.mem_append_right _ (List.mem_singleton.2 rfl),hp⟩
theorem T56_none{e:S36}{z:Int}{w:S32}(h:w.f1≤w.f0):T56 e z w=some []:=by
 unfold T56
 cases e.f12 with
 | true=>rfl
 | false=>rw[cond_false,leI_t h,cond_true]
def rawW(e:S36)(w:S32):List S32:=if w.f1≤w.f0 then []else rawL e 0 w
theorem T56_w{e:S36}(he:OkE e){w:S32}(h0:0≤w.f0)(h2:w.f1≤400000000000):T56 e 0 w=some (rawW e w):=by
 unfold rawW
 by_cases h:w.f1≤w.f0
 ·rw[if_pos h,T56_none h]
 ·rw[if_neg h,T56_raw he.fine (by omega) h0 (by omega) h2]
theorem rawW_len{e:S36}(he:OkE e)(w:S32):(rawW e w).length≤4001:=by
 unfold rawW
 split
 ·exact Nat.zero_le _
 ·exact raw_len he.fine
theorem coll_apart{e:S36}(F:Fine e)(z:Int)(w:S32):∀(n:Nat)(a:Int),(coll (rawG e z w) a n).Pairwise fun x y=>x.f1≤y.f0
 | 0,a=> .nil
 | n+1,a=>by
   rw[coll]
   refine List.pairwise_append.2 ⟨?_,coll_apart F z w n (a+1),fun x hx y hy=>?_⟩
   ·cases rawG e z w a<;>simp
   ·rw[Option.mem_toList]at hx
    obtain⟨_,rfl,_⟩:=rawG_some.1 hx
    obtain⟨d,h1,_,h2⟩:=(mem_coll _ _ _ _).1 hy
    obtain⟨_,rfl,_⟩:=rawG_some.1 h2
    have a1:=timeS_next F z a
    have a2:=timeS_next F z d
    omega
theorem rawW_apart{e:S36}(he:OkE e)(w:S32):(rawW e w).Pairwise fun x y=>x.f1≤y.f0:=by
 unfold rawW
 split
 ·exact .nil
 ·unfold rawL
  cases e.f12 with
  | true=>exact .nil
  | false=>exact coll_apart he.fine 0 w _ _
theorem rawW_pos{e:S36}(he:OkE e){w x:S32}(h:x∈rawW e w):x.f0<x.f1:=by
 unfold rawW at h
 split at h
 ·cases h
 ·exact((mem_raw he.fine).1 h).lasts he
def meets(w x y:S32):Prop:=max (max x.f0 y.f0) w.f0<min (min x.f1 y.f1) w.f1
theorem overlap_ok(l m:List S32)(w:S32)(hl:l.length≤4001)(hm:m.length≤4001)(pl:l.Pairwise fun x y=>x.f1≤y.f0)(pm:m.Pairwise fun x y=>x.f1≤y.f0)(ql:∀x∈l,x.f0<x.f1)(qm:∀x∈m,x.f0<x.f1) :
  ∃b,T57 l m w=some b∧(b=true↔∃x∈l,∃y∈m,meets w x y):=by
 have hloop:∃r,iter (L57_2 l m w) (((0:Nat):Int),((0:Nat):Int))=some r∧((∃ z,r= .inl z)∧(∀ x∈l,∀y∈m,¬meets w x y)∨r= .inr ()∧∃x∈l,∃y∈m,meets w x y):=by
  refine iter_meas (fun z=>∃i k:Nat,z=((i:Int),(k:Int))∧i≤l.length∧k≤m.length∧∀(i' k':Nat) x y,l[i']? = some x→m[k']? = some y→(i'<i∨k'<k)→¬meets w x y)
   (fun z=>(l.length+m.length-z.1-z.2).toNat) _ ?_ _ ⟨0,0,rfl,Nat.zero_le _,Nat.zero_le _,fun i' k' x y _ _ h=>by omega⟩
  rintro _ ⟨i,k,rfl,hi,hk,hn⟩
  by_cases c1:i<l.length
  ·by_cases c2:k<m.length
   ·have hx:=List.getElem?_eq_getElem c1
    have hy:=List.getElem?_eq_getElem c2
    have px:=ql _ (List.getElem_mem c1)
    have py:=qm _ (List.getElem_mem c2)
    by_cases c3:meets w l[i] m[k]
    ·refine .inr ⟨.inr (),?_,.inr ⟨rfl,_,List.getElem_mem c1,_,List.getElem_mem c2,c3⟩⟩
     unfold L57_2
     exact ct (ltL_true c1) (ct (ltL_true c2) (bs (listAt_some hx) (bs (listAt_some hy) (bs (cut_eq _ _) (bs (cut_eq _ _) (ct (ltI_t c3) rfl))))))
    ·left
     have hneg:ltI (max (max l[i].f0 m[k].f0) w.f0) (min (min l[i].f1 m[k].f1) w.f1)=false:=ltI_f (by unfold meets at c3;omega)
     by_cases c4:l[i].f1<m[k].f1
     ·refine⟨(((i+1:Nat):Int),(k:Int)),?_,⟨i+1,k,rfl,by omega,hk,fun i' k' x y h1 h2 h3=>?_⟩,by simp only;omega⟩
      ·unfold L57_2
       refine ct (ltL_true c1) (ct (ltL_true c2) (bs (listAt_some hx) (bs (listAt_some hy) (bs (cut_eq _ _) (bs (cut_eq _ _) (cf hneg (bs (listAt_some hx) (bs (listAt_some hy) (ct (ltI_t c4) ?_)))))))))
       rw[nextI (by omega)]
      ·by_cases q:i'<i∨k'<k
       ·exact hn i' k' x y h1 h2 q
       ·have e1:i'=i:=by omega
        subst e1
        rw[hx]at h1
        cases h1
        by_cases q2:k'=k
        ·subst q2
         rw[hy]at h2
         cases h2
         exact c3
        ·have hk':=(List.getElem?_eq_some_iff.1 h2).1
         have:=List.pairwise_iff_getElem.1 pm k k' c2 hk' (by omega)
         have e2:y=m[k']:=by rw[List.getElem?_eq_getElem hk']at h2;exact(Option.some.inj h2).symm
         subst e2
         unfold meets
         omega
     ·refine⟨((i:Int),((k+1:Nat):Int)),?_,⟨i,k+1,rfl,hi,by omega,fun i' k' x y h1 h2 h3=>?_⟩,by simp only;omega⟩
      ·unfold L57_2
       refine ct (ltL_true c1) (ct (ltL_true c2) (bs (listAt_some hx) (bs (listAt_some hy) (bs (cut_eq _ _) (bs (cut_eq _ _) (cf hneg (bs (listAt_some hx) (bs (listAt_some hy) (cf (ltI_f (by omega)) ?_)))))))))
       rw[nextI (by omega)]
      ·by_cases q:i'<i∨k'<k
       ·exact hn i' k' x y h1 h2 q
       ·have e1:k'=k:=by omega
        subst e1
        rw[hy]at h2
        cases h2
        by_cases q2:i'=i
        ·subst q2
         rw[hx]at h1
         cases h1
         exact c3
        ·have hi':=(List.getElem?_eq_some_iff.1 h1).1
         have:=List.pairwise_iff_getElem.1 pl i i' c1 hi' (by omega)
         have e2:x=l[i']:=by rw[List.getElem?_eq_getElem hi']at h1;exact(Option.some.inj h1).symm
         subst e2
         unfold meets
         omega
   ·refine .inr ⟨.inl ((i:Int),(k:Int),false),?_,.inl ⟨⟨_,rfl⟩,fun x hx y hy=>?_⟩⟩
    ·unfold L57_2
     refine ct (ltL_true c1) (cf (ltL_false (by omega)) ?_)
     rw[ltL_false (by omega)]
    ·obtain⟨i',h1⟩:=List.getElem?_of_mem hx
     obtain⟨k',h2⟩:=List.getElem?_of_mem hy
     have:=(List.getElem?_eq_some_iff.1 h2).1
     exact hn i' k' x y h1 h2 (.inr (by omega))
  ·refine .inr ⟨.inl ((i:Int),(k:Int),false),?_,.inl ⟨⟨_,rfl⟩,fun x hx y hy=>?_⟩⟩
   ·unfold L57_2
    exact cf (ltL_false (by omega)) rfl
   ·obtain⟨i',h1⟩:=List.getElem?_of_mem hx
    obtain⟨k',h2⟩:=List.getElem?_of_mem hy
    have:=(List.getElem?_eq_some_iff.1 h1).1
    exact hn i' k' x y h1 h2 (.inl (by omega))
 obtain⟨r,h1,h2⟩:=hloop
 have h1:iter (L57_2 l m w) (0,0)=some r:=h1
 unfold T57
 rcases h2 with⟨⟨z,rfl⟩,h3⟩|⟨rfl,h3⟩
 ·exact⟨false,bs h1 rfl,by simp;exact h3⟩
 ·exact⟨true,bs h1 rfl,by simp;exact h3⟩
def Meet(e f:S36)(w:S32):Prop:=∃x∈timesL e 0 w,∃y∈timesL f 0 w,max x.f0 y.f0<min x.f1 y.f1
theorem meet_iff{e f:S36}(he:OkE e)(hf:OkE f)(w:S32):Meet e f w↔∃x∈rawW e w,∃y∈rawW f w,meets w x y:=by
 unfold Meet meets rawW
 constructor
 ·rintro⟨x,hx,y,hy,h⟩
  obtain⟨a1,d,a2,a3,a4,a5,rfl⟩:=(mem_times he.fine).1 hx
  obtain⟨b1,d',b2,b3,b4,b5,rfl⟩:=(mem_times hf.fine).1 hy
  unfold cutW at h
  simp only at h
  rw[if_neg (by omega),if_neg (by omega)]
  exact⟨_,(mem_raw he.fine).2 ⟨a1,d,a2,a3,a4,rfl,by omega,by omega⟩,_,(mem_raw hf.fine).2 ⟨b1,d',b2,b3,b4,rfl,by omega,by omega⟩,by omega⟩
 ·rintro⟨x,hx,y,hy,h⟩
  have hw:¬w.f1≤w.f0:=by omega
  rw[if_neg hw]at hx hy
  obtain⟨a1,d,a2,a3,a4,rfl,a5,a6⟩:=(mem_raw he.fine).1 hx
  obtain⟨b1,d',b2,b3,b4,rfl,b5,b6⟩:=(mem_raw hf.fine).1 hy
  refine⟨_,(mem_times he.fine).2 ⟨a1,d,a2,a3,a4,by omega,rfl⟩,_,(mem_times hf.fine).2 ⟨b1,d',b2,b3,b4,by omega,rfl⟩,?_⟩
  unfold cutW
  simp only
  omega
open Classical in
noncomputable def clash1(w:S32)(e:S36)(l:List S36):List S72:=(l.filter fun f=>decide (e.f10=f.f10∧Meet e f w)).map fun f=>⟨e.f0,f.f0⟩
noncomputable def clashL(w:S32):List S36→List S72
 | []=>[]
 | e::l=>clash1 w e l++clashL w l
theorem clash1_len(w:S32)(e:S36)(l:List S36):(clash1 w e l).length≤l.length:=by
 unfold clash1
 rw[List.length_map]
 exact List.length_filter_le _ _
theorem clash1_app(w:S32)(e:S36)(l m:List S36):clash1 w e (l++m)=clash1 w e l++clash1 w e m:=by
 unfold clash1
 rw[List.filter_append,List.map_append]
theorem clash1_one(w:S32)(e f:S36):clash1 w e [f]=open Classical in if e.f10=f.f10∧Meet e f w then [⟨e.f0,f.f0⟩]else []:=by
 unfold clash1
 by_cases h:e.f10=f.f10∧Meet e f w
 ·rw[if_pos h,List.filter_cons_of_pos (by simpa using h)]
  rfl
 ·rw[if_neg h,List.filter_cons_of_neg (by simpa using h)]
  rfl
theorem clash_step(w:S32){l:List S36}{i:Nat}{e:S36}(h:l[i]? = some e):clashL w (l.drop i)=clash1 w e (l.drop (i+1))++clashL w (l.drop (i+1)):=by
 obtain⟨hi,rfl⟩:=List.getElem?_eq_some_iff.1 h
 rw[List.drop_eq_getElem_cons hi]
 rfl
theorem clash_len(w:S32):∀l:List S36,(clashL w l).length≤l.length*l.length
 | []=>Nat.le_refl _
 | e::l=>by
   have h1:=clash_len w l
   have h2:=clash1_len w e l
   rw[clashL,List.length_append,List.length_cons,Nat.add_mul,Nat.mul_add]
   omega
theorem in_prog{a:List S36}{w:S32}{all:List (List S32)}{y7:Int×Bool×List (List S32)}{z1:List S72×Int}{i:Nat}{e:S36}(ha:OkL a)(hz:z1.2=(i:Int))(hlen:z1.1.length≤1000000)(hy:y7.2.2=a.map fun e=>rawW e w)(he:a[i]? = some e) :
  iter (L30_18 a w y7 z1 e) (z1.1,addI .i64 (i:Int) 1)=some ((a.length:Int),false,z1.1++clash1 w e (a.drop (i+1))):=by
 have hla:=ha.1.len
 have hi:i<a.length:=(List.getElem?_eq_some_iff.1 he).1
 have hee:=ha.2 e (List.mem_of_getElem? he)
 have hri:listAt y7.2.2 z1.2=some (rawW e w):=by
  rw[hz,hy]
  exact listAt_some (by rw[List.getElem?_map,he];rfl)
 obtain⟨r,h1,h2⟩:=iter_upx (st:=L30_18 a w y7 z1 e) (fun(s:List S72)(k:Nat)=>(s,(k:Int))) a.length
  (fun k s=>i+1≤k∧s=z1.1++clash1 w e ((a.take k).drop (i+1))) (fun r=>r=((a.length:Int),false,z1.1++clash1 w e (a.drop (i+1))))
  (fun k s hk hI=>by
   obtain⟨hik,hs⟩:=hI
   have hx:=List.getElem?_eq_getElem hk
   have hf:=ha.2 _ (List.getElem_mem hk)
   have hl:s.length≤2000000:=by
    rw[hs,List.length_append]
    have:=clash1_len w e ((a.take k).drop (i+1))
    rw[List.length_drop,List.length_take]at this
    omega
   have hn:clash1 w e ((a.take (k+1)).drop (i+1))=clash1 w e ((a.take k).drop (i+1))++clash1 w e [a[k]]:=by
    rw[take_next hx,List.drop_append_of_le_length (by rw[List.length_take];omega),clash1_app]
   have hrk:listAt y7.2.2 (k:Int)=some (rawW a[k] w):=by
    rw[hy]
    exact listAt_some (by rw[List.getElem?_map,hx];rfl)
   obtain⟨b,hb,hb2⟩:=overlap_ok (rawW e w) (rawW a[k] w) w (rawW_len hee w) (rawW_len hf w) (rawW_apart hee w) (rawW_apart hf w) (fun x hx=>rawW_pos hee hx) (fun x hx=>rawW_pos hf hx)
   rw[← meet_iff hee hf w]at hb2
   by_cases c1:e.f10=a[k].f10
   ·cases b with
    | true=>
      refine .inl ⟨s++[⟨e.f0,a[k].f0⟩],?_,by omega,?_⟩
      ·unfold L30_18
       refine ct (ltL_true hk) (bs (listAt_some hx) (ct (eqI_t c1) (bs hri (bs hrk (bs hb (ct rfl (bs (listAt_some hx) (bs (appO_big (by omega) (by simp;omega)) ?_))))))))
       rw[nextI (by omega)]
      ·rw[hn,clash1_one,if_pos ⟨c1,hb2.1 rfl⟩,hs,List.append_assoc]
    | false=>
      refine .inl ⟨s,?_,by omega,?_⟩
      ·unfold L30_18
       refine ct (ltL_true hk) (bs (listAt_some hx) (ct (eqI_t c1) (bs hri (bs hrk (bs hb (cf rfl ?_))))))
       rw[nextI (by omega)]
      ·rw[hn,clash1_one,if_neg (fun q=>absurd (hb2.2 q.2) (by decide)),List.append_nil,hs]
   ·refine .inl ⟨s,?_,by omega,?_⟩
    ·unfold L30_18
     refine ct (ltL_true hk) (bs (listAt_some hx) (cf (eqI_f c1) ?_))
     rw[nextI (by omega)]
    ·rw[hn,clash1_one,if_neg (fun q=>c1 q.1),List.append_nil,hs])
  (fun s hI=>by
   refine⟨((a.length:Int),false,s),?_,by rw[hI.2,List.take_length]⟩
   unfold L30_18
   refine cf (ltL_false (Nat.le_refl _)) ?_
   rw[ltL_false (Nat.le_refl _)]) (i+1) z1.1 (by omega) ⟨Nat.le_refl _,by
    rw[List.drop_take_self]
    unfold clash1
    simp⟩
 rw[nextI (by omega)]
 rw[h2]at h1
 exact h1
theorem clash_prog{a:List S36}{w:S32}(ha:OkL a)(h0:0≤w.f0)(h2:w.f1≤400000000000)(h51:T51 a=some 0)(h55:T55 w=some 0):T30 a w=some (clashL w a,0):=by
 have hla:=ha.1.len
 have hmk:mkZ 24 ([]:List S32) 0 (lenL a)=some []:=by
  unfold mkZ
  rw[if_pos (by rw[lenL_eq];omega)]
  rfl
 obtain⟨r,g1,g2⟩:=iter_up (st:=L30_9 a w) (fun(s:List (List S32))(i:Nat)=>(s,(i:Int))) a.length (fun i s=>s=(a.take i).map fun e=>rawW e w) (fun r=>r=((a.length:Int),false,a.map fun e=>rawW e w))
  (fun i s hi hI=>by
   have hx:=List.getElem?_eq_getElem hi
   refine⟨s++[rawW a[i] w],?_,by rw[hI,take_next hx,List.map_append];rfl⟩
   have hl:s.length≤1000:=by rw[hI,List.length_map,List.length_take];omega
   unfold L30_9
   refine ct (ltL_true hi) (bs (listAt_some hx) (bs (T56_w (ha.2 _ (List.getElem_mem hi)) h0 h2) (bs (appO_big (by omega) (by simp;omega)) ?_)))
   simp only
   rw[nextI (by omega)])
  (fun s hI=>by
   refine⟨((a.length:Int),false,s),?_,by rw[hI,List.take_length]⟩
   unfold L30_9
   refine cf (ltL_false (Nat.le_refl _)) ?_
   rw[ltL_false (Nat.le_refl _)]) [] rfl
 have g1:iter (L30_9 a w) ([],0)=some r:=g1
 rw[g2]at g1
 obtain⟨r2,k1,k2⟩:=iter_up (st:=L30_15 a w ((a.length:Int),false,a.map fun e=>rawW e w)) (fun(s:List S72)(i:Nat)=>(s,(i:Int))) a.length
  (fun i s=>s++clashL w (a.drop i)=clashL w a) (fun r=>r=((a.length:Int),false,clashL w a))
  (fun i s hi hI=>by
   have hx:=List.getElem?_eq_getElem hi
   have hl:s.length≤1000000:=by
    have h1:=congrArg List.length hI
    rw[List.length_append]at h1
    have h2:=clash_len w a
    have h3:a.length*a.length≤200*200:=Nat.mul_le_mul hla hla
    omega
   have hin:=in_prog (all:=[]) (z1:=(s,(i:Int))) (y7:=((a.length:Int),false,a.map fun e=>rawW e w)) ha rfl hl rfl hx
   refine⟨s++clash1 w a[i] (a.drop (i+1)),?_,?_⟩
   ·unfold L30_15
    refine ct (ltL_true hi) (bs (listAt_some hx) (bs hin ?_))
    simp only
    rw[nextI (by omega)]
   ·rw[List.append_assoc,←clash_step w hx]
    exact hI)
  (fun s hI=>by
   refine⟨((a.length:Int),false,s),?_,?_⟩
   ·unfold L30_15
    refine cf (ltL_false (Nat.le_refl _)) ?_
    rw[ltL_false (Nat.le_refl _)]
   ·rw[List.drop_length]at hI
    have:s=clashL w a:=by rw[← hI];simp[clashL]
    rw[this]) [] rfl
 have k1:iter (L30_15 a w ((a.length:Int),false,a.map fun e=>rawW e w)) ([],0)=some r2:=k1
 rw[k2]at k1
 unfold T30
 exact bs h51 (cf (neI_no 0) (bs h55 (cf (neI_no 0) (bs hmk (bs g1 (bs k1 rfl))))))
theorem in3{p0:List S36}{p1:S32}{z0:List S72×Int}{x1:S36}{x2:List S36}{z1:List S72×Int}{x3:S36}{x4:List S32}{z2:List S72×Bool×List S32×Int}{x6:S32}(l:List S32)(hl:l.length≤4001)(out:List S72)(m:Bool)(u:List S32) :
  ∃b,iter (L33_13 p0 p1 z0 x1 x2 z1 x3 x4 z2 x6 l) (out,m,u,l,0)=some (b,(l.length:Int),false,out,u,l)∧(b=true↔m=true∨∃y∈l,max x6.f0 y.f0<min x6.f1 y.f1):=by
 obtain⟨r,h1,b,h2,h3⟩:=iter_up (st:=L33_13 p0 p1 z0 x1 x2 z1 x3 x4 z2 x6 l) (fun(s:Bool)(i:Nat)=>(out,s,u,l,(i:Int))) l.length
  (fun i s=>s=true↔m=true∨∃y∈l.take i,max x6.f0 y.f0<min x6.f1 y.f1) (fun r=>∃b,r=(b,(l.length:Int),false,out,u,l)∧(b=true↔m=true∨∃y∈l,max x6.f0 y.f0<min x6.f1 y.f1))
  (fun i s hi hI=>by
   have hx:=List.getElem?_eq_getElem hi
   have hn:(∃ y∈l.take (i+1),max x6.f0 y.f0<min x6.f1 y.f1)↔(∃ y∈l.take i,max x6.f0 y.f0<min x6.f1 y.f1)∨max x6.f0 l[i].f0<min x6.f1 l[i].f1:=ex_take hx
   cases s with
   | true=>
     refine⟨true,?_,?_⟩
     ·unfold L33_13
      refine ct (ltL_true hi) (bs (idx_nat hi) (bs (getN_some hx) (ct rfl ?_)))
      simp only
      rw[nextI (by omega)]
     ·rw[hn]
      have:=hI.1 rfl
      simp only[true_iff]
      rcases this with h|h
      ·exact .inl h
      ·exact .inr (.inl h)
   | false=>
     refine⟨ltI (max x6.f0 l[i].f0) (min x6.f1 l[i].f1),?_,?_⟩
     ·unfold L33_13
      refine ct (ltL_true hi) (bs (idx_nat hi) (bs (getN_some hx) (cf rfl ?_)))
      simp only
      rw[nextI (by omega),maxI_eq,minI_eq]
     ·rw[hn,ltI_iff,decide_eq_true_eq]
      have:¬(m=true∨∃y∈l.take i,max x6.f0 y.f0<min x6.f1 y.f1):=fun q=>absurd (hI.2 q) (by decide)
      constructor
      ·intro q;exact .inr (.inr q)
      ·rintro(q|q|q)
       ·exact absurd (.inl q) this
       ·exact absurd (.inr q) this
       ·exact q)
  (fun s hI=>by
   refine⟨(s,(l.length:Int),false,out,u,l),?_,s,rfl,by rw[hI,List.take_length]⟩
   unfold L33_13
   refine cf (ltL_false (Nat.le_refl _)) ?_
   rw[ltL_false (Nat.le_refl _)]) m (by simp)
 exact⟨b,by rw[← h2];exact h1,h3⟩
theorem in2{p0:List S36}{p1:S32}{z0:List S72×Int}{x1:S36}{x2:List S36}{z1:List S72×Int}{x3:S36}(h3e:OkE x3)(l:List S32)(hl:l.length≤4001)(out:List S72) :
  ∃b,iter (L33_10 p0 p1 z0 x1 x2 z1 x3 l) (out,false,l,0)=some (b,(l.length:Int),false,out,l)∧(b=true↔∃x∈l,∃y∈timesL x3 0 p1,max x.f0 y.f0<min x.f1 y.f1):=by
 obtain⟨r,h1,b,h2,h3⟩:=iter_up (st:=L33_10 p0 p1 z0 x1 x2 z1 x3 l) (fun(s:Bool)(i:Nat)=>(out,s,l,(i:Int))) l.length
  (fun i s=>s=true↔∃x∈l.take i,∃y∈timesL x3 0 p1,max x.f0 y.f0<min x.f1 y.f1) (fun r=>∃b,r=(b,(l.length:Int),false,out,l)∧(b=true↔∃x∈l,∃y∈timesL x3 0 p1,max x.f0 y.f0<min x.f1 y.f1))
  (fun i s hi hI=>by
   have hx:=List.getElem?_eq_getElem hi
   obtain⟨b,g1,g2⟩:=in3 (p0:=p0) (p1:=p1) (z0:=z0) (x1:=x1) (x2:=x2) (z1:=z1) (x3:=x3) (x4:=l) (z2:=(out,s,l,(i:Int))) (x6:=l[i]) (timesL x3 0 p1) (times_len h3e.fine) out s l
   refine⟨b,?_,?_⟩
   ·unfold L33_10
    refine ct (ltL_true hi) (bs (idx_nat hi) (bs (getN_some hx) (bs (T63_eq h3e.fine (by omega) p1) (bs g1 ?_))))
    simp only
    rw[nextI (by omega)]
   ·rw[g2,hI]
    exact(ex_take (P:=fun x=>∃y,y∈timesL x3 0 p1∧max x.f0 y.f0<min x.f1 y.f1) hx).symm)
  (fun s hI=>by
   refine⟨(s,(l.length:Int),false,out,l),?_,s,rfl,by rw[hI,List.take_length]⟩
   unfold L33_10
   refine cf (ltL_false (Nat.le_refl _)) ?_
   rw[ltL_false (Nat.le_refl _)]) false (by simp)
 exact⟨b,by rw[← h2];exact h1,h3⟩
theorem in1{p0:List S36}{p1:S32}{z0:List S72×Int}{x1:S36}(h1e:OkE x1)(l:List S36)(hl:∀e∈l,OkE e)(hn:l.length≤200)(out:List S72)(ho:out.length≤1000000) :
  iter (L33_6 p0 p1 z0 x1 l) (out,0)=some ((l.length:Int),false,out++clash1 p1 x1 l):=by
 obtain⟨r,h1,h2⟩:=iter_up (st:=L33_6 p0 p1 z0 x1 l) (fun(s:List S72)(i:Nat)=>(s,(i:Int))) l.length
  (fun i s=>s=out++clash1 p1 x1 (l.take i)) (fun r=>r=((l.length:Int),false,out++clash1 p1 x1 l))
  (fun i s hi hI=>by
   have hx:=List.getElem?_eq_getElem hi
   have he:=hl _ (List.getElem_mem hi)
   have hsl:s.length≤1001000:=by
    rw[hI,List.length_append]
    have:=clash1_len p1 x1 (l.take i)
    rw[List.length_take]at this
    omega
   obtain⟨b,g1,g2⟩:=in2 (p0:=p0) (p1:=p1) (z0:=z0) (x1:=x1) (x2:=l) (z1:=(s,(i:Int))) (x3:=l[i]) he (timesL x1 0 p1) (times_len h1e.fine) s
   have hnn:out++clash1 p1 x1 (l.take (i+1))=s++clash1 p1 x1 [l[i]]:=by rw[take_next hx,clash1_app,hI,List.append_assoc]
   cases b with
   | false=>
     refine⟨s,?_,?_⟩
     ·unfold L33_6
      refine ct (ltL_true hi) (bs (listAt_some hx) (bs (T63_eq h1e.fine (by omega) p1) (bs g1 (cf rfl ?_))))
      simp only
      rw[nextI (by omega)]
     ·rw[hnn,clash1_one,if_neg (fun q=>absurd (g2.2 q.2) (by decide)),List.append_nil]
   | true=>
     by_cases c:x1.f10=l[i].f10
     ·refine⟨s++[⟨x1.f0,l[i].f0⟩],?_,?_⟩
      ·unfold L33_6
       refine ct (ltL_true hi) (bs (listAt_some hx) (bs (T63_eq h1e.fine (by omega) p1) (bs g1 (ct rfl (ct (eqI_t c) (bs (appO_big (by omega) (by simp;omega)) ?_))))))
       simp only
       rw[nextI (by omega)]
      ·rw[hnn,clash1_one,if_pos ⟨c,g2.1 rfl⟩]
     ·refine⟨s,?_,?_⟩
      ·unfold L33_6
       refine ct (ltL_true hi) (bs (listAt_some hx) (bs (T63_eq h1e.fine (by omega) p1) (bs g1 (ct rfl (cf (eqI_f c) ?_)))))
       simp only
       rw[nextI (by omega)]
      ·rw[hnn,clash1_one,if_neg (fun q=>c q.1),List.append_nil])
  (fun s hI=>by
   refine⟨((l.length:Int),false,s),?_,by rw[hI,List.take_length]⟩
   unfold L33_6
   refine cf (ltL_false (Nat.le_refl _)) ?_
   rw[ltL_false (Nat.le_refl _)]) out (by unfold clash1;simp)
 rw[h2]at h1
 exact h1
theorem clash_ref{a:List S36}{w:S32}(ha:OkL a):T33 a w=some (clashL w a):=by
 have hla:=ha.1.len
 obtain⟨r2,k1,k2⟩:=iter_up (st:=L33_3 a w) (fun(s:List S72)(i:Nat)=>(s,(i:Int))) a.length
  (fun i s=>s++clashL w (a.drop i)=clashL w a) (fun r=>r=((a.length:Int),false,clashL w a))
  (fun i s hi hI=>by
   have hx:=List.getElem?_eq_getElem hi
   have hl:s.length≤1000000:=by
    have h1:=congrArg List.length hI
    rw[List.length_append]at h1
    have h2:=clash_len w a
    have h3:a.length*a.length≤200*200:=Nat.mul_le_mul hla hla
    omega
   have hcut:cutL a (some (addI .i64 (i:Int) 1)) none=some (a.drop (i+1)):=by
    rw[nextI (by omega)]
    unfold cutL cutB
    simp only[Option.elim]
    first
     | (rw[if_pos ⟨by omega,by omega⟩];simp)
     | (simp;omega)
     | (simp;exact⟨by omega,by omega⟩)
   have hin:=in1 (p0:=a) (p1:=w) (z0:=(s,(i:Int))) (ha.2 _ (List.getElem_mem hi)) (a.drop (i+1)) (fun e he=>ha.2 e (List.mem_of_mem_drop he)) (by rw[List.length_drop];omega) s hl
   refine⟨s++clash1 w a[i] (a.drop (i+1)),?_,?_⟩
   ·unfold L33_3
    refine ct (ltL_true hi) (bs (listAt_some hx) (bs hcut (bs hin ?_)))
    simp only
    rw[nextI (by omega)]
   ·rw[List.append_assoc,←clash_step w hx]
    exact hI)
  (fun s hI=>by
   refine⟨((a.length:Int),false,s),?_,?_⟩
   ·unfold L33_3
    refine cf (ltL_false (Nat.le_refl _)) ?_
    rw[ltL_false (Nat.le_refl _)]
   ·rw[List.drop_length]at hI
    have:s=clashL w a:=by rw[← hI];simp[clashL]
    rw[this]) [] rfl
 have k1:iter (L33_3 a w) ([],0)=some r2:=k1
 rw[k2]at k1
 unfold T33
 exact bs k1 rfl
end Go.Abs.TUX
set_option linter.unusedVariables false
set_option linter.unusedSimpArgs false
set_option maxRecDepth 10000
namespace Go.Abs.TUX
open Go.RowKit Go.Proofs Go.Abs
theorem T16_four(a b c d:Int):T16 [a,b,c,d]=some (bif neI a 0 then a else bif neI b 0 then b else bif neI c 0 then c else d):=by
 have st:∀(i:Nat)(x:Int),([a,b,c,d]:List Int)[i]? = some x→L16_2 [a,b,c,d] (i:Int)=some (bif neI x 0 then .inr (.inr x)else .inl ((i+1:Nat):Int)):=by
  intro i x hx
  have hi:i<([a,b,c,d]:List Int).length:=(List.getElem?_eq_some_iff.1 hx).1
  unfold L16_2
  refine ct (ltL_true hi) (bs (listAt_some hx) ?_)
  rw[nextI (by simp at hi;omega)]
  cases neI x 0<;>rfl
 have en:L16_2 [a,b,c,d] ((4:Nat):Int)=some (.inr (.inl (4,false))):=rfl
 have s0:=st 0 a rfl
 have s1:=st 1 b rfl
 have s2:=st 2 c rfl
 have s3:=st 3 d rfl
 have fin:∀r,iter (L16_2 [a,b,c,d]) ((0:Nat):Int)=some r→T16 [a,b,c,d]=some (Sum.elim (fun _=>0) id r):=fun r hr=>by
  unfold T16
  refine bs hr ?_
  cases r<;>rfl
 cases ha:neI a 0 with
 | true=>
   rw[ha]at s0
   exact fin _ (iter_inr s0)
 | false=>
   rw[ha]at s0
   cases hb:neI b 0 with
   | true=>
     rw[hb]at s1
     exact fin _ ((iter_inl s0).trans (iter_inr s1))
   | false=>
     rw[hb]at s1
     cases hc:neI c 0 with
     | true=>
       rw[hc]at s2
       exact fin _ ((iter_inl s0).trans ((iter_inl s1).trans (iter_inr s2)))
     | false=>
       rw[hc]at s2
       cases hd:neI d 0 with
       | true=>
         rw[hd]at s3
         exact fin _ ((iter_inl s0).trans ((iter_inl s1).trans ((iter_inl s2).trans (iter_inr s3))))
       | false=>
         rw[hd]at s3
         have hz:=neI_false.1 hd
         refine(fin _ ((iter_inl s0).trans ((iter_inl s1).trans ((iter_inl s2).trans ((iter_inl s3).trans (iter_inr en)))))).trans ?_
         rw[hz]
         rfl
theorem wins_self(l:List S32)(h:l.length≤10000000):T34 l l=some true:=by
 unfold T34
 refine cf (neI_no _) ?_
 obtain⟨r,h2,h3⟩:=iter_up (st:=L34_4 l l) (fun(_:Unit)(i:Nat)=>(i:Int)) l.length (fun _ _=>True) (fun r=>∃x,r= .inl x)
  (fun i s hi _=>by
   have hx:=List.getElem?_eq_getElem hi
   refine⟨(),?_,trivial⟩
   unfold L34_4
   refine ct (ltL_true hi) (bs (listAt_some hx) (bs (listAt_some hx) (cf ?_ ?_)))
   ·rw[eqI_self,eqI_self];rfl
   ·rw[nextI (by omega)])
  (fun s _=>⟨.inl ((l.length:Int),false),by
   unfold L34_4
   rw[ltL_false (Nat.le_refl _)]
   rfl,_,rfl⟩) () trivial
 obtain⟨x,rfl⟩:=h3
 exact bs h2 rfl
theorem pairs_self(l:List S72)(h:l.length≤10000000):T35 l l=some true:=by
 unfold T35
 refine cf (neI_no _) ?_
 obtain⟨r,h2,h3⟩:=iter_up (st:=L35_4 l l) (fun(_:Unit)(i:Nat)=>(i:Int)) l.length (fun _ _=>True) (fun r=>∃x,r= .inl x)
  (fun i s hi _=>by
   have hx:=List.getElem?_eq_getElem hi
   refine⟨(),?_,trivial⟩
   unfold L35_4
   refine ct (ltL_true hi) (bs (listAt_some hx) (bs (listAt_some hx) (cf ?_ ?_)))
   ·rw[eqB_self,eqB_self];rfl
   ·rw[nextI (by omega)])
  (fun s _=>⟨.inl ((l.length:Int),false),by
   unfold L35_4
   rw[ltL_false (Nat.le_refl _)]
   rfl,_,rfl⟩) () trivial
 obtain⟨x,rfl⟩:=h3
 exact bs h2 rfl
theorem spans_none{a:List S36}{p:S24}{w:S32}(ha:OkL a)(hp:OkP p)(h:w.f1≤w.f0):T66 a p w=some []:=by
 have hlen:=ha.1.len
 obtain⟨r,h3,h4⟩:=iter_up (st:=L66_3 a p w) (fun(s:List S78)(i:Nat)=>(s,(i:Int))) a.length (fun i s=>s=[]) (fun r=>r=((a.length:Int),false,[]))
  (fun i s hi hI=>by
   subst hI
   have hx:=List.getElem?_eq_getElem hi
   have he:=ha.2 _ (List.getElem_mem hi)
   have hf:=fit_ok he hp
   refine⟨[],?_,rfl⟩
   unfold L66_3
   cases hb:fitsB a[i] p with
   | false=>
     refine ct (ltL_true hi) (bs (listAt_some hx) (bs (hf.trans (congrArg some hb)) (ct rfl ?_)))
     simp only
     rw[nextI (by omega)]
   | true=>
     refine ct (ltL_true hi) (bs (listAt_some hx) (bs (hf.trans (congrArg some hb)) (cf rfl (bs (listAt_some hx) (bs (T56_none h) (bs (inner_ok (z0:=([],(i:Int))) (listAt_some hx) (by simp) (by simp)) ?_))))))
     simp only
     rw[nextI (by omega)]
     rfl)
  (fun s hI=>by
   subst hI
   refine⟨((a.length:Int),false,[]),?_,rfl⟩
   unfold L66_3
   refine cf (ltL_false (Nat.le_refl _)) ?_
   rw[ltL_false (Nat.le_refl _)]) [] rfl
 have h3:iter (L66_3 a p w) ([],0)=some r:=h3
 rw[h4]at h3
 unfold T66
 exact bs h3 rfl
theorem through_none{a:List S36}{p:S24}{w:S32}(ha:OkL a)(hp:OkP p)(h:w.f1=w.f0):T38 a p w=some []:=by
 have hs:=spans_none (w:=w) ha hp (by omega)
 obtain⟨es,e1,e2,e3,e4⟩:=edges_ok hs (Nat.zero_le _)
 have hl:es.length≤1:=by
  refine Classical.byContradiction fun q=>?_
  have m0:=(e4 _).1 (List.getElem_mem (show 0<es.length by omega))
  have m1:=(e4 _).1 (List.getElem_mem (show 1<es.length by omega))
  have:=List.pairwise_iff_getElem.1 e2 0 1 (by omega) (by omega) (by omega)
  have z:∀x:Int,(x=w.f0∨x=w.f1∨∃s:S78,s∈([]:List S78)∧(x=max s.f1.f0 w.f0∨x=min s.f1.f1 w.f1))→x=w.f0:=fun x hx=>by
   rcases hx with hx|hx|⟨s,hs,_⟩
   ·exact hx
   ·omega
   ·cases hs
  have a0:=z _ m0
  have a1:=z _ m1
  omega
 have hcond:ltI (addI .i64 0 1) (lenL es)=false:=ltI_f (by rw[lenL_eq,show addI .i64 0 1=1 from rfl];omega)
 have hstep:∃r,L38_8 es ([],[],[],0,0)=some (.inr r)∧r.2.2.2.1=[]:=by
  unfold L38_8
  exact⟨_,cf hcond rfl,rfl⟩
 obtain⟨r,r1,r2⟩:=hstep
 unfold T38
 refine bs hs (bs (a:=[]) (by simp[sortO]) (bs e1 (bs (iter_inr r1) ?_)))
 rw[r2]
theorem keys_nodup{a:List S36}(ha:OkL a):(a.map (·.f0)).Nodup:=by
 rw[List.Nodup,List.pairwise_map]
 exact ha.1.rise.imp fun{x y} h e=>by
  rw[e,ltS_irrefl]at h
  cases h
def first4(a b c d:Int):Int:=bif neI a 0 then a else bif neI b 0 then b else bif neI c 0 then c else d
theorem T29_bad{a b:List S36}{p:S24}{w:S32}(ha:a.length≤1048576∧∀x∈a,ok36 1048576 x)(hb:b.length≤1048576∧∀x∈b,ok36 1048576 x)(hp:ok24 1048576 p)(h:first4 (entsF a) (entsF b) (playF p) (spanF w)≠0) :
  T29 a b p w=some ([],first4 (entsF a) (entsF b) (playF p) (spanF w)):=by
 unfold first4 at h ⊢
 unfold T29 T52
 refine bs (T51_eq a ha.1 ha.2) ?_
 cases h1:neI (entsF a) 0;rotate_left; · rfl
 rw[h1]at h
 simp only[cond_false]at h ⊢
 rw[T51_eq b hb.1 hb.2,Option.bind_some]
 cases h2:neI (entsF b) 0;rotate_left
 ·simp only[cond_true,Option.bind_some,h2]
 rw[h2]at h
 simp only[cond_false]at h ⊢
 rw[T64_eq p hp,Option.bind_some]
 cases h3:neI (playF p) 0;rotate_left
 ·simp only[cond_true,Option.bind_some,h3]
 rw[h3]at h
 simp only[cond_false]at h ⊢
 rw[T55_eq,Option.bind_some,Option.bind_some,neI_t h,cond_true]
theorem changed_both{a b:List S36}{p:S24}{w:S32}(ha:OkL a)(hb:OkL b)(hp:OkP p)(W:FineW w)(h51:T51 a=some 0)(h52:T52 b p w=some 0):∃out,T29 a b p w=some (out,0)∧T32 a b p w=some out∧out.length≤10000000:=by
 have w0:=W.pos
 have w1:=W.ord
 have w2:=W.top
 obtain⟨ro,r1,r2⟩:=ref_ok ha hb hp w0 w1 (by omega)
 obtain⟨M,m1,m2⟩:=items_ok (by have:=ha.1.len;omega) (keys_nodup ha)
 obtain⟨N,n1,n2⟩:=items_ok (by have:=hb.1.len;omega) (keys_nodup hb)
 by_cases hlt:w.f0<w.f1
 ·obtain⟨x,x1,x2,x3⟩:=through_ok ha hp w0 hlt (by omega)
  obtain⟨y,y1,y2,y3⟩:=through_ok hb hp w0 hlt (by omega)
  obtain⟨r,c1,c2,c3⟩:=changed_ok ha hb hp w0 hlt (by omega) m2 n2 x2 y2 x3 y3
  have e:=wn_one c2 r2
  refine⟨r.2.2.2.2.2,?_,by rw[e];exact r1,by omega⟩
  unfold T29
  exact bs h51 (cf (neI_no 0) (bs h52 (cf (neI_no 0) (bs x1 (bs y1 (bs m1 (bs n1 (bs c1 rfl))))))))
 ·have heq:w.f1=w.f0:=by omega
  have e:ro=[]:=by
   have:Wn (Diff a b p) w.f0 w.f1 []:=by rw[heq];exact Wn.nil
   exact wn_one r2 this
  refine⟨[],?_,by rw[r1,e],by simp⟩
  have hst:L29_11 M N ([],[],[],0,0)=some (.inr (0,0,false,[],[],[])):=by
   unfold L29_11
   exact cf rfl rfl
  unfold T29
  exact bs h51 (cf (neI_no 0) (bs h52 (cf (neI_no 0) (bs (through_none ha hp heq) (bs (through_none hb hp heq) (bs m1 (bs n1 (bs (iter_inr hst) rfl))))))))
theorem T10_eq(a b:List S36)(p:S24)(w:S32)(ha:a.length≤1048576∧∀x∈a,ok36 1048576 x)(hb:b.length≤1048576∧∀x∈b,ok36 1048576 x)(hp:ok24 1048576 p):T10 a b p w=some true:=by
 have f3:=T17_eq a ha.1 ha.2
 have f4:=T17_eq b hb.1 hb.2
 have f5:=T18_eq p hp
 have f6:=T31_eq w
 have f7:T16 [entsF a,entsF b,playF p,spanF w]=some (first4 (entsF a) (entsF b) (playF p) (spanF w)):=T16_four _ _ _ _
 have f10:=T49_two (entsF a) (spanF w)
 have h51:=T51_eq a ha.1 ha.2
 have nilW:T34 [] []=some true:=wins_self [] (by simp)
 have nilP:T35 [] []=some true:=pairs_self [] (by simp)
 have hclash:∃l v,T30 a w=some (l,v)∧((bif neI (entsF a) 0 then entsF a else spanF w)=0∧v=0∧T33 a w=some l∧T35 l l=some true∨(bif neI (entsF a) 0 then entsF a else spanF w)≠0∧v=(bif neI (entsF a) 0 then entsF a else spanF w)∧l=[]):=by
  by_cases q:(bif neI (entsF a) 0 then entsF a else spanF w)=0
  ·cases h1:neI (entsF a) 0<;>rw[h1]at q
   ·have z1:=neI_false.1 h1
    have q:spanF w=0:=q
    have L:=okL ha.2 z1
    have W:=spanF_ok q
    have w0:=W.pos
    have w2:=W.top
    rw[z1]at h51
    refine⟨clashL w a,0,clash_prog L w0 (by omega) h51 (by rw[T55_eq,q]),.inl ⟨by rw[q];rfl,rfl,clash_ref L,pairs_self _ ?_⟩⟩
    have h2:=clash_len w a
    have h3:a.length*a.length≤200*200:=Nat.mul_le_mul L.1.len L.1.len
    omega
   ·have q:entsF a=0:=q
    rw[q,neI_no]at h1
    cases h1
  ·refine⟨[],_,?_,.inr ⟨q,rfl,rfl⟩⟩
   unfold T30
   refine bs h51 ?_
   cases h1:neI (entsF a) 0<;>rw[h1]at q
   ·refine bs (T55_eq w) ?_
    have q:spanF w≠0:=q
    rw[neI_t q]
    rfl
   ·rfl
 obtain⟨l,v,g1,g2⟩:=hclash
 have hch:∃o u,T29 a b p w=some (o,u)∧(first4 (entsF a) (entsF b) (playF p) (spanF w)=0∧u=0∧T32 a b p w=some o∧T34 o o=some true∨first4 (entsF a) (entsF b) (playF p) (spanF w)≠0∧u=first4 (entsF a) (entsF b) (playF p) (spanF w)∧o=[]):=by
  by_cases q:first4 (entsF a) (entsF b) (playF p) (spanF w)=0
  ·have q0:=q
   unfold first4 at q
   cases h1:neI (entsF a) 0<;>rw[h1]at q
   rotate_left
   ·have q:entsF a=0:=q
    rw[q,neI_no]at h1
    cases h1
   cases h2:neI (entsF b) 0<;>rw[h2]at q
   rotate_left
   ·have q:entsF b=0:=q
    rw[q,neI_no]at h2
    cases h2
   cases h3:neI (playF p) 0<;>rw[h3]at q
   rotate_left
   ·have q:playF p=0:=q
    rw[q,neI_no]at h3
    cases h3
   have q:spanF w=0:=q
   have z1:=neI_false.1 h1
   have z2:=neI_false.1 h2
   have z3:=neI_false.1 h3
   have h52:T52 b p w=some 0:=by
    unfold T52
    refine bs (T51_eq b hb.1 hb.2) (cf h2 (bs (T64_eq p hp) (cf h3 (bs (T55_eq w) ?_))))
    rw[q]
   obtain⟨o,o1,o2,o3⟩:=changed_both (okL ha.2 z1) (okL hb.2 z2) (okP hp z3) (spanF_ok q) (by rw[h51,z1]) h52
   exact⟨o,0,o1,.inl ⟨q0,rfl,o2,wins_self o o3⟩⟩
  ·exact⟨[],_,T29_bad ha hb hp q,.inr ⟨q,rfl,rfl⟩⟩
 obtain⟨o,u,k1,k2⟩:=hch
 unfold T10
 refine bs k1 (bs g1 (bs f3 (bs f4 (bs f5 (bs f6 (bs f7 (bs f3 (bs f6 (bs f10 ?_)))))))))
 rcases k2 with⟨q,rfl,q2,q3⟩|⟨q,rfl,rfl⟩<;>rcases g2 with⟨r,rfl,r2,r3⟩|⟨r,rfl,rfl⟩
 ·rw[q,r]
  exact ct (eqI_self 0) (bs q2 (ct (eqI_self 0) (bs r2 (ct (eqI_self 0) (bs q3 (ct rfl (ct (eqI_self 0) (bs r3 (ct rfl (bs T20_eq rfl))))))))))
 ·rw[q]
  exact ct (eqI_self 0) (bs q2 (cf (eqI_f r) (ct (eqI_self 0) (bs q3 (ct rfl (ct (eqI_self _) (bs nilP (ct rfl (bs T20_eq rfl)))))))))
 ·rw[r]
  exact cf (eqI_f q) (ct (eqI_self 0) (bs r2 (ct (eqI_self _) (bs nilW (ct rfl (ct (eqI_self 0) (bs r3 (ct rfl (bs T20_eq rfl)))))))))
 ·exact cf (eqI_f q) (cf (eqI_f r) (ct (eqI_self _) (bs nilW (ct rfl (ct (eqI_self _) (bs nilP (ct rfl (bs T20_eq rfl))))))))
theorem plain(p0:(List S36))(p1:(List S36))(p2:S24)(p3:S32)(h0:(p0.length≤1048576∧∀x∈p0,ok36 1048576 x))(h1:(p1.length≤1048576∧∀x∈p1,ok36 1048576 x))(h2:ok24 1048576 p2)(h3:ok32 1048576 p3):T4 p0 p1 p2 p3=some true:=by
 have ho:∀x∈[p2],ok24 1048576 x:=by simpa using h2
 unfold T4
 exact bs (T5_eq p0 h0.1 h0.2) (bs (T5_eq p1 h1.1 h1.2) (bs (T6_eq [p2] (by simp) ho) (bs rfl (bs rfl (bs (T10_eq p0 p1 p2 p3 h0 h1 h2) (ct rfl (bs (T24_self p0 h0.1 h0.2) (ct rfl (bs (T24_self p1 h1.1 h1.2) (ct rfl (bs (T23_self [p2] (by simp) ho) rfl)))))))))))
end Go.Abs.TUX
