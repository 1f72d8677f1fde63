import Derived.Test.YthcgpcmeffkijaaGreatDoorSTUSR
import Derived.Test.YthcgpcmeffkijaaGreatDoorSPl
import Derived.Test.YthcgpcmeffkijaaGreatDoorSPlV
import Derived.Test.YthcgpcmeffkijaaGreatDoorSPlD
import Derived.Test.YthcgpcmeffkijaaGreatDoorSPlT
import Derived.Lib.DecodeN
import Derived.Test.YthcgpcmeffkijaaGreatDoorSPlS
set_option linter.unusedVariables false
set_option linter.unusedSimpArgs false
namespace Go.Abs.TUS
open Go.RowKit
def wc(x:Int):Bool:=(leI 97 x&&leI x 122)||((leI 48 x&&leI x 57)||eqI x 45||eqI x 95)
def okAt(i:Nat)(c:UInt8):Bool:=(leI 97 c.toNat&&leI c.toNat 122)||(ltI 0 i&&((leI 48 c.toNat&&leI c.toNat 57)||eqI c.toNat 45||eqI c.toNat 95))
def key(s:ByteArray):Bool:=((by_ s).zipIdx.all fun q=>okAt q.2 q.1) && !eqS s (ByteArray.mk #[])&&leI (lenS s) 40
theorem T55_eq(s:ByteArray)(h:s.size≤1048576):T55 s=some (key s):=by
 have hi:iter (L55_2 s) ((0:Nat):Int)=some (Sum.elim (fun _:Unit=> .inl ((s.size:Int),false)) (fun _:Unit=> .inr ()) (wp (fun i (_:Unit) x=>bif okAt i x then(.inl ():Unit⊕Unit)else .inr ()) 0 () (by_ s))):=by
  refine iter_wpS (fun _ i=>(i:Int)) _ _ s _ (fun _ _=>True) (fun i u x hx _=>⟨?_,fun _ _=>trivial⟩) (fun u _=>?_) () trivial
  ·have hlt:i<s.size:=by rw[← by_len];exact(List.getElem?_eq_some_iff.1 hx).1
   have h1:ltI (i:Int) (lenS s)=true:=by rw[ltI_iff,lenS_eq];simpa using hlt
   have h2:addI .i64 (i:Int) 1=((i+1:Nat):Int):=by rw[addI_eq (by omega) (by omega)];omega
   simp only[L55_2,h1,cond_true,byteAt_some hx,Option.bind_some,h2,okAt]
   generalize leI 97 (x.toNat:Int)=b1
   generalize leI (x.toNat:Int) 122=b2
   generalize ltI 0 (i:Int)=b3
   generalize leI 48 (x.toNat:Int)=b4
   generalize leI (x.toNat:Int) 57=b5
   generalize eqI (x.toNat:Int) 45=b6
   generalize eqI (x.toNat:Int) 95=b7
   cases b1<;>cases b2<;>cases b3<;>cases b4<;>cases b5<;>cases b6<;>cases b7<;>rfl
  ·have h1:ltI (s.size:Int) (lenS s)=false:=by rw[ltI_iff,lenS_eq];simp
   simp only[L55_2,h1,cond_false]
 unfold T55
 rw[show (0:Int)=((0:Nat):Int)from rfl,hi,wp_all okAt,elim_cond,Option.bind_some]
 unfold key
 cases (by_ s).zipIdx.all fun q=>okAt q.2 q.1<;>cases eqS s (ByteArray.mk #[])<;>rfl
def smalls:ByteArray:=ByteArray.mk #[97,98,99,100,101,102,103,104,105,106,107,108,109,110,111,112,113,114,115,116,117,118,119,120,121,122]
def words:ByteArray:=ByteArray.mk #[97,98,99,100,101,102,103,104,105,106,107,108,109,110,111,112,113,114,115,116,117,118,119,120,121,122,48,49,50,51,52,53,54,55,56,57,45,95]
theorem T104_eq(s t:ByteArray)(h:s.size≤1048576):T104 s t=some ((by_ s).all fun c => !ltI (idxB t c.toNat) 0):=by
 have hi:iter (L104_2 s t) ((0:Nat):Int)=some (Sum.elim (fun _:Unit=> .inl ((s.size:Int),false)) (fun _:Unit=> .inr ()) (wp (fun i (_:Unit) (x:UInt8)=>bif !ltI (idxB t x.toNat) 0 then(.inl ():Unit⊕Unit)else .inr ()) 0 () (by_ s))):=by
  refine iter_wpS (fun _ i=>(i:Int)) _ _ s _ (fun _ _=>True) (fun i u x hx _=>⟨?_,fun _ _=>trivial⟩) (fun u _=>?_) () trivial
  ·have hlt:i<s.size:=by rw[← by_len];exact(List.getElem?_eq_some_iff.1 hx).1
   have h1:ltI (i:Int) (lenS s)=true:=by rw[ltI_iff,lenS_eq];simpa using hlt
   have h2:addI .i64 (i:Int) 1=((i+1:Nat):Int):=by rw[addI_eq (by omega) (by omega)];omega
   simp only[L104_2,T129,h1,cond_true,byteAt_some hx,Option.bind_some,h2]
   cases ltI (idxB t (x.toNat:Int)) 0<;>rfl
  ·have h1:ltI (s.size:Int) (lenS s)=false:=by rw[ltI_iff,lenS_eq];simp
   simp only[L104_2,h1,cond_false]
 unfold T104
 rw[show (0:Int)=((0:Nat):Int)from rfl,hi,wp_all',elim_cond,Option.bind_some]
 cases (by_ s).all fun c => !ltI (idxB t (c.toNat:Int)) 0<;>rfl
theorem smalls_idx:∀n:Fin 256,(!ltI (Lib.indexByte (by_ smalls) (UInt8.ofNat n.val)) 0)=(leI 97 n.val&&leI n.val 122):=by decide +kernel
theorem words_idx:∀n:Fin 256,(!ltI (Lib.indexByte (by_ words) (UInt8.ofNat n.val)) 0)=wc n.val:=by decide +kernel
theorem smalls_at(c:UInt8):(!ltI (idxB smalls c.toNat) 0)=(leI 97 c.toNat&&leI c.toNat 122):=by
 have:=smalls_idx ⟨c.toNat,c.toNat_lt⟩
 simpa[idxB]using this
theorem words_at(c:UInt8):(!ltI (idxB words c.toNat) 0)=wc c.toNat:=by
 have:=words_idx ⟨c.toNat,c.toNat_lt⟩
 simpa[idxB]using this
theorem okAt_pos{i:Nat}(h:1≤i)(c:UInt8):okAt i c=wc c.toNat:=by
 have:ltI 0 (i:Int)=true:=by rw[ltI_iff];simp;omega
 simp only[okAt,wc,this,Bool.true_and]
theorem okAt_all(l:List UInt8)(k:Nat)(h:1≤k):((l.zipIdx k).all fun q=>okAt q.2 q.1)=l.all fun c=>wc c.toNat:=by
 induction l generalizing k with
 | nil=>rfl
 | cons a l ih=>simp only[List.zipIdx_cons,List.all_cons,okAt_pos h,ih (k+1) (by omega)]
theorem eqS_empty{s:ByteArray}(h:s.size≠0):eqS s (ByteArray.mk #[])=false:=by
 rw[eqS_iff]
 simp only[decide_eq_false_iff_not]
 intro e
 rw[e]at h
 exact h rfl
theorem T53_eq(a b c:Int):T53 a b c=some (leI b a&&leI a c):=by
 unfold T53
 cases leI b a<;>rfl
theorem T52_eq(s:ByteArray)(h:s.size≤1048576):T52 s=some (key s):=by
 unfold T52
 rw[T53_eq,Option.bind_some]
 have hlen:=by_len s
 rcases hb:by_ s with _|⟨c,l⟩
 ·rw[hb]at hlen
  have h0:s.size=0:=hlen.symm
  have h1:leI 1 (lenS s)=false:=by rw[leI_iff,lenS_eq,h0];rfl
  have h2:eqS s (ByteArray.mk #[])=true:=by
   rw[eqS_iff];simp only[decide_eq_true_eq];exact by_inj hb
  unfold key
  rw[h1,h2,Bool.false_and,cond_false]
  simp
 ·rw[hb,List.length_cons]at hlen
  have h1:leI 1 (lenS s)=true:=by rw[leI_iff,lenS_eq];simp;omega
  have h2:eqS s (ByteArray.mk #[])=false:=eqS_empty (by omega)
  have h3:cutS s none (some 1)=some (s.extract 0 1):=by
   have:(1:Int)≤(s.size:Int):=by omega
   simp[cutS,cutB,this]
  have h4:by_ (s.extract 0 1)=[c]:=by rw[by_extract,hb];rfl
  have h5:(s.extract 0 1).size≤1048576:=by rw[← by_len,h4];simp
  have h6:=T104_eq (s.extract 0 1) smalls h5
  have h7:=T104_eq s words h
  unfold smalls at h6
  unfold words at h7
  rw[h1,h3,Bool.true_and,Option.bind_some,h6,h4,h7,hb]
  simp only[Option.bind_some,List.all_cons,List.all_nil,Bool.and_true]
  have h8:(!ltI (idxB (ByteArray.mk #[97,98,99,100,101,102,103,104,105,106,107,108,109,110,111,112,113,114,115,116,117,118,119,120,121,122]) c.toNat) 0)=(leI 97 c.toNat&&leI c.toNat 122):=smalls_at c
  have h9:∀c:UInt8,(!ltI (idxB (ByteArray.mk #[97,98,99,100,101,102,103,104,105,106,107,108,109,110,111,112,113,114,115,116,117,118,119,120,121,122,48,49,50,51,52,53,54,55,56,57,45,95]) c.toNat) 0)=wc c.toNat:=words_at
  simp only[h8,h9]
  unfold key
  have h10:okAt 0 c=(leI 97 c.toNat&&leI c.toNat 122):=by simp[okAt,ltI]
  rw[h2,hb,List.zipIdx_cons,List.all_cons,okAt_all l _ (by omega),h10]
  unfold wc
  cases leI 97 (c.toNat:Int)<;>cases leI (c.toNat:Int) 122<;>cases (l.all fun c=>(leI 97 (c.toNat:Int)&&leI (c.toNat:Int) 122)||((leI 48 (c.toNat:Int)&&leI (c.toNat:Int) 57)||eqI (c.toNat:Int) 45||eqI (c.toNat:Int) 95))<;>cases leI (lenS s) 40<;>rfl
theorem key_pos{s:ByteArray}(h:key s=true):s.size≠0:=by
 intro h0
 unfold key at h
 have:eqS s (ByteArray.mk #[])=true:=by
  rw[eqS_iff];simp only[decide_eq_true_eq]
  apply by_inj
  exact List.eq_nil_of_length_eq_zero (by rw[by_len];exact h0)
 rw[this]at h
 simp at h
theorem leS_empty{s:ByteArray}(h:s.size≠0):leS s (ByteArray.mk #[])=false:=by
 unfold leS
 rw[eqS_empty h,ltS_eq]
 cases hb:by_ s with
 | nil=>rfl
 | cons c l=>rfl
def risF(_:Nat)(last:ByteArray)(x:ByteArray):ByteArray⊕Int:=bif !key x then .inr 5 else bif leS x last then .inr 7 else .inl x
def tagsF(l:List ByteArray):Int:=bif ltI 20 (lenL l)then 2 else Sum.elim (fun _=>0) id (wp risF 0 (ByteArray.mk #[]) l)
def Prev{α:Type}(l:List α)(k:α→ByteArray)(i:Nat)(s:ByteArray):Prop:=(i=0∧s=ByteArray.mk #[])∨∃x,0<i∧l[i-1]? = some x∧s=k x
theorem listAt_mem{α:Type}{l:List α}{i:Int}{x:α}(h:listAt l i=some x):x∈l:=by
 unfold listAt at h
 split at h
 ·exact List.mem_of_getElem? h
 ·cases h
def outB(a b c:Int):Bool:=ltI a b||ltI c a
theorem T56_eq(a b c:Int):T56 a b c=some (outB a b c):=by
 unfold T56 outB
 cases ltI a b<;>rfl
theorem ltI_not(a b:Int):ltI a b = !leI b a:=by
 rw[ltI_iff,leI_iff,Bool.eq_iff_iff];simp
theorem inB(a b c:Int):(leI b a&&leI a c) = !outB a b c:=by
 unfold outB
 rw[ltI_not a b,ltI_not c a]
 cases leI b a<;>cases leI a c<;>rfl
theorem eqI_self(a:Int):eqI a a=true:=by rw[eqI_iff];simp
def Rising(l:List ByteArray):Prop:=∀(i j:Nat)(x y:ByteArray),i<j→l[i]? = some x→l[j]? = some y→ltS x y=true
theorem outB_false{a b c:Int}(h:outB a b c=false):b≤a∧a≤c:=by
 unfold outB at h
 rw[ltI_iff,ltI_iff,Bool.or_eq_false_iff,decide_eq_false_iff_not,decide_eq_false_iff_not]at h
 omega
end Go.Abs.TUS
set_option linter.unusedVariables false
set_option linter.unusedSimpArgs false
set_option maxRecDepth 10000
namespace Go.Abs.TUS
open Go.RowKit
theorem eqS_t{a b:ByteArray}:eqS a b=true↔a=b:=by rw[eqS_iff];simp
theorem eqI_t'{a b:Int}:eqI a b=true↔a=b:=by rw[eqI_iff];simp
theorem T23_dec(l l':List ByteArray)(h:l.length≤1048576):∃b,T27 l l'=some b∧(b=true↔l=l'):=by
 unfold T27
 by_cases hn:l.length=l'.length
 ·have h0:neI (lenL l) (lenL l')=false:=by rw[neI_iff,lenL_eq,lenL_eq];simp;omega
  obtain⟨r,h2,h3⟩:=iter_upx (st:=L27_4 l l') (fun(_:Unit)(i:Nat)=>(i:Int)) l.length (fun i _=>l.take i=l'.take i) (fun r=>((∃ x,r= .inl x)∧l=l')∨(∃ x,r= .inr x)∧l≠l')
   (fun i s hi hI=>by
    have hx:=List.getElem?_eq_getElem hi
    have hy:=List.getElem?_eq_getElem (show i<l'.length by omega)
    by_cases e:l[i]=l'[i]
    ·refine .inl ⟨(),?_,?_⟩
     ·unfold L27_4
      refine ct (ltL_true hi) (bs (listAt_some hx) (bs (listAt_some hy) (cf ?_ ?_)))
      ·rw[eqS_t.2 e];rfl
      ·rw[nextI (by omega)]
     ·rw[take_next hx,take_next hy,hI,e]
    ·refine .inr ⟨.inr (),?_,.inr ⟨⟨_,rfl⟩,fun h=>e ?_⟩⟩
     ·unfold L27_4
      refine ct (ltL_true hi) (bs (listAt_some hx) (bs (listAt_some hy) (ct ?_ rfl)))
      cases hq:eqS l[i] l'[i]with
      | false=>rfl
      | true=>exact absurd (eqS_t.1 hq) e
     ·subst h;rfl)
   (fun s hI=>⟨.inl ((l.length:Int),false),by
    unfold L27_4
    rw[ltL_false (Nat.le_refl _)]
    rfl,.inl ⟨⟨_,rfl⟩,by rw[List.take_length]at hI;rw[hI,hn,List.take_length]⟩⟩) 0 () (Nat.zero_le _) rfl
  rcases h3 with⟨⟨x,rfl⟩,h4⟩|⟨⟨x,rfl⟩,h4⟩
  ·exact⟨true,cf h0 (bs h2 rfl),by simp[h4]⟩
  ·exact⟨false,cf h0 (bs h2 rfl),by simp[h4]⟩
 ·refine⟨false,ct (neI_t ?_) rfl,?_⟩
  ·rw[lenL_eq,lenL_eq];omega
  ·simp only[Bool.false_eq_true,false_iff]
   rintro rfl
   exact hn rfl
theorem dec_s{α:Type}{a b:ByteArray}{r:Option Bool}{P:Prop}(h:∃c,r=some c∧(c=true↔P)):∃c,(bif eqS a b then r else some false)=some c∧(c=true↔a=b∧P):=by
 obtain⟨c,h1,h2⟩:=h
 cases hq:eqS a b with
 | true=>exact⟨c,h1,by rw[h2];simp[eqS_t.1 hq]⟩
 | false=>exact⟨false,rfl,by simp;intro e;rw[eqS_t.2 e]at hq;cases hq⟩
theorem dec_i{a b:Int}{r:Option Bool}{P:Prop}(h:∃c,r=some c∧(c=true↔P)):∃c,(bif eqI a b then r else some false)=some c∧(c=true↔a=b∧P):=by
 obtain⟨c,h1,h2⟩:=h
 cases hq:eqI a b with
 | true=>exact⟨c,h1,by rw[h2];simp[eqI_t'.1 hq]⟩
 | false=>exact⟨false,rfl,by simp;intro e;rw[eqI_t'.2 e]at hq;cases hq⟩
theorem dec_o{x r:Option Bool}{P Q:Prop}(hx:∃c,x=some c∧(c=true↔Q))(h:∃c,r=some c∧(c=true↔P)):∃c,(x.bind fun x=>bif x then r else some false)=some c∧(c=true↔Q∧P):=by
 obtain⟨c,h1,h2⟩:=h
 obtain⟨d,h3,h4⟩:=hx
 cases d with
 | true=>exact⟨c,bs h3 h1,by rw[h2];simp[h4.1 rfl]⟩
 | false=>exact⟨false,bs h3 rfl,by simp;intro q;exact absurd (h4.2 q) (by decide)⟩
end Go.Abs.TUS
set_option linter.unusedVariables false
set_option linter.unusedSimpArgs false
set_option maxRecDepth 10000
namespace Go.Abs.TUS
open Go.RowKit Go.Proofs Go.Abs
theorem dec_lo{n b0 b1 b2 b3:Nat}(h:b0<128):Lib.decodeN n b0 b1 b2 b3=(b0,1):=by
 unfold Lib.decodeN
 rw[if_pos h]
theorem dec_hi{n b0 b1 b2 b3:Nat}(h:128≤b0):128≤(Lib.decodeN n b0 b1 b2 b3).1∧1≤(Lib.decodeN n b0 b1 b2 b3).2∧(1<(Lib.decodeN n b0 b1 b2 b3).2→128≤b1)∧(2<(Lib.decodeN n b0 b1 b2 b3).2→128≤b2)∧(3<(Lib.decodeN n b0 b1 b2 b3).2→128≤b3)∧(Lib.decodeN n b0 b1 b2 b3).2≤4:=by
 unfold Lib.decodeN
 rw[if_neg (by omega)]
 split
 ·rename_i hc
  split
  ·exact⟨by simp only;omega,by simp only;omega,fun _=>by omega,fun h=>by simp only at h;omega,fun h=>by simp only at h;omega,by simp only;omega⟩
  ·exact⟨by simp only;omega,by simp only;omega,fun h=>by simp only at h;omega,fun h=>by simp only at h;omega,fun h=>by simp only at h;omega,by simp only;omega⟩
 ·split
  ·rename_i hc
   split
   ·rename_i hd
    exact⟨by simp only;omega,by simp only;omega,fun _=>by omega,fun h=>by omega,fun h=>by simp only at h;omega,by simp only;omega⟩
   ·exact⟨by simp only;omega,by simp only;omega,fun h=>by simp only at h;omega,fun h=>by simp only at h;omega,fun h=>by simp only at h;omega,by simp only;omega⟩
  ·split
   ·rename_i hc
    split
    ·rename_i hd
     exact⟨by simp only;omega,by simp only;omega,fun _=>by omega,fun h=>by omega,fun h=>by omega,by simp only;omega⟩
    ·exact⟨by simp only;omega,by simp only;omega,fun h=>by simp only at h;omega,fun h=>by simp only at h;omega,fun h=>by simp only at h;omega,by simp only;omega⟩
   ·exact⟨by simp only;omega,by simp only;omega,fun h=>by simp only at h;omega,fun h=>by simp only at h;omega,fun h=>by simp only at h;omega,by simp only;omega⟩
def ct_(n:Nat):Bool:=decide (n<32)||decide (n=127)
def at0(s:ByteArray)(i:Nat):Nat:=(s.get! i).toNat
theorem idx_ctrl(s:ByteArray):∀(f pos:Nat),s.size-pos≤f→((0≤Lib.idxFuncFrom ct_ true s f pos)↔∃j,pos≤j∧j<s.size∧ct_ (at0 s j)=true)
 | 0,pos,h=>by
   unfold Lib.idxFuncFrom
   constructor
   ·intro h2
    omega
   ·rintro⟨j,h1,h2,_⟩
    omega
 | f+1,pos,h=>by
   unfold Lib.idxFuncFrom
   by_cases hp:pos<s.size
   ·rw[if_pos hp,Lib.decode_at]
    by_cases h0:at0 s pos<128
    ·rw[dec_lo (b0:=(s.get! pos).toNat) h0]
     simp only
     cases hc:ct_ (s.get! pos).toNat with
     | true=>
       rw[if_pos rfl]
       exact⟨fun _=>⟨pos,Nat.le_refl _,hp,hc⟩,fun _=>by omega⟩
     | false=>
       rw[if_neg (by decide),idx_ctrl s f (pos+1) (by omega)]
       constructor
       ·rintro⟨j,h1,h2,h3⟩
        exact⟨j,by omega,h2,h3⟩
       ·rintro⟨j,h1,h2,h3⟩
        by_cases hj:j=pos
        ·subst hj
         unfold at0 at h3
         rw[hc]at h3
         cases h3
        ·exact⟨j,by omega,h2,h3⟩
    ·have hh:=dec_hi (n:=s.size-pos) (b0:=(s.get! pos).toNat) (b1:=(s.get! (pos+1)).toNat) (b2:=(s.get! (pos+2)).toNat) (b3:=(s.get! (pos+3)).toNat) (Nat.le_of_not_lt h0)
     obtain⟨d1,d2,d3,d4,d5,d6⟩:=hh
     generalize Lib.decodeN (s.size-pos) (s.get! pos).toNat (s.get! (pos+1)).toNat (s.get! (pos+2)).toNat (s.get! (pos+3)).toNat=D at d1 d2 d3 d4 d5 d6 ⊢
     have hc:ct_ D.1=false:=by unfold ct_;rw[decide_eq_false (by omega),decide_eq_false (by omega)];rfl
     rw[hc,if_neg (by decide),idx_ctrl s f (pos+D.2) (by omega)]
     constructor
     ·rintro⟨j,h1,h2,h3⟩
      exact⟨j,by omega,h2,h3⟩
     ·rintro⟨j,h1,h2,h3⟩
      refine⟨j,?_,h2,h3⟩
      refine Nat.le_of_not_lt fun hlt=>?_
      have hb:128≤at0 s j:=by
       rcases(show j=pos∨j=pos+1∨j=pos+2∨j=pos+3 by omega)with e|e|e|e
       ·rw[e];exact Nat.le_of_not_lt h0
       ·rw[e];exact d3 (by omega)
       ·rw[e];exact d4 (by omega)
       ·rw[e];exact d5 (by omega)
      have:ct_ (at0 s j)=false:=by unfold ct_;rw[decide_eq_false (by omega),decide_eq_false (by omega)];rfl
      rw[this]at h3
      cases h3
   ·rw[if_neg hp]
    constructor
    ·intro h2
     omega
    ·rintro⟨j,h1,h2,_⟩
     omega
theorem get_by{s:ByteArray}{j:Nat}{c:UInt8}(h:(by_ s)[j]? = some c):at0 s j=c.toNat:=by
 have hj:j<(by_ s).length:=(List.getElem?_eq_some_iff.1 h).1
 rw[by_len]at hj
 unfold at0
 have e:s.get! j=c:=by
  unfold by_ at h
  rw[Array.getElem?_toList]at h
  show s.data[j]! = c
  rw[getElem!_def,h]
 rw[e]
def anyC(s:ByteArray):Bool:=(by_ s).any fun c=>ct_ c.toNat
theorem idx_any(s:ByteArray):decide (0≤Lib.idxFunc ct_ true s)=anyC s:=by
 unfold Lib.idxFunc anyC
 rw[Bool.eq_iff_iff,decide_eq_true_eq,idx_ctrl s s.size 0 (by omega),List.any_eq_true]
 constructor
 ·rintro⟨j,_,h2,h3⟩
  have hj:j<(by_ s).length:=by rw[by_len];exact h2
  have hx:=List.getElem?_eq_getElem hj
  exact⟨_,List.getElem_mem hj,by rw[← get_by hx];exact h3⟩
 ·rintro⟨c,hc,h3⟩
  obtain⟨j,hj⟩:=List.getElem?_of_mem hc
  refine⟨j,Nat.zero_le _,?_,by rw[get_by hj];exact h3⟩
  have:=(List.getElem?_eq_some_iff.1 hj).1
  rw[by_len]at this
  exact this
theorem has_ok(s:ByteArray):hasO T126 s=some (anyC s):=by
 have hT:∀r:Nat,T126 (r:Int)=some (ct_ r):=fun r=>by
  unfold T126 ct_
  by_cases h:r<32
  ·rw[ltI_t (by omega),decide_eq_true h]
   rfl
  ·rw[ltI_f (by omega),decide_eq_false h,cond_false,eqI_iff]
   congr 1
   rw[Bool.false_or,Bool.eq_iff_iff,decide_eq_true_eq,decide_eq_true_eq]
   omega
 unfold hasO
 rw[if_pos (fun r _=>by rw[hT];rfl)]
 congr 1
 rw[← idx_any]
 have e:(fun r:Nat=>(T126 (r:Int)).getD false)=ct_:=by
  funext r
  rw[hT]
  rfl
 rw[e]
theorem scan_eq(s:ByteArray)(h:s.size≤1048576):iter (L163_2 s) 0=some (bif !anyC s then .inl ((s.size:Int),false)else .inr ()):=by
 have hi:iter (L163_2 s) ((0:Nat):Int)=some (Sum.elim (fun _:Unit=> .inl ((s.size:Int),false)) (fun _:Unit=> .inr ()) (wp (fun i (_:Unit) (x:UInt8)=>bif !ct_ x.toNat then(.inl ():Unit⊕Unit)else .inr ()) 0 () (by_ s))):=by
  refine iter_wpS (fun _ i=>(i:Int)) _ _ s _ (fun _ _=>True) (fun i u x hx _=>⟨?_,fun _ _=>trivial⟩) (fun u _=>?_) () trivial
  ·have hlt:i<s.size:=by rw[← by_len];exact(List.getElem?_eq_some_iff.1 hx).1
   have h1:ltI (i:Int) (lenS s)=true:=by rw[ltI_iff,lenS_eq];simpa using hlt
   have h2:addI .i64 (i:Int) 1=((i+1:Nat):Int):=by rw[addI_eq (by omega) (by omega)];omega
   have h3:ct_ x.toNat=(ltI (x.toNat:Int) 32||eqI (x.toNat:Int) 127):=by
    unfold ct_
    rw[ltI_iff,eqI_iff,Bool.eq_iff_iff]
    simp only[Bool.or_eq_true,decide_eq_true_eq]
    omega
   simp only[L163_2,h1,cond_true,byteAt_some hx,Option.bind_some,h2,h3]
   generalize ltI (x.toNat:Int) 32=b1
   generalize eqI (x.toNat:Int) 127=b2
   cases b1<;>cases b2<;>rfl
  ·have h1:ltI (s.size:Int) (lenS s)=false:=by rw[ltI_iff,lenS_eq];simp
   simp only[L163_2,h1,cond_false]
 rw[show (0:Int)=((0:Nat):Int)from rfl,hi,wp_all']
 have e:((by_ s).all fun x => !ct_ x.toNat) = !anyC s:=by
  unfold anyC
  rw[← List.not_any_eq_all_not]
 rw[e,elim_cond]
theorem extract_size(s:ByteArray){a b:Nat}(h:b≤s.size):(s.extract a b).size=b-a:=by
 rw[← by_len,by_extract,List.length_drop,List.length_take,by_len]
 omega
theorem right_ok(c:Int)(s:ByteArray)(h:s.size≤1048576):∃v,T167 s c=some v∧v.size≤1048576:=by
 obtain⟨r,h1,h2⟩:=iter_meas (st:=L167_1 c) (fun z=>z.size≤1048576) (fun z=>z.size) (fun r=>r.1.size≤1048576) (fun z hz=>by
  unfold L167_1
  rw[ltI_iff,lenS_eq]
  by_cases h0:(0:Int)<(z.size:Int)
  ·rw[decide_eq_true h0,cond_true]
   have hn:subI .i64 (z.size:Int) 1=((z.size-1:Nat):Int):=by rw[subI_eq (by omega) (by omega)];omega
   have hj:z.size-1<(by_ z).length:=by rw[by_len];omega
   rw[hn,byteAt_some (List.getElem?_eq_getElem hj),Option.bind_some]
   cases hc:eqI ((by_ z)[z.size-1].toNat:Int) c with
   | true=>
     have h3:cutS z none (some ((z.size-1:Nat):Int))=some (z.extract 0 (z.size-1)):=by
      have q1:((z.size-1:Nat):Int)≤(z.size:Int):=by omega
      have q2:(0:Int)≤((z.size-1:Nat):Int):=by omega
      simp[cutS,cutB,q1,q2]
     rw[cond_true,h3,Option.bind_some]
     have hs:=extract_size z (a:=0) (b:=z.size-1) (by omega)
     exact .inl ⟨_,rfl,by omega,by omega⟩
   | false=>
     rw[cond_false]
     exact .inr ⟨_,rfl,hz⟩
  ·rw[decide_eq_false h0,cond_false]
   exact .inr ⟨_,rfl,hz⟩) s h
 refine⟨r.1,?_,h2⟩
 unfold T167
 rw[h1]
 rfl
theorem left_ok(c:Int)(s:ByteArray)(h:s.size≤1048576):∃v,T166 s c=some v:=by
 obtain⟨r,h1,_⟩:=iter_meas (st:=L166_1 c) (fun z=>z.size≤1048576) (fun z=>z.size) (fun r=>True) (fun z hz=>by
  unfold L166_1
  rw[ltI_iff,lenS_eq]
  by_cases h0:(0:Int)<(z.size:Int)
  ·rw[decide_eq_true h0,cond_true]
   have hj:0<(by_ z).length:=by rw[by_len];omega
   rw[show (0:Int)=((0:Nat):Int)from rfl,byteAt_some (List.getElem?_eq_getElem hj),Option.bind_some]
   cases hc:eqI ((by_ z)[0].toNat:Int) c with
   | true=>
     have h3:cutS z (some 1) none=some (z.extract 1 z.size):=by
      have q1:(1:Int)≤(z.size:Int):=by omega
      simp[cutS,cutB,q1]
     rw[cond_true,h3,Option.bind_some]
     have hs:=extract_size z (a:=1) (b:=z.size) (by omega)
     exact .inl ⟨_,rfl,by omega,by omega⟩
   | false=>
     rw[cond_false]
     exact .inr ⟨_,rfl,trivial⟩
  ·rw[decide_eq_false h0,cond_false]
   exact .inr ⟨_,rfl,trivial⟩) s h
 refine⟨r.1,?_⟩
 unfold T166
 rw[h1]
 rfl
theorem trim_ok(s:ByteArray)(h:s.size≤1048576):∃v,T127 s (ByteArray.mk #[32])=some v:=by
 unfold T127
 cases eqS s (ByteArray.mk #[])with
 | true=>exact⟨s,rfl⟩
 | false=>
   obtain⟨v,h1,h2⟩:=right_ok 32 s h
   obtain⟨w,h3⟩:=left_ok 32 v h2
   exact⟨w,cf rfl (cf (by kernel_rfl) (ct (by kernel_rfl) (bs (a:=32) (by kernel_rfl) (ct rfl (bs (a:=32) (by kernel_rfl) (bs h1 (bs (a:=32) (by kernel_rfl) (bs h3 rfl))))))))⟩
noncomputable def plainB(s:ByteArray):Bool := !anyC s&&(validB s&&(eqS ((T127 s (ByteArray.mk #[32])).getD s) s && !contB s (ByteArray.mk #[32,32])))
theorem T163_eq(s:ByteArray)(h:s.size≤1048576):T163 s=some (plainB s):=by
 obtain⟨v,hv⟩:=trim_ok s h
 unfold T163 plainB
 rw[scan_eq s h,Option.bind_some,hv]
 unfold validO contO
 rw[if_pos (by omega),if_pos (by omega)]
 simp only[Option.bind_some,Option.getD_some]
 cases anyC s
 ·simp only[Bool.not_false,cond_true,Sum.elim_inl,Bool.true_and]
  cases validB s
  ·rfl
  ·cases eqS v s<;>rfl
 ·rfl
theorem T103_eq(s:ByteArray)(h:s.size≤1048576):T103 s=some (plainB s):=by
 obtain⟨v,hv⟩:=trim_ok s h
 unfold T103 plainB
 rw[has_ok,hv]
 unfold validO contO
 rw[if_pos (by omega),if_pos (by omega)]
 simp only[Option.bind_some,Option.getD_some]
 cases anyC s
 ·cases validB s
  ·rfl
  ·cases eqS v s<;>rfl
 ·cases validB s<;>rfl
end Go.Abs.TUS
set_option linter.unusedVariables false
set_option linter.unusedSimpArgs false
set_option maxRecDepth 10000
namespace Go.Abs.TUS
open Go.RowKit Go.Proofs Go.Abs
theorem eqI_neI(a b:Int):eqI a b = !neI a b:=by rw[eqI_iff,neI_iff,Bool.not_not]
def inT(a:Int):Bool:=leI 0 a&&ltI a 345686400000
theorem T75_eq(a:Int):T75 a=some (inT a):=by
 unfold T75 inT
 cases leI 0 a<;>rfl
theorem T54_eq(a:Int):T54 a=some (inT a):=by
 unfold T54 inT
 rw[T53_eq,Option.bind_some]
 have:leI a 345686399999=ltI a 345686400000:=by rw[leI_iff,ltI_iff];exact decide_eq_decide.2 (by omega)
 rw[this]
theorem T94_out(a b c:Int):T53 a b c=some (!outB a b c):=by rw[T53_eq,inB]
noncomputable def rectF(r:S43):Int:=bif outB r.f0 (-100000) 100000 then 1 else bif outB r.f1 (-100000) 100000 then 1 else bif outB r.f2 1 (subI .i64 100000 r.f0)then 1 else bif outB r.f3 1 (subI .i64 100000 r.f1)then 1 else 0
theorem T162_eq(r:S43):T162 r=some (rectF r):=by
 unfold T162 rectF
 simp only[T56_eq,Option.bind_some]
 cases outB r.f0 (-100000) 100000<;>cases outB r.f1 (-100000) 100000<;>cases outB r.f2 1 (subI .i64 100000 r.f0)<;>cases outB r.f3 1 (subI .i64 100000 r.f1)<;>rfl
theorem T102_eq(r:S43):T102 r=some (rectF r):=by
 unfold T102 rectF
 simp only[T94_out,Option.bind_some,Bool.not_not]
 cases outB r.f0 (-100000) 100000<;>cases outB r.f1 (-100000) 100000<;>cases outB r.f2 1 (subI .i64 100000 r.f0)<;>cases outB r.f3 1 (subI .i64 100000 r.f1)<;>rfl
theorem loopE{st:Int→Option (Int⊕((Int×Bool)⊕Int))}(n:Nat)(hn:n≤1048576)(hs:∀i:Nat,i<n→st (i:Int)=some (.inl ((i+1:Nat):Int))∨∃e,e≠0∧st (i:Int)=some (.inr (.inr e)))
  (he:st (n:Int)=some (.inr (.inl ((n:Int),false)))):(iter st 0=some (.inl ((n:Int),false))∧∀i:Nat,i<n→st (i:Int)=some (.inl ((i+1:Nat):Int)))∨∃e,e≠0∧iter st 0=some (.inr e):=by
 obtain⟨r,h1,h2⟩:=iter_upx (st:=st) (fun(_:Unit) i=>(i:Int)) n (fun i _=>∀j:Nat,j<i→st (j:Int)=some (.inl ((j+1:Nat):Int))) (fun r=>(r= .inl ((n:Int),false)∧∀i:Nat,i<n→st (i:Int)=some (.inl ((i+1:Nat):Int)))∨∃e,e≠0∧r= .inr e)
  (fun i _ hi hI=>by
   rcases hs i hi with h|⟨e,h0,h⟩
   ·refine .inl ⟨(),h,fun j hj=>?_⟩
    by_cases hji:j=i
    ·rw[hji];exact h
    ·exact hI j (by omega)
   ·exact .inr ⟨_,h,.inr ⟨e,h0,rfl⟩⟩)
  (fun _ hI=>⟨_,he,.inl ⟨rfl,hI⟩⟩) 0 () (Nat.zero_le _) (fun j hj=>by omega)
 have h1:iter st 0=some r:=h1
 rcases h2 with⟨rfl,h3⟩|⟨e,h0,rfl⟩
 ·exact .inl ⟨h1,h3⟩
 ·exact .inr ⟨e,h0,h1⟩
theorem refs_same(x:S39)(hs:∀y∈x.f3,y.size≤1048576):L161_4 x=L50_8 x:=by
 funext z
 unfold L161_4 L50_8
 cases ltI z (lenL x.f3)with
 | false=>rfl
 | true=>
   simp only[cond_true]
   cases h:listAt x.f3 z with
   | none=>rfl
   | some y=>
     simp only[Option.bind_some]
     have hy:=hs y (listAt_mem h)
     rw[T55_eq y hy,T52_eq y hy]
theorem refs_loop(x:S39)(hl:x.f3.length≤1048576)(hs:∀y∈x.f3,y.size≤1048576):iter (L161_4 x) 0=some (.inl ((x.f3.length:Int),false))∨∃e,e≠0∧iter (L161_4 x) 0=some (.inr e):=by
 refine Or.imp And.left id (loopE x.f3.length hl (fun i hi=>?_) (by unfold L161_4;rw[ltL_false (Nat.le_refl _)];rfl))
 have hx:=List.getElem?_eq_getElem hi
 have hk:=T55_eq x.f3[i] (hs _ (List.getElem_mem hi))
 have hn:=nextI (i:=i) (by omega)
 unfold L161_4
 rw[ltL_true hi,listAt_some hx]
 simp only[cond_true,Option.bind_some,hk,hn]
 cases key x.f3[i]with
 | false=>exact .inr ⟨5,by decide,rfl⟩
 | true=>
   simp only[Bool.not_true,cond_false]
   rcases Nat.eq_zero_or_pos i with hz|hz
   ·have e:ltI 0 (i:Int)=false:=by rw[hz];rfl
    rw[e,cond_false]
    cases eqS x.f3[i] x.f0 with
    | true=>exact .inr ⟨14,by decide,rfl⟩
    | false=>exact .inl rfl
   ·have e:ltI 0 (i:Int)=true:=ltI_t (by omega)
    have hp:i-1<x.f3.length:=by omega
    rw[e,cond_true,prevI hz (by omega),listAt_some (List.getElem?_eq_getElem hp),Option.bind_some]
    cases (ltS x.f3[i] x.f3[i-1]||eqS x.f3[i] x.f3[i-1])with
    | true=>exact .inr ⟨7,by decide,rfl⟩
    | false=>
      cases eqS x.f3[i] x.f0 with
      | true=>exact .inr ⟨14,by decide,rfl⟩
      | false=>exact .inl rfl
theorem areas_same(x:S39):L121_13 x=L50_24 x:=by
 funext z
 unfold L121_13 L50_24
 simp only[T162_eq,T102_eq]
theorem areas_loop(x:S39)(hl:x.f7.length≤1048576):(iter (L121_13 x) 0=some (.inl ((x.f7.length:Int),false))∧∀r∈x.f7,rectF r=0)∨∃e,e≠0∧iter (L121_13 x) 0=some (.inr e):=by
 refine Or.imp (fun q=>⟨q.1,fun r hr=>?_⟩) id (loopE (st:=L121_13 x) x.f7.length hl (fun i hi=>?_) (by unfold L121_13;rw[ltL_false (Nat.le_refl _)];rfl))
 ·obtain⟨i,hi,rfl⟩:=List.getElem_of_mem hr
  have hq:=q.2 i hi
  unfold L121_13 at hq
  rw[ltL_true hi,listAt_some (List.getElem?_eq_getElem hi)]at hq
  simp only[cond_true,Option.bind_some,T162_eq]at hq
  by_cases h0:rectF x.f7[i]=0
  ·exact h0
  ·rw[neI_t h0]at hq
   cases hq
 have hx:=List.getElem?_eq_getElem hi
 have hn:=nextI (i:=i) (by omega)
 unfold L121_13
 rw[ltL_true hi,listAt_some hx]
 simp only[cond_true,Option.bind_some,T162_eq,hn]
 by_cases h0:rectF x.f7[i]=0
 ·rw[neI_f h0]
  exact .inl rfl
 ·rw[neI_t h0]
  exact .inr ⟨_,h0,rfl⟩
noncomputable def R87(p0:S39):Option Int:=((T75 p0.f4).bind fun x5=>(bif (!x5)then(some 1)else((T56 p0.f5 (addI .i64 p0.f4 1) (addI .i64 p0.f4 2592000000)).bind fun x6=>(bif x6 then(some 1)else((T56 p0.f6 1 9).bind fun x7=>(bif x7 then(some 1)else(bif (ltI 20 (lenL p0.f7))then(some 2)else((iter (L121_13 p0) 0).bind fun y10=>(Sum.elim (fun y10a=>(bif ((eqI p0.f2 3) != (eqI (lenL p0.f7) 0))then(some 3)else(bif (ltI 500 (lenS p0.f8))then(some 2)else((T163 p0.f8).bind fun x11=>(bif (!x11)then(some 3)else(bif (eqS p0.f8 (ByteArray.mk #[]))then(bif (!(eqI p0.f2 3))then(some 3)else(some 0))else(some 0))))))) (fun y10b=>(some y10b)) y10)))))))))
noncomputable def R85(p0:S39):Option Int:=((T54 p0.f4).bind fun x8=>(bif (!x8)then(some 1)else((T53 p0.f5 (addI .i64 p0.f4 1) (addI .i64 p0.f4 2592000000)).bind fun x9=>(bif (!x9)then(some 1)else((T53 p0.f6 1 9).bind fun x10=>(bif (!x10)then(some 1)else(bif (ltI 20 (lenL p0.f7))then(some 2)else((iter (L50_24 p0) 0).bind fun y13=>(Sum.elim (fun y13a=>(bif ((eqI p0.f2 3) != (eqI (lenL p0.f7) 0))then(some 3)else(bif (ltI 500 (lenS p0.f8))then(some 2)else((T103 p0.f8).bind fun x14=>(bif (!x14)then(some 3)else(bif (eqS p0.f8 (ByteArray.mk #[]))then(bif (neI p0.f2 3)then(some 3)else(some 0))else(some 0))))))) (fun y13b=>(some y13b)) y13)))))))))
theorem rest_ok(x:S39)(h:ok39 1048576 x):∃v,R87 x=some v∧R85 x=some v∧(v=0→inT x.f4=true∧x.f7.length≤20∧∀r∈x.f7,rectF r=0):=by
 have h8:x.f8.size≤1048576:=h.2.2.2.2.2.2.2.2
 have h7:x.f7.length≤1048576:=h.2.2.2.2.2.2.2.1.1
 have ha:=areas_loop x h7
 unfold R87 R85
 rw[T75_eq,T54_eq]
 simp only[T94_out,T56_eq,T163_eq _ h8,T103_eq _ h8,Option.bind_some,Bool.not_not,←areas_same,eqI_neI]
 cases inT x.f4 with
 | false=>exact⟨1,rfl,rfl,fun c=>by cases c⟩
 | true=>
 simp only[Bool.not_true,cond_false]
 cases outB x.f5 (addI .i64 x.f4 1) (addI .i64 x.f4 2592000000)with
 | true=>exact⟨1,rfl,rfl,fun c=>(by cases c)⟩
 | false=>
 cases outB x.f6 1 9 with
 | true=>exact⟨1,rfl,rfl,fun c=>(by cases c)⟩
 | false=>
 simp only[cond_false]
 cases c20:ltI 20 (lenL x.f7)with
 | true=>exact⟨2,rfl,rfl,fun c=>(by cases c)⟩
 | false=>
 have hl7:x.f7.length≤20:=by
  rw[ltI_iff,lenL_eq,decide_eq_false_iff_not]at c20
  omega
 simp only[cond_false]
 rcases ha with⟨ha,hr7⟩|⟨e,h0,ha⟩
 ·rw[ha]
  simp only[Option.bind_some,Sum.elim_inl]
  cases ((!neI x.f2 3) != (!neI (lenL x.f7) 0))with
  | true=>exact⟨3,rfl,rfl,fun c=>(by cases c)⟩
  | false=>
  simp only[cond_false]
  cases ltI 500 (lenS x.f8)with
  | true=>exact⟨2,rfl,rfl,fun c=>(by cases c)⟩
  | false=>
  simp only[cond_false]
  cases plainB x.f8 with
  | false=>exact⟨3,rfl,rfl,fun c=>(by cases c)⟩
  | true=>
  simp only[Bool.not_true,cond_false]
  cases eqS x.f8 (ByteArray.mk #[])with
  | false=>exact⟨0,rfl,rfl,fun c=>⟨trivial,hl7,hr7⟩⟩
  | true=>
  cases neI x.f2 3 with
  | true=>exact⟨3,rfl,rfl,fun c=>(by cases c)⟩
  | false=>exact⟨0,rfl,rfl,fun c=>⟨trivial,hl7,hr7⟩⟩
 ·rw[ha]
  exact⟨e,rfl,rfl,fun c=>absurd c h0⟩
theorem fault_ok(x:S39)(h:ok39 1048576 x):∃v,T121 x=some v∧T50 x=some v∧(v=0→(inT x.f4=true∧x.f7.length≤20∧∀r∈x.f7,rectF r=0)∧x.f3.length≤20):=by
 have q0:=h.1
 have q1:=h.2.1
 have q3:x.f3.length≤1048576∧∀y∈x.f3,y.size≤1048576:=h.2.2.2.1
 obtain⟨v,r1,r2,r3⟩:=rest_ok x h
 have d87:T121 x=((T55 x.f0).bind fun x1=>(bif (!x1)then(some 5)else((T55 x.f1).bind fun x2=>(bif (!x2)then(some 5)else((T56 x.f2 1 3).bind fun x3=>(bif x3 then(some 4)else((T161 x).bind fun x4=>(bif (neI x4 0)then(some x4)else R87 x)))))))):=rfl
 have d85:T50 x=((T52 x.f0).bind fun x1=>(bif (!x1)then(some 5)else((T52 x.f1).bind fun x2=>(bif (!x2)then(some 5)else((T53 x.f2 1 3).bind fun x3=>(bif (!x3)then(some 4)else(bif (ltI 20 (lenL x.f3))then(some 2)else((iter (L50_8 x) 0).bind fun y7=>(Sum.elim (fun y7a=>(bif ((eqI x.f2 1) != (eqI (lenL x.f3) 0))then(some 3)else R85 x)) (fun y7b=>(some y7b)) y7))))))))):=rfl
 rw[d87,d85,T55_eq _ q0,T52_eq _ q0,T55_eq _ q1,T52_eq _ q1,T56_eq,T94_out,←refs_same x q3.2]
 simp only[Option.bind_some,Bool.not_not]
 unfold T161
 cases key x.f0 with
 | false=>exact⟨5,rfl,rfl,fun c=>by cases c⟩
 | true=>
 cases key x.f1 with
 | false=>exact⟨5,rfl,rfl,fun c=>by cases c⟩
 | true=>
 simp only[Bool.not_true,cond_false]
 cases outB x.f2 1 3 with
 | true=>exact⟨4,rfl,rfl,fun c=>by cases c⟩
 | false=>
 simp only[cond_false]
 cases c20:ltI 20 (lenL x.f3)with
 | true=>exact⟨2,rfl,rfl,fun c=>by cases c⟩
 | false=>
 have hl3:x.f3.length≤20:=by
  rw[ltI_iff,lenL_eq,decide_eq_false_iff_not]at c20
  omega
 simp only[cond_false]
 rcases refs_loop x q3.1 q3.2 with hr|⟨e,h0,hr⟩
 ·rw[hr]
  simp only[Option.bind_some,Sum.elim_inl]
  cases (eqI x.f2 1 != eqI (lenL x.f3) 0)with
  | true=>exact⟨3,rfl,rfl,fun c=>by cases c⟩
  | false=>exact⟨v,r1,r2,fun c=>⟨r3 c,hl3⟩⟩
 ·rw[hr]
  simp only[Option.bind_some,Sum.elim_inr,neI_t h0,cond_true]
  exact⟨e,rfl,rfl,fun c=>absurd c h0⟩
end Go.Abs.TUS
set_option linter.unusedVariables false
set_option linter.unusedSimpArgs false
set_option maxRecDepth 10000
namespace Go.Abs.TUS
open Go.RowKit Go.Proofs Go.Abs
theorem T114_eq(x:Int):T114 x=some false:=by unfold T114;rw[neI_no]
theorem t135(x y:Int):T71 x y=some (if x<y then -1 else if y<x then 1 else 0):=by
 unfold T71
 refine bs (T114_eq x) (bs (T114_eq y) (cf rfl (cf rfl ?_)))
 by_cases h:x<y
 ·rw[ltI_t h,if_pos h];rfl
 ·rw[ltI_f (by omega),if_neg h]
  by_cases h2:y<x
  ·rw[ltI_t h2,if_pos h2];rfl
  ·rw[ltI_f (by omega),if_neg h2];rfl
theorem or2_ok(a b:Int):T69 [a,b]=some (if a≠0 then a else b):=by
 unfold T69
 have st:∀(i:Nat)(x:Int),([a,b]:List Int)[i]? = some x→L69_3 [a,b] (i:Int)=some (if x≠0 then .inr (.inr x)else .inl ((i+1:Nat):Int)):=by
  intro i x hx
  have hi:i<([a,b]:List Int).length:=(List.getElem?_eq_some_iff.1 hx).1
  unfold L69_3
  refine ct (ltL_true hi) (bs (listAt_some hx) ?_)
  by_cases h:x=0
  ·rw[neI_f h,if_neg (by simp[h]),nextI (by simp at hi;omega)]
   rfl
  ·rw[neI_t h,if_pos h]
   rfl
 have en:L69_3 [a,b] ((2:Nat):Int)=some (.inr (.inl (2,false))):=rfl
 have s0:=st 0 a rfl
 have s1:=st 1 b rfl
 by_cases ha:a≠0
 ·rw[if_pos ha]at s0 ⊢
  rw[show (0:Int)=((0:Nat):Int)from rfl,iter_inr s0]
  rfl
 ·rw[if_neg ha]at s0 ⊢
  by_cases hb:b≠0
  ·rw[if_pos hb]at s1
   rw[show (0:Int)=((0:Nat):Int)from rfl,iter_inl s0,iter_inr s1]
   rfl
  ·rw[if_neg hb]at s1
   have hb:b=0:=by omega
   rw[show (0:Int)=((0:Nat):Int)from rfl,iter_inl s0,iter_inl s1,iter_inr en,hb]
   rfl
def cmpA(x y:S39):Int:=if x.f4<y.f4 then -1 else if y.f4<x.f4 then 1 else cmpS x.f0 y.f0
theorem T122_eq(x y:S39):T122 x y=some (cmpA x y):=by
 unfold T122 cmpA
 refine bs (t135 _ _) (bs (a:=cmpS x.f0 y.f0) rfl (bs (or2_ok _ _) ?_))
 congr 1
 by_cases h1:x.f4<y.f4
 ·simp[h1]
 ·by_cases h2:y.f4<x.f4
  ·simp[h1,h2]
  ·simp[h1,h2]
theorem T51_eq{x y:S39}(hx:inT x.f4=true)(hy:inT y.f4=true):T51 x y=some (cmpA x y):=by
 unfold inT at hx hy
 rw[leI_iff,ltI_iff,Bool.and_eq_true,decide_eq_true_eq,decide_eq_true_eq]at hx hy
 unfold T51 cmpA
 by_cases h:x.f4=y.f4
 ·rw[neI_f h,cond_false,if_neg (by omega),if_neg (by omega)]
  rfl
 ·rw[neI_t h,cond_true,subI_eq (by omega) (by omega)]
  unfold T90
  by_cases h1:x.f4<y.f4
  ·rw[if_pos h1,ltI_t (by omega)]
   rfl
  ·rw[if_neg h1,if_pos (by omega),ltI_f (by omega),ltI_t (by omega)]
   rfl
noncomputable def alF(x:S39):Int:=(T121 x).getD 0
theorem alF_ok{x:S39}(h:ok39 1048576 x):T121 x=some (alF x)∧T50 x=some (alF x)∧(alF x=0→(inT x.f4=true∧x.f7.length≤20∧∀r∈x.f7,rectF r=0)∧x.f3.length≤20):=by
 obtain⟨v,h1,h2,h3⟩:=fault_ok x h
 have e:alF x=v:=by unfold alF;rw[h1];rfl
 rw[e]
 exact⟨h1,h2,h3⟩
noncomputable def ordF(_:Nat)(p:Option S39)(x:S39):Option S39⊕Int:=bif neI (alF x) 0 then .inr (alF x)else match p with
 | none=> .inl (some x)
 | some q=>bif leI 0 (cmpA q x)then .inr 7 else .inl (some x)
def PrevA(l:List S39)(i:Nat)(p:Option S39):Prop:=(i=0∧p=none)∨∃q,0<i∧l[i-1]? = some q∧p=some q∧inT q.f4=true
theorem ord_next{l:List S39}{i:Nat}{p p':Option S39}{x:S39}(hx:l[i]? = some x)(hk:ok39 1048576 x)(h:ordF i p x= .inl p'):PrevA l (i+1) p':=by
 have h0:alF x=0:=by
  by_cases h0:alF x=0
  ·exact h0
  ·unfold ordF at h
   rw[neI_t h0]at h
   cases h
 have hp:p'=some x:=by
  unfold ordF at h
  rw[neI_f h0]at h
  cases p with
  | none=>cases h;rfl
  | some q=>
    simp only[cond_false]at h
    cases hc:leI 0 (cmpA q x)with
    | true=>rw[hc]at h;cases h
    | false=>rw[hc]at h;cases h;rfl
 exact .inr ⟨x,by omega,by simpa using hx,hp,((alF_ok hk).2.2 h0).1.1⟩
theorem ord50(l:List S39)(hl:l.length≤1048576)(hs:∀x∈l,ok39 1048576 x):iter (L99_4 l) 0=some (Sum.elim (fun _=> .inl ((l.length:Int),false)) (fun e=> .inr e) (wp ordF 0 none l)):=by
 refine iter_wp (fun(_:Option S39) i=>(i:Int)) _ _ l ordF (PrevA l) (fun i p x hx hI=>?_) (fun p _=>by unfold L99_4;rw[ltL_false (Nat.le_refl _)];rfl) none (.inl ⟨rfl,rfl⟩)
 have hm:=hs x (List.mem_of_getElem? hx)
 obtain⟨k1,k2,k3⟩:=alF_ok hm
 have hi:=(List.getElem?_eq_some_iff.1 hx).1
 refine⟨?_,fun p' h=>ord_next hx hm h⟩
 unfold L99_4
 rw[ltL_true hi,listAt_some hx]
 simp only[cond_true,Option.bind_some,k1,nextI (i:=i) (by omega)]
 unfold ordF
 by_cases h0:alF x=0
 ·rw[neI_f h0]
  simp only[cond_false]
  rcases hI with⟨rfl,rfl⟩|⟨q,hz,hq,rfl,hb⟩
  ·rfl
  ·rw[show ltI 0 (i:Int)=true from ltI_t (by omega),cond_true,prevI hz (by omega),listAt_some hq,Option.bind_some,T122_eq,Option.bind_some]
   cases hc:leI 0 (cmpA q x)<;>simp only[hc,cond_true,cond_false]
 ·rw[neI_t h0]
  rfl
theorem ord49(l:List S39)(hl:l.length≤1048576)(hs:∀x∈l,ok39 1048576 x):iter (L17_4 l) 0=some (Sum.elim (fun _=> .inl ((l.length:Int),false)) (fun e=> .inr e) (wp ordF 0 none l)):=by
 refine iter_wp (fun(_:Option S39) i=>(i:Int)) _ _ l ordF (PrevA l) (fun i p x hx hI=>?_) (fun p _=>by unfold L17_4;rw[ltL_false (Nat.le_refl _)];rfl) none (.inl ⟨rfl,rfl⟩)
 have hm:=hs x (List.mem_of_getElem? hx)
 obtain⟨k1,k2,k3⟩:=alF_ok hm
 have hi:=(List.getElem?_eq_some_iff.1 hx).1
 refine⟨?_,fun p' h=>ord_next hx hm h⟩
 unfold L17_4
 rw[ltL_true hi,listAt_some hx]
 simp only[cond_true,Option.bind_some,k2,nextI (i:=i) (by omega)]
 unfold ordF
 by_cases h0:alF x=0
 ·rw[neI_f h0]
  simp only[cond_false]
  rcases hI with⟨rfl,rfl⟩|⟨q,hz,hq,rfl,hb⟩
  ·rfl
  ·rw[show ltI 0 (i:Int)=true from ltI_t (by omega),cond_true,prevI hz (by omega),listAt_some hq,Option.bind_some,T51_eq hb (k3 h0).1.1,Option.bind_some]
   cases hc:leI 0 (cmpA q x)<;>simp only[hc,cond_true,cond_false]
 ·rw[neI_t h0]
  rfl
theorem wp_ord:∀(l:List S39)(i:Nat)(p:Option S39),(∀ s,wp ordF i p l= .inl s→∀x∈l,alF x=0)∧∀r,wp ordF i p l= .inr r→r≠0
 | [],i,p=>⟨fun s h x hx=>(by cases hx),fun r h=>(by cases h)⟩
 | x::l,i,p=>by
   unfold wp
   by_cases h0:alF x=0
   ·cases hf:ordF i p x with
    | inl s'=>
      obtain⟨h1,h2⟩:=wp_ord l (i+1) s'
      refine⟨fun s h y hy=>?_,h2⟩
      rcases List.mem_cons.1 hy with rfl|hy
      ·exact h0
      ·exact h1 s h y hy
    | inr r=>
      refine⟨fun s h=>(by cases h),fun r' h=>?_⟩
      cases h
      unfold ordF at hf
      rw[neI_f h0]at hf
      cases p with
      | none=>cases hf
      | some q=>
        simp only[cond_false]at hf
        cases hc:leI 0 (cmpA q x)with
        | true=>rw[hc]at hf;cases hf;decide
        | false=>rw[hc]at hf;cases hf
   ·have hf:ordF i p x= .inr (alF x):=by unfold ordF;rw[neI_t h0];rfl
    rw[hf]
    exact⟨fun s h=>(by cases h),fun r h=>(by cases h;exact h0)⟩
theorem mget_all{m:List (ByteArray×Bool)}{k:ByteArray}(h:k∈m.map (·.1))(ha:∀q∈m,q.2=true):mgetB eqB m k=some true:=by
 unfold mgetB
 obtain⟨q,hq,e⟩:=List.mem_map.1 h
 cases hf:m.find? fun p=>eqB k p.1 with
 | none=>
   have:=List.find?_eq_none.1 hf q hq
   rw[← e,eqB_self]at this
   exact absurd rfl this
 | some p=>rw[Option.map_some,ha p (List.mem_of_find?_eq_some hf)]
theorem mset_old{β:Type}(v:β):∀{m:List (ByteArray×β)}{k:ByteArray},k∈m.map (·.1)→(msetB eqB m k v).map (·.1)=m.map (·.1)
 | [],k,h=>by cases h
 | p::m,k,h=>by
   unfold msetB
   by_cases hk:k=p.1
   ·subst hk
    rw[eqB_self]
    rfl
   ·rw[eqB_no hk]
    rw[List.map_cons,List.mem_cons]at h
    have:=mset_old v (h.resolve_left hk)
    simp only[cond_false,List.map_cons,this]
theorem nodup_next{l:List S39}{i:Nat}{x:S39}(hx:l[i]? = some x):((l.take (i+1)).map (·.f0)).Nodup↔((l.take i).map (·.f0)).Nodup∧x.f0∉(l.take i).map (·.f0):=by
 rw[take_next hx,List.map_append,List.nodup_append]
 simp only[List.map_cons,List.map_nil,List.mem_singleton,forall_eq]
 constructor
 ·rintro⟨h1,_,h3⟩
  exact⟨h1,fun h=>h3 _ h rfl⟩
 ·rintro⟨h1,h2⟩
  exact⟨h1,by simp,fun y hy e=>h2 (e▸hy)⟩
theorem nodup_take{l:List S39}(h:(l.map (·.f0)).Nodup)(i:Nat):((l.take i).map (·.f0)).Nodup:=by
 rw[List.map_take]
 exact h.sublist (List.take_sublist _ _)
theorem twice50(l:List S39)(hl:l.length≤1048576):∃r,iter (L99_14 l) ([],0)=some r∧((r= .inr ()∧¬(l.map (·.f0)).Nodup)∨∃y,r= .inl y∧(l.map (·.f0)).Nodup):=by
 exact iter_upx (st:=L99_14 l) (fun(m:List (ByteArray×Bool)) i=>(m,(i:Int))) l.length
  (fun i m=>m.map (·.1)=(l.take i).map (·.f0)∧(∀ q∈m,q.2=true)∧((l.take i).map (·.f0)).Nodup)
  (fun r=>(r= .inr ()∧¬(l.map (·.f0)).Nodup)∨∃y,r= .inl y∧(l.map (·.f0)).Nodup)
  (fun i m hi hI=>by
   obtain⟨i1,i2,i3⟩:=hI
   have hx:=List.getElem?_eq_getElem hi
   by_cases hk:l[i].f0∈m.map (·.1)
   ·refine .inr ⟨.inr (),?_,.inl ⟨rfl,fun hn=>?_⟩⟩
    ·unfold L99_14
     exact ct (ltL_true hi) (bs (listAt_some hx) (ct (by rw[mget_all hk i2];rfl) rfl))
    ·have:=(nodup_next hx).1 (nodup_take hn (i+1))
     rw[← i1]at this
     exact this.2 hk
   ·refine .inl ⟨m++[(l[i].f0,true)],?_,?_,?_,?_⟩
    ·unfold L99_14
     refine ct (ltL_true hi) (bs (listAt_some hx) (cf (by rw[mget_none hk];rfl) (bs (congrArg some (mset_new true hk)) ?_)))
     simp only
     rw[nextI (by omega)]
    ·rw[List.map_append,i1,take_next hx,List.map_append]
     rfl
    ·intro q hq
     rcases List.mem_append.1 hq with hq|hq
     ·exact i2 q hq
     ·rw[List.mem_singleton]at hq
      rw[hq]
    ·exact(nodup_next hx).2 ⟨i3,by rw[← i1];exact hk⟩)
  (fun m hI=>⟨_,by unfold L99_14;exact cf (ltL_false (Nat.le_refl _)) rfl,.inr ⟨_,rfl,by have:=hI.2.2;rwa[List.take_length]at this⟩⟩) 0 [] (Nat.zero_le _) ⟨by simp,fun q hq=>(by cases hq),by simp⟩
theorem twice49(l:List S39)(hl:l.length≤1048576):∃b m,iter (L17_14 l) ([],0)=some ((l.length:Int),b,m)∧(ltI (lenL m) (lenL l)=true↔¬(l.map (·.f0)).Nodup):=by
 obtain⟨r,h1,b,m,rfl,h2⟩:=iter_up (st:=L17_14 l) (fun(m:List (ByteArray×Bool)) i=>(m,(i:Int))) l.length
  (fun i m=>(∀ k,k∈m.map (·.1)↔k∈(l.take i).map (·.f0))∧m.length≤i∧(m.length=i↔((l.take i).map (·.f0)).Nodup))
  (fun r=>∃b m,r=((l.length:Int),b,m)∧(ltI (lenL m) (lenL l)=true↔¬(l.map (·.f0)).Nodup))
  (fun i m hi hI=>by
   obtain⟨i1,i2,i3⟩:=hI
   have hx:=List.getElem?_eq_getElem hi
   refine⟨msetB eqB m l[i].f0 true,?_,?_⟩
   ·unfold L17_14
    refine ct (ltL_true hi) (bs (listAt_some hx) (bs rfl ?_))
    simp only
    rw[nextI (by omega)]
   ·have hn:=nodup_next hx
    by_cases hk:l[i].f0∈m.map (·.1)
    ·have hm:=mset_old true hk
     have hlen:(msetB eqB m l[i].f0 true).length=m.length:=by
      have:=congrArg List.length hm
      simpa using this
     refine⟨fun k=>?_,by omega,?_⟩
     ·rw[hm,i1,take_next hx,List.map_append,List.mem_append]
      constructor
      ·exact .inl
      ·rintro(h|h)
       ·exact h
       ·simp only[List.map_cons,List.map_nil,List.mem_singleton]at h
        rw[h]
        exact(i1 _).1 hk
     ·constructor
      ·intro h
       omega
      ·intro h
       exact absurd ((i1 _).1 hk) (hn.1 h).2
    ·rw[mset_new true hk]
     refine⟨fun k=>?_,by simp only[List.length_append,List.length_cons,List.length_nil];omega,?_⟩
     ·rw[List.map_append,List.mem_append,i1,take_next hx,List.map_append,List.mem_append]
      exact Iff.rfl
     ·rw[hn]
      simp only[List.length_append,List.length_cons,List.length_nil]
      constructor
      ·intro h
       exact⟨i3.1 (by omega),fun hc=>hk ((i1 _).2 hc)⟩
      ·rintro⟨h,_⟩
       have:=i3.2 h
       omega)
  (fun m hI=>⟨_,by unfold L17_14;exact cf (ltL_false (Nat.le_refl _)) rfl,_,m,rfl,by
   obtain⟨i1,i2,i3⟩:=hI
   rw[List.take_length]at i3
   rw[ltI_iff,lenL_eq,lenL_eq,decide_eq_true_eq,←i3]
   omega⟩) [] ⟨fun k=>by simp,by simp,by simp⟩
 exact⟨b,m,h1,h2⟩
theorem lists_ok(l:List S39)(hl:l.length≤1048576)(hs:∀x∈l,ok39 1048576 x):∃v,T99 l=some v∧T17 l=some v∧(v=0→l.length≤300∧(∀ x∈l,(inT x.f4=true∧x.f7.length≤20∧∀r∈x.f7,rectF r=0)∧x.f3.length≤20)∧(l.map (·.f0)).Nodup):=by
 unfold T99 T17
 rw[ord50 l hl hs,ord49 l hl hs]
 cases h0:ltI 300 (lenL l)with
 | true=>exact⟨2,rfl,rfl,fun c=>by cases c⟩
 | false=>
 have hlen:l.length≤300:=by
  rw[ltI_iff,lenL_eq,decide_eq_false_iff_not]at h0
  omega
 simp only[cond_false,Option.bind_some]
 obtain⟨w1,w2⟩:=wp_ord l 0 none
 cases hw:wp ordF 0 none l with
 | inr e=>exact⟨e,rfl,rfl,fun c=>absurd c (w2 e hw)⟩
 | inl s=>
   simp only[Sum.elim_inl]
   obtain⟨r,t1,t2⟩:=twice50 l hl
   obtain⟨b,m,u1,u2⟩:=twice49 l hl
   have t1:iter (L99_14 l) ([],0)=some r:=t1
   rw[t1,u1]
   simp only[Option.bind_some]
   rcases t2 with⟨rfl,t2⟩|⟨y,rfl,t2⟩
   ·rw[u2.2 t2]
    exact⟨6,rfl,rfl,fun c=>by cases c⟩
   ·have:ltI (lenL m) (lenL l)=false:=by
     cases hq:ltI (lenL m) (lenL l)with
     | false=>rfl
     | true=>exact absurd t2 (u2.1 hq)
    rw[this]
    exact⟨0,rfl,rfl,fun _=>⟨hlen,fun x hx=>(alF_ok (hs x hx)).2.2 (w1 s hw x hx),t2⟩⟩
end Go.Abs.TUS
set_option linter.unusedVariables false
set_option linter.unusedSimpArgs false
set_option maxRecDepth 10000
namespace Go.Abs.TUS
open Go.RowKit Go.Proofs Go.Abs
theorem cmp_spec:∀x y:List UInt8,Lib.compareBytes x y=if Op.bytesLess x y=true then -1 else if Op.bytesLess y x=true then 1 else 0
 | [],[]=>rfl
 | [],_::_=>rfl
 | _::_,[]=>rfl
 | a::x,b::y=>by
   have ih:=cmp_spec x y
   simp only[Lib.compareBytes,Op.bytesLess]
   by_cases h1:a<b
   ·simp[h1]
   ·by_cases h2:b<a
    ·have h3:¬a=b:=fun e=>by subst e;exact h1 h2
     simp[h1,h2,h3]
    ·have h3:a=b:=UInt8.toNat_inj.1 (by
      have h4:=UInt8.lt_iff_toNat_lt (a:=a) (b:=b)
      have h5:=UInt8.lt_iff_toNat_lt (a:=b) (b:=a)
      rw[h4]at h1
      rw[h5]at h2
      omega)
     subst h3
     simp[h1,ih]
theorem cmpS_eq(a b:ByteArray):cmpS a b=if ltS a b=true then -1 else if ltS b a=true then 1 else 0:=by
 unfold cmpS
 rw[cmp_spec,ltS_eq,ltS_eq]
def AB(a b:S39):Prop:=a.f4<b.f4∨(a.f4=b.f4∧leS a.f0 b.f0=true)
def same64(a b:S43):Bool:=allB [eqI a.f0 b.f0,eqI a.f1 b.f1,eqI a.f2 b.f2,eqI a.f3 b.f3]
theorem r64_t{a b:S43}:same64 a b=true↔a=b:=by
 obtain⟨a0,a1,a2,a3⟩:=a
 obtain⟨b0,b1,b2,b3⟩:=b
 unfold same64
 simp only[allB,Bool.and_true,Bool.and_eq_true,eqI_t',S43.mk.injEq]
theorem T91_dec(l l':List S43)(h:l.length≤1048576):∃b,T65 l l'=some b∧(b=true↔l=l'):=by
 unfold T65
 by_cases hn:l.length=l'.length
 ·have h0:neI (lenL l) (lenL l')=false:=by rw[neI_iff,lenL_eq,lenL_eq];simp;omega
  obtain⟨r,h2,h3⟩:=iter_upx (st:=L65_4 l l') (fun(_:Unit)(i:Nat)=>(i:Int)) l.length (fun i _=>l.take i=l'.take i) (fun r=>((∃ x,r= .inl x)∧l=l')∨(∃ x,r= .inr x)∧l≠l')
   (fun i s hi hI=>by
    have hx:=List.getElem?_eq_getElem hi
    have hy:=List.getElem?_eq_getElem (show i<l'.length by omega)
    by_cases e:l[i]=l'[i]
    ·refine .inl ⟨(),?_,?_⟩
     ·unfold L65_4
      refine ct (ltL_true hi) (bs (listAt_some hx) (bs (listAt_some hy) (cf ?_ ?_)))
      ·show(!same64 l[i] l'[i])=false
       rw[r64_t.2 e];rfl
      ·rw[nextI (by omega)]
     ·rw[take_next hx,take_next hy,hI,e]
    ·refine .inr ⟨.inr (),?_,.inr ⟨⟨_,rfl⟩,fun h=>e ?_⟩⟩
     ·unfold L65_4
      refine ct (ltL_true hi) (bs (listAt_some hx) (bs (listAt_some hy) (ct ?_ rfl)))
      show(!same64 l[i] l'[i])=true
      cases hq:same64 l[i] l'[i]with
      | false=>rfl
      | true=>exact absurd (r64_t.1 hq) e
     ·subst h;rfl)
   (fun s hI=>⟨.inl ((l.length:Int),false),by
    unfold L65_4
    rw[ltL_false (Nat.le_refl _)]
    rfl,.inl ⟨⟨_,rfl⟩,by rw[List.take_length]at hI;rw[hI,hn,List.take_length]⟩⟩) 0 () (Nat.zero_le _) rfl
  rcases h3 with⟨⟨x,rfl⟩,h4⟩|⟨⟨x,rfl⟩,h4⟩
  ·exact⟨true,cf h0 (bs h2 rfl),by simp[h4]⟩
  ·exact⟨false,cf h0 (bs h2 rfl),by simp[h4]⟩
 ·refine⟨false,ct (neI_t ?_) rfl,?_⟩
  ·rw[lenL_eq,lenL_eq];omega
  ·simp only[Bool.false_eq_true,false_iff]
   rintro rfl
   exact hn rfl
theorem s46_ext{x y:S39}:x=y↔x.f0=y.f0∧x.f1=y.f1∧x.f2=y.f2∧x.f3=y.f3∧x.f4=y.f4∧x.f5=y.f5∧x.f6=y.f6∧x.f7=y.f7∧x.f8=y.f8:=by
 cases x;cases y;simp
theorem T54_dec(x y:S39)(h:ok39 1048576 x):∃b,T32 x y=some b∧(b=true↔x=y):=by
 rw[s46_ext]
 exact dec_s (α:=Unit) (dec_s (α:=Unit) (dec_i (dec_o (T23_dec _ _ h.2.2.2.1.1) (dec_i (dec_i (dec_i (dec_o (T91_dec _ _ h.2.2.2.2.2.2.2.1.1) ⟨_,rfl,eqS_t⟩)))))))
theorem T54_self(x:S39)(h:ok39 1048576 x):T32 x x=some true:=by
 obtain⟨b,h1,h2⟩:=T54_dec x x h
 rw[h1,h2.2 rfl]
theorem T53_self(l:List S39)(hl:l.length≤1048576)(hs:∀x∈l,ok39 1048576 x):T31 l l=some true:=by
 obtain⟨r,h1,y,rfl⟩:=iter_up (st:=L31_4 l l) (fun(_:Unit) i=>(i:Int)) l.length (fun _ _=>True) (fun r=>∃y,r= .inl y)
  (fun i _ hi _=>by
   have hx:=List.getElem?_eq_getElem hi
   refine⟨(),?_,trivial⟩
   unfold L31_4
   refine ct (ltL_true hi) (bs (listAt_some hx) (bs (listAt_some hx) (bs (T54_self _ (hs _ (List.getElem_mem hi))) (cf rfl ?_))))
   rw[nextI (by omega)])
  (fun _ _=>⟨_,by unfold L31_4;exact cf (ltL_false (Nat.le_refl _)) rfl,_,rfl⟩) () trivial
 have h1:iter (L31_4 l l) 0=some (.inl y):=h1
 unfold T31
 exact cf (neI_no _) (bs h1 rfl)
theorem T5_eq(l:List S39)(hl:l.length≤1048576)(hs:∀x∈l,ok39 1048576 x):T5 l=some l:=by
 obtain⟨r,h1,rfl⟩:=iter_up (st:=L5_3 l) (fun(s:List S39) i=>(s,(i:Int))) l.length (fun i s=>s=l.take i) (fun r=>r=((l.length:Int),false,l))
  (fun i s hi hI=>by
   have hx:=List.getElem?_eq_getElem hi
   have hk:=hs _ (List.getElem_mem hi)
   have h3:=hk.2.2.2.1.1
   have h7:=hk.2.2.2.2.2.2.2.1.1
   subst hI
   refine⟨l.take i++[l[i]],?_,(take_next hx).symm⟩
   unfold L5_3
   refine ct (ltL_true hi) (bs (listAt_some hx) (bs (appO_eq (by simp only[List.length_nil];omega) (by simp only[List.length_nil];omega)) (bs (appO_eq (by simp only[List.length_nil];omega) (by simp only[List.length_nil];omega)) (bs (appO_eq (by simp;omega) (by simp;omega)) ?_))))
   simp only
   rw[nextI (by omega)]
   rfl)
  (fun s hI=>⟨_,by unfold L5_3;exact cf (ltL_false (Nat.le_refl _)) rfl,by simp only;rw[ltL_false (Nat.le_refl _),hI,List.take_length]⟩) [] (by simp)
 have h1:iter (L5_3 l) ([],0)=some ((l.length:Int),false,l):=h1
 unfold T5
 exact bs h1 rfl
end Go.Abs.TUS
set_option linter.unusedVariables false
set_option linter.unusedSimpArgs false
set_option maxRecDepth 10000
namespace Go.Abs.TUS
open Go.RowKit Go.Proofs Go.Abs
def W(r:S43):Prop := -100000≤r.f0∧1≤r.f2∧r.f0+r.f2≤100000 ∧ -100000≤r.f1∧1≤r.f3∧r.f1+r.f3≤100000
structure RefsV(a:S39):Prop where
 few:a.f3.length≤20
structure RA(a:S39):Prop where
 at_:0≤a.f4∧a.f4<345686400000
 refs:RefsV a
 areas:(∀ r∈a.f7,W r)∧a.f7.length≤20
structure Als(l:List S39):Prop where
 all:∀a∈l,RA a
 ids:(l.map (·.f0)).Nodup
theorem rect_W{r:S43}(h:rectF r=0):W r:=by
 unfold rectF at h
 cases c0:outB r.f0 (-100000) 100000 with
 | true=>rw[c0]at h;cases h
 | false=>
 cases c1:outB r.f1 (-100000) 100000 with
 | true=>rw[c0,c1]at h;cases h
 | false=>
 obtain⟨a0,a1⟩:=outB_false c0
 obtain⟨b0,b1⟩:=outB_false c1
 rw[c0,c1,subI_eq (by omega) (by omega),subI_eq (by omega) (by omega)]at h
 cases c2:outB r.f2 1 (100000-r.f0)with
 | true=>rw[c2]at h;cases h
 | false=>
 cases c3:outB r.f3 1 (100000-r.f1)with
 | true=>rw[c2,c3]at h;cases h
 | false=>
 obtain⟨d0,d1⟩:=outB_false c2
 obtain⟨e0,e1⟩:=outB_false c3
 unfold W
 omega
theorem als_mk{l:List S39}(h:∀x∈l,(inT x.f4=true∧x.f7.length≤20∧∀r∈x.f7,rectF r=0)∧x.f3.length≤20)(hn:(l.map (·.f0)).Nodup):Als l:=by
 refine⟨fun a ha=>?_,hn⟩
 obtain⟨⟨h1,h2,h3⟩,h4⟩:=h a ha
 unfold inT at h1
 rw[leI_iff,ltI_iff,Bool.and_eq_true,decide_eq_true_eq,decide_eq_true_eq]at h1
 exact⟨h1,⟨h4⟩,fun r hr=>rect_W (h3 r hr),h2⟩
def hasB(x y:Int)(r:S43):Bool:=leI r.f0 x&&ltI x (addI .i64 r.f0 r.f2)&&(leI r.f1 y&&ltI y (addI .i64 r.f1 r.f3))
theorem t159(r:S43)(c:ByteArray)(x y:Int):T109 r c x y=some (hasB x y r):=by
 unfold T109 hasB
 cases leI r.f0 x<;>cases ltI x (addI .i64 r.f0 r.f2)<;>cases leI r.f1 y<;>rfl
theorem t88_ok{a:S39}(h:RA a){pk:ByteArray}{x y:Int}:T63 a ⟨pk,x,y⟩=some (a.f7.any (hasB x y)):=by
 have hf:=h.areas.2
 obtain⟨v,h1,h2⟩:=any_iter (st:=L141_2 a.f7 pk x y) (l:=a.f7) (hasB x y) (by omega) (fun i r hr=>by
  have hi:=(List.getElem?_eq_some_iff.1 hr).1
  unfold L141_2
  simp only[ltL_true hi,cond_true,listAt_some hr,Option.bind_some,t159,nextI (i:=i) (by omega)]
  cases hasB x y r<;>rfl) (by unfold L141_2;rw[ltL_false (Nat.le_refl _)];rfl)
 unfold T63 T108 T141
 exact bs (bs h1 (congrArg some h2)) rfl
theorem or_ok(a b c:Int):T69 [a,b,c]=some (if a≠0 then a else if b≠0 then b else c):=by
 unfold T69
 have st:∀(i:Nat)(x:Int),([a,b,c]:List Int)[i]? = some x→L69_3 [a,b,c] (i:Int)=some (if x≠0 then .inr (.inr x)else .inl ((i+1:Nat):Int)):=by
  intro i x hx
  have hi:i<([a,b,c]:List Int).length:=(List.getElem?_eq_some_iff.1 hx).1
  unfold L69_3
  refine ct (ltL_true hi) (bs (listAt_some hx) ?_)
  by_cases h:x=0
  ·rw[neI_f h,if_neg (by simp[h]),nextI (by simp at hi;omega)]
   rfl
  ·rw[neI_t h,if_pos h]
   rfl
 have en:L69_3 [a,b,c] ((3:Nat):Int)=some (.inr (.inl (3,false))):=rfl
 have s0:=st 0 a rfl
 have s1:=st 1 b rfl
 have s2:=st 2 c rfl
 by_cases ha:a≠0
 ·rw[if_pos ha]at s0 ⊢
  rw[show (0:Int)=((0:Nat):Int)from rfl,iter_inr s0]
  rfl
 ·rw[if_neg ha]at s0 ⊢
  by_cases hb:b≠0
  ·rw[if_pos hb]at s1 ⊢
   rw[show (0:Int)=((0:Nat):Int)from rfl,iter_inl s0,iter_inr s1]
   rfl
  ·rw[if_neg hb]at s1 ⊢
   by_cases hc:c≠0
   ·rw[if_pos hc]at s2
    rw[show (0:Int)=((0:Nat):Int)from rfl,iter_inl s0,iter_inl s1,iter_inr s2]
    rfl
   ·rw[if_neg hc]at s2
    have hc:c=0:=by omega
    rw[show (0:Int)=((0:Nat):Int)from rfl,iter_inl s0,iter_inl s1,iter_inl s2,iter_inr en,hc]
    rfl
def Bef(x y:S39):Prop:=x.f4<y.f4∨(x.f4=y.f4∧ltS x.f0 y.f0=true)
theorem cmp127(x y:S39):∃n,T122 x y=some n∧(n<0↔Bef x y):=by
 unfold T122
 refine⟨_,bs (t135 _ _) (bs (a:=cmpS x.f0 y.f0) rfl (bs (or2_ok _ _) rfl)),?_⟩
 unfold Bef
 by_cases h1:x.f4<y.f4
 ·simp[h1]
 ·by_cases h2:y.f4<x.f4
  ·simp[h1,h2]
   intro h3
   omega
  ·have h3:x.f4=y.f4:=by omega
   rw[cmpS_eq]
   simp only[h1,h2,h3,if_false,ne_eq,not_true_eq_false]
   cases g1:ltS x.f0 y.f0 with
   | true=>simp
   | false=>
     simp only[Bool.false_eq_true,if_false,and_false,or_false]
     cases g2:ltS y.f0 x.f0<;>simp
theorem als_ids{l:List S39}(h:Als l){i j:Nat}(hi:i<l.length)(hj:j<l.length)(e:l[i].f0=l[j].f0):i=j:=by
 have hn:(l.map (·.f0)).Pairwise (· ≠ ·):=h.ids
 rcases Nat.lt_trichotomy i j with hij|hij|hij
 ·have:=List.pairwise_iff_getElem.1 hn i j (by simpa using hi) (by simpa using hj) hij
  simp only[List.getElem_map]at this
  exact absurd e this
 ·exact hij
 ·have:=List.pairwise_iff_getElem.1 hn j i (by simpa using hj) (by simpa using hi) hij
  simp only[List.getElem_map]at this
  exact absurd e.symm this
end Go.Abs.TUS
set_option linter.unusedVariables false
set_option linter.unusedSimpArgs false
set_option maxRecDepth 10000
namespace Go.Abs.TUS
open Go.RowKit Go.Proofs Go.Abs
instance befDec (x y:S39):Decidable (Bef x y):=by unfold Bef;infer_instance
def pf(a:S39)(r:ByteArray)(o:S39):Bool:=bif eqS o.f0 r then(bif eqS o.f1 a.f1 then decide (Bef o a)else false)else false
theorem t188(a:S39)(r:ByteArray)(o:S39):T123 o r a.f0 a.f1 a.f2 a.f3 a.f4 a.f5 a.f6 a.f7 a.f8=some (pf a r o):=by
 obtain⟨n,n1,n2⟩:=cmp127 o a
 unfold T123 pf
 cases eqS o.f0 r with
 | false=>rfl
 | true=>
   cases eqS o.f1 a.f1 with
   | false=>rfl
   | true=>
     refine ct rfl (ct rfl (bs n1 ?_))
     by_cases hb:Bef o a
     ·rw[ltI_t (n2.2 hb)]
      simp[hb]
     ·rw[ltI_f (by
       by_cases c:n<0
       ·exact absurd (n2.1 c) hb
       ·omega)]
      simp[hb]
theorem pf_id{a:S39}{r:ByteArray}{o:S39}(h:pf a r o=true):o.f0=r:=by
 unfold pf at h
 by_cases c:o.f0=r
 ·exact c
 ·rw[show eqS o.f0 r=false by rw[eqS_iff];exact decide_eq_false c]at h
  cases h
theorem find_ok{l:List S39}(h:Als l)(hl:l.length≤300)(a:S39)(r:ByteArray) :
  (T100 l a r=some (-1)∧∀o∈l,pf a r o=false)∨∃(k:Nat)(o:S39),l[k]? = some o∧T100 l a r=some (k:Int)∧pf a r o=true:=by
 have hs:∀(i:Nat) x,l[i]? = some x→L80_2 l r a.f0 a.f1 a.f2 a.f3 a.f4 a.f5 a.f6 a.f7 a.f8 (i:Int)=some (bif pf a r x then .inr (.inr (i:Int))else .inl ((i+1:Nat):Int)):=fun i x hx=>by
  have hi:=(List.getElem?_eq_some_iff.1 hx).1
  unfold L80_2
  refine ct (ltL_true hi) (bs (listAt_some hx) (bs (t188 a r x) ?_))
  rw[nextI (by omega)]
  cases pf a r x<;>rfl
 have he:L80_2 l r a.f0 a.f1 a.f2 a.f3 a.f4 a.f5 a.f6 a.f7 a.f8 (l.length:Int)=some (.inr (.inl ((l.length:Int),false))):=by
  unfold L80_2
  rw[ltL_false (Nat.le_refl _)]
  rfl
 rcases idx_iter (pf a r) (by omega) hs he with⟨h1,h2⟩|⟨k,x,h1,h2,h3,_⟩
 ·refine .inl ⟨?_,h2⟩
  unfold T100 T80
  exact bs (bs h1 rfl) rfl
 ·refine .inr ⟨k,x,h1,?_,h3⟩
  unfold T100 T80
  exact bs (bs h2 rfl) rfl
def Ends(z a:S39):Prop:=∃r∈a.f3,pf a r z=true
theorem refs_ok2{l:List S39}(h:Als l)(hl:l.length≤300){a:S39}(ha:a.f3.length≤300)(z1:List Int×Int)(es:List Int)(hes:es.length=l.length) :
  ∃es',iter (L48_11 l z1 a) (es,0)=some ((a.f3.length:Int),false,es')∧es'.length=l.length∧∀(i:Nat) z x x',l[i]? = some z→es[i]? = some x→es'[i]? = some x'→∀t,t<x'↔t<x∧(Ends z a→t<a.f4):=by
 obtain⟨r,h1,es',rfl,h2,h3⟩:=iter_up (st:=L48_11 l z1 a) (fun(s:List Int)(i:Nat)=>(s,(i:Int))) a.f3.length
  (fun j s=>s.length=l.length∧∀(i:Nat) z x x',l[i]? = some z→es[i]? = some x→s[i]? = some x'→∀t,t<x'↔t<x∧((∃ r∈a.f3.take j,pf a r z=true)→t<a.f4))
  (fun r=>∃es',r=((a.f3.length:Int),false,es')∧es'.length=l.length∧∀(i:Nat) z x x',l[i]? = some z→es[i]? = some x→es'[i]? = some x'→∀t,t<x'↔t<x∧(Ends z a→t<a.f4))
  (fun j s hj hI=>by
   obtain⟨hI1,hI2⟩:=hI
   have hx:=List.getElem?_eq_getElem hj
   have mem:∀r,r∈a.f3.take (j+1)↔r∈a.f3.take j∨r=a.f3[j]:=fun r=>by
    rw[take_next hx,List.mem_append,List.mem_singleton]
   rcases find_ok h hl a a.f3[j]with⟨f1,f2⟩|⟨k,o,f1,f2,f3⟩
   ·refine⟨s,?_,hI1,fun i z x x' hz hx0 hx1 t=>?_⟩
    ·unfold L48_11
     refine ct (ltL_true hj) (bs (listAt_some hx) (bs f1 (cf rfl ?_)))
     rw[nextI (by omega)]
    ·rw[hI2 i z x x' hz hx0 hx1 t]
     constructor
     ·rintro⟨g1,g2⟩
      refine⟨g1,fun⟨r,hr,hp⟩=>?_⟩
      rcases(mem r).1 hr with hr|rfl
      ·exact g2 ⟨r,hr,hp⟩
      ·rw[f2 z (List.mem_of_getElem? hz)]at hp
       cases hp
     ·rintro⟨g1,g2⟩
      exact⟨g1,fun⟨r,hr,hp⟩=>g2 ⟨r,(mem r).2 (.inl hr),hp⟩⟩
   ·have hk:k<l.length:=(List.getElem?_eq_some_iff.1 f1).1
    have hks:k<s.length:=by omega
    have hy:=List.getElem?_eq_getElem hks
    refine⟨s.set k (minI s[k] a.f4),?_,by rw[List.length_set];exact hI1,fun i z x x' hz hx0 hx1 t=>?_⟩
    ·unfold L48_11
     refine ct (ltL_true hj) (bs (listAt_some hx) (bs f2 (ct (leI_t (by omega)) (bs (idx_nat hks) (bs (getN_some hy) (bs (idx_nat hks) (bs (getN_some hy) ?_)))))))
     simp only
     rw[nextI (by omega)]
    ·by_cases hik:i=k
     ·subst hik
      rw[List.getElem?_set_self hks]at hx1
      cases hx1
      rw[f1]at hz
      cases hz
      have:=hI2 i o x s[i] f1 hx0 hy t
      rw[minI_eq]
      constructor
      ·intro g
       have g1:t<s[i]:=by omega
       exact⟨(this.1 g1).1,fun _=>by omega⟩
      ·rintro⟨g1,g2⟩
       have g3:t<a.f4:=g2 ⟨_,(mem _).2 (.inr rfl),f3⟩
       have g4:t<s[i]:=this.2 ⟨g1,fun _=>g3⟩
       omega
     ·rw[List.getElem?_set_ne (fun e=>hik e.symm)]at hx1
      rw[hI2 i z x x' hz hx0 hx1 t]
      have hno:pf a a.f3[j] z=false:=by
       cases hp:pf a a.f3[j] z with
       | false=>rfl
       | true=>
         have e1:=pf_id hp
         have e2:=pf_id f3
         have hi':=(List.getElem?_eq_some_iff.1 hz)
         have hk':=(List.getElem?_eq_some_iff.1 f1)
         have:=als_ids h (i:=i) (j:=k) hi'.1 hk (by rw[hi'.2,hk'.2,e1,e2])
         exact absurd this hik
      constructor
      ·rintro⟨g1,g2⟩
       refine⟨g1,fun⟨r,hr,hp⟩=>?_⟩
       rcases(mem r).1 hr with hr|rfl
       ·exact g2 ⟨r,hr,hp⟩
       ·rw[hno]at hp
        cases hp
      ·rintro⟨g1,g2⟩
       exact⟨g1,fun⟨r,hr,hp⟩=>g2 ⟨r,(mem r).2 (.inl hr),hp⟩⟩)
  (fun s hI=>by
   obtain⟨hI1,hI2⟩:=hI
   refine⟨((a.f3.length:Int),false,s),?_,s,rfl,hI1,?_⟩
   ·unfold L48_11
    refine cf (ltL_false (Nat.le_refl _)) ?_
    rw[ltL_false (Nat.le_refl _)]
   ·intro i z x x' hz hx0 hx1 t
    rw[hI2 i z x x' hz hx0 hx1 t,List.take_length]
    rfl) es ⟨hes,fun i z x x' hz hx0 hx1 t=>by
   rw[hx0]at hx1
   cases hx1
   simp⟩
 exact⟨es',h1,h2,h3⟩
structure EndsOf(l:List S39)(es:List Int):Prop where
 len:es.length=l.length
 at_:∀(i:Nat) z x,l[i]? = some z→es[i]? = some x→∀t,t<x↔t<z.f5∧∀a∈l,Ends z a→t<a.f4
theorem ends_ok{l:List S39}(h:Als l)(hl:l.length≤300):∃es,T48 l=some es∧EndsOf l es:=by
 obtain⟨r,h1,rfl⟩:=iter_up (st:=L48_3 l) (fun(s:List Int)(i:Nat)=>(s,(i:Int))) l.length (fun i s=>s=(l.take i).map (·.f5))
  (fun r=>r=((l.length:Int),false,l.map (·.f5)))
  (fun i s hi hI=>by
   have hx:=List.getElem?_eq_getElem hi
   subst hI
   refine⟨_,?_,rfl⟩
   unfold L48_3
   refine ct (ltL_true hi) (bs (listAt_some hx) (bs (appO_big (by omega) (by simp;omega)) ?_))
   simp only
   rw[nextI (by omega),take_next hx,List.map_append]
   rfl)
  (fun s hI=>by
   subst hI
   refine⟨_,?_,rfl⟩
   unfold L48_3
   rw[List.take_length]
   refine cf (ltL_false (Nat.le_refl _)) ?_
   rw[ltL_false (Nat.le_refl _)]) [] (by simp)
 obtain⟨r2,h2,es,rfl,h3⟩:=iter_up (st:=L48_8 l) (fun(s:List Int)(i:Nat)=>(s,(i:Int))) l.length
  (fun k s=>s.length=l.length∧∀(i:Nat) z x,l[i]? = some z→s[i]? = some x→∀t,t<x↔t<z.f5∧∀a∈l.take k,Ends z a→t<a.f4)
  (fun r=>∃es,r=((l.length:Int),false,es)∧EndsOf l es)
  (fun k s hk hI=>by
   obtain⟨hI1,hI2⟩:=hI
   have hx:=List.getElem?_eq_getElem hk
   have hrl:=(h.all _ (List.getElem_mem hk)).refs.few
   obtain⟨es',g1,g2,g3⟩:=refs_ok2 h hl (a:=l[k]) (by omega) (s,(k:Int)) s hI1
   refine⟨es',?_,g2,fun i z x' hz hx1 t=>?_⟩
   ·unfold L48_8
    refine ct (ltL_true hk) (bs (listAt_some hx) (bs g1 ?_))
    simp only
    rw[nextI (by omega)]
   ·have hi:=(List.getElem?_eq_some_iff.1 hz).1
    have hx0:=List.getElem?_eq_getElem (show i<s.length by omega)
    rw[g3 i z _ x' hz hx0 hx1 t,hI2 i z _ hz hx0 t]
    constructor
    ·rintro⟨⟨q1,q2⟩,q3⟩
     refine⟨q1,fun a ha he=>?_⟩
     rw[take_next hx,List.mem_append,List.mem_singleton]at ha
     rcases ha with ha|rfl
     ·exact q2 a ha he
     ·exact q3 he
    ·rintro⟨q1,q2⟩
     refine⟨⟨q1,fun a ha he=>q2 a ?_ he⟩,fun he=>q2 _ ?_ he⟩
     ·rw[take_next hx,List.mem_append]
      exact .inl ha
     ·rw[take_next hx,List.mem_append,List.mem_singleton]
      exact .inr rfl)
  (fun s hI=>by
   obtain⟨hI1,hI2⟩:=hI
   refine⟨((l.length:Int),false,s),?_,s,rfl,hI1,?_⟩
   ·unfold L48_8
    refine cf (ltL_false (Nat.le_refl _)) ?_
    rw[ltL_false (Nat.le_refl _)]
   ·intro i z x hz hx1 t
    rw[hI2 i z x hz hx1 t,List.take_length]) (l.map (·.f5)) ⟨by simp,fun i z x hz hx1 t=>by
   rw[List.getElem?_map,hz]at hx1
   cases hx1
   simp⟩
 have h1:iter (L48_3 l) ([],0)=some ((l.length:Int),false,l.map (·.f5)):=h1
 have h2:iter (L48_8 l) (l.map (·.f5),0)=some ((l.length:Int),false,es):=h2
 refine⟨es,?_,h3⟩
 unfold T48
 exact bs h1 (bs h2 rfl)
end Go.Abs.TUS
set_option linter.unusedVariables false
set_option linter.unusedSimpArgs false
set_option maxRecDepth 10000
namespace Go.Abs.TUS
open Go.RowKit Go.Proofs Go.Abs
variable {pk:ByteArray}
def onB(a:S39)(e t:Int):Bool:=bif neI a.f2 3 then(bif leI a.f4 t then ltI t e else false)else false
theorem t121(a:S39)(e t:Int):T83 a e t=some (onB a e t):=by
 unfold T83 onB
 cases neI a.f2 3<;>cases leI a.f4 t<;>rfl
def rcB(x y:Int)(a:S39):Bool:=a.f7.any (hasB x y)
def filt(l:List S39)(es:List Int)(x y t:Int):List S39:=(l.zip es).filterMap fun q=>if onB q.1 q.2 t&&rcB x y q.1 then some q.1 else none
def Fst(x y:S39):Prop:=y.f6<x.f6∨(x.f6=y.f6∧(y.f4<x.f4∨(x.f4=y.f4∧ltS x.f0 y.f0=true)))
theorem fst_asymm{a b:S39}(h1:Fst a b)(h2:Fst b a):False:=by
 unfold Fst at h1 h2
 rcases h1 with h1|⟨h1,h1'|⟨h1',h1''⟩⟩<;>rcases h2 with h2|⟨h2,h2'|⟨h2',h2''⟩⟩<;>try omega
 have:=ltS_trans h1'' h2''
 rw[ltS_irrefl]at this
 cases this
theorem fst_neg{a b c:S39}(h:Fst a c):Fst a b∨Fst b c:=by
 unfold Fst at *
 rcases Int.lt_trichotomy a.f6 b.f6 with g|g|g
 ·right;rcases h with h|⟨h,_⟩<;>exact .inl (by omega)
 ·rcases h with h|⟨h,h'⟩
  ·right;exact .inl (by omega)
  ·rcases Int.lt_trichotomy a.f4 b.f4 with k|k|k
   ·right;refine .inr ⟨by omega,?_⟩
    rcases h' with h'|⟨h',_⟩<;>exact .inl (by omega)
   ·rcases h' with h'|⟨h',h''⟩
    ·right;exact .inr ⟨by omega,.inl (by omega)⟩
    ·rcases ltS_total a.f0 b.f0 with m|m|m
     ·left;exact .inr ⟨by omega,.inr ⟨by omega,m⟩⟩
     ·right;exact .inr ⟨by omega,.inr ⟨by omega,by rw[← m];exact h''⟩⟩
     ·right;exact .inr ⟨by omega,.inr ⟨by omega,ltS_trans m h''⟩⟩
   ·left;exact .inr ⟨by omega,.inl (by omega)⟩
 ·left;exact .inl (by omega)
theorem cmp184(x y:S39):∃n,T101 x y=some n∧(n<0↔Fst x y):=by
 unfold T101
 refine⟨_,bs (t135 _ _) (bs (t135 _ _) (bs (a:=cmpS x.f0 y.f0) rfl (bs (or_ok _ _ _) rfl))),?_⟩
 unfold Fst
 by_cases h1:y.f6<x.f6
 ·simp[h1]
 ·by_cases h2:x.f6<y.f6
  ·simp[h1,h2]
   intro h3
   omega
  ·have h3:x.f6=y.f6:=by omega
   by_cases k1:y.f4<x.f4
   ·simp[h3,k1]
   ·by_cases k2:x.f4<y.f4
    ·simp[h3,k1,k2]
     intro h4
     omega
    ·have k3:x.f4=y.f4:=by omega
     rw[cmpS_eq]
     simp only[h3,k3,Int.lt_irrefl,if_false,ne_eq,not_true_eq_false,false_or,true_and]
     cases g1:ltS x.f0 y.f0 with
     | true=>simp
     | false=>
       simp only[Bool.false_eq_true,if_false,iff_false]
       cases g2:ltS y.f0 x.f0<;>simp
theorem filt_len(l:List S39)(es:List Int)(x y t:Int):(filt l es x y t).length≤l.length:=by
 unfold filt
 exact Nat.le_trans (List.length_filterMap_le _ _) (by simp;omega)
theorem ranked_ok{l:List S39}{es:List Int}(h:Als l)(hl:l.length≤300)(hes:es.length=l.length)(x y t:Int) :
  ∃m,T49 l es ⟨pk,x,y⟩ t=some m∧sortO (fun x y=>T101 x y) (filt l es x y t)=some m∧m.Perm (filt l es x y t):=by
 obtain⟨m,m1,m2,m3⟩:=sortO_le (fun x y=>T101 x y) (fun x y=>¬Fst y x) (fun x y=>Classical.byContradiction fun h=>fst_asymm (Classical.not_not.1 fun h'=>h (.inl h')) (Classical.not_not.1 fun h'=>h (.inr h')))
  (fun x y z h1 h2 h=>by
   rcases fst_neg (b:=y) h with h|h
   ·exact h2 h
   ·exact h1 h) (filt l es x y t) (by have:=filt_len l es x y t;omega) (fun a _ b _=>by
   obtain⟨n,hn,hn2⟩:=cmp184 a b
   exact⟨n,hn,hn2.trans Classical.not_not.symm⟩)
 have hz:(l.zip es).length=l.length:=by simp[hes]
 obtain⟨r,h1,rfl⟩:=iter_up (st:=L49_3 l es ⟨pk,x,y⟩ t) (fun(s:List S39)(i:Nat)=>(s,(i:Int))) l.length
  (fun i s=>s=((l.zip es).take i).filterMap fun q=>if onB q.1 q.2 t&&rcB x y q.1 then some q.1 else none)
  (fun r=>r=((l.length:Int),false,filt l es x y t))
  (fun i s hi hI=>by
   have hx:=List.getElem?_eq_getElem hi
   have hi2:i<es.length:=by omega
   have hy:=List.getElem?_eq_getElem hi2
   have hq:(l.zip es)[i]? = some (l[i],es[i]):=by rw[List.getElem?_zip_eq_some];exact⟨hx,hy⟩
   have hlen:s.length≤l.length:=by
    rw[hI]
    exact Nat.le_trans (List.length_filterMap_le _ _) (by simp;omega)
   have hs':(((l.zip es).take (i+1)).filterMap fun q=>if onB q.1 q.2 t&&rcB x y q.1 then some q.1 else none)=s++(if onB l[i] es[i] t&&rcB x y l[i]then [l[i]]else []):=by
    rw[take_next hq,List.filterMap_append,←hI]
    congr 1
    simp only[List.filterMap_cons,List.filterMap_nil]
    cases (onB l[i] es[i] t&&rcB x y l[i])<;>rfl
   refine⟨_,?_,rfl⟩
   rw[hs']
   unfold L49_3
   refine ct (ltL_true hi) (bs (listAt_some hx) (bs (listAt_some hy) (bs (t121 _ _ _) ?_)))
   simp only
   rw[nextI (by omega)]
   cases c1:onB l[i] es[i] t with
   | false=>simp
   | true=>
     refine ct rfl (bs (t88_ok (h.all _ (List.getElem_mem hi))) ?_)
     show(bif rcB x y l[i]then _ else _)=_
     cases c2:rcB x y l[i]with
     | false=>simp
     | true=>
       refine ct rfl (bs (appO_eq (by simp only[List.length_cons,List.length_nil];omega) (by simp only[List.length_cons,List.length_nil];omega)) ?_)
       simp)
  (fun s hI=>by
   refine⟨((l.length:Int),false,s),?_,?_⟩
   ·unfold L49_3
    refine cf (ltL_false (Nat.le_refl _)) ?_
    rw[ltL_false (Nat.le_refl _)]
   ·rw[hI,←hz,List.take_length]
    rfl) [] (by simp)
 have h1:iter (L49_3 l es ⟨pk,x,y⟩ t) ([],0)=some ((l.length:Int),false,filt l es x y t):=h1
 refine⟨m,?_,m1,m2⟩
 unfold T49
 exact bs h1 (bs m1 rfl)
end Go.Abs.TUS
set_option linter.unusedVariables false
set_option linter.unusedSimpArgs false
set_option maxRecDepth 10000
namespace Go.Abs.TUS
open Go.RowKit Go.Proofs Go.Abs
def keyOf:List S39→ByteArray
 | []=> .mk #[]
 | a::_=>a.f0
theorem inT_of{a:S39}(h:RA a):inT a.f4=true:=by
 unfold inT
 rw[leI_iff,ltI_iff,Bool.and_eq_true,decide_eq_true_eq,decide_eq_true_eq]
 exact h.at_
theorem t222(r:List ByteArray)(k:ByteArray)(hr:r.length≤1000):T118 r k=some (r.any fun s=>eqS k s):=by
 obtain⟨v,h1,h2⟩:=any_iter (st:=L159_2 r k) (l:=r) (fun s=>eqS k s) (by omega) (fun i s hs=>by
  have hi:=(List.getElem?_eq_some_iff.1 hs).1
  unfold L159_2
  refine ct (ltL_true hi) (bs (listAt_some hs) ?_)
  rw[nextI (by omega)]
  cases eqS k s<;>rfl) (by unfold L159_2;rw[ltL_false (Nat.le_refl _)];rfl)
 unfold T118 T159
 exact bs h1 (congrArg some h2)
theorem cmp_bef{o a:S39}:cmpA o a<0↔Bef o a:=by
 obtain⟨n,n1,n2⟩:=cmp127 o a
 rw[T122_eq]at n1
 cases n1
 exact n2
theorem t237{a o:S39}(ha:RA a)(ho:RA o)(r:ByteArray):T160 o r a.f0 a.f1 a.f2 a.f3 a.f4 a.f5 a.f6 a.f7 a.f8=some (pf a r o):=by
 have h86:T51 o a=some (cmpA o a):=T51_eq (inT_of ho) (inT_of ha)
 unfold T160 pf
 cases eqS o.f0 r with
 | false=>rfl
 | true=>
   cases eqS o.f1 a.f1 with
   | false=>rfl
   | true=>
     refine ct rfl (ct rfl (bs h86 ?_))
     by_cases hb:Bef o a
     ·rw[ltI_t (cmp_bef.2 hb)]
      simp[hb]
     ·rw[ltI_f (by
       by_cases c:cmpA o a<0
       ·exact absurd (cmp_bef.1 c) hb
       ·omega)]
      simp[hb]
theorem t223{l:List S39}(h:Als l)(hl:l.length≤300){a:S39}(ha:a∈l)(r:ByteArray):T119 l a r=some (l.any (pf a r)):=by
 obtain⟨v,h1,h2⟩:=any_iter (st:=L80_1_2 l r a.f0 a.f1 a.f2 a.f3 a.f4 a.f5 a.f6 a.f7 a.f8) (l:=l) (pf a r) (by omega) (fun i o ho=>by
  have hi:=(List.getElem?_eq_some_iff.1 ho).1
  unfold L80_1_2
  refine ct (ltL_true hi) (bs (listAt_some ho) (bs (t237 (h.all a ha) (h.all o (List.mem_of_getElem? ho)) r) ?_))
  rw[nextI (by omega)]
  cases pf a r o<;>rfl) (by unfold L80_1_2;rw[ltL_false (Nat.le_refl _)];rfl)
 unfold T119 T87 T80_1
 exact bs (bs h1 (congrArg some h2)) rfl
theorem ends_iff{l:List S39}(h:Als l){z a:S39}(hz:z∈l):((a.f3.any fun s=>eqS z.f0 s)=true∧l.any (pf a z.f0)=true)↔Ends z a:=by
 unfold Ends
 rw[List.any_eq_true,List.any_eq_true]
 constructor
 ·rintro⟨⟨s,hs,e⟩,o,ho,hp⟩
  have e:=eqS_t.1 e
  have ho2:=pf_id hp
  have:o=z:=by
   obtain⟨i,hi,rfl⟩:=List.getElem_of_mem ho
   obtain⟨j,hj,rfl⟩:=List.getElem_of_mem hz
   have:=als_ids h hi hj ho2
   subst this
   rfl
  rw[this]at hp
  exact⟨s,hs,by rw[← e];exact hp⟩
 ·rintro⟨r,hr,hp⟩
  have e:=pf_id hp
  exact⟨⟨r,hr,eqS_t.2 e⟩,z,hz,by rw[e];exact hp⟩
theorem min_lt(t a b:Int):t<minI a b↔t<a∧t<b:=by
 rw[minI_eq]
 omega
theorem end_ok{l:List S39}(h:Als l)(hl:l.length≤300){z:S39}(hz:z∈l):∃v,T94 l z=some v∧∀t,t<v↔t<z.f5∧∀a∈l,Ends z a→t<a.f4:=by
 obtain⟨r,h1,v,b,n,rfl,h2⟩:=iter_up (st:=L94_3 l z) (fun(s:Int)(i:Nat)=>(s,(i:Int))) l.length
  (fun i s=>∀t,t<s↔t<z.f5∧∀a∈l.take i,Ends z a→t<a.f4)
  (fun r=>∃v b n,r=(v,n,b)∧∀t,t<v↔t<z.f5∧∀a∈l,Ends z a→t<a.f4)
  (fun i s hi hI=>by
   have hx:=List.getElem?_eq_getElem hi
   have hm:=List.getElem_mem hi
   have hra:=h.all _ hm
   have e1:=t222 l[i].f3 z.f0 (by have:=hra.refs.few;omega)
   have e2:=t223 h hl hm z.f0
   have hiff:=ends_iff h (a:=l[i]) hz
   have grow:∀(P:Prop),(P↔¬Ends z l[i])→P→∀t,t<s↔t<z.f5∧∀a∈l.take (i+1),Ends z a→t<a.f4:=fun P hP hp t=>by
    rw[hI t,take_next hx]
    constructor
    ·rintro⟨g1,g2⟩
     refine⟨g1,fun a ha he=>?_⟩
     rcases List.mem_append.1 ha with ha|ha
     ·exact g2 a ha he
     ·rw[List.mem_singleton]at ha
      subst ha
      exact absurd he (hP.1 hp)
    ·rintro⟨g1,g2⟩
     exact⟨g1,fun a ha=>g2 a (List.mem_append_left _ ha)⟩
   cases c1:l[i].f3.any fun s=>eqS z.f0 s with
   | false=>
     refine⟨s,?_,grow True ⟨fun _ he=>(by have:=(hiff.2 he).1;rw[c1]at this;cases this),fun _=>trivial⟩ trivial⟩
     unfold L94_3
     refine ct (ltL_true hi) (bs (listAt_some hx) (bs e1 (cf c1 ?_)))
     simp only
     rw[nextI (by omega)]
   | true=>
     cases c2:l.any (pf l[i] z.f0)with
     | false=>
       refine⟨s,?_,grow True ⟨fun _ he=>(by have:=(hiff.2 he).2;rw[c2]at this;cases this),fun _=>trivial⟩ trivial⟩
       unfold L94_3
       refine ct (ltL_true hi) (bs (listAt_some hx) (bs e1 (ct c1 (bs e2 (cf c2 ?_)))))
       simp only
       rw[nextI (by omega)]
     | true=>
       have he:Ends z l[i]:=hiff.1 ⟨c1,c2⟩
       refine⟨minI s l[i].f4,?_,fun t=>?_⟩
       ·unfold L94_3
        refine ct (ltL_true hi) (bs (listAt_some hx) (bs e1 (ct c1 (bs e2 (ct c2 ?_)))))
        simp only
        rw[nextI (by omega)]
       ·rw[min_lt,hI t,take_next hx]
        constructor
        ·rintro⟨⟨g1,g2⟩,g3⟩
         refine⟨g1,fun a ha hea=>?_⟩
         rcases List.mem_append.1 ha with ha|ha
         ·exact g2 a ha hea
         ·rw[List.mem_singleton]at ha
          subst ha
          exact g3
        ·rintro⟨g1,g2⟩
         exact⟨⟨g1,fun a ha=>g2 a (List.mem_append_left _ ha)⟩,g2 _ (List.mem_append_right _ (List.mem_singleton.2 rfl)) he⟩)
  (fun s hI=>⟨_,by unfold L94_3;exact cf (ltL_false (Nat.le_refl _)) rfl,s,_,_,rfl,by rw[List.take_length]at hI;exact hI⟩) z.f5 (fun t=>by simp)
 have h1:iter (L94_3 l z) (z.f5,0)=some (v,n,b):=h1
 refine⟨v,?_,h2⟩
 unfold T94
 exact bs h1 rfl
theorem t181{l:List S39}(h:Als l)(hl:l.length≤300){es:List Int}(hE:EndsOf l es){i:Nat}{z:S39}{e:Int}(hz:l[i]? = some z)(he:es[i]? = some e)(t:Int):T58 l z t=some (onB z e t):=by
 obtain⟨v,v1,v2⟩:=end_ok h hl (List.mem_of_getElem? hz)
 have h3:=hE.at_ i z e hz he
 unfold T58 onB
 cases neI z.f2 3 with
 | false=>rfl
 | true=>
   cases leI z.f4 t with
   | false=>rfl
   | true=>
     refine ct rfl (ct rfl (bs v1 ?_))
     show some (ltI t v)=some (ltI t e)
     congr 1
     rw[ltI_iff,ltI_iff]
     exact decide_eq_decide.2 ((v2 t).trans (h3 t).symm)
theorem t224{r:S43}(hw:W r)(x y:Int):T110 r x y=some (hasB x y r):=by
 unfold W at hw
 obtain⟨w1,w2,w3,w4,w5,w6⟩:=hw
 have a1:addI .i64 r.f0 r.f2=r.f0+r.f2:=addI_eq (by omega) (by omega)
 have a2:addI .i64 r.f1 r.f3=r.f1+r.f3:=addI_eq (by omega) (by omega)
 have e1:leI x (subI .i64 (r.f0+r.f2) 1)=ltI x (r.f0+r.f2):=by
  rw[subI_eq (by omega) (by omega),leI_iff,ltI_iff]
  exact decide_eq_decide.2 (by omega)
 have e2:leI y (subI .i64 (r.f1+r.f3) 1)=ltI y (r.f1+r.f3):=by
  rw[subI_eq (by omega) (by omega),leI_iff,ltI_iff]
  exact decide_eq_decide.2 (by omega)
 unfold T110 T111 hasB
 rw[a1,a2,T53_eq,T53_eq,e1,e2]
 cases leI r.f0 x<;>cases ltI x (r.f0+r.f2)<;>cases leI r.f1 y<;>rfl
theorem t182{a:S39}(h:RA a)(pk:ByteArray)(x y:Int):T29 a ⟨pk,x,y⟩=some (rcB x y a):=by
 have hf:=h.areas.2
 obtain⟨v,h1,h2⟩:=any_iter (st:=L141_1_2 a.f7 x y) (l:=a.f7) (hasB x y) (by omega) (fun i r hr=>by
  have hi:=(List.getElem?_eq_some_iff.1 hr).1
  unfold L141_1_2
  refine ct (ltL_true hi) (bs (listAt_some hr) (bs (t224 (h.areas.1 r (List.mem_of_getElem? hr)) x y) ?_))
  rw[nextI (by omega)]
  cases hasB x y r<;>rfl) (by unfold L141_1_2;rw[ltL_false (Nat.le_refl _)];rfl)
 unfold T29 T64 T108_1 T141_1
 exact bs (bs (bs h1 (congrArg some h2)) rfl) rfl
def c3(x y:Int):Int:=if x<y then -1 else if y<x then 1 else 0
theorem t135c(x y:Int):T71 x y=some (c3 x y):=t135 x y
theorem t184(a b c d:Int):T61 [a,b] [c,d]=some (if c3 a c≠0 then c3 a c else c3 b d):=by
 have s0:L61_2 [a,b] [c,d] 0=some (if c3 a c≠0 then .inr (.inr (c3 a c))else .inl 1):=by
  unfold L61_2
  refine ct rfl (bs (a:=a) rfl (cf rfl (bs (a:=c) rfl (bs (t135c a c) ?_))))
  by_cases h:c3 a c=0
  ·exact cf (neI_f h) (by rw[if_neg (by simp[h])];rfl)
  ·exact ct (neI_t h) (by rw[if_pos h])
 have s1:L61_2 [a,b] [c,d] 1=some (if c3 b d≠0 then .inr (.inr (c3 b d))else .inl 2):=by
  unfold L61_2
  refine ct rfl (bs (a:=b) rfl (cf rfl (bs (a:=d) rfl (bs (t135c b d) ?_))))
  by_cases h:c3 b d=0
  ·exact cf (neI_f h) (by rw[if_neg (by simp[h])];rfl)
  ·exact ct (neI_t h) (by rw[if_pos h])
 have s2:L61_2 [a,b] [c,d] 2=some (.inr (.inl (2,false))):=rfl
 unfold T61
 by_cases h:c3 a c=0
 ·rw[if_neg (by simp[h])]at s0 ⊢
  by_cases h2:c3 b d=0
  ·rw[if_neg (by simp[h2])]at s1
   refine bs ((iter_inl s0).trans ((iter_inl s1).trans (iter_inr s2))) (si ?_)
   rw[h2]
   exact cf rfl rfl
  ·rw[if_pos h2]at s1
   exact bs ((iter_inl s0).trans (iter_inr s1)) rfl
 ·rw[if_pos h]at s0 ⊢
  exact bs (iter_inr s0) rfl
theorem t183(x y:S39):T60 x y=T101 x y:=by
 have h170:T101 x y=some (if c3 y.f6 x.f6≠0 then c3 y.f6 x.f6 else if c3 y.f4 x.f4≠0 then c3 y.f4 x.f4 else cmpS x.f0 y.f0):=by
  unfold T101
  exact bs (t135 _ _) (bs (t135 _ _) (bs (a:=cmpS x.f0 y.f0) rfl (bs (or_ok _ _ _) rfl)))
 rw[h170]
 unfold T60
 refine bs (t184 _ _ _ _) ?_
 by_cases h:c3 y.f6 x.f6=0
 ·rw[if_neg (by simp[h]),if_neg (by simp[h])]
  by_cases h2:c3 y.f4 x.f4=0
  ·rw[if_neg (by simp[h2])]
   exact cf (neI_f h2) rfl
  ·rw[if_pos h2]
   exact ct (neI_t h2) rfl
 ·rw[if_pos h,if_pos h]
  exact ct (neI_t h) rfl
theorem shown_all{l:List S39}{es:List Int}(h:Als l)(hl:l.length≤300)(hE:EndsOf l es)(pk:ByteArray)(x y t:Int) :
  ∃m,T49 l es ⟨pk,x,y⟩ t=some m∧T26 l ⟨pk,x,y⟩ t=some (keyOf m, !m.isEmpty)∧T25 l ⟨pk,x,y⟩ t=some (m.map (·.f0))∧m.length≤300:=by
 have hes:=hE.len
 obtain⟨m,m1,m2,m3⟩:=ranked_ok (pk:=pk) h hl hes x y t
 obtain⟨r,h1,rfl⟩:=iter_up (st:=L25_3 l ⟨pk,x,y⟩ t) (fun(s:List S39)(i:Nat)=>(s,(i:Int))) l.length
  (fun i s=>s=((l.zip es).take i).filterMap fun q=>if onB q.1 q.2 t&&rcB x y q.1 then some q.1 else none)
  (fun r=>r=((l.length:Int),false,filt l es x y t))
  (fun i s hi hI=>by
   have hx:=List.getElem?_eq_getElem hi
   have hi2:i<es.length:=by omega
   have hy:=List.getElem?_eq_getElem hi2
   have hq:(l.zip es)[i]? = some (l[i],es[i]):=by rw[List.getElem?_zip_eq_some];exact⟨hx,hy⟩
   have hlen:s.length≤l.length:=by
    rw[hI]
    exact Nat.le_trans (List.length_filterMap_le _ _) (by simp;omega)
   have hs':(((l.zip es).take (i+1)).filterMap fun q=>if onB q.1 q.2 t&&rcB x y q.1 then some q.1 else none)=s++(if onB l[i] es[i] t&&rcB x y l[i]then [l[i]]else []):=by
    rw[take_next hq,List.filterMap_append,←hI]
    congr 1
    simp only[List.filterMap_cons,List.filterMap_nil]
    cases (onB l[i] es[i] t&&rcB x y l[i])<;>rfl
   refine⟨_,?_,rfl⟩
   rw[hs']
   unfold L25_3
   refine ct (ltL_true hi) (bs (listAt_some hx) (bs (t181 h hl hE hx hy t) ?_))
   simp only
   rw[nextI (by omega)]
   cases c1:onB l[i] es[i] t with
   | false=>simp
   | true=>
     refine ct rfl (bs (t182 (h.all _ (List.getElem_mem hi)) pk x y) ?_)
     show(bif rcB x y l[i]then _ else _)=_
     cases c2:rcB x y l[i]with
     | false=>simp
     | true=>
       refine ct rfl (bs (appO_eq (by simp only[List.length_cons,List.length_nil];omega) (by simp only[List.length_cons,List.length_nil];omega)) ?_)
       simp)
  (fun s hI=>by
   refine⟨((l.length:Int),false,s),?_,?_⟩
   ·unfold L25_3
    refine cf (ltL_false (Nat.le_refl _)) ?_
    rw[ltL_false (Nat.le_refl _)]
   ·rw[hI]
    unfold filt
    rw[List.take_of_length_le (by simp;omega)]) [] (by simp)
 have h1:iter (L25_3 l ⟨pk,x,y⟩ t) ([],0)=some ((l.length:Int),false,filt l es x y t):=h1
 have hml:m.length≤300:=by
  rw[m3.length_eq]
  exact Nat.le_trans (filt_len l es x y t) hl
 have hsort:sortO (fun x y=>T60 x y) (filt l es x y t)=some m:=by
  rw[show (fun x y=>T60 x y)=fun x y=>T101 x y from funext fun x=>funext fun y=>t183 x y]
  exact m2
 obtain⟨r2,g1,rfl⟩:=iter_up (st:=L25_11 m) (fun(s:List ByteArray)(i:Nat)=>(s,m,(i:Int))) m.length (fun i s=>s=(m.take i).map (·.f0))
  (fun r=>r=((m.length:Int),false,m.map (·.f0),m))
  (fun i s hi hI=>by
   have hx:=List.getElem?_eq_getElem hi
   subst hI
   refine⟨_,?_,rfl⟩
   unfold L25_11
   refine ct (ltL_true hi) (bs (idx_nat hi) (bs (getN_some hx) (bs (appO_big (by omega) (by simp;omega)) ?_)))
   simp only
   rw[nextI (by omega),take_next hx,List.map_append]
   rfl)
  (fun s hI=>by
   subst hI
   refine⟨_,?_,rfl⟩
   unfold L25_11
   rw[List.take_length]
   refine cf (ltL_false (Nat.le_refl _)) ?_
   rw[ltL_false (Nat.le_refl _)]) [] (by simp)
 have g1:iter (L25_11 m) ([],m,0)=some ((m.length:Int),false,m.map (·.f0),m):=g1
 have h145:T25 l ⟨pk,x,y⟩ t=some (m.map (·.f0)):=by
  unfold T25
  exact bs h1 (bs hsort (bs g1 rfl))
 unfold T26
 cases m with
 | nil=>exact⟨[],m1,bs h145 (ct rfl rfl),h145,by simp⟩
 | cons a rest=>exact⟨a::rest,m1,bs h145 (cf (eqI_f (by rw[lenL_eq];simp only[List.length_map,List.length_cons];omega)) (bs (idx_nat (i:=0) (by simp)) (bs (getN_some rfl) rfl))),h145,hml⟩
end Go.Abs.TUS
set_option linter.unusedVariables false
set_option linter.unusedSimpArgs false
set_option maxRecDepth 10000
namespace Go.Abs.TUS
open Go.RowKit Go.Proofs Go.Abs
theorem err3_ok(a b c:Int):T16 [a,b,c]=some (if a≠0 then a else if b≠0 then b else c):=by
 unfold T16
 have st:∀(i:Nat)(x:Int),([a,b,c]:List Int)[i]? = some x→L16_2 [a,b,c] (i:Int)=some (if x≠0 then .inr (.inr x)else .inl ((i+1:Nat):Int)):=by
  intro i x hx
  have hi:i<([a,b,c]:List Int).length:=(List.getElem?_eq_some_iff.1 hx).1
  unfold L16_2
  refine ct (ltL_true hi) (bs (listAt_some hx) ?_)
  by_cases h:x=0
  ·rw[neI_f h,if_neg (by simp[h]),nextI (by simp at hi;omega)]
   rfl
  ·rw[neI_t h,if_pos h]
   rfl
 have en:L16_2 [a,b,c] ((3:Nat):Int)=some (.inr (.inl (3,false))):=rfl
 have s0:=st 0 a rfl
 have s1:=st 1 b rfl
 have s2:=st 2 c rfl
 by_cases ha:a≠0
 ·rw[if_pos ha]at s0 ⊢
  rw[show (0:Int)=((0:Nat):Int)from rfl,iter_inr s0]
  rfl
 ·rw[if_neg ha]at s0 ⊢
  by_cases hb:b≠0
  ·rw[if_pos hb]at s1 ⊢
   rw[show (0:Int)=((0:Nat):Int)from rfl,iter_inl s0,iter_inr s1]
   rfl
  ·rw[if_neg hb]at s1 ⊢
   by_cases hc:c≠0
   ·rw[if_pos hc]at s2
    rw[show (0:Int)=((0:Nat):Int)from rfl,iter_inl s0,iter_inl s1,iter_inr s2]
    rfl
   ·rw[if_neg hc]at s2
    have hc:c=0:=by omega
    rw[show (0:Int)=((0:Nat):Int)from rfl,iter_inl s0,iter_inl s1,iter_inl s2,iter_inr en,hc]
    rfl
theorem T30_eq:T30=some true:=by
 unfold T30
 exact bs rfl (ct rfl rfl)
noncomputable def pF(y:S26):Int:=bif !key y.f0 then 5 else bif outB y.f1 (-100000) 100000 then 1 else bif outB y.f2 (-100000) 100000 then 1 else 0
theorem T21_eq(y:S26)(h:y.f0.size≤1048576):T21 [y]=some (pF y):=by
 have s1:L21_4 [y] 1=some (.inr (.inl (1,false))):=by
  unfold L21_4
  exact cf rfl rfl
 have n0:addI .i64 0 1=1:=by decide
 unfold T21 pF
 refine cf rfl ?_
 cases c0:key y.f0 with
 | false=>
   have s0:L21_4 [y] 0=some (.inr (.inr 5)):=by
    unfold L21_4
    exact ct rfl (bs (a:=y) rfl (bs (T55_eq _ h) (ct (by rw[c0];rfl) rfl)))
   exact bs (iter_inr s0) rfl
 | true=>
 cases c1:outB y.f1 (-100000) 100000 with
 | true=>
   have s0:L21_4 [y] 0=some (.inr (.inr 1)):=by
    unfold L21_4
    exact ct rfl (bs (a:=y) rfl (bs (T55_eq _ h) (cf (by rw[c0];rfl) (bs (T56_eq _ _ _) (ct c1 rfl)))))
   exact bs (iter_inr s0) rfl
 | false=>
 cases c2:outB y.f2 (-100000) 100000 with
 | true=>
   have s0:L21_4 [y] 0=some (.inr (.inr 1)):=by
    unfold L21_4
    exact ct rfl (bs (a:=y) rfl (bs (T55_eq _ h) (cf (by rw[c0];rfl) (bs (T56_eq _ _ _) (cf c1 (bs (T56_eq _ _ _) (ct c2 rfl)))))))
   exact bs (iter_inr s0) rfl
 | false=>
   have s0:L21_4 [y] 0=some (.inl 1):=by
    unfold L21_4
    refine ct rfl (bs (a:=y) rfl (bs (T55_eq _ h) (cf (by rw[c0];rfl) (bs (T56_eq _ _ _) (cf c1 (bs (T56_eq _ _ _) (cf c2 (cf rfl ?_))))))))
    rw[n0]
   exact bs ((iter_inl s0).trans (iter_inr s1)) rfl
theorem not_le_empty{s:ByteArray}(h:s.size≠0):(ltS s (ByteArray.mk #[])||eqS s (ByteArray.mk #[]))=false:=leS_empty h
theorem T18_eq(y:S26)(h:y.f0.size≤1048576):T18 [y]=some (pF y):=by
 have s1:L18_5 [y] (y.f0,1)=some (.inr (.inl (y.f0,1,false))):=by
  unfold L18_5
  exact cf rfl rfl
 have n0:addI .i64 0 1=1:=by decide
 unfold T18 pF
 refine cf rfl ?_
 cases c0:key y.f0 with
 | false=>
   have s0:L18_5 [y] ((ByteArray.mk #[]),0)=some (.inr (.inr 5)):=by
    unfold L18_5
    exact ct rfl (bs (a:=y) rfl (bs (T52_eq _ h) (ct (by rw[c0];rfl) rfl)))
   exact bs (iter_inr s0) rfl
 | true=>
 cases c1:outB y.f1 (-100000) 100000 with
 | true=>
   have s0:L18_5 [y] ((ByteArray.mk #[]),0)=some (.inr (.inr 1)):=by
    unfold L18_5
    exact ct rfl (bs (a:=y) rfl (bs (T52_eq _ h) (cf (by rw[c0];rfl) (bs (T94_out _ _ _) (ct (by rw[c1];rfl) rfl)))))
   exact bs (iter_inr s0) rfl
 | false=>
 cases c2:outB y.f2 (-100000) 100000 with
 | true=>
   have s0:L18_5 [y] ((ByteArray.mk #[]),0)=some (.inr (.inr 1)):=by
    unfold L18_5
    exact ct rfl (bs (a:=y) rfl (bs (T52_eq _ h) (cf (by rw[c0];rfl) (bs (T94_out _ _ _) (cf (by rw[c1];rfl) (bs (T94_out _ _ _) (ct (by rw[c2];rfl) rfl)))))))
   exact bs (iter_inr s0) rfl
 | false=>
   have s0:L18_5 [y] ((ByteArray.mk #[]),0)=some (.inl (y.f0,1)):=by
    unfold L18_5
    refine ct rfl (bs (a:=y) rfl (bs (T52_eq _ h) (cf (by rw[c0];rfl) (bs (T94_out _ _ _) (cf (by rw[c1];rfl) (bs (T94_out _ _ _) (cf (by rw[c2];rfl) (cf (not_le_empty (key_pos c0)) ?_))))))))
    simp only
    rw[n0]
   exact bs ((iter_inl s0).trans (iter_inr s1)) rfl
theorem T22_self(l:List S26)(hl:l.length≤1048576):T9 l l=some true:=by
 obtain⟨r,h1,y,rfl⟩:=iter_up (st:=L9_4 l l) (fun(_:Unit) i=>(i:Int)) l.length (fun _ _=>True) (fun r=>∃y,r= .inl y)
  (fun i _ hi _=>by
   have hx:=List.getElem?_eq_getElem hi
   refine⟨(),?_,trivial⟩
   unfold L9_4
   refine ct (ltL_true hi) (bs (listAt_some hx) (bs (listAt_some hx) (cf ?_ ?_)))
   ·simp only[allB,eqI_self,eqB_self,Bool.and_true,Bool.not_true]
   ·rw[nextI (by omega)])
  (fun _ _=>⟨_,by unfold L9_4;exact cf (ltL_false (Nat.le_refl _)) rfl,_,rfl⟩) () trivial
 have h1:iter (L9_4 l l) 0=some (.inl y):=h1
 unfold T9
 exact cf (neI_no _) (bs h1 rfl)
theorem T46_eq(l:List S39){v:Int}(hv:T99 l=some v)(y:S26)(h:y.f0.size≤1048576):T46 l [y]=some (if v≠0 then v else pF y):=by
 unfold T46
 refine bs hv ?_
 by_cases h0:v=0
 ·rw[if_neg (by simp[h0])]
  exact cf (neI_f h0) (bs (T21_eq y h) rfl)
 ·rw[if_pos h0]
  exact ct (neI_t h0) rfl
end Go.Abs.TUS
set_option linter.unusedVariables false
set_option linter.unusedSimpArgs false
set_option maxRecDepth 10000
namespace Go.Abs.TUS
open Go.RowKit Go.Proofs Go.Abs
noncomputable def posF(_:Nat)(last:ByteArray)(y:S26):ByteArray⊕Int:=bif neI (pF y) 0 then .inr (pF y)else bif (ltS y.f0 last||eqS y.f0 last)then .inr 7 else .inl y.f0
theorem pF_key{y:S26}(h:pF y=0):key y.f0=true∧outB y.f1 (-100000) 100000=false∧outB y.f2 (-100000) 100000=false:=by
 unfold pF at h
 cases c0:key y.f0 with
 | false=>rw[c0]at h;cases h
 | true=>
 cases c1:outB y.f1 (-100000) 100000 with
 | true=>rw[c0,c1]at h;cases h
 | false=>
 cases c2:outB y.f2 (-100000) 100000 with
 | true=>rw[c0,c1,c2]at h;cases h
 | false=>exact⟨rfl,rfl,rfl⟩
theorem pos68(p:List S26)(hl:p.length≤1048576)(hs:∀y∈p,y.f0.size≤1048576):iter (L21_4 p) 0=some (Sum.elim (fun _=> .inl ((p.length:Int),false)) (fun e=> .inr e) (wp posF 0 (ByteArray.mk #[]) p)):=by
 refine iter_wp (st:=L21_4 p) (fun(_:ByteArray) i=>(i:Int)) _ _ p posF (fun i last=>(i=0∧last=ByteArray.mk #[])∨∃q,0<i∧p[i-1]? = some q∧last=q.f0) (fun i last y hy hI=>?_) (fun _ _=>by unfold L21_4;rw[ltL_false (Nat.le_refl _)];rfl) _ (.inl ⟨rfl,rfl⟩)
 have hi:=(List.getElem?_eq_some_iff.1 hy).1
 have hz:=hs y (List.mem_of_getElem? hy)
 have hn:=nextI (i:=i) (by omega)
 refine⟨?_,fun s' h=>?_⟩
 ·unfold L21_4
  rw[ltL_true hi,listAt_some hy]
  simp only[cond_true,Option.bind_some,T55_eq _ hz,T56_eq,hn]
  unfold posF
  by_cases h0:pF y=0
  ·obtain⟨k0,k1,k2⟩:=pF_key h0
   rw[neI_f h0,k0,k1,k2]
   simp only[Bool.not_true,cond_false]
   rcases hI with⟨rfl,rfl⟩|⟨q,hz2,hq,rfl⟩
   ·rw[not_le_empty (key_pos k0)]
    rfl
   ·rw[show ltI 0 (i:Int)=true from ltI_t (by omega),cond_true,prevI hz2 (by omega),listAt_some hq,Option.bind_some]
    cases (ltS y.f0 q.f0||eqS y.f0 q.f0)<;>rfl
  ·rw[neI_t h0]
   unfold pF at h0 ⊢
   cases c0:key y.f0 with
   | false=>rfl
   | true=>
   cases c1:outB y.f1 (-100000) 100000 with
   | true=>rfl
   | false=>
   cases c2:outB y.f2 (-100000) 100000 with
   | true=>rfl
   | false=>rw[c0,c1,c2]at h0;exact absurd rfl h0
 ·have hp:s'=y.f0:=by
   unfold posF at h
   by_cases h0:pF y=0
   ·rw[neI_f h0,cond_false]at h
    cases c:(ltS y.f0 last||eqS y.f0 last)with
    | true=>rw[c]at h;cases h
    | false=>rw[c]at h;cases h;rfl
   ·rw[neI_t h0]at h;cases h
  exact .inr ⟨y,by omega,by simpa using hy,hp⟩
theorem pos57(p:List S26)(hl:p.length≤1048576)(hs:∀y∈p,y.f0.size≤1048576):∃last:Nat,iter (L18_5 p) ((ByteArray.mk #[]),0)=some (Sum.elim (fun last=> .inl (last,(p.length:Int),false)) (fun e=> .inr e) (wp posF 0 (ByteArray.mk #[]) p))∧last=0:=by
 refine⟨0,?_,rfl⟩
 refine iter_wp (st:=L18_5 p) (fun(last:ByteArray) i=>(last,(i:Int))) (fun last=> .inl (last,(p.length:Int),false)) _ p posF (fun _ _=>True) (fun i last y hy hI=>⟨?_,fun _ _=>trivial⟩) (fun _ _=>by unfold L18_5;rw[ltL_false (Nat.le_refl _)];rfl) _ trivial
 have hi:=(List.getElem?_eq_some_iff.1 hy).1
 have hz:=hs y (List.mem_of_getElem? hy)
 have hn:=nextI (i:=i) (by omega)
 unfold L18_5
 rw[ltL_true hi,listAt_some hy]
 simp only[cond_true,Option.bind_some,T52_eq _ hz,T94_out,hn,Bool.not_not]
 unfold posF
 by_cases h0:pF y=0
 ·obtain⟨k0,k1,k2⟩:=pF_key h0
  rw[neI_f h0,k0,k1,k2]
  simp only[Bool.not_true,cond_false]
  cases (ltS y.f0 last||eqS y.f0 last)<;>rfl
 ·rw[neI_t h0]
  unfold pF at h0 ⊢
  cases c0:key y.f0 with
  | false=>rfl
  | true=>
  cases c1:outB y.f1 (-100000) 100000 with
  | true=>rfl
  | false=>
  cases c2:outB y.f2 (-100000) 100000 with
  | true=>rfl
  | false=>rw[c0,c1,c2]at h0;exact absurd rfl h0
theorem wp_pos:∀(p:List S26)(i:Nat)(last:ByteArray),(∀ s,wp posF i last p= .inl s→∀y∈p,pF y=0)∧∀r,wp posF i last p= .inr r→r≠0
 | [],i,last=>⟨fun s h y hy=>(by cases hy),fun r h=>(by cases h)⟩
 | y::p,i,last=>by
   unfold wp
   by_cases h0:pF y=0
   ·cases hf:posF i last y with
    | inl s'=>
      obtain⟨h1,h2⟩:=wp_pos p (i+1) s'
      refine⟨fun s h z hz=>?_,h2⟩
      rcases List.mem_cons.1 hz with rfl|hz
      ·exact h0
      ·exact h1 s h z hz
    | inr r=>
      refine⟨fun s h=>(by cases h),fun r' h=>?_⟩
      cases h
      unfold posF at hf
      rw[neI_f h0,cond_false]at hf
      cases c:(ltS y.f0 last||eqS y.f0 last)with
      | true=>rw[c]at hf;cases hf;decide
      | false=>rw[c]at hf;cases hf
   ·have hf:posF i last y= .inr (pF y):=by unfold posF;rw[neI_t h0];rfl
    rw[hf]
    exact⟨fun s h=>(by cases h),fun r h=>(by cases h;exact h0)⟩
theorem posts_ok(p:List S26)(hl:p.length≤1048576)(hs:∀y∈p,y.f0.size≤1048576):∃v,T21 p=some v∧T18 p=some v∧(v=0→p.length≤500∧∀y∈p,pF y=0):=by
 obtain⟨_,h57,_⟩:=pos57 p hl hs
 unfold T21 T18
 rw[pos68 p hl hs,h57]
 cases h0:ltI 500 (lenL p)with
 | true=>exact⟨2,rfl,rfl,fun c=>by cases c⟩
 | false=>
 have hlen:p.length≤500:=by
  rw[ltI_iff,lenL_eq,decide_eq_false_iff_not]at h0
  omega
 simp only[cond_false,Option.bind_some]
 obtain⟨w1,w2⟩:=wp_pos p 0 (ByteArray.mk #[])
 cases hw:wp posF 0 (ByteArray.mk #[]) p with
 | inr e=>exact⟨e,rfl,rfl,fun c=>absurd c (w2 e hw)⟩
 | inl s=>exact⟨0,rfl,rfl,fun _=>⟨hlen,w1 s hw⟩⟩
end Go.Abs.TUS
set_option linter.unusedVariables false
set_option linter.unusedSimpArgs false
set_option maxRecDepth 10000
namespace Go.Abs.TUS
open Go.RowKit Go.Proofs Go.Abs
theorem err2_ok(a b:Int):T16 [a,b]=some (if a≠0 then a else b):=by
 unfold T16
 have st:∀(i:Nat)(x:Int),([a,b]:List Int)[i]? = some x→L16_2 [a,b] (i:Int)=some (if x≠0 then .inr (.inr x)else .inl ((i+1:Nat):Int)):=by
  intro i x hx
  have hi:i<([a,b]:List Int).length:=(List.getElem?_eq_some_iff.1 hx).1
  unfold L16_2
  refine ct (ltL_true hi) (bs (listAt_some hx) ?_)
  by_cases h:x=0
  ·rw[neI_f h,if_neg (by simp[h]),nextI (by simp at hi;omega)]
   rfl
  ·rw[neI_t h,if_pos h]
   rfl
 have en:L16_2 [a,b] ((2:Nat):Int)=some (.inr (.inl (2,false))):=rfl
 have s0:=st 0 a rfl
 have s1:=st 1 b rfl
 by_cases ha:a≠0
 ·rw[if_pos ha]at s0 ⊢
  rw[show (0:Int)=((0:Nat):Int)from rfl,iter_inr s0]
  rfl
 ·rw[if_neg ha]at s0 ⊢
  by_cases hb:b≠0
  ·rw[if_pos hb]at s1
   rw[show (0:Int)=((0:Nat):Int)from rfl,iter_inl s0,iter_inr s1]
   rfl
  ·rw[if_neg hb]at s1
   have hb:b=0:=by omega
   rw[show (0:Int)=((0:Nat):Int)from rfl,iter_inl s0,iter_inl s1,iter_inr en,hb]
   rfl
noncomputable def mF(a:Int):Int:=bif inT a then 0 else 1
theorem T47_eq(a:Int):T47 a=some (mF a):=by
 unfold T47 mF
 refine bs (T75_eq a) ?_
 cases inT a<;>rfl
theorem T19_eq(a:Int):T19 a=some (mF a):=by
 unfold T19 mF
 refine bs (T54_eq a) ?_
 cases inT a<;>rfl
theorem self_loop{α:Type}{st:Int→Option (Int⊕((Int×Bool)⊕Unit))}(l:List α)(hl:l.length≤1048576)(hs:∀(i:Nat),i<l.length→st (i:Int)=some (.inl ((i+1:Nat):Int)))(he:∃y,st (l.length:Int)=some (.inr (.inl y))):∃y,iter st 0=some (.inl y):=by
 obtain⟨r,h1,y,rfl⟩:=iter_up (st:=st) (fun(_:Unit) i=>(i:Int)) l.length (fun _ _=>True) (fun r=>∃y,r= .inl y) (fun i _ hi _=>⟨(),hs i hi,trivial⟩) (fun _ _=>by
  obtain⟨y,hy⟩:=he
  exact⟨_,hy,y,rfl⟩) () trivial
 exact⟨y,h1⟩
theorem T22_pairs(l:List S55)(hl:l.length≤1048576):T22 l l=some true:=by
 obtain⟨y,h1⟩:=self_loop (st:=L22_4 l l) l hl (fun i hi=>by
  have hx:=List.getElem?_eq_getElem hi
  unfold L22_4
  refine ct (ltL_true hi) (bs (listAt_some hx) (bs (listAt_some hx) (cf ?_ ?_)))
  ·simp only[allB,eqB_self,Bool.and_true,Bool.not_true]
  ·rw[nextI (by omega)]) ⟨_,by unfold L22_4;exact cf (ltL_false (Nat.le_refl _)) rfl⟩
 unfold T22
 exact cf (neI_no _) (bs h1 rfl)
theorem T27_self(l:List ByteArray)(hl:l.length≤1048576):T27 l l=some true:=by
 obtain⟨y,h1⟩:=self_loop (st:=L27_4 l l) l hl (fun i hi=>by
  have hx:=List.getElem?_eq_getElem hi
  unfold L27_4
  refine ct (ltL_true hi) (bs (listAt_some hx) (bs (listAt_some hx) (cf ?_ ?_)))
  ·rw[eqS_self];rfl
  ·rw[nextI (by omega)]) ⟨_,by unfold L27_4;exact cf (ltL_false (Nat.le_refl _)) rfl⟩
 unfold T27
 exact cf (neI_no _) (bs h1 rfl)
noncomputable def cov1(l:List S39)(es:List Int)(t:Int)(y:S26):Option S55:=match (T49 l es y t).getD []with
 | []=>none
 | a::_=>some ⟨y.f0,a.f0⟩
theorem cov_ok{l:List S39}{es:List Int}(h:Als l)(hl:l.length≤300)(hE:EndsOf l es)(p:List S26)(hp:p.length≤500)(t:Int) :
  ∃out,iter (L15_10 l p t es) ([],0)=some ((p.length:Int),false,out)∧iter (L20_3 l p t) ([],0)=some ((p.length:Int),false,out)∧out.length≤500:=by
 have hlen:∀i,((p.take i).filterMap (cov1 l es t)).length≤500:=fun i=>Nat.le_trans (List.length_filterMap_le _ _) (by simp;omega)
 obtain⟨r,h1,rfl⟩:=iter_up (st:=L15_10 l p t es) (fun(s:List S55)(i:Nat)=>(s,(i:Int))) p.length (fun i s=>s=(p.take i).filterMap (cov1 l es t)) (fun r=>r=((p.length:Int),false,p.filterMap (cov1 l es t)))
  (fun i s hi hI=>by
   have hx:=List.getElem?_eq_getElem hi
   obtain⟨m,m1,m2,m3,m4⟩:=shown_all h hl hE p[i].f0 p[i].f1 p[i].f2 t
   have m1:T49 l es p[i] t=some m:=m1
   have hs:=hlen i
   rw[← hI]at hs
   refine⟨_,?_,rfl⟩
   rw[take_next hx,List.filterMap_append,←hI]
   unfold L15_10
   refine ct (ltL_true hi) (bs (listAt_some hx) (bs m1 ?_))
   simp only
   rw[nextI (by omega)]
   simp only[List.filterMap_cons,List.filterMap_nil,cov1,m1,Option.getD_some]
   cases m with
   | nil=>exact cf rfl (by simp)
   | cons a rest=>exact ct (ltI_t (by rw[lenL_eq];simp only[List.length_cons];omega)) (bs (idx_nat (i:=0) (by simp)) (bs (getN_some rfl) (bs (appO_big (by omega) (by simp only[List.length_cons,List.length_nil];omega)) rfl))))
  (fun s hI=>⟨_,by unfold L15_10;exact cf (ltL_false (Nat.le_refl _)) rfl,by simp only;rw[ltL_false (Nat.le_refl _),hI,List.take_length]⟩) [] (by simp)
 obtain⟨r,h2,rfl⟩:=iter_up (st:=L20_3 l p t) (fun(s:List S55)(i:Nat)=>(s,(i:Int))) p.length (fun i s=>s=(p.take i).filterMap (cov1 l es t)) (fun r=>r=((p.length:Int),false,p.filterMap (cov1 l es t)))
  (fun i s hi hI=>by
   have hx:=List.getElem?_eq_getElem hi
   obtain⟨m,m1,m2,m3,m4⟩:=shown_all h hl hE p[i].f0 p[i].f1 p[i].f2 t
   have m1:T49 l es p[i] t=some m:=m1
   have m2:T26 l p[i] t=some (keyOf m, !m.isEmpty):=m2
   have hs:=hlen i
   rw[← hI]at hs
   refine⟨_,?_,rfl⟩
   rw[take_next hx,List.filterMap_append,←hI]
   unfold L20_3
   refine ct (ltL_true hi) (bs (listAt_some hx) (bs m2 ?_))
   simp only
   rw[nextI (by omega)]
   simp only[List.filterMap_cons,List.filterMap_nil,cov1,m1,Option.getD_some]
   cases m with
   | nil=>exact cf rfl (by simp)
   | cons a rest=>exact ct rfl (bs (appO_big (by omega) (by simp only[List.length_cons,List.length_nil];omega)) rfl))
  (fun s hI=>⟨_,by unfold L20_3;exact cf (ltL_false (Nat.le_refl _)) rfl,by simp only;rw[ltL_false (Nat.le_refl _),hI,List.take_length]⟩) [] (by simp)
 exact⟨_,h1,h2,by have:=hlen p.length;rwa[List.take_length]at this⟩
theorem names_ok(m:List S39)(hm:m.length≤300):iter (L23_6 m) ([],m,0)=some ((m.length:Int),false,m.map (·.f0),m):=by
 obtain⟨r,h1,rfl⟩:=iter_up (st:=L23_6 m) (fun(s:List ByteArray)(i:Nat)=>(s,m,(i:Int))) m.length (fun i s=>s=(m.take i).map (·.f0)) (fun r=>r=((m.length:Int),false,m.map (·.f0),m))
  (fun i s hi hI=>by
   have hx:=List.getElem?_eq_getElem hi
   subst hI
   refine⟨_,?_,rfl⟩
   unfold L23_6
   refine ct (ltL_true hi) (bs (idx_nat hi) (bs (getN_some hx) (bs (appO_big (by omega) (by simp;omega)) ?_)))
   simp only
   rw[nextI (by omega),take_next hx,List.map_append]
   rfl)
  (fun s hI=>by
   subst hI
   refine⟨_,?_,rfl⟩
   unfold L23_6
   rw[List.take_length]
   refine cf (ltL_false (Nat.le_refl _)) ?_
   rw[ltL_false (Nat.le_refl _)]) [] (by simp)
 exact h1
def e3(a b c:Int):Int:=if a≠0 then a else if b≠0 then b else c
theorem T57_eq(l:List S39){v:Int}(hv:T99 l=some v)(y:S26)(h:y.f0.size≤1048576)(t:Int):T57 l y t=some (e3 v (pF y) (mF t)):=by
 unfold T57 e3
 refine bs (T46_eq l hv y h) ?_
 by_cases h0:v=0
 ·rw[if_neg (by simp[h0]),if_neg (by simp[h0])]
  by_cases h1:pF y=0
  ·rw[if_neg (by simp[h1])]
   exact cf (neI_f h1) (bs (T47_eq t) rfl)
  ·rw[if_pos h1]
   exact ct (neI_t h1) rfl
 ·rw[if_pos h0,if_pos h0]
  exact ct (neI_t h0) rfl
theorem reach_loop(p0:List S39)(p1:List S26)(p2 z0:Int)(hl:p0.length≤1048576)(hs:∀x∈p0,ok39 1048576 x)(y:S26)(hy:y.f0.size≤1048576):∃q,iter (L7_22 p0 p1 p2 z0 y) 0=some (.inl q):=
 self_loop (st:=L7_22 p0 p1 p2 z0 y) p0 hl (fun i hi=>by
  have hx:=List.getElem?_eq_getElem hi
  have hk:=hs _ (List.getElem_mem hi)
  obtain⟨v,v1,v2,v3⟩:=lists_ok [p0[i]] (by simp) (fun x hx=>by rw[List.mem_singleton]at hx;rw[hx];exact hk)
  have e2:=err2_ok v (pF y)
  have h46:=T46_eq [p0[i]] v1 y hy
  unfold L7_22
  by_cases h0:(if v≠0 then v else pF y)=0
  ·have hv:v=0:=by
    by_cases c:v=0
    ·exact c
    ·rw[if_pos c]at h0;exact absurd h0 c
   have hA:RA p0[i]:=(als_mk (v3 hv).2.1 (v3 hv).2.2).all _ (List.mem_singleton.2 rfl)
   have q1:T63 p0[i] y=some (rcB y.f1 y.f2 p0[i]):=t88_ok (pk:=y.f0) (x:=y.f1) (y:=y.f2) hA
   have q2:T29 p0[i] y=some (rcB y.f1 y.f2 p0[i]):=t182 hA y.f0 y.f1 y.f2
   have h28:T28 p0[i] y=some (rcB y.f1 y.f2 p0[i],0):=by
    unfold T28
    exact bs h46 (cf (neI_f h0) (bs q1 rfl))
   refine ct (ltL_true hi) (bs (listAt_some hx) (bs h28 (bs v2 (bs (T18_eq y hy) (bs e2 ?_)))))
   rw[h0]
   refine cf (neI_no 0) (ct (eqI_t rfl) (bs q2 (cf (by cases rcB y.f1 y.f2 p0[i]<;>rfl) ?_)))
   rw[nextI (by omega)]
  ·have h28:T28 p0[i] y=some (false,if v≠0 then v else pF y):=by
    unfold T28
    exact bs h46 (ct (neI_t h0) rfl)
   refine ct (ltL_true hi) (bs (listAt_some hx) (bs h28 (bs v2 (bs (T18_eq y hy) (bs e2 ?_)))))
   refine cf (neI_no _) (cf (eqI_f h0) (cf rfl ?_))
   rw[nextI (by omega)]) ⟨_,by unfold L7_22;exact cf (ltL_false (Nat.le_refl _)) rfl⟩
theorem spots_loop(p0:List S39)(p1:List S26)(p2:Int)(hl:p0.length≤1048576)(hs:∀x∈p0,ok39 1048576 x)(hp:p1.length≤1048576)(ht:∀y∈p1,y.f0.size≤1048576):∃q,iter (L7_9 p0 p1 p2) 0=some (.inl q):=
 self_loop (st:=L7_9 p0 p1 p2) p1 hp (fun i hi=>by
  have hx:=List.getElem?_eq_getElem hi
  have hy:=ht _ (List.getElem_mem hi)
  obtain⟨v,v1,v2,v3⟩:=lists_ok p0 hl hs
  have h57:=T57_eq p0 v1 p1[i] hy p2
  have he:T16 [v,pF p1[i],mF p2]=some (e3 v (pF p1[i]) (mF p2)):=err3_ok _ _ _
  obtain⟨q1,r1⟩:=reach_loop p0 p1 p2 (i:Int) hl hs p1[i] hy
  have r2:iter (L7_22_v1 p0 p1 p2 (i:Int) p1[i]) 0=some (.inl q1):=r1
  by_cases h0:e3 v (pF p1[i]) (mF p2)=0
  ·have hv:v=0:=by
    unfold e3 at h0
    by_cases c:v=0
    ·exact c
    ·rw[if_pos c]at h0;exact absurd h0 c
   obtain⟨n1,n2,n3⟩:=v3 hv
   have hA:=als_mk n2 n3
   obtain⟨es,g1,hE⟩:=ends_ok hA n1
   obtain⟨m,m1,m2,m3,m4⟩:=shown_all hA n1 hE p1[i].f0 p1[i].f1 p1[i].f2 p2
   have m1:T49 p0 es p1[i] p2=some m:=m1
   have m2:T26 p0 p1[i] p2=some (keyOf m, !m.isEmpty):=m2
   have m3:T25 p0 p1[i] p2=some (m.map (·.f0)):=m3
   have k1:T23 p0 p1[i] p2=some (m.map (·.f0),0):=by
    unfold T23
    exact bs h57 (cf (neI_f h0) (bs g1 (bs m1 (bs (names_ok m m4) rfl))))
   have k2:T24 p0 p1[i] p2=some (keyOf m, !m.isEmpty,0):=by
    unfold T24
    refine bs h57 (cf (neI_f h0) (bs g1 (bs m1 ?_)))
    cases m with
    | nil=>exact ct rfl rfl
    | cons a rest=>exact cf (eqI_f (by rw[lenL_eq];simp only[List.length_cons];omega)) (bs (idx_nat (i:=0) (by simp)) (bs (getN_some rfl) rfl))
   unfold L7_9
   refine ct (ltL_true hi) (bs (listAt_some hx) (bs k1 (bs k2 (bs v2 (bs (T18_eq _ hy) (bs (T19_eq p2) (bs he ?_)))))))
   rw[h0]
   refine ct (eqI_t rfl) (bs m3 (bs m2 (cf (neI_no 0) (bs (T27_self _ (by simp;omega)) (cf rfl (cf (neI_no 0) (cf (by simp only;rw[eqS_self];rfl) (cf (by cases m.isEmpty<;>rfl) (bs r1 ?_)))))))))
   show some (Sum.inl _)=_
   rw[nextI (by omega)]
  ·have k1:T23 p0 p1[i] p2=some ([],e3 v (pF p1[i]) (mF p2)):=by
    unfold T23
    exact bs h57 (ct (neI_t h0) rfl)
   have k2:T24 p0 p1[i] p2=some ((ByteArray.mk #[]),false,e3 v (pF p1[i]) (mF p2)):=by
    unfold T24
    exact bs h57 (ct (neI_t h0) rfl)
   unfold L7_9
   refine ct (ltL_true hi) (bs (listAt_some hx) (bs k1 (bs k2 (bs v2 (bs (T18_eq _ hy) (bs (T19_eq p2) (bs he ?_)))))))
   refine cf (eqI_f h0) (cf (neI_no _) (bs (T27_self [] (by simp)) (cf rfl (cf (neI_no _) (cf (by simp only;rw[eqS_self];rfl) (cf rfl (bs r2 ?_)))))))
   show some (Sum.inl _)=_
   rw[nextI (by omega)]) ⟨_,by unfold L7_9;exact cf (ltL_false (Nat.le_refl _)) rfl⟩
theorem T7_eq(p0:List S39)(p1:List S26)(p2:Int)(hl:p0.length≤1048576)(hs:∀x∈p0,ok39 1048576 x)(hp:p1.length≤1048576)(ht:∀y∈p1,y.f0.size≤1048576):T7 p0 p1 p2=some true:=by
 obtain⟨v,v1,v2,v3⟩:=lists_ok p0 hl hs
 obtain⟨w,w1,w2,w3⟩:=posts_ok p1 hp ht
 have he:T16 [v,w,mF p2]=some (e3 v w (mF p2)):=err3_ok _ _ _
 obtain⟨q,r1⟩:=spots_loop p0 p1 p2 hl hs hp ht
 have r2:iter (L7_9_v1 p0 p1 p2) 0=some (.inl q):=r1
 have h46:T46 p0 p1=some (if v≠0 then v else w):=by
  unfold T46
  refine bs v1 ?_
  by_cases h0:v=0
  ·rw[if_neg (by simp[h0])]
   exact cf (neI_f h0) (bs w1 rfl)
  ·rw[if_pos h0]
   exact ct (neI_t h0) rfl
 have h15:∃out,T15 p0 p1 p2=some (out,e3 v w (mF p2))∧out.length≤500∧((e3 v w (mF p2)=0∧T20 p0 p1 p2=some out)∨(e3 v w (mF p2)≠0∧out=[])):=by
  unfold e3
  by_cases h0:v=0
  ·rw[if_neg (by simp[h0])]at h46 ⊢
   by_cases h1:w=0
   ·rw[if_neg (by simp[h1])]
    by_cases h2:mF p2=0
    ·obtain⟨n1,n2,n3⟩:=v3 h0
     have hA:=als_mk n2 n3
     obtain⟨es,g1,hE⟩:=ends_ok hA n1
     obtain⟨out,o1,o2,o3⟩:=cov_ok hA n1 hE p1 (w3 h1).1 p2
     refine⟨out,?_,o3,.inl ⟨h2,?_⟩⟩
     ·rw[h2]
      unfold T15
      exact bs h46 (cf (neI_f h1) (bs (T47_eq p2) (cf (neI_f h2) (bs g1 (bs o1 rfl)))))
     ·unfold T20
      exact bs o2 rfl
    ·refine⟨[],?_,by simp,.inr ⟨h2,rfl⟩⟩
     unfold T15
     exact bs h46 (cf (neI_f h1) (bs (T47_eq p2) (ct (neI_t h2) rfl)))
   ·rw[if_pos h1]
    refine⟨[],?_,by simp,.inr ⟨h1,rfl⟩⟩
    unfold T15
    exact bs h46 (ct (neI_t h1) rfl)
  ·rw[if_pos h0]at h46 ⊢
   refine⟨[],?_,by simp,.inr ⟨h0,rfl⟩⟩
   unfold T15
   exact bs h46 (ct (neI_t h0) rfl)
 obtain⟨out,o1,o2,o3⟩:=h15
 unfold T7
 refine bs o1 (bs v2 (bs w2 (bs (T19_eq p2) (bs he ?_))))
 rcases o3 with⟨h0,o3⟩|⟨h0,rfl⟩
 ·refine ct (eqI_t h0) (bs o3 (bs w1 (bs w2 (cf (neI_no w) (cf (neI_no _) (bs (T22_pairs out (by omega)) (cf rfl (bs r1 ?_))))))))
  exact si (bs T30_eq rfl)
 ·refine cf (eqI_f h0) (bs w1 (bs w2 (cf (neI_no w) (cf (neI_no _) (bs (T22_pairs [] (by simp)) (cf rfl (bs r2 ?_)))))))
  exact si (bs T30_eq rfl)
theorem plain(p0:(List S39))(p1:(List S26))(p2:Int)(h0:(p0.length≤1048576∧∀x∈p0,ok39 1048576 x))(h1:(p1.length≤1048576∧∀x∈p1,ok26 1048576 x))(h2:okI p2):T3 p0 p1 p2=some true:=by
 have s0:T8 p0 p0=some true:=by unfold T8;exact bs (T53_self p0 h0.1 h0.2) rfl
 have hp:=h1.1
 unfold T3
 exact bs (T5_eq p0 h0.1 h0.2) (bs (appO_big (by omega) (by simp only[List.length_nil];omega)) (bs (T7_eq p0 p1 p2 h0.1 h0.2 h1.1 (fun y hy=>(h1.2 y hy).1)) (ct rfl (bs s0 (ct rfl (bs (T22_self p1 h1.1) rfl))))))
end Go.Abs.TUS
