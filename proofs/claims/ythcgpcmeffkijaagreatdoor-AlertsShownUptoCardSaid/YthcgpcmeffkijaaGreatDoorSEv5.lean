import Derived.Test.YthcgpcmeffkijaaGreatDoorSEv4
import Derived.Lib.Bytealg
set_option linter.unusedVariables false
set_option linter.unusedSimpArgs false
namespace Go.Abs
open Go.RowKit
def idxB(s:ByteArray)(c:Int):Int:=Lib.indexByte s.data.toList c.toNat.toUInt8
def cmpS(a b:ByteArray):Int:=Lib.compareBytes a.data.toList b.data.toList
abbrev LeafF:=Callee→List AV→Option AV
def leafIdx:LeafF:=fun _ args=>match args with
 | [.str s,.int .u8 c]=>some (.int .i64 (idxB s c))
 | _=>none
def leafCmp:LeafF:=fun _ args=>match args with
 | [.str a,.str b]=>some (.int .i64 (cmpS a b))
 | _=>none
def leafClone(P:Program)(e k b:Nat):LeafF:=fun _ args=>match args with
 | [.sl xs]=>if xs.all (elemOk P e k)=true∧xs.length≤maxLen∧xs.length*b≤140737488355328 then some (.fr e k xs)else none
 | _=>none
theorem clone_leaf{P:Program}{e k b:Nat}{α:Type}(f:α→AV)(C:Callee)(l:List α)(hf:∀x,elemOk P e k (f x)=true):leafClone P e k b C [.sl (l.map f)]=(appO b [] l).map fun l=>AV.fr e k (l.map f):=by
 have hall:(l.map f).all (elemOk P e k)=true:=List.all_eq_true.2 fun z hz=>by
  obtain⟨x,_,rfl⟩:=List.mem_map.1 hz
  exact hf x
 unfold leafClone appO
 simp only[hall,List.length_map,List.length_nil,Nat.zero_add,List.nil_append,true_and]
 split<;>rfl
theorem callA_leaf{P:Program}{cfg:Cfg}{f:Nat}{L:LeafF}(m:Nat)(args:List AV)(h:cfg.leaf f=some L):callA P cfg (m+1) f args=L (callA P cfg m) args:=by
 simp only[callA,h]
def LeafV(P:Program)(f:Nat)(L:LeafF):Prop:=(∀ C args r,L C args=some r→∀x∈args,isFr x=false)∧∀C,CallOK P C→∀args r,L C args=some r→∀(F:Nat→Prop)(w:World)(vals:List Value),GOK P (base0 w)→(∀ k,F k→k<w.heap.size)→AllV (RelL F w κ0 o0 args) vals→
 Calls P f vals.toArray w fun e w'=>∃v,e= .returned v∧ResOK F (base0 w) w' r v
theorem ResOK.baseD{F:Nat→Prop}{b:Base}{w':World}{r:AV}{v:Value}{d:Bool}(hdr:b.dr=true→d=true)(h:ResOK F (base0 b.w d) w' r v):ResOK F b w' r v:=by
 obtain⟨us,h1,h2,h3,h4,h5⟩:=h.parts
 have hm:∀k,(base0 b.w d).mine k→b.mine k:=fun k hk=> .inr (base0_mine.1 hk)
 have hS:∀k,resS F (base0 b.w d) w' (compsOf r) us k→resS F b w' (compsOf r) us k:=fun k hk=>⟨hk.1.imp id (hm k),hk.2⟩
 refine⟨⟨h.below.os,h.below.tape,h.below.output,h.below.size,fun k hk _=>h.below.block k hk (fun h=>h.elim),fun q=>h.below.drawn (hdr q)⟩,us,h1,h2,fun i x u hx hu=>?_,h4,fun i x u hx hu hf k hk=>hm k (h5 i x u hx hu hf k hk)⟩
 have h6:=h3 i x u hx hu
 cases x with
 | fr e k xs=>
   have h7:RowOK _ _ _ _ _ _ _:=h6
   exact h7.mono hS (fun _ _=>rfl) fun q hq=>⟨rfl,Nat.zero_le _⟩
 | fb cs=>
   obtain⟨blk,T,arr,h8,h9,h10⟩:=h6
   exact⟨blk,T,arr,h8,h9,(RelL_mono hS (fun _ _=>rfl) (ObjLe.none _ _) cs).allV h10⟩
 | _=>exact(Rel_mono hS (fun _ _=>rfl) (ObjLe.none _ _) _).val _ h6
theorem ResOK.base{F:Nat→Prop}{b:Base}{w':World}{r:AV}{v:Value}(h:ResOK F (base0 b.w) w' r v):ResOK F b w' r v:=h.baseD fun _=>rfl
theorem leafV{P:Program}{f:Nat}{L:LeafF}(hi:inplB P f=false)(h:LeafV P f L):LeafAt P f L:=by
 intro C hC args r hr F b vals hQ hG hA
 have hn:=h.1 C args r hr
 refine(h.2 C hC args r hr F b.w vals hG.base (fun k hk=>(hA.free k hk).1) (AllV_of _ _ _ _ hA.len fun i x u hx hu=>?_)).mono fun e w' ⟨v,h1,h2⟩=>⟨v,h1,h2.base.x hi⟩
 have h3:=hA.one i x u hx hu
 have h4:=hn x (List.mem_of_getElem? hx)
 cases x with
 | fr e k xs=>cases h4
 | fb cs=>cases h4
 | _=>exact h3
theorem leafQ{P:Program}{f:Nat}{L:LeafF}(hi:inplB P f=false)(hq:quietB P f=false)(h:(∀ C args r,L C args=some r→∀x∈args,isFr x=false)∧∀C,CallOK P C→∀args r,L C args=some r→∀(F:Nat→Prop)(w:World)(vals:List Value),GOK P (base0 w false)→(∀ k,F k→k<w.heap.size)→AllV (RelL F w κ0 o0 args) vals→
  Calls P f vals.toArray w fun e w'=>∃v,e= .returned v∧ResOK F (base0 w false) w' r v):LeafAt P f L:=by
 intro C hC args r hr F b vals hQ hG hA
 have hn:=h.1 C args r hr
 refine(h.2 C hC args r hr F b.w vals hG.base (fun k hk=>(hA.free k hk).1) (AllV_of _ _ _ _ hA.len fun i x u hx hu=>?_)).mono fun e w' ⟨v,h1,h2⟩=>⟨v,h1,(h2.baseD fun hd=>by have:=hQ hd;rw[hq]at this;cases this).x hi⟩
 have h3:=hA.one i x u hx hu
 have h4:=hn x (List.mem_of_getElem? hx)
 cases x with
 | fr e k xs=>cases h4
 | fb cs=>cases h4
 | _=>exact h3
theorem allV_one{S:Nat→Prop}{w:World}{x:AV}{vals:List Value}(h:AllV (RelL S w κ0 o0 [x]) vals):∃v,vals=[v]∧(Rel S w κ0 o0 x).val v:=by
 obtain⟨h1,h2⟩:=AllV_get _ _ _ _ h
 match vals,h1 with
 | [v],_=>exact⟨v,rfl,h2 0 x v rfl rfl⟩
theorem allV_two{S:Nat→Prop}{w:World}{x y:AV}{vals:List Value}(h:AllV (RelL S w κ0 o0 [x,y]) vals):∃v u,vals=[v,u]∧(Rel S w κ0 o0 x).val v∧(Rel S w κ0 o0 y).val u:=by
 obtain⟨h1,h2⟩:=AllV_get _ _ _ _ h
 match vals,h1 with
 | [v,u],_=>exact⟨v,u,rfl,h2 0 x v rfl rfl,h2 1 y u rfl rfl⟩
theorem resOK_int{F:Nat→Prop}{w:World}{k:IntKind}{n:Int}:ResOK F (base0 w) w (.int k n) (.int k n):=by
 refine⟨BelowB.refl (base0 w),[.int k n],rfl,rfl,fun i x u hx hu=>?_,fun i j x y u u' hx hy hu hu' hij=>?_,fun i x u hx hu hf=>?_⟩
 ·cases i with
  | zero=>
    simp only[compsOf,List.getElem?_cons_zero,Option.some.injEq]at hx hu
    subst hx;subst hu
    show(Rel _ w κ0 o0 (.int k n)).val _
    simp[Rel,one]
  | succ i=>simp[compsOf]at hx
 ·cases i with
  | zero=>cases j with
    | zero=>exact absurd rfl hij
    | succ j=>simp[compsOf]at hy
  | succ i=>simp[compsOf]at hx
 ·cases i with
  | zero=>
    simp only[compsOf,List.getElem?_cons_zero,Option.some.injEq]at hx
    subst hx
    cases hf
  | succ i=>simp[compsOf]at hx
theorem leaf_idx{P:Program}{f:Nat}(hi:inplB P f=false)(h:∀(s:ByteArray)(c:Int)(w:World),Calls P f #[.string s,.int .u8 c] w fun e w'=>e= .returned (.int .i64 (Lib.indexByte s.data.toList c.toNat.toUInt8))∧w'=w):LeafAt P f leafIdx:=by
 refine leafV hi ⟨fun C args r hr x hx=>?_,?_⟩
 ·unfold leafIdx at hr
  split at hr
  ·simp only[List.mem_cons,List.not_mem_nil,or_false]at hx
   rcases hx with rfl|rfl<;>rfl
  ·cases hr
 intro C hC args r hr F w vals hG hF hv
 unfold leafIdx at hr
 split at hr
 case h_2=>cases hr
 cases hr
 rename_i s c
 obtain⟨v,u,rfl,h1,h2⟩:=allV_two hv
 simp only[Rel,one]at h1 h2
 subst h1;subst h2
 refine(h s c w).mono fun e w' ⟨h3,h4⟩=>⟨_,h3,?_⟩
 subst h4
 exact resOK_int
theorem leaf_cmp{P:Program}{f:Nat}(hi:inplB P f=false)(h:∀(a b:ByteArray)(w:World),Calls P f #[.string a,.string b] w fun e w'=>e= .returned (.int .i64 (Lib.compareBytes a.data.toList b.data.toList))∧w'=w):LeafAt P f leafCmp:=by
 refine leafV hi ⟨fun C args r hr x hx=>?_,?_⟩
 ·unfold leafCmp at hr
  split at hr
  ·simp only[List.mem_cons,List.not_mem_nil,or_false]at hx
   rcases hx with rfl|rfl<;>rfl
  ·cases hr
 intro C hC args r hr F w vals hG hF hv
 unfold leafCmp at hr
 split at hr
 case h_2=>cases hr
 cases hr
 rename_i a b
 obtain⟨v,u,rfl,h1,h2⟩:=allV_two hv
 simp only[Rel,one]at h1 h2
 subst h1;subst h2
 refine(h a b w).mono fun e w' ⟨h3,h4⟩=>⟨_,h3,?_⟩
 subst h4
 exact resOK_int
theorem ResOK.rowD{F:Nat→Prop}{w w':World}{e k:Nat}{xs:List AV}{v:Value}{d:Bool}(hb:Below w.heap.size w w')(hd:d=true→w.drawn≤w'.drawn)(h:RowOK (resS F (base0 w d) w' [.fr e k xs] [v]) w' 0 v e k xs)(hm:∀q,blkOf v=some q→w.heap.size≤q):ResOK F (base0 w d) w' (.fr e k xs) v:=by
 refine⟨BelowB.base0 hb hd,[v],rfl,rfl,fun i x u hx hu=>?_,fun i j x y u u' hx hy hu hu' hij=>?_,fun i x u hx hu _ q hq=>?_⟩
 ·cases i with
  | zero=>
    simp only[compsOf,List.getElem?_cons_zero,Option.some.injEq]at hx hu
    subst hx;subst hu
    exact h
  | succ i=>simp[compsOf]at hx
 ·cases i with
  | zero=>cases j with
    | zero=>exact absurd rfl hij
    | succ j=>simp[compsOf]at hy
  | succ i=>simp[compsOf]at hx
 ·cases i with
  | zero=>
    simp only[List.getElem?_cons_zero,Option.some.injEq]at hu
    subst hu
    exact base0_mine.2 (hm q hq)
  | succ i=>simp[compsOf]at hx
theorem ResOK.row{F:Nat→Prop}{w w':World}{e k:Nat}{xs:List AV}{v:Value}(hb:Below w.heap.size w w')(hd:w.drawn≤w'.drawn)(h:RowOK (resS F (base0 w) w' [.fr e k xs] [v]) w' 0 v e k xs)(hm:∀q,blkOf v=some q→w.heap.size≤q):ResOK F (base0 w) w' (.fr e k xs) v:=ResOK.rowD hb (fun _=>hd) h hm
theorem wpList_appD{P:Program}{w:World}{ops:Array Oper}{rest:List Oper}{o:Oper}{a:Act}{Q:Exit→Act→World→Prop}(hgd:o.guard=none)(s x:Operand)(t:TypeId)
  (ho:o.op= .call { callee:= .builtin .append,args:=#[s,x],argTypes:=#[t,t] }) (base:Nat) (e:TypeId) (i:TypeInfo) (z:Value) (k by_:Nat) (ht:P.underlying t=some (.slice e)) (hi:P.info? e=some i) (hz:i.zero=some z)
  (hik:i.size=k) (hib:i.bytes=by_) (hzk:z.cells.size=k) (hk0:0<k) (v:Value) (n:Nat) (xs:List Value) (hs:a.eval s=v) (hown:w.ownsRow base e k v n xs) (ad:Addr) (m c:Nat) (news:List Value) (hx:a.eval x= .slice (some ad) m c)
  (hl:news.length=m*k) (hc:∀j u,news[j]? = some u→w.cell? (ad.add j)=some u) (h1:∀u∈news,u.oneCell'=true) (hmax:n+m≤maxLen) (hby:(n+m)*by_≤140737488355328) (hbase:base≤w.heap.size)
  (h:∀v' w',w'.ownsRow base e k v' (n+m) (xs++news)→w.grownBy w' v.ownBlock→w.drawn≤w'.drawn→wpList P ops Q rest (a.put o.dst v') w'):wpList P ops Q (o::rest) a w:=
 wpList_plain hgd fun K hK=>by
  obtain⟨v',w',hr,h2,h3,_⟩:=run_append_own (P:=P) w base t o.type e i z k by_ ht hi hz hik hib hzk hk0 v n xs hown ad m c news hl hc h1 hmax hby hbase
  refine wp_ran (v:=v') (w':=w') ?_ (hK _ _ (h v' w' h2 h3 (run_drawn _ _ _ _ hr)))
  unfold execOp
  simp only[ho,resolve,invoke,builtin,Sem.run_bind,Sem.run_pure,Result.andThen_ok,List.map_toArray,List.map_cons,List.map_nil,hs,hx,hr]
theorem leaf_clone{P:Program}{f e k b:Nat}(hi:inplB P f=false)(hk0:0<k)
  (hsome:∀(a:Addr)(n c:Nat)(news:List Value)(w:World),news.length=n*k→n≤maxLen→n*b≤140737488355328→(∀ j u,news[j]? = some u→w.cell? (a.add j)=some u)→(∀ u∈news,u.oneCell'=true)→
   Calls P f #[.slice (some a) n c] w fun en w'=>∃v',en= .returned v'∧w'.ownsRow w.heap.size e k v' n news∧Below w.heap.size w w'∧w.drawn≤w'.drawn)
  (hnil:∀(n c:Nat)(w:World),Calls P f #[.slice none n c] w fun en w'=>en= .returned (.slice none 0 0)∧w'=w):LeafAt P f (leafClone P e k b):=by
 refine leafV hi ⟨fun C args r hr x hx=>?_,?_⟩
 ·unfold leafClone at hr
  split at hr
  ·simp only[List.mem_cons,List.not_mem_nil,or_false]at hx
   subst hx
   rfl
  ·cases hr
 intro C hC args r hr F w vals hG hF hv
 unfold leafClone at hr
 split at hr
 case h_2=>cases hr
 rename_i xs
 split at hr
 case isFalse=>cases hr
 rename_i hcond
 obtain⟨hok,hml,hbig⟩:=hcond
 cases hr
 obtain⟨v,rfl,h1⟩:=allV_one hv
 obtain⟨news,A,c,rfl,hl,hone,hA,hel⟩:=sl_news h1 hok hk0
 rcases hA with⟨rfl,rfl⟩|⟨ad,rfl,hcells⟩
 ·refine(hnil _ _ w).mono fun en w' ⟨h3,h4⟩=>⟨_,h3,?_⟩
  subst h4
  exact ResOK.row (Below.refl _ _) (Nat.le_refl _) ⟨hk0,[],World.ownsRow_nil _ _ _ _,by simp,by simp[RelL]⟩ (fun q hq=>by cases hq)
 ·refine(hsome ad _ c news w hl hml hbig hcells hone).mono fun en w' ⟨v',h3,hown,hbel,hdr⟩=>⟨_,h3,?_⟩
  have hblk:∀q,blkOf v'=some q→w.heap.size≤q:=by
   intro q hq
   rcases hown.2 with⟨rfl,_⟩|⟨g,cap,cur,rfl,h5,_⟩
   ·cases hq
   ·simp only[blkOf,Option.some.injEq]at hq
    omega
  have hown0:w'.ownsRow 0 e k v' xs.length news:=⟨hown.1,hown.2.imp id fun⟨g,cap,cur,h5,h6,h7⟩=>⟨g,cap,cur,h5,Nat.zero_le _,h7⟩⟩
  refine ResOK.row hbel hdr ⟨hk0,news,hown0,hone,fun j r hr=>?_⟩ hblk
  rw[RelL_get]at hr
  cases hx:xs[j]? with
  | none=>rw[hx]at hr;cases hr
  | some q=>
    rw[hx]at hr
    simp only[Option.map_some,Option.some.injEq]at hr
    subst hr
    obtain⟨h5,h6⟩:=hel j q hx
    refine⟨by rw[Rel_n];exact h5,cells_mem ?_⟩
    refine(RelL_mono (fun k hk=>?_) (fun k hk=>hbel.block k (hF k hk)) (ObjLe.none _ _) q.cells).allM h6
    refine⟨.inl hk,Nat.lt_of_lt_of_le (hF k hk) hbel.size,fun i x u hx hu _ hb=>?_⟩
    cases i with
    | zero=>
      simp only[List.getElem?_cons_zero,Option.some.injEq]at hu
      subst hu
      have:=hblk k hb
      have:=hF k hk
      omega
    | succ i=>simp at hu
def leafNone:LeafF:=fun _ _=>none
theorem leaf_none{P:Program}{f:Nat}:LeafAt P f leafNone:=fun C hC args r hr=>by cases hr
end Go.Abs
