import Derived.Test.YtkipmdkhhpicbaaGreatDoorGTTG0
import Derived.Test.YtkipmdkhhpicbaaGreatDoorGLayK4
import Derived.Lib.Walk
import Derived.Lib.Bytealg
import Derived.WalkSpells
import Derived.Laws.AppendOwn
import Derived.ChangeAlike
import Derived.Lib.Hide
set_option maxRecDepth 100000
set_option linter.unusedVariables false
namespace Go.Abs.TTG
open Go.RowKit Go.Proofs Go.Abs
theorem leafAt102:LeafAt Tryz.prog 102 (leafSorted 9 179):=leaf_sorted (by kernel_rfl) (by kernel_rfl) (fun w bp b es clock h1 h2 h3 h4 h5 h6=>sorted_at (ρ:=Tryz.keysE_ren) (σ:=Tryz.sortedS_ren) { Tryz.keysE with } Tryz.sortedS ⟨fun blk off cap ss W hH hblk hsz=>callsIn_wide.2 (AnyM.slices_Sort_string Tryz.sortS blk off cap ss W hH hblk hsz),fun p cap W=>callsIn_wide.2 (AnyM.slices_Sort_string_none Tryz.sortS p cap W)⟩ (by kernel_rfl) (enters_of Tryz.func130 (by kernel_rfl) rfl) (enters_of Tryz.func179 (by kernel_rfl) rfl) w bp b es clock h1 h2 h3 h4 h5 h6)
theorem leafAt103:LeafAt Tryz.prog 103 (leafKeys 179):=leaf_keys (by kernel_rfl) (fun mb w=>callsIn_wide.1 (AnyZ.keys_in Tryz.keysE Fence.wide 5 trivial rfl mb w))
theorem leafAt152:LeafAt Tryz.prog 152 (leafSortI 3):=leaf_sortI (by kernel_rfl) (fun blk off cap zs w h1 h2 h3=>Any.slices_Sort_int Tryz.sortInt blk off cap zs w h1 h2 h3) (fun p cap w=>Any.slices_Sort_int_none Tryz.sortInt p cap w)
theorem leafAt153:LeafAt Tryz.prog 153 (leafCompI 3):=leaf_compI (by kernel_rfl) (fun blk off cap zs w h1 h2 h3=>Any.slices_Compact_int Tryz.compactInt blk off cap zs w h1 h2 h3) (fun p cap w=>Any.slices_Compact_int_empty Tryz.compactInt p cap w)
theorem leafAt177:LeafAt Tryz.prog 177 (leafGrow Tryz.prog 60 13 152):=leaf_grow (by kernel_rfl) (by kernel_rfl) (fun base l c n w h1 h2 h3 h4=>Any8.slices_Grow_room Tryz.growEntry base l c n w h1 h2 h3 h4) (fun i0 z h1 h2 h3 base l c n cs w h4 h5 h6 h7 h8 h9 h10=>Any8.slices_Grow_grow Tryz.growEntry i0 z h1 h2 h3 base l c n cs w h4 h5 h6 h7 h8 h9 h10)
theorem info_180:(Tryz.prog.info? 3).map (fun i=>(i.zero,i.size,i.bytes))=some (some (.int .i64 0),1,8):=by kernel_rfl
set_option maxHeartbeats 1000000 in
theorem clone_some180(a:Addr)(n c:Nat)(news:List Value)(w:World)(hl:news.length=n*1)(hn:n≤maxLen)(hbig:n*8≤140737488355328)
  (hc:∀j u,news[j]? = some u→w.cell? (a.add j)=some u) (h1:∀u∈news,u.oneCell'=true) :
  Calls Tryz.prog 180 #[.slice (some a) n c] w fun e w'=>∃v',e= .returned v'∧w'.ownsRow w.heap.size 3 1 v' n news∧Below w.heap.size w w'∧w.drawn≤w'.drawn:=by
 obtain⟨i0,hi,hz0,hz1,hz2⟩:=info_parts info_180
 have q22:∀(w:World)(a:Option Addr)(n c n' c':Nat),(binOp .eql 22 (.slice a n c) (.slice none n' c')).run Tryz.prog w= .ok (.bool a.isNone) w:=fun w a n c n' c'=>Lib.run_eql_slice_nil w _ _ a n c n' c' Tryz.underlying22
 have A:=Lib.hid hc
 clear hc
 go_enter Tryz.func180,Tryz.ntmps180
 go_wp2_with (at_builtin;refine wpList_appD rfl _ _ 22 rfl w.heap.size 3 i0 (.int .i64 0) 1 8 Tryz.underlying22 hi hz0 hz1 hz2 rfl (by decide) _ _ _ rfl (World.ownsRow_made w #[] 0 (Nat.le_refl _) (Nat.zero_le _) (by simp)) a n c news rfl ?qc1 ?qc2 ?qc3 ?qc4 ?qc5 ?qc6 ?_)
 case qc1=>exact hl
 case qc2=>
  intro j u hj
  exact Lib.cell?_alloc_some _ (A.out j u hj)
 case qc3=>exact h1
 case qc4=>rw[Nat.zero_add];exact hn
 case qc5=>rw[Nat.zero_add];exact hbig
 case qc6=>simp
 intro v' w1 hown hgrow hdr
 go_wp2
 go_ret
 refine⟨v',rfl,by simpa using hown,?_,hdr⟩
 exact((Below.refl _ w).alloc (Nat.le_refl _) _).grown hgrow (by simp) (by intro k hk;simp[Value.ownBlock]at hk;omega)
theorem clone_nil180(n c:Nat)(w:World):Calls Tryz.prog 180 #[.slice none n c] w fun e w'=>e= .returned (.slice none 0 0)∧w'=w:=by
 have q22:∀(w:World)(a:Option Addr)(n c n' c':Nat),(binOp .eql 22 (.slice a n c) (.slice none n' c')).run Tryz.prog w= .ok (.bool a.isNone) w:=fun w a n c n' c'=>Lib.run_eql_slice_nil w _ _ a n c n' c' Tryz.underlying22
 go_enter Tryz.func180,Tryz.ntmps180
 go_wp2
 go_ret
 exact⟨rfl,rfl⟩
theorem leafAt180:LeafAt Tryz.prog 180 (leafClone Tryz.prog 3 1 8):=leaf_clone (by kernel_rfl) (by decide) clone_some180 clone_nil180
theorem info_181:(Tryz.prog.info? 9).map (fun i=>(i.zero,i.size,i.bytes))=some (some (.string (ByteArray.mk #[])),1,16):=by kernel_rfl
set_option maxHeartbeats 1000000 in
theorem clone_some181(a:Addr)(n c:Nat)(news:List Value)(w:World)(hl:news.length=n*1)(hn:n≤maxLen)(hbig:n*16≤140737488355328)
  (hc:∀j u,news[j]? = some u→w.cell? (a.add j)=some u) (h1:∀u∈news,u.oneCell'=true) :
  Calls Tryz.prog 181 #[.slice (some a) n c] w fun e w'=>∃v',e= .returned v'∧w'.ownsRow w.heap.size 9 1 v' n news∧Below w.heap.size w w'∧w.drawn≤w'.drawn:=by
 obtain⟨i0,hi,hz0,hz1,hz2⟩:=info_parts info_181
 have q22:∀(w:World)(a:Option Addr)(n c n' c':Nat),(binOp .eql 31 (.slice a n c) (.slice none n' c')).run Tryz.prog w= .ok (.bool a.isNone) w:=fun w a n c n' c'=>Lib.run_eql_slice_nil w _ _ a n c n' c' Tryz.underlying31
 have A:=Lib.hid hc
 clear hc
 go_enter Tryz.func181,Tryz.ntmps181
 go_wp2_with (at_builtin;refine wpList_appD rfl _ _ 31 rfl w.heap.size 9 i0 (.string (ByteArray.mk #[])) 1 16 Tryz.underlying31 hi hz0 hz1 hz2 rfl (by decide) _ _ _ rfl (World.ownsRow_made w #[] 0 (Nat.le_refl _) (Nat.zero_le _) (by simp)) a n c news rfl ?qc1 ?qc2 ?qc3 ?qc4 ?qc5 ?qc6 ?_)
 case qc1=>exact hl
 case qc2=>
  intro j u hj
  exact Lib.cell?_alloc_some _ (A.out j u hj)
 case qc3=>exact h1
 case qc4=>rw[Nat.zero_add];exact hn
 case qc5=>rw[Nat.zero_add];exact hbig
 case qc6=>simp
 intro v' w1 hown hgrow hdr
 go_wp2
 go_ret
 refine⟨v',rfl,by simpa using hown,?_,hdr⟩
 exact((Below.refl _ w).alloc (Nat.le_refl _) _).grown hgrow (by simp) (by intro k hk;simp[Value.ownBlock]at hk;omega)
theorem clone_nil181(n c:Nat)(w:World):Calls Tryz.prog 181 #[.slice none n c] w fun e w'=>e= .returned (.slice none 0 0)∧w'=w:=by
 have q22:∀(w:World)(a:Option Addr)(n c n' c':Nat),(binOp .eql 31 (.slice a n c) (.slice none n' c')).run Tryz.prog w= .ok (.bool a.isNone) w:=fun w a n c n' c'=>Lib.run_eql_slice_nil w _ _ a n c n' c' Tryz.underlying31
 go_enter Tryz.func181,Tryz.ntmps181
 go_wp2
 go_ret
 exact⟨rfl,rfl⟩
theorem leafAt181:LeafAt Tryz.prog 181 (leafClone Tryz.prog 9 1 16):=leaf_clone (by kernel_rfl) (by decide) clone_some181 clone_nil181
set_option maxHeartbeats 1000000 in
set_option maxRecDepth 100000 in
theorem leafW183(a b:ByteArray)(w:World):Calls Tryz.prog 183 #[.string a,.string b] w fun e w'=>e= .returned (.int .i64 (Lib.compareBytes a.data.toList b.data.toList))∧w'=w:=by
 go_enter Tryz.func183,Tryz.ntmps183
 go_wp2
 rw[run_callFunc_extern Tryz.func240 (by kernel_rfl) (by kernel_rfl) (by kernel_rfl) (e:=Extern.BytealgCompare.compare) (by kernel_rfl),Lib.run_compareString]
 simp only[Result.andThen]
 rw[Oper.upon_value]
 go_wp2
 go_ret
 exact⟨rfl,rfl⟩
theorem leafAt183:LeafAt Tryz.prog 183 leafCmp:=leaf_cmp (by kernel_rfl) leafW183
theorem leafAt214:LeafAt Tryz.prog 214 (leafGrow Tryz.prog 41 4 32):=leaf_grow (by kernel_rfl) (by kernel_rfl) (fun base l c n w h1 h2 h3 h4=>Any8.slices_Grow_room Tryz.growRect base l c n w h1 h2 h3 h4) (fun i0 z h1 h2 h3 base l c n cs w h4 h5 h6 h7 h8 h9 h10=>Any8.slices_Grow_grow Tryz.growRect i0 z h1 h2 h3 base l c n cs w h4 h5 h6 h7 h8 h9 h10)
theorem leafAt216:LeafAt Tryz.prog 216 (leafSortF Tryz.prog 249 2):=leaf_sortF (by kernel_rfl) (fun enc hk h1 cf hO g cb blk off cap d w eg hc hH hb hs=>AnyQ.slices_SortFunc_eq Tryz.sortRun 2 (isAggT_run (t:=249) (by kernel_rfl)) (sizeT_run (t:=249) (by kernel_rfl)) enc hk h1 cf hO g cb blk off cap d w eg hc hH hb hs) (fun p cap fv w=>AnyF.slices_SortFunc_none Tryz.sortRun p cap fv w)
theorem leafAt297:LeafAt Tryz.prog 297 leafCont:=leaf_cont (g:=0) (by kernel_rfl) (by kernel_rfl) (fun s t m w h1 h2=>Any.strings_Contains Tryz.contains s t m w h1 h2)
theorem leafAt327:LeafAt Tryz.prog 327 leafNone:=leaf_none
theorem leaves:LeafOK Tryz.prog cfg:=by
 intro f L h
 unfold cfg at h
 simp only at h
 split at h
 ·cases h;exact leafAt102
 ·cases h;exact leafAt103
 ·cases h;exact leafAt152
 ·cases h;exact leafAt153
 ·cases h;exact leafAt177
 ·cases h;exact leafAt180
 ·cases h;exact leafAt181
 ·cases h;exact leafAt183
 ·cases h;exact leafAt214
 ·cases h;exact leafAt216
 ·cases h;exact leafAt297
 ·cases h;exact leafAt327
 ·cases h
theorem callOK:∀n,CallOK Tryz.prog (callA Tryz.prog cfg n):=callA_sound leaves (draw_ok (by kernel_rfl))
end Go.Abs.TTG
