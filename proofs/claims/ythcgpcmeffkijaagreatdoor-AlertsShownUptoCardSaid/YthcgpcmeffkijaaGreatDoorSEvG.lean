import Derived.Test.YthcgpcmeffkijaaGreatDoorSAbsL
import Derived.Shelf.Vars
set_option linter.unusedVariables false
namespace Go.Abs
open Go.RowKit Go.Proofs
theorem gok_open{P:Program}{w:World}{g:Nat}{t:TypeId}{zero:Array Value}(hs:w.ShapedOpen P)(hg:mlOf P=some g)(h1:g<P.globals.size)
  (h0:((begin P (fun _ _=>0) default).world.heap[g]?).bind Obj.row? = some (zero,t)) (hz:zero.size=1) (hb:P.buildable t=true) (hc:P.cellTypes P.depth t=some [t]) (hu:P.underlying t=some (.int .i64)) (h8:∀g h,u8Of P=some (g,h)→U8Tab g h w):GOK P (base0 w):=by
 refine⟨fun k hk=>?_,fun g2 g3 hk=>⟨fun h=>h.elim,fun h=>h.elim,h8 g2 g3 hk⟩⟩
 rw[hg]at hk
 cases hk
 exact⟨fun h=>h.elim,cell_of_shapedOpen_int hs h1 h0 hz hb hc hu⟩
end Go.Abs
