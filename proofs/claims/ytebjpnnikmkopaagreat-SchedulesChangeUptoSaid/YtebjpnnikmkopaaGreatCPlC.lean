import Derived.Test.YtebjpnnikmkopaaGreatCPlT
set_option linter.unusedVariables false
set_option linter.unusedSimpArgs false
namespace Go.Abs
section
variable {α κ:Type} (lo hi:α→Int) (key:α→κ)
def Tiles(K:Int→κ→Prop):Int→Int→List α→Prop
 | a,b,[]=>a=b
 | a,b,x::l=>lo x=a∧a<hi x∧hi x≤b∧(∀ t,a≤t→t<hi x→K t (key x))∧(∀ y,l.head? = some y→key x≠key y)∧Tiles K (hi x) b l
end
end Go.Abs
