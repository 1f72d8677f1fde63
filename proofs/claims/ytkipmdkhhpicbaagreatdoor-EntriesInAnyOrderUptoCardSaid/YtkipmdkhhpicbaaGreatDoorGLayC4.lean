/- A contract of strings.Contains,laid at this program (printed by the kit's own tool). -/
import Derived.Test.YtkipmdkhhpicbaaGreatDoorGLayR4
import Derived.Test.YtkipmdkhhpicbaaGreatDoorProg
import Derived.Shelf.Strings.Search3
namespace Go.Proofs
open Go.Shelf
def Tryz.contains_ren:Go.Shelf.Ren:=⟨fun|144=>297|143=>332|219=>345|217=>334|225=>351|224=>352|267=>353|266=>346|314=>355|n=>n,fun|9=>9|4=>4|3=>3|5=>5|46=>241|146=>406|51=>298|n=>n,fun|1=>0|n=>n⟩
theorem Tryz.contains:Go.Proofs.Lays.n144 Tryz.prog Tryz.contains_ren:={
 mixed:=by kernel_rfl
 f143:=Tryz.func332.trans (congrArg some (by kernel_rfl))
 f144:=Tryz.func297.trans (congrArg some (by kernel_rfl))
 f217:=Tryz.func334.trans (congrArg some (by kernel_rfl))
 f219:=Tryz.func345.trans (congrArg some (by kernel_rfl))
 f224:=Tryz.func352.trans (congrArg some (by kernel_rfl))
 f225:=Tryz.func351.trans (congrArg some (by kernel_rfl))
 f266:=Tryz.func346.trans (congrArg some (by kernel_rfl))
 f267:=Tryz.func353.trans (congrArg some (by kernel_rfl))
 f314:=Tryz.func355.trans (congrArg some (by kernel_rfl))
 t3:=Tryz.underlying3
 a3:=Tryz.isAgg3
 z3:=Tryz.sizeOf3
 v3:=Tryz.zeroValue3
 t4:=Tryz.underlying4
 a4:=Tryz.isAgg4
 z4:=Tryz.sizeOf4
 v4:=Tryz.zeroValue4
 t5:=Tryz.underlying5
 a5:=Tryz.isAgg5
 z5:=Tryz.sizeOf5
 v5:=Tryz.zeroValue5
 t9:=Tryz.underlying9
 a9:=Tryz.isAgg9
 z9:=Tryz.sizeOf9
 v9:=Tryz.zeroValue9
 t46:=Tryz.underlying241
 a46:=Tryz.isAgg241
 z46:=Tryz.sizeOf241
 v46:=Tryz.zeroValue241
 t51:=Tryz.underlying298
 a51:=Tryz.isAgg298
 z51:=Tryz.sizeOf298
 v51:=Tryz.zeroValue298
 t146:=Tryz.underlying406
 a146:=Tryz.isAgg406
 z146:=Tryz.sizeOf406
 v146:=Tryz.zeroValue406
 g1:=by kernel_rfl }
end Go.Proofs
