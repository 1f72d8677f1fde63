/- Contracts of the library,laid at this program (printed by the kit's own tool). -/
import Derived.Test.YtkipmdkhhpicbaaGreatDoorGLayC4
import Derived.Test.YtkipmdkhhpicbaaGreatDoorProg
import Derived.Shelf.SlSortCmp.NoneTotal
import Derived.Shelf.Spec.SlicesGrow
import Derived.Shelf.SlIter.Nil
import Derived.Shelf.SortM.Plain
import Derived.Shelf.SortM.SortNone
namespace Go.Proofs
open Go.Shelf
def Tryz.keysE_ren:Go.Shelf.Ren:=⟨fun|7=>103|10=>179|n=>n,fun|23=>179|26=>9|3=>60|28=>184|0=>0|27=>183|33=>273|4=>4|n=>n,fun|n=>n⟩
theorem Tryz.keysE:Go.Proofs.SlLaysZ.n7 Tryz.prog Tryz.keysE_ren:={
 mixed:=by kernel_rfl
 f7:=⟨Tryz.f103.name,by decide,Tryz.func103.trans (congrArg some (by kernel_rfl))⟩
 f10:=⟨Tryz.f179.name,by decide,Tryz.func179.trans (congrArg some (by kernel_rfl))⟩
 t0:=Tryz.underlying0
 a0:=Tryz.isAgg0
 z0:=Tryz.sizeOf0
 v0:=Tryz.zeroValue0
 t4:=Tryz.underlying4
 a4:=Tryz.isAgg4
 z4:=Tryz.sizeOf4
 v4:=Tryz.zeroValue4
 t23:=Tryz.underlying179
 a23:=Tryz.isAgg179
 z23:=Tryz.sizeOf179
 v23:=Tryz.zeroValue179
 t26:=Tryz.underlying9
 a26:=Tryz.isAgg9
 z26:=Tryz.sizeOf9
 v26:=Tryz.zeroValue9
 t27:=Tryz.underlying183
 a27:=Tryz.isAgg183
 z27:=Tryz.sizeOf183
 v27:=Tryz.zeroValue183
 t28:=Tryz.underlying184
 a28:=Tryz.isAgg184
 z28:=Tryz.sizeOf184
 v28:=Tryz.zeroValue184
 t33:=Tryz.underlying273
 a33:=Tryz.isAgg273
 z33:=Tryz.sizeOf273
 v33:=Tryz.zeroValue273 }
def Tryz.sortedS_ren:Go.Shelf.Ren:=⟨fun|6=>102|8=>178|9=>130|11=>231|13=>150|12=>189|23=>212|24=>213|14=>243|15=>244|16=>245|17=>246|18=>247|19=>248|20=>249|21=>250|22=>251|25=>298|26=>265|27=>266|28=>299|29=>300|30=>301|31=>333|n=>n,fun|26=>9|28=>184|24=>31|0=>0|3=>3|37=>241|48=>298|50=>300|4=>4|40=>292|39=>291|45=>194|5=>5|9=>9|51=>337|55=>341|57=>368|58=>369|33=>273|n=>n,fun|n=>n⟩
theorem Tryz.sortedS:Go.Proofs.SlLaysZ.n6 Tryz.prog Tryz.sortedS_ren:={
 mixed:=by kernel_rfl
 f6:=⟨Tryz.f102.name,by decide,Tryz.func102.trans (congrArg some (by kernel_rfl))⟩
 f8:=⟨Tryz.f178.name,by decide,Tryz.func178.trans (congrArg some (by kernel_rfl))⟩
 f11:=⟨Tryz.f231.name,by decide,Tryz.func231.trans (congrArg some (by kernel_rfl))⟩
 t0:=Tryz.underlying0
 a0:=Tryz.isAgg0
 z0:=Tryz.sizeOf0
 v0:=Tryz.zeroValue0
 t24:=Tryz.underlying31
 a24:=Tryz.isAgg31
 z24:=Tryz.sizeOf31
 v24:=Tryz.zeroValue31
 t26:=Tryz.underlying9
 a26:=Tryz.isAgg9
 z26:=Tryz.sizeOf9
 v26:=Tryz.zeroValue9
 t28:=Tryz.underlying184
 a28:=Tryz.isAgg184
 z28:=Tryz.sizeOf184
 v28:=Tryz.zeroValue184
 i26:=by kernel_rfl }
def Tryz.sortS_ren:Go.Shelf.Ren:=⟨fun|6=>130|8=>150|9=>189|19=>212|20=>213|21=>243|22=>244|23=>245|24=>246|25=>247|26=>248|27=>249|28=>250|29=>251|36=>298|31=>265|32=>266|37=>299|38=>300|39=>301|41=>333|n=>n,fun|27=>31|29=>9|3=>3|32=>241|26=>31|0=>0|44=>298|46=>300|4=>4|36=>292|35=>291|41=>194|5=>5|9=>9|53=>337|57=>341|63=>368|64=>369|n=>n,fun|n=>n⟩
theorem Tryz.sortS:Go.Proofs.SlLaysM.n6 Tryz.prog Tryz.sortS_ren:={
 mixed:=by kernel_rfl
 f6:=⟨Tryz.f130.name,by decide,Tryz.func130.trans (congrArg some (by kernel_rfl))⟩
 f8:=Tryz.func150.trans (congrArg some (by kernel_rfl))
 f9:=⟨Tryz.f189.name,by decide,Tryz.func189.trans (congrArg some (by kernel_rfl))⟩
 f19:=Tryz.func212.trans (congrArg some (by kernel_rfl))
 f20:=Tryz.func213.trans (congrArg some (by kernel_rfl))
 f21:=⟨Tryz.f243.name,by decide,Tryz.func243.trans (congrArg some (by kernel_rfl))⟩
 f22:=⟨Tryz.f244.name,by decide,Tryz.func244.trans (congrArg some (by kernel_rfl))⟩
 f23:=⟨Tryz.f245.name,by decide,Tryz.func245.trans (congrArg some (by kernel_rfl))⟩
 f24:=⟨Tryz.f246.name,by decide,Tryz.func246.trans (congrArg some (by kernel_rfl))⟩
 f25:=⟨Tryz.f247.name,by decide,Tryz.func247.trans (congrArg some (by kernel_rfl))⟩
 f26:=⟨Tryz.f248.name,by decide,Tryz.func248.trans (congrArg some (by kernel_rfl))⟩
 f27:=⟨Tryz.f249.name,by decide,Tryz.func249.trans (congrArg some (by kernel_rfl))⟩
 f28:=⟨Tryz.f250.name,by decide,Tryz.func250.trans (congrArg some (by kernel_rfl))⟩
 f29:=⟨Tryz.f251.name,by decide,Tryz.func251.trans (congrArg some (by kernel_rfl))⟩
 f31:=Tryz.func265.trans (congrArg some (by kernel_rfl))
 f32:=Tryz.func266.trans (congrArg some (by kernel_rfl))
 f36:=⟨Tryz.f298.name,by decide,Tryz.func298.trans (congrArg some (by kernel_rfl))⟩
 f37:=⟨Tryz.f299.name,by decide,Tryz.func299.trans (congrArg some (by kernel_rfl))⟩
 f38:=⟨Tryz.f300.name,by decide,Tryz.func300.trans (congrArg some (by kernel_rfl))⟩
 f39:=⟨Tryz.f301.name,by decide,Tryz.func301.trans (congrArg some (by kernel_rfl))⟩
 f41:=⟨Tryz.f333.name,by decide,Tryz.func333.trans (congrArg some (by kernel_rfl))⟩
 t0:=Tryz.underlying0
 a0:=Tryz.isAgg0
 z0:=Tryz.sizeOf0
 v0:=Tryz.zeroValue0
 t3:=Tryz.underlying3
 a3:=Tryz.isAgg3
 z3:=Tryz.sizeOf3
 v3:=Tryz.zeroValue3
 t4:=Tryz.underlying4
 a4:=Tryz.isAgg4
 z4:=Tryz.sizeOf4
 v4:=Tryz.zeroValue4
 t5:=Tryz.underlying5
 a5:=Tryz.isAgg5
 z5:=Tryz.sizeOf5
 v5:=Tryz.zeroValue5
 t9:=Tryz.underlying9
 a9:=Tryz.isAgg9
 z9:=Tryz.sizeOf9
 v9:=Tryz.zeroValue9
 t26:=Tryz.underlying31
 a26:=Tryz.isAgg31
 z26:=Tryz.sizeOf31
 v26:=Tryz.zeroValue31
 t27:=Tryz.underlying31
 a27:=Tryz.isAgg31
 z27:=Tryz.sizeOf31
 v27:=Tryz.zeroValue31
 t29:=Tryz.underlying9
 a29:=Tryz.isAgg9
 z29:=Tryz.sizeOf9
 v29:=Tryz.zeroValue9
 t32:=Tryz.underlying241
 a32:=Tryz.isAgg241
 z32:=Tryz.sizeOf241
 v32:=Tryz.zeroValue241
 t35:=Tryz.underlying291
 a35:=Tryz.isAgg291
 z35:=Tryz.sizeOf291
 v35:=Tryz.zeroValue291
 t36:=Tryz.underlying292
 a36:=Tryz.isAgg292
 z36:=Tryz.sizeOf292
 v36:=Tryz.zeroValue292
 t41:=Tryz.underlying194
 a41:=Tryz.isAgg194
 z41:=Tryz.sizeOf194
 v41:=Tryz.zeroValue194
 t44:=Tryz.underlying298
 a44:=Tryz.isAgg298
 z44:=Tryz.sizeOf298
 v44:=Tryz.zeroValue298
 t46:=Tryz.underlying300
 a46:=Tryz.isAgg300
 z46:=Tryz.sizeOf300
 v46:=Tryz.zeroValue300
 t53:=Tryz.underlying337
 a53:=Tryz.isAgg337
 z53:=Tryz.sizeOf337
 v53:=Tryz.zeroValue337
 t57:=Tryz.underlying341
 a57:=Tryz.isAgg341
 z57:=Tryz.sizeOf341
 v57:=Tryz.zeroValue341
 t63:=Tryz.underlying368
 a63:=Tryz.isAgg368
 z63:=Tryz.sizeOf368
 v63:=Tryz.zeroValue368
 t64:=Tryz.underlying369
 a64:=Tryz.isAgg369
 z64:=Tryz.sizeOf369
 v64:=Tryz.zeroValue369 }
def Tryz.sortReceipt_ren:Go.Shelf.Ren:=⟨fun|6=>143|15=>150|14=>201|28=>212|29=>213|20=>256|21=>257|22=>258|23=>259|24=>260|25=>261|26=>262|27=>263|46=>303|47=>265|48=>266|49=>304|50=>305|57=>335|n=>n,fun|22=>70|24=>72|25=>236|3=>3|39=>241|0=>0|53=>298|55=>300|4=>4|46=>292|45=>291|50=>194|5=>5|9=>9|66=>337|70=>341|76=>368|77=>369|n=>n,fun|n=>n⟩
def Tryz.sortDebt_ren:Go.Shelf.Ren:=⟨fun|6=>111|15=>150|14=>182|28=>212|29=>213|20=>232|21=>233|22=>234|23=>235|24=>236|25=>237|26=>238|27=>239|46=>292|47=>265|48=>266|49=>293|50=>294|57=>323|n=>n,fun|22=>73|24=>77|25=>199|3=>3|39=>241|0=>0|53=>298|55=>300|4=>4|46=>292|45=>291|50=>194|5=>5|9=>9|66=>337|70=>341|76=>368|77=>369|n=>n,fun|n=>n⟩
def Tryz.growEntry_ren:Go.Shelf.Ren:=⟨fun|4=>177|n=>n,fun|22=>46|25=>60|3=>3|4=>4|9=>9|20=>20|0=>0|n=>n,fun|n=>n⟩
theorem Tryz.growEntry:Go.Proofs.Lays8.n4 Tryz.prog Tryz.growEntry_ren:={
 mixed:=by kernel_rfl
 f4:=⟨Tryz.f177.name,by decide,Tryz.func177.trans (congrArg some (by kernel_rfl))⟩
 t0:=Tryz.underlying0
 a0:=Tryz.isAgg0
 z0:=Tryz.sizeOf0
 v0:=Tryz.zeroValue0
 t3:=Tryz.underlying3
 a3:=Tryz.isAgg3
 z3:=Tryz.sizeOf3
 v3:=Tryz.zeroValue3
 t4:=Tryz.underlying4
 a4:=Tryz.isAgg4
 z4:=Tryz.sizeOf4
 v4:=Tryz.zeroValue4
 t9:=Tryz.underlying9
 a9:=Tryz.isAgg9
 z9:=Tryz.sizeOf9
 v9:=Tryz.zeroValue9
 t20:=Tryz.underlying20
 a20:=Tryz.isAgg20
 z20:=Tryz.sizeOf20
 v20:=Tryz.zeroValue20
 t22:=Tryz.underlying46
 a22:=Tryz.isAgg46
 z22:=Tryz.sizeOf46
 v22:=Tryz.zeroValue46 }
def Tryz.growAlert_ren:Go.Shelf.Ren:=⟨fun|4=>186|n=>n,fun|22=>29|25=>34|3=>3|4=>4|9=>9|20=>20|0=>0|n=>n,fun|n=>n⟩
def Tryz.growReceipt_ren:Go.Shelf.Ren:=⟨fun|4=>200|n=>n,fun|22=>70|25=>72|3=>3|4=>4|9=>9|20=>20|0=>0|n=>n,fun|n=>n⟩
end Go.Proofs
