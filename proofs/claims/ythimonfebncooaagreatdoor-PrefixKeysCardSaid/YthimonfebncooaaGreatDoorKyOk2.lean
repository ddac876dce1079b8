/- The functions' regions come in order: checked by the kernel, a few functions at a time. -/
import Derived.Test.YthimonfebncooaaGreatDoorProg
import Derived.Test.YthimonfebncooaaGreatDoorExOk
namespace Go.Proofs.Tryz
open Go Go.Ex
set_option maxRecDepth 1000000
theorem okAt168 : fnsOk ((prog.funcs.toList.drop 168).take 14) = true := by decide +kernel
theorem okAt182 : fnsOk ((prog.funcs.toList.drop 182).take 14) = true := by decide +kernel
theorem okAt196 : fnsOk ((prog.funcs.toList.drop 196).take 14) = true := by decide +kernel
theorem okAt210 : fnsOk ((prog.funcs.toList.drop 210).take 14) = true := by decide +kernel
theorem okAt224 : fnsOk ((prog.funcs.toList.drop 224).take 14) = true := by decide +kernel
theorem okAt238 : fnsOk ((prog.funcs.toList.drop 238).take 14) = true := by decide +kernel
end Go.Proofs.Tryz
