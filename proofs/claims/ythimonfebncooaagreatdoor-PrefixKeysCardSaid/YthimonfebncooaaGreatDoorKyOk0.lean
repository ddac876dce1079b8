/- The functions' regions come in order: checked by the kernel, a few functions at a time. -/
import Derived.Test.YthimonfebncooaaGreatDoorProg
import Derived.Test.YthimonfebncooaaGreatDoorExOk
namespace Go.Proofs.Tryz
open Go Go.Ex
set_option maxRecDepth 1000000
theorem okAt0 : fnsOk ((prog.funcs.toList.drop 0).take 14) = true := by decide +kernel
theorem okAt14 : fnsOk ((prog.funcs.toList.drop 14).take 14) = true := by decide +kernel
theorem okAt28 : fnsOk ((prog.funcs.toList.drop 28).take 14) = true := by decide +kernel
theorem okAt42 : fnsOk ((prog.funcs.toList.drop 42).take 14) = true := by decide +kernel
theorem okAt56 : fnsOk ((prog.funcs.toList.drop 56).take 14) = true := by decide +kernel
theorem okAt70 : fnsOk ((prog.funcs.toList.drop 70).take 14) = true := by decide +kernel
end Go.Proofs.Tryz
