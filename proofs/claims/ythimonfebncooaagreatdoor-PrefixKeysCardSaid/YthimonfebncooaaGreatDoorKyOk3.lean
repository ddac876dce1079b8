/- The functions' regions come in order: checked by the kernel, a few functions at a time. -/
import Derived.Test.YthimonfebncooaaGreatDoorProg
import Derived.Test.YthimonfebncooaaGreatDoorExOk
namespace Go.Proofs.Tryz
open Go Go.Ex
set_option maxRecDepth 1000000
theorem okAt252 : fnsOk ((prog.funcs.toList.drop 252).take 14) = true := by decide +kernel
theorem okAt266 : fnsOk ((prog.funcs.toList.drop 266).take 14) = true := by decide +kernel
theorem okAt280 : fnsOk ((prog.funcs.toList.drop 280).take 14) = true := by decide +kernel
theorem okAt294 : fnsOk ((prog.funcs.toList.drop 294).take 14) = true := by decide +kernel
theorem okAt308 : fnsOk ((prog.funcs.toList.drop 308).take 14) = true := by decide +kernel
theorem okAt322 : fnsOk ((prog.funcs.toList.drop 322).take 14) = true := by decide +kernel
end Go.Proofs.Tryz
