/- The functions' regions come in order: checked by the kernel, a few functions at a time. -/
import Derived.Test.YthimonfebncooaaGreatDoorProg
import Derived.Test.YthimonfebncooaaGreatDoorExOk
namespace Go.Proofs.Tryz
open Go Go.Ex
set_option maxRecDepth 1000000
theorem okAt84 : fnsOk ((prog.funcs.toList.drop 84).take 14) = true := by decide +kernel
theorem okAt98 : fnsOk ((prog.funcs.toList.drop 98).take 14) = true := by decide +kernel
theorem okAt112 : fnsOk ((prog.funcs.toList.drop 112).take 14) = true := by decide +kernel
theorem okAt126 : fnsOk ((prog.funcs.toList.drop 126).take 14) = true := by decide +kernel
theorem okAt140 : fnsOk ((prog.funcs.toList.drop 140).take 14) = true := by decide +kernel
theorem okAt154 : fnsOk ((prog.funcs.toList.drop 154).take 14) = true := by decide +kernel
end Go.Proofs.Tryz
