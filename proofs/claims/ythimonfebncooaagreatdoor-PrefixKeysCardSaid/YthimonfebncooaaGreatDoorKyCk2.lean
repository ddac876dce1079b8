/- The run of entry 2, by the kernel. -/
import Derived.Test.YthimonfebncooaaGreatDoorProg
import Derived.Test.YthimonfebncooaaGreatDoorKyEnts
namespace Go.Proofs.Tryz
open Go Go.Ex
set_option maxRecDepth 1000000
theorem ck2 : chkEnt prog [] 100 ent2 = true := by decide +kernel
end Go.Proofs.Tryz
