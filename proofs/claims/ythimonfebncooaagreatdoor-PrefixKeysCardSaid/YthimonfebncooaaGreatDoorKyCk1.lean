/- The run of entry 1, by the kernel. -/
import Derived.Test.YthimonfebncooaaGreatDoorProg
import Derived.Test.YthimonfebncooaaGreatDoorKyEnts
namespace Go.Proofs.Tryz
open Go Go.Ex
set_option maxRecDepth 1000000
theorem ck1 : chkEnt prog [] 100 ent1 = true := by decide +kernel
end Go.Proofs.Tryz
