/- The run of entry 0, by the kernel. -/
import Derived.Test.YthimonfebncooaaGreatDoorProg
import Derived.Test.YthimonfebncooaaGreatDoorKyEnts
namespace Go.Proofs.Tryz
open Go Go.Ex
set_option maxRecDepth 1000000
theorem ck0 : chkEnt prog [] 100 ent0 = true := by decide +kernel
end Go.Proofs.Tryz
