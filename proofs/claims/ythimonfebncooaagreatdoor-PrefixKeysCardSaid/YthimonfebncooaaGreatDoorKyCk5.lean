/- The run of entry 5, by the kernel. -/
import Derived.Test.YthimonfebncooaaGreatDoorProg
import Derived.Test.YthimonfebncooaaGreatDoorKyEnts
namespace Go.Proofs.Tryz
open Go Go.Ex
set_option maxRecDepth 1000000
theorem ck5 : chkEnt prog [ent0, ent1, ent2, ent3, ent4] 100 ent5 = true := by decide +kernel
end Go.Proofs.Tryz
