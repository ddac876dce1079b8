/- The closed facts of the row, by the kernel, one at a time. -/
import Derived.Test.YthimonfebncooaaGreatDoorRows
import Derived.JoinedOf
import Derived.WalkKit
namespace Go.Proofs.YthimonfebncooaaGreatDoor.prefixKeys
open Go
set_option linter.unusedVariables false
set_option maxRecDepth 100000
theorem limb9 : (fun (P : Program) (f : FuncId) (fn : Func) (s : ChangeSpec) (c : OpenClaim) => (c.inPlace == P.inPlace f)) Tryz.prog 3 Tryz.f3 (OpenSpec.ofChange Rows.prefixKeysSpec).bare Rows.prefixKeysRow = true := by kernel_rfl
theorem limb14 : (fun (P : Program) (f : FuncId) (fn : Func) (s : ChangeSpec) (c : OpenClaim) => (c.ifaces == (fn.params.toList ++ s.plain.varTypes P).any (P.ifacesRec ·))) Tryz.prog 3 Tryz.f3 (OpenSpec.ofChange Rows.prefixKeysSpec).bare Rows.prefixKeysRow = true := by kernel_rfl
theorem limb15 : (fun (P : Program) (f : FuncId) (fn : Func) (s : ChangeSpec) (c : OpenClaim) => (c.mapsOut == P.mapsAmong fn.resultTypes.toList)) Tryz.prog 3 Tryz.f3 (OpenSpec.ofChange Rows.prefixKeysSpec).bare Rows.prefixKeysRow = true := by kernel_rfl
theorem limb16 : (fun (P : Program) (f : FuncId) (fn : Func) (s : ChangeSpec) (c : OpenClaim) => (c.loops == (fn.params.toList ++ s.plain.varTypes P).any (P.loopsFrom ·))) Tryz.prog 3 Tryz.f3 (OpenSpec.ofChange Rows.prefixKeysSpec).bare Rows.prefixKeysRow = true := by kernel_rfl
theorem limb17 : (fun (P : Program) (f : FuncId) (fn : Func) (s : ChangeSpec) (c : OpenClaim) => (c.wideKeys == (fn.params.toList ++ s.plain.varTypes P ++ fn.resultTypes.toList).any (P.wideKeysFrom ·))) Tryz.prog 3 Tryz.f3 (OpenSpec.ofChange Rows.prefixKeysSpec).bare Rows.prefixKeysRow = true := by kernel_rfl
theorem limb18 : (fun (P : Program) (f : FuncId) (fn : Func) (s : ChangeSpec) (c : OpenClaim) => s.vars.all (P.varReadable ·)) Tryz.prog 3 Tryz.f3 (OpenSpec.ofChange Rows.prefixKeysSpec).bare Rows.prefixKeysRow = true := by kernel_rfl
end Go.Proofs.YthimonfebncooaaGreatDoor.prefixKeys
