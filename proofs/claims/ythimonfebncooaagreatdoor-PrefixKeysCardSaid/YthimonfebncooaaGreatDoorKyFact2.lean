/- The closed facts of the row, by the kernel, one at a time. -/
import Derived.Test.YthimonfebncooaaGreatDoorRows
import Derived.JoinedOf
import Derived.WalkKit
namespace Go.Proofs.YthimonfebncooaaGreatDoor.prefixKeys
open Go
set_option linter.unusedVariables false
set_option maxRecDepth 100000
theorem limb10 : (fun (P : Program) (f : FuncId) (fn : Func) (s : ChangeSpec) (c : OpenClaim) => (c.unfollowed == P.unfollowed f)) Tryz.prog 3 Tryz.f3 (OpenSpec.ofChange Rows.prefixKeysSpec).bare Rows.prefixKeysRow = true := by kernel_rfl
theorem limb11 : (fun (P : Program) (f : FuncId) (fn : Func) (s : ChangeSpec) (c : OpenClaim) => (c.recurses == P.recurses f)) Tryz.prog 3 Tryz.f3 (OpenSpec.ofChange Rows.prefixKeysSpec).bare Rows.prefixKeysRow = true := by kernel_rfl
theorem limb12 : (fun (P : Program) (f : FuncId) (fn : Func) (s : ChangeSpec) (c : OpenClaim) => (c.named == P.varsNamed f)) Tryz.prog 3 Tryz.f3 (OpenSpec.ofChange Rows.prefixKeysSpec).bare Rows.prefixKeysRow = true := by kernel_rfl
theorem limb19 : (fun (P : Program) (f : FuncId) (fn : Func) (s : ChangeSpec) (c : OpenClaim) => fn.resultTypes.all (fun t => P.readableRec t && decide (t < P.types.size))) Tryz.prog 3 Tryz.f3 (OpenSpec.ofChange Rows.prefixKeysSpec).bare Rows.prefixKeysRow = true := by kernel_rfl
theorem limb20 : (fun (P : Program) (f : FuncId) (fn : Func) (s : ChangeSpec) (c : OpenClaim) => (c.ifacesOut == fn.resultTypes.toList.any (P.ifacesRec ·))) Tryz.prog 3 Tryz.f3 (OpenSpec.ofChange Rows.prefixKeysSpec).bare Rows.prefixKeysRow = true := by kernel_rfl
theorem limb21 : (fun (P : Program) (f : FuncId) (fn : Func) (s : ChangeSpec) (c : OpenClaim) => (c.loopsOut == fn.resultTypes.toList.any (P.loopsFrom ·))) Tryz.prog 3 Tryz.f3 (OpenSpec.ofChange Rows.prefixKeysSpec).bare Rows.prefixKeysRow = true := by kernel_rfl
theorem limb22 : (fun (P : Program) (f : FuncId) (fn : Func) (s : ChangeSpec) (c : OpenClaim) => (c.plainKeys == P.plainKeys)) Tryz.prog 3 Tryz.f3 (OpenSpec.ofChange Rows.prefixKeysSpec).bare Rows.prefixKeysRow = true := by kernel_rfl
theorem limb23 : (fun (P : Program) (f : FuncId) (fn : Func) (s : ChangeSpec) (c : OpenClaim) => c.shortTexts.isNone) Tryz.prog 3 Tryz.f3 (OpenSpec.ofChange Rows.prefixKeysSpec).bare Rows.prefixKeysRow = true := by kernel_rfl
end Go.Proofs.YthimonfebncooaaGreatDoor.prefixKeys
