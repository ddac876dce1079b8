/- The closed facts of the row, by the kernel, one at a time. -/
import Derived.Test.YthimonfebncooaaGreatDoorRows
import Derived.JoinedOf
import Derived.WalkKit
namespace Go.Proofs.YthimonfebncooaaGreatDoor.prefixKeys
open Go
set_option linter.unusedVariables false
set_option maxRecDepth 100000
theorem limb24 : (fun (P : Program) (f : FuncId) (fn : Func) (s : ChangeSpec) (c : OpenClaim) => P.stopsHeard) Tryz.prog 3 Tryz.f3 (OpenSpec.ofChange Rows.prefixKeysSpec).bare Rows.prefixKeysRow = true := by kernel_rfl
theorem limb25 : (fun (P : Program) (f : FuncId) (fn : Func) (s : ChangeSpec) (c : OpenClaim) => P.mayEnter) Tryz.prog 3 Tryz.f3 (OpenSpec.ofChange Rows.prefixKeysSpec).bare Rows.prefixKeysRow = true := by kernel_rfl
theorem limb26 : (fun (P : Program) (f : FuncId) (fn : Func) (s : ChangeSpec) (c : OpenClaim) => (c.lifted == P.liftsFinal)) Tryz.prog 3 Tryz.f3 (OpenSpec.ofChange Rows.prefixKeysSpec).bare Rows.prefixKeysRow = true := by kernel_rfl
theorem limb27 : (fun (P : Program) (f : FuncId) (fn : Func) (s : ChangeSpec) (c : OpenClaim) => (P.make == some c.make)) Tryz.prog 3 Tryz.f3 (OpenSpec.ofChange Rows.prefixKeysSpec).bare Rows.prefixKeysRow = true := by kernel_rfl
theorem limb28 : (fun (P : Program) (f : FuncId) (fn : Func) (s : ChangeSpec) (c : OpenClaim) => (c.kinds == (if c.domain.isEmpty then [] else fn.params.toList.map fun t => match P.underlying t with | some (.int k) => some k | _ => none))) Tryz.prog 3 Tryz.f3 (OpenSpec.ofChange Rows.prefixKeysSpec).bare Rows.prefixKeysRow = true := by kernel_rfl
theorem limb29 : (fun (P : Program) (f : FuncId) (fn : Func) (s : ChangeSpec) (c : OpenClaim) => (c.pinned == c.pinnedBy)) Tryz.prog 3 Tryz.f3 (OpenSpec.ofChange Rows.prefixKeysSpec).bare Rows.prefixKeysRow = true := by kernel_rfl
theorem limb30 : (fun (P : Program) (f : FuncId) (fn : Func) (s : ChangeSpec) (c : OpenClaim) => (c.veiled == (fn.params.toList ++ s.plain.varTypes P ++ fn.resultTypes.toList).any (P.veiledRec ·))) Tryz.prog 3 Tryz.f3 (OpenSpec.ofChange Rows.prefixKeysSpec).bare Rows.prefixKeysRow = true := by kernel_rfl
theorem limb31 : (fun (P : Program) (f : FuncId) (fn : Func) (s : ChangeSpec) (c : OpenClaim) => c.veiledFits P fn.params.toList (fn.params.toList ++ s.plain.varTypes P ++ fn.resultTypes.toList)) Tryz.prog 3 Tryz.f3 (OpenSpec.ofChange Rows.prefixKeysSpec).bare Rows.prefixKeysRow = true := by kernel_rfl
end Go.Proofs.YthimonfebncooaaGreatDoor.prefixKeys
