/- The closed facts of the row, by the kernel, one at a time. -/
import Derived.Test.YthimonfebncooaaGreatDoorRows
import Derived.JoinedOf
import Derived.WalkKit
namespace Go.Proofs.YthimonfebncooaaGreatDoor.prefixKeys
open Go
set_option linter.unusedVariables false
set_option maxRecDepth 100000
theorem limb0 : (fun (P : Program) (f : FuncId) (fn : Func) (s : ChangeSpec) (c : OpenClaim) => c.wf (OpenSpec.ofChange s)) Tryz.prog 3 Tryz.f3 (OpenSpec.ofChange Rows.prefixKeysSpec).bare Rows.prefixKeysRow = true := by kernel_rfl
theorem limb1 : (fun (P : Program) (f : FuncId) (fn : Func) (s : ChangeSpec) (c : OpenClaim) => laidOutB P) Tryz.prog 3 Tryz.f3 (OpenSpec.ofChange Rows.prefixKeysSpec).bare Rows.prefixKeysRow = true := by kernel_rfl
theorem limb2 : (fun (P : Program) (f : FuncId) (fn : Func) (s : ChangeSpec) (c : OpenClaim) => mapsRowed P) Tryz.prog 3 Tryz.f3 (OpenSpec.ofChange Rows.prefixKeysSpec).bare Rows.prefixKeysRow = true := by kernel_rfl
theorem limb3 : (fun (P : Program) (f : FuncId) (fn : Func) (s : ChangeSpec) (c : OpenClaim) => fn.params.all (P.readableRec ·)) Tryz.prog 3 Tryz.f3 (OpenSpec.ofChange Rows.prefixKeysSpec).bare Rows.prefixKeysRow = true := by kernel_rfl
theorem limb4 : (fun (P : Program) (f : FuncId) (fn : Func) (s : ChangeSpec) (c : OpenClaim) => namedTie P c.named s.vars) Tryz.prog 3 Tryz.f3 (OpenSpec.ofChange Rows.prefixKeysSpec).bare Rows.prefixKeysRow = true := by kernel_rfl
theorem limb5 : (fun (P : Program) (f : FuncId) (fn : Func) (s : ChangeSpec) (c : OpenClaim) => (c.stops == [])) Tryz.prog 3 Tryz.f3 (OpenSpec.ofChange Rows.prefixKeysSpec).bare Rows.prefixKeysRow = true := by kernel_rfl
theorem limb6 : (fun (P : Program) (f : FuncId) (fn : Func) (s : ChangeSpec) (c : OpenClaim) => (P.stops == [])) Tryz.prog 3 Tryz.f3 (OpenSpec.ofChange Rows.prefixKeysSpec).bare Rows.prefixKeysRow = true := by kernel_rfl
theorem limb7 : (fun (P : Program) (f : FuncId) (fn : Func) (s : ChangeSpec) (c : OpenClaim) => (c.knobs == [])) Tryz.prog 3 Tryz.f3 (OpenSpec.ofChange Rows.prefixKeysSpec).bare Rows.prefixKeysRow = true := by kernel_rfl
theorem limb8 : (fun (P : Program) (f : FuncId) (fn : Func) (s : ChangeSpec) (c : OpenClaim) => (P.stopKnobs == [])) Tryz.prog 3 Tryz.f3 (OpenSpec.ofChange Rows.prefixKeysSpec).bare Rows.prefixKeysRow = true := by kernel_rfl
theorem limb13 : (fun (P : Program) (f : FuncId) (fn : Func) (s : ChangeSpec) (c : OpenClaim) => (c.maps == (fn.params.toList ++ s.plain.varTypes P).any (P.mapsRec ·))) Tryz.prog 3 Tryz.f3 (OpenSpec.ofChange Rows.prefixKeysSpec).bare Rows.prefixKeysRow = true := by kernel_rfl
end Go.Proofs.YthimonfebncooaaGreatDoor.prefixKeys
