/- The runs of the law at the clef 28, by the kernel: bounded numbers stand for themselves where they are only compared. -/
import Derived.Test.YthimonfebncooaaGreatDoorProg
import Derived.Test.YthimonfebncooaaGreatDoorExClo
namespace Go.Proofs.Tryz
open Go Go.Ex
set_option maxRecDepth 1000000
theorem out28 : exAll prog 5 100 3 [[.opq 0 (-9223372036854775808) (-8), .opq 1 (-9223372036854775808) 9223372036854775807, .int .i64 (28)], [.opq 0 8 9223372036854775807, .opq 1 (-9223372036854775808) 9223372036854775807, .int .i64 (28)], [.opq 0 (-7) 7, .opq 1 (-9223372036854775808) (-8), .int .i64 (28)], [.opq 0 (-7) 7, .opq 1 8 9223372036854775807, .int .i64 (28)]] = true := by decide +kernel
theorem one28c0 : exAll prog 5 100 3 [[.int .i64 (-7), .opq 1 (-7) 7, .int .i64 (28)], [.int .i64 (-6), .opq 1 (-7) 7, .int .i64 (28)], [.int .i64 (-5), .opq 1 (-7) 7, .int .i64 (28)], [.int .i64 (-4), .opq 1 (-7) 7, .int .i64 (28)], [.int .i64 (-3), .opq 1 (-7) 7, .int .i64 (28)]] = true := by decide +kernel
theorem one28c5 : exAll prog 5 100 3 [[.int .i64 (-2), .opq 1 (-7) 7, .int .i64 (28)], [.int .i64 (-1), .opq 1 (-7) 7, .int .i64 (28)], [.int .i64 (1), .opq 1 (-7) 7, .int .i64 (28)], [.int .i64 (2), .opq 1 (-7) 7, .int .i64 (28)], [.int .i64 (3), .opq 1 (-7) 7, .int .i64 (28)]] = true := by decide +kernel
theorem one28c10 : exAll prog 5 100 3 [[.int .i64 (4), .opq 1 (-7) 7, .int .i64 (28)], [.int .i64 (5), .opq 1 (-7) 7, .int .i64 (28)], [.int .i64 (6), .opq 1 (-7) 7, .int .i64 (28)], [.int .i64 (7), .opq 1 (-7) 7, .int .i64 (28)]] = true := by decide +kernel
theorem non28c0 : exAll prog 5 100 3 [[.int .i64 (0), .int .i64 (-7), .int .i64 (28)], [.int .i64 (0), .int .i64 (-6), .int .i64 (28)], [.int .i64 (0), .int .i64 (-5), .int .i64 (28)], [.int .i64 (0), .int .i64 (-4), .int .i64 (28)], [.int .i64 (0), .int .i64 (-3), .int .i64 (28)]] = true := by decide +kernel
theorem non28c5 : exAll prog 5 100 3 [[.int .i64 (0), .int .i64 (-2), .int .i64 (28)], [.int .i64 (0), .int .i64 (-1), .int .i64 (28)], [.int .i64 (0), .int .i64 (0), .int .i64 (28)], [.int .i64 (0), .int .i64 (1), .int .i64 (28)], [.int .i64 (0), .int .i64 (2), .int .i64 (28)]] = true := by decide +kernel
theorem non28c10 : exAll prog 5 100 3 [[.int .i64 (0), .int .i64 (3), .int .i64 (28)], [.int .i64 (0), .int .i64 (4), .int .i64 (28)], [.int .i64 (0), .int .i64 (5), .int .i64 (28)], [.int .i64 (0), .int .i64 (6), .int .i64 (28)], [.int .i64 (0), .int .i64 (7), .int .i64 (28)]] = true := by decide +kernel
theorem one28 (f : Int) (h1 : -7 ≤ f) (h2 : f ≤ 7) (h3 : f ≠ 0) : exRun prog 5 100 3 [.int .i64 f, .opq 1 (-7) 7, .int .i64 (28)] = true := by
  have h : f = -7 ∨ f = -6 ∨ f = -5 ∨ f = -4 ∨ f = -3 ∨ f = -2 ∨ f = -1 ∨ f = 1 ∨ f = 2 ∨ f = 3 ∨ f = 4 ∨ f = 5 ∨ f = 6 ∨ f = 7 := by omega
  rcases h with rfl | rfl | rfl | rfl | rfl | rfl | rfl | rfl | rfl | rfl | rfl | rfl | rfl | rfl
  · exact exAll_mem one28c0 _ (.head _)
  · exact exAll_mem one28c0 _ (.tail _ (.head _))
  · exact exAll_mem one28c0 _ (.tail _ (.tail _ (.head _)))
  · exact exAll_mem one28c0 _ (.tail _ (.tail _ (.tail _ (.head _))))
  · exact exAll_mem one28c0 _ (.tail _ (.tail _ (.tail _ (.tail _ (.head _)))))
  · exact exAll_mem one28c5 _ (.head _)
  · exact exAll_mem one28c5 _ (.tail _ (.head _))
  · exact exAll_mem one28c5 _ (.tail _ (.tail _ (.head _)))
  · exact exAll_mem one28c5 _ (.tail _ (.tail _ (.tail _ (.head _))))
  · exact exAll_mem one28c5 _ (.tail _ (.tail _ (.tail _ (.tail _ (.head _)))))
  · exact exAll_mem one28c10 _ (.head _)
  · exact exAll_mem one28c10 _ (.tail _ (.head _))
  · exact exAll_mem one28c10 _ (.tail _ (.tail _ (.head _)))
  · exact exAll_mem one28c10 _ (.tail _ (.tail _ (.tail _ (.head _))))
theorem non28 (b : Int) (h1 : -7 ≤ b) (h2 : b ≤ 7) : exRun prog 5 100 3 [.int .i64 (0), .int .i64 b, .int .i64 (28)] = true := by
  have h : b = -7 ∨ b = -6 ∨ b = -5 ∨ b = -4 ∨ b = -3 ∨ b = -2 ∨ b = -1 ∨ b = 0 ∨ b = 1 ∨ b = 2 ∨ b = 3 ∨ b = 4 ∨ b = 5 ∨ b = 6 ∨ b = 7 := by omega
  rcases h with rfl | rfl | rfl | rfl | rfl | rfl | rfl | rfl | rfl | rfl | rfl | rfl | rfl | rfl | rfl
  · exact exAll_mem non28c0 _ (.head _)
  · exact exAll_mem non28c0 _ (.tail _ (.head _))
  · exact exAll_mem non28c0 _ (.tail _ (.tail _ (.head _)))
  · exact exAll_mem non28c0 _ (.tail _ (.tail _ (.tail _ (.head _))))
  · exact exAll_mem non28c0 _ (.tail _ (.tail _ (.tail _ (.tail _ (.head _)))))
  · exact exAll_mem non28c5 _ (.head _)
  · exact exAll_mem non28c5 _ (.tail _ (.head _))
  · exact exAll_mem non28c5 _ (.tail _ (.tail _ (.head _)))
  · exact exAll_mem non28c5 _ (.tail _ (.tail _ (.tail _ (.head _))))
  · exact exAll_mem non28c5 _ (.tail _ (.tail _ (.tail _ (.tail _ (.head _)))))
  · exact exAll_mem non28c10 _ (.head _)
  · exact exAll_mem non28c10 _ (.tail _ (.head _))
  · exact exAll_mem non28c10 _ (.tail _ (.tail _ (.head _)))
  · exact exAll_mem non28c10 _ (.tail _ (.tail _ (.tail _ (.head _))))
  · exact exAll_mem non28c10 _ (.tail _ (.tail _ (.tail _ (.tail _ (.head _)))))
end Go.Proofs.Tryz
