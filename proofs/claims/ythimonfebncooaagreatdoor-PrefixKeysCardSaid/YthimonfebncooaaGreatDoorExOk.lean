/- The check of all functions, in parts. -/
import Derived.Test.YthimonfebncooaaGreatDoorExTab
namespace Go.Ex
theorem fnsOk_append : ∀ {a b : List Func}, fnsOk a = true → fnsOk b = true → fnsOk (a ++ b) = true
  | [], _, _, h => h
  | f :: a, b, h, k => by
    simp only [fnsOk, Bool.and_eq_true] at h
    simp only [List.cons_append, fnsOk, Bool.and_eq_true]
    exact ⟨h.1, fnsOk_append h.2 k⟩
theorem fnsOk_part {l : List Func} (a k : Nat) (h : fnsOk ((l.drop a).take k) = true) (h2 : fnsOk (l.drop (a + k)) = true) : fnsOk (l.drop a) = true := by
  rw [← List.take_append_drop k (l.drop a)]
  refine fnsOk_append h ?_
  rwa [List.drop_drop]
end Go.Ex
