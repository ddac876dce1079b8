/- The law's text returns true at any three numbers. -/
import Derived.Test.YthimonfebncooaaGreatDoorKyHeads
import Derived.Test.YthimonfebncooaaGreatDoorKyRun26
import Derived.Test.YthimonfebncooaaGreatDoorKyRun27
import Derived.Test.YthimonfebncooaaGreatDoorKyRun28
import Derived.Test.YthimonfebncooaaGreatDoorKyRun29
namespace Go.Proofs.Tryz
open Go Go.Ex
set_option maxRecDepth 1000000
theorem outClef : exAll prog 5 100 3 [[.opq 0 (-9223372036854775808) 9223372036854775807, .opq 1 (-9223372036854775808) 9223372036854775807, .opq 2 (-9223372036854775808) 25], [.opq 0 (-9223372036854775808) 9223372036854775807, .opq 1 (-9223372036854775808) 9223372036854775807, .opq 2 30 9223372036854775807]] = true := by decide +kernel
theorem headsOK : HeadsOK prog 5 := heads_of_ent (e := ent5) entOK5 rfl rfl rfl

def val3 (a b c : Int) : Nat → Int
  | 0 => a
  | 1 => b
  | _ => c

theorem law_of {args : List SV} (hr : exRun prog 5 100 3 args = true) (a b c : Int) (hv : renL (mu0 (val3 a b c)) args = some [.int .i64 a, .int .i64 b, .int .i64 c]) (w : World) :
    Calls prog 3 #[.int .i64 a, .int .i64 b, .int .i64 c] w fun e w' => e = .returned (.bool true) ∧ RowKit.Below w.heap.size w w' :=
  (exRun_ok mixed okAll headsOK hr hv w).mono fun _ _ ⟨h, _, st⟩ => ⟨h, step_below st⟩

theorem ren_opq (v : Nat → Int) (i : Nat) (lo hi : Int) (h1 : lo ≤ v i) (h2 : v i ≤ hi) : ren (mu0 v) (.opq i lo hi) = some (.int .i64 (v i)) := by
  simp only [ren]
  exact if_pos ⟨h1, h2⟩
theorem ren3 {v : Nat → Int} {x y z : SV} {a b c : Value} (h1 : ren (mu0 v) x = some a) (h2 : ren (mu0 v) y = some b) (h3 : ren (mu0 v) z = some c) : renL (mu0 v) [x, y, z] = some [a, b, c] := by
  simp only [renL, h1, h2, h3]

theorem law_walk (a b c : Int) (a1 : (-9223372036854775808) ≤ a) (a2 : a ≤ 9223372036854775807) (b1 : (-9223372036854775808) ≤ b) (b2 : b ≤ 9223372036854775807) (c1 : (-9223372036854775808) ≤ c) (c2 : c ≤ 9223372036854775807) (w : World) :
    Calls prog 3 #[.int .i64 a, .int .i64 b, .int .i64 c] w fun e w' => e = .returned (.bool true) ∧ RowKit.Below w.heap.size w w' := by
  by_cases h25 : c ≤ 25
  · exact law_of (exAll_mem outClef _ (List.mem_cons_self ..)) a b c (ren3 (ren_opq _ 0 _ _ a1 a2) (ren_opq _ 1 _ _ b1 b2) (ren_opq _ 2 _ _ c1 h25)) w
  by_cases h30 : 30 ≤ c
  · exact law_of (exAll_mem outClef _ (List.mem_cons_of_mem _ (List.mem_cons_self ..))) a b c (ren3 (ren_opq _ 0 _ _ a1 a2) (ren_opq _ 1 _ _ b1 b2) (ren_opq _ 2 _ _ h30 c2)) w
  have hc : c = 26 ∨ c = 27 ∨ c = 28 ∨ c = 29 := by omega
  rcases hc with rfl | rfl | rfl | rfl
  · by_cases f1 : a ≤ -8
    · exact law_of (exAll_mem out26 _ (List.mem_cons_self ..)) a b 26 (ren3 (ren_opq _ 0 _ _ a1 f1) (ren_opq _ 1 _ _ b1 b2) rfl) w
    by_cases f2 : 8 ≤ a
    · exact law_of (exAll_mem out26 _ (List.mem_cons_of_mem _ (List.mem_cons_self ..))) a b 26 (ren3 (ren_opq _ 0 _ _ f2 a2) (ren_opq _ 1 _ _ b1 b2) rfl) w
    have f1 : -7 ≤ a := by omega
    have f2 : a ≤ 7 := by omega
    by_cases g1 : b ≤ -8
    · exact law_of (exAll_mem out26 _ (List.mem_cons_of_mem _ (List.mem_cons_of_mem _ (List.mem_cons_self ..)))) a b 26 (ren3 (ren_opq _ 0 _ _ f1 f2) (ren_opq _ 1 _ _ b1 g1) rfl) w
    by_cases g2 : 8 ≤ b
    · exact law_of (exAll_mem out26 _ (List.mem_cons_of_mem _ (List.mem_cons_of_mem _ (List.mem_cons_of_mem _ (List.mem_cons_self ..))))) a b 26 (ren3 (ren_opq _ 0 _ _ f1 f2) (ren_opq _ 1 _ _ g2 b2) rfl) w
    have g1 : -7 ≤ b := by omega
    have g2 : b ≤ 7 := by omega
    by_cases h0 : a = 0
    · subst h0
      exact law_of (non26 b g1 g2) 0 b 26 (ren3 rfl rfl rfl) w
    · exact law_of (one26 a f1 f2 h0) a b 26 (ren3 rfl (ren_opq _ 1 _ _ g1 g2) rfl) w
  · by_cases f1 : a ≤ -8
    · exact law_of (exAll_mem out27 _ (List.mem_cons_self ..)) a b 27 (ren3 (ren_opq _ 0 _ _ a1 f1) (ren_opq _ 1 _ _ b1 b2) rfl) w
    by_cases f2 : 8 ≤ a
    · exact law_of (exAll_mem out27 _ (List.mem_cons_of_mem _ (List.mem_cons_self ..))) a b 27 (ren3 (ren_opq _ 0 _ _ f2 a2) (ren_opq _ 1 _ _ b1 b2) rfl) w
    have f1 : -7 ≤ a := by omega
    have f2 : a ≤ 7 := by omega
    by_cases g1 : b ≤ -8
    · exact law_of (exAll_mem out27 _ (List.mem_cons_of_mem _ (List.mem_cons_of_mem _ (List.mem_cons_self ..)))) a b 27 (ren3 (ren_opq _ 0 _ _ f1 f2) (ren_opq _ 1 _ _ b1 g1) rfl) w
    by_cases g2 : 8 ≤ b
    · exact law_of (exAll_mem out27 _ (List.mem_cons_of_mem _ (List.mem_cons_of_mem _ (List.mem_cons_of_mem _ (List.mem_cons_self ..))))) a b 27 (ren3 (ren_opq _ 0 _ _ f1 f2) (ren_opq _ 1 _ _ g2 b2) rfl) w
    have g1 : -7 ≤ b := by omega
    have g2 : b ≤ 7 := by omega
    by_cases h0 : a = 0
    · subst h0
      exact law_of (non27 b g1 g2) 0 b 27 (ren3 rfl rfl rfl) w
    · exact law_of (one27 a f1 f2 h0) a b 27 (ren3 rfl (ren_opq _ 1 _ _ g1 g2) rfl) w
  · by_cases f1 : a ≤ -8
    · exact law_of (exAll_mem out28 _ (List.mem_cons_self ..)) a b 28 (ren3 (ren_opq _ 0 _ _ a1 f1) (ren_opq _ 1 _ _ b1 b2) rfl) w
    by_cases f2 : 8 ≤ a
    · exact law_of (exAll_mem out28 _ (List.mem_cons_of_mem _ (List.mem_cons_self ..))) a b 28 (ren3 (ren_opq _ 0 _ _ f2 a2) (ren_opq _ 1 _ _ b1 b2) rfl) w
    have f1 : -7 ≤ a := by omega
    have f2 : a ≤ 7 := by omega
    by_cases g1 : b ≤ -8
    · exact law_of (exAll_mem out28 _ (List.mem_cons_of_mem _ (List.mem_cons_of_mem _ (List.mem_cons_self ..)))) a b 28 (ren3 (ren_opq _ 0 _ _ f1 f2) (ren_opq _ 1 _ _ b1 g1) rfl) w
    by_cases g2 : 8 ≤ b
    · exact law_of (exAll_mem out28 _ (List.mem_cons_of_mem _ (List.mem_cons_of_mem _ (List.mem_cons_of_mem _ (List.mem_cons_self ..))))) a b 28 (ren3 (ren_opq _ 0 _ _ f1 f2) (ren_opq _ 1 _ _ g2 b2) rfl) w
    have g1 : -7 ≤ b := by omega
    have g2 : b ≤ 7 := by omega
    by_cases h0 : a = 0
    · subst h0
      exact law_of (non28 b g1 g2) 0 b 28 (ren3 rfl rfl rfl) w
    · exact law_of (one28 a f1 f2 h0) a b 28 (ren3 rfl (ren_opq _ 1 _ _ g1 g2) rfl) w
  · by_cases f1 : a ≤ -8
    · exact law_of (exAll_mem out29 _ (List.mem_cons_self ..)) a b 29 (ren3 (ren_opq _ 0 _ _ a1 f1) (ren_opq _ 1 _ _ b1 b2) rfl) w
    by_cases f2 : 8 ≤ a
    · exact law_of (exAll_mem out29 _ (List.mem_cons_of_mem _ (List.mem_cons_self ..))) a b 29 (ren3 (ren_opq _ 0 _ _ f2 a2) (ren_opq _ 1 _ _ b1 b2) rfl) w
    have f1 : -7 ≤ a := by omega
    have f2 : a ≤ 7 := by omega
    by_cases g1 : b ≤ -8
    · exact law_of (exAll_mem out29 _ (List.mem_cons_of_mem _ (List.mem_cons_of_mem _ (List.mem_cons_self ..)))) a b 29 (ren3 (ren_opq _ 0 _ _ f1 f2) (ren_opq _ 1 _ _ b1 g1) rfl) w
    by_cases g2 : 8 ≤ b
    · exact law_of (exAll_mem out29 _ (List.mem_cons_of_mem _ (List.mem_cons_of_mem _ (List.mem_cons_of_mem _ (List.mem_cons_self ..))))) a b 29 (ren3 (ren_opq _ 0 _ _ f1 f2) (ren_opq _ 1 _ _ g2 b2) rfl) w
    have g1 : -7 ≤ b := by omega
    have g2 : b ≤ 7 := by omega
    by_cases h0 : a = 0
    · subst h0
      exact law_of (non29 b g1 g2) 0 b 29 (ren3 rfl rfl rfl) w
    · exact law_of (one29 a f1 f2 h0) a b 29 (ren3 rfl (ren_opq _ 1 _ _ g1 g2) rfl) w
end Go.Proofs.Tryz
