/- All functions' regions come in order, and the run of the heads. -/
import Derived.Test.YthimonfebncooaaGreatDoorChecked
import Derived.Test.YthimonfebncooaaGreatDoorKyOk0
import Derived.Test.YthimonfebncooaaGreatDoorKyOk1
import Derived.Test.YthimonfebncooaaGreatDoorKyOk2
import Derived.Test.YthimonfebncooaaGreatDoorKyOk3
import Derived.Test.YthimonfebncooaaGreatDoorKyCk0
import Derived.Test.YthimonfebncooaaGreatDoorKyCk1
import Derived.Test.YthimonfebncooaaGreatDoorKyCk2
import Derived.Test.YthimonfebncooaaGreatDoorKyCk3
import Derived.Test.YthimonfebncooaaGreatDoorKyCk4
import Derived.Test.YthimonfebncooaaGreatDoorKyCk5
namespace Go.Proofs.Tryz
open Go Go.Ex
set_option maxRecDepth 1000000
theorem okEnd : fnsOk (prog.funcs.toList.drop 336) = true := by decide +kernel
theorem okAll : fnsOk prog.funcs.toList = true := by
  have h := okEnd
  replace h := fnsOk_part 322 14 okAt322 h
  replace h := fnsOk_part 308 14 okAt308 h
  replace h := fnsOk_part 294 14 okAt294 h
  replace h := fnsOk_part 280 14 okAt280 h
  replace h := fnsOk_part 266 14 okAt266 h
  replace h := fnsOk_part 252 14 okAt252 h
  replace h := fnsOk_part 238 14 okAt238 h
  replace h := fnsOk_part 224 14 okAt224 h
  replace h := fnsOk_part 210 14 okAt210 h
  replace h := fnsOk_part 196 14 okAt196 h
  replace h := fnsOk_part 182 14 okAt182 h
  replace h := fnsOk_part 168 14 okAt168 h
  replace h := fnsOk_part 154 14 okAt154 h
  replace h := fnsOk_part 140 14 okAt140 h
  replace h := fnsOk_part 126 14 okAt126 h
  replace h := fnsOk_part 112 14 okAt112 h
  replace h := fnsOk_part 98 14 okAt98 h
  replace h := fnsOk_part 84 14 okAt84 h
  replace h := fnsOk_part 70 14 okAt70 h
  replace h := fnsOk_part 56 14 okAt56 h
  replace h := fnsOk_part 42 14 okAt42 h
  replace h := fnsOk_part 28 14 okAt28 h
  replace h := fnsOk_part 14 14 okAt14 h
  replace h := fnsOk_part 0 14 okAt0 h
  simpa using h
theorem mixed : prog.follows .mixedOrders = true := checked.mixed
theorem entOK0 : EntOK prog ent0 := ent_ok mixed okAll (by simp) ck0
theorem entOK1 : EntOK prog ent1 := ent_ok mixed okAll (by simp) ck1
theorem entOK2 : EntOK prog ent2 := ent_ok mixed okAll (by simp) ck2
theorem entOK3 : EntOK prog ent3 := ent_ok mixed okAll (by simp) ck3
theorem entOK4 : EntOK prog ent4 := ent_ok mixed okAll (by simp) ck4
theorem entOK5 : EntOK prog ent5 := ent_ok mixed okAll (T := [ent0, ent1, ent2, ent3, ent4]) (by
  intro e he
  simp only [List.mem_cons, List.not_mem_nil, or_false] at he
  rcases he with rfl | rfl | rfl | rfl | rfl
  · exact entOK0
  · exact entOK1
  · exact entOK2
  · exact entOK3
  · exact entOK4) ck5
end Go.Proofs.Tryz
