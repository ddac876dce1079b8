/- One operation of the executor's against the model's: append, copy, clear as a whole. -/
import Derived.Test.YthimonfebncooaaGreatDoorExOpI
namespace Go.Ex

section
variable {P : Program} {B : Nat} {μ : Mu} {H : Hp} {w : World}

theorem zero_all {elem : TypeId} {z : SV} (hz : zeroB P elem = some z) : ∃ zv, (∀ w, (zeroValue elem).run P w = .ok zv w) ∧ ∀ μ, ren μ z = some zv := by
  obtain ⟨zv, h1, h2⟩ := run_zero hz (default : World)
  refine ⟨zv, fun w' => ?_, h2⟩
  obtain ⟨zv', h3, h4⟩ := run_zero hz w'
  have := h2 ⟨fun _ => none, fun _ => 0⟩
  rw [h4 ⟨fun _ => none, fun _ => 0⟩] at this
  cases this
  exact h3

theorem srcCells_heap {size n : Nat} {x : SV} {l : List SV} {vx : Value} (hR : Rel P B μ H w) (h : srcCells H size n x = some l) (hx : ren μ x = some vx) (w' : World) (hw : w'.heap = w.heap) :
    ∃ vs, renL μ l = some vs ∧ vs.length = n * size ∧ (Builtin.firstCells size n vx).run P w' = .ok vs.toArray w' := srcCells_run (hR.heap hw) h hx

/-- append -/
theorem appendS_run (hR : Rel P B μ H w) {t : TypeId} {ts : Array TypeId} {rt : TypeId} {s x r : SV} {H' : Hp} {vs vx : Value} (ht : ts[0]? = some t) (h : appendS P H t s x (isIntT P ts[1]?) = some (r, H')) (hs : ren μ s = some vs) (hx : ren μ x = some vx) :
    ∃ v w' μ', (Builtin.append_ ts rt #[vs, vx]).run P w = .ok v w' ∧ ren μ' r = some v ∧ Rel P B μ' H' w' ∧ Step μ w μ' w' := by
  unfold appendS at h
  split at h
  · rename_i elem hu
    split at h
    · rename_i i z hi hz
      have hsz : sizeB P elem = some i.size := by simp [sizeB, hi]
      obtain ⟨zv, hzv, hzr⟩ := zero_all hz
      have hzc := ren_cells (hzr μ)
      have hzl := renL_length hzc
      split at h
      · cases h
      · rename_i hia
        split at h
        · rename_i n hn
          simp only [ren] at hs; cases hs
          obtain ⟨k, rfl⟩ := natOf_ren hn hx
          split at h
          · rename_i hc
            simp only [Bool.and_eq_true, Bool.not_eq_true'] at hc
            obtain ⟨⟨hg, hn0⟩, hone⟩ := hc
            have hG := grows_of hg
            cases h
            have hpos : n ≠ 0 := by intro e; rw [e] at hn0; simp at hn0
            have hrun := append_zeros (rt := rt) (k := k) (w := w) ht hu hi hzv hia hpos hG.len hG.all hG.size (hG.room (by omega) (by omega))
            obtain ⟨μ', c, hc1, hc2, hm, g1, g2⟩ := grown_run hR hi (hzr μ) hG (need := 0 + n) (renL_rep hzc n) (by rw [rep_length, hzl, hG.zlen]; simp) (.appendCap (0 + n) 0 elem) (ask_cap (0 + n) 0 elem (by have := hG.len; omega)) H (.inl rfl)
            rw [← hc1] at hrun
            refine ⟨_, _, μ', hrun, ?_, g1, g2⟩
            subst hm
            simp only [ren, Mu.add_self]
            rw [if_pos (by omega)]
            simp
          · cases h
        · cases h
      · rename_i hia
        split at h
        · cases h
        · rename_i n hn
          have hln := lenOfS_run (P := P) hn hx w
          split at h
          · cases h
          · rename_i new hnew
            obtain ⟨nv, hnr, hnl, hnrun⟩ := srcCells_run hR hnew hx
            split at h
            · rename_i hone
              split at h
              · -- a nil slice
                simp only [ren] at hs; cases hs
                split at h
                · rename_i hn0
                  have hn0 : n = 0 := Nat.eq_of_beq_eq_true hn0
                  subst hn0
                  cases h
                  have hrun := append_room (rt := rt) (w := w) (base := none) (sLen := 0) (sCap := 0) ht hu hsz hia hln hnrun (by omega)
                  exact ⟨.slice none 0 0, w, μ, by simpa using hrun, rfl, hR, Step.refl _ _⟩
                · rename_i hn0
                  split at h
                  · rename_i hg
                    have hG := grows_of hg
                    cases h
                    have hpos : n ≠ 0 := by intro e; rw [e] at hn0; simp at hn0
                    obtain ⟨nv', e1, e2, e3⟩ := srcCells_heap hR hnew hx { w with drawn := w.drawn + 1 } rfl
                    rw [hnr] at e1; cases e1
                    have hrun := append_grow (rt := rt) (w := w) (base := none) (sLen := 0) (sCap := 0) (old := []) ht hu hi hzv hia hln (by omega) (by have := hG.len; omega) (hG.room (by omega) (by omega)) (by simp [Builtin.firstCells]) e3
                    obtain ⟨μ', c, hc1, hc2, hm, g1, g2⟩ := grown_run hR hi (hzr μ) hG (need := 0 + n) hnr (by rw [hnl]; simp) (.appendCap (0 + n) 0 elem) (ask_cap (0 + n) 0 elem (by have := hG.len; omega)) H (.inl rfl)
                    rw [← hc1] at hrun
                    refine ⟨_, _, μ', hrun, ?_, by simpa using g1, by simpa using g2⟩
                    subst hm
                    simp only [ren, Mu.add_self]
                    rw [if_pos (by omega)]
                    simp
                  · cases h
              · -- a slice with a known capacity
                rename_i p off len c
                obtain ⟨y, cc, hy, rfl, hcc⟩ := slice_ren hs
                obtain ⟨rfl, hlc⟩ := hcc
                split at h
                · rename_i hroom
                  split at h
                  · rename_i H'' hst
                    cases h
                    have hrun := append_room (rt := rt) (w := w) (base := some ⟨y.1, off, none⟩) (sLen := len) (sCap := cc) ht hu hsz hia hln hnrun hroom
                    obtain ⟨w', g1, g2, g3⟩ := stRow_run hR hst hy hnr
                    refine ⟨.slice (some ⟨y.1, off, none⟩) (len + n) cc, w', μ, ?_, ?_, g2, g3⟩
                    · rw [hrun]
                      simp only [addr_add, g1, Result.andThen_ok]
                    · simp only [ren, hy]
                      rw [if_pos hroom]
                  · cases h
                · rename_i hroom
                  split at h
                  · rename_i hg
                    have hG := grows_of hg
                    split at h
                    · rename_i old hold
                      cases h
                      obtain ⟨nv', e1, e2, e3⟩ := srcCells_heap hR hnew hx { w with drawn := w.drawn + 1 } rfl
                      rw [hnr] at e1; cases e1
                      obtain ⟨ov, o1, o2, o3⟩ := ldRow_run (hR.heap (w' := { w with drawn := w.drawn + 1 }) rfl) hold hy
                      have hrun := append_grow (rt := rt) (w := w) (base := some ⟨y.1, off, none⟩) (sLen := len) (sCap := cc) (old := ov) ht hu hi hzv hia hln hroom (by have := hG.len; omega) (hG.room (by omega) (by omega)) (by simpa [Builtin.firstCells] using o3) e3
                      obtain ⟨μ', c, hc1, hc2, hm, g1, g2⟩ := grown_run hR hi (hzr μ) hG (need := len + n) (renL_append o1 hnr) (by rw [List.length_append, o2, hnl, Nat.add_mul]) (.appendCap (len + n) cc elem) (ask_cap (len + n) cc elem (by have := hG.len; omega)) H (.inl rfl)
                      rw [← hc1] at hrun
                      refine ⟨_, _, μ', hrun, ?_, g1, g2⟩
                      subst hm
                      simp only [ren, Mu.add_self]
                      rw [if_pos (by omega)]
                      simp
                    · cases h
                  · cases h
              · -- a slice of a row that may grow
                rename_i p off len k
                obtain ⟨y, cc, hy, rfl, hcc⟩ := slice_ren hs
                obtain ⟨rfl, hlc⟩ := hcc
                split at h
                · rename_i c m e op hp
                  obtain ⟨arr, hw, hrr⟩ := hR.row hy hp
                  split at h
                  · rename_i hn0
                    have hn0 : n = 0 := Nat.eq_of_beq_eq_true hn0
                    subst hn0
                    cases h
                    have hrun := append_room (rt := rt) (w := w) (base := some ⟨y.1, off, none⟩) (sLen := len) (sCap := y.2 - k) ht hu hsz hia hln hnrun (by omega)
                    have hnv : nv = [] := List.eq_nil_of_length_eq_zero (by rw [hnl]; simp)
                    subst hnv
                    exact ⟨_, w, μ, by simpa [storeCells] using hrun, hs, hR, Step.refl _ _⟩
                  · rename_i hn0
                    have hpos : n ≠ 0 := by intro e; rw [e] at hn0; simp at hn0
                    split at h
                    · rename_i hc
                      simp only [Bool.and_eq_true] at hc
                      obtain ⟨⟨hee, hop⟩, hg⟩ := hc
                      have hee : e = elem := Nat.eq_of_beq_eq_true hee
                      subst hee
                      have hG := grows_of hg
                      obtain ⟨i', hi', hroomk⟩ := hrr.room hop
                      rw [hi] at hi'; cases hi'
                      have hsz0 : 0 < i.size := Nat.pos_of_ne_zero hG.size
                      split at h
                      · rename_i hin
                        simp only [Bool.and_eq_true, Nat.beq_eq, Nat.ble_eq] at hin
                        obtain ⟨hoff, hm⟩ := hin
                        have hoff : off = k * i.size := hoff
                        split at h
                        · rename_i H'' hst
                          cases h
                          have hcap : len + n ≤ y.2 - k := by
                            have h1 := hrr.size
                            have h2 : (k + (len + n)) * i.size ≤ y.2 * i.size := by rw [Nat.add_mul, ← hoff]; omega
                            have h3 := Nat.le_of_mul_le_mul_right h2 hsz0
                            omega
                          have hrun := append_room (rt := rt) (w := w) (base := some ⟨y.1, off, none⟩) (sLen := len) (sCap := y.2 - k) ht hu hsz hia hln hnrun hcap
                          obtain ⟨w', g1, g2, g3⟩ := stRow_run hR hst hy hnr
                          refine ⟨.slice (some ⟨y.1, off, none⟩) (len + n) (y.2 - k), w', μ, ?_, ?_, g2, g3⟩
                          · rw [hrun]
                            simp only [addr_add, g1, Result.andThen_ok]
                          · simp only [ren, hy]
                            rw [if_pos (by omega)]
                        · cases h
                      · split at h
                        · rename_i hk
                          simp only [Bool.and_eq_true, Nat.beq_eq] at hk
                          obtain ⟨⟨h0, hk0⟩, hm⟩ := hk
                          have h0 : off = 0 := h0
                          have hk0 : k = 0 := hk0
                          have hm : m = len * i.size := hm
                          subst h0; subst hk0
                          cases h
                          have hnewl := renL_length hnr
                          by_cases hcap : len + n ≤ y.2 - 0
                          · -- in place: the block is taken for the new one
                            have hrun := append_room (rt := rt) (w := w) (base := some ⟨y.1, 0, none⟩) (sLen := len) (sCap := y.2 - 0) ht hu hsz hia hln hnrun hcap
                            have hle : m + nv.length ≤ arr.size := by
                              have : (len + n) * i.size ≤ y.2 * i.size := Nat.mul_le_mul_right _ (by omega)
                              rw [Nat.add_mul] at this
                              omega
                            have hst := run_storeCells_at (P := P) y.1 m e nv 0 arr w hw (by omega) (renL_one hnr hone)
                            simp only [Nat.add_zero] at hst
                            have hsr := setRow_heap w y.1 arr (arr.toList.take m ++ nv ++ arr.toList.drop (m + nv.length)).toArray e (0, 0) hw
                            have hoth := fun k hk => setRow_other w y.1 k (arr.toList.take m ++ nv ++ arr.toList.drop (m + nv.length)).toArray hk
                            generalize hw' : w.setRow y.1 (arr.toList.take m ++ nv ++ arr.toList.drop (m + nv.length)).toArray = w' at hst hsr hoth
                            have hsize : w'.heap.size = w.heap.size := by rw [← hw']; simp
                            have hkill : Rel P B μ (H.set p .dead) w' := by
                              refine ⟨by rw [hsize]; exact hR.base, hR.low, ?_, (hR.kill p).inj, hR.fresh, fun q u hq => by rw [hsize]; exact hR.rng q u hq⟩
                              intro q o u hq hu'
                              rw [Hp.get_set] at hq
                              split at hq
                              · cases hq; trivial
                              · rename_i hne
                                by_cases hl : o.live = true
                                · rw [hoth u.1 (fun e' => hne (hR.inj p q _ o y u hp hq rfl hl hy hu' e'.symm))]
                                  exact hR.obj q o u hq hu'
                                · cases o with
                                  | dead => trivial
                                  | row => simp [SO.live] at hl
                                  | map => simp [SO.live] at hl
                            have hnx : (H.set p .dead).next = H.next := rfl
                            have hext : Ext μ (μ.add (H.set p .dead).next (y.1, y.2)) := Mu.add_ext (hR.fresh _ (Nat.le_refl _)) _
                            have hadopt := hkill.adopt (.row (stFrom new m c) (m + new.length) e true) y.1 y.2 (hR.low p y hy) (by rw [hsize]; exact hR.rng p y hy) (fun q o u hq hl hu' e' => by
                              rw [Hp.get_set] at hq
                              split at hq
                              · cases hq; simp [SO.live] at hl
                              · rename_i hne
                                exact hne (hR.inj p q _ o y u hp hq rfl hl hy hu' e'.symm)) (by
                              rw [hsr]
                              refine ⟨_, rfl, fun j sv hj => ?_, ?_, fun _ => ⟨i, hi, ?_⟩⟩
                              · rw [stFrom_get] at hj
                                split at hj
                                · rename_i hb
                                  obtain ⟨v, h3, h4⟩ := renL_get hnr _ sv hj
                                  refine ⟨by omega, v, ?_, ren_ext hext h4⟩
                                  have hlt : j - m < nv.length := by omega
                                  simp only [List.getElem?_toArray]
                                  have hl1 : (arr.toList.take m).length = m := by simp; omega
                                  rw [List.append_assoc, List.getElem?_append_right (by omega), hl1, List.getElem?_append_left hlt]
                                  exact h3
                                · rename_i hb
                                  obtain ⟨h3, v, h4, h5⟩ := hrr.cell j sv hj
                                  refine ⟨by omega, v, ?_, ren_ext hext h5⟩
                                  have h4' : arr.toList[j]? = some v := by simpa using h4
                                  simp only [List.getElem?_toArray]
                                  rw [List.append_assoc, List.getElem?_append_left (by simp; omega), List.getElem?_take, if_pos h3]
                                  exact h4'
                              · simp; omega
                              · rw [hroomk]; simp; omega)
                            refine ⟨.slice (some ⟨y.1, 0, none⟩) (len + n) (y.2 - 0), w', _, ?_, ?_, hadopt, ?_⟩
                            · rw [hrun]
                              simp only [addr_add, Nat.zero_add, ← hm, hst, Result.andThen_ok]
                            · simp only [ren, hnx, Mu.add_self]
                              rw [if_pos (by omega)]
                            · refine ⟨hext, fun q u hq => ?_, ?_, ?_, ?_, by omega, fun b hb hn => hoth b (fun e' => hn p y hy e'.symm)⟩
                              · rcases Mu.add_or hq with hq | rfl
                                · exact .inl ⟨q, u, hq, rfl⟩
                                · exact .inl ⟨p, y, hy, rfl⟩
                              · rw [← hw']; rfl
                              · rw [← hw']; rfl
                              · rw [← hw']; rfl
                          · -- a new block
                            obtain ⟨nv', e1, e2, e3⟩ := srcCells_heap hR hnew hx { w with drawn := w.drawn + 1 } rfl
                            rw [hnr] at e1; cases e1
                            have hma := hrr.size
                            have hol : (arr.toList.take m).length = m := by simp; omega
                            have hold : (loadCells ⟨y.1, 0, none⟩ (len * i.size)).run P { w with drawn := w.drawn + 1 } = .ok (arr.toList.take m).toArray { w with drawn := w.drawn + 1 } := by
                              rw [← hm, ← hol]
                              have := run_cells (P := P) (w := { w with drawn := w.drawn + 1 }) (off := 0) hw (vs := arr.toList.take m) (fun j v hj => by
                                rw [List.getElem?_take] at hj
                                split at hj
                                · simpa using hj
                                · cases hj)
                              rw [hol] at this ⊢
                              exact this
                            have hrun := append_grow (rt := rt) (w := w) (base := some ⟨y.1, 0, none⟩) (sLen := len) (sCap := y.2 - 0) (old := arr.toList.take m) ht hu hi hzv hia hln hcap (by have := hG.len; omega) (hG.room (by omega) (by omega)) (by simpa [Builtin.firstCells] using hold) e3
                            have hcc := ask_cap (len + n) (y.2 - 0) e (by have := hG.len; omega) (w.tape w.drawn (.appendCap (len + n) (y.2 - 0) e))
                            generalize (Question.appendCap (len + n) (y.2 - 0) e).cut (w.tape w.drawn (.appendCap (len + n) (y.2 - 0) e)) = cp at hrun hcc
                            have hkill : Rel P B μ (H.set p .dead) { w with drawn := w.drawn + 1 } := (hR.heap (w' := { w with drawn := w.drawn + 1 }) rfl).kill p
                            have hext : Ext μ (μ.add (H.set p .dead).next (w.heap.size, cp)) := Mu.add_ext (hR.fresh _ (Nat.le_refl _)) _
                            obtain ⟨g1, g2⟩ := hkill.new (.row (stFrom new m c) (m + new.length) e true) (.cells (arr.toList.take m ++ nv ++ rep (cp - (len + n)) zv.cells.toList).toArray e) cp (by
                              refine ⟨_, rfl, fun j sv hj => ?_, ?_, fun _ => ⟨i, hi, ?_⟩⟩
                              · rw [stFrom_get] at hj
                                split at hj
                                · rename_i hb
                                  obtain ⟨v, h3, h4⟩ := renL_get hnr _ sv hj
                                  refine ⟨by omega, v, ?_, ren_ext hext h4⟩
                                  have hlt : j - m < nv.length := by omega
                                  simp only [List.getElem?_toArray]
                                  rw [List.append_assoc, List.getElem?_append_right (by omega), hol, List.getElem?_append_left hlt]
                                  exact h3
                                · rename_i hb
                                  obtain ⟨h3, v, h4, h5⟩ := hrr.cell j sv hj
                                  refine ⟨by omega, v, ?_, ren_ext hext h5⟩
                                  have h4' : arr.toList[j]? = some v := by simpa using h4
                                  simp only [List.getElem?_toArray]
                                  rw [List.append_assoc, List.getElem?_append_left (by omega), List.getElem?_take, if_pos h3]
                                  exact h4'
                              · simp only [List.size_toArray, List.length_append, hol]; omega
                              · simp only [List.size_toArray, List.length_append, hol, rep_length, hnl, hzl, hG.zlen]
                                rw [hm, ← Nat.add_mul, ← Nat.add_mul]
                                congr 1; omega)
                            refine ⟨_, _, _, hrun, ?_, g1, (Step.drew μ w (w.drawn + 1)).trans g2⟩
                            have hnx : (H.set p .dead).next = H.next := rfl
                            simp only [ren]
                            have hself : (μ.add (H.set p SO.dead).next (World.heap { w with drawn := w.drawn + 1 } |>.size, cp)) H.next = some (w.heap.size, cp) := Mu.add_self _ _ _
                            rw [hself]
                            simp only
                            rw [if_pos (by omega)]
                            simp
                        · cases h
                    · cases h
                · cases h
              · cases h
            · cases h
    · cases h
  · cases h


theorem copyS_run (hR : Rel P B μ H w) {t : TypeId} {ts : Array TypeId} {rt : TypeId} {d x r : SV} {H' : Hp} {vd vx : Value} (ht : ts[0]? = some t) (h : copyS P H t d x = some (r, H')) (hd : ren μ d = some vd) (hx : ren μ x = some vx) :
    ∃ v w', (Builtin.copy_ ts rt #[vd, vx]).run P w = .ok v w' ∧ ren μ r = some v ∧ Rel P B μ H' w' ∧ Step μ w μ w' := by
  unfold copyS at h
  split at h
  · rename_i elem hu
    split at h
    · rename_i size n hs hn
      have hln := lenOfS_run (P := P) hn hx w
      split at h
      · rename_i p off m c
        obtain ⟨y, cc, hy, rfl, _⟩ := slice_ren hd
        split at h
        · cases h
        · rename_i cs hcs
          obtain ⟨nv, hnr, hnl, hnrun⟩ := srcCells_run hR hcs hx
          split at h
          · rename_i H'' hst
            cases h
            obtain ⟨w', g1, g2, g3⟩ := stRow_run hR hst hy hnr
            refine ⟨_, w', ?_, rfl, g2, g3⟩
            simp only [Builtin.copy_, ht, List.getElem?_toArray, List.getElem?_cons_zero, List.getElem?_cons_succ, Sem.run_bind, run_underlying hu, Result.andThen_ok, hln, run_size hs, hnrun, g1, Sem.run_pure, goInt]
            rfl
          · cases h
      · simp only [ren] at hd; cases hd
        split at h
        · cases h
        · rename_i cs hcs
          obtain ⟨nv, hnr, hnl, hnrun⟩ := srcCells_run hR hcs hx
          cases h
          refine ⟨_, w, ?_, rfl, hR, Step.refl _ _⟩
          simp only [Builtin.copy_, ht, List.getElem?_toArray, List.getElem?_cons_zero, List.getElem?_cons_succ, Sem.run_bind, run_underlying hu, Result.andThen_ok, hln, run_size hs, hnrun, Sem.run_pure, goInt]
          rfl
      · cases h
    · cases h
  · cases h

theorem clearS_run (hR : Rel P B μ H w) {t : TypeId} {ts : Array TypeId} {rt : TypeId} {x : SV} {H' : Hp} {vx : Value} (ht : ts[0]? = some t) (h : clearS P H t x = some H') (hx : ren μ x = some vx) :
    ∃ w', (Builtin.clear_ ts rt #[vx]).run P w = .ok (.tuple #[]) w' ∧ Rel P B μ H' w' ∧ Step μ w μ w' := by
  unfold clearS at h
  split at h
  · rename_i a b hu
    simp only [ren] at hx; cases hx
    cases h
    refine ⟨w, ?_, hR, Step.refl _ _⟩
    simp [Builtin.clear_, ht, run_underlying hu]
  · rename_i a b p hu
    obtain ⟨y, hy, rfl⟩ := map_ren hx
    split at h
    · rename_i es clock hp
      cases h
      obtain ⟨l, hl, hh⟩ := hR.map hy hp
      obtain ⟨g1, g2⟩ := hR.setMap hy hp (es' := []) (l' := []) clock rfl
      refine ⟨_, ?_, g1, g2⟩
      simp [Builtin.clear_, ht, run_underlying hu, run_getObj hh, setObj_run hh]
    · cases h
  · rename_i e hu
    simp only [ren] at hx; cases hx
    cases h
    refine ⟨w, ?_, hR, Step.refl _ _⟩
    simp [Builtin.clear_, ht, run_underlying hu]
  · rename_i e p off l sz k hu
    obtain ⟨a, c, rfl⟩ := etail_ren hx
    cases h
    refine ⟨w, ?_, hR, Step.refl _ _⟩
    simp [Builtin.clear_, ht, run_underlying hu]
  · rename_i e p off n c hu
    obtain ⟨y, cc, hy, rfl, _⟩ := slice_ren hx
    split at h
    · cases h
      refine ⟨w, ?_, hR, Step.refl _ _⟩
      simp [Builtin.clear_, ht, run_underlying hu]
    · split at h
      · rename_i z hz
        have hz' := hz
        unfold zerosB at hz'
        simp only at hz'
        split at hz'
        · rename_i zs hzs
          split at hz'
          · rename_i size hsz
            split at hz'
            · rename_i hlen
              cases hz'
              obtain ⟨zv, hz1, hz2⟩ := run_zero hzs w
              have hzc := ren_cells (hz2 μ)
              obtain ⟨w', g1, g2, g3⟩ := stRow_run hR h hy (renL_rep hzc n)
              refine ⟨w', ?_, g2, g3⟩
              simp only [Builtin.clear_, ht, List.getElem?_toArray, List.getElem?_cons_zero, Sem.run_bind, run_underlying hu, Result.andThen_ok, hz1, zeroCells_rep, g1, Sem.run_pure]
            · cases hz'
          · cases hz'
        · cases hz'
      · cases h
  · cases h

end
end Go.Ex
