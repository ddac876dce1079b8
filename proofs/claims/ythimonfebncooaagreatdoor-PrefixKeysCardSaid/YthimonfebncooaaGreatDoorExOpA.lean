/- One operation of the executor's against the model's: values, loads, stores, addresses. -/
import Derived.Test.YthimonfebncooaaGreatDoorExRel
namespace Go.Ex

section
variable {P : Program} {B : Nat} {μ : Mu} {H : Hp} {w : World}

theorem run_size {t : TypeId} {n : Nat} (h : sizeB P t = some n) (w : World) : (sizeOf t).run P w = .ok n w := by
  unfold sizeB at h
  cases hi : P.info? t with
  | none => simp [hi] at h
  | some i => simp [hi] at h; subst h; simp [sizeOf, typeInfo, hi]

theorem run_info {t : TypeId} {i : TypeInfo} (h : P.info? t = some i) (w : World) : (typeInfo t).run P w = .ok i w := by
  simp [typeInfo, h]

theorem run_agg {t : TypeId} {b : Bool} (h : isAggB P t = some b) (w : World) : (isAgg t).run P w = .ok b w := by
  unfold isAggB at h
  unfold isAgg
  cases hu : P.underlying t with
  | none => simp [hu] at h
  | some d =>
    rw [Sem.run_bind, run_underlying hu]
    cases d <;> simp [hu] at h <;> subst h <;> rfl

theorem string_back (s : ByteArray) : (⟨((s.data.toList.map UInt8.toNat).map UInt8.ofNat).toArray⟩ : ByteArray) = s := by
  cases s with
  | mk d =>
    congr 1
    apply Array.ext'
    simp only [List.map_map, List.toList_toArray]
    have : (UInt8.ofNat ∘ UInt8.toNat) = id := by funext x; simp
    rw [this]; simp

theorem all_bytes (s : List UInt8) : (s.map UInt8.toNat).all (· < 256) = true := by
  simp only [List.all_map, List.all_eq_true]
  intro x _
  simpa using x.toNat_lt

theorem toS0_ren : ∀ {v : Value} {s : SV}, toS0 v = some s → ren μ s = some v
  | .bool _, _, h => by simp [toS0] at h; subst h; rfl
  | .int _ _, _, h => by simp [toS0] at h; subst h; rfl
  | .float _ _, _, h => by simp [toS0] at h
  | .complex _ _ _, _, h => by simp [toS0] at h
  | .string s, _, h => by
    simp only [toS0, Option.some.injEq] at h; subst h
    simp only [ren, all_bytes, if_true, string_back]
  | .pointer none, _, h => by simp [toS0] at h; subst h; rfl
  | .pointer (some _), _, h => by simp [toS0] at h
  | .slice none 0 0, _, h => by simp [toS0] at h; subst h; rfl
  | .slice none 0 (_ + 1), _, h => by simp [toS0] at h
  | .slice none (_ + 1) _, _, h => by simp [toS0] at h
  | .slice (some _) _ _, _, h => by simp [toS0] at h
  | .map none, _, h => by simp [toS0] at h; subst h; rfl
  | .map (some _), _, h => by simp [toS0] at h
  | .chan _, _, h => by simp [toS0] at h
  | .func fn a b, _, h => by
    simp only [toS0] at h
    split at h
    · rename_i hh; simp at h hh; subst h; rw [hh.1, hh.2]; rfl
    · cases h
  | .nilFunc, _, h => by simp [toS0] at h; subst h; rfl
  | .iface _ _, _, h => by simp [toS0] at h
  | .nilIface, _, h => by simp [toS0] at h; subst h; rfl
  | .agg _, _, h => by simp [toS0] at h
  | .tuple _, _, h => by simp [toS0] at h

theorem mapO_toS0 : ∀ {vs : List Value} {l : List SV}, mapO toS0 vs = some l → renL μ l = some vs
  | [], _, h => by simp [mapO] at h; subst h; rfl
  | v :: vs, _, h => by
    obtain ⟨x, y, hx, hy, rfl⟩ := mapO_cons.1 h
    exact renL_cons.2 ⟨v, vs, toS0_ren hx, mapO_toS0 hy, rfl⟩

theorem toS_ren {v : Value} {s : SV} (h : toS v = some s) : ren μ s = some v := by
  unfold toS at h
  split at h
  · split at h
    · rename_i l hl
      cases h
      simp [ren, mapO_toS0 hl]
    · cases h
  · split at h
    · rename_i hh
      cases h
      simp at hh
      simp [ren, renL, hh]
    · cases h
  · exact toS0_ren h

theorem run_zero {t : TypeId} {z : SV} (h : zeroB P t = some z) (w : World) : ∃ v, (zeroValue t).run P w = .ok v w ∧ ∀ μ, ren μ z = some v := by
  unfold zeroB at h
  cases hi : P.info? t with
  | none => simp [hi] at h
  | some i =>
    simp only [hi] at h
    cases hz : i.zero with
    | none => simp [hz] at h
    | some v =>
      simp only [hz] at h
      exact ⟨v, by simp [zeroValue, typeInfo, hi, hz], fun μ => toS_ren h⟩

theorem ren_cells : ∀ {s : SV} {v : Value}, ren μ s = some v → renL μ s.cells = some v.cells.toList := by
  intro s v h
  have key : ∀ (u : SV) (x : Value), ren μ u = some x → renL μ [u] = some [x] := fun u x hx => renL_cons.2 ⟨x, [], hx, rfl, rfl⟩
  cases s with
  | agg l =>
    simp only [ren] at h
    split at h
    · rename_i x hx; cases h; simpa [SV.cells, Value.cells] using hx
    · cases h
  | bool b => simp only [SV.cells]; rw [key _ _ h]; simp only [ren] at h; cases h; rfl
  | int k n => simp only [SV.cells]; rw [key _ _ h]; simp only [ren] at h; cases h; rfl
  | opq i lo hi => simp only [SV.cells]; rw [key _ _ h]; simp only [ren] at h; split at h <;> cases h; rfl
  | str b => simp only [SV.cells]; rw [key _ _ h]; simp only [ren] at h; split at h <;> cases h; rfl
  | ptr p o => simp only [SV.cells]; rw [key _ _ h]; simp only [ren] at h; split at h <;> cases h; rfl
  | nilp => simp only [SV.cells]; rw [key _ _ h]; simp only [ren] at h; cases h; rfl
  | slice p o l c =>
    simp only [SV.cells]; rw [key _ _ h]
    cases c with
    | lim c => simp only [ren] at h; split at h; (split at h <;> cases h; rfl); cases h
    | open_ c => simp only [ren] at h; split at h; (split at h <;> cases h; rfl); cases h
  | nils => simp only [SV.cells]; rw [key _ _ h]; simp only [ren] at h; cases h; rfl
  | etail p o l c k => simp only [SV.cells]; rw [key _ _ h]; simp only [ren] at h; split at h; (split at h <;> cases h; rfl); cases h
  | map p => simp only [SV.cells]; rw [key _ _ h]; simp only [ren] at h; split at h <;> cases h; rfl
  | nilm => simp only [SV.cells]; rw [key _ _ h]; simp only [ren] at h; cases h; rfl
  | func f a b => simp only [SV.cells]; rw [key _ _ h]; simp only [ren] at h; split at h <;> cases h; rfl
  | nilf => simp only [SV.cells]; rw [key _ _ h]; simp only [ren] at h; cases h; rfl
  | iface t u => simp only [SV.cells]; rw [key _ _ h]; simp only [ren] at h; split at h <;> cases h; rfl
  | nili => simp only [SV.cells]; rw [key _ _ h]; simp only [ren] at h; cases h; rfl
  | tup l => simp only [SV.cells]; rw [key _ _ h]; simp only [ren] at h; split at h <;> cases h; rfl

theorem ren_one : ∀ {s : SV} {v : Value}, ren μ s = some v → s.one = true → v.oneCell' = true := by
  intro s v h h1
  cases s with
  | agg l => simp [SV.one] at h1
  | tup l => simp [SV.one] at h1
  | slice p o l c =>
    cases c with
    | lim c => simp only [ren] at h; split at h; (split at h <;> cases h; rfl); cases h
    | open_ c => simp only [ren] at h; split at h; (split at h <;> cases h; rfl); cases h
  | etail p o l c k => simp only [ren] at h; split at h; (split at h <;> cases h; rfl); cases h
  | _ => simp only [ren] at h; first | (cases h; rfl) | (split at h <;> cases h; rfl)

theorem renL_one : ∀ {l : List SV} {vs : List Value}, renL μ l = some vs → allOne l = true → ∀ v ∈ vs, v.oneCell' = true
  | [], _, h, _, v, hv => by simp [renL] at h; subst h; cases hv
  | s :: l, _, h, h1, v, hv => by
    obtain ⟨x, y, hx, hy, rfl⟩ := renL_cons.1 h
    unfold allOne at h1
    cases hs : s.one with
    | false => simp [hs] at h1
    | true =>
      simp only [hs] at h1
      rcases List.mem_cons.1 hv with rfl | hv
      · exact ren_one hx hs
      · exact renL_one hy h1 v hv

/-- some cells of a row -/
theorem ldFrom_ren {c : Tr SV} {n : Nat} {elem : TypeId} {op : Bool} {κ : Nat} {arr : Array Value} (r : RowRel P μ c n elem op κ arr) :
    ∀ {k off : Nat} {l : List SV}, ldFrom c off k = some l → ∃ vs, renL μ l = some vs ∧ vs.length = k ∧ ∀ j v, vs[j]? = some v → arr[off + j]? = some v
  | 0, off, l, h => by simp [ldFrom] at h; subst h; exact ⟨[], rfl, rfl, fun j v hj => by simp at hj⟩
  | k + 1, off, l, h => by
    simp only [ldFrom] at h
    cases hg : c.get (pa off) with
    | none => simp [hg] at h
    | some s =>
      simp only [hg] at h
      cases hl : ldFrom c (off + 1) k with
      | none => simp [hl] at h
      | some l' =>
        simp only [hl] at h; cases h
        obtain ⟨vs, h1, h2, h3⟩ := ldFrom_ren r hl
        obtain ⟨_, v, h4, h5⟩ := r.cell off s hg
        refine ⟨v :: vs, renL_cons.2 ⟨v, vs, h5, h1, rfl⟩, by simp [h2], fun j u hj => ?_⟩
        cases j with
        | zero => simp at hj; subst hj; simpa using h4
        | succ j => simp at hj; have := h3 j u hj; rw [show off + (j + 1) = off + 1 + j by omega]; exact this

theorem run_cells {arr : Array Value} {elem : TypeId} {fr : Nat × Nat} {g off : Nat} (hg : w.heap[g]? = some (.cells arr elem fr)) {vs : List Value} (h : ∀ j v, vs[j]? = some v → arr[off + j]? = some v) :
    (loadCells ⟨g, off, none⟩ vs.length).run P w = .ok vs.toArray w :=
  run_loadCells_list (P := P) w ⟨g, off, none⟩ vs (fun j v hv => by
    have hadd : (⟨g, off, none⟩ : Addr).add j = ⟨g, off + j, none⟩ := by unfold Addr.add; split <;> simp_all
    rw [hadd]
    have := h j v hv
    simp [World.cell?, hg, this])

/-- what a mapped block of the executor's is -/
theorem Rel.row (hR : Rel P B μ H w) {p : Nat} {x : Nat × Nat} {c : Tr SV} {n : Nat} {e : TypeId} {op : Bool} (hx : μ p = some x) (hp : H.get p = some (.row c n e op)) :
    ∃ arr, w.heap[x.1]? = some (.cells arr e (0, 0)) ∧ RowRel P μ c n e op x.2 arr := by
  obtain ⟨arr, h1, h2⟩ := hR.obj p _ x hp hx
  exact ⟨arr, h1, h2⟩

theorem ldRow_run (hR : Rel P B μ H w) {p off k : Nat} {l : List SV} (h : ldRow H p off k = some l) {x : Nat × Nat} (hx : μ p = some x) :
    ∃ vs, renL μ l = some vs ∧ vs.length = k ∧ (loadCells ⟨x.1, off, none⟩ k).run P w = .ok vs.toArray w := by
  unfold ldRow at h
  split at h
  · rename_i c n e op hp
    obtain ⟨arr, h1, h2⟩ := hR.row hx hp
    obtain ⟨vs, h3, h4, h5⟩ := ldFrom_ren h2 h
    exact ⟨vs, h3, h4, by rw [← h4]; exact run_cells h1 h5⟩
  · cases h

theorem ptr_ren {p off : Nat} {v : Value} (h : ren μ (.ptr p off) = some v) : ∃ x, μ p = some x ∧ v = .pointer (some ⟨x.1, off, none⟩) := by
  simp only [ren] at h
  split at h
  · rename_i x hx; cases h; exact ⟨x, hx, rfl⟩
  · cases h

theorem loadS_run (hR : Rel P B μ H w) {t : TypeId} {a s : SV} {va : Value} (h : loadS P H t a = some s) (ha : ren μ a = some va) :
    ∃ v, (Instr.loadAt t va).run P w = .ok v w ∧ ren μ s = some v := by
  unfold loadS at h
  split at h
  · rename_i p off
    obtain ⟨x, hx, rfl⟩ := ptr_ren ha
    split at h
    · rename_i hagg
      split at h
      · rename_i n hn
        split at h
        · rename_i l hl
          cases h
          obtain ⟨vs, h1, h2, h3⟩ := ldRow_run hR hl hx
          refine ⟨.agg vs.toArray, ?_, by simp [ren, h1]⟩
          simp [Instr.loadAt, Instr.sureAddr, loadVar, run_agg hagg, run_size hn, h3]
        · cases h
      · cases h
    · rename_i hagg
      split at h
      · rename_i c n e op hp
        obtain ⟨arr, h1, h2⟩ := hR.row hx hp
        obtain ⟨_, v, h3, h4⟩ := h2.cell off s h
        refine ⟨v, ?_, h4⟩
        have hc : w.cell? ⟨x.1, off, none⟩ = some v := by simp [World.cell?, h1, h3]
        simp [Instr.loadAt, Instr.sureAddr, loadVar, run_agg hagg, hc]
      · cases h
    · cases h
  · cases h

/-- cells that are stored -/
theorem stRow_run (hR : Rel P B μ H w) {p off : Nat} {l : List SV} {H' : Hp} (h : stRow H p off l = some H') {x : Nat × Nat} (hx : μ p = some x) {vs : List Value} (hv : renL μ l = some vs) :
    ∃ w', (storeCells ⟨x.1, off, none⟩ vs).run P w = .ok () w' ∧ Rel P B μ H' w' ∧ Step μ w μ w' := by
  unfold stRow at h
  split at h
  · rename_i c n e op hp
    split at h
    · rename_i hc
      simp only [Bool.and_eq_true, decide_eq_true_eq] at hc
      cases h
      obtain ⟨arr, h1, h2⟩ := hR.row hx hp
      have hlen := renL_length hv
      have hsz := h2.size
      have hrun := run_storeCells_at (P := P) x.1 off e vs 0 arr w h1 (by omega) (renL_one hv hc.2)
      simp only [Nat.add_zero] at hrun
      refine ⟨_, hrun, ?_, ?_⟩
      · have hs := setRow_heap w x.1 arr (arr.toList.take off ++ vs ++ arr.toList.drop (off + vs.length)).toArray e (0, 0) h1
        refine hR.upd hp rfl hx _ _ (by simp) hs (fun k hk => setRow_other w x.1 k _ hk) ⟨_, rfl, ?_⟩
        refine ⟨fun i s hi => ?_, ?_, fun ho => ?_⟩
        · rw [stFrom_get] at hi
          split at hi
          · rename_i hb
            obtain ⟨v, h3, h4⟩ := renL_get hv _ s hi
            refine ⟨by omega, v, ?_, h4⟩
            have hlt : i - off < vs.length := by omega
            simp only [List.getElem?_toArray]
            rw [List.append_assoc, List.getElem?_append_right (by simp; omega), List.getElem?_append_left (by simp; omega)]
            have : i - (arr.toList.take off).length = i - off := by simp; omega
            rw [this]; exact h3
          · rename_i hb
            obtain ⟨h3, v, h4, h5⟩ := h2.cell i s hi
            refine ⟨h3, v, ?_, h5⟩
            simp only [List.getElem?_toArray]
            have h4' : arr.toList[i]? = some v := by simpa using h4
            rcases Nat.lt_or_ge i off with hlt | hge
            · rw [List.append_assoc, List.getElem?_append_left (by simp; omega), List.getElem?_take, if_pos hlt]; exact h4'
            · rw [List.getElem?_append_right (by simp; omega), List.getElem?_drop]
              have : off + vs.length + (i - (arr.toList.take off ++ vs).length) = i := by simp; omega
              rw [this]; exact h4'
        · simp; omega
        · obtain ⟨i, h3, h4⟩ := h2.room ho
          refine ⟨i, h3, ?_⟩
          simp; omega
      · refine ⟨Ext.refl _, fun p x h => .inl ⟨p, x, h, rfl⟩, rfl, rfl, rfl, by simp, fun k _ hn => setRow_other w x.1 k _ (fun e => hn p x hx e.symm)⟩
    · cases h
  · cases h

theorem storeS_run (hR : Rel P B μ H w) {t : TypeId} {a s : SV} {va v : Value} {H' : Hp} (h : storeS P H t a s = some H') (ha : ren μ a = some va) (hs : ren μ s = some v) :
    ∃ w', (Instr.storeAt t va v).run P w = .ok () w' ∧ Rel P B μ H' w' ∧ Step μ w μ w' := by
  unfold storeS at h
  split at h
  · rename_i p off
    obtain ⟨x, hx, rfl⟩ := ptr_ren ha
    split at h
    · rename_i n hn
      split at h
      · rename_i hl
        have hc := ren_cells hs
        obtain ⟨w', h1, h2, h3⟩ := stRow_run hR h hx hc
        refine ⟨w', ?_, h2, h3⟩
        have hlen : v.cells.size = n := by have := renL_length hc; simp at this hl; omega
        simp [Instr.storeAt, Instr.sureAddr, storeVar, run_size hn, hlen, h1]
      · cases h
    · cases h
  · cases h

/-- a new row -/
theorem newRow_run (hR : Rel P B μ H w) (elem : TypeId) {l : List SV} (hv : ∃ vs, renL μ l = some vs ∧ vs.length = l.length) (vs' : List Value) (hvs : ∀ vs, renL μ l = some vs → ∃ ex, vs' = vs ++ ex) (op : Bool) (κ : Nat) (hop : op = true → ∃ i, P.info? elem = some i ∧ κ * i.size = vs'.length) :
    ∃ μ', μ' = μ.add H.next (w.heap.size, κ) ∧ Rel P B μ' (newRowS H elem l op) (w.alloc (.cells vs'.toArray elem)) ∧ Step μ w μ' (w.alloc (.cells vs'.toArray elem)) := by
  obtain ⟨vs, hv, hl⟩ := hv
  obtain ⟨ex, rfl⟩ := hvs vs hv
  refine ⟨_, rfl, ?_⟩
  refine hR.new _ _ _ ⟨_, rfl, ?_⟩
  have hx : Ext μ (μ.add H.next (w.heap.size, κ)) := Mu.add_ext (hR.fresh _ (Nat.le_refl _)) _
  refine ⟨fun i s hi => ?_, by simp; omega, fun ho => by simpa using hop ho⟩
  rw [stFrom_get] at hi
  split at hi
  · rename_i hb
    obtain ⟨v, h3, h4⟩ := renL_get hv _ s hi
    refine ⟨by omega, v, ?_, ren_ext hx h4⟩
    simp only [Nat.sub_zero] at h3
    have hlt : i < vs.length := by omega
    simp only [List.getElem?_toArray]
    rw [List.getElem?_append_left hlt]; exact h3
  · rw [Tr.get_e] at hi; cases hi

end
end Go.Ex
