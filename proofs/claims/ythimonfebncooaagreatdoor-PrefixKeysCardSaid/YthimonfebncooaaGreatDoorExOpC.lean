/- One operation of the executor's against the model's: what is built, made and cut. -/
import Derived.Test.YthimonfebncooaaGreatDoorExOpB
import Derived.IntWalk
namespace Go.Ex

section
variable {P : Program} {B : Nat} {μ : Mu} {H : Hp} {w : World}

theorem run_mapM {α β : Type} {f : α → Sem β} {g : α → Option β} (hf : ∀ a b w, g a = some b → (f a).run P w = .ok b w) :
    ∀ {l : List α} {r : List β} (w : World), mapO g l = some r → (l.mapM f).run P w = .ok r w
  | [], r, w, h => by simp [mapO] at h; subst h; simp
  | a :: l, r, w, h => by
    obtain ⟨x, y, hx, hy, rfl⟩ := mapO_cons.1 h
    simp [List.mapM_cons, hf a x w hx, run_mapM hf w hy]

theorem buildS_run {t : TypeId} {ps : List (Nat × SV)} {r : SV} {pv : List (Nat × Value)} (h : buildS P t ps = some r) (hp : renP μ ps = some pv) (w : World) :
    ∃ v, (Instr.build t pv.toArray).run P w = .ok v w ∧ ren μ r = some v := by
  unfold buildS at h
  split at h
  · cases h
  · rename_i z hz
    obtain ⟨zv, hz1, hz2⟩ := run_zero hz w
    have hzc := ren_cells (hz2 μ)
    split at h
    · rename_i fields hu
      split at h
      · rename_i places hpl
        split at h
        · rename_i l hl
          cases h
          obtain ⟨us, h1, h2, h3⟩ := fillS_run hl hzc hp
          refine ⟨.agg us.toArray, ?_, by simp [ren, h1]⟩
          have hm : (fields.mapM fun f => (do pure (f.offset, ← sizeOf f.type) : Sem (Nat × Nat))).run P w = .ok places.toArray w := by
            rw [Array.mapM_eq_mapM_toList]
            simp only [Sem.run_map]
            rw [run_mapM (g := placeB P) (fun f b w hb => ?_) w hpl]
            · rfl
            · unfold placeB at hb
              split at hb
              · rename_i n hn; cases hb; simp [run_size hn]
              · cases hb
          have hn : (fun i => places.toArray[i]?) = nth places := by funext i; rw [nth_eq]; simp
          simp only [Instr.build, Sem.run_bind, hz1, Result.andThen_ok, run_underlying hu, hm, hn]
          have h2' : Instr.fill (nth places) zv.cells pv = some us.toArray := by simpa using h2
          simp [h2']
        · cases h
      · cases h
    · rename_i n elem hu
      split at h
      · rename_i m hm
        split at h
        · rename_i l hl
          cases h
          obtain ⟨us, h1, h2, h3⟩ := fillS_run hl hzc hp
          refine ⟨.agg us.toArray, ?_, by simp [ren, h1]⟩
          have h2' : Instr.fill (fun i => some (i * m, m)) zv.cells pv = some us.toArray := by simpa using h2
          simp [Instr.build, hz1, run_underlying hu, run_size hm, h2']
        · cases h
      · cases h
    · cases h

theorem renL_rep {l : List SV} {vs : List Value} (h : renL μ l = some vs) : ∀ n, renL μ (rep n l) = some (rep n vs)
  | 0 => rfl
  | n + 1 => renL_append h (renL_rep h n)

theorem rep_length {α : Type} (l : List α) : ∀ n, (rep n l).length = n * l.length
  | 0 => by simp [rep]
  | n + 1 => by simp [rep, rep_length l n, Nat.succ_mul]; omega

theorem rep_get {α : Type} (l : List α) : ∀ n i, i < n * l.length → (rep n l)[i]? = l[i % l.length]?
  | 0, i, h => by simp at h
  | n + 1, i, h => by
    simp only [rep]
    rcases Nat.lt_or_ge i l.length with hlt | hge
    · rw [List.getElem?_append_left hlt, Nat.mod_eq_of_lt hlt]
    · rw [List.getElem?_append_right hge, rep_get l n _ (by rw [Nat.succ_mul] at h; omega)]
      rw [← Nat.mod_eq_sub_mod hge]

theorem zero_rep (zs : Array Value) (n : Nat) : (Array.range (n * zs.size)).map (fun i => zs[i % zs.size]!) = (rep n zs.toList).toArray := by
  apply Array.ext'
  apply List.ext_getElem?
  intro i
  simp only [Array.toList_map, Array.toList_range, List.getElem?_map]
  rcases Nat.lt_or_ge i (n * zs.size) with hlt | hge
  · rw [rep_get zs.toList n i (by simpa using hlt)]
    have hpos : 0 < zs.size := by rcases Nat.eq_zero_or_pos zs.size with h0 | h0; (rw [h0] at hlt; simp at hlt); exact h0
    have hm := Nat.mod_lt i hpos
    simp [hlt, hm]
  · rw [List.getElem?_eq_none (l := List.range (n * zs.size)) (by simpa using hge), List.getElem?_eq_none (l := rep n zs.toList) (by rw [rep_length]; simpa using hge)]
    rfl

/-- the zeros of a row -/
theorem zerosB_run {elem : TypeId} {n : Nat} {l : List SV} (h : zerosB P elem n = some l) {size : Nat} (hs : sizeB P elem = some size) (w : World) :
    ∃ zs : Array Value, ((n * size = 0 ∧ zs = #[]) ∨ (n * size ≠ 0 ∧ ∃ zv, (zeroValue elem).run P w = .ok zv w ∧ zs = zv.cells)) ∧
      ∃ vs, renL μ l = some vs ∧ vs.length = n * size ∧ l.length = n * size ∧ (Array.range (n * size)).map (fun i => zs[i % zs.size]!) = vs.toArray := by
  unfold zerosB at h
  cases n with
  | zero =>
    simp at h; subst h
    exact ⟨#[], .inl ⟨by simp, rfl⟩, [], rfl, by simp, by simp, by simp⟩
  | succ n =>
    simp only at h
    split at h
    · rename_i z hz
      simp only [hs] at h
      split at h
      · rename_i hl
        cases h
        simp only [beq_iff_eq] at hl
        obtain ⟨zv, hz1, hz2⟩ := run_zero hz w
        have hzc := ren_cells (hz2 μ)
        have hlen := renL_length hzc
        by_cases h0 : (n + 1) * size = 0
        · have hs0 : size = 0 := by
            rcases Nat.mul_eq_zero.1 h0 with h | h
            · omega
            · exact h
          have hze : z.cells = [] := List.eq_nil_of_length_eq_zero (by omega)
          have hre : rep (n + 1) z.cells = [] := List.eq_nil_of_length_eq_zero (by rw [rep_length, hze]; simp)
          refine ⟨#[], .inl ⟨h0, rfl⟩, [], by rw [hre]; rfl, by simp [h0], by rw [hre]; simp [h0], by rw [h0]; simp⟩
        · refine ⟨zv.cells, .inr ⟨h0, zv, hz1, rfl⟩, rep (n + 1) zv.cells.toList, renL_rep hzc _, by rw [rep_length]; simp at hlen ⊢; rw [hlen, hl], by rw [rep_length, hl], ?_⟩
          have hsz : size = zv.cells.size := by simp at hlen; omega
          rw [hsz, zero_rep]
      · cases h
    · cases h

theorem buildSliceS_run (hR : Rel P B μ H w) {t : TypeId} {len : Nat} {ps : List (Nat × SV)} {s : SV} {H' : Hp} {pv : List (Nat × Value)} (h : buildSliceS P H t len ps = some (s, H')) (hp : renP μ ps = some pv) :
    ∃ v w' μ', (Instr.buildSlice t len pv.toArray).run P w = .ok v w' ∧ ren μ' s = some v ∧ Rel P B μ' H' w' ∧ Step μ w μ' w' := by
  unfold buildSliceS at h
  split at h
  · rename_i elem hu
    split at h
    · rename_i n hn
      split at h
      · rename_i hle
        split at h
        · rename_i z hz
          split at h
          · rename_i l hl
            cases h
            obtain ⟨zs, h1, vs, h2, h3, h4, h5⟩ := zerosB_run (μ := μ) hz hn w
            obtain ⟨us, h6, h7, h8⟩ := fillS_run hl h2 hp
            obtain ⟨μ', hm, hR', hS⟩ := newRow_run hR elem ⟨us, h6, renL_length h6⟩ us (fun x hx => ⟨[], by rw [h6] at hx; cases hx; simp⟩) false 0 (by simp)
            refine ⟨.slice (some ⟨w.heap.size, 0, none⟩) len len, _, μ', ?_, ?_, hR', hS⟩
            · have hgt : ¬ len * n > 16777216 := by omega
              rcases h1 with ⟨h0, rfl⟩ | ⟨h0, zv, h1, rfl⟩
              · simp only [Instr.buildSlice, Sem.run_bind, run_underlying hu, Result.andThen_ok, run_size hn, Nat.reducePow, if_neg hgt, if_pos h0, Sem.run_pure, h5, h7, newRow, run_newObj_alloc]
              · simp only [Instr.buildSlice, Sem.run_bind, run_underlying hu, Result.andThen_ok, run_size hn, Nat.reducePow, if_neg hgt, if_neg h0, h1, Sem.run_pure, h5, h7, newRow, run_newObj_alloc]
            · subst hm
              simp [ren, Mu.add_self]
          · cases h
        · cases h
      · cases h
    · cases h
  · cases h

theorem wrap_nat {n : Nat} (h : n ≤ 9223372036854775807) : IntKind.i64.wrap (Int.ofNat n) = Int.ofNat n :=
  IntWalk.i64_in _ (by show _ ≤ (n : Int) ∧ (n : Int) ≤ _; omega)

theorem makeSliceS_run (hR : Rel P B μ H w) {t : TypeId} {l c s : SV} {H' : Hp} {vl vc : Value} (h : makeSliceS P H t l c = some (s, H')) (hl : ren μ l = some vl) (hc : ren μ c = some vc) :
    ∃ v w' μ', (Instr.makeSlice t vl vc).run P w = .ok v w' ∧ ren μ' s = some v ∧ Rel P B μ' H' w' ∧ Step μ w μ' w' := by
  unfold makeSliceS at h
  split at h
  · rename_i elem l' c' hu hnl hnc
    obtain ⟨kl, rfl⟩ := natOf_ren hnl hl
    obtain ⟨kc, rfl⟩ := natOf_ren hnc hc
    split at h
    · rename_i i hi
      split at h
      · rename_i hcond
        simp only [Bool.and_eq_true, decide_eq_true_eq] at hcond
        obtain ⟨⟨hle, hb⟩, hmax⟩ := hcond
        split at h
        · rename_i z hz
          cases h
          have hs : sizeB P elem = some i.size := by simp [sizeB, hi]
          obtain ⟨zs, h1, vs, h2, h3, h4, h5⟩ := zerosB_run (μ := μ) hz hs w
          obtain ⟨μ', hm, hR', hS⟩ := newRow_run hR elem ⟨vs, h2, renL_length h2⟩ vs (fun x hx => ⟨[], by rw [h2] at hx; cases hx; simp⟩) false 0 (by simp)
          refine ⟨.slice (some ⟨w.heap.size, 0, none⟩) l' c', _, μ', ?_, ?_, hR', hS⟩
          · have w1 := wrap_nat (n := l') (by omega)
            have w2 := wrap_nat (n := c') (by omega)
            have g1 : ¬ (Int.ofNat c' < 0) := by show ¬ ((c' : Int) < 0); omega
            have g2 : ¬ ((i.bytes : Int) * Int.ofNat c' > 2 ^ 48) := by
              have : (i.bytes : Int) * Int.ofNat c' = ((i.bytes * c' : Nat) : Int) := rfl
              rw [this]
              have e : (2 : Int) ^ 48 = 281474976710656 := by decide
              rw [e]; omega
            have g3 : ¬ (Int.ofNat l' < 0) := by show ¬ ((l' : Int) < 0); omega
            have g4 : ¬ (Int.ofNat l' > Int.ofNat c') := by show ¬ ((l' : Int) > (c' : Int)); omega
            have t1 : (Int.ofNat c').toNat = c' := rfl
            have t2 : (Int.ofNat l').toNat = l' := rfl
            simp only [Instr.makeSlice, Sem.run_bind, run_underlying hu, Result.andThen_ok, asInt, asIntOf, Sem.run_pure, run_info hi, w1, w2, g1, g2, g3, g4, decide_false, Bool.or_self, Bool.or_false, Bool.false_eq_true, if_false, run_askRoom, run_size hs, t1, t2]
            rcases h1 with ⟨h0, rfl⟩ | ⟨h0, zv, h1, rfl⟩
            · simp only [if_pos h0, Sem.run_bind, Sem.run_pure, Result.andThen_ok, h5, newRow, run_newObj_alloc]
            · simp only [if_neg h0, h1, Sem.run_bind, Sem.run_pure, Result.andThen_ok, h5, newRow, run_newObj_alloc]
          · subst hm
            simp [ren, Mu.add_self, hle]
        · cases h
      · cases h
    · cases h
  · cases h

end
end Go.Ex
