/- One operation of the executor's against the model's: assertions, lengths, append, copy, clear. -/
import Derived.Test.YthimonfebncooaaGreatDoorExOpG
namespace Go.Ex

section
variable {P : Program} {B : Nat} {μ : Mu} {H : Hp} {w : World}

theorem assertS_run {x s : SV} {xt t : TypeId} {ok : Bool} {vx : Value} (h : assertS P x t ok = some s) (hx : ren μ x = some vx) (w : World) :
    ∃ v, (Instr.typeAssert vx xt t ok).run P w = .ok v w ∧ ren μ s = some v := by
  have zero : ∀ {s : SV}, (if ok = true then (match zeroB P t with
      | some z => some (SV.tup [z, .bool false])
      | none => none) else none) = some s → ok = true ∧ ∃ zv, (zeroValue t).run P w = .ok zv w ∧ ren μ s = some (.tuple #[zv, .bool false]) := by
    intro s h
    split at h
    · rename_i hok
      split at h
      · rename_i z hz
        cases h
        obtain ⟨zv, h1, h2⟩ := run_zero hz w
        exact ⟨hok, zv, h1, tup2 (h2 μ) rfl⟩
      · cases h
    · cases h
  unfold assertS at h
  split at h
  · rename_i ms hu
    simp only [ren] at hx; cases hx
    obtain ⟨rfl, zv, h1, h2⟩ := zero h
    exact ⟨_, by simp [Instr.typeAssert, run_underlying hu, h1], h2⟩
  · rename_i want u s' hu
    have hx' := hx
    obtain ⟨z, hz, rfl⟩ := iface_ren hx
    split at h
    · rename_i i hi
      split at h
      · rename_i hm
        cases h
        cases ok with
        | true => exact ⟨.tuple #[.iface u z, .bool true], by simp [Instr.typeAssert, run_underlying hu, run_info hi, hm], tup2 hx' rfl⟩
        | false => exact ⟨.iface u z, by simp [Instr.typeAssert, run_underlying hu, run_info hi, hm], hx'⟩
      · rename_i m hm
        obtain ⟨rfl, zv, h1, h2⟩ := zero h
        exact ⟨_, by simp [Instr.typeAssert, run_underlying hu, run_info hi, hm, h1], h2⟩
    · cases h
  · rename_i d hnot hu
    simp only [ren] at hx; cases hx
    obtain ⟨rfl, zv, h1, h2⟩ := zero h
    refine ⟨_, ?_, h2⟩
    simp only [Instr.typeAssert, Sem.run_bind, run_underlying hu, Result.andThen_ok]
    cases d <;> simp [h1]
  · rename_i d u s' hnot hu
    obtain ⟨z, hz, rfl⟩ := iface_ren hx
    have hd : ∀ ms, d ≠ .interface ms := fun ms e => by first | exact hnot ms e u s' rfl | exact hnot ms e | (subst e; trace_state; simp at hnot)
    split at h
    · rename_i he
      subst he
      cases h
      cases ok with
      | true =>
        refine ⟨.tuple #[z, .bool true], ?_, tup2 hz rfl⟩
        simp only [Instr.typeAssert, Sem.run_bind, run_underlying hu, Result.andThen_ok]
        cases d <;> first | (simp; done) | (exact absurd rfl (hd _))
      | false =>
        refine ⟨z, ?_, hz⟩
        simp only [Instr.typeAssert, Sem.run_bind, run_underlying hu, Result.andThen_ok]
        cases d <;> first | (simp; done) | (exact absurd rfl (hd _))
    · rename_i he
      obtain ⟨rfl, zv, h1, h2⟩ := zero h
      refine ⟨_, ?_, h2⟩
      simp only [Instr.typeAssert, Sem.run_bind, run_underlying hu, Result.andThen_ok]
      cases d <;> first | (simp [he, h1]; done) | (exact absurd rfl (hd _))
  · cases h

theorem etail_ren {p off l size k : Nat} {v : Value} (h : ren μ (.etail p off l size k) = some v) : ∃ a c, v = .slice (some a) 0 c := by
  simp only [ren] at h
  split at h
  · split at h <;> cases h
    exact ⟨_, _, rfl⟩
  · cases h

theorem mapO_length {α β : Type} {f : α → Option β} : ∀ {l : List α} {r : List β}, mapO f l = some r → r.length = l.length
  | [], r, h => by simp [mapO] at h; subst h; rfl
  | a :: l, r, h => by
    obtain ⟨x, y, _, hy, rfl⟩ := mapO_cons.1 h
    simp [mapO_length hy]

theorem lenS_run (hR : Rel P B μ H w) {t : TypeId} {ts : Array TypeId} {rt : TypeId} {x s : SV} {vx : Value} (ht : ts[0]? = some t) (h : lenS P H t x = some s) (hx : ren μ x = some vx) :
    ∃ v, (Builtin.len_ ts rt #[vx]).run P w = .ok v w ∧ ren μ s = some v := by
  unfold lenS at h
  split at h
  · rename_i l hu
    obtain ⟨_, rfl⟩ := str_ren hx
    cases h
    exact ⟨_, by simp only [Builtin.len_, ht, List.getElem?_toArray, List.getElem?_cons_zero, Sem.run_bind, run_underlying hu, Result.andThen_ok, Sem.run_pure, size_bytes, List.length_map, goInt]; rfl, rfl⟩
  · rename_i n e hu
    cases h
    exact ⟨_, by simp only [Builtin.len_, ht, List.getElem?_toArray, List.getElem?_cons_zero, Sem.run_bind, run_underlying hu, Result.andThen_ok, Sem.run_pure, goInt]; rfl, rfl⟩
  · rename_i e p off n c hu
    obtain ⟨_, _, _, rfl, _⟩ := slice_ren hx
    cases h
    exact ⟨_, by simp only [Builtin.len_, ht, List.getElem?_toArray, List.getElem?_cons_zero, Sem.run_bind, run_underlying hu, Result.andThen_ok, Sem.run_pure, goInt]; rfl, rfl⟩
  · rename_i e hu
    simp only [ren] at hx; cases hx
    cases h
    exact ⟨_, by simp only [Builtin.len_, ht, List.getElem?_toArray, List.getElem?_cons_zero, Sem.run_bind, run_underlying hu, Result.andThen_ok, Sem.run_pure, goInt]; rfl, rfl⟩
  · rename_i e p off l sz k hu
    obtain ⟨_, _, rfl⟩ := etail_ren hx
    cases h
    exact ⟨_, by simp only [Builtin.len_, ht, List.getElem?_toArray, List.getElem?_cons_zero, Sem.run_bind, run_underlying hu, Result.andThen_ok, Sem.run_pure, goInt]; rfl, rfl⟩
  · rename_i a b hu
    simp only [ren] at hx; cases hx
    cases h
    exact ⟨_, by simp only [Builtin.len_, ht, List.getElem?_toArray, List.getElem?_cons_zero, Sem.run_bind, run_underlying hu, Result.andThen_ok, Sem.run_pure, goInt]; rfl, rfl⟩
  · rename_i a b p hu
    obtain ⟨y, hy, rfl⟩ := map_ren hx
    split at h
    · rename_i es clock hp
      cases h
      obtain ⟨l, hl, hh⟩ := hR.map hy hp
      refine ⟨_, by simp only [Builtin.len_, ht, List.getElem?_toArray, List.getElem?_cons_zero, Sem.run_bind, run_underlying hu, Result.andThen_ok, Sem.run_pure, run_getObj hh, goInt]; rfl, ?_⟩
      simp [intNat, ren, mapO_length hl]
    · cases h
  · rename_i arr hu
    split at h
    · rename_i n e hu2
      cases h
      exact ⟨_, by simp only [Builtin.len_, ht, List.getElem?_toArray, List.getElem?_cons_zero, Sem.run_bind, run_underlying hu, run_underlying hu2, Result.andThen_ok, Sem.run_pure, goInt]; rfl, rfl⟩
    · cases h
  · cases h

theorem capS_run {t : TypeId} {ts : Array TypeId} {rt : TypeId} {x s : SV} {vx : Value} (ht : ts[0]? = some t) (h : capS P t x = some s) (hx : ren μ x = some vx) (w : World) :
    ∃ v, (Builtin.cap_ ts rt #[vx]).run P w = .ok v w ∧ ren μ s = some v := by
  unfold capS at h
  split at h
  · rename_i e p off n c hu
    obtain ⟨x, cc, _, rfl, hc⟩ := slice_ren hx
    obtain ⟨rfl, _⟩ := hc
    cases h
    exact ⟨_, by simp only [Builtin.cap_, ht, List.getElem?_toArray, List.getElem?_cons_zero, Sem.run_bind, run_underlying hu, Result.andThen_ok, Sem.run_pure, goInt]; rfl, rfl⟩
  · rename_i e hu
    simp only [ren] at hx; cases hx
    cases h
    exact ⟨_, by simp only [Builtin.cap_, ht, List.getElem?_toArray, List.getElem?_cons_zero, Sem.run_bind, run_underlying hu, Result.andThen_ok, Sem.run_pure, goInt]; rfl, rfl⟩
  · cases h

theorem minL_run : ∀ {l : List SV} {x s : SV} {vx : Value} {vs : List Value}, minL x l = some s → ren μ x = some vx → renL μ l = some vs → ∀ w, ∃ v, (vs.foldlM Builtin.min2 vx).run P w = .ok v w ∧ ren μ s = some v
  | [], x, s, vx, vs, h, hx, hl, w => by
    simp [renL] at hl; subst hl
    unfold minL at h
    cases h
    exact ⟨vx, by simp, hx⟩
  | y :: l, x, s, vx, vs, h, hx, hl, w => by
    obtain ⟨vy, r, h1, h2, rfl⟩ := renL_cons.1 hl
    unfold minL at h
    split at h
    · rename_i heq; cases heq
    · rename_i k a k' b r' heq
      cases heq
      simp only [ren] at hx h1; cases hx; cases h1
      obtain ⟨v, h3, h4⟩ := minL_run h rfl h2 w
      exact ⟨v, by simp [List.foldlM_cons, Builtin.min2, h3], h4⟩
    · cases h

theorem maxL_run : ∀ {l : List SV} {x s : SV} {vx : Value} {vs : List Value}, maxL x l = some s → ren μ x = some vx → renL μ l = some vs → ∀ w, ∃ v, (vs.foldlM Builtin.max2 vx).run P w = .ok v w ∧ ren μ s = some v
  | [], x, s, vx, vs, h, hx, hl, w => by
    simp [renL] at hl; subst hl
    unfold maxL at h
    cases h
    exact ⟨vx, by simp, hx⟩
  | y :: l, x, s, vx, vs, h, hx, hl, w => by
    obtain ⟨vy, r, h1, h2, rfl⟩ := renL_cons.1 hl
    unfold maxL at h
    split at h
    · rename_i heq; cases heq
    · rename_i k a k' b r' heq
      cases heq
      simp only [ren] at hx h1; cases hx; cases h1
      obtain ⟨v, h3, h4⟩ := maxL_run h rfl h2 w
      exact ⟨v, by simp [List.foldlM_cons, Builtin.max2, h3], h4⟩
    · cases h

theorem lenOfS_run {x : SV} {n : Nat} {vx : Value} (h : lenOfS x = some n) (hx : ren μ x = some vx) (w : World) : (Builtin.lenOf vx).run P w = .ok n w := by
  unfold lenOfS at h
  split at h
  · cases h; obtain ⟨_, _, _, rfl, _⟩ := slice_ren hx; rfl
  · cases h; simp only [ren] at hx; cases hx; rfl
  · cases h; obtain ⟨_, _, rfl⟩ := etail_ren hx; rfl
  · cases h
    obtain ⟨_, rfl⟩ := str_ren hx
    simp [Builtin.lenOf, size_bytes]
  · cases h

theorem ints_ren : ∀ (l : List Nat), renL μ (l.map fun b => .int .u8 (.ofNat b)) = some (l.map fun b => .int .u8 (Int.ofNat b))
  | [] => rfl
  | b :: l => renL_cons.2 ⟨_, _, rfl, ints_ren l, rfl⟩

theorem srcCells_run (hR : Rel P B μ H w) {size n : Nat} {x : SV} {l : List SV} {vx : Value} (h : srcCells H size n x = some l) (hx : ren μ x = some vx) :
    ∃ vs, renL μ l = some vs ∧ vs.length = n * size ∧ (Builtin.firstCells size n vx).run P w = .ok vs.toArray w := by
  unfold srcCells at h
  split at h
  · rename_i p off len c
    obtain ⟨y, cc, hy, rfl, _⟩ := slice_ren hx
    split at h
    · obtain ⟨vs, h1, h2, h3⟩ := ldRow_run hR h hy
      exact ⟨vs, h1, h2, by simpa [Builtin.firstCells] using h3⟩
    · cases h
  · simp only [ren] at hx; cases hx
    split at h
    · rename_i hn; subst hn; cases h
      exact ⟨[], rfl, by simp, by simp [Builtin.firstCells]⟩
    · cases h
  · split at h
    · rename_i hn; subst hn; cases h
      obtain ⟨a, c, rfl⟩ := etail_ren hx
      exact ⟨[], rfl, by simp, by simp [Builtin.firstCells, loadCells, loadCellsFrom]⟩
    · cases h
  · rename_i s
    obtain ⟨hb, rfl⟩ := str_ren hx
    split at h
    · rename_i hs
      subst hs
      split at h
      · rename_i r hr
        cases h
        obtain ⟨e1, e2⟩ := cut_map (fun x : Nat => x) hr
        refine ⟨_, ints_ren r, by simp [e2], ?_⟩
        simp only [Builtin.firstCells, Sem.run_pure, extract_bytes]
        congr 1
        apply Array.ext'
        simp only [List.map_toArray, List.drop_zero, Nat.sub_zero, List.toList_toArray]
        rw [e1]
        simp only [List.drop_zero, ← List.map_take, List.map_map]
        apply List.map_congr_left
        intro b hbm
        have := hb b (List.mem_of_mem_take hbm)
        simp
        omega
      · cases h
    · cases h
  · cases h

end
end Go.Ex
