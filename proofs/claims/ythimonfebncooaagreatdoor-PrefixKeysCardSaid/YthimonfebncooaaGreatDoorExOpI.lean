/- One operation of the executor's against the model's: append, copy, clear. -/
import Derived.Test.YthimonfebncooaaGreatDoorExOpH
namespace Go.Ex

section
variable {P : Program} {B : Nat} {μ : Mu} {H : Hp} {w : World}

theorem growBy_le (n : Nat) : ∀ (r c : Nat), Builtin.growBy n r c ≤ c * 2 ^ r + 200 * 2 ^ r
  | 0, c => by simp [Builtin.growBy]
  | r + 1, c => by
    unfold Builtin.growBy
    split
    · have : 1 ≤ 2 ^ r := Nat.one_le_two_pow
      rw [Nat.pow_succ]
      have := Nat.le_mul_of_pos_right c (show 0 < 2 ^ r * 2 by omega)
      omega
    · have ih := growBy_le n r (c + (c + 768) / 4)
      have h1 : c + (c + 768) / 4 + 200 ≤ 2 * (c + 200) := by omega
      have h2 := Nat.mul_le_mul_right (2 ^ r) h1
      rw [Nat.pow_succ]
      have e1 : (c + (c + 768) / 4 + 200) * 2 ^ r = (c + (c + 768) / 4) * 2 ^ r + 200 * 2 ^ r := by rw [Nat.add_mul]
      have e2 : 2 * (c + 200) * 2 ^ r = c * (2 ^ r * 2) + 200 * (2 ^ r * 2) := by
        rw [Nat.mul_comm 2 (c + 200), Nat.mul_assoc, Nat.add_mul, Nat.mul_comm 2 (2 ^ r)]
      omega

theorem nextcap_le (n c : Nat) : Builtin.nextslicecap n c ≤ n + 16 * c + 3200 := by
  unfold Builtin.nextslicecap
  split
  · omega
  · split
    · omega
    · have := growBy_le n 4 c
      simp only [Nat.reducePow] at this
      omega

structure Grows (i : TypeInfo) (z : SV) (n : Nat) : Prop where
  size : i.size ≠ 0
  zlen : z.cells.length = i.size
  bytes : i.bytes ≤ 65536
  all : n * i.bytes ≤ 1099511627776
  len : n ≤ 1099511627776

theorem grows_of {i : TypeInfo} {z : SV} {n : Nat} (h : growsB i z n = true) : Grows i z n := by
  simp only [growsB, Bool.and_eq_true, Bool.not_eq_true', Nat.beq_eq, Nat.ble_eq] at h
  obtain ⟨⟨⟨⟨h1, h2⟩, h3⟩, h4⟩, h5⟩ := h
  refine ⟨fun e => ?_, h2, h3, h4, h5⟩
  rw [e] at h1; simp at h1

theorem Grows.room {i : TypeInfo} {z : SV} {n need c : Nat} (h : Grows i z n) (h1 : need ≤ n) (h2 : c ≤ n) : ¬ (Builtin.nextslicecap need c * i.bytes > 2 ^ 48) := by
  have h3 := nextcap_le need c
  have h4 : Builtin.nextslicecap need c ≤ 17 * n + 3200 := by omega
  have h5 := Nat.mul_le_mul_right i.bytes h4
  have e : (17 * n + 3200) * i.bytes = 17 * (n * i.bytes) + 3200 * i.bytes := by rw [Nat.add_mul, Nat.mul_assoc]
  have := h.all
  have := h.bytes
  have e2 : (2 : Nat) ^ 48 = 281474976710656 := by decide
  omega

theorem zeroCells_rep (zs : Array Value) (n : Nat) : Builtin.zeroCells zs n = (rep n zs.toList).toArray := zero_rep zs n

/-- a new row that may grow: what append comes to where there is no room -/
theorem grown_run (hR : Rel P B μ H w) {elem : TypeId} {i : TypeInfo} (_hi : P.info? elem = some i) {z : SV} {zv : Value} (hz : ren μ z = some zv) {n need : Nat} (hg : Grows i z n) {l : List SV} {vs : List Value} (hl : renL μ l = some vs)
    (hlen : vs.length = need * i.size) (q : Question) (hq : ∀ t, need ≤ q.cut t) (H' : Hp) (hH : H' = H ∨ ∃ p, H' = H.set p .dead) :
    ∃ μ' c, c = q.cut (w.tape w.drawn q) ∧ need ≤ c ∧ μ' = μ.add H.next (w.heap.size, c) ∧
      Rel P B μ' (newRowS H' elem l true) (World.alloc { w with drawn := w.drawn + 1 } (.cells (vs ++ rep (c - need) zv.cells.toList).toArray elem)) ∧
      Step μ w μ' (World.alloc { w with drawn := w.drawn + 1 } (.cells (vs ++ rep (c - need) zv.cells.toList).toArray elem)) := by
  have hc := hq (w.tape w.drawn q)
  generalize q.cut (w.tape w.drawn q) = c at hc
  have hR1 : Rel P B μ H' { w with drawn := w.drawn + 1 } := by
    have h0 := hR.heap (w' := { w with drawn := w.drawn + 1 }) rfl
    rcases hH with rfl | ⟨p, rfl⟩
    · exact h0
    · exact h0.kill p
  have hn : H'.next = H.next := by rcases hH with rfl | ⟨p, rfl⟩ <;> rfl
  have hzl := renL_length (ren_cells hz)
  obtain ⟨μ', hm, h1, h2⟩ := newRow_run hR1 elem ⟨vs, hl, renL_length hl⟩ (vs ++ rep (c - need) zv.cells.toList) (fun x hx => ⟨_, by rw [hl] at hx; cases hx; rfl⟩) true c (fun _ => ⟨i, _hi, by
    rw [List.length_append, rep_length, hlen, hzl, hg.zlen, ← Nat.add_mul]
    congr 1; omega⟩)
  rw [hn] at hm
  refine ⟨μ', c, rfl, hc, hm, h1, ?_⟩
  exact (Step.drew μ w (w.drawn + 1)).trans h2

theorem ask_cap (need old : Nat) (elem : TypeId) (h : need ≤ 1099511627776) (t : Nat) : need ≤ (Question.appendCap need old elem).cut t := by
  simp only [Question.cut]
  omega

theorem choose_cap (need old : Nat) (elem : TypeId) (w : World) : (choose (.appendCap need old elem)).run P w = .ok ((Question.appendCap need old elem).cut (w.tape w.drawn (.appendCap need old elem))) { w with drawn := w.drawn + 1 } := by
  rw [run_choose]
  rfl

theorem size_max (n : Nat) (h : n ≤ 1099511627776) (p : Prop) [Decidable p] : ¬ ((n : Int) > IntKind.i64.max ∧ p) := by
  have e : IntKind.i64.max = 9223372036854775807 := by decide
  rw [e]; omega

theorem isIntT_some {o : Option TypeId} {b : Bool} (h : isIntT P o = some b) : (o = none ∧ b = false) ∨ ∃ t d, o = some t ∧ P.underlying t = some d ∧ ((b = true ∧ ∃ k, d = .int k) ∨ (b = false ∧ ∀ k, d ≠ .int k)) := by
  cases o with
  | none => simp [isIntT] at h; exact .inl ⟨rfl, h⟩
  | some t =>
    simp only [isIntT] at h
    cases hu : P.underlying t with
    | none => simp [hu] at h
    | some d =>
      refine .inr ⟨t, d, rfl, hu, ?_⟩
      cases d <;> simp [hu] at h <;> subst h <;> simp

/-- append's own first looks -/
theorem append_room {ts : Array TypeId} {rt t elem : TypeId} {size : Nat} (ht : ts[0]? = some t) (hu : P.underlying t = some (.slice elem)) (hs : sizeB P elem = some size) (hz : isIntT P ts[1]? = some false) {base : Option Addr} {sLen sCap n : Nat} {vx : Value} {new : List Value}
    (hn : (Builtin.lenOf vx).run P w = .ok n w) (hnew : (Builtin.firstCells size n vx).run P w = .ok new.toArray w) (hroom : sLen + n ≤ sCap) :
    (Builtin.append_ ts rt #[.slice base sLen sCap, vx]).run P w = match base with
      | some a => ((storeCells (a.add (sLen * size)) new).run P w).andThen fun _ w' => .ok (.slice base (sLen + n) sCap) w'
      | none => .ok (.slice base (sLen + n) sCap) w := by
  unfold Builtin.append_
  rcases isIntT_some hz with ⟨h1, _⟩ | ⟨t1, d, h1, hu1, ⟨hf, _⟩ | ⟨_, hd⟩⟩
  · simp only [ht, h1, List.getElem?_toArray, List.getElem?_cons_zero, List.getElem?_cons_succ, Sem.run_bind, run_underlying hu, Result.andThen_ok, run_size hs, Bool.false_eq_true, if_false, hn, hroom, if_true, Bool.not_false, hnew, Sem.run_pure]
    cases base <;> simp
  · cases hf
  · simp only [ht, h1, List.getElem?_toArray, List.getElem?_cons_zero, List.getElem?_cons_succ, Sem.run_bind, run_underlying hu, run_underlying hu1, Result.andThen_ok, run_size hs]
    cases d <;> first | (exact absurd rfl (hd _)) | (simp only [Sem.run_bind, Sem.run_pure, Result.andThen_ok, Bool.false_eq_true, if_false, hn, hroom, if_true, Bool.not_false, hnew]; cases base <;> simp)

theorem append_grow {ts : Array TypeId} {rt t elem : TypeId} {i : TypeInfo} {zv : Value} (ht : ts[0]? = some t) (hu : P.underlying t = some (.slice elem)) (hi : P.info? elem = some i) (hzv : ∀ w, (zeroValue elem).run P w = .ok zv w) (hz : isIntT P ts[1]? = some false) {base : Option Addr} {sLen sCap n : Nat} {vx : Value} {old new : List Value}
    (hn : (Builtin.lenOf vx).run P w = .ok n w) (hroom : ¬ sLen + n ≤ sCap) (hlen : sLen + n ≤ 1099511627776) (hbig : ¬ (Builtin.nextslicecap (sLen + n) sCap * i.bytes > 2 ^ 48))
    (hold : (Builtin.firstCells i.size sLen (.slice base sLen sCap)).run P { w with drawn := w.drawn + 1 } = .ok old.toArray { w with drawn := w.drawn + 1 })
    (hnew : (Builtin.firstCells i.size n vx).run P { w with drawn := w.drawn + 1 } = .ok new.toArray { w with drawn := w.drawn + 1 }) :
    (Builtin.append_ ts rt #[.slice base sLen sCap, vx]).run P w =
      .ok (.slice (some ⟨w.heap.size, 0, none⟩) (sLen + n) ((Question.appendCap (sLen + n) sCap elem).cut (w.tape w.drawn (.appendCap (sLen + n) sCap elem))))
        (World.alloc { w with drawn := w.drawn + 1 } (.cells (old ++ new ++ rep ((Question.appendCap (sLen + n) sCap elem).cut (w.tape w.drawn (.appendCap (sLen + n) sCap elem)) - (sLen + n)) zv.cells.toList).toArray elem)) := by
  have hs : sizeB P elem = some i.size := by simp [sizeB, hi]
  have hm := fun p [Decidable p] => size_max (sLen + n) hlen p
  unfold Builtin.append_
  rcases isIntT_some hz with ⟨h1, _⟩ | ⟨t1, d, h1, hu1, ⟨hf, _⟩ | ⟨_, hd⟩⟩
  · simp only [ht, h1, List.getElem?_toArray, List.getElem?_cons_zero, List.getElem?_cons_succ, Sem.run_bind, run_underlying hu, Result.andThen_ok, run_size hs, Bool.false_eq_true, if_false, hn, hroom, run_info hi, hm, hbig, choose_cap, run_askRoom, Bool.not_false, if_true, hold, hnew, hzv, zeroCells_rep, newRow, Sem.run_pure]
    simp [World.alloc]
    exact ⟨rfl, rfl, rfl⟩
  · cases hf
  · simp only [ht, h1, List.getElem?_toArray, List.getElem?_cons_zero, List.getElem?_cons_succ, Sem.run_bind, run_underlying hu, run_underlying hu1, Result.andThen_ok, run_size hs]
    cases d <;> first | (exact absurd rfl (hd _)) | (simp only [Sem.run_bind, Sem.run_pure, Result.andThen_ok, Bool.false_eq_true, if_false, hn, hroom, run_info hi, hm, hbig, choose_cap, run_askRoom, Bool.not_false, if_true, hold, hnew, hzv, zeroCells_rep, newRow]; simp [World.alloc]; exact ⟨rfl, rfl, rfl⟩)

theorem append_zeros {ts : Array TypeId} {rt t elem : TypeId} {i : TypeInfo} {zv : Value} (ht : ts[0]? = some t) (hu : P.underlying t = some (.slice elem)) (hi : P.info? elem = some i) (hzv : ∀ w, (zeroValue elem).run P w = .ok zv w) (hz : isIntT P ts[1]? = some true) {k : IntKind} {n : Nat}
    (hpos : n ≠ 0) (hlen : n ≤ 1099511627776) (hall : n * i.bytes ≤ 1099511627776) (hsz : i.size ≠ 0) (hbig : ¬ (Builtin.nextslicecap (0 + n) 0 * i.bytes > 2 ^ 48)) :
    (Builtin.append_ ts rt #[.slice none 0 0, .int k (Int.ofNat n)]).run P w =
      .ok (.slice (some ⟨w.heap.size, 0, none⟩) (0 + n) ((Question.appendCap (0 + n) 0 elem).cut (w.tape w.drawn (.appendCap (0 + n) 0 elem))))
        (World.alloc { w with drawn := w.drawn + 1 } (.cells (rep n zv.cells.toList ++ rep ((Question.appendCap (0 + n) 0 elem).cut (w.tape w.drawn (.appendCap (0 + n) 0 elem)) - (0 + n)) zv.cells.toList).toArray elem)) := by
  have hs : sizeB P elem = some i.size := by simp [sizeB, hi]
  have hm := fun p [Decidable p] => size_max (0 + n) (by omega) p
  have hw := wrap_nat (n := n) (by omega)
  have hneg : ¬ (Int.ofNat n < 0) := by show ¬ ((n : Int) < 0); omega
  have hbg : ¬ (Int.ofNat n * (i.bytes : Int) > 2 ^ 48) := by
    have e1 : Int.ofNat n * (i.bytes : Int) = ((n * i.bytes : Nat) : Int) := rfl
    have e2 : (2 : Int) ^ 48 = 281474976710656 := by decide
    rw [e1, e2]; omega
  have hns : ¬ (n * i.size = 0) := by
    intro e
    rcases Nat.mul_eq_zero.1 e with e | e
    · exact hpos e
    · exact hsz e
  have hroom : ¬ (0 + n ≤ 0) := by omega
  have hto : (Int.ofNat n).toNat = n := rfl
  unfold Builtin.append_
  rcases isIntT_some hz with ⟨_, hf⟩ | ⟨t1, d, h1, hu1, ⟨_, k', rfl⟩ | ⟨hf, _⟩⟩
  · cases hf
  · simp only [ht, h1, List.getElem?_toArray, List.getElem?_cons_zero, List.getElem?_cons_succ, Sem.run_bind, run_underlying hu, run_underlying hu1, Result.andThen_ok, run_size hs, if_true, asInt, asIntOf, Sem.run_pure, hw, hneg, if_false, run_info hi, hbg, hto, hroom, hm, hbig, choose_cap, run_askRoom, Bool.not_true, Bool.false_eq_true, hns, hzv, zeroCells_rep, newRow, Builtin.firstCells]
    simp [World.alloc]
    exact ⟨rfl, rfl, rfl⟩
  · cases hf

end
end Go.Ex
