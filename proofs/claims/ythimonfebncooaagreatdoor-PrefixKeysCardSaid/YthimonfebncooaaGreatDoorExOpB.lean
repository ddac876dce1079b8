/- One operation of the executor's against the model's: addresses, parts, structs, slices. -/
import Derived.Test.YthimonfebncooaaGreatDoorExOpA
namespace Go.Ex

section
variable {P : Program} {B : Nat} {μ : Mu} {H : Hp} {w : World}

theorem addr_add (b off n : Nat) : (⟨b, off, none⟩ : Addr).add n = ⟨b, off + n, none⟩ := by
  unfold Addr.add
  split
  · rename_i h; subst h; rfl
  · rfl

theorem natOf_ren {i : SV} {n : Nat} (h : natOf i = some n) {v : Value} (hv : ren μ i = some v) : ∃ k, v = .int k (Int.ofNat n) := by
  unfold natOf at h
  split at h
  · cases h; simp only [ren] at hv; cases hv; exact ⟨_, rfl⟩
  · cases h

theorem fieldAddrS_run {s : TypeId} {a r : SV} {i : Nat} {va : Value} (h : fieldAddrS P s a i = some r) (ha : ren μ a = some va) (w : World) :
    ∃ v, (Instr.fieldAt s va i).run P w = .ok v w ∧ ren μ r = some v := by
  unfold fieldAddrS at h
  split at h
  · rename_i fields p off hu
    obtain ⟨x, hx, rfl⟩ := ptr_ren ha
    split at h
    · rename_i f hf
      split at h
      · rename_i m hs
        cases h
        refine ⟨_, ?_, by simp only [ren, hx]; rfl⟩
        simp [Instr.fieldAt, run_underlying hu, hf, Instr.sureAddr, fieldPlace, run_size hs, addr_add]
      · cases h
    · cases h
  · cases h

theorem indexAddrS_run {t : TypeId} {a i r : SV} {va vi : Value} (h : indexAddrS P t a i = some r) (ha : ren μ a = some va) (hi : ren μ i = some vi) (w : World) :
    ∃ v, (Instr.indexAt t va vi).run P w = .ok v w ∧ ren μ r = some v := by
  unfold indexAddrS at h
  split at h
  · cases h
  · rename_i n hn
    obtain ⟨k, rfl⟩ := natOf_ren hn hi
    split at h
    · rename_i len elem p off hu
      obtain ⟨x, hx, rfl⟩ := ptr_ren ha
      split at h
      · rename_i hlt
        split at h
        · rename_i m hs
          cases h
          refine ⟨_, ?_, by simp only [ren, hx]; rfl⟩
          simp [Instr.indexAt, asIntOf, run_underlying hu, Instr.sureAddr, run_size hs, addr_add, hlt]
        · cases h
      · cases h
    · rename_i elem p off len c hu
      split at h
      · rename_i hlt
        split at h
        · rename_i m hs
          cases h
          have : ∃ x cap, μ p = some x ∧ va = .slice (some ⟨x.1, off, none⟩) len cap := by
            cases c with
            | lim c =>
              simp only [ren] at ha
              split at ha
              · rename_i x hx; split at ha <;> cases ha; exact ⟨x, _, hx, rfl⟩
              · cases ha
            | open_ c =>
              simp only [ren] at ha
              split at ha
              · rename_i x hx; split at ha <;> cases ha; exact ⟨x, _, hx, rfl⟩
              · cases ha
          obtain ⟨x, cap, hx, rfl⟩ := this
          refine ⟨_, ?_, by simp only [ren, hx]; rfl⟩
          simp [Instr.indexAt, asIntOf, run_underlying hu, run_size hs, addr_add, hlt]
        · cases h
      · cases h
    · cases h

theorem cut_ren : ∀ {l : List SV} {off n : Nat} {r : List SV} {vs : List Value}, cut l off n = some r → renL μ l = some vs → ∃ us, renL μ r = some us ∧ us = (vs.drop off).take n ∧ us.length = n
  | [], 0, 0, r, vs, h, hv => by simp [cut] at h; subst h; exact ⟨[], rfl, by simp, rfl⟩
  | _ :: _, 0, 0, r, vs, h, hv => by simp [cut] at h; subst h; exact ⟨[], rfl, by simp, rfl⟩
  | [], 0, _ + 1, r, vs, h, hv => by simp [cut] at h
  | [], _ + 1, _, r, vs, h, hv => by simp [cut] at h
  | s :: l, 0, n + 1, r, vs, h, hv => by
    simp only [cut] at h
    split at h
    · rename_i r' hr; cases h
      obtain ⟨x, y, hx, hy, rfl⟩ := renL_cons.1 hv
      obtain ⟨us, h1, h2, h3⟩ := cut_ren hr hy
      exact ⟨x :: us, renL_cons.2 ⟨x, us, hx, h1, rfl⟩, by simpa using h2, by simp [h3]⟩
    · cases h
  | s :: l, off + 1, n, r, vs, h, hv => by
    simp only [cut] at h
    obtain ⟨x, y, hx, hy, rfl⟩ := renL_cons.1 hv
    obtain ⟨us, h1, h2, h3⟩ := cut_ren h hy
    exact ⟨us, h1, by simpa using h2, h3⟩

theorem drop_take_extract (vs : List Value) (off n : Nat) : vs.toArray.extract off (off + n) = ((vs.drop off).take n).toArray := by
  apply Array.ext'
  simp

theorem partS_run {t : TypeId} {cs : List SV} {off : Nat} {r : SV} {vs : List Value} (h : partS P t cs off = some r) (hv : renL μ cs = some vs) (w : World) :
    ∃ v, (part t vs.toArray off).run P w = .ok v w ∧ ren μ r = some v := by
  unfold partS at h
  split at h
  · rename_i hagg
    split at h
    · rename_i n hn
      split at h
      · rename_i l hl
        cases h
        obtain ⟨us, h1, h2, h3⟩ := cut_ren hl hv
        refine ⟨.agg us.toArray, ?_, by simp [ren, h1]⟩
        simp [part, run_agg hagg, run_size hn, h2]
      · cases h
    · cases h
  · rename_i hagg
    split at h
    · rename_i v hl
      cases h
      obtain ⟨us, h1, h2, h3⟩ := cut_ren hl hv
      obtain ⟨x, y, hx, hy, rfl⟩ := renL_cons.1 h1
      simp [renL] at hy; subst hy
      refine ⟨x, ?_, hx⟩
      have : vs[off]? = some x := by
        have := congrArg (fun l : List Value => l[0]?) h2
        simpa using this.symm
      simp [part, run_agg hagg, this]
    · cases h
  · cases h

theorem agg_ren {l : List SV} {v : Value} (h : ren μ (.agg l) = some v) : ∃ vs, renL μ l = some vs ∧ v = .agg vs.toArray := by
  simp only [ren] at h
  split at h
  · rename_i x hx; cases h; exact ⟨x, hx, rfl⟩
  · cases h

theorem fieldS_run {t : TypeId} {a r : SV} {i : Nat} {va : Value} (h : fieldS P t a i = some r) (ha : ren μ a = some va) (w : World) :
    ∃ v, (Instr.field t va i).run P w = .ok v w ∧ ren μ r = some v := by
  unfold fieldS at h
  split at h
  · rename_i fields cs hu
    obtain ⟨vs, hv, rfl⟩ := agg_ren ha
    split at h
    · rename_i f hf
      obtain ⟨v, h1, h2⟩ := partS_run h hv w
      exact ⟨v, by simp [Instr.field, run_underlying hu, hf, asAgg, h1], h2⟩
    · cases h
  · cases h

theorem nth_eq {α : Type} : ∀ (l : List α) (i : Nat), nth l i = l[i]?
  | [], i => by simp [nth]
  | x :: l, 0 => by simp [nth]
  | x :: l, i + 1 => by simp [nth, nth_eq l i]

theorem str_ren {s : List Nat} {v : Value} (h : ren μ (.str s) = some v) : (∀ b ∈ s, b < 256) ∧ v = .string ⟨(s.map UInt8.ofNat).toArray⟩ := by
  simp only [ren] at h
  split at h
  · rename_i ha; cases h; exact ⟨by simpa using ha, rfl⟩
  · cases h

theorem indexS_run {t : TypeId} {a i r : SV} {va vi : Value} (h : indexS P t a i = some r) (ha : ren μ a = some va) (hi : ren μ i = some vi) (w : World) :
    ∃ v, (Instr.index t va vi).run P w = .ok v w ∧ ren μ r = some v := by
  unfold indexS at h
  split at h
  · cases h
  · rename_i n hn
    obtain ⟨k, rfl⟩ := natOf_ren hn hi
    split at h
    · rename_i len elem cs hu
      obtain ⟨vs, hv, rfl⟩ := agg_ren ha
      split at h
      · rename_i hlt
        split at h
        · rename_i m hs
          obtain ⟨v, h1, h2⟩ := partS_run h hv w
          exact ⟨v, by simp [Instr.index, asIntOf, run_underlying hu, hlt, run_size hs, h1], h2⟩
        · cases h
      · cases h
    · rename_i s hu
      obtain ⟨hb, rfl⟩ := str_ren ha
      split at h
      · rename_i b hbn
        cases h
        rw [nth_eq] at hbn
        have hlt := hb b (List.mem_of_getElem? hbn)
        refine ⟨.int .u8 (Int.ofNat b), ?_, rfl⟩
        have hlen : n < s.length := (List.getElem?_eq_some_iff.1 hbn).1
        have hget : (⟨(s.map UInt8.ofNat).toArray⟩ : ByteArray)[n]? = some (UInt8.ofNat b) := by
          have h1 : n < (⟨(s.map UInt8.ofNat).toArray⟩ : ByteArray).size := by show n < ((s.map UInt8.ofNat).toArray).size; simpa using hlen
          rw [getElem?_pos (⟨(s.map UInt8.ofNat).toArray⟩ : ByteArray) n h1]
          congr 1
          have h2 : s[n] = b := (List.getElem?_eq_some_iff.1 hbn).2
          show ((s.map UInt8.ofNat).toArray)[n]'(by simpa using hlen) = _
          simp [h2]
        have hmod : (UInt8.ofNat b).toNat = b := by simp; omega
        simp [Instr.index, asIntOf, run_underlying hu, hget, hmod]
      · cases h
    · cases h

theorem put_ren : ∀ {l r z : List SV} {off : Nat} {vs us : List Value}, put l off r = some z → renL μ l = some vs → renL μ r = some us →
    renL μ z = some (vs.take off ++ us ++ vs.drop (off + us.length)) ∧ off + us.length ≤ vs.length
  | l, [], z, 0, vs, us, h, hv, hu => by
    simp [renL] at hu; subst hu
    have : z = l := by cases l <;> simp [put] at h <;> first | exact h.symm | exact h
    subst this
    simpa using hv
  | [], _ :: _, z, 0, vs, us, h, hv, hu => by simp [put] at h
  | [], _, z, _ + 1, vs, us, h, hv, hu => by simp [put] at h
  | s :: l, y :: r, z, 0, vs, us, h, hv, hu => by
    simp only [put] at h
    split at h
    · rename_i z' hz; cases h
      obtain ⟨a, b, ha, hb, rfl⟩ := renL_cons.1 hv
      obtain ⟨c, d, hc, hd, rfl⟩ := renL_cons.1 hu
      obtain ⟨h1, h2⟩ := put_ren hz hb hd
      simp only [List.take_zero, List.nil_append, Nat.zero_add] at h1 h2 ⊢
      refine ⟨?_, by simp; omega⟩
      simp only [List.length_cons, List.drop_succ_cons, List.cons_append]
      exact renL_cons.2 ⟨c, _, hc, h1, rfl⟩
    · cases h
  | s :: l, r, z, off + 1, vs, us, h, hv, hu => by
    simp only [put] at h
    split at h
    · rename_i z' hz; cases h
      obtain ⟨a, b, ha, hb, rfl⟩ := renL_cons.1 hv
      obtain ⟨h1, h2⟩ := put_ren hz hb hu
      refine ⟨?_, by simp; omega⟩
      rw [show off + 1 + us.length = (off + us.length) + 1 by omega]
      simp only [List.take_succ_cons, List.drop_succ_cons, List.cons_append]
      exact renL_cons.2 ⟨a, _, ha, h1, rfl⟩
    · cases h

theorem fold_set (us : List Value) : ∀ (off : Nat) (vs : List Value) (j : Nat), off + j + us.length ≤ vs.length →
    ((us.zipIdx j).foldl (fun (cs : Array Value) (c, j) => cs.setIfInBounds (off + j) c) vs.toArray) = (vs.take (off + j) ++ us ++ vs.drop (off + j + us.length)).toArray := by
  induction us with
  | nil => intro off vs j _; simp
  | cons u us ih =>
    intro off vs j h
    simp only [List.zipIdx_cons, List.foldl_cons, List.setIfInBounds_toArray]
    simp only [List.length_cons] at h
    rw [ih off (vs.set (off + j) u) (j + 1) (by simp; omega)]
    congr 1
    apply List.ext_getElem?
    intro i
    simp only [List.length_cons]
    rcases Nat.lt_trichotomy i (off + j) with hlt | heq | hgt
    · rw [List.append_assoc, List.append_assoc, List.getElem?_append_left (by simp; omega), List.getElem?_append_left (by simp; omega)]
      rw [List.getElem?_take, List.getElem?_take, if_pos (by omega), if_pos (by omega), List.getElem?_set_ne (by omega)]
    · subst heq
      rw [List.append_assoc, List.append_assoc, List.getElem?_append_left (by simp; omega), List.getElem?_append_right (by simp; omega)]
      rw [List.getElem?_take, if_pos (by omega)]
      have : off + j - (vs.take (off + j)).length = 0 := by simp; omega
      rw [this]
      simp [List.getElem?_set]
      omega
    · have hl1 : (List.take (off + (j + 1)) (vs.set (off + j) u)).length = off + j + 1 := by simp; omega
      have hl2 : (List.take (off + j) vs).length = off + j := by simp; omega
      rw [List.append_assoc, List.append_assoc, List.getElem?_append_right (l₁ := List.take (off + (j + 1)) (vs.set (off + j) u)) (by rw [hl1]; omega), List.getElem?_append_right (l₁ := List.take (off + j) vs) (by rw [hl2]; omega), hl1, hl2]
      rw [show i - (off + j) = (i - (off + j + 1)) + 1 by omega, List.cons_append, List.getElem?_cons_succ]
      rcases Nat.lt_or_ge (i - (off + j + 1)) us.length with ha | ha
      · rw [List.getElem?_append_left ha, List.getElem?_append_left ha]
      · rw [List.getElem?_append_right ha, List.getElem?_append_right ha, List.getElem?_drop, List.getElem?_drop]
        rw [List.getElem?_set_ne (by omega)]
        congr 1; omega

def renP (μ : Mu) : List (Nat × SV) → Option (List (Nat × Value))
  | [] => some []
  | (i, s) :: l => match ren μ s, renP μ l with
    | some v, some r => some ((i, v) :: r)
    | _, _ => none

theorem renP_cons {i : Nat} {s : SV} {l : List (Nat × SV)} {r : List (Nat × Value)} : renP μ ((i, s) :: l) = some r ↔ ∃ x y, ren μ s = some x ∧ renP μ l = some y ∧ r = (i, x) :: y := by
  simp only [renP]
  cases ren μ s <;> cases renP μ l <;> simp [eq_comm]

theorem fillS_run {place : Nat → Option (Nat × Nat)} : ∀ {ps : List (Nat × SV)} {cs r : List SV} {vs : List Value} {pv : List (Nat × Value)}, fillS place cs ps = some r → renL μ cs = some vs → renP μ ps = some pv →
    ∃ us, renL μ r = some us ∧ Instr.fill place vs.toArray pv = some us.toArray ∧ us.length = vs.length
  | [], cs, r, vs, pv, h, hv, hp => by
    simp [fillS] at h; subst h
    simp [renP] at hp; subst hp
    exact ⟨vs, hv, rfl, rfl⟩
  | (i, s) :: ps, cs, r, vs, pv, h, hv, hp => by
    obtain ⟨x, y, hx, hy, rfl⟩ := renP_cons.1 hp
    simp only [fillS] at h
    split at h
    · cases h
    · rename_i off size hpl
      split at h
      · rename_i hsz
        split at h
        · rename_i cs' hput
          have hc := ren_cells hx
          obtain ⟨h1, h2⟩ := put_ren hput hv hc
          obtain ⟨us, h3, h4, h5⟩ := fillS_run h h1 hy
          have hl := renL_length hc
          simp only [beq_iff_eq] at hsz
          refine ⟨us, h3, ?_, by rw [h5]; simp at h2 ⊢; omega⟩
          simp only [Instr.fill, hpl]
          have ha : x.cells.size = size := by simp at hl; omega
          have hb : ¬ off + x.cells.size > vs.toArray.size := by simp at h2 ⊢; omega
          rw [if_neg (by simp [ha]; simpa [ha] using hb)]
          rw [← h4]
          congr 1
          have := fold_set x.cells.toList off vs 0 (by simpa using h2)
          simp only [Nat.add_zero] at this
          rw [← this, ← Array.foldl_toList, Array.toList_zipIdx]
        · cases h
      · cases h

end
end Go.Ex
