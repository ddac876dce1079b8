/- One operation of the executor's against the model's: slices of strings, rows and arrays. -/
import Derived.Test.YthimonfebncooaaGreatDoorExOpC
namespace Go.Ex

section
variable {P : Program} {B : Nat} {μ : Mu} {H : Hp} {w : World}

def CapRel (x : Nat × Nat) (len c : Nat) : Cap → Prop
  | .lim n => c = n ∧ len ≤ n
  | .open_ k => c = x.2 - k ∧ len + k ≤ x.2

theorem slice_ren {p off len : Nat} {cap : Cap} {v : Value} (h : ren μ (.slice p off len cap) = some v) :
    ∃ x c, μ p = some x ∧ v = .slice (some ⟨x.1, off, none⟩) len c ∧ CapRel x len c cap := by
  cases cap with
  | lim c =>
    simp only [ren] at h
    split at h
    · rename_i x hx
      split at h
      · rename_i hl; cases h; exact ⟨x, c, hx, rfl, rfl, hl⟩
      · cases h
    · cases h
  | open_ c =>
    simp only [ren] at h
    split at h
    · rename_i x hx
      split at h
      · rename_i hl; cases h; exact ⟨x, _, hx, rfl, rfl, hl⟩
      · cases h
    · cases h

def renO (μ : Mu) : Option SV → Option Value → Prop
  | none, none => True
  | some s, some v => ren μ s = some v
  | _, _ => False

theorem bound_run {s : SV} {n y : Nat} {v : Value} (hn : natOf s = some n) (hv : ren μ s = some v) (hle : n ≤ y) (code : BoundsCode) (w : World) : (Instr.sliceBound v y code).run P w = .ok n w := by
  obtain ⟨k, rfl⟩ := natOf_ren hn hv
  simp [Instr.sliceBound, asIntOf, hle]

theorem optNat_some {s : SV} {o : Option Nat} (h : optNat (some s) = some o) : ∃ n, o = some n ∧ natOf s = some n := by
  simp only [optNat] at h
  split at h
  · rename_i n hn; cases h; exact ⟨n, rfl, hn⟩
  · cases h

theorem bounds_run {lo hi mx : Option SV} {lov hiv mxv : Option Value} {lo' hi' mx' : Option Nat} (h1 : optNat lo = some lo') (h2 : optNat hi = some hi') (h3 : optNat mx = some mx')
    (r1 : renO μ lo lov) (r2 : renO μ hi hiv) (r3 : renO μ mx mxv) (isSlice : Bool) (len cap : Nat) (hmh : mx'.isSome = true → hi'.isSome = true)
    (hl : lo'.getD 0 ≤ hi'.getD len) (hh : hi'.isSome = true → hi'.getD len ≤ mx'.getD cap) (hm : mx'.getD cap ≤ cap) (w : World) :
    (Instr.sliceBounds isSlice len cap lov hiv mxv).run P w = .ok (lo'.getD 0, hi'.getD len, mx'.getD cap) w := by
  have em : ∃ f, mx' = f := ⟨_, rfl⟩
  unfold Instr.sliceBounds
  cases mx with
  | none =>
    cases mxv with
    | some v => exact r3.elim
    | none =>
      simp only [optNat] at h3; cases h3
      simp only [Option.getD_none] at hh hm ⊢
      cases hi with
      | none =>
        cases hiv with
        | some v => exact r2.elim
        | none =>
          simp only [optNat] at h2; cases h2
          simp only [Option.getD_none] at hl ⊢
          cases lo with
          | none =>
            cases lov with
            | some v => exact r1.elim
            | none => simp only [optNat] at h1; cases h1; simp
          | some s =>
            cases lov with
            | none => exact r1.elim
            | some v =>
              obtain ⟨n, rfl, hn⟩ := optNat_some h1
              simp only [Option.getD_some] at hl ⊢
              simp [bound_run hn r1 hl]
      | some sh =>
        cases hiv with
        | none => exact r2.elim
        | some vh =>
          obtain ⟨nh, rfl, hnh⟩ := optNat_some h2
          simp only [Option.getD_some, Option.isSome_some, true_implies] at hl hh ⊢
          cases lo with
          | none =>
            cases lov with
            | some v => exact r1.elim
            | none => simp only [optNat] at h1; cases h1; simp [bound_run hnh r2 hh]
          | some s =>
            cases lov with
            | none => exact r1.elim
            | some v =>
              obtain ⟨n, rfl, hn⟩ := optNat_some h1
              simp only [Option.getD_some] at hl ⊢
              simp [bound_run hn r1 hl, bound_run hnh r2 hh]
  | some sm =>
    cases mxv with
    | none => exact r3.elim
    | some vm =>
      obtain ⟨nm, rfl, hnm⟩ := optNat_some h3
      simp only [Option.getD_some, Option.isSome_some, true_implies] at hh hm hmh ⊢
      cases hi with
      | none => simp only [optNat] at h2; cases h2; simp at hmh
      | some sh =>
        cases hiv with
        | none => exact r2.elim
        | some vh =>
          obtain ⟨nh, rfl, hnh⟩ := optNat_some h2
          simp only [Option.getD_some, Option.isSome_some, true_implies] at hl hh ⊢
          cases lo with
          | none =>
            cases lov with
            | some v => exact r1.elim
            | none => simp only [optNat] at h1; cases h1; simp [bound_run hnm r3 hm, bound_run hnh r2 hh]
          | some s =>
            cases lov with
            | none => exact r1.elim
            | some v =>
              obtain ⟨n, rfl, hn⟩ := optNat_some h1
              simp only [Option.getD_some] at hl ⊢
              simp [bound_run hn r1 hl, bound_run hnm r3 hm, bound_run hnh r2 hh]

theorem cut_map {α β : Type} (f : α → β) : ∀ {l : List α} {off n : Nat} {r : List α}, cut l off n = some r → r = (l.drop off).take n ∧ r.length = n
  | [], 0, 0, r, h => by simp [cut] at h; subst h; simp
  | _ :: _, 0, 0, r, h => by simp [cut] at h; subst h; simp
  | [], 0, _ + 1, r, h => by simp [cut] at h
  | [], _ + 1, _, r, h => by simp [cut] at h
  | s :: l, 0, n + 1, r, h => by
    simp only [cut] at h
    split at h
    · rename_i r' hr; cases h
      obtain ⟨h1, h2⟩ := cut_map f hr
      exact ⟨by simpa using h1, by simp [h2]⟩
    · cases h
  | s :: l, off + 1, n, r, h => by
    simp only [cut] at h
    obtain ⟨h1, h2⟩ := cut_map f h
    exact ⟨by simpa using h1, h2⟩

theorem extract_bytes (l : List UInt8) (a b : Nat) : (⟨l.toArray⟩ : ByteArray).extract a b = ⟨((l.drop a).take (b - a)).toArray⟩ := by
  apply ByteArray.ext
  simp [ByteArray.data_extract]

theorem size_bytes (l : List UInt8) : (⟨l.toArray⟩ : ByteArray).size = l.length := by
  show l.toArray.size = _
  simp

theorem sliceRow_ren {elem : TypeId} {p off len : Nat} {cap : Cap} {lo hi mx : Option Nat} {r : SV} (h : sliceRow P elem p off len cap lo hi mx = some r) {x : Nat × Nat} (hx : μ p = some x) {c : Nat}
    (hc : CapRel x len c cap) :
    ∃ size, sizeB P elem = some size ∧ lo.getD 0 ≤ hi.getD len ∧ hi.getD len ≤ mx.getD c ∧ mx.getD c ≤ c ∧
      ren μ r = some (.slice (some ⟨x.1, if mx.getD c = lo.getD 0 then off else off + lo.getD 0 * size, none⟩) (hi.getD len - lo.getD 0) (mx.getD c - lo.getD 0)) := by
  unfold sliceRow at h
  split at h
  · cases h
  · rename_i size hs
    refine ⟨size, hs, ?_⟩
    simp only at h
    split at h
    · rename_i hlh
      split at h
      · rename_i n
        obtain ⟨rfl, hl⟩ := hc
        split at h
        · rename_i hh
          cases h
          simp only [Option.getD_none]
          refine ⟨hlh, hh, Nat.le_refl _, ?_⟩
          simp only [ren, hx]
          rw [if_pos (by omega)]
          simp only [beq_iff_eq]
        · cases h
      · rename_i n m
        obtain ⟨rfl, hl⟩ := hc
        split at h
        · rename_i hh
          simp only [Bool.and_eq_true, decide_eq_true_eq] at hh
          cases h
          simp only [Option.getD_some]
          refine ⟨hlh, hh.1, hh.2, ?_⟩
          simp only [ren, hx]
          rw [if_pos (by omega)]
          simp only [beq_iff_eq]
        · cases h
      · rename_i k
        obtain ⟨rfl, hl⟩ := hc
        split at h
        · rename_i hh
          simp only [Option.getD_none]
          refine ⟨hlh, by omega, Nat.le_refl _, ?_⟩
          split at h
          · rename_i hlt
            cases h
            simp only [ren, hx]
            rw [if_pos (by omega), if_neg (by omega)]
            congr 2; omega
          · rename_i hge
            cases h
            simp only [ren, hx]
            have e : hi.getD len - lo.getD 0 = 0 := by omega
            have e2 : len = lo.getD 0 := by omega
            rw [if_pos (by omega), e]
        · cases h
      · rename_i k m
        obtain ⟨rfl, hl⟩ := hc
        split at h
        · rename_i hh
          simp only [Bool.and_eq_true, decide_eq_true_eq] at hh
          cases h
          simp only [Option.getD_some]
          refine ⟨hlh, hh.1, by omega, ?_⟩
          simp only [ren, hx]
          rw [if_pos (by omega)]
          simp only [beq_iff_eq]
        · cases h
    · cases h

theorem getD_zero {o : Option Nat} (h : (o.getD 0 == 0) = true) : o.getD 0 = 0 := by simpa using h

theorem sliceS_run {t : TypeId} {a r : SV} {lo hi mx : Option SV} {va : Value} {lov hiv mxv : Option Value} (h : sliceS P t a lo hi mx = some r) (ha : ren μ a = some va)
    (r1 : renO μ lo lov) (r2 : renO μ hi hiv) (r3 : renO μ mx mxv) (w : World) :
    ∃ v, (Instr.sliceAt t va lov hiv mxv).run P w = .ok v w ∧ ren μ r = some v := by
  unfold sliceS at h
  split at h
  · rename_i lo' hi' mx' h1 h2 h3
    split at h
    · cases h
    · rename_i hmh
      have hmh' : mx'.isSome = true → hi'.isSome = true := by
        intro hm
        cases hi' with
        | none => simp [hm] at hmh
        | some _ => rfl
      split at h
      · rename_i s hu
        obtain ⟨hb, rfl⟩ := str_ren ha
        split at h
        · cases h
        · rename_i hmx
          have hmx' : mx' = none := by cases mx' <;> simp at hmx ⊢
          subst hmx'
          have hmxv : mxv = none := by
            cases mx with
            | none => cases mxv with
              | none => rfl
              | some v => exact r3.elim
            | some s => obtain ⟨n, h4, _⟩ := optNat_some h3; cases h4
          subst hmxv
          unfold sliceStr at h
          simp only at h
          split at h
          · rename_i hc
            simp only [Bool.and_eq_true, decide_eq_true_eq] at hc
            split at h
            · rename_i l hl
              cases h
              have hbr := bounds_run (P := P) h1 h2 (mx := none) (mxv := none) (mx' := none) rfl r1 r2 trivial false s.length s.length (by simp) hc.2 (fun _ => hc.1) (Nat.le_refl _) w
              obtain ⟨e1, e2⟩ := cut_map (fun x : Nat => x) hl
              refine ⟨.string ⟨(l.map UInt8.ofNat).toArray⟩, ?_, ?_⟩
              · simp only [Instr.sliceAt, Sem.run_bind, run_underlying hu, Result.andThen_ok, Instr.slice, Option.isSome_none, Bool.false_eq_true, if_false, Sem.run_pure, size_bytes, List.length_map, hbr, extract_bytes]
                congr 4
                rw [e1]; simp [List.map_take, List.map_drop]
              · have : l.all (· < 256) = true := by
                  simp only [List.all_eq_true, decide_eq_true_eq]
                  intro b hbm
                  rw [e1] at hbm
                  exact hb b (List.mem_of_mem_drop (List.mem_of_mem_take hbm))
                simp [ren, this]
            · cases h
          · cases h
      · rename_i elem p off len cap hu
        obtain ⟨x, c, hx, rfl, hc⟩ := slice_ren ha
        obtain ⟨size, hs, g1, g2, g3, g4⟩ := sliceRow_ren h hx hc
        have hbr := bounds_run (P := P) h1 h2 h3 r1 r2 r3 true len c hmh' g1 (fun _ => g2) g3 w
        refine ⟨_, ?_, g4⟩
        simp only [Instr.sliceAt, Sem.run_bind, run_underlying hu, Result.andThen_ok, Instr.slice, hbr, run_size hs, Sem.run_pure]
        congr 2
        split
        · rfl
        · simp [addr_add]
      · rename_i elem hu
        split at h
        · rename_i hc
          simp only [Bool.and_eq_true, beq_iff_eq] at hc
          cases h
          simp only [ren] at ha; cases ha
          obtain ⟨hc0, hc⟩ := hc
          obtain ⟨n, hs⟩ := Option.isSome_iff_exists.1 hc0
          have e1 : lo'.getD 0 = 0 := hc.1.1
          have e2 : hi'.getD 0 = 0 := hc.1.2
          have e3 : mx'.getD 0 = 0 := hc.2
          have hbr := bounds_run (P := P) h1 h2 h3 r1 r2 r3 true 0 0 hmh' (by omega) (fun _ => by omega) (by omega) w
          rw [e1, e2, e3] at hbr
          refine ⟨.slice none 0 0, ?_, rfl⟩
          simp [Instr.sliceAt, run_underlying hu, Instr.slice, hbr, run_size hs]
        · cases h
      · rename_i n elem p off hu
        obtain ⟨x, hx, rfl⟩ := ptr_ren ha
        obtain ⟨size, hs, g1, g2, g3, g4⟩ := sliceRow_ren h hx (c := n) (by exact ⟨rfl, Nat.le_refl _⟩)
        have hbr := bounds_run (P := P) h1 h2 h3 r1 r2 r3 false n n hmh' g1 (fun _ => g2) g3 w
        refine ⟨_, ?_, g4⟩
        simp only [Instr.sliceAt, Sem.run_bind, run_underlying hu, Result.andThen_ok, Instr.sureAddr, hbr, run_size hs, Sem.run_pure]
        congr 3
        split
        · rfl
        · simp [addr_add]
      · cases h
  · cases h

end
end Go.Ex
