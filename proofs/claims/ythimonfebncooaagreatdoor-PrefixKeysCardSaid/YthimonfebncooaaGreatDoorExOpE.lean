/- One operation of the executor's against the model's: ==, arithmetic, conversions. -/
import Derived.Test.YthimonfebncooaaGreatDoorExOpD
import Derived.Laws.StructEq
namespace Go.Ex

section
variable {P : Program} {B : Nat} {μ : Mu} {H : Hp} {w : World}

theorem bytes_eq {a b : List Nat} (ha : ∀ x ∈ a, x < 256) (hb : ∀ x ∈ b, x < 256) : ((⟨(a.map UInt8.ofNat).toArray⟩ : ByteArray) == ⟨(b.map UInt8.ofNat).toArray⟩) = (a == b) := by
  have h1 : ((⟨(a.map UInt8.ofNat).toArray⟩ : ByteArray) == ⟨(b.map UInt8.ofNat).toArray⟩) = ((a.map UInt8.ofNat) == (b.map UInt8.ofNat)) := by
    show (((a.map UInt8.ofNat).toArray : Array UInt8) == (b.map UInt8.ofNat).toArray) = _
    simp
  rw [h1]
  clear h1
  induction a generalizing b with
  | nil => cases b <;> simp
  | cons x a ih =>
    cases b with
    | nil => simp
    | cons y b =>
      have e : (UInt8.ofNat x == UInt8.ofNat y) = (x == y) := by
        have hx := ha x (by simp)
        have hy := hb y (by simp)
        rw [Bool.eq_iff_iff, beq_iff_eq, beq_iff_eq]
        constructor
        · intro h
          have := congrArg UInt8.toNat h
          simp at this
          omega
        · intro h; rw [h]
      simp only [List.map_cons, List.cons_beq_cons, e]
      rw [ih (fun z hz => ha z (by simp [hz])) (fun z hz => hb z (by simp [hz]))]

theorem fieldsOf_eq {t : TypeId} {fields : Array Field} (h : P.underlying t = some (.struct fields)) : P.fieldsOf t = fields := by
  unfold Program.fieldsOf; rw [h]

theorem eqFields_run {d : Nat} {rec : TypeId → SV → SV → Option Bool} (hrec : ∀ t x y b vx vy, rec t x y = some b → ren μ x = some vx → ren μ y = some vy → (Op.equalIn d t vx vy).run P w = .ok b w) {xs ys : List SV} {vx vy : List Value}
    (hx : renL μ xs = some vx) (hy : renL μ ys = some vy) : ∀ {fs : List Field} {b : Bool}, eqFields P rec fs xs ys = some b → (Op.eqFields d vx.toArray vy.toArray fs).run P w = .ok b w
  | [], b, h => by simp [eqFields] at h; subst h; simp [Op.eqFields]
  | f :: fs, b, h => by
    simp only [eqFields] at h
    simp only [Op.eqFields]
    split at h
    · rename_i hn
      rw [if_neg (by simpa using hn)]
      exact eqFields_run hrec hx hy h
    · rename_i hn
      rw [if_pos hn]
      split at h
      · rename_i a c ha hc
        obtain ⟨va, h1, h2⟩ := partS_run ha hx w
        obtain ⟨vc, h3, h4⟩ := partS_run hc hy w
        split at h
        · rename_i he
          have h5 := hrec _ _ _ _ _ _ he h2 h4
          have ih := eqFields_run hrec hx hy h
          simp [h1, h3, h5, ih]
        · rename_i he
          cases h
          have h5 := hrec _ _ _ _ _ _ he h2 h4
          simp [h1, h3, h5]
        · cases h
      · cases h

theorem iface_ren {t : TypeId} {s : SV} {v : Value} (h : ren μ (.iface t s) = some v) : ∃ u, ren μ s = some u ∧ v = .iface t u := by
  simp only [ren] at h
  split at h
  · rename_i x hx; cases h; exact ⟨x, hx, rfl⟩
  · cases h

theorem map_ren {p : Nat} {v : Value} (h : ren μ (.map p) = some v) : ∃ x, μ p = some x ∧ v = .map (some x.1) := by
  simp only [ren] at h
  split at h
  · rename_i x hx; cases h; exact ⟨x, hx, rfl⟩
  · cases h

theorem func_ren {fn : Fn} {a b : List SV} {v : Value} (h : ren μ (.func fn a b) = some v) : ∃ x y, renL μ a = some x ∧ renL μ b = some y ∧ v = .func fn x.toArray y.toArray := by
  simp only [ren] at h
  split at h
  · rename_i x y hx hy; cases h; exact ⟨x, y, hx, hy, rfl⟩
  · cases h

set_option maxHeartbeats 1000000 in
theorem eqS_run : ∀ {d : Nat} {t : TypeId} {x y : SV} {b : Bool} {vx vy : Value}, eqS P d t x y = some b → ren μ x = some vx → ren μ y = some vy → (Op.equalIn d t vx vy).run P w = .ok b w
  | 0, _, _, _, _, _, _, h, _, _ => by simp [eqS] at h
  | d + 1, t, x, y, b, vx, vy, h, hx, hy => by
    unfold eqS at h
    split at h
    · rename_i a c hu
      simp only [ren] at hx hy; cases hx; cases hy; cases h
      simp [Op.equalIn, run_underlying hu]
    · rename_i k a k' c hu
      split at h
      · rename_i hk; subst hk
        simp only [ren] at hx hy; cases hx; cases hy; cases h
        simp [Op.equalIn, run_underlying hu]
      · cases h
    · rename_i i lo hi k c hu
      split at h
      · rename_i hk; subst hk
        simp only [ren] at hx hy
        split at hx
        · rename_i hb
          cases hx; cases hy
          have hne : b = (μ.v i == c) := by
            split at h
            · cases h
              symm; rw [beq_eq_false_iff_ne]; omega
            · split at h
              · cases h
                symm; rw [beq_eq_false_iff_ne]; omega
              · cases h
          subst hne
          simp [Op.equalIn, run_underlying hu]
        · cases hx
      · cases h
    · rename_i a c hu
      obtain ⟨ha, rfl⟩ := str_ren hx
      obtain ⟨hc, rfl⟩ := str_ren hy
      cases h
      simp [Op.equalIn, run_underlying hu, bytes_eq ha hc]
    · rename_i hu
      simp only [ren] at hx hy; cases hx; cases hy; cases h
      simp [Op.equalIn, run_underlying hu]
    · rename_i p o hu
      obtain ⟨z, _, rfl⟩ := ptr_ren hy
      simp only [ren] at hx; cases hx; cases h
      simp [Op.equalIn, run_underlying hu]
    · rename_i p o hu
      obtain ⟨z, _, rfl⟩ := ptr_ren hx
      simp only [ren] at hy; cases hy; cases h
      simp [Op.equalIn, run_underlying hu]
    · rename_i hu
      simp only [ren] at hx hy; cases hx; cases hy; cases h
      simp [Op.equalIn, run_underlying hu]
    · rename_i u s hu
      obtain ⟨z, _, rfl⟩ := iface_ren hy
      simp only [ren] at hx; cases hx; cases h
      simp [Op.equalIn, run_underlying hu]
    · rename_i u s hu
      obtain ⟨z, _, rfl⟩ := iface_ren hx
      simp only [ren] at hy; cases hy; cases h
      simp [Op.equalIn, run_underlying hu]
    · rename_i t1 s1 t2 s2 hu
      obtain ⟨z1, h1, rfl⟩ := iface_ren hx
      obtain ⟨z2, h2, rfl⟩ := iface_ren hy
      split at h
      · rename_i hne; cases h
        simp [Op.equalIn, run_underlying hu, hne]
      · rename_i hne
        have hne' : t1 = t2 := Decidable.not_not.1 hne
        subst hne'
        split at h
        · rename_i i hi
          split at h
          · rename_i hc
            have ih := eqS_run h h1 h2
            simp [Op.equalIn, run_underlying hu, run_info hi, hc, ih]
          · cases h
        · cases h
    · rename_i fields xs ys hu
      obtain ⟨zx, h1, rfl⟩ := agg_ren hx
      obtain ⟨zy, h2, rfl⟩ := agg_ren hy
      split at h
      · cases h
      · rename_i hs
        have hf := fieldsOf_eq hu
        rw [run_equalIn_struct w d t _ _ (by rw [hf]; exact hu) (by simpa using hs), hf]
        exact eqFields_run (fun _ _ _ _ _ _ he h1 h2 => eqS_run he h1 h2) h1 h2 h
    · rename_i hu
      simp only [ren] at hx hy; cases hx; cases hy; cases h
      simp [Op.equalIn, run_underlying hu]
    · rename_i p o l c hu
      obtain ⟨z, cc, _, rfl, _⟩ := slice_ren hy
      simp only [ren] at hx; cases hx; cases h
      simp [Op.equalIn, run_underlying hu]
    · rename_i p o l c hu
      obtain ⟨z, cc, _, rfl, _⟩ := slice_ren hx
      simp only [ren] at hy; cases hy; cases h
      simp [Op.equalIn, run_underlying hu]
    · rename_i hu
      simp only [ren] at hx hy; cases hx; cases hy; cases h
      simp [Op.equalIn, run_underlying hu]
    · rename_i p hu
      obtain ⟨z, _, rfl⟩ := map_ren hy
      simp only [ren] at hx; cases hx; cases h
      simp [Op.equalIn, run_underlying hu]
    · rename_i p hu
      obtain ⟨z, _, rfl⟩ := map_ren hx
      simp only [ren] at hy; cases hy; cases h
      simp [Op.equalIn, run_underlying hu]
    · rename_i hu
      simp only [ren] at hx hy; cases hx; cases hy; cases h
      simp [Op.equalIn, run_underlying hu]
    · rename_i f a c hu
      obtain ⟨u, v, _, _, rfl⟩ := func_ren hy
      simp only [ren] at hx; cases hx; cases h
      simp [Op.equalIn, run_underlying hu]
    · rename_i f a c hu
      obtain ⟨u, v, _, _, rfl⟩ := func_ren hx
      simp only [ren] at hy; cases hy; cases h
      simp [Op.equalIn, run_underlying hu]
    · cases h

end
end Go.Ex
