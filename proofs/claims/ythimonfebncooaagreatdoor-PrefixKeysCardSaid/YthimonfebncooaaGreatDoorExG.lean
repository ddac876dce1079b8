/- Regions that draw their order: an operation that reads may be taken first, as long as what follows lets it read the same. -/
import Derived.OrdersHeld
namespace Go.Ex

/-- a reading that was taken first: whose it is, and where it reads the same -/
abbrev Facts := List (Nat × (World → Prop))

section
variable {P : Program} {ops : Array Oper} {Q : Exit → Act → World → Prop} {md : Region.Mode}

/-- does operation i wait for operation q? -/
def Waits (md : Region.Mode) (ops : Array Oper) (i q : Nat) : Prop := ∃ o, ops[i]? = some o ∧ ∃ e ∈ o.after, Region.binds md e = true ∧ e.on = q

def wpAnyG (P : Program) (md : Region.Mode) (ops : Array Oper) (Q : Exit → Act → World → Prop) : Nat → Array Bool → Facts → Act → World → Prop
  | 0, listed, S, a, w => (∀ x ∈ S, x.2 w) ∧ Region.ready md ops listed = [] ∧ Q .normal a w
  | fuel + 1, listed, S, a, w =>
    (∀ x ∈ S, x.2 w) ∧ (Region.ready md ops listed = [] → Q .normal a w) ∧
    ∀ i ∈ Region.ready md ops listed, wpOp P ops Q i (fun a' w' => ∃ S', (∀ x ∈ S, ¬ Waits md ops i x.1 → x ∈ S') ∧ wpAnyG P md ops Q fuel (listed.setIfInBounds i true) S' a' w') a w

theorem wpAnyG.facts {fuel : Nat} {listed : Array Bool} {S : Facts} {a : Act} {w : World} (h : wpAnyG P md ops Q fuel listed S a w) : ∀ x ∈ S, x.2 w := by
  cases fuel <;> exact h.1

theorem wpAny_of_G : ∀ (fuel : Nat) (listed : Array Bool) (S : Facts) (a : Act) (w : World), wpAnyG P md ops Q fuel listed S a w → wpAny P md ops Q fuel listed a w
  | 0, _, _, _, _, h => ⟨h.2.1, h.2.2⟩
  | fuel + 1, _, _, _, _, h => ⟨h.2.1, fun i hi => wpOp_mono (fun a' w' ⟨S', _, h'⟩ => wpAny_of_G fuel _ S' a' w' h') (h.2.2 i hi)⟩

theorem not_waits {listed : Array Bool} {i j : Nat} (hi : i ∈ Region.ready md ops listed) (hj : j ∈ Region.ready md ops listed) : ¬ Waits md ops j i := by
  rintro ⟨o, ho, e, he, hb, heq⟩
  obtain ⟨_, oj, hoj, hall⟩ := mem_ready.1 hj
  rw [ho] at hoj; cases hoj
  have h1 := hall e he hb
  have h0 := (mem_ready.1 hi).1
  rw [heq] at h1
  rcases Nat.lt_or_ge i listed.size with h' | h'
  · simp [h'] at h0 h1; rw [h0] at h1; cases h1
  · simp [Array.getElem?_eq_none h'] at h1

/-- an operation that may come up now, and reads the same wherever its fact holds, may be taken first -/
theorem wpAnyG_first {i : Nat} {oi : Oper} {v : Value} {F : World → Prop} (hi : ops[i]? = some oi) (hsel : ∀ (j : Nat) (o : Oper) cs b, ops[j]? = some o → o.op ≠ .select cs b)
    (hQ : ∀ c a w, Q (.panic c) (a.put oi.dst v) w → Q (.panic c) a w) :
    ∀ (fuel : Nat) (listed : Array Bool) (S₁ S : Facts) (a : Act) (w : World),
      (∀ j oj, ops[j]? = some oj → j ≠ i → listed.getD j true = false → (∀ e ∈ oj.after, Region.binds md e = true → e.on ≠ i) → oi.apart ops oj = true) →
      i ∈ Region.ready md ops listed → YieldsIf P ops F oi v a → (i, F) ∈ S₁ → (∀ x ∈ S, x ∈ S₁) →
      wpAnyG P md ops Q fuel (listed.setIfInBounds i true) S₁ (a.put oi.dst v) w → wpAnyG P md ops Q (fuel + 1) listed S a w := by
  intro fuel
  induction fuel with
  | zero =>
    intro listed S₁ S a w _ hr hy hF hS H
    have hFw := H.1 _ hF
    refine ⟨fun x hx => H.1 x (hS x hx), fun h => (by rw [h] at hr; cases hr), fun j hj => ?_⟩
    by_cases hji : j = i
    · subst hji; exact hy.wpOp hi hFw ⟨S₁, fun x hx _ => hS x hx, H⟩
    · have := ready_mono hj hji
      rw [H.2.1] at this
      cases this
  | succ fuel ih =>
    intro listed S₁ S a w hfree hr hy hF hS H
    have hFw := H.1 _ hF
    refine ⟨fun x hx => H.1 x (hS x hx), fun h => (by rw [h] at hr; cases hr), fun j hj => ?_⟩
    by_cases hji : j = i
    · subst hji; exact hy.wpOp hi hFw ⟨S₁, fun x hx _ => hS x hx, H⟩
    · have h1 := H.2.2 j (ready_mono hj hji)
      obtain ⟨hjun, oj, hoj, hall⟩ := mem_ready.1 hj
      have hnw := not_waits hr hj
      have hnot : ∀ e ∈ oj.after, Region.binds md e = true → e.on ≠ i := fun e he hb heq => hnw ⟨oj, hoj, e, he, hb, heq⟩
      have h2 := wpOp_putIf hoj (hfree j oj hoj hji hjun hnot) (fun cs b => hsel i oi cs b hi) (fun cs b => hsel j oj cs b hoj) hQ hy h1
      have hfree' : ∀ k ok, ops[k]? = some ok → k ≠ i → (listed.setIfInBounds j true).getD k true = false →
          (∀ e ∈ ok.after, Region.binds md e = true → e.on ≠ i) → oi.apart ops ok = true := fun k ok hk hki hun hno => by
        refine hfree k ok hk hki ?_ hno
        by_cases hjk : j = k
        · subst hjk; exact hjun
        · rw [getD_set_ne true hjk] at hun; exact hun
      refine wpOp_mono (fun a' w' ⟨hy', S', hsub, h3⟩ => ⟨S', fun x hx hw => hsub x (hS x hx) hw, ?_⟩) h2
      refine ih (listed.setIfInBounds j true) S' S' a' w' hfree' (ready_mono hr (Ne.symm hji)) hy' (hsub _ hF hnw) (fun x hx => hx) ?_
      rw [Array.setIfInBounds_comm _ _ hji]
      exact h3

/-- fewer facts -/
theorem wpAnyG_weaken : ∀ (fuel : Nat) {listed : Array Bool} {S S' : Facts} {a : Act} {w : World}, (∀ x ∈ S', x ∈ S) → wpAnyG P md ops Q fuel listed S a w → wpAnyG P md ops Q fuel listed S' a w
  | 0, _, _, _, _, _, hs, h => ⟨fun x hx => h.1 x (hs x hx), h.2⟩
  | fuel + 1, _, _, _, _, _, hs, h => ⟨fun x hx => h.1 x (hs x hx), h.2.1, fun i hi => wpOp_mono (fun _ _ ⟨S₁, h1, h2⟩ => ⟨S₁, fun x hx hw => h1 x (hs x hx) hw, h2⟩) (h.2.2 i hi)⟩

end
end Go.Ex
