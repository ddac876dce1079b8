/- A region of the executor's against the model's, in the order of the text. -/
import Derived.Test.YthimonfebncooaaGreatDoorExOp
import Derived.Test.YthimonfebncooaaGreatDoorExG
namespace Go.Ex

section
variable {P : Program} {B N : Nat} {μ : Mu} {H : Hp} {w : World} {E : Env} {a : Act}

/-- the executor's variables and the model's -/
structure ERel (N : Nat) (μ : Mu) (E : Env) (a : Act) : Prop where
  size : a.tmps.size = N
  get : ∀ t s, E.get (pa t) = some s → ren μ s = some (a.tmps.getD t undef)

theorem ERel.ext {μ' : Mu} (h : ERel N μ E a) (e : Ext μ μ') : ERel N μ' E a := ⟨h.size, fun t s hs => ren_ext e (h.get t s hs)⟩

theorem ERel.ev (h : ERel N μ E a) : ∀ x s, ev E x = some s → ren μ s = some (a.eval x) := by
  intro x s hs
  cases x with
  | tmp t => exact h.get t s hs
  | const v => exact toS_ren hs
  | global g => simp [Ex.ev] at hs
  | func f => simp only [Ex.ev, Option.some.injEq] at hs; subst hs; rfl

theorem putS_rel (h : ERel N μ E a) {d : Option Tmp} {s : SV} {v : Value} {E' : Env} (hp : putS N E d s = some E') (hv : ren μ s = some v) : ERel N μ E' (a.put d v) := by
  unfold putS at hp
  cases d with
  | none => cases hp; exact h
  | some t =>
    simp only at hp
    split at hp
    · rename_i ht
      cases hp
      refine ⟨by simp [Act.put, h.size], fun u r hr => ?_⟩
      rw [Tr.get_set] at hr
      split at hr
      · rename_i e; subst e; cases hr
        simp [Act.put, h.size, ht, hv]
      · rename_i e
        have := h.get u r hr
        rw [this]
        simp [Act.put, Array.getElem?_setIfInBounds_ne e]
    · cases hp

/-- is an operation carried out? -/
theorem wantedS_run (h : ERel N μ E a) {ops : Array Oper} {o : Oper} {b : Bool} (hw : wantedS ops E o = some b) : Region.wanted o (yielded ops a.tmps) = b := by
  unfold wantedS at hw
  unfold Region.wanted
  split at hw
  · rename_i hg; cases hw; simp [hg]
  · rename_i j want hg
    simp only [hg]
    unfold yielded
    split at hw
    · rename_i t ht
      simp only [ht, Option.bind_some]
      split at hw
      · rename_i c hc
        cases hw
        have := h.get t _ hc
        simp only [ren, Option.some.injEq] at this
        have hlt : t < a.tmps.size := by
          rcases Nat.lt_or_ge t a.tmps.size with hlt | hge
          · exact hlt
          · simp [Array.getElem?_eq_none hge, undef] at this
        simp only [Array.getD_eq_getD_getElem?, Array.getElem?_eq_getElem hlt, Option.getD_some] at this
        simp only [Array.getElem?_eq_getElem hlt, ← this]
        rfl
      · rename_i hc
        cases hw
        have := h.get t _ hc
        simp only [ren, renL, Option.some.injEq] at this
        rcases Nat.lt_or_ge t a.tmps.size with hlt | hge
        · simp only [Array.getD_eq_getD_getElem?, Array.getElem?_eq_getElem hlt, Option.getD_some] at this
          simp only [Array.getElem?_eq_getElem hlt, ← this]
          rfl
        · simp [Array.getElem?_eq_none hge]
      · cases hw
    · rename_i ht
      cases hw
      simp [ht]

/-- what calls come to -/
def CallOK (P : Program) (B : Nat) (call : CallF) : Prop :=
  ∀ f args H s H', call f args H = some (s, H') → ∀ (μ : Mu) w vs, Rel P B μ H w → renL μ args = some vs →
    Calls P f vs.toArray w fun e w' => ∃ μ' v, e = .returned v ∧ ren μ' s = some v ∧ Rel P B μ' H' w' ∧ Step μ w μ' w'

theorem stepS_wp {call : CallF} (hcall : CallOK P B call) {ops : Array Oper} {o : Oper} {E' : Env} {H' : Hp} (h : stepS P N call ops o E H = some (E', H')) (hE : ERel N μ E a) (hR : Rel P B μ H w)
    {K : Act → World → Prop} {Q : Exit → Act → World → Prop} (hK : ∀ μ' v w', ERel N μ' E' (a.put o.dst v) → Rel P B μ' H' w' → Step μ w μ' w' → K (a.put o.dst v) w') :
    if Region.wanted o (yielded ops a.tmps) then o.wp P a w K Q else K (a.put o.dst undef) w := by
  unfold stepS at h
  split at h
  · cases h
  · rename_i hw
    rw [wantedS_run hE hw, if_neg (by simp)]
    split at h
    · rename_i E'' hp
      cases h
      exact hK μ undef w (putS_rel hE hp rfl) hR (Step.refl _ _)
    · cases h
  · rename_i hw
    rw [wantedS_run hE hw, if_pos rfl]
    split at h
    · cases h
    · rename_i v H'' hop
      split at h
      · rename_i E'' hp
        cases h
        obtain ⟨_, u, w', μ', hg, h1, h2, h3⟩ := opS_val hR hE.ev hop
        have := hK μ' u w' (putS_rel (hE.ext h3.ext) hp h1) h2 h3
        unfold Oper.wp
        rcases hg with hg | ⟨hg, rfl⟩
        · rw [hg, Oper.upon_value]; exact this
        · rw [hg, Oper.upon_skip]; exact this
      · cases h
    · rename_i f args hop
      split at h
      · cases h
      · rename_i v H'' hc
        split at h
        · rename_i E'' hp
          cases h
          obtain ⟨vs, h1, h2⟩ := opS_call hE.ev hop w
          unfold Oper.wp
          rw [h2, Oper.upon_enter]
          refine (hcall _ _ _ _ _ hc μ w vs hR h1).mono ?_
          rintro e w' ⟨μ', u, rfl, g1, g2, g3⟩
          exact hK μ' u w' (putS_rel (hE.ext g3.ext) hp g1) g2 g3
        · cases h

theorem opsS_wp {call : CallF} (hcall : CallOK P B call) {ops : Array Oper} : ∀ {l : List Oper} {E E' : Env} {H H' : Hp} {a : Act} {w : World} {μ : Mu} {Q : Exit → Act → World → Prop}, opsS P N call ops l E H = some (E', H') → ERel N μ E a → Rel P B μ H w →
    (∀ a' w' μ', ERel N μ' E' a' → Rel P B μ' H' w' → Step μ w μ' w' → a'.defers = a.defers → Q .normal a' w') → wpList P ops Q l a w
  | [], E, E', H, H', a, w, μ, Q, h, hE, hR, hQ => by
    simp only [opsS, Option.some.injEq, Prod.mk.injEq] at h
    obtain ⟨rfl, rfl⟩ := h
    exact hQ a w μ hE hR (Step.refl _ _) rfl
  | o :: l, E, E', H, H', a, w, μ, Q, h, hE, hR, hQ => by
    simp only [opsS] at h
    split at h
    · cases h
    · rename_i E1 H1 h1
      refine wpList_step fun K hKK => ?_
      refine stepS_wp hcall h1 hE hR fun μ' v w' g1 g2 g3 => hKK _ _ (opsS_wp hcall h g1 g2 fun a' w'' μ'' k1 k2 k3 k4 => hQ a' w'' μ'' k1 k2 (g3.trans k3) ?_)
      rw [k4]
      cases o.dst <;> rfl

end
end Go.Ex
