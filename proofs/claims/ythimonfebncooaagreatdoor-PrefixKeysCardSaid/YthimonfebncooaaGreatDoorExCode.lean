/- The executor's functions against the model's. -/
import Derived.Test.YthimonfebncooaaGreatDoorExDraw
import Derived.LoopN
import Derived.Scope
namespace Go.Ex

def Xt.ex : Xt → Exit
  | .normal => .normal
  | .exit id => .exit id
  | .ret => .ret

section
variable {P : Program} {B N : Nat}

theorem sched_spec {ops : Array Oper} {l : List SStep} (h : sched ops = some l) : ∀ s ∈ l, ops[s.i]? = some s.o ∧ s.quiet = quietOp s.o.op ∧ s.read = readOp s.o.op := by
  unfold sched at h
  generalize orderBy (levels ops.toList 0 0 .e) (ops.size + 1) 0 = is at h
  induction is generalizing l with
  | nil => simp [mapO] at h; subst h; intro s hs; cases hs
  | cons i is ih =>
    obtain ⟨x, y, hx, hy, rfl⟩ := mapO_cons.1 h
    intro s hs
    rcases List.mem_cons.1 hs with rfl | hs
    · unfold sstep at hx
      split at hx
      · rename_i o ho; cases hx; exact ⟨ho, rfl, rfl⟩
      · cases hx
    · exact ih hy s hs

/-- only the ordinary way out -/
def OnlyNormal (Q : Exit → Act → World → Prop) : Exit → Act → World → Prop
  | .normal, a, w => Q .normal a w
  | _, _, _ => False

theorem region_draw {call : CallF} (hm : P.follows .mixedOrders = true) (hcall : CallOK P B call) {ops : Array Oper} (hok : okRegion ops = true) {l : List SStep} (hl : sched ops = some l) {E E' : Env} {H H' : Hp} {a : Act} {w : World} {μ : Mu} (h : drawS P N call ops l [] E H = some (E', H'))
    (hE : ERel N μ E a) (hR : Rel P B μ H w) {id : Nat} {Q : Exit → Act → World → Prop} (hQ : ∀ a' w' μ', ERel N μ' E' a' → Rel P B μ' H' w' → Step μ w μ' w' → a'.defers = a.defers → Q .normal a' w') : (Code.region id ops true).wp P Q a w := by
  refine Code.wp_mono (Q := OnlyNormal Q) (fun e a w h => by cases e <;> first | exact h | exact (h : False).elim) ?_
  refine wp_region_any hm (wpAny_of_G _ _ [] _ _ ?_)
  unfold okRegion at hok
  rw [hl] at hok
  simp only [Bool.and_eq_true, beq_iff_eq] at hok
  obtain ⟨⟨hlen, hsel⟩, hs⟩ := hok
  have hR' := hR.heap (w' := { w with drawn := w.drawn + 1 }) rfl
  have := (draw_main (P := P) (N := N) (Q := OnlyNormal Q) (w₀ := { w with drawn := w.drawn + 1 }) (μ₀ := μ) hcall (Region.noSelect_spec hsel) (fun c a w h => h) hR.base (E' := E') (H' := H') (d₀ := a.defers)
    (fun a' w' μ' h1 h2 h3 h4 => hQ a' w' μ' h1 h2 ((Step.drew μ w (w.drawn + 1)).trans h3) h4) l (sched_spec hl)).1 [] E H (Array.replicate ops.size false) [] a _ μ h hs hE hR' (Step.refl _ _) rfl (fun x hx => by cases hx)
  rw [hlen] at this
  exact this

theorem code_sound {call : CallF} (hm : P.follows .mixedOrders = true) (hcall : CallOK P B call) : ∀ {c : Code}, codeOk c = true → ∀ {E E' : Env} {H H' : Hp} {x : Xt} {a : Act} {w : World} {μ : Mu} {Q : Exit → Act → World → Prop}, codeS P N call c E H = some (x, E', H') → ERel N μ E a → Rel P B μ H w →
    (∀ a' w' μ', ERel N μ' E' a' → Rel P B μ' H' w' → Step μ w μ' w' → a'.defers = a.defers → Q x.ex a' w') → c.wp P Q a w
  | .skip, _, E, E', H, H', x, a, w, μ, Q, h, hE, hR, hQ => by
    simp only [codeS, Option.some.injEq, Prod.mk.injEq] at h
    obtain ⟨rfl, rfl, rfl⟩ := h
    exact wp_skip (hQ a w μ hE hR (Step.refl _ _) rfl)
  | .label _, _, E, E', H, H', x, a, w, μ, Q, h, hE, hR, hQ => by
    simp only [codeS, Option.some.injEq, Prod.mk.injEq] at h
    obtain ⟨rfl, rfl, rfl⟩ := h
    exact wp_label (hQ a w μ hE hR (Step.refl _ _) rfl)
  | .ret, _, E, E', H, H', x, a, w, μ, Q, h, hE, hR, hQ => by
    simp only [codeS, Option.some.injEq, Prod.mk.injEq] at h
    obtain ⟨rfl, rfl, rfl⟩ := h
    exact wp_ret (hQ a w μ hE hR (Step.refl _ _) rfl)
  | .exit id, _, E, E', H, H', x, a, w, μ, Q, h, hE, hR, hQ => by
    simp only [codeS, Option.some.injEq, Prod.mk.injEq] at h
    obtain ⟨rfl, rfl, rfl⟩ := h
    exact wp_exit (hQ a w μ hE hR (Step.refl _ _) rfl)
  | .region id ops false, _, E, E', H, H', x, a, w, μ, Q, h, hE, hR, hQ => by
    simp only [codeS] at h
    split at h
    · rename_i E1 H1 h1
      simp only [Option.some.injEq, Prod.mk.injEq] at h
      obtain ⟨rfl, rfl, rfl⟩ := h
      exact wp_region_list (opsS_wp hcall h1 hE hR hQ)
    · cases h
  | .region id ops true, hok, E, E', H, H', x, a, w, μ, Q, h, hE, hR, hQ => by
    simp only [codeS] at h
    split at h
    · cases h
    · rename_i l hl
      split at h
      · rename_i E1 H1 h1
        simp only [Option.some.injEq, Prod.mk.injEq] at h
        obtain ⟨rfl, rfl, rfl⟩ := h
        exact region_draw hm hcall hok hl h1 hE hR hQ
      · cases h
  | .seq c₁ c₂, hok, E, E', H, H', x, a, w, μ, Q, h, hE, hR, hQ => by
    simp only [codeOk, Bool.and_eq_true] at hok
    simp only [codeS] at h
    refine wp_seq ?_
    split at h
    · cases h
    · rename_i E1 H1 h1
      refine code_sound hm hcall hok.1 h1 hE hR fun a' w' μ' g1 g2 g3 g4 => ?_
      exact code_sound hm hcall hok.2 h g1 g2 fun a'' w'' μ'' k1 k2 k3 k4 => hQ a'' w'' μ'' k1 k2 (g3.trans k3) (k4.trans g4)
    · rename_i r hn h1
      cases h
      refine code_sound hm hcall hok.1 h1 hE hR fun a' w' μ' g1 g2 g3 g4 => ?_
      have := hQ a' w' μ' g1 g2 g3 g4
      cases x with
      | normal => exact absurd rfl (hn E' H')
      | exit id => exact this
      | ret => exact this
  | .cond c c₁ c₂, hok, E, E', H, H', x, a, w, μ, Q, h, hE, hR, hQ => by
    simp only [codeOk, Bool.and_eq_true] at hok
    simp only [codeS] at h
    split at h
    · rename_i hc
      have hv := hE.ev c _ hc
      simp only [ren, Option.some.injEq] at hv
      exact wp_cond_true hv.symm (code_sound hm hcall hok.1 h hE hR hQ)
    · rename_i hc
      have hv := hE.ev c _ hc
      simp only [ren, Option.some.injEq] at hv
      exact wp_cond_false hv.symm (code_sound hm hcall hok.2 h hE hR hQ)
    · cases h
  | .block id c, hok, E, E', H, H', x, a, w, μ, Q, h, hE, hR, hQ => by
    simp only [codeOk] at hok
    simp only [codeS] at h
    refine wp_block ?_
    split at h
    · rename_i i E1 H1 h1
      refine code_sound hm hcall hok h1 hE hR fun a' w' μ' g1 g2 g3 g4 => ?_
      simp only [Xt.ex, Exit.inBlock]
      split at h
      · rename_i hid
        cases h
        rw [if_pos (Nat.eq_of_beq_eq_true hid)]
        exact hQ a' w' μ' g1 g2 g3 g4
      · rename_i hid
        cases h
        rw [if_neg (fun e => hid (by rw [e]; exact Nat.beq_refl _))]
        exact hQ a' w' μ' g1 g2 g3 g4
    · rename_i r hn
      rw [h] at hn
      refine code_sound hm hcall hok h hE hR fun a' w' μ' g1 g2 g3 g4 => ?_
      have := hQ a' w' μ' g1 g2 g3 g4
      cases x with
      | normal => exact this
      | exit id => exact absurd rfl (hn id E' H')
      | ret => exact this
  | .loop c, hok, E, E', H, H', x, a, w, μ, Q, h, hE, hR, hQ => by
    simp only [codeOk] at hok
    simp only [codeS] at h
    refine wp_loop_rounds loopFuel ?_
    generalize loopFuel = n at h
    induction n generalizing E H a w μ with
    | zero => simp [loopS] at h
    | succ n ih =>
      simp only [loopS] at h
      rw [rounds_succ]
      split at h
      · cases h
      · rename_i E1 H1 h1
        refine code_sound hm hcall hok h1 hE hR fun a' w' μ' g1 g2 g3 g4 => ?_
        exact ih _ _ _ _ _ g1 g2 (fun a'' w'' μ'' k1 k2 k3 k4 => hQ a'' w'' μ'' k1 k2 (g3.trans k3) (k4.trans g4)) h
      · rename_i r hn h1
        cases h
        refine code_sound hm hcall hok h1 hE hR fun a' w' μ' g1 g2 g3 g4 => ?_
        have := hQ a' w' μ' g1 g2 g3 g4
        cases x with
        | normal => exact absurd rfl (hn E' H')
        | exit id => exact this
        | ret => exact this
  | .scope c, hok, E, E', H, H', x, a, w, μ, Q, h, hE, hR, hQ => by
    simp only [codeOk] at hok
    simp only [codeS] at h
    refine wp_scope_straight ?_
    refine code_sound hm hcall hok h hE hR fun a' w' μ' g1 g2 g3 g4 => ?_
    have := hQ a' w' μ' g1 g2 g3 g4
    cases x <;> exact this
  | .rangeFunc _ _ _ _, _, _, _, _, _, _, _, _, _, _, h, _, _, _ => by simp [codeS] at h
  | .goto _, _, _, _, _, _, _, _, _, _, _, h, _, _, _ => by simp [codeS] at h
  | .refuse _, _, _, _, _, _, _, _, _, _, _, h, _, _, _ => by simp [codeS] at h

theorem argsE_get : ∀ (l : List SV) (i : Nat) (E : Env) (t : Nat), (argsE l i E).get (pa t) = if i ≤ t ∧ t < i + l.length then l[t - i]? else E.get (pa t)
  | [], i, E, t => by simp only [argsE]; rw [if_neg (by simp only [List.length_nil]; omega)]
  | v :: l, i, E, t => by
    simp only [argsE]
    rw [argsE_get l (i + 1) _ t, Tr.get_set]
    by_cases h1 : i + 1 ≤ t ∧ t < i + 1 + l.length
    · rw [if_pos h1, if_pos (by simp; omega)]
      have : t - i = (t - (i + 1)) + 1 := by omega
      rw [this]; simp
    · rw [if_neg h1]
      by_cases h2 : i = t
      · subst h2; rw [if_pos rfl, if_pos (by simp)]; simp
      · rw [if_neg h2, if_neg (by simp; omega)]

theorem resV_run {E : Env} {H : Hp} {a : Act} {w : World} {μ : Mu} (hE : ERel N μ E a) (hR : Rel P B μ H w) {r : ResultVar} {s : SV} (h : resV P E H r = some s) :
    ∃ v, (match r with
      | .tmp t => pure (a.tmps.getD t undef)
      | .cell x t => do loadVar t (← asAddr (a.tmps.getD x undef)) : Sem Value).run P w = .ok v w ∧ ren μ s = some v := by
  unfold resV at h
  split at h
  · rename_i t
    exact ⟨_, rfl, hE.get t s h⟩
  · rename_i x t
    split at h
    · rename_i p hp
      have hv := hE.get x p hp
      obtain ⟨v, h1, h2⟩ := loadS_run hR h hv
      refine ⟨v, ?_, h2⟩
      unfold loadS at h
      split at h
      · obtain ⟨y, hy, e⟩ := ptr_ren hv
        rw [e] at h1
        change ((asAddr (a.tmps.getD x undef)) >>= fun r => loadVar t r).run P w = _
        rw [e]
        simpa [Instr.loadAt, Instr.sureAddr, asAddr] using h1
      · cases h
    · cases h

theorem resL_run {E : Env} {H : Hp} {a : Act} {w : World} {μ : Mu} (hE : ERel N μ E a) (hR : Rel P B μ H w) : ∀ {rs : List ResultVar} {ss : List SV}, mapO (resV P E H) rs = some ss →
    ∃ vs, (rs.mapM fun r => (match r with
      | .tmp t => pure (a.tmps.getD t undef)
      | .cell x t => do loadVar t (← asAddr (a.tmps.getD x undef)) : Sem Value)).run P w = .ok vs w ∧ renL μ ss = some vs
  | [], ss, h => by simp [mapO] at h; subst h; exact ⟨[], by simp, rfl⟩
  | r :: rs, ss, h => by
    obtain ⟨s, ss', hs, hss, rfl⟩ := mapO_cons.1 h
    obtain ⟨v, h1, h2⟩ := resV_run hE hR hs
    obtain ⟨vs, h3, h4⟩ := resL_run hE hR hss
    refine ⟨v :: vs, ?_, renL_cons.2 ⟨v, vs, h2, h4, rfl⟩⟩
    rw [List.mapM_cons, Sem.run_bind, h1]
    simp only [Result.andThen_ok, Sem.run_bind, h3, Sem.run_pure]

theorem resS_run {E : Env} {H : Hp} {a : Act} {w : World} {μ : Mu} (hE : ERel N μ E a) (hR : Rel P B μ H w) {fn : Func} {s : SV} (h : resS P E H fn.results.toList = some s) :
    ∃ v, (results fn a.tmps).run P w = .ok v w ∧ ren μ s = some v := by
  unfold resS at h
  split at h
  · cases h
  · rename_i v hv
    cases h
    obtain ⟨vs, h1, h2⟩ := resL_run hE hR hv
    obtain ⟨x, r, hx, hr, rfl⟩ := renL_cons.1 h2
    simp [renL] at hr; subst hr
    refine ⟨x, ?_, hx⟩
    unfold results
    rw [Sem.run_bind, Array.mapM_eq_mapM_toList, Sem.run_map]
    refine Eq.trans (congrArg (fun r => (Result.andThen r _).andThen _) h1) ?_
    simp
  · rename_i l hn hv
    cases h
    obtain ⟨vs, h1, h2⟩ := resL_run hE hR hv
    have hlen := renL_length h2
    refine ⟨.tuple vs.toArray, ?_, by simp [ren, h2]⟩
    unfold results
    rw [Sem.run_bind, Array.mapM_eq_mapM_toList, Sem.run_map]
    refine Eq.trans (congrArg (fun r => (Result.andThen r _).andThen _) h1) ?_
    have : ¬ vs.length = 1 := by
      intro e
      rw [hlen] at e
      match l, e with
      | [v], _ => exact hn v rfl
    simp [this]

theorem fnsOk_get : ∀ {l : List Func} {i : Nat} {fn : Func} {c : Code}, fnsOk l = true → l[i]? = some fn → fn.body = some c → codeOk c = true
  | [], _, _, _, _, h, _ => by simp at h
  | f :: l, 0, fn, c, h, hi, hb => by
    simp only [fnsOk, Bool.and_eq_true] at h
    simp at hi; subst hi
    rw [hb] at h
    exact h.1
  | f :: l, i + 1, fn, c, h, hi, hb => by
    simp only [fnsOk, Bool.and_eq_true] at h
    simp at hi
    exact fnsOk_get h.2 hi hb

/-- **THE EXECUTOR IS SOUND** -/
theorem fn_sound (hm : P.follows .mixedOrders = true) (hok : fnsOk P.funcs.toList = true) : ∀ n, CallOK P B (fnS P n)
  | 0 => fun f args H s H' h => by simp [fnS] at h
  | n + 1 => fun f args H s H' h μ w vs hR hv => by
    simp only [fnS] at h
    split at h
    · cases h
    · rename_i fn hf
      split at h
      · cases h
      · rename_i c hb
        have hc : codeOk c = true := fnsOk_get hok (i := f) (by simpa using hf) hb
        split at h
        · rename_i hle
          have hlen := renL_length hv
          refine calls_of_wp hf hb ?_
          have hE : ERel fn.ntmps μ (argsE args 0 .e) { tmps := vs.toArray ++ Array.replicate (fn.ntmps - vs.toArray.size) undef, defers := [] } := by
            refine ⟨by simp; omega, fun t s hs => ?_⟩
            rw [argsE_get] at hs
            split at hs
            · rename_i hb
              simp only [Nat.sub_zero] at hs
              obtain ⟨v, h1, h2⟩ := renL_get hv t s hs
              have hlt : t < vs.length := by omega
              rw [h2]
              simp only [Array.getD_eq_getD_getElem?]
              rw [Array.getElem?_append_left (by simpa using hlt)]
              simp [h1]
            · rw [Tr.get_e] at hs; cases hs
          split at h
          · rename_i E1 H1 h1
            split at h
            · rename_i v hr
              cases h
              refine code_sound hm (fn_sound hm hok n) hc h1 hE hR fun a' w' μ' g1 g2 g3 g4 => ?_
              obtain ⟨u, k1, k2⟩ := resS_run g1 g2 hr
              exact ⟨g4, u, k1, μ', u, rfl, k2, g2, g3⟩
            · cases h
          · rename_i E1 H1 h1
            split at h
            · rename_i v hr
              cases h
              refine code_sound hm (fn_sound hm hok n) hc h1 hE hR fun a' w' μ' g1 g2 g3 g4 => ?_
              obtain ⟨u, k1, k2⟩ := resS_run g1 g2 hr
              exact ⟨g4, u, k1, μ', u, rfl, k2, g2, g3⟩
            · cases h
          · cases h
        · cases h

end
end Go.Ex
