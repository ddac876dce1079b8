/- Regions that draw their order: facts on the executor's steps. -/
import Derived.Test.YthimonfebncooaaGreatDoorExReg
namespace Go.Ex

mutual
theorem svEq_eq : ∀ {a b : SV}, svEq a b = true → a = b
  | .bool a, b, h => by cases b <;> simp [svEq] at h; rw [h]
  | .int j a, b, h => by cases b <;> simp [svEq] at h; rw [h.1, h.2]
  | .opq a l m, b, h => by cases b <;> simp [svEq] at h; rw [h.1.1, h.1.2, h.2]
  | .str a, b, h => by cases b <;> simp [svEq] at h; rw [h]
  | .ptr p a, b, h => by cases b <;> simp [svEq] at h; rw [h.1, h.2]
  | .nilp, b, h => by cases b <;> simp [svEq] at h; rfl
  | .slice p a l (.lim c), b, h => by
    cases b with
    | slice q b m d => cases d <;> simp [svEq] at h; obtain ⟨⟨⟨h1, h2⟩, h3⟩, h4⟩ := h; rw [h1, h2, h3, h4]
    | _ => simp [svEq] at h
  | .slice p a l (.open_ c), b, h => by
    cases b with
    | slice q b m d => cases d <;> simp [svEq] at h; obtain ⟨⟨⟨h1, h2⟩, h3⟩, h4⟩ := h; rw [h1, h2, h3, h4]
    | _ => simp [svEq] at h
  | .nils, b, h => by cases b <;> simp [svEq] at h; rfl
  | .etail _ _ _ _ _, b, h => by cases b <;> simp [svEq] at h
  | .map p, b, h => by cases b <;> simp [svEq] at h; rw [h]
  | .nilm, b, h => by cases b <;> simp [svEq] at h; rfl
  | .func fn a b, c, h => by
    cases c with
    | func gn c d =>
      cases fn <;> cases gn <;> simp [svEq] at h
      obtain ⟨⟨h1, h2⟩, h3⟩ := h
      rw [h1, svEqL_eq h2, svEqL_eq h3]
    | _ => cases fn <;> simp [svEq] at h
  | .nilf, b, h => by cases b <;> simp [svEq] at h; rfl
  | .iface t v, b, h => by
    cases b with
    | iface u w => simp [svEq] at h; rw [h.1, svEq_eq h.2]
    | _ => simp [svEq] at h
  | .nili, b, h => by cases b <;> simp [svEq] at h; rfl
  | .agg a, b, h => by
    cases b with
    | agg c => simp [svEq] at h; rw [svEqL_eq h]
    | _ => simp [svEq] at h
  | .tup a, b, h => by
    cases b with
    | tup c => simp [svEq] at h; rw [svEqL_eq h]
    | _ => simp [svEq] at h
theorem svEqL_eq : ∀ {a b : List SV}, svEqL a b = true → a = b
  | [], b, h => by cases b <;> simp [svEqL] at h; rfl
  | x :: a, b, h => by
    cases b with
    | nil => simp [svEqL] at h
    | cons y b => simp [svEqL] at h; rw [svEq_eq h.1, svEqL_eq h.2]
end

section
variable {P : Program} {B N : Nat} {μ : Mu} {H : Hp} {w : World} {E : Env} {a : Act}

/-- what only computes comes to the same over every memory -/
theorem pure_any {op : Op} (hq : quietOp op = true) (hr : readOp op = false) {s : SV} {H' : Hp} (h : opS P E H op = some (.val s H')) (H2 : Hp) : opS P E H2 op = some (.val s H2) := by
  unfold opS at h ⊢
  split at h
  all_goals first
    | (simp [quietOp] at hq; done)
    | (simp [readOp] at hr; done)
    | (obtain ⟨v, h1, h2⟩ := ev1_some h; simp only [ev1, h1] at h ⊢; obtain ⟨h3, rfl⟩ := vO_val h2; simp only [h3, vO]; done)
    | (obtain ⟨v, u, h1, h2, h3⟩ := ev2_some h; simp only [ev2, h1, h2] at h ⊢; obtain ⟨h4, rfl⟩ := vO_val h3; simp only [h4, vO]; done)
    | skip
  · obtain ⟨v, h1, h2⟩ := ev1_some h; simp only [ev1, h1]; cases h2; rfl
  · obtain ⟨v, h1, h2⟩ := ev1_some h; simp only [ev1, h1]; cases h2; rfl
  · obtain ⟨v, u, t, h1, h2, h3, h4⟩ := ev3_some h
    simp only [ev3, h1, h2, h3]
    split at h4
    · cases h4; rfl
    · cases h4
  · split at h
    · rename_i ps hps
      obtain ⟨h3, rfl⟩ := vO_val h
      simp only [h3, vO]
    · cases h
  · obtain ⟨v, h1, h2⟩ := ev1_some h
    simp only [ev1, h1]
    cases v <;> first
      | (cases h2; rfl)
      | (simp at h2; done)
      | (rename_i fn x y; cases fn <;> first | (cases h2; rfl) | (simp at h2; done))
  · obtain ⟨v, h1, h2⟩ := ev1_some h
    simp only [ev1, h1]
    split at h2
    · cases h2
    · cases h2; rfl
    · cases h2
  · split at h
    · cases h; rfl
    · cases h
  · split at h
    · rename_i lo' hi' mx' h1 h2 h3
      obtain ⟨v, h4, h5⟩ := ev1_some h
      simp only [ev1, h4]
      obtain ⟨h6, rfl⟩ := vO_val h5
      simp only [h6, vO]
    · cases h
  · obtain ⟨v, h1, h2⟩ := ev1_some h
    simp only [ev1, h1]
    split at h2
    · obtain ⟨h3, rfl⟩ := vO_val h2
      simp only [h3, vO]
    · cases h2
  · rename_i c
    unfold callOpS at h ⊢
    split at h
    · cases h
    · rename_i args hargs
      split at h
      · rename_i b hb
        unfold builtinS at h ⊢
        simp only [quietOp, hb] at hq
        simp only [readOp, hb] at hr
        split at h
        · simp at hr
        · obtain ⟨h3, rfl⟩ := vO_val h
          simp only [h3, vO]
        · simp [quietB] at hq
        · simp [quietB] at hq
        · simp [quietB] at hq
        · obtain ⟨h3, rfl⟩ := vO_val h
          simp only [h3, vO]
        · obtain ⟨h3, rfl⟩ := vO_val h
          simp only [h3, vO]
        · cases h
      · rename_i f hf; simp [quietOp, hf] at hq
      · rename_i f hf; simp [quietOp, hf] at hq

/-- where a reading that was taken comes to what it came to -/
def FactOf (P : Program) (B : Nat) (E : Env) (o : Oper) (s : SV) (μ : Mu) (w : World) : Prop :=
  ∃ H₂ μ₂, Ext μ μ₂ ∧ Rel P B μ₂ H₂ w ∧ opS P E H₂ o.op = some (.val s H₂)

theorem quiet_same {ρ : Operand → Value} (hR : Rel P B μ H w) (hE : ∀ x s, ev E x = some s → ren μ s = some (ρ x)) {o : Oper} (hq : quietOp o.op = true) {s : SV} {H' : Hp} (h : opS P E H o.op = some (.val s H')) :
    H' = H ∧ ∃ v, (execOp ρ o).run P w = .ok (.value v) w ∧ ren μ s = some v := by
  obtain ⟨v, h1, h2, h3⟩ := (opS_val hR hE h).quiet hq
  exact ⟨h3, v, h1, h2⟩

theorem fact_yields {o : Oper} (hR : Rel P B μ H w) (hE : ERel N μ E a) (hq : quietOp o.op = true) {s : SV} {H' : Hp} (h : opS P E H o.op = some (.val s H')) :
    ∃ v, ren μ s = some v ∧ FactOf P B E o s μ w ∧ ∀ w', FactOf P B E o s μ w' → (execOp a.eval o).run P w' = .ok (.value v) w' := by
  obtain ⟨rfl, v, h1, h2⟩ := quiet_same hR hE.ev hq h
  refine ⟨v, h2, ⟨H', μ, Ext.refl _, hR, h⟩, ?_⟩
  rintro w' ⟨H₂, μ₂, hx, hR₂, h₂⟩
  obtain ⟨_, v', h3, h4⟩ := quiet_same hR₂ (hE.ext hx).ev hq h₂
  have := ren_ext hx h2
  rw [h4] at this
  cases this
  exact h3

/-- a fact that holds now, and is looked after -/
def CO (P : Program) (B : Nat) (tk : List Tk) (μ : Mu) (H : Hp) (x : Nat × (World → Prop)) : Prop :=
  (∀ w, x.2 w) ∨ ∃ E o s μ₁, x.2 = FactOf P B E o s μ₁ ∧ Ext μ₁ μ ∧ quietOp o.op = true ∧ opS P E H o.op = some (.val s H) ∧ (readOp o.op = true → ({ i := x.1, E := E, o := o, s := s } : Tk) ∈ tk)

theorem CO.holds {tk : List Tk} {x : Nat × (World → Prop)} (h : CO P B tk μ H x) (hR : Rel P B μ H w) : x.2 w := by
  rcases h with h | ⟨E, o, s, μ₁, h1, h2, _, h3, _⟩
  · exact h w
  · rw [h1]; exact ⟨H, μ, h2, hR, h3⟩

theorem CO.mono {tk tk' : List Tk} {x : Nat × (World → Prop)} (h : CO P B tk μ H x) (hs : ∀ t ∈ tk, t ∈ tk') {μ' : Mu} (he : Ext μ μ') : CO P B tk' μ' H x := by
  rcases h with h | ⟨E, o, s, μ₁, h1, h2, h3, h4, h5⟩
  · exact .inl h
  · exact .inr ⟨E, o, s, μ₁, h1, h2.trans he, h3, h4, fun hr => hs _ (h5 hr)⟩

theorem waits_iff {ops : Array Oper} {i : Nat} {o : Oper} (ho : ops[i]? = some o) (q : Nat) : Waits .any ops i q ↔ waitsB o q = true := by
  unfold Waits waitsB
  rw [List.any_eq_true]
  constructor
  · rintro ⟨o', ho', e, he, hb, heq⟩
    rw [ho] at ho'; cases ho'
    exact ⟨e, by simpa using he, by simp [hb, heq]⟩
  · rintro ⟨e, he, hb⟩
    simp only [Bool.and_eq_true] at hb
    exact ⟨o, ho, e, by simpa using he, hb.1, Nat.eq_of_beq_eq_true hb.2⟩

theorem CO.loud {tk : List Tk} {x : Nat × (World → Prop)} (h : CO P B tk μ H x) {μ' : Mu} (he : Ext μ μ') {H' : Hp} {w' : World} (_hR : Rel P B μ' H' w') {o : Oper} (hw : waitsB o x.1 = false)
    (hall : (tk.filter fun t => !waitsB o t.i).all (holdsB P H') = true) : CO P B (tk.filter fun t => !waitsB o t.i) μ' H' x := by
  rcases h with h | ⟨E, o', s, μ₁, h1, h2, h3, h4, h5⟩
  · exact .inl h
  · by_cases hr : readOp o'.op = true
    · have hm : ({ i := x.1, E := E, o := o', s := s } : Tk) ∈ tk.filter fun t => !waitsB o t.i := List.mem_filter.2 ⟨h5 hr, by simp [hw]⟩
      have hh := List.all_eq_true.1 hall _ hm
      unfold holdsB at hh
      split at hh
      · rename_i s' H'' hop
        have := svEq_eq hh
        simp only at this hop
        subst this
        have hH : H'' = H' := by
          -- what reads leaves memory as it is
          have : ∀ {s : SV} {H'' : Hp}, opS P E H' o'.op = some (.val s H'') → H'' = H' := by
            intro s H'' hop
            unfold opS at hop
            split at hop <;> first | (rename_i hh; rw [hh] at hr; simp [readOp] at hr; done) | skip
            all_goals first
              | (obtain ⟨v, h1, h2⟩ := ev1_some hop; exact (vO_val h2).2)
              | (obtain ⟨v, u, h1, h2, h3⟩ := ev2_some hop; exact (vO_val h3).2)
              | skip
            · rename_i c hh
              rw [hh] at hr h3
              unfold callOpS at hop
              split at hop
              · cases hop
              · split at hop
                · rename_i b hb
                  unfold builtinS at hop
                  simp only [quietOp, hb] at h3
                  split at hop <;> first
                    | exact (vO_val hop).2
                    | (simp [quietB] at h3; done)
                    | cases hop
                · rename_i f hf; simp [quietOp, hf] at h3
                · rename_i f hf; simp [quietOp, hf] at h3
            · cases hop
          exact this hop
        subst hH
        exact .inr ⟨E, o', s', μ₁, h1, h2.trans he, h3, hop, fun _ => hm⟩
      · cases hh
    · have hr' : readOp o'.op = false := by simpa using hr
      exact .inr ⟨E, o', s, μ₁, h1, h2.trans he, h3, pure_any h3 hr' h4 H', fun h => absurd h hr⟩

/-- what makes a block out of its operands -/
theorem alloc_run {ρ : Operand → Value} (hE : ∀ x s, ev E x = some s → ren μ s = some (ρ x)) {o : Oper} (ha : allocOp o.op = true) {s : SV} {H' : Hp} (h : opS P E H o.op = some (.val s H')) :
    ∃ (obj : SO) (ob : Obj) (mk : Nat → Value), H' = H.new obj ∧ (∀ w, (execOp ρ o).run P w = .ok (.value (mk w.heap.size)) (w.alloc ob)) ∧ (∀ μ', Ext μ μ' → ORel P μ' 0 obj (some ob)) ∧ (∀ (μ' : Mu) r, μ' H.next = some (r, 0) → ren μ' s = some (mk r)) := by
  have rowrel : ∀ (elem : TypeId) (l : List SV) (vs : List Value), renL μ l = some vs → ∀ μ', Ext μ μ' → ORel P μ' 0 (.row (stFrom l 0 .e) l.length elem false) (some (.cells vs.toArray elem (0, 0))) := by
    intro elem l vs hl μ' hx
    have hlen := renL_length hl
    refine ⟨_, rfl, fun i s hi => ?_, by simp; omega, fun e => by cases e⟩
    rw [stFrom_get] at hi
    split at hi
    · rename_i hb
      obtain ⟨v, h3, h4⟩ := renL_get hl _ s hi
      exact ⟨by omega, v, by simpa using h3, ren_ext hx h4⟩
    · rw [Tr.get_e] at hi; cases hi
  unfold execOp
  unfold opS at h
  split at h <;> first | (rename_i hop; rw [hop] at ha; simp [allocOp] at ha; done) | skip
  · rename_i t hop
    rw [hop]
    split at h
    · rename_i z hz
      cases h
      obtain ⟨zv, h1, h2⟩ : ∃ zv, (∀ w, (zeroValue t).run P w = .ok zv w) ∧ ∀ μ, ren μ z = some zv := by
        obtain ⟨zv, h1, h2⟩ := run_zero hz (default : World)
        refine ⟨zv, fun w' => ?_, h2⟩
        obtain ⟨zv', h3, h4⟩ := run_zero hz w'
        have := h2 μ
        rw [h4 μ] at this
        cases this
        exact h3
      refine ⟨_, .cells zv.cells t, fun r => .pointer (some ⟨r, 0, none⟩), rfl, fun w => by simp [Instr.alloc, h1, newVar, newRow], fun μ' hx => ?_, fun μ' r hr => by simp [ren, hr]⟩
      have := rowrel t z.cells _ (ren_cells (h2 μ)) μ' hx
      simpa using this
    · cases h
  · rename_i t x hop
    rw [hop]
    obtain ⟨v, h1, h2⟩ := ev1_some h
    cases h2
    refine ⟨_, .cells (ρ x).cells t, fun r => .pointer (some ⟨r, 0, none⟩), rfl, fun w => by simp [Instr.box, newVar, newRow], fun μ' hx => ?_, fun μ' r hr => by simp [ren, hr]⟩
    have := rowrel t v.cells _ (ren_cells (hE _ _ h1)) μ' hx
    simpa using this
  · rename_i t len parts hop
    rw [hop]
    split at h
    · rename_i ps hps
      have h1 := pO_val h
      unfold buildSliceS at h1
      split at h1
      · rename_i elem hu
        split at h1
        · rename_i n hn
          split at h1
          · rename_i hle
            split at h1
            · rename_i z hz
              split at h1
              · rename_i l hl
                cases h1
                obtain ⟨zs0, k1, vs, k2, k3, k4, k5⟩ := zerosB_run (μ := μ) hz hn (default : World)
                obtain ⟨us, k6, k7, k8⟩ := fillS_run hl k2 (evP_ren hE hps)
                refine ⟨_, .cells us.toArray elem, fun r => .slice (some ⟨r, 0, none⟩) len len, rfl, fun w => ?_, fun μ' hx => rowrel elem l us k6 μ' hx, fun μ' r hr => by simp [ren, hr]⟩
                obtain ⟨zs, g1, vs', g2, g3, g4, g5⟩ := zerosB_run (μ := μ) hz hn w
                rw [k2] at g2; cases g2
                have hgt : ¬ len * n > 16777216 := by omega
                have e : (parts.map fun (i, x) => (i, ρ x)) = (parts.toList.map fun (i, x) => (i, ρ x)).toArray := by apply Array.ext'; simp
                simp only [e]
                rcases g1 with ⟨h0, rfl⟩ | ⟨h0, zv, g1, rfl⟩
                · simp only [Instr.buildSlice, Sem.run_bind, run_underlying hu, Result.andThen_ok, run_size hn, Nat.reducePow, if_neg hgt, if_pos h0, Sem.run_pure, g5, k7, newRow, run_newObj_alloc]
                · simp only [Instr.buildSlice, Sem.run_bind, run_underlying hu, Result.andThen_ok, run_size hn, Nat.reducePow, if_neg hgt, if_neg h0, g1, Sem.run_pure, g5, k7, newRow, run_newObj_alloc]
              · cases h1
            · cases h1
          · cases h1
        · cases h1
      · cases h1
    · cases h
  · cases h

end
end Go.Ex
