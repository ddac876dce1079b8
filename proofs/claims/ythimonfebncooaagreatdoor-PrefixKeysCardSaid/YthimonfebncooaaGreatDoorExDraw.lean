/- A region that draws its order: whatever the order, what the executor's order comes to. -/
import Derived.Test.YthimonfebncooaaGreatDoorExDrawA
namespace Go.Ex

section
variable {P : Program} {B N : Nat} {ops : Array Oper} {Q : Exit → Act → World → Prop}

/-- an operation that is apart from what stands in a temporary already -/
theorem wpOp_put_fwd {j : Nat} {oi oj : Oper} {v : Value} (hj : ops[j]? = some oj) (hap : oi.apart ops oj = true) (hsj : ∀ cs b, oj.op ≠ .select cs b)
    (hQ : ∀ c a w, ¬ Q (.panic c) a w) {K : Act → World → Prop} {a : Act} {w : World}
    (h : wpOp P ops Q j (fun a' w' => K (a'.put oi.dst v) w') a w) : wpOp P ops Q j K (a.put oi.dst v) w := by
  obtain ⟨h1, h2, h3⟩ := Oper.apart_spec hap
  unfold wpOp at *
  simp only [hj] at *
  rw [wanted_put oj a oi.dst v h1]
  split
  · rename_i hw
    simp only [hw, if_true] at h
    rcases h with h | ⟨hasks, hlets⟩
    case inr => exact .inr ⟨by unfold Oper.asks at *; rw [execOp_put oj hsj a oi.dst v h1]; exact hasks, hlets⟩
    refine .inl ?_
    unfold Oper.wp at *
    rw [execOp_put oj hsj a oi.dst v h1]
    generalize (execOp a.eval oj).run P w = r at *
    cases r with
    | ok n w' =>
      cases n <;> simp only [Oper.upon] at h ⊢
      case value u => rw [Act.put_comm a v u h2]; exact h
      case skip => rw [Act.put_comm a v undef h2]; exact h
      case defer d =>
        rw [Act.put_defers, Act.put_comm _ v undef h2]
        exact h
      case enter f args =>
        refine Calls.mono h fun e w'' he => ?_
        cases e with
        | returned u => simp only at he ⊢; rw [Act.put_comm a v u h2]; exact he
        | panicked c => exact absurd he (hQ _ _ _)
        | outgrown => exact he
      case row row args => exact Rows.mono h fun u w'' he => (by rw [Act.put_comm a v u h2]; exact he)
    | halt x w' =>
      cases x <;> simp only [Oper.upon] at h ⊢
      case panic u => exact absurd h (hQ _ _ _)
  · rename_i hw
    simp only [hw] at h
    simp only [Bool.false_eq_true, if_false] at h
    rw [Act.put_comm a v undef h2]
    exact h

theorem free_mono {listed : Array Bool} {i c : Nat} (h : Region.free .any ops listed i = true) : Region.free .any ops (listed.setIfInBounds c true) i = true := by
  unfold Region.free at h ⊢
  cases hi : ops[i]? with
  | none => simp [hi] at h
  | some oi =>
    simp only [hi] at h ⊢
    rw [List.all_eq_true] at h ⊢
    intro j hj
    have := h j hj
    simp only [Bool.or_eq_true] at this ⊢
    rcases this with (this | this) | this
    · exact .inl (.inl this)
    · refine .inl (.inr ?_)
      by_cases e : c = j
      · subst e
        rcases Nat.lt_or_ge c listed.size with hlt | hge
        · simp [hlt]
        · simp [Array.getElem?_eq_none hge]
      · rw [getD_set_ne true e]; exact this
    · exact .inr this

theorem free_apart {listed : Array Bool} {i j : Nat} {oi oj : Oper} (hi : ops[i]? = some oi) (h : Region.free .any ops listed i = true) (hri : i ∈ Region.ready .any ops listed) (hrj : j ∈ Region.ready .any ops listed) (hne : j ≠ i) (hj : ops[j]? = some oj) : oi.apart ops oj = true := by
  obtain ⟨hun, oj', hoj', _⟩ := mem_ready.1 hrj
  rw [hj] at hoj'; cases hoj'
  exact Region.free_spec hi h j oj hj hne hun fun e he hb heq => not_waits hri hrj ⟨oj, hj, e, he, hb, heq⟩

/-- an operation that makes a block, and came up ahead of time -/
structure Fl where
  c : Nat
  d : Tmp
  o : Oper
  ob : Obj
  r : Nat
  val : Nat → Value

structure FlOK (P : Program) (B : Nat) (ops : Array Oper) (w₀ : World) (listed : Array Bool) (a : Act) (w : World) (μ : Mu) (f : Fl) : Prop where
  op : ops[f.c]? = some f.o
  dst : f.o.dst = some f.d
  guard : f.o.guard = none
  al : allocOp f.o.op = true
  ready : f.c ∈ Region.ready .any ops listed
  free : Region.free .any ops listed f.c = true
  new : w₀.heap.size ≤ f.r
  rng : f.r < w.heap.size
  away : ∀ p x, μ p = some x → x.1 ≠ f.r
  cont : w.heap[f.r]? = some f.ob
  run : ∀ w₂, (execOp a.eval f.o).run P w₂ = .ok (.value (f.val w₂.heap.size)) (w₂.alloc f.ob)

/-- behind one more operation that is apart -/
theorem FlOK.step {w₀ : World} {listed : Array Bool} {a : Act} {w : World} {μ : Mu} {f : Fl} (h : FlOK P B ops w₀ listed a w μ f) (hsel : ∀ (j : Nat) (o : Oper) cs b, ops[j]? = some o → o.op ≠ .select cs b) {i : Nat} {oi : Oper} (hi : ops[i]? = some oi) (hri : i ∈ Region.ready .any ops listed) (hne : i ≠ f.c) {u : Value} {w' : World} {μ' : Mu} (hs : Step μ w μ' w') :
    FlOK P B ops w₀ (listed.setIfInBounds i true) (a.put oi.dst u) w' μ' f := by
  have hap := free_apart h.op h.free h.ready hri hne hi
  obtain ⟨h1, h2, h3⟩ := Oper.apart_spec hap
  refine ⟨h.op, h.dst, h.guard, h.al, ready_mono h.ready (Ne.symm hne), free_mono h.free, h.new, Nat.lt_of_lt_of_le h.rng hs.size, ?_, ?_, ?_⟩
  · intro p x hx e
    rcases hs.new p x hx with ⟨q, y, hy, e'⟩ | e'
    · exact h.away q y hy (e'.trans e)
    · have := h.rng; omega
  · rw [hs.block f.r h.rng h.away]; exact h.cont
  · intro w₂
    rw [execOp_put f.o (hsel _ _ · · h.op) a oi.dst u h3]
    exact h.run w₂

theorem okS_unlisted : ∀ {steps : List SStep} {listed : Array Bool}, okS ops listed steps = true → ∀ s ∈ steps, listed.getD s.i true = false
  | [], _, _, s, hs => by cases hs
  | st :: rest, listed, h, s, hs => by
    simp only [okS, Bool.and_eq_true] at h
    obtain ⟨hk, hr⟩ := h
    have hmem : st.i ∈ Region.ready .any ops listed := by
      split at hk
      · simp only [Bool.and_eq_true] at hk; simpa using hk.1
      · split at hk
        · rename_i i hrd; rw [hrd]; simp at hk; simp [hk]
        · rename_i i j hrd; rw [hrd]; simp at hk; rcases hk with hk | hk
          · simp [hk.1.1.1.1]
          · simp [hk.1.1.1.1]
        · cases hk
    rcases List.mem_cons.1 hs with rfl | hs
    · exact (mem_ready.1 hmem).1
    · have := okS_unlisted hr s hs
      by_cases e : st.i = s.i
      · rw [← e] at this ⊢
        exact (mem_ready.1 hmem).1
      · rw [getD_set_ne true e] at this; exact this


/-- one step that leaves memory as it is -/
theorem quiet_step {call : CallF} {st : SStep} {rest : List SStep} {tk : List Tk} {E E' : Env} {H H' : Hp} {a : Act} {w : World} {μ : Mu} (hd : drawS P N call ops (st :: rest) tk E H = some (E', H')) (hst : st.quiet = quietOp st.o.op) (hrd : st.read = readOp st.o.op) (hq : st.quiet = true)
    (hE : ERel N μ E a) (hR : Rel P B μ H w) :
    ∃ v F tk₁ E₁, drawS P N call ops rest tk₁ E₁ H = some (E', H') ∧ ERel N μ E₁ (a.put st.o.dst v) ∧ YieldsIf P ops F st.o v a ∧ CO P B tk₁ μ H (st.i, F) ∧ (∀ t ∈ tk, t ∈ tk₁) := by
  simp only [drawS] at hd
  split at hd
  · cases hd
  · rename_i hw
    split at hd
    · rename_i E₁ hp
      split at hd
      · exact ⟨undef, fun _ => True, tk, E₁, hd, putS_rel hE hp rfl, .inr ⟨wantedS_run hE hw, rfl⟩, .inl fun _ => trivial, fun _ h => h⟩
      · cases hd
    · cases hd
  · rename_i hw
    rw [hq] at hd
    simp only at hd
    split at hd
    · rename_i s H'' hop
      split at hd
      · rename_i E₁ hp
        have hq' : quietOp st.o.op = true := by rw [← hst]; exact hq
        obtain ⟨v, h1, h2, h3⟩ := fact_yields hR hE hq' hop
        have hH := (quiet_same hR hE.ev hq' hop).1
        subst hH
        refine ⟨v, FactOf P B E st.o s μ, _, E₁, hd, putS_rel hE hp h1, .inl ⟨wantedS_run hE hw, h3⟩, .inr ⟨E, st.o, s, μ, rfl, Ext.refl _, hq', hop, fun hr => ?_⟩, fun t ht => ?_⟩
        · rw [hrd, hr]; exact List.mem_cons_self
        · cases st.read
          · exact ht
          · exact List.mem_cons_of_mem _ ht
      · cases hd
    · cases hd

/-- one step that may write -/
theorem loud_step {call : CallF} (hcall : CallOK P B call) {st : SStep} {rest : List SStep} {tk : List Tk} {E E' : Env} {H H' : Hp} {a : Act} {w : World} {μ : Mu} (hd : drawS P N call ops (st :: rest) tk E H = some (E', H')) (hop : ops[st.i]? = some st.o) (hq : st.quiet = false)
    (hE : ERel N μ E a) (hR : Rel P B μ H w) :
    ∃ E₁ H₁ tk₁, drawS P N call ops rest tk₁ E₁ H₁ = some (E', H') ∧ (floatsOf st rest).all (valB P E H) = true ∧
      (∀ K : Act → World → Prop, (∀ μ' v w', ERel N μ' E₁ (a.put st.o.dst v) → Rel P B μ' H₁ w' → Step μ w μ' w' → K (a.put st.o.dst v) w') → wpOp P ops Q st.i K a w) ∧
      (∀ μ' w' x, Ext μ μ' → Rel P B μ' H₁ w' → CO P B tk μ H x → ¬ Waits .any ops st.i x.1 → CO P B tk₁ μ' H₁ x) := by
  simp only [drawS] at hd
  split at hd
  · cases hd
  · rename_i hw
    split at hd
    · rename_i E₁ hp
      split at hd
      · rename_i hc
        rw [hq] at hc
        refine ⟨E₁, H, tk, hd, by simpa using hc, fun K hK => ?_, fun μ' w' x hx _ hco _ => hco.mono (fun _ h => h) hx⟩
        unfold wpOp
        simp only [hop]
        rw [wantedS_run hE hw, if_neg (by simp)]
        exact hK μ undef w (putS_rel hE hp rfl) hR (Step.refl _ _)
      · cases hd
    · cases hd
  · rename_i hw
    rw [hq] at hd
    simp only at hd
    split at hd
    · cases hd
    · rename_i E₁ H₁ hs
      split at hd
      · rename_i hc
        simp only [Bool.and_eq_true] at hc
        refine ⟨E₁, H₁, _, hd, hc.1, fun K hK => ?_, fun μ' w' x hx hR' hco hnw => hco.loud hx hR' ?_ hc.2⟩
        · have := stepS_wp (K := K) (Q := Q) hcall hs hE hR hK
          unfold wpOp
          simp only [hop]
          rw [wantedS_run hE hw, if_pos rfl] at this ⊢
          exact .inl this
        · cases hwb : waitsB st.o x.1 with
          | false => rfl
          | true => exact absurd ((waits_iff hop x.1).2 hwb) hnw
      · cases hd

theorem ready_loud {st : SStep} {rest : List SStep} {listed : Array Bool} (h : okS ops listed (st :: rest) = true) (hq : st.quiet = false) :
    st.i ∈ Region.ready .any ops listed ∧ okS ops (listed.setIfInBounds st.i true) rest = true ∧
    ∀ j ∈ Region.ready .any ops listed, j ≠ st.i → floatB ops listed j = true ∧ (∃ t ∈ rest, t.i = j) ∧ Region.ready .any ops (listed.setIfInBounds j true) = [st.i] := by
  simp only [okS, Bool.and_eq_true, hq] at h
  obtain ⟨hk, hr⟩ := h
  split at hk
  · rename_i i hrd
    simp only [beq_iff_eq] at hk
    subst hk
    refine ⟨by rw [hrd]; simp, hr, fun j hj hne => ?_⟩
    rw [hrd] at hj; simp at hj; exact absurd hj hne
  · rename_i i j hrd
    simp only [Bool.or_eq_true, Bool.and_eq_true, beq_iff_eq, bne_iff_ne, ne_eq, List.any_eq_true] at hk
    rcases hk with ⟨⟨⟨⟨h1, h2⟩, h3⟩, h4⟩, h5⟩ | ⟨⟨⟨⟨h1, h2⟩, h3⟩, h4⟩, h5⟩
    · subst h1
      refine ⟨by rw [hrd]; simp, hr, fun k hk hne => ?_⟩
      rw [hrd] at hk; simp at hk
      rcases hk with rfl | rfl
      · exact absurd rfl hne
      · obtain ⟨t, ht, e⟩ := h4
        exact ⟨h3, ⟨t, ht, e⟩, h5⟩
    · subst h1
      refine ⟨by rw [hrd]; simp, hr, fun k hk hne => ?_⟩
      rw [hrd] at hk; simp at hk
      rcases hk with rfl | rfl
      · obtain ⟨t, ht, e⟩ := h4
        exact ⟨h3, ⟨t, ht, e⟩, h5⟩
      · exact absurd rfl hne
  · cases hk

theorem ready_quiet {st : SStep} {rest : List SStep} {listed : Array Bool} (h : okS ops listed (st :: rest) = true) (hq : st.quiet = true) :
    st.i ∈ Region.ready .any ops listed ∧ Region.free .any ops listed st.i = true ∧ okS ops (listed.setIfInBounds st.i true) rest = true := by
  simp only [okS, Bool.and_eq_true, hq] at h
  obtain ⟨⟨h1, h2⟩, h3⟩ := h
  exact ⟨by simpa using h1, h2, h3⟩

theorem alloc_not_quiet {op : Op} (h : allocOp op = true) : quietOp op = false := by
  cases op <;> simp [allocOp] at h <;> rfl

set_option maxHeartbeats 1000000 in
theorem draw_main {call : CallF} (hcall : CallOK P B call) (hsel : ∀ (j : Nat) (o : Oper) cs b, ops[j]? = some o → o.op ≠ .select cs b) (hQp : ∀ c a w, ¬ Q (.panic c) a w) {E' : Env} {H' : Hp} {w₀ : World} {μ₀ : Mu} {d₀ : List Deferred} (hB : B ≤ w₀.heap.size)
    (hfin : ∀ a' w' μ', ERel N μ' E' a' → Rel P B μ' H' w' → Step μ₀ w₀ μ' w' → a'.defers = d₀ → Q .normal a' w') :
    ∀ steps : List SStep, (∀ s ∈ steps, ops[s.i]? = some s.o ∧ s.quiet = quietOp s.o.op ∧ s.read = readOp s.o.op) →
      (∀ tk E H listed S a w μ, drawS P N call ops steps tk E H = some (E', H') → okS ops listed steps = true → ERel N μ E a → Rel P B μ H w → Step μ₀ w₀ μ w → a.defers = d₀ → (∀ x ∈ S, CO P B tk μ H x) →
        wpAnyG P .any ops Q steps.length listed S a w) ∧
      (∀ tk E H listed S a w μ f, drawS P N call ops steps tk E H = some (E', H') → okS ops listed steps = true → ERel N μ E a → Rel P B μ H w → Step μ₀ w₀ μ w → a.defers = d₀ → (∀ x ∈ S, CO P B tk μ H x) →
        FlOK P B ops w₀ listed a w μ f → f.c ∈ steps.map SStep.i → (∀ x ∈ S, ¬ Waits .any ops f.c x.1) →
        wpAnyG P .any ops Q (steps.length - 1) (listed.setIfInBounds f.c true) S (a.put (some f.d) (f.val f.r)) w)
  | [], _ => by
    refine ⟨?_, ?_⟩
    · intro tk E H listed S a w μ hd hok hE hR hS hdef hco
      simp only [drawS, Option.some.injEq, Prod.mk.injEq] at hd
      obtain ⟨rfl, rfl⟩ := hd
      simp only [okS, List.isEmpty_iff] at hok
      exact ⟨fun x hx => (hco x hx).holds hR, hok, hfin a w μ hE hR hS hdef⟩
    · intro tk E H listed S a w μ f _ _ _ _ _ _ _ _ hf
      simp at hf
  | st :: rest, hst => by
    obtain ⟨ih0, ih1⟩ := draw_main hcall hsel hQp hB hfin rest fun s hs => hst s (List.mem_cons_of_mem _ hs)
    obtain ⟨hop, hsq, hsr⟩ := hst st List.mem_cons_self
    have hputd : ∀ (a : Act) (d : Option Tmp) (v : Value), (a.put d v).defers = a.defers := fun a d v => by cases d <;> rfl
    -- an operation that makes a block has come up ahead of time
    have C1 : ∀ tk E H listed S a w μ f, drawS P N call ops (st :: rest) tk E H = some (E', H') → okS ops listed (st :: rest) = true → ERel N μ E a → Rel P B μ H w → Step μ₀ w₀ μ w → a.defers = d₀ → (∀ x ∈ S, CO P B tk μ H x) →
        FlOK P B ops w₀ listed a w μ f → f.c ∈ (st :: rest).map SStep.i → (∀ x ∈ S, ¬ Waits .any ops f.c x.1) →
        wpAnyG P .any ops Q ((st :: rest).length - 1) (listed.setIfInBounds f.c true) S (a.put (some f.d) (f.val f.r)) w := by
      intro tk E H listed S a w μ f hd hok hE hR hS hdef hco hf hfm hnw
      by_cases hc : st.i = f.c
      · -- the executor comes to it
        have ho : st.o = f.o := by have := hf.op; rw [← hc, hop] at this; exact Option.some.inj this
        have hq : st.quiet = false := by rw [hsq, ho]; exact alloc_not_quiet hf.al
        have hok' := (ready_loud hok hq).2.1
        simp only [drawS] at hd
        have hw : wantedS ops E st.o = some true := by unfold wantedS; rw [ho, hf.guard]
        rw [hw, hq] at hd
        simp only at hd
        split at hd
        · cases hd
        · rename_i E₁ H₁ hs
          split at hd
          · rename_i hck
            simp only [Bool.and_eq_true] at hck
            unfold stepS at hs
            rw [hw] at hs
            simp only at hs
            split at hs
            · cases hs
            · rename_i s H'' hops
              split at hs
              · rename_i E'' hp
                cases hs
                rw [ho] at hops
                obtain ⟨obj, ob, mk, rfl, hrun, horel, hren⟩ := alloc_run hE.ev hf.al hops
                have hob : ob = f.ob ∧ ∀ n, mk n = f.val n := by
                  constructor
                  · have h1 := hrun w
                    rw [hf.run w] at h1
                    simp only [Result.ok.injEq, Next.value.injEq] at h1
                    have h2 : (w.alloc f.ob).heap[w.heap.size]? = (w.alloc ob).heap[w.heap.size]? := by rw [h1.2]
                    rw [heap_alloc_new, heap_alloc_new] at h2
                    exact (Option.some.inj h2).symm
                  · intro n
                    have h1 := hrun { (default : World) with heap := Array.replicate n default }
                    rw [hf.run] at h1
                    simp only [Result.ok.injEq, Next.value.injEq] at h1
                    have h2 := h1.1
                    simp at h2
                    exact h2.symm
                obtain ⟨rfl, hmk⟩ := hob
                have hx : Ext μ (μ.add H.next (f.r, 0)) := Mu.add_ext (hR.fresh _ (Nat.le_refl _)) _
                have hR' := hR.adopt obj f.r 0 (Nat.le_trans hB hf.new) hf.rng (fun p _ x _ _ hx => hf.away p x hx) (by rw [hf.cont]; exact horel _ hx)
                have hS' : Step μ₀ w₀ (μ.add H.next (f.r, 0)) w := ⟨hS.ext.trans hx, fun p x hp => (Mu.add_or hp).elim (hS.new p x) (fun e => by subst e; exact .inr hf.new), hS.os, hS.tape, hS.output, hS.size, hS.block⟩
                have hE' : ERel N (μ.add H.next (f.r, 0)) E₁ (a.put (some f.d) (f.val f.r)) := by
                  have h1 := putS_rel (hE.ext hx) hp (hren _ f.r (Mu.add_self _ _ _))
                  rw [ho, hf.dst, hmk] at h1
                  exact h1
                have hlen : (st :: rest).length - 1 = rest.length := by simp
                rw [hlen, ← hc]
                refine ih0 _ E₁ _ _ S _ w _ hd hok' hE' hR' hS' (by rw [hputd]; exact hdef) fun x hxS => ?_
                refine (hco x hxS).loud hx hR' ?_ hck.2
                cases hwb : waitsB st.o x.1 with
                | false => rfl
                | true => exact absurd (hc ▸ (waits_iff hop x.1).2 hwb) (hnw x hxS)
              · cases hs
            · rename_i g args hops
              rw [ho] at hops
              obtain ⟨vs, _, h1⟩ := opS_call hE.ev hops w
              rw [hf.run w] at h1
              simp at h1
          · cases hd
      · -- it waits on
        have hfr : f.c ∈ rest.map SStep.i := by
          simp only [List.map_cons, List.mem_cons] at hfm
          rcases hfm with h | h
          · exact absurd h.symm hc
          · exact h
        have hpos : 0 < rest.length := by
          cases rest with
          | nil => simp at hfr
          | cons _ _ => simp
        have hlen : (st :: rest).length - 1 = (rest.length - 1) + 1 := by simp; omega
        rw [hlen]
        cases hq : st.quiet with
        | true =>
          obtain ⟨hrdy, hfree, hok'⟩ := ready_quiet hok hq
          obtain ⟨v, F, tk₁, E₁, hd', hE', hy, hcx, hsub⟩ := quiet_step hd hsq hsr hq hE hR
          have hap := free_apart hf.op hf.free hf.ready hrdy hc hop
          obtain ⟨p1, p2, p3⟩ := Oper.apart_spec hap
          rw [hf.dst] at p1 p2
          have hy' : YieldsIf P ops F st.o v (a.put (some f.d) (f.val f.r)) := hy.of_same (execOp_put st.o (hsel _ _ · · hop) a _ _ p1) (wanted_put st.o a _ _ p1)
          refine wpAnyG_first (F := F) hop hsel (fun c a w h => absurd h (hQp _ _ _)) (rest.length - 1) (listed.setIfInBounds f.c true) ((st.i, F) :: S) S _ w (fun j oj hj hne hun hno => Region.free_spec hop (free_mono hfree) j oj hj hne hun hno) (ready_mono hrdy hc) hy' List.mem_cons_self (fun x hx => List.mem_cons_of_mem _ hx) ?_
          have hf' := hf.step hsel hop hrdy hc (u := v) (Step.refl μ w)
          have := ih1 tk₁ E₁ H _ ((st.i, F) :: S) _ w μ f hd' hok' hE' hR hS (by rw [hputd]; exact hdef) (fun x hx => by
            rcases List.mem_cons.1 hx with rfl | hx
            · exact hcx
            · exact (hco x hx).mono hsub (Ext.refl _)) hf' hfr (fun x hx => by
            rcases List.mem_cons.1 hx with rfl | hx
            · exact not_waits hrdy hf.ready
            · exact hnw x hx)
          rw [Array.setIfInBounds_comm _ _ hc, Act.put_comm a v (f.val f.r) (fun d hd he => p2 f.d rfl (by rw [hd, ← he]))] at this
          exact this
        | false =>
          obtain ⟨hrdy, hok', hoth⟩ := ready_loud hok hq
          obtain ⟨E₁, H₁, tk₁, hd', _, hwp, hcos⟩ := loud_step (Q := Q) hcall hd hop hq hE hR
          have hone := (hoth f.c hf.ready (Ne.symm hc)).2.2
          have hap := free_apart hf.op hf.free hf.ready hrdy hc hop
          obtain ⟨p1, p2, p3⟩ := Oper.apart_spec hap
          rw [hf.dst] at p1 p2
          refine ⟨fun x hx => (hco x hx).holds hR, fun h => (by rw [h] at hone; cases hone), fun j hj => ?_⟩
          rw [hone] at hj
          simp only [List.mem_singleton] at hj
          subst hj
          have hfwd := wpOp_put_fwd (P := P) (Q := Q) (v := f.val f.r) hop hap (hsel _ _ · · hop) hQp (w := w) (a := a) (K := fun a' w' => ∃ S', (∀ x ∈ S, ¬ Waits .any ops st.i x.1 → x ∈ S') ∧ wpAnyG P .any ops Q (rest.length - 1) ((listed.setIfInBounds f.c true).setIfInBounds st.i true) S' a' w') (hwp _ fun μ' v w' hE' hR' hS' => ?_)
          · rw [hf.dst] at hfwd; exact hfwd
          · refine ⟨S.filter fun x => !waitsB st.o x.1, fun x hx hn => List.mem_filter.2 ⟨hx, ?_⟩, ?_⟩
            · cases hwb : waitsB st.o x.1 with
              | false => rfl
              | true => exact absurd ((waits_iff hop x.1).2 hwb) hn
            · have hf' := hf.step hsel hop hrdy hc (u := v) hS'
              have := ih1 tk₁ E₁ H₁ _ (S.filter fun x => !waitsB st.o x.1) _ w' μ' f hd' hok' hE' hR' (hS.trans hS') (by rw [hputd]; exact hdef) (fun x hx => by
                obtain ⟨hx, hb⟩ := List.mem_filter.1 hx
                refine hcos μ' w' x hS'.ext hR' (hco x hx) (fun hw => ?_)
                rw [(waits_iff hop x.1).1 hw] at hb
                cases hb) hf' hfr (fun x hx => hnw x (List.mem_filter.1 hx).1)
              rw [Array.setIfInBounds_comm _ _ hc] at this
              rw [hf.dst]
              exact this
    refine ⟨?_, C1⟩
    intro tk E H listed S a w μ hd hok hE hR hS hdef hco
    cases hq : st.quiet with
    | true =>
      obtain ⟨hrdy, hfree, hok'⟩ := ready_quiet hok hq
      obtain ⟨v, F, tk₁, E₁, hd', hE', hy, hcx, hsub⟩ := quiet_step hd hsq hsr hq hE hR
      refine wpAnyG_first (F := F) hop hsel (fun c a w h => absurd h (hQp _ _ _)) rest.length listed ((st.i, F) :: S) S a w (Region.free_spec hop hfree) hrdy hy List.mem_cons_self (fun x hx => List.mem_cons_of_mem _ hx) ?_
      exact ih0 tk₁ E₁ H _ ((st.i, F) :: S) _ w μ hd' hok' hE' hR hS (by rw [hputd]; exact hdef) (fun x hx => by
        rcases List.mem_cons.1 hx with rfl | hx
        · exact hcx
        · exact (hco x hx).mono hsub (Ext.refl _))
    | false =>
      obtain ⟨hrdy, hok', hoth⟩ := ready_loud hok hq
      obtain ⟨E₁, H₁, tk₁, hd', hfl, hwp, hcos⟩ := loud_step (Q := Q) hcall hd hop hq hE hR
      refine ⟨fun x hx => (hco x hx).holds hR, fun h => (by rw [h] at hrdy; cases hrdy), fun j hj => ?_⟩
      by_cases hji : j = st.i
      · subst hji
        refine hwp _ fun μ' v w' hE' hR' hS' => ?_
        refine ⟨S.filter fun x => !waitsB st.o x.1, fun x hx hn => List.mem_filter.2 ⟨hx, ?_⟩, ?_⟩
        · cases hwb : waitsB st.o x.1 with
          | false => rfl
          | true => exact absurd ((waits_iff hop x.1).2 hwb) hn
        · exact ih0 tk₁ E₁ H₁ _ _ _ w' μ' hd' hok' hE' hR' (hS.trans hS') (by rw [hputd]; exact hdef) (fun x hx => by
            obtain ⟨hx, hb⟩ := List.mem_filter.1 hx
            refine hcos μ' w' x hS'.ext hR' (hco x hx) (fun hw => ?_)
            rw [(waits_iff hop x.1).1 hw] at hb
            cases hb)
      · obtain ⟨hfb, ⟨t, ht, htj⟩, hone⟩ := hoth j hj hji
        unfold floatB at hfb
        split at hfb
        · rename_i oc hoc
          simp only [Bool.and_eq_true] at hfb
          obtain ⟨⟨⟨hal, hgn⟩, hds⟩, hfree⟩ := hfb
          obtain ⟨d, hdst⟩ := Option.isSome_iff_exists.1 hds
          have hgn' : oc.guard = none := by simpa using hgn
          have hto : t.o = oc := by
            have := (hst t (List.mem_cons_of_mem _ ht)).1
            rw [htj, hoc] at this
            exact (Option.some.inj this).symm
          have hun := okS_unlisted hok
          have hmem : oc ∈ floatsOf st rest := by
            unfold floatsOf
            refine List.mem_map.2 ⟨t, List.mem_filter.2 ⟨ht, ?_⟩, hto⟩
            rw [hto]
            simp only [Bool.and_eq_true, hal, hgn, true_and, List.all_eq_true, Bool.or_eq_true, Bool.not_eq_true']
            intro e he
            cases hb : Region.binds .any e with
            | false => exact .inl rfl
            | true =>
              refine .inr ?_
              rw [Bool.eq_false_iff]
              intro hany
              obtain ⟨u, hu, heu⟩ := List.any_eq_true.1 hany
              have heu' : u.i = e.on := Nat.eq_of_beq_eq_true heu
              have h1 := hun u hu
              obtain ⟨_, oj, hoj, hall⟩ := mem_ready.1 hj
              rw [hoc] at hoj; cases hoj
              have h2 := hall e (by simpa using he) hb
              rw [heu'] at h1
              rcases Nat.lt_or_ge e.on listed.size with h' | h'
              · simp [h'] at h1 h2; rw [h1] at h2; cases h2
              · simp [Array.getElem?_eq_none h'] at h1
          have hval := List.all_eq_true.1 hfl oc hmem
          unfold valB at hval
          split at hval
          · rename_i s H₂ hops
            obtain ⟨obj, ob, mk, rfl, hrun, horel, hren⟩ := alloc_run hE.ev hal hops
            have hwp' : ∀ K : Act → World → Prop, K (a.put (some d) (mk w.heap.size)) (w.alloc ob) → wpOp P ops Q j K a w := by
              intro K hK
              unfold wpOp
              simp only [hoc]
              have hwt : Region.wanted oc (yielded ops a.tmps) = true := by simp [Region.wanted, hgn']
              rw [if_pos hwt]
              refine .inl ?_
              unfold Oper.wp
              rw [hrun w, Oper.upon_value, hdst]
              exact hK
            refine hwp' _ ⟨S.filter fun x => !waitsB oc x.1, fun x hx hn => List.mem_filter.2 ⟨hx, ?_⟩, ?_⟩
            · cases hwb : waitsB oc x.1 with
              | false => rfl
              | true => exact absurd ((waits_iff hoc x.1).2 hwb) hn
            · have hRa : Rel P B μ H (w.alloc ob) := hR.other (by simp) (fun p x hx => by
                have := hR.rng p x hx
                show (w.heap.push ob)[x.1]? = _
                rw [Array.getElem?_push, if_neg (by omega)])
              have := C1 tk E H listed (S.filter fun x => !waitsB oc x.1) a (w.alloc ob) μ ⟨j, d, oc, ob, w.heap.size, mk⟩ hd hok hE hRa (hS.trans (Step.alloc μ w ob)) hdef (fun x hx => hco x (List.mem_filter.1 hx).1)
                ⟨hoc, hdst, hgn', hal, hj, hfree, hS.size, by simp, fun p x hx e => (by have := hR.rng p x hx; simp only at e; omega), by show (w.heap.push ob)[w.heap.size]? = _; simp, hrun⟩
                (List.mem_map.2 ⟨t, List.mem_cons_of_mem _ ht, htj⟩)
                (fun x hx hw => by
                  obtain ⟨_, hb⟩ := List.mem_filter.1 hx
                  rw [(waits_iff hoc x.1).1 hw] at hb
                  cases hb)
              simpa using this
          · cases hval
        · cases hfb

end
end Go.Ex
