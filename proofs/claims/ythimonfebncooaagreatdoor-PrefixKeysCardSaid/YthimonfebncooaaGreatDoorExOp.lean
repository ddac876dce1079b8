/- One operation of the executor's against the model's: all of them. -/
import Derived.Test.YthimonfebncooaaGreatDoorExOpJ
namespace Go.Ex

section
variable {P : Program} {B : Nat} {μ : Mu} {H : Hp} {w : World} {E : Env} {ρ : Operand → Value}

def Gives (r : Result Next) (v : Value) (w' : World) : Prop := r = .ok (.value v) w' ∨ (r = .ok .skip w' ∧ v = undef)

theorem evL_ren (hE : ∀ x s, ev E x = some s → ren μ s = some (ρ x)) : ∀ {l : List Operand} {r : List SV}, evL E l = some r → renL μ r = some (l.map ρ)
  | [], r, h => by simp [evL] at h; subst h; rfl
  | x :: l, r, h => by
    simp only [evL] at h
    split at h
    · cases h
    · rename_i v hv
      split at h
      · cases h
      · rename_i r' hr
        cases h
        exact renL_cons.2 ⟨_, _, hE _ _ hv, evL_ren hE hr, rfl⟩

theorem evP_ren (hE : ∀ x s, ev E x = some s → ren μ s = some (ρ x)) : ∀ {l : List (Nat × Operand)} {r : List (Nat × SV)}, evP E l = some r → renP μ r = some (l.map fun (i, x) => (i, ρ x))
  | [], r, h => by simp [evP] at h; subst h; rfl
  | (i, x) :: l, r, h => by
    simp only [evP] at h
    split at h
    · cases h
    · rename_i v hv
      split at h
      · cases h
      · rename_i r' hr
        cases h
        exact renP_cons.2 ⟨_, _, hE _ _ hv, evP_ren hE hr, rfl⟩

theorem evO_ren (hE : ∀ x s, ev E x = some s → ren μ s = some (ρ x)) {o : Option Operand} {r : Option SV} (h : evO E o = some r) : renO μ r (o.map ρ) := by
  cases o with
  | none => simp [evO] at h; subst h; trivial
  | some x =>
    simp only [evO] at h
    split at h
    · rename_i v hv; cases h; exact hE _ _ hv
    · cases h

theorem ev1_some {x : Operand} {k : SV → Option Out} {r : Out} (h : ev1 E x k = some r) : ∃ v, ev E x = some v ∧ k v = some r := by
  unfold ev1 at h
  split at h
  · rename_i v hv; exact ⟨v, hv, h⟩
  · cases h
theorem ev2_some {x y : Operand} {k : SV → SV → Option Out} {r : Out} (h : ev2 E x y k = some r) : ∃ v u, ev E x = some v ∧ ev E y = some u ∧ k v u = some r := by
  unfold ev2 at h
  split at h
  · rename_i v hv
    split at h
    · rename_i u hu; exact ⟨v, u, hv, hu, h⟩
    · cases h
  · cases h
theorem ev3_some {x y z : Operand} {k : SV → SV → SV → Option Out} {r : Out} (h : ev3 E x y z k = some r) : ∃ v u t, ev E x = some v ∧ ev E y = some u ∧ ev E z = some t ∧ k v u t = some r := by
  unfold ev3 at h
  split at h
  · rename_i v hv
    split at h
    · rename_i u hu
      split at h
      · rename_i t ht; exact ⟨v, u, t, hv, hu, ht, h⟩
      · cases h
    · cases h
  · cases h

theorem vO_val {o : Option SV} {s : SV} {H H' : Hp} (h : vO H o = some (.val s H')) : o = some s ∧ H' = H := by
  unfold vO at h; split at h <;> cases h; exact ⟨rfl, rfl⟩
theorem hO_val {o : Option Hp} {s : SV} {H' : Hp} (h : hO o = some (.val s H')) : o = some H' ∧ s = .tup [] := by
  unfold hO at h; split at h <;> cases h; exact ⟨rfl, rfl⟩
theorem pO_val {o : Option (SV × Hp)} {s : SV} {H' : Hp} (h : pO o = some (.val s H')) : o = some (s, H') := by
  unfold pO at h; split at h <;> cases h; rfl
theorem vO_call {o : Option SV} {H : Hp} {f : FuncId} {l : List SV} (h : vO H o = some (.call f l)) : False := by
  unfold vO at h; split at h <;> cases h
theorem hO_call {o : Option Hp} {f : FuncId} {l : List SV} (h : hO o = some (.call f l)) : False := by
  unfold hO at h; split at h <;> cases h
theorem pO_call {o : Option (SV × Hp)} {f : FuncId} {l : List SV} (h : pO o = some (.call f l)) : False := by
  unfold pO at h; split at h <;> cases h

/-- what holds behind an operation; q: it leaves memory as it is -/
structure After (P : Program) (B : Nat) (μ : Mu) (H : Hp) (w : World) (q : Bool) (r : Result Next) (s : SV) (H' : Hp) : Prop where
  quiet : q = true → ∃ v, r = .ok (.value v) w ∧ ren μ s = some v ∧ H' = H
  after : ∃ v w' μ', Gives r v w' ∧ ren μ' s = some v ∧ Rel P B μ' H' w' ∧ Step μ w μ' w'

theorem After.val {q : Bool} {r : Result Next} {s : SV} {H' : Hp} {v : Value} {w' : World} {μ' : Mu} (hq : q = false) (h : r = .ok (.value v) w') (h1 : ren μ' s = some v) (h2 : Rel P B μ' H' w') (h3 : Step μ w μ' w') : After P B μ H w q r s H' :=
  ⟨fun e => (by rw [hq] at e; cases e), v, w', μ', .inl h, h1, h2, h3⟩

theorem After.same (hR : Rel P B μ H w) {q : Bool} {r : Result Next} {s : SV} {v : Value} (h : r = .ok (.value v) w) (h1 : ren μ s = some v) : After P B μ H w q r s H :=
  ⟨fun _ => ⟨v, h, h1, rfl⟩, v, w, μ, .inl h, h1, hR, Step.refl _ _⟩

theorem After.skip {q : Bool} {r : Result Next} {H' : Hp} {w' : World} {μ' : Mu} (hq : q = false) (h : r = .ok .skip w') (h2 : Rel P B μ' H' w') (h3 : Step μ w μ' w') : After P B μ H w q r (.tup []) H' :=
  ⟨fun e => (by rw [hq] at e; cases e), undef, w', μ', .inr ⟨h, rfl⟩, rfl, h2, h3⟩

theorem args_arr (as : Array Operand) : (as.map ρ) = (as.toList.map ρ).toArray := by
  apply Array.ext'; simp

theorem builtinS_after (hR : Rel P B μ H w) {b : Builtin} {ts : Array TypeId} {rt : TypeId} {consts : Array Bool} {args : List SV} {vs : List Value} (hv : renL μ args = some vs) {s : SV} {H' : Hp} (h : builtinS P H b ts args = some (.val s H')) :
    After P B μ H w (quietB b) ((builtin b ts rt consts vs.toArray).run P w) s H' := by
  unfold builtinS at h
  split at h
  · rename_i t x ht
    obtain ⟨vx, r, hx, hr, rfl⟩ := renL_cons.1 hv
    simp [renL] at hr; subst hr
    obtain ⟨h1, rfl⟩ := vO_val h
    obtain ⟨v, g1, g2⟩ := lenS_run (rt := rt) hR ht h1 hx
    exact After.same hR (by simp [builtin, g1]) g2
  · rename_i t x ht
    obtain ⟨vx, r, hx, hr, rfl⟩ := renL_cons.1 hv
    simp [renL] at hr; subst hr
    obtain ⟨h1, rfl⟩ := vO_val h
    obtain ⟨v, g1, g2⟩ := capS_run (rt := rt) ht h1 hx w
    exact After.same hR (by simp [builtin, g1]) g2
  · rename_i t x y ht
    obtain ⟨vx, r, hx, hr, rfl⟩ := renL_cons.1 hv
    obtain ⟨vy, r', hy, hr', rfl⟩ := renL_cons.1 hr
    simp [renL] at hr'; subst hr'
    have h1 := pO_val h
    obtain ⟨v, w', μ', g1, g2, g3, g4⟩ := appendS_run (rt := rt) hR ht h1 hx hy
    exact After.val rfl (by simp [builtin, g1]) g2 g3 g4
  · rename_i t x y ht
    obtain ⟨vx, r, hx, hr, rfl⟩ := renL_cons.1 hv
    obtain ⟨vy, r', hy, hr', rfl⟩ := renL_cons.1 hr
    simp [renL] at hr'; subst hr'
    have h1 := pO_val h
    obtain ⟨v, w', g1, g2, g3, g4⟩ := copyS_run (rt := rt) hR ht h1 hx hy
    exact After.val rfl (by simp [builtin, g1]) g2 g3 g4
  · rename_i t x ht
    obtain ⟨vx, r, hx, hr, rfl⟩ := renL_cons.1 hv
    simp [renL] at hr; subst hr
    obtain ⟨h1, rfl⟩ := hO_val h
    obtain ⟨w', g1, g2, g3⟩ := clearS_run (rt := rt) hR ht h1 hx
    exact After.val (v := .tuple #[]) rfl (by simp [builtin, g1]) rfl g2 g3
  · rename_i x r
    obtain ⟨vx, r', hx, hr, rfl⟩ := renL_cons.1 hv
    obtain ⟨h1, rfl⟩ := vO_val h
    obtain ⟨v, g1, g2⟩ := minL_run (P := P) h1 hx hr w
    exact After.same hR (by simp [builtin, Builtin.min_, g1]) g2
  · rename_i x r
    obtain ⟨vx, r', hx, hr, rfl⟩ := renL_cons.1 hv
    obtain ⟨h1, rfl⟩ := vO_val h
    obtain ⟨v, g1, g2⟩ := maxL_run (P := P) h1 hx hr w
    exact After.same hR (by simp [builtin, Builtin.max_, g1]) g2
  · cases h

theorem builtinS_call {b : Builtin} {ts : Array TypeId} {args l : List SV} {f : FuncId} (h : builtinS P H b ts args = some (.call f l)) : False := by
  unfold builtinS at h
  split at h <;> first | exact vO_call h | exact pO_call h | exact hO_call h | cases h

theorem opS_val (hR : Rel P B μ H w) (hE : ∀ x s, ev E x = some s → ren μ s = some (ρ x)) {o : Oper} {s : SV} {H' : Hp} (h : opS P E H o.op = some (.val s H')) : After P B μ H w (quietOp o.op) ((execOp ρ o).run P w) s H' := by
  unfold execOp
  unfold opS at h
  split at h
  · rename_i x hop
    rw [hop]
    obtain ⟨v, h1, h2⟩ := ev1_some h
    cases h2
    exact After.same hR (by simp) (hE _ _ h1)
  · rename_i x hop
    rw [hop]
    obtain ⟨v, h1, h2⟩ := ev1_some h
    cases h2
    exact After.same hR (by simp) (hE _ _ h1)
  · rename_i c x y hop
    rw [hop]
    obtain ⟨v, u, t, h1, h2, h3, h4⟩ := ev3_some h
    split at h4
    · rename_i b
      have e := hE _ _ h1
      simp only [ren, Option.some.injEq] at e
      cases h4
      cases b with
      | true => exact After.same hR (by simp [← e, asBool]) (hE _ _ h2)
      | false => exact After.same hR (by simp [← e, asBool]) (hE _ _ h3)
    · cases h4
  · rename_i t hop
    rw [hop]
    split at h
    · rename_i z hz
      cases h
      obtain ⟨zv, h1, h2⟩ := run_zero hz w
      obtain ⟨μ', hm, g1, g2⟩ := newRow_run hR t ⟨_, ren_cells (h2 μ), renL_length (ren_cells (h2 μ))⟩ zv.cells.toList (fun x hx => ⟨[], by rw [ren_cells (h2 μ)] at hx; cases hx; simp⟩) false 0 (by simp)
      refine After.val (v := .pointer (some ⟨w.heap.size, 0, none⟩)) rfl (by simp [Instr.alloc, h1, newVar, newRow]) ?_ g1 g2
      subst hm
      simp [ren, Mu.add_self]
    · cases h
  · rename_i t x hop
    rw [hop]
    obtain ⟨v, h1, h2⟩ := ev1_some h
    cases h2
    have hc := ren_cells (hE _ _ h1)
    obtain ⟨μ', hm, g1, g2⟩ := newRow_run hR t ⟨_, hc, renL_length hc⟩ (ρ x).cells.toList (fun y hy => ⟨[], by rw [hc] at hy; cases hy; simp⟩) false 0 (by simp)
    refine After.val (v := .pointer (some ⟨w.heap.size, 0, none⟩)) rfl (by simp [Instr.box, newVar, newRow]) ?_ g1 g2
    subst hm
    simp [ren, Mu.add_self]
  · rename_i t parts hop
    rw [hop]
    split at h
    · rename_i ps hps
      obtain ⟨h1, rfl⟩ := vO_val h
      obtain ⟨v, g1, g2⟩ := buildS_run h1 (evP_ren hE hps) w
      refine After.same hR ?_ g2
      have e : (parts.map fun (i, x) => (i, ρ x)) = (parts.toList.map fun (i, x) => (i, ρ x)).toArray := by apply Array.ext'; simp
      simp only [e]
      simp [g1]
    · cases h
  · rename_i t len parts hop
    rw [hop]
    split at h
    · rename_i ps hps
      have h1 := pO_val h
      obtain ⟨v, w', μ', g1, g2, g3, g4⟩ := buildSliceS_run hR h1 (evP_ren hE hps)
      refine After.val rfl ?_ g2 g3 g4
      have e : (parts.map fun (i, x) => (i, ρ x)) = (parts.toList.map fun (i, x) => (i, ρ x)).toArray := by apply Array.ext'; simp
      simp only [e]
      simp [g1]
    · cases h
  · rename_i t a hop
    rw [hop]
    obtain ⟨v, h1, h2⟩ := ev1_some h
    obtain ⟨h3, rfl⟩ := vO_val h2
    obtain ⟨v', g1, g2⟩ := loadS_run hR h3 (hE _ _ h1)
    exact After.same hR (by simp [g1]) g2
  · rename_i t a x hop
    rw [hop]
    obtain ⟨v, u, h1, h2, h3⟩ := ev2_some h
    obtain ⟨h4, rfl⟩ := hO_val h3
    obtain ⟨w', g1, g2, g3⟩ := storeS_run hR h4 (hE _ _ h1) (hE _ _ h2)
    exact After.skip rfl (by simp [g1]) g2 g3
  · rename_i x hop
    rw [hop]
    obtain ⟨v, h1, h2⟩ := ev1_some h
    have e := hE _ _ h1
    split at h2
    · cases h2
    · cases h2
    · cases h2
    · rename_i f a b
      cases h2
      obtain ⟨y, z, _, _, hv⟩ := func_ren e
      refine After.same hR ?_ e
      simp [hv]
    · cases h2
    · rename_i hn1 hn2 hn3 _ hn4
      cases h2
      refine After.same hR ?_ e
      have hk : ∀ (u : Value), ρ x = u → (match u with | .pointer none | .nilIface | .nilFunc | .func _ _ _ => False | _ => True) → (match ρ x with
          | .pointer none | .nilIface | .nilFunc => runtimePanic .nilDeref
          | .func (.method name) first captured =>
            match (first[0]? : Option Value) with
            | some .nilIface => runtimePanic .nilDeref
            | some (.iface t w) => do
              if (← nilAhead ((← program).types.size + Made.depth) t w name) != some false then
                unsupported (.noEntry "op/nilCheck.the method's receiver behind this interface value is a nil pointer, or cannot be seen to be none, and the arguments act or may panic (ledger 612)")
              pure (.value (.func (.method name) first captured))
            | _ => pure (.value (.func (.method name) first captured))
          | x => pure (.value x) : Sem Next).run P w = .ok (.value u) w := by
        intro u hu hm
        rw [hu]
        cases u <;> first | rfl | (simp at hm; done) | skip
        rename_i a
        cases a with
        | none => simp at hm
        | some a => rfl
      refine hk _ rfl ?_
      cases s with
      | nilp => exact absurd rfl hn1
      | nili => exact absurd rfl hn2
      | nilf => exact absurd rfl hn3
      | func f a b => exact absurd rfl (hn4 f a b)
      | slice p o l c => obtain ⟨_, _, _, hv, _⟩ := slice_ren e; rw [hv]; trivial
      | etail p o l c k => obtain ⟨_, _, hv⟩ := etail_ren e; rw [hv]; trivial
      | _ => simp only [ren] at e; first | (simp only [Option.some.injEq] at e; rw [← e]; trivial) | (split at e <;> simp only [Option.some.injEq, reduceCtorEq] at e; rw [← e]; trivial)
  · rename_i op t x y yt hop
    rw [hop]
    obtain ⟨v, u, h1, h2, h3⟩ := ev2_some h
    obtain ⟨h4, rfl⟩ := vO_val h3
    obtain ⟨v', g1, g2⟩ := binS_run (ox := x) (oy := y) h4 (hE _ _ h1) (hE _ _ h2) w
    refine After.same hR ?_ g2
    simp only [Sem.run_bind] at g1 ⊢
    rw [g1]
    rfl
  · rename_i op t x hop
    rw [hop]
    obtain ⟨v, h1, h2⟩ := ev1_some h
    obtain ⟨h3, rfl⟩ := vO_val h2
    obtain ⟨v', g1, g2⟩ := unS_run (P := P) h3 (hE _ _ h1) w
    exact After.same hR (by simp [g1]) g2
  · rename_i a b x hop
    rw [hop]
    obtain ⟨v, h1, h2⟩ := ev1_some h
    obtain ⟨h3, rfl⟩ := vO_val h2
    obtain ⟨v', g1, g2⟩ := convS_run h3 (hE _ _ h1) w
    exact After.same hR (by simp [g1]) g2
  · rename_i t x hop
    rw [hop]
    obtain ⟨v, h1, h2⟩ := ev1_some h
    split at h2
    · cases h2
    · rename_i d hn hu
      cases h2
      refine After.same hR (v := .iface t (ρ x)) ?_ (by simp [ren, hE _ _ h1])
      simp only [Sem.run_bind, Instr.makeInterface, run_underlying hu, Result.andThen_ok]
      cases d <;> first | rfl | (exact absurd rfl (hn _))
    · cases h2
  · rename_i fn first captured hop
    rw [hop]
    split at h
    · rename_i a b ha hb
      cases h
      refine After.same hR (v := .func fn (first.map ρ) (captured.map ρ)) (by simp [Instr.makeFunc]) ?_
      simp only [ren, evL_ren hE ha, evL_ren hE hb, args_arr]
    · cases h
  · rename_i t hop
    rw [hop]
    cases h
    obtain ⟨g1, g2⟩ := hR.new (.map [] 0) (.map #[] 0) 0 ⟨[], rfl, rfl⟩
    refine After.val (v := .map (some w.heap.size)) rfl (by simp [Instr.makeMap]) ?_ g1 g2
    simp [ren, Mu.add_self]
  · rename_i t x hop
    rw [hop]
    obtain ⟨v, h1, h2⟩ := ev1_some h
    split at h2
    · rename_i a b n hu hn
      cases h2
      obtain ⟨k, hv⟩ := natOf_ren hn (hE _ _ h1)
      obtain ⟨g1, g2⟩ := hR.new (.map [] 0) (.map #[] 0) 0 ⟨[], rfl, rfl⟩
      refine After.val (v := .map (some w.heap.size)) rfl (by simp [Instr.makeMap, run_underlying hu, hv, asInt, asIntOf]) ?_ g1 g2
      simp [ren, Mu.add_self]
    · cases h2
  · rename_i t l c hop
    rw [hop]
    obtain ⟨v, u, h1, h2, h3⟩ := ev2_some h
    have h4 := pO_val h3
    obtain ⟨v', w', μ', g1, g2, g3, g4⟩ := makeSliceS_run hR h4 (hE _ _ h1) (hE _ _ h2)
    exact After.val rfl (by simp [g1]) g2 g3 g4
  · rename_i t x lo hi mx hop
    rw [hop]
    split at h
    · rename_i lo' hi' mx' h1 h2 h3
      obtain ⟨v, h4, h5⟩ := ev1_some h
      obtain ⟨h6, rfl⟩ := vO_val h5
      obtain ⟨v', g1, g2⟩ := sliceS_run h6 (hE _ _ h4) (evO_ren hE h1) (evO_ren hE h2) (evO_ren hE h3) w
      exact After.same hR (by simp [g1]) g2
    · cases h
  · rename_i t x f hop
    rw [hop]
    obtain ⟨v, h1, h2⟩ := ev1_some h
    obtain ⟨h3, rfl⟩ := vO_val h2
    obtain ⟨v', g1, g2⟩ := fieldAddrS_run h3 (hE _ _ h1) w
    exact After.same hR (by simp [g1]) g2
  · rename_i t x f hop
    rw [hop]
    obtain ⟨v, h1, h2⟩ := ev1_some h
    obtain ⟨h3, rfl⟩ := vO_val h2
    obtain ⟨v', g1, g2⟩ := fieldS_run h3 (hE _ _ h1) w
    exact After.same hR (by simp [g1]) g2
  · rename_i t x i hop
    rw [hop]
    obtain ⟨v, u, h1, h2, h3⟩ := ev2_some h
    obtain ⟨h4, rfl⟩ := vO_val h3
    obtain ⟨v', g1, g2⟩ := indexAddrS_run h4 (hE _ _ h1) (hE _ _ h2) w
    exact After.same hR (by simp [g1]) g2
  · rename_i t x i hop
    rw [hop]
    obtain ⟨v, u, h1, h2, h3⟩ := ev2_some h
    obtain ⟨h4, rfl⟩ := vO_val h3
    obtain ⟨v', g1, g2⟩ := indexS_run h4 (hE _ _ h1) (hE _ _ h2) w
    exact After.same hR (by simp [g1]) g2
  · rename_i t x k ok hop
    rw [hop]
    obtain ⟨v, u, h1, h2, h3⟩ := ev2_some h
    obtain ⟨h4, rfl⟩ := vO_val h3
    obtain ⟨v', g1, g2⟩ := lookupS_run hR h4 (hE _ _ h1) (hE _ _ h2)
    exact After.same hR (by simp [g1]) g2
  · rename_i t m k x hop
    rw [hop]
    obtain ⟨v, u, z, h1, h2, h3, h4⟩ := ev3_some h
    obtain ⟨h5, rfl⟩ := hO_val h4
    obtain ⟨w', g1, g2, g3⟩ := mapUpdS_run hR h5 (hE _ _ h1) (hE _ _ h2) (hE _ _ h3)
    exact After.skip rfl (by simp [g1]) g2 g3
  · rename_i t m k x hop
    rw [hop]
    obtain ⟨v, u, z, h1, h2, h3, h4⟩ := ev3_some h
    obtain ⟨h5, rfl⟩ := hO_val h4
    obtain ⟨w', g1, g2, g3⟩ := mapUpdS_run hR h5 (hE _ _ h1) (hE _ _ h2) (hE _ _ h3)
    exact After.skip rfl (by simp [g1]) g2 g3
  · rename_i x xt t ok hop
    rw [hop]
    obtain ⟨v, h1, h2⟩ := ev1_some h
    obtain ⟨h3, rfl⟩ := vO_val h2
    obtain ⟨v', g1, g2⟩ := assertS_run (xt := xt) h3 (hE _ _ h1) w
    exact After.same hR (by simp [g1]) g2
  · rename_i x i hop
    rw [hop]
    obtain ⟨v, h1, h2⟩ := ev1_some h
    split at h2
    · rename_i l
      obtain ⟨h3, rfl⟩ := vO_val h2
      have e := hE _ _ h1
      simp only [ren] at e
      split at e
      · rename_i vs hvs
        simp only [Option.some.injEq] at e
        rw [nth_eq] at h3
        obtain ⟨u, g1, g2⟩ := renL_get hvs _ _ h3
        exact After.same hR (by simp [← e, Instr.extract, g1]) g2
      · cases e
    · cases h2
  · rename_i c hop
    rw [hop]
    unfold callOpS at h
    split at h
    · cases h
    · rename_i args hargs
      split at h
      · rename_i b hb
        have := builtinS_after (rt := o.type) (consts := c.args.map fun | .const _ => true | _ => false) hR (evL_ren hE hargs) h
        have e : (do let d ← resolve ρ c o.type; invoke d.target d.args : Sem Next).run P w = (builtin b c.argTypes o.type (c.args.map fun | .const _ => true | _ => false) (c.args.toList.map ρ).toArray).run P w := by
          simp only [Sem.run_bind, resolve, hb, Sem.run_pure, Result.andThen_ok, invoke, args_arr]
          rfl
        have eq : quietOp (.call c) = quietB b := by simp only [quietOp, hb]
        simp only [e, eq]
        exact this
      · split at h
        · unfold callS at h; split at h <;> cases h
        · cases h
      · split at h
        · split at h
          · unfold callS at h; split at h <;> cases h
          · cases h
        · cases h
  · cases h

/-- a call that is entered -/
theorem callFunc_run {f : FuncId} (h : enters P f = true) (args : Array Value) (w : World) : (callFunc f args).run P w = .ok (.enter f args) w := by
  unfold enters at h
  split at h
  · rename_i fn hf
    simp only [Bool.and_eq_true, Bool.not_eq_true'] at h
    obtain ⟨h1, h2⟩ := h
    have h3 : fn.body.isNone = false := by cases hb : fn.body <;> simp [hb] at h2 ⊢
    simp only [callFunc, Sem.run_bind, run_program, Result.andThen_ok, hf, h1, h3, Bool.false_eq_true, if_false, Sem.run_pure]
  · cases h

theorem callS_some {f g : FuncId} {args l : List SV} (h : callS P f args = some (.call g l)) : enters P f = true ∧ g = f ∧ l = args := by
  unfold callS at h
  split at h
  · rename_i he; cases h; exact ⟨he, rfl, rfl⟩
  · cases h

theorem methodS_run {t : TypeId} {v : Value} {name : String} {f : FuncId} (h : methodS P t name = some f) (w : World) : (method (P.types.size + Made.depth) t v name).run P w = .ok (f, v) w := by
  unfold methodS at h
  split at h
  · rename_i i hi
    split at h
    · rename_i m hm
      split at h
      · rename_i hp
        have hp' : m.path.toList = [] := by simpa using hp
        have hd : P.types.size + Made.depth = (P.types.size + 99) + 1 := rfl
        rw [hd]
        unfold method
        simp only [Sem.run_bind, run_info hi, Result.andThen_ok, hm, hp', follow, Sem.run_pure]
        split at h
        · rename_i g e hf hu
          cases h
          simp [hf, receiverAt, run_underlying hu, Place.get]
        · cases h
        · rename_i g d hn hf hu
          cases h
          simp only [hf, Sem.run_bind, receiverAt, run_underlying hu, Result.andThen_ok]
          cases d <;> first | (simp [Place.get]; done) | (exact absurd rfl (hn _))
        · cases h
      · cases h
    · cases h
  · cases h

theorem opS_call (hE : ∀ x s, ev E x = some s → ren μ s = some (ρ x)) {o : Oper} {f : FuncId} {l : List SV} (h : opS P E H o.op = some (.call f l)) (w : World) :
    ∃ vs, renL μ l = some vs ∧ (execOp ρ o).run P w = .ok (.enter f vs.toArray) w := by
  unfold execOp
  unfold opS at h
  split at h
  case h_29 c hop =>
    rw [hop]
    unfold callOpS at h
    split at h
    · cases h
    · rename_i args hargs
      have ha := evL_ren hE hargs
      split at h
      · exact (builtinS_call h).elim
      · rename_i g hg
        split at h
        · rename_i g' first captured hev
          obtain ⟨he, rfl, rfl⟩ := callS_some h
          obtain ⟨x, y, hx, hy, hv⟩ := func_ren (hE _ _ hev)
          refine ⟨_, renL_append (renL_append hx ha) hy, ?_⟩
          simp only [Sem.run_bind, resolve, hg, hv, Deferred.ofValue, Sem.run_pure, Result.andThen_ok, invoke, args_arr]
          rw [callFunc_run he]
          simp
        · cases h
      · rename_i recv name hg
        split at h
        · rename_i t v hev
          split at h
          · rename_i g hm
            obtain ⟨he, rfl, rfl⟩ := callS_some h
            obtain ⟨u, hu, hv⟩ := iface_ren (hE _ _ hev)
            refine ⟨_, renL_cons.2 ⟨u, _, hu, ha, rfl⟩, ?_⟩
            simp only [Sem.run_bind, resolve, hg, hv, Sem.run_pure, Result.andThen_ok, invoke, args_arr]
            have e0 : (#[Value.iface t u] ++ (c.args.toList.map ρ).toArray)[0]? = some (.iface t u) := by simp
            simp only [e0, callMethod, Sem.run_bind, run_program, Result.andThen_ok, methodS_run hm]
            rw [callFunc_run he]
            simp
            exact List.take_of_length_le (by simp)
          · cases h
        · cases h
  all_goals first
    | (cases h; done)
    | (obtain ⟨v, h1, h2⟩ := ev1_some h
       first
         | (cases h2; done)
         | exact (vO_call h2).elim
         | (split at h2 <;> first | (cases h2; done) | exact (vO_call h2).elim))
    | (obtain ⟨v, u, h1, h2, h3⟩ := ev2_some h
       first | exact (vO_call h3).elim | exact (hO_call h3).elim | exact (pO_call h3).elim)
    | (obtain ⟨v, u, t, h1, h2, h3, h4⟩ := ev3_some h
       first | exact (hO_call h4).elim | (split at h4 <;> cases h4))
    | (split at h <;> first
         | (cases h; done)
         | exact (vO_call h).elim
         | exact (pO_call h).elim
         | (obtain ⟨v, h1, h2⟩ := ev1_some h
            exact (vO_call h2).elim))

end
end Go.Ex
