/- A call without arguments that answers true, put in the place of its run; runs of a law that end in it. -/
import Derived.Test.YthimonfebncooaaGreatDoorExTab
import Derived.Below
namespace Go.Ex
variable {P : Program} {B : Nat}

noncomputable def nilArgs (l : List SV) : Bool := @List.rec SV (fun _ => Bool) true (fun _ _ _ => false) l
noncomputable def cloK (h : FuncId) (call : CallF) (f : FuncId) (args : List SV) (H : Hp) : Option (SV × Hp) :=
  @Bool.rec (fun _ => Option (SV × Hp)) (call f args H) (some (.bool true, H)) (andK (Nat.beq h f) (nilArgs args))
noncomputable def fnC (P : Program) (h : FuncId) (n : Nat) : CallF :=
  @Nat.rec (fun _ => CallF) (fun _ _ _ => none) (fun _ call => cloK h (goK P call)) n

def mu0 (v : Nat → Int) : Mu := { b := fun _ => none, v := v }
theorem rel0 (P : Program) (v : Nat → Int) (w : World) (n : Nat) : Rel P w.heap.size (mu0 v) { m := .e, next := n } w :=
  ⟨Nat.le_refl _, (fun p x h => by cases h), (fun p o x _ h => by cases h), (fun p q o o' x y _ _ _ _ h => by cases h), (fun _ _ => rfl), (fun p x h => by cases h)⟩

/-- such a call answers true -/
def HeadsOK (P : Program) (h : FuncId) : Prop := ∀ w, Calls P h #[] w fun e w' => e = .returned (.bool true) ∧ ∃ μ' : Mu, Step (mu0 fun _ => 0) w μ' w'

theorem heads_of_ent {e : Ent} (h : EntOK P e) (ha : e.args = []) (hI : e.a = { l := [], next := 0 }) (hv : e.v = .bool true) : HeadsOK P e.f := by
  intro w
  have := h w.heap.size (mu0 fun _ => 0) w [] (by rw [hI]; exact rel0 P _ w 0) (by rw [ha]; rfl)
  refine this.mono fun x w' hx => ?_
  obtain ⟨μ', v, k1, k2, k3, k4⟩ := hx
  rw [hv] at k2
  simp only [ren] at k2
  cases k2
  exact ⟨k1, μ', k4⟩

theorem cloK_ok {h : FuncId} (hh : HeadsOK P h) {call : CallF} (hc : CallOK P B call) : CallOK P B (cloK h call) := fun f args H s H' hr μ w vs hR hv => by
  unfold cloK at hr
  cases hb : andK (Nat.beq h f) (nilArgs args) with
  | false => rw [hb] at hr; exact hc f args H s H' hr μ w vs hR hv
  | true =>
    rw [hb] at hr
    rw [andK_true] at hb
    have h1 := Nat.eq_of_beq_eq_true hb.1
    subst h1
    have h2 : args = [] := by
      cases args with
      | nil => rfl
      | cons a l => exact absurd hb.2 (by intro e; cases e)
    subst h2
    have h3 : some (SV.bool true, H) = some (s, H') := hr
    cases h3
    simp only [renL] at hv
    cases hv
    refine (hh w).mono fun x w' hx => ?_
    obtain ⟨k1, μ', st⟩ := hx
    have blk : ∀ k, k < w.heap.size → w'.heap[k]? = w.heap[k]? := fun k hk => st.block k hk (fun p x h => by cases h)
    exact ⟨μ, .bool true, k1, rfl, hR.other st.size (fun p x hx => blk _ (hR.rng p x hx)),
      Ext.refl _, fun p x h => .inl ⟨p, x, h, rfl⟩, st.os, st.tape, st.output, st.size, fun k hk _ => blk k hk⟩

theorem fnC_sound (hm : P.follows .mixedOrders = true) (hok : fnsOk P.funcs.toList = true) {h : FuncId} (hh : HeadsOK P h) : ∀ n, CallOK P B (fnC P h n)
  | 0 => fun f args H s H' h => by cases h
  | n + 1 => by
    change CallOK P B (cloK h (goK P (fnC P h n)))
    rw [goK_eq]
    exact cloK_ok hh (go_sound hm hok (fnC_sound hm hok hh n))

/-- of what was there nothing turns -/
theorem step_below {v : Nat → Int} {μ' : Mu} {w w' : World} (h : Step (mu0 v) w μ' w') : RowKit.Below w.heap.size w w' :=
  ⟨h.os, h.tape, h.output, h.size, fun k hk => h.block k hk (fun p x hx => by cases hx)⟩

/-- the run of a function comes to true -/
noncomputable def exRun (P : Program) (h : FuncId) (n : Nat) (f : FuncId) (args : List SV) : Bool :=
  @Option.rec (SV × Hp) (fun _ => Bool) false (fun r => @Option.rec Bool (fun _ => Bool) false (fun b => b) (asBool r.1)) (goK P (fnC P h n) f args { m := .e, next := 0 })
theorem exRun_ok (hm : P.follows .mixedOrders = true) (hok : fnsOk P.funcs.toList = true) {h : FuncId} (hh : HeadsOK P h) {n : Nat} {f : FuncId} {args : List SV} (hr : exRun P h n f args = true)
    {v : Nat → Int} {vs : List Value} (hv : renL (mu0 v) args = some vs) (w : World) :
    Calls P f vs.toArray w fun e w' => e = .returned (.bool true) ∧ ∃ μ' : Mu, Step (mu0 v) w μ' w' := by
  unfold exRun at hr
  rw [goK_eq] at hr
  cases hg : goS P (fnC P h n) f args { m := .e, next := 0 } with
  | none => rw [hg] at hr; cases hr
  | some r =>
    obtain ⟨s, H1⟩ := r
    rw [hg] at hr
    have hs : s = .bool true := by
      have : @Option.rec Bool (fun _ => Bool) false (fun b => b) (asBool s) = true := hr
      cases s with
      | bool b =>
        have h2 : b = true := this
        rw [h2]
      | _ => cases this
    subst hs
    refine (go_sound (B := w.heap.size) hm hok (fnC_sound hm hok hh n) f args _ _ H1 hg (mu0 v) w vs (rel0 P v w 0) hv).mono fun x w' hx => ?_
    obtain ⟨μ', u, k1, k2, _, k4⟩ := hx
    simp only [ren] at k2
    cases k2
    exact ⟨k1, μ', k4⟩

noncomputable def exAll (P : Program) (h : FuncId) (n : Nat) (f : FuncId) (l : List (List SV)) : Bool :=
  @List.rec (List SV) (fun _ => Bool) true (fun a _ ih => andK (exRun P h n f a) ih) l
theorem exAll_mem {h : FuncId} {n : Nat} {f : FuncId} : ∀ {l : List (List SV)}, exAll P h n f l = true → ∀ a ∈ l, exRun P h n f a = true
  | [], _, a, ha => by cases ha
  | b :: l, hl, a, ha => by
    have hl := andK_true.1 (show andK (exRun P h n f b) (exAll P h n f l) = true from hl)
    cases ha with
    | head => exact hl.1
    | tail _ ha => exact exAll_mem hl.2 a ha
end Go.Ex
