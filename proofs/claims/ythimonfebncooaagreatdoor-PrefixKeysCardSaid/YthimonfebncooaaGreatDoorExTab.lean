/- Runs in parts: what a call comes to may be taken from a table of calls that are shown by themselves. -/
import Derived.Test.YthimonfebncooaaGreatDoorExCode
import Derived.Test.YthimonfebncooaaGreatDoorExFastB
namespace Go.Ex
variable {P : Program} {B : Nat}

/-- a block, written out -/
inductive Ob where
  | row (l : List SV) (n : Nat) (elem : TypeId) (op : Bool)
  | map (es : List ME) (clock : Nat)

def Ob.so : Ob → SO
  | .row l n e op => .row (stFrom l 0 .e) n e op
  | .map es c => .map es c

def mkM : List (Nat × Ob) → Tr SO
  | [] => .e
  | (p, o) :: l => (mkM l).set o.so (pa p)

structure Img where
  l : List (Nat × Ob)
  next : Nat

def Img.hp (I : Img) : Hp := { m := mkM I.l, next := I.next }

noncomputable def mkMK (l : List (Nat × Ob)) : Tr SO :=
  @List.rec (Nat × Ob) (fun _ => Tr SO) .e (fun r _ ih => setK (@Ob.rec (fun _ => SO) (fun l n e op => .row (stFromK l 0 .e) n e op) (fun es c => .map es c) r.2) (pa r.1) ih) l
theorem mkMK_eq : ∀ l, mkMK l = mkM l
  | [] => rfl
  | (p, o) :: l => by
    change setK (@Ob.rec (fun _ => SO) (fun l n e op => .row (stFromK l 0 .e) n e op) (fun es c => .map es c) o) (pa p) (mkMK l) = _
    rw [setK_eq, mkMK_eq l, mkM]
    congr 1
    cases o with
    | row l n e op => simp only [Ob.so, stFromK_eq]
    | map => rfl

/-- do these cells stand there? -/
noncomputable def cellsFit (l : List SV) (off : Nat) (c : Tr SV) : Bool :=
  @List.rec SV (fun _ => Nat → Bool) (fun _ => true) (fun v _ ih off => @Option.rec SV (fun _ => Bool) false (fun s => andK (svEqK s v) (ih (Nat.add off 1))) (getK (pa off) c)) l off
theorem cellsFit_get : ∀ {l : List SV} {off : Nat} {c : Tr SV}, cellsFit l off c = true → ∀ i s, l[i]? = some s → c.get (pa (off + i)) = some s
  | [], _, _, _, i, s, h => by simp at h
  | v :: l, off, c, h, i, s, hi => by
    have h : @Option.rec SV (fun _ => Bool) false (fun s => andK (svEqK s v) (cellsFit l (off + 1) c)) (getK (pa off) c) = true := h
    rw [getK_eq] at h
    cases hg : Tr.get (pa off) c with
    | none => rw [hg] at h; cases h
    | some x =>
      rw [hg] at h
      have h : andK (svEqK x v) (cellsFit l (off + 1) c) = true := h
      have h1 : svEqK x v = true ∧ cellsFit l (off + 1) c = true := by
        unfold andK at h
        cases h1 : svEqK x v
        · rw [h1] at h; cases h
        · rw [h1] at h; exact ⟨rfl, h⟩
      cases i with
      | zero =>
        simp at hi; subst hi
        rw [svEqK_eq] at h1
        rw [Nat.add_zero, hg, svEq_eq h1.1]
      | succ i =>
        simp at hi
        have := cellsFit_get h1.2 i s hi
        rwa [show off + (i + 1) = off + 1 + i by omega]

noncomputable def meFit (a b : List ME) : Bool :=
  @List.rec ME (fun _ => List ME → Bool) (fun b => @List.rec ME (fun _ => Bool) true (fun _ _ _ => false) b)
    (fun x _ ih b => @List.rec ME (fun _ => Bool) false (fun y t _ => andK (svEqK x.k y.k) (andK (svEqK x.v y.v) (andK (Nat.beq x.born y.born) (ih t)))) b) a b
theorem andK_true {a b : Bool} : andK a b = true ↔ a = true ∧ b = true := by cases a <;> cases b <;> simp [andK]
theorem meFit_eq : ∀ {a b : List ME}, meFit a b = true → a = b
  | [], [], _ => rfl
  | [], _ :: _, h => by cases h
  | _ :: _, [], h => by cases h
  | x :: a, y :: b, h => by
    have h : andK (svEqK x.k y.k) (andK (svEqK x.v y.v) (andK (Nat.beq x.born y.born) (meFit a b))) = true := h
    rw [andK_true, andK_true, andK_true, svEqK_eq, svEqK_eq] at h
    obtain ⟨h1, h2, h3, h4⟩ := h
    rw [meFit_eq h4]
    obtain ⟨k, v, t⟩ := x
    obtain ⟨k', v', t'⟩ := y
    simp only at h1 h2 h3
    rw [svEq_eq h1, svEq_eq h2, Nat.eq_of_beq_eq_true h3]

noncomputable def obFit (o : Ob) (s : SO) : Bool :=
  @Ob.rec (fun _ => SO → Bool)
    (fun l n e op s => @SO.rec (fun _ => Bool) (fun c n' e' op' => andK (Nat.beq n n') (andK (Nat.beq e e') (andK (eqB op op') (cellsFit l 0 c)))) (fun _ _ => false) false s)
    (fun es c s => @SO.rec (fun _ => Bool) (fun _ _ _ _ => false) (fun es' c' => andK (Nat.beq c c') (meFit es es')) false s) o s
theorem eqB_eq {a b : Bool} (h : eqB a b = true) : a = b := by cases a <;> cases b <;> first | rfl | cases h
theorem obFit_rel {μ : Mu} {κ : Nat} {o : Ob} {s : SO} {ob : Option Obj} (h : obFit o s = true) (hr : ORel P μ κ s ob) : ORel P μ κ o.so ob := by
  cases o with
  | row l n e op => cases s with
    | row c n' e' op' =>
      have h : andK (Nat.beq n n') (andK (Nat.beq e e') (andK (eqB op op') (cellsFit l 0 c))) = true := h
      rw [andK_true, andK_true, andK_true] at h
      obtain ⟨h1, h2, h3, h4⟩ := h
      have h1 := Nat.eq_of_beq_eq_true h1
      have h2 := Nat.eq_of_beq_eq_true h2
      have h3 := eqB_eq h3
      subst h1 h2 h3
      obtain ⟨arr, e, r⟩ := hr
      refine ⟨arr, e, fun i s hs => ?_, r.size, r.room⟩
      rw [stFrom_get] at hs
      split at hs
      · have := cellsFit_get h4 i s (by simpa using hs)
        rw [Nat.zero_add] at this
        exact r.cell i s this
      · rw [Tr.get_e] at hs; cases hs
    | map => cases h
    | dead => cases h
  | map es c => cases s with
    | row => cases h
    | map es' c' =>
      have h : andK (Nat.beq c c') (meFit es es') = true := h
      rw [andK_true] at h
      have h1 := Nat.eq_of_beq_eq_true h.1
      have h2 := meFit_eq h.2
      subst h1 h2
      exact hr
    | dead => cases h
theorem obFit_live {o : Ob} {s : SO} (h : obFit o s = true) : s.live = true := by
  cases o <;> cases s <;> first | rfl | cases h

noncomputable def lFit (l : List (Nat × Ob)) (m : Tr SO) : Bool :=
  @List.rec (Nat × Ob) (fun _ => Bool) true (fun r _ ih => @Option.rec SO (fun _ => Bool) false (fun s => andK (obFit r.2 s) ih) (getK (pa r.1) m)) l
theorem lFit_get : ∀ {l : List (Nat × Ob)} {m : Tr SO}, lFit l m = true → ∀ p o, (mkM l).get (pa p) = some o → ∃ b s, o = Ob.so b ∧ m.get (pa p) = some s ∧ obFit b s = true
  | [], _, _, p, o, h => by rw [mkM, Tr.get_e] at h; cases h
  | (q, b) :: l, m, h, p, o, hp => by
    have h : @Option.rec SO (fun _ => Bool) false (fun s => andK (obFit b s) (lFit l m)) (getK (pa q) m) = true := h
    rw [getK_eq] at h
    cases hg : Tr.get (pa q) m with
    | none => rw [hg] at h; cases h
    | some s =>
      rw [hg] at h
      have h := andK_true.1 h
      rw [mkM, Tr.get_set] at hp
      split at hp
      · rename_i e; subst e
        cases hp
        exact ⟨b, s, rfl, hg, h.1⟩
      · exact lFit_get h.2 p o hp

noncomputable def imgFit (I : Img) (H : Hp) : Bool := andK (Nat.ble H.next I.next) (lFit I.l H.m)
theorem imgFit_rel {μ : Mu} {I : Img} {H : Hp} {w : World} (h : imgFit I H = true) (hr : Rel P B μ H w) : Rel P B μ I.hp w := by
  have h := andK_true.1 h
  have hn := Nat.le_of_ble_eq_true h.1
  refine ⟨hr.base, hr.low, fun p o x ho hx => ?_, fun p q o o' x y h1 h2 l1 l2 m1 m2 e => ?_, fun p hp => hr.fresh p (Nat.le_trans hn hp), hr.rng⟩
  · obtain ⟨b, s, rfl, k2, k3⟩ := lFit_get h.2 p o ho
    exact obFit_rel k3 (hr.obj p s x k2 hx)
  · obtain ⟨b, s, rfl, k2, k3⟩ := lFit_get h.2 p o h1
    obtain ⟨b', s', rfl, k2', k3'⟩ := lFit_get h.2 q o' h2
    exact hr.inj p q s s' x y k2 k2' (obFit_live k3) (obFit_live k3') m1 m2 e

/-! the table -/
structure Ent where
  f : FuncId
  args : List SV
  a : Img
  v : SV
  b : Img

def EntOK (P : Program) (e : Ent) : Prop :=
  ∀ B (μ : Mu) w vs, Rel P B μ e.a.hp w → renL μ e.args = some vs →
    Calls P e.f vs.toArray w fun x w' => ∃ μ' v, x = .returned v ∧ ren μ' e.v = some v ∧ Rel P B μ' e.b.hp w' ∧ Step μ w μ' w'

noncomputable def svAll (a b : List SV) : Bool :=
  @List.rec SV (fun _ => List SV → Bool) (fun b => @List.rec SV (fun _ => Bool) true (fun _ _ _ => false) b)
    (fun x _ ih b => @List.rec SV (fun _ => Bool) false (fun y t _ => andK (svEqK x y) (ih t)) b) a b
theorem svAll_eq : ∀ {a b : List SV}, svAll a b = true → a = b
  | [], [], _ => rfl
  | [], _ :: _, h => by cases h
  | _ :: _, [], h => by cases h
  | x :: a, y :: b, h => by
    have h := andK_true.1 (show andK (svEqK x y) (svAll a b) = true from h)
    rw [svEqK_eq] at h
    rw [svEq_eq h.1, svAll_eq h.2]

noncomputable def tabK (T : List Ent) (call : CallF) (f : FuncId) (args : List SV) (H : Hp) : Option (SV × Hp) :=
  @List.rec Ent (fun _ => Option (SV × Hp)) (call f args H)
    (fun e _ ih => @Bool.rec (fun _ => Option (SV × Hp)) ih (some (e.v, { m := mkMK e.b.l, next := e.b.next })) (andK (Nat.beq e.f f) (andK (svAll e.args args) (imgFit e.a H)))) T
theorem tabK_ok {call : CallF} (hc : CallOK P B call) : ∀ {T : List Ent}, (∀ e ∈ T, EntOK P e) → CallOK P B (tabK T call)
  | [], _ => hc
  | e :: T, hT => fun f args H s H' h μ w vs hR hv => by
    have h : @Bool.rec (fun _ => Option (SV × Hp)) (tabK T call f args H) (some (e.v, { m := mkMK e.b.l, next := e.b.next })) (andK (Nat.beq e.f f) (andK (svAll e.args args) (imgFit e.a H))) = some (s, H') := h
    cases hb : andK (Nat.beq e.f f) (andK (svAll e.args args) (imgFit e.a H)) with
    | false =>
      rw [hb] at h
      exact tabK_ok hc (fun e he => hT e (by simp [he])) f args H s H' h μ w vs hR hv
    | true =>
      rw [hb] at h
      rw [andK_true, andK_true] at hb
      have h1 := Nat.eq_of_beq_eq_true hb.1
      have h2 := svAll_eq hb.2.1
      have h3 : some (e.v, ({ m := mkMK e.b.l, next := e.b.next } : Hp)) = some (s, H') := h
      rw [mkMK_eq] at h3
      cases h3
      subst h1
      subst h2
      exact hT e (by simp) B μ w vs (imgFit_rel hb.2.2 hR) hv

noncomputable def goK (P : Program) (call : CallF) (f : FuncId) (args : List SV) (H : Hp) : Option (SV × Hp) :=
  @Option.rec (Func × Code) (fun _ => Option (SV × Hp)) none (fun r => fnBody P call r.1 r.2 args H) (bodyOf P f)
noncomputable def fnT (P : Program) (T : List Ent) (n : Nat) : CallF :=
  @Nat.rec (fun _ => CallF) (fun _ _ _ => none) (fun _ call => tabK T (goK P call)) n


section
variable {N : Nat}
def goS (P : Program) (call : CallF) (f : FuncId) (args : List SV) (H : Hp) : Option (SV × Hp) :=
  match P.funcs[f]? with
    | none => none
    | some fn => match fn.body with
      | none => none
      | some c => if args.length ≤ fn.ntmps then
          (match codeS P fn.ntmps call c (argsE args 0 .e) H with
          | some (.normal, E, H') => (match resS P E H' fn.results.toList with
            | some v => some (v, H')
            | none => none)
          | some (.ret, E, H') => (match resS P E H' fn.results.toList with
            | some v => some (v, H')
            | none => none)
          | _ => none)
        else none
theorem goK_eq (call : CallF) : goK P call = goS P call := by
    funext f args H
    unfold goK goS bodyOf
    cases P.funcs[f]? with
    | none => rfl
    | some fn =>
      simp only
      cases fn.body with
      | none => rfl
      | some c =>
        change fnBody P call fn c args H = _
        unfold fnBody
        rw [recb, codeK_eq, argsK_eq, lenL_eq]
        simp only [Nat.ble_eq]
        split
        · cases codeS P fn.ntmps call c (argsE args 0 .e) H with
          | none => rfl
          | some r =>
            obtain ⟨x, E', H'⟩ := r
            cases x with
            | normal =>
              change fDone P fn E' H' = _
              unfold fDone
              simp only [resK_eq]
              cases resS P E' H' fn.results.toList <;> rfl
            | exit i => rfl
            | ret =>
              change fDone P fn E' H' = _
              unfold fDone
              simp only [resK_eq]
              cases resS P E' H' fn.results.toList <;> rfl
        · rfl

theorem go_sound (hm : P.follows .mixedOrders = true) (hok : fnsOk P.funcs.toList = true) {call : CallF} (hcall : CallOK P B call) : CallOK P B (goS P call) :=
  fun f args H s H' h μ w vs hR hv => by
    simp only [goS] at h
    split at h
    · cases h
    · rename_i fn hf
      split at h
      · cases h
      · rename_i c hb
        have hc : codeOk c = true := fnsOk_get hok (i := f) (by simpa using hf) hb
        split at h
        · rename_i hle
          have hlen := renL_length hv
          refine calls_of_wp hf hb ?_
          have hE : ERel fn.ntmps μ (argsE args 0 .e) { tmps := vs.toArray ++ Array.replicate (fn.ntmps - vs.toArray.size) undef, defers := [] } := by
            refine ⟨by simp; omega, fun t s hs => ?_⟩
            rw [argsE_get] at hs
            split at hs
            · rename_i hb
              simp only [Nat.sub_zero] at hs
              obtain ⟨v, h1, h2⟩ := renL_get hv t s hs
              have hlt : t < vs.length := by omega
              rw [h2]
              simp only [Array.getD_eq_getD_getElem?]
              rw [Array.getElem?_append_left (by simpa using hlt)]
              simp [h1]
            · rw [Tr.get_e] at hs; cases hs
          split at h
          · rename_i E1 H1 h1
            split at h
            · rename_i v hr
              cases h
              refine code_sound hm (hcall) hc h1 hE hR fun a' w' μ' g1 g2 g3 g4 => ?_
              obtain ⟨u, k1, k2⟩ := resS_run g1 g2 hr
              exact ⟨g4, u, k1, μ', u, rfl, k2, g2, g3⟩
            · cases h
          · rename_i E1 H1 h1
            split at h
            · rename_i v hr
              cases h
              refine code_sound hm (hcall) hc h1 hE hR fun a' w' μ' g1 g2 g3 g4 => ?_
              obtain ⟨u, k1, k2⟩ := resS_run g1 g2 hr
              exact ⟨g4, u, k1, μ', u, rfl, k2, g2, g3⟩
            · cases h
          · cases h
        · cases h


theorem fnT_sound (hm : P.follows .mixedOrders = true) (hok : fnsOk P.funcs.toList = true) {T : List Ent} (hT : ∀ e ∈ T, EntOK P e) : ∀ n, CallOK P B (fnT P T n)
  | 0 => fun f args H s H' h => by cases h
  | n + 1 => by
    change CallOK P B (tabK T (goK P (fnT P T n)))
    rw [goK_eq]
    exact tabK_ok (go_sound hm hok (fnT_sound hm hok hT n)) hT

/-- an entry by its run, with earlier entries in hand -/
noncomputable def chkEnt (P : Program) (T : List Ent) (n : Nat) (e : Ent) : Bool :=
  @Option.rec (SV × Hp) (fun _ => Bool) false (fun r => @Prod.rec SV Hp (fun _ => Bool) (fun v H => andK (svEqK v e.v) (imgFit e.b H)) r)
    (goK P (fnT P T n) e.f e.args { m := mkMK e.a.l, next := e.a.next })
theorem ent_ok (hm : P.follows .mixedOrders = true) (hok : fnsOk P.funcs.toList = true) {T : List Ent} (hT : ∀ e ∈ T, EntOK P e) {n : Nat} {e : Ent} (h : chkEnt P T n e = true) : EntOK P e := by
  intro B μ w vs hR hv
  unfold chkEnt at h
  rw [mkMK_eq, goK_eq] at h
  cases hg : goS P (fnT P T n) e.f e.args { m := mkM e.a.l, next := e.a.next } with
  | none => rw [hg] at h; cases h
  | some r =>
    obtain ⟨s, H1⟩ := r
    rw [hg] at h
    have h := andK_true.1 (show andK (svEqK s e.v) (imgFit e.b H1) = true from h)
    rw [svEqK_eq] at h
    have h1 := svEq_eq h.1
    have := go_sound (B := B) hm hok (fnT_sound hm hok hT n) e.f e.args _ s H1 hg μ w vs hR hv
    refine this.mono fun x w' hx => ?_
    obtain ⟨μ', v, k1, k2, k3, k4⟩ := hx
    exact ⟨μ', v, k1, h1 ▸ k2, imgFit_rel h.2 k3, k4⟩
end
end Go.Ex
