/- How the executor's values and memory stand to the model's. -/
import Derived.Test.YthimonfebncooaaGreatDoorExTr
import Derived.Laws.CopyRow
import Derived.Laws.Rows
import Derived.Below
namespace Go.Ex

/-- of a block of the executor's: the block, and (of a row that may grow) how many elements it has room for; and what the opaque numbers are -/
structure Mu where
  b : Nat → Option (Nat × Nat)
  v : Nat → Int

instance : CoeFun Mu (fun _ => Nat → Option (Nat × Nat)) := ⟨Mu.b⟩

structure Ext (μ μ' : Mu) : Prop where
  b : ∀ p x, μ p = some x → μ' p = some x
  v : μ'.v = μ.v

theorem Ext.refl (μ : Mu) : Ext μ μ := ⟨fun _ _ h => h, rfl⟩
theorem Ext.trans {a b c : Mu} (h : Ext a b) (k : Ext b c) : Ext a c := ⟨fun p x hx => k.b p x (h.b p x hx), k.v.trans h.v⟩

mutual
def ren (μ : Mu) : SV → Option Value
  | .bool b => some (.bool b)
  | .int k n => some (.int k n)
  | .opq i lo hi => if lo ≤ μ.v i ∧ μ.v i ≤ hi then some (.int .i64 (μ.v i)) else none
  | .str s => if s.all (· < 256) then some (.string ⟨(s.map UInt8.ofNat).toArray⟩) else none
  | .ptr p off => match μ p with
    | some x => some (.pointer (some ⟨x.1, off, none⟩))
    | none => none
  | .nilp => some (.pointer none)
  | .slice p off len (.lim c) => match μ p with
    | some x => if len ≤ c then some (.slice (some ⟨x.1, off, none⟩) len c) else none
    | none => none
  | .slice p off len (.open_ k) => match μ p with
    | some x => if len + k ≤ x.2 then some (.slice (some ⟨x.1, off, none⟩) len (x.2 - k)) else none
    | none => none
  | .nils => some (.slice none 0 0)
  | .etail p off l size k => match μ p with
    | some x => if l + k ≤ x.2 then some (.slice (some ⟨x.1, if x.2 - k = l then off else off + l * size, none⟩) 0 (x.2 - k - l)) else none
    | none => none
  | .map p => match μ p with
    | some x => some (.map (some x.1))
    | none => none
  | .nilm => some (.map none)
  | .func fn a b => match renL μ a, renL μ b with
    | some x, some y => some (.func fn x.toArray y.toArray)
    | _, _ => none
  | .nilf => some .nilFunc
  | .iface t v => match ren μ v with
    | some x => some (.iface t x)
    | none => none
  | .nili => some .nilIface
  | .agg l => match renL μ l with
    | some x => some (.agg x.toArray)
    | none => none
  | .tup l => match renL μ l with
    | some x => some (.tuple x.toArray)
    | none => none
def renL (μ : Mu) : List SV → Option (List Value)
  | [] => some []
  | v :: l => match ren μ v, renL μ l with
    | some x, some r => some (x :: r)
    | _, _ => none
end

mutual
theorem ren_ext {μ μ' : Mu} (h : Ext μ μ') : ∀ {s : SV} {v : Value}, ren μ s = some v → ren μ' s = some v
  | .bool _, _, e => e
  | .int _ _, _, e => e
  | .opq _ _ _, _, e => by simp only [ren] at e ⊢; rw [h.v]; exact e
  | .str _, _, e => e
  | .nilp, _, e => e
  | .nils, _, e => e
  | .nilm, _, e => e
  | .nilf, _, e => e
  | .nili, _, e => e
  | .ptr p off, v, e => by
    simp only [ren] at e ⊢
    cases hx : μ p with
    | none => simp [hx] at e
    | some x => simp only [hx] at e; simp only [h.b p x hx]; exact e
  | .slice p off len (.lim c), v, e => by
    simp only [ren] at e ⊢
    cases hx : μ p with
    | none => simp [hx] at e
    | some x => simp only [hx] at e; simp only [h.b p x hx]; exact e
  | .slice p off len (.open_ k), v, e => by
    simp only [ren] at e ⊢
    cases hx : μ p with
    | none => simp [hx] at e
    | some x => simp only [hx] at e; simp only [h.b p x hx]; exact e
  | .etail p off l size k, v, e => by
    simp only [ren] at e ⊢
    cases hx : μ p with
    | none => simp [hx] at e
    | some x => simp only [hx] at e; simp only [h.b p x hx]; exact e
  | .map p, v, e => by
    simp only [ren] at e ⊢
    cases hx : μ p with
    | none => simp [hx] at e
    | some x => simp only [hx] at e; simp only [h.b p x hx]; exact e
  | .func fn a b, v, e => by
    simp only [ren] at e ⊢
    cases ha : renL μ a with
    | none => simp [ha] at e
    | some x =>
      cases hb : renL μ b with
      | none => simp [ha, hb] at e
      | some y => simp only [ha, hb] at e; simp only [renL_ext h ha, renL_ext h hb]; exact e
  | .iface t w, v, e => by
    simp only [ren] at e ⊢
    cases ha : ren μ w with
    | none => simp [ha] at e
    | some x => simp only [ha] at e; simp only [ren_ext h ha]; exact e
  | .agg l, v, e => by
    simp only [ren] at e ⊢
    cases ha : renL μ l with
    | none => simp [ha] at e
    | some x => simp only [ha] at e; simp only [renL_ext h ha]; exact e
  | .tup l, v, e => by
    simp only [ren] at e ⊢
    cases ha : renL μ l with
    | none => simp [ha] at e
    | some x => simp only [ha] at e; simp only [renL_ext h ha]; exact e
theorem renL_ext {μ μ' : Mu} (h : Ext μ μ') : ∀ {s : List SV} {v : List Value}, renL μ s = some v → renL μ' s = some v
  | [], _, e => e
  | s :: l, v, e => by
    simp only [renL] at e ⊢
    cases ha : ren μ s with
    | none => simp [ha] at e
    | some x =>
      cases hb : renL μ l with
      | none => simp [ha, hb] at e
      | some y => simp only [ha, hb] at e; simp only [ren_ext h ha, renL_ext h hb]; exact e
end

theorem renL_cons {μ : Mu} {s : SV} {l : List SV} {r : List Value} : renL μ (s :: l) = some r ↔ ∃ x y, ren μ s = some x ∧ renL μ l = some y ∧ r = x :: y := by
  simp only [renL]
  cases ren μ s <;> cases renL μ l <;> simp [eq_comm]

theorem renL_length {μ : Mu} : ∀ {l : List SV} {r : List Value}, renL μ l = some r → r.length = l.length
  | [], r, h => by simp [renL] at h; subst h; rfl
  | s :: l, r, h => by
    obtain ⟨x, y, _, hy, rfl⟩ := renL_cons.1 h
    simp [renL_length hy]

theorem renL_get {μ : Mu} : ∀ {l : List SV} {r : List Value}, renL μ l = some r → ∀ (i : Nat) (s : SV), l[i]? = some s → ∃ v, r[i]? = some v ∧ ren μ s = some v
  | [], _, _, i, s, hs => by simp at hs
  | a :: l, r, h, i, s, hs => by
    obtain ⟨x, y, hx, hy, rfl⟩ := renL_cons.1 h
    cases i with
    | zero => simp at hs; subst hs; exact ⟨x, by simp, hx⟩
    | succ i => simp at hs ⊢; exact renL_get hy i s hs

theorem renL_append {μ : Mu} : ∀ {a b : List SV} {x y : List Value}, renL μ a = some x → renL μ b = some y → renL μ (a ++ b) = some (x ++ y)
  | [], b, x, y, ha, hb => by simp [renL] at ha; subst ha; simpa using hb
  | s :: a, b, x, y, ha, hb => by
    obtain ⟨u, v, hu, hv, rfl⟩ := renL_cons.1 ha
    exact renL_cons.2 ⟨u, v ++ y, hu, renL_append hv hb, rfl⟩

def renM (μ : Mu) (e : ME) : Option MapEntry :=
  match ren μ e.k, ren μ e.v with
  | some k, some v => some { key := k, val := v, born := e.born }
  | _, _ => none

theorem renM_ext {μ μ' : Mu} (h : Ext μ μ') {e : ME} {m : MapEntry} (he : renM μ e = some m) : renM μ' e = some m := by
  simp only [renM] at he ⊢
  cases ha : ren μ e.k with
  | none => simp [ha] at he
  | some x =>
    cases hb : ren μ e.v with
    | none => simp [ha, hb] at he
    | some y => simp only [ha, hb] at he; simp only [ren_ext h ha, ren_ext h hb]; exact he

theorem mapO_cons {α β : Type} {f : α → Option β} {a : α} {l : List α} {r : List β} : mapO f (a :: l) = some r ↔ ∃ x y, f a = some x ∧ mapO f l = some y ∧ r = x :: y := by
  simp only [mapO]
  cases f a <;> cases mapO f l <;> simp [eq_comm]

theorem mapO_imp {α β : Type} {f g : α → Option β} (h : ∀ a b, f a = some b → g a = some b) : ∀ {l : List α} {r : List β}, mapO f l = some r → mapO g l = some r
  | [], _, e => e
  | _ :: _, _, e => by
    obtain ⟨x, y, hx, hy, rfl⟩ := mapO_cons.1 e
    exact mapO_cons.2 ⟨x, y, h _ _ hx, mapO_imp h hy, rfl⟩

structure RowRel (P : Program) (μ : Mu) (c : Tr SV) (n : Nat) (elem : TypeId) (op : Bool) (κ : Nat) (arr : Array Value) : Prop where
  cell : ∀ i s, c.get (pa i) = some s → i < n ∧ ∃ v, arr[i]? = some v ∧ ren μ s = some v
  size : n ≤ arr.size
  room : op = true → ∃ i, P.info? elem = some i ∧ κ * i.size = arr.size

/-- an object of the executor's, and what stands in the block -/
def ORel (P : Program) (μ : Mu) (κ : Nat) : SO → Option Obj → Prop
  | .row c n elem op, ob => ∃ arr, ob = some (.cells arr elem (0, 0)) ∧ RowRel P μ c n elem op κ arr
  | .map es clock, ob => ∃ l, mapO (renM μ) es = some l ∧ ob = some (.map l.toArray clock)
  | .dead, _ => True

theorem RowRel.ext {P : Program} {μ μ' : Mu} (h : Ext μ μ') {c : Tr SV} {n : Nat} {elem : TypeId} {op : Bool} {κ : Nat} {arr : Array Value} (r : RowRel P μ c n elem op κ arr) : RowRel P μ' c n elem op κ arr :=
  ⟨fun i s hs => let ⟨a, v, b, c⟩ := r.cell i s hs; ⟨a, v, b, ren_ext h c⟩, r.size, r.room⟩

theorem ORel.ext {P : Program} {μ μ' : Mu} (h : Ext μ μ') {κ : Nat} : ∀ {o : SO} {ob : Option Obj}, ORel P μ κ o ob → ORel P μ' κ o ob
  | .row .., _, ⟨arr, e, r⟩ => ⟨arr, e, r.ext h⟩
  | .map .., _, ⟨l, e, r⟩ => ⟨l, mapO_imp (fun _ _ => renM_ext h) e, r⟩
  | .dead, _, _ => trivial

def SO.live : SO → Bool
  | .dead => false
  | _ => true

/-- the executor's memory and the model's: of the blocks that are mapped -/
structure Rel (P : Program) (B : Nat) (μ : Mu) (H : Hp) (w : World) : Prop where
  base : B ≤ w.heap.size
  low : ∀ p x, μ p = some x → B ≤ x.1
  obj : ∀ p o x, H.get p = some o → μ p = some x → ORel P μ x.2 o (w.heap[x.1]?)
  inj : ∀ p q o o' x y, H.get p = some o → H.get q = some o' → o.live = true → o'.live = true → μ p = some x → μ q = some y → x.1 = y.1 → p = q
  fresh : ∀ p, H.next ≤ p → μ p = none
  rng : ∀ p x, μ p = some x → x.1 < w.heap.size

theorem Hp.get_set (H : Hp) (p q : Nat) (o : SO) : (H.set p o).get q = if p = q then some o else H.get q := Tr.get_set _ _ _ _
theorem Hp.get_new (H : Hp) (q : Nat) (o : SO) : (H.new o).get q = if H.next = q then some o else H.get q := Tr.get_set _ _ _ _

/-- what is not seen of a world -/
theorem Rel.heap {P : Program} {B : Nat} {μ : Mu} {H : Hp} {w w' : World} (h : Rel P B μ H w) (e : w'.heap = w.heap) : Rel P B μ H w' :=
  ⟨by rw [e]; exact h.base, h.low, fun p o x ho hx => by rw [e]; exact h.obj p o x ho hx, h.inj, h.fresh, fun p x hx => by rw [e]; exact h.rng p x hx⟩

/-- blocks that are not mapped may turn -/
theorem Rel.other {P : Program} {B : Nat} {μ : Mu} {H : Hp} {w w' : World} (h : Rel P B μ H w) (hsz : w.heap.size ≤ w'.heap.size) (e : ∀ p x, μ p = some x → w'.heap[x.1]? = w.heap[x.1]?) : Rel P B μ H w' :=
  ⟨Nat.le_trans h.base hsz, h.low, fun p o x ho hx => by rw [e p x hx]; exact h.obj p o x ho hx, h.inj, h.fresh, fun p x hx => Nat.lt_of_lt_of_le (h.rng p x hx) hsz⟩

def Mu.add (μ : Mu) (p : Nat) (x : Nat × Nat) : Mu := { μ with b := fun q => if q = p then some x else μ q }

theorem Mu.add_self (μ : Mu) (p : Nat) (x : Nat × Nat) : μ.add p x p = some x := by simp [Mu.add]
theorem Mu.add_ext {μ : Mu} {p : Nat} (h : μ p = none) (x : Nat × Nat) : Ext μ (μ.add p x) := ⟨fun q y hy => by
  simp only [Mu.add]
  split
  · rename_i e; subst e; rw [h] at hy; cases hy
  · exact hy, rfl⟩
theorem Mu.add_or {μ : Mu} {p q : Nat} {x y : Nat × Nat} (h : μ.add p x q = some y) : μ q = some y ∨ y = x := by
  simp only [Mu.add] at h
  split at h
  · cases h; exact .inr rfl
  · exact .inl h

/-- a block that stands there is taken for a new one of the executor's -/
theorem Rel.adopt {P : Program} {B : Nat} {μ : Mu} {H : Hp} {w : World} (h : Rel P B μ H w) (o : SO) (r κ : Nat) (hB : B ≤ r) (hr : r < w.heap.size) (hn : ∀ p o x, H.get p = some o → o.live = true → μ p = some x → x.1 ≠ r)
    (ho : ORel P (μ.add H.next (r, κ)) κ o (w.heap[r]?)) : Rel P B (μ.add H.next (r, κ)) (H.new o) w := by
  have hx : Ext μ (μ.add H.next (r, κ)) := Mu.add_ext (h.fresh _ (Nat.le_refl _)) _
  refine ⟨h.base, ?_, ?_, ?_, ?_, ?_⟩
  · intro p x hp
    rcases Mu.add_or hp with hp | rfl
    · exact h.low p x hp
    · exact hB
  · intro p o' x hp hm
    rw [Hp.get_new] at hp
    split at hp
    · rename_i e'; subst e'
      cases hp
      rw [Mu.add_self] at hm; cases hm
      exact ho
    · rename_i e'
      simp only [Mu.add] at hm
      rw [if_neg (fun e => e' e.symm)] at hm
      exact (h.obj p o' x hp hm).ext hx
  · intro p q o1 o2 x y h1 h2 l1 l2 m1 m2 exy
    rw [Hp.get_new] at h1 h2
    simp only [Mu.add] at m1 m2
    split at h1 <;> split at h2
    · rename_i a b; rw [← a, ← b]
    · rename_i a b
      rw [if_pos a.symm] at m1; rw [if_neg (fun e => b e.symm)] at m2
      cases m1
      exact absurd exy.symm (hn q o2 y h2 l2 m2)
    · rename_i a b
      rw [if_pos b.symm] at m2; rw [if_neg (fun e => a e.symm)] at m1
      cases m2
      exact absurd exy (hn p o1 x h1 l1 m1)
    · rename_i a b
      rw [if_neg (fun e => a e.symm)] at m1; rw [if_neg (fun e => b e.symm)] at m2
      exact h.inj p q o1 o2 x y h1 h2 l1 l2 m1 m2 exy
  · intro p hp
    have hp' : H.next + 1 ≤ p := hp
    simp only [Mu.add]
    rw [if_neg (by omega)]
    exact h.fresh p (by omega)
  · intro p x hp
    rcases Mu.add_or hp with hp | rfl
    · exact h.rng p x hp
    · exact hr

/-- one world, and one that is come to from it: memory that is not mapped stands as it stood; new blocks are new -/
structure Step (μ : Mu) (w : World) (μ' : Mu) (w' : World) : Prop where
  ext : Ext μ μ'
  new : ∀ p x, μ' p = some x → (∃ q y, μ q = some y ∧ y.1 = x.1) ∨ w.heap.size ≤ x.1
  os : w'.os = w.os
  tape : w'.tape = w.tape
  output : w'.output = w.output
  size : w.heap.size ≤ w'.heap.size
  block : ∀ k, k < w.heap.size → (∀ p x, μ p = some x → x.1 ≠ k) → w'.heap[k]? = w.heap[k]?

theorem Step.refl (μ : Mu) (w : World) : Step μ w μ w := ⟨Ext.refl _, fun p x h => .inl ⟨p, x, h, rfl⟩, rfl, rfl, rfl, Nat.le_refl _, fun _ _ _ => rfl⟩

theorem Step.trans {a b c : Mu} {u v w : World} (h : Step a u b v) (k : Step b v c w) : Step a u c w :=
  ⟨h.ext.trans k.ext, fun p x hx => (k.new p x hx).elim (fun ⟨q, y, hy, e⟩ => e ▸ h.new q y hy) (fun e => .inr (Nat.le_trans h.size e)), k.os.trans h.os, k.tape.trans h.tape, k.output.trans h.output, Nat.le_trans h.size k.size,
    fun i hi hn => (k.block i (Nat.lt_of_lt_of_le hi h.size) (fun p x hx => (h.new p x hx).elim (fun ⟨q, y, hy, e⟩ => e ▸ hn q y hy) (fun e => by omega))).trans (h.block i hi hn)⟩

/-- a draw, or the like -/
theorem Step.drew (μ : Mu) (w : World) (n : Nat) : Step μ w μ { w with drawn := n } := ⟨Ext.refl _, fun p x h => .inl ⟨p, x, h, rfl⟩, rfl, rfl, rfl, Nat.le_refl _, fun _ _ _ => rfl⟩

theorem Step.alloc (μ : Mu) (w : World) (o : Obj) : Step μ w μ (w.alloc o) :=
  ⟨Ext.refl _, fun p x h => .inl ⟨p, x, h, rfl⟩, rfl, rfl, rfl, by simp, fun k hk _ => by show (w.heap.push o)[k]? = _; rw [Array.getElem?_push, if_neg (by omega)]⟩

/-- a new block -/
theorem Rel.new {P : Program} {B : Nat} {μ : Mu} {H : Hp} {w : World} (h : Rel P B μ H w) (o : SO) (ob : Obj) (κ : Nat)
    (ho : ORel P (μ.add H.next (w.heap.size, κ)) κ o (some ob)) :
    Rel P B (μ.add H.next (w.heap.size, κ)) (H.new o) (w.alloc ob) ∧ Step μ w (μ.add H.next (w.heap.size, κ)) (w.alloc ob) := by
  have h' : Rel P B μ H (w.alloc ob) := h.other (by simp) (fun p x hx => by
    have := h.rng p x hx
    show (w.heap.push ob)[x.1]? = _
    rw [Array.getElem?_push, if_neg (by omega)])
  refine ⟨h'.adopt o w.heap.size κ h.base (by simp) (fun p _ x _ _ hx e => ?_) ?_, ?_⟩
  · have := h.rng p x hx; omega
  · have : (w.alloc ob).heap[w.heap.size]? = some ob := by show (w.heap.push ob)[w.heap.size]? = _; simp
    rw [this]; exact ho
  · have s := Step.alloc μ w ob
    exact ⟨Mu.add_ext (h.fresh _ (Nat.le_refl _)) _, fun p x hx => (Mu.add_or hx).imp (fun h => ⟨p, x, h, rfl⟩) (fun e => by subst e; exact Nat.le_refl _), s.os, s.tape, s.output, s.size, s.block⟩

/-- a block that is written anew -/
theorem Rel.upd {P : Program} {B : Nat} {μ : Mu} {H : Hp} {w w' : World} (h : Rel P B μ H w) {p : Nat} {o₀ : SO} {x : Nat × Nat} (hp : H.get p = some o₀) (hl : o₀.live = true) (hx : μ p = some x)
    (o : SO) (ob : Obj) (hsz : w'.heap.size = w.heap.size) (hself : w'.heap[x.1]? = some ob) (hother : ∀ k, k ≠ x.1 → w'.heap[k]? = w.heap[k]?) (ho : ORel P μ x.2 o (some ob)) :
    Rel P B μ (H.set p o) w' := by
  refine ⟨by rw [hsz]; exact h.base, h.low, ?_, ?_, h.fresh, fun q y hy => by rw [hsz]; exact h.rng q y hy⟩
  · intro q o' y hq hy
    rw [Hp.get_set] at hq
    split at hq
    · rename_i e; subst e; cases hq
      rw [hx] at hy; cases hy
      rw [hself]; exact ho
    · rename_i e
      by_cases hd : o'.live = true
      · rw [hother y.1 (fun e' => e (h.inj p q o₀ o' x y hp hq hl hd hx hy e'.symm))]; exact h.obj q o' y hq hy
      · cases o' with
        | dead => trivial
        | row => simp [SO.live] at hd
        | map => simp [SO.live] at hd
  · intro q r o1 o2 y z h1 h2 l1 l2 m1 m2 eyz
    rw [Hp.get_set] at h1 h2
    split at h1 <;> split at h2
    · rename_i a b; rw [← a, ← b]
    · rename_i a b; subst a; exact h.inj p r o₀ o2 y z hp h2 hl l2 m1 m2 eyz
    · rename_i a b; subst b; exact h.inj q p o1 o₀ y z h1 hp l1 hl m1 m2 eyz
    · exact h.inj q r o1 o2 y z h1 h2 l1 l2 m1 m2 eyz

/-- a block is given up -/
theorem Rel.kill {P : Program} {B : Nat} {μ : Mu} {H : Hp} {w : World} (h : Rel P B μ H w) (p : Nat) : Rel P B μ (H.set p .dead) w := by
  refine ⟨h.base, h.low, ?_, ?_, h.fresh, h.rng⟩
  · intro q o' y hq hy
    rw [Hp.get_set] at hq
    split at hq
    · cases hq; trivial
    · exact h.obj q o' y hq hy
  · intro q r o1 o2 y z h1 h2 l1 l2 m1 m2 eyz
    rw [Hp.get_set] at h1 h2
    split at h1
    · cases h1; simp [SO.live] at l1
    · split at h2
      · cases h2; simp [SO.live] at l2
      · exact h.inj q r o1 o2 y z h1 h2 l1 l2 m1 m2 eyz

theorem stFrom_get : ∀ (l : List SV) (off : Nat) (c : Tr SV) (i : Nat), (stFrom l off c).get (pa i) = if off ≤ i ∧ i < off + l.length then l[i - off]? else c.get (pa i)
  | [], off, c, i => by simp only [stFrom]; rw [if_neg (by simp only [List.length_nil]; omega)]
  | v :: l, off, c, i => by
    simp only [stFrom]
    rw [stFrom_get l (off + 1) _ i, Tr.get_set]
    by_cases h1 : off + 1 ≤ i ∧ i < off + 1 + l.length
    · rw [if_pos h1, if_pos (by simp; omega)]
      have : i - off = (i - (off + 1)) + 1 := by omega
      rw [this]; simp
    · rw [if_neg h1]
      by_cases h2 : off = i
      · subst h2; rw [if_pos rfl, if_pos (by simp)]; simp
      · rw [if_neg h2, if_neg (by simp; omega)]

end Go.Ex
