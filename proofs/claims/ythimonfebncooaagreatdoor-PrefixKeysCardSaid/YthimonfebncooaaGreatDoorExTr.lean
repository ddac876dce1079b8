/- Paths and tries of the executor: what stands at a place. -/
import Derived.Test.YthimonfebncooaaGreatDoorExDefs
namespace Go.Ex

def Dg.un : Dg → Nat
  | .a => 0 | .b => 1 | .c => 2 | .d => 3

def un : Pa → Nat
  | [] => 0
  | x :: p => x.un + 4 * un p + 1

theorem un_dig (n : Nat) (h : n < 4) : (dig n).un = n := by
  match n, h with
  | 0, _ => rfl
  | 1, _ => rfl
  | 2, _ => rfl
  | 3, _ => rfl

theorem un_paF : ∀ f m, m < f → un (paF f m) = m + 1 := by
  intro f
  induction f with
  | zero => intro m h; omega
  | succ f ih =>
    intro m h
    simp only [paF, un]
    rw [un_dig _ (by omega)]
    split
    · rename_i h0; simp only [un]; omega
    · rename_i m' h0; rw [ih m' (by omega)]; omega

theorem un_pa (n : Nat) : un (pa n) = n := by
  cases n with
  | zero => rfl
  | succ m => exact un_paF (m + 1) m (by omega)

theorem pa_inj {m n : Nat} (h : pa m = pa n) : m = n := by
  rw [← un_pa m, h, un_pa]

namespace Tr
variable {α : Type}

theorem get_e (p : Pa) : (Tr.e : Tr α).get p = none := by cases p <;> rfl

theorem get_set_self (x : α) : ∀ (p : Pa) (t : Tr α), (t.set x p).get p = some x
  | [], .e => rfl
  | [], .n .. => rfl
  | y :: p, .e => by cases y <;> simp only [set, get] <;> exact get_set_self x p _
  | y :: p, .n .. => by cases y <;> simp only [set, get] <;> exact get_set_self x p _

theorem get_set_ne (x : α) : ∀ (p q : Pa) (t : Tr α), p ≠ q → (t.set x p).get q = t.get q
  | [], [], t, h => absurd rfl h
  | [], z :: q, .e, _ => by cases z <;> simp only [set, get, get_e]
  | [], z :: q, .n .., _ => by cases z <;> simp only [set, get]
  | y :: p, [], .e, _ => by cases y <;> simp only [set, get]
  | y :: p, [], .n .., _ => by cases y <;> simp only [set, get]
  | y :: p, z :: q, .e, h => by
    cases y <;> cases z <;> simp only [set, get, get_e] <;>
      exact (get_set_ne x p q _ (fun e => h (by rw [e]))).trans (get_e _)
  | y :: p, z :: q, .n .., h => by
    cases y <;> cases z <;> simp only [set, get] <;>
      exact get_set_ne x p q _ (fun e => h (by rw [e]))

theorem get_set (x : α) (m n : Nat) (t : Tr α) : (t.set x (pa m)).get (pa n) = if m = n then some x else t.get (pa n) := by
  split
  · rename_i h; subst h; exact get_set_self _ _ _
  · rename_i h; exact get_set_ne _ _ _ _ (fun e => h (pa_inj e))
end Tr

end Go.Ex
