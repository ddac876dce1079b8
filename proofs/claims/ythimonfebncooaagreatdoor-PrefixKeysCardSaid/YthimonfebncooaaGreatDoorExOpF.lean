/- One operation of the executor's against the model's: operators. -/
import Derived.Test.YthimonfebncooaaGreatDoorExOpE
namespace Go.Ex

section
variable {P : Program} {B : Nat} {μ : Mu} {H : Hp} {w : World}

/-- two values that == takes by their type -/
def plainPair (a b : Value) : Bool :=
  match a, b with
  | .int _ _, .int _ _ => false
  | .float _ _, .float _ _ => false
  | .complex _ _ _, .complex _ _ _ => false
  | .string _, .string _ => false
  | .nilIface, .nilIface => false
  | .agg _, .agg _ => false
  | _, _ => true

theorem guard_plain {a b : Value} (h : plainPair a b = true) (op : BinOp) (t : TypeId) (x y : Operand) (w : World) : (eqGuard op t x y a b).run P w = .ok () w := by
  unfold eqGuard
  cases op <;> simp only [Bool.not_true, Bool.not_false, if_true, Bool.false_eq_true, if_false, Sem.run_bind, Sem.run_pure, Result.andThen_ok] <;> first | rfl | (split <;> first | rfl | simp [plainPair] at h)

theorem eql_plain {a b : Value} (h : plainPair a b = true) (t : TypeId) {r : Bool} {w : World} (hr : (Op.equal t a b).run P w = .ok r w) : (binOp .eql t a b).run P w = .ok (.bool r) w := by
  unfold binOp
  split <;> first | (simp [hr]; done) | (simp [plainPair] at h; done) | (rename_i hh; simp at hh; done) | skip
  all_goals (first | (rename_i hh _ _; cases hh; done) | (rename_i hh; cases hh; done) | (simp_all [plainPair]; done))

theorem neq_plain {a b : Value} (h : plainPair a b = true) (t : TypeId) {r : Bool} {w : World} (hr : (Op.equal t a b).run P w = .ok r w) : (binOp .neq t a b).run P w = .ok (.bool (!r)) w := by
  unfold binOp
  split <;> first | (simp [hr]; done) | (simp [plainPair] at h; done) | (rename_i hh; simp at hh; done) | skip
  all_goals (first | (rename_i hh _ _; cases hh; done) | (rename_i hh; cases hh; done) | (simp_all [plainPair]; done))


def shapeV : Value → Nat
  | .int _ _ => 0
  | .string _ => 1
  | .nilIface => 2
  | .agg _ => 3
  | .float _ _ => 5
  | .complex _ _ _ => 6
  | _ => 4

theorem plain_shape {a b : Value} (h : shapeV a ≠ shapeV b ∨ shapeV a = 4) : plainPair a b = true := by
  unfold plainPair
  split <;> first | rfl | (simp [shapeV] at h)

theorem ren_shape {s : SV} {v : Value} (h : ren μ s = some v) : shapeV v = s.shape := by
  cases s with
  | slice p o l c => obtain ⟨x, cc, _, rfl, _⟩ := slice_ren h; rfl
  | etail p o l c k => simp only [ren] at h; split at h; (split at h <;> cases h; rfl); cases h
  | _ => simp only [ren] at h; first | (cases h; rfl) | (split at h <;> cases h; rfl)

theorem eqOpS_run {t : TypeId} {x y : SV} {r : Bool} {vx vy : Value} (h : eqOpS P t x y = some r) (hx : ren μ x = some vx) (hy : ren μ y = some vy) (ox oy : Operand) (w : World) :
    ((do eqGuard .eql t ox oy vx vy; binOp .eql t vx vy : Sem Value).run P w = .ok (.bool r) w) ∧ ((do eqGuard .neq t ox oy vx vy; binOp .neq t vx vy : Sem Value).run P w = .ok (.bool (!r)) w) := by
  unfold eqOpS at h
  split at h
  · rename_i xs ys
    obtain ⟨zx, h1, rfl⟩ := agg_ren hx
    obtain ⟨zy, h2, rfl⟩ := agg_ren hy
    split at h
    · cases h
    · rename_i hg
      have hr := eqS_run (w := w) h hx hy
      have hg' : P.eqGuardType P.depth t = false := by simpa using hg
      unfold eqDeep at hr
      constructor
      · simp [run_eqGuard_agg w .eql t ox oy _ _ hg', run_eql_struct, hr]
      · simp [run_eqGuard_agg w .neq t ox oy _ _ hg', run_neq_struct, hr]
  · split at h
    · cases h
    · rename_i hc
      have hr : (Op.equal t vx vy).run P w = .ok r w := eqS_run h hx hy
      have hp : plainPair vx vy = true := plain_shape (by
        rw [ren_shape hx, ren_shape hy]
        simp only [Bool.and_eq_true, Bool.not_eq_true', Nat.beq_eq_true_eq, not_and] at hc
        by_cases he : x.shape = y.shape
        · right
          have := hc (by rw [he]; exact Nat.beq_refl _)
          cases hb : Nat.beq x.shape 4 with
          | true => exact Nat.eq_of_beq_eq_true hb
          | false => exact absurd hb this
        · exact .inl he)
      simp [guard_plain hp, eql_plain hp t hr, neq_plain hp t hr]

theorem bytes_lt {a b : List Nat} (ha : ∀ x ∈ a, x < 256) (hb : ∀ x ∈ b, x < 256) : Op.bytesLess (a.map UInt8.ofNat) (b.map UInt8.ofNat) = bytesLt a b := by
  induction a generalizing b with
  | nil => cases b <;> simp [Op.bytesLess, bytesLt]
  | cons x a ih =>
    cases b with
    | nil => simp [Op.bytesLess, bytesLt]
    | cons y b =>
      have hx := ha x (by simp)
      have hy := hb y (by simp)
      have e1 : decide (UInt8.ofNat x < UInt8.ofNat y) = Nat.blt x y := by
        rw [Bool.eq_iff_iff, decide_eq_true_eq]
        simp only [UInt8.lt_iff_toNat_lt, UInt8.toNat_ofNat', Nat.blt, Nat.ble_eq]
        omega
      have e2 : (UInt8.ofNat x == UInt8.ofNat y) = Nat.beq x y := by
        rw [Bool.eq_iff_iff, beq_iff_eq, Nat.beq_eq]
        constructor
        · intro h
          have := congrArg UInt8.toNat h
          simp at this
          omega
        · intro h; rw [h]
      simp only [List.map_cons, Op.bytesLess, bytesLt, e1, e2]
      rw [ih (fun z hz => ha z (by simp [hz])) (fun z hz => hb z (by simp [hz]))]

theorem bytes_list (l : List UInt8) : (⟨l.toArray⟩ : ByteArray).toList = l := by
  rw [ByteArray.toList_eq]

theorem strOp_run {op : BinOp} {a b : List Nat} {s : SV} (h : strOp op a b = some s) (ha : ∀ x ∈ a, x < 256) (hb : ∀ x ∈ b, x < 256) (w : World) :
    ∃ v, (Op.stringOp op ⟨(a.map UInt8.ofNat).toArray⟩ ⟨(b.map UInt8.ofNat).toArray⟩).run P w = .ok v w ∧ ren μ s = some v := by
  have he := bytes_eq ha hb
  rw [beq_toListBytes, bytes_list, bytes_list] at he
  have hl := bytes_lt ha hb
  unfold strOp at h
  split at h
  · split at h
    · rename_i hlen
      cases h
      refine ⟨.string ⟨((a ++ b).map UInt8.ofNat).toArray⟩, ?_, ?_⟩
      · have : ¬ (((a.length + b.length : Nat) : Int) > IntKind.i64.max) := by
          have e : IntKind.i64.max = 9223372036854775807 := by decide
          rw [e]; omega
        simp only [Op.stringOp, size_bytes, List.length_map, if_neg this, Sem.run_pure]
        congr 2
        apply ByteArray.ext
        simp
      · have : (a ++ b).all (· < 256) = true := by
          simp only [List.all_eq_true, decide_eq_true_eq, List.mem_append]
          exact fun x hx => hx.elim (ha x) (hb x)
        simp [ren, this]
    · cases h
  all_goals first
    | (cases h; refine ⟨_, ?_, rfl⟩; simp [Op.stringOp, bytes_list, he, hl]; done)
    | cases h


theorem intOp_run {op : BinOp} {k : IntKind} {a b : Int} {s : SV} (h : intOp op k a b = some s) (t : TypeId) (w : World) :
    ∃ v, (binOp op t (.int k a) (.int k b)).run P w = .ok v w ∧ ren μ s = some v := by
  unfold intOp at h
  split at h
  case h_4 | h_5 =>
    split at h
    · cases h
    · rename_i hb
      cases h
      refine ⟨_, ?_, rfl⟩
      simp [binOp, Op.intDiv, hb]
  all_goals first
    | (cases h; refine ⟨_, ?_, rfl⟩; simp [binOp, Op.intArith, Op.intBits, Op.intCmp]; done)
    | cases h

theorem shiftOp_run {op : BinOp} {k k' : IntKind} {a b : Int} {s : SV} (h : shiftOp op k a b = some s) (t : TypeId) (w : World) :
    ∃ v, (binOp op t (.int k a) (.int k' b)).run P w = .ok v w ∧ ren μ s = some v := by
  unfold shiftOp at h
  split at h
  · cases h
  · rename_i hb
    split at h
    · cases h
      refine ⟨_, ?_, rfl⟩
      simp [binOp, Op.shift, hb]
    · cases h
      refine ⟨_, ?_, rfl⟩
      simp [binOp, Op.shift, hb]
    · cases h

theorem eq_nili {t : TypeId} {ms : Array (String × TypeId)} (hu : P.underlying t = some (.interface ms)) (w : World) : (Op.equal t .nilIface .nilIface).run P w = .ok true w := by
  have key : ∀ d, (Op.equalIn (d + 1) t .nilIface .nilIface).run P w = .ok true w := fun d => by simp [Op.equalIn, run_underlying hu]
  exact key 9999

theorem cmpIv_ok {op : BinOp} {lo hi n b : Int} {r : Bool} (h1 : lo ≤ n) (h2 : n ≤ hi) (h : cmpIv op lo hi b = some r) : intOp op .i64 n b = some (.bool r) := by
  unfold cmpIv at h
  split at h <;> try (cases h; done)
  all_goals
    split at h
    · cases h
      simp only [intOp, Option.some.injEq, SV.bool.injEq]
      simp
      omega
    · split at h
      · cases h
        simp only [intOp, Option.some.injEq, SV.bool.injEq]
        simp
        omega
      · cases h

theorem binS_run {op : BinOp} {t : TypeId} {ox oy : Operand} {x y s : SV} {vx vy : Value} (h : binS P op t ox oy x y = some s) (hx : ren μ x = some vx) (hy : ren μ y = some vy) (w : World) :
    ∃ v, (do eqGuard op t ox oy vx vy; binOp op t vx vy : Sem Value).run P w = .ok v w ∧ ren μ s = some v := by
  unfold binS at h
  split at h
  · rename_i k a k' b
    simp only [ren] at hx hy; cases hx; cases hy
    have hg : (eqGuard op t ox oy (.int k a) (.int k' b)).run P w = .ok () w := by unfold eqGuard; cases op <;> simp
    split at h
    · obtain ⟨v, h1, h2⟩ := shiftOp_run (P := P) (μ := μ) (k' := k') h t w
      exact ⟨v, by simp [hg, h1], h2⟩
    · split at h
      · rename_i hk; subst hk
        obtain ⟨v, h1, h2⟩ := intOp_run (P := P) (μ := μ) h t w
        exact ⟨v, by simp [hg, h1], h2⟩
      · cases h
  · rename_i i lo hi k b
    split at h
    · rename_i hk; subst hk
      simp only [ren] at hx hy
      split at hx
      · rename_i hb
        cases hx; cases hy
        split at h
        · rename_i r hr
          cases h
          have hg : (eqGuard op t ox oy (.int .i64 (μ.v i)) (.int .i64 b)).run P w = .ok () w := by unfold eqGuard; cases op <;> simp
          obtain ⟨v, k1, k2⟩ := intOp_run (P := P) (μ := μ) (cmpIv_ok hb.1 hb.2 hr) t w
          exact ⟨v, by simp [hg, k1], k2⟩
        · cases h
      · cases hx
    · cases h
  · rename_i a b
    obtain ⟨ha, rfl⟩ := str_ren hx
    obtain ⟨hb, rfl⟩ := str_ren hy
    obtain ⟨v, h1, h2⟩ := strOp_run (P := P) (μ := μ) h ha hb w
    refine ⟨v, ?_, h2⟩
    have hg : (eqGuard op t ox oy (.string ⟨(a.map UInt8.ofNat).toArray⟩) (.string ⟨(b.map UInt8.ofNat).toArray⟩)).run P w = .ok () w := by unfold eqGuard; cases op <;> simp
    have hbin : binOp op t (.string ⟨(a.map UInt8.ofNat).toArray⟩) (.string ⟨(b.map UInt8.ofNat).toArray⟩) = Op.stringOp op ⟨(a.map UInt8.ofNat).toArray⟩ ⟨(b.map UInt8.ofNat).toArray⟩ := by cases op <;> rfl
    simp [hg, hbin, h1]
  · simp only [ren] at hx hy; cases hx; cases hy
    split at h
    · rename_i hc
      have hc' : ((match ox with | .const _ => true | _ => false) || (match oy with | .const _ => true | _ => false)) = true := by
        unfold isNilC at hc
        cases ox <;> cases oy <;> simp at hc ⊢
      have hg : ∀ op, (eqGuard op t ox oy .nilIface .nilIface).run P w = .ok () w := by
        intro op
        unfold eqGuard
        cases op <;> simp
        all_goals (cases ox <;> cases oy <;> simp at hc' ⊢)
      split at h
      · rename_i ms hu
        cases h
        refine ⟨.bool true, ?_, rfl⟩
        simp [hg, binOp, eq_nili hu]
      · rename_i ms hu
        cases h
        refine ⟨.bool false, ?_, rfl⟩
        simp [hg, binOp, eq_nili hu]
      · cases h
    · cases h
  · split at h
    · simp only [Option.map_eq_some_iff] at h
      obtain ⟨r, hr, rfl⟩ := h
      exact ⟨_, (eqOpS_run hr hx hy ox oy w).1, rfl⟩
    · simp only [Option.map_eq_some_iff] at h
      obtain ⟨r, hr, rfl⟩ := h
      exact ⟨_, (eqOpS_run hr hx hy ox oy w).2, rfl⟩
    · cases h

theorem unS_run {op : UnOp} {x s : SV} {vx : Value} (h : unS op x = some s) (hx : ren μ x = some vx) (w : World) : ∃ v, (Op.unary op vx).run P w = .ok v w ∧ ren μ s = some v := by
  unfold unS at h
  split at h
  · simp only [ren] at hx; cases hx; cases h
    exact ⟨_, by simp [Op.unary, Op.intArith], rfl⟩
  · simp only [ren] at hx; cases hx; cases h
    exact ⟨_, by simp [Op.unary], rfl⟩
  · cases h

theorem convS_run {a b : TypeId} {x s : SV} {vx : Value} (h : convS P a b x = some s) (hx : ren μ x = some vx) (w : World) : ∃ v, (convert a b vx).run P w = .ok v w ∧ ren μ s = some v := by
  unfold convS at h
  split at h
  · rename_i d k k' n hu1 hu2
    simp only [ren] at hx; cases hx; cases h
    exact ⟨_, by simp [convert, run_underlying hu1, run_underlying hu2, Conv.intToInt], rfl⟩
  · rename_i d l hu1 hu2
    obtain ⟨ha, rfl⟩ := str_ren hx
    cases h
    refine ⟨_, ?_, hx⟩
    simp only [convert, Sem.run_bind, run_underlying hu1, run_underlying hu2, Result.andThen_ok]
    cases d <;> simp
  · cases h

end
end Go.Ex
