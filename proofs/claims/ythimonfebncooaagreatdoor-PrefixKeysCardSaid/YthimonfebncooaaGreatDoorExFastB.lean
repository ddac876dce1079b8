/- The executor for the kernel, second part: operations, regions, code, functions; it is the executor. -/
import Derived.Test.YthimonfebncooaaGreatDoorExFast
namespace Go.Ex

/-! integers that are not below zero -/
noncomputable def maxK (k : IntKind) : Nat :=
  @IntKind.rec (fun _ => Nat) 127 32767 2147483647 9223372036854775807 255 65535 4294967295 18446744073709551615 k
theorem wrap_small (k : IntKind) (n : Nat) (h : n ≤ maxK k) : k.wrap (n : Int) = n := by
  cases k
  · exact IntWalk.i8_in _ (by change n ≤ 127 at h; omega)
  · exact IntWalk.i16_in _ (by change n ≤ 32767 at h; omega)
  · exact IntWalk.i32_in _ (by change n ≤ 2147483647 at h; omega)
  · exact IntWalk.i64_in _ (by change n ≤ 9223372036854775807 at h; omega)
  · exact IntWalk.u8_in _ (by change n ≤ 255 at h; omega)
  · exact IntWalk.u16_in _ (by change n ≤ 65535 at h; omega)
  · exact IntWalk.u32_in _ (by change n ≤ 4294967295 at h; omega)
  · exact IntWalk.u64_in _ (by change n ≤ 18446744073709551615 at h; omega)

abbrev NN := IntKind → Nat → Nat → Option SV
abbrev II := IntKind → Int → Int → Option SV
noncomputable def nnAdd : NN := fun k m n => @Bool.rec (fun _ => Option SV) (intOp .add k (Int.ofNat m) (Int.ofNat n)) (some (.int k (.ofNat (Nat.add m n)))) (Nat.ble (Nat.add m n) (maxK k))
noncomputable def nnMul : NN := fun k m n => @Bool.rec (fun _ => Option SV) (intOp .mul k (Int.ofNat m) (Int.ofNat n)) (some (.int k (.ofNat (Nat.mul m n)))) (Nat.ble (Nat.mul m n) (maxK k))
noncomputable def nnSub : NN := fun k m n => @Bool.rec (fun _ => Option SV) (intOp .sub k (Int.ofNat m) (Int.ofNat n))
  (@Bool.rec (fun _ => Option SV) (intOp .sub k (Int.ofNat m) (Int.ofNat n)) (some (.int k (.ofNat (Nat.sub m n)))) (Nat.ble (Nat.sub m n) (maxK k))) (Nat.ble n m)
noncomputable def nnEq : NN := fun _ m n => some (.bool (Nat.beq m n))
noncomputable def nnNe : NN := fun _ m n => some (.bool (@Bool.rec (fun _ => Bool) true false (Nat.beq m n)))
noncomputable def nnLt : NN := fun _ m n => some (.bool (Nat.ble (Nat.add m 1) n))
noncomputable def nnLe : NN := fun _ m n => some (.bool (Nat.ble m n))
noncomputable def nnGt : NN := fun _ m n => some (.bool (Nat.ble (Nat.add n 1) m))
noncomputable def nnGe : NN := fun _ m n => some (.bool (Nat.ble n m))
/-- both not below zero: by f; else by the slow way -/
noncomputable def iiA (op : BinOp) (f : NN) (k : IntKind) (a b : Int) : Option SV :=
  @Int.rec (fun _ => Option SV) (fun m => @Int.rec (fun _ => Option SV) (fun n => f k m n) (fun n => intOp op k (Int.ofNat m) (Int.negSucc n)) b) (fun m => intOp op k (Int.negSucc m) b) a
theorem iiA_eq (op : BinOp) (f : NN) (h : ∀ k m n, f k m n = intOp op k (Int.ofNat m) (Int.ofNat n)) (k : IntKind) (a b : Int) : iiA op f k a b = intOp op k a b := by
  cases a with
  | ofNat m => cases b with
    | ofNat n => exact h k m n
    | negSucc n => rfl
  | negSucc m => rfl
noncomputable def intOpK (op : BinOp) : II :=
  @BinOp.rec (fun _ => II) (iiA .add nnAdd) (iiA .sub nnSub) (iiA .mul nnMul) (intOp .quo) (intOp .rem) (intOp .and) (intOp .or) (intOp .xor) (shiftOp .shl) (shiftOp .shr) (intOp .andNot)
    (iiA .eql nnEq) (iiA .neq nnNe) (iiA .lss nnLt) (iiA .leq nnLe) (iiA .gtr nnGt) (iiA .geq nnGe) op
theorem recb {ρ : Type} (x y : ρ) (b : Bool) : @Bool.rec (fun _ => ρ) x y b = if b = true then y else x := by cases b <;> rfl
theorem nnAdd_eq : ∀ k m n, nnAdd k m n = intOp .add k (Int.ofNat m) (Int.ofNat n) := by
  intro k m n
  unfold nnAdd
  rw [recb]
  split
  · rename_i h
    have := wrap_small k (m + n) (Nat.le_of_ble_eq_true h)
    simp only [intOp]
    rw [show (Int.ofNat m + Int.ofNat n) = ((m + n : Nat) : Int) from rfl, this]; rfl
  · rfl
theorem nnMul_eq : ∀ k m n, nnMul k m n = intOp .mul k (Int.ofNat m) (Int.ofNat n) := by
  intro k m n
  unfold nnMul
  rw [recb]
  split
  · rename_i h
    have := wrap_small k (m * n) (Nat.le_of_ble_eq_true h)
    simp only [intOp]
    rw [show (Int.ofNat m * Int.ofNat n) = ((m * n : Nat) : Int) from rfl, this]; rfl
  · rfl
theorem nnSub_eq : ∀ k m n, nnSub k m n = intOp .sub k (Int.ofNat m) (Int.ofNat n) := by
  intro k m n
  unfold nnSub
  rw [recb, recb]
  split
  · rename_i h0
    have hle := Nat.le_of_ble_eq_true h0
    split
    · rename_i h
      have := wrap_small k (m - n) (Nat.le_of_ble_eq_true h)
      simp only [intOp]
      rw [show (Int.ofNat m - Int.ofNat n) = ((m - n : Nat) : Int) from (Int.ofNat_sub hle).symm, this]; rfl
    · rfl
  · rfl
theorem bool_eq_of {a b : Bool} (h : a = true ↔ b = true) : a = b := by cases a <;> cases b <;> simp_all
theorem some_bool {a b : Bool} (h : a = true ↔ b = true) : some (SV.bool a) = some (SV.bool b) := by rw [bool_eq_of h]
theorem intOpK_eq (op : BinOp) (k : IntKind) (a b : Int) (h : isShift op = false) : intOpK op k a b = intOp op k a b := by
  cases op
  case add => exact iiA_eq _ _ nnAdd_eq k a b
  case sub => exact iiA_eq _ _ nnSub_eq k a b
  case mul => exact iiA_eq _ _ nnMul_eq k a b
  case shl => cases h
  case shr => cases h
  case eql =>
    refine iiA_eq _ _ (fun k m n => ?_) k a b
    refine some_bool ?_
    rw [beq_dec]
    simp only [beq_iff_eq]
    constructor
    · intro e; rw [e]
    · intro e; exact Int.ofNat.inj e
  case neq =>
    refine iiA_eq _ _ (fun k m n => ?_) k a b
    refine some_bool ?_
    rw [recb, beq_dec]
    simp only [bne_iff_ne, beq_iff_eq]
    constructor
    · intro e he
      rw [if_pos (Int.ofNat.inj he)] at e; cases e
    · intro e
      rw [if_neg (fun he => e (by rw [he]))]
  case lss =>
    refine iiA_eq _ _ (fun k m n => ?_) k a b
    refine some_bool ?_
    rw [Nat.ble_eq, decide_eq_true_iff]
    exact ⟨fun h => Int.ofNat_lt.2 h, fun h => Int.ofNat_lt.1 h⟩
  case leq =>
    refine iiA_eq _ _ (fun k m n => ?_) k a b
    refine some_bool ?_
    rw [Nat.ble_eq, decide_eq_true_iff]
    exact ⟨fun h => Int.ofNat_le.2 h, fun h => Int.ofNat_le.1 h⟩
  case gtr =>
    refine iiA_eq _ _ (fun k m n => ?_) k a b
    refine some_bool ?_
    rw [Nat.ble_eq, decide_eq_true_iff]
    exact ⟨fun h => Int.ofNat_lt.2 h, fun h => Int.ofNat_lt.1 h⟩
  case geq =>
    refine iiA_eq _ _ (fun k m n => ?_) k a b
    refine some_bool ?_
    rw [Nat.ble_eq, decide_eq_true_iff]
    exact ⟨fun h => Int.ofNat_le.2 h, fun h => Int.ofNat_le.1 h⟩
  all_goals rfl
theorem intOpK_shift (op : BinOp) (k : IntKind) (a b : Int) (h : isShift op = true) : intOpK op k a b = shiftOp op k a b := by
  cases op <;> first | rfl | cases h

noncomputable def kEq (j k : IntKind) : Bool := Nat.beq (maxK j) (maxK k)
theorem kEq_eq (j k : IntKind) : kEq j k = decide (j = k) := by
  cases j <;> cases k <;> rfl
noncomputable def isShiftK (op : BinOp) : Bool :=
  @BinOp.rec (fun _ => Bool) false false false false false false false false true true false false false false false false false op
theorem isShiftK_eq (op : BinOp) : isShiftK op = isShift op := by cases op <;> rfl
noncomputable def orK (a b : Bool) : Bool := @Bool.rec (fun _ => Bool) b true a

noncomputable def binII (op : BinOp) (r q : IntKind × Int) : Option SV :=
  @Bool.rec (fun _ => Option SV) none (intOpK op r.1 r.2 q.2) (orK (kEq r.1 q.1) (isShiftK op))
noncomputable def binK (P : Program) (op : BinOp) (t : TypeId) (ox oy : Operand) (x y : SV) : Option SV :=
  @Option.rec (IntKind × Int) (fun _ => Option SV) (binS P op t ox oy x y) (fun r => @Option.rec (IntKind × Int) (fun _ => Option SV) (binS P op t ox oy x y) (fun q => binII op r q) (asInt y)) (asInt x)
theorem binK_eq (P : Program) (op : BinOp) (t : TypeId) (ox oy : Operand) (x y : SV) : binK P op t ox oy x y = binS P op t ox oy x y := by
  cases x <;> try rfl
  rename_i k a
  cases y <;> try rfl
  rename_i k' b
  change binII op (k, a) (k', b) = _
  unfold binII binS
  simp only [isShiftK_eq, kEq_eq, recb]
  cases hs : isShift op
  · rw [intOpK_eq op k a b hs]
    by_cases hk : k = k'
    · subst hk; simp [orK]
    · simp [hk, orK]
  · rw [intOpK_shift op k a b hs]
    by_cases hk : k = k'
    · subst hk; simp [orK]
    · simp [hk, orK]

/-! operations -/
abbrev OpT := Program → Env → Hp → Option Out
noncomputable def vK (o : Option SV) (H : Hp) : Option Out := @Option.rec SV (fun _ => Hp → Option Out) (fun _ => none) (fun v H => some (.val v H)) o H
theorem vK_eq (o : Option SV) (H : Hp) : vK o H = vO H o := by cases o <;> rfl
noncomputable def hK (o : Option Hp) : Option Out := @Option.rec Hp (fun _ => Option Out) none (fun H => some (.val (.tup []) H)) o
theorem hK_eq (o : Option Hp) : hK o = hO o := by cases o <;> rfl
noncomputable def ev1K (E : Env) (x : Operand) (k : SV → Option Out) : Option Out := @Option.rec SV (fun _ => Option Out) none k (evK x E)
noncomputable def ev2K (E : Env) (x y : Operand) (k : SV → SV → Option Out) : Option Out :=
  @Option.rec SV (fun _ => Option Out) none (fun v => @Option.rec SV (fun _ => Option Out) none (fun w => k v w) (evK y E)) (evK x E)
theorem ev1K_eq (E : Env) (x : Operand) (k : SV → Option Out) : ev1K E x k = ev1 E x k := by
  unfold ev1K ev1; rw [evK_eq]; cases ev E x <;> rfl
theorem ev2K_eq (E : Env) (x y : Operand) (k : SV → SV → Option Out) : ev2K E x y k = ev2 E x y k := by
  unfold ev2K ev2; rw [evK_eq, evK_eq]
  cases ev E x with
  | none => rfl
  | some v => cases ev E y <;> rfl

noncomputable def oMove (x : Operand) : OpT := fun _ E H => vK (evK x E) H
noncomputable def oPick (c a b : Operand) : OpT := fun _ E H => @Option.rec SV (fun _ => Option Out) none
  (fun c => ev2K E a b fun a b => @Option.rec Bool (fun _ => Option Out) none (fun t => some (.val (@Bool.rec (fun _ => SV) b a t) H)) (asBool c)) (evK c E)
noncomputable def oAlloc (t : TypeId) : OpT := fun P _ H => @Option.rec SV (fun _ => Option Out) none
  (fun z => some (.val (.ptr H.next 0) { m := setK (.row (stFromK (cellsK z) 0 .e) (lenL (cellsK z)) t false) (pa H.next) H.m, next := Nat.add H.next 1 })) (zeroB P t)
noncomputable def oBox (t : TypeId) (x : Operand) : OpT := fun _ E H => ev1K E x
  (fun z => some (.val (.ptr H.next 0) { m := setK (.row (stFromK (cellsK z) 0 .e) (lenL (cellsK z)) t false) (pa H.next) H.m, next := Nat.add H.next 1 }))
noncomputable def oLoad (t : TypeId) (a : Operand) : OpT := fun P E H => ev1K E a fun a => vK (loadK P H t a) H
noncomputable def oStore (t : TypeId) (a x : Operand) : OpT := fun P E H => ev2K E a x fun a x => hK (storeK P H t a x)
noncomputable def oBin (op : BinOp) (t : TypeId) (x y : Operand) (_ : TypeId) : OpT := fun P E H => ev2K E x y fun v w => vK (binK P op t x y v w) H
noncomputable def oFieldAddr (s : TypeId) (x : Operand) (f : Nat) : OpT := fun P E H => ev1K E x fun v => vK (fieldAddrK P s v f) H
noncomputable def oIndexAddr (t : TypeId) (x i : Operand) : OpT := fun P E H => ev2K E x i fun v i => vK (indexAddrK P t v i) H
noncomputable def oIndex (t : TypeId) (x i : Operand) : OpT := fun P E H => ev2K E x i fun v i => vK (indexS P t v i) H
noncomputable def oField (t : TypeId) (x : Operand) (f : Nat) : OpT := fun P E H => ev1K E x fun v => vK (fieldS P t v f) H
noncomputable def oUn (op : UnOp) (_ : TypeId) (x : Operand) : OpT := fun _ E H => ev1K E x fun v => vK (unS op v) H
noncomputable def oConv (s d : TypeId) (x : Operand) : OpT := fun P E H => ev1K E x fun v => vK (convS P s d v) H
noncomputable def nilSt (v : SV) (H : Hp) : Option Out := match v with
    | .nilp | .nili | .nilf => none
    | .func (.func f) first captured => some (.val (.func (.func f) first captured) H)
    | .func _ _ _ => none
    | v => some (.val v H)
noncomputable def oNil (x : Operand) : OpT := fun _ E H => ev1K E x fun v =>
  @Option.rec (Nat × Nat) (fun _ => Option Out) (nilSt v H) (fun _ => some (.val v H)) (asPtr v)
noncomputable def nthK {α : Type} (l : List α) (n : Nat) : Option α :=
  @Nat.rec (fun _ => List α → Option α) (fun l => @List.rec α (fun _ => Option α) none (fun x _ _ => some x) l) (fun _ ih l => @List.rec α (fun _ => Option α) none (fun _ t _ => ih t) l) n l
theorem nthK_eq {α : Type} : ∀ (n : Nat) (l : List α), nthK l n = nth l n
  | 0, [] => rfl
  | 0, _ :: _ => rfl
  | _ + 1, [] => rfl
  | n + 1, _ :: l => nthK_eq n l
noncomputable def asTup (v : SV) : Option (List SV) :=
  @SV.rec (fun _ => Option (List SV)) (fun _ => Unit) (fun _ => none) (fun _ _ => none) (fun _ _ _ => none) (fun _ => none) (fun _ _ => none) none
    (fun _ _ _ _ => none) none (fun _ _ _ _ _ => none) (fun _ => none) none (fun _ _ _ _ _ => none) none (fun _ _ _ => none) none (fun _ _ => none) (fun l _ => some l) () (fun _ _ _ _ => ()) v
noncomputable def oExtract (x : Operand) (i : Nat) : OpT := fun _ E H => ev1K E x fun v => @Option.rec (List SV) (fun _ => Option Out) none (fun l => vK (nthK l i) H) (asTup v)
noncomputable def oBuild (t : TypeId) (parts : Array (Nat × Operand)) : OpT := fun P E H => match evP E parts.toList with
    | some ps => vO H (buildS P t ps)
    | none => none
noncomputable def oBuildSlice (t : TypeId) (len : Nat) (parts : Array (Nat × Operand)) : OpT := fun P E H => match evP E parts.toList with
    | some ps => pO (buildSliceS P H t len ps)
    | none => none
noncomputable def evLK (E : Env) (l : List Operand) : Option (List SV) :=
  @List.rec Operand (fun _ => Option (List SV)) (some []) (fun x _ ih => @Option.rec SV (fun _ => Option (List SV)) none (fun v => @Option.rec (List SV) (fun _ => Option (List SV)) none (fun r => some (v :: r)) ih) (evK x E)) l
theorem evLK_eq (E : Env) : ∀ l, evLK E l = evL E l
  | [] => rfl
  | x :: l => by
    change @Option.rec SV (fun _ => Option (List SV)) none (fun v => @Option.rec (List SV) (fun _ => Option (List SV)) none (fun r => some (v :: r)) (evLK E l)) (evK x E) = _
    rw [evLK_eq E l, evK_eq, evL]
    cases ev E x with
    | none => rfl
    | some v => cases evL E l <;> rfl
abbrev ClT := Program → Env → Hp → List SV → Array TypeId → Option Out
noncomputable def clB (b : Builtin) : ClT := fun P _ H args ts => builtinS P H b ts args
noncomputable def clV (f : Operand) : ClT := fun P E _ args _ => match ev E f with
      | some (.func (.func g) first captured) => callS P g (first ++ args ++ captured)
      | _ => none
noncomputable def clI (recv : Operand) (name : String) : ClT := fun P E _ args _ => match ev E recv with
      | some (.iface t v) => match methodS P t name with
        | some f => callS P f (v :: args)
        | none => none
      | _ => none
noncomputable def clR (c : Callee) : ClT := @Callee.rec (fun _ => ClT) clV clI clB c
noncomputable def oCall (c : Call) : OpT := fun P E H => @Option.rec (List SV) (fun _ => Option Out) none (fun args => clR c.callee P E H args c.argTypes) (evLK E c.args.toList)
noncomputable def oElse (op : Op) : OpT := fun P E H => opS P E H op

noncomputable def opK (op : Op) : OpT :=
  @Op.rec (fun _ => OpT) oMove oMove oPick oAlloc oBox oBuild oBuildSlice (fun t m k v => oElse (.insert t m k v)) oLoad oStore (fun g => oElse (.ready g)) (fun g => oElse (.waits g)) oNil oBin oUn oConv
    (fun t x => oElse (.sliceToArrayPointer t x)) (fun t x => oElse (.makeInterface t x)) (fun f a b => oElse (.makeFunc f a b)) (fun t x => oElse (.makeMap t x)) (fun t x => oElse (.makeChan t x)) (fun t x y => oElse (.makeSlice t x y))
    (fun t x a b c => oElse (.slice t x a b c)) oFieldAddr oField oIndexAddr oIndex (fun t x i c => oElse (.lookup t x i c)) (fun t x i c => oElse (.mapUpdate t x i c)) (fun t x i => oElse (.mapEntry t x i)) (fun t x i c => oElse (.entryStore t x i c))
    (fun t x => oElse (.range t x)) (fun t x => oElse (.next t x)) (fun t => oElse (.entry t)) (fun t x i c => oElse (.typeAssert t x i c)) oExtract oCall (fun c => oElse (.go c)) (fun c => oElse (.defer c)) (fun c => oElse (.panic c))
    (fun t x => oElse (.send t x)) (fun t x c => oElse (.recv t x c)) (fun t x => oElse (.select t x)) op

theorem newRowK (H : Hp) (t : TypeId) (z : SV) : ({ m := setK (.row (stFromK (cellsK z) 0 .e) (lenL (cellsK z)) t false) (pa H.next) H.m, next := Nat.add H.next 1 } : Hp) = newRowS H t z.cells false := by
  rw [setK_eq, stFromK_eq, lenL_eq, cellsK_eq]; rfl

theorem opK_eq (P : Program) (op : Op) (E : Env) (H : Hp) : opK op P E H = opS P E H op := by
  cases op <;> try rfl
  case move x => change vK (evK x E) H = _; rw [vK_eq, evK_eq, opS, ev1]; cases ev E x <;> rfl
  case assign x => change vK (evK x E) H = _; rw [vK_eq, evK_eq, opS, ev1]; cases ev E x <;> rfl
  case pick c a b =>
    change oPick c a b P E H = _
    unfold oPick
    simp only [ev2K_eq, evK_eq, opS, ev3, ev2]
    cases ev E c with
    | none => rfl
    | some c => cases ev E a with
      | none => rfl
      | some a => cases ev E b with
        | none => rfl
        | some b => cases c <;> try rfl
                    rename_i t; cases t <;> rfl
  case alloc t =>
    change oAlloc t P E H = _
    unfold oAlloc
    simp only [newRowK, opS]
    cases zeroB P t <;> rfl
  case box t x =>
    change oBox t x P E H = _
    unfold oBox
    simp only [newRowK, opS, ev1K_eq]
  case load t a =>
    change oLoad t a P E H = _
    unfold oLoad
    simp only [ev1K_eq, vK_eq, loadK_eq, opS]
  case store t a x =>
    change oStore t a x P E H = _
    unfold oStore
    simp only [ev2K_eq, hK_eq, storeK_eq, opS]
  case nilCheck x =>
    change oNil x P E H = _
    unfold oNil
    simp only [ev1K_eq, opS]
    congr 1
    funext v
    cases v <;> first | rfl | (rename_i f _ _; cases f <;> rfl)
  case binOp op t x y u =>
    change oBin op t x y u P E H = _
    unfold oBin
    simp only [ev2K_eq, vK_eq, binK_eq, opS]
  case unOp op t x =>
    change oUn op t x P E H = _
    unfold oUn
    simp only [ev1K_eq, vK_eq, opS]
  case convert s d x =>
    change oConv s d x P E H = _
    unfold oConv
    simp only [ev1K_eq, vK_eq, opS]
  case fieldAddr s x f =>
    change oFieldAddr s x f P E H = _
    unfold oFieldAddr
    simp only [ev1K_eq, vK_eq, fieldAddrK_eq, opS]
  case field s x f =>
    change oField s x f P E H = _
    unfold oField
    simp only [ev1K_eq, vK_eq, opS]
  case indexAddr t x i =>
    change oIndexAddr t x i P E H = _
    unfold oIndexAddr
    simp only [ev2K_eq, vK_eq, indexAddrK_eq, opS]
  case index t x i =>
    change oIndex t x i P E H = _
    unfold oIndex
    simp only [ev2K_eq, vK_eq, opS]
  case extract x i =>
    change oExtract x i P E H = _
    unfold oExtract
    simp only [ev1K_eq, vK_eq, nthK_eq, opS]
    congr 1
    funext v
    cases v <;> rfl
  case call c =>
    change oCall c P E H = _
    unfold oCall
    rw [evLK_eq, opS, callOpS]
    cases evL E c.args.toList with
    | none => rfl
    | some args =>
      simp only
      cases c.callee <;> rfl

/-! regions -/
noncomputable def putK (N : Nat) (E : Env) (d : Option Tmp) (v : SV) : Option Env :=
  @Option.rec Tmp (fun _ => Option Env) (some E) (fun t => @Bool.rec (fun _ => Option Env) none (some (setK v (pa t) E)) (Nat.ble (Nat.add t 1) N)) d
theorem putK_eq (N : Nat) (E : Env) (d : Option Tmp) (v : SV) : putK N E d v = putS N E d v := by
  cases d with
  | none => rfl
  | some t =>
    change @Bool.rec (fun _ => Option Env) none (some (setK v (pa t) E)) (Nat.ble (t + 1) N) = _
    rw [recb, setK_eq, putS]
    simp only [Nat.ble_eq]
    by_cases h : t < N
    · rw [if_pos (show t + 1 ≤ N from h), if_pos h]
    · rw [if_neg (show ¬ t + 1 ≤ N from h), if_neg h]
noncomputable def nilB (l : List SV) : Option Bool := @List.rec SV (fun _ => Option Bool) (some false) (fun _ _ _ => none) l
noncomputable def eqB (a b : Bool) : Bool := @Bool.rec (fun _ => Bool → Bool) (fun b => @Bool.rec (fun _ => Bool) true false b) (fun b => b) a b
noncomputable def wantV (want : Bool) (v : SV) : Option Bool :=
  @Option.rec Bool (fun _ => Option Bool) (@Option.rec (List SV) (fun _ => Option Bool) none nilB (asTup v)) (fun b => some (eqB b want)) (asBool v)
noncomputable def gdTmp (ops : Array Oper) (j : Nat) : Option Tmp := (ops[j]?).bind (·.dst)
noncomputable def wantedK (ops : Array Oper) (E : Env) (o : Oper) : Option Bool :=
  @Option.rec (Nat × Bool) (fun _ => Option Bool) (some true) (fun g => @Option.rec Tmp (fun _ => Option Bool) (some false) (fun t => @Option.rec SV (fun _ => Option Bool) none (fun v => wantV g.2 v) (getK (pa t) E)) (gdTmp ops g.1)) o.guard
theorem wantedK_eq (ops : Array Oper) (E : Env) (o : Oper) : wantedK ops E o = wantedS ops E o := by
  unfold wantedK wantedS
  cases o.guard with
  | none => rfl
  | some g =>
    obtain ⟨j, want⟩ := g
    simp only [getK_eq]
    change @Option.rec Tmp (fun _ => Option Bool) (some false) (fun t => @Option.rec SV (fun _ => Option Bool) none (fun v => wantV want v) (Tr.get (pa t) E)) ((ops[j]?).bind (·.dst)) = _
    cases (ops[j]?).bind (·.dst) with
    | none => rfl
    | some t =>
      simp only
      cases Tr.get (pa t) E with
      | none => rfl
      | some v =>
        cases v <;> try rfl
        case bool b => cases b <;> cases want <;> rfl
        case tup l => cases l <;> rfl
noncomputable def oVal (v : SV) (H : Hp) (N : Nat) (_ : CallF) (d : Option Tmp) (E : Env) (_ : Hp) : Option (Env × Hp) :=
  @Option.rec Tmp (fun _ => Option (Env × Hp)) (some (E, H)) (fun t => @Bool.rec (fun _ => Option (Env × Hp)) none (some (setK v (pa t) E, H)) (Nat.ble (Nat.add t 1) N)) d
noncomputable def oCalled (f : FuncId) (args : List SV) (N : Nat) (call : CallF) (d : Option Tmp) (E : Env) (H : Hp) : Option (Env × Hp) :=
  @Option.rec (SV × Hp) (fun _ => Option (Env × Hp)) none (fun r => @Prod.rec SV Hp (fun _ => Option (Env × Hp)) (fun v H' => oVal v H' N call d E H) r) (call f args H)
noncomputable def outK (o : Out) : Nat → CallF → Option Tmp → Env → Hp → Option (Env × Hp) :=
  @Out.rec (fun _ => Nat → CallF → Option Tmp → Env → Hp → Option (Env × Hp)) oVal oCalled o
noncomputable def runK (P : Program) (N : Nat) (call : CallF) (o : Oper) (E : Env) (H : Hp) : Option (Env × Hp) :=
  @Option.rec Out (fun _ => Option (Env × Hp)) none (fun r => outK r N call o.dst E H) (opK o.op P E H)
abbrev GdT := Program → Nat → CallF → Array Oper → Oper → Env → Hp → Option (Env × Hp)
noncomputable def gdNone : GdT := fun P N call _ o E H => runK P N call o E H
noncomputable def gdSkip : GdT := fun _ N _ _ o E H => @Option.rec Env (fun _ => Option (Env × Hp)) none (fun E' => some (E', H)) (putK N E o.dst (.tup []))
noncomputable def gdBool (b : Bool) : GdT := @Bool.rec (fun _ => GdT) gdSkip gdNone b
noncomputable def gdSome (_ : Nat × Bool) : GdT := fun P N call ops o E H => @Option.rec Bool (fun _ => Option (Env × Hp)) none (fun b => gdBool b P N call ops o E H) (wantedK ops E o)
noncomputable def stepK : GdT := fun P N call ops o E H => @Option.rec (Nat × Bool) (fun _ => GdT) gdNone gdSome o.guard P N call ops o E H

theorem oVal_eq (v : SV) (H : Hp) (N : Nat) (call : CallF) (d : Option Tmp) (E : Env) (H0 : Hp) : oVal v H N call d E H0 = match putS N E d v with
      | some E' => some (E', H)
      | none => none := by
  cases d with
  | none => rfl
  | some t =>
    change @Bool.rec (fun _ => Option (Env × Hp)) none (some (setK v (pa t) E, H)) (Nat.ble (t + 1) N) = _
    rw [recb, setK_eq, putS]
    simp only [Nat.ble_eq]
    by_cases h : t < N
    · rw [if_pos (show t + 1 ≤ N from h), if_pos h]
    · rw [if_neg (show ¬ t + 1 ≤ N from h), if_neg h]

theorem runK_eq (P : Program) (N : Nat) (call : CallF) (o : Oper) (E : Env) (H : Hp) : runK P N call o E H = match opS P E H o.op with
    | none => none
    | some (.val v H') => match putS N E o.dst v with
      | some E' => some (E', H')
      | none => none
    | some (.call f args) => match call f args H with
      | none => none
      | some (v, H') => match putS N E o.dst v with
        | some E' => some (E', H')
        | none => none := by
  unfold runK
  rw [opK_eq]
  cases opS P E H o.op with
  | none => rfl
  | some r => cases r with
    | val v H' => exact oVal_eq v H' N call o.dst E H
    | call f args =>
      change oCalled f args N call o.dst E H = _
      unfold oCalled
      simp only
      cases call f args H with
      | none => rfl
      | some r => exact oVal_eq r.1 r.2 N call o.dst E H

theorem stepK_eq (P : Program) (N : Nat) (call : CallF) (ops : Array Oper) (o : Oper) (E : Env) (H : Hp) : stepK P N call ops o E H = stepS P N call ops o E H := by
  unfold stepK stepS
  cases hg : o.guard with
  | some g =>
    change @Option.rec Bool (fun _ => Option (Env × Hp)) none (fun b => gdBool b P N call ops o E H) (wantedK ops E o) = _
    rw [wantedK_eq]
    cases wantedS ops E o with
    | none => rfl
    | some b => cases b with
      | false =>
        change @Option.rec Env (fun _ => Option (Env × Hp)) none (fun E' => some (E', H)) (putK N E o.dst (.tup [])) = _
        rw [putK_eq]
        cases putS N E o.dst (.tup []) <;> rfl
      | true => exact runK_eq P N call o E H
  | none =>
    change runK P N call o E H = _
    rw [runK_eq]
    have : wantedS ops E o = some true := by unfold wantedS; rw [hg]
    rw [this]
    rfl

/-! regions that draw -/
noncomputable def intEqK (a b : Int) : Bool :=
  @Int.rec (fun _ => Int → Bool) (fun m b => @Int.rec (fun _ => Bool) (fun n => Nat.beq m n) (fun _ => false) b) (fun m b => @Int.rec (fun _ => Bool) (fun _ => false) (fun n => Nat.beq m n) b) a b
theorem intEqK_eq (a b : Int) : intEqK a b = (a == b) := by
  cases a <;> cases b
  · rename_i m n
    change Nat.beq m n = _
    rw [beq_dec]
    refine bool_eq_of ?_
    simp only [beq_iff_eq]
    exact ⟨fun h => by rw [h], fun h => Int.ofNat.inj h⟩
  · refine bool_eq_of ?_
    simp only [beq_iff_eq]
    exact ⟨fun h => (nomatch h), fun h => (nomatch h)⟩
  · refine bool_eq_of ?_
    simp only [beq_iff_eq]
    exact ⟨fun h => (nomatch h), fun h => (nomatch h)⟩
  · rename_i m n
    change Nat.beq m n = _
    rw [beq_dec]
    refine bool_eq_of ?_
    simp only [beq_iff_eq]
    exact ⟨fun h => by rw [h], fun h => Int.negSucc.inj h⟩
noncomputable def andK (a b : Bool) : Bool := @Bool.rec (fun _ => Bool) false b a
noncomputable def svEqK (a b : SV) : Bool :=
  @Option.rec (Nat × Nat) (fun _ => Bool) (@Option.rec (IntKind × Int) (fun _ => Bool) (svEq a b) (fun r => @Option.rec (IntKind × Int) (fun _ => Bool) false (fun q => andK (kEq r.1 q.1) (intEqK r.2 q.2)) (asInt b)) (asInt a))
    (fun r => @Option.rec (Nat × Nat) (fun _ => Bool) false (fun q => andK (Nat.beq r.1 q.1) (Nat.beq r.2 q.2)) (asPtr b)) (asPtr a)
theorem svEqK_eq (a b : SV) : svEqK a b = svEq a b := by
  cases a <;> try rfl
  case int k m =>
    cases b <;> try (simp only [svEq]; rfl)
    case int k' n =>
      change andK (kEq k k') (intEqK m n) = _
      rw [kEq_eq, intEqK_eq, svEq]
      cases k <;> cases k' <;> rfl
  case ptr p o =>
    cases b <;> try (simp only [svEq]; rfl)
    case ptr q r =>
      change andK (Nat.beq p q) (Nat.beq o r) = _
      rw [svEq]
      cases Nat.beq p q <;> rfl
noncomputable def valR (o : Option Out) : Bool := @Option.rec Out (fun _ => Bool) false (fun r => @Out.rec (fun _ => Bool) (fun _ _ => true) (fun _ _ => false) r) o
noncomputable def allVal (P : Program) (E : Env) (H : Hp) (l : List Oper) : Bool := @List.rec Oper (fun _ => Bool) true (fun o _ ih => @Bool.rec (fun _ => Bool) false ih (valR (opK o.op P E H))) l
theorem allVal_eq (P : Program) (E : Env) (H : Hp) : ∀ l, allVal P E H l = l.all (valB P E H)
  | [] => rfl
  | o :: l => by
    change @Bool.rec (fun _ => Bool) false (allVal P E H l) (valR (opK o.op P E H)) = _
    rw [allVal_eq P E H l, opK_eq, List.all_cons, valB]
    cases opS P E H o.op with
    | none => rfl
    | some r => cases r <;> rfl
noncomputable def holdR (s : SV) (o : Option Out) : Bool := @Option.rec Out (fun _ => Bool) false (fun r => @Out.rec (fun _ => Bool) (fun v _ => svEqK v s) (fun _ _ => false) r) o
noncomputable def holdsK (P : Program) (H : Hp) (t : Tk) : Bool := @Tk.rec (fun _ => Bool) (fun _ E o s => holdR s (opK o.op P E H)) t
noncomputable def allHolds (P : Program) (H : Hp) (l : List Tk) : Bool := @List.rec Tk (fun _ => Bool) true (fun t _ ih => @Bool.rec (fun _ => Bool) false ih (holdsK P H t)) l
theorem holdsK_eq (P : Program) (H : Hp) (t : Tk) : holdsK P H t = holdsB P H t := by
  obtain ⟨i, E, o, s⟩ := t
  change holdR s (opK o.op P E H) = _
  rw [opK_eq, holdsB]
  simp only
  cases opS P E H o.op with
  | none => rfl
  | some r => cases r with
    | val v H => exact svEqK_eq v s
    | call => rfl
theorem allHolds_eq (P : Program) (H : Hp) : ∀ l, allHolds P H l = l.all (holdsB P H)
  | [] => rfl
  | t :: l => by
    change @Bool.rec (fun _ => Bool) false (allHolds P H l) (holdsK P H t) = _
    rw [allHolds_eq P H l, holdsK_eq, List.all_cons]
    cases holdsB P H t <;> rfl
noncomputable def dropTk (o : Oper) (l : List Tk) : List Tk :=
  @List.rec Tk (fun _ => List Tk) [] (fun t _ ih => @Tk.rec (fun _ => Tk → List Tk → List Tk) (fun i _ _ _ t ih => @Bool.rec (fun _ => List Tk) (t :: ih) ih (waitsB o i)) t t ih) l
theorem dropTk_eq (o : Oper) : ∀ l, dropTk o l = l.filter fun t => !waitsB o t.i
  | [] => rfl
  | t :: l => by
    change @Bool.rec (fun _ => List Tk) (t :: dropTk o l) (dropTk o l) (waitsB o t.i) = _
    rw [dropTk_eq o l, List.filter_cons]
    cases waitsB o t.i <;> rfl
abbrev ER := Option (Env × Hp)
abbrev IhT := List Tk → Env → Hp → ER
abbrev DwT := Program → Nat → CallF → Array Oper → SStep → List SStep → IhT → List Tk → Env → Hp → ER
noncomputable def dSkip : DwT := fun P N _ _ s rest ih tk E H => @Option.rec Env (fun _ => ER) none
  (fun E' => @Bool.rec (fun _ => ER) none (ih tk E' H) (orK s.quiet (allVal P E H (floatsOf s rest)))) (putK N E s.o.dst (.tup []))
abbrev QvT := Nat → SStep → IhT → List Tk → Env → Hp → ER
noncomputable def qVal (v : SV) (_ : Hp) : QvT := fun N s ih tk E H => @Option.rec Env (fun _ => ER) none
  (fun E' => ih (@Bool.rec (fun _ => List Tk) tk ({ i := s.i, E := E, o := s.o, s := v } :: tk) s.read) E' H) (putK N E s.o.dst v)
noncomputable def qCall (_ : FuncId) (_ : List SV) : QvT := fun _ _ _ _ _ _ => none
noncomputable def dQuiet : DwT := fun P N _ _ s _ ih tk E H => @Option.rec Out (fun _ => ER) none (fun r => @Out.rec (fun _ => QvT) qVal qCall r N s ih tk E H) (opK s.o.op P E H)
noncomputable def dLoud1 (P : Program) (s : SStep) (rest : List SStep) (ih : IhT) (tk' : List Tk) (E : Env) (H : Hp) (E' : Env) (H' : Hp) : ER :=
  @Bool.rec (fun _ => ER) none (ih tk' E' H') (andK (allVal P E H (floatsOf s rest)) (allHolds P H' tk'))
noncomputable def dLoud : DwT := fun P N call ops s rest ih tk E H => @Option.rec (Env × Hp) (fun _ => ER) none
  (fun r => @Prod.rec Env Hp (fun _ => ER) (fun E' H' => dLoud1 P s rest ih (dropTk s.o tk) E H E' H') r) (stepK P N call ops s.o E H)
noncomputable def dGo : DwT := fun P N call ops s rest ih tk E H => @Bool.rec (fun _ => DwT) dLoud dQuiet s.quiet P N call ops s rest ih tk E H
noncomputable def dBool (b : Bool) : DwT := @Bool.rec (fun _ => DwT) dSkip dGo b
noncomputable def drawK (P : Program) (N : Nat) (call : CallF) (ops : Array Oper) (l : List SStep) (tk : List Tk) (E : Env) (H : Hp) : ER :=
  @List.rec SStep (fun _ => IhT) (fun _ E H => some (E, H)) (fun s rest ih tk E H => @Option.rec Bool (fun _ => ER) none (fun b => dBool b P N call ops s rest ih tk E H) (wantedK ops E s.o)) l tk E H
theorem drawK_eq (P : Program) (N : Nat) (call : CallF) (ops : Array Oper) : ∀ (l : List SStep) (tk : List Tk) (E : Env) (H : Hp), drawK P N call ops l tk E H = drawS P N call ops l tk E H
  | [], _, _, _ => rfl
  | s :: rest, tk, E, H => by
    have ih := drawK_eq P N call ops rest
    change @Option.rec Bool (fun _ => ER) none (fun b => dBool b P N call ops s rest (drawK P N call ops rest) tk E H) (wantedK ops E s.o) = _
    rw [wantedK_eq, drawS]
    cases wantedS ops E s.o with
    | none => rfl
    | some b => cases b with
      | false =>
        change dSkip P N call ops s rest (drawK P N call ops rest) tk E H = _
        unfold dSkip
        rw [putK_eq]
        simp only
        cases putS N E s.o.dst (.tup []) with
        | none => rfl
        | some E' =>
          simp only [allVal_eq, ih, recb]
          cases s.quiet <;> cases (floatsOf s rest).all (valB P E H) <;> rfl
      | true =>
        change dGo P N call ops s rest (drawK P N call ops rest) tk E H = _
        unfold dGo
        cases hq : s.quiet with
        | true =>
          change dQuiet P N call ops s rest (drawK P N call ops rest) tk E H = _
          unfold dQuiet
          rw [opK_eq]
          simp only
          cases opS P E H s.o.op with
          | none => rfl
          | some r => cases r with
            | call => rfl
            | val v H' =>
              change qVal v H' N s (drawK P N call ops rest) tk E H = _
              unfold qVal
              rw [putK_eq]
              simp only
              cases putS N E s.o.dst v with
              | none => rfl
              | some E' =>
                simp only [ih]
                cases s.read <;> rfl
        | false =>
          change dLoud P N call ops s rest (drawK P N call ops rest) tk E H = _
          unfold dLoud
          rw [stepK_eq]
          simp only
          cases stepS P N call ops s.o E H with
          | none => rfl
          | some r =>
            obtain ⟨E', H'⟩ := r
            change dLoud1 P s rest (drawK P N call ops rest) (dropTk s.o tk) E H E' H' = _
            unfold dLoud1
            rw [dropTk_eq, allVal_eq, allHolds_eq, ih]
            simp only [recb]
            cases (floatsOf s rest).all (valB P E H) <;> cases (tk.filter fun t => !waitsB s.o t.i).all (holdsB P H') <;> rfl

noncomputable def opsK (P : Program) (N : Nat) (call : CallF) (ops : Array Oper) (l : List Oper) (E : Env) (H : Hp) : Option (Env × Hp) :=
  @List.rec Oper (fun _ => Env → Hp → Option (Env × Hp)) (fun E H => some (E, H))
    (fun o _ ih E H => @Option.rec (Env × Hp) (fun _ => Option (Env × Hp)) none (fun r => @Prod.rec Env Hp (fun _ => Option (Env × Hp)) ih r) (stepK P N call ops o E H)) l E H
theorem opsK_eq (P : Program) (N : Nat) (call : CallF) (ops : Array Oper) : ∀ (l : List Oper) (E : Env) (H : Hp), opsK P N call ops l E H = opsS P N call ops l E H
  | [], _, _ => rfl
  | o :: l, E, H => by
    change @Option.rec (Env × Hp) (fun _ => Option (Env × Hp)) none (fun r => @Prod.rec Env Hp (fun _ => Option (Env × Hp)) (opsK P N call ops l) r) (stepK P N call ops o E H) = _
    rw [stepK_eq, opsS]
    cases stepS P N call ops o E H with
    | none => rfl
    | some r => exact opsK_eq P N call ops l r.1 r.2

/-! code -/
abbrev Xr := Option (Xt × Env × Hp)
abbrev CdT := Program → Nat → CallF → Env → Hp → Xr
noncomputable def cSkip : CdT := fun _ _ _ E H => some (.normal, E, H)
noncomputable def cRegF : Array Oper → CdT := fun ops P N call E H => @Option.rec (Env × Hp) (fun _ => Xr) none (fun r => some (.normal, r.1, r.2)) (opsK P N call ops ops.toList E H)
noncomputable def cRegT : Array Oper → CdT := fun ops P N call E H => @Option.rec (List SStep) (fun _ => Xr) none
  (fun l => @Option.rec (Env × Hp) (fun _ => Xr) none (fun r => some (.normal, r.1, r.2)) (drawK P N call ops l [] E H)) (sched ops)
noncomputable def cReg (_ : Nat) (ops : Array Oper) (d : Bool) : CdT := @Bool.rec (fun _ => Array Oper → CdT) cRegF cRegT d ops
abbrev XkT := CdT → Program → Nat → CallF → Env → Hp → Xr
noncomputable def xNormal : XkT := fun b P N call E H => b P N call E H
noncomputable def xExit (i : Nat) : XkT := fun _ _ _ _ E H => some (.exit i, E, H)
noncomputable def xRet : XkT := fun _ _ _ _ E H => some (.ret, E, H)
noncomputable def cSeq (_ _ : Code) (a b : CdT) : CdT := fun P N call E H => @Option.rec (Xt × Env × Hp) (fun _ => Xr) none
  (fun r => @Xt.rec (fun _ => XkT) xNormal xExit xRet r.1 b P N call r.2.1 r.2.2) (a P N call E H)
noncomputable def cCond (c : Operand) (_ _ : Code) (a b : CdT) : CdT := fun P N call E H => @Option.rec SV (fun _ => Xr) none
  (fun v => @Option.rec Bool (fun _ => Xr) none (fun t => @Bool.rec (fun _ => CdT) b a t P N call E H) (asBool v)) (evK c E)
abbrev BkT := Nat → Env → Hp → Xr
noncomputable def bNormal : BkT := fun _ E H => some (.normal, E, H)
noncomputable def bExit (i : Nat) : BkT := fun id E H => @Bool.rec (fun _ => Xr) (some (.exit i, E, H)) (some (.normal, E, H)) (Nat.beq i id)
noncomputable def bRet : BkT := fun _ E H => some (.ret, E, H)
noncomputable def cBlock (id : Nat) (_ : Code) (c : CdT) : CdT := fun P N call E H => @Option.rec (Xt × Env × Hp) (fun _ => Xr) none
  (fun r => @Xt.rec (fun _ => BkT) bNormal bExit bRet r.1 id r.2.1 r.2.2) (c P N call E H)
abbrev LkT := (Env → Hp → Xr) → Env → Hp → Xr
noncomputable def lNormal : LkT := fun k E H => k E H
noncomputable def lExit (i : Nat) : LkT := fun _ E H => some (.exit i, E, H)
noncomputable def lRet : LkT := fun _ E H => some (.ret, E, H)
noncomputable def loopK (body : Env → Hp → Xr) (n : Nat) (E : Env) (H : Hp) : Xr :=
  @Nat.rec (fun _ => Env → Hp → Xr) (fun _ _ => none) (fun _ ih E H => @Option.rec (Xt × Env × Hp) (fun _ => Xr) none (fun r => @Xt.rec (fun _ => LkT) lNormal lExit lRet r.1 ih r.2.1 r.2.2) (body E H)) n E H
noncomputable def cLoop (_ : Code) (c : CdT) : CdT := fun P N call E H => loopK (c P N call) loopFuel E H
noncomputable def cScope (_ : Code) (c : CdT) : CdT := c
noncomputable def cNone : CdT := fun _ _ _ _ _ => none
noncomputable def cRet : CdT := fun _ _ _ E H => some (.ret, E, H)
noncomputable def cExit (i : Nat) : CdT := fun _ _ _ E H => some (.exit i, E, H)
noncomputable def codeK (c : Code) : CdT :=
  @Code.rec (fun _ => CdT) cSkip cReg cSeq cCond cBlock cLoop (fun _ _ _ _ _ _ => cNone) cExit cScope (fun _ => cSkip) (fun _ => cNone) cRet (fun _ => cNone) c

theorem loopK_eq (b b' : Env → Hp → Xr) (hb : ∀ E H, b E H = b' E H) : ∀ (n : Nat) (E : Env) (H : Hp), loopK b n E H = loopS b' n E H
  | 0, _, _ => rfl
  | n + 1, E, H => by
    change @Option.rec (Xt × Env × Hp) (fun _ => Xr) none (fun r => @Xt.rec (fun _ => LkT) lNormal lExit lRet r.1 (loopK b n) r.2.1 r.2.2) (b E H) = _
    rw [hb, loopS]
    cases b' E H with
    | none => rfl
    | some r =>
      obtain ⟨x, E', H'⟩ := r
      cases x with
      | normal => exact loopK_eq b b' hb n E' H'
      | exit i => rfl
      | ret => rfl

theorem codeK_eq (P : Program) (N : Nat) (call : CallF) : ∀ (c : Code) (E : Env) (H : Hp), codeK c P N call E H = codeS P N call c E H
  | .skip, _, _ => rfl
  | .label _, _, _ => rfl
  | .ret, _, _ => rfl
  | .exit _, _, _ => rfl
  | .goto _, _, _ => rfl
  | .refuse _, _, _ => rfl
  | .rangeFunc _ _ _ _, _, _ => rfl
  | .region _ ops false, E, H => by
    change cRegF ops P N call E H = _
    unfold cRegF
    rw [opsK_eq, codeS]
    cases opsS P N call ops ops.toList E H <;> rfl
  | .region _ ops true, E, H => by
    change cRegT ops P N call E H = _
    unfold cRegT
    rw [codeS]
    cases sched ops with
    | none => rfl
    | some l =>
      simp only [drawK_eq]
      cases drawS P N call ops l [] E H <;> rfl
  | .seq a b, E, H => by
    change @Option.rec (Xt × Env × Hp) (fun _ => Xr) none
      (fun r => @Xt.rec (fun _ => XkT) xNormal xExit xRet r.1 (codeK b) P N call r.2.1 r.2.2) (codeK a P N call E H) = _
    rw [codeK_eq P N call a E H, codeS]
    cases codeS P N call a E H with
    | none => rfl
    | some r =>
      obtain ⟨x, E', H'⟩ := r
      cases x with
      | normal => exact codeK_eq P N call b E' H'
      | exit i => rfl
      | ret => rfl
  | .cond c a b, E, H => by
    change @Option.rec SV (fun _ => Xr) none
      (fun v => @Option.rec Bool (fun _ => Xr) none (fun t => @Bool.rec (fun _ => CdT) (codeK b) (codeK a) t P N call E H) (asBool v)) (evK c E) = _
    rw [evK_eq, codeS]
    cases ev E c with
    | none => rfl
    | some v =>
      cases v <;> try rfl
      rename_i t
      cases t
      · exact codeK_eq P N call b E H
      · exact codeK_eq P N call a E H
  | .block id c, E, H => by
    change @Option.rec (Xt × Env × Hp) (fun _ => Xr) none
      (fun r => @Xt.rec (fun _ => BkT) bNormal bExit bRet r.1 id r.2.1 r.2.2) (codeK c P N call E H) = _
    rw [codeK_eq P N call c E H, codeS]
    cases codeS P N call c E H with
    | none => rfl
    | some r =>
      obtain ⟨x, E', H'⟩ := r
      cases x with
      | normal => rfl
      | exit i => exact recb _ _ _
      | ret => rfl
  | .loop c, E, H => by
    change loopK (codeK c P N call) loopFuel E H = _
    rw [codeS]
    exact loopK_eq _ _ (codeK_eq P N call c) _ E H
  | .scope c, E, H => by
    change codeK c P N call E H = _
    rw [codeK_eq P N call c E H, codeS]

/-! functions -/
noncomputable def rvT (t : Tmp) (_ : Program) (E : Env) (_ : Hp) : Option SV := getK (pa t) E
noncomputable def rvC (a : Tmp) (t : TypeId) (P : Program) (E : Env) (H : Hp) : Option SV := @Option.rec SV (fun _ => Option SV) none (fun a => loadK P H t a) (getK (pa a) E)
noncomputable def rvK (r : ResultVar) : Program → Env → Hp → Option SV := @ResultVar.rec (fun _ => Program → Env → Hp → Option SV) rvT rvC r
theorem rvK_eq (P : Program) (E : Env) (H : Hp) (r : ResultVar) : rvK r P E H = resV P E H r := by
  cases r with
  | tmp t => exact getK_eq _ _
  | cell a t =>
    change rvC a t P E H = _
    unfold rvC
    rw [getK_eq, resV]
    cases Tr.get (pa a) E with
    | none => rfl
    | some v => exact loadK_eq P H t v
noncomputable def rvLK (P : Program) (E : Env) (H : Hp) (l : List ResultVar) : Option (List SV) :=
  @List.rec ResultVar (fun _ => Option (List SV)) (some []) (fun r _ ih => @Option.rec SV (fun _ => Option (List SV)) none (fun v => @Option.rec (List SV) (fun _ => Option (List SV)) none (fun l => some (v :: l)) ih) (rvK r P E H)) l
theorem rvLK_eq (P : Program) (E : Env) (H : Hp) : ∀ l, rvLK P E H l = mapO (resV P E H) l
  | [] => rfl
  | r :: l => by
    change @Option.rec SV (fun _ => Option (List SV)) none (fun v => @Option.rec (List SV) (fun _ => Option (List SV)) none (fun l => some (v :: l)) (rvLK P E H l)) (rvK r P E H) = _
    rw [rvLK_eq P E H l, rvK_eq, mapO]
    cases resV P E H r with
    | none => rfl
    | some v => cases mapO (resV P E H) l <;> rfl
noncomputable def oneOf (l : List SV) : SV := @List.rec SV (fun _ => SV) (.tup []) (fun v t _ => @List.rec SV (fun _ => SV) v (fun _ _ _ => .tup l) t) l
noncomputable def resK (P : Program) (E : Env) (H : Hp) (l : List ResultVar) : Option SV := @Option.rec (List SV) (fun _ => Option SV) none (fun l => some (oneOf l)) (rvLK P E H l)
theorem resK_eq (P : Program) (E : Env) (H : Hp) (l : List ResultVar) : resK P E H l = resS P E H l := by
  unfold resK resS
  rw [rvLK_eq]
  cases mapO (resV P E H) l with
  | none => rfl
  | some l => match l with
    | [] => rfl
    | [_] => rfl
    | _ :: _ :: _ => rfl
noncomputable def argsK (l : List SV) (i : Nat) (E : Env) : Env := @List.rec SV (fun _ => Nat → Env → Env) (fun _ E => E) (fun v _ ih i E => ih (Nat.add i 1) (setK v (pa i) E)) l i E
theorem argsK_eq : ∀ (l : List SV) (i : Nat) (E : Env), argsK l i E = argsE l i E
  | [], _, _ => rfl
  | v :: l, i, E => by
    change argsK l (i + 1) (setK v (pa i) E) = _
    rw [argsK_eq l, setK_eq]; rfl
def bodyOf (P : Program) (f : FuncId) : Option (Func × Code) :=
  match P.funcs[f]? with
  | none => none
  | some fn => match fn.body with
    | none => none
    | some c => some (fn, c)
abbrev FkT := Program → Func → Env → Hp → Option (SV × Hp)
noncomputable def fDone : FkT := fun P fn E H => @Option.rec SV (fun _ => Option (SV × Hp)) none (fun v => some (v, H)) (resK P E H fn.results.toList)
noncomputable def fExit (_ : Nat) : FkT := fun _ _ _ _ => none
noncomputable def fnBody (P : Program) (call : CallF) (fn : Func) (c : Code) (args : List SV) (H : Hp) : Option (SV × Hp) :=
  @Bool.rec (fun _ => Option (SV × Hp)) none (@Option.rec (Xt × Env × Hp) (fun _ => Option (SV × Hp)) none (fun r => @Xt.rec (fun _ => FkT) fDone fExit fDone r.1 P fn r.2.1 r.2.2)
    (codeK c P fn.ntmps call (argsK args 0 .e) H)) (Nat.ble (lenL args) fn.ntmps)
noncomputable def fnK (P : Program) (n : Nat) : CallF :=
  @Nat.rec (fun _ => CallF) (fun _ _ _ => none) (fun _ call f args H => @Option.rec (Func × Code) (fun _ => Option (SV × Hp)) none (fun r => fnBody P call r.1 r.2 args H) (bodyOf P f)) n
theorem fnK_eq (P : Program) : ∀ n, fnK P n = fnS P n
  | 0 => rfl
  | n + 1 => by
    funext f args H
    change @Option.rec (Func × Code) (fun _ => Option (SV × Hp)) none (fun r => fnBody P (fnK P n) r.1 r.2 args H) (bodyOf P f) = _
    rw [fnK_eq P n, fnS]
    unfold bodyOf
    cases P.funcs[f]? with
    | none => rfl
    | some fn =>
      simp only
      cases fn.body with
      | none => rfl
      | some c =>
        change fnBody P (fnS P n) fn c args H = _
        unfold fnBody
        rw [recb, codeK_eq, argsK_eq, lenL_eq]
        simp only [Nat.ble_eq]
        split
        · cases codeS P fn.ntmps (fnS P n) c (argsE args 0 .e) H with
          | none => rfl
          | some r =>
            obtain ⟨x, E', H'⟩ := r
            cases x with
            | normal =>
              change fDone P fn E' H' = _
              unfold fDone
              simp only [resK_eq]
              cases resS P E' H' fn.results.toList <;> rfl
            | exit i => rfl
            | ret =>
              change fDone P fn E' H' = _
              unfold fDone
              simp only [resK_eq]
              cases resS P E' H' fn.results.toList <;> rfl
        · rfl
end Go.Ex
