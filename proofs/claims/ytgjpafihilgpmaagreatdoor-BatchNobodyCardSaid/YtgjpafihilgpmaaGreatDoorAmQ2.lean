/-
  A part of the proof that the run of an abstract machine, which the kernel can run, is what the program does under its model: no condition of its own.
-/
import Derived.Test.YtgjpafihilgpmaaGreatDoorAmQ1
set_option linter.unusedVariables false
set_option linter.unusedSimpArgs false
set_option maxHeartbeats 1000000
set_option maxRecDepth 100000
noncomputable section
namespace Go.Am
open Go

/-! ### whole numbers -/
def kIdx (k : IntKind) : Nat := IntKind.rec (motive := fun _ => Nat) 0 1 2 3 4 5 6 7 k
def kEq (k k' : IntKind) : Bool := Nat.beq (kIdx k) (kIdx k')
theorem kEq_iff (k k' : IntKind) : kEq k k' = decide (k = k') := by cases k <;> cases k' <;> rfl
def kLim (k : IntKind) : Nat := IntKind.rec (motive := fun _ => Nat) 128 32768 2147483648 9223372036854775808 256 65536 4294967296 18446744073709551616 k
def kNeg (k : IntKind) : Nat := IntKind.rec (motive := fun _ => Nat) 128 32768 2147483648 9223372036854775808 0 0 0 0 k
theorem emod_ofNat (m n : Nat) : (Int.ofNat m) % (Int.ofNat n) = Int.ofNat (m % n) := rfl
theorem kLim_eq (k : IntKind) : (if k.signed then (2 ^ (k.bits - 1) : Int) else (2 ^ k.bits : Int)) = Int.ofNat (kLim k) := by cases k <;> decide
theorem wrap_mid {k : IntKind} {n : Int} (h1 : -(kNeg k : Int) ≤ n) (h2 : n < (kLim k : Int)) : k.wrap n = n := by
  have a1 : (2 : Int) ^ 8 = 256 := by decide
  have a2 : (2 : Int) ^ 16 = 65536 := by decide
  have a3 : (2 : Int) ^ 32 = 4294967296 := by decide
  have a4 : (2 : Int) ^ 64 = 18446744073709551616 := by decide
  have b1 : (2 : Int) ^ 7 = 128 := by decide
  have b2 : (2 : Int) ^ 15 = 32768 := by decide
  have b3 : (2 : Int) ^ 31 = 2147483648 := by decide
  have b4 : (2 : Int) ^ 63 = 9223372036854775808 := by decide
  cases k
  all_goals
    simp only [kNeg, kLim] at h1 h2
    unfold IntKind.wrap
    simp only [IntKind.bits, IntKind.signed, Nat.reduceSub, a1, a2, a3, a4, b1, b2, b3, b4, Bool.true_and, Bool.false_and, ge_iff_le, decide_eq_true_eq, Bool.false_eq_true, if_false]
    first | omega | (split <;> omega)
theorem wrap_ofNat {k : IntKind} {m : Nat} (h : m < kLim k) : k.wrap (Int.ofNat m) = Int.ofNat m :=
  wrap_mid (by simp only [Int.ofNat_eq_natCast]; omega) (by simp only [Int.ofNat_eq_natCast]; omega)
theorem wrap_mod {k : IntKind} {m : Nat} (h : kNeg k = 0) : k.wrap (Int.ofNat m) = Int.ofNat (m % kLim k) := by
  have a1 : (2 : Int) ^ 8 = 256 := by decide
  have a2 : (2 : Int) ^ 16 = 65536 := by decide
  have a3 : (2 : Int) ^ 32 = 4294967296 := by decide
  have a4 : (2 : Int) ^ 64 = 18446744073709551616 := by decide
  have e : Int.ofNat m = (m : Int) := rfl
  have e' : ∀ n : Nat, Int.ofNat n = (n : Int) := fun _ => rfl
  cases k <;> simp only [kNeg] at h
  all_goals first | (exfalso; omega) | skip
  all_goals
    unfold IntKind.wrap
    simp only [IntKind.bits, IntKind.signed, a1, a2, a3, a4, Bool.false_and, Bool.false_eq_true, if_false, kLim, e']
    omega
theorem wrap_negSucc {k : IntKind} {m : Nat} (h : m < kNeg k) : k.wrap (Int.negSucc m) = Int.negSucc m := by
  have e : Int.negSucc m = -((m : Int) + 1) := Int.negSucc_eq m
  rw [e]
  exact wrap_mid (by omega) (by have : 0 < kLim k := by cases k <;> decide
                                omega)
def wrapQ (k : IntKind) (n : Int) : Int :=
  Int.rec (motive := fun _ => Int) (fun m => Bool.rec (motive := fun _ => Int) (Bool.rec (motive := fun _ => Int) (k.wrap (Int.ofNat m)) (Int.ofNat (Nat.mod m (kLim k))) (Nat.beq (kNeg k) 0)) (Int.ofNat m) (Nat.ble (Nat.succ m) (kLim k)))
    (fun m => Bool.rec (motive := fun _ => Int) (k.wrap (Int.negSucc m)) (Int.negSucc m) (Nat.ble (Nat.succ m) (kNeg k))) n
theorem wrapQ_eq (k : IntKind) (n : Int) : wrapQ k n = k.wrap n := by
  cases n with
  | ofNat m =>
    show (Bool.rec (motive := fun _ => Int) (Bool.rec (motive := fun _ => Int) (k.wrap (Int.ofNat m)) (Int.ofNat (Nat.mod m (kLim k))) (Nat.beq (kNeg k) 0)) (Int.ofNat m) (Nat.ble (Nat.succ m) (kLim k))) = _
    cases h : Nat.ble (Nat.succ m) (kLim k) with
    | true => exact (wrap_ofNat (Nat.le_of_ble_eq_true h)).symm
    | false =>
      cases h2 : Nat.beq (kNeg k) 0 with
      | true => exact (wrap_mod (Nat.eq_of_beq_eq_true h2)).symm
      | false => rfl
  | negSucc m =>
    show (Bool.rec (motive := fun _ => Int) (k.wrap (Int.negSucc m)) (Int.negSucc m) (Nat.ble (Nat.succ m) (kNeg k))) = _
    cases h : Nat.ble (Nat.succ m) (kNeg k) with
    | true => exact (wrap_negSucc (Nat.le_of_ble_eq_true h)).symm
    | false => rfl
def both {α : Type} (f : Nat → Nat → α) (d : α) (a b : Int) : α :=
  Int.rec (motive := fun _ => α) (fun m => Int.rec (motive := fun _ => α) (fun n => f m n) (fun _ => d) b) (fun _ => d) a
theorem both_eq {α : Type} {f : Nat → Nat → α} {d : α} {a b : Int} (h : ∀ m n : Nat, a = Int.ofNat m → b = Int.ofNat n → f m n = d) : both f d a b = d := by
  cases a with
  | ofNat m => cases b with
    | ofNat n => exact h m n rfl rfl
    | negSucc n => rfl
  | negSucc m => rfl
def addQ (a b : Int) : Int := both (fun m n => Int.ofNat (Nat.add m n)) (a + b) a b
def subQ (a b : Int) : Int := both (fun m n => Bool.rec (motive := fun _ => Int) (Int.negSucc (Nat.sub (Nat.sub n m) 1)) (Int.ofNat (Nat.sub m n)) (Nat.ble n m)) (a - b) a b
def mulQ (a b : Int) : Int := both (fun m n => Int.ofNat (Nat.mul m n)) (a * b) a b
def quoQ (a b : Int) : Int := both (fun m n => Int.ofNat (Nat.div m n)) (a.tdiv b) a b
def remQ (a b : Int) : Int := both (fun m n => Int.ofNat (Nat.mod m n)) (a.tmod b) a b
def ltQ (a b : Int) : Bool := both (fun m n => Nat.ble (Nat.succ m) n) (decide (a < b)) a b
def leQ (a b : Int) : Bool := both (fun m n => Nat.ble m n) (decide (a ≤ b)) a b
def eqQ (a b : Int) : Bool := both (fun m n => Nat.beq m n) (a == b) a b
theorem addQ_eq (a b : Int) : addQ a b = a + b := both_eq fun m n h k => by subst h k; rfl
theorem subQ_eq (a b : Int) : subQ a b = a - b := both_eq fun m n h k => by
  subst h k
  cases q : Nat.ble n m with
  | true =>
    have := Nat.le_of_ble_eq_true q
    show Int.ofNat (m - n) = Int.ofNat m - Int.ofNat n
    simp only [Int.ofNat_eq_natCast]; omega
  | false =>
    have : ¬ n ≤ m := fun h => by rw [Nat.ble_eq_true_of_le h] at q; cases q
    show Int.negSucc (n - m - 1) = Int.ofNat m - Int.ofNat n
    rw [Int.negSucc_eq]; simp only [Int.ofNat_eq_natCast]; omega
theorem mulQ_eq (a b : Int) : mulQ a b = a * b := both_eq fun m n h k => by subst h k; rfl
theorem quoQ_eq (a b : Int) : quoQ a b = a.tdiv b := both_eq fun m n h k => by subst h k; rfl
theorem remQ_eq (a b : Int) : remQ a b = a.tmod b := both_eq fun m n h k => by subst h k; rfl
theorem ltQ_eq (a b : Int) : ltQ a b = decide (a < b) := both_eq fun m n h k => by
  subst h k
  rw [Bool.eq_iff_iff, decide_eq_true_iff]
  constructor
  · intro h; have := Nat.le_of_ble_eq_true h; simp only [Int.ofNat_eq_natCast]; omega
  · intro h; exact Nat.ble_eq_true_of_le (by simp only [Int.ofNat_eq_natCast] at h; omega)
theorem leQ_eq (a b : Int) : leQ a b = decide (a ≤ b) := both_eq fun m n h k => by
  subst h k
  rw [Bool.eq_iff_iff, decide_eq_true_iff]
  constructor
  · intro h; have := Nat.le_of_ble_eq_true h; simp only [Int.ofNat_eq_natCast]; omega
  · intro h; exact Nat.ble_eq_true_of_le (by simp only [Int.ofNat_eq_natCast] at h; omega)
theorem eqQ_eq (a b : Int) : eqQ a b = (a == b) := both_eq fun m n h k => by
  subst h k
  rw [Bool.eq_iff_iff, beq_iff_eq]
  constructor
  · intro h; rw [Nat.eq_of_beq_eq_true h]
  · intro h; simp only [Int.ofNat_eq_natCast] at h; have : m = n := by omega
    subst this; simp

/-! ### operations of two values -/
def binPV (op : BinOp) (u v : Value) : Option Value :=
  match op, u, v with
  | .shl, .int k a, .int _ b => shiftOp .shl k a b
  | .shr, .int k a, .int _ b => shiftOp .shr k a b
  | op, .int k a, .int k' b => if k = k' then intOp op k a b else none
  | op, .string a, .string b => strOp op a b
  | _, _, _ => none
def eqRV (P : Program) (σ : St) (op : BinOp) (t : TypeId) (x y : Value) : Option Value :=
  match op with
  | .eql => bif P.eqGuardType P.depth t then (match x, y with | .nilIface, .nilIface => none | .agg _, .agg _ => none | _, _ => (eqV P σ 40 t x y).map .bool) else (eqV P σ 40 t x y).map .bool
  | .neq => bif P.eqGuardType P.depth t then (match x, y with | .nilIface, .nilIface => none | .agg _, .agg _ => none | _, _ => (eqV P σ 40 t x y).map fun b => .bool !b) else (eqV P σ 40 t x y).map fun b => .bool !b
  | _ => none
def binRV (P : Program) (σ : St) (op : BinOp) (t : TypeId) (u v : Value) : Option Value :=
  match u, v with
  | .int k a, .int k' b => if k = k' then intOp op k a b else none
  | .string a, .string b => strOp op a b
  | x, y => eqRV P σ op t x y
/-- two numbers of one kind, else the plain way -/
def ints (f : IntKind → Int → Int → Option Value) (d : Option Value) (u v : Value) : Option Value :=
  asI u (fun k a => asI v (fun k' b => Bool.rec (motive := fun _ => Option Value) none (f k a b) (kEq k k')) d) d
theorem ints_eq {f : IntKind → Int → Int → Option Value} {d : Option Value} {u v : Value} (h : ∀ k k' a b, u = .int k a → v = .int k' b → d = if k = k' then f k a b else none) : ints f d u v = d := by
  cases u <;> first | rfl | skip
  rename_i k a
  cases v <;> first | rfl | skip
  rename_i k' b
  rw [h k k' a b rfl rfl]
  show (Bool.rec (motive := fun _ => Option Value) none (f k a b) (kEq k k')) = _
  rw [kEq_iff]
  by_cases e : k = k'
  · rw [if_pos e, decide_eq_true e]
  · rw [if_neg e, decide_eq_false e]
inductive BW where
  | mk (f : Value → Value → Option Value)
def sh (l : Bool) (u v : Value) : Option Value :=
  asI u (fun k a => asI v (fun _ b => both (fun m n => Bool.rec (motive := fun _ => Option Value) (binPV (bif l then .shl else .shr) u v)
    (Bool.rec (motive := fun _ => Option Value) (some (.int k (Int.ofNat (Nat.div m (Nat.pow 2 n))))) (some (.int k (wrapQ k (Int.ofNat (Nat.mul m (Nat.pow 2 n)))))) l) (Nat.ble n k.bits)) (binPV (bif l then .shl else .shr) u v) a b)
    (binPV (bif l then .shl else .shr) u v)) (binPV (bif l then .shl else .shr) u v)
theorem sh_eq (l : Bool) (u v : Value) : sh l u v = binPV (bif l then .shl else .shr) u v := by
  cases u <;> first | rfl | skip
  rename_i k a
  cases v <;> first | rfl | skip
  rename_i k' b
  refine both_eq fun m n h1 h2 => ?_
  subst h1 h2
  cases q : Nat.ble n k.bits with
  | false => rfl
  | true =>
    have hn := Nat.le_of_ble_eq_true q
    have hmin : min (Int.ofNat n).toNat k.bits = n := by show min n k.bits = n; omega
    cases l with
    | true =>
      show some (Value.int k (wrapQ k (Int.ofNat (Nat.mul m (Nat.pow 2 n))))) = shiftOp .shl k (Int.ofNat m) (Int.ofNat n)
      unfold shiftOp
      rw [if_neg (by simp), hmin, wrapQ_eq]
      have : Int.ofNat (Nat.mul m (Nat.pow 2 n)) = Int.ofNat m * 2 ^ n := by
        show ((m * 2 ^ n : Nat) : Int) = (m : Int) * 2 ^ n
        simp
      rw [this]
    | false =>
      show some (Value.int k (Int.ofNat (Nat.div m (Nat.pow 2 n)))) = shiftOp .shr k (Int.ofNat m) (Int.ofNat n)
      unfold shiftOp
      rw [if_neg (by simp), hmin]
      have : Int.ofNat (Nat.div m (Nat.pow 2 n)) = (Int.ofNat m).fdiv (2 ^ n) := by
        show ((m / 2 ^ n : Nat) : Int) = (m : Int).fdiv (2 ^ n)
        rw [Int.fdiv_eq_ediv_of_nonneg _ (by exact Int.le_of_lt (Int.pow_pos (by decide)))]
        simp
      rw [this]
def cBin (op : BinOp) : BW :=
  match op with
  | .add => .mk (fun u v => ints (fun k a b => some (.int k (wrapQ k (addQ a b)))) (binPV .add u v) u v)
  | .sub => .mk (fun u v => ints (fun k a b => some (.int k (wrapQ k (subQ a b)))) (binPV .sub u v) u v)
  | .mul => .mk (fun u v => ints (fun k a b => some (.int k (wrapQ k (mulQ a b)))) (binPV .mul u v) u v)
  | .quo => .mk (fun u v => ints (fun k a b => Bool.rec (motive := fun _ => Option Value) (some (.int k (wrapQ k (quoQ a b)))) none (eqQ b 0)) (binPV .quo u v) u v)
  | .rem => .mk (fun u v => ints (fun k a b => Bool.rec (motive := fun _ => Option Value) (some (.int k (remQ a b))) none (eqQ b 0)) (binPV .rem u v) u v)
  | .lss => .mk (fun u v => ints (fun k a b => some (.bool (ltQ a b))) (binPV .lss u v) u v)
  | .leq => .mk (fun u v => ints (fun k a b => some (.bool (leQ a b))) (binPV .leq u v) u v)
  | .gtr => .mk (fun u v => ints (fun k a b => some (.bool (ltQ b a))) (binPV .gtr u v) u v)
  | .geq => .mk (fun u v => ints (fun k a b => some (.bool (leQ b a))) (binPV .geq u v) u v)
  | .shl => .mk (sh true)
  | .shr => .mk (sh false)
  | op => .mk (binPV op)
theorem cBin_eq {op : BinOp} {f : Value → Value → Option Value} (h : cBin op = .mk f) (u v : Value) : f u v = binPV op u v := by
  cases op <;> cases h <;> first | rfl | exact sh_eq true u v | exact sh_eq false u v | (refine ints_eq fun k k' a b h1 h2 => ?_) <;> subst h1 h2
  · simp only [binPV, intOp, wrapQ_eq, addQ_eq]
  · simp only [binPV, intOp, wrapQ_eq, subQ_eq]
  · simp only [binPV, intOp, wrapQ_eq, mulQ_eq]
  · simp only [binPV, intOp, wrapQ_eq, quoQ_eq, eqQ_eq]
    by_cases e : b = 0
    · simp [e]
    · have hb : (b == (0 : Int)) = false := by simpa using e
      rw [hb]; simp [e]
  · simp only [binPV, intOp, remQ_eq, eqQ_eq]
    by_cases e : b = 0
    · simp [e]
    · have hb : (b == (0 : Int)) = false := by simpa using e
      rw [hb]; simp [e]
  · simp only [binPV, intOp, ltQ_eq]
  · simp only [binPV, intOp, leQ_eq]
  · simp only [binPV, intOp, ltQ_eq, gt_iff_lt]
  · simp only [binPV, intOp, leQ_eq, ge_iff_le]
def cEq (P : Program) (neg : Bool) (t : TypeId) (σ : St) (u v : Value) : Option Value :=
  ints (fun k a b => some (.bool (Bool.rec (motive := fun _ => Bool) (eqQ a b) (!(eqQ a b)) neg))) (binRV P σ (bif neg then .neq else .eql) t u v) u v
theorem cEq_eq (P : Program) (neg : Bool) (t : TypeId) (σ : St) (u v : Value) : cEq P neg t σ u v = binRV P σ (bif neg then .neq else .eql) t u v := by
  refine ints_eq fun k k' a b h1 h2 => ?_
  subst h1 h2
  cases neg
  · simp only [binRV, intOp, eqQ_eq, cond_false]
  · simp only [binRV, intOp, eqQ_eq, cond_true]
    rfl
end Go.Am
