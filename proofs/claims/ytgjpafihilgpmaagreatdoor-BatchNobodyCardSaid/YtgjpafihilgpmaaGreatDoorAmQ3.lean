/-
  A part of the proof that the run of an abstract machine, which the kernel can run, is what the program does under its model: no condition of its own.
-/
import Derived.Test.YtgjpafihilgpmaaGreatDoorAmQ2
import Derived.Test.YtgjpafihilgpmaaGreatDoorAmQ0
import Derived.Test.YtgjpafihilgpmaaGreatDoorAmDrawS
set_option linter.unusedVariables false
set_option linter.unusedSimpArgs false
set_option maxHeartbeats 1000000
noncomputable section
namespace Go.Am
open Go

/-- what the calls of the quick machine are, seen from the plain one -/
def CQ (E : Env) (C : CX) (C' : CallF) : Prop := ∀ f args σ k r, C f args σ k = some r → ∃ v σ', callT E C' f args σ = some (v, σ') ∧ k v σ' = some r
def OpOK (E : Env) (op : Op) (g : OX) : Prop := ∀ (C : CX) (C' : CallF), CQ E C C' → ∀ (fl : FL) (fr : Fr) (σ : St) (k : KV) (r : Value × St), FE fl fr → g C fl σ k = some r → ∃ v σ', stepO E C' op fr σ = some (v, σ') ∧ k v σ' = some r
inductive OW where
  | mk (g : OX)
def OW.OK (E : Env) (op : Op) (w : OW) : Prop := match w with | .mk g => OpOK E op g
def badO : OW := .mk (fun _ _ _ _ => none)
theorem badO_ok (E : Env) (op : Op) : badO.OK E op := fun C C' _ fl fr σ k r _ h => by cases h
theorem OW.ite {E : Env} {op : Op} {b : Bool} {x : OW} (h : x.OK E op) : OW.OK E op (Bool.rec (motive := fun _ => OW) badO x b) := by
  cases b
  · exact badO_ok E op
  · exact h

/-! ### through the plain machine -/
def frQ (l : List Nat) (fl : FL) : Fr :=
  List.rec (motive := fun _ => Fr) .lf (fun t _ ih => Option.rec (motive := fun _ => Fr) ih (fun v => T.set ih t v) (FL.get fl t)) l
theorem frQ_get {fl : FL} {fr : Fr} (h : FE fl fr) : ∀ (l : List Nat) (t : Nat), (frQ l fl).get t = if t ∈ l then fr.get t else none
  | [], t => by simp [frQ, T.get_lf]
  | i :: l, t => by
    show (Option.rec (motive := fun _ => Fr) (frQ l fl) (fun v => T.set (frQ l fl) i v) (FL.get fl i) : Fr).get t = _
    rw [h i]
    cases hi : fr.get i with
    | none =>
      show (frQ l fl).get t = _
      rw [frQ_get h l]
      by_cases e : t = i
      · subst e; simp [hi]
      · simp [e]
    | some v =>
      show (T.set (frQ l fl) i v).get t = _
      rw [T.get_set, frQ_get h l]
      by_cases e : t = i
      · subst e; simp [hi]
      · simp [e]
def tmpsO (op : Op) : List Nat := op.operands.toList.filterMap fun | .tmp t => some t | _ => none
def isCall : Op → Bool
  | .call c => match c.callee with | .builtin _ => false | _ => true
  | _ => false
theorem stepO_call {E : Env} {C C' : CallF} {op : Op} (h : isCall op = false) (fr : Fr) (σ : St) : stepO E C op fr σ = stepO E C' op fr σ := by
  unfold stepO
  split <;> first | rfl | skip
  unfold opEff
  split <;> first | rfl | skip
  rename_i c
  unfold isCall at h
  simp only at h
  split at h
  · rename_i b hb; rw [hb]
  · cases h
def qGen (E : Env) (op : Op) (l : List Nat) : OX := fun _ fl σ k => Option.rec (motive := fun _ => R) none (fun p => Prod.rec (motive := fun _ => R) (fun v σ => k v σ) p) (stepO E (fun _ _ _ => none) op (frQ l fl) σ)
def cGen (E : Env) (op : Op) : OW := Bool.rec (motive := fun _ => OW) badO (.mk (qGen E op (tmpsO op))) (!(isCall op))
theorem cGen_ok (E : Env) (op : Op) : (cGen E op).OK E op := by
  unfold cGen
  cases hc : isCall op with
  | true => exact badO_ok E op
  | false =>
    intro C C' _ fl fr σ k r hf h
    obtain ⟨⟨v, σ'⟩, h1, h2⟩ := orec_some h
    refine ⟨v, σ', ?_, h2⟩
    rw [stepO_call hc, ← h1]
    refine (stepO_congr fun x hx => evO_congr fun t ht => ?_).symm
    rw [frQ_get hf, if_pos]
    exact List.mem_filterMap.2 ⟨x, hx, by rw [ht]⟩

/-! ### operations that neither read nor write -/
theorem step_pure {E : Env} {C' : CallF} {op : Op} {fr : Fr} {σ : St} {v : Value} (hk : kindOf E.P op = .pure) (h : opPure E.P op fr = some v) : stepO E C' op fr σ = some (v, σ) := by
  unfold stepO; rw [hk]; simp only [h, Option.map_some]
theorem step_read {E : Env} {C' : CallF} {op : Op} {fr : Fr} {σ : St} {v : Value} (hk : kindOf E.P op = .read) (h : opRead E.P op fr σ = some v) : stepO E C' op fr σ = some (v, σ) := by
  unfold stepO; rw [hk]; simp only [h, Option.map_some]
def qMove (e : FL → Option Value) : OX := fun _ fl σ k => Option.rec (motive := fun _ => R) none (fun v => k v σ) (e fl)
def cMove (x : Operand) : OW := EW.rec (motive := fun _ => OW) (fun e => .mk (qMove e)) (cEv x)
theorem cMove_ok (E : Env) (op : Op) (x : Operand) (hk : kindOf E.P op = .pure) (ho : ∀ fr, opPure E.P op fr = evO fr x) : (cMove x).OK E op := by
  unfold cMove
  cases hx : cEv x with
  | mk e =>
    intro C C' _ fl fr σ k r hf h
    obtain ⟨v, h1, h2⟩ := orec_some h
    exact ⟨v, σ, step_pure hk (by rw [ho, ← cEv_app hx hf]; exact h1), h2⟩
def q2 (f : Value → Value → Option Value) (e1 e2 : FL → Option Value) : OX := fun _ fl σ k =>
  Option.rec (motive := fun _ => R) none (fun u => Option.rec (motive := fun _ => R) none (fun v => Option.rec (motive := fun _ => R) none (fun w => k w σ) (f u v)) (e2 fl)) (e1 fl)
def cBinP (op : BinOp) (x y : Operand) : OW := EW.rec (motive := fun _ => OW) (fun e1 => EW.rec (motive := fun _ => OW) (fun e2 => BW.rec (motive := fun _ => OW) (fun f => .mk (q2 f e1 e2)) (cBin op)) (cEv y)) (cEv x)
theorem cBinP_ok (E : Env) (op : BinOp) (t : TypeId) (x y : Operand) (z : TypeId) (hk : kindOf E.P (.binOp op t x y z) = .pure) : (cBinP op x y).OK E (.binOp op t x y z) := by
  unfold cBinP
  cases hx : cEv x with
  | mk e1 => cases hy : cEv y with
    | mk e2 => cases hb : cBin op with
      | mk f =>
        intro C C' _ fl fr σ k r hf h
        obtain ⟨u, h1, h⟩ := orec_some h
        obtain ⟨v, h2, h⟩ := orec_some h
        obtain ⟨w, h3, h⟩ := orec_some h
        refine ⟨w, σ, step_pure hk ?_, h⟩
        rw [cEv_app hx hf] at h1
        rw [cEv_app hy hf] at h2
        rw [cBin_eq hb] at h3
        simp only [opPure, h1, h2, Option.bind_some]
        exact h3
def qEq (P : Program) (neg : Bool) (t : TypeId) (e1 e2 : FL → Option Value) : OX := fun _ fl σ k =>
  Option.rec (motive := fun _ => R) none (fun u => Option.rec (motive := fun _ => R) none (fun v => Option.rec (motive := fun _ => R) none (fun w => k w σ) (cEq P neg t σ u v)) (e2 fl)) (e1 fl)
def cEqO (P : Program) (neg : Bool) (t : TypeId) (x y : Operand) : OW := EW.rec (motive := fun _ => OW) (fun e1 => EW.rec (motive := fun _ => OW) (fun e2 => .mk (qEq P neg t e1 e2)) (cEv y)) (cEv x)
theorem cEqO_ok (E : Env) (neg : Bool) (t : TypeId) (x y : Operand) (z : TypeId) : (cEqO E.P neg t x y).OK E (.binOp (bif neg then .neq else .eql) t x y z) := by
  unfold cEqO
  cases hx : cEv x with
  | mk e1 => cases hy : cEv y with
    | mk e2 =>
      intro C C' _ fl fr σ k r hf h
      obtain ⟨u, h1, h⟩ := orec_some h
      obtain ⟨v, h2, h⟩ := orec_some h
      obtain ⟨w, h3, h⟩ := orec_some h
      refine ⟨w, σ, step_read (by cases neg <;> rfl) ?_, h⟩
      rw [cEv_app hx hf] at h1
      rw [cEv_app hy hf] at h2
      rw [cEq_eq] at h3
      simp only [opRead, h1, h2, Option.bind_some]
      exact h3
def isEqB : BinOp → Bool
  | .eql => true
  | .neq => true
  | _ => false
theorem kind_bin (P : Program) (op : BinOp) (t : TypeId) (x y : Operand) (z : TypeId) (h : isEqB op = false) : kindOf P (.binOp op t x y z) = .pure := by
  cases op <;> first | rfl | cases h

/-! fields and elements -/
def addQa (a : Addr) (n : Nat) : Addr := Addr.rec (motive := fun _ => Addr) (fun b o s => ⟨b, Nat.add o n, s⟩) a
theorem addQa_eq (a : Addr) (n : Nat) : addQa a n = addrAdd a n := by cases a; rfl
def fieldOff (P : Program) (t : TypeId) (i : Nat) : Option Nat :=
  match undQ P t with
  | some (.struct fs) => (nthG i fs.toList).bind fun f => match sizeQ P f.type with | some (_ + 1) => some f.offset | _ => none
  | _ => none
def qFieldA (off : Nat) (e : FL → Option Value) : OX := fun _ fl σ k =>
  Option.rec (motive := fun _ => R) none (fun v => asP v (fun oa => Option.rec (motive := fun _ => R) none (fun a => k (.pointer (some (addQa a off))) σ) oa) none) (e fl)
def cFieldA (P : Program) (t : TypeId) (x : Operand) (i : Nat) : OW :=
  Option.rec (motive := fun _ => OW) badO (fun off => EW.rec (motive := fun _ => OW) (fun e => .mk (qFieldA off e)) (cEv x)) (fieldOff P t i)
theorem cFieldA_ok (E : Env) (t : TypeId) (x : Operand) (i : Nat) : (cFieldA E.P t x i).OK E (.fieldAddr t x i) := by
  unfold cFieldA
  cases ho : fieldOff E.P t i with
  | none => exact badO_ok _ _
  | some off => cases hx : cEv x with
    | mk e =>
      intro C C' _ fl fr σ k r hf h
      obtain ⟨v, h1, h⟩ := orec_some h
      obtain ⟨oa, rfl, h⟩ := asP_some h
      obtain ⟨a, rfl, h⟩ := orec_some h
      refine ⟨_, σ, step_pure rfl ?_, h⟩
      rw [cEv_app hx hf] at h1
      simp only [opPure, h1, Option.bind_some, addQa_eq]
      unfold fieldOff at ho
      simp only [undQ_eq, sizeQ_eq, nthG_eq] at ho
      split at ho
      · rename_i fs hfs
        simp only [Option.bind_eq_some_iff] at ho
        obtain ⟨f, h2, h3⟩ := ho
        simp only [hfs, h2, Option.bind_some]
        split at h3
        · rename_i n hn; cases h3; simp only [hn]
        · cases h3
      · cases ho
def elemSl (P : Program) (t : TypeId) : Option Nat := match undQ P t with | some (.slice e) => sizeQ P e | _ => none
def elemArr (P : Program) (t : TypeId) : Option (Nat × Nat) := match undQ P t with | some (.array len e) => (sizeQ P e).map fun n => (len, n) | _ => none
def natI (v : Value) (f : Nat → R) : R := asI v (fun _ i => Int.rec (motive := fun _ => R) (fun m => f m) (fun _ => none) i) none
theorem natI_some {v : Value} {f : Nat → R} {r : Value × St} (h : natI v f = some r) : ∃ k m, v = .int k (Int.ofNat m) ∧ f m = some r := by
  obtain ⟨k, i, rfl, h⟩ := asI_some h
  cases i with
  | ofNat m => exact ⟨k, m, rfl, h⟩
  | negSucc m => cases h
def qIndexS (n : Nat) (e1 e2 : FL → Option Value) : OX := fun _ fl σ k =>
  Option.rec (motive := fun _ => R) none (fun v => Option.rec (motive := fun _ => R) none (fun i => asS v (fun oa len _ => natI i (fun m => Option.rec (motive := fun _ => R) none (fun a =>
    Bool.rec (motive := fun _ => R) none (k (.pointer (some (addQa a (Nat.mul m n)))) σ) (Nat.ble (Nat.succ m) len)) oa)) none) (e2 fl)) (e1 fl)
def qIndexA (len n : Nat) (e1 e2 : FL → Option Value) : OX := fun _ fl σ k =>
  Option.rec (motive := fun _ => R) none (fun v => Option.rec (motive := fun _ => R) none (fun i => asP v (fun oa => natI i (fun m => Option.rec (motive := fun _ => R) none (fun a =>
    Bool.rec (motive := fun _ => R) none (k (.pointer (some (addQa a (Nat.mul m n)))) σ) (Nat.ble (Nat.succ m) len)) oa)) none) (e2 fl)) (e1 fl)
def cIndexA (P : Program) (t : TypeId) (x y : Operand) : OW :=
  EW.rec (motive := fun _ => OW) (fun e1 => EW.rec (motive := fun _ => OW) (fun e2 =>
    Option.rec (motive := fun _ => OW) (Option.rec (motive := fun _ => OW) badO (fun p => .mk (qIndexA p.1 p.2 e1 e2)) (elemArr P t)) (fun n => .mk (qIndexS n e1 e2)) (elemSl P t)) (cEv y)) (cEv x)
theorem cIndexA_ok (E : Env) (t : TypeId) (x y : Operand) : (cIndexA E.P t x y).OK E (.indexAddr t x y) := by
  unfold cIndexA
  cases hx : cEv x with
  | mk e1 => cases hy : cEv y with
    | mk e2 =>
      cases hs : elemSl E.P t with
      | some n =>
        intro C C' _ fl fr σ k r hf h
        obtain ⟨v, h1, h⟩ := orec_some h
        obtain ⟨i, h2, h⟩ := orec_some h
        obtain ⟨oa, len, cap, rfl, h⟩ := asS_some h
        obtain ⟨kk, m, rfl, h⟩ := natI_some h
        obtain ⟨a, rfl, h⟩ := orec_some h
        obtain ⟨hb, h⟩ := brec_some h
        have hlt := Nat.le_of_ble_eq_true hb
        refine ⟨_, σ, step_pure rfl ?_, h⟩
        rw [cEv_app hx hf] at h1
        rw [cEv_app hy hf] at h2
        unfold elemSl at hs
        simp only [undQ_eq, sizeQ_eq] at hs
        split at hs
        · rename_i el he
          simp only [opPure, h1, h2, Option.bind_some, he, hs]
          rw [if_pos ⟨Int.natCast_nonneg m, by simp only [Int.ofNat_eq_natCast]; omega⟩, addQa_eq]
          rfl
        · cases hs
      | none => cases ha : elemArr E.P t with
        | none => exact badO_ok _ _
        | some p =>
          obtain ⟨len, n⟩ := p
          intro C C' _ fl fr σ k r hf h
          obtain ⟨v, h1, h⟩ := orec_some h
          obtain ⟨i, h2, h⟩ := orec_some h
          obtain ⟨oa, rfl, h⟩ := asP_some h
          obtain ⟨kk, m, rfl, h⟩ := natI_some h
          obtain ⟨a, rfl, h⟩ := orec_some h
          obtain ⟨hb, h⟩ := brec_some h
          have hlt := Nat.le_of_ble_eq_true hb
          refine ⟨_, σ, step_pure rfl ?_, h⟩
          rw [cEv_app hx hf] at h1
          rw [cEv_app hy hf] at h2
          unfold elemArr at ha
          simp only [undQ_eq, sizeQ_eq] at ha
          split at ha
          · rename_i len' el he
            simp only [Option.map_eq_some_iff, Prod.mk.injEq] at ha
            obtain ⟨n', h3, rfl, rfl⟩ := ha
            simp only [opPure, h1, h2, Option.bind_some, he, h3]
            rw [if_pos ⟨Int.natCast_nonneg m, by simp only [Int.ofNat_eq_natCast]; simp only at hlt; omega⟩, addQa_eq]
            rfl
          · cases ha
def qExtract (i : Nat) (e : FL → Option Value) : OX := fun _ fl σ k =>
  Option.rec (motive := fun _ => R) none (fun v => asT v (fun vs => Option.rec (motive := fun _ => R) none (fun w => k w σ) (nthQ i vs.toList)) none) (e fl)
def cExtract (x : Operand) (i : Nat) : OW := EW.rec (motive := fun _ => OW) (fun e => .mk (qExtract i e)) (cEv x)
theorem cExtract_ok (E : Env) (x : Operand) (i : Nat) : (cExtract x i).OK E (.extract x i) := by
  unfold cExtract
  cases hx : cEv x with
  | mk e =>
    intro C C' _ fl fr σ k r hf h
    obtain ⟨v, h1, h⟩ := orec_some h
    obtain ⟨vs, rfl, h⟩ := asT_some h
    obtain ⟨w, h2, h⟩ := orec_some h
    refine ⟨w, σ, step_pure rfl ?_, h⟩
    rw [cEv_app hx hf] at h1
    rw [nthQ_eq] at h2
    simp only [opPure, h1, Option.bind_some]
    exact h2
end Go.Am
