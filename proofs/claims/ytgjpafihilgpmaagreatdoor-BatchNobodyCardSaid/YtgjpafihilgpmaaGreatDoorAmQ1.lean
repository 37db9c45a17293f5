/-
  A part of the proof that the run of an abstract machine, which the kernel can run, is what the program does under its model: no condition of its own.
-/
import Derived.Test.YtgjpafihilgpmaaGreatDoorAmExec
set_option linter.unusedVariables false
set_option linter.unusedSimpArgs false
set_option maxHeartbeats 1000000
noncomputable section
namespace Go.Am
open Go

/-! ## the machine once more, for Lean's kernel: frames as lists, what is behind handed on -/
inductive FL where
  | nil
  | cons (n : Nat) (v : Value) (l : FL)
def FL.get (l : FL) : Nat → Option Value :=
  FL.rec (motive := fun _ => Nat → Option Value) (fun _ => none) (fun m v _ ih n => Bool.rec (motive := fun _ => Option Value) (ih n) (some v) (Nat.beq m n)) l
def FE (l : FL) (fr : Fr) : Prop := ∀ n, l.get n = fr.get n
theorem FL.get_cons (m : Nat) (v : Value) (l : FL) (n : Nat) : (FL.cons m v l).get n = if n = m then some v else l.get n := by
  show (Bool.rec (motive := fun _ => Option Value) (l.get n) (some v) (Nat.beq m n)) = _
  by_cases h : m = n
  · subst h; simp
  · have : Nat.beq m n = false := by cases hb : Nat.beq m n with | false => rfl | true => exact absurd (Nat.eq_of_beq_eq_true hb) h
    rw [this, if_neg (fun e => h e.symm)]
theorem FE.cons {l : FL} {fr : Fr} (h : FE l fr) (m : Nat) (v : Value) : FE (.cons m v l) (fr.set m v) := fun n => by
  rw [FL.get_cons, T.get_set, h n]
theorem FE.nil : FE .nil .lf := fun _ => rfl

abbrev R := Option (Value × St)
abbrev KV := Value → St → R
abbrev CX := FuncId → List Value → St → KV → R
abbrev KF := FL → St → R
/-- an operation, made ready: the calls, the frame, the memory, what is behind -/
abbrev OX := CX → FL → St → KV → R

/-! ### looking at a value -/
def asI {α : Type} (v : Value) (f : IntKind → Int → α) (d : α) : α :=
  @Value.rec (fun _ => α) (fun _ => PUnit) (fun _ => PUnit) (fun _ => d) (fun k n => f k n) (fun _ _ => d) (fun _ _ _ => d) (fun _ => d) (fun _ => d) (fun _ _ _ => d) (fun _ => d) (fun _ => d) (fun _ _ _ _ _ => d) d (fun _ _ _ => d) d (fun _ _ => d) (fun _ _ => d) (fun _ _ => ⟨⟩) ⟨⟩ (fun _ _ _ _ => ⟨⟩) v
def asB {α : Type} (v : Value) (f : Bool → α) (d : α) : α :=
  @Value.rec (fun _ => α) (fun _ => PUnit) (fun _ => PUnit) (fun b => f b) (fun _ _ => d) (fun _ _ => d) (fun _ _ _ => d) (fun _ => d) (fun _ => d) (fun _ _ _ => d) (fun _ => d) (fun _ => d) (fun _ _ _ _ _ => d) d (fun _ _ _ => d) d (fun _ _ => d) (fun _ _ => d) (fun _ _ => ⟨⟩) ⟨⟩ (fun _ _ _ _ => ⟨⟩) v
def asP {α : Type} (v : Value) (f : Option Addr → α) (d : α) : α :=
  @Value.rec (fun _ => α) (fun _ => PUnit) (fun _ => PUnit) (fun _ => d) (fun _ _ => d) (fun _ _ => d) (fun _ _ _ => d) (fun _ => d) (fun a => f a) (fun _ _ _ => d) (fun _ => d) (fun _ => d) (fun _ _ _ _ _ => d) d (fun _ _ _ => d) d (fun _ _ => d) (fun _ _ => d) (fun _ _ => ⟨⟩) ⟨⟩ (fun _ _ _ _ => ⟨⟩) v
def asS {α : Type} (v : Value) (f : Option Addr → Nat → Nat → α) (d : α) : α :=
  @Value.rec (fun _ => α) (fun _ => PUnit) (fun _ => PUnit) (fun _ => d) (fun _ _ => d) (fun _ _ => d) (fun _ _ _ => d) (fun _ => d) (fun _ => d) (fun a n c => f a n c) (fun _ => d) (fun _ => d) (fun _ _ _ _ _ => d) d (fun _ _ _ => d) d (fun _ _ => d) (fun _ _ => d) (fun _ _ => ⟨⟩) ⟨⟩ (fun _ _ _ _ => ⟨⟩) v
def asT {α : Type} (v : Value) (f : Array Value → α) (d : α) : α :=
  @Value.rec (fun _ => α) (fun _ => PUnit) (fun _ => PUnit) (fun _ => d) (fun _ _ => d) (fun _ _ => d) (fun _ _ _ => d) (fun _ => d) (fun _ => d) (fun _ _ _ => d) (fun _ => d) (fun _ => d) (fun _ _ _ _ _ => d) d (fun _ _ _ => d) d (fun _ _ => d) (fun vs _ => f vs) (fun _ _ => ⟨⟩) ⟨⟩ (fun _ _ _ _ => ⟨⟩) v
def asA {α : Type} (v : Value) (f : Array Value → α) (d : α) : α :=
  @Value.rec (fun _ => α) (fun _ => PUnit) (fun _ => PUnit) (fun _ => d) (fun _ _ => d) (fun _ _ => d) (fun _ _ _ => d) (fun _ => d) (fun _ => d) (fun _ _ _ => d) (fun _ => d) (fun _ => d) (fun _ _ _ _ _ => d) d (fun _ _ _ => d) d (fun vs _ => f vs) (fun _ _ => d) (fun _ _ => ⟨⟩) ⟨⟩ (fun _ _ _ _ => ⟨⟩) v
def asF {α : Type} (v : Value) (f : Fn → Array Value → Array Value → α) (d : α) : α :=
  @Value.rec (fun _ => α) (fun _ => PUnit) (fun _ => PUnit) (fun _ => d) (fun _ _ => d) (fun _ _ => d) (fun _ _ _ => d) (fun _ => d) (fun _ => d) (fun _ _ _ => d) (fun _ => d) (fun _ => d) (fun fn a b _ _ => f fn a b) d (fun _ _ _ => d) d (fun _ _ => d) (fun _ _ => d) (fun _ _ => ⟨⟩) ⟨⟩ (fun _ _ _ _ => ⟨⟩) v
def asU {α : Type} (v : Value) (f : TypeId → Value → α) (d : α) : α :=
  @Value.rec (fun _ => α) (fun _ => PUnit) (fun _ => PUnit) (fun _ => d) (fun _ _ => d) (fun _ _ => d) (fun _ _ _ => d) (fun _ => d) (fun _ => d) (fun _ _ _ => d) (fun _ => d) (fun _ => d) (fun _ _ _ _ _ => d) d (fun t v _ => f t v) d (fun _ _ => d) (fun _ _ => d) (fun _ _ => ⟨⟩) ⟨⟩ (fun _ _ _ _ => ⟨⟩) v
theorem asI_some {β : Type} {v : Value} {f : IntKind → Int → Option β} {r : β} (h : asI v f none = some r) : ∃ k n, v = .int k n ∧ f k n = some r := by
  cases v <;> first | exact ⟨_, _, rfl, h⟩ | cases h
theorem asB_some {β : Type} {v : Value} {f : Bool → Option β} {r : β} (h : asB v f none = some r) : ∃ b, v = .bool b ∧ f b = some r := by
  cases v <;> first | exact ⟨_, rfl, h⟩ | cases h
theorem asP_some {β : Type} {v : Value} {f : Option Addr → Option β} {r : β} (h : asP v f none = some r) : ∃ a, v = .pointer a ∧ f a = some r := by
  cases v <;> first | exact ⟨_, rfl, h⟩ | cases h
theorem asS_some {β : Type} {v : Value} {f : Option Addr → Nat → Nat → Option β} {r : β} (h : asS v f none = some r) : ∃ a n c, v = .slice a n c ∧ f a n c = some r := by
  cases v <;> first | exact ⟨_, _, _, rfl, h⟩ | cases h
theorem asT_some {β : Type} {v : Value} {f : Array Value → Option β} {r : β} (h : asT v f none = some r) : ∃ vs, v = .tuple vs ∧ f vs = some r := by
  cases v <;> first | exact ⟨_, rfl, h⟩ | cases h
theorem asF_some {β : Type} {v : Value} {f : Fn → Array Value → Array Value → Option β} {r : β} (h : asF v f none = some r) : ∃ fn a b, v = .func fn a b ∧ f fn a b = some r := by
  cases v <;> first | exact ⟨_, _, _, rfl, h⟩ | cases h
theorem asU_some {β : Type} {v : Value} {f : TypeId → Value → Option β} {r : β} (h : asU v f none = some r) : ∃ t u, v = .iface t u ∧ f t u = some r := by
  cases v <;> first | exact ⟨_, _, rfl, h⟩ | cases h
theorem orec_some {α β : Type} {o : Option α} {f : α → Option β} {r : β} (h : (Option.rec (motive := fun _ => Option β) none (fun a => f a) o) = some r) : ∃ a, o = some a ∧ f a = some r := by
  cases o with
  | none => cases h
  | some a => exact ⟨a, rfl, h⟩
theorem brec_some {β : Type} {b : Bool} {x : Option β} {r : β} (h : (Bool.rec (motive := fun _ => Option β) none x b) = some r) : b = true ∧ x = some r := by
  cases b with
  | false => cases h
  | true => exact ⟨rfl, h⟩

/-! ### operands -/
inductive EW where
  | mk (e : FL → Option Value)
def EW.app (w : EW) (fl : FL) : Option Value := EW.rec (motive := fun _ => Option Value) (fun e => e fl) w
def cEv : Operand → EW
  | .tmp t => .mk (fun fl => FL.get fl t)
  | .const v => Bool.rec (motive := fun _ => EW) (.mk (fun _ => none)) (.mk (fun _ => some v)) (constV v)
  | .global g => Bool.rec (motive := fun _ => EW) (.mk (fun _ => none)) (.mk (fun _ => some (.pointer (some ⟨g, 0, none⟩)))) (Nat.blt g 64)
  | .func f => .mk (fun _ => some (.func (.func f) #[] #[]))
theorem cEv_eq {fl : FL} {fr : Fr} (h : FE fl fr) (x : Operand) : (cEv x).app fl = evO fr x := by
  cases x with
  | tmp t => exact h t
  | const v => simp only [cEv, evO]; cases constV v <;> rfl
  | global g => simp only [cEv, evO]; cases Nat.blt g 64 <;> rfl
  | func f => rfl
theorem cEv_app {x : Operand} {e : FL → Option Value} (hw : cEv x = .mk e) {fl : FL} {fr : Fr} (h : FE fl fr) : e fl = evO fr x := by
  rw [← cEv_eq h x, hw]; rfl
inductive LW where
  | mk (e : FL → Option (List Value))
def cEvL (l : List Operand) : LW :=
  List.rec (motive := fun _ => LW) (.mk (fun _ => some [])) (fun x _ ih => EW.rec (motive := fun _ => LW) (fun e => LW.rec (motive := fun _ => LW) (fun es => .mk (fun fl =>
    Option.rec (motive := fun _ => Option (List Value)) none (fun v => Option.rec (motive := fun _ => Option (List Value)) none (fun vs => some (v :: vs)) (es fl)) (e fl))) ih) (cEv x)) l
theorem cEvL_app : ∀ {l : List Operand} {e : FL → Option (List Value)}, cEvL l = .mk e → ∀ {fl : FL} {fr : Fr}, FE fl fr → e fl = evL fr l
  | [], e, hw, fl, fr, h => by cases hw; rfl
  | x :: l, e, hw, fl, fr, h => by
    cases hx : cEv x with
    | mk ex =>
      cases hl : cEvL l with
      | mk es =>
        have hw' : EW.rec (motive := fun _ => LW) (fun e => LW.rec (motive := fun _ => LW) (fun es => .mk (fun fl =>
            Option.rec (motive := fun _ => Option (List Value)) none (fun v => Option.rec (motive := fun _ => Option (List Value)) none (fun vs => some (v :: vs)) (es fl)) (e fl))) (cEvL l)) (cEv x) = LW.mk e := hw
        rw [hx, hl] at hw'
        cases hw'
        have h1 := cEv_app hx h
        have h2 := cEvL_app hl h
        simp only [h1, h2, evL]
        cases evO fr x with
        | none => rfl
        | some v => cases evL fr l <;> rfl

/-! ### lists -/
def nthQ (n : Nat) : List Value → Option Value :=
  Nat.rec (motive := fun _ => List Value → Option Value) (fun l => List.rec (motive := fun _ => Option Value) none (fun x _ _ => some x) l) (fun _ ih l => List.rec (motive := fun _ => Option Value) none (fun _ l _ => ih l) l) n
theorem nthQ_eq : ∀ (n : Nat) (l : List Value), nthQ n l = l[n]?
  | 0, [] => rfl
  | 0, _ :: _ => rfl
  | n + 1, [] => rfl
  | n + 1, x :: l => by
    show nthQ n l = _
    rw [nthQ_eq n l]; rfl
end Go.Am
