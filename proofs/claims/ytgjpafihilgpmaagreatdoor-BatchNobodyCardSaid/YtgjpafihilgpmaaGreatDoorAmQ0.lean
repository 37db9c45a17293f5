/-
  A part of the proof that the run of an abstract machine, which the kernel can run, is what the program does under its model: no condition of its own.
-/
import Derived.Test.YtgjpafihilgpmaaGreatDoorAmExec
set_option linter.unusedVariables false
set_option linter.unusedSimpArgs false
noncomputable section
namespace Go.Am
open Go

/-! ### looking up by raw recursors -/
def nthG {α : Type} (n : Nat) : List α → Option α :=
  Nat.rec (motive := fun _ => List α → Option α) (fun l => List.rec (motive := fun _ => Option α) none (fun x _ _ => some x) l) (fun _ ih l => List.rec (motive := fun _ => Option α) none (fun _ l _ => ih l) l) n
theorem nthG_eq {α : Type} : ∀ (n : Nat) (l : List α), nthG n l = l[n]?
  | 0, [] => rfl
  | 0, _ :: _ => rfl
  | n + 1, [] => rfl
  | n + 1, x :: l => by
    show nthG n l = _
    rw [nthG_eq n l]; rfl
def infoQ (P : Program) (t : TypeId) : Option TypeInfo := Option.rec (motive := fun _ => Option TypeInfo) (P.info? t) (fun i => some i) (nthG t P.types.toList)
theorem infoQ_eq (P : Program) (t : TypeId) : infoQ P t = P.info? t := by
  unfold infoQ
  rw [nthG_eq, Array.getElem?_toList]
  cases h : P.types[t]? with
  | none => rfl
  | some i =>
    have hlt : t < P.types.size := (Array.getElem?_eq_some_iff.1 h).1
    show some i = _
    unfold Tables.info?
    rw [if_pos hlt, h]
def undQ (P : Program) (t : TypeId) : Option TypeDesc :=
  match infoQ P t with
  | some i => (match i.desc with
    | .named _ u => (infoQ P u).map (·.desc)
    | d => some d)
  | none => none
theorem undQ_eq (P : Program) (t : TypeId) : undQ P t = P.underlying t := by
  unfold undQ Program.underlying
  simp only [infoQ_eq]
  cases P.info? t with
  | none => rfl
  | some i =>
    obtain ⟨d, _, _, _, _, _, _, _, _, _⟩ := i
    cases d <;> rfl
def sizeQ (P : Program) (t : TypeId) : Option Nat := (infoQ P t).map (·.size)
theorem sizeQ_eq (P : Program) (t : TypeId) : sizeQ P t = sizeN P t := by unfold sizeQ sizeN; rw [infoQ_eq]
def aggQ (P : Program) (t : TypeId) : Option Bool := (undQ P t).map fun | .struct _ | .array _ _ => true | _ => false
theorem aggQ_eq (P : Program) (t : TypeId) : aggQ P t = aggN P t := by unfold aggQ aggN; rw [undQ_eq]; rfl
def zeroQ (P : Program) (t : TypeId) : Option (List Value) := (infoQ P t).bind fun i => i.zero.bind fun v => bif v.cells.toList.all constOK then some v.cells.toList else none
theorem zeroQ_eq (P : Program) (t : TypeId) : zeroQ P t = zeroN P t := by unfold zeroQ zeroN; rw [infoQ_eq]
def allR {α : Type} (f : α → Bool) (l : List α) : Bool := List.rec (motive := fun _ => Bool) true (fun x _ ih => Bool.rec (motive := fun _ => Bool) false ih (f x)) l
theorem allR_eq {α : Type} (f : α → Bool) : ∀ l : List α, allR f l = l.all f
  | [] => rfl
  | x :: l => by
    show (Bool.rec (motive := fun _ => Bool) false (allR f l) (f x)) = _
    rw [allR_eq f l, List.all_cons]
    cases f x <;> rfl
def dstR (n : Nat) (c : Code) : Bool :=
  Code.rec (motive := fun _ => Bool) true
    (fun _ ops _ => allR (fun o => Option.rec (motive := fun _ => Bool) true (fun d => Nat.ble (Nat.succ d) n) o.dst) ops.toList)
    (fun _ _ x y => Bool.rec (motive := fun _ => Bool) false y x)
    (fun _ _ _ x y => Bool.rec (motive := fun _ => Bool) false y x)
    (fun _ _ x => x) (fun _ x => x) (fun _ _ _ _ _ _ => false) (fun _ => true) (fun _ _ => false) (fun _ => false) (fun _ => false) true (fun _ => true) c
theorem brec_and (x y : Bool) : (Bool.rec (motive := fun _ => Bool) false y x) = (x && y) := by cases x <;> rfl
theorem dstR_eq (n : Nat) : ∀ c : Code, dstR n c = dstOK n c := by
  intro c
  induction c with
  | region id ops draw =>
    show allR _ ops.toList = _
    rw [allR_eq]
    unfold dstOK
    congr 1
    funext o
    cases o.dst <;> rfl
  | seq a b iha ihb => show (Bool.rec (motive := fun _ => Bool) false (dstR n b) (dstR n a)) = _; rw [brec_and, iha, ihb]; rfl
  | cond c a b iha ihb => show (Bool.rec (motive := fun _ => Bool) false (dstR n b) (dstR n a)) = _; rw [brec_and, iha, ihb]; rfl
  | block id b ih => exact ih
  | loop b ih => exact ih
  | _ => rfl
end Go.Am
