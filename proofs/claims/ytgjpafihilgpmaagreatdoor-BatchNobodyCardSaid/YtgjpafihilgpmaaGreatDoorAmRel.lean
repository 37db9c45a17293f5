/-
  A part of the proof that the run of an abstract machine, which the kernel can run, is what the program does under its model: no condition of its own.
-/
import Derived.Test.YtgjpafihilgpmaaGreatDoorAmDef
import Derived.Orders
import Derived.Laws.Append
import Derived.Laws.Cells
import Derived.Laws.Entries
set_option linter.unusedVariables false
set_option linter.unusedSimpArgs false
namespace Go.Am
open Go

/-! ## the table -/
theorem bif_beq {α : Type} (n m : Nat) (x y : α) : (bif Nat.beq n m then x else y) = if n = m then x else y := by
  by_cases h : n = m
  · subst h; have : Nat.beq n n = true := by simp
    rw [this, if_pos rfl]; rfl
  · have : Nat.beq n m = false := by cases hb : Nat.beq n m with | false => rfl | true => exact absurd (Nat.eq_of_beq_eq_true hb) h
    rw [this, if_neg h]; rfl
theorem brec {α : Type} (b : Bool) (x y : α) : (Bool.rec (motive := fun _ => α) x y b) = bif b then y else x := by cases b <;> rfl
theorem orec {α β : Type} (o : Option α) (x : β) (f : α → β) : (Option.rec (motive := fun _ => β) x (fun a => f a) o) = match o with | none => x | some a => f a := by cases o <;> rfl
theorem T.get_nd {α : Type} (v : Option α) (l r : T α) (n : Nat) : (T.nd v l r).get n = if n = 0 then v else if n % 2 = 1 then l.get ((n - 1) / 2) else r.get ((n - 1) / 2) := by
  show (Bool.rec (motive := fun _ => Option α) (Bool.rec (motive := fun _ => Option α) (r.get (Nat.div (Nat.sub n 1) 2)) (l.get (Nat.div (Nat.sub n 1) 2)) (Nat.beq (Nat.mod n 2) 1)) v (Nat.beq n 0)) = _
  rw [brec, brec, bif_beq, bif_beq]; rfl
theorem T.get_lf {α : Type} (n : Nat) : (T.lf : T α).get n = none := rfl
theorem T.setF_lf {α : Type} (f n : Nat) (a : Option α) : T.setF (f + 1) .lf n a = if n = 0 then .nd a .lf .lf else if n % 2 = 1 then .nd none (T.setF f .lf ((n - 1) / 2) a) .lf else .nd none .lf (T.setF f .lf ((n - 1) / 2) a) := by
  show (Bool.rec (motive := fun _ => T α) (Bool.rec (motive := fun _ => T α) (.nd none .lf (T.setF f .lf (Nat.div (Nat.sub n 1) 2) a)) (.nd none (T.setF f .lf (Nat.div (Nat.sub n 1) 2) a) .lf) (Nat.beq (Nat.mod n 2) 1)) (.nd a .lf .lf) (Nat.beq n 0)) = _
  rw [brec, brec, bif_beq, bif_beq]; rfl
theorem T.setF_nd {α : Type} (f n : Nat) (a v : Option α) (l r : T α) : T.setF (f + 1) (.nd v l r) n a = if n = 0 then .nd a l r else if n % 2 = 1 then .nd v (T.setF f l ((n - 1) / 2) a) r else .nd v l (T.setF f r ((n - 1) / 2) a) := by
  show (Bool.rec (motive := fun _ => T α) (Bool.rec (motive := fun _ => T α) (.nd v l (T.setF f r (Nat.div (Nat.sub n 1) 2) a)) (.nd v (T.setF f l (Nat.div (Nat.sub n 1) 2) a) r) (Nat.beq (Nat.mod n 2) 1)) (.nd a l r) (Nat.beq n 0)) = _
  rw [brec, brec, bif_beq, bif_beq]; rfl
theorem T.get_setF {α : Type} : ∀ (f : Nat) (t : T α) (n : Nat) (a : Option α) (m : Nat), n < f → (T.setF f t n a).get m = if m = n then a else t.get m := by
  intro f
  induction f with
  | zero => intro t n a m h; omega
  | succ f ih =>
    intro t n a m h
    have key : n ≠ 0 → ∀ t : T α, (T.setF f t ((n - 1) / 2) a).get ((m - 1) / 2) = if (m - 1) / 2 = (n - 1) / 2 then a else t.get ((m - 1) / 2) := fun hn t => ih t _ a _ (by omega)
    cases t with
    | lf =>
      rw [T.setF_lf]
      by_cases hn : n = 0
      · rw [if_pos hn, T.get_nd, hn]
        by_cases hm : m = 0 <;> simp [hm, T.get_lf]
      · rw [if_neg hn]
        by_cases hp : n % 2 = 1
        · rw [if_pos hp, T.get_nd]
          by_cases hm : m = 0
          · rw [if_pos hm, if_neg (by omega)]; rfl
          · rw [if_neg hm]
            by_cases hq : m % 2 = 1
            · rw [if_pos hq, key hn]
              by_cases e : m = n
              · rw [if_pos (by omega), if_pos e]
              · rw [if_neg (by omega), if_neg e]; rfl
            · rw [if_neg hq, if_neg (by intro e; exact hq (e ▸ hp))]; rfl
        · rw [if_neg hp, T.get_nd]
          by_cases hm : m = 0
          · rw [if_pos hm, if_neg (by omega)]; rfl
          · rw [if_neg hm]
            by_cases hq : m % 2 = 1
            · rw [if_pos hq, if_neg (by intro e; exact hp (e ▸ hq))]; rfl
            · rw [if_neg hq, key hn]
              by_cases e : m = n
              · rw [if_pos (by omega), if_pos e]
              · rw [if_neg (by omega), if_neg e]; rfl
    | nd v l r =>
      rw [T.setF_nd, T.get_nd]
      by_cases hn : n = 0
      · rw [if_pos hn, T.get_nd, hn]
        by_cases hm : m = 0 <;> simp [hm]
      · rw [if_neg hn]
        by_cases hp : n % 2 = 1
        · rw [if_pos hp, T.get_nd]
          by_cases hm : m = 0
          · rw [if_pos hm, if_neg (by omega), if_pos hm]
          · rw [if_neg hm, if_neg hm]
            by_cases hq : m % 2 = 1
            · rw [if_pos hq, if_pos hq, key hn]
              by_cases e : m = n
              · rw [if_pos (by omega), if_pos e]
              · rw [if_neg (by omega), if_neg e]
            · rw [if_neg hq, if_neg hq, if_neg (by intro e; exact hq (e ▸ hp))]
        · rw [if_neg hp, T.get_nd]
          by_cases hm : m = 0
          · rw [if_pos hm, if_neg (by omega), if_pos hm]
          · rw [if_neg hm, if_neg hm]
            by_cases hq : m % 2 = 1
            · rw [if_pos hq, if_pos hq, if_neg (by intro e; exact hp (e ▸ hq))]
            · rw [if_neg hq, if_neg hq, key hn]
              by_cases e : m = n
              · rw [if_pos (by omega), if_pos e]
              · rw [if_neg (by omega), if_neg e]
theorem T.get_set {α : Type} (t : T α) (n m : Nat) (a : α) : (t.set n a).get m = if m = n then some a else t.get m := T.get_setF _ _ _ _ _ (by omega)
theorem T.get_del {α : Type} (t : T α) (n m : Nat) : (t.del n).get m = if m = n then none else t.get m := T.get_setF _ _ _ _ _ (by omega)
/-! ## lists -/
theorem takeN_zero {α : Type} (l : List α) : takeN 0 l = some [] := rfl
theorem takeN_nil {α : Type} (n : Nat) : takeN (n + 1) ([] : List α) = none := rfl
theorem takeN_cons {α : Type} (n : Nat) (x : α) (l : List α) : takeN (n + 1) (x :: l) = (takeN n l).map (x :: ·) := by
  show (Option.rec (motive := fun _ => Option (List α)) none (fun m => some (x :: m)) (takeN n l)) = _
  cases takeN n l <;> rfl
theorem dropN_zero {α : Type} (l : List α) : dropN 0 l = l := rfl
theorem dropN_nil {α : Type} (n : Nat) : dropN (n + 1) ([] : List α) = [] := rfl
theorem dropN_cons {α : Type} (n : Nat) (x : α) (l : List α) : dropN (n + 1) (x :: l) = dropN n l := rfl
theorem splice_zn {α : Type} (l : List α) : splice 0 l [] = some l := rfl
theorem splice_zc {α : Type} (x v : α) (l vs : List α) : splice 0 (x :: l) (v :: vs) = (splice 0 l vs).map (v :: ·) := by
  show (Option.rec (motive := fun _ => Option (List α)) none (fun m => some (v :: m)) (splice 0 l vs)) = _
  cases splice 0 l vs <;> rfl
theorem splice_zx {α : Type} (v : α) (vs : List α) : splice 0 [] (v :: vs) = none := rfl
theorem splice_sn {α : Type} (n : Nat) (vs : List α) : splice (n + 1) [] vs = none := rfl
theorem splice_sc {α : Type} (n : Nat) (x : α) (l vs : List α) : splice (n + 1) (x :: l) vs = (splice n l vs).map (x :: ·) := by
  show (Option.rec (motive := fun _ => Option (List α)) none (fun m => some (x :: m)) (splice n l vs)) = _
  cases splice n l vs <;> rfl
theorem takeN_eq {α : Type} : ∀ (n : Nat) (l : List α), takeN n l = if n ≤ l.length then some (l.take n) else none := by
  intro n
  induction n with
  | zero => intro l; simp [takeN_zero, takeN_nil]
  | succ n ih =>
    intro l
    cases l with
    | nil => simp [takeN_zero, takeN_nil]
    | cons x l => by_cases h : n ≤ l.length <;> simp [takeN_cons, ih, h]
theorem dropN_eq {α : Type} : ∀ (n : Nat) (l : List α), dropN n l = l.drop n := by
  intro n
  induction n with
  | zero => intro l; simp [dropN_zero, dropN_nil]
  | succ n ih =>
    intro l
    cases l with
    | nil => simp [dropN_zero, dropN_nil]
    | cons x l => simp [dropN_cons, ih]
theorem splice_eq {α : Type} : ∀ (n : Nat) (l vs : List α), splice n l vs = if n + vs.length ≤ l.length then some (l.take n ++ vs ++ l.drop (n + vs.length)) else none := by
  intro n
  induction n with
  | zero =>
    intro l vs
    induction vs generalizing l with
    | nil => simp [splice_zn, splice_zx, splice_sn]
    | cons v vs ih =>
      cases l with
      | nil => simp [splice_zn, splice_zx, splice_sn]
      | cons x l =>
        simp only [splice_zc, splice_sc, ih]
        by_cases h : vs.length ≤ l.length <;> simp [h]
  | succ n ih =>
    intro l vs
    cases l with
    | nil => simp [splice_zn, splice_zx, splice_sn]
    | cons x l =>
      simp only [splice_zc, splice_sc, ih]
      by_cases h : n + vs.length ≤ l.length
      · simp [h, show n + 1 + vs.length = (n + vs.length) + 1 by omega]
      · simp [h, show n + 1 + vs.length = (n + vs.length) + 1 by omega]

/-! ## where an abstract block lies -/
structure Pl where
  b : Nat
  d : Nat
  n : Nat
  x : Nat
  s : Nat
abbrev Rho := Nat → Option Pl

def capOK (p : Pl) (off c c' : Nat) : Prop := if off + c * p.s = p.n ∧ p.x ≠ 0 then c ≤ c' ∧ (c' - c) * p.s = p.x else c' = c

inductive VR (ρ : Rho) : Value → Value → Prop
  | any (v : Value) : oneCell v = true → VR ρ (.chan none) v
  | bool (b : Bool) : VR ρ (.bool b) (.bool b)
  | int (k : IntKind) (n : Int) : VR ρ (.int k n) (.int k n)
  | string (s : ByteArray) : VR ρ (.string s) (.string s)
  | ptr0 : VR ρ (.pointer none) (.pointer none)
  | ptr (b o : Nat) (p : Pl) : ρ b = some p → VR ρ (.pointer (some ⟨b, o, none⟩)) (.pointer (some ⟨p.b, p.d + o, none⟩))
  | slc0 (n c : Nat) : VR ρ (.slice none n c) (.slice none n c)
  | slc (b o n c c' : Nat) (p : Pl) : ρ b = some p → 0 < c → n ≤ c → capOK p o c c' → VR ρ (.slice (some ⟨b, o, none⟩) n c) (.slice (some ⟨p.b, p.d + o, none⟩) n c')
  | slce (b o : Nat) (p : Pl) (a' : Addr) (c' : Nat) : ρ b = some p → (c' = 0 ∨ (p.x ≠ 0 ∧ o = p.n ∧ a' = ⟨p.b, p.d + p.n, none⟩ ∧ c' * p.s = p.x)) → VR ρ (.slice (some ⟨b, o, none⟩) 0 0) (.slice (some a') 0 c')
  | map0 : VR ρ (.map none) (.map none)
  | map (r : Nat) (p : Pl) : ρ r = some p → VR ρ (.map (some r)) (.map (some p.b))
  | nilFunc : VR ρ .nilFunc .nilFunc
  | nilIface : VR ρ .nilIface .nilIface
  | iface (t : TypeId) (v v' : Value) : VR ρ v v' → VR ρ (.iface t v) (.iface t v')
  | func (fn : Fn) (a a' b b' : Array Value) : a.size = a'.size → (∀ (i : Nat) (v v' : Value), a[i]? = some v → a'[i]? = some v' → VR ρ v v') →
      b.size = b'.size → (∀ (i : Nat) (v v' : Value), b[i]? = some v → b'[i]? = some v' → VR ρ v v') → VR ρ (.func fn a b) (.func fn a' b')
  | agg (a a' : Array Value) : a.size = a'.size → (∀ (i : Nat) (v v' : Value), a[i]? = some v → a'[i]? = some v' → VR ρ v v') → VR ρ (.agg a) (.agg a')
  | tuple (a a' : Array Value) : a.size = a'.size → (∀ (i : Nat) (v v' : Value), a[i]? = some v → a'[i]? = some v' → VR ρ v v') → VR ρ (.tuple a) (.tuple a')

def VL (ρ : Rho) (l l' : List Value) : Prop := l.length = l'.length ∧ ∀ (i : Nat) (v v' : Value), l[i]? = some v → l'[i]? = some v' → VR ρ v v'

def Rho.le (ρ ρ' : Rho) : Prop := ∀ A p, ρ A = some p → ρ' A = some p
theorem Rho.le_refl (ρ : Rho) : ρ.le ρ := fun _ _ h => h
theorem Rho.le_trans {ρ ρ' ρ'' : Rho} (h : ρ.le ρ') (h' : ρ'.le ρ'') : ρ.le ρ'' := fun _ _ k => h' _ _ (h _ _ k)

theorem VR.mono {ρ ρ' : Rho} (h : ρ.le ρ') {v v' : Value} (hv : VR ρ v v') : VR ρ' v v' := by
  induction hv with
  | any v h1 => exact .any v h1
  | bool b => exact .bool b
  | int k n => exact .int k n
  | string s => exact .string s
  | ptr0 => exact .ptr0
  | ptr b o p hp => exact .ptr b o p (h _ _ hp)
  | slc0 n c => exact .slc0 n c
  | slc b o n c c' p hp hc hn hk => exact .slc b o n c c' p (h _ _ hp) hc hn hk
  | slce b o p a' c' hp hk => exact .slce b o p a' c' (h _ _ hp) hk
  | map0 => exact .map0
  | map r p hp => exact .map r p (h _ _ hp)
  | nilFunc => exact .nilFunc
  | nilIface => exact .nilIface
  | iface t v v' _ ih => exact .iface t v v' ih
  | func fn a a' b b' h1 _ h3 _ ih1 ih2 => exact .func fn a a' b b' h1 ih1 h3 ih2
  | agg a a' h1 _ ih => exact .agg a a' h1 ih
  | tuple a a' h1 _ ih => exact .tuple a a' h1 ih
theorem VL.mono {ρ ρ' : Rho} (h : ρ.le ρ') {l l' : List Value} (hv : VL ρ l l') : VL ρ' l l' := ⟨hv.1, fun i v v' a b => (hv.2 i v v' a b).mono h⟩

theorem VL.nil (ρ : Rho) : VL ρ [] [] := ⟨rfl, fun i v v' h => by simp at h⟩
theorem VL.cons {ρ : Rho} {v v' : Value} {l l' : List Value} (h : VR ρ v v') (hl : VL ρ l l') : VL ρ (v :: l) (v' :: l') := by
  refine ⟨by simp [hl.1], fun i u u' a b => ?_⟩
  cases i with
  | zero => simp at a b; subst a b; exact h
  | succ i => simp at a b; exact hl.2 i u u' a b
theorem VL.uncons {ρ : Rho} {v : Value} {l m : List Value} (h : VL ρ (v :: l) m) : ∃ v' l', m = v' :: l' ∧ VR ρ v v' ∧ VL ρ l l' := by
  obtain ⟨h1, h2⟩ := h
  cases m with
  | nil => simp at h1
  | cons v' l' => exact ⟨v', l', rfl, h2 0 v v' rfl rfl, by simpa using h1, fun i u u' a b => h2 (i + 1) u u' (by simpa using a) (by simpa using b)⟩
theorem VL.unnil {ρ : Rho} {m : List Value} (h : VL ρ [] m) : m = [] := by
  have := h.1; simp at this; exact List.length_eq_zero_iff.1 this.symm
theorem VL.get {ρ : Rho} {l l' : List Value} (h : VL ρ l l') {i : Nat} {v : Value} (hi : l[i]? = some v) : ∃ v', l'[i]? = some v' ∧ VR ρ v v' := by
  have hlt : i < l'.length := by have := (List.getElem?_eq_some_iff.1 hi).1; have := h.1; omega
  exact ⟨l'[i], by simp [hlt], h.2 i v _ hi (by simp [hlt])⟩
theorem VL.append {ρ : Rho} {l l' m m' : List Value} (h : VL ρ l l') (k : VL ρ m m') : VL ρ (l ++ m) (l' ++ m') := by
  induction l generalizing l' with
  | nil => rw [h.unnil]; simpa using k
  | cons v l ih => obtain ⟨v', l'', rfl, hv, hl⟩ := h.uncons; exact .cons hv (ih hl)
theorem VL.take {ρ : Rho} {l l' : List Value} (h : VL ρ l l') (n : Nat) : VL ρ (l.take n) (l'.take n) := by
  refine ⟨by simp [h.1], fun i v v' a b => ?_⟩
  rw [List.getElem?_take] at a b
  split at a
  · rw [if_pos (by assumption)] at b; exact h.2 i v v' a b
  · cases a
theorem VL.drop {ρ : Rho} {l l' : List Value} (h : VL ρ l l') (n : Nat) : VL ρ (l.drop n) (l'.drop n) := by
  refine ⟨by simp [h.1], fun i v v' a b => ?_⟩
  rw [List.getElem?_drop] at a b
  exact h.2 _ v v' a b
theorem VL.of_array {ρ : Rho} {a a' : Array Value} (h1 : a.size = a'.size) (h2 : ∀ (i : Nat) (v v' : Value), a[i]? = some v → a'[i]? = some v' → VR ρ v v') : VL ρ a.toList a'.toList :=
  ⟨by simpa using h1, fun i v v' h h' => h2 i v v' (by simpa using h) (by simpa using h')⟩
theorem VL.toArray {ρ : Rho} {l l' : List Value} (h : VL ρ l l') : l.toArray.size = l'.toArray.size ∧ ∀ (i : Nat) (v v' : Value), l.toArray[i]? = some v → l'.toArray[i]? = some v' → VR ρ v v' :=
  ⟨by simpa using h.1, fun i v v' a b => h.2 i v v' (by simpa using a) (by simpa using b)⟩
theorem VR.aggL {ρ : Rho} {l l' : List Value} (h : VL ρ l l') : VR ρ (.agg l.toArray) (.agg l'.toArray) := .agg _ _ h.toArray.1 h.toArray.2
theorem VR.tupleL {ρ : Rho} {l l' : List Value} (h : VL ρ l l') : VR ρ (.tuple l.toArray) (.tuple l'.toArray) := .tuple _ _ h.toArray.1 h.toArray.2
theorem VR.oneCell {ρ : Rho} {v v' : Value} (h : VR ρ v v') : Am.oneCell v = true → Am.oneCell v' = true := by
  cases h <;> simp [Am.oneCell]; assumption
theorem VR.oneCell_eq {ρ : Rho} {v v' : Value} (h : VR ρ v v') : Am.oneCell v' = Am.oneCell v := by
  cases h <;> simp [Am.oneCell]; assumption
/-- the cells of a value -/
theorem VR.cells {ρ : Rho} {v v' : Value} (h : VR ρ v v') : VL ρ (cellsOf v) (cellsOf v') := by
  have one : ∀ u u' : Value, VR ρ u u' → Am.oneCell u = true → VL ρ (cellsOf u) (cellsOf u') := by
    intro u u' hu h1
    have h1' := hu.oneCell h1
    have e : cellsOf u = [u] := by cases u <;> simp_all [Am.oneCell, cellsOf]
    have e' : cellsOf u' = [u'] := by cases u' <;> simp_all [Am.oneCell, cellsOf]
    rw [e, e']; exact .cons hu (.nil ρ)
  cases h with
  | agg a a' h1 h2 => exact VL.of_array h1 h2
  | tuple a a' h1 h2 => exact .cons (.tuple a a' h1 h2) (.nil ρ)
  | _ => exact one _ _ (by constructor <;> assumption) (by first | rfl | assumption)
end Go.Am
