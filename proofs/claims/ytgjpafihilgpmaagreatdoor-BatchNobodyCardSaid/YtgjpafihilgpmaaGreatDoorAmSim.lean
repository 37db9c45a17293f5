/-
  A part of the proof that the run of an abstract machine, which the kernel can run, is what the program does under its model: no condition of its own.
-/
import Derived.Test.YtgjpafihilgpmaaGreatDoorAmRel
import Derived.Lib.FrozenHead
set_option linter.unusedVariables false
set_option linter.unusedSimpArgs false
namespace Go.Am
open Go

/-! ## abstract memory and real memory -/
theorem St.get_put (σ : St) (b A : Nat) (o : AObj) : (σ.put b o).h.get A = if A = b then some o else σ.h.get A := T.get_set _ _ _ _
theorem St.get_kill (σ : St) (b A : Nat) : (σ.kill b).h.get A = if A = b then none else σ.h.get A := T.get_del _ _ _
theorem St.get_new (σ : St) (o : AObj) (A : Nat) : (σ.new o).2.h.get A = if A = σ.nx then some o else σ.h.get A := T.get_set _ _ _ _
theorem St.nx_new (σ : St) (o : AObj) : (σ.new o).2.nx = σ.nx + 1 := rfl
theorem St.row_eq {σ : St} {b : Nat} {r : Blk} : σ.row? b = some r ↔ σ.h.get b = some (.row r) := by
  unfold St.row?; cases h : σ.h.get b with
  | none => simp
  | some o => cases o <;> simp
theorem St.map_eq {σ : St} {b : Nat} {x : List MapEntry × Nat} : σ.map? b = some x ↔ σ.h.get b = some (.map x.1 x.2) := by
  unfold St.map?; cases h : σ.h.get b with
  | none => simp
  | some o => cases o <;> simp [Prod.ext_iff]

structure RowAt (P : Program) (ρ : Rho) (H : Array Obj) (r : Blk) (p : Pl) : Prop where
  ex : ∃ C fr, H[p.b]? = some (.cells C r.elem fr) ∧ p.d + p.n + p.x = C.size ∧ (r.ro = false → fr.1 ≤ fr.2 ∧ (fr.1 < fr.2 → fr.2 ≤ p.d + r.fz ∨ (r.str = true ∧ C.size ≤ fr.1))) ∧
    ∀ (i : Nat) (v : Value), r.cs[i]? = some v → ∃ v', C[p.d + i]? = some v' ∧ VR ρ v v'
  n : p.n = r.cs.length
  ex0 : r.loose = false → p.d = 0 ∧ p.x = 0
  s : p.x ≠ 0 → 0 < p.s ∧ sizeN P r.elem = some p.s
  fz : r.fz ≤ p.n

def ER (ρ : Rho) (e e' : MapEntry) : Prop := VR ρ e.key e'.key ∧ VR ρ e.val e'.val ∧ e.born = e'.born
inductive EL (ρ : Rho) : List MapEntry → List MapEntry → Prop
  | nil : EL ρ [] []
  | cons {e e' : MapEntry} {l l' : List MapEntry} : ER ρ e e' → EL ρ l l' → EL ρ (e :: l) (e' :: l')
theorem EL.mono {ρ ρ' : Rho} (h : ρ.le ρ') {l l' : List MapEntry} (k : EL ρ l l') : EL ρ' l l' := by
  induction k with
  | nil => exact .nil
  | cons a _ ih => exact .cons ⟨a.1.mono h, a.2.1.mono h, a.2.2⟩ ih

structure Rel (P : Program) (ρ : Rho) (σ : St) (H : Array Obj) : Prop where
  fresh : ∀ A, σ.nx ≤ A → σ.h.get A = none ∧ ρ A = none
  low : 64 ≤ σ.nx
  glob : ∀ g, g < 64 → ∃ p, ρ g = some p ∧ p.b = g ∧ p.d = 0
  row : ∀ A r p, σ.h.get A = some (.row r) → ρ A = some p → RowAt P ρ H r p
  mp : ∀ A es c p, σ.h.get A = some (.map es c) → ρ A = some p → ∃ es', H[p.b]? = some (.map es' c) ∧ EL ρ es es'.toList
  inj : ∀ A A' o o' p p', A ≠ A' → σ.h.get A = some o → σ.h.get A' = some o' → ρ A = some p → ρ A' = some p' → p.b ≠ p'.b

def AObj.opn (o : AObj) : Prop := match o with | .row r => r.ro = false | .map _ _ => True
/-- may block B be written through the abstract memory? -/
def Wr (ρ : Rho) (σ : St) (B : Nat) : Prop := ∃ A o p, σ.h.get A = some o ∧ ρ A = some p ∧ p.b = B ∧ o.opn

structure Sim (ρ : Rho) (σ : St) (w : World) (ρ' : Rho) (σ' : St) (w' : World) : Prop where
  le : ρ.le ρ'
  ghost : ∀ A, A < σ.nx → ρ A = none → ρ' A = none ∧ σ'.h.get A = σ.h.get A
  nx : σ.nx ≤ σ'.nx
  size : w.heap.size ≤ w'.heap.size
  frame : ∀ B, B < w.heap.size → ¬ Wr ρ σ B → w'.heap[B]? = w.heap[B]?
  wr : ∀ B, Wr ρ' σ' B → Wr ρ σ B ∨ w.heap.size ≤ B
  out : w'.os = w.os ∧ w'.output = w.output ∧ w'.tape = w.tape

theorem Sim.refl (ρ : Rho) (σ : St) (w : World) : Sim ρ σ w ρ σ w :=
  ⟨Rho.le_refl ρ, fun _ _ h => ⟨h, rfl⟩, Nat.le_refl _, Nat.le_refl _, fun _ _ _ => rfl, fun _ h => .inl h, rfl, rfl, rfl⟩
theorem Sim.drew (ρ : Rho) (σ : St) (w : World) : Sim ρ σ w ρ σ w.drew :=
  ⟨Rho.le_refl ρ, fun _ _ h => ⟨h, rfl⟩, Nat.le_refl _, Nat.le_refl _, fun _ _ _ => rfl, fun _ h => .inl h, rfl, rfl, rfl⟩
theorem Sim.trans {ρ ρ1 ρ2 : Rho} {σ σ1 σ2 : St} {w w1 w2 : World} (h : Sim ρ σ w ρ1 σ1 w1) (k : Sim ρ1 σ1 w1 ρ2 σ2 w2) : Sim ρ σ w ρ2 σ2 w2 where
  le := Rho.le_trans h.le k.le
  ghost := fun A ha hn => by
    obtain ⟨a1, a2⟩ := h.ghost A ha hn
    obtain ⟨b1, b2⟩ := k.ghost A (Nat.lt_of_lt_of_le ha h.nx) a1
    exact ⟨b1, b2.trans a2⟩
  nx := Nat.le_trans h.nx k.nx
  size := Nat.le_trans h.size k.size
  frame := fun B hB hn => by
    rw [k.frame B (Nat.lt_of_lt_of_le hB h.size) (fun hw => (h.wr B hw).elim hn (fun a => by omega)), h.frame B hB hn]
  wr := fun B hw => by
    rcases k.wr B hw with a | a
    · exact h.wr B a
    · exact .inr (Nat.le_trans h.size a)
  out := ⟨k.out.1.trans h.out.1, k.out.2.1.trans h.out.2.1, k.out.2.2.trans h.out.2.2⟩

def Rho.upd (ρ : Rho) (A : Nat) (p : Pl) : Rho := fun B => if B = A then some p else ρ B
theorem Rho.le_upd {ρ : Rho} {A : Nat} (p : Pl) (h : ρ A = none) : ρ.le (ρ.upd A p) := fun B q hB => by
  unfold Rho.upd; split
  · rename_i e; subst e; rw [h] at hB; cases hB
  · exact hB
theorem Rho.upd_self (ρ : Rho) (A : Nat) (p : Pl) : ρ.upd A p A = some p := if_pos rfl
theorem Rho.upd_ne (ρ : Rho) {A B : Nat} (p : Pl) (h : B ≠ A) : ρ.upd A p B = ρ B := if_neg h

theorem RowAt.mono {P : Program} {ρ ρ' : Rho} {H H' : Array Obj} {r : Blk} {p : Pl} (h : RowAt P ρ H r p) (le : ρ.le ρ') (e : H'[p.b]? = H[p.b]?) : RowAt P ρ' H' r p := by
  obtain ⟨⟨C, fr, h1, h2, h3, h4⟩, h5, h6, h7, h8⟩ := h
  exact ⟨⟨C, fr, e.trans h1, h2, h3, fun i v hv => let ⟨v', a, b⟩ := h4 i v hv; ⟨v', a, b.mono le⟩⟩, h5, h6, h7, h8⟩
theorem RowAt.lt {P : Program} {ρ : Rho} {H : Array Obj} {r : Blk} {p : Pl} (h : RowAt P ρ H r p) : p.b < H.size := by
  obtain ⟨⟨C, fr, h1, _⟩, _⟩ := h
  exact (Array.getElem?_eq_some_iff.1 h1).1
theorem Rel.lt {P : Program} {ρ : Rho} {σ : St} {H : Array Obj} (h : Rel P ρ σ H) {A : Nat} {o : AObj} {p : Pl} (ho : σ.h.get A = some o) (hp : ρ A = some p) : p.b < H.size := by
  cases o with
  | row r => exact (h.row A r p ho hp).lt
  | map es c => obtain ⟨es', h1, _⟩ := h.mp A es c p ho hp; exact (Array.getElem?_eq_some_iff.1 h1).1
theorem Rel.dom {P : Program} {ρ : Rho} {σ : St} {H : Array Obj} (h : Rel P ρ σ H) {A : Nat} {p : Pl} (hp : ρ A = some p) : A < σ.nx := by
  rcases Nat.lt_or_ge A σ.nx with a | a
  · exact a
  · rw [(h.fresh A a).2] at hp; cases hp
theorem Rel.dom' {P : Program} {ρ : Rho} {σ : St} {H : Array Obj} (h : Rel P ρ σ H) {A : Nat} {o : AObj} (ho : σ.h.get A = some o) : A < σ.nx := by
  rcases Nat.lt_or_ge A σ.nx with a | a
  · exact a
  · rw [(h.fresh A a).1] at ho; cases ho
theorem Wr.lt {P : Program} {ρ : Rho} {σ : St} {H : Array Obj} (h : Rel P ρ σ H) {B : Nat} (k : Wr ρ σ B) : B < H.size := by
  obtain ⟨A, o, p, ho, hp, rfl, _⟩ := k; exact h.lt ho hp

/-- what an abstract object is in real memory -/
def ObjAt (P : Program) (ρ : Rho) (H : Array Obj) (o : AObj) (p : Pl) : Prop :=
  match o with
  | .row r => RowAt P ρ H r p
  | .map es c => ∃ es', H[p.b]? = some (.map es' c) ∧ EL ρ es es'.toList
theorem ObjAt.mono {P : Program} {ρ ρ' : Rho} {H H' : Array Obj} {o : AObj} {p : Pl} (h : ObjAt P ρ H o p) (le : ρ.le ρ') (e : H'[p.b]? = H[p.b]?) : ObjAt P ρ' H' o p := by
  cases o with
  | row r => exact RowAt.mono h le e
  | map es c => obtain ⟨es', h1, h2⟩ := h; exact ⟨es', e.trans h1, h2.mono le⟩
theorem Rel.obj {P : Program} {ρ : Rho} {σ : St} {H : Array Obj} (h : Rel P ρ σ H) {A : Nat} {o : AObj} {p : Pl} (ho : σ.h.get A = some o) (hp : ρ A = some p) : ObjAt P ρ H o p := by
  cases o with
  | row r => exact h.row A r p ho hp
  | map es c => exact h.mp A es c p ho hp
theorem Rel.mk' {P : Program} {ρ : Rho} {σ : St} {H : Array Obj} (fresh : ∀ A, σ.nx ≤ A → σ.h.get A = none ∧ ρ A = none) (low : 64 ≤ σ.nx) (glob : ∀ g, g < 64 → ∃ p, ρ g = some p ∧ p.b = g ∧ p.d = 0)
    (obj : ∀ A o p, σ.h.get A = some o → ρ A = some p → ObjAt P ρ H o p)
    (inj : ∀ A A' o o' p p', A ≠ A' → σ.h.get A = some o → σ.h.get A' = some o' → ρ A = some p → ρ A' = some p' → p.b ≠ p'.b) : Rel P ρ σ H :=
  ⟨fresh, low, glob, fun A r p h hp => obj A (.row r) p h hp, fun A es c p h hp => obj A (.map es c) p h hp, inj⟩

/-- a block is changed in place -/
theorem Rel.put {P : Program} {ρ : Rho} {σ : St} {H : Array Obj} (h : Rel P ρ σ H) {A : Nat} {o : AObj} {p : Pl} (ho : σ.h.get A = some o) (hp : ρ A = some p)
    (o1 : AObj) (H' : Array Obj) (hsame : ∀ B, B ≠ p.b → H'[B]? = H[B]?) (hat : ObjAt P ρ H' o1 p) : Rel P ρ (σ.put A o1) H' := by
  refine .mk' (fun B hB => ?_) h.low h.glob (fun B o2 q hB hq => ?_) (fun B B' o2 o3 q q' hne hB hB' hq hq' => ?_)
  · have hA := h.dom hp
    refine ⟨?_, (h.fresh B hB).2⟩
    rw [St.get_put, if_neg (by intro e; subst e; exact absurd hA (Nat.not_lt.2 hB))]
    exact (h.fresh B hB).1
  · rw [St.get_put] at hB
    split at hB
    · rename_i e; subst e; cases hB; rw [hp] at hq; cases hq; exact hat
    · rename_i e
      exact (h.obj hB hq).mono (Rho.le_refl ρ) (hsame _ (h.inj B A o2 o q p e hB ho hq hp))
  · rw [St.get_put] at hB hB'
    have a1 : ∃ o4, σ.h.get B = some o4 := by
      split at hB
      · rename_i e; subst e; exact ⟨o, ho⟩
      · exact ⟨_, hB⟩
    have a2 : ∃ o4, σ.h.get B' = some o4 := by
      split at hB'
      · rename_i e; subst e; exact ⟨o, ho⟩
      · exact ⟨_, hB'⟩
    obtain ⟨o4, h4⟩ := a1
    obtain ⟨o5, h5⟩ := a2
    exact h.inj B B' o4 o5 q q' hne h4 h5 hq hq'

theorem Sim.put {P : Program} {ρ : Rho} {σ : St} {w : World} (h : Rel P ρ σ w.heap) {A : Nat} {o : AObj} {p : Pl} (ho : σ.h.get A = some o) (hop : o.opn) (hp : ρ A = some p)
    (o1 : AObj) (w' : World) (hsame : ∀ B, B ≠ p.b → w'.heap[B]? = w.heap[B]?) (hsz : w'.heap.size = w.heap.size) (hout : w'.os = w.os ∧ w'.output = w.output ∧ w'.tape = w.tape) :
    Sim ρ σ w ρ (σ.put A o1) w' where
  le := Rho.le_refl ρ
  ghost := fun B _ hn => ⟨hn, by rw [St.get_put, if_neg (by intro e; subst e; rw [hp] at hn; cases hn)]⟩
  nx := Nat.le_refl _
  size := Nat.le_of_eq hsz.symm
  frame := fun B _ hn => hsame B (fun e => hn ⟨A, o, p, ho, hp, e.symm, hop⟩)
  wr := fun B ⟨A', o', p', ho', hp', e, hop'⟩ => by
    rw [St.get_put] at ho'
    split at ho'
    · rename_i e'; subst e'; rw [hp] at hp'; cases hp'; exact .inl ⟨_, o, p, ho, hp, e, hop⟩
    · exact .inl ⟨A', o', p', ho', hp', e, hop'⟩
  out := hout

/-- a new block -/
theorem Rel.new {P : Program} {ρ : Rho} {σ : St} {H : Array Obj} (h : Rel P ρ σ H) (o : AObj) (o' : Obj) (p : Pl) (hb : p.b = H.size)
    (hat : ObjAt P (ρ.upd σ.nx p) (H.push o') o p) : Rel P (ρ.upd σ.nx p) (σ.new o).2 (H.push o') := by
  have hf := h.fresh σ.nx (Nat.le_refl _)
  have hle := Rho.le_upd p hf.2
  have hpush : ∀ B, B < H.size → (H.push o')[B]? = H[B]? := fun B hB => by rw [Array.getElem?_push, if_neg (by omega)]
  refine .mk' (fun B hB => ?_) (Nat.le_succ_of_le h.low) (fun g hg => ?_) (fun B o2 q hB hq => ?_) (fun B B' o2 o3 q q' hne hB hB' hq hq' => ?_)
  · rw [St.nx_new] at hB
    rw [St.get_new, if_neg (by omega), Rho.upd_ne _ _ (by omega)]
    exact h.fresh B (by omega)
  · obtain ⟨q, h1, h2⟩ := h.glob g hg
    exact ⟨q, hle _ _ h1, h2⟩
  · rw [St.get_new] at hB
    split at hB
    · rename_i e; subst e; cases hB; rw [Rho.upd_self] at hq; cases hq; exact hat
    · rename_i e
      rw [Rho.upd_ne _ _ e] at hq
      exact (h.obj hB hq).mono hle (hpush _ (h.lt hB hq))
  · rw [St.get_new] at hB hB'
    by_cases e : B = σ.nx
    · subst e
      rw [if_neg (Ne.symm hne)] at hB'
      rw [Rho.upd_self] at hq; cases hq
      rw [Rho.upd_ne _ _ (Ne.symm hne)] at hq'
      have := h.lt hB' hq'; omega
    · rw [if_neg e] at hB
      rw [Rho.upd_ne _ _ e] at hq
      by_cases e' : B' = σ.nx
      · subst e'
        rw [Rho.upd_self] at hq'; cases hq'
        have := h.lt hB hq; omega
      · rw [if_neg e'] at hB'
        rw [Rho.upd_ne _ _ e'] at hq'
        exact h.inj B B' o2 o3 q q' hne hB hB' hq hq'
theorem Sim.new {P : Program} {ρ : Rho} {σ : St} {w : World} (h : Rel P ρ σ w.heap) (o : AObj) (o' : Obj) (p : Pl) (hb : p.b = w.heap.size) (w' : World) (hw : w'.heap = w.heap.push o')
    (hout : w'.os = w.os ∧ w'.output = w.output ∧ w'.tape = w.tape) : Sim ρ σ w (ρ.upd σ.nx p) (σ.new o).2 w' where
  le := Rho.le_upd p (h.fresh σ.nx (Nat.le_refl _)).2
  ghost := fun A ha hn => ⟨by rw [Rho.upd_ne _ _ (by omega)]; exact hn, by rw [St.get_new, if_neg (by omega)]⟩
  nx := by rw [St.nx_new]; omega
  size := by rw [hw]; simp
  frame := fun B hB _ => by rw [hw, Array.getElem?_push, if_neg (by omega)]
  wr := fun B ⟨A, o2, q, ho, hq, e, hop⟩ => by
    rw [St.get_new] at ho
    by_cases e' : A = σ.nx
    · subst e'; rw [Rho.upd_self] at hq; cases hq; exact .inr (by omega)
    · rw [if_neg e'] at ho; rw [Rho.upd_ne _ _ e'] at hq; exact .inl ⟨A, o2, q, ho, hq, e, hop⟩
  out := hout

theorem Rel.kill {P : Program} {ρ : Rho} {σ : St} {H : Array Obj} (h : Rel P ρ σ H) (A : Nat) : Rel P ρ (σ.kill A) H := by
  have g : ∀ B o, (σ.kill A).h.get B = some o → σ.h.get B = some o := fun B o hB => by
    rw [St.get_kill] at hB
    split at hB
    · cases hB
    · exact hB
  refine .mk' (fun B hB => ⟨?_, (h.fresh B hB).2⟩) h.low h.glob (fun B o q hB hq => h.obj (g _ _ hB) hq) (fun B B' o2 o3 q q' hne hB hB' hq hq' => h.inj B B' o2 o3 q q' hne (g _ _ hB) (g _ _ hB') hq hq')
  rw [St.get_kill]
  split
  · rfl
  · exact (h.fresh B hB).1
theorem Sim.kill {P : Program} {ρ : Rho} {σ : St} {w : World} (_h : Rel P ρ σ w.heap) {A : Nat} {p : Pl} (hp : ρ A = some p) : Sim ρ σ w ρ (σ.kill A) w where
  le := Rho.le_refl ρ
  ghost := fun B _ hn => ⟨hn, by rw [St.get_kill, if_neg (by intro e; subst e; rw [hp] at hn; cases hn)]⟩
  nx := Nat.le_refl _
  size := Nat.le_refl _
  frame := fun _ _ _ => rfl
  wr := fun B ⟨A', o, q, ho, hq, e, hop⟩ => .inl ⟨A', o, q, by
    rw [St.get_kill] at ho
    split at ho
    · cases ho
    · exact ho, hq, e, hop⟩
  out := ⟨rfl, rfl, rfl⟩

/-- a block goes on as another one, over the same real block -/
theorem Rel.grow {P : Program} {ρ : Rho} {σ : St} {H : Array Obj} (h : Rel P ρ σ H) {A : Nat} {o : AObj} {q : Pl} (ho : σ.h.get A = some o) (hq : ρ A = some q)
    (o1 : AObj) (p : Pl) (hb : p.b = q.b) (H' : Array Obj) (hsame : ∀ B, B ≠ q.b → H'[B]? = H[B]?) (hat : ObjAt P (ρ.upd σ.nx p) H' o1 p) :
    Rel P (ρ.upd σ.nx p) ((σ.kill A).new o1).2 H' := by
  have hf := h.fresh σ.nx (Nat.le_refl _)
  have hle := Rho.le_upd p hf.2
  have hA := h.dom' ho
  have nxk : (σ.kill A).nx = σ.nx := rfl
  have g : ∀ B o, ((σ.kill A).new o1).2.h.get B = some o → B ≠ σ.nx → σ.h.get B = some o ∧ B ≠ A := fun B o hB hne => by
    rw [St.get_new, nxk, if_neg hne, St.get_kill] at hB
    split at hB
    · cases hB
    · exact ⟨hB, by assumption⟩
  refine .mk' (fun B hB => ?_) (Nat.le_succ_of_le h.low) (fun g hg => ?_) (fun B o2 r hB hr => ?_) (fun B B' o2 o3 r r' hne hB hB' hr hr' => ?_)
  · rw [St.nx_new, nxk] at hB
    rw [St.get_new, nxk, if_neg (by omega), Rho.upd_ne _ _ (by omega), St.get_kill, if_neg (by omega)]
    exact h.fresh B (by omega)
  · obtain ⟨q, h1, h2⟩ := h.glob g hg
    exact ⟨q, hle _ _ h1, h2⟩
  · by_cases e : B = σ.nx
    · subst e; rw [St.get_new, nxk, if_pos rfl] at hB; cases hB; rw [Rho.upd_self] at hr; cases hr; exact hat
    · obtain ⟨h1, h2⟩ := g B o2 hB e
      rw [Rho.upd_ne _ _ e] at hr
      exact (h.obj h1 hr).mono hle (hsame _ (h.inj B A o2 o r q h2 h1 ho hr hq))
  · by_cases e : B = σ.nx
    · subst e
      obtain ⟨h1, h2⟩ := g B' o3 hB' (Ne.symm hne)
      rw [Rho.upd_self] at hr; cases hr
      rw [Rho.upd_ne _ _ (Ne.symm hne)] at hr'
      rw [hb]
      exact h.inj A B' o o3 q r' (Ne.symm h2) ho h1 hq hr'
    · obtain ⟨h1, h2⟩ := g B o2 hB e
      rw [Rho.upd_ne _ _ e] at hr
      by_cases e' : B' = σ.nx
      · subst e'
        rw [Rho.upd_self] at hr'; cases hr'
        rw [hb]
        exact h.inj B A o2 o r q h2 h1 ho hr hq
      · obtain ⟨h3, _⟩ := g B' o3 hB' e'
        rw [Rho.upd_ne _ _ e'] at hr'
        exact h.inj B B' o2 o3 r r' hne h1 h3 hr hr'
theorem Sim.grow {P : Program} {ρ : Rho} {σ : St} {w : World} (h : Rel P ρ σ w.heap) {A : Nat} {o : AObj} {q : Pl} (ho : σ.h.get A = some o) (hop : o.opn) (hq : ρ A = some q)
    (o1 : AObj) (p : Pl) (hb : p.b = q.b) (w' : World) (hsame : ∀ B, B ≠ q.b → w'.heap[B]? = w.heap[B]?) (hsz : w'.heap.size = w.heap.size) (hout : w'.os = w.os ∧ w'.output = w.output ∧ w'.tape = w.tape) :
    Sim ρ σ w (ρ.upd σ.nx p) ((σ.kill A).new o1).2 w' where
  le := Rho.le_upd p (h.fresh σ.nx (Nat.le_refl _)).2
  ghost := fun B hB hn => by
    have nxk : (σ.kill A).nx = σ.nx := rfl
    refine ⟨by rw [Rho.upd_ne _ _ (by omega)]; exact hn, ?_⟩
    rw [St.get_new, nxk, if_neg (by omega), St.get_kill, if_neg (by intro e; subst e; rw [hq] at hn; cases hn)]
  nx := by rw [St.nx_new]; exact Nat.le_succ _
  size := Nat.le_of_eq hsz.symm
  frame := fun B _ hn => hsame B (fun e => hn ⟨A, o, q, ho, hq, e.symm, hop⟩)
  wr := fun B ⟨A', o2, r, ho2, hr, e, hop2⟩ => by
    have nxk : (σ.kill A).nx = σ.nx := rfl
    rw [St.get_new, nxk] at ho2
    by_cases e' : A' = σ.nx
    · subst e'; rw [Rho.upd_self] at hr; cases hr; exact .inl ⟨A, o, q, ho, hq, by rw [← hb]; exact e, hop⟩
    · rw [if_neg e', St.get_kill] at ho2
      split at ho2
      · cases ho2
      · rw [Rho.upd_ne _ _ e'] at hr; exact .inl ⟨A', o2, r, ho2, hr, e, hop2⟩
  out := hout
end Go.Am
