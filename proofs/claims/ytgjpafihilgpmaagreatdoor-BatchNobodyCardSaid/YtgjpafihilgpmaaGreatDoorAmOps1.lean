/-
  A part of the proof that the run of an abstract machine, which the kernel can run, is what the program does under its model: no condition of its own.
-/
import Derived.Test.YtgjpafihilgpmaaGreatDoorAmMem
import Derived.Laws.Strings
set_option linter.unusedVariables false
set_option linter.unusedSimpArgs false
namespace Go.Am
open Go

structure FRel (ρ : Rho) (fr : Fr) (tmps : Array Value) : Prop where
  get : ∀ t v, fr.get t = some v → ∃ v', tmps[t]? = some v' ∧ VR ρ v v'
theorem FRel.mono {ρ ρ' : Rho} {fr : Fr} {tmps : Array Value} (le : ρ.le ρ') (h : FRel ρ fr tmps) : FRel ρ' fr tmps :=
  ⟨fun t v hv => let ⟨v', a, b⟩ := h.get t v hv; ⟨v', a, b.mono le⟩⟩

variable {P : Program} {ρ : Rho} {σ : St} {w : World} {a : Act} {fr : Fr}

/-- addresses of package variables are those of the model -/
structure GRel (ρ : Rho) : Prop where
  glob : ∀ g, g < 64 → ∃ p, ρ g = some p ∧ p.b = g ∧ p.d = 0
theorem Rel.g {H : Array Obj} (h : Rel P ρ σ H) : GRel ρ := ⟨h.glob⟩

theorem evO_sim (hg : GRel ρ) (hf : FRel ρ fr a.tmps) {x : Operand} {v : Value} (h : evO fr x = some v) : VR ρ v (a.eval x) := by
  cases x with
  | tmp t =>
    obtain ⟨v', h1, h2⟩ := hf.get t v h
    have e : a.eval (.tmp t) = v' := by
      have hlt := (Array.getElem?_eq_some_iff.1 h1)
      obtain ⟨h3, h4⟩ := hlt
      simp [Act.eval, h3, h4]
    rw [e]; exact h2
  | const c =>
    simp only [evO] at h
    cases hc : constV c with
    | false => simp [hc] at h
    | true => simp only [hc, cond_true, Option.some.injEq] at h; subst h; exact constV_VR hc
  | global g =>
    simp only [evO] at h
    cases hc : Nat.blt g 64 with
    | false => simp [hc] at h
    | true =>
      simp only [hc, cond_true, Option.some.injEq] at h; subst h
      obtain ⟨p, h1, h2, h3⟩ := hg.glob g (by rw [Nat.blt_eq] at hc; exact hc)
      have := VR.ptr (ρ := ρ) g 0 p h1
      rw [h2, h3] at this
      exact this
  | func f =>
    simp only [evO, Option.some.injEq] at h; subst h
    exact .func _ _ _ _ _ rfl (fun i v v' hv => by simp at hv) rfl (fun i v v' hv => by simp at hv)
theorem evL_sim (hg : GRel ρ) (hf : FRel ρ fr a.tmps) : ∀ {l : List Operand} {vs : List Value}, evL fr l = some vs → VL ρ vs (l.map a.eval)
  | [], vs, h => by simp [evL] at h; subst h; exact .nil ρ
  | x :: l, vs, h => by
    simp only [evL, Option.bind_eq_some_iff, Option.map_eq_some_iff] at h
    obtain ⟨v, h1, us, h2, rfl⟩ := h
    exact .cons (evO_sim hg hf h1) (evL_sim hg hf h2)
inductive PL (ρ : Rho) : List (Nat × Value) → List (Nat × Value) → Prop
  | nil : PL ρ [] []
  | cons (i : Nat) {v v' : Value} {l l' : List (Nat × Value)} : VR ρ v v' → PL ρ l l' → PL ρ ((i, v) :: l) ((i, v') :: l')
theorem evPs_sim (hg : GRel ρ) (hf : FRel ρ fr a.tmps) : ∀ {l : List (Nat × Operand)} {vs : List (Nat × Value)}, evPs fr l = some vs → PL ρ vs (l.map fun (i, x) => (i, a.eval x))
  | [], vs, h => by simp [evPs] at h; subst h; exact .nil
  | (i, x) :: l, vs, h => by
    simp only [evPs, Option.bind_eq_some_iff, Option.map_eq_some_iff] at h
    obtain ⟨v, h1, us, h2, rfl⟩ := h
    exact .cons i (evO_sim hg hf h1) (evPs_sim hg hf h2)

theorem fold_set : ∀ (l : List Value) (k off : Nat) (cells : Array Value), off + k + l.length ≤ cells.size →
    ((l.zipIdx k).foldl (fun (cs : Array Value) (p : Value × Nat) => cs.setIfInBounds (off + p.2) p.1) cells).toList = cells.toList.take (off + k) ++ l ++ cells.toList.drop (off + k + l.length)
  | [], k, off, cells, h => by simp
  | v :: l, k, off, cells, h => by
    have ih := fold_set l (k + 1) off (cells.setIfInBounds (off + k) v) (by simp at h ⊢; omega)
    have e := list_seg_step cells.toList (off + k) v l (by simp at h ⊢; omega)
    simp only [List.zipIdx_cons, List.foldl_cons, ih]
    simpa [Array.toList_setIfInBounds, Nat.add_assoc] using e
theorem fold_set' (vs : Array Value) (off : Nat) (cells : Array Value) (h : off + vs.size ≤ cells.size) :
    (vs.zipIdx.foldl (fun cs (c, j) => cs.setIfInBounds (off + j) c) cells).toList = cells.toList.take off ++ vs.toList ++ cells.toList.drop (off + vs.size) := by
  have := fold_set vs.toList 0 off cells (by simpa using h)
  rw [← Array.foldl_toList, Array.toList_zipIdx]
  simpa using this

theorem fill_sim (place : Nat → Option (Nat × Nat)) : ∀ {ps ps' : List (Nat × Value)} {cells cs : List Value} {cells' : Array Value}, PL ρ ps ps' → VL ρ cells cells'.toList → fillN place cells ps = some cs →
    ∃ cs', Instr.fill place cells' ps' = some cs' ∧ VL ρ cs cs'.toList := by
  intro ps ps' cells cs cells' hp
  induction hp generalizing cells cells' with
  | nil => intro hv h; simp [fillN] at h; subst h; exact ⟨cells', rfl, hv⟩
  | @cons i v v' l l' hvv hl ih =>
    intro hv h
    simp only [fillN, Option.bind_eq_some_iff] at h
    obtain ⟨⟨off, size⟩, h1, h2⟩ := h
    simp only [bif_beq] at h2
    split at h2
    · rename_i hsz
      simp only [Option.bind_eq_some_iff, splice_eq] at h2
      obtain ⟨cs1, h3, h4⟩ := h2
      split at h3
      · rename_i hle
        cases h3
        have hc := hvv.cells
        have hsz' : v'.cells.size = size := by
          rw [← hsz, hc.1, ← cells_eq]; simp
        have hlen := hv.1
        have hle' : off + v'.cells.size ≤ cells'.size := by
          rw [hsz', ← hsz]; simp at hlen; omega
        have hfold := fold_set' v'.cells off cells' hle'
        obtain ⟨cs', g1, g2⟩ := ih (cells' := v'.cells.zipIdx.foldl (fun cs (c, j) => cs.setIfInBounds (off + j) c) cells') (by
          rw [hfold, cells_eq, show v'.cells.size = (cellsOf v').length by rw [← cells_eq]; simp, ← hc.1]
          exact ((hv.take off).append hc).append (hv.drop _)) h4
        refine ⟨cs', ?_, g2⟩
        unfold Instr.fill
        simp only [h1]
        rw [if_neg (by simp [hsz']; omega)]
        exact g1
      · cases h3
    · cases h2

theorem part_sim {t : TypeId} {cs : List Value} {cs' : Array Value} {off : Nat} {v : Value} (hv : VL ρ cs cs'.toList) (h : partV P t cs off = some v) (w : World) :
    ∃ v', (part t cs' off).run P w = .ok v' w ∧ VR ρ v v' := by
  unfold partV at h
  cases ha : aggN P t with
  | none => simp [ha] at h
  | some g =>
    cases hs : sizeN P t with
    | none => cases g <;> simp [ha, hs] at h
    | some n =>
      cases g with
      | true =>
        simp only [ha, hs, takeN_eq, dropN_eq] at h
        split at h
        · simp only [Option.map_some, Option.some.injEq] at h
          subst h
          refine ⟨.agg (cs'.extract off (off + n)), by simp [part, run_isAggN ha, run_sizeOfN hs], ?_⟩
          have e : (cs'.extract off (off + n)) = ((cs'.toList.drop off).take n).toArray := by
            apply Array.ext'
            simp [Array.toList_extract, List.extract_eq_take_drop, Nat.add_sub_cancel_left]
          rw [e]
          exact .aggL ((hv.drop off).take n)
        · cases h
      | false =>
        simp only [ha, hs, dropN_eq] at h
        cases hd : cs.drop off with
        | nil => rw [hd] at h; cases h
        | cons u l =>
          rw [hd] at h; simp only [Option.some.injEq] at h; subst h
          have h0 : cs[off]? = some u := by
            have := List.getElem?_drop (xs := cs) (i := off) (j := 0); rw [hd] at this; simpa using this.symm
          obtain ⟨v', g1, g2⟩ := hv.get h0
          refine ⟨v', ?_, g2⟩
          have g1' : cs'[off]? = some v' := by simpa using g1
          simp [part, run_isAggN ha, g1']

theorem intOp_sim {op : BinOp} {k : IntKind} {x y : Int} {v : Value} (h : intOp op k x y = some v) (hs : op ≠ .shl ∧ op ≠ .shr) (t : TypeId) (w : World) :
    (binOp op t (.int k x) (.int k y)).run P w = .ok v w ∧ VR ρ v v := by
  obtain ⟨hs1, hs2⟩ := hs
  cases op <;> simp only [intOp] at h <;> first
    | (exact absurd rfl hs1)
    | (exact absurd rfl hs2)
    | (split at h
       · cases h
       · rename_i hy
         cases h
         exact ⟨by simp [binOp, Op.intDiv, hy], .int _ _⟩)
    | (cases h; exact ⟨by simp [binOp, Op.intArith, Op.intBits, Op.intCmp], by constructor⟩)
theorem strOp_sim {op : BinOp} {x y : ByteArray} {v : Value} (h : strOp op x y = some v) (t : TypeId) (w : World) :
    (binOp op t (.string x) (.string y)).run P w = .ok v w ∧ VR ρ v v := by
  have e : ∀ b : ByteArray, b.toList = b.data.toList := ByteArray.toList_eq
  cases op <;> simp only [strOp] at h <;> first
    | (cases h; done)
    | (cases h; exact ⟨by simp [binOp, Op.stringOp, e], by constructor⟩)
    | (cases hb : Nat.ble (x.size + y.size) 9223372036854775807 with
       | false => simp [hb] at h
       | true =>
         simp only [hb, cond_true, Option.some.injEq] at h
         subst h
         have hle : x.size + y.size ≤ 9223372036854775807 := by rw [Nat.ble_eq] at hb; exact hb
         have hn : ¬ (((x.size + y.size : Nat) : Int) > IntKind.i64.max) := by
           have : IntKind.i64.max = 9223372036854775807 := by decide
           rw [this]; omega
         exact ⟨by simp only [binOp, Op.stringOp, if_neg hn]; rfl, .string _⟩)
theorem shiftOp_sim {op : BinOp} {k k' : IntKind} {x y : Int} {v : Value} (h : shiftOp op k x y = some v) (ho : op = .shl ∨ op = .shr) (t : TypeId) (w : World) :
    (binOp op t (.int k x) (.int k' y)).run P w = .ok v w ∧ VR ρ v v := by
  unfold shiftOp at h
  split at h
  · cases h
  · rename_i hy
    rcases ho with rfl | rfl <;> (cases h; exact ⟨by simp [binOp, Op.shift, hy], .int _ _⟩)
end Go.Am
