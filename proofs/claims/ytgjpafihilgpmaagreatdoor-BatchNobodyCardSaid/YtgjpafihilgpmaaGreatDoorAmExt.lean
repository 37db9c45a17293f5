/-
  A part of the proof that the run of an abstract machine, which the kernel can run, is what the program does under its model: no condition of its own.
-/
import Derived.Test.YtgjpafihilgpmaaGreatDoorAmDraw
set_option linter.unusedVariables false
set_option linter.unusedSimpArgs false
set_option maxHeartbeats 1000000
namespace Go.Am
open Go
variable {P : Program} {σ σ' : St}

/-! ## what is read stays so when memory grows -/
def Ext (σ σ' : St) : Prop := ∀ A o, σ.h.get A = some o → σ'.h.get A = some o
theorem Ext.refl (σ : St) : Ext σ σ := fun _ _ h => h
theorem Ext.new (o : AObj) (h : ∀ A, σ.nx ≤ A → σ.h.get A = none) : Ext σ (σ.new o).2 := fun A o1 h1 => by
  rw [St.get_new]
  split
  · rename_i e; rw [h A (by omega)] at h1; cases h1
  · exact h1
theorem Ext.row (hx : Ext σ σ') {b : Nat} {r : Blk} (h : σ.row? b = some r) : σ'.row? b = some r := St.row_eq.2 (hx _ _ (St.row_eq.1 h))
theorem Ext.map (hx : Ext σ σ') {b : Nat} {x : List MapEntry × Nat} (h : σ.map? b = some x) : σ'.map? b = some x := St.map_eq.2 (hx _ _ (St.map_eq.1 h))
theorem Ext.loadCs (hx : Ext σ σ') {a : Addr} {n : Nat} {cs : List Value} (h : Am.loadCs σ a n = some cs) : Am.loadCs σ' a n = some cs := by
  unfold Am.loadCs at h ⊢
  cases hs : a.spot with
  | some s => rw [hs] at h; cases h
  | none =>
    rw [hs] at h
    simp only [Option.bind_eq_some_iff] at h ⊢
    obtain ⟨r, h1, h2⟩ := h
    exact ⟨r, hx.row h1, h2⟩
theorem Ext.loadT (hx : Ext σ σ') {t : TypeId} {a : Addr} {v : Value} (h : Am.loadT P σ t a = some v) : Am.loadT P σ' t a = some v := by
  unfold Am.loadT at h ⊢
  split at h
  · rename_i n e1 e2
    simp only [e1, e2, Option.map_eq_some_iff] at h ⊢
    obtain ⟨cs, h1, h2⟩ := h
    exact ⟨cs, hx.loadCs h1, h2⟩
  · rename_i n e1 e2
    simp only [e1, e2, Option.bind_eq_some_iff] at h ⊢
    obtain ⟨cs, h1, h2⟩ := h
    exact ⟨cs, hx.loadCs h1, h2⟩
  · cases h
theorem Ext.plain (hx : Ext σ σ') {b : Nat} (h : plainBlk σ b = true) : plainBlk σ' b = true := by
  unfold plainBlk at h ⊢
  split at h
  · rename_i r hr; rw [hx.row hr]; exact h
  · cases h
theorem Ext.eqFields {eq eq' : TypeId → Value → Value → Option Bool} (he : ∀ t x y b, eq t x y = some b → eq' t x y = some b) (xs ys : List Value) : ∀ (l : List Field) (b : Bool), Am.eqFields P eq xs ys l = some b → Am.eqFields P eq' xs ys l = some b
  | [], b, h => h
  | f :: fs, b, h => by
    unfold Am.eqFields at h ⊢
    split
    · rename_i hn; rw [if_pos hn] at h; cases h
    · rename_i hn
      rw [if_neg hn] at h
      split at h
      · rename_i u v e1 e2
        simp only [e1, e2, Option.bind_eq_some_iff] at h ⊢
        obtain ⟨c, h1, h2⟩ := h
        refine ⟨c, he _ _ _ _ h1, ?_⟩
        cases c with
        | true => exact Ext.eqFields he xs ys fs b h2
        | false => exact h2
      · cases h
theorem Ext.eqV (hx : Ext σ σ') : ∀ (d : Nat) (t : TypeId) (x y : Value) (b : Bool), Am.eqV P σ d t x y = some b → Am.eqV P σ' d t x y = some b
  | 0, _, _, _, _, h => by cases h
  | d + 1, t, x, y, b, h => by
    unfold Am.eqV at h ⊢
    split at h <;> (try exact h)
    · -- two pointers
      split at h
      · rename_i a1 a2 _ _ n hs
        cases hb : Nat.beq a1.block a2.block with
        | true => rw [hb] at h; exact h
        | false =>
          rw [hb] at h
          simp only [cond_false] at h ⊢
          cases hp : (plainBlk σ a1.block && plainBlk σ a2.block) with
          | false => rw [hp] at h; cases h
          | true =>
            rw [hp] at h
            simp only [Bool.and_eq_true] at hp
            rw [hx.plain hp.1, hx.plain hp.2]
            exact h
      · cases h
    · cases hq : P.stoodInHeld t with
      | true => rw [hq] at h; cases h
      | false =>
        rw [hq] at h
        simp only [cond_false] at h ⊢
        exact Ext.eqFields (fun t x y b hb => Ext.eqV hx d t x y b hb) _ _ _ _ h
theorem Ext.fits (hx : Ext σ σ') {a : Addr} {n : Nat} (h : fitsElem P σ a n = true) : fitsElem P σ' a n = true ∧ ∀ cap esz, atEnd σ' a cap esz = atEnd σ a cap esz := by
  unfold fitsElem at h ⊢
  split at h
  · rename_i r hr
    rw [hx.row hr]
    exact ⟨h, fun cap esz => by unfold atEnd; rw [hr, hx.row hr]⟩
  · cases h
theorem Ext.sliceV (hx : Ext σ σ') {t : TypeId} {x : Value} {lo hi mx : Option Value} {v : Value} (h : Am.sliceV P σ t x lo hi mx = some v) : Am.sliceV P σ' t x lo hi mx = some v := by
  unfold Am.sliceV at h ⊢
  split at h
  · exact h
  · rename_i e base len cap e1
    simp only [Option.bind_eq_some_iff] at h ⊢
    obtain ⟨m, h1, hh, h2, l, h3, n, h4, h5⟩ := h
    refine ⟨m, h1, hh, h2, l, h3, n, h4, ?_⟩
    cases base with
    | none => exact h5
    | some a =>
      simp only at h5 ⊢
      cases hf : fitsElem P σ a n with
      | false => rw [hf] at h5; cases h5
      | true =>
        obtain ⟨k1, k2⟩ := hx.fits hf
        rw [k1, k2]
        rw [hf] at h5
        exact h5
  · rename_i k e a e1
    simp only [Option.bind_eq_some_iff] at h ⊢
    obtain ⟨m, h1, hh, h2, l, h3, n, h4, r, h5, h6⟩ := h
    exact ⟨m, h1, hh, h2, l, h3, n, h4, r, hx.row h5, h6⟩
  · cases h
theorem Ext.entries (hx : Ext σ σ') {v : Value} {es : List MapEntry} (h : entriesOf σ v = some es) : entriesOf σ' v = some es := by
  unfold entriesOf at h ⊢
  split at h
  · exact h
  · simp only [Option.map_eq_some_iff] at h ⊢
    obtain ⟨p, h1, h2⟩ := h
    exact ⟨p, hx.map h1, h2⟩
  · cases h
theorem Ext.readB (hx : Ext σ σ') {b : Builtin} {ts : List TypeId} {args : List Value} {v : Value} (h : Am.readB P σ b ts args = some v) : Am.readB P σ' b ts args = some v := by
  unfold Am.readB at h ⊢
  split at h
  · split at h <;> (try exact h)
    · simp only [Option.map_eq_some_iff] at h ⊢
      obtain ⟨p, h1, h2⟩ := h
      exact ⟨p, hx.map h1, h2⟩
    all_goals cases h
  · split at h <;> (try exact h)
    · simp only [Option.bind_eq_some_iff] at h ⊢
      obtain ⟨esz, h1, h2⟩ := h
      refine ⟨esz, h1, ?_⟩
      rename_i a n _ _
      cases hf : fitsElem P σ _ esz with
      | false => rw [hf] at h2; cases h2
      | true =>
        obtain ⟨k1, k2⟩ := hx.fits hf
        rw [k1, k2]
        rw [hf] at h2
        exact h2
    all_goals cases h
  · exact h
  · exact h
  · cases h
theorem Ext.opRead (hx : Ext σ σ') {op : Op} {fr : Fr} {v : Value} (h : Am.opRead P op fr σ = some v) : Am.opRead P op fr σ' = some v := by
  cases op with
  | load t a =>
    simp only [Am.opRead, Option.bind_eq_some_iff] at h ⊢
    obtain ⟨u, h1, h2⟩ := h
    refine ⟨u, h1, ?_⟩
    split at h2
    · exact hx.loadT h2
    · cases h2
  | binOp op t x y z =>
    simp only [Am.opRead, Option.bind_eq_some_iff] at h ⊢
    obtain ⟨u, h1, u', h2, h3⟩ := h
    refine ⟨u, h1, u', h2, ?_⟩
    split at h3
    · exact h3
    · exact h3
    · have hm : ∀ f : Bool → Value, (Am.eqV P σ 40 t u u').map f = some v → (Am.eqV P σ' 40 t u u').map f = some v := fun f h => by
        simp only [Option.map_eq_some_iff] at h ⊢
        obtain ⟨b, h4, h5⟩ := h
        exact ⟨b, hx.eqV _ _ _ _ _ h4, h5⟩
      split at h3
      · cases hg : P.eqGuardType P.depth t with
        | false => rw [hg] at h3; simp only [cond_false] at h3 ⊢; exact hm _ h3
        | true =>
          rw [hg] at h3
          simp only [cond_true] at h3 ⊢
          split at h3
          · cases h3
          · cases h3
          · exact hm _ h3
      · cases hg : P.eqGuardType P.depth t with
        | false => rw [hg] at h3; simp only [cond_false] at h3 ⊢; exact hm _ h3
        | true =>
          rw [hg] at h3
          simp only [cond_true] at h3 ⊢
          split at h3
          · cases h3
          · cases h3
          · exact hm _ h3
      · cases h3
  | convert s d x =>
    simp only [Am.opRead, Option.bind_eq_some_iff] at h ⊢
    obtain ⟨u, h1, h2⟩ := h
    refine ⟨u, h1, ?_⟩
    split at h2
    · split at h2
      · exact h2
      · simp only [Option.bind_eq_some_iff, Option.map_eq_some_iff] at h2 ⊢
        obtain ⟨cs, h3, l, h4, h5⟩ := h2
        exact ⟨cs, hx.loadCs h3, l, h4, h5⟩
      · cases h2
    · split at h2
      · rename_i r n hs hr hz
        simp only [hs, hx.row hr, hz]
        exact h2
      · cases h2
    · split at h2
      · rename_i r n hs hr hz
        simp only [hs, hx.row hr, hz]
        exact h2
      · cases h2
    · cases h2
  | slice t x lo hi mx =>
    simp only [Am.opRead, Option.bind_eq_some_iff] at h ⊢
    obtain ⟨u, h1, a, h2, b, h3, c, h4, h5⟩ := h
    exact ⟨u, h1, a, h2, b, h3, c, h4, hx.sliceV h5⟩
  | lookup t x k ok =>
    simp only [Am.opRead, Option.bind_eq_some_iff] at h ⊢
    obtain ⟨u, h1, u', h2, h3⟩ := h
    refine ⟨u, h1, u', h2, ?_⟩
    split at h3
    · simp only [Option.bind_eq_some_iff] at h3 ⊢
      obtain ⟨kd, h4, z, h5, es, h6, h7⟩ := h3
      exact ⟨kd, h4, z, h5, es, hx.entries h6, h7⟩
    · cases h3
  | call c =>
    simp only [Am.opRead, Option.bind_eq_some_iff] at h ⊢
    obtain ⟨args, h1, h2⟩ := h
    refine ⟨args, h1, ?_⟩
    split at h2
    · exact hx.readB h2
    · cases h2
  | _ => cases h
end Go.Am
