/-
  A part of the proof that the run of an abstract machine, which the kernel can run, is what the program does under its model: no condition of its own.
-/
import Derived.Test.YtgjpafihilgpmaaGreatDoorAmOps9
set_option linter.unusedVariables false
set_option linter.unusedSimpArgs false
set_option maxHeartbeats 1000000
namespace Go.Am
open Go
variable {P : Program} {ρ : Rho} {σ : St} {w : World} {a : Act} {fr : Fr}

/-- one operation -/
theorem stepO_sim {E : Env} {C : CallF} (hC : CallsOK E.P (callT E C)) (hr : Rel E.P ρ σ w.heap) (hf : FRel ρ fr a.tmps) {o : Oper} {v : Value} {σ' : St} (h : stepO E C o.op fr σ = some (v, σ')) :
    Reach E.P w (execOp a.eval o) (SimK E.P ρ σ w σ' v) := by
  unfold stepO at h
  split at h
  · simp only [Option.map_eq_some_iff, Prod.mk.injEq] at h
    obtain ⟨u, h1, rfl, rfl⟩ := h
    obtain ⟨v', g1, g2⟩ := opPure_sim hr.g hf h1 w
    exact .yields g1 ⟨ρ, g2, hr, .refl _ _ _⟩
  · simp only [Option.map_eq_some_iff, Prod.mk.injEq] at h
    obtain ⟨u, h1, rfl, rfl⟩ := h
    obtain ⟨v', g1, g2⟩ := opRead_sim hr hf h1
    exact .yields g1 ⟨ρ, g2, hr, .refl _ _ _⟩
  · simp only [Option.map_eq_some_iff, Prod.mk.injEq] at h
    obtain ⟨⟨ob, mk⟩, h1, rfl, rfl⟩ := h
    obtain ⟨v', w', ob', p, hm⟩ := opAlc_sim hr.g hf h1 w
    have hf0 := (hr.fresh σ.nx (Nat.le_refl _)).2
    have hle := Rho.le_upd p hf0
    refine .yields hm.yields ⟨ρ.upd σ.nx p, hm.vr σ.nx _ hle (Rho.upd_self _ _ _), ?_, Sim.new hr _ _ p hm.b w' hm.heap hm.out⟩
    rw [hm.heap]
    exact hr.new _ _ p hm.b (hm.at_ _ hle)
  · exact opEff_sim hC hr hf h

theorem wantedO_sim {ops : Array Oper} (hf : FRel ρ fr a.tmps) {o : Oper} {b : Bool} (h : wantedO ops.toList o fr = some b) : Region.wanted o (yielded ops a.tmps) = b := by
  unfold wantedO at h
  unfold Region.wanted
  split at h
  · rename_i hg; cases h; rw [hg]
  · rename_i j want hg
    rw [hg]
    simp only [Option.bind_eq_some_iff] at h
    obtain ⟨g, h1, t, h2, u, h3, h4⟩ := h
    obtain ⟨v', k1, k2⟩ := hf.get t u h3
    rw [Array.getElem?_toList] at h1
    simp only [yielded, h1, Option.bind_some, h2, k1]
    split at h4
    · cases k2; cases h4
      simp only
      rename_i b'
      cases b' <;> cases want <;> rfl
    · cases h4
      cases k2 with
      | tuple _ a' e1 e2 => rfl
    · cases h4
theorem FRel.put (hf : FRel ρ fr a.tmps) {dst : Option Nat} (hd : ∀ d, dst = some d → d < a.tmps.size) {v v' : Value} (hv : VR ρ v v') : FRel ρ (putD fr dst v) (a.put dst v').tmps := by
  cases dst with
  | none => exact hf
  | some d =>
    refine ⟨fun t u hu => ?_⟩
    have hd := hd d rfl
    simp only [putD] at hu
    simp only [Act.put]
    rw [T.get_set] at hu
    split at hu
    · rename_i e; subst e; cases hu
      exact ⟨v', by rw [Array.getElem?_setIfInBounds_self_of_lt hd], hv⟩
    · rename_i e
      obtain ⟨u', k1, k2⟩ := hf.get t u hu
      exact ⟨u', by rw [Array.getElem?_setIfInBounds_ne (Ne.symm e)]; exact k1, k2⟩
theorem put_size (a : Act) (dst : Option Nat) (v : Value) : (a.put dst v).tmps.size = a.tmps.size := by
  cases dst <;> simp [Act.put]
theorem put_defers' (a : Act) (dst : Option Nat) (v : Value) : (a.put dst v).defers = a.defers := by
  cases dst <;> rfl

/-- how a piece of code ends -/
def Ex.is : Ex → Exit → Prop
  | .nrm, .normal => True
  | .exit i, .exit j => i = j
  | .ret, .ret => True
  | _, _ => False
structure Post (P : Program) (ρ : Rho) (σ : St) (w : World) (n : Nat) (ex : Ex) (fr' : Fr) (σ' : St) (e : Exit) (a' : Act) (w' : World) : Prop where
  is : ex.is e
  defers : a'.defers = []
  size : a'.tmps.size = n
  rel : ∃ ρ', Rel P ρ' σ' w'.heap ∧ FRel ρ' fr' a'.tmps ∧ Sim ρ σ w ρ' σ' w'

theorem runOps_sim {E : Env} {C : CallF} (hC : CallsOK E.P (callT E C)) {ops : Array Oper} {ρ0 : Rho} {σ0 : St} {w0 : World} {n : Nat} (hd : ∀ o ∈ ops.toList, ∀ d, o.dst = some d → d < n) {fr' : Fr} {σ' : St} :
    ∀ (l : List Oper) (k : Nat) (fr : Fr) (σ : St) (ρ : Rho) (a : Act) (w : World), ops.toList.drop k = l → runOps E C ops.toList l fr σ = some (fr', σ') → Rel E.P ρ σ w.heap → FRel ρ fr a.tmps → Sim ρ0 σ0 w0 ρ σ w → a.defers = [] → a.tmps.size = n →
      wpOps E.P ops (Post E.P ρ0 σ0 w0 n .nrm fr' σ') (List.range' k l.length) a w
  | [], k, fr, σ, ρ, a, w, hl, h, hr, hf, hs, hda, hsz => by
    simp only [runOps, Option.some.injEq, Prod.mk.injEq] at h
    obtain ⟨rfl, rfl⟩ := h
    exact ⟨trivial, hda, hsz, ρ, hr, hf, hs⟩
  | o :: l, k, fr, σ, ρ, a, w, hl, h, hr, hf, hs, hda, hsz => by
    have hk : ops[k]? = some o := by
      rw [← Array.getElem?_toList]
      have := List.getElem?_drop (xs := ops.toList) (i := k) (j := 0)
      rw [hl] at this
      simpa using this.symm
    have hl' : ops.toList.drop (k + 1) = l := by
      have := List.drop_drop (i := 1) (j := k) (l := ops.toList)
      rw [hl] at this
      rw [show k + 1 = k + 1 from rfl, ← this]
      rfl
    have hmem : o ∈ ops.toList := by
      rw [← Array.getElem?_toList] at hk
      exact List.mem_of_getElem? hk
    have hdo : ∀ d, o.dst = some d → d < a.tmps.size := fun d hd' => by rw [hsz]; exact hd o hmem d hd'
    simp only [runOps, Option.bind_eq_some_iff] at h
    obtain ⟨b, h1, h2⟩ := h
    have hw := wantedO_sim hf h1
    simp only [List.length_cons, List.range'_succ]
    rw [wpOps_cons]
    unfold wpOp
    rw [hk]
    simp only
    cases b with
    | true =>
      rw [if_pos hw]
      simp only [cond_true, Option.bind_eq_some_iff] at h2
      obtain ⟨⟨v, σ1⟩, h3, h4⟩ := h2
      refine .inl (Reach.wp ((stepO_sim hC hr hf h3).mono fun v' w' ⟨ρ', k1, k2, k3⟩ => ?_))
      exact runOps_sim hC hd l (k + 1) _ _ ρ' _ w' hl' h4 k2 ((hf.mono k3.le).put hdo k1) (hs.trans k3) (by rw [put_defers']; exact hda) (by rw [put_size]; exact hsz)
    | false =>
      rw [if_neg (by rw [hw]; decide)]
      simp only [cond_false] at h2
      exact runOps_sim hC hd l (k + 1) _ _ ρ _ w hl' h2 hr (hf.put hdo vr_undef) hs (by rw [put_defers']; exact hda) (by rw [put_size]; exact hsz)
end Go.Am
