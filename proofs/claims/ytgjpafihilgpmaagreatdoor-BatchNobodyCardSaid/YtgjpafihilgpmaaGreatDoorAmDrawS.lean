/-
  A part of the proof that the run of an abstract machine, which the kernel can run, is what the program does under its model: no condition of its own.
-/
import Derived.Test.YtgjpafihilgpmaaGreatDoorAmDraw2
set_option linter.unusedVariables false
set_option linter.unusedSimpArgs false
set_option maxHeartbeats 1000000
namespace Go.Am
open Go
variable {E : Env} {C : CallF} {P : Program} {σ : St} {fr fr' : Fr}

theorem maskGo_get_eq (fr : Fr) : ∀ (l : List Nat) (acc : Fr) (x : Nat), (maskGo fr l acc).get x = if x ∈ l ∧ (fr.get x).isSome = true then fr.get x else acc.get x
  | [], acc, x => by simp [maskGo]
  | i :: l, acc, x => by
    unfold maskGo
    cases hi : fr.get i with
    | none =>
      simp only
      rw [maskGo_get_eq fr l]
      by_cases hx : x ∈ l
      · simp [hx]
      · by_cases e : x = i
        · subst e; simp [hx, hi]
        · simp [hx, e]
    | some v =>
      simp only
      rw [maskGo_get_eq fr l, T.get_set]
      by_cases hx : x ∈ l
      · by_cases e : x = i
        · subst e; simp [hx, hi]
        · simp [hx, e]
      · by_cases e : x = i
        · subst e; simp [hx, hi]
        · simp [hx, e]
theorem maskF_get_eq (fr : Fr) {l : List Nat} {x : Nat} (h : x ∈ l) : (maskF (some l) fr).get x = fr.get x := by
  unfold maskF
  simp only
  rw [maskGo_get_eq]
  cases hx : fr.get x with
  | none => simp [T.get_lf]
  | some v => simp [h]

theorem evO_congr {x : Operand} (h : ∀ t, x = .tmp t → fr.get t = fr'.get t) : evO fr x = evO fr' x := by
  cases x with
  | tmp t => exact h t rfl
  | _ => rfl
theorem evL_congr : ∀ {l : List Operand}, (∀ x ∈ l, evO fr x = evO fr' x) → evL fr l = evL fr' l
  | [], _ => rfl
  | x :: l, h => by
    unfold evL
    rw [h x List.mem_cons_self, evL_congr fun y hy => h y (List.mem_cons_of_mem _ hy)]
theorem evPs_congr : ∀ {l : List (Nat × Operand)}, (∀ x ∈ l, evO fr x.2 = evO fr' x.2) → evPs fr l = evPs fr' l
  | [], _ => rfl
  | (i, x) :: l, h => by
    unfold evPs
    rw [h (i, x) List.mem_cons_self, evPs_congr fun y hy => h y (List.mem_cons_of_mem _ hy)]
theorem evOp_congr {x : Option Operand} (h : ∀ y, x = some y → evO fr y = evO fr' y) : evOp fr x = evOp fr' x := by
  cases x with
  | none => rfl
  | some y => show (evO fr y).map some = (evO fr' y).map some; rw [h y rfl]
theorem opPure_congr {op : Op} (h : ∀ x ∈ op.operands.toList, evO fr x = evO fr' x) : opPure P op fr = opPure P op fr' := by
  cases op with
  | build t ps => simp only [opPure]; rw [evPs_congr fun x hx => h x.2 (by simp only [Op.operands]; exact List.mem_map.2 ⟨x, hx, rfl⟩)]
  | makeFunc fn a b =>
    simp only [opPure]
    rw [evL_congr fun x hx => h x (by simp only [Op.operands, Array.toList_append]; exact List.mem_append_left _ hx), evL_congr fun x hx => h x (by simp only [Op.operands, Array.toList_append]; exact List.mem_append_right _ hx)]
  | call c =>
    simp only [opPure]
    rw [evL_congr fun x hx => h x (by simp only [Op.operands, Call.operands, Array.toList_append]; first | exact List.mem_append_right _ hx | exact List.mem_append_left _ hx)]
  | pick c a b => simp only [Op.operands, List.mem_cons, List.not_mem_nil, or_false, forall_eq_or_imp, forall_eq] at h; simp only [opPure, h.1, h.2.1, h.2.2]
  | binOp op t x y z => simp only [Op.operands, List.mem_cons, List.not_mem_nil, or_false, forall_eq_or_imp, forall_eq] at h; simp only [opPure, h.1, h.2]
  | indexAddr t x y => simp only [Op.operands, List.mem_cons, List.not_mem_nil, or_false, forall_eq_or_imp, forall_eq] at h; simp only [opPure, h.1, h.2]
  | index t x y => simp only [Op.operands, List.mem_cons, List.not_mem_nil, or_false, forall_eq_or_imp, forall_eq] at h; simp only [opPure, h.1, h.2]
  | move x => simp only [Op.operands, List.mem_cons, List.not_mem_nil, or_false, forall_eq] at h; simp only [opPure, h]
  | assign x => simp only [Op.operands, List.mem_cons, List.not_mem_nil, or_false, forall_eq] at h; simp only [opPure, h]
  | nilCheck x => simp only [Op.operands, List.mem_cons, List.not_mem_nil, or_false, forall_eq] at h; simp only [opPure, h]
  | unOp a b x => simp only [Op.operands, List.mem_cons, List.not_mem_nil, or_false, forall_eq] at h; simp only [opPure, h]
  | convert a b x => simp only [Op.operands, List.mem_cons, List.not_mem_nil, or_false, forall_eq] at h; simp only [opPure, h]
  | makeInterface a x => simp only [Op.operands, List.mem_cons, List.not_mem_nil, or_false, forall_eq] at h; simp only [opPure, h]
  | fieldAddr a x b => simp only [Op.operands, List.mem_cons, List.not_mem_nil, or_false, forall_eq] at h; simp only [opPure, h]
  | field a x b => simp only [Op.operands, List.mem_cons, List.not_mem_nil, or_false, forall_eq] at h; simp only [opPure, h]
  | extract x b => simp only [Op.operands, List.mem_cons, List.not_mem_nil, or_false, forall_eq] at h; simp only [opPure, h]
  | typeAssert x a b c => simp only [Op.operands, List.mem_cons, List.not_mem_nil, or_false, forall_eq] at h; simp only [opPure, h]
  | _ => rfl
theorem opRead_congr {op : Op} (h : ∀ x ∈ op.operands.toList, evO fr x = evO fr' x) : opRead P op fr σ = opRead P op fr' σ := by
  cases op with
  | call c =>
    simp only [opRead]
    rw [evL_congr fun x hx => h x (by simp only [Op.operands, Call.operands, Array.toList_append]; first | exact List.mem_append_right _ hx | exact List.mem_append_left _ hx)]
  | binOp op t x y z => simp only [Op.operands, List.mem_cons, List.not_mem_nil, or_false, forall_eq_or_imp, forall_eq] at h; simp only [opRead, h.1, h.2]
  | lookup t x y b => simp only [Op.operands, List.mem_cons, List.not_mem_nil, or_false, forall_eq_or_imp, forall_eq] at h; simp only [opRead, h.1, h.2]
  | load a x => simp only [Op.operands, List.mem_cons, List.not_mem_nil, or_false, forall_eq] at h; simp only [opRead, h]
  | convert a b x => simp only [Op.operands, List.mem_cons, List.not_mem_nil, or_false, forall_eq] at h; simp only [opRead, h]
  | slice t x lo hi mx =>
    simp only [opRead]
    rw [h x (by simp [Op.operands]), evOp_congr fun y hy => h y (by subst hy; simp [Op.operands]), evOp_congr (x := hi) fun y hy => h y (by subst hy; simp [Op.operands]), evOp_congr (x := mx) fun y hy => h y (by subst hy; simp [Op.operands])]
  | _ => rfl
theorem opAlc_congr {op : Op} (h : ∀ x ∈ op.operands.toList, evO fr x = evO fr' x) : opAlc P op fr = opAlc P op fr' := by
  cases op with
  | buildSlice t n ps => simp only [opAlc]; rw [evPs_congr fun x hx => h x.2 (by simp only [Op.operands]; exact List.mem_map.2 ⟨x, hx, rfl⟩)]
  | makeSlice t x y => simp only [Op.operands, List.mem_cons, List.not_mem_nil, or_false, forall_eq_or_imp, forall_eq] at h; simp only [opAlc, h.1, h.2]
  | box a x => simp only [Op.operands, List.mem_cons, List.not_mem_nil, or_false, forall_eq] at h; simp only [opAlc, h]
  | convert a b x => simp only [Op.operands, List.mem_cons, List.not_mem_nil, or_false, forall_eq] at h; simp only [opAlc, h]
  | _ => rfl
theorem opEff_congr {op : Op} (h : ∀ x ∈ op.operands.toList, evO fr x = evO fr' x) : opEff E C op fr σ = opEff E C op fr' σ := by
  cases op with
  | call c =>
    simp only [opEff]
    rw [evL_congr fun x hx => h x (by simp only [Op.operands, Call.operands, Array.toList_append]; first | exact List.mem_append_right _ hx | exact List.mem_append_left _ hx)]
    cases hc : c.callee with
    | builtin b => rfl
    | invoke r name => simp only; rw [h r (by simp [Op.operands, Call.operands, hc])]
    | value f => simp only; rw [h f (by simp [Op.operands, Call.operands, hc])]
  | mapUpdate t x y z => simp only [Op.operands, List.mem_cons, List.not_mem_nil, or_false, forall_eq_or_imp, forall_eq] at h; simp only [opEff, h.1, h.2.1, h.2.2]
  | store t x y => simp only [Op.operands, List.mem_cons, List.not_mem_nil, or_false, forall_eq_or_imp, forall_eq] at h; simp only [opEff, h.1, h.2]
  | convert a b x => simp only [Op.operands, List.mem_cons, List.not_mem_nil, or_false, forall_eq] at h; simp only [opEff, h]
  | _ => rfl
theorem stepO_congr {op : Op} (h : ∀ x ∈ op.operands.toList, evO fr x = evO fr' x) : stepO E C op fr σ = stepO E C op fr' σ := by
  unfold stepO
  rw [opPure_congr h, opRead_congr h, opAlc_congr h, opEff_congr h]

theorem stepO_mask {all : List Oper} {o : Oper} (fr : Fr) : stepO E C o.op (maskF (some (looksO all o)) fr) σ = stepO E C o.op fr σ := by
  refine stepO_congr fun x hx => evO_congr fun t ht => maskF_get_eq fr ?_
  subst ht
  unfold looksO names
  exact List.mem_append_left _ (List.mem_append_right _ (List.mem_filterMap.2 ⟨_, hx, rfl⟩))
theorem wantedO_mask {all : List Oper} {o : Oper} (fr : Fr) : wantedO all o (maskF (some (looksO all o)) fr) = wantedO all o fr := by
  unfold wantedO
  cases hg : o.guard with
  | none => rfl
  | some g =>
    obtain ⟨j, want⟩ := g
    simp only
    cases hj : all[j]? with
    | none => rfl
    | some oj =>
      simp only [Option.bind_some]
      cases hd : oj.dst with
      | none => rfl
      | some t =>
        simp only [Option.bind_some]
        rw [maskF_get_eq]
        unfold looksO guardTmp
        rw [hg]
        simp [hj, hd]

theorem runLog_of_runOps {all : List Oper} : ∀ (π : List Nat) (fr : Fr) (σ : St) (fr' : Fr) (σ' : St), (∀ i ∈ π, i < all.length) → runOps E C all (π.filterMap fun i => all[i]?) fr σ = some (fr', σ') →
    ∃ log, runLog E C all π fr σ = some (log, fr', σ')
  | [], fr, σ, fr', σ', _, h => ⟨[], by simp only [List.filterMap_nil, runOps, Option.some.injEq, Prod.mk.injEq] at h; simp [runLog, h.1, h.2]⟩
  | i :: π, fr, σ, fr', σ', hlt, h => by
    have hi := hlt i List.mem_cons_self
    have ho : all[i]? = some all[i] := by simp [hi]
    have hlt' : ∀ k ∈ π, k < all.length := fun k hk => hlt k (List.mem_cons_of_mem _ hk)
    simp only [List.filterMap_cons, ho, runOps, Option.bind_eq_some_iff] at h
    obtain ⟨w, h1, h2⟩ := h
    unfold runLog
    simp only [ho, Option.bind_some, wantedO_mask, stepO_mask, h1]
    cases w with
    | true =>
      simp only [cond_true, Option.bind_eq_some_iff] at h2 ⊢
      obtain ⟨p, h3, h4⟩ := h2
      obtain ⟨log, h5⟩ := runLog_of_runOps π _ _ _ _ hlt' h4
      exact ⟨_, p, h3, by rw [h5]; rfl⟩
    | false =>
      simp only [cond_false] at h2 ⊢
      obtain ⟨log, h5⟩ := runLog_of_runOps π _ _ _ _ hlt' h2
      exact ⟨_, by rw [h5]; rfl⟩
end Go.Am
