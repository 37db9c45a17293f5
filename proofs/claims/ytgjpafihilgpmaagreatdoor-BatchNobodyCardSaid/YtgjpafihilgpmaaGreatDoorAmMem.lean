/-
  A part of the proof that the run of an abstract machine, which the kernel can run, is what the program does under its model: no condition of its own.
-/
import Derived.Test.YtgjpafihilgpmaaGreatDoorAmSim
set_option linter.unusedVariables false
set_option linter.unusedSimpArgs false
namespace Go.Am
open Go

theorem add_none (b o j : Nat) : (⟨b, o, none⟩ : Addr).add j = ⟨b, o + j, none⟩ := by unfold Addr.add; split <;> simp_all
theorem cell_at {w : World} {b : Nat} {C : Array Value} {t : TypeId} {fr : Nat × Nat} (h : w.heap[b]? = some (.cells C t fr)) (j : Nat) : w.cell? ⟨b, j, none⟩ = C[j]? := by
  simp [World.cell?, h]
theorem run_isAggN {P : Program} {t : TypeId} {b : Bool} (h : aggN P t = some b) (w : World) : (isAgg t).run P w = .ok b w := by
  unfold aggN at h
  cases hu : P.underlying t with
  | none => simp [hu] at h
  | some d =>
    rw [hu] at h
    simp only [Option.map_some, Option.some.injEq] at h
    unfold isAgg
    rw [Sem.run_bind, run_underlying hu w]
    subst h
    cases d <;> rfl
theorem run_sizeOfN {P : Program} {t : TypeId} {n : Nat} (h : sizeN P t = some n) (w : World) : (sizeOf t).run P w = .ok n w := by
  unfold sizeN at h
  cases hi : P.info? t with
  | none => simp [hi] at h
  | some i => simp [hi] at h; simp [sizeOf, typeInfo, hi, h]
theorem constOK_VR {ρ : Rho} {v : Value} (h : constOK v = true) : VR ρ v v := by
  unfold constOK at h
  split at h <;> first | constructor | cases h
theorem constV_VR {ρ : Rho} {v : Value} (h : constV v = true) : VR ρ v v := by
  unfold constV at h
  split at h
  · rename_i cs
    refine .agg _ _ rfl (fun i v v' a b => ?_)
    rw [a] at b; cases b
    exact constOK_VR (List.all_eq_true.1 h v (by simpa using Array.mem_of_getElem? a))
  · exact constOK_VR h
theorem constL_VL {ρ : Rho} {l : List Value} (h : l.all constOK = true) : VL ρ l l :=
  ⟨rfl, fun i v v' a b => by rw [a] at b; cases b; exact constOK_VR (List.all_eq_true.1 h v (List.mem_of_getElem? a))⟩
theorem run_zeroN {P : Program} {t : TypeId} {z : List Value} (h : zeroN P t = some z) (w : World) : ∃ v, (zeroValue t).run P w = .ok v w ∧ v.cells.toList = z ∧ z.all constOK = true := by
  unfold zeroN at h
  cases hi : P.info? t with
  | none => simp [hi] at h
  | some i =>
    rw [hi] at h
    cases hz : i.zero with
    | none => simp [hz] at h
    | some v =>
      simp only [Option.bind_some, hz] at h
      cases hc : v.cells.toList.all constOK with
      | false => simp [hc] at h
      | true => simp only [hc, cond_true, Option.some.injEq] at h; subst h; exact ⟨v, by simp [zeroValue, typeInfo, hi, hz], rfl, hc⟩
theorem run_zeroV {P : Program} {t : TypeId} {z : Value} (h : zeroV P t = some z) (w : World) : (zeroValue t).run P w = .ok z w ∧ constV z = true := by
  unfold zeroV at h
  cases hi : P.info? t with
  | none => simp [hi] at h
  | some i =>
    rw [hi] at h
    cases hz : i.zero with
    | none => simp [hz] at h
    | some v =>
      simp only [Option.bind_some, hz] at h
      cases hc : constV v with
      | false => simp [hc] at h
      | true => simp only [hc, cond_true, Option.some.injEq] at h; subst h; exact ⟨by simp [zeroValue, typeInfo, hi, hz], hc⟩
theorem cells_eq (v : Value) : v.cells.toList = cellsOf v := by cases v <;> rfl

variable {P : Program} {ρ : Rho} {σ : St} {w : World}

theorem loadCs_sim (h : Rel P ρ σ w.heap) {b o n : Nat} {cs : List Value} {p : Pl} (hl : loadCs σ ⟨b, o, none⟩ n = some cs) (hp : ρ b = some p) :
    ∃ cs', VL ρ cs cs' ∧ cs'.length = n ∧ ∀ j v, cs'[j]? = some v → w.cell? ((⟨p.b, p.d + o, none⟩ : Addr).add j) = some v := by
  unfold loadCs at hl
  simp only at hl
  cases hr : σ.row? b with
  | none => simp [hr] at hl
  | some r =>
    simp only [hr, Option.bind_some, takeN_eq, dropN_eq] at hl
    split at hl
    · rename_i hn
      cases hl
      obtain ⟨⟨C, fr, h1, h2, h3, h4⟩, h5, _⟩ := h.row b r p (St.row_eq.1 hr) hp
      have hlen : n ≤ r.cs.length - o := by simpa using hn
      refine ⟨(C.toList.drop (p.d + o)).take n, ⟨?_, fun i v v' ha hb => ?_⟩, ?_, fun j v hj => ?_⟩
      · simp; omega
      · rw [List.getElem?_take] at ha hb
        split at ha
        · rename_i hi
          rw [if_pos hi] at hb
          rw [List.getElem?_drop] at ha hb
          obtain ⟨u, hu, hv⟩ := h4 _ _ ha
          rw [show p.d + o + i = p.d + (o + i) by omega, Array.getElem?_toList, hu] at hb
          cases hb; exact hv
        · cases ha
      · simp; omega
      · rw [add_none, cell_at h1]
        rw [List.getElem?_take] at hj
        split at hj
        · rw [List.getElem?_drop] at hj; simpa using hj
        · cases hj
    · cases hl

theorem run_loadCells_len {a : Addr} {cs : List Value} {n : Nat} (hn : cs.length = n) (h : ∀ j v, cs[j]? = some v → w.cell? (a.add j) = some v) :
    (loadCells a n).run P w = .ok cs.toArray w := by subst hn; exact run_loadCells_list w a cs h

theorem loadT_sim (h : Rel P ρ σ w.heap) {t : TypeId} {b o : Nat} {v : Value} {p : Pl} (hl : loadT P σ t ⟨b, o, none⟩ = some v) (hp : ρ b = some p) :
    ∃ v', (loadVar t ⟨p.b, p.d + o, none⟩).run P w = .ok v' w ∧ VR ρ v v' := by
  unfold loadT at hl
  cases ha : aggN P t with
  | none => simp [ha] at hl
  | some g =>
    cases hs : sizeN P t with
    | none => cases g <;> simp [ha, hs] at hl
    | some n =>
      cases g with
      | true =>
        simp only [ha, hs, Option.map_eq_some_iff] at hl
        obtain ⟨cs, h1, rfl⟩ := hl
        obtain ⟨cs', h2, h3, h4⟩ := loadCs_sim h h1 hp
        exact ⟨.agg cs'.toArray, by simp [loadVar, run_isAggN ha, run_sizeOfN hs, run_loadCells_len h3 h4], .aggL h2⟩
      | false =>
        simp only [ha, hs, Option.bind_eq_some_iff] at hl
        obtain ⟨cs, h1, h5⟩ := hl
        obtain ⟨cs', h2, h3, h4⟩ := loadCs_sim h h1 hp
        cases cs' with
        | nil => simp at h3
        | cons v' l =>
          obtain ⟨rfl⟩ : l = [] := by simpa using h3
          cases cs with
          | nil => simp at h5
          | cons u l' =>
            obtain ⟨rfl⟩ : l' = [] := by have := h2.1; simpa using this
            simp only [Option.some.injEq] at h5
            subst h5
            have hc : w.cell? ⟨p.b, p.d + o, none⟩ = some v' := by simpa [add_none] using h4 0 v' rfl
            exact ⟨v', by simp [loadVar, run_isAggN ha, hc], h2.2 0 _ _ rfl rfl⟩

/-! ## storing -/
theorem oneCell_eq' (v : Value) : v.oneCell' = oneCell v := by cases v <;> rfl
theorem run_storeCells_am (P : Program) (g o : Nat) (t : TypeId) (fz : Nat × Nat) : ∀ (vs : List Value) (i : Nat) (cur : Array Value) (w : World), w.heap[g]? = some (.cells cur t fz) →
    (∀ j, j < vs.length → ¬ (fz.1 ≤ o + i + j ∧ o + i + j < fz.2)) → o + i + vs.length ≤ cur.size → (∀ v ∈ vs, v.oneCell' = true) →
    (storeCells ⟨g, o, none⟩ vs i).run P w = .ok () (w.setRow g (cur.toList.take (o + i) ++ vs ++ cur.toList.drop (o + i + vs.length)).toArray)
  | [], i, cur, w, hg, _, _, _ => by
    simp only [storeCells, List.append_nil, List.length_nil, Nat.add_zero, List.take_append_drop, Array.toArray_toList]
    rw [setRow_self w g cur t fz hg]
    rfl
  | v :: rest, i, cur, w, hg, hfz, hl, h1 => by
    have hi : o + i < cur.size := by simp at hl; omega
    have hcell : w.cell? ⟨g, o + i, none⟩ = some cur[o + i] := by simp [World.cell?, hg, hi]
    have hfro : w.frozen? ⟨g, o + i, none⟩ = false := by
      obtain ⟨lo, hi'⟩ := fz
      have := hfz 0 (by simp)
      simp only [World.frozen?, hg, Bool.and_eq_false_iff, decide_eq_false_iff_not]
      simp only [Nat.add_zero] at this
      omega
    have hst : (store ((⟨g, o, none⟩ : Addr).add i) v).run P w = .ok () (w.setRow g (cur.setIfInBounds (o + i) v)) := by
      rw [add_none, run_store P w _ v _ (h1 v (by simp)), hcell]
      simp [hfro, setCell_eq_setRow w g (o + i) cur t fz v hg]
    have ih := run_storeCells_am P g o t fz rest (i + 1) (cur.setIfInBounds (o + i) v) (w.setRow g (cur.setIfInBounds (o + i) v)) (setRow_heap w g cur _ t _ hg)
      (fun j hj => by have := hfz (j + 1) (by simp; omega); rw [show o + (i + 1) + j = o + i + (j + 1) by omega]; exact this) (by simp at hl ⊢; omega) (fun x hx => h1 x (by simp [hx]))
    simp only [storeCells, Sem.run_bind, hst, Result.andThen_ok, ih, setRow_setRow]
    congr 3
    have e := list_seg_step cur.toList (o + i) v rest (by simp at hl ⊢; omega)
    simpa [Array.toList_setIfInBounds, Nat.add_assoc] using e

/-- storing cells into a block that is there -/
theorem storeCs_sim (h : Rel P ρ σ w.heap) {b o : Nat} {vs vs' : List Value} {σ' : St} {p : Pl} (hs : storeCs σ ⟨b, o, none⟩ vs = some σ') (hp : ρ b = some p) (hv : VL ρ vs vs') :
    ∃ w', (storeCells ⟨p.b, p.d + o, none⟩ vs').run P w = .ok () w' ∧ Rel P ρ σ' w'.heap ∧ Sim ρ σ w ρ σ' w' := by
  unfold storeCs at hs
  simp only at hs
  cases hr : σ.row? b with
  | none => simp [hr] at hs
  | some r =>
    simp only [hr, Option.bind_some, splice_eq] at hs
    have hro := St.row_eq.1 hr
    cases hc : (r.ro || Nat.blt o r.fz || !(vs.all oneCell)) with
    | true => simp [hc] at hs
    | false =>
      simp only [hc, cond_false] at hs
      simp only [Bool.or_eq_false_iff, Bool.not_eq_false'] at hc
      obtain ⟨⟨c1, c2⟩, c3⟩ := hc
      have c2' : r.fz ≤ o := by
        rcases Nat.lt_or_ge o r.fz with a | a
        · rw [show Nat.blt o r.fz = true from Nat.blt_eq ▸ a] at c2; cases c2
        · exact a
      split at hs
      · rename_i hle
        simp only [Option.map_some, Option.some.injEq] at hs
        subst hs
        obtain ⟨⟨C, fr, h1, h2, h3, h4⟩, h5, h6, h7, h8⟩ := h.row b r p hro hp
        have hlen := hv.1
        have hrun := run_storeCells_am P p.b (p.d + o) r.elem fr vs' 0 C w h1 (fun j hj => by
          rcases Nat.lt_or_ge fr.1 fr.2 with a | a
          · rcases (h3 c1).2 a with b1 | ⟨_, b1⟩
            · omega
            · omega
          · omega) (by omega) (fun v hv' => by
          rw [oneCell_eq']
          obtain ⟨i, hi, rfl⟩ := List.mem_iff_getElem.1 hv'
          have hi2 : i < vs.length := by omega
          have := hv.2 i vs[i] vs'[i] (by simp [hi2]) (by simp [hi])
          rw [this.oneCell_eq]
          exact List.all_eq_true.1 c3 _ (List.getElem_mem hi2))
        simp only [Nat.add_zero] at hrun
        refine ⟨_, hrun, h.put hro hp _ _ (fun B hB => setRow_other w p.b B _ hB) ?_, Sim.put h hro c1 hp _ _ (fun B hB => setRow_other w p.b B _ hB) (by simp [World.setRow]) ⟨rfl, rfl, rfl⟩⟩
        refine ⟨⟨_, fr, setRow_heap w p.b C _ r.elem fr h1, ?_, ?_, fun i v hi => ?_⟩, ?_, h6, h7, ?_⟩
        · simp; omega
        · refine fun _ => ⟨(h3 c1).1, fun a => ?_⟩
          rcases (h3 c1).2 a with b1 | ⟨b0, b1⟩
          · exact .inl b1
          · refine .inr ⟨b0, ?_⟩; simp; omega
        · simp only [List.getElem?_toArray]
          have hC : ∀ j : Nat, C.toList[j]? = C[j]? := fun j => Array.getElem?_toList
          simp only [List.getElem?_append, List.length_append, List.length_take, Array.length_toList] at hi ⊢
          have m1 : min o r.cs.length = o := by omega
          have m2 : min (p.d + o) C.size = p.d + o := by omega
          rw [m1] at hi
          rw [m2]
          by_cases k1 : i < o
          · rw [if_pos (by omega), if_pos k1, List.getElem?_take, if_pos k1] at hi
            rw [if_pos (by omega), if_pos (by omega), List.getElem?_take, if_pos (by omega), hC]
            exact h4 i v hi
          · by_cases k2 : i < o + vs.length
            · rw [if_pos k2, if_neg k1] at hi
              rw [if_pos (by omega), if_neg (by omega), show p.d + i - (p.d + o) = i - o by omega]
              exact hv.get hi
            · rw [if_neg k2, List.getElem?_drop] at hi
              rw [if_neg (by omega), List.getElem?_drop, hC]
              obtain ⟨v', a, b'⟩ := h4 _ v hi
              refine ⟨v', ?_, b'⟩
              rw [← a]; congr 1; omega
        · simp; omega
        · simp only [h5] at h8 ⊢; exact h8
      · simp at hs
end Go.Am
