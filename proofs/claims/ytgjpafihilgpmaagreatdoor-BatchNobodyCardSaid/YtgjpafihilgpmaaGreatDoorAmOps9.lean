/-
  A part of the proof that the run of an abstract machine, which the kernel can run, is what the program does under its model: no condition of its own.
-/
import Derived.Test.YtgjpafihilgpmaaGreatDoorAmOps8
set_option linter.unusedVariables false
set_option linter.unusedSimpArgs false
set_option maxHeartbeats 1000000
namespace Go.Am
open Go
variable {P : Program} {ρ : Rho} {σ : St} {w : World} {a : Act} {fr : Fr}

/-- what a step comes to, calls run through -/
def Reach (P : Program) (w : World) (s : Sem Next) (K : Value → World → Prop) : Prop :=
  match s.run P w with
  | .ok (.value v) w' => K v w'
  | .ok .skip w' => K undef w'
  | .ok (.enter f args) w' => Calls P f args w' fun e w'' => ∃ v, e = .returned v ∧ K v w''
  | _ => False
theorem Reach.congr {s s' : Sem Next} {K : Value → World → Prop} (h : s.run P w = s'.run P w) (k : Reach P w s' K) : Reach P w s K := by
  unfold Reach at *; rw [h]; exact k
theorem Reach.mono {s : Sem Next} {K K' : Value → World → Prop} (h : ∀ v w', K v w' → K' v w') (k : Reach P w s K) : Reach P w s K' := by
  unfold Reach at *
  split at k
  · exact h _ _ k
  · exact h _ _ k
  · exact Calls.mono k fun e w'' ⟨v, e1, e2⟩ => ⟨v, e1, h _ _ e2⟩
  · exact k.elim
theorem Reach.wp {o : Oper} {next : Act → World → Prop} {Q : Exit → Act → World → Prop} (k : Reach P w (execOp a.eval o) fun v w' => next (a.put o.dst v) w') : o.wp P a w next Q := by
  unfold Oper.wp
  unfold Reach at k
  split at k
  · rename_i v w' h; rw [h]; exact k
  · rename_i w' h; rw [h]; exact k
  · rename_i f args w' h
    rw [h]
    exact Calls.mono k fun e w'' ⟨v, e1, e2⟩ => by subst e1; exact e2
  · exact k.elim
theorem Reach.yields {o : Oper} {K : Value → World → Prop} {v' : Value} {w' : World} (h : Yields P o a w v' w') (k : K v' w') : Reach P w (execOp a.eval o) K := by
  unfold Reach
  rcases h with h | ⟨h, rfl⟩ <;> rw [h] <;> exact k

def SimK (P : Program) (ρ : Rho) (σ : St) (w : World) (σ' : St) (v : Value) : Value → World → Prop := fun v' w' => ∃ ρ', VR ρ' v v' ∧ Rel P ρ' σ' w'.heap ∧ Sim ρ σ w ρ' σ' w'
def CallsOK (P : Program) (C : CallF) : Prop :=
  ∀ f args σ v σ', C f args σ = some (v, σ') → ∀ ρ w args', Rel P ρ σ w.heap → VL ρ args args' → Reach P w (callFunc f args'.toArray) (SimK P ρ σ w σ' v)

theorem vr_undef : VR ρ undefV undef := by
  show VR ρ (.tuple #[]) (.tuple #[])
  exact .tuple _ _ rfl (fun i v v' h => by simp at h)

theorem storeT_sim (hr : Rel P ρ σ w.heap) {t : TypeId} {v x' v' : Value} {b : Addr} {σ' : St} (hx : VR ρ (.pointer (some b)) x') (hv : VR ρ v v') (h : storeT P σ t b v = some σ') :
    ∃ w', (Instr.storeAt t x' v').run P w = .ok () w' ∧ Rel P ρ σ' w'.heap ∧ Sim ρ σ w ρ σ' w' := by
  unfold storeT at h
  simp only [Option.bind_eq_some_iff] at h
  obtain ⟨n, h1, h2⟩ := h
  cases hb : Nat.beq (cellsOf v).length n with
  | false => simp [hb] at h2
  | true =>
    simp only [hb, cond_true] at h2
    have hn : (cellsOf v).length = n := Nat.eq_of_beq_eq_true hb
    cases hx with
    | ptr b o p hp =>
      have hcl := hv.cells
      obtain ⟨w', k1, k2, k3⟩ := storeCs_sim hr h2 hp hcl
      refine ⟨w', ?_, k2, k3⟩
      unfold Instr.storeAt
      rw [run_bindR _ _ w w (x := (⟨p.b, p.d + o, none⟩ : Addr)) rfl]
      unfold storeVar
      rw [run_bindR _ _ w w (run_sizeOfN h1 w)]
      have hsz : ¬ v'.cells.size ≠ n := by
        rw [← Array.length_toList, cells_eq, ← hcl.1, hn]; simp
      rw [if_neg hsz, cells_eq]
      exact k1

theorem invoke_sim {E : Env} {C : CallF} (hC : CallsOK E.P (callT E C)) (hr : Rel E.P ρ σ w.heap) {fn : Fn} {cap cap' args args' : List Value} {v : Value} {σ' : St}
    (ha : VL ρ args args') (hc : VL ρ cap cap') (h : invokeT E C σ fn cap args = some (v, σ')) :
    Reach E.P w (invoke (.fn fn cap'.toArray) args'.toArray) (SimK E.P ρ σ w σ' v) := by
  unfold invokeT at h
  split at h
  · rename_i f
    have := hC f _ σ v σ' h ρ w _ hr (ha.append hc)
    refine Reach.congr ?_ this
    simp only [invoke, List.append_toArray]
  · rename_i name
    split at h
    · rename_i t u rest
      obtain ⟨x', rest', rfl, hx, hrest⟩ := ha.uncons
      cases hx with
      | iface _ _ u' hu =>
      simp only [Option.bind_eq_some_iff] at h
      obtain ⟨i, h1, m, h2, h3⟩ := h
      cases hp : m.path.isEmpty with
      | false => simp [hp] at h3
      | true =>
      simp only [hp, cond_true] at h3
      have hfuel : ∃ k, E.P.types.size + Made.depth = k + 1 := ⟨E.P.types.size + Made.depth - 1, by simp only [Made.depth]; omega⟩
      obtain ⟨k, hk⟩ := hfuel
      have hpath : m.path.toList = [] := by simpa using hp
      have hfind : i.methods.find? (·.name == name) = some m := by rw [← Array.find?_toList]; exact h2
      -- the method and its receiver
      have hmeth : ∀ f, (∃ ptr, m.func = some (f, ptr) ∧ ((ptr = true ∧ ∃ e, E.P.underlying t = some (.pointer e)) ∨ (ptr = false ∧ ∃ d, E.P.underlying t = some d ∧ ∀ e, d ≠ .pointer e))) →
          (method (k + 1) t u' name).run E.P w = .ok (f, u') w := by
        intro f ⟨ptr, hm, hcase⟩
        unfold method
        have hti : (typeInfo t).run E.P w = .ok i w := by simp [typeInfo, h1]
        rw [run_bindR _ _ w w hti]
        simp only [hfind]
        rw [hpath]
        rw [run_bindR _ _ w w (x := (t, Place.val u')) rfl]
        simp only [hm]
        have hrec : ∀ wr, (receiverAt t (Place.val u') ptr wr).run E.P w = .ok u' w := by
          intro wr
          unfold receiverAt
          rcases hcase with ⟨rfl, e, he⟩ | ⟨rfl, d, hd, hne⟩
          · rw [run_bindR _ _ w w (run_underlying he w)]; rfl
          · rw [run_bindR _ _ w w (run_underlying hd w)]
            cases d <;> first | rfl | exact absurd rfl (hne _)
        rw [run_bindR _ _ w w (hrec _)]
        rfl
      have fin : ∀ f, (method (k + 1) t u' name).run E.P w = .ok (f, u') w → callT E C f (u :: rest) σ = some (v, σ') →
          Reach E.P w (invoke (.fn (.method name) cap'.toArray) (Value.iface t u' :: rest').toArray) (SimK E.P ρ σ w σ' v) := by
        intro f hm hcall
        refine Reach.congr ?_ (hC f _ σ v σ' hcall ρ w _ hr (.cons hu hrest))
        simp only [invoke, List.getElem?_toArray, List.getElem?_cons_zero, callMethod]
        rw [run_bindR _ _ w w (x := E.P) rfl, hk, run_bindR _ _ w w hm]
        simp only
        congr 2
        apply Array.ext'
        simp
      split at h3
      · rename_i f e hmf hu'
        exact fin f (hmeth f ⟨true, hmf, .inl ⟨rfl, e, hu'⟩⟩) h3
      · cases h3
      · rename_i f d hne hmf hd
        exact fin f (hmeth f ⟨false, hmf, .inr ⟨rfl, d, hd, fun e he => hne e he⟩⟩) h3
      · cases h3
    · cases h
  · cases h

theorem resize_beq {n m : Nat} (h : Nat.beq n m = true) : n = m := Nat.eq_of_beq_eq_true h

theorem appendX_sim (hr : Rel P ρ σ w.heap) {e t ty : TypeId} {xt : List TypeId} {esz bytes len cap cap' : Nat} {base base' : Option Addr} {v x x' : Value} {σ' : St} {zv : Value}
    (hu : P.underlying t = some (.slice e)) (hxt : xt = [] ∨ ∃ u xt' d, xt = u :: xt' ∧ P.underlying u = some d ∧ ∀ k, d ≠ .int k)
    (h : appendX σ e esz bytes base len cap x = some (v, σ')) (hb : VR ρ (.slice base len cap) (.slice base' len cap')) (hx : VR ρ x x')
    (hs : sizeN P e = some esz) (h0 : 0 < esz) (hby : bytesN P e = some bytes) (hb0 : 0 < bytes) (hz : ∀ w, (zeroValue e).run P w = .ok zv w) (hzs : zv.cells.size = esz) :
    ∃ v' w' ρ', (Builtin.append_ (t :: xt).toArray ty #[.slice base' len cap', x']).run P w = .ok v' w' ∧ VR ρ' v v' ∧ Rel P ρ' σ' w'.heap ∧ Sim ρ σ w ρ' σ' w' := by
  unfold appendX at h
  simp only [Option.bind_eq_some_iff] at h
  obtain ⟨n, h1, new, h2, h3⟩ := h
  obtain ⟨new', k1, _, k2⟩ := firstV_sim hr hx (fun m hm => by rw [h1] at hm; cases hm; exact Nat.le_refl _) h2
  obtain ⟨v', w', ρ', q1, q2, q3, q4⟩ := appendV_sim (x := x') (z := false) hr h3 hb k1 hs h0 hby hb0 hz hzs k2
  exact ⟨v', w', ρ', by rw [run_append_x hu hs hxt (lenV_sim hx h1 w)]; exact q1, q2, q3, q4⟩

theorem VR.slice_inv {base : Option Addr} {len cap : Nat} {x' : Value} (h : VR ρ (.slice base len cap) x') : ∃ base' cap', x' = .slice base' len cap' := by
  cases h with
  | slc0 n c => exact ⟨_, _, rfl⟩
  | slc b o n c c' p hp hc hn hk => exact ⟨_, _, rfl⟩
  | slce b o p a' c' hp hk => exact ⟨_, _, rfl⟩

theorem copy_fin {n : Nat} : VR ρ (.int .i64 (n : Nat)) (goInt n) := VR.int _ _

theorem builtinE_sim (hr : Rel P ρ σ w.heap) {b : Builtin} {ts : List TypeId} {us us' : List Value} {v : Value} {σ' : St} (hl : VL ρ us us') (h : builtinE P σ b ts us = some (v, σ')) (ty : TypeId) (consts : Array Bool) :
    Reach P w (builtin b ts.toArray ty consts us'.toArray) (SimK P ρ σ w σ' v) := by
  have fin : ∀ (s : Sem Value) (v' : Value) (w' : World) (ρ' : Rho), builtin b ts.toArray ty consts us'.toArray = (do pure (.value (← s))) → s.run P w = .ok v' w' → VR ρ' v v' → Rel P ρ' σ' w'.heap → Sim ρ σ w ρ' σ' w' →
      Reach P w (builtin b ts.toArray ty consts us'.toArray) (SimK P ρ σ w σ' v) := by
    intro s v' w' ρ' h1 h2 h3 h4 h5
    unfold Reach
    rw [h1, run_bindR _ _ w w' h2]
    exact ⟨ρ', h3, h4, h5⟩
  unfold builtinE at h
  split at h
  · -- append
    rename_i st xt base len cap x
    obtain ⟨s', l1, rfl, hs', hl1⟩ := hl.uncons
    obtain ⟨x', l2, rfl, hx', hl2⟩ := hl1.uncons
    obtain rfl := hl2.unnil
    obtain ⟨base', cap', rfl⟩ := hs'.slice_inv
    split at h
    · rename_i e hu
      simp only [Option.bind_eq_some_iff] at h
      obtain ⟨esz, h1, bytes, h2, z, h3, h4⟩ := h
      cases hc : (Nat.beq esz 0 || Nat.beq bytes 0 || !(Nat.beq z.length esz)) with
      | true => simp [hc] at h4
      | false =>
      simp only [hc, cond_false] at h4
      simp only [Bool.or_eq_false_iff, Bool.not_eq_false'] at hc
      obtain ⟨⟨c1, c2⟩, c3⟩ := hc
      have p1 : 0 < esz := by rcases Nat.eq_zero_or_pos esz with q | q
                              · subst q; cases c1
                              · exact q
      have p2 : 0 < bytes := by rcases Nat.eq_zero_or_pos bytes with q | q
                                · subst q; cases c2
                                · exact q
      have p3 : z.length = esz := Nat.eq_of_beq_eq_true c3
      obtain ⟨zv, _, z2, z3⟩ := run_zeroN h3 w
      have hz : ∀ w, (zeroValue e).run P w = .ok zv w := fun w1 => by
        obtain ⟨zv1, y1, y2, _⟩ := run_zeroN h3 w1
        unfold zeroN at h3
        cases hi : P.info? e with
        | none => simp [hi] at h3
        | some i =>
          cases hz0 : i.zero with
          | none => simp [hi, hz0] at h3
          | some zz =>
            have e1 : (zeroValue e).run P w = .ok zz w := by simp [zeroValue, typeInfo, hi, hz0]
            have e2 : (zeroValue e).run P w1 = .ok zz w1 := by simp [zeroValue, typeInfo, hi, hz0]
            have := ‹(zeroValue e).run P w = .ok zv w›
            rw [e1] at this
            cases this
            exact e2
      have hzs : zv.cells.size = esz := by rw [← p3, ← z2]; simp
      split at h4
      · obtain ⟨v', w', ρ', q1, q2, q3, q4⟩ := appendX_sim (ty := ty) hr hu (.inl rfl) h4 hs' hx' h1 p1 h2 p2 hz hzs
        exact fin _ v' w' ρ' rfl q1 q2 q3 q4
      · rename_i u xt'
        simp only [Option.bind_eq_some_iff] at h4
        obtain ⟨d, h5, h6⟩ := h4
        split at h6
        · rename_i k
          split at h6
          · rename_i k' n
            split at h6
            · rename_i hn
              cases hx'
              obtain ⟨app, a1, a2⟩ := run_append_z (w := w) (ty := ty) (k' := k') (xt := xt') (base := base') (sLen := len) (sCap := cap') hu h1 h2 h5 hn.1 hn.2 p2 hz hzs p1
              obtain ⟨v', w', ρ', q1, q2, q3, q4⟩ := appendV_sim (x := .int k' n) (z := true) (app := app) hr h6 hs' (by rw [← z2]; exact VL_repN (by rw [z2]; exact z3) _) h1 p1 h2 p2 hz hzs (fun w1 _ => by rw [a2 w1])
              exact fin _ v' w' ρ' rfl (by rw [← q1]; exact a1) q2 q3 q4
            · cases h6
          · cases h6
        · rename_i hne
          obtain ⟨v', w', ρ', q1, q2, q3, q4⟩ := appendX_sim (ty := ty) hr hu (.inr ⟨u, xt', _, rfl, h5, fun k hk => hne k hk⟩) h6 hs' hx' h1 p1 h2 p2 hz hzs
          exact fin _ v' w' ρ' rfl q1 q2 q3 q4
    · cases h
  · -- copy
    rename_i dt tl base dlen dcap src
    obtain ⟨s', l1, rfl, hs', hl1⟩ := hl.uncons
    obtain ⟨x', l2, rfl, hx', hl2⟩ := hl1.uncons
    obtain rfl := hl2.unnil
    obtain ⟨base', cap', rfl⟩ := hs'.slice_inv
    split at h
    · rename_i e hu
      simp only [Option.bind_eq_some_iff] at h
      obtain ⟨esz, h1, sl, h2, cs, h3, h4⟩ := h
      obtain ⟨cs', k1, k2, _⟩ := firstV_sim hr hx' (fun m hm => by rw [h2] at hm; cases hm; exact Nat.min_le_left _ _) h3
      have head : ∀ w', (match base' with | some a => storeCells a cs' | none => pure () : Sem Unit).run P w = .ok () w' →
          (Builtin.copy_ (dt :: tl).toArray ty #[.slice base' dlen cap', x']).run P w = .ok (goInt (Nat.min sl dlen : Nat)) w' := by
        intro w' hw
        unfold Builtin.copy_
        have h0 : (dt :: tl).toArray[0]? = some dt := by simp
        have e1 : (#[Value.slice base' dlen cap', x'] : Array Value)[0]? = some (.slice base' dlen cap') := rfl
        have e2 : (#[Value.slice base' dlen cap', x'] : Array Value)[1]? = some x' := rfl
        simp only [h0, e1, e2]
        rw [run_bindR _ _ w w (run_underlying hu w)]
        simp only
        rw [run_bindR _ _ w w (lenV_sim hx' h2 w), run_bindR _ _ w w (run_sizeOfN h1 w), run_bindR _ _ w w k2]
        cases base' with
        | none => simp only [Sem.run_pure] at hw; cases hw; rfl
        | some a => simp only at hw ⊢; rw [run_bindR _ _ w w' hw]; rfl
      split at h4
      · cases hs'
        simp only [Option.some.injEq, Prod.mk.injEq] at h4
        obtain ⟨rfl, rfl⟩ := h4
        exact fin _ _ w ρ rfl (head w rfl) copy_fin hr (.refl _ _ _)
      · rename_i a0
        cases hce : cs.isEmpty with
        | true =>
          simp only [hce, cond_true, Option.some.injEq, Prod.mk.injEq] at h4
          obtain ⟨rfl, rfl⟩ := h4
          have : cs' = [] := by
            have := k1.1
            rw [List.isEmpty_iff.1 hce] at this
            exact List.length_eq_zero_iff.1 this.symm
          subst this
          exact fin _ _ w ρ rfl (head w (by cases base' <;> rfl)) copy_fin hr (.refl _ _ _)
        | false =>
          simp only [hce, cond_false, Option.map_eq_some_iff, Prod.mk.injEq] at h4
          obtain ⟨σ1, h5, rfl, rfl⟩ := h4
          cases hs' with
          | slc b o _ _ c' p hp hc hn hk =>
            obtain ⟨w', q1, q2, q3⟩ := storeCs_sim hr h5 hp k1
            exact fin _ _ w' ρ rfl (head w' q1) copy_fin q2 q3
          | slce b o p a' c' hp hk =>
            have e0 : Nat.min sl 0 = 0 := Nat.min_zero _
            rw [e0] at h3
            have : cs = [] := by
              unfold firstV at h3
              split at h3
              · unfold loadCs at h3
                split at h3
                · cases h3
                · simp only [Option.bind_eq_some_iff, Nat.zero_mul, takeN_zero, Option.some.injEq] at h3
                  obtain ⟨r, _, q⟩ := h3
                  exact q.symm
              · simpa using h3.symm
              · simp only [takeN_zero, Option.some.injEq] at h3; exact h3.symm
              · cases h3
            rw [this] at hce; cases hce
    · cases h
  · -- clear
    rename_i t tl x
    obtain ⟨x', l1, rfl, hx', hl1⟩ := hl.uncons
    obtain rfl := hl1.unnil
    have h0 : (t :: tl).toArray[0]? = some t := by simp
    have e1 : (#[x'] : Array Value)[0]? = some x' := rfl
    split at h
    · rename_i e hu
      cases hx'
      simp only [Option.some.injEq, Prod.mk.injEq] at h
      obtain ⟨rfl, rfl⟩ := h
      refine fin _ (.tuple #[]) w ρ rfl ?_ vr_undef hr (.refl _ _ _)
      unfold Builtin.clear_
      simp only [h0, e1]
      rw [run_bindR _ _ w w (run_underlying hu w)]
      rfl
    · rename_i e ad cp hu
      simp only [Option.some.injEq, Prod.mk.injEq] at h
      obtain ⟨rfl, rfl⟩ := h
      obtain ⟨b', c', rfl⟩ := hx'.slice_inv
      obtain ⟨a', rfl⟩ : ∃ a', b' = some a' := by cases hx' <;> exact ⟨_, rfl⟩
      refine fin _ (.tuple #[]) w ρ rfl ?_ vr_undef hr (.refl _ _ _)
      unfold Builtin.clear_
      simp only [h0, e1]
      rw [run_bindR _ _ w w (run_underlying hu w)]
      rfl
    · rename_i e ad n cp hne hu
      simp only [Option.bind_eq_some_iff, Option.map_eq_some_iff, Prod.mk.injEq] at h
      obtain ⟨z, h3, σ1, h4, rfl, rfl⟩ := h
      obtain ⟨zv, z1, z2, z3⟩ := run_zeroN h3 w
      have hn : ∃ k, n = k + 1 := by
        cases n with
        | zero => exact absurd rfl (hne)
        | succ k => exact ⟨k, rfl⟩
      obtain ⟨k, rfl⟩ := hn
      cases hx' with
      | slc b o _ _ c' p hp hc hn hk =>
        obtain ⟨w', q1, q2, q3⟩ := storeCs_sim hr h4 hp (VL_repN z3 (k + 1))
        refine fin _ (.tuple #[]) w' ρ rfl ?_ vr_undef q2 q3
        unfold Builtin.clear_
        simp only [h0, e1]
        rw [run_bindR _ _ w w (run_underlying hu w)]
        show ((zeroValue e) >>= fun zv => storeCells ⟨p.b, p.d + o, none⟩ (Builtin.zeroCells zv.cells (k + 1)).toList >>= fun _ => pure (Value.tuple #[])).run P w = _
        rw [run_bindR _ _ w w z1]
        have hzc : (Builtin.zeroCells zv.cells (k + 1)).toList = repN (k + 1) z := by
          have := repN_eq zv.cells (k + 1)
          unfold Builtin.zeroCells
          rw [← z2, ← this]
        rw [hzc, run_bindR _ _ w w' q1]
        rfl
    · cases h
  · -- delete
    rename_i t tl m k
    obtain ⟨m', l1, rfl, hm', hl1⟩ := hl.uncons
    obtain ⟨k', l2, rfl, hk', hl2⟩ := hl1.uncons
    obtain rfl := hl2.unnil
    split at h
    · rename_i kt et r hu
      simp only [Option.bind_eq_some_iff] at h
      obtain ⟨kd, h1, h2⟩ := h
      cases hkd : plainKey kd with
      | false => simp [hkd] at h2
      | true =>
      simp only [hkd, cond_true, Option.bind_eq_some_iff, Option.map_eq_some_iff, Prod.mk.injEq] at h2
      obtain ⟨⟨es, c⟩, h3, es1, h4, rfl, rfl⟩ := h2
      cases hm' with
      | map _ p hp =>
      obtain ⟨w', q1, q2, q3⟩ := delete_sim (ty := ty) (tl := tl) hr hu h1 hkd h3 hp hk' h4
      exact fin _ _ w' ρ rfl q1 vr_undef q2 q3
    · cases h
  · -- unsafe.String
    rename_i t tl p k n
    obtain ⟨p', l1, rfl, hp', hl1⟩ := hl.uncons
    obtain ⟨k', l2, rfl, hk', hl2⟩ := hl1.uncons
    obtain rfl := hl2.unnil
    cases hk'
    have gen : ∀ (q : Option Addr) (K : Value) (w' : World), (do
        if n < 0 then runtimePanic (.error "unsafe.String: len out of range")
        if n > IntKind.i64.max then unsupported (.unsafePointer "String: a length above the largest int")
        match q with
        | none =>
          if n = 0 then pure (.string .empty)
          else runtimePanic (.error "unsafe.String: ptr is nil and len is not zero")
        | some a =>
          if n = 0 then pure (.string .empty)
          else if ← variablesAt a (← elemOf t) n.toNat then do
            let s ← loadBytes a .empty n.toNat
            freeze a n.toNat
            pure (.string s)
          else unsupported (.unsafePointer "String: not so many bytes at ptr") : Sem Value).run P w = .ok K w' →
        (Builtin.unsafeString_ (t :: tl).toArray ty #[.pointer q, .int k n]).run P w = .ok K w' := by
      intro q K w' hq
      rw [← hq]
      cases q <;> rfl
    have zero : ∀ (q : Option Addr), n = 0 → (Builtin.unsafeString_ (t :: tl).toArray ty #[.pointer q, .int k n]).run P w = .ok (.string .empty) w := by
      intro q hn
      refine gen q _ w ?_
      subst hn
      cases q <;> rfl
    split at h
    · split at h
      · rename_i hn
        simp only [Option.some.injEq, Prod.mk.injEq] at h
        obtain ⟨rfl, rfl⟩ := h
        cases hp'
        exact fin _ _ w ρ rfl (zero _ hn) (.string _) hr (.refl _ _ _)
      · cases h
    · rename_i a0
      split at h
      · rename_i hn
        simp only [Option.some.injEq, Prod.mk.injEq] at h
        obtain ⟨rfl, rfl⟩ := h
        cases hp'
        exact fin _ _ w ρ rfl (zero _ hn) (.string _) hr (.refl _ _ _)
      · split at h
        · rename_i hn r e hspot hrow hu
          split at h
          · rename_i hk8 hs1
            split at h
            · rename_i hcond
              obtain ⟨c1, c0, c2, c3, c4⟩ := hcond
              simp only [Option.bind_eq_some_iff, Option.map_eq_some_iff, Prod.mk.injEq] at h
              obtain ⟨cs, h3, l, h4, rfl, rfl⟩ := h
              cases hp' with
              | ptr b o p hp =>
              obtain ⟨m, rfl⟩ : ∃ m : Nat, n = (m : Int) := ⟨n.toNat, by omega⟩
              simp only [Int.toNat_natCast] at h3
              obtain ⟨w', q1, q2, q3⟩ := unsafeString_sim (ty := ty) (tl := tl) (k := k) hr hu hs1 hrow hp (by omega) c2 c3 c4 h3 h4 (by omega)
              exact fin _ _ w' ρ rfl q1 (.string _) q2 q3
            · cases h
          · cases h
        · cases h
  · cases h

/-- an operation that writes, or a call -/
theorem opEff_sim {E : Env} {C : CallF} (hC : CallsOK E.P (callT E C)) (hr : Rel E.P ρ σ w.heap) (hf : FRel ρ fr a.tmps) {o : Oper} {v : Value} {σ' : St} (h : opEff E C o.op fr σ = some (v, σ')) :
    Reach E.P w (execOp a.eval o) (SimK E.P ρ σ w σ' v) := by
  obtain ⟨dst, op, type, pos, after, guard⟩ := o
  have hg := hr.g
  simp only at h
  cases op with
  | store t x y =>
    simp only [opEff, Option.bind_eq_some_iff] at h
    obtain ⟨u, h1, h2⟩ := h
    split at h2
    · rename_i ad
      simp only [Option.bind_eq_some_iff, Option.map_eq_some_iff, Prod.mk.injEq] at h2
      obtain ⟨v1, h3, σ1, h4, rfl, rfl⟩ := h2
      obtain ⟨w', q1, q2, q3⟩ := storeT_sim hr (evO_sim hg hf h1) (evO_sim hg hf h3) h4
      unfold Reach
      simp only [execOp]
      rw [run_bindR _ _ w w' q1]
      exact ⟨ρ, vr_undef, q2, q3⟩
    · cases h2
  | mapUpdate t m k x =>
    simp only [opEff, Option.bind_eq_some_iff] at h
    obtain ⟨m1, h1, k1, h2, v1, h3, h4⟩ := h
    split at h4
    · rename_i kt et r hu
      simp only [Option.bind_eq_some_iff] at h4
      obtain ⟨kd, h5, h6⟩ := h4
      cases hkd : plainKey kd with
      | false => simp [hkd] at h6
      | true =>
      simp only [hkd, cond_true, Option.bind_eq_some_iff, Option.map_eq_some_iff, Prod.mk.injEq] at h6
      obtain ⟨⟨es, c⟩, h7, ⟨es1, c1⟩, h8, rfl, rfl⟩ := h6
      have hm := evO_sim hg hf h1
      generalize hxm : a.eval m = m' at hm
      cases hm with
      | map _ p hp =>
      obtain ⟨w', q1, q2, q3⟩ := mapUpdate_sim hr hu h5 hkd h7 hp (evO_sim hg hf h2) (evO_sim hg hf h3) h8
      unfold Reach
      simp only [execOp, hxm]
      rw [run_bindR _ _ w w' q1]
      exact ⟨ρ, vr_undef, q2, q3⟩
    · cases h4
  | convert s d x =>
    simp only [opEff, Option.bind_eq_some_iff] at h
    obtain ⟨u, h1, h2⟩ := h
    have hx := evO_sim hg hf h1
    generalize hxx : a.eval x = x' at hx
    split at h2
    · rename_i e0 e ad n c hs hd
      split at h2
      · rename_i r he hrow
        cases hc : (Nat.beq s d && !r.ro && !r.loose && Nat.beq r.fz 0 && !(Nat.beq c 0)) with
        | false => simp [hc] at h2
        | true =>
        simp only [hc, cond_true, Option.some.injEq, Prod.mk.injEq] at h2
        obtain ⟨rfl, rfl⟩ := h2
        simp only [Bool.and_eq_true, Bool.not_eq_true'] at hc
        obtain ⟨⟨⟨⟨c1, c2⟩, c3⟩, c4⟩, c5⟩ := hc
        have c1 : s = d := Nat.eq_of_beq_eq_true c1
        have c4 : r.fz = 0 := Nat.eq_of_beq_eq_true c4
        subst c1
        have key : ∀ (b o : Nat) (p : Pl) (a' : Addr) (c' : Nat), ad.block = b → ρ b = some p → a'.block = p.b → x' = .slice (some a') n c' → VR ρ (.slice (some ad) n c) (.slice (some a') n c') →
            Reach E.P w (execOp a.eval ⟨dst, .convert s s x, type, pos, after, guard⟩) (SimK E.P ρ σ w (σ.put ad.block (.row { r with str := true })) (.slice (some ad) n c)) := by
          intro b o p a' c' hb hp hab hx' hvr
          subst hb
          obtain ⟨w', q1, q2, q3⟩ := mark_sim (o := a'.off) hr hrow hp c2 c3 c4
          have hmk : (markStringish a').run E.P w = .ok () w' := by
            rw [← q1]
            unfold markStringish
            rw [hab]
          have hconv : (Go.convert s s x').run E.P w = .ok (.slice (some a') n c') w' := by
            unfold Go.convert
            rw [run_bindR _ _ w w (run_underlying hs w), run_bindR _ _ w w (run_underlying hs w)]
            rw [hs] at hd
            cases hd
            rw [hx']
            show ((underlying _) >>= _).run E.P w = _
            rw [run_bindR _ _ w w (run_underlying he w)]
            simp only [beq_self_eq_true]
            rw [run_bindR _ _ w w' hmk]
            rfl
          unfold Reach
          simp only [execOp, hxx]
          rw [run_bindR _ _ w w' hconv]
          exact ⟨ρ, hvr, q2, q3⟩
        cases hx with
        | slc b o _ _ c' p hp hc hn hk => exact key b o p _ c' rfl hp rfl rfl (.slc b o _ _ c' p hp hc hn hk)
        | slce b o p a' c' hp hk => simp at c5
      · cases h2
    · cases h2
  | call c =>
    simp only [opEff, Option.bind_eq_some_iff] at h
    obtain ⟨args, h1, h2⟩ := h
    have hargs := evL_sim hg hf h1
    have harr : (List.map a.eval c.args.toList).toArray = c.args.map a.eval := by apply Array.ext'; simp
    split at h2
    · rename_i b hb
      have := builtinE_sim hr hargs h2 type (c.args.map fun | .const _ => true | _ => false)
      unfold Reach at *
      simp only [execOp]
      rw [run_resolve_builtin a.eval c b hb type]
      rw [harr] at this
      exact this
    · rename_i r name hb
      simp only [Option.bind_eq_some_iff] at h2
      obtain ⟨u, h3, h4⟩ := h2
      have := invoke_sim hC hr (VL.cons (evO_sim hg hf h3) hargs) (.nil ρ) h4
      refine Reach.congr ?_ this
      have e : (a.eval r :: List.map a.eval c.args.toList).toArray = #[a.eval r] ++ c.args.map a.eval := by apply Array.ext'; simp
      rw [e]
      simp only [execOp, resolve, hb]
      rfl
    · rename_i f hb
      simp only [Option.bind_eq_some_iff] at h2
      obtain ⟨u, h3, h4⟩ := h2
      have hu := evO_sim hg hf h3
      generalize hxu : a.eval f = u' at hu
      split at h4
      · rename_i fn first captured
        cases hu with
        | func _ _ a' _ b' e1 e2 e3 e4 =>
        have := invoke_sim hC hr ((VL.of_array e1 e2).append hargs) (VL.of_array e3 e4) h4
        refine Reach.congr ?_ this
        have e : (a'.toList ++ List.map a.eval c.args.toList).toArray = a' ++ c.args.map a.eval := by apply Array.ext'; simp
        rw [e]
        simp only [execOp, resolve, hb, hxu, Deferred.ofValue]
        rfl
      · cases h4
  | _ => simp [opEff] at h
end Go.Am
