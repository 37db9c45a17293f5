/-
  A part of the proof that the run of an abstract machine, which the kernel can run, is what the program does under its model: no condition of its own.
-/
import Derived.Test.YtgjpafihilgpmaaGreatDoorAmDraw4
set_option linter.unusedVariables false
set_option linter.unusedSimpArgs false
set_option maxHeartbeats 1000000
namespace Go.Am
open Go
variable {P : Program} {ρ : Rho} {σ : St} {w : World} {a : Act} {fr : Fr}

theorem wp_loopN {c : Code} {Q : Exit → Act → World → Prop} (S : Nat → Act → World → Prop) (h0 : ∀ a w, ¬ S 0 a w)
    (round : ∀ n a w, S (n + 1) a w → c.wp P (Exit.then (S n) Q) a w) : ∀ n a w, S n a w → (Code.loop c).wp P Q a w := by
  intro n a w h b k cs
  have key : ∀ n a w, S n a w → ∃ e a' w', Q e a' w' ∧ Arrives P (lone (b.at a (.code c :: .inLoop c :: k)) cs w) b k cs e a' w' := by
    intro n
    induction n with
    | zero => intro a w h; exact absurd h (h0 a w)
    | succ n ih =>
      intro a w h
      obtain ⟨e, a₁, w₁, hq, harr⟩ := round n a w h b (.inLoop c :: k) cs
      cases e with
      | normal =>
        obtain ⟨e₂, a₂, w₂, hq₂, harr₂⟩ := ih a₁ w₁ hq
        exact ⟨e₂, a₂, w₂, hq₂, .of_steps (Steps.trans harr (.one step_inLoop)) harr₂⟩
      | exit id => exact ⟨_, a₁, w₁, hq, .pass (x := .inLoop c) rfl (fun _ _ => .inl (by simp)) harr⟩
      | goto l => exact ⟨_, a₁, w₁, hq, .pass (x := .inLoop c) rfl (fun _ _ => .inl (by simp)) harr⟩
      | ret => exact ⟨_, a₁, w₁, hq, .pass (x := .inLoop c) rfl (fun _ _ => .inl (by simp)) harr⟩
      | panic ch => exact ⟨_, a₁, w₁, hq, .pass (x := .inLoop c) rfl (fun _ _ => .inl (by simp)) harr⟩
      | outgrown => exact ⟨_, a₁, w₁, hq, .pass (x := .inLoop c) rfl (fun _ _ => .inl (by simp)) harr⟩
  obtain ⟨e, a', w', hq, harr⟩ := key n a w h
  exact ⟨e, a', w', hq, .of_steps (.one step_loop) harr⟩

theorem maskGo_sim {tmps : Array Value} : ∀ (l : List Nat) (acc : Fr), FRel ρ fr tmps → FRel ρ acc tmps → FRel ρ (maskGo fr l acc) tmps
  | [], acc, _, ha => ha
  | i :: l, acc, hf, ha => by
    unfold maskGo
    split
    · rename_i v hv
      refine maskGo_sim l _ hf ⟨fun t u hu => ?_⟩
      rw [T.get_set] at hu
      split at hu
      · rename_i e; subst e; cases hu; exact hf.get _ _ hv
      · exact ha.get _ _ hu
    · exact maskGo_sim l acc hf ha
theorem maskF_sim {tmps : Array Value} (k : Option (List Nat)) (hf : FRel ρ fr tmps) : FRel ρ (maskF k fr) tmps := by
  unfold maskF
  split
  · exact hf
  · exact maskGo_sim _ _ hf ⟨fun t v h => by cases h⟩

theorem Post.trans {ρ0 ρ1 : Rho} {σ0 σ1 : St} {w0 w1 : World} {n : Nat} {ex : Ex} {fr' : Fr} {σ' : St} {e : Exit} {a' : Act} {w' : World} (hs : Sim ρ0 σ0 w0 ρ1 σ1 w1) (h : Post P ρ1 σ1 w1 n ex fr' σ' e a' w') : Post P ρ0 σ0 w0 n ex fr' σ' e a' w' :=
  ⟨h.is, h.defers, h.size, let ⟨ρ', k1, k2, k3⟩ := h.rel; ⟨ρ', k1, k2, hs.trans k3⟩⟩

theorem exec_sim {E : Env} {C : CallF} (hm : E.P.follows .mixedOrders = true) (hC : CallsOK E.P (callT E C)) (lf : Nat) (f : FuncId) {n : Nat} :
    ∀ (c : Code) (fr : Fr) (σ : St) (ex : Ex) (fr' : Fr) (σ' : St) (ρ : Rho) (a : Act) (w : World), dstOK n c = true → exec E C lf f c fr σ = some (ex, fr', σ') → Rel E.P ρ σ w.heap → FRel ρ fr a.tmps → a.defers = [] → a.tmps.size = n →
      c.wp E.P (Post E.P ρ σ w n ex fr' σ') a w := by
  intro c
  induction c with
  | skip =>
    intro fr σ ex fr' σ' ρ a w hd h hr hf hda hsz
    simp only [exec, Option.some.injEq, Prod.mk.injEq] at h
    obtain ⟨rfl, rfl, rfl⟩ := h
    exact wp_skip ⟨trivial, hda, hsz, ρ, hr, hf, .refl _ _ _⟩
  | region id ops draw =>
    intro fr σ ex fr' σ' ρ a w hd h hr hf hda hsz
    have hdd : ∀ o ∈ ops.toList, ∀ d, o.dst = some d → d < n := by
      intro o ho d hod
      simp only [dstOK] at hd
      have := List.all_eq_true.1 hd o ho
      rw [hod] at this
      simpa [Nat.blt_eq] using this
    simp only [exec] at h
    cases draw with
    | false =>
      simp only [cond_false, Option.map_eq_some_iff, Prod.mk.injEq] at h
      obtain ⟨⟨fr1, σ1⟩, h1, rfl, rfl, rfl⟩ := h
      refine wp_region ?_
      have := runOps_sim hC (ρ0 := ρ) (σ0 := σ) (w0 := w) hdd ops.toList 0 fr σ ρ a w rfl h1 hr hf (.refl _ _ _) hda hsz
      rw [List.range_eq_range']
      simpa using this
    | true =>
      simp only [cond_true] at h
      split at h
      · rename_i l hl
        simp only [Option.map_eq_some_iff, Prod.mk.injEq] at h
        obtain ⟨⟨fr1, σ1⟩, h1, rfl, rfl, rfl⟩ := h
        exact wp_region_any hm (runStill_sim hC hdd hl h1 hr hf hda hsz rfl)
      · simp only [Option.map_eq_some_iff, Prod.mk.injEq] at h
        obtain ⟨⟨fr1, σ1⟩, h1, rfl, rfl, rfl⟩ := h
        exact wp_region_any hm (runDraw_sim hC hdd h1 hr hf hda hsz rfl)
  | seq x y ihx ihy =>
    intro fr σ ex fr' σ' ρ a w hd h hr hf hda hsz
    simp only [dstOK, Bool.and_eq_true] at hd
    simp only [exec] at h
    refine wp_seq ?_
    split at h
    · rename_i fr1 σ1 h1
      refine wp_mono (ihx fr σ .nrm fr1 σ1 ρ a w hd.1 h1 hr hf hda hsz) fun e a1 w1 hp => ?_
      have hi := hp.is
      cases e <;> simp only [Ex.is] at hi
      obtain ⟨ρ1, k1, k2, k3⟩ := hp.rel
      exact wp_mono (ihy fr1 σ1 ex fr' σ' ρ1 a1 w1 hd.2 h k1 k2 hp.defers hp.size) fun e a2 w2 hq => hq.trans k3
    · rename_i hne
      refine wp_mono (ihx fr σ ex fr' σ' ρ a w hd.1 h hr hf hda hsz) fun e a1 w1 hp => ?_
      cases e with
      | normal =>
        have hi := hp.is
        cases ex <;> simp only [Ex.is] at hi
        exact absurd h (hne _ _)
      | _ => exact hp
  | cond c x y ihx ihy =>
    intro fr σ ex fr' σ' ρ a w hd h hr hf hda hsz
    simp only [dstOK, Bool.and_eq_true] at hd
    simp only [exec, Option.bind_eq_some_iff] at h
    obtain ⟨u, h1, h2⟩ := h
    have hc := evO_sim hr.g hf h1
    generalize hcv : a.eval c = c' at hc
    split at h2
    · cases hc
      exact wp_cond_true hcv (ihx fr σ ex fr' σ' ρ a w hd.1 h2 hr hf hda hsz)
    · cases hc
      exact wp_cond_false hcv (ihy fr σ ex fr' σ' ρ a w hd.2 h2 hr hf hda hsz)
    · cases h2
  | block id b ih =>
    intro fr σ ex fr' σ' ρ a w hd h hr hf hda hsz
    simp only [dstOK] at hd
    simp only [exec] at h
    refine wp_block ?_
    split at h
    · rename_i i fr1 σ1 h1
      refine wp_mono (ih fr σ (.exit i) fr1 σ1 ρ a w hd h1 hr hf hda hsz) fun e a1 w1 hp => ?_
      have hi := hp.is
      cases e <;> simp only [Ex.is] at hi
      subst hi
      simp only [Exit.inBlock]
      cases hb : Nat.beq i id with
      | true =>
        simp only [hb, cond_true, Option.some.injEq, Prod.mk.injEq] at h
        obtain ⟨rfl, rfl, rfl⟩ := h
        rw [if_pos (Nat.eq_of_beq_eq_true hb)]
        exact ⟨trivial, hp.defers, hp.size, hp.rel⟩
      | false =>
        simp only [hb, cond_false, Option.some.injEq, Prod.mk.injEq] at h
        obtain ⟨rfl, rfl, rfl⟩ := h
        rw [if_neg (by intro e; subst e; simp at hb)]
        exact hp
    · rename_i hne
      refine wp_mono (ih fr σ ex fr' σ' ρ a w hd h hr hf hda hsz) fun e a1 w1 hp => ?_
      cases e with
      | exit j =>
        have hi := hp.is
        cases ex <;> simp only [Ex.is] at hi
        exact absurd h (hne _ _ _)
      | _ => exact hp
  | loop b ih =>
    intro fr σ ex fr' σ' ρ a w hd h hr hf hda hsz
    simp only [dstOK] at hd
    simp only [exec] at h
    refine wp_loopN (Q := Post E.P ρ σ w n ex fr' σ') (fun k a1 w1 => ∃ fr1 σ1 ρ1, loopN (fun fr σ => exec E C lf f b (maskF (E.keep f (headId b)) fr) σ) k fr1 σ1 = some (ex, fr', σ') ∧
      Rel E.P ρ1 σ1 w1.heap ∧ FRel ρ1 fr1 a1.tmps ∧ Sim ρ σ w ρ1 σ1 w1 ∧ a1.defers = [] ∧ a1.tmps.size = n) ?_ ?_ lf a w ⟨fr, σ, ρ, h, hr, hf, .refl _ _ _, hda, hsz⟩
    · rintro a1 w1 ⟨fr1, σ1, ρ1, h1, _⟩
      cases h1
    · rintro k a1 w1 ⟨fr1, σ1, ρ1, h1, r1, r2, r3, r4, r5⟩
      simp only [loopN] at h1
      split at h1
      · rename_i fr2 σ2 h2
        refine wp_mono (ih _ σ1 .nrm fr2 σ2 ρ1 a1 w1 hd h2 r1 (maskF_sim _ r2) r4 r5) fun e a2 w2 hp => ?_
        have hi := hp.is
        cases e <;> simp only [Ex.is] at hi
        obtain ⟨ρ2, k1, k2, k3⟩ := hp.rel
        exact ⟨fr2, σ2, ρ2, h1, k1, k2, r3.trans k3, hp.defers, hp.size⟩
      · rename_i hne
        refine wp_mono (ih _ σ1 ex fr' σ' ρ1 a1 w1 hd h1 r1 (maskF_sim _ r2) r4 r5) fun e a2 w2 hp => ?_
        cases e with
        | normal =>
          have hi := hp.is
          cases ex <;> simp only [Ex.is] at hi
          exact absurd h1 (hne _ _)
        | _ => exact hp.trans r3
  | exit id =>
    intro fr σ ex fr' σ' ρ a w hd h hr hf hda hsz
    simp only [exec, Option.some.injEq, Prod.mk.injEq] at h
    obtain ⟨rfl, rfl, rfl⟩ := h
    exact wp_exit ⟨rfl, hda, hsz, ρ, hr, hf, .refl _ _ _⟩
  | ret =>
    intro fr σ ex fr' σ' ρ a w hd h hr hf hda hsz
    simp only [exec, Option.some.injEq, Prod.mk.injEq] at h
    obtain ⟨rfl, rfl, rfl⟩ := h
    exact wp_ret ⟨trivial, hda, hsz, ρ, hr, hf, .refl _ _ _⟩
  | _ =>
    intro fr σ ex fr' σ' ρ a w hd h hr hf hda hsz
    simp [exec] at h

def resF (tmps : Array Value) : ResultVar → Sem Value
  | .tmp t => pure (tmps.getD t undef)
  | .cell a t => do loadVar t (← asAddr (tmps.getD a undef))
theorem results_eq (fn : Func) (tmps : Array Value) : results fn tmps = (fn.results.mapM (resF tmps) >>= fun vs => pure (if h : vs.size = 1 then vs[0] else .tuple vs)) := by
  unfold results
  congr 2

theorem resultsV_sim (hr : Rel P ρ σ w.heap) (hf : FRel ρ fr a.tmps) : ∀ {l : List ResultVar} {vs : List Value}, resultsV P fr σ l = some vs →
    ∃ vs', VL ρ vs vs' ∧ (l.mapM (m := Sem) (resF a.tmps)).run P w = .ok vs' w
  | [], vs, h => by simp only [resultsV, Option.some.injEq] at h; subst h; exact ⟨[], .nil ρ, rfl⟩
  | .tmp t :: l, vs, h => by
    simp only [resultsV, Option.bind_eq_some_iff, Option.map_eq_some_iff] at h
    obtain ⟨v, h1, vs1, h2, rfl⟩ := h
    obtain ⟨vs', k1, k2⟩ := resultsV_sim hr hf h2
    obtain ⟨v', g1, g2⟩ := hf.get t v h1
    refine ⟨v' :: vs', .cons g2 k1, ?_⟩
    rw [List.mapM_cons]
    have e : a.tmps.getD t undef = v' := by rw [Array.getD_eq_getD_getElem?, g1]; rfl
    rw [run_bindR _ _ w w (x := v') (by simp only [resF]; rw [e]; rfl), run_bindR _ _ w w k2]
    rfl
  | .cell b t :: l, vs, h => by
    simp only [resultsV, Option.bind_eq_some_iff] at h
    obtain ⟨u, h0, h1⟩ := h
    split at h1
    · rename_i ad
      simp only [Option.bind_eq_some_iff, Option.map_eq_some_iff] at h1
      obtain ⟨v, h1, vs1, h2, rfl⟩ := h1
      obtain ⟨vs', k1, k2⟩ := resultsV_sim hr hf h2
      obtain ⟨u', g1, g2⟩ := hf.get b _ h0
      cases g2 with
      | ptr bb o p hp =>
      obtain ⟨v', q1, q2⟩ := loadT_sim hr h1 hp
      refine ⟨v' :: vs', .cons q2 k1, ?_⟩
      rw [List.mapM_cons]
      have e : a.tmps.getD b undef = .pointer (some ⟨p.b, p.d + o, none⟩) := by rw [Array.getD_eq_getD_getElem?, g1]; rfl
      have : (resF a.tmps (.cell b t)).run P w = .ok v' w := by
        simp only [resF]
        rw [e, run_bindR _ _ w w (x := (⟨p.b, p.d + o, none⟩ : Addr)) rfl]
        exact q1
      rw [run_bindR _ _ w w this, run_bindR _ _ w w k2]
      rfl
    · cases h1

theorem tupleOf_sim {vs vs' : List Value} (h : VL ρ vs vs') : VR ρ (tupleOf vs) (if h : vs'.toArray.size = 1 then vs'.toArray[0] else .tuple vs'.toArray) := by
  unfold tupleOf
  split
  · obtain ⟨v', l, rfl, hv, hl⟩ := h.uncons
    obtain rfl := hl.unnil
    simpa using hv
  · rename_i hne
    have : ¬ vs'.toArray.size = 1 := by
      intro e
      have h1 := h.1
      have e' : vs'.length = 1 := by simpa using e
      rw [e'] at h1
      obtain ⟨x, rfl⟩ := List.length_eq_one_iff.1 h1
      exact hne x rfl
    rw [dif_neg this]
    exact .tupleL h

theorem frameOf_sim {tmps : Array Value} : ∀ {args args' : List Value} {i : Nat} {fr : Fr}, VL ρ args args' → FRel ρ fr tmps → (∀ j v, args'[j]? = some v → tmps[i + j]? = some v) → FRel ρ (frameOf i args fr) tmps
  | [], args', i, fr, _, hf, _ => hf
  | v :: args, args', i, fr, hv, hf, ht => by
    obtain ⟨v', l', rfl, h1, h2⟩ := hv.uncons
    unfold frameOf
    refine frameOf_sim h2 ⟨fun t u hu => ?_⟩ (fun j x hx => by have := ht (j + 1) x (by simpa using hx); rw [show i + 1 + j = i + (j + 1) by omega]; exact this)
    rw [T.get_set] at hu
    split at hu
    · rename_i e; subst e; cases hu; exact ⟨v', by simpa using ht 0 v' rfl, h1⟩
    · exact hf.get _ _ hu

/-- what a primitive must satisfy -/
def PrimsOK (E : Env) : Prop := ∀ f p, E.prim f = some p → ∀ args σ v σ', p args σ = some (v, σ') → ∀ ρ w args', Rel E.P ρ σ w.heap → VL ρ args args' → Reach E.P w (callFunc f args'.toArray) (SimK E.P ρ σ w σ' v)

theorem callN_ok {E : Env} (hm : E.P.follows .mixedOrders = true) (hp : PrimsOK E) : ∀ k, CallsOK E.P (callT E (callN E k)) := by
  intro k
  induction k with
  | zero =>
    intro f args σ v σ' h ρ w args' hr hv
    unfold callT at h
    split at h
    · rename_i p hpf; exact hp f p hpf _ _ _ _ h ρ w args' hr hv
    · cases h
  | succ k ih =>
    intro f args σ v σ' h ρ w args' hr hv
    unfold callT at h
    split at h
    · rename_i p hpf; exact hp f p hpf _ _ _ _ h ρ w args' hr hv
    · simp only [callN, Option.bind_eq_some_iff] at h
      obtain ⟨fn, h1, c, h2, h3⟩ := h
      cases hok : fnOK fn c && Nat.ble args.length fn.ntmps with
      | false => simp [hok] at h3
      | true =>
      simp only [hok, cond_true] at h3
      simp only [Bool.and_eq_true, fnOK, Bool.not_eq_true'] at hok
      obtain ⟨⟨hd, hname⟩, hle⟩ := hok
      have hle : args.length ≤ fn.ntmps := Nat.le_of_ble_eq_true hle
      have hlen := hv.1
      have hcf : (callFunc f args'.toArray).run E.P w = .ok (.enter f args'.toArray) w := by
        unfold callFunc
        rw [run_bindR _ _ w w (x := E.P) rfl]
        simp only [h1]
        rw [hname]
        simp only [Bool.false_eq_true, if_false, h2, Option.isNone_some]
        rfl
      unfold Reach
      rw [hcf]
      simp only
      let a0 : Act := { tmps := args'.toArray ++ Array.replicate (fn.ntmps - args'.toArray.size) undef, defers := [] }
      have hsz : a0.tmps.size = fn.ntmps := by simp [a0]; omega
      have hf0 : FRel ρ (frameOf 0 args .lf) a0.tmps := frameOf_sim hv ⟨fun t v h => by cases h⟩ (fun j v hj => by
        have hlt : j < args'.length := (List.getElem?_eq_some_iff.1 hj).1
        simp only [a0, Nat.zero_add]
        rw [Array.getElem?_append, if_pos (by simpa using hlt)]
        simpa using hj)
      have hfin : ∀ (ex : Ex) (fr' : Fr) (σ1 : St), (ex = .nrm ∨ ex = .ret) → exec E (callN E k) k f c (frameOf 0 args .lf) σ = some (ex, fr', σ1) → (resultsV E.P fr' σ1 fn.results.toList).map (fun vs => (tupleOf vs, σ1)) = some (v, σ') →
          Calls E.P f args'.toArray w fun e w'' => ∃ v_1, e = .returned v_1 ∧ SimK E.P ρ σ w σ' v v_1 w'' := by
        intro ex fr' σ1 hex hx hres
        simp only [Option.map_eq_some_iff, Prod.mk.injEq] at hres
        obtain ⟨vs, hvs, rfl, rfl⟩ := hres
        refine calls_of_wp h1 h2 (wp_mono (exec_sim hm ih k f c _ σ ex fr' σ1 ρ a0 w hd hx hr hf0 rfl hsz) fun e a1 w1 hq => ?_)
        have hi := hq.is
        obtain ⟨ρ1, k1, k2, k3⟩ := hq.rel
        obtain ⟨vs', q1, q2⟩ := resultsV_sim k1 k2 hvs
        have hresults : ∃ rv, (results fn a1.tmps).run E.P w1 = .ok rv w1 ∧ VR ρ1 (tupleOf vs) rv := by
          refine ⟨_, ?_, tupleOf_sim q1⟩
          rw [results_eq]
          have : (fn.results.mapM (m := Sem) (resF a1.tmps)).run E.P w1 = .ok vs'.toArray w1 := by
            rw [← Array.toArray_toList (xs := fn.results), List.mapM_toArray]
            show ((_ : Sem (List Value)) >>= _).run E.P w1 = _
            rw [run_bindR _ _ w1 w1 q2]
            rfl
          rw [run_bindR _ _ w1 w1 this]
          rfl
        obtain ⟨rv, y1, y2⟩ := hresults
        rcases hex with rfl | rfl <;> cases e <;> simp only [Ex.is] at hi
        · exact ⟨hq.defers, rv, y1, rv, rfl, ρ1, y2, k1, k3⟩
        · exact ⟨hq.defers, rv, y1, rv, rfl, ρ1, y2, k1, k3⟩
      split at h3
      · rename_i fr' σ1 hx; exact hfin .nrm fr' σ1 (.inl rfl) hx h3
      · rename_i fr' σ1 hx; exact hfin .ret fr' σ1 (.inr rfl) hx h3
      · cases h3
end Go.Am
