/-
  A part of the proof that the run of an abstract machine, which the kernel can run, is what the program does under its model: no condition of its own.
-/
import Derived.Test.YtgjpafihilgpmaaGreatDoorAmDraw3
import Derived.Test.YtgjpafihilgpmaaGreatDoorAmDrawS
set_option linter.unusedVariables false
set_option linter.unusedSimpArgs false
set_option maxHeartbeats 1000000
namespace Go.Am
open Go
variable {E : Env} {C : CallF} {ops : Array Oper}
variable {B π : List Nat} {n : Nat} {fr0 frE : Fr} {ρ0 : Rho} {σ0 σE : St} {w0 : World} {log : List Ent}

theorem Inv.reads {done rest : List Ent} {frC : Fr} {σC : St} {listed : Array Bool} {ρ : Rho} {a : Act} {w : World} (inv : Inv E C ops B n fr0 ρ0 σ0 w0 log frE σE done rest frC σC listed ρ a w)
    (hh : HeadEff E.P ops.toList rest) {j : Ent} (h : staysAt E.P ops.toList B j σE rest = true) : readsAs E.P ops.toList j σC = true := by
  cases rest with
  | nil =>
    have := inv.run
    simp only [List.map_nil, runLog, Option.some.injEq, Prod.mk.injEq] at this
    rw [this.2.2]
    exact h
  | cons e r =>
    have hrun := inv.run
    simp only [List.map_cons] at hrun
    obtain ⟨o, b', rest', σ1, ho, he, _, hfr, hσ, hwant, hstep, hrest⟩ := runLog_cons hrun
    simp only [List.cons.injEq] at he
    obtain ⟨rfl, rfl⟩ := he
    simp only [staysAt, isEff_kind.2 hh, cond_true, Bool.and_eq_true] at h
    rw [← hσ]
    exact h.1

theorem draw_main (hC : CallsOK E.P (callT E C)) (hp : Plan E.P ops B π) (hm : log.map (·.i) = π)
    (hfrs : ∀ pre b post, log = pre ++ b :: post → b.fr = maskF (some (looksI ops.toList b.i)) (frAfter ops.toList fr0 pre)) (hfrE : frE = frAfter ops.toList fr0 log)
    (hd : ∀ o ∈ ops.toList, ∀ d, o.dst = some d → d < n) :
    ∀ (fuel : Nat) (listed : Array Bool) (ρ : Rho) (a : Act) (w : World) (done rest : List Ent) (frC : Fr) (σC : St), Inv E C ops B n fr0 ρ0 σ0 w0 log frE σE done rest frC σC listed ρ a w → HeadEff E.P ops.toList rest → cnt log listed ≤ fuel →
      wpAny E.P .any ops (Post E.P ρ0 σ0 w0 n .nrm frE σE) fuel listed a w := by
  intro fuel
  have fin : ∀ {listed : Array Bool} {ρ : Rho} {a : Act} {w : World} {done rest : List Ent} {frC : Fr} {σC : St}, Inv E C ops B n fr0 ρ0 σ0 w0 log frE σE done rest frC σC listed ρ a w → (∀ b ∈ log, Ls listed b.i) → Post E.P ρ0 σ0 w0 n .nrm frE σE .normal a w := by
    intro listed ρ a w done rest frC σC inv hall
    have hrest : rest = [] := by
      cases rest with
      | nil => rfl
      | cons b r => exact absurd (hall b (by rw [inv.split]; simp)) (inv.restun b List.mem_cons_self)
    subst hrest
    have := inv.run
    simp only [List.map_nil, runLog, Option.some.injEq, Prod.mk.injEq] at this
    obtain ⟨_, h1, h2⟩ := this
    subst h2
    refine ⟨trivial, inv.defers, inv.size, ρ, inv.rel, ⟨fun x v hx => ?_⟩, inv.sim⟩
    rw [hfrE] at hx
    exact inv.vars log [] (by simp) x (.inl rfl) (fun c hc _ => hall c hc) v hx
  induction fuel with
  | zero =>
    intro listed ρ a w done rest frC σC inv hh hcnt
    have hall := cnt_zero (log := log) (listed := listed) (by omega)
    refine ⟨?_, fin inv hall⟩
    cases hr : Region.ready .any ops listed with
    | nil => rfl
    | cons i l =>
      exfalso
      have hi : i ∈ Region.ready .any ops listed := by rw [hr]; simp
      obtain ⟨h1, o, ho, _⟩ := mem_ready.1 hi
      have hlt : i < ops.size := (Array.getElem?_eq_some_iff.1 ho).1
      have hin := hp.all i hlt
      rw [← hm] at hin
      obtain ⟨j, hj, rfl⟩ := List.mem_map.1 hin
      have := hall j hj
      unfold Ls at this
      have hs := inv.lsz
      rw [Array.getD_eq_getD_getElem?, Array.getElem?_eq_getElem (by omega)] at this h1
      simp at this h1
      rw [this] at h1; cases h1
  | succ fuel ih =>
    intro listed ρ a w done rest frC σC inv hh hcnt
    refine ⟨fun h0 => fin inv (ready_nil hp hm inv.lsz h0), fun i hi => ?_⟩
    obtain ⟨hun0, o, ho, _⟩ := mem_ready.1 hi
    have hlt : i < ops.size := (Array.getElem?_eq_some_iff.1 ho).1
    have hin := hp.all i hlt
    rw [← hm] at hin
    obtain ⟨j, hj, rfl⟩ := List.mem_map.1 hin
    have hlsz := inv.lsz
    have hjsz : j.i < listed.size := by omega
    have hun : ¬ Ls listed j.i := by
      intro h
      unfold Ls at h
      rw [Array.getD_eq_getD_getElem?, Array.getElem?_eq_getElem hjsz] at h hun0
      simp at h hun0
      rw [h] at hun0; cases hun0
    obtain ⟨pre0, post0, hlog⟩ := List.append_of_mem hj
    have hjfr := hfrs pre0 j post0 hlog
    have hfrel : FRel ρ j.fr a.tmps := Vars.sees hp hm inv.closed inv.vars hlog hi hjfr
    have hot : ops.toList[j.i]? = some o := by rw [Array.getElem?_toList]; exact ho
    have hdst : dstI ops.toList j.i = o.dst := by unfold dstI; rw [hot]; rfl
    have hmem : o ∈ ops.toList := List.mem_of_getElem? hot
    have hdd : ∀ d, dstI ops.toList j.i = some d → d < a.tmps.size := fun d h => by rw [inv.size]; rw [hdst] at h; exact hd o hmem d h
    have hkj : kindI E.P ops.toList j.i = kindOf E.P o.op := by unfold kindI; rw [hot]
    have hcl := closed_set hp inv.closed hi
    have hlt' := cnt_lt hj hun hjsz
    have hinj : ∀ c ∈ log, c.i = j.i → c = j := by
      intro c hc he
      rw [hlog] at hc
      simp only [List.mem_append, List.mem_cons] at hc
      rcases hc with hc | rfl | hc
      · obtain ⟨p1, p2, rfl⟩ := List.append_of_mem hc
        exact absurd he (log_ord hp hm (pre := p1) (b := c) (post := p2 ++ j :: post0) (by rw [hlog]; simp) j (by simp)).1
      · rfl
      · exact absurd he.symm (log_ord hp hm hlog c hc).1
    -- on with what is left
    have go : ∀ (done' rest' : List Ent) (frC' : Fr) (σC' : St) (ρ' : Rho) (v' : Value) (w' : World), Inv E C ops B n fr0 ρ0 σ0 w0 log frE σE done' rest' frC' σC' (listed.setIfInBounds j.i true) ρ' (a.put o.dst v') w' →
        wpAny E.P .any ops (Post E.P ρ0 σ0 w0 n .nrm frE σE) fuel (listed.setIfInBounds j.i true) (a.put o.dst v') w' := by
      intro done' rest' frC' σC' ρ' v' w' inv'
      obtain ⟨d2, r2, f2, s2, i2, h2⟩ := inv'.advance
      exact ih _ ρ' _ w' d2 r2 f2 s2 i2 h2 (by omega)
    have hvars : ∀ (ρ' : Rho) (v' : Value), ρ.le ρ' → VR ρ' j.v v' → Vars ops fr0 log (listed.setIfInBounds j.i true) ρ' (a.put o.dst v') := by
      intro ρ' v' hle hvr
      have := Vars.exec hp hm inv.closed inv.vars hlog hi hun hjsz hle hvr hdd
      rw [hdst] at this
      exact this
    unfold wpOp
    rw [ho]
    simp only
    have hcase : j ∈ done ∨ j ∈ rest := by
      have := hj
      rw [inv.split] at this
      simpa using this
    rcases hcase with hjd | hjr
    · -- an entry that writes nothing
      obtain ⟨hke, o', ho', hwant, hskip, hpure, hread, halc⟩ := inv.pend j hjd hun
      rw [hot] at ho'
      cases ho'
      have hw := wantedO_sim hfrel hwant
      -- the invariant behind it
      have nxt : ∀ (ρ' : Rho) (v' : Value) (w' : World), ρ.le ρ' → VR ρ' j.v v' → Rel E.P ρ' σC w'.heap → Sim ρ0 σ0 w0 ρ' σC w' → (∀ b ∈ done, ¬ Ls listed b.i → b.i ≠ j.i → isAlcI E.P ops.toList b → ρ b.σ.nx = none → ρ' b.σ.nx = none) →
          wpAny E.P .any ops (Post E.P ρ0 σ0 w0 n .nrm frE σE) fuel (listed.setIfInBounds j.i true) (a.put o.dst v') w' := by
        intro ρ' v' w' hle hvr hrel hsim hgh
        refine go done rest frC σC ρ' v' w' { split := inv.split, run := inv.run, ok := inv.ok, lsz := by simpa using inv.lsz, closed := hcl, restun := fun b hb hl => ?_, pend := fun b hb hl => ?_, dist := fun b hb c hc h1 h2 => inv.dist b hb c hc (fun h => h1 h.set) (fun h => h2 h.set), vars := hvars ρ' v' hle hvr, rel := hrel, sim := hsim, defers := by rw [put_defers']; exact inv.defers, size := by rw [put_size]; exact inv.size }
        · rcases hl.of_set with q | q
          · have hbl : b ∈ log := by rw [inv.split]; simp [hb]
            have := hinj b hbl q
            subst this
            -- j in both parts: it would be twice in the record
            obtain ⟨p1, p2, hdn⟩ := List.append_of_mem hjd
            exact absurd rfl (log_ord hp hm (pre := p1) (b := b) (post := p2 ++ rest) (by rw [inv.split, hdn]; simp) b (by simp [hb])).1
          · exact inv.restun b hb q
        · have hl' : ¬ Ls listed b.i := fun h => hl h.set
          have hbj : b.i ≠ j.i := fun e => hl (by rw [e]; exact Ls.set_self hjsz)
          obtain ⟨k0, ob, k1, k2, k3, k4, k5, k6⟩ := inv.pend b hb hl'
          refine ⟨k0, ob, k1, k2, k3, k4, k5, fun x y => ?_⟩
          obtain ⟨ob', mk, q1, q2, q3, q4, q5⟩ := k6 x y
          exact ⟨ob', mk, q1, q2, hgh b hb hl' hbj ⟨x, y⟩ q3, q4, q5⟩
      cases hop : j.op with
      | false =>
        rw [hop] at hw
        rw [if_neg (by rw [hw]; decide)]
        have hv := hskip hop
        exact nxt ρ undef w (Rho.le_refl ρ) (by rw [hv]; exact vr_undef) inv.rel inv.sim (fun _ _ _ _ _ h => h)
      | true =>
        rw [hop] at hw
        rw [if_pos hw]
        left
        cases hk : kindOf E.P o.op with
        | pure =>
          obtain ⟨v', g1, g2⟩ := opPure_sim inv.rel.g hfrel (hpure hop (by rw [hkj, hk])) w
          exact Reach.wp (.yields g1 (nxt ρ v' w (Rho.le_refl ρ) g2 inv.rel inv.sim (fun _ _ _ _ _ h => h)))
        | read =>
          have hor : opRead E.P o.op j.fr σC = some j.v := by
            rcases hread hop (by rw [hkj, hk]) with hst | ⟨hst, _⟩
            · have hra := inv.reads hh hst
              unfold readsAs at hra
              rw [hot] at hra
              simp only [Option.bind_some] at hra
              cases hor : opRead E.P o.op j.fr σC with
              | none => rw [hor] at hra; cases hra
              | some u =>
                rw [hor] at hra
                rw [sameV_sound 40 u j.v hra]
            · exact hst
          obtain ⟨v', g1, g2⟩ := opRead_sim inv.rel hfrel hor
          exact Reach.wp (.yields g1 (nxt ρ v' w (Rho.le_refl ρ) g2 inv.rel inv.sim (fun _ _ _ _ _ h => h)))
        | alc =>
          obtain ⟨ob, mk, q1, q2, q3, q4, q5⟩ := halc hop (by rw [hkj, hk])
          obtain ⟨v', w', ob', p, hmk⟩ := opAlc_sim inv.rel.g hfrel q1 w
          have hle := Rho.le_upd p q3
          refine Reach.wp (.yields hmk.yields (nxt (ρ.upd j.σ.nx p) v' w' hle (by rw [q2]; exact hmk.vr _ _ hle (Rho.upd_self _ _ _)) ?_ (Sim.adopt inv.sim q5 q3 ob' p hmk.b w' hmk.heap hmk.out) (fun b hb hl hne ha h => ?_)))
          · rw [hmk.heap]
            exact inv.rel.adopt q4 q3 ob' p hmk.b (hmk.at_ _ hle)
          · rw [Rho.upd_ne _ _ (inv.dist b hb j hjd hl hun ha ⟨hop, by rw [hkj, hk]⟩ hne)]
            exact h
        | eff => exact absurd (by rw [hkj, hk]) hke
    · -- the next one that writes
      cases rest with
      | nil => cases hjr
      | cons e r =>
        have heff : isEff E.P ops.toList e.i = true := isEff_kind.2 hh
        have hje : j = e := by
          cases hjr with
          | head => rfl
          | tail _ hjr =>
            have hord := log_ord hp hm (pre := done) (b := e) (post := r) inv.split j hjr
            exact absurd (ready_bef hp inv.closed hi (hord.2.2 heff)) (inv.restun e List.mem_cons_self)
        subst hje
        have hrun := inv.run
        simp only [List.map_cons] at hrun
        obtain ⟨o', b', rest', σ1, ho', he, _, hfr, hσ, hwant, hstep, hrest⟩ := runLog_cons hrun
        simp only [List.cons.injEq] at he
        obtain ⟨rfl, rfl⟩ := he
        rw [hot] at ho'
        cases ho'
        have hw := wantedO_sim hfrel hwant
        have hok := inv.ok
        simp only [logOK, stillOK, List.map_cons, Bool.and_eq_true] at hok
        have hok2 : logOK E.P ops.toList B σE r = true ∨ stillOK E.P ops.toList B (r.map (·.i)) = true := hok.elim (fun h => .inl h.2) (fun h => .inr h.2)
        have nxt : ∀ (ρ' : Rho) (v' : Value) (w' : World), ρ.le ρ' → VR ρ' j.v v' → Rel E.P ρ' σ1 w'.heap → Sim ρ0 σ0 w0 ρ' σ1 w' → (∀ A, A < σC.nx → ρ A = none → ρ' A = none ∧ σ1.h.get A = σC.h.get A) →
            wpAny E.P .any ops (Post E.P ρ0 σ0 w0 n .nrm frE σE) fuel (listed.setIfInBounds j.i true) (a.put o.dst v') w' := by
          intro ρ' v' w' hle hvr hrel hsim hgh
          have hmem2 : ∀ c, c ∈ done ++ [j] → ¬ Ls (listed.setIfInBounds j.i true) c.i → c ∈ done ∧ ¬ Ls listed c.i := fun c hc hl => by
            have : c ∈ done ∨ c = j := by simpa using hc
            rcases this with q | rfl
            · exact ⟨q, fun h => hl h.set⟩
            · exact absurd (Ls.set_self hjsz) hl
          refine go (done ++ [j]) r (putD frC o.dst j.v) σ1 ρ' v' w' { split := by rw [inv.split]; simp, run := hrest, ok := hok2, lsz := by simpa using inv.lsz, closed := hcl, restun := fun b hb hl => ?_, pend := fun b hb hl => ?_, dist := fun b hb c hc h1 h2 => inv.dist b (hmem2 b hb h1).1 c (hmem2 c hc h2).1 (hmem2 b hb h1).2 (hmem2 c hc h2).2, vars := hvars ρ' v' hle hvr, rel := hrel, sim := hsim, defers := by rw [put_defers']; exact inv.defers, size := by rw [put_size]; exact inv.size }
          · rcases hl.of_set with q | q
            · exact (log_ord hp hm (pre := done) (b := j) (post := r) inv.split b hb).1 q.symm
            · exact inv.restun b (List.mem_cons_of_mem _ hb) q
          · obtain ⟨hbd, hbl⟩ := hmem2 b hb hl
            obtain ⟨k0, ob, k1, k2, k3, k4, k5, k6⟩ := inv.pend b hbd hbl
            refine ⟨k0, ob, k1, k2, k3, k4, fun x y => ?_, fun x y => ?_⟩
            · rcases k5 x y with this | ⟨_, this⟩
              · simp only [staysAt, heff, cond_true, Bool.and_eq_true, Bool.or_eq_true] at this
                rcases this.2 with q | q
                · exact absurd (ready_bef hp inv.closed hi q) hbl
                · exact .inl q
              · exact absurd (ready_bef hp inv.closed hi (this j List.mem_cons_self heff)) hbl
            · obtain ⟨ob', mk, q1, q2, q3, q4, q5⟩ := k6 x y
              obtain ⟨g1, g2⟩ := hgh _ (inv.rel.dom' q4) q3
              exact ⟨ob', mk, q1, q2, g1, by rw [g2]; exact q4, q5⟩
        rcases hstep with ⟨hop, hs⟩ | ⟨hop, hv, rfl⟩
        · rw [hop] at hw
          rw [if_pos hw]
          left
          refine Reach.wp ((stepO_sim hC inv.rel hfrel hs).mono fun v' w' ⟨ρ', k1, k2, k3⟩ => ?_)
          exact nxt ρ' v' w' k3.le k1 k2 (inv.sim.trans k3) (fun A hA hn => k3.ghost A hA hn)
        · rw [hop] at hw
          rw [if_neg (by rw [hw]; decide)]
          exact nxt ρ undef w (Rho.le_refl ρ) (by rw [hv]; exact vr_undef) inv.rel inv.sim (fun A _ hn => ⟨hn, rfl⟩)

/-- a region whose order is open, run in one order -/
theorem draw_sim (hC : CallsOK E.P (callT E C)) (hd : ∀ o ∈ ops.toList, ∀ d, o.dst = some d → d < n) {fr fr' : Fr} {σ' : St} {a : Act} {w : World} {log : List Ent}
    (hplan : Plan E.P ops (befB ops) π) (h2 : runLog E C ops.toList π fr σ0 = some (log, fr', σ')) (hlo : logOK E.P ops.toList (befB ops) σ' log = true ∨ stillOK E.P ops.toList (befB ops) π = true)
    (hr : Rel E.P ρ0 σ0 w0.heap) (hf : FRel ρ0 fr a.tmps) (hda : a.defers = []) (hsz : a.tmps.size = n) (hw : w = w0.drew) :
    wpAny E.P .any ops (Post E.P ρ0 σ0 w0 n .nrm fr' σ') ops.size (Array.replicate ops.size false) a w := by
  subst hw
  have hmap := runLog_map h2
  obtain ⟨hfrs, hfrE⟩ := runLog_frames h2
  have hnot : ∀ i, ¬ Ls (Array.replicate ops.size false) i := fun i h => by
    unfold Ls at h
    rw [Array.getD_eq_getD_getElem?, Array.getElem?_replicate] at h
    split at h <;> simp at h
  have inv : Inv E C ops (befB ops) n fr ρ0 σ0 w0 log fr' σ' [] log fr σ0 (Array.replicate ops.size false) ρ0 a w0.drew :=
    { split := rfl, run := by rw [hmap]; exact h2, ok := by rw [hmap]; exact hlo, lsz := by simp, closed := fun i j hi => absurd hi (hnot i), restun := fun b _ => hnot _
      pend := fun b hb => by cases hb
      dist := fun b hb => by cases hb
      vars := fun pre post hpp x _ hw v hv => by
        rw [frAfter_get _ _ _ (fun c hc hcd => hnot _ (hw c hc hcd))] at hv
        exact hf.get x v hv
      rel := hr, sim := Sim.drew _ _ _, defers := hda, size := hsz }
  obtain ⟨d2, r2, f2, s2, i2, hh2⟩ := inv.advance
  refine draw_main hC hplan hmap hfrs hfrE hd ops.size _ ρ0 a _ d2 r2 f2 s2 i2 hh2 ?_
  -- as many entries as operations
  have hlen : log.length ≤ ops.size := by
    have := hplan.len
    rw [← hmap] at this
    simpa using this
  exact Nat.le_trans (List.length_filter_le _ _) hlen

theorem planOf_plan {P : Program} (h1 : planOf P ops = some π) : Plan P ops (befB ops) π := by
  unfold planOf at h1
  cases hq : planOK P ops (befB ops) (planGo P ops.toList (befB ops) ops.toList.length (List.range ops.toList.length)) with
  | false =>
    have h1' : (bif planOK P ops (befB ops) (planGo P ops.toList (befB ops) ops.toList.length (List.range ops.toList.length)) then some (planGo P ops.toList (befB ops) ops.toList.length (List.range ops.toList.length)) else none) = some π := h1
    rw [hq] at h1'
    cases h1'
  | true =>
    have h1' : (bif planOK P ops (befB ops) (planGo P ops.toList (befB ops) ops.toList.length (List.range ops.toList.length)) then some (planGo P ops.toList (befB ops) ops.toList.length (List.range ops.toList.length)) else none) = some π := h1
    rw [hq] at h1'
    cases h1'
    exact planOK_plan hq

/-- a region whose order is open -/
theorem runDraw_sim (hC : CallsOK E.P (callT E C)) (hd : ∀ o ∈ ops.toList, ∀ d, o.dst = some d → d < n) {fr fr' : Fr} {σ' : St} {a : Act} {w : World}
    (h : runDraw E C ops fr σ0 = some (fr', σ')) (hr : Rel E.P ρ0 σ0 w0.heap) (hf : FRel ρ0 fr a.tmps) (hda : a.defers = []) (hsz : a.tmps.size = n) (hw : w = w0.drew) :
    wpAny E.P .any ops (Post E.P ρ0 σ0 w0 n .nrm fr' σ') ops.size (Array.replicate ops.size false) a w := by
  unfold runDraw at h
  simp only [Option.bind_eq_some_iff] at h
  obtain ⟨π, h1, ⟨log, frE, σE⟩, h2, h3⟩ := h
  cases hlo : logOK E.P ops.toList (befB ops) σE log with
  | false => simp [hlo] at h3
  | true =>
    simp only [hlo, cond_true, Option.some.injEq, Prod.mk.injEq] at h3
    obtain ⟨rfl, rfl⟩ := h3
    exact draw_sim hC hd (planOf_plan h1) h2 (.inl hlo) hr hf hda hsz hw

/-- a region whose order is open, run as if it were not -/
theorem runStill_sim (hC : CallsOK E.P (callT E C)) (hd : ∀ o ∈ ops.toList, ∀ d, o.dst = some d → d < n) {fr fr' : Fr} {σ' : St} {a : Act} {w : World} {l : List Oper}
    (hl : planS E.P ops = some l) (h : runOps E C ops.toList l fr σ0 = some (fr', σ')) (hr : Rel E.P ρ0 σ0 w0.heap) (hf : FRel ρ0 fr a.tmps) (hda : a.defers = []) (hsz : a.tmps.size = n) (hw : w = w0.drew) :
    wpAny E.P .any ops (Post E.P ρ0 σ0 w0 n .nrm fr' σ') ops.size (Array.replicate ops.size false) a w := by
  unfold planS at hl
  simp only [Option.bind_eq_some_iff] at hl
  obtain ⟨π, h1, h2⟩ := hl
  cases hs : stillOK E.P ops.toList (befB ops) π with
  | false => rw [hs] at h2; cases h2
  | true =>
    rw [hs] at h2
    cases h2
    have hplan := planOf_plan h1
    obtain ⟨log, h3⟩ := runLog_of_runOps π fr σ0 fr' σ' (fun i hi => by have := hplan.lt i hi; simpa using this) h
    exact draw_sim hC hd hplan h3 (.inr hs) hr hf hda hsz hw
end Go.Am
