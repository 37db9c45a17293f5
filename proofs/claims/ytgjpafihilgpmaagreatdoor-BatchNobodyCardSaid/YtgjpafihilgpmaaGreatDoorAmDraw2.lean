/-
  A part of the proof that the run of an abstract machine, which the kernel can run, is what the program does under its model: no condition of its own.
-/
import Derived.Test.YtgjpafihilgpmaaGreatDoorAmExt
set_option linter.unusedVariables false
set_option linter.unusedSimpArgs false
set_option maxHeartbeats 1000000
namespace Go.Am
open Go
variable {E : Env} {C : CallF} {ops : Array Oper} {ρ : Rho} {σ : St} {w : World} {a : Act} {fr : Fr}

/-! ## the record of a run -/
def dstI (all : List Oper) (i : Nat) : Option Nat := (all[i]?).bind (·.dst)
def looksI (all : List Oper) (i : Nat) : List Nat := match all[i]? with | some o => looksO all o | none => []
noncomputable def frAfter (all : List Oper) : Fr → List Ent → Fr
  | fr, [] => fr
  | fr, b :: l => frAfter all (putD fr (dstI all b.i) b.v) l
theorem frAfter_append (all : List Oper) : ∀ (l m : List Ent) (fr : Fr), frAfter all fr (l ++ m) = frAfter all (frAfter all fr l) m
  | [], m, fr => rfl
  | b :: l, m, fr => by simp only [List.cons_append, frAfter]; exact frAfter_append all l m _
theorem frAfter_get (all : List Oper) {x : Nat} : ∀ (l : List Ent) (fr : Fr), (∀ b ∈ l, dstI all b.i ≠ some x) → (frAfter all fr l).get x = fr.get x
  | [], fr, _ => rfl
  | b :: l, fr, h => by
    simp only [frAfter]
    rw [frAfter_get all l _ (fun c hc => h c (List.mem_cons_of_mem _ hc))]
    have := h b List.mem_cons_self
    cases hd : dstI all b.i with
    | none => rfl
    | some d =>
      rw [hd] at this
      simp only [putD]
      rw [T.get_set, if_neg (by intro e; subst e; exact this rfl)]

/-- one entry of the record -/
theorem runLog_cons {all : List Oper} {i : Nat} {l : List Nat} {fr : Fr} {σ : St} {log : List Ent} {frE : Fr} {σE : St} (h : runLog E C all (i :: l) fr σ = some (log, frE, σE)) :
    ∃ o b rest σ1, all[i]? = some o ∧ log = b :: rest ∧ b.i = i ∧ b.fr = maskF (some (looksO all o)) fr ∧ b.σ = σ ∧ wantedO all o b.fr = some b.op ∧
      ((b.op = true ∧ stepO E C o.op b.fr σ = some (b.v, σ1)) ∨ (b.op = false ∧ b.v = undefV ∧ σ1 = σ)) ∧ runLog E C all l (putD fr o.dst b.v) σ1 = some (rest, frE, σE) := by
  simp only [runLog, Option.bind_eq_some_iff] at h
  obtain ⟨o, ho, b, hb, h⟩ := h
  cases b with
  | true =>
    simp only [cond_true, Option.bind_eq_some_iff, Option.map_eq_some_iff] at h
    obtain ⟨⟨v, σ1⟩, h1, ⟨log1, fr1, σ2⟩, h2, h3⟩ := h
    cases h3
    exact ⟨o, _, log1, σ1, ho, rfl, rfl, rfl, rfl, hb, .inl ⟨rfl, h1⟩, h2⟩
  | false =>
    simp only [cond_false, Option.map_eq_some_iff] at h
    obtain ⟨⟨log1, fr1, σ2⟩, h2, h3⟩ := h
    cases h3
    exact ⟨o, _, log1, σ, ho, rfl, rfl, rfl, rfl, hb, .inr ⟨rfl, rfl, rfl⟩, h2⟩
theorem runLog_map {all : List Oper} : ∀ {l : List Nat} {fr : Fr} {σ : St} {log : List Ent} {frE : Fr} {σE : St}, runLog E C all l fr σ = some (log, frE, σE) → log.map (·.i) = l
  | [], fr, σ, log, frE, σE, h => by simp only [runLog, Option.some.injEq, Prod.mk.injEq] at h; rw [← h.1]; rfl
  | i :: l, fr, σ, log, frE, σE, h => by
    obtain ⟨o, b, rest, σ1, _, rfl, rfl, _, _, _, _, h2⟩ := runLog_cons h
    simp only [List.map_cons, runLog_map h2]
/-- the frame at an entry, and at the end -/
theorem runLog_frames {all : List Oper} : ∀ {l : List Nat} {fr : Fr} {σ : St} {log : List Ent} {frE : Fr} {σE : St}, runLog E C all l fr σ = some (log, frE, σE) →
    (∀ pre b post, log = pre ++ b :: post → b.fr = maskF (some (looksI all b.i)) (frAfter all fr pre)) ∧ frE = frAfter all fr log
  | [], fr, σ, log, frE, σE, h => by
    simp only [runLog, Option.some.injEq, Prod.mk.injEq] at h
    obtain ⟨rfl, rfl, _⟩ := h
    exact ⟨fun pre b post he => by simp at he, rfl⟩
  | i :: l, fr, σ, log, frE, σE, h => by
    obtain ⟨o, b, rest, σ1, h1, rfl, rfl, h3, _, _, _, h2⟩ := runLog_cons h
    obtain ⟨k1, k2⟩ := runLog_frames h2
    have hd : dstI all b.i = o.dst := by unfold dstI; rw [h1]; rfl
    refine ⟨fun pre c post he => ?_, by simp only [frAfter]; rw [hd]; exact k2⟩
    cases pre with
    | nil =>
      simp only [List.nil_append, List.cons.injEq] at he
      obtain ⟨rfl, rfl⟩ := he
      rw [h3]; unfold looksI; rw [h1]; rfl
    | cons d pre =>
      simp only [List.cons_append, List.cons.injEq] at he
      obtain ⟨rfl, he⟩ := he
      rw [k1 pre c post he]
      simp only [frAfter, hd]

def kindI (P : Program) (all : List Oper) (i : Nat) : Kind := match all[i]? with | some o => kindOf P o.op | none => .eff
def isAlcI (P : Program) (all : List Oper) (b : Ent) : Prop := b.op = true ∧ kindI P all b.i = .alc

/-- what is still to come of an entry that writes nothing -/
structure Pend (P : Program) (all : List Oper) (B : List Nat) (σ0 : St) (σE : St) (rest : List Ent) (ρ : Rho) (σC : St) (b : Ent) : Prop where
  kind : kindI P all b.i ≠ .eff
  ex : ∃ o, all[b.i]? = some o ∧ wantedO all o b.fr = some b.op ∧ (b.op = false → b.v = undefV) ∧
    (b.op = true → kindI P all b.i = .pure → opPure P o.op b.fr = some b.v) ∧
    (b.op = true → kindI P all b.i = .read → staysAt P all B b σE rest = true ∨ (opRead P o.op b.fr σC = some b.v ∧ ∀ c ∈ rest, isEff P all c.i = true → befQ B c.i b.i = true)) ∧
    (b.op = true → kindI P all b.i = .alc → ∃ ob mk, opAlc P o.op b.fr = some (ob, mk) ∧ b.v = mk b.σ.nx ∧ ρ b.σ.nx = none ∧ σC.h.get b.σ.nx = some ob ∧ σ0.nx ≤ b.σ.nx)

structure Inv (E : Env) (C : CallF) (ops : Array Oper) (B : List Nat) (n : Nat) (fr0 : Fr) (ρ0 : Rho) (σ0 : St) (w0 : World) (log : List Ent) (frE : Fr) (σE : St)
    (done rest : List Ent) (frC : Fr) (σC : St) (listed : Array Bool) (ρ : Rho) (a : Act) (w : World) : Prop where
  split : log = done ++ rest
  run : runLog E C ops.toList (rest.map (·.i)) frC σC = some (rest, frE, σE)
  ok : logOK E.P ops.toList B σE rest = true ∨ stillOK E.P ops.toList B (rest.map (·.i)) = true
  lsz : listed.size = ops.size
  closed : Closed B listed
  restun : ∀ b ∈ rest, ¬ Ls listed b.i
  pend : ∀ b ∈ done, ¬ Ls listed b.i → Pend E.P ops.toList B σ0 σE rest ρ σC b
  dist : ∀ b ∈ done, ∀ c ∈ done, ¬ Ls listed b.i → ¬ Ls listed c.i → isAlcI E.P ops.toList b → isAlcI E.P ops.toList c → b.i ≠ c.i → b.σ.nx ≠ c.σ.nx
  vars : ∀ pre post, log = pre ++ post → ∀ x, (post = [] ∨ ∃ b post', post = b :: post' ∧ ¬ Ls listed b.i ∧ x ∈ looksI ops.toList b.i) → (∀ c ∈ pre, dstI ops.toList c.i = some x → Ls listed c.i) →
    ∀ v, (frAfter ops.toList fr0 pre).get x = some v → ∃ v', a.tmps[x]? = some v' ∧ VR ρ v v'
  rel : Rel E.P ρ σC w.heap
  sim : Sim ρ0 σ0 w0 ρ σC w
  defers : a.defers = []
  size : a.tmps.size = n

theorem isEff_kind {P : Program} {all : List Oper} {i : Nat} : isEff P all i = true ↔ kindI P all i = .eff := by
  unfold isEff kindI
  cases all[i]? with
  | none => simp
  | some o => simp only; cases kindOf P o.op <;> simp
theorem isRead_kind {P : Program} {all : List Oper} {i : Nat} : isRead P all i = true ↔ kindI P all i = .read := by
  unfold isRead kindI
  cases all[i]? with
  | none => simp
  | some o => simp only; cases kindOf P o.op <;> simp

def HeadEff (P : Program) (all : List Oper) : List Ent → Prop
  | [] => True
  | e :: _ => kindI P all e.i = .eff

section
variable {B : List Nat} {n : Nat} {fr0 frE : Fr} {ρ0 : Rho} {σ0 σE : St} {w0 : World} {log : List Ent}

/-- entries that write nothing are passed -/
theorem Inv.advance {listed : Array Bool} {ρ : Rho} {a : Act} {w : World} : ∀ {rest done : List Ent} {frC : Fr} {σC : St}, Inv E C ops B n fr0 ρ0 σ0 w0 log frE σE done rest frC σC listed ρ a w →
    ∃ done' rest' frC' σC', Inv E C ops B n fr0 ρ0 σ0 w0 log frE σE done' rest' frC' σC' listed ρ a w ∧ HeadEff E.P ops.toList rest'
  | [], done, frC, σC, inv => ⟨done, [], frC, σC, inv, trivial⟩
  | b :: r, done, frC, σC, inv => by
    by_cases hk : kindI E.P ops.toList b.i = .eff
    · exact ⟨done, b :: r, frC, σC, inv, hk⟩
    · have hrun := inv.run
      simp only [List.map_cons] at hrun
      obtain ⟨o, b', rest', σ1, ho, he, _, hfr, hσ, hwant, hstep, hrest⟩ := runLog_cons hrun
      simp only [List.cons.injEq] at he
      obtain ⟨rfl, rfl⟩ := he
      have hko : kindI E.P ops.toList b.i = kindOf E.P o.op := by unfold kindI; rw [ho]
      have hne : isEff E.P ops.toList b.i = false := by
        cases hq : isEff E.P ops.toList b.i with
        | false => rfl
        | true => exact absurd (isEff_kind.1 hq) hk
      have hstay : ∀ c, staysAt E.P ops.toList B c σE (b :: r) = staysAt E.P ops.toList B c σE r := fun c => by simp only [staysAt, hne, cond_false]
      have hok := inv.ok
      simp only [logOK, stillOK, List.map_cons, Bool.and_eq_true] at hok
      have hread : b.op = true → kindI E.P ops.toList b.i = .read → opRead E.P o.op b.fr σC = some b.v ∧ σ1 = σC := by
        intro hop hkr
        rcases hstep with ⟨_, hs⟩ | ⟨hop', _⟩
        · unfold stepO at hs
          rw [hko] at hkr
          rw [hkr] at hs
          simp only [Option.map_eq_some_iff, Prod.mk.injEq] at hs
          obtain ⟨u, h1, rfl, h2⟩ := hs
          exact ⟨h1, h2.symm⟩
        · rw [hop] at hop'; cases hop'
      -- the memory behind the entry
      have hσ1 : (σ1 = σC ∧ ¬ isAlcI E.P ops.toList b) ∨ (isAlcI E.P ops.toList b ∧ ∃ ob mk, opAlc E.P o.op b.fr = some (ob, mk) ∧ b.v = mk σC.nx ∧ σ1 = (σC.new ob).2) := by
        rcases hstep with ⟨hop, hs⟩ | ⟨hop, _, rfl⟩
        · unfold stepO at hs
          rw [hko] at hk
          cases hkk : kindOf E.P o.op with
          | pure =>
            rw [hkk] at hs
            simp only [Option.map_eq_some_iff, Prod.mk.injEq] at hs
            obtain ⟨u, _, _, rfl⟩ := hs
            exact .inl ⟨rfl, fun h => by have := h.2; rw [hko, hkk] at this; cases this⟩
          | read =>
            rw [hkk] at hs
            simp only [Option.map_eq_some_iff, Prod.mk.injEq] at hs
            obtain ⟨u, _, _, rfl⟩ := hs
            exact .inl ⟨rfl, fun h => by have := h.2; rw [hko, hkk] at this; cases this⟩
          | alc =>
            rw [hkk] at hs
            simp only [Option.map_eq_some_iff, Prod.mk.injEq] at hs
            obtain ⟨⟨ob, mk⟩, h1, h2, rfl⟩ := hs
            exact .inr ⟨⟨hop, by rw [hko, hkk]⟩, ob, mk, h1, h2.symm, rfl⟩
          | eff => exact absurd hkk hk
        · exact .inl ⟨rfl, fun h => by have := h.1; rw [hop] at this; cases this⟩
      have hpure : b.op = true → kindI E.P ops.toList b.i = .pure → opPure E.P o.op b.fr = some b.v := by
        intro hop hkp
        rcases hstep with ⟨_, hs⟩ | ⟨hop', _⟩
        · unfold stepO at hs
          rw [hko] at hkp
          rw [hkp] at hs
          simp only [Option.map_eq_some_iff, Prod.mk.injEq] at hs
          obtain ⟨u, h1, rfl, _⟩ := hs
          exact h1
        · rw [hop] at hop'; cases hop'
      -- the invariant behind the entry
      have main : Rel E.P ρ σ1 w.heap ∧ Sim ρ0 σ0 w0 ρ σ1 w ∧ (∀ A o1, A < σC.nx → σC.h.get A = some o1 → σ1.h.get A = some o1) ∧
          (isAlcI E.P ops.toList b → ∃ ob mk, opAlc E.P o.op b.fr = some (ob, mk) ∧ b.v = mk b.σ.nx ∧ ρ b.σ.nx = none ∧ σ1.h.get b.σ.nx = some ob ∧ σ0.nx ≤ b.σ.nx) := by
        rcases hσ1 with ⟨rfl, hna⟩ | ⟨ha, ob, mk, h1, h2, rfl⟩
        · exact ⟨inv.rel, inv.sim, fun _ _ _ h => h, fun h => absurd h hna⟩
        · refine ⟨inv.rel.ghost ob, inv.sim.ghost' inv.rel ob, fun A o1 hA h => ?_, fun _ => ⟨ob, mk, h1, ?_, ?_, ?_, ?_⟩⟩
          · rw [St.get_new, if_neg (by omega)]; exact h
          · rw [hσ]; exact h2
          · rw [hσ]; exact (inv.rel.fresh _ (Nat.le_refl _)).2
          · rw [hσ, St.get_new, if_pos rfl]
          · rw [hσ]; exact inv.sim.nx
      obtain ⟨m1, m2, m3, m4⟩ := main
      have hmem : ∀ c, c ∈ done ++ [b] → c ∈ done ∨ c = b := fun c hc => by simpa using hc
      have hlt : ∀ c ∈ done, ¬ Ls listed c.i → isAlcI E.P ops.toList c → c.σ.nx < σC.nx := fun c hc hl ha => by
        obtain ⟨_, oc, _, _, _, _, _, k6⟩ := inv.pend c hc hl
        obtain ⟨ob, mk, _, _, _, k7, _⟩ := k6 ha.1 ha.2
        exact inv.rel.dom' k7
      exact Inv.advance (rest := r) (done := done ++ [b]) (frC := putD frC o.dst b.v) (σC := σ1)
        { split := by rw [inv.split]; simp
          run := hrest
          ok := hok.elim (fun h => .inl h.2) (fun h => .inr h.2)
          lsz := inv.lsz
          closed := inv.closed
          restun := fun c hc => inv.restun c (List.mem_cons_of_mem _ hc)
          pend := fun c hc hl => by
            rcases hmem c hc with hc | rfl
            · obtain ⟨k0, oc, k1, k2, k3, k4, k5, k6⟩ := inv.pend c hc hl
              refine ⟨k0, oc, k1, k2, k3, k4, fun x y => ?_, fun x y => ?_⟩
              · rcases k5 x y with h | ⟨h1, h2⟩
                · exact .inl (by rw [← hstay]; exact h)
                · exact .inr ⟨Ext.opRead (fun A o1 hA => m3 A o1 (inv.rel.dom' hA) hA) h1, fun c' hc' => h2 c' (List.mem_cons_of_mem _ hc')⟩
              · skip
                obtain ⟨ob, mk, q1, q2, q3, q4, q5⟩ := k6 x y
                exact ⟨ob, mk, q1, q2, q3, m3 _ _ (inv.rel.dom' q4) q4, q5⟩
            · refine ⟨hk, o, ho, hwant, fun hop => ?_, hpure, fun hop hkr => ?_, fun hop hka => m4 ⟨hop, hka⟩⟩
              · rcases hstep with ⟨h1, _⟩ | ⟨_, h1, _⟩
                · rw [hop] at h1; cases h1
                · exact h1
              · rcases hok with h | h
                · have := h.1
                  rw [hop, isRead_kind.2 hkr] at this
                  exact .inl (by simpa using this)
                · obtain ⟨r1, r2⟩ := hread hop hkr
                  refine .inr ⟨by rw [r2]; exact r1, fun c' hc' he => ?_⟩
                  have := h.1
                  rw [isRead_kind.2 hkr] at this
                  simp only [Bool.not_true, Bool.false_or, List.all_eq_true] at this
                  have := this c'.i (List.mem_map.2 ⟨c', hc', rfl⟩)
                  rw [he] at this
                  simpa using this
          dist := fun c1 hc1 c2 hc2 hl1 hl2 ha1 ha2 hne' => by
            rcases hmem c1 hc1 with hd1 | rfl <;> rcases hmem c2 hc2 with hd2 | rfl
            · exact inv.dist c1 hd1 c2 hd2 hl1 hl2 ha1 ha2 hne'
            · have := hlt c1 hd1 hl1 ha1; rw [hσ]; omega
            · have := hlt c2 hd2 hl2 ha2; rw [hσ]; omega
            · exact absurd rfl hne'
          vars := inv.vars
          rel := m1
          sim := m2
          defers := inv.defers
          size := inv.size }
end
end Go.Am
