/-
  A part of the proof that the run of an abstract machine, which the kernel can run, is what the program does under its model: no condition of its own.
-/
import Derived.Test.YtgjpafihilgpmaaGreatDoorAmPrim
import Derived.Below
set_option linter.unusedVariables false
set_option linter.unusedSimpArgs false
set_option maxHeartbeats 1000000
namespace Go.Am
open Go Go.RowKit
variable {P : Program} {ρ : Rho} {σ : St} {w : World}

/-- a law's answer -/
def resB : Option (Value × St) → Bool
  | some (.bool b, _) => b
  | _ => false

/-- a law whose run in the machine answers true, from memory that it may not write -/
theorem run_law {E : Env} (hm : E.P.follows .mixedOrders = true) (hp : PrimsOK E) (k : Nat) {f : FuncId} {args : List Value} {args' : List Value} {σ0 : St} {ρ0 : Rho} {w : World} (hrel : Rel E.P ρ0 σ0 w.heap) (hwr : ∀ B, ¬ Wr ρ0 σ0 B)
    (hargs : VL ρ0 args args') (h : resB (callT E (callN E k) f args σ0) = true) (henter : (callFunc f args'.toArray).run E.P w = .ok (.enter f args'.toArray) w) :
    Calls E.P f args'.toArray w fun e w' => e = .returned (.bool true) ∧ Below w.heap.size w w' := by
  cases hc : callT E (callN E k) f args σ0 with
  | none => rw [hc] at h; cases h
  | some p =>
    obtain ⟨v, σ'⟩ := p
    rw [hc] at h
    have hv : v = .bool true := by
      unfold resB at h
      split at h
      · rename_i b s heq
        cases heq
        rw [h]
      · cases h
    subst hv
    have := callN_ok hm hp k f args σ0 (.bool true) σ' hc ρ0 w args' hrel hargs
    unfold Reach at this
    rw [henter] at this
    refine Calls.mono this fun e w' ⟨v', e1, ρ', k1, k2, k3⟩ => ?_
    cases k1
    exact ⟨e1, k3.out.1, k3.out.2.2, k3.out.2.1, k3.size, fun B hB => k3.frame B hB (hwr B)⟩

/-! ## memory at the start: tables of numbers -/
structure Tab where
  g : Nat
  t : TypeId
  cs : List Value
noncomputable def tabSt : List Tab → T AObj
  | [] => .lf
  | x :: l => (tabSt l).set x.g (.row { cs := x.cs, elem := x.t, ro := true })
noncomputable def st0 (l : List Tab) : St := { h := tabSt l, nx := 64 }
noncomputable def tabLen (l : List Tab) (A : Nat) : Nat := match (tabSt l).get A with | some (.row r) => r.cs.length | _ => 0
noncomputable def rho0 (l : List Tab) : Rho := fun A => if A < 64 then some ⟨A, 0, tabLen l A, 0, 0⟩ else none

theorem tabSt_get : ∀ {l : List Tab} {A : Nat} {o : AObj}, (tabSt l).get A = some o → ∃ x ∈ l, x.g = A ∧ o = .row { cs := x.cs, elem := x.t, ro := true }
  | [], A, o, h => by cases h
  | x :: l, A, o, h => by
    simp only [tabSt] at h
    rw [T.get_set] at h
    split at h
    · rename_i e; cases h; exact ⟨x, List.mem_cons_self, e.symm, rfl⟩
    · obtain ⟨y, h1, h2, h3⟩ := tabSt_get h
      exact ⟨y, List.mem_cons_of_mem _ h1, h2, h3⟩

theorem start_rel {l : List Tab} (hg : ∀ x ∈ l, x.g < 64) (hc : ∀ x ∈ l, x.cs.all constOK = true) (h : ∀ x ∈ l, ∃ fr, w.heap[x.g]? = some (.cells x.cs.toArray x.t fr)) : Rel P (rho0 l) (st0 l) w.heap := by
  refine .mk' (fun A hA => ⟨?_, ?_⟩) (Nat.le_refl _) (fun g hg => ?_) (fun A o p ho hp => ?_) (fun A A' o o' p p' hne ho ho' hp hp' => ?_)
  · cases hq : (st0 l).h.get A with
    | none => rfl
    | some o =>
      obtain ⟨x, h1, h2, _⟩ := tabSt_get hq
      have := hg x h1
      have : 64 ≤ A := hA
      omega
  · have : 64 ≤ A := hA
    unfold rho0; rw [if_neg (by omega)]
  · exact ⟨_, if_pos hg, rfl, rfl⟩
  · obtain ⟨x, h1, h2, rfl⟩ := tabSt_get ho
    have hlt := hg x h1
    unfold rho0 at hp
    rw [if_pos (by omega)] at hp
    cases hp
    subst h2
    have hlen : tabLen l x.g = x.cs.length := by
      unfold tabLen
      have : (tabSt l).get x.g = some (.row { cs := x.cs, elem := x.t, ro := true }) := ho
      rw [this]
    obtain ⟨fr, hfr⟩ := h x h1
    refine ⟨⟨x.cs.toArray, fr, hfr, ?_, (fun q => by cases q), fun i v hi => ?_⟩, hlen, fun _ => ⟨rfl, rfl⟩, fun q => absurd rfl q, Nat.zero_le _⟩
    · simp [hlen]
    · refine ⟨v, by simpa using hi, constOK_VR (List.all_eq_true.1 (hc x h1) v (List.mem_of_getElem? hi))⟩
  · unfold rho0 at hp hp'
    split at hp
    · split at hp'
      · cases hp; cases hp'; exact hne
      · cases hp'
    · cases hp
theorem start_wr {l : List Tab} (B : Nat) : ¬ Wr (rho0 l) (st0 l) B := by
  rintro ⟨A, o, p, ho, _, _, hop⟩
  obtain ⟨x, _, _, rfl⟩ := tabSt_get ho
  cases hop
end Go.Am
