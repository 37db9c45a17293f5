/-
  A part of the proof that the run of an abstract machine, which the kernel can run, is what the program does under its model: no condition of its own.
-/
import Derived.Test.YtgjpafihilgpmaaGreatDoorAmOps2
import Derived.Laws.StructEq
set_option linter.unusedVariables false
set_option linter.unusedSimpArgs false
namespace Go.Am
open Go
variable {P : Program} {ρ : Rho} {σ : St} {w : World} {a : Act} {fr : Fr}

theorem shape_at {w : World} {b : Nat} {C : Array Value} {t : TypeId} {fr : Nat × Nat} (h : w.heap[b]? = some (.cells C t fr)) : w.shape? b = some (t, C.size) := by
  simp [World.shape?, h]
theorem run_viewAt {w : World} {b : Nat} {C : Array Value} {t : TypeId} {fr : Nat × Nat} (h : w.heap[b]? = some (.cells C t fr)) : (viewAt b).run P w = .ok none w := by
  simp [viewAt, shape_at h]
theorem frozen_at {w : World} {b : Nat} {C : Array Value} {t : TypeId} {fr : Nat × Nat} (h : w.heap[b]? = some (.cells C t fr)) (o : Nat) : w.frozen? ⟨b, o, none⟩ = (decide (fr.1 ≤ o) && decide (o < fr.2)) := by
  obtain ⟨lo, hi⟩ := fr
  simp [World.frozen?, h]

theorem plain_sim (h : Rel P ρ σ w.heap) {b : Nat} {p : Pl} (hp : ρ b = some p) (hb : plainBlk σ b = true) :
    ∃ C t fr, w.heap[p.b]? = some (.cells C t fr) ∧ (∀ o, p.d ≤ o → w.frozen? ⟨p.b, o, none⟩ = false) ∧ w.frozen? ⟨p.b, C.size, none⟩ = false := by
  unfold plainBlk at hb
  cases hr : σ.row? b with
  | none => simp [hr] at hb
  | some r =>
    simp only [hr, Bool.and_eq_true, Bool.not_eq_true'] at hb
    obtain ⟨⟨⟨h1, h2⟩, _⟩, h0⟩ := hb
    have hz : r.fz = 0 := Nat.eq_of_beq_eq_true h1
    obtain ⟨⟨C, fr, g1, g2, g3, g4⟩, _⟩ := h.row b r p (St.row_eq.1 hr) hp
    have key : ∀ o, p.d ≤ o → w.frozen? ⟨p.b, o, none⟩ = false := by
      intro o ho
      rw [frozen_at g1]
      rcases Nat.lt_or_ge fr.1 fr.2 with k | k
      · rcases (g3 h0).2 k with k1 | ⟨k1, _⟩
        · rw [hz] at k1
          have : ¬ o < fr.2 := by omega
          simp [this]
        · rw [h2] at k1; cases k1
      · by_cases k1 : fr.1 ≤ o
        · have : ¬ o < fr.2 := by omega
          simp [this]
        · simp [k1]
    exact ⟨C, r.elem, fr, g1, key, key _ (by omega)⟩

theorem run_sameAddr_ne {w : World} {a b : Addr} {C D : Array Value} {t u : TypeId} {fr gr : Nat × Nat} (hne : a.block ≠ b.block) (ha : w.heap[a.block]? = some (.cells C t fr)) (hb : w.heap[b.block]? = some (.cells D u gr))
    (fa : w.frozen? a = false) (fb : w.frozen? b = false) (fa' : w.frozen? ⟨a.block, C.size, none⟩ = false) (fb' : w.frozen? ⟨b.block, D.size, none⟩ = false) : (sameAddr a b).run P w = .ok false w := by
  have hbeq : (a.block == b.block) = false := by simpa using hne
  have sa : (stringish a).run P w = .ok false w := by simp [stringish, fa, shape_at ha, fa']
  have sb : (stringish b).run P w = .ok false w := by simp [stringish, fb, shape_at hb, fb']
  have na : (noView a).run P w = .ok () w := by simp [noView, run_viewAt ha]
  have nb : (noView b).run P w = .ok () w := by simp [noView, run_viewAt hb]
  have mb : (mayBeOne a b).run P w = .ok false w := by simp [mayBeOne, sa, sb]
  simp [sameAddr, hbeq, fa, na, nb, mb]
theorem run_sameAddr_same {w : World} {a b : Addr} (h : a.block = b.block) : (sameAddr a b).run P w = .ok (a == b) w := by
  simp [sameAddr, h]

theorem eqFields_sim {eq : TypeId → Value → Value → Option Bool} {D : Nat} (heq : ∀ t u u' v v' b, VR ρ u u' → VR ρ v v' → eq t u v = some b → (Op.equalIn D t u' v').run P w = .ok b w)
    {xs ys : List Value} {xs' ys' : Array Value} (hx : VL ρ xs xs'.toList) (hy : VL ρ ys ys'.toList) : ∀ {fs : List Field} {b : Bool}, eqFields P eq xs ys fs = some b → (Op.eqFields D xs' ys' fs).run P w = .ok b w
  | [], b, h => by simp [eqFields] at h; subst h; rfl
  | f :: fs, b, h => by
    simp only [eqFields] at h
    split at h
    · cases h
    · rename_i hn
      split at h
      · rename_i u v hu hv
        simp only [Option.bind_eq_some_iff] at h
        obtain ⟨c, h1, h2⟩ := h
        obtain ⟨u', g1, g2⟩ := part_sim hx hu w
        obtain ⟨v', g3, g4⟩ := part_sim hy hv w
        have g5 := heq _ _ _ _ _ _ g2 g4 h1
        simp only [Op.eqFields, if_pos hn]
        rw [run_bindR _ _ w w g1, run_bindR _ _ w w g3, run_bindR _ _ w w g5]
        cases c with
        | true => simp only [cond_true] at h2; simpa using eqFields_sim heq hx hy h2
        | false => simp only [cond_false, Option.some.injEq] at h2; subst h2; rfl
      · cases h

set_option maxHeartbeats 1000000
/-- the small cases of '==' by a closed run -/
def run_equalIn_body (P : Program) (D : Nat) (t : TypeId) (u v : Value) (desc : TypeDesc) (w : World) : Result Bool :=
  match desc, u, v with
  | .pointer _, .pointer none, .pointer b => .ok b.isNone w
  | .slice _, .slice none _ _, .slice b _ _ => .ok b.isNone w
  | .slice _, .slice (some _) _ _, .slice none _ _ => .ok false w
  | .map _ _, .map none, .map b => .ok b.isNone w
  | .map _ _, .map (some _), .map none => .ok false w
  | .func _ _ _, .nilFunc, .nilFunc => .ok true w
  | .func _ _ _, .nilFunc, .func _ _ _ => .ok false w
  | .func _ _ _, .func _ _ _, .nilFunc => .ok false w
  | _, _, _ => (Op.equalIn (D + 1) t u v).run P w
theorem run_equalIn_of {P : Program} {D : Nat} {t : TypeId} {u v : Value} {desc : TypeDesc} {w : World} (hu : P.underlying t = some desc) : (Op.equalIn (D + 1) t u v).run P w = run_equalIn_body P D t u v desc w := by
  unfold run_equalIn_body
  split <;> first
    | rfl
    | (simp only [Op.equalIn]
       rw [run_bindR _ _ w w (run_underlying hu w)]
       rfl)
    | (simp only [Op.equalIn]
       rw [run_bindR _ _ w w (run_underlying hu w)]
       split <;> first | rfl | simp_all)
theorem eqV_sim (hr : Rel P ρ σ w.heap) : ∀ (d : Nat) {t : TypeId} {x y x' y' : Value} {b : Bool} {D : Nat}, eqV P σ d t x y = some b → VR ρ x x' → VR ρ y y' → d ≤ D → (Op.equalIn D t x' y').run P w = .ok b w := by
  intro d
  induction d with
  | zero => intro t x y x' y' b D h; simp [eqV] at h
  | succ d ih =>
    intro t x y x' y' b D h hx hy hD
    obtain ⟨D, rfl⟩ : ∃ k, D = k + 1 := ⟨D - 1, by omega⟩
    simp only [eqV] at h
    have fin : ∀ {desc : TypeDesc} {u v : Value} {c : Bool}, P.underlying t = some desc → (run_equalIn_body P D t u v desc w) = .ok c w → (Op.equalIn (D + 1) t u v).run P w = .ok c w := fun hu hb => by
      rw [run_equalIn_of hu]; exact hb
    split at h
    · rename_i hu; cases hx; cases hy; cases h; simp [Op.equalIn, run_underlying hu]
    · rename_i hu; cases hx; cases hy
      split at h
      · rename_i hk; cases h; simp [Op.equalIn, run_underlying hu, hk]
      · cases h
    · rename_i hu; cases hx; cases hy; cases h
      simp [Op.equalIn, run_underlying hu, beq_toListBytes, ByteArray.toList_eq]
    · rename_i hu; cases h; cases hx; cases hy <;> simp [Op.equalIn, run_underlying hu]
    · rename_i hu; cases h; cases hx; cases hy; simp [Op.equalIn, run_underlying hu]
    · rename_i e a0 b0 hu
      split at h
      · rename_i n hn
        rw [bif_beq] at h
        cases hx with
        | ptr b1 o1 p1 hp1 =>
          cases hy with
          | ptr b2 o2 p2 hp2 =>
            have hs : (sizeOf e).run P w = .ok (n + 1) w := run_sizeOfN hn w
            have base : (Op.equalIn (D + 1) t (.pointer (some ⟨p1.b, p1.d + o1, none⟩)) (.pointer (some ⟨p2.b, p2.d + o2, none⟩))).run P w = (sameAddr ⟨p1.b, p1.d + o1, none⟩ ⟨p2.b, p2.d + o2, none⟩).run P w := by
              simp [Op.equalIn, run_underlying hu, hs]
            rw [base]
            split at h
            · rename_i hb
              simp only at hb h
              cases h
              subst hb
              rw [hp1] at hp2; cases hp2
              rw [run_sameAddr_same (a := ⟨p1.b, p1.d + o1, none⟩) (b := ⟨p1.b, p1.d + o2, none⟩) rfl]
              congr 1
              rw [Bool.eq_iff_iff]
              simp
            · rename_i hb
              simp only at hb h
              cases hpl : (plainBlk σ b1 && plainBlk σ b2) with
              | false => rw [hpl] at h; cases h
              | true =>
                rw [hpl] at h
                simp only [cond_true, Option.some.injEq] at h
                subst h
                simp only [Bool.and_eq_true] at hpl
                obtain ⟨C, t1, f1, k1, k2, k3⟩ := plain_sim hr hp1 hpl.1
                obtain ⟨D', t2, f2, k4, k5, k6⟩ := plain_sim hr hp2 hpl.2
                have hr1 : ∃ r1, σ.h.get b1 = some (.row r1) := by
                  have := hpl.1; unfold plainBlk at this
                  cases hq : σ.row? b1 with
                  | none => simp [hq] at this
                  | some r => exact ⟨r, St.row_eq.1 hq⟩
                have hr2 : ∃ r2, σ.h.get b2 = some (.row r2) := by
                  have := hpl.2; unfold plainBlk at this
                  cases hq : σ.row? b2 with
                  | none => simp [hq] at this
                  | some r => exact ⟨r, St.row_eq.1 hq⟩
                obtain ⟨r1, hr1⟩ := hr1
                obtain ⟨r2, hr2⟩ := hr2
                exact run_sameAddr_ne (hr.inj b1 b2 _ _ p1 p2 hb hr1 hr2 hp1 hp2) k1 k4 (k2 _ (by omega)) (k5 _ (by omega)) k3 k6
      · cases h
    · rename_i hu; cases h; cases hx; cases hy; simp [Op.equalIn, run_underlying hu]
    · rename_i hu; cases h; cases hx; cases hy; simp [Op.equalIn, run_underlying hu]
    · rename_i hu; cases h; cases hx; cases hy; simp [Op.equalIn, run_underlying hu]
    · rename_i fields xs ys hu
      cases hs : P.stoodInHeld t with
      | true => rw [hs] at h; cases h
      | false =>
        rw [hs] at h
        simp only [cond_false] at h
        cases hx with
        | agg _ xs' g1 g2 =>
          cases hy with
          | agg _ ys' g3 g4 =>
            have hfo : P.fieldsOf t = fields := by simp [Program.fieldsOf, hu]
            rw [run_equalIn_struct w D t xs' ys' (by rw [hfo]; exact hu) hs, hfo]
            exact eqFields_sim (fun t u u' v v' b hu hv he => ih he hu hv (by omega)) (VL.of_array g1 g2) (VL.of_array g3 g4) h
    · rename_i hu; cases h; cases hx
      cases hy <;> exact fin hu rfl
    · rename_i hu; cases h
      cases hx <;> cases hy <;> exact fin hu rfl
    · rename_i hu; cases h; cases hx; cases hy <;> exact fin hu rfl
    · rename_i hu; cases h; cases hx; cases hy; exact fin hu rfl
    · rename_i hu; cases h; cases hx; cases hy; exact fin hu rfl
    · rename_i hu; cases h; cases hx; cases hy; exact fin hu rfl
    · rename_i hu; cases h; cases hx; cases hy; exact fin hu rfl
    · cases h
end Go.Am
