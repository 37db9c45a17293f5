/-
  A part of the proof that the run of an abstract machine, which the kernel can run, is what the program does under its model: no condition of its own.
-/
import Derived.Test.YtgjpafihilgpmaaGreatDoorAmKeys1
import Derived.Below
import Derived.Test.YtgjpafihilgpmaaGreatDoorAmPrim
set_option linter.unusedVariables false
set_option linter.unusedSimpArgs false
set_option maxHeartbeats 1000000
namespace Go.Am
open Go Go.Proofs Go.Shelf Go.RowKit

/-- memory has grown by a call; one of the new blocks is taken into the abstract memory -/
theorem Rel.newAt {P : Program} {ρ : Rho} {σ : St} {H H' : Array Obj} (h : Rel P ρ σ H) (o : AObj) (p : Pl) (hb : H.size ≤ p.b) (hH : ∀ B, B < H.size → H'[B]? = H[B]?)
    (hat : ObjAt P (ρ.upd σ.nx p) H' o p) : Rel P (ρ.upd σ.nx p) (σ.new o).2 H' := by
  have hf := h.fresh σ.nx (Nat.le_refl _)
  have hle := Rho.le_upd p hf.2
  refine .mk' (fun B hB => ?_) (Nat.le_succ_of_le h.low) (fun g hg => ?_) (fun B o2 q hB hq => ?_) (fun B B' o2 o3 q q' hne hB hB' hq hq' => ?_)
  · rw [St.nx_new] at hB
    rw [St.get_new, if_neg (by omega), Rho.upd_ne _ _ (by omega)]
    exact h.fresh B (by omega)
  · obtain ⟨q, h1, h2⟩ := h.glob g hg
    exact ⟨q, hle _ _ h1, h2⟩
  · rw [St.get_new] at hB
    split at hB
    · rename_i e; subst e; cases hB; rw [Rho.upd_self] at hq; cases hq; exact hat
    · rename_i e
      rw [Rho.upd_ne _ _ e] at hq
      exact (h.obj hB hq).mono hle (hH _ (h.lt hB hq))
  · rw [St.get_new] at hB hB'
    by_cases e : B = σ.nx
    · subst e
      rw [if_neg (Ne.symm hne)] at hB'
      rw [Rho.upd_self] at hq; cases hq
      rw [Rho.upd_ne _ _ (Ne.symm hne)] at hq'
      have := h.lt hB' hq'; omega
    · rw [if_neg e] at hB
      rw [Rho.upd_ne _ _ e] at hq
      by_cases e' : B' = σ.nx
      · subst e'
        rw [Rho.upd_self] at hq'; cases hq'
        have := h.lt hB hq; omega
      · rw [if_neg e'] at hB'
        rw [Rho.upd_ne _ _ e'] at hq'
        exact h.inj B B' o2 o3 q q' hne hB hB' hq hq'
theorem Sim.newAt {P : Program} {ρ : Rho} {σ : St} {w w' : World} (h : Rel P ρ σ w.heap) (o : AObj) (p : Pl) (hb : w.heap.size ≤ p.b) (hB : Below w.heap.size w w') : Sim ρ σ w (ρ.upd σ.nx p) (σ.new o).2 w' where
  le := Rho.le_upd p (h.fresh σ.nx (Nat.le_refl _)).2
  ghost := fun A ha hn => ⟨by rw [Rho.upd_ne _ _ (by omega)]; exact hn, by rw [St.get_new, if_neg (by omega)]⟩
  nx := by rw [St.nx_new]; omega
  size := hB.size
  frame := fun B hlt _ => hB.block B hlt
  wr := fun B ⟨A, o2, q, ho, hq, e, hop⟩ => by
    rw [St.get_new] at ho
    by_cases e' : A = σ.nx
    · subst e'; rw [Rho.upd_self] at hq; cases hq; exact .inr (by omega)
    · rw [if_neg e'] at ho; rw [Rho.upd_ne _ _ e'] at hq; exact .inl ⟨A, o2, q, ho, hq, e, hop⟩
  out := ⟨hB.os, hB.output, hB.tape⟩

/-- the keys of a map that has one -/
noncomputable def pKeys (fk : FuncId) (e : TypeId) (args : List Value) (σ : St) : Option (Value × St) := match args with
  | [.slice none 0 0, .func (.func g) fst cap] =>
    match fst.toList, cap.toList with
    | [], [.pointer (some ⟨A, 0, none⟩)] =>
      (σ.row? A).bind fun r => match r.loose, r.cs with
        | false, [.map (some m)] => (σ.map? m).bind fun (p : List MapEntry × Nat) => match p.1 with
          | [en] => (match en.key with
            | .int .u32 n => if g = fk ∧ 0 ≤ n ∧ n < 4294967296 ∧ en.born < p.2 then some (.slice (some ⟨σ.nx, 0, none⟩) 1 1, (σ.new (.row { cs := [.int .u32 n], elem := e, loose := true })).2) else none
            | _ => none)
          | _ => none
        | _, _ => none
    | _, _ => none
  | _ => none

theorem pKeys_ok {P : Program} {ρ : Ren} (L10 : SlLaysZU.n10 P ρ) (L11 : SlLaysZU.n11 P ρ) (hsz : sizeN P (ρ.t 26) = some 1) : PrimOK P (ρ.f 11) (pKeys (ρ.f 10) (ρ.t 26)) := by
  intro args σ v σ' h ρ' w args' hr hv
  unfold pKeys at h
  split at h
  · rename_i g fst cap
    split at h
    · rename_i A hfst hcap
      simp only [Option.bind_eq_some_iff] at h
      obtain ⟨r, hrow, h⟩ := h
      split at h
      · rename_i m hloose hcs
        simp only [Option.bind_eq_some_iff] at h
        obtain ⟨⟨es, clock⟩, hmap, h⟩ := h
        simp only at h
        split at h
        · rename_i en
          split at h
          · rename_i n hkey
            split at h
            · rename_i hc
              obtain ⟨rfl, hn0, hn1, hborn⟩ := hc
              cases h
              -- the arguments
              obtain ⟨x', l1, rfl, hx, hl1⟩ := hv.uncons
              obtain ⟨y', l2, rfl, hy, hl2⟩ := hl1.uncons
              obtain rfl := hl2.unnil
              cases hx
              cases hy with
              | func fn a a' b b' h1 h2 h3 h4 =>
                obtain rfl : a' = #[] := by
                  have : fst.size = 0 := by rw [← Array.length_toList, hfst]; rfl
                  exact Array.eq_empty_of_size_eq_zero (by omega)
                have hb : VL ρ' cap.toList b'.toList := VL.of_array h3 h4
                rw [hcap] at hb
                obtain ⟨z', l3, hbl, hz, hl3⟩ := hb.uncons
                obtain rfl := hl3.unnil
                cases hz with
                | ptr _ _ p hp =>
                  have hb' : b' = #[.pointer (some ⟨p.b, p.d + 0, none⟩)] := by
                    have := congrArg List.toArray hbl
                    simpa using this
                  subst hb'
                  -- the box
                  have hR := hr.row A r p (St.row_eq.1 hrow) hp
                  obtain ⟨hd, _⟩ := hR.ex0 hloose
                  obtain ⟨Cc, fr, hC, hCs, _, hCv⟩ := hR.ex
                  obtain ⟨v', hv1, hv2⟩ := hCv 0 (.map (some m)) (by rw [hcs]; rfl)
                  cases hv2 with
                  | map _ q hq =>
                    have hlt : p.b < w.heap.size := hR.lt
                    have hcell : w.cell? ⟨p.b, 0, none⟩ = some (.map (some q.b)) := by rw [cell_at hC]; rw [hd] at hv1; exact hv1
                    rw [hd]
                    -- the map
                    obtain ⟨es', hm1, hm2⟩ := hr.mp m [en] clock q (St.map_eq.1 hmap) hq
                    obtain ⟨esl⟩ := es'
                    cases hm2 with
                    | cons he hl =>
                      rename_i e' l'
                      cases hl
                      obtain ⟨k1, k2, k3⟩ := he
                      rw [hkey] at k1
                      obtain ⟨ek, ev, eb⟩ := e'
                      simp only at k1 k2 k3
                      cases k1
                      have hwf : (Lit.int .u32 n).wf = true := by simp [Lit.wf, IntKind.min, IntKind.max, IntKind.signed, IntKind.bits]; omega
                      let RR : Value → Option (DataW Unit × List MemPlace) := fun _ => some (.nil, [])
                      have hrd : WideElems.rd P (ρ.t 26) RR ⟨.int .u32 n, ev, eb⟩ = some (.int .u32 n, .nil) := by
                        unfold WideElems.rd
                        rw [Maps.keyOf_int_mk L11.t26 hwf]
                        rfl
                      have hfit : WideElems.Fit P (ρ.t 26) RR #[⟨.int .u32 n, ev, eb⟩] clock := by
                        refine ⟨by simp [maxLen], ⟨fun x hx => ?_, by simp, by simp⟩, fun x hx => ?_⟩
                        · simp only [List.mem_cons, List.not_mem_nil, or_false] at hx; subst hx; simp only; omega
                        · simp only [List.mem_cons, List.not_mem_nil, or_false] at hx; subst hx; exact ⟨_, hrd⟩
                      let D0 : DataW Unit := .map [(.int .u32 n, .nil)]
                      have hown : w.ownsMap P (ρ.t 26) RR q.b 1 D0 := by
                        refine ⟨_, clock, hm1, hfit, by simp, ?_⟩
                        simp only [List.map_cons, List.map_nil, List.foldr_cons, List.foldr_nil]
                        rw [WideElems.rg_of hrd]
                        rfl
                      have hgives := AnyZU.keys_gives L10 Fence.wide 1 trivial rfl (Nat.le_refl _) p.b q.b 1 D0 w hlt hcell hown
                      have hcall := callsIn_wide.1 (AnyZU.appendSeq_in L11 Fence.wide 2 trivial rfl (Nat.le_refl _) (ρ.f 10) #[.pointer (some ⟨p.b, 0, none⟩)] trivial (L10.f10.enters rfl) (fun ss => ss.Perm (u32Keys D0)) (Maps.size D0) (show 1 ≤ maxLen by decide) (show 1 * 4 ≤ 140737488355328 by decide) w hgives)
                      unfold Reach
                      rw [L11.f11.enters rfl]
                      refine Calls.mono hcall ?_
                      rintro e w' ⟨u, ss, rfl, hperm, hrw, _, hbelow⟩
                      obtain rfl : ss = [n] := List.perm_singleton.1 hperm
                      refine ⟨u, rfl, ?_⟩
                      rcases hrw.2 with ⟨_, h0⟩ | ⟨g', cap', cur', rfl, hge, hg', hle, hmx, hsize, htake⟩
                      · exact absurd h0 (by simp)
                      · let p0 : Pl := ⟨g', 0, 1, cap' - 1, 1⟩
                        simp only [List.length_cons, List.length_nil, Nat.zero_add] at hle htake
                        refine ⟨ρ'.upd σ.nx p0, ?_, ?_, Sim.newAt hr _ p0 hge hbelow⟩
                        · refine VR.slc σ.nx 0 1 1 cap' p0 (Rho.upd_self _ _ _) (by omega) (Nat.le_refl _) ?_
                          unfold capOK
                          by_cases hx0 : cap' - 1 = 0
                          · rw [if_neg (by show ¬ (_ ∧ cap' - 1 ≠ 0); simp [hx0])]; omega
                          · rw [if_pos ⟨rfl, hx0⟩]
                            exact ⟨hle, by show (cap' - 1) * 1 = cap' - 1; omega⟩
                        · refine hr.newAt _ p0 hge hbelow.block ?_
                          refine ⟨⟨cur', (0, 0), hg', ?_, fun _ => ⟨Nat.le_refl _, fun q => absurd q (by decide)⟩, fun i x hx => ?_⟩, rfl, (fun q => by cases q), fun _ => ⟨Nat.one_pos, hsz⟩, Nat.zero_le _⟩
                          · show 0 + 1 + (cap' - 1) = cur'.size
                            omega
                          · cases i with
                            | zero =>
                              simp only [List.getElem?_cons_zero, Option.some.injEq] at hx
                              subst hx
                              refine ⟨.int .u32 n, ?_, .int _ _⟩
                              show cur'[0 + 0]? = _
                              have : (cur'.toList.take 1)[0]? = some (.int .u32 n) := by rw [htake]; rfl
                              rw [List.getElem?_take_of_lt (by decide)] at this
                              simpa using this
                            | succ i => simp at hx
            · cases h
          · cases h
        · cases h
      · cases h
    · cases h
  · cases h
end Go.Am
