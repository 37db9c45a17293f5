/-
  A part of the proof that the run of an abstract machine, which the kernel can run, is what the program does under its model: no condition of its own.
-/
import Derived.Test.YtgjpafihilgpmaaGreatDoorAmExec
import Derived.Lib.Bytealg
import Derived.Lib.MakeNoZero
import Derived.Lib.Overlaps
set_option linter.unusedVariables false
set_option linter.unusedSimpArgs false
set_option maxHeartbeats 1000000
namespace Go.Am
open Go
variable {P : Program} {ρ : Rho} {σ : St} {w : World}

/-- a contract of a function that is done without its code -/
def PrimOK (P : Program) (f : FuncId) (p : List Value → St → Option (Value × St)) : Prop :=
  ∀ args σ v σ', p args σ = some (v, σ') → ∀ ρ w args', Rel P ρ σ w.heap → VL ρ args args' → Reach P w (callFunc f args'.toArray) (SimK P ρ σ w σ' v)

/-- a function that the model has an entry for -/
theorem prim_entry {f : FuncId} {fn : Func} {e : Array Value → Sem Value} {args' : List Value} {K : Value → World → Prop} {v' : Value} {w' : World} (hf : P.funcs[f]? = some fn) (hname : (fn.name == "runtime.NumGoroutine") = false)
    (hb : fn.body.isNone = true) (hn : Extern.findNext fn = none) (he : Extern.find fn = some e) (hr : (e args'.toArray).run P w = .ok v' w') (k : K v' w') : Reach P w (callFunc f args'.toArray) K := by
  unfold Reach
  rw [run_callFunc_extern hf hname hb hn he, hr]
  exact k

/-- two strings compared -/
def pCmp (args : List Value) (σ : St) : Option (Value × St) := match args with
  | [.string a, .string b] => some (.int .i64 (Lib.compareBytes a.data.toList b.data.toList), σ)
  | _ => none
theorem pCmp_ok {f : FuncId} {fn : Func} (hf : P.funcs[f]? = some fn) (hname : (fn.name == "runtime.NumGoroutine") = false)
    (hb : fn.body.isNone = true) (hn : Extern.findNext fn = none) (he : Extern.find fn = some Extern.BytealgCompare.compare) : PrimOK P f pCmp := by
  intro args σ v σ' h ρ w args' hr hv
  unfold pCmp at h
  split at h
  · rename_i a b
    obtain ⟨x', l1, rfl, hx, hl1⟩ := hv.uncons
    obtain ⟨y', l2, rfl, hy, hl2⟩ := hl1.uncons
    obtain rfl := hl2.unnil
    cases hx; cases hy
    simp only [Option.some.injEq, Prod.mk.injEq] at h
    obtain ⟨rfl, rfl⟩ := h
    exact prim_entry hf hname hb hn he (Lib.run_compareString a b w) ⟨ρ, .int _ _, hr, .refl _ _ _⟩
  · cases h

/-- what is handed back as it came -/
def pSame (args : List Value) (σ : St) : Option (Value × St) := match args with
  | [x] => some (x, σ)
  | _ => none
theorem pSame_ok {f : FuncId} {fn : Func} (hf : P.funcs[f]? = some fn) (hname : (fn.name == "runtime.NumGoroutine") = false)
    (hb : fn.body.isNone = true) (hn : Extern.findNext fn = none) (he : Extern.find fn = some Extern.AbiNoEscape.same) : PrimOK P f pSame := by
  intro args σ v σ' h ρ w args' hr hv
  unfold pSame at h
  split at h
  · obtain ⟨x', l1, rfl, hx, hl1⟩ := hv.uncons
    obtain rfl := hl1.unnil
    simp only [Option.some.injEq, Prod.mk.injEq] at h
    obtain ⟨rfl, rfl⟩ := h
    exact prim_entry hf hname hb hn he (v' := x') rfl ⟨ρ, hx, hr, .refl _ _ _⟩
  · cases h

/-- bytes of whatever value -/
noncomputable def pMake (e : TypeId) (args : List Value) (σ : St) : Option (Value × St) := match args with
  | [.int .i64 n] => if 0 < n ∧ n ≤ 281474976710656 then (let (a, σ) := σ.alloc (repN n.toNat [anyV]) e true; some (.slice (some a) n.toNat n.toNat, σ)) else none
  | _ => none
theorem digits_one : ∀ (n t : Nat) (acc : Array Value), (∀ (i : Nat) (v : Value), acc[i]? = some v → oneCell v = true) → ∀ (i : Nat) (v : Value), (Extern.BytealgMakeNoZero.digits n t acc)[i]? = some v → oneCell v = true
  | 0, _, _, h => h
  | n + 1, t, acc, h => digits_one n (t / 256) _ (fun i v hi => by
    rw [Array.getElem?_push] at hi
    split at hi
    · cases hi; rfl
    · exact h i v hi)
theorem repN_any (n : Nat) : repN n [anyV] = List.replicate n anyV := by
  induction n with
  | zero => rfl
  | succ n ih => simp only [repN, ih, List.replicate_succ]; rfl
theorem pMake_ok {f : FuncId} {fn : Func} {t e : TypeId} {ps : Array TypeId} (hf : P.funcs[f]? = some fn) (hname : (fn.name == "runtime.NumGoroutine") = false)
    (hb : fn.body.isNone = true) (hn : Extern.findNext fn = none) (he : Extern.find fn = some (Extern.BytealgMakeNoZero.makeNoZero ps #[t])) (ht : P.underlying t = some (.slice e)) (hsz : sizeN P e = some 1) : PrimOK P f (pMake e) := by
  intro args σ v σ' h ρ w args' hr hv
  unfold pMake at h
  split at h
  · rename_i n
    obtain ⟨x', l1, rfl, hx, hl1⟩ := hv.uncons
    obtain rfl := hl1.unnil
    cases hx
    split at h
    · rename_i hc
      obtain ⟨m, rfl⟩ : ∃ m : Nat, n = (m : Int) := ⟨n.toNat, by omega⟩
      simp only [Int.toNat_natCast, St.alloc, Option.some.injEq, Prod.mk.injEq] at h
      obtain ⟨rfl, rfl⟩ := h
      have hdef : Extern.BytealgMakeNoZero.makeNoZero ps #[t] #[.int .i64 m] =
        (do
          let .slice elem ← underlying t | stuck "bytealg.MakeNoZero: slice type expected"
          if (m : Int) < 0 || (m : Int) > 2 ^ 48 then runtimePanic (.error "makeslice: len out of range")
          let cap ← choose (.appendCap (m : Int).toNat 0 elem)
          askRoom cap
          let bytes ← choose (.extern "internal/bytealg.MakeNoZero.bytes" 0)
          let a ← newRow elem (Extern.BytealgMakeNoZero.digits cap bytes #[])
          pure (.slice (some a) (m : Int).toNat cap)) := rfl
      have hcap : ∃ cap bytes, m ≤ cap ∧ (Extern.BytealgMakeNoZero.makeNoZero ps #[t] #[.int .i64 m]).run P w = .ok (.slice (some ⟨w.heap.size, 0, none⟩) m cap) (w.drew.drew.alloc (.cells (Extern.BytealgMakeNoZero.digits cap bytes #[]) e)) := by
        refine ⟨grownCap w m 0 e, (Question.extern "internal/bytealg.MakeNoZero.bytes" 0).cut (w.tape (w.drawn + 1) (.extern "internal/bytealg.MakeNoZero.bytes" 0)), by simpa using grownCap_ge w m 0 e, ?_⟩
        rw [hdef]
        have h1 : ¬ (m : Int) < 0 := by omega
        have h2 : ¬ (281474976710656 : Int) < (m : Int) := by omega
        simp [run_underlying ht, h1, h2, Question.forced, newRow, grownCap]
      obtain ⟨cap, bytes, hge, hrun⟩ := hcap
      have hds : (Extern.BytealgMakeNoZero.digits cap bytes #[]).size = cap := by rw [Lib.size_digits]; simp
      let D := (Extern.BytealgMakeNoZero.digits cap bytes #[]).toList
      have hDl : D.length = cap := by simp [D, hds]
      let r : Blk := { cs := repN m [anyV], elem := e, loose := true }
      have hrl : (repN m [anyV]).length = m := by rw [repN_any]; simp
      let p : Pl := ⟨w.heap.size, 0, (repN m [anyV]).length, (D.drop m).length, 1⟩
      have hf0 := (hr.fresh σ.nx (Nat.le_refl _)).2
      have hvl : VL (ρ.upd σ.nx p) (repN m [anyV]) (D.take m) := by
        refine ⟨by rw [hrl]; simp [hDl]; omega, fun i u u' h1 h2 => ?_⟩
        rw [repN_any, List.getElem?_replicate] at h1
        have h2' : D[i]? = some u' := by
          rw [List.getElem?_take] at h2
          by_cases hi : i < m
          · rw [if_pos hi] at h2; exact h2
          · rw [if_neg hi] at h2; exact absurd h2 (by simp)
        by_cases hi : i < m
        · rw [if_pos hi] at h1
          obtain rfl := Option.some.inj h1
          exact .any _ (digits_one cap bytes #[] (fun i v h => by simp at h) i u' (by simpa [D] using h2'))
        · rw [if_neg hi] at h1; exact absurd h1 (by simp)
      have hat := RowAt.new (P := P) (ρ := ρ.upd σ.nx p) (H := w.heap) (r := r) (cs' := D.take m) (extra := D.drop m) (fr := (0, 0)) (s := 1) hvl (.inr ⟨rfl, by omega, hsz⟩) rfl (Nat.le_refl _) (fun h => absurd h (by decide))
      have hDD : (D.take m ++ D.drop m).toArray = Extern.BytealgMakeNoZero.digits cap bytes #[] := by rw [List.take_append_drop]
      rw [hDD] at hat
      refine prim_entry hf hname hb hn he hrun ⟨ρ.upd σ.nx p, ?_, hr.new (.row r) _ p rfl hat, Sim.new hr _ _ p rfl _ rfl ⟨rfl, rfl, rfl⟩⟩
      refine VR.slc σ.nx 0 m m cap p (Rho.upd_self _ _ _) (by omega) (Nat.le_refl _) ?_
      have hx : p.x = cap - m := by simp [p, hDl]
      have hpn : p.n = m := hrl
      unfold capOK
      by_cases h0 : p.x = 0
      · rw [if_neg (by simp [h0])]; omega
      · rw [if_pos ⟨by rw [hpn]; show 0 + m * 1 = m; omega, h0⟩]
        exact ⟨hge, by show (cap - m) * 1 = p.x; omega⟩
    · cases h
  · cases h

/-- two slices that meet nowhere -/
noncomputable def pOver (esz : Nat) (args : List Value) (σ : St) : Option (Value × St) := match args with
  | [.slice (some a) la _, .slice (some b) lb _] =>
    bif Nat.beq la 0 || Nat.beq lb 0 then some (.bool false, σ) else
    bif Nat.beq a.block b.block then none else
    bif plainBlk σ a.block && (match σ.row? b.block with | some r => !r.cs.isEmpty | none => false) then some (.bool false, σ) else none
  | [.slice none _ _, .slice _ _ _] => some (.bool false, σ)
  | [.slice (some _) _ _, .slice none _ _] => some (.bool false, σ)
  | _ => none
theorem pOver_ok {f : FuncId} {fn : Func} {t tR e : TypeId} {esz : Nat} (hf : P.funcs[f]? = some fn) (hname : (fn.name == "runtime.NumGoroutine") = false)
    (hb : fn.body.isNone = true) (hn : Extern.findNext fn = none) (he : Extern.find fn = some (Extern.SlicesOverlaps.overlaps #[t, t] #[tR])) (ht : P.underlying t = some (.slice e)) (hsz : sizeN P e = some esz) : PrimOK P f (pOver esz) := by
  intro args σ v σ' h ρ w args' hr hv
  have hz : ∀ w, (Go.sizeOf e).run P w = .ok esz w := fun w => run_sizeOfN hsz w
  have nil1 : ∀ (la ca : Nat) (b : Option Addr) (lb cb : Nat), (Extern.SlicesOverlaps.overlaps #[t, t] #[tR] #[.slice none la ca, .slice b lb cb]).run P w = .ok (.bool false) w := by
    intro la ca b lb cb
    show ((underlying t) >>= _).run P w = _
    rw [run_bindR _ _ w w (run_underlying ht w)]
    simp only
    rw [run_bindR _ _ w w (hz w)]
    rfl
  have nil2 : ∀ (a : Addr) (la ca : Nat) (lb cb : Nat), (Extern.SlicesOverlaps.overlaps #[t, t] #[tR] #[.slice (some a) la ca, .slice none lb cb]).run P w = .ok (.bool false) w := by
    intro a la ca lb cb
    show ((underlying t) >>= _).run P w = _
    rw [run_bindR _ _ w w (run_underlying ht w)]
    simp only
    rw [run_bindR _ _ w w (hz w)]
    rfl
  have zero : ∀ (a b : Addr) (la ca lb cb : Nat), la = 0 ∨ lb = 0 → (Extern.SlicesOverlaps.overlaps #[t, t] #[tR] #[.slice (some a) la ca, .slice (some b) lb cb]).run P w = .ok (.bool false) w := by
    intro a b la ca lb cb h0
    have h0' : la = 0 ∨ lb = 0 ∨ esz = 0 := by rcases h0 with q | q <;> simp [q]
    show ((underlying t) >>= _).run P w = _
    rw [run_bindR _ _ w w (run_underlying ht w)]
    simp only
    rw [run_bindR _ _ w w (hz w)]
    simp only [h0', if_true]
    rfl
  unfold pOver at h
  split at h
  · rename_i a la ca b lb cb
    obtain ⟨x', l1, rfl, hx, hl1⟩ := hv.uncons
    obtain ⟨y', l2, rfl, hy, hl2⟩ := hl1.uncons
    obtain rfl := hl2.unnil
    obtain ⟨a', ca', rfl⟩ := hx.slice_inv
    obtain ⟨b', cb', rfl⟩ := hy.slice_inv
    obtain ⟨a', rfl⟩ : ∃ q, a' = some q := by cases hx <;> exact ⟨_, rfl⟩
    obtain ⟨b', rfl⟩ : ∃ q, b' = some q := by cases hy <;> exact ⟨_, rfl⟩
    cases h0 : Nat.beq la 0 || Nat.beq lb 0 with
    | true =>
      simp only [h0, cond_true, Option.some.injEq, Prod.mk.injEq] at h
      obtain ⟨rfl, rfl⟩ := h
      simp only [Bool.or_eq_true] at h0
      exact prim_entry hf hname hb hn he (zero a' b' la ca' lb cb' (h0.imp Nat.eq_of_beq_eq_true Nat.eq_of_beq_eq_true)) ⟨ρ, .bool _, hr, .refl _ _ _⟩
    | false =>
      simp only [h0, cond_false] at h
      simp only [Bool.or_eq_false_iff] at h0
      cases h1 : Nat.beq a.block b.block with
      | true => simp [h1] at h
      | false =>
        have hne : a.block ≠ b.block := fun e => by rw [e] at h1; simp at h1
        simp only [h1, cond_false] at h
        cases h2 : plainBlk σ a.block with
        | false => simp [h2] at h
        | true =>
          cases hrb : σ.row? b.block with
          | none => simp [h2, hrb] at h
          | some rb =>
            cases hne2 : rb.cs.isEmpty with
            | true => simp [h2, hrb, hne2] at h
            | false =>
              simp only [h2, hrb, hne2, Bool.not_false, Bool.and_true, cond_true, Option.some.injEq, Prod.mk.injEq] at h
              obtain ⟨rfl, rfl⟩ := h
              cases hx with
              | slce => simp at h0
              | slc ab ao _ _ ca' pa hpa _ _ _ =>
              cases hy with
              | slce => simp at h0
              | slc bb bo _ _ cb' pb hpb _ _ _ =>
              obtain ⟨A, tA, frA, a1, a2, a3⟩ := plain_sim hr hpa h2
              obtain ⟨⟨C, fr, g1, g2, _, g4⟩, g5, _⟩ := hr.row bb rb pb (St.row_eq.1 hrb) hpb
              have hra : ∃ oa, σ.h.get ab = some oa := by
                unfold plainBlk at h2
                cases hq : σ.row? ab with
                | none => simp only at h2; rw [hq] at h2; cases h2
                | some r => exact ⟨_, St.row_eq.1 hq⟩
              obtain ⟨oa, hoa⟩ := hra
              have hreal : pa.b ≠ pb.b := hr.inj ab bb oa _ pa pb hne hoa (St.row_eq.1 hrb) hpa hpb
              have hk : C.size ≠ 0 := by
                have : 0 < rb.cs.length := by
                  rcases Nat.eq_zero_or_pos rb.cs.length with q | q
                  · rw [List.length_eq_zero_iff.1 q] at hne2; cases hne2
                  · exact q
                omega
              exact prim_entry hf hname hb hn he (Lib.run_overlaps_apart w t tR e ht esz hz ⟨pa.b, pa.d + ao, none⟩ ⟨pb.b, pb.d + bo, none⟩ la ca' lb cb' hreal tA rb.elem A.size C.size (shape_at a1) (shape_at g1) hk (a2 _ (by omega)) a3) ⟨ρ, .bool _, hr, .refl _ _ _⟩
  · obtain ⟨x', l1, rfl, hx, hl1⟩ := hv.uncons
    obtain ⟨y', l2, rfl, hy, hl2⟩ := hl1.uncons
    obtain rfl := hl2.unnil
    cases hx
    obtain ⟨b', cb', rfl⟩ := hy.slice_inv
    simp only [Option.some.injEq, Prod.mk.injEq] at h
    obtain ⟨rfl, rfl⟩ := h
    exact prim_entry hf hname hb hn he (nil1 _ _ _ _ _) ⟨ρ, .bool _, hr, .refl _ _ _⟩
  · obtain ⟨x', l1, rfl, hx, hl1⟩ := hv.uncons
    obtain ⟨y', l2, rfl, hy, hl2⟩ := hl1.uncons
    obtain rfl := hl2.unnil
    obtain ⟨a', ca', rfl⟩ := hx.slice_inv
    obtain ⟨a', rfl⟩ : ∃ q, a' = some q := by cases hx <;> exact ⟨_, rfl⟩
    cases hy
    simp only [Option.some.injEq, Prod.mk.injEq] at h
    obtain ⟨rfl, rfl⟩ := h
    exact prim_entry hf hname hb hn he (nil2 _ _ _ _ _) ⟨ρ, .bool _, hr, .refl _ _ _⟩
  · cases h
end Go.Am
