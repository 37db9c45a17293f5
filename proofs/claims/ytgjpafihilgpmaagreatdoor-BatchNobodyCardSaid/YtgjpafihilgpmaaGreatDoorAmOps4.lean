/-
  A part of the proof that the run of an abstract machine, which the kernel can run, is what the program does under its model: no condition of its own.
-/
import Derived.Test.YtgjpafihilgpmaaGreatDoorAmOps3
import Derived.Laws.BytesString
import Derived.Laws.Slices
set_option linter.unusedVariables false
set_option linter.unusedSimpArgs false
set_option maxHeartbeats 1000000
namespace Go.Am
open Go
variable {P : Program} {ρ : Rho} {σ : St} {w : World} {a : Act} {fr : Fr}

/-! ## '==' and '!=' -/
def isNum : Value → Bool
  | .int _ _ | .float _ _ | .complex _ _ _ | .string _ => true
  | _ => false
theorem binOp_eql_of {t : TypeId} {x y : Value} (h : isNum x = false ∨ isNum y = false) : binOp .eql t x y = (do pure (.bool (← Op.equal t x y))) := by
  unfold binOp
  split <;> first | rfl | simp_all [isNum]
theorem binOp_neq_of {t : TypeId} {x y : Value} (h : isNum x = false ∨ isNum y = false) : binOp .neq t x y = (do pure (.bool (!(← Op.equal t x y)))) := by
  unfold binOp
  split <;> first | rfl | simp_all [isNum]
theorem eqV_num {d : Nat} {t : TypeId} {x y : Value} {b : Bool} (h : eqV P σ d t x y = some b) : (isNum x = false ∧ x ≠ .chan none) ∨ (∃ k m k' n, x = .int k m ∧ y = .int k' n) ∨ (∃ m n, x = .string m ∧ y = .string n) := by
  cases d with
  | zero => simp [eqV] at h
  | succ d =>
    simp only [eqV] at h
    split at h <;> first
      | (cases h; done)
      | exact .inl ⟨rfl, by simp⟩
      | exact .inr (.inl ⟨_, _, _, _, rfl, rfl⟩)
      | exact .inr (.inr ⟨_, _, rfl, rfl⟩)
theorem VR.isNum {x x' : Value} (h : VR ρ x x') (hn : Am.isNum x = false) (hc : x ≠ .chan none) : Am.isNum x' = false := by
  cases h <;> first | rfl | exact absurd rfl hc | cases hn
def eqGuardRest (t : TypeId) (x y : Operand) (a b : Value) : Sem Unit :=
  match a, b with
  | .nilIface, .nilIface => do
    if (x matches .const _) || (y matches .const _) then return
    if ← Op.eqGuardIn Op.maxDepth t a b then unsupported (.noEntry "binop/eql: two nil values of an interface type with methods, neither of them the literal nil")
  | .agg _, .agg _ => do
    if !(← program).eqGuardType (← program).depth t then return
    if ← Op.eqGuardIn Op.maxDepth t a b then unsupported (.noEntry "binop/eql: two nil values of an interface type with methods, in a part of a struct or an array")
  | _, _ => pure ()
theorem eqGuard_rest (op : BinOp) (t : TypeId) (x y : Operand) (u v : Value) : eqGuard op t x y u v = pure () ∨ eqGuard op t x y u v = eqGuardRest t x y u v := by
  cases op <;> first
    | exact .inl rfl
    | exact .inr rfl
theorem eqGuard_sim {op : BinOp} {t : TypeId} {x y : Operand} {u v : Value} (h : P.eqGuardType P.depth t = false) (hn : u = .nilIface → v = .nilIface → ∃ ms, P.underlying t = some (.interface ms)) (w : World) :
    (eqGuard op t x y u v).run P w = .ok () w := by
  rcases eqGuard_rest op t x y u v with e | e
  · rw [e]; rfl
  · rw [e]
    unfold eqGuardRest
    split
    · obtain ⟨ms, hu⟩ := hn rfl rfl
      have he : ms.isEmpty = true := by
        have hd : P.depth = (2 * (P.types.size + Made.depth) + 1) + 1 := rfl
        rw [hd] at h
        simp only [Program.eqGuardType, hu] at h
        simpa using h
      have hm : ms = #[] := by simpa using he
      have hd : ∀ d, (Op.eqGuardIn (d + 1) t .nilIface .nilIface).run P w = .ok false w := fun d => by simp [Op.eqGuardIn, run_underlying hu, hm]
      have hr : (Op.eqGuardIn Op.maxDepth t .nilIface .nilIface).run P w = .ok false w := hd 9999
      simp only [Sem.run_ite, Sem.run_bind, hr, Result.andThen_ok]
      cases x <;> cases y <;> rfl
    · simp [h]
    · rfl
theorem eqGuard_else {op : BinOp} {t : TypeId} {x y : Operand} {u v : Value} (h1 : ¬ (u = .nilIface ∧ v = .nilIface)) (h2 : ∀ cs ds, ¬ (u = .agg cs ∧ v = .agg ds)) (w : World) :
    (eqGuard op t x y u v).run P w = .ok () w := by
  rcases eqGuard_rest op t x y u v with e | e
  · rw [e]; rfl
  · rw [e]
    unfold eqGuardRest
    split
    · exact absurd ⟨rfl, rfl⟩ h1
    · exact absurd ⟨rfl, rfl⟩ (h2 _ _)
    · rfl
theorem eqV_nil {d : Nat} {t : TypeId} {b : Bool} (h : eqV P σ d t .nilIface .nilIface = some b) : ∃ ms, P.underlying t = some (.interface ms) := by
  cases d with
  | zero => simp [eqV] at h
  | succ d =>
    simp only [eqV] at h
    split at h <;> first
      | (cases h; done)
      | (simp_all; done)
      | exact ⟨_, by assumption⟩

/-! ## bytes -/
theorem unbytes_sim : ∀ {cs cs' : List Value} {l : List UInt8}, VL ρ cs cs' → unbytes cs = some l → ∃ ns : List Int, cs' = ns.map (Value.int .u8) ∧ l = ns.map fun n => UInt8.ofNat n.toNat
  | [], cs', l, hv, h => by rw [hv.unnil]; simp [unbytes] at h; exact ⟨[], rfl, by simp [← h]⟩
  | v :: cs, cs', l, hv, h => by
    obtain ⟨v', l', rfl, h1, h2⟩ := hv.uncons
    unfold unbytes at h
    split at h
    · rename_i heq; cases heq
    · rename_i n l2 heq
      cases heq
      simp only [Option.map_eq_some_iff] at h
      obtain ⟨l3, h3, rfl⟩ := h
      obtain ⟨ns, rfl, rfl⟩ := unbytes_sim h2 h3
      cases h1
      exact ⟨n :: ns, rfl, rfl⟩
    · cases h
theorem foldl_push : ∀ (ns : List Int) (s : ByteArray), ns.foldl (fun r n => r.push (UInt8.ofNat n.toNat)) s = ⟨s.data ++ (ns.map fun n => UInt8.ofNat n.toNat).toArray⟩
  | [], s => by simp
  | n :: ns, s => by
    rw [List.foldl_cons, foldl_push ns]
    apply ByteArray.ext
    simp [ByteArray.push]

/-! ## slices -/
theorem bound_sim {x : Option Value} {x' : Option Value} (hx : match x, x' with | none, none => True | some v, some v' => VR ρ v v' | _, _ => False) {dflt most n : Nat} (h : bound x dflt most = some n) :
    (x' = none ∧ n = dflt) ∨ (∃ k i, x' = some (.int k i) ∧ 0 ≤ i ∧ i ≤ most ∧ n = i.toNat) := by
  unfold bound at h
  split at h
  · cases h; cases x' with
    | none => exact .inl ⟨rfl, rfl⟩
    | some v => exact hx.elim
  · rename_i k i
    split at h
    · rename_i hb
      cases h
      cases x' with
      | none => exact hx.elim
      | some v =>
        have hx' : VR ρ (.int k i) v := hx
        cases hx'
        exact .inr ⟨k, i, rfl, hb.1, hb.2, rfl⟩
    · cases h
  · cases h


theorem capOK_le {p : Pl} {o c c' : Nat} (h : capOK p o c c') : c ≤ c' := by
  unfold capOK at h; split at h
  · exact h.1
  · omega

def BX (x' : Option Value) (dflt most n : Nat) : Prop := (x' = none ∧ n = dflt) ∨ (∃ k i, x' = some (.int k i) ∧ 0 ≤ i ∧ i ≤ most ∧ n = i.toNat)
theorem run_bound (k : IntKind) (i : Int) (y : Nat) (code : BoundsCode) (h0 : 0 ≤ i) (h1 : i ≤ y) (w : World) : (Instr.sliceBound (.int k i) y code).run P w = .ok i.toNat w := by
  simp [Instr.sliceBound, asIntOf, h0, h1]
theorem run_bounds {g : Bool} {len cap L H M : Nat} {lo' hi' mx' : Option Value} (hm : BX mx' cap cap M) (hsome : mx' ≠ none → hi' ≠ none) (hh : BX hi' len M H) (hl : BX lo' 0 H L) (w : World) :
    (Instr.sliceBounds g len cap lo' hi' mx').run P w = .ok (L, H, M) w := by
  rcases hm with ⟨rfl, rfl⟩ | ⟨k1, i1, rfl, a1, a2, rfl⟩ <;> rcases hh with ⟨rfl, rfl⟩ | ⟨k2, i2, rfl, b1, b2, rfl⟩ <;> rcases hl with ⟨rfl, rfl⟩ | ⟨k3, i3, rfl, c1, c2, rfl⟩ <;> first
    | (simp only [Instr.sliceBounds, Sem.run_bind, Sem.run_pure, Result.andThen_ok, Option.isSome_some, Option.isSome_none, run_bound _ _ _ _ a1 a2 w, run_bound _ _ _ _ b1 b2 w, run_bound _ _ _ _ c1 c2 w]; done)
    | (simp only [Instr.sliceBounds, Sem.run_bind, Sem.run_pure, Result.andThen_ok, Option.isSome_some, Option.isSome_none, run_bound _ _ _ _ a1 a2 w, run_bound _ _ _ _ b1 b2 w]; done)
    | (simp only [Instr.sliceBounds, Sem.run_bind, Sem.run_pure, Result.andThen_ok, Option.isSome_some, Option.isSome_none, run_bound _ _ _ _ b1 b2 w, run_bound _ _ _ _ c1 c2 w]; done)
    | (simp only [Instr.sliceBounds, Sem.run_bind, Sem.run_pure, Result.andThen_ok, Option.isSome_some, Option.isSome_none, run_bound _ _ _ _ b1 b2 w]; done)
    | (simp only [Instr.sliceBounds, Sem.run_bind, Sem.run_pure, Result.andThen_ok, Option.isSome_some, Option.isSome_none, run_bound _ _ _ _ c1 c2 w]; done)
    | (simp only [Instr.sliceBounds, Sem.run_bind, Sem.run_pure, Result.andThen_ok, Option.isSome_some, Option.isSome_none]; done)
    | exact absurd rfl (hsome (by simp))
def OR (ρ : Rho) (x x' : Option Value) : Prop := match x, x' with | none, none => True | some v, some v' => VR ρ v v' | _, _ => False
theorem bound_BX {x x' : Option Value} (hx : OR ρ x x') {dflt most n : Nat} (h : bound x dflt most = some n) : BX x' dflt most n := bound_sim hx h
theorem OR.none_iff {x x' : Option Value} (hx : OR ρ x x') : x' = none ↔ x = none := by
  cases x <;> cases x' <;> simp_all [OR]
theorem BX.le {x' : Option Value} {d m n : Nat} (h : BX x' d m n) (hd : d ≤ m) : n ≤ m := by
  rcases h with ⟨_, rfl⟩ | ⟨k, i, _, a1, a2, rfl⟩ <;> omega
theorem BX.wider {x' : Option Value} {d m m' n : Nat} (h : BX x' d m n) (hm : m ≤ m') : BX x' d m' n := by
  rcases h with ⟨a, b⟩ | ⟨k, i, a, a1, a2, b⟩
  · exact .inl ⟨a, b⟩
  · exact .inr ⟨k, i, a, a1, by omega, b⟩

theorem sliceV_sim (hr : Rel P ρ σ w.heap) {t : TypeId} {x x' v : Value} {lo hi mx lo' hi' mx' : Option Value}
    (hx : VR ρ x x') (hlo : OR ρ lo lo') (hhi : OR ρ hi hi') (hmx : OR ρ mx mx')
    (h : sliceV P σ t x lo hi mx = some v) : ∃ v', (Instr.sliceAt t x' lo' hi' mx').run P w = .ok v' w ∧ VR ρ v v' := by
  unfold sliceV at h
  split at h
  · rename_i s hu
    cases hx
    simp only [Option.bind_eq_some_iff] at h
    obtain ⟨H, h1, L, h2, h3⟩ := h
    cases mx with
    | some m => cases h3
    | none =>
      have hm' : mx' = none := hmx.none_iff.2 rfl
      subst hm'
      simp only [Option.some.injEq] at h3
      subst h3
      have hh := run_bounds (P := P) (g := false) (.inl ⟨rfl, rfl⟩ : BX none s.size s.size s.size) (fun e => absurd rfl e) (bound_BX hhi h1) (bound_BX hlo h2) w
      exact ⟨.string (s.extract L H), by simp [Instr.sliceAt, run_underlying hu, Instr.slice, hh], .string _⟩
  · rename_i e base len cap hu
    simp only [Option.bind_eq_some_iff] at h
    obtain ⟨M, h1, H, h2, L, h3, n, hn, h4⟩ := h
    have hs3 : ∀ (a' : Option Addr) (c' : Nat) (L H M : Nat), (Instr.sliceBounds true len c' lo' hi' mx').run P w = .ok (L, H, M) w →
        (Instr.sliceAt t (.slice a' len c') lo' hi' mx').run P w = .ok (.slice (if M = L then a' else a'.map (fun q : Addr => q.add (L * n))) (H - L) (M - L)) w := fun a' c' L H M hh => by
      simp [Instr.sliceAt, run_underlying hu, Instr.slice, hh, run_sizeOfN hn]
    have hsome : mx' ≠ none → hi' ≠ none := by
      intro hne he
      have hmn : mx ≠ none := fun e => hne (hmx.none_iff.2 e)
      have hhn : hi = none := hhi.none_iff.1 he
      subst hhn
      cases mx with
      | none => exact hmn rfl
      | some m => simp at h2
    have h2' : bound hi len M = some H := by
      cases mx with
      | none => exact h2
      | some m =>
        cases hi with
        | none => simp at h2
        | some v => exact h2
    cases base with
    | none =>
      simp only [Option.some.injEq] at h4
      subst h4
      cases hx
      have hh := run_bounds (P := P) (g := true) (bound_BX hmx h1) hsome (bound_BX hhi h2') (bound_BX hlo h3) w
      refine ⟨_, hs3 none cap L H M hh, ?_⟩
      have e : (if M = L then (none : Option Addr) else Option.map (fun q : Addr => q.add (L * n)) none) = none := by split <;> rfl
      rw [e]; exact .slc0 _ _
    | some a0 =>
      simp only at h4
      cases hfe : (fitsElem P σ a0 n) with
      | false => rw [hfe] at h4; cases h4
      | true =>
        rw [hfe] at h4
        simp only [cond_true, Option.some.injEq, Option.map_some] at h4
        subst h4
        unfold fitsElem at hfe
        cases hrow : σ.row? a0.block with
        | none => simp [hrow] at hfe
        | some r =>
          simp only [hrow] at hfe
          have hLH := (bound_BX hlo h3).le (Nat.zero_le _)
          have main : ∀ (b o : Nat) (p : Pl) (a' : Addr) (c' : Nat), a0 = ⟨b, o, none⟩ → ρ b = some p → x' = .slice (some a') len c' →
              ((0 < cap ∧ len ≤ cap ∧ a' = ⟨p.b, p.d + o, none⟩ ∧ capOK p o cap c') ∨ (cap = 0 ∧ len = 0 ∧ (c' = 0 ∨ (p.x ≠ 0 ∧ o = p.n ∧ a' = ⟨p.b, p.d + p.n, none⟩ ∧ c' * p.s = p.x)))) →
              ∃ v', (Instr.sliceAt t x' lo' hi' mx').run P w = .ok v' w ∧ VR ρ (bif mx.isSome && Nat.blt L M && atEnd σ a0 M n then .chan none else .slice (some (addrAdd a0 (L * n))) (H - L) (M - L)) v' := by
            intro b o p a' c' ha hp hxx hcase
            subst ha; subst hxx
            have hro := St.row_eq.1 hrow
            obtain ⟨hex, hn5, hn6, hn7, hn8⟩ := hr.row b r p hro hp
            have hs : p.x ≠ 0 → p.s = n := by
              intro hxne
              have hl : r.loose = true := by
                cases hl : r.loose with
                | true => rfl
                | false => exact absurd (hn6 hl).2 hxne
              rw [hl] at hfe
              simp only [Bool.not_true, Bool.false_or] at hfe
              rw [(hn7 hxne).2] at hfe
              simp only at hfe
              exact Nat.eq_of_beq_eq_true hfe
            have hcc : cap ≤ c' := by
              rcases hcase with ⟨_, _, _, hk⟩ | ⟨h0, _, _⟩
              · exact capOK_le hk
              · omega
            -- the real end
            obtain ⟨M', hM', hMM⟩ : ∃ M', BX mx' c' c' M' ∧ ((mx = none ∧ M = cap ∧ M' = c') ∨ (mx ≠ none ∧ M' = M ∧ M ≤ cap)) := by
              rcases bound_BX hmx h1 with ⟨e1, e2⟩ | ⟨k, i, e1, a1, a2, e2⟩
              · exact ⟨c', .inl ⟨e1, rfl⟩, .inl ⟨hmx.none_iff.1 e1, e2, rfl⟩⟩
              · refine ⟨M, .inr ⟨k, i, e1, a1, by omega, e2⟩, .inr ⟨?_, rfl, by omega⟩⟩
                intro e; rw [hmx.none_iff.2 e] at e1; cases e1
            have hMle : M ≤ M' := by rcases hMM with ⟨_, e1, e2⟩ | ⟨_, e1, e2⟩ <;> omega
            have hh := run_bounds (P := P) (g := true) hM' hsome ((bound_BX hhi h2').wider hMle) (bound_BX hlo h3) w
            refine ⟨_, hs3 (some a') c' L H M' hh, ?_⟩
            have hlen : len ≤ cap := by rcases hcase with ⟨_, e, _⟩ | ⟨e1, e2, _⟩ <;> omega
            have hHM : H ≤ M := by
              rcases bound_BX hhi h2' with ⟨e1, e2⟩ | ⟨k, i, e1, a1, a2, e2⟩
              · rcases hMM with ⟨_, e3, _⟩ | ⟨e3, _, _⟩
                · omega
                · exact absurd e1 (hsome (fun e => e3 (hmx.none_iff.1 e)))
              · omega
            cases hend : (mx.isSome && Nat.blt L M && atEnd σ ⟨b, o, none⟩ M n) with
            | true => exact .any _ rfl
            | false =>
            simp only [cond_false, addrAdd]
            rcases hcase with ⟨hc0, _, rfl, hk⟩ | ⟨rfl, rfl, hz⟩
            · by_cases hLM : L < M
              · have hne : ¬ M' = L := by omega
                rw [if_neg hne]
                simp only [Option.map_some, add_none]
                rw [show p.d + o + L * n = p.d + (o + L * n) by omega]
                refine .slc b (o + L * n) (H - L) (M - L) (M' - L) p hp (by omega) (by omega) ?_
                rcases hMM with ⟨e1, rfl, rfl⟩ | ⟨e1, rfl, e2⟩
                · unfold capOK at hk ⊢
                  by_cases hx0 : p.x = 0
                  · rw [if_neg (by simp [hx0])] at hk ⊢; omega
                  · have hsn := hs hx0
                    have eq1 : o + L * n + (M - L) * p.s = o + M * p.s := by
                      rw [hsn]
                      have : L * n + (M - L) * n = M * n := by rw [← Nat.add_mul]; congr 1; omega
                      omega
                    rw [eq1]
                    split at hk
                    · rename_i hcnd
                      rw [if_pos hcnd]
                      refine ⟨by omega, ?_⟩
                      rw [show M' - L - (M - L) = M' - M by omega]; exact hk.2
                    · rename_i hcnd
                      rw [if_neg hcnd]; omega
                · unfold capOK
                  rw [if_neg]
                  rintro ⟨q1, q2⟩
                  have hsn := hs q2
                  have hl : r.loose = true := by
                    cases hl : r.loose with
                    | true => rfl
                    | false => exact absurd (hn6 hl).2 q2
                  have hms : mx.isSome = true := by cases mx <;> simp_all
                  have hbl : Nat.blt L M' = true := Nat.blt_eq ▸ hLM
                  have hat : atEnd σ ⟨b, o, none⟩ M' n = true := by
                    unfold atEnd
                    simp only [hrow]
                    unfold endLoose
                    rw [hl]
                    simp only [Bool.true_and]
                    have : o + M' * n = r.cs.length := by
                      have : L * n + (M' - L) * n = M' * n := by rw [← Nat.add_mul]; congr 1; omega
                      rw [hsn] at q1; omega
                    rw [this]; simp
                  rw [hms, hbl, hat] at hend
                  simp at hend
              · have hML : M = L := by have := hLH; omega
                have hH0 : H - L = 0 := by omega
                have hM0 : M - L = 0 := by omega
                have ea : (if M' = L then some (⟨p.b, p.d + o, none⟩ : Addr) else Option.map (fun q : Addr => q.add (L * n)) (some ⟨p.b, p.d + o, none⟩)) =
                    some (if M' = L then ⟨p.b, p.d + o, none⟩ else (⟨p.b, p.d + o, none⟩ : Addr).add (L * n)) := by split <;> rfl
                rw [hH0, hM0, ea]
                refine .slce b (o + L * n) p _ (M' - L) hp ?_
                rcases hMM with ⟨e1, e3, rfl⟩ | ⟨e1, rfl, e2⟩
                · unfold capOK at hk
                  split at hk
                  · rename_i hcnd
                    have hsn := hs hcnd.2
                    by_cases hz : M' = L
                    · left; omega
                    · right
                      rw [if_neg hz, add_none]
                      have e4 : o + L * n = p.n := by rw [← hML, e3, ← hsn]; exact hcnd.1
                      refine ⟨hcnd.2, e4, by congr 1; omega, ?_⟩
                      rw [show M' - L = M' - cap by omega]; exact hk.2
                  · left; omega
                · left; omega
            · have hM0 : M = 0 := by rcases hMM with ⟨_, e3, _⟩ | ⟨_, _, e3⟩ <;> omega
              have hL0 : L = 0 := by omega
              have hH0 : H = 0 := by omega
              subst hM0; subst hL0; subst hH0
              simp only [Nat.zero_mul, Nat.add_zero, Nat.sub_zero, Option.map_some]
              have ea : a'.add 0 = a' := rfl
              rw [ea]
              have : (if M' = 0 then some a' else some a') = some a' := by split <;> rfl
              rw [this]
              refine .slce b o p a' M' hp ?_
              rcases hMM with ⟨_, _, rfl⟩ | ⟨_, rfl, _⟩
              · exact hz
              · exact .inl rfl
          cases hx with
          | slc b o _ _ c' p hp hc hn' hk => exact main b o p _ c' rfl hp rfl (.inl ⟨hc, hn', rfl, hk⟩)
          | slce b o p a' c' hp hk => exact main b o p a' c' rfl hp rfl (.inr ⟨rfl, rfl, hk⟩)
  · rename_i k e a0 hu
    simp only [Option.bind_eq_some_iff] at h
    obtain ⟨M, h1, H, h2, L, h3, n, hn, r, hrow, h4⟩ := h
    cases hl : r.loose with
    | true => rw [hl] at h4; cases h4
    | false =>
      rw [hl] at h4
      simp only [cond_false, Option.some.injEq] at h4
      subst h4
      have hsome : mx' ≠ none → hi' ≠ none := by
        intro hne he
        have hmn : mx ≠ none := fun e => hne (hmx.none_iff.2 e)
        have hhn : hi = none := hhi.none_iff.1 he
        subst hhn
        cases mx with
        | none => exact hmn rfl
        | some m => simp at h2
      have h2' : bound hi k M = some H := by
        cases mx with
        | none => exact h2
        | some m =>
          cases hi with
          | none => simp at h2
          | some v => exact h2
      cases hx with
      | ptr b o p hp =>
        have hro := St.row_eq.1 hrow
        obtain ⟨hex, hn5, hn6, hn7, hn8⟩ := hr.row b r p hro hp
        have hx0 := (hn6 hl).2
        have hh := run_bounds (P := P) (g := false) (bound_BX hmx h1) hsome (bound_BX hhi h2') (bound_BX hlo h3) w
        have hLH := (bound_BX hlo h3).le (Nat.zero_le _)
        have hMk := (bound_BX hmx h1).le (Nat.le_refl _)
        have hHM : H ≤ M := by
          rcases bound_BX hhi h2' with ⟨e1, e2⟩ | ⟨k, i, e1, a1, a2, e2⟩
          · rcases bound_BX hmx h1 with ⟨e3, e4⟩ | ⟨k, i, e3, _⟩
            · omega
            · exact absurd e1 (hsome (by rw [e3]; simp))
          · omega
        refine ⟨.slice (some (if M = L then ⟨p.b, p.d + o, none⟩ else (⟨p.b, p.d + o, none⟩ : Addr).add (L * n))) (H - L) (M - L), by simp [Instr.sliceAt, run_underlying hu, Instr.sureAddr, hh, run_sizeOfN hn], ?_⟩
        simp only [addrAdd]
        by_cases hLM : L < M
        · rw [if_neg (by omega), add_none, show p.d + o + L * n = p.d + (o + L * n) by omega]
          exact .slc b (o + L * n) (H - L) (M - L) (M - L) p hp (by omega) (by omega) (by unfold capOK; rw [if_neg (by simp [hx0])])
        · have hH0 : H - L = 0 := by omega
          have hM0 : M - L = 0 := by omega
          rw [hH0, hM0]
          exact .slce b (o + L * n) p _ 0 hp (.inl rfl)
  · cases h
end Go.Am
