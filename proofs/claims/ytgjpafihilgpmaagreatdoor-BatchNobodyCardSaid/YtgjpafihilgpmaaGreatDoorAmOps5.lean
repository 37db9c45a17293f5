/-
  A part of the proof that the run of an abstract machine, which the kernel can run, is what the program does under its model: no condition of its own.
-/
import Derived.Test.YtgjpafihilgpmaaGreatDoorAmOps4
import Derived.Lib.UnsafeStr
set_option linter.unusedVariables false
set_option linter.unusedSimpArgs false
set_option maxHeartbeats 1000000
namespace Go.Am
open Go
variable {P : Program} {ρ : Rho} {σ : St} {w : World} {a : Act} {fr : Fr}

theorem evOp_sim (hg : GRel ρ) (hf : FRel ρ fr a.tmps) {x : Option Operand} {v : Option Value} (h : evOp fr x = some v) : OR ρ v (x.map a.eval) := by
  cases x with
  | none => simp [evOp] at h; subst h; trivial
  | some x =>
    simp only [evOp, Option.map_eq_some_iff] at h
    obtain ⟨u, h1, rfl⟩ := h
    exact evO_sim hg hf h1

/-! ## maps -/
theorem keyEq_sim {kd : TypeDesc} {k k' e e' : Value} {b : Bool} (hk : VR ρ k k') (he : VR ρ e e') (h : keyEq kd k e = some b) : Instr.sameNow kd k' e' = some b := by
  unfold keyEq at h
  split at h
  · cases hk; cases he
    split at h
    · rename_i hq; subst hq; cases h; simp [Instr.sameNow]
    · cases h
  · cases hk; cases he; cases h
    simp [Instr.sameNow, beq_toListBytes, ByteArray.toList_eq]
  · cases h
def FoundAt (ρ : Rho) (r : Option Value) (x : Option (Option (Nat × Value))) : Prop :=
  match r with
  | none => x = some none
  | some v => ∃ j v', x = some (some (j, v')) ∧ VR ρ v v'
theorem findK_sim {kd : TypeDesc} {k k' : Value} (hk : VR ρ k k') {es es' : List MapEntry} (he : EL ρ es es') : ∀ {r : Option Value}, findK kd k es = some r → ∀ i, FoundAt ρ r (Instr.findNow kd k' es' i) := by
  induction he with
  | nil => intro r h i; simp [findK] at h; subst h; rfl
  | @cons e e' l l' her hl ih =>
    intro r h i
    simp only [findK] at h
    split at h
    · rename_i hq
      cases h
      have := keyEq_sim hk her.1 hq
      exact ⟨i, e'.val, by simp [Instr.findNow, this], her.2.1⟩
    · rename_i hq
      have := keyEq_sim hk her.1 hq
      simp only [Instr.findNow, this]
      exact ih h (i + 1)
    · cases h
theorem run_checkKey {kt : TypeId} {kd : TypeDesc} (hu : P.underlying kt = some kd) (hkd : plainKey kd = true) (e : Bool) (k : Value) (w : World) : (Instr.checkKey e 10000 kt k).run P w = .ok () w := by
  have : ∀ n, (Instr.checkKey e (n + 1) kt k).run P w = .ok () w := fun n => by
    unfold Instr.checkKey
    rw [run_bindR _ _ w w (run_underlying hu w)]
    cases kd <;> first | (cases hkd; done) | rfl
  exact this 9999
theorem run_findKey {kt : TypeId} {kd : TypeDesc} (hu : P.underlying kt = some kd) {k : Value} {es : List MapEntry} {r : Option (Nat × Value)} (h : Instr.findNow kd k es 0 = some r) (w : World) : (Instr.findKey kt k es).run P w = .ok r w := by
  unfold Instr.findKey
  rw [run_bindR _ _ w w (run_underlying hu w), h]
  rfl
theorem getObj_map {w : World} {r : Nat} {es : Array MapEntry} {c : Nat} (h : w.heap[r]? = some (.map es c)) : (getObj r).run P w = .ok (.map es c) w := by
  simp [getObj, Sem.run, h]

theorem lookup_fin {t kt et : TypeId} {kd : TypeDesc} {z m' k k' v : Value} {ok : Bool} {es : List MapEntry} {es' : Array MapEntry}
    (ht : P.underlying t = some (.map kt et)) (hk : P.underlying kt = some kd) (hkd : plainKey kd = true) (hz : zeroV P et = some z) (hkk : VR ρ k k') (hes : EL ρ es es'.toList)
    (hm : (m' = .map none ∧ es' = #[]) ∨ ∃ r c, m' = .map (some r) ∧ w.heap[r]? = some (.map es' c))
    (h : (findK kd k es).map (lookV ok z) = some v) : ∃ v', (Instr.lookup t m' k' ok).run P w = .ok v' w ∧ VR ρ v v' := by
  obtain ⟨hz1, hz2⟩ := run_zeroV hz w
  simp only [Option.map_eq_some_iff] at h
  obtain ⟨r, h1, h2⟩ := h
  have hfind := findK_sim hkk hes h1 0
  have fin : ∀ (x : Option (Nat × Value)) (u : Value) (g : Bool), Instr.findNow kd k' es'.toList 0 = some x → (match x with | some (_, v) => pure (v, true) | none => (do pure (← zeroValue et, false)) : Sem (Value × Bool)).run P w = .ok (u, g) w →
      (Instr.lookup t m' k' ok).run P w = .ok (if ok then .tuple #[u, .bool g] else u) w := by
    intro x u g hx hu
    unfold Instr.lookup
    rw [run_bindR _ _ w w (run_underlying ht w)]
    rcases hm with ⟨rfl, rfl⟩ | ⟨r, c, rfl, hr⟩
    · simp only
      rw [run_bindR _ _ w w (x := (#[] : Array MapEntry)) rfl, run_bindR _ _ w w (run_checkKey hk hkd _ _ w), run_bindR _ _ w w (run_findKey hk hx w)]
      cases x with
      | none => simp only at hu ⊢; rw [Sem.run_bind] at hu ⊢; rw [hz1] at hu ⊢; cases hu; rfl
      | some y => cases hu; rfl
    · simp only
      rw [run_bindR _ _ w w (getObj_map hr)]
      simp only
      rw [run_bindR _ _ w w (x := es') rfl, run_bindR _ _ w w (run_checkKey hk hkd _ _ w), run_bindR _ _ w w (run_findKey hk hx w)]
      cases x with
      | none => simp only at hu ⊢; rw [Sem.run_bind] at hu ⊢; rw [hz1] at hu ⊢; cases hu; rfl
      | some y => cases hu; rfl
  cases r with
  | none =>
    refine ⟨_, fin none z false hfind (by simp [hz1]), ?_⟩
    simp only [lookV] at h2
    cases ok
    · simp only [cond_false] at h2; subst h2; exact constV_VR hz2
    · simp only [cond_true] at h2; subst h2; exact .tupleL (.cons (constV_VR hz2) (.cons (.bool false) (.nil ρ)))
  | some u =>
    obtain ⟨j, u', g1, g2⟩ := hfind
    refine ⟨_, fin (some (j, u')) u' true g1 rfl, ?_⟩
    simp only [lookV] at h2
    cases ok
    · simp only [cond_false] at h2; subst h2; exact g2
    · simp only [cond_true] at h2; subst h2; exact .tupleL (.cons g2 (.cons (.bool true) (.nil ρ)))

theorem lookup_sim (hr : Rel P ρ σ w.heap) {t kt et : TypeId} {kd : TypeDesc} {z m m' k k' v : Value} {ok : Bool} {es : List MapEntry}
    (ht : P.underlying t = some (.map kt et)) (hk : P.underlying kt = some kd) (hkd : plainKey kd = true) (hz : zeroV P et = some z) (hm : VR ρ m m') (hkk : VR ρ k k')
    (he : entriesOf σ m = some es) (h : (findK kd k es).map (lookV ok z) = some v) : ∃ v', (Instr.lookup t m' k' ok).run P w = .ok v' w ∧ VR ρ v v' := by
  unfold entriesOf at he
  split at he
  · cases hm; cases he
    exact lookup_fin (es' := #[]) ht hk hkd hz hkk .nil (.inl ⟨rfl, rfl⟩) h
  · rename_i r
    simp only [Option.map_eq_some_iff] at he
    obtain ⟨⟨es0, c⟩, h3, rfl⟩ := he
    cases hm with
    | map _ p hp =>
      obtain ⟨es', h4, h5⟩ := hr.mp r es0 c p (St.map_eq.1 h3) hp
      exact lookup_fin ht hk hkd hz hkk h5 (.inr ⟨p.b, c, rfl, h4⟩) h
  · cases he

theorem EL.length {l l' : List MapEntry} (h : EL ρ l l') : l.length = l'.length := by
  induction h with
  | nil => rfl
  | cons _ _ ih => simp [ih]

/-- the built-in len, cap and unsafe.SliceData -/
theorem readB_sim (hr : Rel P ρ σ w.heap) {b : Builtin} {ts : Array TypeId} {us us' : List Value} {v : Value} (hl : VL ρ us us') (h : readB P σ b ts.toList us = some v) (type : TypeId) (consts : Array Bool) :
    ∃ v', (builtin b ts type consts us'.toArray).run P w = .ok (.value v') w ∧ VR ρ v v' := by
  unfold readB at h
  split at h
  · rename_i t tl x hts
    have ha : ts[0]? = some t := by rw [← Array.getElem?_toList, hts]; rfl
    obtain ⟨x', l', rfl, hx, hl'⟩ := hl.uncons
    rw [hl'.unnil]
    have fin : ∀ v' : Value, (Builtin.len_ ts type #[x']).run P w = .ok v' w → VR ρ v v' → ∃ v', (builtin .len ts type consts [x'].toArray).run P w = .ok (.value v') w ∧ VR ρ v v' :=
      fun v' hv1 hv2 => ⟨v', by simp only [builtin]; rw [run_bindR _ _ w w hv1]; rfl, hv2⟩
    split at h
    · rename_i hu; cases h; cases hx
      exact fin _ (by simp [Builtin.len_, ha, run_underlying hu]; rfl) (.int _ _)
    · rename_i hu; cases h
      cases hx <;> exact fin _ (by simp [Builtin.len_, ha, run_underlying hu]; rfl) (.int _ _)
    · rename_i n e hu; cases h
      exact fin (goInt n) (by simp [Builtin.len_, ha, run_underlying hu]) (.int _ _)
    · rename_i hu; cases h; cases hx
      exact fin _ (by simp [Builtin.len_, ha, run_underlying hu]; rfl) (.int _ _)
    · rename_i r hu
      simp only [Option.map_eq_some_iff] at h
      obtain ⟨⟨es, cl⟩, h3, rfl⟩ := h
      cases hx with
      | map r p hp =>
        obtain ⟨es', h4, h5⟩ := hr.mp r es cl p (St.map_eq.1 h3) hp
        have hln := h5.length
        exact fin (goInt es'.size) (by simp [Builtin.len_, ha, run_underlying hu, getObj_map h4]) (by simp only; rw [show es.length = es'.size by rw [hln]; simp]; exact .int _ _)
    · cases h
  · rename_i t tl x hts
    have ha : ts[0]? = some t := by rw [← Array.getElem?_toList, hts]; rfl
    obtain ⟨x', l', rfl, hx, hl'⟩ := hl.uncons
    rw [hl'.unnil]
    have fin : ∀ v' : Value, (Builtin.cap_ ts type #[x']).run P w = .ok v' w → VR ρ v v' → ∃ v', (builtin .cap ts type consts [x'].toArray).run P w = .ok (.value v') w ∧ VR ρ v v' :=
      fun v' hv1 hv2 => ⟨v', by simp only [builtin]; rw [run_bindR _ _ w w hv1]; rfl, hv2⟩
    split at h
    · rename_i hu; cases h; cases hx
      exact fin _ (by simp [Builtin.cap_, ha, run_underlying hu]; rfl) (.int _ _)
    · rename_i e a0 ln n hu
      simp only [Option.bind_eq_some_iff] at h
      obtain ⟨esz, hs, h2⟩ := h
      cases hel : (fitsElem P σ a0 esz && !atEnd σ a0 n esz && !Nat.beq n 0) with
      | false => rw [hel] at h2; cases h2
      | true =>
        rw [hel] at h2; simp only [cond_true, Option.some.injEq] at h2; subst h2
        simp only [Bool.and_eq_true, Bool.not_eq_true'] at hel
        obtain ⟨⟨hfe, hend⟩, hn0⟩ := hel
        cases hx with
        | slc b o _ _ c' p hp hc hn' hk =>
          have hcc : c' = n := by
            unfold capOK at hk
            split at hk
            · rename_i hcnd
              unfold fitsElem at hfe
              unfold atEnd at hend
              cases hrow : σ.row? b with
              | none => simp [hrow] at hfe
              | some r =>
                simp only [hrow] at hfe hend
                obtain ⟨_, hn5, hn6, hn7, _⟩ := hr.row b r p (St.row_eq.1 hrow) hp
                have hl : r.loose = true := by
                  cases hl : r.loose with
                  | true => rfl
                  | false => exact absurd (hn6 hl).2 hcnd.2
                rw [hl] at hfe
                simp only [Bool.not_true, Bool.false_or, (hn7 hcnd.2).2] at hfe
                have hse : p.s = esz := Nat.eq_of_beq_eq_true hfe
                unfold endLoose at hend
                rw [hl] at hend
                simp only [Bool.true_and] at hend
                rw [← hn5, ← hcnd.1, hse] at hend
                simp at hend
            · exact hk
          subst hcc
          exact fin (goInt c') (by simp [Builtin.cap_, ha, run_underlying hu]) (.int _ _)
        | slce b o p a' c' hp hk => simp at hn0
    · cases h
  · obtain ⟨x', l', rfl, hx, hl'⟩ := hl.uncons
    rw [hl'.unnil]
    cases h; cases hx
    exact ⟨.pointer none, by simp only [builtin]; rfl, .ptr0⟩
  · obtain ⟨x', l', rfl, hx, hl'⟩ := hl.uncons
    rw [hl'.unnil]
    cases h
    cases hx with
    | slc b o _ _ c' p hp hc hn' hk =>
      have hc' := capOK_le hk
      refine ⟨.pointer (some ⟨p.b, p.d + o, none⟩), ?_, .ptr b o p hp⟩
      simp only [builtin]
      rw [run_bindR _ _ w w (Lib.run_unsafeSliceData_row w ts type _ _ c' (by omega))]
      rfl
  · cases h

theorem opRead_sim (hr : Rel P ρ σ w.heap) (hf : FRel ρ fr a.tmps) {o : Oper} {v : Value} (h : opRead P o.op fr σ = some v) : ∃ v', Yields P o a w v' w ∧ VR ρ v v' := by
  have hg := hr.g
  obtain ⟨dst, op, type, pos, after, guard⟩ := o
  simp only at h
  cases op with
  | load t x =>
    simp only [opRead, Option.bind_eq_some_iff] at h
    obtain ⟨u, h1, h2⟩ := h
    have hc := evO_sim hg hf h1
    generalize hx : a.eval x = x' at hc
    split at h2
    · cases hc with
      | ptr b o p hp =>
        obtain ⟨v', g1, g2⟩ := loadT_sim hr h2 hp
        exact ⟨v', .of _ a w (s := Instr.loadAt t (.pointer (some ⟨p.b, p.d + o, none⟩))) (by simp only [execOp, hx]) (by simp [Instr.loadAt, Instr.sureAddr, g1]), g2⟩
    · cases h2
  | binOp op t x y yt =>
    simp only [opRead, Option.bind_eq_some_iff] at h
    obtain ⟨u, h1, u2, h2, h3⟩ := h
    have hc := evO_sim hg hf h1
    have hd := evO_sim hg hf h2
    generalize hx : a.eval x = x' at hc
    generalize hy : a.eval y = y' at hd
    have fin : ∀ (v : Value), (binOp op t x' y').run P w = .ok v w → (eqGuard op t x y x' y').run P w = .ok () w → Yields P ⟨dst, .binOp op t x y yt, type, pos, after, guard⟩ a w v w := by
      intro v hb he
      refine .of _ a w (s := (do eqGuard op t x y x' y'; binOp op t x' y')) (by simp only [execOp, hx, hy]) ?_
      rw [run_bindR _ _ w w he, hb]
    split at h3
    · split at h3
      · rename_i hk
        subst hk
        cases hc; cases hd
        have hop : op ≠ .shl ∧ op ≠ .shr := by
          constructor <;> (rintro rfl; simp [intOp] at h3)
        obtain ⟨g1, g2⟩ := intOp_sim (ρ := ρ) h3 hop t w
        exact ⟨_, fin _ g1 (eqGuard_int _ _ _ _ _ _ _ _ _), g2⟩
      · cases h3
    · cases hc; cases hd
      obtain ⟨g1, g2⟩ := strOp_sim (ρ := ρ) h3 t w
      exact ⟨_, fin _ g1 (eqGuard_str _ _ _ _ _ _ _), g2⟩
    · rename_i hni hns
      -- what '==' tells
      have core : ∀ b, eqV P σ 40 t u u2 = some b → (Op.equal t x' y').run P w = .ok b w ∧ (isNum x' = false ∨ isNum y' = false) := by
        intro b hb
        refine ⟨eqV_sim hr 40 hb hc hd (by simp [Op.maxDepth]), .inl ?_⟩
        rcases eqV_num hb with ⟨e1, e2⟩ | ⟨k, m, k', n, rfl, rfl⟩ | ⟨m, n, rfl, rfl⟩
        · exact hc.isNum e1 e2
        · exact (hni _ _ _ _ rfl rfl).elim
        · exact (hns _ _ rfl rfl).elim
      have nilx : ∀ b, eqV P σ 40 t u u2 = some b → x' = .nilIface → y' = .nilIface → ∃ ms, P.underlying t = some (.interface ms) := by
        intro b hb e1 e2
        subst e1; subst e2
        have : u = .nilIface := by
          cases hc with
          | any v h => rcases eqV_num hb with ⟨_, e⟩ | ⟨_, _, _, _, e, _⟩ | ⟨_, _, e, _⟩ <;> first | exact absurd rfl e | cases e
          | nilIface => rfl
        subst this
        have : u2 = .nilIface ∨ u2 = .chan none := by cases hd <;> simp
        rcases this with rfl | rfl
        · exact eqV_nil hb
        · simp [eqV] at hb
      have guardOK : ∀ b, eqV P σ 40 t u u2 = some b → (P.eqGuardType P.depth t = true → ¬ (u = .nilIface ∧ u2 = .nilIface) ∧ ∀ cs ds, ¬ (u = .agg cs ∧ u2 = .agg ds)) → (eqGuard op t x y x' y').run P w = .ok () w := by
        intro b hb hq
        cases hgt : P.eqGuardType P.depth t with
        | false => exact eqGuard_sim hgt (nilx b hb) w
        | true =>
          obtain ⟨q1, q2⟩ := hq hgt
          have back1 : ∀ (z z' : Value), VR ρ z z' → z ≠ .chan none → z' = .nilIface → z = .nilIface := by
            intro z z' hz hzc e
            subst e
            cases hz with
            | any => exact absurd rfl hzc
            | nilIface => rfl
          have back2 : ∀ (z z' : Value), VR ρ z z' → z ≠ .chan none → ∀ cs, z' = .agg cs → ∃ ds, z = .agg ds := by
            intro z z' hz hzc cs e
            subst e
            cases hz with
            | any => exact absurd rfl hzc
            | agg x _ _ _ => exact ⟨x, rfl⟩
          have hu1 : u ≠ .chan none := by rcases eqV_num hb with ⟨_, e⟩ | ⟨_, _, _, _, e, _⟩ | ⟨_, _, e, _⟩ <;> first | exact e | (rw [e]; simp)
          have hu2 : u2 ≠ .chan none := by rintro rfl; simp [eqV] at hb
          refine eqGuard_else ?_ ?_ w
          · rintro ⟨e1, e2⟩
            exact q1 ⟨back1 _ _ hc hu1 e1, back1 _ _ hd hu2 e2⟩
          · rintro cs ds ⟨e1, e2⟩
            obtain ⟨c1, f1⟩ := back2 _ _ hc hu1 _ e1
            obtain ⟨c2, f2⟩ := back2 _ _ hd hu2 _ e2
            exact q2 _ _ ⟨f1, f2⟩
      split at h3
      · -- eql
        cases hgt : P.eqGuardType P.depth t with
        | false =>
          rw [hgt] at h3
          simp only [cond_false, Option.map_eq_some_iff] at h3
          obtain ⟨b, hb, rfl⟩ := h3
          obtain ⟨g1, g2⟩ := core b hb
          refine ⟨_, fin _ ?_ (guardOK b hb (by simp [hgt])), .bool b⟩
          rw [binOp_eql_of g2, run_bindR _ _ w w g1]; rfl
        | true =>
          rw [hgt] at h3
          simp only [cond_true] at h3
          split at h3
          · cases h3
          · cases h3
          · rename_i q1 q2
            simp only [Option.map_eq_some_iff] at h3
            obtain ⟨b, hb, rfl⟩ := h3
            obtain ⟨g1, g2⟩ := core b hb
            refine ⟨_, fin _ ?_ (guardOK b hb (fun _ => ⟨fun e => q1 e.1 e.2, fun cs ds e => q2 _ _ e.1 e.2⟩)), .bool b⟩
            rw [binOp_eql_of g2, run_bindR _ _ w w g1]; rfl
      · cases hgt : P.eqGuardType P.depth t with
        | false =>
          rw [hgt] at h3
          simp only [cond_false, Option.map_eq_some_iff] at h3
          obtain ⟨b, hb, rfl⟩ := h3
          obtain ⟨g1, g2⟩ := core b hb
          refine ⟨_, fin _ ?_ (guardOK b hb (by simp [hgt])), .bool !b⟩
          rw [binOp_neq_of g2, run_bindR _ _ w w g1]; rfl
        | true =>
          rw [hgt] at h3
          simp only [cond_true] at h3
          split at h3
          · cases h3
          · cases h3
          · rename_i q1 q2
            simp only [Option.map_eq_some_iff] at h3
            obtain ⟨b, hb, rfl⟩ := h3
            obtain ⟨g1, g2⟩ := core b hb
            refine ⟨_, fin _ ?_ (guardOK b hb (fun _ => ⟨fun e => q1 e.1 e.2, fun cs ds e => q2 _ _ e.1 e.2⟩)), .bool !b⟩
            rw [binOp_neq_of g2, run_bindR _ _ w w g1]; rfl
      · cases h3
  | convert s d x =>
    simp only [opRead, Option.bind_eq_some_iff] at h
    obtain ⟨u, h1, h2⟩ := h
    have hc := evO_sim hg hf h1
    generalize hx : a.eval x = x' at hc
    have fin : ∀ v : Value, (Go.convert s d x').run P w = .ok v w → Yields P ⟨dst, .convert s d x, type, pos, after, guard⟩ a w v w := fun v hv =>
      .of _ a w (s := Go.convert s d x') (by simp only [execOp, hx]) hv
    split at h2
    · rename_i e hs hd
      split at h2
      · rename_i he
        cases h2; cases hc
        refine ⟨_, fin (.string .empty) ?_, .string _⟩
        rw [run_convert_bytes_string w s d e _ _ _ hs he hd]
        rfl
      · rename_i a0 n c he
        simp only [Option.bind_eq_some_iff, Option.map_eq_some_iff] at h2
        obtain ⟨cs, h3, l, h4, rfl⟩ := h2
        have fin2 : ∀ (b o : Nat) (p : Pl) (a' : Addr) (c' : Nat), a0 = ⟨b, o, none⟩ → ρ b = some p → x' = .slice (some a') n c' → (n = 0 ∨ a' = ⟨p.b, p.d + o, none⟩) → ∃ v', Yields P ⟨dst, .convert s d x, type, pos, after, guard⟩ a w v' w ∧ VR ρ (.string ⟨l.toArray⟩) v' := by
          intro b o p a' c' ha hp hxx hor
          subst ha
          obtain ⟨cs', k1, k2, k3⟩ := loadCs_sim hr h3 hp
          obtain ⟨ns, rfl, rfl⟩ := unbytes_sim k1 h4
          refine ⟨_, fin (.string ⟨(ns.map fun n => UInt8.ofNat n.toNat).toArray⟩) ?_, .string _⟩
          rw [hxx, run_convert_bytes_string w s d e _ _ _ hs he hd]
          have hload : (loadCells a' n).run P w = .ok (ns.map (Value.int .u8)).toArray w := by
            rcases hor with rfl | rfl
            · have : ns = [] := by simpa using k2
              subst this; rfl
            · exact run_loadCells_len k2 k3
          rw [run_bytesToString w a' n c' ns hload, foldl_push]
          congr 3
          simp
        cases hc with
        | slc b o _ _ c' p hp hc hn' hk => exact fin2 b o p _ c' rfl hp rfl (.inr rfl)
        | slce b o p a' c' hp hk => exact fin2 b o p a' c' rfl hp rfl (.inl rfl)
      · cases h2
    · rename_i u0 a0 hs hd
      split at h2
      · rename_i r n hsp hrow hsz
        cases hb : Nat.blt a0.off r.cs.length with
        | false => rw [hb] at h2; cases h2
        | true =>
          rw [hb] at h2; simp only [cond_true, Option.some.injEq] at h2; subst h2
          cases hc with
          | ptr b o p hp =>
            obtain ⟨⟨C, fr, g1, g2, g3, g4⟩, g5, g6, g7, g8⟩ := hr.row b r p (St.row_eq.1 hrow) hp
            have hlt : o < r.cs.length := by have := hb; rw [Nat.blt_eq] at this; exact this
            refine ⟨_, fin (.pointer (some ⟨p.b, p.d + o, none⟩)) ?_, .ptr b o p hp⟩
            have hsee : (Conv.seenAt ⟨p.b, p.d + o, none⟩).run P w = .ok ⟨p.b, p.d + o, none⟩ w := by simp [Conv.seenAt, run_viewAt g1]
            have hci : (cellsIn p.b).run P w = .ok (some C.size) w := by simp [cellsIn, shape_at g1]
            have hnn : ¬ C.size ≤ p.d + o := by omega
            have hsz' := run_sizeOfN hsz w
            have hz : ¬ (n + 1 = 0) := by omega
            simp [Go.convert, run_underlying hs, run_underlying hd, Conv.unsafePointer, hsee, hci, hsz', hnn]
      · cases h2
    · rename_i u0 a0 hs hd
      split at h2
      · rename_i r n hsp hrow hsz
        cases hb : (Nat.beq r.elem u0 && !r.loose && Nat.beq a0.off 0 && Nat.beq r.cs.length (n + 1)) with
        | false => rw [hb] at h2; cases h2
        | true =>
          rw [hb] at h2; simp only [cond_true, Option.some.injEq] at h2; subst h2
          simp only [Bool.and_eq_true, Bool.not_eq_true'] at hb
          obtain ⟨⟨⟨b1, b2⟩, b3⟩, b4⟩ := hb
          have b1 := Nat.eq_of_beq_eq_true b1
          have b3 := Nat.eq_of_beq_eq_true b3
          have b4 := Nat.eq_of_beq_eq_true b4
          cases hc with
          | ptr b o p hp =>
            simp only at b3
            subst b3
            obtain ⟨⟨C, fr, g1, g2, g3, g4⟩, g5, g6, g7, g8⟩ := hr.row b r p (St.row_eq.1 hrow) hp
            obtain ⟨hd0, hx0⟩ := g6 b2
            refine ⟨_, fin (.pointer (some ⟨p.b, p.d + 0, none⟩)) ?_, .ptr b 0 p hp⟩
            have hsee : (Conv.seenAt ⟨p.b, p.d + 0, none⟩).run P w = .ok ⟨p.b, p.d + 0, none⟩ w := by simp [Conv.seenAt, run_viewAt g1]
            have hsz' := run_sizeOfN hsz w
            have hcell : P.cellsOf u0 = n + 1 := by
              unfold sizeN at hsz
              unfold Program.cellsOf
              rw [hsz]; rfl
            have hvar : (variablesAt ⟨p.b, p.d + 0, none⟩ u0 1).run P w = .ok true w := by
              have hC : C.size = n + 1 := by omega
              have hdep : P.depth = (2 * (P.types.size + Made.depth) + 1) + 1 := rfl
              have hlies : liesAt P P.depth u0 (C.size / P.cellsOf u0) 0 u0 1 = true := by
                rw [hC, hcell, Nat.div_self (by omega), hdep]
                simp only [liesAt, Bool.or_eq_true]
                left
                rw [hdep]
                simp [rowAt, hcell, sameLayout]
              have hsh := shape_at g1
              rw [b1] at hsh
              simp [variablesAt, hsh, hd0, hlies]
            simp only [Go.convert]
            rw [run_bindR _ _ w w (run_underlying hs w), run_bindR _ _ w w (run_underlying hd w)]
            simp only [Conv.unsafePointer]
            rw [run_bindR _ _ w w (run_underlying hs w), run_bindR _ _ w w (run_underlying hd w)]
            simp only
            rw [run_bindR _ _ w w hsee, run_bindR _ _ w w hsz', run_bindR _ _ w w hvar]
            simp
      · cases h2
    · cases h2
  | slice t x lo hi mx =>
    simp only [opRead, Option.bind_eq_some_iff] at h
    obtain ⟨u, h1, l, h2, hh, h3, m, h4, h5⟩ := h
    obtain ⟨v', g1, g2⟩ := sliceV_sim hr (evO_sim hg hf h1) (evOp_sim hg hf h2) (evOp_sim hg hf h3) (evOp_sim hg hf h4) h5
    exact ⟨v', .of _ a w (s := Instr.sliceAt t (a.eval x) (lo.map a.eval) (hi.map a.eval) (mx.map a.eval)) rfl g1, g2⟩
  | lookup t x k ok =>
    simp only [opRead, Option.bind_eq_some_iff] at h
    obtain ⟨m, h1, kk, h2, h3⟩ := h
    split at h3
    · rename_i kt et hu
      simp only [Option.bind_eq_some_iff] at h3
      obtain ⟨kd, hk, z, hz, es, he, h4⟩ := h3
      cases hp : plainKey kd with
      | false => rw [hp] at h4; cases h4
      | true =>
        rw [hp] at h4
        obtain ⟨v', g1, g2⟩ := lookup_sim hr hu hk hp hz (evO_sim hg hf h1) (evO_sim hg hf h2) he h4
        exact ⟨v', .of _ a w (s := Instr.lookup t (a.eval x) (a.eval k) ok) rfl g1, g2⟩
    · cases h3
  | call c =>
    simp only [opRead, Option.bind_eq_some_iff] at h
    obtain ⟨us, h1, h2⟩ := h
    have hl := evL_sim hg hf h1
    split at h2
    · rename_i b hcal
      obtain ⟨v', g1, g2⟩ := readB_sim hr hl h2 type (c.args.map fun | .const _ => true | _ => false)
      refine ⟨v', .inl ?_, g2⟩
      show (do let d ← resolve a.eval c type; invoke d.target d.args : Sem Next).run P w = _
      rw [run_resolve_builtin _ c _ hcal]
      have e : (c.args.map a.eval) = (c.args.toList.map a.eval).toArray := by apply Array.ext'; simp
      rw [e]
      exact g1
    · cases h2
  | _ => simp [opRead] at h
end Go.Am
