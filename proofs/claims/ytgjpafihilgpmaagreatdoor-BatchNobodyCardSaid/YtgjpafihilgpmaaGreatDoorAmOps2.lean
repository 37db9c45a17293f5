/-
  A part of the proof that the run of an abstract machine, which the kernel can run, is what the program does under its model: no condition of its own.
-/
import Derived.Test.YtgjpafihilgpmaaGreatDoorAmOps1
set_option linter.unusedVariables false
set_option linter.unusedSimpArgs false
namespace Go.Am
open Go
variable {P : Program} {ρ : Rho} {σ : St} {w : World} {a : Act} {fr : Fr}

/-- the operation yields a value -/
def Yields (P : Program) (o : Oper) (a : Act) (w : World) (v' : Value) (w' : World) : Prop :=
  (execOp a.eval o).run P w = .ok (.value v') w' ∨ ((execOp a.eval o).run P w = .ok .skip w' ∧ v' = undef)
theorem Yields.of (o : Oper) (a : Act) (w : World) {v' : Value} {w' : World} {s : Sem Value} (ho : execOp a.eval o = (do pure (.value (← s)))) (hs : s.run P w = .ok v' w') : Yields P o a w v' w' :=
  .inl (by rw [ho]; simp [Sem.run_bind, hs])

theorem bestOf_max {k : IntKind} : ∀ {l l' : List Value} {x n : Int} (w : World), VL ρ l l' → bestOf (fun x y => y > x) k x l = some n → (l'.foldlM Builtin.max2 (.int k x)).run P w = .ok (.int k n) w
  | [], l', x, n, w, hl, h => by rw [hl.unnil]; simp [bestOf] at h; subst h; rfl
  | v :: l, l', x, n, w, hl, h => by
    obtain ⟨v', l'', rfl, hv, hl'⟩ := hl.uncons
    cases hv with
    | int k' y =>
      simp only [bestOf] at h
      split at h
      · rename_i hk
        subst hk
        have ih := bestOf_max w hl' h
        simp only [List.foldlM_cons, Sem.run_bind]
        have e : (Builtin.max2 (.int k x) (.int k y)).run P w = .ok (.int k (bif decide (y > x) then y else x)) w := by
          simp only [Builtin.max2]
          by_cases hc : y > x <;> simp [hc]
        rw [e]; exact ih
      · cases h
    | _ => simp [bestOf] at h
theorem bestOf_min {k : IntKind} : ∀ {l l' : List Value} {x n : Int} (w : World), VL ρ l l' → bestOf (fun x y => y < x) k x l = some n → (l'.foldlM Builtin.min2 (.int k x)).run P w = .ok (.int k n) w
  | [], l', x, n, w, hl, h => by rw [hl.unnil]; simp [bestOf] at h; subst h; rfl
  | v :: l, l', x, n, w, hl, h => by
    obtain ⟨v', l'', rfl, hv, hl'⟩ := hl.uncons
    cases hv with
    | int k' y =>
      simp only [bestOf] at h
      split at h
      · rename_i hk
        subst hk
        have ih := bestOf_min w hl' h
        simp only [List.foldlM_cons, Sem.run_bind]
        have e : (Builtin.min2 (.int k x) (.int k y)).run P w = .ok (.int k (bif decide (y < x) then y else x)) w := by
          simp only [Builtin.min2]
          by_cases hc : y < x <;> simp [hc]
        rw [e]; exact ih
      · cases h
    | _ => simp [bestOf] at h

theorem run_bindR {α β : Type} (s : Sem α) (f : α → Sem β) (w w' : World) {x : α} (h : s.run P w = .ok x w') : (s >>= f).run P w = (f x).run P w' := by
  rw [Sem.run_bind, h]; rfl

theorem run_resolve_builtin (ev : Operand → Value) (c : Call) (b : Builtin) (hc : c.callee = .builtin b) (type : TypeId) :
    (do let d ← resolve ev c type; invoke d.target d.args : Sem Next) = builtin b c.argTypes type (c.args.map fun | .const _ => true | _ => false) (c.args.map ev) := by
  unfold resolve
  rw [hc]
  rfl

theorem run_places {fs : List Field} {pl : List (Nat × Nat)} (h : placesOf P fs = some pl) (w : World) : (fs.mapM (m := Sem) fun f => do pure (f.offset, ← sizeOf f.type)).run P w = .ok pl w := by
  induction fs generalizing pl with
  | nil => simp [placesOf] at h; subst h; rfl
  | cons f l ih =>
    simp only [placesOf, Option.bind_eq_some_iff, Option.map_eq_some_iff] at h
    obtain ⟨n, hn, pl', h', rfl⟩ := h
    rw [List.mapM_cons, run_bindR _ _ w w (x := (f.offset, n)) (by simp [run_sizeOfN hn]), run_bindR _ _ w w (ih h')]
    rfl
theorem eqGuard_int (op : BinOp) (t : TypeId) (x y : Operand) (k k' : IntKind) (m n : Int) (w : World) : (eqGuard op t x y (.int k m) (.int k' n)).run P w = .ok () w := by cases op <;> rfl
theorem eqGuard_str (op : BinOp) (t : TypeId) (x y : Operand) (m n : ByteArray) (w : World) : (eqGuard op t x y (.string m) (.string n)).run P w = .ok () w := by cases op <;> rfl

theorem opPure_sim (hg : GRel ρ) (hf : FRel ρ fr a.tmps) {o : Oper} {v : Value} (h : opPure P o.op fr = some v) (w : World) : ∃ v', Yields P o a w v' w ∧ VR ρ v v' := by
  obtain ⟨dst, op, type, pos, after, guard⟩ := o
  simp only at h
  cases op with
  | move x => exact ⟨_, .inl rfl, evO_sim hg hf h⟩
  | assign x => exact ⟨_, .inl rfl, evO_sim hg hf h⟩
  | pick c x y =>
    simp only [opPure, Option.bind_eq_some_iff] at h
    obtain ⟨u, h1, h2⟩ := h
    have hc := evO_sim hg hf h1
    generalize hx : a.eval c = c' at hc
    split at h2
    · cases hc
      refine ⟨_, .inl ?_, evO_sim hg hf h2⟩
      simp only [execOp, hx]
      rfl
    · cases hc
      refine ⟨_, .inl ?_, evO_sim hg hf h2⟩
      simp only [execOp, hx]
      rfl
    · cases h2
  | build t ps =>
    simp only [opPure, Option.bind_eq_some_iff] at h
    obtain ⟨us, h1, z, h2, h3⟩ := h
    have hps := evPs_sim hg hf h1
    obtain ⟨zv, hz, hzl, hzc⟩ := run_zeroN h2 w
    have hzz : VL ρ z zv.cells.toList := by rw [hzl]; exact constL_VL hzc
    have hparts : (ps.map fun (i, x) => (i, a.eval x)).toList = ps.toList.map fun (i, x) => (i, a.eval x) := by simp
    split at h3
    · rename_i fs hu
      simp only [Option.bind_eq_some_iff, Option.map_eq_some_iff] at h3
      obtain ⟨pl, hpl, cs, h4, rfl⟩ := h3
      obtain ⟨cs', g1, g2⟩ := fill_sim _ hps hzz h4
      refine ⟨.agg cs', .of _ a w (s := Instr.build t (ps.map fun (i, x) => (i, a.eval x))) rfl ?_, ?_⟩
      · unfold Instr.build
        rw [run_bindR _ _ w w hz, run_bindR _ _ w w (run_underlying hu w)]
        have hm : (fs.mapM (m := Sem) fun f => do pure (f.offset, ← sizeOf f.type)).run P w = .ok pl.toArray w := by
          rw [Array.mapM_eq_mapM_toList, Sem.run_map, run_places hpl]
          rfl
        rw [run_bindR _ _ w w hm]
        have : (fun i : Nat => pl.toArray[i]?) = (fun i : Nat => pl[i]?) := by funext i; simp
        simp [hparts, this, g1]
      · exact .agg _ _ (by have := g2.1; simpa using this) (fun i v v' x y => g2.2 i v v' (by simpa using x) (by simpa using y))
    · rename_i k e hu
      simp only [Option.bind_eq_some_iff, Option.map_eq_some_iff] at h3
      obtain ⟨n, hn, cs, h4, rfl⟩ := h3
      obtain ⟨cs', g1, g2⟩ := fill_sim _ hps hzz h4
      refine ⟨.agg cs', .of _ a w (s := Instr.build t (ps.map fun (i, x) => (i, a.eval x))) rfl ?_, ?_⟩
      · simp [Instr.build, hz, run_underlying hu, run_sizeOfN hn, g1]
      · exact .agg _ _ (by have := g2.1; simpa using this) (fun i v v' x y => g2.2 i v v' (by simpa using x) (by simpa using y))
    · cases h3
  | nilCheck x =>
    simp only [opPure, Option.bind_eq_some_iff] at h
    obtain ⟨u, h1, h2⟩ := h
    have hc := evO_sim hg hf h1
    generalize hx : a.eval x = x' at hc
    split at h2
    · cases h2
      cases hc with
      | ptr b o p hp => exact ⟨_, .inl (by simp only [execOp, hx]; rfl), .ptr b o p hp⟩
    · cases h2
      cases hc with
      | func fn a a' b b' h1 h2 h3 h4 => exact ⟨_, .inl (by simp only [execOp, hx]; rfl), .func _ _ _ _ _ h1 h2 h3 h4⟩
    · cases h2
      cases hc with
      | iface t v v' hv => exact ⟨_, .inl (by simp only [execOp, hx]; rfl), .iface _ _ _ hv⟩
    · cases h2
  | binOp op t x y yt =>
    simp only [opPure, Option.bind_eq_some_iff] at h
    obtain ⟨u, h1, u2, h2, h3⟩ := h
    have hc := evO_sim hg hf h1
    have hd := evO_sim hg hf h2
    generalize hx : a.eval x = x' at hc
    generalize hy : a.eval y = y' at hd
    have fin : ∀ (v : Value), (binOp op t x' y').run P w = .ok v w → (eqGuard op t x y x' y').run P w = .ok () w → Yields P ⟨dst, .binOp op t x y yt, type, pos, after, guard⟩ a w v w := by
      intro v hb he
      refine .of _ a w (s := (do eqGuard op t x y x' y'; binOp op t x' y')) (by simp only [execOp, hx, hy]) ?_
      rw [run_bindR _ _ w w he, hb]
    split at h3
    · cases hc; cases hd
      obtain ⟨g1, g2⟩ := shiftOp_sim (ρ := ρ) h3 (.inl rfl) t w
      exact ⟨_, fin _ g1 (eqGuard_int _ _ _ _ _ _ _ _ _), g2⟩
    · cases hc; cases hd
      obtain ⟨g1, g2⟩ := shiftOp_sim (ρ := ρ) h3 (.inr rfl) t w
      exact ⟨_, fin _ g1 (eqGuard_int _ _ _ _ _ _ _ _ _), g2⟩
    · rename_i hs1 hs2
      split at h3
      · rename_i hk
        subst hk
        cases hc; cases hd
        obtain ⟨g1, g2⟩ := intOp_sim (ρ := ρ) h3 ⟨hs1, hs2⟩ t w
        exact ⟨_, fin _ g1 (eqGuard_int _ _ _ _ _ _ _ _ _), g2⟩
      · cases h3
    · cases hc; cases hd
      obtain ⟨g1, g2⟩ := strOp_sim (ρ := ρ) h3 t w
      exact ⟨_, fin _ g1 (eqGuard_str _ _ _ _ _ _ _), g2⟩
    · cases h3
  | unOp op t x =>
    simp only [opPure, Option.bind_eq_some_iff] at h
    obtain ⟨u, h1, h2⟩ := h
    have hc := evO_sim hg hf h1
    generalize hx : a.eval x = x' at hc
    unfold unV at h2
    split at h2
    · rename_i k n
      cases h2; cases hc
      exact ⟨_, .of _ a w (s := Op.unary .neg (.int k n)) (by simp only [execOp, hx]) rfl, .int _ _⟩
    · rename_i b
      cases h2; cases hc
      exact ⟨_, .of _ a w (s := Op.unary .not (.bool b)) (by simp only [execOp, hx]) rfl, .bool _⟩
    · cases h2
  | convert s d x =>
    simp only [opPure, Option.bind_eq_some_iff] at h
    obtain ⟨u, h1, h2⟩ := h
    have hc := evO_sim hg hf h1
    generalize hx : a.eval x = x' at hc
    split at h2
    · rename_i k0 k k1 n hs hd
      cases h2; cases hc
      exact ⟨_, .of _ a w (s := Go.convert s d (.int k1 n)) (by simp only [execOp, hx]) (by simp [Go.convert, run_underlying hs, run_underlying hd, Conv.intToInt]), .int _ _⟩
    · rename_i b hs hd
      cases h2; cases hc
      exact ⟨_, .of _ a w (s := Go.convert s d (.string b)) (by simp only [execOp, hx]) (by simp [Go.convert, run_underlying hs, run_underlying hd]), .string _⟩
    · cases h2
  | makeInterface t x =>
    simp only [opPure, Option.bind_eq_some_iff] at h
    obtain ⟨u, h1, h2⟩ := h
    have hc := evO_sim hg hf h1
    generalize hx : a.eval x = x' at hc
    split at h2
    · cases h2
    · rename_i d hni hu
      cases h2
      refine ⟨_, .of _ a w (s := Instr.makeInterface t x') (by simp only [execOp, hx]) ?_, .iface _ _ _ hc⟩
      unfold Instr.makeInterface
      rw [run_bindR _ _ w w (run_underlying hu w)]
      cases d <;> first | rfl | exact (hni _ rfl).elim
    · cases h2
  | makeFunc fn l m =>
    simp only [opPure, Option.bind_eq_some_iff, Option.map_eq_some_iff] at h
    obtain ⟨us, h1, vs, h2, rfl⟩ := h
    have e1 := evL_sim hg hf h1
    have e2 := evL_sim hg hf h2
    refine ⟨.func fn (l.map a.eval) (m.map a.eval), .of _ a w (s := Instr.makeFunc fn (l.map a.eval) (m.map a.eval)) rfl rfl, ?_⟩
    exact .func _ _ _ _ _ (by have := e1.1; simpa using this) (fun i v v' x y => e1.2 i v v' (by simpa using x) (by simpa using y)) (by have := e2.1; simpa using this) (fun i v v' x y => e2.2 i v v' (by simpa using x) (by simpa using y))
  | fieldAddr t x i =>
    simp only [opPure, Option.bind_eq_some_iff] at h
    obtain ⟨u, h1, h2⟩ := h
    have hc := evO_sim hg hf h1
    generalize hx : a.eval x = x' at hc
    split at h2
    · split at h2
      · rename_i fs hu
        simp only [Option.bind_eq_some_iff] at h2
        obtain ⟨f, h3, h4⟩ := h2
        split at h4
        · rename_i n hn
          cases h4
          cases hc with
          | ptr b o p hp =>
            refine ⟨.pointer (some ⟨p.b, p.d + o + f.offset, none⟩), .of _ a w (s := Instr.fieldAt t (.pointer (some ⟨p.b, p.d + o, none⟩)) i) (by simp only [execOp, hx]) ?_, ?_⟩
            · have hfi : fs[i]? = some f := by simpa using h3
              simp [Instr.fieldAt, run_underlying hu, hfi, Instr.sureAddr, fieldPlace, run_sizeOfN hn, add_none]
            · have := VR.ptr (ρ := ρ) b (o + f.offset) p hp
              rw [Nat.add_assoc]; exact this
        · cases h4
      · cases h2
    · cases h2
  | field t x i =>
    simp only [opPure, Option.bind_eq_some_iff] at h
    obtain ⟨u, h1, h2⟩ := h
    have hc := evO_sim hg hf h1
    generalize hx : a.eval x = x' at hc
    split at h2
    · split at h2
      · rename_i fs hu
        simp only [Option.bind_eq_some_iff] at h2
        obtain ⟨f, h3, h4⟩ := h2
        cases hc with
        | agg cs cs' g1 g2 =>
          obtain ⟨v', h5, h6⟩ := part_sim (VL.of_array g1 g2) h4 w
          refine ⟨v', .of _ a w (s := Instr.field t (.agg cs') i) (by simp only [execOp, hx]) ?_, h6⟩
          have hfi : fs[i]? = some f := by simpa using h3
          simp [Instr.field, run_underlying hu, hfi, asAgg, h5]
      · cases h2
    · cases h2
  | indexAddr t x ix =>
    simp only [opPure, Option.bind_eq_some_iff] at h
    obtain ⟨u, h1, u2, h2, h3⟩ := h
    have hc := evO_sim hg hf h1
    have hd := evO_sim hg hf h2
    generalize hx : a.eval x = x' at hc
    generalize hy : a.eval ix = y' at hd
    split at h3
    · rename_i k i
      cases hd
      split at h3
      · rename_i e a0 len cap hu
        split at h3
        · rename_i hb
          simp only [Option.map_eq_some_iff] at h3
          obtain ⟨n, hn, rfl⟩ := h3
          have fin : ∀ (b o : Nat) (p : Pl) (c' : Nat), ρ b = some p → ∃ v', Yields P ⟨dst, .indexAddr t x ix, type, pos, after, guard⟩ a w v' w ∧ VR ρ (.pointer (some (addrAdd ⟨b, o, none⟩ (i.toNat * n)))) v' ∨ x' ≠ .slice (some ⟨p.b, p.d + o, none⟩) len c' := by
            intro b o p c' hp
            by_cases hxx : x' = .slice (some ⟨p.b, p.d + o, none⟩) len c'
            · subst hxx
              refine ⟨.pointer (some ⟨p.b, p.d + o + i.toNat * n, none⟩), .inl ⟨.of _ a w (s := Instr.indexAt t (.slice (some ⟨p.b, p.d + o, none⟩) len c') (.int k i)) (by simp only [execOp, hx, hy]) ?_, ?_⟩⟩
              · simp [Instr.indexAt, asIntOf, run_underlying hu, hb, run_sizeOfN hn, add_none]
              · have := VR.ptr (ρ := ρ) b (o + i.toNat * n) p hp
                rw [Nat.add_assoc]; exact this
            · exact ⟨x', .inr hxx⟩
          cases hc with
          | slc b o _ _ c' p hp hc' hn' hk =>
            obtain ⟨v', hv | hv⟩ := fin b o p c' hp
            · exact ⟨v', hv⟩
            · exact absurd rfl hv
          | slce b o p a' c' hp hk => omega
        · cases h3
      · rename_i len e a0 hu
        split at h3
        · rename_i hb
          simp only [Option.map_eq_some_iff] at h3
          obtain ⟨n, hn, rfl⟩ := h3
          cases hc with
          | ptr b o p hp =>
            refine ⟨.pointer (some ⟨p.b, p.d + o + i.toNat * n, none⟩), .of _ a w (s := Instr.indexAt t (.pointer (some ⟨p.b, p.d + o, none⟩)) (.int k i)) (by simp only [execOp, hx, hy]) ?_, ?_⟩
            · simp [Instr.indexAt, asIntOf, run_underlying hu, hb, run_sizeOfN hn, add_none, Instr.sureAddr]
            · have := VR.ptr (ρ := ρ) b (o + i.toNat * n) p hp
              rw [Nat.add_assoc]; exact this
        · cases h3
      · cases h3
    · cases h3
  | index t x ix =>
    simp only [opPure, Option.bind_eq_some_iff] at h
    obtain ⟨u, h1, u2, h2, h3⟩ := h
    have hc := evO_sim hg hf h1
    have hd := evO_sim hg hf h2
    generalize hx : a.eval x = x' at hc
    generalize hy : a.eval ix = y' at hd
    split at h3
    · rename_i k i
      cases hd
      split at h3
      · rename_i len e cs hu
        split at h3
        · rename_i hb
          simp only [Option.bind_eq_some_iff] at h3
          obtain ⟨n, hn, h4⟩ := h3
          cases hc with
          | agg cs cs' g1 g2 =>
            obtain ⟨v', h5, h6⟩ := part_sim (VL.of_array g1 g2) h4 w
            refine ⟨v', .of _ a w (s := Instr.index t (.agg cs') (.int k i)) (by simp only [execOp, hx, hy]) ?_, h6⟩
            simp [Instr.index, asIntOf, run_underlying hu, hb, run_sizeOfN hn, h5]
        · cases h3
      · rename_i s hu
        split at h3
        · rename_i hi
          split at h3
          · rename_i b l hb
            cases h3
            cases hc
            refine ⟨_, .of _ a w (s := Instr.index t (.string s) (.int k i)) (by simp only [execOp, hx, hy]) ?_, .int _ _⟩
            have hs : s[i.toNat]? = some b := by
              rw [dropN_eq] at hb
              have h0 := List.getElem?_drop (xs := s.data.toList) (i := i.toNat) (j := 0)
              rw [hb] at h0
              have h1 : s.data.toList[i.toNat]? = some b := by simpa using h0.symm
              have hlt : i.toNat < s.size := by
                have := (List.getElem?_eq_some_iff.1 h1).1; simpa using this
              rw [getElem?_pos s i.toNat hlt]
              have h2 := (List.getElem?_eq_some_iff.1 h1).2
              rw [← h2]; rfl
            simp [Instr.index, asIntOf, run_underlying hu, hi, hs]
          · cases h3
        · cases h3
      · cases h3
    · cases h3
  | extract x i =>
    simp only [opPure, Option.bind_eq_some_iff] at h
    obtain ⟨u, h1, h2⟩ := h
    have hc := evO_sim hg hf h1
    generalize hx : a.eval x = x' at hc
    split at h2
    · cases hc with
      | tuple cs cs' g1 g2 =>
        obtain ⟨v', h5, h6⟩ := (VL.of_array g1 g2).get h2
        refine ⟨v', .of _ a w (s := Instr.extract (.tuple cs') i) (by simp only [execOp, hx]) ?_, h6⟩
        have : cs'[i]? = some v' := by simpa using h5
        simp [Instr.extract, this]
    · cases h2
  | typeAssert x xt t ok =>
    simp only [opPure, Option.bind_eq_some_iff] at h
    obtain ⟨u, h1, h2⟩ := h
    have hc := evO_sim hg hf h1
    generalize hx : a.eval x = x' at hc
    split at h2
    · rename_i u0 v0
      split at h2
      · cases h2
      · rename_i d hni hu
        split at h2
        · rename_i ht
          subst ht
          cases h2
          cases hc with
          | iface _ _ v' hv =>
            refine ⟨if ok then .tuple #[v', .bool true] else v', .of _ a w (s := Instr.typeAssert (.iface u0 v') xt u0 ok) (by simp only [execOp, hx]) ?_, ?_⟩
            · unfold Instr.typeAssert
              rw [run_bindR _ _ w w (run_underlying hu w)]
              cases d <;> first | exact (hni _ rfl).elim | (cases ok <;> simp)
            · cases ok
              · exact hv
              · exact .tupleL (.cons hv (.cons (.bool true) (.nil ρ)))
        · cases h2
      · cases h2
    · cases h2
  | call c =>
    simp only [opPure, Option.bind_eq_some_iff] at h
    obtain ⟨us, h1, h2⟩ := h
    have hl := evL_sim hg hf h1
    have hargs : (c.args.map a.eval).toList = c.args.toList.map a.eval := by simp
    split at h2
    · rename_i k x rest hcal
      simp only [Option.map_eq_some_iff] at h2
      obtain ⟨n, h3, rfl⟩ := h2
      obtain ⟨v', l', e, hv, hl'⟩ := hl.uncons
      cases hv
      refine ⟨_, .inl ?_, .int k n⟩
      show (do let d ← resolve a.eval c type; invoke d.target d.args : Sem Next).run P w = _
      rw [run_resolve_builtin _ c _ hcal]
      simp only [builtin, Builtin.max_, hargs, e]
      rw [run_bindR _ _ w w (bestOf_max w hl' h3)]; rfl
    · rename_i k x rest hcal
      simp only [Option.map_eq_some_iff] at h2
      obtain ⟨n, h3, rfl⟩ := h2
      obtain ⟨v', l', e, hv, hl'⟩ := hl.uncons
      cases hv
      refine ⟨_, .inl ?_, .int k n⟩
      show (do let d ← resolve a.eval c type; invoke d.target d.args : Sem Next).run P w = _
      rw [run_resolve_builtin _ c _ hcal]
      simp only [builtin, Builtin.min_, hargs, e]
      rw [run_bindR _ _ w w (bestOf_min w hl' h3)]; rfl
    · rename_i x y hcal
      cases h2
      obtain ⟨v1, l1, e1, hv1, hl1⟩ := hl.uncons
      obtain ⟨v2, l2, e2, hv2, hl2⟩ := hl1.uncons
      rw [hl2.unnil] at e2
      cases hv1; cases hv2
      refine ⟨_, .inl ?_, .string _⟩
      show (do let d ← resolve a.eval c type; invoke d.target d.args : Sem Next).run P w = _
      rw [run_resolve_builtin _ c _ hcal]
      simp only [builtin, Builtin.max_, hargs, e1, e2, List.foldlM_cons, List.foldlM_nil, Builtin.max2, Op.stringOp, ByteArray.toList_eq]
      cases (Op.bytesLess x.data.toList y.data.toList) <;> rfl
    · rename_i x y hcal
      cases h2
      obtain ⟨v1, l1, e1, hv1, hl1⟩ := hl.uncons
      obtain ⟨v2, l2, e2, hv2, hl2⟩ := hl1.uncons
      rw [hl2.unnil] at e2
      cases hv1; cases hv2
      refine ⟨_, .inl ?_, .string _⟩
      show (do let d ← resolve a.eval c type; invoke d.target d.args : Sem Next).run P w = _
      rw [run_resolve_builtin _ c _ hcal]
      simp only [builtin, Builtin.min_, hargs, e1, e2, List.foldlM_cons, List.foldlM_nil, Builtin.min2, Op.stringOp, ByteArray.toList_eq]
      cases (Op.bytesLess x.data.toList y.data.toList || x.data.toList == y.data.toList) <;> rfl
    · cases h2
  | _ => simp [opPure] at h
end Go.Am
