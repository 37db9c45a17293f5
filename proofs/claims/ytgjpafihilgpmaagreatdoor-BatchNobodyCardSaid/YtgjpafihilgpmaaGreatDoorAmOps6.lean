/-
  A part of the proof that the run of an abstract machine, which the kernel can run, is what the program does under its model: no condition of its own.
-/
import Derived.Test.YtgjpafihilgpmaaGreatDoorAmOps5
import Derived.Laws.MakeOwn
import Derived.Laws.Rows
set_option linter.unusedVariables false
set_option linter.unusedSimpArgs false
set_option maxHeartbeats 1000000
namespace Go.Am
open Go
variable {P : Program} {ρ : Rho} {σ : St} {w : World} {a : Act} {fr : Fr}

theorem repN_length (c : Nat) (z : List Value) : (repN c z).length = c * z.length := by
  induction c with
  | zero => simp [repN]
  | succ c ih => simp [repN, ih, Nat.add_mul]; omega
theorem repN_get : ∀ (c : Nat) (z : List Value) (i : Nat), i < c * z.length → (repN c z)[i]? = z[i % z.length]?
  | 0, z, i, h => by simp at h
  | c + 1, z, i, h => by
    simp only [repN, List.getElem?_append]
    split
    · rename_i hi; rw [Nat.mod_eq_of_lt hi]
    · rename_i hi
      rw [repN_get c z (i - z.length) (by rw [Nat.add_mul] at h; omega)]
      congr 1
      rw [Nat.mod_eq_sub_mod (by omega : i ≥ z.length)]
theorem repN_eq (z : Array Value) (c : Nat) : ((Array.range (c * z.size)).map (z[· % z.size]!)).toList = repN c z.toList := by
  apply List.ext_getElem?
  intro i
  by_cases h : i < c * z.size
  · rw [repN_get c z.toList i (by simpa using h)]
    have hz : 0 < z.size := by
      rcases Nat.eq_zero_or_pos z.size with e | e
      · rw [e] at h; simp at h
      · exact e
    have hm : i % z.size < z.size := Nat.mod_lt _ hz
    simp [h, hm]
  · have h1 : (repN c z.toList).length ≤ i := by rw [repN_length]; simp; omega
    rw [List.getElem?_eq_none h1, List.getElem?_eq_none (by simp; omega)]
theorem VL_repN {z : List Value} (h : z.all constOK = true) (c : Nat) : VL ρ (repN c z) (repN c z) := by
  induction c with
  | zero => exact .nil ρ
  | succ c ih => exact (constL_VL h).append ih

/-- a new row in real memory -/
theorem RowAt.new {H : Array Obj} {r : Blk} {cs' extra : List Value} {fr : Nat × Nat} {s : Nat} (hv : VL ρ r.cs cs') (hx : extra = [] ∨ (r.loose = true ∧ 0 < s ∧ sizeN P r.elem = some s)) (hf : r.fz = 0)
    (hle : fr.1 ≤ fr.2) (hfr : fr.1 < fr.2 → r.str = true ∧ (cs' ++ extra).length ≤ fr.1) :
    RowAt P ρ (H.push (.cells (cs' ++ extra).toArray r.elem fr)) r ⟨H.size, 0, r.cs.length, extra.length, s⟩ := by
  refine ⟨⟨(cs' ++ extra).toArray, fr, by simp, ?_, ?_, ?_⟩, rfl, ?_, ?_, by rw [hf]; exact Nat.zero_le _⟩
  · have := hv.1; simp; omega
  · exact fun _ => ⟨hle, fun h => by obtain ⟨h1, h2⟩ := hfr h; exact .inr ⟨h1, by simpa using h2⟩⟩
  · intro i v hi
    obtain ⟨v', h1, h2⟩ := hv.get hi
    refine ⟨v', ?_, h2⟩
    have hlt := (List.getElem?_eq_some_iff.1 h1).1
    simp only [Nat.zero_add, List.getElem?_toArray, List.getElem?_append, if_pos hlt]
    exact h1
  · intro hl
    rcases hx with rfl | ⟨h1, _⟩
    · exact ⟨rfl, rfl⟩
    · rw [hl] at h1; cases h1
  · intro hne
    rcases hx with rfl | ⟨_, h2, h3⟩
    · exact absurd rfl hne
    · exact ⟨h2, h3⟩

/-- what an operation that makes a block does -/
structure Makes (P : Program) (ρ : Rho) (o : Oper) (a : Act) (w : World) (ob : AObj) (mk : Nat → Value) (v' : Value) (w' : World) (ob' : Obj) (p : Pl) : Prop where
  yields : Yields P o a w v' w'
  heap : w'.heap = w.heap.push ob'
  out : w'.os = w.os ∧ w'.output = w.output ∧ w'.tape = w.tape
  b : p.b = w.heap.size
  at_ : ∀ ρ', ρ.le ρ' → ObjAt P ρ' (w.heap.push ob') ob p
  vr : ∀ k ρ', ρ.le ρ' → ρ' k = some p → VR ρ' (mk k) v'

theorem vr_ptr0 {k : Nat} {ρ' : Rho} {p : Pl} (h : ρ' k = some p) (hd : p.d = 0) : VR ρ' (.pointer (some ⟨k, 0, none⟩)) (.pointer (some ⟨p.b, 0, none⟩)) := by
  have := VR.ptr (ρ := ρ') k 0 p h
  rw [hd] at this; exact this
theorem vr_slc0 {k : Nat} {ρ' : Rho} {p : Pl} (h : ρ' k = some p) (hd : p.d = 0) (hx : p.x = 0) {n c : Nat} (hn : n ≤ c) : VR ρ' (.slice (some ⟨k, 0, none⟩) n c) (.slice (some ⟨p.b, 0, none⟩) n c) := by
  rcases Nat.eq_zero_or_pos c with e | e
  · subst e
    have : n = 0 := by omega
    subst this
    exact .slce k 0 p _ 0 h (.inl rfl)
  · have := VR.slc (ρ := ρ') k 0 n c c p h e hn (by unfold capOK; rw [if_neg (by simp [hx])])
    rw [hd] at this; exact this

theorem opAlc_sim (hg : GRel ρ) (hf : FRel ρ fr a.tmps) {o : Oper} {ob : AObj} {mk : Nat → Value} (h : opAlc P o.op fr = some (ob, mk)) (w : World) :
    ∃ v' w' ob' p, Makes P ρ o a w ob mk v' w' ob' p := by
  obtain ⟨dst, op, type, pos, after, guard⟩ := o
  simp only at h
  -- a row without anything behind it
  have plain : ∀ {o : Oper} {r : Blk} {C : Array Value} {mk : Nat → Value} {v' : Value}, VL ρ r.cs C.toList → r.fz = 0 → Yields P o a w v' (w.alloc (.cells C r.elem)) →
      (∀ k ρ', ρ.le ρ' → ρ' k = some ⟨w.heap.size, 0, r.cs.length, 0, 0⟩ → VR ρ' (mk k) v') → ∃ v' w' ob' p, Makes P ρ o a w (.row r) mk v' w' ob' p := by
    intro o r C mk v' hv hz hy hm
    refine ⟨v', _, .cells C r.elem, ⟨w.heap.size, 0, r.cs.length, 0, 0⟩, hy, rfl, ⟨rfl, rfl, rfl⟩, rfl, fun ρ' le => ?_, hm⟩
    have := RowAt.new (P := P) (ρ := ρ') (H := w.heap) (r := r) (cs' := C.toList) (extra := []) (fr := (0, 0)) (s := 0) (hv.mono le) (.inl rfl) hz (Nat.le_refl _) (by simp)
    simp only [List.append_nil, List.length_nil] at this
    exact this
  cases op with
  | alloc e =>
    simp only [opAlc, Option.map_eq_some_iff, Prod.mk.injEq] at h
    obtain ⟨cs, h1, rfl, rfl⟩ := h
    obtain ⟨zv, z1, z2, z3⟩ := run_zeroN h1 w
    refine plain (r := { cs, elem := e }) (C := zv.cells) (v' := .pointer (some ⟨w.heap.size, 0, none⟩)) (by rw [z2]; exact constL_VL z3) rfl ?_ (fun k ρ' _ hk => vr_ptr0 hk rfl)
    refine .of _ a w (s := Instr.alloc e true (.tuple #[])) rfl ?_
    unfold Instr.alloc
    rw [run_bindR _ _ w w z1]
    rfl
  | box e x =>
    simp only [opAlc, Option.map_eq_some_iff, Prod.mk.injEq] at h
    obtain ⟨v, h1, rfl, rfl⟩ := h
    have hc := evO_sim hg hf h1
    refine plain (r := { cs := cellsOf v, elem := e }) (C := (a.eval x).cells) (v' := .pointer (some ⟨w.heap.size, 0, none⟩)) (by rw [cells_eq]; exact hc.cells) rfl ?_ (fun k ρ' _ hk => vr_ptr0 hk rfl)
    exact .of _ a w (s := Instr.box e (a.eval x)) rfl rfl
  | buildSlice t len ps =>
    simp only [opAlc] at h
    split at h
    · rename_i e hu
      simp only [Option.bind_eq_some_iff] at h
      obtain ⟨us, h1, z, h2, n, hn, h3⟩ := h
      cases hb : (Nat.ble (len * n) 16777216 && Nat.beq z.length n) with
      | false => rw [hb] at h3; cases h3
      | true =>
        rw [hb] at h3
        simp only [cond_true, Option.map_eq_some_iff, Prod.mk.injEq] at h3
        obtain ⟨cs, h4, rfl, rfl⟩ := h3
        simp only [Bool.and_eq_true] at hb
        have hle : len * n ≤ 16777216 := Nat.le_of_ble_eq_true hb.1
        have hzl : z.length = n := Nat.eq_of_beq_eq_true hb.2
        obtain ⟨zv, z1, z2, z3⟩ := run_zeroN h2 w
        have hzs : zv.cells.size = n := by rw [← hzl, ← z2]; simp
        have hps := evPs_sim hg hf h1
        have hbase : VL ρ (repN len z) ((Array.range (len * n)).map (zv.cells[· % zv.cells.size]!)).toList := by
          have := repN_eq zv.cells len
          rw [hzs] at this
          rw [hzs, this, z2]
          exact VL_repN z3 len
        obtain ⟨cs', g1, g2⟩ := fill_sim _ hps hbase h4
        refine plain (r := { cs, elem := e }) (C := cs') (v' := .slice (some ⟨w.heap.size, 0, none⟩) len len) g2 rfl ?_ (fun k ρ' _ hk => vr_slc0 hk rfl rfl (Nat.le_refl _))
        refine .of _ a w (s := Instr.buildSlice t len (ps.map fun (i, x) => (i, a.eval x))) rfl ?_
        unfold Instr.buildSlice
        rw [run_bindR _ _ w w (run_underlying hu w)]
        simp only
        rw [run_bindR _ _ w w (run_sizeOfN hn w)]
        have hparts : (ps.map fun (i, x) => (i, a.eval x)).toList = ps.toList.map fun (i, x) => (i, a.eval x) := by simp
        have hnn : ¬ len * n > 2 ^ 24 := by omega
        rw [if_neg hnn]
        by_cases h0 : len * n = 0
        · have e0 : ∀ z : Array Value, (Array.range (len * n)).map (fun x => z[x % z.size]!) = #[] := fun z => by rw [h0]; simp
          rw [e0] at g1
          rw [if_pos h0, run_bindR _ _ w w (x := (#[] : Array Value)) rfl]
          simp only [hparts, e0, g1]
          rfl
        · rw [if_neg h0, run_bindR _ _ w w z1, run_bindR _ _ w w (x := zv.cells) rfl]
          simp only [hparts, g1]
          rfl
    · cases h
  | convert s d x =>
    simp only [opAlc, Option.bind_eq_some_iff] at h
    obtain ⟨u, h1, h2⟩ := h
    have hc := evO_sim hg hf h1
    generalize hx : a.eval x = x' at hc
    split at h2
    · rename_i e b hs hd
      split at h2
      · rename_i he hsz
        simp only [Option.some.injEq, Prod.mk.injEq] at h2
        obtain ⟨rfl, rfl⟩ := h2
        cases hc
        obtain ⟨cap, hcap, hch⟩ : ∃ cap, b.size ≤ cap ∧ (choose (.appendCap b.size 0 e)).run P w = .ok cap w.drew := by
          refine ⟨(Question.appendCap b.size 0 e).cut (w.tape w.drawn (.appendCap b.size 0 e)), ?_, ?_⟩
          · simp [Question.cut]
          · simp [Question.forced]
        let C : Array Value := (b.data.map fun b => Value.int .u8 b.toNat) ++ Array.replicate (cap - b.size) (.int .u8 0)
        have hCl : C = (bytesV b ++ List.replicate (cap - b.size) (Value.int .u8 0)).toArray := by
          apply Array.ext'
          simp [C, bytesV]
        have hbl : (bytesV b).length = b.size := by simp [bytesV]
        have hCs : C.size = cap := by rw [hCl]; simp [hbl]; omega
        let w1 : World := (w.drew.alloc (.cells C e)).freeze ⟨w.heap.size, C.size, none⟩ 1
        have hheap : w1.heap = w.heap.push (.cells C e (C.size, C.size + 1)) := by
          show ((w.drew.alloc (.cells C e)).freeze ⟨w.heap.size, C.size, none⟩ 1).heap = _
          unfold World.freeze
          rw [if_neg (by omega)]
          simp only [World.alloc, World.drew]
          apply Array.ext_getElem?
          intro i
          simp only [Array.getElem?_modify, Array.getElem?_push]
          by_cases hi : w.heap.size = i
          · subst hi; simp
          · have : ¬ i = w.heap.size := fun e => hi e.symm
            simp [hi, this]
        have hrun : (Conv.stringToBytes e b).run P w = .ok (.slice (some ⟨w.heap.size, 0, none⟩) b.size cap) w1 := by
          unfold Conv.stringToBytes
          rw [run_bindR _ _ w _ hch]
          have hm : (markStringish ⟨w.heap.size, 0, none⟩).run P (w.drew.alloc (.cells C e)) = .ok () w1 := by
            unfold markStringish
            have hsh : (shape w.heap.size).run P (w.drew.alloc (.cells C e)) = .ok (some (e, C.size)) (w.drew.alloc (.cells C e)) := by
              have hn : (w.drew.alloc (.cells C e)).heap[w.heap.size]? = some (.cells C e) := heap_alloc_new w.drew (.cells C e)
              rw [run_shape]
              simp only [World.shape?, hn]
            rw [run_bindR _ _ _ _ hsh]
            rfl
          have hn : (newRow e C).run P w.drew = .ok ⟨w.heap.size, 0, none⟩ (w.drew.alloc (.cells C e)) := rfl
          rw [run_bindR _ _ _ _ hn, run_bindR _ _ _ _ hm]
          rfl
        refine ⟨.slice (some ⟨w.heap.size, 0, none⟩) b.size cap, w1, .cells C e (C.size, C.size + 1), ⟨w.heap.size, 0, (bytesV b).length, (List.replicate (cap - b.size) (Value.int .u8 0)).length, 1⟩, .of _ a w (s := Go.convert s d (.string b)) (by simp only [execOp, hx]) ?_, hheap, ⟨rfl, rfl, rfl⟩, rfl, fun ρ' le => ?_, fun k ρ' le hk => ?_⟩
        · simp only [Go.convert]
          rw [run_bindR _ _ w w (run_underlying hs w), run_bindR _ _ w w (run_underlying hd w)]
          simp only
          rw [run_bindR _ _ w w (run_underlying he w)]
          exact hrun
        · have hvl : VL ρ' (bytesV b) (bytesV b) := ⟨rfl, fun i v v' x y => by
            rw [x] at y; cases y
            unfold bytesV at x
            rw [List.getElem?_map] at x
            cases hq : b.data.toList[i]? with
            | none => rw [hq] at x; cases x
            | some q => rw [hq] at x; cases x; exact .int _ _⟩
          have := RowAt.new (P := P) (ρ := ρ') (H := w.heap) (r := { cs := bytesV b, elem := e, loose := true, str := true }) (cs' := bytesV b) (extra := List.replicate (cap - b.size) (.int .u8 0)) (fr := (C.size, C.size + 1)) (s := 1)
            hvl (.inr ⟨rfl, by omega, hsz⟩) rfl (Nat.le_succ _) (fun _ => ⟨rfl, by rw [hCl]; simp⟩)
          rw [hCl]
          rw [hCl] at this
          exact this
        · rcases Nat.eq_zero_or_pos b.size with e0 | e0
          · rw [e0]
            refine .slce k 0 _ _ cap hk ?_
            rcases Nat.eq_zero_or_pos cap with e1 | e1
            · exact .inl e1
            · right
              refine ⟨by simp only [List.length_replicate]; omega, by simp only; omega, by simp only; congr 1; omega, by simp only [List.length_replicate]; omega⟩
          · have := VR.slc (ρ := ρ') k 0 b.size b.size cap _ hk e0 (Nat.le_refl _) (by
              unfold capOK
              simp only [List.length_replicate]
              by_cases e1 : cap = b.size
              · rw [if_neg (by simp [e1])]; exact e1
              · rw [if_pos ⟨by omega, by omega⟩]; exact ⟨hcap, by omega⟩)
            exact this
      · cases h2
    · cases h2
  | makeMap t r =>
    simp only [opAlc] at h
    split at h
    · simp only [Option.some.injEq, Prod.mk.injEq] at h
      obtain ⟨rfl, rfl⟩ := h
      refine ⟨.map (some w.heap.size), w.alloc (.map #[] 0), .map #[] 0, ⟨w.heap.size, 0, 0, 0, 0⟩, .of _ a w (s := Instr.makeMap t none) rfl rfl, rfl, ⟨rfl, rfl, rfl⟩, rfl, fun ρ' le => ⟨#[], by simp, .nil⟩, fun k ρ' le hk => ?_⟩
      exact .map k _ hk
    · cases h
  | makeSlice t l c =>
    simp only [opAlc] at h
    split at h
    · rename_i e hu
      simp only [Option.bind_eq_some_iff] at h
      obtain ⟨ul, h1, uc, h2, h3⟩ := h
      have hl := evO_sim hg hf h1
      have hc := evO_sim hg hf h2
      generalize hxl : a.eval l = l' at hl
      generalize hxc : a.eval c = c' at hc
      split at h3
      · rename_i kl ln kc cn
        cases hl; cases hc
        simp only [Option.bind_eq_some_iff] at h3
        obtain ⟨bytes, hby, h4⟩ := h3
        split at h4
        · rename_i hcond
          simp only [Option.bind_eq_some_iff] at h4
          obtain ⟨z, hz, n, hn, h5⟩ := h4
          cases hb : Nat.beq z.length n with
          | false => rw [hb] at h5; cases h5
          | true =>
            rw [hb] at h5
            simp only [cond_true, Option.some.injEq, Prod.mk.injEq] at h5
            obtain ⟨rfl, rfl⟩ := h5
            have hzl : z.length = n := Nat.eq_of_beq_eq_true hb
            unfold zeroN at hz
            unfold bytesN at hby
            unfold sizeN at hn
            cases hi : P.info? e with
            | none => simp [hi] at hn
            | some i =>
              simp only [hi, Option.map_some, Option.some.injEq] at hn hby
              simp only [hi, Option.bind_some] at hz
              cases hzz : i.zero with
              | none => simp [hzz] at hz
              | some zv =>
                simp only [hzz, Option.bind_some] at hz
                cases hcon : zv.cells.toList.all constOK with
                | false => rw [hcon] at hz; cases hz
                | true =>
                  rw [hcon] at hz
                  simp only [cond_true, Option.some.injEq] at hz
                  have hzs : zv.cells.size = n := by rw [← hzl, ← hz]; simp
                  have hbb : (i.bytes : Int) * cn ≤ 281474976710656 := by
                    obtain ⟨c1, c2, c3, c4⟩ := hcond
                    rw [hby]
                    have : cn = (cn.toNat : Int) := by omega
                    rw [this, Int.mul_comm, ← Int.natCast_mul]
                    omega
                  have hrun := run_make (P := P) w t e i zv hu hi hzz kl kc ln cn hcond.1 hcond.2.1 hbb (by omega)
                  have hmade : (madeCells zv.cells (cn.toNat * i.size)).toList = repN cn.toNat z := by
                    rw [hn, ← hz, ← repN_eq, hzs]; unfold madeCells; rw [hzs]
                  refine plain (r := { cs := repN cn.toNat z, elem := e }) (C := madeCells zv.cells (cn.toNat * i.size)) (v' := .slice (some ⟨w.heap.size, 0, none⟩) ln.toNat cn.toNat) (by rw [hmade]; exact VL_repN (by rw [← hz]; exact hcon) _) rfl ?_
                    (fun k ρ' _ hk => vr_slc0 hk rfl rfl (by omega))
                  exact .of _ a w (s := Instr.makeSlice t (.int kl ln) (.int kc cn)) (by simp only [execOp, hxl, hxc]) hrun
        · cases h4
      · cases h3
    · cases h
  | _ => simp [opAlc] at h
end Go.Am
