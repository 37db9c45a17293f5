/-
  A part of the proof that the run of an abstract machine, which the kernel can run, is what the program does under its model: no condition of its own.
-/
import Derived.Test.YtgjpafihilgpmaaGreatDoorAmOps7
import Derived.Lib.UnsafeStr
set_option linter.unusedVariables false
set_option linter.unusedSimpArgs false
set_option maxHeartbeats 1000000
namespace Go.Am
open Go
variable {P : Program} {ρ : Rho} {σ : St} {w : World} {a : Act} {fr : Fr}

/-! ## maps -/
theorem keyEq_bits {kd : TypeDesc} {k k' e e' : Value} (hk : VR ρ k k') (he : VR ρ e e') (h : keyEq kd k e = some true) : Instr.sameBits 10000 e' k' = true := by
  unfold keyEq at h
  split at h
  · cases hk; cases he
    split at h
    · rename_i hq; subst hq; simp only [Option.some.injEq, beq_iff_eq] at h; subst h; simp [Instr.sameBits]
    · cases h
  · rename_i x y
    cases hk; cases he
    simp only [Option.some.injEq, beq_iff_eq] at h
    have : x = y := by
      cases x with | mk dx => cases y with | mk dy => simp only at h; congr 1; exact Array.ext' h
    subst this
    simp [Instr.sameBits, beq_toListBytes]
  · cases h
theorem setK_sim {kd : TypeDesc} {k k' v v' : Value} {clock clock1 : Nat} (hk : VR ρ k k') (hv : VR ρ v v') {es es' : List MapEntry} (he : EL ρ es es') : ∀ {es1 : List MapEntry}, setK kd k v clock es = some (es1, clock1) → ∀ i,
    (∃ j e', es'[j]? = some e' ∧ Instr.findNow kd k' es' i = some (some (i + j, e'.val)) ∧ Instr.sameBits 10000 e'.key k' = true ∧ clock1 = clock ∧ EL ρ es1 (es'.set j { e' with key := k', val := v' })) ∨
    (Instr.findNow kd k' es' i = some none ∧ clock1 = clock + 1 ∧ EL ρ es1 (es' ++ [{ key := k', val := v', born := clock }])) := by
  induction he with
  | nil =>
    intro es1 h i
    simp only [setK, Option.some.injEq, Prod.mk.injEq] at h
    obtain ⟨rfl, rfl⟩ := h
    exact .inr ⟨rfl, rfl, .cons ⟨hk, hv, rfl⟩ .nil⟩
  | @cons e e' l l' her hl ih =>
    intro es1 h i
    simp only [setK] at h
    split at h
    · rename_i hq
      simp only [Option.some.injEq, Prod.mk.injEq] at h
      obtain ⟨rfl, rfl⟩ := h
      have := keyEq_sim hk her.1 hq
      exact .inl ⟨0, e', rfl, by simp [Instr.findNow, this], keyEq_bits hk her.1 hq, rfl, .cons ⟨hk, hv, her.2.2⟩ hl⟩
    · rename_i hq
      have hs := keyEq_sim hk her.1 hq
      simp only [Option.map_eq_some_iff, Prod.mk.injEq] at h
      obtain ⟨⟨l1, c1⟩, h1, h2, h3⟩ := h
      subst h2; subst h3
      rcases ih h1 (i + 1) with ⟨j, e1, a1, a2, a3, a4, a5⟩ | ⟨a1, a2, a3⟩
      · exact .inl ⟨j + 1, e1, a1, by simp only [Instr.findNow, hs]; rw [a2]; congr 3; omega, a3, a4, .cons her a5⟩
      · exact .inr ⟨by simp only [Instr.findNow, hs]; exact a1, a2, .cons her a3⟩
    · cases h
theorem delK_sim {kd : TypeDesc} {k k' : Value} (hk : VR ρ k k') {es es' : List MapEntry} (he : EL ρ es es') : ∀ {es1 : List MapEntry}, delK kd k es = some es1 → ∀ i,
    (∃ j x, Instr.findNow kd k' es' i = some (some (i + j, x)) ∧ EL ρ es1 (es'.eraseIdx j) ∧ j < es'.length) ∨ (Instr.findNow kd k' es' i = some none ∧ EL ρ es1 es') := by
  induction he with
  | nil =>
    intro es1 h i
    simp only [delK, Option.some.injEq] at h
    subst h
    exact .inr ⟨rfl, .nil⟩
  | @cons e e' l l' her hl ih =>
    intro es1 h i
    simp only [delK] at h
    split at h
    · rename_i hq
      simp only [Option.some.injEq] at h
      subst h
      have := keyEq_sim hk her.1 hq
      exact .inl ⟨0, e'.val, by simp [Instr.findNow, this], hl, by simp⟩
    · rename_i hq
      have hs := keyEq_sim hk her.1 hq
      simp only [Option.map_eq_some_iff] at h
      obtain ⟨l1, h1, rfl⟩ := h
      rcases ih h1 (i + 1) with ⟨j, x, a1, a2, a3⟩ | ⟨a1, a2⟩
      · exact .inl ⟨j + 1, x, by simp only [Instr.findNow, hs]; rw [a1]; congr 3; omega, .cons her a2, by simpa using a3⟩
      · exact .inr ⟨by simp only [Instr.findNow, hs]; exact a1, .cons her a2⟩
    · cases h

theorem run_setObj_map {w : World} {r : Nat} {es : Array MapEntry} {c : Nat} (h : w.heap[r]? = some (.map es c)) (o : Obj) : (setObj r o).run P w = .ok () { w with heap := w.heap.setIfInBounds r o } := by
  simp [setObj, Sem.run, h]
theorem modify_toList {α : Type} (l : Array α) (j : Nat) (f : α → α) (x : α) (h : l.toList[j]? = some x) : (l.modify j f).toList = l.toList.set j (f x) := by
  apply List.ext_getElem?
  intro i
  rw [Array.getElem?_toList, Array.getElem?_modify, List.getElem?_set]
  have hlt : j < l.toList.length := (List.getElem?_eq_some_iff.1 h).1
  by_cases e : j = i
  · subst e
    rw [if_pos rfl, if_pos rfl, if_pos hlt]
    rw [Array.getElem?_toList] at h
    rw [h]; rfl
  · rw [if_neg e, if_neg e, Array.getElem?_toList]

/-- a map is changed in place -/
theorem putMap_sim (hr : Rel P ρ σ w.heap) {r : Nat} {es : List MapEntry} {c : Nat} {p : Pl} (hm : σ.map? r = some (es, c)) (hp : ρ r = some p) {es1 : List MapEntry} {es1' : Array MapEntry} {c1 : Nat} (h1 : EL ρ es1 es1'.toList) :
    Rel P ρ (σ.put r (.map es1 c1)) (w.heap.setIfInBounds p.b (.map es1' c1)) ∧ Sim ρ σ w ρ (σ.put r (.map es1 c1)) { w with heap := w.heap.setIfInBounds p.b (.map es1' c1) } := by
  have ho := St.map_eq.1 hm
  have hlt := hr.lt ho hp
  have hsame : ∀ B, B ≠ p.b → (w.heap.setIfInBounds p.b (.map es1' c1))[B]? = w.heap[B]? := fun B hB => by rw [Array.getElem?_setIfInBounds_ne (Ne.symm hB)]
  refine ⟨hr.put ho hp _ _ hsame ⟨es1', by rw [Array.getElem?_setIfInBounds_self_of_lt hlt], h1⟩, ?_⟩
  exact Sim.put hr ho trivial hp _ _ hsame (by simp) ⟨rfl, rfl, rfl⟩

theorem mapUpdate_sim (hr : Rel P ρ σ w.heap) {t kt et : TypeId} {kd : TypeDesc} {r : Nat} {p : Pl} {k k' v v' : Value} {es es1 : List MapEntry} {c c1 : Nat}
    (ht : P.underlying t = some (.map kt et)) (hkt : P.underlying kt = some kd) (hkd : plainKey kd = true) (hm : σ.map? r = some (es, c)) (hp : ρ r = some p) (hk : VR ρ k k') (hv : VR ρ v v')
    (h : setK kd k v c es = some (es1, c1)) : ∃ w', (Instr.mapUpdate t (.map (some p.b)) k' v').run P w = .ok () w' ∧ Rel P ρ (σ.put r (.map es1 c1)) w'.heap ∧ Sim ρ σ w ρ (σ.put r (.map es1 c1)) w' := by
  obtain ⟨es', h1, h2⟩ := hr.mp r es c p (St.map_eq.1 hm) hp
  have head : ∀ w' res, (∀ x, Instr.findNow kd k' es'.toList 0 = some x → (match x with
      | some (i, _) => do
        let key ← Instr.keyThatStays (((es'[i]?).map (·.key)).getD k') k'
        setObj p.b (.map (es'.modify i fun e => { e with key, val := v' }) c)
      | none => setObj p.b (.map (es'.push { key := k', val := v', born := c }) (c + 1)) : Sem Unit).run P w = .ok () w') → Instr.findNow kd k' es'.toList 0 = some res →
      (Instr.mapUpdate t (.map (some p.b)) k' v').run P w = .ok () w' := by
    intro w' res hx hres
    unfold Instr.mapUpdate
    rw [run_bindR _ _ w w (run_underlying ht w)]
    simp only
    rw [run_bindR _ _ w w (getObj_map h1)]
    simp only
    rw [run_bindR _ _ w w (run_checkKey hkt hkd _ _ w), run_bindR _ _ w w (run_findKey hkt hres w)]
    exact hx res hres
  rcases setK_sim hk hv h2 h 0 with ⟨j, e', a1, a2, a3, rfl, a5⟩ | ⟨a1, rfl, a3⟩
  · obtain ⟨q1, q2⟩ := putMap_sim hr hm hp (es1' := es'.modify j fun e => { e with key := k', val := v' }) (c1 := c1) (by rw [modify_toList _ _ _ e' a1]; exact a5)
    refine ⟨_, head _ _ (fun x hx => ?_) a2, q1, q2⟩
    rw [a2] at hx; cases hx
    simp only [Nat.zero_add]
    have hold : ((es'[j]?).map (·.key)).getD k' = e'.key := by rw [Array.getElem?_toList] at a1; rw [a1]; rfl
    have hkeep : (Instr.keyThatStays (((es'[j]?).map (·.key)).getD k') k').run P w = .ok k' w := by
      rw [hold]
      unfold Instr.keyThatStays
      rw [if_pos a3]; rfl
    rw [run_bindR _ _ w w hkeep]
    exact run_setObj_map h1 _
  · obtain ⟨q1, q2⟩ := putMap_sim hr hm hp (es1' := es'.push { key := k', val := v', born := c }) (c1 := c + 1) (by simpa using a3)
    refine ⟨_, head _ _ (fun x hx => ?_) a1, q1, q2⟩
    rw [a1] at hx; cases hx
    exact run_setObj_map h1 _

theorem delete_sim (hr : Rel P ρ σ w.heap) {t kt et ty : TypeId} {tl : List TypeId} {kd : TypeDesc} {r : Nat} {p : Pl} {k k' : Value} {es es1 : List MapEntry} {c : Nat}
    (ht : P.underlying t = some (.map kt et)) (hkt : P.underlying kt = some kd) (hkd : plainKey kd = true) (hm : σ.map? r = some (es, c)) (hp : ρ r = some p) (hk : VR ρ k k')
    (h : delK kd k es = some es1) : ∃ w', (Builtin.delete_ (t :: tl).toArray ty #[.map (some p.b), k']).run P w = .ok (.tuple #[]) w' ∧ Rel P ρ (σ.put r (.map es1 c)) w'.heap ∧ Sim ρ σ w ρ (σ.put r (.map es1 c)) w' := by
  obtain ⟨es', h1, h2⟩ := hr.mp r es c p (St.map_eq.1 hm) hp
  have head : ∀ w' res, (∀ x, Instr.findNow kd k' es'.toList 0 = some x → (match x with
      | some (i, _) => setObj p.b (.map (es'.eraseIdxIfInBounds i) c)
      | none => setObj p.b (.map es' c) : Sem Unit).run P w = .ok () w') → Instr.findNow kd k' es'.toList 0 = some res →
      (Builtin.delete_ (t :: tl).toArray ty #[.map (some p.b), k']).run P w = .ok (.tuple #[]) w' := by
    intro w' res hx hres
    unfold Builtin.delete_
    have h0 : (t :: tl).toArray[0]? = some t := by simp
    have h3 : (#[Value.map (some p.b), k'] : Array Value)[0]? = some (.map (some p.b)) := rfl
    have h4 : (#[Value.map (some p.b), k'] : Array Value)[1]? = some k' := rfl
    simp only [h0, h3, h4]
    rw [run_bindR _ _ w w (run_underlying ht w)]
    simp only
    rw [run_bindR _ _ w w (getObj_map h1)]
    simp only
    rw [run_bindR _ _ w w (run_checkKey hkt hkd _ _ w), run_bindR _ _ w w (run_findKey hkt hres w)]
    have := hx res hres
    cases res with
    | none => simp only at this ⊢; rw [run_bindR _ _ w w' this]; rfl
    | some q => obtain ⟨i, u⟩ := q; simp only at this ⊢; rw [run_bindR _ _ w w' this]; rfl
  rcases delK_sim hk h2 h 0 with ⟨j, u, a1, a2, a3⟩ | ⟨a1, a2⟩
  · have hlt : j < es'.size := by simpa using a3
    obtain ⟨q1, q2⟩ := putMap_sim hr hm hp (es1' := es'.eraseIdxIfInBounds j) (c1 := c) (by
      have : (es'.eraseIdxIfInBounds j).toList = es'.toList.eraseIdx j := by
        unfold Array.eraseIdxIfInBounds
        rw [dif_pos hlt]
        simp
      rw [this]; exact a2)
    refine ⟨_, head _ _ (fun x hx => ?_) a1, q1, q2⟩
    rw [a1] at hx; cases hx
    simp only [Nat.zero_add]
    exact run_setObj_map h1 _
  · obtain ⟨q1, q2⟩ := putMap_sim hr hm hp (es1' := es') (c1 := c) a2
    refine ⟨_, head _ _ (fun x hx => ?_) a1, q1, q2⟩
    rw [a1] at hx; cases hx
    exact run_setObj_map h1 _

/-! ## a string over the bytes of a row -/
theorem run_loadBytesN : ∀ (ns : List Int) (a : Addr) (acc : ByteArray) (w : World), (∀ j x, ns[j]? = some x → w.cell? (a.add j) = some (.int .u8 x)) →
    (loadBytes a acc ns.length).run P w = .ok ⟨acc.data ++ (ns.map fun n => UInt8.ofNat n.toNat).toArray⟩ w
  | [], a, acc, w, _ => by simp [loadBytes]
  | x :: l, a, acc, w, h => by
    have h0 : w.cell? a = some (.int .u8 x) := by
      have := h 0 x rfl
      simpa [Addr.add] using this
    have ih := run_loadBytesN l (a.add 1) (acc.push x.toNat.toUInt8) w (fun j y hy => by
      have := h (j + 1) y (by simpa using hy)
      have e : (a.add 1).add j = a.add (j + 1) := by
        unfold Addr.add
        by_cases hj : j = 0
        · subst hj; simp
        · simp [hj]; omega
      rw [e]; exact this)
    simp only [List.length_cons, loadBytes, Sem.run_bind, run_load, h0, Result.andThen]
    rw [ih]
    congr 1
    apply ByteArray.ext
    simp [ByteArray.push]
theorem liesAt_off {e : TypeId} (hc : P.cellsOf e = 1) (count off n : Nat) (hn : off + n ≤ count) : liesAt P P.depth e count off e n = true := by
  have hd : P.depth = (2 * (P.types.size + Made.depth) + 1) + 1 := rfl
  rw [hd]
  simp only [liesAt, Bool.or_eq_true]
  left
  rw [hd]
  simp [rowAt, hc, hn, sameLayout, Nat.mod_one]

theorem freeze_heap {w : World} {b o n : Nat} {C : Array Value} {e : TypeId} {fr : Nat × Nat} (h : w.heap[b]? = some (.cells C e fr)) (hn : n ≠ 0) :
    (w.freeze ⟨b, o, none⟩ n).heap[b]? = some (.cells C e (if fr.1 == fr.2 then (o, o + n) else (min fr.1 o, max fr.2 (o + n)))) := by
  unfold World.freeze
  rw [if_neg hn]
  simp only [Array.getElem?_modify, if_pos, h, Option.map_some]
theorem freeze_other {w : World} {b o n B : Nat} (hB : B ≠ b) : (w.freeze ⟨b, o, none⟩ n).heap[B]? = w.heap[B]? := by
  unfold World.freeze
  split
  · rfl
  · simp only [Array.getElem?_modify]
    rw [if_neg (Ne.symm hB)]
theorem freeze_size (w : World) (a : Addr) (n : Nat) : (w.freeze a n).heap.size = w.heap.size := by
  unfold World.freeze
  split
  · rfl
  · simp
theorem freeze_out (w : World) (a : Addr) (n : Nat) : (w.freeze a n).os = w.os ∧ (w.freeze a n).output = w.output ∧ (w.freeze a n).tape = w.tape := by
  unfold World.freeze
  split <;> exact ⟨rfl, rfl, rfl⟩

theorem unsafeString_sim (hr : Rel P ρ σ w.heap) {t e ty : TypeId} {tl : List TypeId} {b o n : Nat} {p : Pl} {k : IntKind} {r : Blk} {cs : List Value} {l : List UInt8}
    (ht : P.underlying t = some (.pointer e)) (he : sizeN P e = some 1) (hrow : σ.row? b = some r) (hp : ρ b = some p) (hn : 0 < n) (hel : r.elem = e) (hstr : r.str = false) (hro : r.ro = false)
    (hl : loadCs σ ⟨b, o, none⟩ n = some cs) (hu : unbytes cs = some l) (hmax : n ≤ 9223372036854775807) :
    ∃ w', (Builtin.unsafeString_ (t :: tl).toArray ty #[.pointer (some ⟨p.b, p.d + o, none⟩), .int k n]).run P w = .ok (.string ⟨l.toArray⟩) w' ∧
      Rel P ρ (σ.put b (.row { r with fz := Nat.max r.fz (o + n) })) w'.heap ∧ Sim ρ σ w ρ (σ.put b (.row { r with fz := Nat.max r.fz (o + n) })) w' := by
  obtain ⟨cs', k1, k2, k3⟩ := loadCs_sim hr hl hp
  obtain ⟨ns, rfl, rfl⟩ := unbytes_sim k1 hu
  have hnl : ns.length = n := by simpa using k2
  have hro' := St.row_eq.1 hrow
  obtain ⟨⟨C, fz, g1, g2, g3, g4⟩, g5, g6, g7, g8⟩ := hr.row b r p hro' hp
  have hon : o + n ≤ r.cs.length := by
    unfold loadCs at hl
    simp only [hrow, Option.bind_some, takeN_eq, dropN_eq] at hl
    split at hl
    · rename_i hq; simp at hq; omega
    · cases hl
  have hcells : P.cellsOf e = 1 := by
    unfold sizeN at he
    unfold Program.cellsOf
    rw [he]; rfl
  have hlb := run_loadBytesN (P := P) ns ⟨p.b, p.d + o, none⟩ .empty w (fun j x hj => k3 j _ (by simp [hj]))
  rw [hnl] at hlb
  refine ⟨w.freeze ⟨p.b, p.d + o, none⟩ n, ?_, ?_, ?_⟩
  · have hdef : Builtin.unsafeString_ (t :: tl).toArray ty #[.pointer (some ⟨p.b, p.d + o, none⟩), .int k n] =
      (do
        let n ← asInt (.int k n)
        if n < 0 then runtimePanic (.error "unsafe.String: len out of range")
        if n > IntKind.i64.max then unsupported (.unsafePointer "String: a length above the largest int")
        if n = 0 then pure (.string .empty)
        else if ← variablesAt ⟨p.b, p.d + o, none⟩ (← elemOf t) n.toNat then do
          let s ← loadBytes ⟨p.b, p.d + o, none⟩ .empty n.toNat
          freeze ⟨p.b, p.d + o, none⟩ n.toNat
          pure (.string s)
        else unsupported (.unsafePointer "String: not so many bytes at ptr")) := rfl
    rw [hdef]
    have hint : (asInt (.int k n)).run P w = .ok (n : Int) w := rfl
    rw [run_bindR _ _ w w hint]
    have hm : IntKind.i64.max = 9223372036854775807 := rfl
    rw [if_neg (by omega), hm, if_neg (by omega), if_neg (by omega)]
    have hel' : (elemOf t).run P w = .ok e w := by
      unfold elemOf
      rw [run_bindR _ _ w w (run_underlying ht w)]; rfl
    rw [run_bindR _ _ w w hel']
    have hva : (variablesAt ⟨p.b, p.d + o, none⟩ e (n : Int).toNat).run P w = .ok true w := by
      unfold variablesAt
      rw [run_bindR _ _ w w (x := P) rfl]
      have hsh : (shape p.b).run P w = .ok (some (e, C.size)) w := by
        rw [run_shape, shape_at g1, hel]
      rw [run_bindR _ _ w w hsh]
      simp only [Sem.run_pure]
      rw [liesAt_off hcells _ _ _ (by rw [hcells, Nat.div_one]; simp only [Int.toNat_natCast]; omega)]
    rw [run_bindR _ _ w w hva]
    simp only [if_true, Int.toNat_natCast]
    rw [run_bindR _ _ w w hlb]
    simp
  · refine hr.put hro' hp _ _ (fun B hB => freeze_other hB) ?_
    refine ⟨⟨C, _, freeze_heap g1 (by omega), g2, ?_, g4⟩, g5, g6, g7, ?_⟩
    · have : r.fz ≤ Nat.max r.fz (o + n) := Nat.le_max_left _ _
      have : o + n ≤ Nat.max r.fz (o + n) := Nat.le_max_right _ _
      by_cases hq : fz.1 = fz.2
      · simp only [hq, beq_self_eq_true, if_true]
        exact fun _ => ⟨by omega, fun _ => .inl (by show p.d + o + n ≤ p.d + Nat.max r.fz (o + n); omega)⟩
      · have hq' : (fz.1 == fz.2) = false := by simpa using hq
        simp only [hq', Bool.false_eq_true, if_false]
        have hlt : fz.1 < fz.2 := by have := (g3 hro).1; omega
        rcases (g3 hro).2 hlt with b1 | ⟨b0, b1⟩
        · exact fun _ => ⟨by omega, fun _ => .inl (by show max fz.2 (p.d + o + n) ≤ p.d + Nat.max r.fz (o + n); omega)⟩
        · rw [hstr] at b0; cases b0
    · show Nat.max r.fz (o + n) ≤ p.n
      exact Nat.max_le.2 ⟨g8, by omega⟩
  · exact Sim.put hr hro' hro hp _ _ (fun B hB => freeze_other hB) (freeze_size _ _ _) (freeze_out _ _ _)

/-- a row is marked as one that a string may share -/
theorem mark_sim (hr : Rel P ρ σ w.heap) {b o : Nat} {p : Pl} {r : Blk} (hrow : σ.row? b = some r) (hp : ρ b = some p) (hro : r.ro = false) (hlo : r.loose = false) (hfz : r.fz = 0) :
    ∃ w', (markStringish ⟨p.b, o, none⟩).run P w = .ok () w' ∧ Rel P ρ (σ.put b (.row { r with str := true })) w'.heap ∧ Sim ρ σ w ρ (σ.put b (.row { r with str := true })) w' := by
  have hro' := St.row_eq.1 hrow
  obtain ⟨⟨C, fz, g1, g2, g3, g4⟩, g5, g6, g7, g8⟩ := hr.row b r p hro' hp
  refine ⟨w.freeze ⟨p.b, C.size, none⟩ 1, ?_, ?_, Sim.put hr hro' hro hp _ _ (fun B hB => freeze_other hB) (freeze_size _ _ _) (freeze_out _ _ _)⟩
  · unfold markStringish
    have hsh : (shape p.b).run P w = .ok (some (r.elem, C.size)) w := by rw [run_shape, shape_at g1]
    rw [run_bindR _ _ w w hsh]
    rfl
  · refine hr.put hro' hp _ _ (fun B hB => freeze_other hB) ?_
    refine ⟨⟨C, _, freeze_heap g1 (by omega), g2, ?_, g4⟩, g5, g6, g7, g8⟩
    obtain ⟨d0, x0⟩ := g6 hlo
    by_cases hq : fz.1 = fz.2
    · simp only [hq, beq_self_eq_true, if_true]
      exact fun _ => ⟨by omega, fun _ => .inr ⟨by first | rfl | trivial, Nat.le_refl _⟩⟩
    · have hq' : (fz.1 == fz.2) = false := by simpa using hq
      simp only [hq', Bool.false_eq_true, if_false]
      have hlt : fz.1 < fz.2 := by have := (g3 hro).1; omega
      rcases (g3 hro).2 hlt with b1 | ⟨b0, b1⟩
      · omega
      · exact fun _ => ⟨by omega, fun _ =>   .inr ⟨by first | rfl | trivial, by show C.size ≤ min fz.1 C.size; omega⟩⟩
end Go.Am
