/-
  A part of the proof that the run of an abstract machine, which the kernel can run, is what the program does under its model: no condition of its own.
-/
import Derived.Test.YtgjpafihilgpmaaGreatDoorAmOps6
import Derived.Laws.BitsLemmas
set_option linter.unusedVariables false
set_option linter.unusedSimpArgs false
set_option maxHeartbeats 1000000
namespace Go.Am
open Go
variable {P : Program} {ρ : Rho} {σ : St} {w : World} {a : Act} {fr : Fr}

theorem lenV_sim {x x' : Value} {n : Nat} (hx : VR ρ x x') (h : lenV x = some n) (w : World) : (Builtin.lenOf x').run P w = .ok n w := by
  cases hx <;> simp only [lenV, Option.some.injEq, reduceCtorEq] at h <;> subst h <;> rfl
theorem bytesV_take (s : ByteArray) (n : Nat) (h : n ≤ s.size) : ((s.extract 0 n).data.map fun b => Value.int .u8 b.toNat).toList = (bytesV s).take n := by
  unfold bytesV
  simp [ByteArray.extract, ByteArray.copySlice, List.map_take]
theorem bytesV_VL (s : ByteArray) : VL ρ (bytesV s) (bytesV s) := ⟨rfl, fun i v v' x y => by
  rw [x] at y; cases y
  unfold bytesV at x
  rw [List.getElem?_map] at x
  cases hq : s.data.toList[i]? with
  | none => rw [hq] at x; cases x
  | some q => rw [hq] at x; cases x; exact .int _ _⟩
theorem firstV_sim (hr : Rel P ρ σ w.heap) {x x' : Value} {esz n : Nat} {cs : List Value} (hx : VR ρ x x') (hn : ∀ m, lenV x = some m → n ≤ m) (h : firstV σ esz n x = some cs) :
    ∃ cs', VL ρ cs cs' ∧ (Builtin.firstCells esz n x').run P w = .ok cs'.toArray w ∧ ∀ w1 : World, w1.heap = w.heap → (Builtin.firstCells esz n x').run P w1 = .ok cs'.toArray w1 := by
  suffices H : ∃ cs', VL ρ cs cs' ∧ ∀ w1 : World, w1.heap = w.heap → (Builtin.firstCells esz n x').run P w1 = .ok cs'.toArray w1 by
    obtain ⟨cs', h1, h2⟩ := H; exact ⟨cs', h1, h2 w rfl, h2⟩
  cases hx with
  | slc b o m c c' p hp hc hm hk =>
    simp only [firstV] at h
    obtain ⟨cs', h1, h2, h3⟩ := loadCs_sim hr h hp
    refine ⟨cs', h1, fun w1 hw1 => ?_⟩
    simp only [Builtin.firstCells]
    exact run_loadCells_len h2 (fun j v hj => by have := h3 j v hj; unfold World.cell? at this ⊢; rw [hw1]; exact this)
  | slce b o p a' c' hp hk =>
    have hn0 : n = 0 := Nat.le_zero.1 (hn 0 rfl)
    subst hn0
    simp only [firstV] at h
    unfold loadCs at h
    simp only [Option.bind_eq_some_iff, Nat.zero_mul, takeN_zero, Option.some.injEq] at h
    obtain ⟨r, h1, rfl⟩ := h
    refine ⟨[], .nil ρ, fun w1 _ => ?_⟩
    simp only [Builtin.firstCells, Nat.zero_mul]
    rfl
  | slc0 m c => simp only [firstV, Option.some.injEq] at h; subst h; exact ⟨[], .nil ρ, fun w1 _ => rfl⟩
  | string s =>
    simp only [firstV, takeN_eq] at h
    split at h
    · rename_i hn
      cases h
      have hb : (bytesV s).length = s.size := by simp [bytesV]
      refine ⟨(bytesV s).take n, (bytesV_VL s).take n, fun w1 _ => ?_⟩
      simp only [Builtin.firstCells]
      show Result.ok _ w1 = _
      congr 1
      apply Array.ext'
      rw [bytesV_take s n (by omega)]
    · cases h
  | _ => simp [firstV] at h

def appTail (esz : Nat) (e : TypeId) (base : Option Addr) (sLen sCap n : Nat) (x : Value) (zeros : Bool) (appended : Sem (Array Value)) : Sem Value := do
  let need := sLen + n
  if need ≤ sCap then
    let new ← appended
    if let some a := base then storeCells (a.add (sLen * esz)) new.toList
    pure (.slice base need sCap)
  else
    if (need : Int) > IntKind.i64.max ∧ (zeros ∨ (← typeInfo e).bytes = 0) then runtimePanic (.error "growslice: len out of range")
    if Builtin.nextslicecap need sCap * (← typeInfo e).bytes > 2 ^ 48 then (if zeros then runtimePanic (.error "growslice: len out of range") else do
      if !(← Builtin.mayShare esz sLen n base x) then mark .noRoom
      unsupported (.resourceLimit "append: a slice or a string whose bytes no memory bears"))
    let newCap ← choose (.appendCap need sCap e)
    askRoom (newCap * (← typeInfo e).bytes)
    let old ← Builtin.firstCells esz sLen (.slice base sLen sCap)
    let new ← appended
    let rest := Builtin.zeroCells (← zeroValue e).cells (newCap - need)
    pure (.slice (some (← newRow e (old ++ new ++ rest))) need newCap)

theorem run_append_x {t e ty : TypeId} {xt : List TypeId} {base : Option Addr} {sLen sCap n esz : Nat} {x : Value} (hu : P.underlying t = some (.slice e)) (hs : sizeN P e = some esz)
    (hxt : xt = [] ∨ ∃ u xt' d, xt = u :: xt' ∧ P.underlying u = some d ∧ ∀ k, d ≠ .int k) (hl : (Builtin.lenOf x).run P w = .ok n w) :
    (Builtin.append_ (t :: xt).toArray ty #[.slice base sLen sCap, x]).run P w = (appTail esz e base sLen sCap n x false (Builtin.firstCells esz n x)).run P w := by
  unfold Builtin.append_ appTail
  have h0 : (t :: xt).toArray[0]? = some t := by simp
  have h1 : (#[Value.slice base sLen sCap, x] : Array Value)[0]? = some (.slice base sLen sCap) := rfl
  have h2 : (#[Value.slice base sLen sCap, x] : Array Value)[1]? = some x := rfl
  simp only [h0, h1, h2]
  rw [run_bindR _ _ w w (run_underlying hu w)]
  simp only
  rw [run_bindR _ _ w w (run_sizeOfN hs w)]
  rcases hxt with rfl | ⟨u, xt', d, rfl, hd, hk⟩
  · have h3 : [t].toArray[1]? = none := by simp
    simp only [h3]
    rw [run_bindR _ _ w w (x := false) rfl]
    simp only [Bool.false_eq_true, if_false]
    rw [run_bindR _ _ w w hl]
    rfl
  · have h3 : (t :: u :: xt').toArray[1]? = some u := by simp
    simp only [h3]
    rw [run_bindR _ _ w w (run_underlying hd w)]
    rw [run_bindR _ _ w w (x := false) (by cases d <;> first | rfl | exact absurd rfl (hk _))]
    simp only [Bool.false_eq_true, if_false]
    rw [run_bindR _ _ w w hl]
    rfl
theorem run_append_z {t e ty u : TypeId} {k k' : IntKind} {m : Int} {xt : List TypeId} {base : Option Addr} {sLen sCap esz bytes : Nat} {zv : Value} (hu : P.underlying t = some (.slice e)) (hs : sizeN P e = some esz) (hb : bytesN P e = some bytes)
    (hxt : P.underlying u = some (.int k)) (hm0 : 0 ≤ m) (hm : m.toNat * bytes ≤ 140737488355328) (hbp : 0 < bytes) (hz : ∀ w, (zeroValue e).run P w = .ok zv w) (hzs : zv.cells.size = esz) (hez : 0 < esz) :
    ∃ app : Sem (Array Value), (Builtin.append_ (t :: u :: xt).toArray ty #[.slice base sLen sCap, .int k' m]).run P w = (appTail esz e base sLen sCap m.toNat (.int k' m) true app).run P w ∧
      ∀ w, app.run P w = .ok (repN m.toNat zv.cells.toList).toArray w := by
  have hmul : m.toNat ≤ m.toNat * bytes := Nat.le_mul_of_pos_right _ hbp
  have hwr : IntKind.i64.wrap m = m := by rw [IntKind.wrap_i64]; omega
  refine ⟨if m.toNat * esz = 0 then pure #[] else do pure (Builtin.zeroCells (← zeroValue e).cells m.toNat), ?_, fun w => ?_⟩
  · unfold Builtin.append_ appTail
    have h0 : (t :: u :: xt).toArray[0]? = some t := by simp
    have h1 : (#[Value.slice base sLen sCap, .int k' m] : Array Value)[0]? = some (.slice base sLen sCap) := rfl
    have h2 : (#[Value.slice base sLen sCap, .int k' m] : Array Value)[1]? = some (.int k' m) := rfl
    have h3 : (t :: u :: xt).toArray[1]? = some u := by simp
    simp only [h0, h1, h2]
    rw [run_bindR _ _ w w (run_underlying hu w)]
    simp only
    rw [run_bindR _ _ w w (run_sizeOfN hs w)]
    simp only [h3]
    rw [run_bindR _ _ w w (run_underlying hxt w)]
    rw [run_bindR _ _ w w (x := true) rfl]
    simp only [if_true]
    have hi : ∃ i, P.info? e = some i ∧ i.bytes = bytes := by
      unfold bytesN at hb
      cases hi : P.info? e with
      | none => simp [hi] at hb
      | some i => exact ⟨i, rfl, by simpa [hi] using hb⟩
    obtain ⟨i, hi, hib⟩ := hi
    have h4 : (asInt (.int k' m)).run P w = .ok m w := rfl
    have h5 : (typeInfo e).run P w = .ok i w := by simp [typeInfo, hi]
    rw [run_bindR _ _ w w h4]
    simp only [hwr]
    rw [if_neg (by omega)]
    rw [run_bindR _ _ w w h5]
    simp only [hib]
    rw [if_neg (by have : m * (bytes : Int) = ((m.toNat * bytes : Nat) : Int) := by rw [Int.natCast_mul, Int.toNat_of_nonneg hm0]
                   rw [this]; omega)]
    rw [run_bindR _ _ w w (x := m.toNat) rfl]
    rfl
  · by_cases h : m.toNat * esz = 0
    · rw [if_pos h]
      have : repN m.toNat zv.cells.toList = [] := by
        apply List.length_eq_zero_iff.1
        rw [repN_length]; simpa [hzs] using h
      rw [this]; rfl
    · rw [if_neg h, run_bindR _ _ w w (hz w)]
      have := repN_eq zv.cells m.toNat
      unfold Builtin.zeroCells
      rw [← this]
      show Result.ok _ w = Result.ok _ w
      congr 1

theorem run_tail_place {esz : Nat} {e : TypeId} {ba : Addr} {sLen sCap n : Nat} {x : Value} {z : Bool} {app : Sem (Array Value)} {new : List Value} {w w' : World}
    (hle : sLen + n ≤ sCap) (happ : app.run P w = .ok new.toArray w) (hst : (storeCells (ba.add (sLen * esz)) new).run P w = .ok () w') :
    (appTail esz e (some ba) sLen sCap n x z app).run P w = .ok (.slice (some ba) (sLen + n) sCap) w' := by
  unfold appTail
  simp only
  rw [if_pos hle, run_bindR _ _ w w happ]
  simp only
  rw [run_bindR _ _ w w' hst]
  rfl
theorem run_tail_none {esz : Nat} {e : TypeId} {sLen sCap n : Nat} {x : Value} {z : Bool} {app : Sem (Array Value)} {new : List Value} {w : World}
    (hle : sLen + n ≤ sCap) (happ : app.run P w = .ok new.toArray w) :
    (appTail esz e none sLen sCap n x z app).run P w = .ok (.slice none (sLen + n) sCap) w := by
  unfold appTail
  simp only
  rw [if_pos hle, run_bindR _ _ w w happ]
  rfl
theorem run_tail_grow {esz bytes : Nat} {e : TypeId} {base : Option Addr} {sLen sCap n : Nat} {x : Value} {z : Bool} {app : Sem (Array Value)} {old new : List Value} {zv : Value} {w : World}
    (hlt : sCap < sLen + n) (hb : bytesN P e = some bytes) (hb0 : 0 < bytes) (hfit : (sLen + n) * bytes ≤ 140737488355328) (hz : ∀ w, (zeroValue e).run P w = .ok zv w)
    (hold : ∀ w1 : World, w1.heap = w.heap → (Builtin.firstCells esz sLen (.slice base sLen sCap)).run P w1 = .ok old.toArray w1)
    (happ : ∀ w1 : World, w1.heap = w.heap → app.run P w1 = .ok new.toArray w1) :
    ∃ newCap, sLen + n ≤ newCap ∧ (appTail esz e base sLen sCap n x z app).run P w =
      .ok (.slice (some ⟨w.heap.size, 0, none⟩) (sLen + n) newCap) (w.drew.alloc (.cells (old ++ new ++ repN (newCap - (sLen + n)) zv.cells.toList).toArray e)) := by
  obtain ⟨newCap, hcap, hch⟩ : ∃ cap, sLen + n ≤ cap ∧ (choose (.appendCap (sLen + n) sCap e)).run P w = .ok cap w.drew := by
    refine ⟨(Question.appendCap (sLen + n) sCap e).cut (w.tape w.drawn (.appendCap (sLen + n) sCap e)), ?_, ?_⟩
    · simp [Question.cut]
    · simp [Question.forced]
  refine ⟨newCap, hcap, ?_⟩
  have hi : ∃ i, P.info? e = some i ∧ i.bytes = bytes := by
    unfold bytesN at hb
    cases hi : P.info? e with
    | none => simp [hi] at hb
    | some i => exact ⟨i, rfl, by simpa [hi] using hb⟩
  obtain ⟨i, hi, hib⟩ := hi
  have h5 : ∀ w, (typeInfo e).run P w = .ok i w := fun w => by simp [typeInfo, hi]
  have hmul : sLen + n ≤ (sLen + n) * bytes := Nat.le_mul_of_pos_right _ hb0
  unfold appTail
  simp only
  rw [if_neg (by omega), run_bindR _ _ w w (h5 w), if_neg (by
    have : IntKind.i64.max = 9223372036854775807 := by simp [IntKind.max, IntKind.bits, IntKind.signed]
    rw [this]; omega)]
  rw [run_bindR _ _ w w (h5 w), if_neg (by
    rw [hib]
    have := growslice_fits hlt hfit
    have e48 : (2 : Nat) ^ 48 = 281474976710656 := by decide
    rw [e48]; omega)]
  rw [run_bindR _ _ w _ hch, run_bindR _ _ _ _ (h5 _)]
  have hask : (askRoom (newCap * i.bytes)).run P w.drew = .ok () w.drew := by
    unfold askRoom
    split <;> rfl
  rw [run_bindR _ _ _ _ hask, run_bindR _ _ _ _ (hold w.drew rfl), run_bindR _ _ _ _ (happ w.drew rfl), run_bindR _ _ _ _ (hz _)]
  have hzc : Builtin.zeroCells zv.cells (newCap - (sLen + n)) = (repN (newCap - (sLen + n)) zv.cells.toList).toArray := by
    have := repN_eq zv.cells (newCap - (sLen + n))
    unfold Builtin.zeroCells
    rw [← this]
  rw [hzc]
  have : old.toArray ++ new.toArray ++ (repN (newCap - (sLen + n)) zv.cells.toList).toArray = (old ++ new ++ repN (newCap - (sLen + n)) zv.cells.toList).toArray := by
    apply Array.ext'; simp
  rw [this]
  rfl

/-- a slice and what it is in real memory -/
structure SliceAt (ρ : Rho) (base : Option Addr) (len cap : Nat) (base' : Option Addr) (cap' : Nat) : Prop where
  h : VR ρ (.slice base len cap) (.slice base' len cap')

/-- the new block of a grown slice -/
theorem grown_sim (hr : Rel P ρ σ w.heap) {e : TypeId} {esz N newCap : Nat} {cs cs' z : List Value} {fz : Nat} {str : Bool} (hv : VL ρ cs cs') (hlen : cs.length = N * esz) (hle : N ≤ newCap) (hN : 0 < N)
    (hz : z.length = esz) (hs : sizeN P e = some esz) (h0 : 0 < esz) (hfz : fz ≤ cs.length) (w1 : World) (hw1 : w1.heap = w.heap.push (.cells (cs' ++ repN (newCap - N) z).toArray e)) (hout : w1.os = w.os ∧ w1.output = w.output ∧ w1.tape = w.tape) :
    ∃ ρ', VR ρ' (.slice (some ⟨σ.nx, 0, none⟩) N N) (.slice (some ⟨w.heap.size, 0, none⟩) N newCap) ∧ Rel P ρ' (σ.new (.row { cs, elem := e, loose := true, fz, str })).2 w1.heap ∧ Sim ρ σ w ρ' (σ.new (.row { cs, elem := e, loose := true, fz, str })).2 w1 := by
  let p : Pl := ⟨w.heap.size, 0, cs.length, (repN (newCap - N) z).length, esz⟩
  have hx : (repN (newCap - N) z).length = (newCap - N) * esz := by rw [repN_length, hz]
  have hf := (hr.fresh σ.nx (Nat.le_refl _)).2
  have hat := RowAt.new (P := P) (ρ := ρ.upd σ.nx p) (H := w.heap) (r := { cs, elem := e, loose := true, str }) (cs' := cs') (extra := repN (newCap - N) z) (fr := (0, 0)) (s := esz)
    (hv.mono (Rho.le_upd p hf)) (.inr ⟨rfl, h0, hs⟩) rfl (Nat.le_refl _) (fun h => absurd h (by decide))
  have hat' : RowAt P (ρ.upd σ.nx p) (w.heap.push (.cells (cs' ++ repN (newCap - N) z).toArray e)) { cs, elem := e, loose := true, fz, str } p := by
    obtain ⟨⟨C, fr, g1, g2, g3, g4⟩, g5, g6, g7, g8⟩ := hat
    have e1 : C = (cs' ++ repN (newCap - N) z).toArray ∧ fr = (0, 0) := by simp at g1; exact ⟨g1.1.symm, g1.2.symm⟩
    refine ⟨⟨C, fr, g1, g2, ?_, g4⟩, g5, g6, g7, hfz⟩
    rw [e1.2]
    exact fun _ => ⟨Nat.le_refl _, fun h => absurd h (by decide)⟩
  refine ⟨ρ.upd σ.nx p, ?_, ?_, Sim.new hr _ _ p rfl w1 hw1 hout⟩
  · refine .slc σ.nx 0 N N newCap p (Rho.upd_self _ _ _) hN (Nat.le_refl _) ?_
    unfold capOK
    by_cases hxx : p.x = 0
    · rw [if_neg (by simp [hxx])]
      have : (newCap - N) * esz = 0 := by rw [← hx]; exact hxx
      rcases Nat.mul_eq_zero.1 this with q | q <;> omega
    · rw [if_pos ⟨by show 0 + N * esz = cs.length; omega, hxx⟩]
      exact ⟨hle, hx.symm⟩
  · rw [hw1]
    exact hr.new _ _ p rfl hat'

theorem appendV_some (hr : Rel P ρ σ w.heap) {e : TypeId} {esz bytes len cap cap' n b o : Nat} {p : Pl} {a' : Addr} {new new' : List Value} {v x : Value} {σ' : St} {z : Bool} {app : Sem (Array Value)} {zv : Value}
    (hcase : (0 < cap ∧ len ≤ cap ∧ a' = ⟨p.b, p.d + o, none⟩ ∧ capOK p o cap cap') ∨ (cap = 0 ∧ len = 0 ∧ (cap' = 0 ∨ (p.x ≠ 0 ∧ o = p.n ∧ a' = ⟨p.b, p.d + p.n, none⟩ ∧ cap' * p.s = p.x))))
    (hp : ρ b = some p)
    (h : (match (none : Option Nat), σ.row? b with
      | none, some r =>
        bif Nat.ble (len + n) cap then (storeCs σ (addrAdd ⟨b, o, none⟩ (len * esz)) new).map fun σ => (Value.slice (some ⟨b, o, none⟩) (len + n) cap, σ)
        else
          (takeN (len * esz) (dropN o r.cs)).bind fun old =>
          bif r.loose && !(Nat.beq r.elem e) then none else
          bif r.loose && (Nat.beq (o + cap * esz) r.cs.length) then
            bif Nat.beq len cap && !r.ro && new.all oneCell then
              let (b, σ') := (σ.kill b).new (.row { cs := old ++ new, elem := e, loose := true, fz := r.fz - o, str := r.str })
              some (.slice (some ⟨b, 0, none⟩) (len + n) (len + n), σ')
            else none
          else let (a, σ) := σ.alloc (old ++ new) e true; some (.slice (some a) (len + n) (len + n), σ)
      | _, _ => none) = some (v, σ'))
    (hv : VL ρ new new') (hnl : new.length = n * esz) (hn0 : 0 < n)
    (hs : sizeN P e = some esz) (h0 : 0 < esz) (hby : bytesN P e = some bytes) (hb0 : 0 < bytes) (hfit : (len + n) * bytes ≤ 140737488355328) (hz : ∀ w, (zeroValue e).run P w = .ok zv w) (hzs : zv.cells.size = esz)
    (happ : ∀ w1 : World, w1.heap = w.heap → app.run P w1 = .ok new'.toArray w1) :
    ∃ v' w' ρ', (appTail esz e (some a') len cap' n x z app).run P w = .ok v' w' ∧ VR ρ' v v' ∧ Rel P ρ' σ' w'.heap ∧ Sim ρ σ w ρ' σ' w' := by
  have hzl : zv.cells.toList.length = esz := by simpa using hzs
  have hnl' : new'.length = n * esz := by rw [← hv.1]; exact hnl
  cases hrow : σ.row? b with
  | none => simp [hrow] at h
  | some r =>
  have hro := St.row_eq.1 hrow
  obtain ⟨⟨C, fr, g1, g2, g3, g4⟩, g5, g6, g7, g8⟩ := hr.row b r p hro hp
  simp only [hrow] at h
  have hcc : cap ≤ cap' := by
    rcases hcase with ⟨_, _, _, hk⟩ | ⟨q, _, _⟩
    · exact capOK_le hk
    · omega
  have hlc : len ≤ cap := by rcases hcase with ⟨_, q, _⟩ | ⟨_, q, _⟩ <;> omega
  cases hfit1 : Nat.ble (len + n) cap with
  | true =>
    have hle : len + n ≤ cap := Nat.le_of_ble_eq_true hfit1
    simp only [hfit1, cond_true, Option.map_eq_some_iff, Prod.mk.injEq] at h
    obtain ⟨σ1, h1, rfl, rfl⟩ := h
    rcases hcase with ⟨hc, _, rfl, hk⟩ | ⟨q, _, _⟩
    · obtain ⟨w', k1, k2, k3⟩ := storeCs_sim hr (b := b) (o := o + len * esz) h1 hp hv
      refine ⟨_, w', ρ, run_tail_place (by omega) (happ w rfl) ?_, .slc b o (len + n) cap cap' p hp hc hle hk, k2, k3⟩
      rw [add_none, show p.d + o + len * esz = p.d + (o + len * esz) by omega]
      exact k1
    · omega
  | false =>
  have hgt : cap < len + n := by
    rcases Nat.lt_or_ge cap (len + n) with q | q
    · exact q
    · rw [Nat.ble_eq_true_of_le q] at hfit1; cases hfit1
  simp only [hfit1, cond_false, Option.bind_eq_some_iff] at h
  obtain ⟨old, hold, h⟩ := h
  rw [takeN_eq, dropN_eq] at hold
  split at hold
  case isFalse => cases hold
  rename_i hol
  simp only [Option.some.injEq] at hold
  subst hold
  have hol' : len * esz ≤ r.cs.length - o := by simpa using hol
  have holl : (List.take (len * esz) (List.drop o r.cs)).length = len * esz := by simp; omega
  -- what is read of the old slice
  obtain ⟨old', ho1, ho2, ho3⟩ : ∃ old', VL ρ (List.take (len * esz) (List.drop o r.cs)) old' ∧ old'.length = len * esz ∧ ∀ w1 : World, w1.heap = w.heap → (Builtin.firstCells esz len (.slice (some a') len cap')).run P w1 = .ok old'.toArray w1 := by
    rcases hcase with ⟨hc, _, rfl, hk⟩ | ⟨q1, q2, _⟩
    · have hlo : loadCs σ ⟨b, o, none⟩ (len * esz) = some (List.take (len * esz) (List.drop o r.cs)) := by
        unfold loadCs
        simp only [hrow, Option.bind_some, takeN_eq, dropN_eq]
        rw [if_pos hol]
      obtain ⟨cs', k1, k2, k3⟩ := loadCs_sim hr hlo hp
      refine ⟨cs', k1, k2, fun w1 hw1 => ?_⟩
      simp only [Builtin.firstCells]
      exact run_loadCells_len k2 (fun j v hj => by have := k3 j v hj; unfold World.cell? at this ⊢; rw [hw1]; exact this)
    · subst q2
      refine ⟨[], ?_, by simp, fun w1 _ => ?_⟩
      · rw [show List.take (0 * esz) (List.drop o r.cs) = [] by simp]; exact .nil ρ
      · simp only [Builtin.firstCells, Nat.zero_mul]; rfl
  have hcsl : (List.take (len * esz) (List.drop o r.cs) ++ new).length = (len + n) * esz := by
    rw [List.length_append, holl, hnl, Nat.add_mul]
  -- a new block
  have realloc : cap' < len + n → ∀ (fz : Nat) (str : Bool) (σ0 : St), σ0.nx = σ.nx → Rel P ρ σ0 w.heap → Sim ρ σ w ρ σ0 w → fz ≤ (len + n) * esz →
      ∃ v' w' ρ', (appTail esz e (some a') len cap' n x z app).run P w = .ok v' w' ∧ VR ρ' (.slice (some ⟨σ.nx, 0, none⟩) (len + n) (len + n)) v' ∧
        Rel P ρ' (σ0.new (.row { cs := List.take (len * esz) (List.drop o r.cs) ++ new, elem := e, loose := true, fz, str })).2 w'.heap ∧
        Sim ρ σ w ρ' (σ0.new (.row { cs := List.take (len * esz) (List.drop o r.cs) ++ new, elem := e, loose := true, fz, str })).2 w' := by
    intro hgt' fz str σ0 hnx hr0 hs0 hfz
    obtain ⟨newCap, q1, q2⟩ := run_tail_grow (P := P) (esz := esz) (bytes := bytes) (e := e) (base := some a') (sLen := len) (sCap := cap') (n := n) (x := x) (z := z) (app := app) (old := old') (new := new') (zv := zv) (w := w)
      hgt' hby hb0 hfit hz ho3 happ
    obtain ⟨ρ', k1, k2, k3⟩ := grown_sim (N := len + n) (newCap := newCap) (z := zv.cells.toList) (fz := fz) (str := str) hr0 (ho1.append hv) hcsl q1 (by omega) hzl hs h0 (by rw [hcsl]; exact hfz)
      (w.drew.alloc (.cells (old' ++ new' ++ repN (newCap - (len + n)) zv.cells.toList).toArray e)) rfl ⟨rfl, rfl, rfl⟩
    rw [hnx] at k1
    exact ⟨_, _, ρ', q2, k1, k2, hs0.trans k3⟩
  cases hle1 : r.loose && !(Nat.beq r.elem e) with
  | true => simp [hle1] at h
  | false =>
  simp only [hle1, cond_false] at h
  have helem : p.x ≠ 0 → r.loose = true ∧ r.elem = e ∧ p.s = esz := by
    intro hx
    have hl : r.loose = true := by
      cases hl : r.loose with
      | true => rfl
      | false => exact absurd (g6 hl).2 hx
    rw [hl] at hle1
    simp only [Bool.true_and, Bool.not_eq_false'] at hle1
    have he : r.elem = e := Nat.eq_of_beq_eq_true hle1
    refine ⟨hl, he, ?_⟩
    have := (g7 hx).2
    rw [he, hs] at this
    exact (Option.some.inj this).symm
  have hgrow : cap < cap' → p.x ≠ 0 ∧ a' = ⟨p.b, p.d + o, none⟩ ∧ (cap' - cap) * esz = p.x ∧ o + cap * esz = p.n := by
    intro hlt
    rcases hcase with ⟨_, _, rfl, hk⟩ | ⟨q1, q2, q3⟩
    · unfold capOK at hk
      split at hk
      · rename_i hc
        obtain ⟨_, _, q⟩ := helem hc.2
        rw [q] at hc hk
        exact ⟨hc.2, rfl, hk.2, hc.1⟩
      · omega
    · rcases q3 with q3 | ⟨q3, q4, q5, q6⟩
      · omega
      · obtain ⟨_, _, q⟩ := helem q3
        rw [q] at q6
        subst q1
        exact ⟨q3, by rw [q5, q4], by simpa using q6, by omega⟩
  cases hamb : r.loose && (Nat.beq (o + cap * esz) r.cs.length) with
  | false =>
    simp only [hamb, cond_false, St.alloc, Option.some.injEq, Prod.mk.injEq] at h
    obtain ⟨rfl, rfl⟩ := h
    have : ¬ cap < cap' := by
      intro hlt
      obtain ⟨q1, _, _, q4⟩ := hgrow hlt
      obtain ⟨q5, _, _⟩ := helem q1
      rw [q5, q4, g5] at hamb
      simp at hamb
    exact realloc (by omega) 0 false σ rfl hr (.refl _ _ _) (Nat.zero_le _)
  | true =>
  simp only [hamb, cond_true] at h
  cases hcnd : Nat.beq len cap && !r.ro && new.all oneCell with
  | false => simp [hcnd] at h
  | true =>
  simp only [hcnd, cond_true, Option.some.injEq, Prod.mk.injEq] at h
  obtain ⟨rfl, rfl⟩ := h
  simp only [Bool.and_eq_true, Bool.not_eq_true'] at hcnd
  obtain ⟨⟨c1, c2⟩, c3⟩ := hcnd
  have c1 : len = cap := Nat.eq_of_beq_eq_true c1
  subst c1
  have hoff : o + len * esz = r.cs.length := by
    simp only [Bool.and_eq_true] at hamb
    exact Nat.eq_of_beq_eq_true hamb.2
  rcases Nat.lt_or_ge cap' (len + n) with hre | hin
  · exact realloc hre (r.fz - o) r.str (σ.kill b) rfl (hr.kill b) (Sim.kill hr hp) (by rw [Nat.add_mul]; omega)
  · obtain ⟨q1, rfl, q3, q4⟩ := hgrow (by omega)
    obtain ⟨q5, q6, q7⟩ := helem q1
    have hxeq : p.x = n * esz + (cap' - (len + n)) * esz := by
      rw [← q3, ← Nat.add_mul]; congr 1; omega
    have hrun := run_storeCells_am P p.b (p.d + (o + len * esz)) r.elem fr new' 0 C w g1 (fun j hj => by
      rcases Nat.lt_or_ge fr.1 fr.2 with a | a
      · rcases (g3 c2).2 a with b1 | ⟨_, b1⟩
        · omega
        · omega
      · omega) (by omega) (fun v hv' => by
      rw [oneCell_eq']
      obtain ⟨i, hi, rfl⟩ := List.mem_iff_getElem.1 hv'
      have hi2 : i < new.length := by omega
      have := hv.2 i new[i] new'[i] (by simp [hi2]) (by simp [hi])
      rw [this.oneCell_eq]
      exact List.all_eq_true.1 c3 _ (List.getElem_mem hi2))
    simp only [Nat.add_zero] at hrun
    let q : Pl := ⟨p.b, p.d + o, (len + n) * esz, (cap' - (len + n)) * esz, esz⟩
    have hf := (hr.fresh σ.nx (Nat.le_refl _)).2
    have hle := Rho.le_upd q hf
    refine ⟨_, _, ρ.upd σ.nx q, run_tail_place hin (happ w rfl) (by rw [add_none, show p.d + o + len * esz = p.d + (o + len * esz) by omega]; exact hrun), ?_, ?_,
      Sim.grow hr hro c2 hp _ q rfl _ (fun B hB => setRow_other w p.b B _ hB) (by simp [World.setRow]) ⟨rfl, rfl, rfl⟩⟩
    · have hslc := VR.slc (ρ := ρ.upd σ.nx q) σ.nx 0 (len + n) (len + n) cap' q (Rho.upd_self _ _ _) (by omega) (Nat.le_refl _) (by
        unfold capOK
        by_cases hx0 : q.x = 0
        · rw [if_neg (by simp [hx0])]
          rcases Nat.mul_eq_zero.1 hx0 with t | t <;> omega
        · rw [if_pos ⟨by show 0 + (len + n) * esz = (len + n) * esz; omega, hx0⟩]
          exact ⟨hin, rfl⟩)
      exact hslc
    · refine hr.grow hro hp _ q rfl _ (fun B hB => setRow_other w p.b B _ hB) ?_
      refine ⟨⟨(List.take (p.d + (o + len * esz)) C.toList ++ new' ++ List.drop (p.d + (o + len * esz) + new'.length) C.toList).toArray, fr, ?_, ?_, ?_, fun i v hi => ?_⟩, hcsl.symm, fun hl => (by cases hl), fun _ => ⟨h0, hs⟩, ?_⟩
      · rw [← q6]
        exact setRow_heap w p.b C _ r.elem fr g1
      · show p.d + o + (len + n) * esz + (cap' - (len + n)) * esz = _
        simp only [List.size_toArray, List.length_append, List.length_take, List.length_drop, Array.length_toList]
        rw [Nat.add_mul]; omega
      · refine fun _ => ⟨(g3 c2).1, fun a => ?_⟩
        rcases (g3 c2).2 a with b1 | ⟨b0, b1⟩
        · left; show fr.2 ≤ p.d + o + (r.fz - o); omega
        · right; refine ⟨b0, ?_⟩
          simp only [List.size_toArray, List.length_append, List.length_take, List.length_drop, Array.length_toList]
          omega
      · simp only [List.getElem?_toArray]
        have hC : ∀ j : Nat, C.toList[j]? = C[j]? := fun j => Array.getElem?_toList
        simp only [List.getElem?_append, List.length_append, List.length_take, List.length_drop, Array.length_toList] at hi ⊢
        have m1 : min (len * esz) (r.cs.length - o) = len * esz := by omega
        have m2 : min (p.d + (o + len * esz)) C.size = p.d + (o + len * esz) := by omega
        rw [m1] at hi
        rw [m2]
        show ∃ v', (if p.d + o + i < p.d + (o + len * esz) + new'.length then _ else _) = some v' ∧ _
        by_cases k1 : i < len * esz
        · rw [if_pos k1, List.getElem?_take, if_pos k1, List.getElem?_drop] at hi
          rw [if_pos (by omega)]
          show ∃ v', (if p.d + o + i < p.d + (o + len * esz) then (List.take (p.d + (o + len * esz)) C.toList)[p.d + o + i]? else _) = some v' ∧ _
          rw [if_pos (by omega), List.getElem?_take, if_pos (by omega), hC]
          obtain ⟨v', r1, r2⟩ := g4 _ v hi
          exact ⟨v', by rw [show p.d + o + i = p.d + (o + i) by omega]; exact r1, r2.mono hle⟩
        · rw [if_neg k1] at hi
          have hlt : i - len * esz < new.length := (List.getElem?_eq_some_iff.1 hi).1
          obtain ⟨v', r1, r2⟩ := hv.get hi
          rw [if_pos (by omega)]
          show ∃ v', (if p.d + o + i < p.d + (o + len * esz) then _ else new'[p.d + o + i - (p.d + (o + len * esz))]?) = some v' ∧ _
          rw [if_neg (by omega), show p.d + o + i - (p.d + (o + len * esz)) = i - len * esz by omega]
          exact ⟨v', r1, r2.mono hle⟩
      · show r.fz - o ≤ (len + n) * esz
        rw [Nat.add_mul]; omega

theorem appendV_sim (hr : Rel P ρ σ w.heap) {e : TypeId} {esz bytes len cap cap' n : Nat} {base base' : Option Addr} {new new' : List Value} {v x : Value} {σ' : St} {z : Bool} {app : Sem (Array Value)} {zv : Value}
    (h : appendV σ e esz bytes base len cap new n = some (v, σ')) (hb : VR ρ (.slice base len cap) (.slice base' len cap')) (hv : VL ρ new new')
    (hs : sizeN P e = some esz) (h0 : 0 < esz) (hby : bytesN P e = some bytes) (hb0 : 0 < bytes) (hz : ∀ w, (zeroValue e).run P w = .ok zv w) (hzs : zv.cells.size = esz)
    (happ : ∀ w1 : World, w1.heap = w.heap → app.run P w1 = .ok new'.toArray w1) :
    ∃ v' w' ρ', (appTail esz e base' len cap' n x z app).run P w = .ok v' w' ∧ VR ρ' v v' ∧ Rel P ρ' σ' w'.heap ∧ Sim ρ σ w ρ' σ' w' := by
  unfold appendV at h
  cases hl : Nat.beq new.length (n * esz) with
  | false => simp [hl] at h
  | true =>
  have hnl : new.length = n * esz := Nat.eq_of_beq_eq_true hl
  have hnl' : new'.length = n * esz := by rw [← hv.1]; exact hnl
  simp only [hl, Bool.not_true, cond_false] at h
  have hcle : ∀ {p : Pl} {o c c' : Nat}, capOK p o c c' → c ≤ c' := capOK_le
  -- nothing appended
  cases hn : Nat.beq n 0 with
  | true =>
    have hn0 : n = 0 := Nat.eq_of_beq_eq_true hn
    subst hn0
    simp only [hn, cond_true] at h
    cases hlc : Nat.ble len cap with
    | false => simp [hlc] at h
    | true =>
    have hlc := Nat.le_of_ble_eq_true hlc
    simp only [*, cond_true, Option.some.injEq, Prod.mk.injEq] at h
    obtain ⟨rfl, rfl⟩ := h
    have hne : new' = [] := by apply List.length_eq_zero_iff.1; omega
    subst hne
    refine ⟨.slice base' len cap', w, ρ, ?_, hb, hr, .refl _ _ _⟩
    have hle : len + 0 ≤ cap' := by
      cases hb with
      | slc0 n c => omega
      | slc b o n c c' p hp hc hm hk => have := hcle hk; omega
      | slce b o p a' c' hp hk => omega
    cases base' with
    | none => exact run_tail_none hle (happ w rfl)
    | some ba => exact run_tail_place hle (happ w rfl) rfl
  | false =>
  have hn0 : 0 < n := by
    rcases Nat.eq_zero_or_pos n with q | q
    · subst q; cases hn
    · exact q
  simp only [hn, cond_false] at h
  cases hf : Nat.ble ((len + n) * bytes) 140737488355328 with
  | false => simp [hf] at h
  | true =>
  have hfit : (len + n) * bytes ≤ 140737488355328 := Nat.le_of_ble_eq_true hf
  simp only [hf, Bool.not_true, cond_false] at h
  have hzl : zv.cells.toList.length = esz := by simpa using hzs
  cases hb with
  | slc0 _ _ =>
    simp only at h
    cases hc : Nat.beq cap 0 && Nat.beq len 0 with
    | false => simp [hc] at h
    | true =>
      simp only [Bool.and_eq_true] at hc
      have hc0 : cap = 0 := Nat.eq_of_beq_eq_true hc.1
      have hl0 : len = 0 := Nat.eq_of_beq_eq_true hc.2
      subst hc0; subst hl0
      simp only [show (Nat.beq 0 0 && Nat.beq 0 0) = true from rfl, cond_true, St.alloc, Option.some.injEq, Prod.mk.injEq] at h
      obtain ⟨rfl, rfl⟩ := h
      obtain ⟨newCap, g1, g2⟩ := run_tail_grow (P := P) (esz := esz) (bytes := bytes) (e := e) (base := none) (sLen := 0) (sCap := 0) (n := n) (x := x) (z := z) (app := app) (old := []) (new := new') (zv := zv) (w := w) (by omega) hby hb0 hfit hz
        (fun w1 _ => rfl) happ
      simp only [Nat.zero_add, List.nil_append] at g1 g2
      obtain ⟨ρ', k1, k2, k3⟩ := grown_sim (N := n) (newCap := newCap) (z := zv.cells.toList) (fz := 0) (str := false) hr hv hnl g1 hn0 hzl hs h0 (Nat.zero_le _) (w.drew.alloc (.cells (new' ++ repN (newCap - n) zv.cells.toList).toArray e)) rfl ⟨rfl, rfl, rfl⟩
      exact ⟨_, _, ρ', g2, k1, k2, k3⟩
  | slc b o _ _ c' p hp hc hm hk => exact appendV_some hr (hcase := .inl ⟨hc, hm, rfl, hk⟩) hp h hv hnl hn0 hs h0 hby hb0 hfit hz hzs happ
  | slce b o p a' c' hp hk => exact appendV_some hr (hcase := .inr ⟨rfl, rfl, hk⟩) hp h hv hnl hn0 hs h0 hby hb0 hfit hz hzs happ
end Go.Am
