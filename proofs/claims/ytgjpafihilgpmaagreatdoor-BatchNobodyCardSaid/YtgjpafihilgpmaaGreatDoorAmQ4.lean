/-
  A part of the proof that the run of an abstract machine, which the kernel can run, is what the program does under its model: no condition of its own.
-/
import Derived.Test.YtgjpafihilgpmaaGreatDoorAmQ3
set_option linter.unusedVariables false
set_option linter.unusedSimpArgs false
set_option maxHeartbeats 1000000
noncomputable section
namespace Go.Am
open Go

/-! ### memory -/
def rowQ {α : Type} (σ : St) (b : Nat) (f : Blk → Option α) : Option α :=
  Option.rec (motive := fun _ => Option α) none (fun o => AObj.rec (motive := fun _ => Option α) (fun r => f r) (fun _ _ => none) o) (T.get σ.h b)
theorem rowQ_some {α : Type} {σ : St} {b : Nat} {f : Blk → Option α} {r : α} (h : rowQ σ b f = some r) : ∃ x, σ.row? b = some x ∧ f x = some r := by
  unfold rowQ at h
  obtain ⟨o, h1, h2⟩ := orec_some h
  cases o with
  | row x => exact ⟨x, St.row_eq.2 h1, h2⟩
  | map _ _ => cases h2
/-- a pointer's block and place -/
def ptrQ (v : Value) (f : Nat → Nat → R) : R :=
  asP v (fun oa => Option.rec (motive := fun _ => R) none (fun a => Addr.rec (motive := fun _ => R) (fun b o s => Option.rec (motive := fun _ => R) (f b o) (fun _ => none) s) a) oa) none
theorem ptrQ_some {v : Value} {f : Nat → Nat → R} {r : Value × St} (h : ptrQ v f = some r) : ∃ b o, v = .pointer (some ⟨b, o, none⟩) ∧ f b o = some r := by
  obtain ⟨oa, rfl, h⟩ := asP_some h
  obtain ⟨a, rfl, h⟩ := orec_some h
  obtain ⟨b, o, s⟩ := a
  cases s with
  | none => exact ⟨b, o, rfl, h⟩
  | some s => cases h
def qLoad1 (e : FL → Option Value) : OX := fun _ fl σ k =>
  Option.rec (motive := fun _ => R) none (fun v => ptrQ v (fun b o => rowQ σ b (fun r => Option.rec (motive := fun _ => R) none (fun w => k w σ) (nthQ o r.cs)))) (e fl)
def qLoadN (n : Nat) (e : FL → Option Value) : OX := fun _ fl σ k =>
  Option.rec (motive := fun _ => R) none (fun v => ptrQ v (fun b o => rowQ σ b (fun r => Option.rec (motive := fun _ => R) none (fun cs => k (.agg ⟨cs⟩) σ) (takeN n (dropN o r.cs))))) (e fl)
def cLoad (P : Program) (t : TypeId) (x : Operand) : OW :=
  EW.rec (motive := fun _ => OW) (fun e => Option.rec (motive := fun _ => OW) badO (fun g => Option.rec (motive := fun _ => OW) badO (fun n =>
    Bool.rec (motive := fun _ => OW) (.mk (qLoad1 e)) (.mk (qLoadN n e)) g) (sizeQ P t)) (aggQ P t)) (cEv x)
theorem cLoad_ok (E : Env) (t : TypeId) (x : Operand) : (cLoad E.P t x).OK E (.load t x) := by
  unfold cLoad
  rw [sizeQ_eq, aggQ_eq]
  cases hx : cEv x with
  | mk e => cases hg : aggN E.P t with
    | none => exact badO_ok _ _
    | some g => cases hn : sizeN E.P t with
      | none => exact badO_ok _ _
      | some n => cases g with
        | false =>
          intro C C' _ fl fr σ k r hf h
          obtain ⟨v, h1, h⟩ := orec_some h
          obtain ⟨b, o, rfl, h⟩ := ptrQ_some h
          obtain ⟨rw', h2, h⟩ := rowQ_some h
          obtain ⟨w, h3, h⟩ := orec_some h
          refine ⟨w, σ, step_read rfl ?_, h⟩
          rw [cEv_app hx hf] at h1
          rw [nthQ_eq] at h3
          have hlt := (List.getElem?_eq_some_iff.1 h3).1
          have hd : rw'.cs.drop o = w :: rw'.cs.drop (o + 1) := by
            rw [List.drop_eq_getElem_cons hlt, (List.getElem?_eq_some_iff.1 h3).2]
          simp only [opRead, h1, Option.bind_some, loadT, hg, hn, loadCs, h2, dropN_eq, takeN_eq, hd]
          simp
        | true =>
          intro C C' _ fl fr σ k r hf h
          obtain ⟨v, h1, h⟩ := orec_some h
          obtain ⟨b, o, rfl, h⟩ := ptrQ_some h
          obtain ⟨rw', h2, h⟩ := rowQ_some h
          obtain ⟨cs, h3, h⟩ := orec_some h
          refine ⟨_, σ, step_read rfl ?_, h⟩
          rw [cEv_app hx hf] at h1
          simp only [opRead, h1, Option.bind_some, loadT, hg, hn, loadCs, h2, h3, Option.map_some]
def lenQ (l : List Value) : Nat := List.rec (motive := fun _ => Nat) 0 (fun _ _ ih => Nat.succ ih) l
theorem lenQ_eq : ∀ l : List Value, lenQ l = l.length
  | [] => rfl
  | _ :: l => by show Nat.succ (lenQ l) = _; rw [lenQ_eq l]; rfl
def oneQ (v : Value) : Bool := asA v (fun _ => false) (asT v (fun _ => false) true)
theorem oneQ_eq (v : Value) : oneQ v = oneCell v := by cases v <;> rfl
def allQ (l : List Value) : Bool := List.rec (motive := fun _ => Bool) true (fun v _ ih => Bool.rec (motive := fun _ => Bool) false ih (oneQ v)) l
theorem allQ_eq : ∀ l : List Value, allQ l = l.all oneCell
  | [] => rfl
  | v :: l => by
    show (Bool.rec (motive := fun _ => Bool) false (allQ l) (oneQ v)) = _
    rw [oneQ_eq, allQ_eq l, List.all_cons]
    cases oneCell v <;> rfl
def cellsQ (v : Value) : List Value := asA v (fun cs => cs.toList) [v]
theorem cellsQ_eq (v : Value) : cellsQ v = cellsOf v := by cases v <;> rfl
def putRow (σ : St) (b : Nat) (r : Blk) : St := ⟨T.set σ.h b (.row r), σ.nx⟩
theorem putRow_eq (σ : St) (b : Nat) (r : Blk) : putRow σ b r = σ.put b (.row r) := rfl
def setCs (r : Blk) (cs : List Value) : Blk := Blk.rec (motive := fun _ => Blk) (fun _ e l f s o => ⟨cs, e, l, f, s, o⟩) r
theorem setCs_eq (r : Blk) (cs : List Value) : setCs r cs = { r with cs } := by cases r; rfl
/-- cells written into a row -/
def stoQ (σ : St) (b o : Nat) (vs : List Value) (k : St → R) : R :=
  rowQ σ b (fun r => Bool.rec (motive := fun _ => R) (Bool.rec (motive := fun _ => R) none (Bool.rec (motive := fun _ => R) none
    (Option.rec (motive := fun _ => R) none (fun cs => k (putRow σ b (setCs r cs))) (splice o r.cs vs)) (allQ vs)) (Nat.ble r.fz o)) none r.ro)
theorem stoQ_some {σ : St} {b o : Nat} {vs : List Value} {k : St → R} {r : Value × St} (h : stoQ σ b o vs k = some r) : ∃ σ', storeCs σ ⟨b, o, none⟩ vs = some σ' ∧ k σ' = some r := by
  obtain ⟨x, h1, h⟩ := rowQ_some h
  cases hro : x.ro with
  | true => rw [hro] at h; cases h
  | false =>
    rw [hro] at h
    obtain ⟨h2, h⟩ := brec_some h
    obtain ⟨h3, h⟩ := brec_some h
    obtain ⟨cs, h4, h⟩ := orec_some h
    refine ⟨_, ?_, h⟩
    have hlt : Nat.blt o x.fz = false := by
      have := Nat.le_of_ble_eq_true h2
      cases q : Nat.blt o x.fz with
      | false => rfl
      | true => have := Nat.le_of_ble_eq_true (n := o + 1) (m := x.fz) q; omega
    rw [allQ_eq] at h3
    simp only [storeCs, h1, Option.bind_some, hro, hlt, h3, Bool.not_true, Bool.or_false, cond_false, h4, Option.map_some, setCs_eq]
    rfl
def qStore (n : Nat) (e1 e2 : FL → Option Value) : OX := fun _ fl σ k =>
  Option.rec (motive := fun _ => R) none (fun u => ptrQ u (fun b o => Option.rec (motive := fun _ => R) none (fun v =>
    Bool.rec (motive := fun _ => R) none (stoQ σ b o (cellsQ v) (fun σ => k undefV σ)) (Nat.beq (lenQ (cellsQ v)) n)) (e2 fl))) (e1 fl)
def cStore (P : Program) (t : TypeId) (x y : Operand) : OW :=
  EW.rec (motive := fun _ => OW) (fun e1 => EW.rec (motive := fun _ => OW) (fun e2 => Option.rec (motive := fun _ => OW) badO (fun n => .mk (qStore n e1 e2)) (sizeQ P t)) (cEv y)) (cEv x)
theorem step_eff {E : Env} {C' : CallF} {op : Op} {fr : Fr} {σ σ' : St} {v : Value} (hk : kindOf E.P op = .eff) (h : opEff E C' op fr σ = some (v, σ')) : stepO E C' op fr σ = some (v, σ') := by
  unfold stepO; rw [hk]; exact h
theorem cStore_ok (E : Env) (t : TypeId) (x y : Operand) : (cStore E.P t x y).OK E (.store t x y) := by
  unfold cStore
  rw [sizeQ_eq]
  cases hx : cEv x with
  | mk e1 => cases hy : cEv y with
    | mk e2 => cases hn : sizeN E.P t with
      | none => exact badO_ok _ _
      | some n =>
        intro C C' _ fl fr σ k r hf h
        obtain ⟨u, h1, h⟩ := orec_some h
        obtain ⟨b, o, rfl, h⟩ := ptrQ_some h
        obtain ⟨v, h2, h⟩ := orec_some h
        obtain ⟨h3, h⟩ := brec_some h
        obtain ⟨σ', h4, h⟩ := stoQ_some h
        refine ⟨undefV, σ', step_eff rfl ?_, h⟩
        rw [cEv_app hx hf] at h1
        rw [cEv_app hy hf] at h2
        rw [lenQ_eq, cellsQ_eq] at h3
        rw [cellsQ_eq] at h4
        simp only [opEff, h1, h2, Option.bind_some, storeT, hn, h3, cond_true, h4, Option.map_some]
def newRow (σ : St) (r : Blk) (k : Nat → St → R) : R := St.rec (motive := fun _ => R) (fun h nx => k nx ⟨T.set h nx (.row r), Nat.succ nx⟩) σ
def qAlloc (e : TypeId) (cs : List Value) : OX := fun _ _ σ k => newRow σ { cs, elem := e } (fun b σ => k (.pointer (some ⟨b, 0, none⟩)) σ)
def cAlloc (P : Program) (e : TypeId) : OW := Option.rec (motive := fun _ => OW) badO (fun cs => .mk (qAlloc e cs)) (zeroQ P e)
theorem cAlloc_ok (E : Env) (e : TypeId) : (cAlloc E.P e).OK E (.alloc e) := by
  unfold cAlloc
  rw [zeroQ_eq]
  cases hz : zeroN E.P e with
  | none => exact badO_ok _ _
  | some cs =>
    intro C C' _ fl fr σ k r hf h
    obtain ⟨hh, nx⟩ := σ
    exact ⟨_, _, by unfold stepO; simp only [kindOf, opAlc, hz, Option.map_some]; rfl, h⟩
def qBox (t : TypeId) (e : FL → Option Value) : OX := fun _ fl σ k => Option.rec (motive := fun _ => R) none (fun v => newRow σ { cs := cellsQ v, elem := t } (fun b σ => k (.pointer (some ⟨b, 0, none⟩)) σ)) (e fl)
def cBox (t : TypeId) (x : Operand) : OW := EW.rec (motive := fun _ => OW) (fun e => .mk (qBox t e)) (cEv x)
theorem cBox_ok (E : Env) (t : TypeId) (x : Operand) : (cBox t x).OK E (.box t x) := by
  unfold cBox
  cases hx : cEv x with
  | mk e =>
    intro C C' _ fl fr σ k r hf h
    obtain ⟨v, h1, h⟩ := orec_some h
    obtain ⟨hh, nx⟩ := σ
    rw [cEv_app hx hf] at h1
    refine ⟨_, _, by unfold stepO; simp only [kindOf, opAlc, h1, Option.map_some]; rfl, ?_⟩
    rw [cellsQ_eq] at h
    exact h

/-! ### lengths -/
def isSl (P : Program) (t : TypeId) : Bool := match undQ P t with | some (.slice _) => true | _ => false
def qLenS (e : FL → Option Value) : OX := fun _ fl σ k => Option.rec (motive := fun _ => R) none (fun v => asS v (fun _ n _ => k (.int .i64 (Int.ofNat n)) σ) none) (e fl)
def cLenS (x : Operand) : OW := EW.rec (motive := fun _ => OW) (fun e => .mk (qLenS e)) (cEv x)
theorem cLenS_ok (E : Env) (c : Call) (t : TypeId) (ts : List TypeId) (x : Operand) (hc : c.callee = .builtin .len) (ht : c.argTypes.toList = t :: ts) (ha : c.args.toList = [x]) (hs : isSl E.P t = true) : (cLenS x).OK E (.call c) := by
  unfold cLenS
  cases hx : cEv x with
  | mk e =>
    intro C C' _ fl fr σ k r hf h
    obtain ⟨v, h1, h⟩ := orec_some h
    obtain ⟨oa, n, cap, rfl, h⟩ := asS_some h
    refine ⟨_, σ, step_read (by simp only [kindOf, hc, kindB]) ?_, h⟩
    rw [cEv_app hx hf] at h1
    simp only [opRead, ha, evL, h1, Option.bind_some, Option.map_some, hc, ht, readB]
    unfold isSl at hs
    rw [undQ_eq] at hs
    split at hs
    · rename_i el he; simp only [he]; rfl
    · cases hs

/-! ### calls -/
def qCallF (f : FuncId) (es : FL → Option (List Value)) : OX := fun C fl σ k => Option.rec (motive := fun _ => R) none (fun args => C f args σ k) (es fl)
def qCallV (e : FL → Option Value) (es : FL → Option (List Value)) : OX := fun C fl σ k =>
  Option.rec (motive := fun _ => R) none (fun v => Option.rec (motive := fun _ => R) none (fun args => asF v (fun fn first captured =>
    match fn with
    | .func f => C f ((first.toList ++ args) ++ captured.toList) σ k
    | _ => none) none) (es fl)) (e fl)
def methQ (P : Program) (t : TypeId) (name : String) : Option FuncId :=
  (infoQ P t).bind fun i => (i.methods.toList.find? (·.name == name)).bind fun m =>
    bif m.path.isEmpty then
      match m.func, undQ P t with
      | some (f, true), some (.pointer _) => some f
      | some (_, false), some (.pointer _) => none
      | some (f, false), some _ => some f
      | _, _ => none
    else none
def qInvoke (P : Program) (name : String) (e : FL → Option Value) (es : FL → Option (List Value)) : OX := fun C fl σ k =>
  Option.rec (motive := fun _ => R) none (fun v => Option.rec (motive := fun _ => R) none (fun args => asU v (fun t u => Option.rec (motive := fun _ => R) none (fun f => C f (u :: args) σ k) (methQ P t name)) none) (es fl)) (e fl)
def isFunc : Operand → Option FuncId
  | .func f => some f
  | _ => none
def cCall (P : Program) (c : Call) : OW :=
  LW.rec (motive := fun _ => OW) (fun es => match c.callee with
    | .builtin _ => badO
    | .invoke r name => EW.rec (motive := fun _ => OW) (fun e => .mk (qInvoke P name e es)) (cEv r)
    | .value x => match isFunc x with
      | some f => .mk (qCallF f es)
      | none => EW.rec (motive := fun _ => OW) (fun e => .mk (qCallV e es)) (cEv x)) (cEvL c.args.toList)
theorem kind_call {P : Program} {c : Call} (h : ∀ b, c.callee ≠ .builtin b) : kindOf P (.call c) = .eff := by
  simp only [kindOf]
  try
    split
    · rename_i b hb; exact absurd hb (h b)
    · rfl
theorem cCall_ok (E : Env) (c : Call) : (cCall E.P c).OK E (.call c) := by
  unfold cCall
  cases hl : cEvL c.args.toList with
  | mk es =>
    simp only
    cases hc : c.callee with
    | builtin b => exact badO_ok _ _
    | invoke rr name =>
      simp only
      cases hx : cEv rr with
      | mk e =>
        intro C C' hC fl fr σ k r hf h
        obtain ⟨v, h1, h⟩ := orec_some h
        obtain ⟨args, h2, h⟩ := orec_some h
        obtain ⟨t, u, rfl, h⟩ := asU_some h
        obtain ⟨f, h3, h⟩ := orec_some h
        obtain ⟨w, σ', h4, h⟩ := hC _ _ _ _ _ h
        refine ⟨w, σ', step_eff (kind_call (by rw [hc]; intro b hb; cases hb)) ?_, h⟩
        have h1 : e fl = some (Value.iface t u) := h1
        rw [cEv_app hx hf] at h1
        rw [cEvL_app hl hf] at h2
        simp only [opEff, h1, h2, Option.bind_some, hc]
        unfold invokeT
        simp only
        unfold methQ at h3
        simp only [infoQ_eq, undQ_eq] at h3
        simp only [Option.bind_eq_some_iff] at h3 ⊢
        obtain ⟨i, h5, m, h6, h7⟩ := h3
        refine ⟨i, h5, m, h6, ?_⟩
        cases hp : m.path.isEmpty with
        | false => rw [hp] at h7; cases h7
        | true =>
          rw [hp] at h7
          simp only [cond_true] at h7 ⊢
          split at h7
          · rename_i f' e' a1 a2; cases h7; simp only [a1, a2]; exact h4
          · cases h7
          · rename_i f' e' hne a1 a2; cases h7; simp only [a1, a2]; exact h4
          · cases h7
    | value x =>
      simp only
      cases hx : isFunc x with
      | some f =>
        simp only
        intro C C' hC fl fr σ k r hf h
        obtain ⟨args, h2, h⟩ := orec_some h
        obtain ⟨w, σ', h4, h⟩ := hC _ _ _ _ _ h
        refine ⟨w, σ', step_eff (kind_call (by rw [hc]; intro b hb; cases hb)) ?_, h⟩
        rw [cEvL_app hl hf] at h2
        have : x = .func f := by cases x <;> simp [isFunc] at hx <;> rw [hx]
        subst this
        simp only [opEff, h2, Option.bind_some, hc, evO, invokeT]
        simpa using h4
      | none =>
        simp only
        cases he : cEv x with
        | mk e =>
          intro C C' hC fl fr σ k r hf h
          obtain ⟨v, h1, h⟩ := orec_some h
          obtain ⟨args, h2, h⟩ := orec_some h
          obtain ⟨fn, a, b, rfl, h⟩ := asF_some h
          cases fn with
          | func f =>
            obtain ⟨w, σ', h4, h⟩ := hC _ _ _ _ _ h
            refine ⟨w, σ', step_eff (kind_call (by rw [hc]; intro b hb; cases hb)) ?_, h⟩
            have h1 : e fl = some (Value.func (Fn.func f) a b) := h1
            rw [cEv_app he hf] at h1
            rw [cEvL_app hl hf] at h2
            simp only [opEff, h1, h2, Option.bind_some, hc, invokeT]
            exact h4
          | _ => cases h

/-! ### all of them -/
def cBuiltin (E : Env) (c : Call) (b : Builtin) : OW :=
  match b, c.argTypes.toList, c.args.toList with
  | .len, t :: _, [x] => Bool.rec (motive := fun _ => OW) (cGen E (.call c)) (cLenS x) (isSl E.P t)
  | _, _, _ => cGen E (.call c)
def cOp (E : Env) (op : Op) : OW :=
  match op with
  | .move x => cMove x
  | .assign x => cMove x
  | .binOp .eql t x y _ => cEqO E.P false t x y
  | .binOp .neq t x y _ => cEqO E.P true t x y
  | .binOp op _ x y _ => cBinP op x y
  | .fieldAddr t x i => cFieldA E.P t x i
  | .indexAddr t x y => cIndexA E.P t x y
  | .extract x i => cExtract x i
  | .load t x => cLoad E.P t x
  | .store t x y => cStore E.P t x y
  | .alloc e => cAlloc E.P e
  | .box t x => cBox t x
  | .call c => match c.callee with
    | .builtin b => cBuiltin E c b
    | _ => cCall E.P c
  | op => cGen E op
theorem cOp_ok (E : Env) (op : Op) : (cOp E op).OK E op := by
  unfold cOp
  split
  · exact cMove_ok E _ _ rfl fun _ => rfl
  · exact cMove_ok E _ _ rfl fun _ => rfl
  · exact cEqO_ok E false _ _ _ _
  · exact cEqO_ok E true _ _ _ _
  · rename_i op t x y z h1 h2
    refine cBinP_ok E _ _ _ _ _ (kind_bin _ _ _ _ _ _ ?_)
    cases op <;> first | rfl | exact absurd rfl h1 | exact absurd rfl h2 | (exfalso; exact h1 _ _ _ _ rfl) | (exfalso; exact h2 _ _ _ _ rfl)
  · exact cFieldA_ok E _ _ _
  · exact cIndexA_ok E _ _ _
  · exact cExtract_ok E _ _
  · exact cLoad_ok E _ _
  · exact cStore_ok E _ _ _
  · exact cAlloc_ok E _
  · exact cBox_ok E _ _
  · rename_i c
    split
    · rename_i b hb
      unfold cBuiltin
      split
      · rename_i t ts x ht ha
        cases hs : isSl E.P t with
        | false => exact cGen_ok E _
        | true => exact cLenS_ok E c t ts x hb ht ha hs
      · exact cGen_ok E _
    · exact cCall_ok E c
  · exact cGen_ok E _
end Go.Am
