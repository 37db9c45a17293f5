/-
  A part of the proof that the run of an abstract machine, which the kernel can run, is what the program does under its model: no condition of its own.
-/
import Derived.Test.YtgjpafihilgpmaaGreatDoorAmQ4
import Derived.Test.YtgjpafihilgpmaaGreatDoorAmQD
import Derived.Test.YtgjpafihilgpmaaGreatDoorAmLaw
set_option linter.unusedVariables false
set_option linter.unusedSimpArgs false
set_option maxHeartbeats 1000000
noncomputable section
namespace Go.Am
open Go

/-! ### regions -/
abbrev SX := CX → KF → FL → St → R
inductive SW where
  | mk (g : SX)
def SW.OK (E : Env) (all : List Oper) (o : Oper) (w : SW) : Prop := match w with
  | .mk g => ∀ (C : CX) (C' : CallF), CQ E C C' → ∀ (fl : FL) (fr : Fr) (σ : St) (k : KF) (r : Value × St), FE fl fr → g C k fl σ = some r →
    ∃ b v σ' fl', wantedO all o fr = some b ∧ (b = true → stepO E C' o.op fr σ = some (v, σ')) ∧ (b = false → v = undefV ∧ σ' = σ) ∧ FE fl' (putD fr o.dst v) ∧ k fl' σ' = some r
def pushS (dst : Option Nat) (g : OX) : SX :=
  match dst with
  | some d => fun C k fl σ => g C fl σ (fun v σ => k (FL.cons d v fl) σ)
  | none => fun C k fl σ => g C fl σ (fun _ σ => k fl σ)
def skipS (dst : Option Nat) : KF → FL → St → R :=
  match dst with
  | some d => fun k fl σ => k (FL.cons d undefV fl) σ
  | none => fun k fl σ => k fl σ
def guardS (t : Nat) (want : Bool) (skip : KF → FL → St → R) (g : SX) : SX :=
  match want with
  | true => fun C k fl σ => Option.rec (motive := fun _ => R) none (fun v => asB v (fun b => Bool.rec (motive := fun _ => R) (skip k fl σ) (g C k fl σ) b) (asT v (fun _ => skip k fl σ) none)) (FL.get fl t)
  | false => fun C k fl σ => Option.rec (motive := fun _ => R) none (fun v => asB v (fun b => Bool.rec (motive := fun _ => R) (g C k fl σ) (skip k fl σ) b) (asT v (fun _ => skip k fl σ) none)) (FL.get fl t)
def cStep (E : Env) (all : List Oper) (o : Oper) : SW :=
  OW.rec (motive := fun _ => SW) (fun g => match o.guard with
    | none => .mk (pushS o.dst g)
    | some (j, want) => match (all[j]?).bind (·.dst) with
      | none => .mk (fun _ _ _ _ => none)
      | some t => .mk (guardS t want (skipS o.dst) (pushS o.dst g))) (cOp E o.op)
theorem pushS_ok {E : Env} {op : Op} {dst : Option Nat} {g : OX} (hg : OpOK E op g) {C : CX} {C' : CallF} (hC : CQ E C C') {fl : FL} {fr : Fr} {σ : St} {k : KF} {r : Value × St} (hf : FE fl fr) (h : pushS dst g C k fl σ = some r) :
    ∃ v σ' fl', stepO E C' op fr σ = some (v, σ') ∧ FE fl' (putD fr dst v) ∧ k fl' σ' = some r := by
  cases dst with
  | none => obtain ⟨v, σ', h1, h2⟩ := hg C C' hC fl fr σ _ r hf h; exact ⟨v, σ', fl, h1, hf, h2⟩
  | some d => obtain ⟨v, σ', h1, h2⟩ := hg C C' hC fl fr σ _ r hf h; exact ⟨v, σ', _, h1, hf.cons d v, h2⟩
theorem skipS_ok {dst : Option Nat} {fl : FL} {fr : Fr} {σ : St} {k : KF} {r : Value × St} (hf : FE fl fr) (h : skipS dst k fl σ = some r) : ∃ fl', FE fl' (putD fr dst undefV) ∧ k fl' σ = some r := by
  cases dst with
  | none => exact ⟨fl, hf, h⟩
  | some d => exact ⟨_, hf.cons d undefV, h⟩
theorem asBT_some {v : Value} {f : Bool → R} {s : R} {r : Value × St} (h : asB v f (asT v (fun _ => s) none) = some r) : (∃ b, v = .bool b ∧ f b = some r) ∨ (∃ a, v = .tuple a ∧ s = some r) := by
  cases v <;> first | exact .inl ⟨_, rfl, h⟩ | exact .inr ⟨_, rfl, h⟩ | cases h
theorem cStep_ok (E : Env) (all : List Oper) (o : Oper) : (cStep E all o).OK E all o := by
  unfold cStep
  have hop := cOp_ok E o.op
  cases hg : cOp E o.op with
  | mk g =>
    rw [hg] at hop
    have hop : OpOK E o.op g := hop
    simp only
    cases hgd : o.guard with
    | none =>
      intro C C' hC fl fr σ k r hf h
      obtain ⟨v, σ', fl', h1, h2, h3⟩ := pushS_ok hop hC hf h
      exact ⟨true, v, σ', fl', by unfold wantedO; rw [hgd], fun _ => h1, fun q => by (cases q), h2, h3⟩
    | some p =>
      obtain ⟨j, want⟩ := p
      simp only
      cases ht : (all[j]?).bind (·.dst) with
      | none => intro C C' hC fl fr σ k r hf h; cases h
      | some t =>
        intro C C' hC fl fr σ k r hf h
        have hw : ∀ v : Value, fr.get t = some v → wantedO all o fr = (match v with | .bool b => some (b == want) | .tuple _ => some false | _ => none) := by
          intro v hv
          simp only [Option.bind_eq_some_iff] at ht
          obtain ⟨oj, h1, h2⟩ := ht
          unfold wantedO
          rw [hgd]
          simp only [h1, h2, hv, Option.bind_some]
          cases v <;> rfl
        have skip : ∀ b : Bool, wantedO all o fr = some false → skipS o.dst k fl σ = some r → ∃ b v σ' fl', wantedO all o fr = some b ∧ (b = true → stepO E C' o.op fr σ = some (v, σ')) ∧ (b = false → v = undefV ∧ σ' = σ) ∧ FE fl' (putD fr o.dst v) ∧ k fl' σ' = some r := by
          intro _ h1 h2
          obtain ⟨fl', h3, h4⟩ := skipS_ok hf h2
          exact ⟨false, undefV, σ, fl', h1, fun q => by (cases q), fun _ => ⟨rfl, rfl⟩, h3, h4⟩
        have doit : wantedO all o fr = some true → pushS o.dst g C k fl σ = some r → ∃ b v σ' fl', wantedO all o fr = some b ∧ (b = true → stepO E C' o.op fr σ = some (v, σ')) ∧ (b = false → v = undefV ∧ σ' = σ) ∧ FE fl' (putD fr o.dst v) ∧ k fl' σ' = some r := by
          intro h1 h2
          obtain ⟨v, σ', fl', h3, h4, h5⟩ := pushS_ok hop hC hf h2
          exact ⟨true, v, σ', fl', h1, fun _ => h3, fun q => by (cases q), h4, h5⟩
        cases want with
        | true =>
          obtain ⟨v, h1, h2⟩ := orec_some h
          rw [hf t] at h1
          have hw := hw v h1
          rcases asBT_some h2 with ⟨b, rfl, h3⟩ | ⟨a, rfl, h3⟩
          · cases b with
            | true => exact doit hw h3
            | false => exact skip true hw h3
          · exact skip true hw h3
        | false =>
          obtain ⟨v, h1, h2⟩ := orec_some h
          rw [hf t] at h1
          have hw := hw v h1
          rcases asBT_some h2 with ⟨b, rfl, h3⟩ | ⟨a, rfl, h3⟩
          · cases b with
            | true => exact skip true hw h3
            | false => exact doit hw h3
          · exact skip true hw h3
inductive RW where
  | nil
  | cons (g : SX) (rest : RW)
def cReg (E : Env) (all : List Oper) (l : List Oper) : RW := List.rec (motive := fun _ => RW) .nil (fun o _ ih => SW.rec (motive := fun _ => RW) (fun g => .cons g ih) (cStep E all o)) l
def runW (w : RW) : CX → KF → FL → St → R := RW.rec (motive := fun _ => CX → KF → FL → St → R) (fun _ k fl σ => k fl σ) (fun g _ ih C k fl σ => g C (ih C k) fl σ) w
theorem runW_ok {E : Env} {C : CX} {C' : CallF} (hC : CQ E C C') {all : List Oper} : ∀ {l : List Oper} {fl : FL} {fr : Fr} {σ : St} {k : KF} {r : Value × St}, FE fl fr → runW (cReg E all l) C k fl σ = some r →
    ∃ fr' σ' fl', runOps E C' all l fr σ = some (fr', σ') ∧ FE fl' fr' ∧ k fl' σ' = some r
  | [], fl, fr, σ, k, r, hf, h => ⟨fr, σ, fl, rfl, hf, h⟩
  | o :: l, fl, fr, σ, k, r, hf, h => by
    have hs := cStep_ok E all o
    have h' : runW (SW.rec (motive := fun _ => RW) (fun g => .cons g (cReg E all l)) (cStep E all o)) C k fl σ = some r := h
    cases hg : cStep E all o with
    | mk g =>
      rw [hg] at h' hs
      obtain ⟨b, v, σ1, fl1, h1, h2, h3, h4, h5⟩ := hs C C' hC fl fr σ _ r hf h'
      obtain ⟨fr', σ', fl', h6, h7, h8⟩ := runW_ok hC h4 h5
      refine ⟨fr', σ', fl', ?_, h7, h8⟩
      simp only [runOps, h1, Option.bind_some]
      cases b with
      | true => simp only [cond_true, h2 rfl, Option.bind_some]; exact h6
      | false =>
        obtain ⟨rfl, rfl⟩ := h3 rfl
        exact h6
def cRegD (E : Env) (ops : Array Oper) (draw : Bool) : RW :=
  Bool.rec (motive := fun _ => RW) (cReg E ops.toList ops.toList) (Option.rec (motive := fun _ => RW) (.cons (drawS E ops) .nil) (fun l => cReg E ops.toList l) (planS E.P ops)) draw

/-! ### code -/
abbrev KE := Nat → FL → St → R
abbrev XX := CX → Nat → KF → KE → KF → FL → St → R
def condC (c : Operand) (x y : KF) : KF := fun fl σ =>
  EW.rec (motive := fun _ => R) (fun e => Option.rec (motive := fun _ => R) none (fun v => asB v (fun t => Bool.rec (motive := fun _ => R) (y fl σ) (x fl σ) t) none) (e fl)) (cEv c)
def loopC (x : KF → KF) (lf : Nat) : KF := Nat.rec (motive := fun _ => KF) (fun _ _ => none) (fun _ again => x again) lf
def blockC (id : Nat) (kn : KF) (ke : KE) : KE := fun i fl σ => Bool.rec (motive := fun _ => R) (ke i fl σ) (kn fl σ) (Nat.beq i id)
def runC (E : Env) (c : Code) : XX :=
  Code.rec (motive := fun _ => XX)
    (fun _ _ kn _ _ => kn)
    (fun _ ops draw C _ kn _ _ => runW (cRegD E ops draw) C kn)
    (fun _ _ x y C lf kn ke kr => x C lf (y C lf kn ke kr) ke kr)
    (fun c _ _ x y C lf kn ke kr => condC c (x C lf kn ke kr) (y C lf kn ke kr))
    (fun id _ x C lf kn ke kr => x C lf kn (blockC id kn ke) kr)
    (fun _ x C lf kn ke kr => loopC (fun again => x C lf again ke kr) lf)
    (fun _ _ _ _ _ _ _ _ _ _ _ _ _ => none)
    (fun id _ _ _ ke _ => ke id)
    (fun _ _ _ _ _ _ _ _ _ => none)
    (fun _ _ _ _ _ _ _ _ => none)
    (fun _ _ _ _ _ _ _ _ => none)
    (fun _ _ _ _ kr => kr)
    (fun _ _ _ _ _ _ _ _ => none) c
def Ends (kn : KF) (ke : KE) (kr : KF) (ex : Ex) (fl : FL) (σ : St) (r : Value × St) : Prop := match ex with
  | .nrm => kn fl σ = some r
  | .exit i => ke i fl σ = some r
  | .ret => kr fl σ = some r
theorem runC_ok {E : Env} (hk : ∀ f i, E.keep f i = none) {C : CX} {C' : CallF} (hC : CQ E C C') (lf : Nat) (f : FuncId) : ∀ (c : Code) (fl : FL) (fr : Fr) (σ : St) (kn : KF) (ke : KE) (kr : KF) (r : Value × St), FE fl fr →
    runC E c C lf kn ke kr fl σ = some r → ∃ ex fr' σ' fl', exec E C' lf f c fr σ = some (ex, fr', σ') ∧ FE fl' fr' ∧ Ends kn ke kr ex fl' σ' r := by
  intro c
  induction c with
  | skip => intro fl fr σ kn ke kr r hf h; exact ⟨.nrm, fr, σ, fl, rfl, hf, h⟩
  | region id ops draw =>
    intro fl fr σ kn ke kr r hf h
    have h' : runW (cRegD E ops draw) C kn fl σ = some r := h
    unfold cRegD at h'
    cases draw with
    | false =>
      obtain ⟨fr', σ', fl', h1, h2, h3⟩ := runW_ok hC hf h'
      exact ⟨.nrm, fr', σ', fl', by simp only [exec, cond_false, h1, Option.map_some], h2, h3⟩
    | true =>
      cases hp : planS E.P ops with
      | none =>
        rw [hp] at h'
        have h'' : drawS E ops C kn fl σ = some r := h'
        obtain ⟨fr', σ', fl', h1, h2, h3⟩ := drawS_ok hC hf h''
        exact ⟨.nrm, fr', σ', fl', by simp only [exec, cond_true, hp, h1, Option.map_some], h2, h3⟩
      | some l =>
        rw [hp] at h'
        obtain ⟨fr', σ', fl', h1, h2, h3⟩ := runW_ok hC hf h'
        exact ⟨.nrm, fr', σ', fl', by simp only [exec, cond_true, hp, h1, Option.map_some], h2, h3⟩
  | seq a b iha ihb =>
    intro fl fr σ kn ke kr r hf h
    obtain ⟨ex, fr1, σ1, fl1, h1, h2, h3⟩ := iha fl fr σ _ ke kr r hf h
    cases ex with
    | nrm =>
      obtain ⟨ex, fr2, σ2, fl2, h4, h5, h6⟩ := ihb fl1 fr1 σ1 kn ke kr r h2 h3
      exact ⟨ex, fr2, σ2, fl2, by simp only [exec, h1]; exact h4, h5, h6⟩
    | exit i => exact ⟨.exit i, fr1, σ1, fl1, by simp only [exec, h1], h2, h3⟩
    | ret => exact ⟨.ret, fr1, σ1, fl1, by simp only [exec, h1], h2, h3⟩
  | cond c a b iha ihb =>
    intro fl fr σ kn ke kr r hf h
    have h' : condC c (runC E a C lf kn ke kr) (runC E b C lf kn ke kr) fl σ = some r := h
    unfold condC at h'
    cases hc : cEv c with
    | mk e =>
      rw [hc] at h'
      obtain ⟨v, h1, h2⟩ := orec_some h'
      obtain ⟨t, rfl, h3⟩ := asB_some h2
      rw [cEv_app hc hf] at h1
      cases t with
      | true =>
        obtain ⟨ex, fr1, σ1, fl1, h4, h5, h6⟩ := iha fl fr σ kn ke kr r hf h3
        exact ⟨ex, fr1, σ1, fl1, by simp only [exec, h1, Option.bind_some]; exact h4, h5, h6⟩
      | false =>
        obtain ⟨ex, fr1, σ1, fl1, h4, h5, h6⟩ := ihb fl fr σ kn ke kr r hf h3
        exact ⟨ex, fr1, σ1, fl1, by simp only [exec, h1, Option.bind_some]; exact h4, h5, h6⟩
  | block id b ih =>
    intro fl fr σ kn ke kr r hf h
    obtain ⟨ex, fr1, σ1, fl1, h1, h2, h3⟩ := ih fl fr σ kn (blockC id kn ke) kr r hf h
    cases ex with
    | nrm => exact ⟨.nrm, fr1, σ1, fl1, by simp only [exec, h1], h2, h3⟩
    | exit i =>
      have h3' : Bool.rec (motive := fun _ => R) (ke i fl1 σ1) (kn fl1 σ1) (Nat.beq i id) = some r := h3
      cases hi : Nat.beq i id with
      | true => rw [hi] at h3'; exact ⟨.nrm, fr1, σ1, fl1, by simp only [exec, h1, hi, cond_true], h2, h3'⟩
      | false => rw [hi] at h3'; exact ⟨.exit i, fr1, σ1, fl1, by simp only [exec, h1, hi, cond_false], h2, h3'⟩
    | ret => exact ⟨.ret, fr1, σ1, fl1, by simp only [exec, h1], h2, h3⟩
  | loop b ih =>
    intro fl fr σ kn ke kr r hf h
    have key : ∀ (m : Nat) (fl : FL) (fr : Fr) (σ : St), FE fl fr → loopC (fun again => runC E b C lf again ke kr) m fl σ = some r →
        ∃ ex fr' σ' fl', loopN (fun fr σ => exec E C' lf f b (maskF (E.keep f (headId b)) fr) σ) m fr σ = some (ex, fr', σ') ∧ FE fl' fr' ∧ Ends kn ke kr ex fl' σ' r := by
      intro m
      induction m with
      | zero => intro fl fr σ _ h; cases h
      | succ m ihm =>
        intro fl fr σ hf h
        obtain ⟨ex, fr1, σ1, fl1, h1, h2, h3⟩ := ih fl fr σ _ ke kr r hf h
        cases ex with
        | nrm =>
          obtain ⟨ex, fr2, σ2, fl2, h4, h5, h6⟩ := ihm fl1 fr1 σ1 h2 h3
          exact ⟨ex, fr2, σ2, fl2, by simp only [loopN, hk, maskF, h1]; simp only [hk, maskF] at h4; exact h4, h5, h6⟩
        | exit i => exact ⟨.exit i, fr1, σ1, fl1, by simp only [loopN, hk, maskF, h1], h2, h3⟩
        | ret => exact ⟨.ret, fr1, σ1, fl1, by simp only [loopN, hk, maskF, h1], h2, h3⟩
    obtain ⟨ex, fr', σ', fl', h1, h2, h3⟩ := key lf fl fr σ hf h
    exact ⟨ex, fr', σ', fl', by simp only [exec]; exact h1, h2, h3⟩
  | exit id => intro fl fr σ kn ke kr r hf h; exact ⟨.exit id, fr, σ, fl, rfl, hf, h⟩
  | ret => intro fl fr σ kn ke kr r hf h; exact ⟨.ret, fr, σ, fl, rfl, hf, h⟩
  | _ => intro fl fr σ kn ke kr r hf h; cases h

/-! ### calls -/
def cRes (P : Program) (l : List ResultVar) : FL → St → Option (List Value) :=
  List.rec (motive := fun _ => FL → St → Option (List Value)) (fun _ _ => some []) (fun x _ ih => match x with
    | .tmp t => fun fl σ => Option.rec (motive := fun _ => Option (List Value)) none (fun v => Option.rec (motive := fun _ => Option (List Value)) none (fun vs => some (v :: vs)) (ih fl σ)) (FL.get fl t)
    | .cell a t => fun fl σ => Option.rec (motive := fun _ => Option (List Value)) none (fun u => asP u (fun oa => Option.rec (motive := fun _ => Option (List Value)) none (fun a =>
        Option.rec (motive := fun _ => Option (List Value)) none (fun v => Option.rec (motive := fun _ => Option (List Value)) none (fun vs => some (v :: vs)) (ih fl σ)) (loadT P σ t a)) oa) none) (FL.get fl a)) l
theorem cRes_ok {P : Program} {fl : FL} {fr : Fr} {σ : St} (hf : FE fl fr) : ∀ {l : List ResultVar} {vs : List Value}, cRes P l fl σ = some vs → resultsV P fr σ l = some vs
  | [], vs, h => h
  | .tmp t :: l, vs, h => by
    have h' : Option.rec (motive := fun _ => Option (List Value)) none (fun v => Option.rec (motive := fun _ => Option (List Value)) none (fun vs => some (v :: vs)) (cRes P l fl σ)) (FL.get fl t) = some vs := h
    obtain ⟨v, h1, h2⟩ := orec_some h'
    obtain ⟨us, h3, h4⟩ := orec_some h2
    cases h4
    rw [hf t] at h1
    simp only [resultsV, h1, Option.bind_some, cRes_ok hf h3, Option.map_some]
  | .cell a t :: l, vs, h => by
    have h' : Option.rec (motive := fun _ => Option (List Value)) none (fun u => asP u (fun oa => Option.rec (motive := fun _ => Option (List Value)) none (fun a =>
        Option.rec (motive := fun _ => Option (List Value)) none (fun v => Option.rec (motive := fun _ => Option (List Value)) none (fun vs => some (v :: vs)) (cRes P l fl σ)) (loadT P σ t a)) oa) none) (FL.get fl a) = some vs := h
    obtain ⟨u, h1, h2⟩ := orec_some h'
    obtain ⟨oa, rfl, h3⟩ := asP_some h2
    obtain ⟨ad, rfl, h4⟩ := orec_some h3
    obtain ⟨v, h5, h6⟩ := orec_some h4
    obtain ⟨us, h7, h8⟩ := orec_some h6
    cases h8
    rw [hf a] at h1
    simp only [resultsV, h1, Option.bind_some, h5, cRes_ok hf h7, Option.map_some]
inductive FW where
  | bad
  | mk (c : Code) (n : Nat) (res : FL → St → Option (List Value))
def cFun (E : Env) (f : FuncId) : FW := match nthG f E.P.funcs.toList with
  | some fn => match fn.body with
    | some c => Bool.rec (motive := fun _ => FW) .bad (.mk c fn.ntmps (cRes E.P fn.results.toList)) (Bool.rec (motive := fun _ => Bool) false (!(fn.name == "runtime.NumGoroutine")) (dstR fn.ntmps c))
    | none => .bad
  | none => .bad
def tupleQ (vs : List Value) : Value := List.rec (motive := fun _ => Value) (.tuple ⟨[]⟩) (fun v l _ => List.rec (motive := fun _ => Value) v (fun _ _ _ => .tuple ⟨v :: l⟩) l) vs
theorem tupleQ_eq : ∀ vs : List Value, tupleQ vs = tupleOf vs
  | [] => rfl
  | [_] => rfl
  | _ :: _ :: _ => rfl
def endQ (res : FL → St → Option (List Value)) (kv : KV) : KF := fun fl σ => Option.rec (motive := fun _ => R) none (fun vs => kv (tupleQ vs) σ) (res fl σ)
def argsQ (l : List Value) : Nat → FL → FL := List.rec (motive := fun _ => Nat → FL → FL) (fun _ fl => fl) (fun v _ ih i fl => ih (Nat.succ i) (FL.cons i v fl)) l
theorem argsQ_ok : ∀ (l : List Value) (i : Nat) (fl : FL) (fr : Fr), FE fl fr → FE (argsQ l i fl) (frameOf i l fr)
  | [], i, fl, fr, h => h
  | v :: l, i, fl, fr, h => argsQ_ok l (i + 1) _ _ (h.cons i v)
def noExit : KE := fun _ _ _ => none
def callTX (E : Env) (C : CX) : CX := fun f args σ k =>
  Option.rec (motive := fun _ => R) (C f args σ k) (fun p => Option.rec (motive := fun _ => R) none (fun q => Prod.rec (motive := fun _ => R) (fun v σ => k v σ) q) (p args σ)) (E.prim f)
def enterX (E : Env) (C : CX) (lf : Nat) (args : List Value) (σ : St) (kv : KV) (w : FW) : R :=
  FW.rec (motive := fun _ => R) none (fun c n res => Bool.rec (motive := fun _ => R) none (runC E c (callTX E C) lf (endQ res kv) noExit (endQ res kv) (argsQ args 0 .nil) σ) (Nat.ble (lenQ args) n)) w
def callX (E : Env) (k : Nat) : CX := Nat.rec (motive := fun _ => CX) (fun _ _ _ _ => none) (fun k ih f args σ kv => enterX E ih k args σ kv (cFun E f)) k
theorem callTX_ok {E : Env} {C : CX} {C' : CallF} (h : ∀ f args σ k r, C f args σ k = some r → ∃ v σ', C' f args σ = some (v, σ') ∧ k v σ' = some r) : CQ E (callTX E C) C' := by
  intro f args σ k r hr
  unfold callTX at hr
  unfold callT
  cases hp : E.prim f with
  | none => rw [hp] at hr; exact h _ _ _ _ _ hr
  | some p =>
    rw [hp] at hr
    obtain ⟨⟨v, σ'⟩, h1, h2⟩ := orec_some hr
    exact ⟨v, σ', h1, h2⟩
theorem callX_ok {E : Env} (hk : ∀ f i, E.keep f i = none) : ∀ (n : Nat) (f : FuncId) (args : List Value) (σ : St) (k : KV) (r : Value × St), callX E n f args σ k = some r → ∃ v σ', callN E n f args σ = some (v, σ') ∧ k v σ' = some r := by
  intro n
  induction n with
  | zero => intro f args σ k r h; cases h
  | succ n ih =>
    intro f args σ k r h
    have h' : enterX E (callX E n) n args σ k (cFun E f) = some r := h
    unfold cFun at h'
    simp only [nthG_eq, Array.getElem?_toList, dstR_eq, brec_and] at h'
    have hfo : ∀ (fn : Func) (c : Code), (dstOK fn.ntmps c && !(fn.name == "runtime.NumGoroutine")) = fnOK fn c := fun _ _ => rfl
    simp only [hfo] at h'
    cases hfn : E.P.funcs[f]? with
    | none => rw [hfn] at h'; cases h'
    | some fn =>
      rw [hfn] at h'
      simp only at h'
      cases hb : fn.body with
      | none => rw [hb] at h'; cases h'
      | some c =>
        rw [hb] at h'
        simp only at h'
        cases ho : fnOK fn c with
        | false => rw [ho] at h'; cases h'
        | true =>
          rw [ho] at h'
          obtain ⟨h1, h2⟩ := brec_some h'
          obtain ⟨ex, fr', σ', fl', h3, h4, h5⟩ := runC_ok hk (callTX_ok (E := E) ih) n f c _ _ σ _ _ _ r (argsQ_ok args 0 .nil .lf FE.nil) h2
          have fin : endQ (cRes E.P fn.results.toList) k fl' σ' = some r → ∃ v σ'', (resultsV E.P fr' σ' fn.results.toList).map (fun vs => (tupleOf vs, σ')) = some (v, σ'') ∧ k v σ'' = some r := by
            intro h6
            obtain ⟨vs, h7, h8⟩ := orec_some h6
            rw [tupleQ_eq] at h8
            exact ⟨tupleOf vs, σ', by rw [cRes_ok h4 h7]; rfl, h8⟩
          simp only [callN, hfn, hb, ho, Option.bind_some, Bool.true_and]
          rw [lenQ_eq] at h1
          rw [h1]
          simp only [cond_true, h3]
          cases ex with
          | nrm => exact fin h5
          | exit i => cases h5
          | ret => exact fin h5
/-- a law's answer is true -/
def doneT : KV := fun v _ => asB v (fun b => Bool.rec (motive := fun _ => R) none (some (.bool true, ⟨.lf, 0⟩)) b) none
theorem runQ {E : Env} (hk : ∀ f i, E.keep f i = none) {n : Nat} {f : FuncId} {args : List Value} {σ : St} (h : callTX E (callX E n) f args σ doneT = some (.bool true, ⟨.lf, 0⟩)) : resB (callT E (callN E n) f args σ) = true := by
  obtain ⟨v, σ', h1, h2⟩ := callTX_ok (E := E) (callX_ok hk n) _ _ _ _ _ h
  obtain ⟨b, rfl, h3⟩ := asB_some h2
  obtain ⟨rfl, _⟩ := brec_some h3
  rw [h1]; rfl
end Go.Am
