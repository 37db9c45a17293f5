/-
  A part of the proof that the run of an abstract machine, which the kernel can run, is what the program does under its model: no condition of its own.
-/
import Derived.Test.YtgjpafihilgpmaaGreatDoorAmQ4
set_option linter.unusedVariables false
set_option linter.unusedSimpArgs false
set_option maxHeartbeats 1000000
noncomputable section
namespace Go.Am
open Go

/-! ### regions whose order is open, through the plain machine -/
def FEq (N : List Nat) (a b : Fr) : Prop := ∀ x ∈ N, a.get x = b.get x
theorem maskF_ext {l : List Nat} {a b : Fr} (h : ∀ x ∈ l, a.get x = b.get x) (x : Nat) : (maskF (some l) a).get x = (maskF (some l) b).get x := by
  unfold maskF
  simp only
  rw [maskGo_get_eq, maskGo_get_eq]
  by_cases hx : x ∈ l
  · rw [h x hx]
  · simp [hx]
def Lq (E : Env) (C1 C2 : CallF) : Prop := ∀ f args σ r, callT E C1 f args σ = some r → callT E C2 f args σ = some r
theorem invokeT_mono {E : Env} {C1 C2 : CallF} (hL : Lq E C1 C2) {σ : St} {fn : Fn} {cap args : List Value} {r : Value × St} (h : invokeT E C1 σ fn cap args = some r) : invokeT E C2 σ fn cap args = some r := by
  unfold invokeT at h ⊢
  split at h
  · exact hL _ _ _ _ h
  · split at h
    · simp only [Option.bind_eq_some_iff] at h ⊢
      obtain ⟨i, h1, m, h2, h3⟩ := h
      refine ⟨i, h1, m, h2, ?_⟩
      cases hp : m.path.isEmpty with
      | false => rw [hp] at h3; cases h3
      | true =>
        rw [hp] at h3
        simp only [cond_true] at h3 ⊢
        split at h3
        · exact hL _ _ _ _ h3
        · cases h3
        · exact hL _ _ _ _ h3
        · cases h3
    · cases h
  · cases h
theorem stepO_mono {E : Env} {C1 C2 : CallF} (hL : Lq E C1 C2) {op : Op} {fr : Fr} {σ : St} {r : Value × St} (h : stepO E C1 op fr σ = some r) : stepO E C2 op fr σ = some r := by
  unfold stepO at h ⊢
  split at h
  · exact h
  · exact h
  · exact h
  · unfold opEff at h ⊢
    split at h
    · exact h
    · exact h
    · exact h
    · simp only [Option.bind_eq_some_iff] at h ⊢
      obtain ⟨args, h1, h2⟩ := h
      refine ⟨args, h1, ?_⟩
      split at h2
      · exact h2
      · simp only [Option.bind_eq_some_iff] at h2 ⊢
        obtain ⟨v, h3, h4⟩ := h2
        exact ⟨v, h3, invokeT_mono hL h4⟩
      · simp only [Option.bind_eq_some_iff] at h2 ⊢
        obtain ⟨v, h3, h4⟩ := h2
        refine ⟨v, h3, ?_⟩
        split at h4
        · exact invokeT_mono hL h4
        · cases h4
    · cases h
structure EntR (a b : Ent) : Prop where
  i : a.i = b.i
  op : a.op = b.op
  σ : a.σ = b.σ
  v : a.v = b.v
  fr : ∀ x, a.fr.get x = b.fr.get x
inductive LogR : List Ent → List Ent → Prop
  | nil : LogR [] []
  | cons {a b : Ent} {l m : List Ent} : EntR a b → LogR l m → LogR (a :: l) (b :: m)
theorem wantedO_ext {all : List Oper} {o : Oper} {a b : Fr} (h : ∀ x ∈ looksO all o, a.get x = b.get x) : wantedO all o a = wantedO all o b := by
  rw [← wantedO_mask (all := all) (o := o) a, ← wantedO_mask (all := all) (o := o) b]
  unfold wantedO
  cases o.guard with
  | none => rfl
  | some g =>
    simp only
    congr 1
    funext oj
    congr 1
    funext t
    rw [maskF_ext h]
theorem stepO_ext {E : Env} {C : CallF} {σ : St} {all : List Oper} {o : Oper} {a b : Fr} (h : ∀ x ∈ looksO all o, a.get x = b.get x) : stepO E C o.op a σ = stepO E C o.op b σ :=
  stepO_congr fun x hx => evO_congr fun t ht => h t (by
    subst ht
    unfold looksO names
    exact List.mem_append_left _ (List.mem_append_right _ (List.mem_filterMap.2 ⟨_, hx, rfl⟩)))
theorem putD_feq {N : List Nat} {a b : Fr} (h : FEq N a b) (dst : Option Nat) (v : Value) : FEq N (putD a dst v) (putD b dst v) := by
  intro x hx
  cases dst with
  | none => exact h x hx
  | some d =>
    simp only [putD]
    rw [T.get_set, T.get_set, h x hx]
theorem runLog_mono {E : Env} {C1 C2 : CallF} (hL : Lq E C1 C2) {all : List Oper} {N : List Nat} : ∀ (l : List Nat) (fr1 fr2 : Fr) (σ : St) (log1 : List Ent) (fr1' : Fr) (σ' : St), FEq N fr1 fr2 →
    (∀ i ∈ l, ∀ o, all[i]? = some o → ∀ x ∈ looksO all o, x ∈ N) → runLog E C1 all l fr1 σ = some (log1, fr1', σ') →
    ∃ log2 fr2', runLog E C2 all l fr2 σ = some (log2, fr2', σ') ∧ FEq N fr1' fr2' ∧ LogR log1 log2
  | [], fr1, fr2, σ, log1, fr1', σ', hf, _, h => by
    simp only [runLog, Option.some.injEq, Prod.mk.injEq] at h
    obtain ⟨rfl, rfl, rfl⟩ := h
    exact ⟨[], fr2, rfl, hf, .nil⟩
  | i :: l, fr1, fr2, σ, log1, fr1', σ', hf, hN, h => by
    obtain ⟨o, b, rest, σ1, ho, he, hbi, hfr, hσ, hw, hs, hr⟩ := runLog_cons h
    subst he
    have hNo := hN i List.mem_cons_self o ho
    have hext : ∀ x ∈ looksO all o, fr1.get x = fr2.get x := fun x hx => hf x (hNo x hx)
    obtain ⟨log2, fr2', h1, h2, h3⟩ := runLog_mono hL l _ _ σ1 rest fr1' σ' (putD_feq hf o.dst b.v) (fun k hk => hN k (List.mem_cons_of_mem _ hk)) hr
    rw [hfr, wantedO_mask, wantedO_ext hext] at hw
    refine ⟨{ i, op := b.op, fr := maskF (some (looksO all o)) fr2, σ, v := b.v } :: log2, fr2', ?_, h2, .cons ⟨hbi, rfl, hσ, rfl, fun x => by rw [hfr]; exact maskF_ext hext x⟩ h3⟩
    unfold runLog
    simp only [ho, Option.bind_some, wantedO_mask, stepO_mask, hw]
    rcases hs with ⟨hop, hs⟩ | ⟨hop, hv, rfl⟩
    · rw [hfr, stepO_mask, stepO_ext hext] at hs
      rw [hop]
      simp only [cond_true, stepO_mono hL hs, Option.bind_some, h1, Option.map_some]
    · rw [hop, hv] 
      rw [hv] at h1
      simp only [cond_false, h1, Option.map_some]
theorem readsAs_ext {P : Program} {all : List Oper} {a b : Ent} (h : EntR a b) (σ : St) : readsAs P all a σ = readsAs P all b σ := by
  unfold readsAs
  rw [h.i, h.v]
  cases all[b.i]? with
  | none => rfl
  | some o =>
    simp only [Option.bind_some]
    rw [opRead_congr (fr := a.fr) (fr' := b.fr) fun x _ => evO_congr fun t _ => h.fr t]
theorem staysAt_ext {P : Program} {all : List Oper} {B : List Nat} {a b : Ent} (h : EntR a b) (σ : St) : ∀ {l m : List Ent}, LogR l m → staysAt P all B a σ l = staysAt P all B b σ m
  | _, _, .nil => by unfold staysAt; exact readsAs_ext h σ
  | _, _, .cons (a := c) (b := d) hc hl => by
    unfold staysAt
    rw [hc.i, hc.σ, h.i, readsAs_ext h d.σ, staysAt_ext h σ hl]
theorem logOK_ext {P : Program} {all : List Oper} {B : List Nat} (σ : St) : ∀ {l m : List Ent}, LogR l m → logOK P all B σ l = logOK P all B σ m
  | _, _, .nil => rfl
  | _, _, .cons hc hl => by
    unfold logOK
    rw [hc.op, hc.i, staysAt_ext hc σ hl, logOK_ext σ hl]
/-- calls, handed back -/
def callD (C : CX) : CallF := fun f args σ => C f args σ (fun v σ => some (v, σ))
theorem callD_lq {E : Env} {C : CX} {C' : CallF} (h : CQ E C C') : Lq E (callD C) C' := by
  intro f args σ r hr
  unfold callT at hr ⊢
  cases hp : E.prim f with
  | some p => rw [hp] at hr; exact hr
  | none =>
    rw [hp] at hr
    obtain ⟨v, σ', h1, h2⟩ := h f args σ _ _ hr
    cases h2
    unfold callT at h1
    rw [hp] at h1
    exact h1
def dstsO (ops : List Oper) : List Nat := ops.filterMap (·.dst)
def looksA (ops : List Oper) : List Nat := ops.flatMap (looksO ops)
def pushAll (l : List Nat) (fr : Fr) : FL → Option FL :=
  List.rec (motive := fun _ => FL → Option FL) (fun fl => some fl) (fun d _ ih fl => Option.rec (motive := fun _ => Option FL) none (fun v => ih (FL.cons d v fl)) (T.get fr d)) l
theorem pushAll_ok {fr : Fr} : ∀ {l : List Nat} {fl fl' : FL}, pushAll l fr fl = some fl' → ∀ x, fl'.get x = if x ∈ l then fr.get x else fl.get x
  | [], fl, fl', h, x => by cases h; simp
  | d :: l, fl, fl', h, x => by
    have h' : Option.rec (motive := fun _ => Option FL) none (fun v => pushAll l fr (FL.cons d v fl)) (T.get fr d) = some fl' := h
    obtain ⟨v, h1, h2⟩ := orec_some h'
    rw [pushAll_ok h2 x, FL.get_cons]
    by_cases hx : x ∈ l
    · simp [hx]
    · by_cases e : x = d
      · subst e; simp [hx, h1]
      · simp [hx, e]
def drawS (E : Env) (ops : Array Oper) : CX → KF → FL → St → R := fun C k fl σ =>
  Option.rec (motive := fun _ => R) none (fun p => Prod.rec (motive := fun _ => R) (fun fr σ => Option.rec (motive := fun _ => R) none (fun fl => k fl σ) (pushAll (dstsO ops.toList) fr fl)) p) (runDraw E (callD C) ops (frQ (looksA ops.toList) fl) σ)
theorem drawS_ok {E : Env} {C : CX} {C' : CallF} (hC : CQ E C C') {ops : Array Oper} {fl : FL} {fr : Fr} {σ : St} {k : KF} {r : Value × St} (hf : FE fl fr) (h : drawS E ops C k fl σ = some r) :
    ∃ fr' σ' fl', runDraw E C' ops fr σ = some (fr', σ') ∧ FE fl' fr' ∧ k fl' σ' = some r := by
  obtain ⟨⟨fr1, σ'⟩, h1, h2⟩ := orec_some h
  obtain ⟨fl', h3, h4⟩ := orec_some h2
  unfold runDraw at h1
  simp only [Option.bind_eq_some_iff] at h1
  obtain ⟨π, h5, ⟨log, fr1', σ1'⟩, h6, h7⟩ := h1
  cases hlo : logOK E.P ops.toList (befB ops) σ1' log with
  | false => simp [hlo] at h7
  | true =>
    simp only [hlo, cond_true, Option.some.injEq, Prod.mk.injEq] at h7
    obtain ⟨rfl, rfl⟩ := h7
    have hfe : FEq (looksA ops.toList) (frQ (looksA ops.toList) fl) fr := fun x hx => by rw [frQ_get hf, if_pos hx]
    have hN : ∀ i ∈ π, ∀ o, ops.toList[i]? = some o → ∀ x ∈ looksO ops.toList o, x ∈ looksA ops.toList := fun i _ o ho x hx => List.mem_flatMap.2 ⟨o, List.mem_of_getElem? ho, hx⟩
    obtain ⟨log2, fr2', h8, h9, h10⟩ := runLog_mono (callD_lq hC) π _ fr σ log fr1' σ1' hfe hN h6
    refine ⟨fr2', σ1', fl', ?_, ?_, h4⟩
    · unfold runDraw
      rw [h5]
      simp only [Option.bind_some, h8]
      rw [← logOK_ext σ1' h10, hlo]
      rfl
    · intro x
      rw [pushAll_ok h3 x]
      by_cases hx : x ∈ dstsO ops.toList
      · rw [if_pos hx]
        refine h9 x ?_
        obtain ⟨o, ho, hd⟩ := List.mem_filterMap.1 hx
        refine List.mem_flatMap.2 ⟨o, ho, ?_⟩
        unfold looksO names
        rw [hd]
        simp
      · rw [if_neg hx, hf x]
        obtain ⟨_, he⟩ := runLog_frames h8
        rw [he, frAfter_get]
        intro b hb hd
        unfold dstI at hd
        simp only [Option.bind_eq_some_iff] at hd
        obtain ⟨o, ho, hd⟩ := hd
        exact hx (List.mem_filterMap.2 ⟨o, List.mem_of_getElem? ho, hd⟩)
end Go.Am
