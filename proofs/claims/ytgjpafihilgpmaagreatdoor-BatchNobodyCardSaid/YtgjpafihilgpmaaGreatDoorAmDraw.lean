/-
  A part of the proof that the run of an abstract machine, which the kernel can run, is what the program does under its model: no condition of its own.
-/
import Derived.Test.YtgjpafihilgpmaaGreatDoorAmStep
set_option linter.unusedVariables false
set_option linter.unusedSimpArgs false
set_option maxHeartbeats 1000000
namespace Go.Am
open Go
variable {P : Program} {ρ : Rho} {σ : St} {w : World} {a : Act} {fr : Fr}

/-! ## equality of values -/
theorem sameL_sound {eq : Value → Value → Bool} (h : ∀ x y, eq x y = true → x = y) : ∀ (l m : List Value), sameL eq l m = true → l = m
  | [], [], _ => rfl
  | [], _ :: _, k => by simp [sameL] at k
  | _ :: _, [], k => by simp [sameL] at k
  | x :: l, y :: m, k => by
    simp only [sameL, Bool.and_eq_true] at k
    rw [h x y k.1, sameL_sound h l m k.2]
theorem sameA_sound {eq : Value → Value → Bool} (h : ∀ x y, eq x y = true → x = y) (a b : Array Value) (k : sameL eq a.toList b.toList = true) : a = b := Array.ext' (sameL_sound h _ _ k)
theorem sameV_sound : ∀ (n : Nat) (x y : Value), sameV n x y = true → x = y
  | 0, x, y, h => by simp [sameV] at h
  | n + 1, x, y, h => by
    unfold sameV at h
    split at h
    · simpa using h
    · simp only [Bool.and_eq_true, beq_iff_eq] at h; rw [h.1, h.2]
    · rename_i a b
      simp only [beq_iff_eq] at h
      have : a = b := by cases a with | mk a => cases b with | mk b => simp only at h; congr 1; exact Array.ext' h
      rw [this]
    · simp only [beq_iff_eq] at h; rw [h]
    · simp only [Bool.and_eq_true, beq_iff_eq] at h
      obtain ⟨⟨h1, h2⟩, h3⟩ := h
      rw [h1, Nat.eq_of_beq_eq_true h2, Nat.eq_of_beq_eq_true h3]
    · simp only [beq_iff_eq] at h; rw [h]
    · rfl
    · rfl
    · simp only [Bool.and_eq_true] at h
      rw [Nat.eq_of_beq_eq_true h.1, sameV_sound n _ _ h.2]
    · simp only [Bool.and_eq_true] at h
      obtain ⟨⟨h1, h2⟩, h3⟩ := h
      rw [Nat.eq_of_beq_eq_true h1, sameA_sound (sameV_sound n) _ _ h2, sameA_sound (sameV_sound n) _ _ h3]
    · rw [sameA_sound (sameV_sound n) _ _ h]
    · rw [sameA_sound (sameV_sound n) _ _ h]
    · cases h

/-! ## masks -/
theorem maskGo_get (fr : Fr) : ∀ (l : List Nat) (acc : Fr) (x : Nat) (v : Value), (maskGo fr l acc).get x = some v → (x ∈ l ∧ fr.get x = some v) ∨ acc.get x = some v
  | [], acc, x, v, h => .inr h
  | i :: l, acc, x, v, h => by
    unfold maskGo at h
    split at h
    · rename_i u hu
      rcases maskGo_get fr l _ x v h with ⟨h1, h2⟩ | h1
      · exact .inl ⟨List.mem_cons_of_mem _ h1, h2⟩
      · rw [T.get_set] at h1
        split at h1
        · rename_i e; subst e; cases h1; exact .inl ⟨List.mem_cons_self, hu⟩
        · exact .inr h1
    · rcases maskGo_get fr l _ x v h with ⟨h1, h2⟩ | h1
      · exact .inl ⟨List.mem_cons_of_mem _ h1, h2⟩
      · exact .inr h1
theorem mask_get {l : List Nat} {x : Nat} {v : Value} (h : (maskF (some l) fr).get x = some v) : x ∈ l ∧ fr.get x = some v := by
  rcases maskGo_get fr l .lf x v h with h1 | h1
  · exact h1
  · cases h1

/-! ## blocks that are not made yet -/
theorem Rel.ghost {H : Array Obj} (h : Rel P ρ σ H) (o : AObj) : Rel P ρ (σ.new o).2 H := by
  have hf := (h.fresh σ.nx (Nat.le_refl _)).2
  have g : ∀ A o1 p, (σ.new o).2.h.get A = some o1 → ρ A = some p → σ.h.get A = some o1 := fun A o1 p h1 h2 => by
    rw [St.get_new] at h1
    split at h1
    · rename_i e; subst e; rw [hf] at h2; cases h2
    · exact h1
  refine .mk' (fun A hA => ?_) (Nat.le_succ_of_le h.low) h.glob (fun A o1 p h1 h2 => h.obj (g A o1 p h1 h2) h2) (fun A A' o1 o2 p p' hne h1 h2 h3 h4 => h.inj A A' o1 o2 p p' hne (g A o1 p h1 h3) (g A' o2 p' h2 h4) h3 h4)
  rw [St.nx_new] at hA
  rw [St.get_new, if_neg (by omega)]
  exact h.fresh A (by omega)
theorem Sim.ghost' {H : Array Obj} (h : Rel P ρ σ H) {ρ0 : Rho} {σ0 : St} {w0 : World} (hs : Sim ρ0 σ0 w0 ρ σ w) (o : AObj) : Sim ρ0 σ0 w0 ρ (σ.new o).2 w where
  le := hs.le
  ghost := fun A ha hn => by
    obtain ⟨h1, h2⟩ := hs.ghost A ha hn
    have := hs.nx
    exact ⟨h1, by rw [St.get_new, if_neg (by omega)]; exact h2⟩
  nx := by have := hs.nx; rw [St.nx_new]; omega
  size := hs.size
  frame := hs.frame
  wr := fun B ⟨A, o1, p, h1, h2, h3, h4⟩ => by
    refine hs.wr B ⟨A, o1, p, ?_, h2, h3, h4⟩
    rw [St.get_new] at h1
    split at h1
    · rename_i e; subst e; rw [(h.fresh σ.nx (Nat.le_refl _)).2] at h2; cases h2
    · exact h1
  out := hs.out
theorem Rel.adopt {H : Array Obj} (h : Rel P ρ σ H) {A : Nat} {o : AObj} (ho : σ.h.get A = some o) (hn : ρ A = none) (o' : Obj) (p : Pl) (hb : p.b = H.size) (hat : ObjAt P (ρ.upd A p) (H.push o') o p) : Rel P (ρ.upd A p) σ (H.push o') := by
  have hle := Rho.le_upd p hn
  have hA := h.dom' ho
  have hpush : ∀ B, B < H.size → (H.push o')[B]? = H[B]? := fun B hB => by rw [Array.getElem?_push, if_neg (by omega)]
  refine .mk' (fun B hB => ?_) h.low (fun g hg => ?_) (fun B o2 q hB hq => ?_) (fun B B' o2 o3 q q' hne hB hB' hq hq' => ?_)
  · rw [Rho.upd_ne _ _ (by omega)]
    exact h.fresh B hB
  · obtain ⟨q, h1, h2⟩ := h.glob g hg
    exact ⟨q, hle _ _ h1, h2⟩
  · by_cases e : B = A
    · subst e; rw [ho] at hB; cases hB; rw [Rho.upd_self] at hq; cases hq; exact hat
    · rw [Rho.upd_ne _ _ e] at hq
      exact (h.obj hB hq).mono hle (hpush _ (h.lt hB hq))
  · by_cases e : B = A
    · subst e
      rw [Rho.upd_self] at hq; cases hq
      rw [Rho.upd_ne _ _ (Ne.symm hne)] at hq'
      have := h.lt hB' hq'; omega
    · rw [Rho.upd_ne _ _ e] at hq
      by_cases e' : B' = A
      · subst e'
        rw [Rho.upd_self] at hq'; cases hq'
        have := h.lt hB hq; omega
      · rw [Rho.upd_ne _ _ e'] at hq'
        exact h.inj B B' o2 o3 q q' hne hB hB' hq hq'
theorem Sim.adopt {ρ0 : Rho} {σ0 : St} {w0 : World} (hs : Sim ρ0 σ0 w0 ρ σ w) {A : Nat} (hA : σ0.nx ≤ A) (hn : ρ A = none) (o' : Obj) (p : Pl) (hb : p.b = w.heap.size) (w' : World) (hw : w'.heap = w.heap.push o')
    (hout : w'.os = w.os ∧ w'.output = w.output ∧ w'.tape = w.tape) : Sim ρ0 σ0 w0 (ρ.upd A p) σ w' where
  le := Rho.le_trans hs.le (Rho.le_upd p hn)
  ghost := fun B hB hn' => by
    obtain ⟨h1, h2⟩ := hs.ghost B hB hn'
    exact ⟨by rw [Rho.upd_ne _ _ (by omega)]; exact h1, h2⟩
  nx := hs.nx
  size := by rw [hw]; have := hs.size; simp; omega
  frame := fun B hB hn' => by rw [hw, Array.getElem?_push, if_neg (by have := hs.size; omega)]; exact hs.frame B hB hn'
  wr := fun B ⟨A', o2, q, ho, hq, e, hop⟩ => by
    by_cases e' : A' = A
    · subst e'; rw [Rho.upd_self] at hq; cases hq; exact .inr (by have := hs.size; omega)
    · rw [Rho.upd_ne _ _ e'] at hq; exact hs.wr B ⟨A', o2, q, ho, hq, e, hop⟩
  out := ⟨hout.1.trans hs.out.1, hout.2.1.trans hs.out.2.1, hout.2.2.trans hs.out.2.2⟩

/-! ## what is before what -/
def Ls (listed : Array Bool) (i : Nat) : Prop := listed.getD i false = true
theorem Ls.set {listed : Array Bool} {i j : Nat} (h : Ls listed j) : Ls (listed.setIfInBounds i true) j := getD_set_true h
theorem Ls.set_self {listed : Array Bool} {i : Nat} (h : i < listed.size) : Ls (listed.setIfInBounds i true) i := by
  unfold Ls; simp [h]
theorem Ls.of_set {listed : Array Bool} {i j : Nat} (h : Ls (listed.setIfInBounds i true) j) : j = i ∨ Ls listed j := by
  by_cases e : j = i
  · exact .inl e
  · right; unfold Ls at h ⊢; rw [getD_set_ne false (Ne.symm e)] at h; exact h

theorem edgeBits_bit {B : List Nat} : ∀ {l : List Edge} {j : Nat}, (edgeBits B l).testBit j = true → ∃ e ∈ l, Region.binds .any e = true ∧ (e.on = j ∨ befQ B e.on j = true)
  | [], j, h => by simp [edgeBits] at h
  | e :: l, j, h => by
    unfold edgeBits at h
    cases hb : Region.binds .any e with
    | true =>
      simp only [hb, cond_true, Nat.testBit_or, Bool.or_eq_true] at h
      rcases h with (h | h) | h
      · rw [Nat.testBit_two_pow] at h
        exact ⟨e, List.mem_cons_self, hb, .inl (by simpa using h)⟩
      · exact ⟨e, List.mem_cons_self, hb, .inr h⟩
      · obtain ⟨e', h1, h2⟩ := edgeBits_bit h
        exact ⟨e', List.mem_cons_of_mem _ h1, h2⟩
    | false =>
      simp only [hb, cond_false] at h
      obtain ⟨e', h1, h2⟩ := edgeBits_bit h
      exact ⟨e', List.mem_cons_of_mem _ h1, h2⟩
theorem bit_edgeBits {B : List Nat} : ∀ {l : List Edge} {e : Edge}, e ∈ l → Region.binds .any e = true → (edgeBits B l).testBit e.on = true
  | e' :: l, e, h, hb => by
    unfold edgeBits
    cases h with
    | head => simp only [hb, cond_true, Nat.testBit_or, Nat.testBit_two_pow, decide_true, Bool.true_or]
    | tail _ h =>
      have := bit_edgeBits (B := B) h hb
      cases hb' : Region.binds .any e' <;> simp only [cond_true, cond_false, Nat.testBit_or, this, Bool.or_true]

structure Plan (P : Program) (ops : Array Oper) (B : List Nat) (π : List Nat) : Prop where
  len : π.length ≤ ops.size
  lt : ∀ i ∈ π, i < ops.size
  all : ∀ i, i < ops.size → i ∈ π
  ord : goOrder P ops.toList B π = true
  edge : ∀ (i : Nat) (o : Oper) (e : Edge), ops[i]? = some o → e ∈ o.after → Region.binds .any e = true → e.on < i
  bits : ∀ (i : Nat) (o : Oper), ops[i]? = some o → (B[i]?).getD 0 = edgeBits B o.after.toList
  apart : ∀ (i k : Nat) (o ok : Oper), ops[i]? = some o → ops[k]? = some ok → i = k ∨ befQ B i k = true ∨ befQ B k i = true ∨ ∀ t, ok.dst = some t → t ∉ looksO ops.toList o
theorem planOK_plan {ops : Array Oper} {B π : List Nat} (h : planOK P ops B π = true) : Plan P ops B π := by
  unfold planOK at h
  simp only [Bool.and_eq_true] at h
  obtain ⟨⟨⟨⟨h0, h1⟩, h2⟩, h3⟩, h4⟩ := h
  have per : ∀ (i : Nat) (o : Oper), ops[i]? = some o → (o.after.toList.all (fun e => !Region.binds .any e || Nat.blt e.on i) && Nat.beq ((B[i]?).getD 0) (edgeBits B o.after.toList) && (List.range ops.toList.length).all (fun k => apartOK ops.toList B i k o)) = true := by
    intro i o ho
    have hi : i < ops.size := (Array.getElem?_eq_some_iff.1 ho).1
    have := List.all_eq_true.1 h4 i (by simpa using hi)
    rw [Array.getElem?_toList, ho] at this
    exact this
  refine ⟨by have := Nat.le_of_ble_eq_true h0; simpa using this, fun i hi => ?_, fun i hi => ?_, h3, fun i o e ho he hb => ?_, fun i o ho => ?_, fun i k o ok ho hk => ?_⟩
  · have := List.all_eq_true.1 h1 i hi
    rw [Nat.blt_eq] at this
    simpa using this
  · have := List.all_eq_true.1 h2 i (by simpa using hi)
    simpa using this
  · have := per i o ho
    simp only [Bool.and_eq_true] at this
    have := List.all_eq_true.1 this.1.1 e (by simpa using he)
    rw [hb] at this
    simpa [Nat.blt_eq] using this
  · have := per i o ho
    simp only [Bool.and_eq_true] at this
    exact Nat.eq_of_beq_eq_true this.1.2
  · have := per i o ho
    simp only [Bool.and_eq_true] at this
    have hk' : k < ops.size := (Array.getElem?_eq_some_iff.1 hk).1
    have := List.all_eq_true.1 this.2 k (by simpa using hk')
    unfold apartOK at this
    rw [Array.getElem?_toList, hk] at this
    simp only [Bool.or_eq_true] at this
    rcases this with ((h | h) | h) | h
    · exact .inl (Nat.eq_of_beq_eq_true h)
    · exact .inr (.inl h)
    · exact .inr (.inr (.inl h))
    · refine .inr (.inr (.inr fun t ht => ?_))
      rw [ht] at h
      simpa using h

def Closed (B : List Nat) (listed : Array Bool) : Prop := ∀ i j, Ls listed i → befQ B i j = true → Ls listed j
theorem ready_bef {ops : Array Oper} {B π : List Nat} (hp : Plan P ops B π) {listed : Array Bool} (hc : Closed B listed) {i j : Nat} (hi : i ∈ Region.ready .any ops listed) (h : befQ B i j = true) : Ls listed j := by
  obtain ⟨_, o, ho, hall⟩ := mem_ready.1 hi
  unfold befQ at h
  rw [hp.bits i o ho] at h
  obtain ⟨e, h1, h2, h3⟩ := edgeBits_bit h
  have := hall e (by simpa using h1) h2
  rcases h3 with rfl | h3
  · exact this
  · exact hc _ _ this h3
theorem closed_set {ops : Array Oper} {B π : List Nat} (hp : Plan P ops B π) {listed : Array Bool} (hc : Closed B listed) {i : Nat} (hi : i ∈ Region.ready .any ops listed) : Closed B (listed.setIfInBounds i true) := by
  intro k j hk hb
  rcases hk.of_set with rfl | hk
  · exact (ready_bef hp hc hi hb).set
  · exact (hc k j hk hb).set

theorem goOrder_mem {all : List Oper} {B : List Nat} : ∀ {π : List Nat}, goOrder P all B π = true → ∀ {p1 p2 : List Nat} {i : Nat}, π = p1 ++ i :: p2 → ∀ k ∈ p2, i ≠ k ∧ befQ B i k = false ∧ (isEff P all i = true → befQ B k i = true)
  | [], h, p1, p2, i, he => by simp at he
  | x :: π, h, p1, p2, i, he => by
    simp only [goOrder, Bool.and_eq_true] at h
    cases p1 with
    | nil =>
      simp only [List.nil_append, List.cons.injEq] at he
      obtain ⟨rfl, rfl⟩ := he
      intro k hk
      have := List.all_eq_true.1 h.1 k hk
      simp only [Bool.and_eq_true, Bool.not_eq_true', Bool.or_eq_true] at this
      refine ⟨fun e => ?_, this.1.2, fun he => ?_⟩
      · subst e; simp at this
      · rcases this.2 with q | q
        · rw [q] at he; cases he
        · exact q
    | cons y p1 =>
      simp only [List.cons_append, List.cons.injEq] at he
      exact goOrder_mem h.2 he.2
end Go.Am
