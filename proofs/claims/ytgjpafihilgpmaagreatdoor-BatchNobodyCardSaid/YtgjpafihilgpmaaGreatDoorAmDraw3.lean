/-
  A part of the proof that the run of an abstract machine, which the kernel can run, is what the program does under its model: no condition of its own.
-/
import Derived.Test.YtgjpafihilgpmaaGreatDoorAmDraw2
set_option linter.unusedVariables false
set_option linter.unusedSimpArgs false
set_option maxHeartbeats 1000000
namespace Go.Am
open Go
variable {E : Env} {C : CallF} {ops : Array Oper} {ρ : Rho} {σ : St} {w : World} {a : Act} {fr : Fr}
variable {B π : List Nat} {n : Nat} {fr0 frE : Fr} {ρ0 : Rho} {σ0 σE : St} {w0 : World} {log : List Ent}

/-- the order of the record -/
theorem log_ord {P : Program} (hp : Plan P ops B π) (hm : log.map (·.i) = π) {pre post : List Ent} {b : Ent} (hl : log = pre ++ b :: post) : ∀ c ∈ post, b.i ≠ c.i ∧ befQ B b.i c.i = false ∧ (isEff P ops.toList b.i = true → befQ B c.i b.i = true) := by
  intro c hc
  have : π = pre.map (·.i) ++ b.i :: post.map (·.i) := by rw [← hm, hl]; simp
  exact goOrder_mem hp.ord this c.i (List.mem_map_of_mem hc)

theorem log_at {P : Program} (hp : Plan P ops B π) (hm : log.map (·.i) = π) {b : Ent} (hb : b ∈ log) : ∃ o, ops[b.i]? = some o := by
  have : b.i < ops.size := hp.lt _ (by rw [← hm]; exact List.mem_map_of_mem hb)
  exact ⟨ops[b.i], by simp [this]⟩

def Vars (ops : Array Oper) (fr0 : Fr) (log : List Ent) (listed : Array Bool) (ρ : Rho) (a : Act) : Prop :=
  ∀ pre post, log = pre ++ post → ∀ x, (post = [] ∨ ∃ b post', post = b :: post' ∧ ¬ Ls listed b.i ∧ x ∈ looksI ops.toList b.i) → (∀ c ∈ pre, dstI ops.toList c.i = some x → Ls listed c.i) →
    ∀ v, (frAfter ops.toList fr0 pre).get x = some v → ∃ v', a.tmps[x]? = some v' ∧ VR ρ v v'

/-- two operations that touch one variable -/
theorem touch {P : Program} (hp : Plan P ops B π) (hm : log.map (·.i) = π) {b c : Ent} (hb : b ∈ log) (hc : c ∈ log) {x : Nat} (hx : x ∈ looksI ops.toList b.i) (hd : dstI ops.toList c.i = some x) :
    b.i = c.i ∨ befQ B b.i c.i = true ∨ befQ B c.i b.i = true := by
  obtain ⟨o, ho⟩ := log_at hp hm hb
  obtain ⟨ok, hok⟩ := log_at hp hm hc
  rcases hp.apart _ _ o ok ho hok with h | h | h | h
  · exact .inl h
  · exact .inr (.inl h)
  · exact .inr (.inr h)
  · refine absurd ?_ (h x ?_)
    · unfold looksI at hx; rw [Array.getElem?_toList, ho] at hx; exact hx
    · unfold dstI at hd; rw [Array.getElem?_toList, hok] at hd; exact hd
theorem dst_looks {i x : Nat} (h : dstI ops.toList i = some x) : x ∈ looksI ops.toList i := by
  unfold dstI at h
  unfold looksI
  cases ho : ops.toList[i]? with
  | none => rw [ho] at h; cases h
  | some o =>
    rw [ho] at h
    simp only [Option.bind_some] at h
    simp only [looksO, names, h, Option.toList_some]
    simp

/-- what an operation sees when its turn has come -/
theorem Vars.sees {P : Program} (hp : Plan P ops B π) (hm : log.map (·.i) = π) {listed : Array Bool} (hc : Closed B listed) (hv : Vars ops fr0 log listed ρ a)
    {pre post : List Ent} {j : Ent} (hl : log = pre ++ j :: post) (hr : j.i ∈ Region.ready .any ops listed) (hfr : j.fr = maskF (some (looksI ops.toList j.i)) (frAfter ops.toList fr0 pre)) : FRel ρ j.fr a.tmps := by
  refine ⟨fun x v h => ?_⟩
  rw [hfr] at h
  obtain ⟨h1, h2⟩ := mask_get h
  have hun : ¬ Ls listed j.i := by
    have := (mem_ready.1 hr).1
    intro hl'
    unfold Ls at hl'
    have hlt : j.i < listed.size := by
      rcases Nat.lt_or_ge j.i listed.size with q | q
      · exact q
      · rw [Array.getD_eq_getD_getElem?, Array.getElem?_eq_none q] at hl'; cases hl'
    rw [Array.getD_eq_getD_getElem?, Array.getElem?_eq_getElem hlt] at this hl'
    simp at this hl'
    rw [this] at hl'; cases hl'
  refine hv pre (j :: post) hl x (.inr ⟨j, post, rfl, hun, h1⟩) (fun c hcp hd => ?_) v h2
  have hcm : c ∈ log := by rw [hl]; simp [hcp]
  have hjm : j ∈ log := by rw [hl]; simp
  obtain ⟨p1, p2, rfl⟩ := List.append_of_mem hcp
  have hord := log_ord hp hm (pre := p1) (b := c) (post := p2 ++ j :: post) (by rw [hl]; simp) j (by simp)
  rcases touch hp hm hjm hcm h1 hd with q | q | q
  · exact absurd q.symm hord.1
  · exact ready_bef hp hc hr q
  · rw [hord.2.1] at q; cases q

theorem Vars.exec {P : Program} (hp : Plan P ops B π) (hm : log.map (·.i) = π) {listed : Array Bool} (hc : Closed B listed) (hv : Vars ops fr0 log listed ρ a)
    {pre0 post0 : List Ent} {j : Ent} (hl : log = pre0 ++ j :: post0) (hr : j.i ∈ Region.ready .any ops listed) (hun : ¬ Ls listed j.i) (hsz : j.i < listed.size) {ρ' : Rho} (hle : ρ.le ρ') {v' : Value} (hvr : VR ρ' j.v v')
    (hd : ∀ d, dstI ops.toList j.i = some d → d < a.tmps.size) : Vars ops fr0 log (listed.setIfInBounds j.i true) ρ' (a.put (dstI ops.toList j.i) v') := by
  intro pre post hpp x hcond hpre v hget
  have hjm : j ∈ log := by rw [hl]; simp
  by_cases hdx : dstI ops.toList j.i = some x
  · -- j writes x: it is the last that did
    have hin : ∃ mid, pre = pre0 ++ j :: mid := by
      have happ := hpp.symm.trans hl
      rcases List.append_eq_append_iff.1 happ with ⟨p1, q1, q2⟩ | ⟨p1, q1, q2⟩
      · -- pre0 = pre ++ p1
        exfalso
        have hpost : post = p1 ++ j :: post0 := q2
        rcases hcond with he | ⟨b, post', he, hb, hx⟩
        · rw [he] at hpost; cases p1 <;> simp at hpost
        · rw [he] at hpost
          cases p1 with
          | nil =>
            simp only [List.nil_append, List.cons.injEq] at hpost
            rw [hpost.1] at hb
            exact hb (Ls.set_self hsz)
          | cons c p1 =>
            simp only [List.cons_append, List.cons.injEq] at hpost
            obtain ⟨rfl, rfl⟩ := hpost
            have hbm : b ∈ log := by rw [hpp, he]; simp
            have hord := log_ord hp hm (pre := pre) (b := b) (post := p1 ++ j :: post0) (by rw [hpp, he]) j (by simp)
            rcases touch hp hm hbm hjm hx hdx with q | q | q
            · exact hord.1 q
            · rw [hord.2.1] at q; cases q
            · exact hb (ready_bef hp hc hr q).set
      · -- pre = pre0 ++ p1
        cases p1 with
        | nil =>
          exfalso
          simp only [List.nil_append] at q2
          rcases hcond with he | ⟨b, post', he, hb, hx⟩
          · rw [he] at q2; cases q2
          · rw [he] at q2
            simp only [List.cons.injEq] at q2
            rw [← q2.1] at hb
            exact hb (Ls.set_self hsz)
        | cons c p1 =>
          simp only [List.cons_append, List.cons.injEq] at q2
          obtain ⟨rfl, rfl⟩ := q2
          exact ⟨p1, q1⟩
    obtain ⟨mid, rfl⟩ := hin
    have hnow : ∀ b ∈ mid, dstI ops.toList b.i ≠ some x := by
      intro k hk hkd
      have hkm : k ∈ log := by rw [hpp]; simp [hk]
      have hord := log_ord hp hm (pre := pre0) (b := j) (post := mid ++ post) (by rw [hpp]; simp) k (by simp [hk])
      have hkl : Ls listed k.i := by
        rcases (hpre k (by simp [hk]) hkd).of_set with q | q
        · exact absurd q.symm hord.1
        · exact q
      rcases touch hp hm hjm hkm (dst_looks hdx) hkd with q | q | q
      · exact hord.1 q
      · rw [hord.2.1] at q; cases q
      · exact hun (hc _ _ hkl q)
    rw [frAfter_append] at hget
    simp only [frAfter] at hget
    rw [frAfter_get _ _ _ hnow, hdx] at hget
    simp only [putD] at hget
    rw [T.get_set, if_pos rfl] at hget
    cases hget
    refine ⟨v', ?_, hvr⟩
    rw [hdx]
    simp only [Act.put]
    rw [Array.getElem?_setIfInBounds_self_of_lt (hd x hdx)]
  · have hpre' : ∀ c ∈ pre, dstI ops.toList c.i = some x → Ls listed c.i := by
      intro c hcp hcd
      rcases (hpre c hcp hcd).of_set with q | q
      · rw [q] at hcd; exact absurd hcd hdx
      · exact q
    have hcond' : post = [] ∨ ∃ b post', post = b :: post' ∧ ¬ Ls listed b.i ∧ x ∈ looksI ops.toList b.i := by
      rcases hcond with he | ⟨b, post', he, hb, hx⟩
      · exact .inl he
      · exact .inr ⟨b, post', he, fun h => hb h.set, hx⟩
    obtain ⟨u, k1, k2⟩ := hv pre post hpp x hcond' hpre' v hget
    refine ⟨u, ?_, k2.mono hle⟩
    cases hdd : dstI ops.toList j.i with
    | none => exact k1
    | some d =>
      simp only [Act.put]
      rw [Array.getElem?_setIfInBounds_ne (by intro e; subst e; exact hdx hdd)]
      exact k1

/-- the number of entries that are still to come -/
def cnt (log : List Ent) (listed : Array Bool) : Nat := (log.filter fun b => !(listed.getD b.i false)).length
theorem filter_le {α : Type} {p q : α → Bool} (h : ∀ x, p x = true → q x = true) : ∀ (l : List α), (l.filter p).length ≤ (l.filter q).length
  | [] => Nat.le_refl _
  | x :: l => by
    have ih := filter_le h l
    cases hp : p x with
    | true => simp [hp, h x hp]; exact ih
    | false =>
      cases hq : q x with
      | true => simp [hp, hq]; omega
      | false => simp [hp, hq]; exact ih
theorem filter_lt {α : Type} {p q : α → Bool} (h : ∀ x, p x = true → q x = true) {y : α} (h1 : q y = true) (h2 : p y = false) : ∀ (l : List α), y ∈ l → (l.filter p).length < (l.filter q).length
  | x :: l, hy => by
    have ih := filter_le h l
    cases hy with
    | head => simp [h1, h2]; omega
    | tail _ hy =>
      have := filter_lt h h1 h2 l hy
      cases hp : p x with
      | true => simp [hp, h x hp]; exact this
      | false =>
        cases hq : q x with
        | true => simp [hp, hq]; omega
        | false => simp [hp, hq]; exact this
theorem cnt_lt {listed : Array Bool} {j : Ent} (hj : j ∈ log) (hun : ¬ Ls listed j.i) (hsz : j.i < listed.size) : cnt log (listed.setIfInBounds j.i true) < cnt log listed := by
  refine filter_lt (fun b hb => ?_) (y := j) ?_ ?_ log hj
  · simp only [Bool.not_eq_true'] at hb ⊢
    cases hq : listed.getD b.i false with
    | false => rfl
    | true => rw [getD_set_true hq] at hb; cases hb
  · simp only [Bool.not_eq_true']
    cases hq : listed.getD j.i false with
    | false => rfl
    | true => exact absurd hq hun
  · have := Ls.set_self hsz
    unfold Ls at this
    rw [this]; rfl
theorem cnt_zero {listed : Array Bool} (h : cnt log listed = 0) : ∀ b ∈ log, Ls listed b.i := by
  intro b hb
  have := List.filter_eq_nil_iff.1 (List.length_eq_zero_iff.1 h) b hb
  simpa [Ls] using this

theorem first_un {listed : Array Bool} : ∀ (l : List Ent), (∃ b ∈ l, ¬ Ls listed b.i) → ∃ pre b post, l = pre ++ b :: post ∧ ¬ Ls listed b.i ∧ ∀ c ∈ pre, Ls listed c.i
  | [], ⟨b, h, _⟩ => by cases h
  | x :: l, ⟨b, h, hb⟩ => by
    by_cases hx : Ls listed x.i
    · have : ∃ b ∈ l, ¬ Ls listed b.i := by
        cases h with
        | head => exact absurd hx hb
        | tail _ h => exact ⟨b, h, hb⟩
      obtain ⟨pre, c, post, rfl, h1, h2⟩ := first_un l this
      exact ⟨x :: pre, c, post, rfl, h1, fun d hd => by cases hd with | head => exact hx | tail _ hd => exact h2 d hd⟩
    · exact ⟨[], x, l, rfl, hx, fun d hd => by cases hd⟩

/-- as long as something is to come, something is ready -/
theorem ready_nil {P : Program} (hp : Plan P ops B π) (hm : log.map (·.i) = π) {listed : Array Bool} (hls : listed.size = ops.size) (h : Region.ready .any ops listed = []) : ∀ b ∈ log, Ls listed b.i := by
  intro b hb
  by_cases hl : Ls listed b.i
  · exact hl
  · exfalso
    obtain ⟨pre, c, post, hlog, h1, h2⟩ := first_un log ⟨b, hb, hl⟩
    have hcm : c ∈ log := by rw [hlog]; simp
    obtain ⟨o, ho⟩ := log_at hp hm hcm
    have hlt : c.i < ops.size := (Array.getElem?_eq_some_iff.1 ho).1
    have : c.i ∈ Region.ready .any ops listed := by
      rw [mem_ready]
      refine ⟨?_, o, ho, fun e he hb => ?_⟩
      · unfold Ls at h1
        rw [Array.getD_eq_getD_getElem?, Array.getElem?_eq_getElem (by omega)] at h1 ⊢
        simpa using h1
      · have hbit : befQ B c.i e.on = true := by
          unfold befQ
          rw [hp.bits _ o ho]
          exact bit_edgeBits (by simpa using he) hb
        have hon := hp.edge _ o e ho he hb
        have hin := hp.all e.on (by omega)
        rw [← hm] at hin
        obtain ⟨d, hd, hdi⟩ := List.mem_map.1 hin
        rw [hlog] at hd
        simp only [List.mem_append, List.mem_cons] at hd
        rcases hd with hd | rfl | hd
        · rw [← hdi]; exact h2 d hd
        · omega
        · have := (log_ord hp hm hlog d hd).2.1
          rw [hdi, hbit] at this; cases this
    rw [h] at this; cases this
end Go.Am
