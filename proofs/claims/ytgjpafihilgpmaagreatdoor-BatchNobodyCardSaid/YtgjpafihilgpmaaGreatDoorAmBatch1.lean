/-
  A part of the proof that the run of an abstract machine, which the kernel can run, is what the program does under its model: no condition of its own.
-/
import Derived.Test.YtgjpafihilgpmaaGreatDoorAmRun3
import Derived.Test.YtgjpafihilgpmaaGreatDoorAmLaw
import Derived.Test.YtgjpafihilgpmaaGreatDoorRows
import Derived.Test.YtgjpafihilgpmaaGreatDoorTie
import Derived.Test.YtgjpafihilgpmaaGreatDoorCards
import Derived.ProofKit
import Derived.LaidMore
import Derived.OpenShut
import Derived.Stop.Joined
import Derived.Below
import Derived.ChangeSame
import Derived.Carry
import Derived.SevenTiedAt
set_option linter.unusedVariables false
set_option linter.unusedSimpArgs false
namespace Go.Proofs.YtgjpafihilgpmaaGreatDoor
open Go Go.ChangeShapes Go.WideShapes Go.ChangeAt Go.RowKit Go.Shelf
open Go.ChangeMaps (open_string shut_string)
section
variable {H : Type} {enc : TypeId × Value → H} {P : Program}
/-- a row's last step, behind a call that has changed nothing of what was there -/
theorem post_of_below {f : Func} {s : ChangeSpec} {apart fresh handsOn again : Bool} {W W' : World} {args : Array Value} {v : Value} {ds gs : List (DataW H)} {before pa pv : List MemPlace}
    (hW : DataW.Whole enc P f.params.toList s.vars apart W args.toList ds gs before)
    (hres : ∀ (b : Nat) (sp : Nat → Bool) (hd : Bool), DataW.TrodAll enc P W' b sp hd f.resultTypes.toList (v.resultList f.resultTypes.size) (s.fn H (ds ++ gs)).results [])
    (hargs : ∀ sp : Nat → Bool, (∀ p ∈ before, sp p.block = true) → DataW.TrodAll enc P W' 0 sp true f.params.toList args.toList (s.fn H (ds ++ gs)).args pa)
    (hvars : ∀ sp : Nat → Bool, (∀ p ∈ before, sp p.block = true) → DataW.TrodVars enc P W' sp s.vars (s.fn H (ds ++ gs)).vars pv)
    (hps : before = pa ++ pv) (hb : Below W.heap.size W W')
    (hok : ∀ (j : Nat) (t : TypeId) (r : Value), f.resultTypes[j]? = some t → (v.resultList f.resultTypes.size)[j]? = some r → Value.okWide P W' .any 0 t r) :
    s.post enc P f apart fresh handsOn again W args v W' := by
  have hlt : ∀ p ∈ before, p.block < W.heap.size := fun p hp => hW.lt p hp
  have hold : ∀ p ∈ before, (fun b => decide (b < W.heap.size)) p.block = true := fun p hp => by simpa using hlt p hp
  refine ⟨ds, gs, before, [], pa, pv, hW, hres _ _ _, hargs _ hold, hvars _ hold, World.keptBut_mono (fun p hp => ⟨hp, ?_⟩) (hb.frame (· ∈ before)), fun _ => ?_⟩
  · rw [hps, List.mem_append] at hp
    exact Or.inr hp
  · obtain ⟨_, _, _, _, _, hz, hn⟩ := hW
    refine ⟨hok, _, _, ([] ++ pa) ++ pv, ⟨[] ++ pa, pv, trodAll_append (hargs _ (fun _ _ => rfl)) (hres _ _ _), hvars _ (fun _ _ => rfl), rfl, ?_, ?_⟩, ?_⟩
    · intro b off hp
      have hin : MemPlace.cell b off ∈ before := by rw [hps]; simpa using hp
      rw [hb.frozen (hlt _ hin)]
      exact hz b off hin
    · intro ha
      have := hn ha
      rw [hps] at this
      simpa using this
    · intro p hp _
      rw [hps]
      simpa using hp
end

theorem own : ownKnob Tryz.prog.godebug = none := by kernel_rfl
theorem gTab : Tryz.prog.globalNamed "math/bits.deBruijn64tab" = some 3 := by kernel_rfl
theorem tTab : (Tryz.prog.globals[3]?).map (·.type) = some 486 := by kernel_rfl
theorem cTab : Tryz.prog.cellsOf 486 = 64 := by kernel_rfl
theorem c5 : Tryz.prog.cellsOf 5 = 1 := by kernel_rfl
theorem enters3 : Enters Tryz.prog 3 := enters_of Tryz.func3 (by kernel_rfl) rfl

/-- the table at the start -/
theorem tab_of_laid {W : World} (h : laidMetH Tryz.prog [("math/bits.deBruijn64tab", Rows.laid_math_bits_deBruijn64tab)] W) :
    ∃ t fr, W.heap[3]? = some (.cells (Am.Seat.nums.map (fun n => Value.int .u8 n)).toArray t fr) := by
  rw [MakeChecks.laidMetH_plain _ _ _ (by kernel_rfl)] at h
  have h2 : Lib.TabIs Tryz.prog W "math/bits.deBruijn64tab" .u8 Am.Seat.nums := Lib.tabIs_of_head (t := 486) (e := 5) (n := 64) gTab tTab Tryz.underlying486 Tryz.underlying5 c5 cTab (rest := []) h
  unfold Lib.TabIs World.var? at h2
  rw [gTab] at h2
  simp only [Option.bind_some] at h2
  split at h2
  · rename_i cs t fr hc
    exact ⟨t, fr, by rw [hc]; cases h2; rfl⟩
  · cases h2

theorem numsOK : (Am.Seat.nums.map (fun n => Value.int .u8 n)).all Am.constOK = true := by kernel_rfl
set_option maxRecDepth 100000 in
/-- memory at the start, in the machine -/
theorem start {W : World} {t : TypeId} {fr : Nat × Nat} (hc : W.heap[3]? = some (.cells (Am.Seat.nums.map (fun n => Value.int .u8 n)).toArray t fr)) : Am.Rel Tryz.prog (Am.rho0 (Am.Seat.tab t)) (Am.st0 (Am.Seat.tab t)) W.heap := by
  have hcs : ∀ x ∈ Am.Seat.tab t, x = ⟨3, t, Am.Seat.nums.map (fun n => Value.int .u8 n)⟩ := fun x hx => List.mem_singleton.1 hx
  have h1 : ∀ x ∈ Am.Seat.tab t, x.g < 64 := fun x hx => by rw [hcs x hx]; exact (show 3 < 64 by decide)
  have h2 : ∀ x ∈ Am.Seat.tab t, x.cs.all Am.constOK = true := fun x hx => by rw [hcs x hx]; exact numsOK
  have h3 : ∀ x ∈ Am.Seat.tab t, ∃ fr, W.heap[x.g]? = some (.cells x.cs.toArray x.t fr) := fun x hx => by rw [hcs x hx]; exact ⟨fr, hc⟩
  exact Am.start_rel h1 h2 h3
set_option maxRecDepth 100000 in
/-- the law answers true, and leaves all that was there as it was -/
theorem walk (key val : ByteArray) (W : World) (hL : laidMetH Tryz.prog [("math/bits.deBruijn64tab", Rows.laid_math_bits_deBruijn64tab)] W) :
    Calls Tryz.prog 3 [.string key, .string val].toArray W fun e W' => e = .returned (.bool true) ∧ Below W.heap.size W W' := by
  obtain ⟨t, fr, hc⟩ := tab_of_laid hL
  have hrun := Am.runQ (E := Am.Seat.E) (fun _ _ => rfl) (Am.Seat.run3 key val t)
  have hargs : Am.VL (Am.rho0 (Am.Seat.tab t)) [.string key, .string val] [.string key, .string val] := .cons (.string _) (.cons (.string _) (.nil _))
  exact @Am.run_law Am.Seat.E Am.Seat.mixed Am.Seat.primsOK 100000 3 [.string key, .string val] [.string key, .string val] (Am.st0 (Am.Seat.tab t)) (Am.rho0 (Am.Seat.tab t)) W (start hc) Am.start_wr hargs hrun (enters3 _ W)

end Go.Proofs.YtgjpafihilgpmaaGreatDoor
