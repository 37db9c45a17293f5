/-
  A part of the proof that the run of an abstract machine, which the kernel can run, is what the program does under its model: no condition of its own.
-/
import Derived.Test.YtgjpafihilgpmaaGreatDoorAmQ5
import Derived.Test.YtgjpafihilgpmaaGreatDoorAmKeys2
import Derived.Test.YtgjpafihilgpmaaGreatDoorChecked
import Derived.KernelRfl
set_option linter.unusedVariables false
set_option linter.unusedSimpArgs false
set_option maxHeartbeats 1000000
set_option maxRecDepth 100000
noncomputable section
namespace Go.Am.Seat
open Go Go.Am Go.Proofs Go.Shelf

/-! ## the machine of this seat's program -/
def ρ0 : Ren := { f := fun n => if n = 10 then 304 else if n = 11 then 345 else n, t := fun n => if n = 23 then 303 else if n = 24 then 277 else if n = 26 then 156 else if n = 28 then 362 else if n = 33 then 292 else n, g := fun x => x }
theorem lays10 : SlLaysZU.n10 Tryz.prog ρ0 where
  mixed := by kernel_rfl
  f10 := ⟨ "maps.Keys[map[uint32]int,uint32,int]$1", by decide, by kernel_rfl⟩
  t0 := by kernel_rfl
  a0 := fun w => run_isAggN (t := 0) (by kernel_rfl) w
  z0 := fun w => run_sizeOfN (t := 0) (by kernel_rfl) w
  v0 := fun w => by kernel_rfl
  t4 := by kernel_rfl
  a4 := fun w => run_isAggN (t := 4) (by kernel_rfl) w
  z4 := fun w => run_sizeOfN (t := 4) (by kernel_rfl) w
  v4 := fun w => (run_zeroV (t := 4) (by kernel_rfl) w).1
  t23 := by kernel_rfl
  a23 := fun w => run_isAggN (t := 303) (by kernel_rfl) w
  z23 := fun w => run_sizeOfN (t := 303) (by kernel_rfl) w
  v23 := fun w => (run_zeroV (t := 303) (by kernel_rfl) w).1
  t26 := by kernel_rfl
  a26 := fun w => run_isAggN (t := 156) (by kernel_rfl) w
  z26 := fun w => run_sizeOfN (t := 156) (by kernel_rfl) w
  v26 := fun w => (run_zeroV (t := 156) (by kernel_rfl) w).1
  t33 := by kernel_rfl
  a33 := fun w => run_isAggN (t := 292) (by kernel_rfl) w
  z33 := fun w => run_sizeOfN (t := 292) (by kernel_rfl) w
  v33 := fun w => (run_zeroV (t := 292) (by kernel_rfl) w).1
theorem lays11 : SlLaysZU.n11 Tryz.prog ρ0 where
  mixed := by kernel_rfl
  f11 := ⟨ "slices.AppendSeq[[]uint32,uint32]", by decide, by kernel_rfl⟩
  t0 := by kernel_rfl
  a0 := fun w => run_isAggN (t := 0) (by kernel_rfl) w
  z0 := fun w => run_sizeOfN (t := 0) (by kernel_rfl) w
  v0 := fun w => by kernel_rfl
  t24 := by kernel_rfl
  a24 := fun w => run_isAggN (t := 277) (by kernel_rfl) w
  z24 := fun w => run_sizeOfN (t := 277) (by kernel_rfl) w
  v24 := fun w => (run_zeroV (t := 277) (by kernel_rfl) w).1
  t26 := by kernel_rfl
  a26 := fun w => run_isAggN (t := 156) (by kernel_rfl) w
  z26 := fun w => run_sizeOfN (t := 156) (by kernel_rfl) w
  v26 := fun w => (run_zeroV (t := 156) (by kernel_rfl) w).1
  t28 := by kernel_rfl
  a28 := fun w => run_isAggN (t := 362) (by kernel_rfl) w
  z28 := fun w => run_sizeOfN (t := 362) (by kernel_rfl) w
  v28 := fun w => (run_zeroV (t := 362) (by kernel_rfl) w).1
  i26 := by kernel_rfl

def prim (f : FuncId) : Option (List Value → St → Option (Value × St)) :=
  bif Nat.beq f 246 then some pCmp else bif Nat.beq f 345 then some (pKeys 304 156) else bif Nat.beq f 180 then some (pOver 3) else bif Nat.beq f 298 then some (pOver 2) else
  bif Nat.beq f 403 then some (pOver 1) else bif Nat.beq f 409 then some (pOver 1) else bif Nat.beq f 218 then some pSame else bif Nat.beq f 219 then some (pMake 5) else none
def E : Env := { P := Tryz.prog, prim := prim, keep := fun _ _ => none }
theorem mixed : E.P.follows .mixedOrders = true := by kernel_rfl
theorem n246 : Extern.findNext Tryz.f246 = none := by kernel_rfl
theorem m246 : (Tryz.f246.name == "runtime.NumGoroutine") = false := by kernel_rfl
theorem b246 : Tryz.f246.body.isNone = true := by kernel_rfl
theorem e246 : Extern.find Tryz.f246 = some Extern.BytealgCompare.compare := by kernel_rfl
theorem ok246 : PrimOK Tryz.prog 246 pCmp := @pCmp_ok Tryz.prog 246 Tryz.f246 Tryz.func246 m246 b246 n246 e246
theorem s156 : sizeN Tryz.prog 156 = some 1 := by kernel_rfl
theorem ok345 : PrimOK Tryz.prog 345 (pKeys 304 156) := pKeys_ok lays10 lays11 s156
theorem n180 : Extern.findNext Tryz.f180 = none := by kernel_rfl
theorem m180 : (Tryz.f180.name == "runtime.NumGoroutine") = false := by kernel_rfl
theorem b180 : Tryz.f180.body.isNone = true := by kernel_rfl
theorem e180 : Extern.find Tryz.f180 = some (Extern.SlicesOverlaps.overlaps #[28, 28] #[4]) := by kernel_rfl
theorem t180 : Tryz.prog.underlying 28 = some (.slice 79) := by kernel_rfl
theorem s180 : sizeN Tryz.prog 79 = some 3 := by kernel_rfl
theorem ok180 : PrimOK Tryz.prog 180 (pOver 3) := @pOver_ok Tryz.prog 180 Tryz.f180 28 4 79 3 Tryz.func180 m180 b180 n180 e180 t180 s180
theorem n298 : Extern.findNext Tryz.f298 = none := by kernel_rfl
theorem m298 : (Tryz.f298.name == "runtime.NumGoroutine") = false := by kernel_rfl
theorem b298 : Tryz.f298.body.isNone = true := by kernel_rfl
theorem e298 : Extern.find Tryz.f298 = some (Extern.SlicesOverlaps.overlaps #[34, 34] #[4]) := by kernel_rfl
theorem t298 : Tryz.prog.underlying 34 = some (.slice 108) := by kernel_rfl
theorem s298 : sizeN Tryz.prog 108 = some 2 := by kernel_rfl
theorem ok298 : PrimOK Tryz.prog 298 (pOver 2) := @pOver_ok Tryz.prog 298 Tryz.f298 34 4 108 2 Tryz.func298 m298 b298 n298 e298 t298 s298
theorem n403 : Extern.findNext Tryz.f403 = none := by kernel_rfl
theorem m403 : (Tryz.f403.name == "runtime.NumGoroutine") = false := by kernel_rfl
theorem b403 : Tryz.f403.body.isNone = true := by kernel_rfl
theorem e403 : Extern.find Tryz.f403 = some (Extern.SlicesOverlaps.overlaps #[277, 277] #[4]) := by kernel_rfl
theorem t403 : Tryz.prog.underlying 277 = some (.slice 156) := by kernel_rfl
theorem s403 : sizeN Tryz.prog 156 = some 1 := by kernel_rfl
theorem ok403 : PrimOK Tryz.prog 403 (pOver 1) := @pOver_ok Tryz.prog 403 Tryz.f403 277 4 156 1 Tryz.func403 m403 b403 n403 e403 t403 s403
theorem n409 : Extern.findNext Tryz.f409 = none := by kernel_rfl
theorem m409 : (Tryz.f409.name == "runtime.NumGoroutine") = false := by kernel_rfl
theorem b409 : Tryz.f409.body.isNone = true := by kernel_rfl
theorem e409 : Extern.find Tryz.f409 = some (Extern.SlicesOverlaps.overlaps #[58, 58] #[4]) := by kernel_rfl
theorem t409 : Tryz.prog.underlying 58 = some (.slice 9) := by kernel_rfl
theorem s409 : sizeN Tryz.prog 9 = some 1 := by kernel_rfl
theorem ok409 : PrimOK Tryz.prog 409 (pOver 1) := @pOver_ok Tryz.prog 409 Tryz.f409 58 4 9 1 Tryz.func409 m409 b409 n409 e409 t409 s409
theorem n218 : Extern.findNext Tryz.f218 = none := by kernel_rfl
theorem m218 : (Tryz.f218.name == "runtime.NumGoroutine") = false := by kernel_rfl
theorem b218 : Tryz.f218.body.isNone = true := by kernel_rfl
theorem e218 : Extern.find Tryz.f218 = some Extern.AbiNoEscape.same := by kernel_rfl
theorem ok218 : PrimOK Tryz.prog 218 pSame := @pSame_ok Tryz.prog 218 Tryz.f218 Tryz.func218 m218 b218 n218 e218
theorem n219 : Extern.findNext Tryz.f219 = none := by kernel_rfl
theorem m219 : (Tryz.f219.name == "runtime.NumGoroutine") = false := by kernel_rfl
theorem b219 : Tryz.f219.body.isNone = true := by kernel_rfl
theorem e219 : Extern.find Tryz.f219 = some (Extern.BytealgMakeNoZero.makeNoZero #[3] #[47]) := by kernel_rfl
theorem t219 : Tryz.prog.underlying 47 = some (.slice 5) := by kernel_rfl
theorem s219 : sizeN Tryz.prog 5 = some 1 := by kernel_rfl
theorem ok219 : PrimOK Tryz.prog 219 (pMake 5) := @pMake_ok Tryz.prog 219 Tryz.f219 47 5 #[3] Tryz.func219 m219 b219 n219 e219 t219 s219
theorem primsOK : PrimsOK E := by
  intro f p h
  have h' : prim f = some p := h
  unfold prim at h'
  simp only [bif_beq] at h'
  by_cases e246 : f = 246
  · rw [if_pos e246] at h'
    rw [← Option.some.inj h', e246]
    exact ok246
  rw [if_neg e246] at h'
  by_cases e345 : f = 345
  · rw [if_pos e345] at h'
    rw [← Option.some.inj h', e345]
    exact ok345
  rw [if_neg e345] at h'
  by_cases e180 : f = 180
  · rw [if_pos e180] at h'
    rw [← Option.some.inj h', e180]
    exact ok180
  rw [if_neg e180] at h'
  by_cases e298 : f = 298
  · rw [if_pos e298] at h'
    rw [← Option.some.inj h', e298]
    exact ok298
  rw [if_neg e298] at h'
  by_cases e403 : f = 403
  · rw [if_pos e403] at h'
    rw [← Option.some.inj h', e403]
    exact ok403
  rw [if_neg e403] at h'
  by_cases e409 : f = 409
  · rw [if_pos e409] at h'
    rw [← Option.some.inj h', e409]
    exact ok409
  rw [if_neg e409] at h'
  by_cases e218 : f = 218
  · rw [if_pos e218] at h'
    rw [← Option.some.inj h', e218]
    exact ok218
  rw [if_neg e218] at h'
  by_cases e219 : f = 219
  · rw [if_pos e219] at h'
    rw [← Option.some.inj h', e219]
    exact ok219
  rw [if_neg e219] at h'
  cases h'
end Go.Am.Seat
