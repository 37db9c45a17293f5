/-
  A part of the proof that the run of an abstract machine, which the kernel can run, is what the program does under its model: no condition of its own.
-/
import Derived.Test.YtgjpafihilgpmaaGreatDoorAmSeat
import Derived.Lib.LaidTab
set_option linter.unusedVariables false
noncomputable section
namespace Go.Am.Seat
open Go Go.Am Go.Proofs
def nums : List Int := [0, 1, 56, 2, 57, 49, 28, 3, 61, 58, 42, 50, 38, 29, 17, 4, 62, 47, 59, 36, 45, 43, 51, 22, 53, 39, 33, 30, 24, 18, 12, 5, 63, 55, 48, 27, 60, 41, 37, 16, 46, 35, 44, 21, 52, 32, 23, 11, 54, 26, 40, 15, 34, 20, 31, 10, 25, 14, 19, 9, 13, 8, 7, 6]
def tab (t : TypeId) : List Tab := [⟨3, t, nums.map (fun n => Value.int .u8 n)⟩]
set_option maxRecDepth 10000000 in
theorem run3 (key val : ByteArray) (t : TypeId) : callTX E (callX E 100000) 3 [.string key, .string val] (st0 (tab t)) doneT = some (.bool true, ⟨.lf, 0⟩) := by kernel_rfl
end Go.Am.Seat
