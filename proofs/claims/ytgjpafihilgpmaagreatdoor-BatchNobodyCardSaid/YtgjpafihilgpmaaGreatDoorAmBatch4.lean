/-
  The closed facts of the row of BatchNobody together.
-/
import Derived.Test.YtgjpafihilgpmaaGreatDoorAmBatch2
import Derived.ProofKit
import Derived.LaidMore
import Derived.OpenShut
import Derived.Stop.Joined
import Derived.SevenTiedAt
import Derived.KernelRfl
set_option linter.unusedVariables false
namespace Go.Proofs.YtgjpafihilgpmaaGreatDoor
open Go
theorem band {a b : Bool} (ha : a = true) (hb : b = true) : (a && b) = true := by rw [ha, hb]; rfl
set_option maxRecDepth 100000 in
theorem closed : joinedFacts Tryz.prog 3 Tryz.f3 Rows.batchNobodySpec Rows.batchNobodyRow = true := by
  unfold joinedFacts
  refine band ?_ limb31
  refine band ?_ limb30
  refine band ?_ limb29
  refine band ?_ limb28
  refine band ?_ limb27
  refine band ?_ limb26
  refine band ?_ limb25
  refine band ?_ limb24
  refine band ?_ limb23
  refine band ?_ limb22
  refine band ?_ limb21
  refine band ?_ limb20
  refine band ?_ limb19
  refine band ?_ limb18
  refine band ?_ limb17
  refine band ?_ limb16
  refine band ?_ limb15
  refine band ?_ limb14
  refine band ?_ limb13
  refine band ?_ limb12
  refine band ?_ limb11
  refine band ?_ limb10
  refine band ?_ limb9
  refine band ?_ limb8
  refine band ?_ limb7
  refine band ?_ limb6
  refine band ?_ limb5
  refine band ?_ limb4
  refine band ?_ limb3
  refine band ?_ limb2
  refine band ?_ limb1
  exact limb0
end Go.Proofs.YtgjpafihilgpmaaGreatDoor
