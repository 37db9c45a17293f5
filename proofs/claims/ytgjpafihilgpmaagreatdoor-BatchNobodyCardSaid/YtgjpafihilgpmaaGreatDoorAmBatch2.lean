/-
  The closed facts of the row of BatchNobody, each by itself: the kernel's memory does not hold them in one theorem.
-/
import Derived.Test.YtgjpafihilgpmaaGreatDoorRows
import Derived.ProofKit
import Derived.LaidMore
import Derived.OpenShut
import Derived.Stop.Joined
import Derived.SevenTiedAt
import Derived.KernelRfl
set_option linter.unusedVariables false
namespace Go.Proofs.YtgjpafihilgpmaaGreatDoor
open Go
theorem limb0 : (Rows.batchNobodyRow.wf (OpenSpec.ofChange Rows.batchNobodySpec)) = true := by kernel_rfl
theorem limb1 : (laidOutB Tryz.prog) = true := by kernel_rfl
theorem limb2 : (mapsRowed Tryz.prog) = true := by kernel_rfl
theorem limb3 : (Tryz.f3.params.all (Tryz.prog.readableRec ·)) = true := by kernel_rfl
theorem limb4 : (namedTie Tryz.prog Rows.batchNobodyRow.named Rows.batchNobodySpec.vars) = true := by kernel_rfl
theorem limb5 : (Rows.batchNobodyRow.stops == []) = true := by kernel_rfl
theorem limb6 : (Tryz.prog.stops == []) = true := by kernel_rfl
theorem limb7 : (Rows.batchNobodyRow.knobs == []) = true := by kernel_rfl
theorem limb8 : (Tryz.prog.stopKnobs == []) = true := by kernel_rfl
theorem limb9 : (Rows.batchNobodyRow.inPlace == Tryz.prog.inPlace 3) = true := by kernel_rfl
theorem limb10 : (Rows.batchNobodyRow.unfollowed == Tryz.prog.unfollowed 3) = true := by kernel_rfl
theorem limb11 : (Rows.batchNobodyRow.recurses == Tryz.prog.recurses 3) = true := by kernel_rfl
theorem limb12 : (Rows.batchNobodyRow.named == Tryz.prog.varsNamed 3) = true := by kernel_rfl
theorem limb13 : (Rows.batchNobodyRow.maps == (Tryz.f3.params.toList ++ Rows.batchNobodySpec.plain.varTypes Tryz.prog).any (Tryz.prog.mapsRec ·)) = true := by kernel_rfl
theorem limb14 : (Rows.batchNobodyRow.ifaces == (Tryz.f3.params.toList ++ Rows.batchNobodySpec.plain.varTypes Tryz.prog).any (Tryz.prog.ifacesRec ·)) = true := by kernel_rfl
theorem limb15 : (Rows.batchNobodyRow.mapsOut == Tryz.prog.mapsAmong Tryz.f3.resultTypes.toList) = true := by kernel_rfl
theorem limb16 : (Rows.batchNobodyRow.loops == (Tryz.f3.params.toList ++ Rows.batchNobodySpec.plain.varTypes Tryz.prog).any (Tryz.prog.loopsFrom ·)) = true := by kernel_rfl
theorem limb17 : (Rows.batchNobodyRow.wideKeys == (Tryz.f3.params.toList ++ Rows.batchNobodySpec.plain.varTypes Tryz.prog ++ Tryz.f3.resultTypes.toList).any (Tryz.prog.wideKeysFrom ·)) = true := by kernel_rfl
theorem limb18 : (Rows.batchNobodySpec.vars.all (Tryz.prog.varReadable ·)) = true := by kernel_rfl
theorem limb19 : (Tryz.f3.resultTypes.all (fun t => Tryz.prog.readableRec t && decide (t < Tryz.prog.types.size))) = true := by kernel_rfl
theorem limb20 : (Rows.batchNobodyRow.ifacesOut == Tryz.f3.resultTypes.toList.any (Tryz.prog.ifacesRec ·)) = true := by kernel_rfl
theorem limb21 : (Rows.batchNobodyRow.loopsOut == Tryz.f3.resultTypes.toList.any (Tryz.prog.loopsFrom ·)) = true := by kernel_rfl
theorem limb22 : (Rows.batchNobodyRow.plainKeys == Tryz.prog.plainKeys) = true := by kernel_rfl
theorem limb23 : (Rows.batchNobodyRow.shortTexts.isNone) = true := by kernel_rfl
theorem limb24 : (Tryz.prog.stopsHeard) = true := by kernel_rfl
theorem limb25 : (Tryz.prog.mayEnter) = true := by kernel_rfl
theorem limb26 : (Rows.batchNobodyRow.lifted == Tryz.prog.liftsFinal) = true := by kernel_rfl
theorem limb27 : (Tryz.prog.make == some Rows.batchNobodyRow.make) = true := by kernel_rfl
theorem limb28 : (Rows.batchNobodyRow.kinds == (if Rows.batchNobodyRow.domain.isEmpty then [] else Tryz.f3.params.toList.map fun t => match Tryz.prog.underlying t with | some (.int k) => some k | _ => none)) = true := by kernel_rfl
theorem limb29 : (Rows.batchNobodyRow.pinned == Rows.batchNobodyRow.pinnedBy) = true := by kernel_rfl
theorem limb30 : (Rows.batchNobodyRow.veiled == (Tryz.f3.params.toList ++ Rows.batchNobodySpec.plain.varTypes Tryz.prog ++ Tryz.f3.resultTypes.toList).any (Tryz.prog.veiledRec ·)) = true := by kernel_rfl
theorem limb31 : (Rows.batchNobodyRow.veiledFits Tryz.prog Tryz.f3.params.toList (Tryz.f3.params.toList ++ Rows.batchNobodySpec.plain.varTypes Tryz.prog ++ Tryz.f3.resultTypes.toList)) = true := by kernel_rfl
theorem wfT : Rows.batchNobodyRow.wfByText (OpenSpec.ofChange Rows.batchNobodySpec) = true := by kernel_rfl
theorem mainT : Tryz.prog.mainIs = some (true, "ccc47b19b93293bbd61528d5983e62cbaf49dc1c6a2bf56667ce7e0726c85319".toList) := by kernel_rfl
theorem looksT : true = Tryz.prog.looks [] := by kernel_rfl
theorem goesT : false = Rows.batchNobodyRow.goesBy Tryz.prog := by kernel_rfl
theorem namedT : Tryz.prog.funcNamed "sluicegate/sluicegatelaw39.BatchNobody" = some 3 := by kernel_rfl
theorem wants9 : Tryz.prog.wantsStandIn 9 = false := by kernel_rfl
end Go.Proofs.YtgjpafihilgpmaaGreatDoor
