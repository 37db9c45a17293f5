/-
  DERIVED. GIVEN WITH THE SEED: THE CARDS: each row of YtgjpafihilgpmaaGreatDoorRows.lean that lists a variable, with what it lists TIED to the program's text (the seventh form; the later family's looks); each row that meets fmt, with fmt's text TOLD by the authors' own Lean function (tested against real Go, not proved from fmt's source: count such statements apart). THE CARD IS WHAT COUNTS. Prove the row's statement (the work); the ties are given (YtgjpafihilgpmaaGreatDoorTie.lean); close each card by the builder's one call (the guide's Derived/Test/ToyasCard.lean, 'card_holds'). Laid BY PROGRAM, IN A SANDBOX (cutbox-door.mjs). By AI agents, Wed Nov 11 2026. No macro, syntax, notation, axiom, sorry.
-/
import Derived.Test.YtgjpafihilgpmaaGreatDoorRows
import GoSem.ClaimSeven
namespace Go.Proofs.YtgjpafihilgpmaaGreatDoor
namespace Rows

/-- THE TIED CARD OF 'sluicegatelaw39.BatchNobody'. -/
def batchNobodyCard : Claim7 := { stood := { row := batchNobodyRow, standIns := [], harness := (true, "ccc47b19b93293bbd61528d5983e62cbaf49dc1c6a2bf56667ce7e0726c85319"), looks := true }, kinds := [], alts := [], laidByText := true, laidKinds := [.data], laidTests := true, laidLooks := .later }
def BatchNobodyCardSaid : Prop := Claim7.holds Tryz.pinned (.plain (OpenSpec.ofChange batchNobodySpec)) batchNobodyCard

/-- THE TIED CARD OF 'sluicegatelaw40.IndexNobody'. -/
def indexNobodyCard : Claim7 := { stood := { row := indexNobodyRow, standIns := [], harness := (true, "ccc47b19b93293bbd61528d5983e62cbaf49dc1c6a2bf56667ce7e0726c85319"), looks := true }, kinds := [], alts := [], laidByText := true, laidKinds := [.data, .data, .pinned], laidTests := true, laidLooks := .later }
def IndexNobodyCardSaid : Prop := Claim7.holds Tryz.pinned (.plain (OpenSpec.ofChange indexNobodySpec)) indexNobodyCard

/-- THE TIED CARD OF 'sluicegatelaw34.SqueezeNone'. -/
def squeezeNoneCard : Claim7 := { stood := { row := squeezeNoneRow, standIns := [], harness := (true, "ccc47b19b93293bbd61528d5983e62cbaf49dc1c6a2bf56667ce7e0726c85319"), looks := true }, kinds := [], alts := [], laidByText := true, laidKinds := [.data], laidTests := true, laidLooks := .later }
def SqueezeNoneCardSaid : Prop := Claim7.holds Tryz.pinned (.plain (OpenSpec.ofChange squeezeNoneSpec)) squeezeNoneCard

/-- THE SECOND FORM's CARD OF 'sluicegatelaw39.BatchNobody'. -/
def batchNobodyUptoCard : Claim7 := { stood := { row := batchNobodyUptoRow, standIns := [], harness := (true, "ccc47b19b93293bbd61528d5983e62cbaf49dc1c6a2bf56667ce7e0726c85319"), looks := true }, kinds := [], alts := [], laidByText := true, laidKinds := [.data], laidTests := true, laidLooks := .later }
def BatchNobodyUptoCardSaid : Prop := Claim7.holds Tryz.pinned (.plain (OpenSpec.upto batchNobodySpec)) batchNobodyUptoCard

/-- THE SECOND FORM's CARD OF 'sluicegatelaw40.IndexNobody'. -/
def indexNobodyUptoCard : Claim7 := { stood := { row := indexNobodyUptoRow, standIns := [], harness := (true, "ccc47b19b93293bbd61528d5983e62cbaf49dc1c6a2bf56667ce7e0726c85319"), looks := true }, kinds := [], alts := [], laidByText := true, laidKinds := [.data, .data, .pinned], laidTests := true, laidLooks := .later }
def IndexNobodyUptoCardSaid : Prop := Claim7.holds Tryz.pinned (.plain (OpenSpec.upto indexNobodySpec)) indexNobodyUptoCard

/-- THE SECOND FORM's CARD OF 'sluicegatelaw34.SqueezeNone'. -/
def squeezeNoneUptoCard : Claim7 := { stood := { row := squeezeNoneUptoRow, standIns := [], harness := (true, "ccc47b19b93293bbd61528d5983e62cbaf49dc1c6a2bf56667ce7e0726c85319"), looks := true }, kinds := [], alts := [], laidByText := true, laidKinds := [.data], laidTests := true, laidLooks := .later }
def SqueezeNoneUptoCardSaid : Prop := Claim7.holds Tryz.pinned (.plain (OpenSpec.upto squeezeNoneSpec)) squeezeNoneUptoCard
end Rows
end Go.Proofs.YtgjpafihilgpmaaGreatDoor
