/- What the row of PlayNone asks of the program's text, fact by fact. -/
import Derived.Test.YtodmfjhjaegoeaaGreatDoorRows
import Derived.ProofKit
set_option linter.unusedVariables false
namespace Go.Proofs.YtodmfjhjaegoeaaGreatDoor
open Go
set_option maxRecDepth 100000
theorem playNone_j1 : (Rows.playNoneRow.inPlace == Tryz.prog.inPlace 4) = true := by kernel_rfl
theorem playNone_j2 : (Rows.playNoneRow.unfollowed == Tryz.prog.unfollowed 4) = true := by kernel_rfl
theorem playNone_j3 : (Rows.playNoneRow.recurses == Tryz.prog.recurses 4) = true := by kernel_rfl
theorem playNone_j4 : (Rows.playNoneRow.named == Tryz.prog.varsNamed 4) = true := by kernel_rfl
theorem playNone_joined : joinedFacts Tryz.prog 4 Tryz.f4 Rows.playNoneSpec Rows.playNoneRow = true := by
  unfold joinedFacts
  rw [playNone_j1, playNone_j2, playNone_j3, playNone_j4]
  kernel_rfl
end Go.Proofs.YtodmfjhjaegoeaaGreatDoor
