/- The laws' own runs. -/
import Derived.Test.YtodmfjhjaegoeaaGreatDoorFxCrc
set_option maxRecDepth 100000
set_option linter.unusedVariables false
namespace Go.Proofs.Fx
open Go Go.Am

theorem lives_run : cond ((cy Tryz.prog tab told2 1000).c 21 [] (fun v _ => veq v (.bool true)) ⟨.nil, 0⟩) true false = true := by kernel_rfl
theorem lives_call : ACall Tryz.prog 21 [] [] (fun v _ => v = .bool true) := ran tab_ok told2_ok 1000 lives_run
end Go.Proofs.Fx
