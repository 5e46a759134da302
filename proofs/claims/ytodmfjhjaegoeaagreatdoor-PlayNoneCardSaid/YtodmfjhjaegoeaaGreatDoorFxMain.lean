/- PlayNone at any operation: true. -/
import Derived.Test.YtodmfjhjaegoeaaGreatDoorFxLives
import Derived.Test.YtodmfjhjaegoeaaGreatDoorAmTop
set_option maxRecDepth 100000
set_option linter.unusedVariables false
namespace Go.Proofs.Fx
open Go Go.Am

noncomputable def told3 : Am.Told := told1 21 (ranX [] (.bool true)) told2
theorem told3_ok : ToldOk Tryz.prog told3 := told1_ok (ranX_sat lives_call rfl rfl) told2_ok
/-- An operation, whatever its data and rows. -/
def opA (k n m u : Int) (s : ByteArray) : Value := .agg #[.int .i64 k, .string s, .chan (some 0), .int .i64 n, .chan (some 0), .int .i64 m, .int .u8 u]
theorem main_run (k n m u : Int) (s : ByteArray) : cond ((cy Tryz.prog tab told3 1000).c 4 [opA k n m u s] (fun v _ => veq v (.bool true)) ⟨.nil, 0⟩) true false = true := by kernel_rfl
theorem main_call (k n m u : Int) (s : ByteArray) : ACall Tryz.prog 4 [opA k n m u s] [] (fun v _ => v = .bool true) := ran tab_ok told3_ok 1000 (main_run k n m u s)
end Go.Proofs.Fx
