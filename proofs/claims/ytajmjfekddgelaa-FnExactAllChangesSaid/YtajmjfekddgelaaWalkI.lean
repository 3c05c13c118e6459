/- The walks of the laws' helpers over slices of ints. -/
import Derived.Test.YtajmjfekddgelaaWalkS
namespace Go.Proofs.Ytajmjfekddgelaa
open Go.RowKit
set_option linter.unusedVariables false

theorem info_int : (Try.prog.info? 3).map (fun i => (i.zero, i.size, i.bytes)) = some (some (.int .i64 0), 1, 8) := by kernel_rfl
end Go.Proofs.Ytajmjfekddgelaa
