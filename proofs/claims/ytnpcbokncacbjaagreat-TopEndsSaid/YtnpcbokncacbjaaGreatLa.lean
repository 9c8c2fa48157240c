/- A part of the run of live. -/
import Derived.Test.YtnpcbokncacbjaaGreatS
set_option linter.all false
set_option maxRecDepth 1000000
namespace Go.Abs
noncomputable section
theorem c0 : T.frunK (T.fast prog T.noMemo) 6139 [0, 3, 4, 5, 6, 7, 8, 9, 10, 11, 12, 13, 15, 16, 17, 58, 59, 60, 62, 63, 64, 65, 66, 67, 68, 69, 70, 71] m0 = some s0 := by kernel_rfl
end
end Go.Abs

