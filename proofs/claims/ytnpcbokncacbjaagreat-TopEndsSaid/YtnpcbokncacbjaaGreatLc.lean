/- A part of the run of live. -/
import Derived.Test.YtnpcbokncacbjaaGreatS
set_option linter.all false
set_option maxRecDepth 1000000
namespace Go.Abs
noncomputable section
theorem c1 : T.frunK (T.fast prog T.noMemo) 36000 [4, 5, 6, 7, 8, 9, 16, 63, 127, 131, 132, 133, 134, 135, 136, 137, 138, 139, 140, 141, 143, 144, 145, 146, 147, 148, 149, 152, 154, 155, 158, 161, 163, 212, 213, 214, 215, 216, 217, 218, 222, 303, 307, 464, 466, 471, 484] s1 = some s2 := by kernel_rfl
end
end Go.Abs

