/- A turn of the loop over blank blocks. -/
import Derived.Test.YtnpcbokncacbjaaGreatS
set_option linter.all false
set_option maxRecDepth 1000000
namespace Go.Abs
noncomputable section
theorem cL : T.frunK (T.fast prog T.noMemo) 4177 [0, 3, 4, 5, 6, 7, 8, 9, 10, 11, 12, 13, 15, 16, 17, 58, 59, 60, 62, 63, 64, 65, 66, 67, 68, 69, 70, 71] sS = some sE := by kernel_rfl
theorem cLok : loopOk 120 198 (lf .e) lc lh le0 leS leE leZ = true := by decide +kernel
end
end Go.Abs

