/- A part of the run of live. -/
import Derived.Test.YtnpcbokncacbjaaGreatS
set_option linter.all false
set_option maxRecDepth 1000000
namespace Go.Abs
noncomputable section
theorem c2 : T.frunK (T.fast prog T.noMemo) 36000 [4, 5, 6, 7, 8, 9, 16, 63, 127, 131, 132, 133, 134, 135, 136, 137, 138, 139, 140, 141, 143, 144, 145, 146, 147, 148, 149, 152, 154, 155, 158, 161, 163, 222, 303, 307, 464, 466, 471, 574, 575, 576, 590, 592, 598, 600, 823, 825, 827, 829, 994, 995, 996, 997, 998, 999, 1000, 1006, 1008, 1009, 1010, 1011, 1012, 1033, 1034, 1035, 1162, 1352, 1502, 1503, 1504, 1509, 1510, 1511, 1513, 1532, 1542, 1543] s2 = some s3 := by kernel_rfl
end
end Go.Abs

