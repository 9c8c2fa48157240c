/- A part of the run of live. -/
import Derived.Test.YtnpcbokncacbjaaGreatS
set_option linter.all false
set_option maxRecDepth 1000000
namespace Go.Abs
noncomputable section
theorem c3 : T.frunK (T.fast prog T.noMemo) 36000 [4, 5, 6, 7, 8, 9, 16, 63, 127, 131, 132, 133, 134, 135, 136, 137, 138, 139, 140, 141, 143, 144, 145, 146, 147, 148, 149, 152, 154, 155, 158, 161, 163, 222, 303, 307, 464, 574, 575, 576, 590, 592, 598, 600, 1008, 1567, 1569, 1576, 1578, 1580, 1582, 1584, 1587, 1626, 1628, 1630, 1632, 1633, 1635, 1718, 1726, 1728, 1730, 1752, 1754, 1757, 1760, 1762, 2150, 2151, 2152, 2153, 2154, 2155, 2156, 2157, 2158, 2227, 2266, 2267, 2268, 2269, 2289, 2290, 2299, 2313, 2314, 2315, 2316] s3 = some s4 := by kernel_rfl
end
end Go.Abs

