/- live answers true, whatever the memory. -/
import Derived.Test.YtnpcbokncacbjaaGreatTS
set_option linter.all false
set_option maxRecDepth 1000000
namespace Go.Abs
noncomputable section
theorem c0 : T.frunK (T.fast prog T.noMemo) 6139 [0, 3, 4, 5, 6, 7, 8, 9, 10, 11, 12, 13, 15, 16, 17, 58, 59, 60, 62, 63, 64, 65, 66, 67, 68, 69, 70, 71] m0 = some s0 := by kernel_rfl
end
end Go.Abs

set_option maxRecDepth 1000000
namespace Go.Abs
noncomputable section
theorem cL : T.frunK (T.fast prog T.noMemo) 4177 [0, 3, 4, 5, 6, 7, 8, 9, 10, 11, 12, 13, 15, 16, 17, 58, 59, 60, 62, 63, 64, 65, 66, 67, 68, 69, 70, 71] sS = some sE := by kernel_rfl
theorem cLok : loopOk 120 198 (lf .e) lc lh le0 leS leE leZ = true := by decide +kernel
end
end Go.Abs

set_option maxRecDepth 1000000
namespace Go.Abs
noncomputable section
theorem c1 : T.frunK (T.fast prog T.noMemo) 36000 [4, 5, 6, 7, 8, 9, 16, 63, 127, 131, 132, 133, 134, 135, 136, 137, 138, 139, 140, 141, 143, 144, 145, 146, 147, 148, 149, 152, 154, 155, 158, 161, 163, 212, 213, 214, 215, 216, 217, 218, 222, 303, 307, 464, 466, 471, 484] s1 = some s2 := by kernel_rfl
end
end Go.Abs

set_option maxRecDepth 1000000
namespace Go.Abs
noncomputable section
theorem c2 : T.frunK (T.fast prog T.noMemo) 36000 [4, 5, 6, 7, 8, 9, 16, 63, 127, 131, 132, 133, 134, 135, 136, 137, 138, 139, 140, 141, 143, 144, 145, 146, 147, 148, 149, 152, 154, 155, 158, 161, 163, 222, 303, 307, 464, 466, 471, 574, 575, 576, 590, 592, 598, 600, 823, 825, 827, 829, 994, 995, 996, 997, 998, 999, 1000, 1006, 1008, 1009, 1010, 1011, 1012, 1033, 1034, 1035, 1162, 1352, 1502, 1503, 1504, 1509, 1510, 1511, 1513, 1532, 1542, 1543] s2 = some s3 := by kernel_rfl
end
end Go.Abs

set_option maxRecDepth 1000000
namespace Go.Abs
noncomputable section
theorem c3 : T.frunK (T.fast prog T.noMemo) 36000 [4, 5, 6, 7, 8, 9, 16, 63, 127, 131, 132, 133, 134, 135, 136, 137, 138, 139, 140, 141, 143, 144, 145, 146, 147, 148, 149, 152, 154, 155, 158, 161, 163, 222, 303, 307, 464, 574, 575, 576, 590, 592, 598, 600, 1008, 1567, 1569, 1576, 1578, 1580, 1582, 1584, 1587, 1626, 1628, 1630, 1632, 1633, 1635, 1718, 1726, 1728, 1730, 1752, 1754, 1757, 1760, 1762, 2150, 2151, 2152, 2153, 2154, 2155, 2156, 2157, 2158, 2227, 2266, 2267, 2268, 2269, 2289, 2290, 2299, 2313, 2314, 2315, 2316] s3 = some s4 := by kernel_rfl
end
end Go.Abs

set_option maxRecDepth 1000000
namespace Go.Abs
noncomputable section
theorem c4 : (match toKE 200000 s4 with | some m => T.endOf prog 8 m0f (.bool true) m | none => false) = true := by decide +kernel
end
end Go.Abs

set_option maxRecDepth 1000000
namespace Go.Abs
noncomputable section
theorem hN : NoNum prog := noNum_of (by decide +kernel)
theorem hmix : prog.follows .mixedOrders = true := by decide +kernel
theorem s0_eq : s0 = ⟨{ lf .e with env := le0 }, lc, ⟨lh, 120, []⟩⟩ := by kernel_rfl
theorem sS_eq : sS = ⟨{ lf .e with env := leS }, lc, ⟨lh, 120, []⟩⟩ := by kernel_rfl
theorem sE_eq : sE = ⟨{ lf .e with env := leE }, lc, ⟨lh, 168, []⟩⟩ := by kernel_rfl
theorem s1_eq : s1 = ⟨{ lf .e with env := leZ }, lc, ⟨lh, 120, []⟩⟩ := by kernel_rfl
theorem loop_comes : Comes prog s0 s1 := by
  rw [s0_eq, s1_eq]
  refine Comes.loop (nE := 168) (hi := 198) ?_ cLok
  have := T.frunK_comes hN hmix (T.noMemo_ok prog) cL
  rwa [sS_eq, sE_eq] at this
theorem live_summed : T.Summed prog 8 [] (.bool true) := by
  have h0 := T.frunK_comes hN hmix (T.noMemo_ok prog) c0
  have h1 := T.frunK_comes hN hmix (T.noMemo_ok prog) c1
  have h2 := T.frunK_comes hN hmix (T.noMemo_ok prog) c2
  have h3 := T.frunK_comes hN hmix (T.noMemo_ok prog) c3
  have hh := c4
  cases e : toKE 200000 s4 with
  | none => rw [e] at hh; cases hh
  | some m =>
    rw [e] at hh
    have h4 : Comes prog s4 m := T.frunE_comes hN hmix (T.noMemo_ok prog) e
    exact T.summed_of hN hmix m0f_eq ((((h0.trans loop_comes).trans h1).trans h2).trans (h3.trans h4)) hh
end
end Go.Abs
#print axioms Go.Abs.live_summed

