/- live answers true, whatever the memory. -/
import Derived.Test.YtnpcbokncacbjaaGreatLa
import Derived.Test.YtnpcbokncacbjaaGreatLb
import Derived.Test.YtnpcbokncacbjaaGreatLc
import Derived.Test.YtnpcbokncacbjaaGreatLd
import Derived.Test.YtnpcbokncacbjaaGreatLe
import Derived.Test.YtnpcbokncacbjaaGreatLf
set_option linter.all false
set_option maxRecDepth 1000000
namespace Go.Abs
noncomputable section
theorem hN : NoNum prog := noNum_of (by decide +kernel)
theorem hmix : prog.follows .mixedOrders = true := by decide +kernel
theorem s0_eq : s0 = ⟨{ lf .e with env := le0 }, lc, ⟨lh, 120⟩⟩ := by kernel_rfl
theorem sS_eq : sS = ⟨{ lf .e with env := leS }, lc, ⟨lh, 120⟩⟩ := by kernel_rfl
theorem sE_eq : sE = ⟨{ lf .e with env := leE }, lc, ⟨lh, 168⟩⟩ := by kernel_rfl
theorem s1_eq : s1 = ⟨{ lf .e with env := leZ }, lc, ⟨lh, 120⟩⟩ := by kernel_rfl
theorem loop_comes : Comes prog s0 s1 := by
  rw [s0_eq, s1_eq]
  refine Comes.loop (nE := 168) (hi := 198) ?_ cLok
  have := T.frunK_comes hN hmix (T.noMemo_ok prog) cL
  rwa [sS_eq, sE_eq] at this
theorem live_summed : T.Summed prog 8 [] (.bool true) := by
  have h0 := T.frunK_comes hN hmix (T.noMemo_ok prog) c0
  have h1 := T.frunK_comes hN hmix (T.noMemo_ok prog) c1
  have h2 := T.frunK_comes hN hmix (T.noMemo_ok prog) c2
  have h3 := T.frunK_comes hN hmix (T.noMemo_ok prog) c3
  have hh := c4
  cases e : toKE 200000 s4 with
  | none => rw [e] at hh; cases hh
  | some m =>
    rw [e] at hh
    have h4 : Comes prog s4 m := T.frunE_comes hN hmix (T.noMemo_ok prog) e
    exact T.summed_of hN hmix m0f_eq ((((h0.trans loop_comes).trans h1).trans h2).trans (h3.trans h4)) hh
end
end Go.Abs
#print axioms Go.Abs.live_summed

