/- The last part of the run of live. -/
import Derived.Test.YtnpcbokncacbjaaGreatS
set_option linter.all false
set_option maxRecDepth 1000000
namespace Go.Abs
noncomputable section
theorem c4 : (match toKE 200000 s4 with | some m => T.endOf prog 8 m0f (.bool true) m | none => false) = true := by decide +kernel
end
end Go.Abs

