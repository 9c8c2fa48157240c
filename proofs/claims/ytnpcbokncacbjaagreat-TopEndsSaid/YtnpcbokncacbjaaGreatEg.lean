/- Runs of TopEnds for some classes of arguments. -/
import Derived.Test.YtnpcbokncacbjaaGreatE
set_option linter.all false
set_option maxRecDepth 1000000
namespace Go.Abs
theorem ef6 : T.lawOk prog (T.memoF memoT) 1000000 3 (eArgs 6 19 false) = true := by decide +kernel
end Go.Abs

