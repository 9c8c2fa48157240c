/- Runs of TopEnds for some classes of arguments. -/
import Derived.Test.YtnpcbokncacbjaaGreatE
set_option linter.all false
set_option maxRecDepth 1000000
namespace Go.Abs
theorem et4 : T.lawOk prog (T.memoF memoT) 1000000 3 (eArgs 4 19 true) = true := by decide +kernel
theorem et8 : T.lawOk prog (T.memoF memoT) 1000000 3 (eArgs 8 19 true) = true := by decide +kernel
end Go.Abs

