/- Runs of TopEnds for some classes of arguments. -/
import Derived.Test.YtnpcbokncacbjaaGreatE
set_option linter.all false
set_option maxRecDepth 1000000
namespace Go.Abs
theorem et0 : T.lawOk prog (T.memoF memoT) 1000000 3 (eArgs 0 19 true) = true := by decide +kernel
theorem et12 : T.lawOk prog (T.memoF memoT) 1000000 3 (eArgs 12 18 true) = true := by decide +kernel
end Go.Abs

