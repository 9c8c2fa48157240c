/- What some calls come to. -/
import Derived.Test.YtnpcbokncacbjaaGreatTK
set_option linter.all false
set_option maxRecDepth 1000000
namespace Go.Abs
noncomputable section
def memoT : PT (PT AV) := (.nd (.nd (.nd .e none (.nd (.nd .e none (.nd (.nd .e (some (.nd (.nd .e none (.nd (.nd .e none (.nd .e (some (.tup [(.int .i64 (.ofNat 2)), (.bool true)])) .e)) none .e)) none (.nd .e (some (.tup [(.int .i64 (.ofNat 4)), (.bool true)])) (.nd (.nd .e none (.nd .e (some (.tup [(.int .i64 (.ofNat 2)), (.bool true)])) .e)) none .e)))) .e) none .e)) none .e)) none .e) none (.nd (.nd (.nd .e (some (.nd .e (some (.bool true)) .e)) .e) none (.nd .e none (.nd (.nd (.nd .e (some (.nd (.nd .e none (.nd (.nd .e none (.nd .e (some (.tup [(.int .i64 (.ofNat 1)), (.bool true)])) .e)) none .e)) none (.nd .e (some (.tup [(.int .i64 (.ofNat 9)), (.bool true)])) (.nd (.nd .e none (.nd .e (some (.tup [(.int .i64 (.ofNat 4)), (.bool true)])) .e)) none .e)))) .e) none .e) none .e))) none (.nd (.nd (.nd (.nd .e (some (.nd (.nd .e (some (.tup [])) .e) none .e)) .e) none .e) none .e) none .e)))
def memoL : PT (PT AV) := (.nd .e none (.nd (.nd (.nd .e (some (.nd .e (some (.bool true)) .e)) .e) none .e) none .e))
def eArgs (k hi : Nat) (b : Bool) : List AV := [.lin .u8 0 13 (.ofNat k) 0 hi, .lin .u8 1 1 0 0 255, .bool b]
end
end Go.Abs

