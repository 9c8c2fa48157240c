/- Segments of the run of TopLoops. -/
import Derived.Test.YtnpcbokncacbjaaGreatTG
set_option linter.all false
set_option maxRecDepth 1000000
namespace Go.Abs
noncomputable section
def b6Ps : List (Nat × Trm) := []
def b6Pf : List Fact := []
theorem b6P : segRun prog (T.memoF memoL) 14325 [91, 194, 195, 196, 197, 198, 1196, 1926, 2232, 2264, 2265, 2266, 2267] [2, 6, 7, 9, 14] b6Pf e5 = some ((p6.sub (look b6Ps) b6Pf).setNext 2285) := by kernel_rfl
theorem b6Pk : (Nat.ble e5.h.next p6.h.next && tidy p6.h.next (p6.sub (look b6Ps) b6Pf) && calm p6) = true := by decide +kernel
def p6Ds : List (Nat × Trm) := [(20, (.con (.ofNat 2))), (21, (.wrp .i64 (.op .rem .u16 (.var 2) (.con (.ofNat 2001))))), (22, (.con (.ofNat 0))), (23, (.wrp .i64 (.op .rem .u16 (.var 1) (.con (.ofNat 2001)))))]
def p6Df : List Fact := []
theorem p6D : segRun prog (T.memoF memoL) 238 [91, 194, 195, 196, 197, 198, 1196, 1926, 2232, 2264, 2265, 2266, 2267] [2, 6, 7, 9, 14] p6Df p6 = some ((d6.sub (look p6Ds) p6Df).setNext 2289) := by kernel_rfl
theorem p6Dk : (Nat.ble p6.h.next d6.h.next && tidy d6.h.next (d6.sub (look p6Ds) p6Df) && calm d6) = true := by decide +kernel
def d6Ds : List (Nat × Trm) := [(20, (.op .add .i64 (.op .add .i64 (.op .add .i64 (.op .add .i64 (.op .add .i64 (.op .add .i64 (.var 20) (.con (.ofNat 1))) (.con (.ofNat 1))) (.con (.ofNat 1))) (.con (.ofNat 1))) (.con (.ofNat 1))) (.con (.ofNat 1)))), (21, (.op .rem .i64 (.var 23) (.var 21))), (22, (.op .rem .i64 (.var 23) (.var 21))), (23, (.var 21))]
def d6Df : List Fact := [⟨.eql, (.var 20), (.con (.ofNat 4096)), false⟩, ⟨.neq, (.var 21), (.con (.ofNat 0)), true⟩, ⟨.eql, (.op .add .i64 (.var 20) (.con (.ofNat 1))), (.con (.ofNat 4096)), false⟩, ⟨.eql, (.op .add .i64 (.op .add .i64 (.var 20) (.con (.ofNat 1))) (.con (.ofNat 1))), (.con (.ofNat 4096)), false⟩, ⟨.eql, (.var 21), (.con (.ofNat 0)), false⟩, ⟨.eql, (.var 23), (.con (.negSucc 9223372036854775807)), false⟩, ⟨.eql, (.op .add .i64 (.op .add .i64 (.op .add .i64 (.var 20) (.con (.ofNat 1))) (.con (.ofNat 1))) (.con (.ofNat 1))), (.con (.ofNat 4096)), false⟩, ⟨.eql, (.op .add .i64 (.op .add .i64 (.op .add .i64 (.op .add .i64 (.var 20) (.con (.ofNat 1))) (.con (.ofNat 1))) (.con (.ofNat 1))) (.con (.ofNat 1))), (.con (.ofNat 4096)), false⟩, ⟨.eql, (.op .add .i64 (.op .add .i64 (.op .add .i64 (.op .add .i64 (.op .add .i64 (.var 20) (.con (.ofNat 1))) (.con (.ofNat 1))) (.con (.ofNat 1))) (.con (.ofNat 1))) (.con (.ofNat 1))), (.con (.ofNat 4096)), false⟩]
theorem d6D : segRun prog (T.memoF memoL) 1083 [91, 194, 195, 196, 197, 198, 1196, 1926, 2232, 2264, 2265, 2266, 2267] [2, 6, 7, 9, 14] d6Df d6 = some ((d6.sub (look d6Ds) d6Df).setNext 2301) := by kernel_rfl
theorem d6Dk : (Nat.ble d6.h.next d6.h.next && tidy d6.h.next (d6.sub (look d6Ds) d6Df) && calm d6) = true := by decide +kernel
def d6oks : List (Nat × Trm) := []
def d6okf : List Fact := [⟨.eql, (.var 20), (.con (.ofNat 4096)), false⟩, ⟨.neq, (.var 21), (.con (.ofNat 0)), false⟩, ⟨.eql, (.op .add .i64 (.var 20) (.con (.ofNat 1))), (.con (.ofNat 4096)), false⟩, ⟨.eql, (.op .add .i64 (.op .add .i64 (.var 20) (.con (.ofNat 1))) (.con (.ofNat 1))), (.con (.ofNat 4096)), false⟩, ⟨.leq, (.var 6), (.con (.ofNat 4096)), true⟩, ⟨.neq, (.op .add .i64 (.op .add .i64 (.op .add .i64 (.var 20) (.con (.ofNat 1))) (.con (.ofNat 1))) (.con (.ofNat 1))), (.var 6), false⟩, ⟨.neq, (.var 23), (.var 5), false⟩]
theorem d6ok : segRun prog (T.memoF memoL) 885 [] [8] d6okf d6 = some ((e6.sub (look d6oks) d6okf).setNext 2301) := by kernel_rfl
theorem d6okk : (Nat.ble d6.h.next e6.h.next && tidy e6.h.next (e6.sub (look d6oks) d6okf) && calm e6) = true := by decide +kernel
def d6x0s : List (Nat × Trm) := []
def d6x0f : List Fact := [⟨.eql, (.var 20), (.con (.ofNat 4096)), true⟩, ⟨.leq, (.var 6), (.con (.ofNat 4096)), false⟩, ⟨.neq, (.var 20), (.con (.ofNat 4096)), false⟩]
theorem d6x0 : segRun prog (T.memoF memoL) 90 [] [8] d6x0f d6 = some ((e6.sub (look d6x0s) d6x0f).setNext 2290) := by kernel_rfl
theorem d6x0k : (Nat.ble d6.h.next e6.h.next && tidy e6.h.next (e6.sub (look d6x0s) d6x0f) && calm e6) = true := by decide +kernel
def d6x1s : List (Nat × Trm) := []
def d6x1f : List Fact := [⟨.eql, (.var 20), (.con (.ofNat 4096)), false⟩, ⟨.neq, (.var 21), (.con (.ofNat 0)), true⟩, ⟨.eql, (.op .add .i64 (.var 20) (.con (.ofNat 1))), (.con (.ofNat 4096)), true⟩, ⟨.leq, (.var 6), (.con (.ofNat 4096)), false⟩, ⟨.neq, (.op .add .i64 (.var 20) (.con (.ofNat 1))), (.con (.ofNat 4096)), false⟩]
theorem d6x1 : segRun prog (T.memoF memoL) 282 [] [8] d6x1f d6 = some ((e6.sub (look d6x1s) d6x1f).setNext 2292) := by kernel_rfl
theorem d6x1k : (Nat.ble d6.h.next e6.h.next && tidy e6.h.next (e6.sub (look d6x1s) d6x1f) && calm e6) = true := by decide +kernel
def d6x2s : List (Nat × Trm) := []
def d6x2f : List Fact := [⟨.eql, (.var 20), (.con (.ofNat 4096)), false⟩, ⟨.neq, (.var 21), (.con (.ofNat 0)), true⟩, ⟨.eql, (.op .add .i64 (.var 20) (.con (.ofNat 1))), (.con (.ofNat 4096)), false⟩, ⟨.eql, (.op .add .i64 (.op .add .i64 (.var 20) (.con (.ofNat 1))) (.con (.ofNat 1))), (.con (.ofNat 4096)), true⟩, ⟨.leq, (.var 6), (.con (.ofNat 4096)), false⟩, ⟨.neq, (.op .add .i64 (.op .add .i64 (.var 20) (.con (.ofNat 1))) (.con (.ofNat 1))), (.con (.ofNat 4096)), false⟩]
theorem d6x2 : segRun prog (T.memoF memoL) 410 [] [8] d6x2f d6 = some ((e6.sub (look d6x2s) d6x2f).setNext 2294) := by kernel_rfl
theorem d6x2k : (Nat.ble d6.h.next e6.h.next && tidy e6.h.next (e6.sub (look d6x2s) d6x2f) && calm e6) = true := by decide +kernel
def d6x3s : List (Nat × Trm) := []
def d6x3f : List Fact := [⟨.eql, (.var 20), (.con (.ofNat 4096)), false⟩, ⟨.neq, (.var 21), (.con (.ofNat 0)), true⟩, ⟨.eql, (.op .add .i64 (.var 20) (.con (.ofNat 1))), (.con (.ofNat 4096)), false⟩, ⟨.eql, (.op .add .i64 (.op .add .i64 (.var 20) (.con (.ofNat 1))) (.con (.ofNat 1))), (.con (.ofNat 4096)), false⟩, ⟨.eql, (.var 21), (.con (.ofNat 0)), false⟩, ⟨.eql, (.var 23), (.con (.negSucc 9223372036854775807)), false⟩, ⟨.eql, (.op .add .i64 (.op .add .i64 (.op .add .i64 (.var 20) (.con (.ofNat 1))) (.con (.ofNat 1))) (.con (.ofNat 1))), (.con (.ofNat 4096)), true⟩, ⟨.leq, (.var 6), (.con (.ofNat 4096)), false⟩, ⟨.neq, (.op .add .i64 (.op .add .i64 (.op .add .i64 (.var 20) (.con (.ofNat 1))) (.con (.ofNat 1))) (.con (.ofNat 1))), (.con (.ofNat 4096)), false⟩]
theorem d6x3 : segRun prog (T.memoF memoL) 739 [] [8] d6x3f d6 = some ((e6.sub (look d6x3s) d6x3f).setNext 2296) := by kernel_rfl
theorem d6x3k : (Nat.ble d6.h.next e6.h.next && tidy e6.h.next (e6.sub (look d6x3s) d6x3f) && calm e6) = true := by decide +kernel
def d6x4s : List (Nat × Trm) := []
def d6x4f : List Fact := [⟨.eql, (.var 20), (.con (.ofNat 4096)), false⟩, ⟨.neq, (.var 21), (.con (.ofNat 0)), true⟩, ⟨.eql, (.op .add .i64 (.var 20) (.con (.ofNat 1))), (.con (.ofNat 4096)), false⟩, ⟨.eql, (.op .add .i64 (.op .add .i64 (.var 20) (.con (.ofNat 1))) (.con (.ofNat 1))), (.con (.ofNat 4096)), false⟩, ⟨.eql, (.var 21), (.con (.ofNat 0)), false⟩, ⟨.eql, (.var 23), (.con (.negSucc 9223372036854775807)), false⟩, ⟨.eql, (.op .add .i64 (.op .add .i64 (.op .add .i64 (.var 20) (.con (.ofNat 1))) (.con (.ofNat 1))) (.con (.ofNat 1))), (.con (.ofNat 4096)), false⟩, ⟨.eql, (.op .add .i64 (.op .add .i64 (.op .add .i64 (.op .add .i64 (.var 20) (.con (.ofNat 1))) (.con (.ofNat 1))) (.con (.ofNat 1))) (.con (.ofNat 1))), (.con (.ofNat 4096)), true⟩, ⟨.leq, (.var 6), (.con (.ofNat 4096)), false⟩, ⟨.neq, (.op .add .i64 (.op .add .i64 (.op .add .i64 (.op .add .i64 (.var 20) (.con (.ofNat 1))) (.con (.ofNat 1))) (.con (.ofNat 1))) (.con (.ofNat 1))), (.con (.ofNat 4096)), false⟩]
theorem d6x4 : segRun prog (T.memoF memoL) 867 [] [8] d6x4f d6 = some ((e6.sub (look d6x4s) d6x4f).setNext 2298) := by kernel_rfl
theorem d6x4k : (Nat.ble d6.h.next e6.h.next && tidy e6.h.next (e6.sub (look d6x4s) d6x4f) && calm e6) = true := by decide +kernel
def d6x5s : List (Nat × Trm) := []
def d6x5f : List Fact := [⟨.eql, (.var 20), (.con (.ofNat 4096)), false⟩, ⟨.neq, (.var 21), (.con (.ofNat 0)), true⟩, ⟨.eql, (.op .add .i64 (.var 20) (.con (.ofNat 1))), (.con (.ofNat 4096)), false⟩, ⟨.eql, (.op .add .i64 (.op .add .i64 (.var 20) (.con (.ofNat 1))) (.con (.ofNat 1))), (.con (.ofNat 4096)), false⟩, ⟨.eql, (.var 21), (.con (.ofNat 0)), false⟩, ⟨.eql, (.var 23), (.con (.negSucc 9223372036854775807)), false⟩, ⟨.eql, (.op .add .i64 (.op .add .i64 (.op .add .i64 (.var 20) (.con (.ofNat 1))) (.con (.ofNat 1))) (.con (.ofNat 1))), (.con (.ofNat 4096)), false⟩, ⟨.eql, (.op .add .i64 (.op .add .i64 (.op .add .i64 (.op .add .i64 (.var 20) (.con (.ofNat 1))) (.con (.ofNat 1))) (.con (.ofNat 1))) (.con (.ofNat 1))), (.con (.ofNat 4096)), false⟩, ⟨.eql, (.op .add .i64 (.op .add .i64 (.op .add .i64 (.op .add .i64 (.op .add .i64 (.var 20) (.con (.ofNat 1))) (.con (.ofNat 1))) (.con (.ofNat 1))) (.con (.ofNat 1))) (.con (.ofNat 1))), (.con (.ofNat 4096)), true⟩, ⟨.leq, (.var 6), (.con (.ofNat 4096)), false⟩, ⟨.neq, (.op .add .i64 (.op .add .i64 (.op .add .i64 (.op .add .i64 (.op .add .i64 (.var 20) (.con (.ofNat 1))) (.con (.ofNat 1))) (.con (.ofNat 1))) (.con (.ofNat 1))) (.con (.ofNat 1))), (.con (.ofNat 4096)), false⟩]
theorem d6x5 : segRun prog (T.memoF memoL) 995 [] [8] d6x5f d6 = some ((e6.sub (look d6x5s) d6x5f).setNext 2300) := by kernel_rfl
theorem d6x5k : (Nat.ble d6.h.next e6.h.next && tidy e6.h.next (e6.sub (look d6x5s) d6x5f) && calm e6) = true := by decide +kernel
def d6y1s : List (Nat × Trm) := []
def d6y1f : List Fact := [⟨.eql, (.var 20), (.con (.ofNat 4096)), false⟩, ⟨.neq, (.var 21), (.con (.ofNat 0)), false⟩, ⟨.eql, (.op .add .i64 (.var 20) (.con (.ofNat 1))), (.con (.ofNat 4096)), true⟩, ⟨.leq, (.var 6), (.con (.ofNat 4096)), false⟩, ⟨.neq, (.op .add .i64 (.var 20) (.con (.ofNat 1))), (.con (.ofNat 4096)), false⟩]
theorem d6y1 : segRun prog (T.memoF memoL) 263 [] [8] d6y1f d6 = some ((e6.sub (look d6y1s) d6y1f).setNext 2292) := by kernel_rfl
theorem d6y1k : (Nat.ble d6.h.next e6.h.next && tidy e6.h.next (e6.sub (look d6y1s) d6y1f) && calm e6) = true := by decide +kernel
def d6y2s : List (Nat × Trm) := []
def d6y2f : List Fact := [⟨.eql, (.var 20), (.con (.ofNat 4096)), false⟩, ⟨.neq, (.var 21), (.con (.ofNat 0)), false⟩, ⟨.eql, (.op .add .i64 (.var 20) (.con (.ofNat 1))), (.con (.ofNat 4096)), false⟩, ⟨.eql, (.op .add .i64 (.op .add .i64 (.var 20) (.con (.ofNat 1))) (.con (.ofNat 1))), (.con (.ofNat 4096)), true⟩, ⟨.leq, (.var 6), (.con (.ofNat 4096)), false⟩, ⟨.neq, (.op .add .i64 (.op .add .i64 (.var 20) (.con (.ofNat 1))) (.con (.ofNat 1))), (.con (.ofNat 4096)), false⟩]
theorem d6y2 : segRun prog (T.memoF memoL) 450 [] [8] d6y2f d6 = some ((e6.sub (look d6y2s) d6y2f).setNext 2296) := by kernel_rfl
theorem d6y2k : (Nat.ble d6.h.next e6.h.next && tidy e6.h.next (e6.sub (look d6y2s) d6y2f) && calm e6) = true := by decide +kernel
end
end Go.Abs

