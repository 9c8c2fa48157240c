/- Segments of the run of TopLoops. -/
import Derived.Test.YtnpcbokncacbjaaGreatTG
set_option linter.all false
set_option maxRecDepth 1000000
namespace Go.Abs
noncomputable section
def zAs : List (Nat × Trm) := [(4, (.wrp .i64 (.op .rem .u16 (.var 1) (.con (.ofNat 2001))))), (5, (.wrp .i64 (.op .rem .u16 (.var 2) (.con (.ofNat 2001))))), (6, (.con (.ofNat 5)))]
def zAf : List Fact := []
theorem zA : segRun prog (T.memoF memoL) 5847 [91, 194] [1, 2, 3, 9, 10, 11, 12, 13, 14, 15, 16] zAf z0 = some ((hA.sub (look zAs) zAf).setNext 195) := by kernel_rfl
theorem zAk : (Nat.ble z0.h.next hA.h.next && tidy hA.h.next (hA.sub (look zAs) zAf) && calm hA) = true := by decide +kernel
def aAs : List (Nat × Trm) := [(4, (.var 5)), (5, (.op .rem .i64 (.var 4) (.var 5))), (6, (.op .add .i64 (.var 6) (.con (.ofNat 6))))]
def aAf : List Fact := [⟨.neq, (.var 5), (.con (.ofNat 0)), true⟩, ⟨.eql, (.var 5), (.con (.ofNat 0)), false⟩]
theorem aA : segRun prog (T.memoF memoL) 21 [91, 194] [1, 2, 3, 9, 10, 11, 12, 13, 14, 15, 16] aAf hA = some ((hA.sub (look aAs) aAf).setNext 195) := by kernel_rfl
theorem aAk : (Nat.ble hA.h.next hA.h.next && tidy hA.h.next (hA.sub (look aAs) aAf) && calm hA) = true := by decide +kernel
def aBs : List (Nat × Trm) := [(4, (.wrp .i64 (.op .rem .u16 (.var 2) (.con (.ofNat 2001))))), (5, (.wrp .i64 (.op .rem .u16 (.var 1) (.con (.ofNat 2001)))))]
def aBf : List Fact := [⟨.neq, (.var 5), (.con (.ofNat 0)), false⟩]
theorem aB : segRun prog (T.memoF memoL) 11 [91, 194] [1, 2, 3, 9, 10, 11, 12, 13, 14] aBf hA = some ((hB.sub (look aBs) aBf).setNext 195) := by kernel_rfl
theorem aBk : (Nat.ble hA.h.next hB.h.next && tidy hB.h.next (hB.sub (look aBs) aBf) && calm hB) = true := by decide +kernel
def bBs : List (Nat × Trm) := [(4, (.op .rem .i64 (.var 5) (.var 4))), (5, (.var 4))]
def bBf : List Fact := [⟨.neq, (.var 4), (.con (.ofNat 0)), true⟩, ⟨.eql, (.var 4), (.con (.ofNat 0)), false⟩]
theorem bB : segRun prog (T.memoF memoL) 15 [91, 194] [1, 2, 3, 9, 10, 11, 12, 13, 14] bBf hB = some ((hB.sub (look bBs) bBf).setNext 195) := by kernel_rfl
theorem bBk : (Nat.ble hB.h.next hB.h.next && tidy hB.h.next (hB.sub (look bBs) bBf) && calm hB) = true := by decide +kernel
end
end Go.Abs

