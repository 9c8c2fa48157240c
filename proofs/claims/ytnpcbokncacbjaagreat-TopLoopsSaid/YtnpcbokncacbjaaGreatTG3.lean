/- Segments of the run of TopLoops. -/
import Derived.Test.YtnpcbokncacbjaaGreatTG
set_option linter.all false
set_option maxRecDepth 1000000
namespace Go.Abs
noncomputable section
def b3Ps : List (Nat × Trm) := []
def b3Pf : List Fact := []
theorem b3P : segRun prog (T.memoF memoL) 12947 [91, 194, 195, 196, 197, 198, 199, 865, 1141, 1170, 1171, 1172, 1173] [2, 6, 7, 9, 14] b3Pf e2 = some ((p3.sub (look b3Ps) b3Pf).setNext 1190) := by kernel_rfl
theorem b3Pk : (Nat.ble e2.h.next p3.h.next && tidy p3.h.next (p3.sub (look b3Ps) b3Pf) && calm p3) = true := by decide +kernel
def p3Ds : List (Nat × Trm) := [(20, (.con (.ofNat 3))), (21, (.con (.ofNat 0))), (22, (.wrp .i64 (.op .rem .u16 (.var 0) (.con (.ofNat 1101)))))]
def p3Df : List Fact := []
theorem p3D : segRun prog (T.memoF memoL) 353 [91, 194, 195, 196, 197, 198, 199, 865, 1141, 1170, 1171, 1172, 1173] [2, 6, 7, 9, 14] p3Df p3 = some ((d3.sub (look p3Ds) p3Df).setNext 1196) := by kernel_rfl
theorem p3Dk : (Nat.ble p3.h.next d3.h.next && tidy d3.h.next (d3.sub (look p3Ds) p3Df) && calm d3) = true := by decide +kernel
def d3Ds : List (Nat × Trm) := [(20, (.op .add .i64 (.op .add .i64 (.op .add .i64 (.op .add .i64 (.var 20) (.con (.ofNat 1))) (.con (.ofNat 1))) (.con (.ofNat 1))) (.con (.ofNat 1)))), (21, (.op .add .i64 (.var 21) (.var 22))), (22, (.op .sub .i64 (.var 22) (.con (.ofNat 1))))]
def d3Df : List Fact := [⟨.eql, (.var 20), (.con (.ofNat 4096)), false⟩, ⟨.neq, (.var 22), (.con (.ofNat 0)), true⟩, ⟨.eql, (.op .add .i64 (.var 20) (.con (.ofNat 1))), (.con (.ofNat 4096)), false⟩, ⟨.eql, (.op .add .i64 (.op .add .i64 (.var 20) (.con (.ofNat 1))) (.con (.ofNat 1))), (.con (.ofNat 4096)), false⟩, ⟨.eql, (.op .add .i64 (.op .add .i64 (.op .add .i64 (.var 20) (.con (.ofNat 1))) (.con (.ofNat 1))) (.con (.ofNat 1))), (.con (.ofNat 4096)), false⟩]
theorem d3D : segRun prog (T.memoF memoL) 860 [91, 194, 195, 196, 197, 198, 199, 865, 1141, 1170, 1171, 1172, 1173] [2, 6, 7, 9, 14] d3Df d3 = some ((d3.sub (look d3Ds) d3Df).setNext 1204) := by kernel_rfl
theorem d3Dk : (Nat.ble d3.h.next d3.h.next && tidy d3.h.next (d3.sub (look d3Ds) d3Df) && calm d3) = true := by decide +kernel
def d3oks : List (Nat × Trm) := []
def d3okf : List Fact := [⟨.eql, (.var 20), (.con (.ofNat 4096)), false⟩, ⟨.neq, (.var 22), (.con (.ofNat 0)), false⟩, ⟨.eql, (.op .add .i64 (.var 20) (.con (.ofNat 1))), (.con (.ofNat 4096)), false⟩, ⟨.eql, (.op .add .i64 (.op .add .i64 (.var 20) (.con (.ofNat 1))) (.con (.ofNat 1))), (.con (.ofNat 4096)), false⟩, ⟨.leq, (.op .add .i64 (.op .mul .i64 (.con (.ofNat 4)) (.wrp .i64 (.op .rem .u16 (.var 0) (.con (.ofNat 1101))))) (.con (.ofNat 6))), (.con (.ofNat 4096)), true⟩, ⟨.neq, (.op .add .i64 (.op .add .i64 (.op .add .i64 (.var 20) (.con (.ofNat 1))) (.con (.ofNat 1))) (.con (.ofNat 1))), (.op .add .i64 (.op .mul .i64 (.con (.ofNat 4)) (.wrp .i64 (.op .rem .u16 (.var 0) (.con (.ofNat 1101))))) (.con (.ofNat 6))), false⟩, ⟨.neq, (.var 21), (.op .quo .i64 (.op .mul .i64 (.wrp .i64 (.op .rem .u16 (.var 0) (.con (.ofNat 1101)))) (.op .add .i64 (.wrp .i64 (.op .rem .u16 (.var 0) (.con (.ofNat 1101)))) (.con (.ofNat 1)))) (.con (.ofNat 2))), false⟩]
theorem d3ok : segRun prog (T.memoF memoL) 868 [91, 194, 195, 196, 197, 198] [16] d3okf d3 = some ((e3.sub (look d3oks) d3okf).setNext 1208) := by kernel_rfl
theorem d3okk : (Nat.ble d3.h.next e3.h.next && tidy e3.h.next (e3.sub (look d3oks) d3okf) && calm e3) = true := by decide +kernel
def d3x0s : List (Nat × Trm) := []
def d3x0f : List Fact := [⟨.eql, (.var 20), (.con (.ofNat 4096)), true⟩, ⟨.leq, (.op .add .i64 (.op .mul .i64 (.con (.ofNat 4)) (.wrp .i64 (.op .rem .u16 (.var 0) (.con (.ofNat 1101))))) (.con (.ofNat 6))), (.con (.ofNat 4096)), false⟩, ⟨.neq, (.var 20), (.con (.ofNat 4096)), false⟩]
theorem d3x0 : segRun prog (T.memoF memoL) 73 [91, 194, 195, 196, 197, 198] [16] d3x0f d3 = some ((e3.sub (look d3x0s) d3x0f).setNext 1197) := by kernel_rfl
theorem d3x0k : (Nat.ble d3.h.next e3.h.next && tidy e3.h.next (e3.sub (look d3x0s) d3x0f) && calm e3) = true := by decide +kernel
def d3x1s : List (Nat × Trm) := []
def d3x1f : List Fact := [⟨.eql, (.var 20), (.con (.ofNat 4096)), false⟩, ⟨.neq, (.var 22), (.con (.ofNat 0)), true⟩, ⟨.eql, (.op .add .i64 (.var 20) (.con (.ofNat 1))), (.con (.ofNat 4096)), true⟩, ⟨.leq, (.op .add .i64 (.op .mul .i64 (.con (.ofNat 4)) (.wrp .i64 (.op .rem .u16 (.var 0) (.con (.ofNat 1101))))) (.con (.ofNat 6))), (.con (.ofNat 4096)), false⟩, ⟨.neq, (.op .add .i64 (.var 20) (.con (.ofNat 1))), (.con (.ofNat 4096)), false⟩]
theorem d3x1 : segRun prog (T.memoF memoL) 265 [91, 194, 195, 196, 197, 198] [16] d3x1f d3 = some ((e3.sub (look d3x1s) d3x1f).setNext 1199) := by kernel_rfl
theorem d3x1k : (Nat.ble d3.h.next e3.h.next && tidy e3.h.next (e3.sub (look d3x1s) d3x1f) && calm e3) = true := by decide +kernel
def d3x2s : List (Nat × Trm) := []
def d3x2f : List Fact := [⟨.eql, (.var 20), (.con (.ofNat 4096)), false⟩, ⟨.neq, (.var 22), (.con (.ofNat 0)), true⟩, ⟨.eql, (.op .add .i64 (.var 20) (.con (.ofNat 1))), (.con (.ofNat 4096)), false⟩, ⟨.eql, (.op .add .i64 (.op .add .i64 (.var 20) (.con (.ofNat 1))) (.con (.ofNat 1))), (.con (.ofNat 4096)), true⟩, ⟨.leq, (.op .add .i64 (.op .mul .i64 (.con (.ofNat 4)) (.wrp .i64 (.op .rem .u16 (.var 0) (.con (.ofNat 1101))))) (.con (.ofNat 6))), (.con (.ofNat 4096)), false⟩, ⟨.neq, (.op .add .i64 (.op .add .i64 (.var 20) (.con (.ofNat 1))) (.con (.ofNat 1))), (.con (.ofNat 4096)), false⟩]
theorem d3x2 : segRun prog (T.memoF memoL) 507 [91, 194, 195, 196, 197, 198] [16] d3x2f d3 = some ((e3.sub (look d3x2s) d3x2f).setNext 1201) := by kernel_rfl
theorem d3x2k : (Nat.ble d3.h.next e3.h.next && tidy e3.h.next (e3.sub (look d3x2s) d3x2f) && calm e3) = true := by decide +kernel
def d3x3s : List (Nat × Trm) := []
def d3x3f : List Fact := [⟨.eql, (.var 20), (.con (.ofNat 4096)), false⟩, ⟨.neq, (.var 22), (.con (.ofNat 0)), true⟩, ⟨.eql, (.op .add .i64 (.var 20) (.con (.ofNat 1))), (.con (.ofNat 4096)), false⟩, ⟨.eql, (.op .add .i64 (.op .add .i64 (.var 20) (.con (.ofNat 1))) (.con (.ofNat 1))), (.con (.ofNat 4096)), false⟩, ⟨.eql, (.op .add .i64 (.op .add .i64 (.op .add .i64 (.var 20) (.con (.ofNat 1))) (.con (.ofNat 1))) (.con (.ofNat 1))), (.con (.ofNat 4096)), true⟩, ⟨.leq, (.op .add .i64 (.op .mul .i64 (.con (.ofNat 4)) (.wrp .i64 (.op .rem .u16 (.var 0) (.con (.ofNat 1101))))) (.con (.ofNat 6))), (.con (.ofNat 4096)), false⟩, ⟨.neq, (.op .add .i64 (.op .add .i64 (.op .add .i64 (.var 20) (.con (.ofNat 1))) (.con (.ofNat 1))) (.con (.ofNat 1))), (.con (.ofNat 4096)), false⟩]
theorem d3x3 : segRun prog (T.memoF memoL) 755 [91, 194, 195, 196, 197, 198] [16] d3x3f d3 = some ((e3.sub (look d3x3s) d3x3f).setNext 1203) := by kernel_rfl
theorem d3x3k : (Nat.ble d3.h.next e3.h.next && tidy e3.h.next (e3.sub (look d3x3s) d3x3f) && calm e3) = true := by decide +kernel
def d3y1s : List (Nat × Trm) := []
def d3y1f : List Fact := [⟨.eql, (.var 20), (.con (.ofNat 4096)), false⟩, ⟨.neq, (.var 22), (.con (.ofNat 0)), false⟩, ⟨.eql, (.op .add .i64 (.var 20) (.con (.ofNat 1))), (.con (.ofNat 4096)), true⟩, ⟨.leq, (.op .add .i64 (.op .mul .i64 (.con (.ofNat 4)) (.wrp .i64 (.op .rem .u16 (.var 0) (.con (.ofNat 1101))))) (.con (.ofNat 6))), (.con (.ofNat 4096)), false⟩, ⟨.neq, (.op .add .i64 (.var 20) (.con (.ofNat 1))), (.con (.ofNat 4096)), false⟩]
theorem d3y1 : segRun prog (T.memoF memoL) 246 [91, 194, 195, 196, 197, 198] [16] d3y1f d3 = some ((e3.sub (look d3y1s) d3y1f).setNext 1199) := by kernel_rfl
theorem d3y1k : (Nat.ble d3.h.next e3.h.next && tidy e3.h.next (e3.sub (look d3y1s) d3y1f) && calm e3) = true := by decide +kernel
def d3y2s : List (Nat × Trm) := []
def d3y2f : List Fact := [⟨.eql, (.var 20), (.con (.ofNat 4096)), false⟩, ⟨.neq, (.var 22), (.con (.ofNat 0)), false⟩, ⟨.eql, (.op .add .i64 (.var 20) (.con (.ofNat 1))), (.con (.ofNat 4096)), false⟩, ⟨.eql, (.op .add .i64 (.op .add .i64 (.var 20) (.con (.ofNat 1))) (.con (.ofNat 1))), (.con (.ofNat 4096)), true⟩, ⟨.leq, (.op .add .i64 (.op .mul .i64 (.con (.ofNat 4)) (.wrp .i64 (.op .rem .u16 (.var 0) (.con (.ofNat 1101))))) (.con (.ofNat 6))), (.con (.ofNat 4096)), false⟩, ⟨.neq, (.op .add .i64 (.op .add .i64 (.var 20) (.con (.ofNat 1))) (.con (.ofNat 1))), (.con (.ofNat 4096)), false⟩]
theorem d3y2 : segRun prog (T.memoF memoL) 433 [91, 194, 195, 196, 197, 198] [16] d3y2f d3 = some ((e3.sub (look d3y2s) d3y2f).setNext 1203) := by kernel_rfl
theorem d3y2k : (Nat.ble d3.h.next e3.h.next && tidy e3.h.next (e3.sub (look d3y2s) d3y2f) && calm e3) = true := by decide +kernel
end
end Go.Abs

