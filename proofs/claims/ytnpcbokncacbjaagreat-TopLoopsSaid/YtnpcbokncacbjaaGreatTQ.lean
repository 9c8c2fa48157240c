/- The loops of TopLoops, one turn after the other. -/
import Derived.Test.YtnpcbokncacbjaaGreatTP
import Derived.Test.YtnpcbokncacbjaaGreatTL
import Derived.Test.YtnpcbokncacbjaaGreatTG0
import Derived.Test.YtnpcbokncacbjaaGreatTG1
import Derived.Test.YtnpcbokncacbjaaGreatTG2
import Derived.Test.YtnpcbokncacbjaaGreatTG3
import Derived.Test.YtnpcbokncacbjaaGreatTG4
import Derived.Test.YtnpcbokncacbjaaGreatTG5
import Derived.Test.YtnpcbokncacbjaaGreatTG6
set_option linter.all false
set_option linter.unusedVariables false
set_option linter.unusedSimpArgs false
set_option maxRecDepth 1000000
namespace Go.Abs
theorem hM : T.MemoOk prog (T.memoF memoL) := T.memo_ok (n := 10) hN hmix live_summed (by decide +kernel)
def kT : Trm := .wrp .i64 (.op .rem .u16 (.var 0) (.con (.ofNat 1101)))
def xT : Trm := .wrp .i64 (.op .rem .u16 (.var 1) (.con (.ofNat 2001)))
def yT : Trm := .wrp .i64 (.op .rem .u16 (.var 2) (.con (.ofNat 2001)))
def needT : Trm := .op .add .i64 (.op .mul .i64 (.con (.ofNat 4)) kT) (.con (.ofNat 6))
def sumT : Trm := .op .quo .i64 (.op .mul .i64 kT (.op .add .i64 kT (.con (.ofNat 1)))) (.con (.ofNat 2))
def most (t : Trm) : Trm := .mx (.con (.ofNat 0)) (.mn t (.con (.ofNat 4096)))
def F1t : Trm := most (.var 3)
def F2t : Trm := most needT
def F3t : Trm := .con (.ofNat 4096)
def F5t : Trm := most (.var 6)
theorem out_of {n nE : Nat} {keep : List Nat} {lt : List Tmp} {fs : List Fact} {S D : AM} (hrun : segRun prog (T.memoF memoL) n keep lt fs S = some ((D.sub (look []) fs).setNext nE)) (hok : (Nat.ble S.h.next D.h.next && tidy D.h.next (D.sub (look []) fs) && calm D) = true) : Out prog S D fs :=
  fun g hf => seg_comes hN hmix hM hrun hok hf
theorem most_aux (z w v : Int) (hw : w = if 4096 < z then 4096 else z) (hv : v = if w > 0 then w else 0) : 0 ≤ v ∧ v ≤ 4096 ∧ (0 ≤ z → z ≤ 4096 → v = z) ∧ (4096 < z → v = 4096) := by
  by_cases h : 4096 < z
  · rw [if_pos h] at hw; subst hw; rw [if_pos (by omega)] at hv; omega
  · rw [if_neg h] at hw; subst hw
    by_cases h2 : w > 0
    · rw [if_pos h2] at hv; omega
    · rw [if_neg h2] at hv; omega
theorem most_eval (t : Trm) (g : Nat → Int) : 0 ≤ (most t).eval g ∧ (most t).eval g ≤ 4096 ∧ (0 ≤ t.eval g → t.eval g ≤ 4096 → (most t).eval g = t.eval g) ∧ (4096 < t.eval g → (most t).eval g = 4096) :=
  most_aux (t.eval g) _ _ rfl rfl
/-- the low numbers as they are at first -/
structure Base (g : Nat → Int) (n x y : Nat) : Prop where
  e0 : g 0 = n
  e1 : g 1 = x
  e2 : g 2 = y
  bn : n ≤ 65535
  bx : x ≤ 65535
  by_ : y ≤ 65535
theorem Base.low {g g' : Nat → Int} {n x y : Nat} (b : Base g n x y) (h : low g g') : Base g' n x y := ⟨(h 0 (by omega)).trans b.e0, (h 1 (by omega)).trans b.e1, (h 2 (by omega)).trans b.e2, b.bn, b.bx, b.by_⟩
theorem mod_eval {g : Nat → Int} {i m v : Nat} (h : g i = v) (hm : m ≠ 0) (hm2 : m ≤ 5000) : (Trm.wrp .i64 (.op .rem .u16 (.var i) (.con (.ofNat m)))).eval g = ((v % m : Nat) : Int) := by
  have : Int.ofNat m ≠ 0 := by simp; exact hm
  have hlt := Nat.mod_lt v (by omega : m > 0)
  simp only [Trm.eval, opI_rem _ _ _ this, h]
  rw [show ((v : Int).tmod (Int.ofNat m)) = ((v % m : Nat) : Int) from (Int.ofNat_tmod v m).symm, wrap64 (by omega) (by omega)]
theorem kT_eval {g : Nat → Int} {n x y : Nat} (b : Base g n x y) : kT.eval g = ((n % 1101 : Nat) : Int) := mod_eval b.e0 (by omega) (by omega)
theorem xT_eval {g : Nat → Int} {n x y : Nat} (b : Base g n x y) : xT.eval g = ((x % 2001 : Nat) : Int) := mod_eval b.e1 (by omega) (by omega)
theorem yT_eval {g : Nat → Int} {n x y : Nat} (b : Base g n x y) : yT.eval g = ((y % 2001 : Nat) : Int) := mod_eval b.e2 (by omega) (by omega)
theorem needT_eval {g : Nat → Int} {n x y : Nat} (b : Base g n x y) : needT.eval g = 4 * ((n % 1101 : Nat) : Int) + 6 := by
  have hk := kT_eval b
  have hlt := Nat.mod_lt n (by omega : 1101 > 0)
  simp only [needT, Trm.eval, hk, opI_mul, opI_add]
  rw [show Int.ofNat 4 = 4 from rfl, show Int.ofNat 6 = 6 from rfl, wrap64 (n := 4 * _) (by omega) (by omega), wrap64 (by omega) (by omega)]
theorem sumT_eval {g : Nat → Int} {n x y : Nat} (b : Base g n x y) : 2 * sumT.eval g = ((n % 1101 : Nat) : Int) * (((n % 1101 : Nat) : Int) + 1) := by
  have hk := kT_eval b
  have hlt := Nat.mod_lt n (by omega : 1101 > 0)
  generalize hkk : n % 1101 = k at hk hlt
  have e1 : (0 : Int) ≤ (k : Int) * ((k : Int) + 1) := Int.mul_nonneg (by omega) (by omega)
  have e2 : (k : Int) * ((k : Int) + 1) ≤ 1101 * 1102 := by
    have h1 : (k : Int) * ((k : Int) + 1) ≤ 1101 * ((k : Int) + 1) := Int.mul_le_mul_of_nonneg_right (by omega) (by omega)
    omega
  have ev : ((k : Int) * ((k : Int) + 1)) % 2 = 0 := by
    have : ((k * (k + 1) : Nat) : Int) % 2 = 0 := by
      have h := Nat.mod_two_eq_zero_or_one k
      have : (k * (k + 1)) % 2 = 0 := by
        rw [Nat.mul_mod]
        rcases h with h | h
        · rw [h]; simp
        · rw [show (k + 1) % 2 = 0 by omega]; simp
      omega
    simpa using this
  simp only [sumT, Trm.eval, hk, opI_mul, opI_add, opI_quo _ _ (Int.ofNat 2) (by decide)]
  rw [show Int.ofNat 1 = 1 from rfl, show Int.ofNat 2 = 2 from rfl, wrap64 (n := (k : Int) + 1) (by omega) (by omega), wrap64 (n := (k : Int) * _) (by omega) (by omega), wrap64]
  · rw [Int.tdiv_eq_ediv_of_nonneg e1]; omega
  · rw [Int.tdiv_eq_ediv_of_nonneg e1]; omega
  · rw [Int.tdiv_eq_ediv_of_nonneg e1]; omega

theorem sum1 : ∀ (j : Nat) (g : Nat → Int), g 22 = j → j ≤ 2000 → 0 ≤ g 20 → g 20 ≤ F1t.eval g → F1t.eval g ≤ 4096 → needT.eval g = g 20 + 4 * j + 3 → 0 ≤ g 21 → g 21 ≤ 100000000 - 2000 * j → 2 * sumT.eval g = 2 * g 21 + j * (j + 1) → ∃ g', ComesV prog d1 g e1 g' ∧ low g g' :=
  sum_run (F := F1t) (N := needT) (S := sumT) (by decide) (by decide) (by decide) (fun g h => seg_comes hN hmix hM d1D d1Dk h) (out_of d1ok d1okk) (out_of d1x0 d1x0k) (out_of d1x1 d1x1k) (out_of d1x2 d1x2k) (out_of d1x3 d1x3k) (out_of d1y1 d1y1k) (out_of d1y2 d1y2k)

theorem sum2 : ∀ (j : Nat) (g : Nat → Int), g 22 = j → j ≤ 2000 → 0 ≤ g 20 → g 20 ≤ F2t.eval g → F2t.eval g ≤ 4096 → needT.eval g = g 20 + 4 * j + 3 → 0 ≤ g 21 → g 21 ≤ 100000000 - 2000 * j → 2 * sumT.eval g = 2 * g 21 + j * (j + 1) → ∃ g', ComesV prog d2 g e2 g' ∧ low g g' :=
  sum_run (F := F2t) (N := needT) (S := sumT) (by decide) (by decide) (by decide) (fun g h => seg_comes hN hmix hM d2D d2Dk h) (out_of d2ok d2okk) (out_of d2x0 d2x0k) (out_of d2x1 d2x1k) (out_of d2x2 d2x2k) (out_of d2x3 d2x3k) (out_of d2y1 d2y1k) (out_of d2y2 d2y2k)

theorem sum3 : ∀ (j : Nat) (g : Nat → Int), g 22 = j → j ≤ 2000 → 0 ≤ g 20 → g 20 ≤ F3t.eval g → F3t.eval g ≤ 4096 → needT.eval g = g 20 + 4 * j + 3 → 0 ≤ g 21 → g 21 ≤ 100000000 - 2000 * j → 2 * sumT.eval g = 2 * g 21 + j * (j + 1) → ∃ g', ComesV prog d3 g e3 g' ∧ low g g' :=
  sum_run (F := F3t) (N := needT) (S := sumT) (by decide) (by decide) (by decide) (fun g h => seg_comes hN hmix hM d3D d3Dk h) (out_of d3ok d3okk) (out_of d3x0 d3x0k) (out_of d3x1 d3x1k) (out_of d3x2 d3x2k) (out_of d3x3 d3x3k) (out_of d3y1 d3y1k) (out_of d3y2 d3y2k)

theorem div4 {a b c r : Nat} (hG : G a b c r) : ∀ (g : Nat → Int), g 23 = a → g 21 = b → a ≤ 100000 → b ≤ 100000 → 0 ≤ g 20 → g 20 ≤ F1t.eval g → F1t.eval g ≤ 4096 → (Trm.var 6).eval g = g 20 + 6 * c + 3 → (Trm.var 5).eval g = r → ∃ g', ComesV prog d4 g e4 g' ∧ low g g' :=
  div_run (F := F1t) (N := .var 6) (V := .var 5) (by decide) (by decide) (by decide) (fun g h => seg_comes hN hmix hM d4D d4Dk h) (out_of d4ok d4okk) (out_of d4x0 d4x0k) (out_of d4x1 d4x1k) (out_of d4x2 d4x2k) (out_of d4x3 d4x3k) (out_of d4x4 d4x4k) (out_of d4x5 d4x5k) (out_of d4y1 d4y1k) (out_of d4y2 d4y2k) hG

theorem div5 {a b c r : Nat} (hG : G a b c r) : ∀ (g : Nat → Int), g 23 = a → g 21 = b → a ≤ 100000 → b ≤ 100000 → 0 ≤ g 20 → g 20 ≤ F5t.eval g → F5t.eval g ≤ 4096 → (Trm.var 6).eval g = g 20 + 6 * c + 3 → (Trm.var 5).eval g = r → ∃ g', ComesV prog d5 g e5 g' ∧ low g g' :=
  div_run (F := F5t) (N := .var 6) (V := .var 5) (by decide) (by decide) (by decide) (fun g h => seg_comes hN hmix hM d5D d5Dk h) (out_of d5ok d5okk) (out_of d5x0 d5x0k) (out_of d5x1 d5x1k) (out_of d5x2 d5x2k) (out_of d5x3 d5x3k) (out_of d5x4 d5x4k) (out_of d5x5 d5x5k) (out_of d5y1 d5y1k) (out_of d5y2 d5y2k) hG

theorem div6 {a b c r : Nat} (hG : G a b c r) : ∀ (g : Nat → Int), g 23 = a → g 21 = b → a ≤ 100000 → b ≤ 100000 → 0 ≤ g 20 → g 20 ≤ F3t.eval g → F3t.eval g ≤ 4096 → (Trm.var 6).eval g = g 20 + 6 * c + 3 → (Trm.var 5).eval g = r → ∃ g', ComesV prog d6 g e6 g' ∧ low g g' :=
  div_run (F := F3t) (N := .var 6) (V := .var 5) (by decide) (by decide) (by decide) (fun g h => seg_comes hN hmix hM d6D d6Dk h) (out_of d6ok d6okk) (out_of d6x0 d6x0k) (out_of d6x1 d6x1k) (out_of d6x2 d6x2k) (out_of d6x3 d6x3k) (out_of d6x4 d6x4k) (out_of d6x5 d6x5k) (out_of d6y1 d6y1k) (out_of d6y2 d6y2k) hG
end Go.Abs

