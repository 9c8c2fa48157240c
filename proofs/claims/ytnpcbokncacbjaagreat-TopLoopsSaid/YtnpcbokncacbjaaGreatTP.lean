/- The plain law of the loops. -/
import Derived.Test.YtnpcbokncacbjaaGreatTAg
set_option linter.all false
set_option linter.unusedVariables false
set_option linter.unusedSimpArgs false
namespace Go.Abs
/-! the plain law of TopLoops' runs -/
theorem wrap64 {n : Int} (h1 : -9223372036854775808 ≤ n) (h2 : n < 9223372036854775808) : IntKind.wrap .i64 n = n := by
  have e1 : (2 : Int) ^ (IntKind.bits .i64) = 18446744073709551616 := by decide
  have e2 : (2 : Int) ^ (IntKind.bits .i64 - 1) = 9223372036854775808 := by decide
  have e3 : IntKind.signed .i64 = true := rfl
  unfold IntKind.wrap
  simp only [e1, e2, e3, Bool.true_and, decide_eq_true_eq]
  split <;> omega
theorem opI_add (x y : Int) : opI .add .i64 x y = IntKind.wrap .i64 (x + y) := rfl
theorem opI_sub (x y : Int) : opI .sub .i64 x y = IntKind.wrap .i64 (x - y) := rfl
theorem opI_mul (x y : Int) : opI .mul .i64 x y = IntKind.wrap .i64 (x * y) := rfl
theorem opI_rem (k : IntKind) (x y : Int) (h : y ≠ 0) : opI .rem k x y = x.tmod y := by simp [opI, intBin, h]
theorem opI_quo (k : IntKind) (x y : Int) (h : y ≠ 0) : opI .quo k x y = k.wrap (x.tdiv y) := by simp [opI, intBin, h]
theorem cmp_eql (x y : Int) : cmpI .eql x y = (x == y) := rfl
theorem cmp_neq (x y : Int) : cmpI .neq x y = (x != y) := rfl
theorem cmp_leq (x y : Int) : cmpI .leq x y = decide (x ≤ y) := rfl

/-- a number of steps further -/
def inc : Nat → Trm → Trm
  | 0, t => t
  | n + 1, t => .op .add .i64 (inc n t) (.con (.ofNat 1))
theorem inc_eval {g : Nat → Int} {t : Trm} (h1 : 0 ≤ t.eval g) : ∀ d : Nat, t.eval g + d < 9223372036854775808 → (inc d t).eval g = t.eval g + d
  | 0, _ => by simp [inc]
  | d + 1, h => by
    have ih := inc_eval h1 d (by omega)
    simp only [inc, Trm.eval, ih, opI_add]
    rw [show Int.ofNat 1 = 1 from rfl, wrap64 (by omega) (by omega)]
    omega
def chk (F : Trm) (d : Nat) (r : Bool) : Fact := ⟨.eql, inc d (.var 20), F, r⟩
def tst (v : Nat) (r : Bool) : Fact := ⟨.neq, .var v, .con (.ofNat 0), r⟩
def endF (F : Trm) (d : Nat) : Fact := ⟨.neq, inc d (.var 20), F, false⟩
def leF (N F : Trm) (r : Bool) : Fact := ⟨.leq, N, F, r⟩
variable {g : Nat → Int} {F N : Trm}
theorem chk_no {d : Nat} (h0 : 0 ≤ g 20) (h1 : g 20 + d < 9223372036854775808) (h : g 20 + d ≠ F.eval g) : (chk F d false).holds g := by
  have := inc_eval (g := g) (t := .var 20) h0 d h1
  simp only [Trm.eval] at this
  simp only [Fact.holds, chk, this, cmp_eql]
  simp; exact h
theorem chk_yes {d : Nat} (h0 : 0 ≤ g 20) (h1 : g 20 + d < 9223372036854775808) (h : g 20 + d = F.eval g) : (chk F d true).holds g := by
  have := inc_eval (g := g) (t := .var 20) h0 d h1
  simp only [Trm.eval] at this
  simp only [Fact.holds, chk, this, cmp_eql]
  simp [h]
theorem endF_yes {d : Nat} (h0 : 0 ≤ g 20) (h1 : g 20 + d < 9223372036854775808) (h : g 20 + d = F.eval g) : (endF F d).holds g := by
  have := inc_eval (g := g) (t := .var 20) h0 d h1
  simp only [Trm.eval] at this
  simp only [Fact.holds, endF, this, cmp_neq]
  simp [h]
theorem tst_yes {v : Nat} (h : g v ≠ 0) : (tst v true).holds g := by
  simp only [Fact.holds, tst, Trm.eval, cmp_neq]; simpa using h
theorem tst_no {v : Nat} (h : g v = 0) : (tst v false).holds g := by
  simp only [Fact.holds, tst, Trm.eval, cmp_neq]; simp [h]
theorem leF_no (h : F.eval g < N.eval g) : (leF N F false).holds g := by
  simp only [Fact.holds, leF, cmp_leq]; simp; omega
theorem leF_yes (h : N.eval g ≤ F.eval g) : (leF N F true).holds g := by
  simp only [Fact.holds, leF, cmp_leq]; simp; omega

theorem allC {α : Type} {p : α → Prop} {a : α} {l : List α} (h : p a) (t : ∀ f ∈ l, p f) : ∀ f ∈ a :: l, p f := by
  intro f hf
  rcases List.mem_cons.1 hf with rfl | h'
  · exact h
  · exact t f h'
theorem allN {α : Type} {p : α → Prop} : ∀ f ∈ ([] : List α), p f := fun f hf => by cases hf
/-- the numbers below 20 are the same -/
def low (g g' : Nat → Int) : Prop := ∀ i, i < 20 → g' i = g i
theorem low.refl (g : Nat → Int) : low g g := fun _ _ => rfl
theorem low.trans {a b c : Nat → Int} (h : low a b) (h' : low b c) : low a c := fun i hi => (h' i hi).trans (h i hi)
/-- a term of numbers below 20 -/
def isLow : Trm → Bool
  | .var i => Nat.blt i 20
  | .con _ => true
  | .op _ _ a b => isLow a && isLow b
  | .wrp _ a => isLow a
  | .mn a b => isLow a && isLow b
  | .mx a b => isLow a && isLow b
theorem low_eval {g g' : Nat → Int} (h : low g g') : ∀ {t : Trm}, isLow t = true → t.eval g' = t.eval g
  | .var i, e => h i (lt_of_blt e)
  | .con n, _ => rfl
  | .op o k a b, e => by simp only [isLow, Bool.and_eq_true] at e; simp only [Trm.eval, low_eval h e.1, low_eval h e.2]
  | .wrp k a, e => by simp only [isLow] at e; simp only [Trm.eval, low_eval h e]
  | .mn a b, e => by simp only [isLow, Bool.and_eq_true] at e; simp only [Trm.eval, low_eval h e.1, low_eval h e.2]
  | .mx a b, e => by simp only [isLow, Bool.and_eq_true] at e; simp only [Trm.eval, low_eval h e.1, low_eval h e.2]

/-! the sum -/
def sTurn : List (Nat × Trm) := [(20, inc 4 (.var 20)), (21, .op .add .i64 (.var 21) (.var 22)), (22, .op .sub .i64 (.var 22) (.con (.ofNat 1)))]
def sLoop (F : Trm) : List Fact := [chk F 0 false, tst 22 true, chk F 1 false, chk F 2 false, chk F 3 false]
def sOk (F N S : Trm) : List Fact := [chk F 0 false, tst 22 false, chk F 1 false, chk F 2 false, leF N F true, ⟨.neq, inc 3 (.var 20), N, false⟩, ⟨.neq, .var 21, S, false⟩]
def sX0 (F N : Trm) : List Fact := [chk F 0 true, leF N F false, endF F 0]
def sX1 (F N : Trm) : List Fact := [chk F 0 false, tst 22 true, chk F 1 true, leF N F false, endF F 1]
def sX2 (F N : Trm) : List Fact := [chk F 0 false, tst 22 true, chk F 1 false, chk F 2 true, leF N F false, endF F 2]
def sX3 (F N : Trm) : List Fact := [chk F 0 false, tst 22 true, chk F 1 false, chk F 2 false, chk F 3 true, leF N F false, endF F 3]
def sY1 (F N : Trm) : List Fact := [chk F 0 false, tst 22 false, chk F 1 true, leF N F false, endF F 1]
def sY2 (F N : Trm) : List Fact := [chk F 0 false, tst 22 false, chk F 1 false, chk F 2 true, leF N F false, endF F 2]
/-- with these facts the run ends at E, the numbers as they were -/
def Out (P : Program) (D E : AM) (fs : List Fact) : Prop := ∀ g, (∀ f ∈ fs, f.holds g) → ComesV P D g E g

set_option maxRecDepth 100000 in
theorem sum_run {P : Program} {D E : AM} {F N S : Trm} (lF : isLow F = true) (lN : isLow N = true) (lS : isLow S = true)
    (hl : ∀ g, (∀ f ∈ sLoop F, f.holds g) → ComesV P D g D (fun i => (look sTurn i).eval g)) (hok : Out P D E (sOk F N S)) (h0 : Out P D E (sX0 F N)) (h1 : Out P D E (sX1 F N)) (h2 : Out P D E (sX2 F N)) (h3 : Out P D E (sX3 F N)) (y1 : Out P D E (sY1 F N)) (y2 : Out P D E (sY2 F N)) :
    ∀ (j : Nat) (g : Nat → Int), g 22 = j → j ≤ 2000 → 0 ≤ g 20 → g 20 ≤ F.eval g → F.eval g ≤ 4096 → N.eval g = g 20 + 4 * j + 3 → 0 ≤ g 21 → g 21 ≤ 100000000 - 2000 * j → 2 * S.eval g = 2 * g 21 + j * (j + 1) → ∃ g', ComesV P D g E g' ∧ low g g' := by
  intro j
  induction j with
  | zero =>
    intro g hj _ p0 p1 p2 pN q0 q1 pS
    by_cases c0 : g 20 = F.eval g
    · exact ⟨g, h0 g (allC (chk_yes p0 (by omega) (by simpa using c0)) (allC (leF_no (by omega)) (allC (endF_yes p0 (by omega) (by simpa using c0)) allN))), low.refl _⟩
    by_cases c1 : g 20 + 1 = F.eval g
    · exact ⟨g, y1 g (allC (chk_no p0 (by omega) (by simpa using c0)) (allC (tst_no (by simpa using hj)) (allC (chk_yes p0 (by omega) (by simpa using c1)) (allC (leF_no (by omega)) (allC (endF_yes p0 (by omega) (by simpa using c1)) allN))))), low.refl _⟩
    by_cases c2 : g 20 + 2 = F.eval g
    · exact ⟨g, y2 g (allC (chk_no p0 (by omega) (by simpa using c0)) (allC (tst_no (by simpa using hj)) (allC (chk_no p0 (by omega) (by simpa using c1)) (allC (chk_yes p0 (by omega) (by simpa using c2)) (allC (leF_no (by omega)) (allC (endF_yes p0 (by omega) (by simpa using c2)) allN)))))), low.refl _⟩
    refine ⟨g, hok g ?_, low.refl _⟩
    intro f hf
    simp only [sOk, List.mem_cons, List.not_mem_nil, or_false] at hf
    rcases hf with rfl | rfl | rfl | rfl | rfl | rfl | rfl
    · exact chk_no p0 (by omega) (by simpa using c0)
    · exact tst_no (by simpa using hj)
    · exact chk_no p0 (by omega) (by simpa using c1)
    · exact chk_no p0 (by omega) (by simpa using c2)
    · exact leF_yes (by omega)
    · have := inc_eval (g := g) (t := .var 20) p0 3 (by simp only [Trm.eval]; omega)
      simp only [Trm.eval] at this
      simp only [Fact.holds, this, cmp_neq, pN]; simp
    · simp only [Fact.holds, Trm.eval, cmp_neq]; simp; omega
  | succ j ih =>
    intro g hj hb p0 p1 p2 pN q0 q1 pS
    have hz : g 22 ≠ 0 := by omega
    by_cases c0 : g 20 = F.eval g
    · exact ⟨g, h0 g (allC (chk_yes p0 (by omega) (by simpa using c0)) (allC (leF_no (by omega)) (allC (endF_yes p0 (by omega) (by simpa using c0)) allN))), low.refl _⟩
    by_cases c1 : g 20 + 1 = F.eval g
    · exact ⟨g, h1 g (allC (chk_no p0 (by omega) (by simpa using c0)) (allC (tst_yes hz) (allC (chk_yes p0 (by omega) (by simpa using c1)) (allC (leF_no (by omega)) (allC (endF_yes p0 (by omega) (by simpa using c1)) allN))))), low.refl _⟩
    by_cases c2 : g 20 + 2 = F.eval g
    · exact ⟨g, h2 g (allC (chk_no p0 (by omega) (by simpa using c0)) (allC (tst_yes hz) (allC (chk_no p0 (by omega) (by simpa using c1)) (allC (chk_yes p0 (by omega) (by simpa using c2)) (allC (leF_no (by omega)) (allC (endF_yes p0 (by omega) (by simpa using c2)) allN)))))), low.refl _⟩
    by_cases c3 : g 20 + 3 = F.eval g
    · exact ⟨g, h3 g (allC (chk_no p0 (by omega) (by simpa using c0)) (allC (tst_yes hz) (allC (chk_no p0 (by omega) (by simpa using c1)) (allC (chk_no p0 (by omega) (by simpa using c2)) (allC (chk_yes p0 (by omega) (by simpa using c3)) (allC (leF_no (by omega)) (allC (endF_yes p0 (by omega) (by simpa using c3)) allN))))))), low.refl _⟩
    have ht := hl g (allC (chk_no p0 (by omega) (by simpa using c0)) (allC (tst_yes hz) (allC (chk_no p0 (by omega) (by simpa using c1)) (allC (chk_no p0 (by omega) (by simpa using c2)) (allC (chk_no p0 (by omega) (by simpa using c3)) allN)))))
    generalize hg2 : (fun i => (look sTurn i).eval g) = g2 at ht
    have e20 : g2 20 = g 20 + 4 := by
      have := inc_eval (g := g) (t := .var 20) p0 4 (by simp only [Trm.eval]; omega)
      rw [← hg2]; exact this
    have e21 : g2 21 = g 21 + g 22 := by rw [← hg2]; show opI .add .i64 (g 21) (g 22) = _; rw [opI_add, wrap64 (by omega) (by omega)]
    have e22 : g2 22 = j := by rw [← hg2]; show opI .sub .i64 (g 22) (Int.ofNat 1) = _; rw [opI_sub, show Int.ofNat 1 = 1 from rfl, wrap64 (by omega) (by omega)]; omega
    have hlow : low g g2 := by
      intro i hi
      rw [← hg2]
      show (look sTurn i).eval g = g i
      have a1 : Nat.beq 20 i = false := beq_ne (by omega)
      have a2 : Nat.beq 21 i = false := beq_ne (by omega)
      have a3 : Nat.beq 22 i = false := beq_ne (by omega)
      simp only [look, sTurn, a1, a2, a3, Trm.eval]
    have eF := low_eval hlow lF
    have eN := low_eval hlow lN
    have eS := low_eval hlow lS
    have sq : ((j : Int) + 1) * ((j : Int) + 1 + 1) = (j : Int) * ((j : Int) + 1) + 2 * ((j : Int) + 1) := by
      rw [Int.add_mul, Int.mul_add, Int.mul_add]; simp; omega
    obtain ⟨g3, h4, h5⟩ := ih g2 e22 (by omega) (by omega) (by omega) (by omega) (by rw [eN, pN, e20]; push_cast; omega) (by omega) (by rw [e21]; push_cast at *; omega) (by rw [eS, e21]; push_cast at *; rw [sq] at pS; omega)
    exact ⟨g3, ht.trans h4, hlow.trans h5⟩
end Go.Abs

set_option linter.unusedVariables false
set_option linter.unusedSimpArgs false
namespace Go.Abs
/-! the divisor -/
inductive G : Nat → Nat → Nat → Nat → Prop where
  | zero (a : Nat) : G a 0 0 a
  | succ {a b c r : Nat} (h : b ≠ 0) (t : G b (a % b) c r) : G a b (c + 1) r
theorem G.ex : ∀ (b a : Nat), ∃ c r, G a b c r ∧ c ≤ b := by
  intro b
  induction b using Nat.strongRecOn with
  | ind b ih =>
    intro a
    by_cases h : b = 0
    · subst h; exact ⟨0, a, .zero a, Nat.le_refl _⟩
    · obtain ⟨c, r, h1, h2⟩ := ih (a % b) (Nat.mod_lt _ (by omega)) b
      have := Nat.mod_lt a (by omega : b > 0)
      exact ⟨c + 1, r, .succ h h1, by omega⟩
def dTurn : List (Nat × Trm) := [(20, inc 6 (.var 20)), (21, .op .rem .i64 (.var 23) (.var 21)), (22, .op .rem .i64 (.var 23) (.var 21)), (23, .var 21)]
def nz : Fact := ⟨.eql, .var 21, .con (.ofNat 0), false⟩
def nm : Fact := ⟨.eql, .var 23, .con (.negSucc 9223372036854775807), false⟩
def dLoop (F : Trm) : List Fact := [chk F 0 false, tst 21 true, chk F 1 false, chk F 2 false, nz, nm, chk F 3 false, chk F 4 false, chk F 5 false]
def dOk (F N V : Trm) : List Fact := [chk F 0 false, tst 21 false, chk F 1 false, chk F 2 false, leF N F true, ⟨.neq, inc 3 (.var 20), N, false⟩, ⟨.neq, .var 23, V, false⟩]
def dX0 (F N : Trm) : List Fact := [chk F 0 true, leF N F false, endF F 0]
def dX1 (F N : Trm) : List Fact := [chk F 0 false, tst 21 true, chk F 1 true, leF N F false, endF F 1]
def dX2 (F N : Trm) : List Fact := [chk F 0 false, tst 21 true, chk F 1 false, chk F 2 true, leF N F false, endF F 2]
def dX3 (F N : Trm) : List Fact := [chk F 0 false, tst 21 true, chk F 1 false, chk F 2 false, nz, nm, chk F 3 true, leF N F false, endF F 3]
def dX4 (F N : Trm) : List Fact := [chk F 0 false, tst 21 true, chk F 1 false, chk F 2 false, nz, nm, chk F 3 false, chk F 4 true, leF N F false, endF F 4]
def dX5 (F N : Trm) : List Fact := [chk F 0 false, tst 21 true, chk F 1 false, chk F 2 false, nz, nm, chk F 3 false, chk F 4 false, chk F 5 true, leF N F false, endF F 5]
def dY1 (F N : Trm) : List Fact := [chk F 0 false, tst 21 false, chk F 1 true, leF N F false, endF F 1]
def dY2 (F N : Trm) : List Fact := [chk F 0 false, tst 21 false, chk F 1 false, chk F 2 true, leF N F false, endF F 2]
theorem div_run {P : Program} {D E : AM} {F N V : Trm} (lF : isLow F = true) (lN : isLow N = true) (lV : isLow V = true)
    (hl : ∀ g, (∀ f ∈ dLoop F, f.holds g) → ComesV P D g D (fun i => (look dTurn i).eval g)) (hok : Out P D E (dOk F N V))
    (h0 : Out P D E (dX0 F N)) (h1 : Out P D E (dX1 F N)) (h2 : Out P D E (dX2 F N)) (h3 : Out P D E (dX3 F N)) (h4 : Out P D E (dX4 F N)) (h5 : Out P D E (dX5 F N)) (y1 : Out P D E (dY1 F N)) (y2 : Out P D E (dY2 F N)) {a b c r : Nat} (hG : G a b c r) :
    ∀ (g : Nat → Int), g 23 = a → g 21 = b → a ≤ 100000 → b ≤ 100000 → 0 ≤ g 20 → g 20 ≤ F.eval g → F.eval g ≤ 4096 → N.eval g = g 20 + 6 * c + 3 → V.eval g = r → ∃ g', ComesV P D g E g' ∧ low g g' := by
  induction hG with
  | zero a =>
    intro g ha hb la lb p0 p1 p2 pN pV
    have hz : g 21 = 0 := by simpa using hb
    by_cases c0 : g 20 + 0 = F.eval g
    · exact ⟨g, h0 g (allC (chk_yes p0 (by omega) (by simpa using c0)) (allC (leF_no (by omega)) (allC (endF_yes p0 (by omega) (by simpa using c0)) allN))), low.refl _⟩
    by_cases c1 : g 20 + 1 = F.eval g
    · exact ⟨g, y1 g (allC (chk_no p0 (by omega) (by simpa using c0)) (allC (tst_no hz) (allC (chk_yes p0 (by omega) (by simpa using c1)) (allC (leF_no (by omega)) (allC (endF_yes p0 (by omega) (by simpa using c1)) allN))))), low.refl _⟩
    by_cases c2 : g 20 + 2 = F.eval g
    · exact ⟨g, y2 g (allC (chk_no p0 (by omega) (by simpa using c0)) (allC (tst_no hz) (allC (chk_no p0 (by omega) (by simpa using c1)) (allC (chk_yes p0 (by omega) (by simpa using c2)) (allC (leF_no (by omega)) (allC (endF_yes p0 (by omega) (by simpa using c2)) allN)))))), low.refl _⟩
    refine ⟨g, hok g ?_, low.refl _⟩
    refine (allC (chk_no p0 (by omega) (by simpa using c0)) (allC (tst_no hz) (allC (chk_no p0 (by omega) (by simpa using c1)) (allC (chk_no p0 (by omega) (by simpa using c2)) (allC (leF_yes (by omega)) (allC ?_ (allC ?_ allN)))))))
    · have := inc_eval (g := g) (t := .var 20) p0 3 (by simp only [Trm.eval]; omega)
      simp only [Trm.eval] at this
      simp only [Fact.holds, this, cmp_neq, pN]; simp
    · simp only [Fact.holds, Trm.eval, cmp_neq, pV, ha]; simp
  | succ hne hG ih =>
    rename_i a b c r
    intro g ha hb la lb p0 p1 p2 pN pV
    have hz : g 21 ≠ 0 := by omega
    have hnz : nz.holds g := by simp only [Fact.holds, nz, Trm.eval, cmp_eql]; simp; exact hz
    have hnm : nm.holds g := by simp only [Fact.holds, nm, Trm.eval, cmp_eql, ha]; simp
    by_cases c0 : g 20 + 0 = F.eval g
    · exact ⟨g, h0 g (allC (chk_yes p0 (by omega) (by simpa using c0)) (allC (leF_no (by omega)) (allC (endF_yes p0 (by omega) (by simpa using c0)) allN))), low.refl _⟩
    by_cases c1 : g 20 + 1 = F.eval g
    · exact ⟨g, h1 g (allC (chk_no p0 (by omega) (by simpa using c0)) (allC (tst_yes hz) (allC (chk_yes p0 (by omega) (by simpa using c1)) (allC (leF_no (by omega)) (allC (endF_yes p0 (by omega) (by simpa using c1)) allN))))), low.refl _⟩
    by_cases c2 : g 20 + 2 = F.eval g
    · exact ⟨g, h2 g (allC (chk_no p0 (by omega) (by simpa using c0)) (allC (tst_yes hz) (allC (chk_no p0 (by omega) (by simpa using c1)) (allC (chk_yes p0 (by omega) (by simpa using c2)) (allC (leF_no (by omega)) (allC (endF_yes p0 (by omega) (by simpa using c2)) allN)))))), low.refl _⟩
    by_cases c3 : g 20 + 3 = F.eval g
    · exact ⟨g, h3 g (allC (chk_no p0 (by omega) (by simpa using c0)) (allC (tst_yes hz) (allC (chk_no p0 (by omega) (by simpa using c1)) (allC (chk_no p0 (by omega) (by simpa using c2)) (allC (hnz) (allC (hnm) (allC (chk_yes p0 (by omega) (by simpa using c3)) (allC (leF_no (by omega)) (allC (endF_yes p0 (by omega) (by simpa using c3)) allN))))))))), low.refl _⟩
    by_cases c4 : g 20 + 4 = F.eval g
    · exact ⟨g, h4 g (allC (chk_no p0 (by omega) (by simpa using c0)) (allC (tst_yes hz) (allC (chk_no p0 (by omega) (by simpa using c1)) (allC (chk_no p0 (by omega) (by simpa using c2)) (allC (hnz) (allC (hnm) (allC (chk_no p0 (by omega) (by simpa using c3)) (allC (chk_yes p0 (by omega) (by simpa using c4)) (allC (leF_no (by omega)) (allC (endF_yes p0 (by omega) (by simpa using c4)) allN)))))))))), low.refl _⟩
    by_cases c5 : g 20 + 5 = F.eval g
    · exact ⟨g, h5 g (allC (chk_no p0 (by omega) (by simpa using c0)) (allC (tst_yes hz) (allC (chk_no p0 (by omega) (by simpa using c1)) (allC (chk_no p0 (by omega) (by simpa using c2)) (allC (hnz) (allC (hnm) (allC (chk_no p0 (by omega) (by simpa using c3)) (allC (chk_no p0 (by omega) (by simpa using c4)) (allC (chk_yes p0 (by omega) (by simpa using c5)) (allC (leF_no (by omega)) (allC (endF_yes p0 (by omega) (by simpa using c5)) allN))))))))))), low.refl _⟩
    have ht := hl g (allC (chk_no p0 (by omega) (by simpa using c0)) (allC (tst_yes hz) (allC (chk_no p0 (by omega) (by simpa using c1)) (allC (chk_no p0 (by omega) (by simpa using c2)) (allC (hnz) (allC (hnm) (allC (chk_no p0 (by omega) (by simpa using c3)) (allC (chk_no p0 (by omega) (by simpa using c4)) (allC (chk_no p0 (by omega) (by simpa using c5)) allN)))))))))
    generalize hg2 : (fun i => (look dTurn i).eval g) = g2 at ht
    have e20 : g2 20 = g 20 + 6 := by
      have := inc_eval (g := g) (t := .var 20) p0 6 (by simp only [Trm.eval]; omega)
      rw [← hg2]; exact this
    have e21 : g2 21 = (a % b : Nat) := by rw [← hg2]; show opI .rem .i64 (g 23) (g 21) = _; rw [opI_rem _ _ _ hz, ha, hb]; exact (Int.ofNat_tmod a b).symm
    have e23 : g2 23 = b := by rw [← hg2]; exact hb
    have hlow : low g g2 := by
      intro i hi
      rw [← hg2]
      show (look dTurn i).eval g = g i
      have a1 : Nat.beq 20 i = false := beq_ne (by omega)
      have a2 : Nat.beq 21 i = false := beq_ne (by omega)
      have a3 : Nat.beq 22 i = false := beq_ne (by omega)
      have a4 : Nat.beq 23 i = false := beq_ne (by omega)
      simp only [look, dTurn, a1, a2, a3, a4, Trm.eval]
    have eF := low_eval hlow lF
    have eN := low_eval hlow lN
    have eV := low_eval hlow lV
    have hm := Nat.mod_lt a (by omega : b > 0)
    obtain ⟨g3, h6, h7⟩ := ih g2 e23 e21 lb (by omega) (by omega) (by omega) (by omega) (by rw [eN, pN, e20]; push_cast; omega) (by rw [eV]; exact pV)
    exact ⟨g3, ht.trans h6, hlow.trans h7⟩
end Go.Abs

