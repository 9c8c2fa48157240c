/- The whole run of TopLoops. -/
import Derived.Test.YtnpcbokncacbjaaGreatTQ
set_option linter.all false
set_option linter.unusedVariables false
set_option linter.unusedSimpArgs false
set_option maxRecDepth 1000000
namespace Go.Abs
def cchk (F : Trm) (c : Nat) (r : Bool) : Fact := ⟨.eql, .con (.ofNat c), F, r⟩
def cend (F : Trm) (c : Nat) : Fact := ⟨.neq, .con (.ofNat c), F, false⟩
theorem cchk_no {g : Nat → Int} {F : Trm} {c : Nat} (h : (c : Int) ≠ F.eval g) : (cchk F c false).holds g := by
  simp only [Fact.holds, cchk, Trm.eval, cmp_eql]; simpa using h
theorem cchk_yes {g : Nat → Int} {F : Trm} {c : Nat} (h : (c : Int) = F.eval g) : (cchk F c true).holds g := by
  simp only [Fact.holds, cchk, Trm.eval, cmp_eql]; simpa using h
theorem cend_yes {g : Nat → Int} {F : Trm} {c : Nat} (h : (c : Int) = F.eval g) : (cend F c).holds g := by
  simp only [Fact.holds, cend, Trm.eval, cmp_neq]; simp [← h]
def sStart : List (Nat × Trm) := [(20, .con (.ofNat 3)), (21, .con (.ofNat 0)), (22, kT)]
def dStart : List (Nat × Trm) := [(20, .con (.ofNat 2)), (21, yT), (22, .con (.ofNat 0)), (23, xT)]
theorem look_low (l : List (Nat × Trm)) (hl : ∀ p ∈ l, 20 ≤ p.1) (g : Nat → Int) : low g (fun i => (look l i).eval g) := by
  intro i hi
  induction l with
  | nil => rfl
  | cons p l ih =>
    obtain ⟨j, t⟩ := p
    have : Nat.beq j i = false := beq_ne (by have := hl (j, t) List.mem_cons_self; simp at this; omega)
    show (look ((j, t) :: l) i).eval g = g i
    simp only [look, this]
    exact ih fun p hp => hl p (List.mem_cons_of_mem _ hp)
variable {n x y : Nat}
theorem sctx {p d e : AM} {F : Trm} (lF : isLow F = true) (hpD : ∀ g, 3 ≤ F.eval g → ComesV prog p g d (fun i => (look sStart i).eval g))
    (hrun : ∀ (j : Nat) (g : Nat → Int), g 22 = j → j ≤ 2000 → 0 ≤ g 20 → g 20 ≤ F.eval g → F.eval g ≤ 4096 → needT.eval g = g 20 + 4 * j + 3 → 0 ≤ g 21 → g 21 ≤ 100000000 - 2000 * j → 2 * sumT.eval g = 2 * g 21 + j * (j + 1) → ∃ g', ComesV prog d g e g' ∧ low g g')
    (g : Nat → Int) (b : Base g n x y) (h3 : 3 ≤ F.eval g) (h4 : F.eval g ≤ 4096) : ∃ g', ComesV prog p g e g' ∧ low g g' := by
  have ht := hpD g h3
  have hlow := look_low sStart (by decide) g
  generalize hg2 : (fun i => (look sStart i).eval g) = g2 at ht hlow
  have b2 := b.low hlow
  have e20 : g2 20 = 3 := by rw [← hg2]; rfl
  have e21 : g2 21 = 0 := by rw [← hg2]; rfl
  have e22 : g2 22 = ((n % 1101 : Nat) : Int) := by rw [← hg2]; exact kT_eval b
  have eF := low_eval hlow lF
  have hlt := Nat.mod_lt n (by omega : 1101 > 0)
  obtain ⟨g3, h5, h6⟩ := hrun (n % 1101) g2 e22 (by omega) (by omega) (by omega) (by omega) (by rw [needT_eval b2, e20]; omega) (by omega) (by omega) (by rw [sumT_eval b2, e21]; omega)
  exact ⟨g3, ht.trans h5, hlow.trans h6⟩
theorem dctx {p d e : AM} {F : Trm} {c r : Nat} (lF : isLow F = true) (hpD : ∀ g, 2 ≤ F.eval g → ComesV prog p g d (fun i => (look dStart i).eval g))
    (hrun : ∀ (g : Nat → Int), g 23 = (x % 2001 : Nat) → g 21 = (y % 2001 : Nat) → x % 2001 ≤ 100000 → y % 2001 ≤ 100000 → 0 ≤ g 20 → g 20 ≤ F.eval g → F.eval g ≤ 4096 → (Trm.var 6).eval g = g 20 + 6 * c + 3 → (Trm.var 5).eval g = r → ∃ g', ComesV prog d g e g' ∧ low g g')
    (g : Nat → Int) (b : Base g n x y) (hs : g 6 = 6 * c + 5) (hr : g 5 = r) (h3 : 2 ≤ F.eval g) (h4 : F.eval g ≤ 4096) : ∃ g', ComesV prog p g e g' ∧ low g g' := by
  have ht := hpD g h3
  have hlow := look_low dStart (by decide) g
  generalize hg2 : (fun i => (look dStart i).eval g) = g2 at ht hlow
  have e20 : g2 20 = 2 := by rw [← hg2]; rfl
  have e21 : g2 21 = ((y % 2001 : Nat) : Int) := by rw [← hg2]; exact yT_eval b
  have e23 : g2 23 = ((x % 2001 : Nat) : Int) := by rw [← hg2]; exact xT_eval b
  have eF := low_eval hlow lF
  have l1 := Nat.mod_lt x (by omega : 2001 > 0)
  have l2 := Nat.mod_lt y (by omega : 2001 > 0)
  have e6 := hlow 6 (by omega)
  have e5 := hlow 5 (by omega)
  obtain ⟨g3, h5, h6⟩ := hrun g2 e23 e21 (by omega) (by omega) (by omega) (by omega) (by omega) (by simp only [Trm.eval]; omega) (by simp only [Trm.eval]; omega)
  exact ⟨g3, ht.trans h5, hlow.trans h6⟩

theorem ctx1 (g : Nat → Int) (b : Base g n x y) : ∃ g', ComesV prog p1 g e1 g' ∧ low g g' := by
  obtain ⟨m1, m2, _, _⟩ := most_eval (.var 3) g
  have hn := needT_eval b
  by_cases c0 : (0 : Nat) = F1t.eval g
  · exact ⟨g, out_of p1x0 p1x0k g (allC (cchk_yes c0) (allC (leF_no (F := F1t) (N := needT) (by omega)) (allC (cend_yes c0) allN))), low.refl _⟩
  by_cases c1 : (1 : Nat) = F1t.eval g
  · exact ⟨g, out_of p1x1 p1x1k g (allC (cchk_no c0) (allC (cchk_yes c1) (allC (leF_no (F := F1t) (N := needT) (by omega)) (allC (cend_yes c1) allN)))), low.refl _⟩
  by_cases c2 : (2 : Nat) = F1t.eval g
  · exact ⟨g, out_of p1x2 p1x2k g (allC (cchk_no c0) (allC (cchk_no c1) (allC (cchk_yes c2) (allC (leF_no (F := F1t) (N := needT) (by omega)) (allC (cend_yes c2) allN))))), low.refl _⟩
  have m1' : 0 ≤ F1t.eval g := m1
  exact sctx (F := F1t) (by decide) (fun g h => seg_comes hN hmix hM p1D p1Dk (allC (cchk_no (F := F1t) (c := 0) (by omega)) (allC (cchk_no (F := F1t) (c := 1) (by omega)) (allC (cchk_no (F := F1t) (c := 2) (by omega)) allN)))) sum1 g b (by omega) m2
theorem ctx2 (g : Nat → Int) (b : Base g n x y) : ∃ g', ComesV prog p2 g e2 g' ∧ low g g' := by
  obtain ⟨m1, m2, m3, m4⟩ := most_eval needT g
  have hn := needT_eval b
  have h3 : 3 ≤ F2t.eval g := by
    show 3 ≤ (most needT).eval g
    by_cases h : needT.eval g ≤ 4096
    · rw [m3 (by omega) h]; omega
    · rw [m4 (by omega)]; omega
  exact sctx (F := F2t) (by decide) (fun g h => seg_comes hN hmix hM p2D p2Dk (allC (cchk_no (F := F2t) (c := 0) (by omega)) (allC (cchk_no (F := F2t) (c := 1) (by omega)) (allC (cchk_no (F := F2t) (c := 2) (by omega)) allN)))) sum2 g b h3 m2
theorem ctx3 (g : Nat → Int) (b : Base g n x y) : ∃ g', ComesV prog p3 g e3 g' ∧ low g g' :=
  sctx (F := F3t) (by decide) (fun g h => seg_comes hN hmix hM p3D p3Dk allN) sum3 g b (by simp [F3t, Trm.eval]) (by simp [F3t, Trm.eval])
theorem ctx4 {c r : Nat} (hG : G (x % 2001) (y % 2001) c r) (g : Nat → Int) (b : Base g n x y) (hs : g 6 = 6 * c + 5) (hr : g 5 = r) : ∃ g', ComesV prog p4 g e4 g' ∧ low g g' := by
  obtain ⟨m1, m2, _, _⟩ := most_eval (.var 3) g
  have hv : (Trm.var 6).eval g = 6 * c + 5 := hs
  by_cases c0 : (0 : Nat) = F1t.eval g
  · exact ⟨g, out_of p4x0 p4x0k g (allC (cchk_yes c0) (allC (leF_no (F := F1t) (N := .var 6) (by omega)) (allC (cend_yes c0) allN))), low.refl _⟩
  by_cases c1 : (1 : Nat) = F1t.eval g
  · exact ⟨g, out_of p4x1 p4x1k g (allC (cchk_no c0) (allC (cchk_yes c1) (allC (leF_no (F := F1t) (N := .var 6) (by omega)) (allC (cend_yes c1) allN)))), low.refl _⟩
  have m1' : 0 ≤ F1t.eval g := m1
  exact dctx (F := F1t) (by decide) (fun g h => seg_comes hN hmix hM p4D p4Dk (allC (cchk_no (F := F1t) (c := 0) (by omega)) (allC (cchk_no (F := F1t) (c := 1) (by omega)) allN))) (div4 hG) g b hs hr (by omega) m2
theorem ctx5 {c r : Nat} (hG : G (x % 2001) (y % 2001) c r) (g : Nat → Int) (b : Base g n x y) (hs : g 6 = 6 * c + 5) (hr : g 5 = r) : ∃ g', ComesV prog p5 g e5 g' ∧ low g g' := by
  obtain ⟨m1, m2, m3, m4⟩ := most_eval (.var 6) g
  have hv : (Trm.var 6).eval g = 6 * c + 5 := hs
  have h3 : 2 ≤ F5t.eval g := by
    show 2 ≤ (most (.var 6)).eval g
    by_cases h : (Trm.var 6).eval g ≤ 4096
    · rw [m3 (by omega) h]; omega
    · rw [m4 (by omega)]; omega
  exact dctx (F := F5t) (by decide) (fun g h => seg_comes hN hmix hM p5D p5Dk (allC (cchk_no (F := F5t) (c := 0) (by omega)) (allC (cchk_no (F := F5t) (c := 1) (by omega)) allN))) (div5 hG) g b hs hr h3 m2
theorem ctx6 {c r : Nat} (hG : G (x % 2001) (y % 2001) c r) (g : Nat → Int) (b : Base g n x y) (hs : g 6 = 6 * c + 5) (hr : g 5 = r) : ∃ g', ComesV prog p6 g e6 g' ∧ low g g' :=
  dctx (F := F3t) (by decide) (fun g h => seg_comes hN hmix hM p6D p6Dk allN) (div6 hG) g b hs hr (by simp [F3t, Trm.eval]) (by simp [F3t, Trm.eval])

/-! the law's own loops -/
def low4 (g g' : Nat → Int) : Prop := ∀ i, i < 4 → g' i = g i
theorem Base.low4 {g g' : Nat → Int} (b : Base g n x y) (h : low4 g g') : Base g' n x y := ⟨(h 0 (by omega)).trans b.e0, (h 1 (by omega)).trans b.e1, (h 2 (by omega)).trans b.e2, b.bn, b.bx, b.by_⟩
theorem look_low4 (l : List (Nat × Trm)) (hl : ∀ p ∈ l, 4 ≤ p.1) (g : Nat → Int) : low4 g (fun i => (look l i).eval g) := by
  intro i hi
  induction l with
  | nil => rfl
  | cons p l ih =>
    obtain ⟨j, t⟩ := p
    have : Nat.beq j i = false := beq_ne (by have := hl (j, t) List.mem_cons_self; simp at this; omega)
    show (look ((j, t) :: l) i).eval g = g i
    simp only [look, this]
    exact ih fun p hp => hl p (List.mem_cons_of_mem _ hp)
theorem eqz_no {g : Nat → Int} {v : Nat} (h : g v ≠ 0) : (⟨.eql, .var v, .con (.ofNat 0), false⟩ : Fact).holds g := by
  simp only [Fact.holds, Trm.eval, cmp_eql]; simpa using h
theorem loopA {a b c r : Nat} (hG : G a b c r) : ∀ (g : Nat → Int), Base g n x y → g 4 = a → g 5 = b → 0 ≤ g 6 → g 6 + 6 * c ≤ 1000000 →
    ∃ g', ComesV prog hA g hB g' ∧ low4 g g' ∧ g' 4 = (y % 2001 : Nat) ∧ g' 5 = (x % 2001 : Nat) ∧ g' 6 = g 6 + 6 * c := by
  induction hG with
  | zero a =>
    intro g b ha hb p0 p1
    have ht := seg_comes hN hmix hM aB aBk (g := g) (allC (tst_no (v := 5) (by simpa using hb)) allN)
    refine ⟨_, ht, look_low4 aBs (by decide) g, ?_, ?_, ?_⟩
    · exact yT_eval b
    · exact xT_eval b
    · show g 6 = _; simp
  | succ hne hG ih =>
    rename_i a b c r
    intro g bs ha hb p0 p1
    have hz : g 5 ≠ 0 := by omega
    have ht := seg_comes hN hmix hM aA aAk (g := g) (allC (tst_yes (v := 5) hz) (allC (eqz_no hz) allN))
    have hlow := look_low4 aAs (by decide) g
    generalize hg2 : (fun i => (look aAs i).eval g) = g2 at ht hlow
    have e4 : g2 4 = b := by rw [← hg2]; exact hb
    have e5 : g2 5 = (a % b : Nat) := by rw [← hg2]; show opI .rem .i64 (g 4) (g 5) = _; rw [opI_rem _ _ _ hz, ha, hb]; exact (Int.ofNat_tmod a b).symm
    have e6 : g2 6 = g 6 + 6 := by rw [← hg2]; show opI .add .i64 (g 6) (Int.ofNat 6) = _; rw [opI_add, show Int.ofNat 6 = 6 from rfl, wrap64 (by omega) (by omega)]
    obtain ⟨g3, h1, h2, h3, h4, h5⟩ := ih g2 (bs.low4 hlow) e4 e5 (by omega) (by omega)
    exact ⟨g3, ht.trans h1, fun i hi => (h2 i hi).trans (hlow i hi), h3, h4, by omega⟩
theorem loopB {a b c r : Nat} (hG : G a b c r) : ∀ (g : Nat → Int), g 5 = a → g 4 = b → ∃ g', ComesV prog hB g hB g' ∧ low4 g g' ∧ g' 4 = 0 ∧ g' 5 = r ∧ g' 6 = g 6 := by
  induction hG with
  | zero a => intro g ha hb; exact ⟨g, .refl _ _, fun _ _ => rfl, by simpa using hb, ha, rfl⟩
  | succ hne hG ih =>
    rename_i a b c r
    intro g ha hb
    have hz : g 4 ≠ 0 := by omega
    have ht := seg_comes hN hmix hM bB bBk (g := g) (allC (tst_yes (v := 4) hz) (allC (eqz_no hz) allN))
    have hlow := look_low4 bBs (by decide) g
    generalize hg2 : (fun i => (look bBs i).eval g) = g2 at ht hlow
    have e4 : g2 4 = (a % b : Nat) := by rw [← hg2]; show opI .rem .i64 (g 5) (g 4) = _; rw [opI_rem _ _ _ hz, ha, hb]; exact (Int.ofNat_tmod a b).symm
    have e5 : g2 5 = b := by rw [← hg2]; exact hb
    have e6 : g2 6 = g 6 := by rw [← hg2]; rfl
    obtain ⟨g3, h1, h2, h3, h4, h5⟩ := ih g2 e5 e4
    exact ⟨g3, ht.trans h1, fun i hi => (h2 i hi).trans (hlow i hi), h3, h4, by omega⟩

/-- the whole law -/
theorem loops_all (g : Nat → Int) (b : Base g n x y) : ∃ g', ComesV prog z0 g e6 g' := by
  obtain ⟨c, r, hG, hc⟩ := G.ex (y % 2001) (x % 2001)
  have l2 := Nat.mod_lt y (by omega : 2001 > 0)
  have t0 := seg_comes hN hmix hM zA zAk (g := g) allN
  have hl0 := look_low4 zAs (by decide) g
  have e4 : (fun i => (look zAs i).eval g) 4 = ((x % 2001 : Nat) : Int) := xT_eval b
  have e5 : (fun i => (look zAs i).eval g) 5 = ((y % 2001 : Nat) : Int) := yT_eval b
  have e6 : (fun i => (look zAs i).eval g) 6 = 5 := rfl
  generalize (fun i => (look zAs i).eval g) = g0 at t0 hl0 e4 e5 e6
  have b0 := b.low4 hl0
  obtain ⟨g1, t1, hl1, f4, f5, f6⟩ := loopA hG g0 b0 e4 e5 (by omega) (by omega)
  have b1 := b0.low4 hl1
  obtain ⟨g2, t2, hl2, k4, k5, k6⟩ := loopB hG g1 f5 f4
  have b2 := b1.low4 hl2
  have t3 := out_of b1P b1Pk g2 (allC (tst_no (v := 4) k4) allN)
  obtain ⟨g3, t4, w3⟩ := ctx1 g2 b2
  have b3 := b2.low w3
  have t5 := out_of b2P b2Pk g3 allN
  obtain ⟨g4, t6, w4⟩ := ctx2 g3 b3
  have b4 := b3.low w4
  have t7 := out_of b3P b3Pk g4 allN
  obtain ⟨g5, t8, w5⟩ := ctx3 g4 b4
  have b5 := b4.low w5
  have t9 := out_of b4P b4Pk g5 allN
  have s6 : g5 6 = 6 * c + 5 := by rw [w5 6 (by omega), w4 6 (by omega), w3 6 (by omega)]; omega
  have s5 : g5 5 = r := by rw [w5 5 (by omega), w4 5 (by omega), w3 5 (by omega)]; exact k5
  obtain ⟨g6, t10, w6⟩ := ctx4 hG g5 b5 s6 s5
  have b6 := b5.low w6
  have t11 := out_of b5P b5Pk g6 allN
  have s6' : g6 6 = 6 * c + 5 := by rw [w6 6 (by omega)]; exact s6
  have s5' : g6 5 = r := by rw [w6 5 (by omega)]; exact s5
  obtain ⟨g7, t12, w7⟩ := ctx5 hG g6 b6 s6' s5'
  have b7 := b6.low w7
  have t13 := out_of b6P b6Pk g7 allN
  have s6'' : g7 6 = 6 * c + 5 := by rw [w7 6 (by omega)]; exact s6'
  have s5'' : g7 5 = r := by rw [w7 5 (by omega)]; exact s5'
  obtain ⟨g8, t14, w8⟩ := ctx6 hG g7 b7 s6'' s5''
  exact ⟨g8, ((((((((((((((t0.trans t1).trans t2).trans t3).trans t4).trans t5).trans t6).trans t7).trans t8).trans t9).trans t10).trans t11).trans t12).trans t13).trans t14)⟩
end Go.Abs
#print axioms Go.Abs.loops_all

