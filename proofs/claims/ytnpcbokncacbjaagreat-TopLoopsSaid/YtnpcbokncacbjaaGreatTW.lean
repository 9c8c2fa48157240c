/- TopLoops answers true for every input. -/
import Derived.Test.YtnpcbokncacbjaaGreatTR
import Derived.Test.YtnpcbokncacbjaaGreatTAe
import GoSem.Claim
set_option linter.all false
set_option linter.unusedVariables false
set_option linter.unusedSimpArgs false
set_option maxRecDepth 1000000
namespace Go.Abs
def lGs (n x y : Nat) (fuel : Int) : Nat → Int | 0 => n | 1 => x | 2 => y | 3 => fuel | _ => 0
def lRen (n x y : Nat) (fuel : Int) : Ren := { loc := fun _ => none, val := fun _ => 0, num := lGs n x y fuel }
theorem z0_enter : enterFrame prog 5 [.trm .u16 (.var 0), .trm .u16 (.var 1), .trm .u16 (.var 2), .trm .i64 (.var 3)] false = some z0f := by kernel_rfl
theorem e6_results : resultsA prog e6.h e6.fr.env Go.Proofs.Tryz.f5.results.toList = some [.bool true] := by kernel_rfl
theorem z0_clean : cleanBase false 0 z0f = cleanBase false 0 z0f := rfl
theorem loops_walk (n x y : Nat) (fuel : Int) (hn : n ≤ 65535) (hx : x ≤ 65535) (hy : y ≤ 65535) (w : World) :
    Calls prog 5 #[.int .u16 n, .int .u16 x, .int .u16 y, .int .i64 fuel] w fun e w' => e = .returned (.bool true) ∧ ∀ may, w.keptBut w' may := by
  obtain ⟨g', hrun⟩ := loops_all (n := n) (x := x) (y := y) (lGs n x y fuel) ⟨rfl, rfl, rfl, hn, hx, hy⟩
  intro cs
  have hr : Rel (lRen n x y fuel) ⟨.e, 0, []⟩ w := ⟨fun b o hb => by simp [PT.get_e] at hb, fun b b' o o' l l' hb => by simp [PT.get_e] at hb, fun b l hl => by simp [lRen] at hl, fun b _ => rfl, fun f hf => by cases hf⟩
  have hc : concL (lRen n x y fuel) [.trm .u16 (.var 0), .trm .u16 (.var 1), .trm .u16 (.var 2), .trm .i64 (.var 3)] = some [.int .u16 n, .int .u16 x, .int .u16 y, .int .i64 fuel] := rfl
  obtain ⟨b1, e1, t1⟩ := enter_rel (df := false) hc z0_enter
  have R : MRel prog w.heap.size (lRen n x y fuel) ⟨z0f, [], ⟨.e, 0, []⟩⟩ (Frame.enter prog 5 #[.int .u16 n, .int .u16 x, .int .u16 y, .int .i64 fuel] .normal) [] w := ⟨hr, w.heap.size, Nat.le_refl _, .plain b1 e1 t1, Nat.le_refl _⟩
  obtain ⟨ρ', f', ccs', w', hs, R', hg, hk⟩ := hrun w.heap.size cs _ _ _ _ rfl R
  obtain ⟨hr', fl, hfl, hfr, hfrs⟩ := R'
  cases ccs' with
  | cons => exact hfrs.elim
  | nil =>
    obtain ⟨b, env, todo⟩ := hfr.lift2 (.inl (by simp [e6, e6f]))
    obtain ⟨cv, g1, g2⟩ := results_ok (P := prog) hr' env.get e6_results
    have hbm := b.mode
    have hcv : cv = .bool true := by
      have : (some (Value.bool true) : Option Value) = some cv := g2
      simpa using this.symm
    subst hcv
    refine ⟨.returned (.bool true), w', f', ⟨rfl, fun may => ⟨hk.os, hk.output, fun i hi => ?_⟩⟩, hs, b.fn, hbm, ?_, ?_, Go.Proofs.Tryz.f5, ?_, g1⟩
    · have := hk.same i hi fun b o l hb => by simp [z0, z0h, PT.get_e] at hb
      rw [this]
      cases ho : w.heap[i]? with
      | none => rfl
      | some o => cases o <;> simp
    · have := b.defers; simp only [e6, e6f, concDs, Option.some.injEq] at this; exact this.symm
    · exact b.kind
    · rw [show f'.fn = 5 from b.fn]; exact Go.Proofs.Tryz.func5
theorem loops_calls (a0 a1 a2 a3 : Int) (w0 : (Lit.int .u16 a0).wf = true) (w1 : (Lit.int .u16 a1).wf = true) (w2 : (Lit.int .u16 a2).wf = true) (w : World) :
    Calls prog 5 #[.int .u16 a0, .int .u16 a1, .int .u16 a2, .int .i64 a3] w fun e w' => e = .returned (.bool true) ∧ ∀ may, w.keptBut w' may := by
  have rng : ∀ a : Int, (Lit.int .u16 a).wf = true → 0 ≤ a ∧ a ≤ 65535 := by
    intro a h
    simp only [Lit.wf, Bool.and_eq_true, decide_eq_true_eq] at h
    have h1 : IntKind.min .u16 = 0 := by decide
    have h2 : IntKind.max .u16 = 65535 := by decide
    rw [h1, h2] at h
    exact h
  obtain ⟨p0, q0⟩ := rng a0 w0
  obtain ⟨p1, q1⟩ := rng a1 w1
  obtain ⟨p2, q2⟩ := rng a2 w2
  have := loops_walk a0.toNat a1.toNat a2.toNat a3 (by omega) (by omega) (by omega) w
  rwa [Int.toNat_of_nonneg p0, Int.toNat_of_nonneg p1, Int.toNat_of_nonneg p2] at this
end Go.Abs

