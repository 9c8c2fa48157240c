/- TopEnds answers true for every input, if its classes do. -/
import Derived.Test.YtnpcbokncacbjaaGreatLive
import Derived.Test.YtnpcbokncacbjaaGreatE
import GoSem.Claim
set_option linter.all false
set_option maxRecDepth 1000000
namespace Go.Abs
/-- the calls that are known beforehand -/
theorem memoT_ok : T.MemoOk prog (T.memoF memoT) := T.memo_ok (n := 2000) hN hmix live_summed (by decide +kernel)
/-- the numbers: the first one's quotient by 13, the second -/
def eVal (q a : Nat) : Nat → Nat := fun i => match i with | 0 => q | _ => a
theorem eArgs_conc (k hi q a : Nat) (b : Bool) (hq : q ≤ hi) (ha : a ≤ 255) : concL (renV (eVal q a)) (eArgs k hi b) = some [.int .u8 (13 * (q : Int) + k), .int .u8 a, .bool b] := by
  simp only [eArgs, concL, conc, renV, eVal]
  rw [if_pos ⟨Nat.zero_le _, hq⟩, if_pos ⟨Nat.zero_le _, ha⟩]
  simp
theorem u8_range {a : Int} (h : (Lit.int .u8 a).wf = true) : ∃ n : Nat, a = n ∧ n ≤ 255 := by
  simp only [Lit.wf, Bool.and_eq_true, decide_eq_true_eq] at h
  have h1 : IntKind.min .u8 = 0 := by decide
  have h2 : IntKind.max .u8 = 255 := by decide
  rw [h1, h2] at h
  exact ⟨a.toNat, by omega, by omega⟩
theorem ends_walk (all : ∀ k, k < 13 → ∀ b, T.lawOk prog (T.memoF memoT) 1000000 3 (eArgs k ((255 - k) / 13) b) = true) (a0 a1 : Int) (a2 : Bool) (w0 : (Lit.int .u8 a0).wf = true) (w1 : (Lit.int .u8 a1).wf = true) (w : World) :
    Calls prog 3 #[.int .u8 a0, .int .u8 a1, .bool a2] w fun e w' => e = .returned (.bool true) ∧ ∀ may, w.keptBut w' may := by
  obtain ⟨n, rfl, hn⟩ := u8_range w0
  obtain ⟨m, rfl, hm⟩ := u8_range w1
  have hk : n % 13 < 13 := Nat.mod_lt _ (by omega)
  have hc := eArgs_conc (n % 13) ((255 - n % 13) / 13) (n / 13) m a2 (by omega) hm
  have e : (13 * ((n / 13 : Nat) : Int) + ((n % 13 : Nat) : Int)) = (n : Int) := by omega
  rw [e] at hc
  exact T.law_calls hN hmix memoT_ok (all _ hk a2) _ hc w
end Go.Abs

