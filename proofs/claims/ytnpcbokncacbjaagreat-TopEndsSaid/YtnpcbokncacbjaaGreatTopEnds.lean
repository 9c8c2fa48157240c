/- For every input trivettop.TopEnds returns true, and each argument reads behind the call as it read before. No conditions. The run of the function is reckoned by the kernel on a machine that is proved sound, for each remainder of the first argument by 13 and each third argument; the second argument stays unknown. (The frame began as the print of proof-skeleton.mjs.) -/
import Derived.Test.YtnpcbokncacbjaaGreatRows
import Derived.WalkKit
import Derived.ProofKit
import Derived.OpenShut
import Derived.Test.YtnpcbokncacbjaaGreatW
import Derived.Test.YtnpcbokncacbjaaGreatFTopEnds
import Derived.Test.YtnpcbokncacbjaaGreatEa
import Derived.Test.YtnpcbokncacbjaaGreatEb
import Derived.Test.YtnpcbokncacbjaaGreatEc
import Derived.Test.YtnpcbokncacbjaaGreatEd
import Derived.Test.YtnpcbokncacbjaaGreatEe
import Derived.Test.YtnpcbokncacbjaaGreatEf
import Derived.Test.YtnpcbokncacbjaaGreatEg
import Derived.Test.YtnpcbokncacbjaaGreatEh
import Derived.Test.YtnpcbokncacbjaaGreatEi
import Derived.Test.YtnpcbokncacbjaaGreatEj
import Derived.Test.YtnpcbokncacbjaaGreatEk
import Derived.Test.YtnpcbokncacbjaaGreatEl
import Derived.Test.YtnpcbokncacbjaaGreatEm
import Derived.Test.YtnpcbokncacbjaaGreatEn
set_option linter.all false
namespace Go.Proofs.YtnpcbokncacbjaaGreat.topEnds
open Go.ChangeShapes Go.WideShapes Go.ChangeAt Go.RowKit
set_option linter.unusedVariables false      -- a walk need not use every 'w<i>' (that an integer argument fits its kind)

theorem own : ownKnob Tryz.prog.godebug = none := by kernel_rfl

/-! the run, by classes of the first argument (its remainder by 13) and the third; the second is unknown -/
theorem all : ∀ k, k < 13 → ∀ b, Go.Abs.T.lawOk Go.Abs.prog (Go.Abs.T.memoF Go.Abs.memoT) 1000000 3 (Go.Abs.eArgs k ((255 - k) / 13) b) = true
  | 0, _, false => Go.Abs.ef0
  | 0, _, true => Go.Abs.et0
  | 1, _, false => Go.Abs.ef1
  | 1, _, true => Go.Abs.et1
  | 2, _, false => Go.Abs.ef2
  | 2, _, true => Go.Abs.et2
  | 3, _, false => Go.Abs.ef3
  | 3, _, true => Go.Abs.et3
  | 4, _, false => Go.Abs.ef4
  | 4, _, true => Go.Abs.et4
  | 5, _, false => Go.Abs.ef5
  | 5, _, true => Go.Abs.et5
  | 6, _, false => Go.Abs.ef6
  | 6, _, true => Go.Abs.et6
  | 7, _, false => Go.Abs.ef7
  | 7, _, true => Go.Abs.et7
  | 8, _, false => Go.Abs.ef8
  | 8, _, true => Go.Abs.et8
  | 9, _, false => Go.Abs.ef9
  | 9, _, true => Go.Abs.et9
  | 10, _, false => Go.Abs.ef10
  | 10, _, true => Go.Abs.et10
  | 11, _, false => Go.Abs.ef11
  | 11, _, true => Go.Abs.et11
  | 12, _, false => Go.Abs.ef12
  | 12, _, true => Go.Abs.et12
  | n + 13, h, _ => by omega

theorem walk (a0 : Int) (a1 : Int) (a2 : Bool) (w0 : (Lit.int .u8 a0).wf = true) (w1 : (Lit.int .u8 a1).wf = true) (w : World) :
    Calls Tryz.prog 3 #[.int .u8 a0, .int .u8 a1, .bool a2] w fun e w' => e = .returned (.bool true) ∧ ∀ may, w.keptBut w' may :=
  Go.Abs.ends_walk all a0 a1 a2 w0 w1 w

/-! the row's step -/
set_option maxRecDepth 100000 in
theorem lifted (os : Os) (started : os.Started) (H : Type) (enc : TypeId × Value → H) :
    ReturnsInHanded {} Tryz.checked os 3 .any (Rows.topEndsSpec.pre6 enc Tryz.prog Tryz.f3 Rows.topEndsRow.domain false) (Rows.topEndsSpec.post enc Tryz.prog Tryz.f3 false true false false) := by
  refine returnsInHanded_of_change (C := Tryz.checked) own started (by kernel_rfl) Tryz.func3
    (ChangeSpec.witness6 (enc := enc) (C := Tryz.checked) false ⟨#[], #[.int .u8 0, .int .u8 0, .bool false], []⟩ 8 (by kernel_rfl) (by kernel_rfl) (by kernel_rfl) (by kernel_rfl)) ?_
  intro W base args ds gs before hval0 hW hcnd _
  have hval : ∀ (j : Nat) t v, Tryz.f3.params[j]? = some t → args[j]? = some v → Value.okWide Tryz.prog W .any base t v := hval0
  have hW' := hW
  obtain ⟨p, q, hA0, hV, rfl, hfz, hnd⟩ := hW
  have hA : DataW.TrodAll enc Tryz.prog W 0 (fun _ => true) true Tryz.f3.params.toList args.toList ds p := hA0
  rw [Tryz.params3] at hA hval
  obtain ⟨v0, vs0, d0, ds0, p0, q0, hargs, rfl, rfl, h0, r0⟩ := trodAll_cons hA
  obtain ⟨v1, vs1, d1, ds1, p1, q1, rfl, rfl, rfl, h1, r1⟩ := trodAll_cons r0
  obtain ⟨v2, vs2, d2, ds2, p2, q2, rfl, rfl, rfl, h2, r2⟩ := trodAll_cons r1
  obtain ⟨rfl, rfl, rfl⟩ := trodAll_nil r2
  obtain rfl : args = #[v0, v1, v2] := by cases args; simp_all
  obtain ⟨rfl, rfl⟩ := trodVars_none hV
  obtain ⟨a0, rfl, rfl, rfl, w0⟩ := open_int Tryz.underlying5 (hval 0 5 v0 rfl rfl) h0
  obtain ⟨a1, rfl, rfl, rfl, w1⟩ := open_int Tryz.underlying5 (hval 1 5 v1 rfl rfl) h1
  obtain ⟨a2, rfl, rfl, rfl⟩ := open_bool Tryz.underlying4 (hval 2 4 v2 rfl rfl) h2
  clear hA0 hval0
  simp only [List.append_nil] at hW'
  refine (walk a0 a1 a2 w0 w1 W).mono fun e W' ⟨he, hg⟩ => ?_
  subst he
  exact ⟨_, rfl, _, _, _, [], _, [], hW', (trodAll_cons_mk (shut_bool Tryz.underlying4 _) trodAll_mk0), (trodAll_cons_mk (shut_int Tryz.underlying5 w0) (trodAll_cons_mk (shut_int Tryz.underlying5 w1) (trodAll_cons_mk (shut_bool Tryz.underlying4 _) trodAll_mk0))), rfl, hg _, fun h => by cases h⟩

set_option maxRecDepth 1000000 in
theorem over : Rows.topEndsRow.holds Tryz.pinned (OpenSpec.ofChange Rows.topEndsSpec) :=
  OpenClaim.holds_of_wide 3 Tryz.f3 rfl rfl rfl rfl rfl rfl rfl ⟨rfl, rfl, rfl, rfl, rfl⟩ rfl rfl rfl rfl rfl (by kernel_rfl) Tryz.func3 closed
    (of_decide_eq_true (by kernel_rfl)) (by unfold Func.isWrapper; first | (rw [if_pos (by decide +kernel)]; kernel_rfl) | (rw [if_neg (by decide +kernel)]; exact ⟨rfl, rfl⟩))
    (fun os started H enc _ => lifted os started H enc)

/-- the statement -/
theorem proved : Rows.TopEndsSaid :=
  over
#print axioms proved
end Go.Proofs.YtnpcbokncacbjaaGreat.topEnds
