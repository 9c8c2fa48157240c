/- A machine in plain words for the model, each of its steps some steps of the model. -/
import Derived.Test.YtnpcbokncacbjaaGreatAk
import Derived.Test.YtnpcbokncacbjaaGreatAi
set_option linter.all false
set_option linter.unusedVariables false
set_option linter.unusedSimpArgs false
namespace Go.Abs.T
noncomputable section
variable {Q : Go.Program}

/-! what calls that ask nothing of memory come to -/
def tmpRes (env : Env) : List ResultVar → Option (List AV)
  | [] => some []
  | .tmp t :: rs => match env.get t with
    | some v => (match tmpRes env rs with | some l => some (v :: l) | none => none)
    | none => none
  | .cell _ _ :: _ => none
theorem tmpRes_ok {env : Env} {h : AHeap} : ∀ {rs : List ResultVar} {l : List AV}, tmpRes env rs = some l → Go.Abs.resultsA Q h env rs = some l
  | [], l, e => by simp [tmpRes] at e; subst e; rfl
  | .tmp t :: rs, l, e => by
    simp only [tmpRes] at e
    unfold Go.Abs.resultsA
    split at e
    · rename_i v hv
      split at e <;> cases e
      rename_i l' hl
      simp only [hv, tmpRes_ok hl]
    · cases e
  | .cell _ _ :: _, l, e => by simp [tmpRes] at e
def resTmps : List ResultVar → List Tmp
  | [] => []
  | .tmp t :: rs => t :: resTmps rs
  | .cell _ _ :: rs => resTmps rs

def endOf (Q : Go.Program) (f : FuncId) (g : AFrame) (v : AV) (m : AM) : Bool :=
  match Q.funcs[f]? with
  | some fn =>
    let env' := restr m.fr.env (resTmps fn.results.toList)
    m.cs.isEmpty && (match m.fr.mode with | .returning => true | _ => false) && m.fr.defers.isEmpty && !m.fr.deferred && Nat.beq m.fr.fn f && calleeOk g m.fr env' &&
      (match tmpRes env' fn.results.toList with | some l => sameV (oneOf l) v | none => false)
  | none => false

theorem summed_of (hN : NoNum Q) (hmix : Q.follows .mixedOrders = true) {f : FuncId} {args : List AV} {v : AV} {g : AFrame} {m : AM} (he : Go.Abs.enterFrame Q f args false = some g) (hrun : Comes Q ⟨g, [], ⟨.e, 0⟩⟩ m) (hend : endOf Q f g v m = true) : Summed Q f args v := by
  unfold endOf at hend
  split at hend
  · rename_i fn hfn
    simp only [Bool.and_eq_true] at hend
    obtain ⟨⟨⟨⟨⟨⟨h1, h2⟩, h3⟩, h4⟩, h5⟩, h6⟩, h7⟩ := hend
    obtain ⟨fr, cs, h⟩ := m
    have hcs : cs = [] := by simpa using h1
    subst hcs
    split at h7
    · rename_i l hl
      have hv := sameV_eq _ _ h7
      subst hv
      refine ⟨g, he, fun a cs hh a' hf hm => (Comes.callee hrun h6 a cs hh).trans (Comes.run hN hmix (n := 1) ?_)⟩
      obtain ⟨fn', n, env, todo, ds, mode, df, ro⟩ := fr
      have e5 : fn' = f := Nat.eq_of_beq_eq_true h5
      subst e5
      have e3 : ds = [] := by simpa using h3
      subst e3
      have e4 : df = false := by simpa using h4
      subst e4
      cases mode with
      | run => cases h2
      | panicking c => cases h2
      | returning =>
        have key : Go.Abs.astep Q ⟨⟨fn', n, restr env (resTmps fn.results.toList), todo, [], .returning, false, ro⟩, a :: cs, hh⟩ = some ⟨a', cs, hh⟩ := by
          simp only [Go.Abs.astep, Go.Abs.unwindA, hfn, tmpRes_ok hl, returnA, hf]
        unfold Go.Abs.arun
        rw [key]; rfl
    · cases h7
  · cases hend

def callOk (Q : Go.Program) (n : Nat) (f : FuncId) (args : List AV) (v : AV) : Bool := match Go.Abs.enterFrame Q f args false with
  | some g => (match toK (frunE (fast Q noMemo) n) ⟨g, [], ⟨.e, 0⟩⟩ with
    | some m => endOf Q f g v m
    | none => false)
  | none => false
theorem callOk_ok (hN : NoNum Q) (hmix : Q.follows .mixedOrders = true) {n : Nat} {f : FuncId} {args : List AV} {v : AV} (h : callOk Q n f args v = true) : Summed Q f args v := by
  unfold callOk at h
  split at h
  · rename_i g hg
    split at h
    · rename_i m hm
      exact summed_of hN hmix hg (frunE_comes hN hmix (noMemo_ok Q) hm) h
    · cases h
  · cases h

def keyOf : List AV → Option Nat
  | [] => some 0
  | [.int .i64 (.ofNat n)] => some (n + 1)
  | _ => none
def argsOf : Nat → List AV
  | 0 => []
  | n + 1 => [.int .i64 (.ofNat n)]
theorem keyOf_args {args : List AV} {k : Nat} (h : keyOf args = some k) : args = argsOf k := by
  unfold keyOf at h
  split at h
  · cases h; rfl
  · cases h; rfl
  · cases h
def memoF (T : PT (PT AV)) (f : FuncId) (args : List AV) : Option AV := ob (fun t => ob (fun k => PT.get t k) (keyOf args)) (T.get f)
def memoChk (Q : Go.Program) (n : Nat) (live : FuncId) (f k : Nat) (v : AV) : Bool := match k with
  | 0 => Nat.beq f live && sameV v (.bool true)
  | k + 1 => callOk Q n f (argsOf (k + 1)) v
theorem memo_ok (hN : NoNum Q) (hmix : Q.follows .mixedOrders = true) {n : Nat} {live : FuncId} (hl : Summed Q live [] (.bool true)) {T : PT (PT AV)}
    (hc : PT.allK (fun f t => PT.allK (fun k v => memoChk Q n live f k v) 1 0 t) 1 0 T = true) : MemoOk Q (memoF T) := by
  intro f args v h
  unfold memoF at h
  cases ht : T.get f with
  | none => rw [ht] at h; cases h
  | some t =>
    rw [ht] at h
    cases hk : keyOf args with
    | none => rw [hk] at h; cases h
    | some k =>
      rw [hk] at h
      have hv : t.get k = some v := h
      have h1 := PT.allK_get hc ht
      have h2 := PT.allK_get h1 hv
      simp only [Nat.one_mul, Nat.add_zero] at h2
      rw [keyOf_args hk]
      cases k with
      | zero =>
        simp only [memoChk, Bool.and_eq_true] at h2
        have := Nat.eq_of_beq_eq_true h2.1; subst this
        have := sameV_eq _ _ h2.2; subst this
        exact hl
      | succ k => exact callOk_ok hN hmix h2

/-! laws -/
def endT (Q : Go.Program) (f : FuncId) (m : AM) : Bool :=
  match Q.funcs[f]? with
  | some fn =>
    m.cs.isEmpty && (match m.fr.mode with | .returning => true | _ => false) && m.fr.defers.isEmpty && !m.fr.deferred && Nat.beq m.fr.fn f &&
      (match Go.Abs.resultsA Q m.h m.fr.env fn.results.toList with | some l => sameV (oneOf l) (.bool true) | none => false)
  | none => false
def lawOk (Q : Go.Program) (M : FuncId → List AV → Option AV) (n : Nat) (f : FuncId) (args : List AV) : Bool := match Go.Abs.enterFrame Q f args false with
  | some g => (match toK (frunE (fast Q M) n) ⟨g, [], ⟨.e, 0⟩⟩ with
    | some m => endT Q f m
    | none => false)
  | none => false
theorem law_calls (hN : NoNum Q) (hmix : Q.follows .mixedOrders = true) {M : FuncId → List AV → Option AV} (hM : MemoOk Q M) {n : Nat} {f : FuncId} {args : List AV} (h : lawOk Q M n f args = true) (val : Nat → Nat) {cargs : List Value} (hc : concL (renV val) args = some cargs) (w : World) :
    Calls Q f cargs.toArray w (fun e w' => e = .returned (.bool true) ∧ ∀ may, w.keptBut w' may) := by
  unfold lawOk at h
  split at h
  · rename_i g hg
    split at h
    · rename_i m hm
      have hrun := frunE_comes hN hmix hM hm
      unfold endT at h
      split at h
      · rename_i fn hfn
        simp only [Bool.and_eq_true] at h
        obtain ⟨⟨⟨⟨⟨h1, h2⟩, h3⟩, h4⟩, h5⟩, h7⟩ := h
        split at h7
        · rename_i l hl
          have hv := sameV_eq _ _ h7
          have hmode : m.fr.mode = .returning := by
            cases e : m.fr.mode with
            | returning => rfl
            | run => rw [e] at h2; cases h2
            | panicking c => rw [e] at h2; cases h2
          have := calls_of_comes (relV val w) hc hg hrun hmode (by simpa using h3) (by simpa using h1) (Nat.eq_of_beq_eq_true h5) (by simpa using h4) hfn hl
          refine this.mono fun e w' ⟨ρ', cv, h8, h9, h10, h11⟩ => ?_
          rw [hv] at h9
          simp only [conc, Option.some.injEq] at h9
          subst h9
          exact ⟨h8, fun may => kept_of_keeps h11 may⟩
        · cases h7
      · cases h
    · cases h
  · cases h
end
end Go.Abs.T

