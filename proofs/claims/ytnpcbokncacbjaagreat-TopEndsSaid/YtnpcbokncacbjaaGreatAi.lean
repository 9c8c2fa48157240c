/- A machine in plain words for the model, each of its steps some steps of the model. -/
import Derived.Test.YtnpcbokncacbjaaGreatAh
import GoSem.ClaimChange
set_option linter.all false
set_option linter.unusedSimpArgs false
set_option linter.unusedVariables false
namespace Go.Abs
variable {P : Program} {B : Nat} {ρ : Ren} {h : AHeap} {w : World} {base : List Frame}

/-! a call of a function that asks nothing of memory, beneath any callers -/
/-- all blocks of a world are another's -/
theorem Rel.grow {w' : World} (r : Rel ρ h w) (hs : w.heap.size ≤ w'.heap.size) (he : ∀ c, c < w.heap.size → w'.heap[c]? = w.heap[c]?) : Rel ρ h w' := by
  refine ⟨fun b o hb => ?_, r.inj, fun b l hb => Nat.lt_of_lt_of_le (r.bnd b l hb) hs, r.fresh⟩
  obtain ⟨l, h1, co, h2, h3⟩ := r.obj b o hb
  exact ⟨l, h1, co, by rw [he _ (r.bnd b l h1)]; exact h2, h3⟩

noncomputable def subEnv (env env2 : PT AV) : Bool := PT.allK (fun t a => match env.get t with | some a' => sameV a' a | none => false) 1 0 env2
theorem subEnv_get {env env2 : PT AV} (h : subEnv env env2 = true) {t : Nat} {a : AV} (ha : env2.get t = some a) : env.get t = some a := by
  have := PT.allK_get h ha
  simp only [Nat.one_mul, Nat.add_zero] at this
  split at this
  · rename_i a' ha'; have := sameV_eq _ _ this; subst this; exact ha'
  · cases this

noncomputable def calleeOk (g g' : AFrame) (env' : Env) : Bool :=
  noDraw g.todo && noDraw g'.todo && cleanFrame 0 g && cleanBase 0 g' && cleanEnv 0 env' && subEnv g'.env env'

theorem Comes.callee {g g' : AFrame} {hE : AHeap} {env' : Env} (hrun : Comes P ⟨g, [], ⟨.e, 0⟩⟩ ⟨g', [], hE⟩) (hok : calleeOk g g' env' = true) (a : AFrame) (cs : List AFrame) (h : AHeap) :
    Comes P ⟨g, a :: cs, h⟩ ⟨{ g' with env := env' }, a :: cs, h⟩ := by
  intro B base ρ f ccs w R
  simp only [calleeOk, Bool.and_eq_true] at hok
  obtain ⟨⟨⟨⟨⟨o1, o2⟩, o3⟩, o4⟩, o5⟩, o6⟩ := hok
  obtain ⟨hr, fl, hfl, hf, hfs⟩ := R
  obtain ⟨b, e, t⟩ := hf.lift2 (.inr (noDraw_ok o1))
  simp only [cleanFrame, Bool.and_eq_true] at o3
  have o3' := o3.1
  simp only [cleanBase, Bool.and_eq_true] at o3'
  let ρ0 : Ren := ⟨fun _ => none, ρ.val⟩
  have hag : ρ.agree ρ0 0 := fun b hb => by omega
  have R0 : MRel P w.heap.size ρ0 ⟨g, [], ⟨.e, 0⟩⟩ f [] w := by
    refine ⟨⟨fun b o hb => by simp [PT.get_e] at hb, fun b b' o o' l l' hb => by simp [PT.get_e] at hb, fun b l hl => by simp [ρ0] at hl, fun b _ => rfl⟩, w.heap.size, Nat.le_refl _, ?_, Nat.le_refl _⟩
    exact .plain (b.change hag o3.1) (e.change hag o3.2) (t.change hag o3'.1.1.1)
  obtain ⟨ρ', f', ccs', w', s, R', k⟩ := hrun w.heap.size (ccs ++ base) ρ0 f [] w R0
  obtain ⟨hr', fl', hfl', hf', hfs'⟩ := R'
  cases ccs' with
  | cons => exact hfs'.elim
  | nil =>
    have hsame : ∀ c, c < w.heap.size → w'.heap[c]? = w.heap[c]? := fun c hc => k.same c hc fun b o l hb => by simp [PT.get_e] at hb
    have kk : KeepsB w.heap.size ρ h w ρ h w' := ⟨.refl _, k.size, fun c hc _ => hsame c hc, fun b o l hb hl => .inr ⟨b, o, l, hb, hl, rfl⟩, k.os, k.output, k.tape⟩
    have hag' : ρ'.agree ρ 0 := fun b hb => by omega
    obtain ⟨b', e', t'⟩ := hf'.lift2 (.inr (noDraw_ok o2))
    have o4' := o4
    simp only [cleanBase, Bool.and_eq_true] at o4'
    refine ⟨ρ, f', ccs, w', by simpa using s, ⟨hr.grow k.size hsame, fl, Nat.le_trans hfl k.size, ?_, frsRel.mono kk hfl hfs⟩, kk.lower (Nat.le_trans (frsRel.low hfs) hfl)⟩
    have b2 := b'.change hag' o4
    refine .plain ⟨b2.fn, b2.kind, b2.round, b2.defers, b2.mode⟩ ⟨e'.size, fun t a ha => ?_⟩ (t'.change hag' o4'.1.1.1)
    rw [clean_conc hag' a (cleanEnv_get o5 ha)]
    exact e'.get t a (subEnv_get o6 ha)

/-- a run of the machine to a function's end is a call of the model -/
theorem calls_of_comes {k : FuncId} {args : List AV} {cargs : List Value} {a : AFrame} {m' : AM} (hr : Rel ρ h w) (hc : concL ρ args = some cargs) (he : enterFrame P k args false = some a)
    (hrun : Comes P ⟨a, [], h⟩ m') (hmode : m'.fr.mode = .returning) (hd : m'.fr.defers = []) (hcs : m'.cs = []) (hfn : m'.fr.fn = k) (hdf : m'.fr.deferred = false) {fn : Func} (hf : P.funcs[k]? = some fn) {l : List AV} (hl : resultsA P m'.h m'.fr.env fn.results.toList = some l) :
    Calls P k cargs.toArray w (fun e w' => ∃ ρ' cv, e = .returned cv ∧ conc ρ' (oneOf l) = some cv ∧ Rel ρ' m'.h w' ∧ KeepsB w.heap.size ρ h w ρ' m'.h w') := by
  intro cs
  obtain ⟨b1, e1, t1⟩ := enter_rel (df := false) hc he
  have R : MRel P w.heap.size ρ ⟨a, [], h⟩ (Frame.enter P k cargs.toArray .normal) [] w := ⟨hr, w.heap.size, Nat.le_refl _, .plain b1 e1 t1, Nat.le_refl _⟩
  obtain ⟨ρ', f', ccs', w', hs, R', hk⟩ := hrun w.heap.size cs ρ _ _ _ R
  obtain ⟨hr', fl, hfl, hfr, hfrs⟩ := R'
  rw [hcs] at hfrs
  cases ccs' with
  | cons => exact hfrs.elim
  | nil =>
    obtain ⟨b, env, todo⟩ := hfr.lift2 (.inl (by rw [hmode]; simp))
    obtain ⟨cv, g1, g2⟩ := results_ok (P := P) hr' env.get hl
    have hbm := b.mode
    rw [hmode] at hbm
    refine ⟨.returned cv, w', f', ⟨ρ', cv, rfl, g2, hr', hk⟩, hs, b.fn.trans hfn, hbm, ?_, ?_, fn, ?_, g1⟩
    · have := b.defers; rw [hd] at this; simp only [concDs, Option.some.injEq] at this; exact this.symm
    · have := b.kind; rw [hdf] at this; simpa using this
    · rw [b.fn, hfn]; exact hf

/-- nothing is known of memory, the numbers are these -/
def renV (g : Nat → Nat) : Ren := { loc := fun _ => none, val := g }
theorem relV (g : Nat → Nat) (w : World) : Rel (renV g) ⟨.e, 0⟩ w :=
  ⟨fun b o hb => by simp [PT.get_e] at hb, fun b b' o o' l l' hb => by simp [PT.get_e] at hb, fun b l hl => by simp [renV] at hl, fun b _ => rfl⟩

/-- a call of a function that is told no memory leaves what there was -/
theorem kept_of_keeps {g : Nat → Nat} {ρ' : Ren} {h' : AHeap} {w' : World} (k : KeepsB w.heap.size (renV g) ⟨.e, 0⟩ w ρ' h' w') (may : MemPlace → Prop) : w.keptBut w' may := by
  refine ⟨k.os, k.output, fun i hi => ?_⟩
  have := k.same i hi fun b o l hb => by simp [PT.get_e] at hb
  rw [this]
  cases ho : w.heap[i]? with
  | none => rfl
  | some o => cases o <;> simp
end Go.Abs

