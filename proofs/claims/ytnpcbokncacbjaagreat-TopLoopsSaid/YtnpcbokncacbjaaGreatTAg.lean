/- A machine in plain words for the model, each of its steps some steps of the model. -/
import Derived.Test.YtnpcbokncacbjaaGreatTAe
import Derived.Test.YtnpcbokncacbjaaGreatTAf
set_option linter.all false
set_option linter.unusedSimpArgs false
set_option linter.unusedVariables false
namespace Go.Abs
variable {P : Program} {B : Nat} {ρ : Ren} {h : AHeap} {w : World} {base : List Frame}

/-! numbers put in place of unknown ones -/
def substT (s : Nat → Trm) : Trm → Trm
  | .var i => s i
  | .con n => .con n
  | .op o k a b => .op o k (substT s a) (substT s b)
  | .wrp k a => .wrp k (substT s a)
  | .mn a b => .mn (substT s a) (substT s b)
  | .mx a b => .mx (substT s a) (substT s b)
theorem substT_eval (s : Nat → Trm) (g : Nat → Int) : ∀ t : Trm, (substT s t).eval g = t.eval (fun i => (s i).eval g)
  | .var i => rfl
  | .con n => rfl
  | .op o k a b => by simp only [substT, Trm.eval, substT_eval s g a, substT_eval s g b]
  | .wrp k a => by simp only [substT, Trm.eval, substT_eval s g a]
  | .mn a b => by simp only [substT, Trm.eval, substT_eval s g a, substT_eval s g b]
  | .mx a b => by simp only [substT, Trm.eval, substT_eval s g a, substT_eval s g b]
def mkTrm (k : IntKind) : Trm → AV
  | .con n => .int k n
  | t => .trm k t
theorem mkTrm_conc (ρ : Ren) (k : IntKind) (t : Trm) : conc ρ (mkTrm k t) = some (.int k (t.eval ρ.num)) := by
  cases t <;> simp [mkTrm, conc, Trm.eval]
mutual
def substV (s : Nat → Trm) : AV → AV
  | .trm k t => mkTrm k (substT s t)
  | .func f a c => .func f (substL s a) (substL s c)
  | .iface t v => .iface t (substV s v)
  | .agg l => .agg (substL s l)
  | .tup l => .tup (substL s l)
  | v => v
def substL (s : Nat → Trm) : List AV → List AV
  | [] => []
  | v :: vs => substV s v :: substL s vs
end
/-- the numbers behind a putting in -/
def Ren.sub (ρ : Ren) (s : Nat → Trm) : Ren := ⟨ρ.loc, ρ.val, fun i => (s i).eval ρ.num⟩
mutual
theorem substV_conc (s : Nat → Trm) : ∀ a : AV, conc (ρ.sub s) a = conc ρ (substV s a)
  | .trm k t => by simp only [substV, mkTrm_conc, substT_eval, conc, Ren.sub]
  | .func f a c => by simp only [substV, conc, substL_conc s a, substL_conc s c]
  | .iface t v => by simp only [substV, conc, substV_conc s v]
  | .agg l => by simp only [substV, conc, substL_conc s l]
  | .tup l => by simp only [substV, conc, substL_conc s l]
  | .bool _ => by simp [substV, conc]
  | .int _ _ => by simp [substV, conc]
  | .lin .. => by simp only [substV, conc]; rfl
  | .str _ => by simp [substV, conc]
  | .ptr .. => by simp [substV, conc, Ren.sub]
  | .ptrL .. => by simp only [substV, conc]; rfl
  | .nilp => by simp [substV, conc]
  | .slice .. => by simp [substV, conc, Ren.sub]
  | .vslice .. => by simp [substV, conc, Ren.sub]
  | .eslice .. => by simp [substV, conc, Ren.sub]
  | .nils => by simp [substV, conc]
  | .map _ => by simp [substV, conc, Ren.sub]
  | .nilm => by simp [substV, conc]
  | .yld _ => by simp [substV, conc, Ren.sub]
  | .nilf => by simp [substV, conc]
  | .nili => by simp [substV, conc]
theorem substL_conc (s : Nat → Trm) : ∀ a : List AV, concL (ρ.sub s) a = concL ρ (substL s a)
  | [] => by simp [substL, concL]
  | v :: vs => by simp only [substL, concL, substV_conc s v, substL_conc s vs]
end

def mapPT {α β : Type} (f : α → β) : PT α → PT β
  | .e => .e
  | .nd l v r => .nd (mapPT f l) (match v with | some x => some (f x) | none => none) (mapPT f r)
theorem mapPT_get {α β : Type} (f : α → β) : ∀ (t : PT α) (k : Nat), (mapPT f t).get k = (t.get k).map f
  | .e, k => rfl
  | .nd l v r, 0 => by cases v <;> rfl
  | .nd l v r, k + 1 => by
    rcases Nat.mod_two_eq_zero_or_one k with h | h
    · simp only [mapPT]; rw [PT.get_left _ _ _ h, PT.get_left _ _ _ h, mapPT_get f l]
    · simp only [mapPT]; rw [PT.get_right _ _ _ h, PT.get_right _ _ _ h, mapPT_get f r]

def substD (s : Nat → Trm) : ADefer → ADefer
  | .call d => .call ⟨d.fn, substL s d.args, substL s d.cap⟩
  | .collected r => .collected r
theorem substD_conc (s : Nat → Trm) (d : ADefer) : concD (ρ.sub s) d = concD ρ (substD s d) := by
  cases d with
  | call d => simp only [concD, substD, substL_conc]
  | collected r => simp only [concD, substD, Ren.sub]
theorem substDs_conc (s : Nat → Trm) : ∀ d : List ADefer, concDs (ρ.sub s) d = concDs ρ (d.map (substD s))
  | [] => rfl
  | d :: ds => by simp only [concDs, List.map_cons, substD_conc, substDs_conc s ds]
def substE (s : Nat → Trm) (e : AV × AV × Nat) : AV × AV × Nat := (substV s e.1, substV s e.2.1, e.2.2)
theorem substEs_conc (s : Nat → Trm) : ∀ d : List (AV × AV × Nat), concEs (ρ.sub s) d = concEs ρ (d.map (substE s))
  | [] => rfl
  | d :: ds => by simp only [concEs, concE, substE, List.map_cons, substV_conc, substEs_conc s ds]

def substObj (s : Nat → Trm) : AObj → AObj
  | .cells z p lim ex esz m => .cells (z.map fun x => (x.1, substV s x.2)) p lim ex esz (mapPT (substV s) m)
  | .map es clock => .map (es.map (substE s)) clock
  | .loop st pend fn n env params assign body ds => .loop st pend fn n (mapPT (substV s) env) params assign body ds
  | .deferred (some ds) => .deferred (some (ds.map (substD s)))
  | o => o

theorem zeroAt_map (s : Nat → Trm) : ∀ (z : List (Nat × AV)) (i : Nat), zeroAt (z.map fun x => (x.1, substV s x.2)) i = (zeroAt z i).map (substV s)
  | [], i => rfl
  | (k, v) :: rest, i => by
    simp only [List.map_cons, zeroAt]
    split
    · rfl
    · exact zeroAt_map s rest _

theorem oneCell_subst (s : Nat → Trm) (a : AV) : oneCell (substV s a) = oneCell a := by
  cases a <;> simp only [substV, oneCell]
  rename_i k t
  cases substT s t <;> rfl

theorem at_subst (s : Nat → Trm) {z : List (Nat × AV)} {p lim : Nat} {ex : Bool} {esz : Nat} {m : PT AV} {i : Nat} {a : AV} (h : (AObj.cells z p lim ex esz m).at i = some a) : (substObj s (.cells z p lim ex esz m)).at i = some (substV s a) := by
  simp only [AObj.at, substObj] at h ⊢
  split at h
  · rw [mapPT_get]
    cases hm : m.get i with
    | some v => rw [hm] at h; cases h; rfl
    | none => rw [hm] at h; simp only at h ⊢; simp only [Option.map_none]; rw [zeroAt_map, h]; rfl
  · cases h

theorem EnvRel.unsub {s : Nat → Trm} {n : Nat} {env : PT AV} {tmps : Array Value} (r : EnvRel ρ n (mapPT (substV s) env) tmps) : EnvRel (ρ.sub s) n env tmps :=
  ⟨r.size, fun t a ha => by rw [substV_conc]; exact r.get t _ (by rw [mapPT_get, ha]; rfl)⟩

theorem objRel.unsub {s : Nat → Trm} {l : Loc} {a : AObj} {o : Obj} (r : objRel ρ l (substObj s a) o) : objRel (ρ.sub s) l a o := by
  cases a with
  | cells z p lim ex esz m =>
    obtain ⟨c, e, h1, h2, h3, h4⟩ := r
    refine ⟨c, e, h1, h2, h3, fun i a ha => ?_⟩
    obtain ⟨h5, v, hv, hc⟩ := h4 i _ (at_subst s ha)
    exact ⟨by rw [← oneCell_subst s]; exact h5, v, by rw [substV_conc]; exact hv, hc⟩
  | map es clock =>
    obtain ⟨c, h1, h2⟩ := r
    exact ⟨c, by rw [substEs_conc]; exact h1, h2⟩
  | mapIter m since seen st => cases m <;> exact r
  | loop st pend fn n env params assign body ds =>
    obtain ⟨c, d, h1, h2, h3⟩ := r
    exact ⟨c, d, h1, h2.unsub, h3⟩
  | deferred ds =>
    cases ds with
    | none => exact r
    | some ds =>
      obtain ⟨c, h1, h2⟩ := r
      exact ⟨c, by rw [substDs_conc]; exact h1, h2⟩

theorem Rel.unsub {s : Nat → Trm} {mm : PT AObj} {next : Nat} {fs : List Fact} (r : Rel ρ ⟨mapPT (substObj s) mm, next, fs⟩ w) : Rel (ρ.sub s) ⟨mm, next, []⟩ w := by
  have g : ∀ {b : Nat} {o : AObj}, mm.get b = some o → (mapPT (substObj s) mm).get b = some (substObj s o) := fun hb => by rw [mapPT_get, hb]; rfl
  refine ⟨fun b o hb => ?_, fun b b' o o' l l' hb hb' => r.inj b b' _ _ l l' (g hb) (g hb'), r.bnd, r.fresh, fun f hf => by cases hf⟩
  obtain ⟨l, h1, co, h2, h3⟩ := r.obj b _ (g hb)
  exact ⟨l, h1, co, h2, h3.unsub⟩

theorem todoRel.unsub {s : Nat → Trm} : ∀ {a : List AItem} {b : List Item}, todoRel ρ a b → todoRel (ρ.sub s) a b
  | [], [], _ => trivial
  | [], _ :: _, r => r.elim
  | _ :: _, [], r => r.elim
  | a :: _, _ :: _, r => ⟨by have h1 := r.1; cases a <;> exact h1, todoRel.unsub r.2⟩

def substF (s : Nat → Trm) (a : AFrame) : AFrame := { a with env := mapPT (substV s) a.env, defers := a.defers.map (substD s) }
def calmMode (a : AFrame) : Bool := match a.mode with
  | .panicking _ => false
  | _ => true
theorem FrBase.unsub {s : Nat → Trm} {a : AFrame} {f : Frame} (hm : calmMode a = true) (r : FrBase ρ (substF s a) f) : FrBase (ρ.sub s) a f := by
  refine ⟨r.fn, r.kind, r.round, by rw [substDs_conc]; exact r.defers, ?_⟩
  have := r.mode
  cases e : a.mode with
  | panicking c => simp [calmMode, e] at hm
  | run => simpa [substF, e, modeRel] using this
  | returning => simpa [substF, e, modeRel] using this

def calmItem : AItem → Bool
  | .draw ops chain _ _ => chain.all fun i => match ops[i]? with | some o => !floatOp o.op | none => true
  | _ => true
def calmFrame (a : AFrame) : Bool := calmMode a && a.todo.all calmItem
theorem FrRel.unsub {s : Nat → Trm} {h h2 : AHeap} {fl cl : Nat} {a : AFrame} {f : Frame} (hc : calmFrame a = true) (r : FrRel P false fl cl ρ h w (substF s a) f) : FrRel P false fl cl (ρ.sub s) h2 w a f := by
  simp only [calmFrame, Bool.and_eq_true] at hc
  cases r with
  | plain b env todo => exact .plain (b.unsub hc.1) env.unsub todo.unsub
  | draw ht => cases ht
  | drawn ht hm b ops i chain acted seen k todo k' listed e1 e2 hk r hi hp left =>
    have ht := hc.2
    rw [show a.todo = .draw ops (i :: chain) acted seen :: k from e1] at ht
    simp only [List.all_cons, Bool.and_eq_true] at ht
    refine .drawn rfl hm (b.unsub hc.1) ops i chain acted seen k todo k' listed e1 e2 hk.unsub ?_ hi hp left
    refine ⟨r.ok, r.full, r.lsize, r.closed, r.acts, r.seenQ, r.doneQ, r.size, fun t a' ha hs => ?_, fun j o hj ho hlj => ?_⟩
    · rw [substV_conc]
      exact r.sync t _ (by show (mapPT (substV s) a.env).get t = _; rw [mapPT_get, ha]; rfl) hs
    · have hf := (r.early j o hj ho hlj).1
      have := List.all_eq_true.1 ht.1 j hj
      simp only [ho, hf] at this
      cases this
theorem frsRel.unsub {s : Nat → Trm} {h h2 : AHeap} : ∀ {cl : Nat} {a : List AFrame} {b : List Frame}, a.all calmFrame = true → frsRel P B ρ h w cl (a.map (substF s)) b → frsRel P B (ρ.sub s) h2 w cl a b
  | _, [], [], _, r => r
  | _, [], _ :: _, _, r => r.elim
  | _, _ :: _, [], _, r => r.elim
  | _, _ :: _, _ :: _, hc, ⟨fl, h1, h2, h3⟩ => by
    simp only [List.all_cons, Bool.and_eq_true] at hc
    exact ⟨fl, h1, h2.unsub hc.1, frsRel.unsub hc.2 h3⟩

/-- a state with numbers put in -/
def AM.sub (s : Nat → Trm) (fs : List Fact) (m : AM) : AM := ⟨substF s m.fr, m.cs.map (substF s), ⟨mapPT (substObj s) m.h.m, m.h.next, fs⟩⟩
def calm (m : AM) : Bool := noDraw m.fr.todo && calmMode m.fr && m.cs.all calmFrame && m.h.facts.isEmpty
theorem MRel.unsub {s : Nat → Trm} {fs : List Fact} {m : AM} {f : Frame} {ccs : List Frame} (hc : calm m = true) (R : MRel P B ρ (m.sub s fs) f ccs w) : MRel P B (ρ.sub s) m f ccs w := by
  obtain ⟨fr, cs, ⟨mm, next, fs'⟩⟩ := m
  simp only [calm, Bool.and_eq_true] at hc
  obtain ⟨⟨⟨c1, c2⟩, c3⟩, c4⟩ := hc
  have c4' : fs' = [] := by simpa using c4
  subst c4'
  obtain ⟨hr, fl, hfl, hf, hfs⟩ := R
  obtain ⟨b, e, t⟩ := hf.lift2 (.inr (noDraw_ok c1))
  exact ⟨hr.unsub, fl, hfl, .plain (b.unsub c2) e.unsub t.unsub, frsRel.unsub c3 hfs⟩

/-! from a state, with what the unknown numbers are, to a state, with what they are there -/
def ComesV (P : Program) (m : AM) (g : Nat → Int) (m' : AM) (g' : Nat → Int) : Prop :=
  ∀ (B : Nat) (base : List Frame) (ρ : Ren) (f : Frame) (ccs : List Frame) (w : World), ρ.num = g → MRel P B ρ m f ccs w →
    ∃ ρ' f' ccs' w', Steps P (lone f (ccs ++ base) w) (lone f' (ccs' ++ base) w') ∧ MRel P B ρ' m' f' ccs' w' ∧ ρ'.num = g' ∧ KeepsB B ρ m.h w ⟨ρ'.loc, ρ.val, ρ.num⟩ m'.h w'

theorem KeepsB.reval {ρ ρ' : Ren} {h h' : AHeap} {w w' : World} (k : KeepsB B ρ h w ρ' h' w') (v : Nat → Nat) (g : Nat → Int) : KeepsB B ⟨ρ.loc, v, g⟩ h w ⟨ρ'.loc, v, g⟩ h' w' :=
  ⟨⟨k.le.loc, fun _ => rfl, rfl⟩, k.size, k.same, k.img, k.os, k.output, k.tape⟩

theorem ComesV.refl (m : AM) (g : Nat → Int) : ComesV P m g m g := fun B base ρ f ccs w hg R => ⟨ρ, f, ccs, w, .refl _ _, R, hg, .refl _ _ _ _⟩
theorem ComesV.trans {m m1 m2 : AM} {g g1 g2 : Nat → Int} (a : ComesV P m g m1 g1) (b : ComesV P m1 g1 m2 g2) : ComesV P m g m2 g2 := fun B base ρ f ccs w hg R =>
  let ⟨ρ1, f1, ccs1, w1, s1, R1, e1, k1⟩ := a B base ρ f ccs w hg R
  let ⟨ρ2, f2, ccs2, w2, s2, R2, e2, k2⟩ := b B base ρ1 f1 ccs1 w1 e1 R1
  ⟨ρ2, f2, ccs2, w2, s1.trans s2, R2, e2, k1.trans (k2.reval ρ.val ρ.num)⟩
theorem ComesV.of {m m' : AM} (a : Comes P m m') (g : Nat → Int) : ComesV P m g m' g := fun B base ρ f ccs w hg R =>
  let ⟨ρ1, f1, ccs1, w1, s1, R1, k1⟩ := a B base ρ f ccs w R
  ⟨ρ1, f1, ccs1, w1, s1, R1, k1.le.num.trans hg, k1.reval ρ.val ρ.num⟩
/-- what is known may be told -/
theorem ComesV.know {m : AM} {g : Nat → Int} (fs : List Fact) (h : ∀ f ∈ fs, f.holds g) : ComesV P m g ⟨m.fr, m.cs, ⟨m.h.m, m.h.next, fs⟩⟩ g := fun B base ρ f ccs w hg R => by
  obtain ⟨hr, fl, hfl, hf, hfs⟩ := R
  have k : ∀ C, KeepsB C ρ m.h w ρ ⟨m.h.m, m.h.next, fs⟩ w := fun C => ⟨.refl _, Nat.le_refl _, fun _ _ _ => rfl, fun b o l hb hl => .inr ⟨b, o, l, hb, hl, rfl⟩, rfl, rfl, rfl⟩
  exact ⟨ρ, f, ccs, w, .refl _ _, ⟨⟨hr.obj, hr.inj, hr.bnd, hr.fresh, by rw [hg]; exact h⟩, fl, hfl, hf.mono (k w.heap.size) (Nat.le_refl _), frsRel.mono (k w.heap.size) hfl hfs⟩, hg, k B⟩
/-- numbers may be given names -/
theorem ComesV.abst {m : AM} {g : Nat → Int} (s : Nat → Trm) (fs : List Fact) (hc : calm m = true) : ComesV P (m.sub s fs) g m (fun i => (s i).eval g) := fun B base ρ f ccs w hg R => by
  refine ⟨ρ.sub s, f, ccs, w, .refl _ _, R.unsub hc, by simp only [Ren.sub, hg], ?_⟩
  refine ⟨⟨fun _ _ h => h, fun _ => rfl, rfl⟩, Nat.le_refl _, fun _ _ _ => rfl, fun b o l hb hl => .inr ⟨b, substObj s o, l, ?_, hl, rfl⟩, rfl, rfl, rfl⟩
  show (mapPT (substObj s) m.h.m).get b = _
  rw [mapPT_get, hb]; rfl
/-- the names behind the beginning's may be let go -/
def tidy (n : Nat) (m : AM) : Bool := noDraw m.fr.todo && cleanFrame true n m.fr && m.cs.all (cleanFrame true n) && cleanHeap true n m.h.m
theorem ComesV.reset {m m' : AM} {g g' : Nat → Int} (a : ComesV P m g m' g') {n : Nat} (hn : m.h.next ≤ n) (ht : tidy n m' = true) : ComesV P m g ⟨m'.fr, m'.cs, ⟨m'.h.m, n, m'.h.facts⟩⟩ g' := fun B base ρ f ccs w hg R => by
  obtain ⟨ρ1, f1, ccs1, w1, s1, R1, e1, k1⟩ := a B base ρ f ccs w hg R
  simp only [tidy, Bool.and_eq_true] at ht
  obtain ⟨⟨⟨t1, t2⟩, t3⟩, t4⟩ := ht
  obtain ⟨hr, fl, hfl, hf, hfs⟩ := R1
  obtain ⟨b, e, t⟩ := hf.lift2 (.inr (noDraw_ok t1))
  have hag := ρ1.reset_agree true n ρ1.val
  simp only [cleanFrame, Bool.and_eq_true] at t2
  have t2' := t2.1
  simp only [cleanBase, Bool.and_eq_true] at t2'
  refine ⟨ρ1.reset n ρ1.val, f1, ccs1, w1, s1, ⟨?_, fl, hfl, .plain (b.change hag t2.1) (e.change hag t2.2) (t.change hag t2'.1.1.1), hfs.change hag t3⟩, e1, ?_⟩
  · exact Rel.change (fs := m'.h.facts) hag (fun b hb => by simp [Ren.reset]; omega) rfl t4 hr
  · have := k1.reset (n := n) fun b hb => R.rel.fresh b (Nat.le_trans hn hb)
    exact this
end Go.Abs

set_option linter.unusedSimpArgs false
set_option linter.unusedVariables false
namespace Go.Abs
noncomputable section
variable {P : Program} {B : Nat} {ρ : Ren} {h : AHeap} {w : World} {base : List Frame}

/-! segments: a run from a state to a state, the numbers named anew -/
theorem restr_some {env : Env} {l : List Tmp} {t : Tmp} {a : AV} (h : (restr env l).get t = some a) : env.get t = some a := by
  rw [restr_get] at h
  split at h
  · exact h
  · cases h

/-- only the blocks and the temporaries (of the uppermost frame) of a list -/
def AM.tidyUp (keep : List Nat) (lt : List Tmp) (m : AM) : AM := ⟨{ m.fr with env := restr m.fr.env lt }, m.cs, ⟨keepL m.h.m keep, m.h.next, m.h.facts⟩⟩
theorem Comes.tidyUp (m : AM) (keep : List Nat) (lt : List Tmp) (hd : noDraw m.fr.todo = true) : Comes P m (m.tidyUp keep lt) := by
  intro B base ρ f ccs w R
  obtain ⟨hr1, fl, hfl, hf, hcs⟩ := R
  have hs : ∀ b o, (m.tidyUp keep lt).h.m.get b = some o → m.h.m.get b = some o := keepL_get m.h.m keep
  obtain ⟨hr2, hk2⟩ := hr1.drop (h' := (m.tidyUp keep lt).h) hs rfl rfl
  obtain ⟨b, e, t⟩ := hf.lift2 (.inr (noDraw_ok hd))
  exact ⟨ρ, f, ccs, w, .refl _ _, ⟨hr2, fl, hfl, .plain ⟨b.fn, b.kind, b.round, b.defers, b.mode⟩ ⟨e.size, fun t a ha => e.get t a (restr_some ha)⟩ t, frsRel.mono (hk2 w.heap.size) hfl hcs⟩, hk2 B⟩

def AM.know (fs : List Fact) (m : AM) : AM := ⟨m.fr, m.cs, ⟨m.h.m, m.h.next, fs⟩⟩
def AM.setNext (n : Nat) (m : AM) : AM := ⟨m.fr, m.cs, ⟨m.h.m, n, m.h.facts⟩⟩
def look : List (Nat × Trm) → Nat → Trm
  | [], i => .var i
  | (j, t) :: r, i => match Nat.beq j i with
    | true => t
    | false => look r i

/-- the run of a segment -/
def segRun (P : Program) (M : FuncId → List AV → Option AV) (n : Nat) (keep : List Nat) (lt : List Tmp) (fs : List Fact) (S : AM) : Option AM :=
  T.ob (fun m => match noDraw m.fr.todo with | true => some (m.tidyUp keep lt) | false => none) (T.toK (T.frun (T.fast P M) n) (S.know fs))

theorem seg_comes {M : FuncId → List AV → Option AV} (hN : NoNum P) (hmix : P.follows .mixedOrders = true) (hM : T.MemoOk P M) {n nE : Nat} {keep : List Nat} {lt : List Tmp} {fs : List Fact} {S D : AM} {s : List (Nat × Trm)}
    (hrun : segRun P M n keep lt fs S = some ((D.sub (look s) fs).setNext nE)) (hok : (Nat.ble S.h.next D.h.next && tidy D.h.next (D.sub (look s) fs) && calm D) = true) {g : Nat → Int} (hf : ∀ f ∈ fs, f.holds g) :
    ComesV P S g D (fun i => (look s i).eval g) := by
  simp only [Bool.and_eq_true] at hok
  obtain ⟨⟨h1, h2⟩, h3⟩ := hok
  unfold segRun at hrun
  cases e : T.toK (T.frun (T.fast P M) n) (S.know fs) with
  | none => rw [e] at hrun; cases hrun
  | some m =>
    rw [e] at hrun
    have hrun' : (match noDraw m.fr.todo with | true => some (m.tidyUp keep lt) | false => none) = some ((D.sub (look s) fs).setNext nE) := hrun
    split at hrun'
    · rename_i hd
      have hx : m.tidyUp keep lt = (D.sub (look s) fs).setNext nE := by simpa using hrun'
      have c1 : ComesV P S g (S.know fs) g := ComesV.know fs hf
      have c2 : ComesV P (S.know fs) g m g := ComesV.of (T.frun_comes hN hmix hM e) g
      have c3 : ComesV P m g ((D.sub (look s) fs).setNext nE) g := by rw [← hx]; exact ComesV.of (Comes.tidyUp m keep lt hd) g
      have c4 := ((c1.trans c2).trans c3).reset (n := D.h.next) (Nat.le_of_ble_eq_true h1) h2
      have c5 := ComesV.abst (P := P) (g := g) (look s) fs h3
      exact c4.trans c5
    · cases hrun'
end
end Go.Abs

