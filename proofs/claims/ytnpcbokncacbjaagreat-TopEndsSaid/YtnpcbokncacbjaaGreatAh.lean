/- A machine in plain words for the model, each of its steps some steps of the model. -/
import Derived.Test.YtnpcbokncacbjaaGreatAg
import Derived.Calls
set_option linter.all false
set_option linter.unusedSimpArgs false
set_option linter.unusedVariables false
namespace Go.Abs
variable {P : Program} {ρ : Ren} {h : AHeap} {w : World}

theorem arun_add : ∀ (a b : Nat) {m m1 m2 : AM}, arun P a m = some m1 → arun P b m1 = some m2 → arun P (a + b) m = some m2
  | 0, b, m, m1, m2, h1, h2 => by simp only [arun, Option.some.injEq] at h1; subst h1; rw [Nat.zero_add]; exact h2
  | a + 1, b, m, m1, m2, h1, h2 => by
    rw [show a + 1 + b = (a + b) + 1 by omega]
    unfold arun at h1 ⊢
    split at h1
    · rename_i m3 h3; exact arun_add a b h1 h2
    · cases h1

theorem noNum_of (h : P.funcs.toList.all (fun fn => !(fn.body.isSome && fn.name == "runtime.NumGoroutine")) = true) : NoNum P := by
  intro f fn hf hb
  have hm : fn ∈ P.funcs.toList := by
    obtain ⟨h1, h2⟩ := Array.getElem?_eq_some_iff.1 hf
    rw [← h2]; simp
  have := List.all_eq_true.1 h fn hm
  simpa [hb] using this

/-! blocks that nobody needs any more may be forgotten -/
theorem Rel.drop (r : Rel ρ h w) {h' : AHeap} (hs : ∀ b o, h'.m.get b = some o → h.m.get b = some o) (hn : h'.next = h.next) : Rel ρ h' w ∧ ∀ B, KeepsB B ρ h w ρ h' w := by
  refine ⟨⟨fun b o hb => r.obj b o (hs b o hb), fun b b' o o' l l' hb hb' => r.inj b b' o o' l l' (hs b o hb) (hs b' o' hb'), r.bnd, fun b hb => r.fresh b (hn ▸ hb)⟩, fun B => ⟨.refl _, Nat.le_refl _, fun _ _ _ => rfl, fun b o l hb hl => .inr ⟨b, o, l, hs b o hb, hl, rfl⟩, rfl, rfl, rfl⟩⟩

/-- the blocks of a list alone -/
noncomputable def keepL (m : PT AObj) : List Nat → PT AObj
  | [] => .e
  | b :: bs => match m.get b with
    | some o => (keepL m bs).set b o
    | none => keepL m bs
theorem keepL_get (m : PT AObj) : ∀ (l : List Nat) (b : Nat) (o : AObj), (keepL m l).get b = some o → m.get b = some o
  | [], b, o, h => by simp [keepL, PT.get_e] at h
  | x :: l, b, o, h => by
    unfold keepL at h
    split at h
    · rename_i o' ho'
      rw [PT.get_set] at h
      split at h
      · rename_i e; subst e; cases h; exact ho'
      · exact keepL_get m l b o h
    · exact keepL_get m l b o h
noncomputable def AM.keep (l : List Nat) (m : AM) : AM := ⟨m.fr, m.cs, ⟨keepL m.h.m l, m.h.next⟩⟩

/-- some steps, and then only the blocks of the list -/
noncomputable def arunK (P : Program) (n : Nat) (l : List Nat) (m : AM) : Option AM := match arun P n m with
  | some m => some (m.keep l)
  | none => none

theorem arunK_sound {B : Nat} {base : List Frame} (hN : NoNum P) (hmix : P.follows .mixedOrders = true) {n : Nat} {l : List Nat} {m m' : AM} {f : Frame} {ccs : List Frame} (R : MRel P B ρ m f ccs w) (hA : arunK P n l m = some m') : StepOk P B base ρ m m' f ccs w := by
  unfold arunK at hA
  split at hA <;> cases hA
  rename_i m1 h1
  obtain ⟨ρ1, f1, ccs1, w1, s1, R1, k1⟩ := arun_sound (base := base) hN hmix n R h1
  obtain ⟨hr1, fl, hfl, hf, hcs⟩ := R1
  have hs : ∀ b o, (m1.keep l).h.m.get b = some o → m1.h.m.get b = some o := keepL_get m1.h.m l
  obtain ⟨hr2, hk2⟩ := hr1.drop (h' := (m1.keep l).h) hs rfl
  exact ⟨ρ1, f1, ccs1, w1, s1, ⟨hr2, fl, hfl, hf.mono (hk2 w1.heap.size) (Nat.le_refl _), frsRel.mono (hk2 w1.heap.size) hfl hcs⟩, k1.trans (hk2 B)⟩

/-- the machine comes from one state to another, and may forget blocks on its way -/
inductive AReach (P : Program) : AM → AM → Prop where
  | refl (m : AM) : AReach P m m
  | run {m m1 m2 : AM} (n : Nat) (h : arun P n m = some m1) (r : AReach P m1 m2) : AReach P m m2
  | keep {m m1 m2 : AM} (n : Nat) (l : List Nat) (h : arunK P n l m = some m1) (r : AReach P m1 m2) : AReach P m m2

theorem AReach.trans {m m1 m2 : AM} (a : AReach P m m1) (b : AReach P m1 m2) : AReach P m m2 := by
  induction a with
  | refl => exact b
  | run n h r ih => exact .run n h (ih b)
  | keep n l h r ih => exact .keep n l h (ih b)

theorem reach_sound {B : Nat} {base : List Frame} (hN : NoNum P) (hmix : P.follows .mixedOrders = true) {m m' : AM} (hA : AReach P m m') : ∀ {ρ : Ren} {f : Frame} {ccs : List Frame} {w : World}, MRel P B ρ m f ccs w → StepOk P B base ρ m m' f ccs w := by
  induction hA with
  | refl m => intro ρ f ccs w R; exact ⟨ρ, f, ccs, w, .refl _ _, R, .refl _ _ _ _⟩
  | run n h r ih =>
    intro ρ f ccs w R
    obtain ⟨ρ1, f1, ccs1, w1, s1, R1, k1⟩ := arun_sound (base := base) hN hmix n R h
    obtain ⟨ρ2, f2, ccs2, w2, s2, R2, k2⟩ := ih R1
    exact ⟨ρ2, f2, ccs2, w2, s1.trans s2, R2, k1.trans k2⟩
  | keep n l h r ih =>
    intro ρ f ccs w R
    obtain ⟨ρ1, f1, ccs1, w1, s1, R1, k1⟩ := arunK_sound (base := base) hN hmix R h
    obtain ⟨ρ2, f2, ccs2, w2, s2, R2, k2⟩ := ih R1
    exact ⟨ρ2, f2, ccs2, w2, s1.trans s2, R2, k1.trans k2⟩

/-- a run of the machine to a function's end is a call of the model -/
theorem calls_of_run (hN : NoNum P) (hmix : P.follows .mixedOrders = true) {k : FuncId} {args : List AV} {cargs : List Value} {a : AFrame} {m' : AM} (hr : Rel ρ h w) (hc : concL ρ args = some cargs) (he : enterFrame P k args false = some a)
    (hrun : AReach P ⟨a, [], h⟩ m') (hmode : m'.fr.mode = .returning) (hd : m'.fr.defers = []) (hcs : m'.cs = []) (hfn : m'.fr.fn = k) (hdf : m'.fr.deferred = false) {fn : Func} (hf : P.funcs[k]? = some fn) {l : List AV} (hl : resultsA P m'.h m'.fr.env fn.results.toList = some l) :
    Calls P k cargs.toArray w (fun e w' => ∃ ρ' cv, e = .returned cv ∧ conc ρ' (oneOf l) = some cv ∧ Rel ρ' m'.h w' ∧ KeepsB w.heap.size ρ h w ρ' m'.h w') := by
  intro cs
  obtain ⟨b1, e1, t1⟩ := enter_rel (df := false) hc he
  have R : MRel P w.heap.size ρ ⟨a, [], h⟩ (Frame.enter P k cargs.toArray .normal) [] w := ⟨hr, w.heap.size, Nat.le_refl _, .plain b1 e1 t1, Nat.le_refl _⟩
  obtain ⟨ρ', f', ccs', w', hs, R', hk⟩ := reach_sound (base := cs) hN hmix hrun R
  obtain ⟨hr', fl, hfl, hfr, hfrs⟩ := R'
  rw [hcs] at hfrs
  cases ccs' with
  | cons => exact hfrs.elim
  | nil =>
    obtain ⟨b, env, todo⟩ := hfr.lift2 (.inl (by rw [hmode]; simp))
    obtain ⟨cv, g1, g2⟩ := results_ok (P := P) hr' env.get hl
    have hbm := b.mode
    rw [hmode] at hbm
    refine ⟨.returned cv, w', f', ⟨ρ', cv, rfl, g2, hr', hk⟩, hs, b.fn.trans hfn, hbm, ?_, ?_, fn, ?_, g1⟩
    · have := b.defers; rw [hd] at this; simp only [concDs, Option.some.injEq] at this; exact this.symm
    · have := b.kind; rw [hdf] at this; simpa using this
    · rw [b.fn, hfn]; exact hf

/-- nothing is known of memory -/
def ren0 : Ren := { loc := fun _ => none, val := fun _ => 0 }
theorem rel0 (w : World) : Rel ren0 ⟨.e, 0⟩ w :=
  ⟨fun b o hb => by simp [PT.get_e] at hb, fun b b' o o' l l' hb => by simp [PT.get_e] at hb, fun b l hl => by simp [ren0] at hl, fun b _ => rfl⟩

end Go.Abs

set_option linter.unusedSimpArgs false
set_option linter.unusedVariables false
namespace Go.Abs
variable {P : Program} {B : Nat} {ρ : Ren} {h : AHeap} {w : World}

/-! values that name only blocks below a bound, and no unknown number -/
mutual
def clean (n : Nat) : AV → Bool
  | .lin .. => false
  | .ptrL .. => false
  | .ptr b _ => Nat.blt b n
  | .slice b _ _ _ => Nat.blt b n
  | .vslice b _ _ _ => Nat.blt b n
  | .eslice b _ _ _ => Nat.blt b n
  | .map b => Nat.blt b n
  | .yld b => Nat.blt b n
  | .func _ a c => cleanL n a && cleanL n c
  | .iface _ v => clean n v
  | .agg l => cleanL n l
  | .tup l => cleanL n l
  | _ => true
def cleanL (n : Nat) : List AV → Bool
  | [] => true
  | v :: vs => clean n v && cleanL n vs
end

/-- two memories' places agree below a bound -/
def Ren.agree (ρ ρ2 : Ren) (n : Nat) : Prop := ∀ b, b < n → ρ2.loc b = ρ.loc b

mutual
theorem clean_conc {ρ ρ2 : Ren} {n : Nat} (hl : ρ.agree ρ2 n) : ∀ (a : AV), clean n a = true → conc ρ2 a = conc ρ a
  | .bool _, _ => by simp [conc]
  | .int _ _, _ => by simp [conc]
  | .str _, _ => by simp [conc]
  | .nilp, _ => by simp [conc]
  | .nils, _ => by simp [conc]
  | .nilm, _ => by simp [conc]
  | .nilf, _ => by simp [conc]
  | .nili, _ => by simp [conc]
  | .lin .., h => by simp [clean] at h
  | .ptrL .., h => by simp [clean] at h
  | .ptr b _, h => by simp only [clean] at h; simp only [conc, hl b (lt_of_blt h)]
  | .slice b _ _ _, h => by simp only [clean] at h; simp only [conc, hl b (lt_of_blt h)]
  | .vslice b _ _ _, h => by simp only [clean] at h; simp only [conc, hl b (lt_of_blt h)]
  | .eslice b _ _ _, h => by simp only [clean] at h; simp only [conc, hl b (lt_of_blt h)]
  | .map b, h => by simp only [clean] at h; simp only [conc, hl b (lt_of_blt h)]
  | .yld b, h => by simp only [clean] at h; simp only [conc, hl b (lt_of_blt h)]
  | .func f a c, h => by
    simp only [clean, Bool.and_eq_true] at h
    simp only [conc, cleanL_conc hl a h.1, cleanL_conc hl c h.2]
  | .iface t v, h => by simp only [clean] at h; simp only [conc, clean_conc hl v h]
  | .agg l, h => by simp only [clean] at h; simp only [conc, cleanL_conc hl l h]
  | .tup l, h => by simp only [clean] at h; simp only [conc, cleanL_conc hl l h]
theorem cleanL_conc {ρ ρ2 : Ren} {n : Nat} (hl : ρ.agree ρ2 n) : ∀ (a : List AV), cleanL n a = true → concL ρ2 a = concL ρ a
  | [], _ => by simp [concL]
  | v :: vs, h => by
    simp only [cleanL, Bool.and_eq_true] at h
    simp only [concL, clean_conc hl v h.1, cleanL_conc hl vs h.2]
end

/-! trees -/
def PT.allK {α : Type} (f : Nat → α → Bool) : Nat → Nat → PT α → Bool
  | _, _, .e => true
  | a, b, .nd l v r => (match v with | some x => f b x | none => true) && PT.allK f (2 * a) (a + b) l && PT.allK f (2 * a) (2 * a + b) r

theorem PT.allK_get {α : Type} {f : Nat → α → Bool} : ∀ {t : PT α} {a b j : Nat} {x : α}, PT.allK f a b t = true → t.get j = some x → f (a * j + b) x = true
  | .e, a, b, j, x, _, h => by rw [PT.get_e] at h; cases h
  | .nd l v r, a, b, 0, x, ha, h => by
    simp only [PT.allK, Bool.and_eq_true] at ha
    rw [PT.get_zero] at h; subst h
    simpa using ha.1.1
  | .nd l v r, a, b, j + 1, x, ha, h => by
    simp only [PT.allK, Bool.and_eq_true] at ha
    rcases Nat.mod_two_eq_zero_or_one j with h' | h'
    · rw [PT.get_left _ _ _ h'] at h
      have := PT.allK_get ha.1.2 h
      have hh : 2 * a * (j / 2) + (a + b) = a * (j + 1) + b := by
        have : j + 1 = 2 * (j / 2) + 1 := by omega
        rw [this, Nat.mul_add, Nat.mul_one, ← Nat.mul_assoc, Nat.mul_comm a 2]; omega
      rwa [hh] at this
    · rw [PT.get_right _ _ _ h'] at h
      have := PT.allK_get ha.2 h
      have hh : 2 * a * (j / 2) + (2 * a + b) = a * (j + 1) + b := by
        have : j + 1 = 2 * (j / 2) + 2 := by omega
        rw [this, Nat.mul_add, ← Nat.mul_assoc, Nat.mul_comm a 2]; omega
      rwa [hh] at this

def cleanEnv (n : Nat) (env : PT AV) : Bool := PT.allK (fun _ a => clean n a) 1 0 env
theorem cleanEnv_get {n : Nat} {env : PT AV} (h : cleanEnv n env = true) {t : Nat} {a : AV} (ha : env.get t = some a) : clean n a = true := PT.allK_get h ha

theorem EnvRel.change {ρ ρ2 : Ren} {n k : Nat} (hl : ρ.agree ρ2 n) {env : PT AV} (hc : cleanEnv n env = true) {tmps : Array Value} (r : EnvRel ρ k env tmps) : EnvRel ρ2 k env tmps :=
  ⟨r.size, fun t a ha => by rw [clean_conc hl a (cleanEnv_get hc ha)]; exact r.get t a ha⟩

def cleanD (n : Nat) : ADefer → Bool
  | .call d => cleanL n d.args && cleanL n d.cap
  | .collected r => Nat.blt r n
theorem concD_change {ρ ρ2 : Ren} {n : Nat} (hl : ρ.agree ρ2 n) {d : ADefer} (h : cleanD n d = true) : concD ρ2 d = concD ρ d := by
  cases d with
  | call d => simp only [cleanD, Bool.and_eq_true] at h; simp only [concD, cleanL_conc hl _ h.1, cleanL_conc hl _ h.2]
  | collected r => simp only [cleanD] at h; simp only [concD, hl r (lt_of_blt h)]
theorem concDs_change {ρ ρ2 : Ren} {n : Nat} (hl : ρ.agree ρ2 n) : ∀ {d : List ADefer}, d.all (cleanD n) = true → concDs ρ2 d = concDs ρ d
  | [], _ => by simp [concDs]
  | d :: ds, h => by
    simp only [List.all_cons, Bool.and_eq_true] at h
    simp only [concDs, concD_change hl h.1, concDs_change hl h.2]
def cleanE (n : Nat) (e : AV × AV × Nat) : Bool := clean n e.1 && clean n e.2.1
theorem concEs_change {ρ ρ2 : Ren} {n : Nat} (hl : ρ.agree ρ2 n) : ∀ {d : List (AV × AV × Nat)}, d.all (cleanE n) = true → concEs ρ2 d = concEs ρ d
  | [], _ => by simp [concEs]
  | d :: ds, h => by
    simp only [List.all_cons, Bool.and_eq_true, cleanE] at h
    simp only [concEs, concE, clean_conc hl _ h.1.1, clean_conc hl _ h.1.2, concEs_change hl h.2]

def cleanObj (n : Nat) : AObj → Bool
  | .cells z _ _ _ _ m => z.all (fun x => clean n x.2) && PT.allK (fun _ a => clean n a) 1 0 m
  | .map es _ => es.all (cleanE n)
  | .mapIter none _ _ _ => true
  | .mapIter (some r) _ _ _ => Nat.blt r n
  | .loop _ _ _ _ env _ _ _ ds => Nat.blt ds n && cleanEnv n env
  | .deferred none => true
  | .deferred (some ds) => ds.all (cleanD n)

theorem zeroAt_mem : ∀ {z : List (Nat × AV)} {i : Nat} {a : AV}, zeroAt z i = some a → ∃ x ∈ z, x.2 = a
  | [], i, a, h => by simp [zeroAt] at h
  | (k, v) :: rest, i, a, h => by
    simp only [zeroAt] at h
    split at h
    · cases h; exact ⟨(k, v), List.mem_cons_self, rfl⟩
    · obtain ⟨x, hx, e⟩ := zeroAt_mem h; exact ⟨x, List.mem_cons_of_mem _ hx, e⟩

theorem objRel.change {ρ ρ2 : Ren} {n : Nat} (hl : ρ.agree ρ2 n) {l : Loc} {a : AObj} {o : Obj} (hc : cleanObj n a = true) (r : objRel ρ l a o) : objRel ρ2 l a o := by
  unfold objRel at r ⊢
  split at r
  · rename_i z p lim ex esz m
    simp only [cleanObj, Bool.and_eq_true] at hc
    obtain ⟨c, e, h1, h2, h3, h4⟩ := r
    refine ⟨c, e, h1, h2, h3, fun i a ha => ?_⟩
    obtain ⟨h5, v, hv, hcc⟩ := h4 i a ha
    refine ⟨h5, v, ?_, hcc⟩
    rw [clean_conc hl a ?_]
    · exact hv
    · simp only [AObj.at] at ha
      split at ha
      · split at ha
        · cases ha; exact PT.allK_get hc.2 (by assumption)
        · obtain ⟨x, hx, rfl⟩ := zeroAt_mem ha
          exact List.all_eq_true.1 hc.1 x hx
      · cases ha
  · simp only [cleanObj] at hc
    obtain ⟨c, h1, h2⟩ := r; exact ⟨c, by rw [concEs_change hl hc]; exact h1, h2⟩
  · exact r
  · simp only [cleanObj] at hc
    obtain ⟨h0, c, h1, h2⟩ := r; exact ⟨h0, c, by rw [hl _ (lt_of_blt hc)]; exact h1, h2⟩
  · simp only [cleanObj, Bool.and_eq_true] at hc
    obtain ⟨c, d, h1, h2, h3⟩ := r; exact ⟨c, d, by rw [hl _ (lt_of_blt hc.1)]; exact h1, h2.change hl hc.2, h3⟩
  · exact r
  · simp only [cleanObj] at hc
    obtain ⟨c, h1, h2⟩ := r; exact ⟨c, by rw [concDs_change hl hc]; exact h1, h2⟩

def cleanHeap (n : Nat) (m : PT AObj) : Bool := PT.allK (fun b o => Nat.blt b n && cleanObj n o) 1 0 m
theorem cleanHeap_get {n : Nat} {m : PT AObj} (h : cleanHeap n m = true) {b : Nat} {o : AObj} (hb : m.get b = some o) : b < n ∧ cleanObj n o = true := by
  have := PT.allK_get h hb
  simp only [Nat.one_mul, Nat.add_zero, Bool.and_eq_true] at this
  exact ⟨lt_of_blt this.1, this.2⟩

theorem Rel.change {ρ ρ2 : Ren} {n : Nat} (hl : ρ.agree ρ2 n) (hn : ∀ b, n ≤ b → ρ2.loc b = none) {m : PT AObj} {next : Nat} (hc : cleanHeap n m = true) (r : Rel ρ ⟨m, next⟩ w) : Rel ρ2 ⟨m, n⟩ w := by
  refine ⟨fun b o hb => ?_, fun b b' o o' l l' hb hb' h1 h2 => ?_, fun b l hb => ?_, fun b hb => hn b hb⟩
  · obtain ⟨h1, h2⟩ := cleanHeap_get hc hb
    obtain ⟨l, h3, co, h4, h5⟩ := r.obj b o hb
    exact ⟨l, by rw [hl b h1]; exact h3, co, h4, h5.change hl h2⟩
  · obtain ⟨g1, _⟩ := cleanHeap_get hc hb
    obtain ⟨g2, _⟩ := cleanHeap_get hc hb'
    rw [hl b g1] at h1; rw [hl b' g2] at h2
    exact r.inj b b' o o' l l' hb hb' h1 h2
  · by_cases hb' : b < n
    · rw [hl b hb'] at hb; exact r.bnd b l hb
    · rw [hn b (by omega)] at hb; cases hb

/-! frames -/
def cleanItem (n : Nat) : AItem → Bool
  | .inRangeFunc l => Nat.blt l n
  | .endRangeFunc l => Nat.blt l n
  | .draw ops chain _ _ => chain.all fun i => match ops[i]? with | some o => !floatOp o.op | none => true
  | _ => true
theorem todoRel.change {ρ ρ2 : Ren} {n : Nat} (hl : ρ.agree ρ2 n) : ∀ {a : List AItem} {b : List Item}, a.all (cleanItem n) = true → todoRel ρ a b → todoRel ρ2 a b
  | [], [], _, _ => trivial
  | [], _ :: _, _, r => r.elim
  | _ :: _, [], _, r => r.elim
  | a :: as, b :: bs, h, r => by
    simp only [List.all_cons, Bool.and_eq_true] at h
    refine ⟨?_, todoRel.change hl h.2 r.2⟩
    have h1 := r.1
    have hc := h.1
    cases a <;> simp only [itemRel, cleanItem] at h1 hc ⊢ <;> first
      | exact h1
      | (obtain ⟨l, h3, h4⟩ := h1; exact ⟨l, by rw [hl _ (lt_of_blt hc)]; exact h3, h4⟩)

def cleanBase (n : Nat) (a : AFrame) : Bool :=
  a.todo.all (cleanItem n) && a.defers.all (cleanD n) && (match a.mode with | .panicking _ => false | _ => true) && (match a.roundOf with | some l => Nat.blt l n | none => true)

theorem FrBase.change {ρ ρ2 : Ren} {n : Nat} (hl : ρ.agree ρ2 n) {a : AFrame} {f : Frame} (hc : cleanBase n a = true) (r : FrBase ρ a f) : FrBase ρ2 a f := by
  simp only [cleanBase, Bool.and_eq_true] at hc
  refine ⟨r.fn, r.kind, ?_, by rw [concDs_change hl hc.1.1.2]; exact r.defers, ?_⟩
  · have := r.round
    cases ha : a.roundOf with
    | none => simpa [ha] using this
    | some l =>
      simp only [ha] at this hc ⊢
      obtain ⟨lc, h1, h2⟩ := this
      exact ⟨lc, by rw [hl _ (lt_of_blt hc.2)]; exact h1, h2⟩
  · have := r.mode
    cases ha : a.mode with
    | panicking c => simp [ha] at hc
    | run => simpa [ha, modeRel] using this
    | returning => simpa [ha, modeRel] using this

def cleanFrame (n : Nat) (a : AFrame) : Bool := cleanBase n a && cleanEnv n a.env

theorem FrRel.change {ρ ρ2 : Ren} {n : Nat} (hl : ρ.agree ρ2 n) {h h2 : AHeap} {fl cl : Nat} {a : AFrame} {f : Frame} (hc : cleanFrame n a = true) (r : FrRel P false fl cl ρ h w a f) : FrRel P false fl cl ρ2 h2 w a f := by
  simp only [cleanFrame, Bool.and_eq_true] at hc
  have hb := hc.1
  simp only [cleanBase, Bool.and_eq_true] at hb
  cases r with
  | plain b env todo => exact .plain (b.change hl hc.1) (env.change hl hc.2) (todo.change hl hb.1.1.1)
  | draw ht => cases ht
  | drawn ht hm b ops i chain acted seen k todo k' listed e1 e2 hk r hi hp left =>
    have ht := hb.1.1.1
    rw [e1] at ht
    simp only [List.all_cons, Bool.and_eq_true] at ht
    refine .drawn rfl hm (b.change hl hc.1) ops i chain acted seen k todo k' listed e1 e2 (hk.change hl ht.2) ?_ hi hp left
    refine ⟨r.ok, r.full, r.lsize, r.closed, r.acts, r.seenQ, r.doneQ, r.size, fun t a ha hs => ?_, fun j o hj ho hlj => ?_⟩
    · rw [clean_conc hl a (cleanEnv_get hc.2 ha)]; exact r.sync t a ha hs
    · have hf := (r.early j o hj ho hlj).1
      have := List.all_eq_true.1 ht.1 j hj
      simp only [ho, hf] at this
      cases this

theorem frsRel.change {ρ ρ2 : Ren} {n : Nat} (hl : ρ.agree ρ2 n) {h h2 : AHeap} : ∀ {cl : Nat} {a : List AFrame} {b : List Frame}, a.all (cleanFrame n) = true → frsRel P B ρ h w cl a b → frsRel P B ρ2 h2 w cl a b
  | _, [], [], _, r => r
  | _, [], _ :: _, _, r => r.elim
  | _, _ :: _, [], _, r => r.elim
  | _, _ :: _, _ :: _, hc, ⟨fl, h1, h2, h3⟩ => by
    simp only [List.all_cons, Bool.and_eq_true] at hc
    exact ⟨fl, h1, h2.change hl hc.1, frsRel.change hl hc.2 h3⟩

end Go.Abs

set_option linter.unusedSimpArgs false
set_option linter.unusedVariables false
namespace Go.Abs
variable {P : Program} {B : Nat} {ρ : Ren} {h : AHeap} {w : World} {base : List Frame}

/-! a loop whose turns differ in one number -/
def numOf (v : Nat) : AV → Option (IntKind × Int)
  | .int k d => some (k, d)
  | .lin k i m c _ _ => match Nat.beq i 0 with
    | true => some (k, m * (v : Int) + c)
    | false => none
  | _ => none
def inR (v : Nat) : AV → Prop
  | .lin _ _ _ _ lo hi => lo ≤ v ∧ v ≤ hi
  | _ => True

def topOk (n v1 v2 : Nat) (env env2 : PT AV) : Prop := ∀ t a, env2.get t = some a → ∃ a', env.get t = some a' ∧ ((clean n a = true ∧ a' = a) ∨ ∃ kd, numOf v1 a' = some kd ∧ numOf v2 a = some kd ∧ inR v2 a)

theorem numOf_conc {v : Nat} (hv : ρ.val 0 = v) {a : AV} {k : IntKind} {d : Int} (h : numOf v a = some (k, d)) : (∀ x, conc ρ a = some x → x = .int k d) ∧ (inR v a → conc ρ a = some (.int k d)) := by
  cases a with
  | int k' d' => simp only [numOf, Option.some.injEq, Prod.mk.injEq] at h; obtain ⟨rfl, rfl⟩ := h; exact ⟨fun x hx => by simp [conc] at hx; exact hx.symm, fun _ => by simp [conc]⟩
  | lin k' i m c lo hi =>
    simp only [numOf] at h
    split at h
    · rename_i e
      have := Nat.eq_of_beq_eq_true e; subst this
      simp only [Option.some.injEq, Prod.mk.injEq] at h; obtain ⟨rfl, rfl⟩ := h
      refine ⟨fun x hx => ?_, fun hr => ?_⟩
      · simp only [conc] at hx; split at hx <;> cases hx
        rw [hv]
      · simp only [inR] at hr
        simp only [conc, hv]; rw [if_pos hr]
    · cases h
  | _ => simp [numOf] at h

def Ren.reset (ρ : Ren) (n : Nat) (g : Nat → Nat) : Ren := ⟨fun b => if b < n then ρ.loc b else none, g⟩
theorem Ren.reset_agree (ρ : Ren) (n : Nat) (g : Nat → Nat) : ρ.agree (ρ.reset n g) n := fun b hb => by simp [Ren.reset, hb]

theorem EnvRel.top {n k v1 v2 : Nat} {env env2 : PT AV} {tmps : Array Value} {g : Nat → Nat} (h1 : ρ.val 0 = v1) (h2 : g 0 = v2) (ht : topOk n v1 v2 env env2) (r : EnvRel ρ k env tmps) : EnvRel (ρ.reset n g) k env2 tmps := by
  refine ⟨r.size, fun t a ha => ?_⟩
  obtain ⟨a', ha', hh⟩ := ht t a ha
  obtain ⟨x, hx, hx'⟩ := r.get t a' ha'
  rcases hh with ⟨hc, rfl⟩ | ⟨⟨k', d⟩, g1, g2, g3⟩
  · exact ⟨x, by rw [clean_conc (ρ.reset_agree n g) _ hc]; exact hx, hx'⟩
  · have := (numOf_conc h1 g1).1 x hx; subst this
    exact ⟨_, (numOf_conc (ρ := ρ.reset n g) h2 g2).2 g3, hx'⟩

theorem MRel.change {n v1 v2 : Nat} {g : Nat → Nat} {fr : AFrame} {cs : List AFrame} {mm : PT AObj} {next : Nat} {env env2 : PT AV} {f : Frame} {ccs : List Frame}
    (R : MRel P B ρ ⟨{ fr with env := env }, cs, ⟨mm, next⟩⟩ f ccs w) (hd : ∀ ops chain acted seen k, fr.todo ≠ .draw ops chain acted seen :: k)
    (hb : cleanBase n fr = true) (hcs : cs.all (cleanFrame n) = true) (hm : cleanHeap n mm = true) (h1 : ρ.val 0 = v1) (h2 : g 0 = v2) (ht : topOk n v1 v2 env env2) :
    MRel P B (ρ.reset n g) ⟨{ fr with env := env2 }, cs, ⟨mm, n⟩⟩ f ccs w := by
  obtain ⟨hr, fl, hfl, hf, hfs⟩ := R
  have hag := ρ.reset_agree n g
  refine ⟨hr.change hag (fun b hb => by simp [Ren.reset]; omega) hm, fl, hfl, ?_, hfs.change hag hcs⟩
  obtain ⟨b, e, t⟩ := hf.lift2 (.inr hd)
  have hb' := hb
  simp only [cleanBase, Bool.and_eq_true] at hb'
  have hbase : cleanBase n { fr with env := env } = true := hb
  have b2 := b.change hag hbase
  exact .plain ⟨b2.fn, b2.kind, b2.round, b2.defers, b2.mode⟩ (e.top h1 h2 ht) (t.change hag hb'.1.1.1)

theorem KeepsB.setVal {ρ ρ' : Ren} {h h' : AHeap} {w w' : World} (k : KeepsB B ρ h w ρ' h' w') (g : Nat → Nat) : KeepsB B ⟨ρ.loc, g⟩ h w ⟨ρ'.loc, g⟩ h' w' :=
  ⟨⟨k.le.loc, fun _ => rfl⟩, k.size, k.same, k.img, k.os, k.output, k.tape⟩

theorem KeepsB.reset {ρ ρ' : Ren} {h h' : AHeap} {w w' : World} (k : KeepsB B ρ h w ρ' h' w') {n : Nat} (hf : ∀ b, n ≤ b → ρ.loc b = none) : KeepsB B ρ h w (ρ'.reset n ρ.val) ⟨h'.m, n⟩ w' := by
  refine ⟨⟨fun b l hb => ?_, fun _ => rfl⟩, k.size, k.same, fun b o l hb hl => ?_, k.os, k.output, k.tape⟩
  · by_cases hn : b < n
    · simp only [Ren.reset, hn, if_true]; exact k.le.loc b l hb
    · rw [hf b (by omega)] at hb; cases hb
  · simp only [Ren.reset] at hl
    split at hl
    · exact k.img b o l hb hl
    · cases hl

/-- the machine comes from one state to another, whatever the memory's places -/
def Comes (P : Program) (m m' : AM) : Prop := ∀ (B : Nat) (base : List Frame) (ρ : Ren) (f : Frame) (ccs : List Frame) (w : World), MRel P B ρ m f ccs w → StepOk P B base ρ m m' f ccs w

theorem Comes.refl (m : AM) : Comes P m m := fun B base ρ f ccs w R => ⟨ρ, f, ccs, w, .refl _ _, R, .refl _ _ _ _⟩
theorem Comes.trans {m m1 m2 : AM} (a : Comes P m m1) (b : Comes P m1 m2) : Comes P m m2 := fun B base ρ f ccs w R =>
  let ⟨ρ1, f1, ccs1, w1, s1, R1, k1⟩ := a B base ρ f ccs w R
  let ⟨ρ2, f2, ccs2, w2, s2, R2, k2⟩ := b B base ρ1 f1 ccs1 w1 R1
  ⟨ρ2, f2, ccs2, w2, s1.trans s2, R2, k1.trans k2⟩
theorem Comes.run (hN : NoNum P) (hmix : P.follows .mixedOrders = true) {n : Nat} {m m' : AM} (h : arun P n m = some m') : Comes P m m' := fun _ _ _ _ _ _ R => arun_sound hN hmix n R h
theorem Comes.keep (hN : NoNum P) (hmix : P.follows .mixedOrders = true) {n : Nat} {l : List Nat} {m m' : AM} (h : arunK P n l m = some m') : Comes P m m' := fun _ _ _ _ _ _ R => arunK_sound hN hmix R h

/-- the turns of a loop, each but one number like the one ahead -/
theorem turns {n nE hi : Nat} {fr : AFrame} {cs : List AFrame} {mm : PT AObj} {envS envE : Env}
    (hrun : Comes P ⟨{ fr with env := envS }, cs, ⟨mm, n⟩⟩ ⟨{ fr with env := envE }, cs, ⟨mm, nE⟩⟩)
    (hd : ∀ ops chain acted seen k, fr.todo ≠ .draw ops chain acted seen :: k)
    (hb : cleanBase n fr = true) (hcs : cs.all (cleanFrame n) = true) (hm : cleanHeap n mm = true)
    (hstep : ∀ v, v < hi → topOk n v (v + 1) envE envS) : ∀ (j v : Nat), v + j = hi → ∀ {ρ : Ren} {f : Frame} {ccs : List Frame} {w : World}, ρ.val 0 = v → MRel P B ρ ⟨{ fr with env := envS }, cs, ⟨mm, n⟩⟩ f ccs w →
      ∃ ρ' f' ccs' w', Steps P (lone f (ccs ++ base) w) (lone f' (ccs' ++ base) w') ∧ MRel P B ρ' ⟨{ fr with env := envE }, cs, ⟨mm, nE⟩⟩ f' ccs' w' ∧ ρ'.val 0 = hi ∧ KeepsB B ρ ⟨mm, n⟩ w ⟨ρ'.loc, ρ.val⟩ ⟨mm, nE⟩ w'
  | 0, v, hv, ρ, f, ccs, w, h0, R => by
    obtain ⟨ρ1, f1, ccs1, w1, s1, R1, k1⟩ := hrun B base _ _ _ _ R
    refine ⟨ρ1, f1, ccs1, w1, s1, R1, by rw [k1.le.val, h0]; omega, ?_⟩
    exact ⟨⟨k1.le.loc, fun _ => rfl⟩, k1.size, k1.same, k1.img, k1.os, k1.output, k1.tape⟩
  | j + 1, v, hv, ρ, f, ccs, w, h0, R => by
    obtain ⟨ρ1, f1, ccs1, w1, s1, R1, k1⟩ := hrun B base _ _ _ _ R
    have hfr := R.rel.fresh
    have R2 := R1.change (g := fun _ => v + 1) hd hb hcs hm (by rw [k1.le.val, h0]) rfl (hstep v (by omega))
    have k2 := k1.reset (n := n) hfr
    obtain ⟨ρ3, f3, ccs3, w3, s3, R3, h3, k3⟩ := turns hrun hd hb hcs hm hstep j (v + 1) (by omega) rfl R2
    refine ⟨ρ3, f3, ccs3, w3, s1.trans s3, R3, h3, ?_⟩
    exact k2.trans (k3.setVal ρ.val)

/-- the values at a loop's begin, within it, at its end -/
def pairE (n : Nat) (a' a : AV) : Bool :=
  match a, a' with
  | .lin k i _ c lo _, .int k' d => decide (k = k') && Nat.beq i 0 && decide (c = d) && Nat.beq lo 0
  | _, _ => clean n a && sameV a' a
def pairS (n hi : Nat) (a' a : AV) : Bool :=
  match a, a' with
  | .lin k i m c lo hi1, .lin k' i' m' c' _ _ => decide (k = k') && Nat.beq i 0 && Nat.beq i' 0 && decide (m = m') && decide (c' = c + m) && Nat.beq lo 0 && Nat.beq hi1 hi
  | _, _ => clean n a && sameV a' a
def pairZ (n hi : Nat) (a' a : AV) : Bool :=
  match a, a' with
  | .int k d, .lin k' i' m' c' _ _ => decide (k = k') && Nat.beq i' 0 && decide (d = m' * (hi : Int) + c')
  | _, _ => clean n a && sameV a' a
noncomputable def pairs (p : AV → AV → Bool) (env env2 : PT AV) : Bool := PT.allK (fun t a => match env.get t with | some a' => p a' a | none => false) 1 0 env2

theorem pairs_top {p : AV → AV → Bool} {n v1 v2 : Nat} {env env2 : PT AV} (h : pairs p env env2 = true)
    (hp : ∀ a' a, p a' a = true → (clean n a = true ∧ a' = a) ∨ ∃ kd, numOf v1 a' = some kd ∧ numOf v2 a = some kd ∧ inR v2 a) : topOk n v1 v2 env env2 := by
  intro t a ha
  have := PT.allK_get h ha
  simp only [Nat.one_mul, Nat.add_zero] at this
  split at this
  · rename_i a' ha'; exact ⟨a', ha', hp a' a this⟩
  · cases this

theorem pairE_ok {n : Nat} {v1 : Nat} {a' a : AV} (h : pairE n a' a = true) : (clean n a = true ∧ a' = a) ∨ ∃ kd, numOf v1 a' = some kd ∧ numOf 0 a = some kd ∧ inR 0 a := by
  unfold pairE at h
  split at h
  · simp only [Bool.and_eq_true, decide_eq_true_eq] at h
    obtain ⟨⟨⟨rfl, h2⟩, rfl⟩, h4⟩ := h
    have := Nat.eq_of_beq_eq_true h2; subst this
    have := Nat.eq_of_beq_eq_true h4; subst this
    exact .inr ⟨_, rfl, by simp [numOf], ⟨Nat.le_refl _, Nat.zero_le _⟩⟩
  · simp only [Bool.and_eq_true] at h; exact .inl ⟨h.1, sameV_eq _ _ h.2⟩
theorem pairS_ok {n hi v : Nat} (hv : v < hi) {a' a : AV} (h : pairS n hi a' a = true) : (clean n a = true ∧ a' = a) ∨ ∃ kd, numOf v a' = some kd ∧ numOf (v + 1) a = some kd ∧ inR (v + 1) a := by
  unfold pairS at h
  split at h
  · simp only [Bool.and_eq_true, decide_eq_true_eq] at h
    obtain ⟨⟨⟨⟨⟨⟨rfl, h2⟩, h3⟩, rfl⟩, rfl⟩, h5⟩, h6⟩ := h
    have := Nat.eq_of_beq_eq_true h2; subst this
    have := Nat.eq_of_beq_eq_true h3; subst this
    have := Nat.eq_of_beq_eq_true h5; subst this
    have := Nat.eq_of_beq_eq_true h6; subst this
    refine .inr ⟨_, rfl, ?_, ⟨Nat.zero_le _, hv⟩⟩
    simp only [numOf, Nat.beq_refl, Option.some.injEq, Prod.mk.injEq, true_and]
    rw [Int.natCast_add, Int.mul_add]; simp; omega
  · simp only [Bool.and_eq_true] at h; exact .inl ⟨h.1, sameV_eq _ _ h.2⟩
theorem pairZ_ok {n hi v2 : Nat} {a' a : AV} (h : pairZ n hi a' a = true) : (clean n a = true ∧ a' = a) ∨ ∃ kd, numOf hi a' = some kd ∧ numOf v2 a = some kd ∧ inR v2 a := by
  unfold pairZ at h
  split at h
  · simp only [Bool.and_eq_true, decide_eq_true_eq] at h
    obtain ⟨⟨rfl, h2⟩, rfl⟩ := h
    have := Nat.eq_of_beq_eq_true h2; subst this
    exact .inr ⟨_, rfl, rfl, trivial⟩
  · simp only [Bool.and_eq_true] at h; exact .inl ⟨h.1, sameV_eq _ _ h.2⟩

def noDraw : List AItem → Bool
  | .draw .. :: _ => false
  | _ => true
theorem noDraw_ok {l : List AItem} (h : noDraw l = true) : ∀ ops chain acted seen k, l ≠ .draw ops chain acted seen :: k := by
  rintro ops chain acted seen k rfl; simp [noDraw] at h

/-- what is checked of a loop beside its turn -/
noncomputable def loopOk (n hi : Nat) (fr : AFrame) (cs : List AFrame) (mm : PT AObj) (env0 envS envE envZ : Env) : Bool :=
  noDraw fr.todo && cleanBase n fr && cs.all (cleanFrame n) && cleanHeap n mm && pairs (pairE n) env0 envS && pairs (pairS n hi) envE envS && pairs (pairZ n hi) envE envZ

theorem Comes.loop {n nE hi : Nat} {fr : AFrame} {cs : List AFrame} {mm : PT AObj} {env0 envS envE envZ : Env}
    (hrun : Comes P ⟨{ fr with env := envS }, cs, ⟨mm, n⟩⟩ ⟨{ fr with env := envE }, cs, ⟨mm, nE⟩⟩)
    (hok : loopOk n hi fr cs mm env0 envS envE envZ = true) : Comes P ⟨{ fr with env := env0 }, cs, ⟨mm, n⟩⟩ ⟨{ fr with env := envZ }, cs, ⟨mm, n⟩⟩ := by
  intro B base ρ f ccs w R
  simp only [loopOk, Bool.and_eq_true] at hok
  obtain ⟨⟨⟨⟨⟨⟨h1, h2⟩, h3⟩, h4⟩, h5⟩, h6⟩, h7⟩ := hok
  have hd := noDraw_ok h1
  have R0 := R.change (g := fun _ => 0) hd h2 h3 h4 rfl rfl (pairs_top h5 fun a' a => pairE_ok)
  obtain ⟨ρ1, f1, ccs1, w1, s1, R1, e1, k1⟩ := turns (base := base) hrun hd h2 h3 h4 (fun v hv => pairs_top h6 fun a' a => pairS_ok hv) hi 0 (by omega) rfl R0
  have R2 := R1.change (g := ρ.val) hd h2 h3 h4 e1 rfl (pairs_top h7 fun a' a => pairZ_ok)
  refine ⟨_, f1, ccs1, w1, s1, R2, ?_⟩
  have hfr := R.rel.fresh
  have k0 := (KeepsB.refl B ρ ⟨mm, n⟩ w).reset (n := n) hfr
  have k1' := k0.trans (k1.setVal ρ.val)
  exact k1'.reset (n := n) hfr

end Go.Abs

namespace Go.Abs
/-! a place in a function's body -/
def sub : List Nat → Code → Code
  | [], c => c
  | i :: p, c => match c with
    | .seq a b => (match i with | 0 => sub p a | _ => sub p b)
    | .cond _ a b => (match i with | 0 => sub p a | _ => sub p b)
    | .block _ a => sub p a
    | .loop a => sub p a
    | .scope a => sub p a
    | .rangeFunc _ _ a b => (match i with | 0 => sub p a | _ => sub p b)
    | c => c
def opsAt (p : List Nat) (c : Code) : Array Oper := match sub p c with
  | .region _ ops _ => ops
  | _ => #[]
def bodyOf (f : Func) : Code := match f.body with
  | some c => c
  | none => .skip
end Go.Abs

