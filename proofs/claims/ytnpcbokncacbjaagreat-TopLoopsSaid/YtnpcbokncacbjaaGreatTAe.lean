/- A machine in plain words for the model, each of its steps some steps of the model. -/
import Derived.Test.YtnpcbokncacbjaaGreatTAd
import Derived.Laws.NewFold
import Derived.Calls
import GoSem.ClaimChange
set_option linter.all false
set_option linter.unusedSimpArgs false
set_option linter.unusedVariables false
namespace Go.Abs
variable {P : Program} {B fl : Nat} {ρ : Ren} {h : AHeap} {w : World} {base : List Frame}

theorem exit_rel (id : Nat) : ∀ {k : List AItem} {k' : List Item}, todoRel ρ k k' → match exitA id k with | some j => ∃ j', exitTo id k' = some j' ∧ todoRel ρ j j' | none => exitTo id k' = none
  | [], [], _ => rfl
  | [], _ :: _, r => r.elim
  | _ :: _, [], r => r.elim
  | a :: k, b :: k', ⟨h1, h2⟩ => by
    have ih := exit_rel id h2
    cases a with
    | inBlock i =>
      simp only [itemRel] at h1; subst h1
      simp only [exitA, exitTo]
      by_cases e : (i == id) = true
      · simp only [e, if_true]; exact ⟨k', rfl, h2⟩
      · simp only [e, if_false]; exact ih
    | draw => exact h1.elim
    | inRangeFunc l => obtain ⟨lc, _, rfl⟩ := h1; exact ih
    | endRangeFunc l => obtain ⟨lc, _, rfl⟩ := h1; exact ih
    | _ => simp only [itemRel] at h1; subst h1; exact ih

theorem goto_rel (l : Nat) : ∀ {k : List AItem} {k' : List Item}, todoRel ρ k k' → match gotoA l k with | some j => ∃ j', gotoIn l k' = some j' ∧ todoRel ρ j j' | none => gotoIn l k' = none
  | [], [], _ => rfl
  | [], _ :: _, r => r.elim
  | _ :: _, [], r => r.elim
  | a :: k, b :: k', ⟨h1, h2⟩ => by
    have ih := goto_rel l h2
    cases a with
    | inScope body =>
      simp only [itemRel] at h1; subst h1
      simp only [gotoA, gotoIn]
      cases hf : findLabel body l with
      | some rest => exact ⟨_, rfl, rfl, rfl, h2⟩
      | none => exact ih
    | draw => exact h1.elim
    | inRangeFunc l => obtain ⟨lc, _, rfl⟩ := h1; exact ih
    | endRangeFunc l => obtain ⟨lc, _, rfl⟩ := h1; exact ih
    | _ => simp only [itemRel] at h1; subst h1; exact ih

/-- what is known of the top frame where it does not stand in a region that draws -/
structure Plain (P : Program) (B fl : Nat) (ρ : Ren) (h : AHeap) (w : World) (a : AFrame) (f : Frame) (cs : List AFrame) (ccs : List Frame) : Prop where
  b : FrBase ρ a f
  env : EnvRel ρ a.n a.env f.tmps
  todo : todoRel ρ a.todo f.todo
  rel : Rel ρ h w
  low : fl ≤ w.heap.size
  cs : frsRel P B ρ h w fl cs ccs

theorem Plain.go {a : AFrame} {f : Frame} {cs : List AFrame} {ccs : List Frame} (p : Plain P B fl ρ h w a f cs ccs) (hm : f.mode = .run) {todo : List AItem} {todo' : List Item} (ht : todoRel ρ todo todo')
    (hx : (stepG.exec P true true f (ccs ++ base) none w).bare = goneTo { f with todo := todo' } (ccs ++ base) w) : StepOk P B base ρ ⟨a, cs, h⟩ ⟨{ a with todo }, cs, h⟩ f ccs w :=
  ⟨ρ, { f with todo := todo' }, ccs, w, .one (exec_step hm hx), ⟨p.rel, fl, p.low, .plain ⟨p.b.fn, p.b.kind, p.b.round, p.b.defers, p.b.mode⟩ p.env ht, p.cs⟩, .refl _ _ _ _⟩

theorem Plain.leave {a : AFrame} {f : Frame} {cs : List AFrame} {ccs : List Frame} (p : Plain P B fl ρ h w a f cs ccs) (ha : a.mode = .run) {jump : Option Code} {m' : AM} (hA : leaveA a cs h jump = some m')
    (hx : (stepG.exec P true true f (ccs ++ base) none w).bare = (leaveC P f (ccs ++ base) w jump).bare) : StepOk P B base ρ ⟨a, cs, h⟩ m' f ccs w :=
  leave_ok p.b ha p.env p.todo p.rel p.low p.cs hA hx

/-- the code that neither calls nor ranges over a function, nor begins a region -/
theorem code_ok {a : AFrame} {f : Frame} {cs : List AFrame} {ccs : List Frame} (p : Plain P B fl ρ h w a f cs ccs) (ha : a.mode = .run) {c : Code} {k : List AItem} (ht : a.todo = .code c :: k) {m' : AM} (hA : aexec P a cs h = some m')
    (hc : match c with | .rangeFunc .. => False | .region _ _ true => False | _ => True) : StepOk P B base ρ ⟨a, cs, h⟩ m' f ccs w := by
  have hm : f.mode = .run := by have := p.b.mode; rw [ha] at this; exact this
  have htr := p.todo
  rw [ht] at htr
  cases hft : f.todo with
  | nil => rw [hft] at htr; exact htr.elim
  | cons x k' =>
    rw [hft] at htr
    obtain ⟨h1, h2⟩ := htr
    simp only [itemRel] at h1; subst h1
    unfold aexec at hA
    simp only [ht] at hA
    cases c with
    | ret => exact p.leave ha hA (by unfold stepG.exec leaveC goneTo; simp only [hft]; cases hro : f.roundOf <;> simp [hro] <;> (generalize Sem.run P (Instr.endRound _ _) w = r; cases r <;> rfl))
    | skip => cases hA; exact p.go hm h2 (by unfold stepG.exec; simp only [hft]; rfl)
    | label l => cases hA; exact p.go hm h2 (by unfold stepG.exec; simp only [hft]; rfl)
    | seq x y => cases hA; exact p.go hm (todo' := .code x :: .code y :: k') ⟨rfl, rfl, h2⟩ (by unfold stepG.exec; simp only [hft]; rfl)
    | block id b => cases hA; exact p.go hm (todo' := .code b :: .inBlock id :: k') ⟨rfl, rfl, h2⟩ (by unfold stepG.exec; simp only [hft]; rfl)
    | loop b => cases hA; exact p.go hm (todo' := .code b :: .inLoop b :: k') ⟨rfl, rfl, h2⟩ (by unfold stepG.exec; simp only [hft]; rfl)
    | scope b => cases hA; exact p.go hm (todo' := .code b :: .inScope b :: k') ⟨rfl, rfl, h2⟩ (by unfold stepG.exec; simp only [hft]; rfl)
    | cond c x y =>
      have hev := EvOk.of (f := f) p.env.get
      simp only at hA
      split at hA <;> cases hA
      · rename_i hb
        obtain ⟨v, hv, hv'⟩ := hev c _ hb
        simp only [conc, Option.some.injEq] at hv
        have hcv : f.eval c = .bool true := by first | (rw [← hv', ← hv]) | (rw [hv', ← hv])
        exact p.go hm (todo' := .code x :: k') ⟨rfl, h2⟩ (by unfold stepG.exec; simp only [hft, hcv]; rfl)
      · rename_i hb
        obtain ⟨v, hv, hv'⟩ := hev c _ hb
        simp only [conc, Option.some.injEq] at hv
        have hcv : f.eval c = .bool false := by first | (rw [← hv', ← hv]) | (rw [hv', ← hv])
        exact p.go hm (todo' := .code y :: k') ⟨rfl, h2⟩ (by unfold stepG.exec; simp only [hft, hcv]; rfl)
    | exit id =>
      have he := exit_rel id h2
      simp only at hA
      split at hA
      · rename_i j hj
        cases hA
        rw [hj] at he
        obtain ⟨j', h3, h4⟩ := he
        exact p.go hm h4 (by unfold stepG.exec; simp only [hft, h3]; rfl)
      · rename_i hj
        rw [hj] at he
        exact p.leave ha hA (by unfold stepG.exec leaveC goneTo; simp only [hft, he, Option.elim]; cases hro : f.roundOf <;> simp [hro] <;> (generalize Sem.run P (Instr.endRound _ _) w = r; cases r <;> rfl))
    | goto l =>
      have he := goto_rel l h2
      simp only at hA
      split at hA
      · rename_i j hj
        cases hA
        rw [hj] at he
        obtain ⟨j', h3, h4⟩ := he
        exact p.go hm h4 (by unfold stepG.exec; simp only [hft, h3]; rfl)
      · rename_i hj
        rw [hj] at he
        exact p.leave ha hA (by unfold stepG.exec leaveC goneTo; simp only [hft, he, Option.elim]; cases hro : f.roundOf <;> simp [hro] <;> (generalize Sem.run P (Instr.endRound _ _) w = r; cases r <;> rfl))
    | region id ops draw =>
      cases draw with
      | true => exact hc.elim
      | false => cases hA; exact p.go hm (todo' := .inRegion ops (List.range ops.size) :: k') ⟨rfl, h2⟩ (by unfold stepG.exec; simp only [hft]; rfl)
    | rangeFunc => exact hc.elim
    | refuse => cases hA

/-- the other items that only step on -/
theorem item_ok {a : AFrame} {f : Frame} {cs : List AFrame} {ccs : List Frame} (p : Plain P B fl ρ h w a f cs ccs) (ha : a.mode = .run) {m' : AM} (hA : aexec P a cs h = some m')
    (hc : match a.todo with | [] => True | .inBlock _ :: _ => True | .inScope _ :: _ => True | .inLoop _ :: _ => True | .inRegion _ [] :: _ => True | _ => False) : StepOk P B base ρ ⟨a, cs, h⟩ m' f ccs w := by
  have hm : f.mode = .run := by have := p.b.mode; rw [ha] at this; exact this
  have htr := p.todo
  cases ht : a.todo with
  | nil =>
    rw [ht] at htr
    cases hft : f.todo with
    | cons => rw [hft] at htr; exact htr.elim
    | nil =>
      unfold aexec at hA
      simp only [ht] at hA
      exact p.leave ha hA (by unfold stepG.exec leaveC goneTo; simp only [hft]; cases hro : f.roundOf <;> simp [hro] <;> (generalize Sem.run P (Instr.endRound _ _) w = r; cases r <;> rfl))
  | cons x k =>
    rw [ht] at htr hc
    cases hft : f.todo with
    | nil => rw [hft] at htr; exact htr.elim
    | cons y k' =>
      rw [hft] at htr
      obtain ⟨h1, h2⟩ := htr
      unfold aexec at hA
      simp only [ht] at hA
      cases x with
      | inBlock i => simp only [itemRel] at h1; subst h1; cases hA; exact p.go hm h2 (by unfold stepG.exec; simp only [hft]; rfl)
      | inScope i => simp only [itemRel] at h1; subst h1; cases hA; exact p.go hm h2 (by unfold stepG.exec; simp only [hft]; rfl)
      | inLoop b => simp only [itemRel] at h1; subst h1; cases hA; exact p.go hm (todo' := .code b :: .inLoop b :: k') ⟨rfl, rfl, h2⟩ (by unfold stepG.exec; simp only [hft]; rfl)
      | inRegion ops todo =>
        simp only [itemRel] at h1; subst h1
        cases todo with
        | nil => cases hA; exact p.go hm h2 (by unfold stepG.exec; simp only [hft]; rfl)
        | cons => exact hc.elim
      | _ => exact hc.elim

/-- a region that draws begins -/
theorem drawn_ok (hmix : P.follows .mixedOrders = true) {a : AFrame} {f : Frame} {cs : List AFrame} {ccs : List Frame} (p : Plain P B fl ρ h w a f cs ccs) (ha : a.mode = .run) {id : Nat} {ops : Array Oper} {k : List AItem} (ht : a.todo = .code (.region id ops true) :: k) {m' : AM} (hA : aexec P a cs h = some m') :
    StepOk P B base ρ ⟨a, cs, h⟩ m' f ccs w := by
  have hm : f.mode = .run := by have := p.b.mode; rw [ha] at this; exact this
  have htr := p.todo
  rw [ht] at htr
  cases hft : f.todo with
  | nil => rw [hft] at htr; exact htr.elim
  | cons x k' =>
    rw [hft] at htr
    obtain ⟨h1, h2⟩ := htr
    simp only [itemRel] at h1; subst h1
    unfold aexec at hA
    simp only [ht] at hA
    split at hA <;> cases hA
    rename_i chain hchain
    obtain ⟨t, w', hrun, hheap, hos, hout, htape⟩ : ∃ t w', (choose (.order f.fn id)).run P w = .ok t w' ∧ w'.heap = w.heap ∧ w'.os = w.os ∧ w'.output = w.output ∧ w'.tape = w.tape := by
      rw [run_choose_drew]
      split
      · exact ⟨_, _, rfl, rfl, rfl, rfl, rfl⟩
      · exact ⟨_, _, rfl, rfl, rfl, rfl, rfl⟩
    have hk : Keeps ρ h w ρ h w' := .of_heap hheap hos hout htape
    have hsz : w.heap.size ≤ w'.heap.size := hk.size
    have hok : drawOk ops = true := by
      unfold drawChain at hchain; simp only at hchain; split at hchain
      · assumption
      · cases hchain
    refine ⟨ρ, { f with todo := .inRegion ops (Region.schedule true ops t) :: k' }, ccs, w', .one (exec_step hm ?_), ⟨p.rel.of_heap hheap, fl, Nat.le_trans p.low hsz, ?_, frsRel.mono (hk.toB (Nat.le_refl _)) p.low p.cs⟩, hk.toB (Nat.le_trans (frsRel.low p.cs) p.low)⟩
    · unfold stepG.exec; simp only [hft, Bool.not_true, Bool.false_eq_true, if_false, hrun, hmix]; rfl
    · refine .draw rfl ha ⟨p.b.fn, p.b.kind, p.b.round, p.b.defers, p.b.mode⟩ ops chain 0 0 k _ k' (Array.replicate ops.size false) rfl rfl h2 ?_ ?_
      · have hf : ∀ i, (Array.replicate ops.size false).getD i false = false := fun i => by simp only [Array.getD_eq_getD_getElem?, Array.getElem?_replicate]; split <;> rfl
        have no : ∀ {Q : Prop} {i : Nat}, (Array.replicate ops.size false).getD i false = true → Q := fun {Q i} hl => by rw [hf] at hl; cases hl
        exact ⟨hok, ⟨[], hchain, fun i => by simp⟩, by simp, fun i o ho hl => no hl, fun i hi => (by simp at hi), fun i hi => (by simp at hi), fun i o ho hq hl => no hl, p.env.size, fun t a ha hs => p.env.get t a ha, fun i o hi ho hl => no hl⟩
      · refine ⟨ops.size, t, ?_, ?_⟩
        · simp [Region.schedule, Region.linearise]
        · exact Nat.le_trans List.countP_le_length (by simp)

end Go.Abs

set_option linter.unusedSimpArgs false
set_option linter.unusedVariables false
namespace Go.Abs
variable {P : Program} {B fl : Nat} {ρ : Ren} {h : AHeap} {w : World} {base : List Frame}

theorem envOf_get : ∀ (vs : List AV) (i : Nat) (e : Env) (t : Nat), (envOf i vs e).get t = if i ≤ t ∧ t < i + vs.length then vs[t - i]? else e.get t
  | [], i, e, t => by simp only [envOf, List.length_nil, Nat.add_zero]; rw [if_neg (by omega)]
  | v :: vs, i, e, t => by
    rw [envOf, envOf_get vs (i + 1), PT.get_set]
    simp only [List.length_cons]
    by_cases h1 : t = i
    · subst h1; rw [if_neg (by omega), if_pos rfl, if_pos (by omega)]; simp
    · by_cases h2 : i + 1 ≤ t ∧ t < i + 1 + vs.length
      · rw [if_pos h2, if_pos (by omega), show t - i = (t - (i + 1)) + 1 by omega, List.getElem?_cons_succ]
      · rw [if_neg h2, if_neg h1, if_neg (by omega)]

theorem env_enter {args : List AV} {cargs : List Value} (ha : concL ρ args = some cargs) {n : Nat} (hn : args.length ≤ n) : EnvRel ρ n (envOf 0 args .e) (cargs.toArray ++ Array.replicate (n - cargs.toArray.size) undef) := by
  have hlen := concL_length ha
  refine ⟨by simp; omega, fun t a hg => ?_⟩
  rw [envOf_get] at hg
  split at hg
  · rename_i ht
    simp only [Nat.sub_zero] at hg
    obtain ⟨u, h1, h2⟩ := concL_get ha _ _ hg
    refine ⟨u, h1, ?_⟩
    have : t < cargs.length := by omega
    rw [Array.getElem?_append_left (by simpa using this)]
    simpa using h2
  · simp [PT.get_e] at hg

theorem env_round {n : Nat} : ∀ (params : List Nat) (args : List AV) (cargs : List Value) (env : Env) (tmps : Array Value), concL ρ args = some cargs → EnvRel ρ n env tmps → (∀ t ∈ params, t < n) →
    EnvRel ρ n ((params.zip args).foldl (fun e (t, a) => e.set t a) env) ((params.zip cargs).foldl (fun (tmps : Array Value) (t, a) => tmps.setIfInBounds t a) tmps)
  | [], args, cargs, env, tmps, _, r, _ => by simpa using r
  | t :: params, [], cargs, env, tmps, hc, r, _ => by
    have := concL_length hc
    cases cargs with
    | nil => simpa using r
    | cons => simp at this
  | t :: params, a :: args, cargs, env, tmps, hc, r, hp => by
    cases cargs with
    | nil => have := concL_length hc; simp at this
    | cons v cargs =>
      have hv : conc ρ a = some v := by obtain ⟨u, h1, h2⟩ := concL_get hc 0 a rfl; simp at h2; rw [h2]; exact h1
      have hvs : concL ρ args = some cargs := by
        simp only [concL] at hc
        split at hc
        · cases hc; assumption
        · cases hc
      simp only [List.zip_cons_cons, List.foldl_cons]
      exact env_round params args cargs _ _ hvs (r.set (hp t List.mem_cons_self) hv) fun t ht => hp t (List.mem_cons_of_mem _ ht)

theorem enter_rel {g : FuncId} {args : List AV} {cargs : List Value} {df : Bool} {a : AFrame} (ha : concL ρ args = some cargs) (he : enterFrame P g args df = some a) :
    FrBase ρ a (Frame.enter P g cargs.toArray (if df then .deferred else .normal)) ∧ EnvRel ρ a.n a.env (Frame.enter P g cargs.toArray (if df then .deferred else .normal)).tmps ∧ todoRel ρ a.todo (Frame.enter P g cargs.toArray (if df then .deferred else .normal)).todo := by
  unfold enterFrame at he
  split at he
  case h_2 => cases he
  rename_i fn hfn
  split at he
  case h_2 => cases he
  rename_i c hc
  split at he <;> cases he
  rename_i hle
  refine ⟨⟨rfl, rfl, rfl, rfl, rfl⟩, ?_, ?_⟩
  · simp only [Frame.enter, hfn, Option.map_some, Option.getD_some]; exact env_enter ha hle
  · simp only [Frame.enter, hfn, Option.bind_some, hc, Option.getD_some]; exact ⟨rfl, trivial⟩

/-- a frame with other deferred calls -/
theorem FrRel.redefer {top : Bool} {cl : Nat} {a : AFrame} {f : Frame} (r : FrRel P top fl cl ρ h w a f) {ds : List ADefer} {l : List Deferred} (hd : concDs ρ ds = some l) :
    FrRel P top fl cl ρ h w { a with defers := ds } { f with defers := l } := by
  cases r with
  | plain b e t => exact .plain ⟨b.fn, b.kind, b.round, hd, b.mode⟩ e t
  | draw ht hm b ops chain acted seen k todo k' listed e1 e2 hk r left => exact .draw ht hm ⟨b.fn, b.kind, b.round, hd, b.mode⟩ ops chain acted seen k todo k' listed e1 e2 hk r left
  | drawn ht hm b ops i chain acted seen k todo k' listed e1 e2 hk r hi hp left => exact .drawn ht hm ⟨b.fn, b.kind, b.round, hd, b.mode⟩ ops i chain acted seen k todo k' listed e1 e2 hk r hi hp left

theorem concDs_cons {d : ADefer} {ds : List ADefer} {cd : Deferred} {l : List Deferred} (h1 : concD ρ d = some cd) (h2 : concDs ρ ds = some l) : concDs ρ (d :: ds) = some (cd :: l) := by
  simp only [concDs, h1, h2]

theorem raise_rel {cl : Nat} {a : AFrame} {f : Frame} (b : FrBase ρ a f) (e : EnvRel ρ a.n a.env f.tmps) (t : todoRel ρ a.todo f.todo) {vs : List APanic} {cvs : List PanicEntry} (hv : concP ρ vs cvs) :
    FrRel P true fl cl ρ h w (raiseA a vs) (f.raise cvs) := by
  have hm := b.mode
  unfold raiseA Frame.raise
  cases ha : a.mode with
  | run => rw [ha] at hm; simp only [modeRel] at hm; simp only [hm]; exact .plain ⟨b.fn, b.kind, b.round, b.defers, _, hv, rfl⟩ e t
  | returning => rw [ha] at hm; simp only [modeRel] at hm; simp only [hm]; exact .plain ⟨b.fn, b.kind, b.round, b.defers, _, hv, rfl⟩ e t
  | panicking c =>
    rw [ha] at hm
    obtain ⟨d, h1, h2⟩ := hm
    simp only [h2]
    exact .plain ⟨b.fn, b.kind, b.round, b.defers, _, hv.append h1, rfl⟩ e t

theorem apply_ok {a : AFrame} {f : Frame} {cs : List AFrame} {ccs : List Frame} {res : AR} {s : Sem Next} {m' : AM} (R : FrRel P false fl w.heap.size ρ h w a f) (ha : a.mode = .run) (hr : Rel ρ h w) (hfl : fl ≤ w.heap.size) (hcs : frsRel P B ρ h w fl cs ccs)
    (hop : OpOk P ρ h w res s) (hA : applyA P a cs h res = some m') (hcall : ∀ d r sv k b, f.todo ≠ .call d b r sv :: k) :
    ∃ ρ' f' ccs' w', (stepG.apply P true f (ccs ++ base) none s w).bare = goneTo f' (ccs' ++ base) w' ∧ MRel P B ρ' m' f' ccs' w' ∧ KeepsB B ρ h w ρ' m'.h w' := by
  have low : B ≤ w.heap.size := Nat.le_trans (frsRel.low hcs) hfl
  have hkind : (match f.todo with | .call _ true _ _ :: _ => CallKind.wrapped | _ => .normal) = .normal := by
    split
    · rename_i h1; exact absurd h1 (hcall _ _ _ _ _)
    · rfl
  have bm := R.base
  cases res with
  | val v h' =>
    obtain ⟨ρ', cv, w', hrun, hv, hr', hk⟩ := hop
    simp only [applyA] at hA
    split at hA <;> cases hA
    rename_i a' ha'
    have hkB := hk.toB (Nat.le_refl _)
    refine ⟨ρ', f.finish cv, ccs, w', ?_, ⟨hr', fl, Nat.le_trans hfl hk.size, finish_ok ((R.mono hkB (Nat.le_refl _)).ceil (Nat.le_refl _)) ha' hv, frsRel.mono hkB hfl hcs⟩, hk.toB low⟩
    rcases hrun with hrun | ⟨hrun, rfl⟩ <;> simp [stepG.apply, hrun, goneTo]
  | enter g args h' =>
    obtain ⟨rfl, cargs, hc, hrun⟩ := hop
    simp only [applyA] at hA
    split at hA <;> cases hA
    rename_i g' hg'
    obtain ⟨b1, e1, t1⟩ := enter_rel (df := false) hc hg'
    refine ⟨ρ, Frame.enter P g cargs.toArray .normal, f :: ccs, w, ?_, ⟨hr, w.heap.size, Nat.le_refl _, .plain b1 e1 t1, fl, hfl, R, hcs⟩, .refl _ _ _ _⟩
    simp [stepG.apply, hrun, goneTo]
    exact congrArg _ hkind
  | round l args h' =>
    obtain ⟨rfl, ll, cargs, hl, hc, hrun⟩ := hop
    simp only [applyA] at hA
    split at hA
    case h_2 => cases hA
    rename_i st pend fn n env params assign body ds hml
    split at hA <;> cases hA
    rename_i hcond
    obtain ⟨lc, tmps, ld, g1, g2, g3, g4⟩ := hr.loop hml
    rw [hl] at g1; cases g1
    have hlen := concL_length hc
    have hy : s.run P w = .ok (.round ll.blk fn ((params.zip cargs).foldl (fun (tmps : Array Value) (t, a) => tmps.setIfInBounds t a) tmps) assign body) w := by
      rw [hrun]
      simp only [Instr.yield, Sem.run_bind, getLoop_run g4, Result.andThen_ok]
      rw [if_neg (by simp; omega)]
      simp [Sem.run]
    refine ⟨ρ, Frame.round ll.blk fn ((params.zip cargs).foldl (fun (tmps : Array Value) (t, a) => tmps.setIfInBounds t a) tmps) assign body .normal, f :: ccs, w, ?_, ⟨hr, w.heap.size, Nat.le_refl _, .plain ⟨rfl, rfl, ⟨ll, hl, rfl⟩, rfl, rfl⟩ ?_ ⟨rfl, rfl, rfl, trivial⟩, fl, hfl, R, hcs⟩, .refl _ _ _ _⟩
    · simp [stepG.apply, hy, goneTo]
    · exact env_round params args cargs env tmps hc g3 fun t ht => lt_of_blt (List.all_eq_true.1 hcond.2 t ht)
  | defer d =>
    obtain ⟨cd, hcd, hrun⟩ := hop
    simp only [applyA] at hA
    split at hA
    · cases hA
    · rename_i hro
      have hcr : f.roundOf = none := by have := bm.round; rw [hro] at this; exact this
      split at hA <;> cases hA
      rename_i a' ha'
      refine ⟨ρ, { f with defers := cd :: f.defers }.finish undef, ccs, w, ?_, ⟨hr, fl, hfl, finish_ok (R.redefer (concDs_cons hcd bm.defers)) ha' rfl, hcs⟩, .refl _ _ _ _⟩
      simp [stepG.apply, hrun, goneTo]
  | recover =>
    have hrun : s.run P w = .ok .recover w := hop
    simp only [applyA] at hA
    split at hA
    · cases hA
    · rename_i hro
      have hcr : f.roundOf = none := by have := bm.round; rw [hro] at this; exact this
      have none_ok : (finishA a .nili).map (fun fr => (⟨fr, cs, h⟩ : AM)) = some m' → tryRecover f (ccs ++ base) = none →
          ∃ ρ' f' ccs' w', (stepG.apply P true f (ccs ++ base) none s w).bare = goneTo f' (ccs' ++ base) w' ∧ MRel P B ρ' m' f' ccs' w' ∧ KeepsB B ρ h w ρ' m'.h w' := by
        intro h1 h2
        cases hf : finishA a .nili with
        | none => rw [hf] at h1; cases h1
        | some a' =>
          rw [hf] at h1; cases h1
          refine ⟨ρ, f.finish .nilIface, ccs, w, ?_, ⟨hr, fl, hfl, finish_ok R hf rfl, hcs⟩, .refl _ _ _ _⟩
          simp [stepG.apply, hrun, goneTo, hcr, h2]
      split at hA
      · -- deferred, with a caller
        rename_i c rest hdef
        have hk : f.kind = .deferred := by have := bm.kind; rw [hdef] at this; simpa using this
        cases ccs with
        | nil => exact hcs.elim
        | cons cc crest =>
          obtain ⟨fl1, h1, h2, h3⟩ := hcs
          have hcm := h2.base.mode
          split at hA
          · rename_i v older hmode
            split at hA <;> cases hA
            rename_i a' ha'
            obtain ⟨bc, ec, tc⟩ := h2.lift (by rw [hmode]; simp)
            rw [hmode] at hcm
            obtain ⟨d, hd1, hd2⟩ := hcm
            cases d with
            | nil => exact hd1.elim
            | cons e es =>
              obtain ⟨g1, g2, g3, g4⟩ := hd1
              obtain ⟨ev, er, eg⟩ := e
              simp only at g1 g2 g3; subst g2; subst g3
              refine ⟨ρ, f.finish ev, { cc with mode := .panicking ({ v := ev, recovered := true } :: es) } :: crest, w, ?_, ⟨hr, fl, hfl, finish_ok R ha' g1, fl1, h1, .plain ⟨bc.fn, bc.kind, bc.round, bc.defers, { v := ev, recovered := true } :: es, (show concP ρ (_ :: _) ({ v := ev, recovered := true } :: es) from ⟨g1, rfl, rfl, g4⟩), rfl⟩ ec tc, h3⟩, .refl _ _ _ _⟩
              have ht : tryRecover f (cc :: (crest ++ base)) = some (ev, { cc with mode := .panicking ({ v := ev, recovered := true } :: es) } :: (crest ++ base)) := by
                unfold tryRecover; simp only [hk, hd2]
              simp [stepG.apply, hrun, goneTo, hcr, ht]
          · rename_i hn
            refine none_ok ?_ ?_
            · split at hA <;> cases hA
              rename_i a' ha'
              rw [ha']; rfl
            · unfold tryRecover
              simp only [List.cons_append, hk]
              cases hmode : c.mode with
              | run => rw [hmode] at hcm; simp only [modeRel] at hcm; simp only [hcm]
              | returning => rw [hmode] at hcm; simp only [modeRel] at hcm; simp only [hcm]
              | panicking l =>
                rw [hmode] at hcm
                obtain ⟨d, hd1, hd2⟩ := hcm
                cases l with
                | nil => cases d with
                  | nil => simp only [hd2]
                  | cons => exact hd1.elim
                | cons p l => cases d with
                  | nil => exact hd1.elim
                  | cons e es =>
                    obtain ⟨_, g2, g3, g4⟩ := hd1
                    obtain ⟨ev, er, eg⟩ := e
                    obtain ⟨pv, pr⟩ := p
                    cases pr with
                    | false => exact absurd hmode (hn pv l)
                    | true => simp only at g2 g3; subst g2; subst g3; simp only [hd2]
      · cases hA
      · rename_i hdef
        have hk : f.kind = .normal := by have := bm.kind; rw [hdef] at this; simpa using this
        refine none_ok ?_ ?_
        · split at hA <;> cases hA
          rename_i a' ha'
          rw [ha']; rfl
        · unfold tryRecover; simp only [hk]
  | panic v =>
    obtain ⟨cv, hv, hrun⟩ := hop
    simp only [applyA] at hA
    split at hA <;> cases hA
    rename_i hnd
    cases R with
    | draw ht => cases ht
    | drawn _ _ _ ops i chain acted seen k todo k' listed e1 => exact absurd e1 (hnd _ _ _ _ _)
    | plain b e t =>
      refine ⟨ρ, f.raise [{ v := cv, recovered := false }], ccs, w, ?_, ⟨hr, fl, hfl, raise_rel b e t ⟨hv, rfl, rfl, trivial⟩, hcs⟩, .refl _ _ _ _⟩
      simp [stepG.apply, hrun, goneTo]

end Go.Abs

set_option linter.unusedSimpArgs false
set_option linter.unusedVariables false
namespace Go.Abs
variable {P : Program} {B fl : Nat} {ρ : Ren} {h : AHeap} {w : World} {base : List Frame}

theorem defer_res {o : Oper} {env : Env} {r : AR} (he : aop P env h o = some r) {c : Call} (hc : o.op = .defer c) : ∃ d, r = .defer d := by
  rw [aop_eq (by rw [hc]; rfl)] at he
  unfold aop0 at he
  simp only [hc] at he
  repeat' split at he
  all_goals first | (cases he; exact ⟨_, rfl⟩) | cases he

theorem defer_none {o : Oper} {env : Env} {r : AR} {a : AFrame} {f : Frame} {cs : List AFrame} {m' : AM} (b : FrBase ρ a f) (he : aop P env h o = some r) {a' : AFrame} (hro : a'.roundOf = a.roundOf) (hA : applyA P a' cs h r = some m') : f.roundOf = none ∨ ∀ c, o.op ≠ .defer c := by
  by_cases hd : ∃ c, o.op = .defer c
  · obtain ⟨c, hc⟩ := hd
    obtain ⟨d, rfl⟩ := defer_res he hc
    left
    simp only [applyA] at hA
    split at hA
    · cases hA
    · rename_i h1
      have := b.round
      rw [← hro, h1] at this; exact this
  · right; intro c hc; exact hd ⟨c, hc⟩

theorem oper_step {f f' : Frame} {cs cs' : List Frame} {w w' : World} {ops : Array Oper} {i : Nat} {rest : List Nat} {k : List Item} {o : Oper} (hm : f.mode = .run) (ht : f.todo = .inRegion ops (i :: rest) :: k) (ho : ops[i]? = some o)
    (hw : Region.wanted o (yielded ops f.tmps) = true) (hd : f.roundOf = none ∨ ∀ c, o.op ≠ .defer c) (hx : (stepG.apply P true f cs none (execOp f.eval o) w).bare = goneTo f' cs' w') : step P (lone f cs w) = .next (lone f' cs' w') :=
  step_lone_go (by rw [stepG_oper hm ht ho hw hd]; exact hx)

/-- one operation in its order -/
theorem oper_ok (hN : NoNum P) {a : AFrame} {f : Frame} {cs : List AFrame} {ccs : List Frame} (p : Plain P B fl ρ h w a f cs ccs) (ha : a.mode = .run) {ops : Array Oper} {i : Nat} {rest : List Nat} {k : List AItem} (ht : a.todo = .inRegion ops (i :: rest) :: k) {m' : AM} (hA : aexec P a cs h = some m') :
    StepOk P B base ρ ⟨a, cs, h⟩ m' f ccs w := by
  have hm : f.mode = .run := by have := p.b.mode; rw [ha] at this; exact this
  have htr := p.todo
  rw [ht] at htr
  have R : FrRel P false fl w.heap.size ρ h w a f := .plain p.b p.env p.todo
  cases hft : f.todo with
  | nil => rw [hft] at htr; exact htr.elim
  | cons x k' =>
    rw [hft] at htr
    obtain ⟨h1, h2⟩ := htr
    simp only [itemRel] at h1; subst h1
    unfold aexec at hA
    simp only [ht] at hA
    split at hA
    · cases hA
    rename_i o ho
    split at hA
    · rename_i hw
      have hwa : Region.wanted o (yielded ops f.tmps) = true := wanted_ok hw fun t _ a ha => p.env.get t a ha
      split at hA
      case h_2 => cases hA
      rename_i r hres
      have hop := aop_ok hN p.rel (EvOk.of (f := f) p.env.get) o hres
      obtain ⟨ρ', f', ccs', w', q1, q2, q3⟩ := apply_ok (base := base) R ha p.rel p.low p.cs hop hA (fun d r sv k b => by rw [hft]; simp)
      exact ⟨ρ', f', ccs', w', .one (oper_step hm hft ho hwa (defer_none p.b hres rfl hA) q1), q2, q3⟩
    · rename_i hw
      have hwa : Region.wanted o (yielded ops f.tmps) = false := wanted_ok hw fun t _ a ha => p.env.get t a ha
      simp only [applyA] at hA
      split at hA <;> cases hA
      rename_i a' ha'
      exact ⟨ρ, f.finish undef, ccs, w, .one (op_unwanted hm hft ho hwa), ⟨p.rel, fl, p.low, finish_ok R ha' rfl, p.cs⟩, .refl _ _ _ _⟩
    · cases hA

theorem floatsOk_all {ops : Array Oper} {bf : List Nat} {n cb acted : Nat} {env : Env} : ∀ {l : List Nat}, floatsOk P ops bf n h cb acted env l = true → ∀ i ∈ l, ∀ o, ops[i]? = some o → floatOp o.op = true → Nat.land (Nat.land (bf.getD i 0) cb) acted = Nat.land (bf.getD i 0) cb →
    ∃ d, o.dst = some d ∧ d < n ∧ (aop P (restr env (readsOf o)) h o).isSome = true
  | [], _, i, hi => by cases hi
  | j :: l, hf, i, hi => by
    intro o ho hfo hb
    rw [floatsOk, Bool.and_eq_true] at hf
    rcases List.mem_cons.1 hi with rfl | hi
    · have h1 := hf.1
      simp only [ho, hfo, hb, Nat.beq_refl, Bool.and_self, if_true] at h1
      cases hd : o.dst with
      | none => simp [hd] at h1
      | some d => simp only [hd, Bool.and_eq_true] at h1; exact ⟨d, rfl, lt_of_blt h1.1, h1.2⟩
    · exact floatsOk_all hf.2 i hi o ho hfo hb

theorem draw_step (hN : NoNum P) {a : AFrame} {f : Frame} {cs : List AFrame} {ccs : List Frame} (R0 : FrRel P true fl w.heap.size ρ h w a f) (hr : Rel ρ h w) (hfl : fl ≤ w.heap.size) (hcs : frsRel P B ρ h w fl cs ccs) (ha : a.mode = .run)
    {ops : Array Oper} {chain : List Nat} {acted seen : Nat} {k : List AItem} (ht : a.todo = .draw ops chain acted seen :: k) {m' : AM} (hA : aexec P a cs h = some m') : StepOk P B base ρ ⟨a, cs, h⟩ m' f ccs w := by
  cases R0 with
  | plain b e t => rw [ht] at t; cases hft : f.todo with
    | nil => rw [hft] at t; exact t.elim
    | cons => rw [hft] at t; exact t.1.elim
  | drawn htop => cases htop
  | draw _ _ b ops' chain' acted' seen' k0 todo k' listed e1 e2 hk r left =>
    rw [ht] at e1; cases e1
    have hm : f.mode = .run := by have := b.mode; rw [ha] at this; exact this
    have low : B ≤ w.heap.size := Nat.le_trans (frsRel.low hcs) hfl
    unfold aexec at hA
    simp only [ht] at hA
    split at hA
    · cases hA
    rename_i env1 seen1 hlook
    obtain ⟨r1, looked⟩ := look_rel r hlook
    obtain ⟨pre, hC, hpre⟩ := r.full
    have dk := drawOk_ok r.ok
    cases chain with
    | nil =>
      simp only at hA
      split at hA <;> cases hA
      obtain ⟨ρ', w', tmps', listed', todo', s1, s2, s3, s4, s5, s6, s7⟩ := drain (P := P) (cs := ccs ++ base) hN hC (looked _ hC) (fun c is he => by cases he) todo f ρ w listed hm e2 hfl hr r1 left (fun c is he => by cases he)
      simp only at s7; subst s7
      have hall := left_nil dk s4.lsize s5
      have hkB := s3.toB (Nat.le_refl _)
      refine ⟨ρ', { f with tmps := tmps', todo := k' }, ccs, w', s1.trans (.one (region_end hm rfl)), ⟨s2, fl, Nat.le_trans hfl s3.size, .plain ⟨b.fn, b.kind, (b.mono s3.le).round, (b.mono s3.le).defers, (b.mono s3.le).mode⟩ ⟨s4.size, fun t av hav => ?_⟩ (hk.mono s3.le), frsRel.mono hkB hfl hcs⟩, s3.toB low⟩
      exact s4.sync t av hav fun i o ho hd => ⟨fun _ => hall i (Array.getElem?_eq_some_iff.1 ho).1, fun _ => by simp⟩
    | cons i is =>
      simp only [hC] at hA
      have hfloat : floatsOk P ops (beforeL ops.toList) a.n h (bitsOf (pre ++ i :: is)) acted env1 is = true := by
        cases hfo : floatsOk P ops (beforeL ops.toList) a.n h (bitsOf (pre ++ i :: is)) acted env1 is with
        | true => rfl
        | false => simp [hfo] at hA
      simp only [hfloat, Bool.not_true, Bool.false_eq_true, if_false] at hA
      split at hA
      · cases hA
      rename_i o ho
      by_cases hli : listed.getD i false = true
      · -- the model has made it already
        obtain ⟨hf, hg, hflt, hmatch⟩ := r1.early i o List.mem_cons_self ho hli
        have hwt : wantedA o ops env1 = some true := by simp [wantedA, hg]
        rw [hwt] at hA
        simp only at hA
        split at hA
        case h_2 => cases hA
        rename_i res hres
        obtain ⟨v, htv, hearly⟩ : ∃ v, (∀ d, o.dst = some d → d < a.n ∧ f.tmps[d]? = some v) ∧ Early P fl w.heap.size ρ h w o (restr env1 (readsOf o)) v := by
          cases hd : o.dst with
          | none => simp only [hd] at hmatch; obtain ⟨v, hv⟩ := hmatch; exact ⟨v, (fun d hd => by cases hd), hv⟩
          | some d => simp only [hd] at hmatch; obtain ⟨h1, v, h2, h3⟩ := hmatch; exact ⟨v, (fun d' hd' => by cases hd'; exact ⟨h1, h2⟩), h3⟩
        obtain ⟨nb, co, hnb, hlone, hmake⟩ := hearly
        obtain ⟨av, h', rfl⟩ : ∃ av h', res = .val av h' := by
          obtain ⟨dst, op, ty, pos, after, gd⟩ := o
          cases op <;> simp only [floatOp, Bool.false_eq_true] at hf
          all_goals
            rw [aop_eq rfl] at hres
            simp only [aop0] at hres
            repeat' split at hres
            all_goals first | (cases hres; exact ⟨_, _, rfl⟩) | cases hres
        obtain ⟨obj, rfl, hobj⟩ := hmake h av h' hres
        obtain ⟨ho1, hc1⟩ := hobj ρ (.refl _) (hr.fresh _ (Nat.le_refl _))
        obtain ⟨hr2, _, hle⟩ := rel_adopt hr hlone ho1
        have hkB : KeepsB fl ρ h w (ρ.with_ h.next ⟨nb, 0, 0⟩) (h.new obj).2 w := by
          refine ⟨hle, Nat.le_refl _, fun _ _ _ => rfl, fun b' o' l' hb' hl' => ?_, rfl, rfl, rfl⟩
          by_cases e : b' = h.next
          · subst e
            simp only [Ren.with_, if_true] at hl'; cases hl'
            exact .inl hnb.1
          · simp only [AHeap.new, PT.get_set] at hb'; rw [if_neg e] at hb'
            simp only [Ren.with_] at hl'; rw [if_neg e] at hl'
            exact .inr ⟨b', o', l', hb', hl', rfl⟩
        simp only [applyA] at hA
        split at hA <;> cases hA
        rename_i a' ha'
        unfold finishA at ha'
        simp only at ha'
        split at ha' <;> cases ha'
        rename_i env2 hput
        refine ⟨_, f, ccs, w, .refl _ _, ⟨hr2, fl, hfl, .draw rfl ha ⟨b.fn, b.kind, (b.mono hle).round, (b.mono hle).defers, (b.mono hle).mode⟩ ops is _ seen1 k todo k' listed rfl e2 (hk.mono hle) ?_ left, frsRel.mono hkB (Nat.le_refl _) hcs⟩, hkB.lower (frsRel.low hcs)⟩
        refine r1.adopt hli ho hle (av := av) (v := v) ?_
        unfold putA at hput
        simp only [ho, Option.bind_some] at hput
        cases hd : o.dst with
        | none => simp only [hd, Option.some.injEq] at hput ⊢; exact hput.symm
        | some d =>
          simp only [hd] at hput ⊢
          split at hput <;> cases hput
          exact ⟨rfl, hc1, (htv d hd).2⟩
      · -- the model comes to it
        have hli : listed.getD i false = false := by simpa using hli
        have hah : Ahead (i :: is) listed := fun c is' he => by cases he; exact hli
        have hfl2 : ∀ c is', i :: is = c :: is' → ∀ j ∈ is', ∀ o, ops[j]? = some o → floatOp o.op = true → (∀ x, has (beforeL ops.toList) j x = true → x ∈ pre ++ i :: is → Nat.testBit acted x = true) → ∃ d, o.dst = some d ∧ d < a.n ∧ (aop P (restr env1 (readsOf o)) h o).isSome = true := by
          intro c is' he j hj o' ho' hf' hx
          cases he
          refine floatsOk_all hfloat j hj o' ho' hf' ?_
          apply Nat.eq_of_testBit_eq
          intro x
          show Nat.testBit (((beforeL ops.toList).getD j 0 &&& bitsOf (pre ++ i :: is)) &&& acted) x = Nat.testBit ((beforeL ops.toList).getD j 0 &&& bitsOf (pre ++ i :: is)) x
          simp only [Nat.testBit_and]
          cases h1 : Nat.testBit ((beforeL ops.toList).getD j 0) x with
          | false => rfl
          | true =>
            cases h2 : Nat.testBit (bitsOf (pre ++ i :: is)) x with
            | false => rfl
            | true => simp only [Bool.and_self, Bool.true_and]; exact hx x h1 ((bitsOf_bit _ x).1 h2)
        obtain ⟨ρ', w', tmps', listed', todo', s1, s2, s3, s4, s5, s6, s7⟩ := drain (P := P) (cs := ccs ++ base) hN hC (looked _ hC) hfl2 todo f ρ w listed hm e2 hfl hr r1 left hah
        obtain ⟨rest, rfl⟩ := s7
        obtain ⟨hi', ⟨o', ho', hp'⟩, left'⟩ := left_cons s4.lsize s5
        rw [ho] at ho'; cases ho'
        have hkB := s3.toB (Nat.le_refl _)
        have hcs' := frsRel.mono hkB hfl hcs
        have hfl' := Nat.le_trans hfl s3.size
        have b' := b.mono s3.le
        generalize hfd : ({ f with tmps := tmps', todo := .inRegion ops (i :: rest) :: k' } : Frame) = f1 at s1
        have hm1 : f1.mode = .run := by rw [← hfd]; exact hm
        have ht1 : f1.todo = .inRegion ops (i :: rest) :: k' := by rw [← hfd]
        have htm : f1.tmps = tmps' := by rw [← hfd]
        have R : FrRel P false fl w'.heap.size ρ' h w' { a with env := env1, todo := .draw ops (i :: is) acted seen1 :: k } f1 := by
          refine .drawn rfl ha ?_ ops i is acted seen1 k rest k' listed' rfl ht1 (hk.mono s3.le) (by rw [htm]; exact s4) hi' (fun o'' ho'' => by rw [ho] at ho''; cases ho''; exact hp') left'
          rw [← hfd]; exact ⟨b'.fn, b'.kind, b'.round, b'.defers, b'.mode⟩
        split at hA
        · rename_i hw
          have hwa : Region.wanted o (yielded ops f1.tmps) = true := wanted_ok hw fun t ht a ha => by rw [htm]; exact s4.reads s6 ho hi' hp' (List.mem_append_left _ ht) ha
          split at hA
          case h_2 => cases hA
          rename_i res hres
          have hop := aop_ok hN s2 (s4.evOk s6 ho hi' hp' htm) o hres
          obtain ⟨ρ2, f', ccs', w2, q1, q2, q3⟩ := apply_ok (base := base) R ha s2 hfl' hcs' hop hA (fun d r sv k b => by rw [ht1]; simp)
          exact ⟨ρ2, f', ccs', w2, s1.trans (.one (oper_step hm1 ht1 ho hwa (defer_none R.base hres rfl hA) q1)), q2, (s3.toB low).trans q3⟩
        · rename_i hw
          have hwa : Region.wanted o (yielded ops f1.tmps) = false := wanted_ok hw fun t ht a ha => by rw [htm]; exact s4.reads s6 ho hi' hp' (List.mem_append_left _ ht) ha
          simp only [applyA] at hA
          split at hA <;> cases hA
          rename_i a' ha'
          exact ⟨ρ', f1.finish undef, ccs, w', s1.trans (.one (op_unwanted hm1 ht1 ho hwa)), ⟨s2, fl, hfl', finish_ok R ha' rfl, hcs'⟩, s3.toB low⟩
        · cases hA

end Go.Abs

set_option linter.unusedSimpArgs false
set_option linter.unusedVariables false
namespace Go.Abs
variable {P : Program} {B fl : Nat} {ρ : Ren} {h : AHeap} {w : World} {base : List Frame}

theorem newObj_run (o : Obj) : (newObj o).run P w = .ok w.heap.size (pushed w o) := by simp [newObj, Sem.run, pushed]

theorem enterLoop_none (fn : FuncId) (tmps : Array Value) (params : Array Tmp) (assign body : Code) :
    (Instr.enterLoop fn tmps params assign body none).run P w = .ok ((pushed w (.deferred (some []))).heap.size, [{ target := .collected w.heap.size, args := #[] }])
      (pushed (pushed w (.deferred (some []))) (.loop { state := .ready, pending := none, fn, tmps, params, assign, body, defers := w.heap.size })) := by
  simp only [Instr.enterLoop, Sem.run_bind, newObj_run, Result.andThen_ok, Sem.run_pure]

theorem enterLoop_some {b : Nat} {r : Loop} (hb : w.heap[b]? = some (.loop r)) (fn : FuncId) (tmps : Array Value) (params : Array Tmp) (assign body : Code) :
    (Instr.enterLoop fn tmps params assign body (some b)).run P w = .ok (w.heap.size, []) (pushed w (.loop { state := .ready, pending := none, fn, tmps, params, assign, body, defers := r.defers })) := by
  simp only [Instr.enterLoop, Sem.run_bind, getLoop_run hb, newObj_run, Result.andThen_ok, Sem.run_pure]

theorem range_call (hN : NoNum P) {a : AFrame} {f : Frame} {cs : List AFrame} {ccs : List Frame} (p : Plain P B fl ρ h w a f cs ccs) (ha : a.mode = .run) {l : Nat} {lc : Loc} (hl : ρ.loc l = some lc) {k : List Item} (ht : f.todo = .inRangeFunc lc.blk :: k)
    {x : Operand} {fv : AV} (hx : evalA a.env x = some fv) {r : AR} (hc : callA P fv [.yld l] h = some r) {m' : AM} (hA : applyA P a cs h r = some m') :
    ∃ ρ' f' ccs' w', (stepG.apply P true f (ccs ++ base) none (do let d ← resolve f.eval { callee := .value x, args := #[.const (.func (.yield lc.blk) #[] #[])], argTypes := #[] } 0; invoke d.target d.args) w).bare = goneTo f' (ccs' ++ base) w' ∧ MRel P B ρ' m' f' ccs' w' ∧ KeepsB B ρ h w ρ' m'.h w' := by
  obtain ⟨u, hu, hu'⟩ := EvOk.of (f := f) p.env.get x fv hx
  have hcl : concL ρ [.yld l] = some [.func (.yield lc.blk) #[] #[]] := by simp [concL, conc, hl]
  have := call_ok (P := P) (w := w) hN hc hu hcl
  refine apply_ok (.plain p.b p.env p.todo) ha p.rel p.low p.cs ?_ hA (fun d r sv k b => by rw [ht]; simp)
  have he : (do let d ← resolve f.eval { callee := .value x, args := #[.const (.func (.yield lc.blk) #[] #[])], argTypes := #[] } 0; invoke d.target d.args) = (do let d ← Deferred.ofValue u [Value.func (.yield lc.blk) #[] #[]].toArray; invoke d.target d.args) := by
    subst hu'
    simp [resolve, Frame.eval]
  rw [he]; exact this

/-- ranging over a function begins -/
theorem rangeFunc_ok (hN : NoNum P) {a : AFrame} {f : Frame} {cs : List AFrame} {ccs : List Frame} (p : Plain P B fl ρ h w a f cs ccs) (ha : a.mode = .run) {x : Operand} {params : Array Tmp} {assign body : Code} {k : List AItem}
    (ht : a.todo = .code (.rangeFunc x params assign body) :: k) {m' : AM} (hA : aexec P a cs h = some m') : StepOk P B base ρ ⟨a, cs, h⟩ m' f ccs w := by
  have hm : f.mode = .run := by have := p.b.mode; rw [ha] at this; exact this
  have low : B ≤ w.heap.size := Nat.le_trans (frsRel.low p.cs) p.low
  have htr := p.todo
  rw [ht] at htr
  cases hft : f.todo with
  | nil => rw [hft] at htr; exact htr.elim
  | cons y k' =>
    rw [hft] at htr
    obtain ⟨h1, h2⟩ := htr
    simp only [itemRel] at h1; subst h1
    unfold aexec at hA
    simp only [ht] at hA
    cases hro : a.roundOf with
    | none =>
      have hcr : f.roundOf = none := by have := p.b.round; rw [hro] at this; exact this
      simp only [hro] at hA
      split at hA
      case h_2 => cases hA
      rename_i fv hfv
      split at hA
      case h_2 => cases hA
      rename_i r hcall
      -- the two new blocks
      obtain ⟨r1, k1⟩ := rel_new p.rel (o := .deferred (some [])) (co := .deferred (some [])) 0 ⟨[], rfl, rfl⟩
      have e1 := p.env.mono k1.le
      have hds : (ρ.with_ h.next ⟨w.heap.size, 0, 0⟩).loc h.next = some ⟨w.heap.size, 0, 0⟩ := by simp [Ren.with_]
      have hlt : h.next ≠ (h.new (.deferred (some []))).2.next := by simp [AHeap.new]
      obtain ⟨r2, k2⟩ := rel_new r1 (o := .loop .ready none a.fn a.n a.env params.toList assign body h.next) (co := .loop { state := .ready, pending := none, fn := a.fn, tmps := f.tmps, params := params.toList.toArray, assign, body, defers := w.heap.size }) 0
        ⟨f.tmps, ⟨w.heap.size, 0, 0⟩, by simp only [Ren.with_]; rw [if_neg hlt]; simp, e1.mono (Ren.le_with (r1.fresh _ (Nat.le_refl _))), rfl⟩
      have k12 := k1.trans k2
      have hkB := k12.toB (Nat.le_refl _)
      have b2 := p.b.mono k12.le
      have hlN : ((ρ.with_ h.next ⟨w.heap.size, 0, 0⟩).with_ (h.new (.deferred (some []))).2.next ⟨(pushed w (.deferred (some []))).heap.size, 0, 0⟩).loc (h.new (.deferred (some []))).2.next = some ⟨(pushed w (.deferred (some []))).heap.size, 0, 0⟩ := by simp [Ren.with_]
      have hl0 : ((ρ.with_ h.next ⟨w.heap.size, 0, 0⟩).with_ (h.new (.deferred (some []))).2.next ⟨(pushed w (.deferred (some []))).heap.size, 0, 0⟩).loc h.next = some ⟨w.heap.size, 0, 0⟩ := by simp only [Ren.with_]; rw [if_neg hlt]; simp
      have p2 : Plain P B fl _ _ _ { a with todo := .inRangeFunc (h.new (.deferred (some []))).2.next :: k, defers := [.collected h.next] ++ a.defers, roundOf := none }
          { f with todo := .inRangeFunc (pushed w (.deferred (some []))).heap.size :: k', defers := [{ target := .collected w.heap.size, args := #[] }] ++ f.defers, roundOf := none } cs ccs :=
        ⟨⟨b2.fn, b2.kind, rfl, concDs_cons (by simp only [concD, hl0]) b2.defers, b2.mode⟩, p.env.mono k12.le, ⟨⟨_, hlN, rfl⟩, h2.mono k12.le⟩, r2, Nat.le_trans p.low k12.size, frsRel.mono hkB p.low p.cs⟩
      obtain ⟨ρ', f', ccs', w', q1, q2, q3⟩ := range_call (base := base) hN p2 ha hlN rfl hfv hcall hA
      refine ⟨ρ', f', ccs', w', .one (exec_step hm ?_), q2, (k12.toB low).trans q3⟩
      unfold stepG.exec
      simp only [hft, hcr]
      simp only [GStep.bare_after, Sem.runT_eq, enterLoop_none]
      have hpa : params.toList.toArray = params := by simp
      rw [hpa, ← p.b.fn] at q1
      exact q1
    | some l0 =>
      obtain ⟨lc0, hlc0, hcr⟩ : ∃ lc, ρ.loc l0 = some lc ∧ f.roundOf = some lc.blk := by have := p.b.round; rw [hro] at this; exact this
      simp only [hro] at hA
      split at hA
      case h_1 => cases hA
      rename_i ds mark h1 hq
      split at hq <;> cases hq
      rename_i st pend fn n env params0 assign0 body0 hl0
      split at hA
      case h_2 => cases hA
      rename_i fv hfv
      split at hA
      case h_2 => cases hA
      rename_i r hcall
      obtain ⟨lc', tmps, ld, g1, g2, g3, g4⟩ := p.rel.loop hl0
      rw [hlc0] at g1; cases g1
      have hle : ρ.le (ρ.with_ h.next ⟨w.heap.size, 0, 0⟩) := Ren.le_with (p.rel.fresh _ (Nat.le_refl _))
      obtain ⟨r2, k2⟩ := rel_new p.rel (o := .loop .ready none a.fn a.n a.env params.toList assign body ds) (co := .loop { state := .ready, pending := none, fn := a.fn, tmps := f.tmps, params := params.toList.toArray, assign, body, defers := ld.blk }) 0
        ⟨f.tmps, ld, hle.loc _ _ g2, p.env.mono hle, rfl⟩
      have hkB := k2.toB (Nat.le_refl _)
      have b2 := p.b.mono k2.le
      have hlN : (ρ.with_ h.next ⟨w.heap.size, 0, 0⟩).loc h.next = some ⟨w.heap.size, 0, 0⟩ := by simp [Ren.with_]
      have p2 : Plain P B fl _ _ _ { a with todo := .inRangeFunc h.next :: k, defers := [] ++ a.defers, roundOf := some l0 } { f with todo := .inRangeFunc w.heap.size :: k', defers := [] ++ f.defers, roundOf := some lc0.blk } cs ccs :=
        ⟨⟨b2.fn, b2.kind, ⟨lc0, k2.le.loc _ _ hlc0, rfl⟩, b2.defers, b2.mode⟩, p.env.mono k2.le, ⟨⟨_, hlN, rfl⟩, h2.mono k2.le⟩, r2, Nat.le_trans p.low k2.size, frsRel.mono hkB p.low p.cs⟩
      obtain ⟨ρ', f', ccs', w', q1, q2, q3⟩ := range_call (base := base) hN p2 ha hlN rfl hfv hcall hA
      refine ⟨ρ', f', ccs', w', .one (exec_step hm ?_), q2, (k2.toB low).trans q3⟩
      unfold stepG.exec
      simp only [hft, hcr]
      simp only [GStep.bare_after, Sem.runT_eq, enterLoop_some g4]
      have hpa : params.toList.toArray = params := by simp
      rw [hpa, ← p.b.fn] at q1
      exact q1

end Go.Abs

set_option linter.unusedSimpArgs false
set_option linter.unusedVariables false
namespace Go.Abs
variable {P : Program} {B fl : Nat} {ρ : Ren} {h : AHeap} {w : World} {base : List Frame}

theorem beginRound_run {b : Nat} {r : Loop} (hb : w.heap[b]? = some (.loop r)) (hs : r.state = .ready) :
    (Instr.beginRound b).run P w = .ok () (put w b (.loop { r with state := .busy })) := by
  simp [Instr.beginRound, Sem.run_bind, getLoop_run hb, setObj_loop hb, hs]

theorem begin_ok {a : AFrame} {f : Frame} {cs : List AFrame} {ccs : List Frame} (p : Plain P B fl ρ h w a f cs ccs) (ha : a.mode = .run) {k : List AItem} (ht : a.todo = .beginRound :: k) {m' : AM} (hA : aexec P a cs h = some m') :
    StepOk P B base ρ ⟨a, cs, h⟩ m' f ccs w := by
  have hm : f.mode = .run := by have := p.b.mode; rw [ha] at this; exact this
  have low : B ≤ w.heap.size := Nat.le_trans (frsRel.low p.cs) p.low
  have htr := p.todo
  rw [ht] at htr
  cases hft : f.todo with
  | nil => rw [hft] at htr; exact htr.elim
  | cons y k' =>
    rw [hft] at htr
    obtain ⟨h1, h2⟩ := htr
    simp only [itemRel] at h1; subst h1
    unfold aexec at hA
    simp only [ht] at hA
    split at hA
    case h_2 => cases hA
    rename_i l hro
    split at hA
    case h_2 => cases hA
    rename_i pend fn n env params assign body ds hl
    obtain ⟨lc, hlc, hcr⟩ : ∃ lc, ρ.loc l = some lc ∧ f.roundOf = some lc.blk := by have := p.b.round; rw [hro] at this; exact this
    obtain ⟨lc', tmps, ld, g1, g2, g3, g4⟩ := p.rel.loop hl
    rw [hlc] at g1; cases g1
    obtain ⟨r1, k1⟩ := rel_put p.rel hl hlc (o' := .loop .busy pend fn n env params assign body ds)
      (co' := .loop { state := .busy, pending := pend, fn, tmps, params := params.toArray, assign, body, defers := ld.blk }) ⟨tmps, ld, g2, g3, rfl⟩
    have hrun : (do Option.elim f.roundOf (stuck "beginRound: no round") Instr.beginRound; pure Next.skip : Sem Next).run P w = .ok .skip (put w lc.blk (.loop { state := .busy, pending := pend, fn, tmps, params := params.toArray, assign, body, defers := ld.blk })) := by
      simp only [hcr, Option.elim, Sem.run_bind, beginRound_run g4 rfl, Result.andThen_ok, Sem.run_pure]
    have hop : OpOk P ρ h w (.val undefA ⟨h.m.set l (.loop .busy pend fn n env params assign body ds), h.next, h.facts⟩) (do Option.elim f.roundOf (stuck "beginRound: no round") Instr.beginRound; pure Next.skip : Sem Next) :=
      ⟨ρ, undef, _, .inr ⟨hrun, rfl⟩, rfl, r1, k1⟩
    obtain ⟨ρ', f', ccs', w', q1, q2, q3⟩ := apply_ok (base := base) (.plain p.b p.env p.todo) ha p.rel p.low p.cs hop (by simpa only [applyA] using hA) (fun d r sv k b => by rw [hft]; simp)
    refine ⟨ρ', f', ccs', w', .one (exec_step hm ?_), q2, q3⟩
    unfold stepG.exec
    simp only [hft]
    exact q1

theorem endLoop_run {b : Nat} {r : Loop} (hb : w.heap[b]? = some (.loop r)) (hs : r.state ≠ .busy) :
    (Instr.endLoop b).run P w = .ok r.pending (put w b (.loop { r with state := .exhausted })) := by
  have : (r.state == LoopState.busy) = false := by cases hq : r.state <;> simp_all <;> rfl
  simp [Instr.endLoop, Sem.run_bind, getLoop_run hb, setObj_loop hb, this]
  intro h1; exact absurd h1 hs

theorem end_ok {a : AFrame} {f : Frame} {cs : List AFrame} {ccs : List Frame} (p : Plain P B fl ρ h w a f cs ccs) (ha : a.mode = .run) {l : Nat} {k : List AItem} (ht : a.todo = .endRangeFunc l :: k) {m' : AM} (hA : aexec P a cs h = some m') :
    StepOk P B base ρ ⟨a, cs, h⟩ m' f ccs w := by
  have hm : f.mode = .run := by have := p.b.mode; rw [ha] at this; exact this
  have low : B ≤ w.heap.size := Nat.le_trans (frsRel.low p.cs) p.low
  have htr := p.todo
  rw [ht] at htr
  cases hft : f.todo with
  | nil => rw [hft] at htr; exact htr.elim
  | cons y k' =>
    rw [hft] at htr
    obtain ⟨⟨lc, hlc, rfl⟩, h2⟩ := htr
    unfold aexec at hA
    simp only [ht] at hA
    split at hA
    · cases hA
    · rename_i st pend fn n env params assign body ds hnb hl
      cases hA
      obtain ⟨lc', tmps, ld, g1, g2, g3, g4⟩ := p.rel.loop hl
      rw [hlc] at g1; cases g1
      obtain ⟨r1, k1⟩ := rel_put p.rel hl hlc (o' := .loop .exhausted pend fn n env params assign body ds)
        (co' := .loop { state := .exhausted, pending := pend, fn, tmps, params := params.toArray, assign, body, defers := ld.blk }) ⟨tmps, ld, g2, g3, rfl⟩
      have hst : st ≠ .busy := fun e => by first | exact hnb e | (subst e; exact hnb hl)
      have hkB := k1.toB (Nat.le_refl _)
      refine ⟨ρ, { f with todo := (pend.map Item.code).toList ++ k' }, ccs, _, .one (exec_step hm ?_), ⟨r1, fl, Nat.le_trans p.low k1.size, .plain ⟨p.b.fn, p.b.kind, p.b.round, p.b.defers, p.b.mode⟩ p.env ?_, frsRel.mono hkB p.low p.cs⟩, k1.toB low⟩
      · unfold stepG.exec
        simp only [hft, GStep.bare_after, Sem.runT_eq, endLoop_run g4 hst]
        rfl
      · cases pend with
        | none => exact h2
        | some c => exact ⟨rfl, h2⟩
    · cases hA

/-! unwinding -/
theorem takeDeferred_run {b : Nat} {l : List Deferred} (hb : w.heap[b]? = some (.deferred (some l))) : (Instr.takeDeferred b).run P w = .ok l (put w b (.deferred none)) := by
  have h1 : (getObj b).run P w = .ok (.deferred (some l)) w := by simp [getObj, Sem.run, hb]
  have h2 : (setObj b (.deferred none)).run P w = .ok () (put w b (.deferred none)) := by simp [setObj, Sem.run, hb, put]
  simp [Instr.takeDeferred, Sem.run_bind, h1, h2]

def resultC (tmps : Array Value) : ResultVar → Sem Value
  | .tmp t => pure (tmps.getD t undef)
  | .cell a t => do loadVar t (← asAddr (tmps.getD a undef))

theorem results_list (r : Rel ρ h w) {env : Env} {tmps : Array Value} (hev : ∀ t a, env.get t = some a → ∃ v, conc ρ a = some v ∧ tmps[t]? = some v) : ∀ (rs : List ResultVar) (l : List AV), resultsA P h env rs = some l →
    ∃ cl, (rs.mapM (resultC tmps)).run P w = .ok cl w ∧ concL ρ l = some cl
  | [], l, h1 => by simp only [resultsA, Option.some.injEq] at h1; subst h1; exact ⟨[], by simp, rfl⟩
  | .tmp t :: rs, l, h1 => by
    simp only [resultsA] at h1
    split at h1
    case h_2 => cases h1
    rename_i v hv
    split at h1 <;> cases h1
    rename_i l' hl'
    obtain ⟨cl, h2, h3⟩ := results_list r hev rs l' hl'
    obtain ⟨u, hu, hu'⟩ := hev t v hv
    refine ⟨u :: cl, ?_, concL_cons_mk hu h3⟩
    have : tmps.getD t undef = u := by simp [Array.getD_eq_getD_getElem?, hu']
    simp only [List.mapM_cons, resultC, Sem.run_bind, Sem.run_pure, Result.andThen_ok, h2, this]
  | .cell a t :: rs, l, h1 => by
    simp only [resultsA] at h1
    split at h1
    case h_2 => cases h1
    rename_i b off hv
    split at h1
    case h_2 => cases h1
    rename_i v l' hld hl'
    cases h1
    obtain ⟨cl, h2, h3⟩ := results_list r hev rs l' hl'
    obtain ⟨u, hu, hu'⟩ := hev a _ hv
    obtain ⟨lc, cv, g1, g2, g3⟩ := load_run (P := P) r hld
    simp only [conc, g1, Option.some.injEq] at hu; subst hu
    refine ⟨cv :: cl, ?_, concL_cons_mk g2 h3⟩
    have : tmps.getD a undef = .pointer (some ⟨lc.blk, lc.off + off, none⟩) := by simp [Array.getD_eq_getD_getElem?, hu']
    simp [List.mapM_cons, resultC, Sem.run_bind, this, asAddr, g3, h2]

theorem results_ok (r : Rel ρ h w) {fn : Func} {env : Env} {tmps : Array Value} (hev : ∀ t a, env.get t = some a → ∃ v, conc ρ a = some v ∧ tmps[t]? = some v) {l : List AV} (hl : resultsA P h env fn.results.toList = some l) :
    ∃ cv, (results fn tmps).run P w = .ok cv w ∧ conc ρ (oneOf l) = some cv := by
  obtain ⟨cl, h1, h2⟩ := results_list r hev _ _ hl
  have hrun : (results fn tmps).run P w = .ok (if h : cl.toArray.size = 1 then cl.toArray[0] else .tuple cl.toArray) w := by
    have hm : (fn.results.mapM (resultC tmps)).run P w = .ok cl.toArray w := by
      rw [Array.mapM_eq_mapM_toList]
      simp [h1]
    show (do let vs ← fn.results.mapM (resultC tmps); pure (if h : vs.size = 1 then vs[0] else .tuple vs) : Sem Value).run P w = _
    simp only [Sem.run_bind, hm, Result.andThen_ok, Sem.run_pure]
  refine ⟨_, hrun, ?_⟩
  have hlen := concL_length h2
  match l, cl, h2, hlen with
  | [], [], _, _ => simp [oneOf, conc, concL]
  | [a], [c], h2, _ =>
    obtain ⟨u, g1, g2⟩ := concL_get h2 0 a rfl
    simp at g2; subst g2
    simpa [oneOf] using g1
  | a :: b :: l, c :: d :: cl, h2, _ =>
    simp [oneOf, conc, h2]

end Go.Abs

set_option linter.unusedSimpArgs false
set_option linter.unusedVariables false
namespace Go.Abs
variable {P : Program} {B fl : Nat} {ρ : Ren} {h : AHeap} {w : World} {base : List Frame}

theorem FrRel.lift2 {top : Bool} {cl : Nat} {a : AFrame} {f : Frame} (r : FrRel P top fl cl ρ h w a f) (hm : a.mode ≠ .run ∨ ∀ ops chain acted seen k, a.todo ≠ .draw ops chain acted seen :: k) : FrBase ρ a f ∧ EnvRel ρ a.n a.env f.tmps ∧ todoRel ρ a.todo f.todo := by
  cases r with
  | plain b e t => exact ⟨b, e, t⟩
  | draw _ hm' b ops chain acted seen k todo k' listed e1 =>
    rcases hm with hm | hm
    · exact absurd hm' hm
    · exact absurd e1 (hm _ _ _ _ _)
  | drawn _ hm' b ops i chain acted seen k todo k' listed e1 =>
    rcases hm with hm | hm
    · exact absurd hm' hm
    · exact absurd e1 (hm _ _ _ _ _)

theorem no_call : ∀ {a : List AItem} {b : List Item}, todoRel ρ a b → ∀ d r sv k x, b ≠ .call d x r sv :: k
  | [], [], _, d, r, sv, k, x => by simp
  | [], _ :: _, h, _, _, _, _, _ => h.elim
  | _ :: _, [], h, _, _, _, _, _ => h.elim
  | a :: as, b :: bs, ⟨h1, _⟩, d, r, sv, k, x => by
    intro e
    cases e
    cases a with
    | draw => exact h1
    | inRangeFunc => obtain ⟨_, _, h2⟩ := h1; cases h2
    | endRangeFunc => obtain ⟨_, _, h2⟩ := h1; cases h2
    | _ => simp only [itemRel] at h1; cases h1

theorem unwind_ok (hN : NoNum P) {a : AFrame} {f : Frame} {cs : List AFrame} {ccs : List Frame} (R0 : FrRel P true fl w.heap.size ρ h w a f) (hr : Rel ρ h w) (hfl : fl ≤ w.heap.size) (hcs : frsRel P B ρ h w fl cs ccs) (ha : a.mode ≠ .run)
    {m' : AM} (hA : unwindA P a cs h = some m') : StepOk P B base ρ ⟨a, cs, h⟩ m' f ccs w := by
  obtain ⟨b, env, todo⟩ := R0.lift2 (.inl ha)
  have low : B ≤ w.heap.size := Nat.le_trans (frsRel.low hcs) hfl
  have hm : f.mode ≠ .run := by
    have h1 := b.mode
    intro h2
    rw [h2] at h1
    cases hq : a.mode with
    | run => exact ha hq
    | returning => rw [hq] at h1; simp [modeRel] at h1
    | panicking c => rw [hq] at h1; obtain ⟨d, _, h3⟩ := h1; cases h3
  have hds := b.defers
  unfold unwindA at hA
  cases hd : a.defers with
  | cons d ds =>
    rw [hd] at hds hA
    simp only [concDs] at hds
    split at hds <;> try cases hds
    rename_i cd cl hcd hcl
    have hfd : f.defers = cd :: cl := by first | exact (Option.some.inj hds).symm | (injection hds with e; exact e.symm) | assumption
    cases d with
    | collected r =>
      simp only at hA
      split at hA <;> cases hA
      rename_i l hl
      simp only [concD] at hcd
      split at hcd
      case h_2 => cases hcd
      rename_i lc hlc
      have hcd := Option.some.inj hcd
      subst hcd
      obtain ⟨lc', g1, co, g2, g3⟩ := hr.obj r _ hl
      rw [hlc] at g1; cases g1
      obtain ⟨calls, g4, rfl⟩ := g3
      obtain ⟨r1, k1⟩ := rel_put hr hl hlc (o' := .deferred none) (co' := .deferred none) rfl
      have hkB := k1.toB (Nat.le_refl _)
      refine ⟨ρ, { f with defers := calls ++ cl }, ccs, _, .one (unwind_step hm ?_), ⟨r1, fl, Nat.le_trans hfl k1.size, .plain ⟨b.fn, b.kind, b.round, concDs_append g4 hcl, b.mode⟩ env todo, frsRel.mono hkB hfl hcs⟩, k1.toB low⟩
      unfold unwind
      simp only [hfd, GStep.bare_after, Sem.runT_eq, takeDeferred_run g2]
      rfl
    | call d =>
      simp only at hA
      split at hA
      case h_2 => cases hA
      rename_i g hg
      split at hA <;> cases hA
      rename_i a' ha'
      simp only [concD, hg] at hcd
      split at hcd
      case h_2 => cases hcd
      rename_i ca cc hca hcc
      have hcd := Option.some.inj hcd
      subst hcd
      have hcl2 := concL_append hca hcc
      obtain ⟨b1, e1, t1⟩ := enter_rel (df := true) hcl2 ha'
      have hent : enterA P g (d.args ++ d.cap) h = some (.enter g (d.args ++ d.cap) h) := by
        unfold enterFrame at ha'
        unfold enterA
        split at ha'
        case h_2 => cases ha'
        rename_i fn hfn
        split at ha'
        case h_2 => cases ha'
        rename_i c hc
        simp [hc]
      obtain ⟨_, cargs, hc1, hrun⟩ := enter_ok (w := w) hN hent hcl2
      rw [hcl2] at hc1; cases hc1
      refine ⟨ρ, Frame.enter P g (ca ++ cc).toArray .deferred, { f with defers := cl } :: ccs, w, .one (unwind_step hm ?_), ⟨hr, w.heap.size, Nat.le_refl _, .plain b1 e1 t1, fl, hfl, .plain ⟨b.fn, b.kind, b.round, hcl, b.mode⟩ env todo, hcs⟩, .refl _ _ _ _⟩
      have hinv : (invoke (.fn (.func g) cc.toArray) ca.toArray).run P w = .ok (.enter g (ca ++ cc).toArray) w := by
        simpa [invoke] using hrun
      unfold unwind
      simp only [hfd]
      unfold callDeferred
      simp [hinv, goneTo]
  | nil =>
    rw [hd] at hds hA
    have hfd : f.defers = [] := by simp only [concDs, Option.some.injEq] at hds; exact hds.symm
    have hbm := b.mode
    simp only at hA
    split at hA
    · cases hA
    · rename_i chain hmode
      rw [hmode] at hbm
      obtain ⟨d, hd1, hd2⟩ := hbm
      cases cs with
      | nil => cases hA
      | cons c rest =>
        cases ccs with
        | nil => exact hcs.elim
        | cons cc crest =>
          obtain ⟨fl1, h1, h2, h3⟩ := hcs
          simp only at hA
          split at hA
          · cases hA
          · rename_i hnd
            cases hA
            obtain ⟨bc, ec, tc⟩ := h2.lift2 (.inr fun ops chain acted seen k e => hnd _ _ _ _ _ e)
            refine ⟨ρ, cc.raise d, crest, w, .one (unwind_step hm ?_), ⟨hr, fl1, Nat.le_trans h1 hfl, raise_rel bc ec tc hd1, h3⟩, .refl _ _ _ _⟩
            have hcat : f.catches P = false := by
              unfold Frame.catches
              split
              · rename_i h4; exact absurd h4 (no_call todo _ _ _ _ _)
              · rfl
            unfold unwind
            simp [hfd, hd2, hcat, goneTo]
    · rename_i hmode
      rw [hmode] at hbm
      simp only [modeRel] at hbm
      split at hA
      case h_2 => cases hA
      rename_i fn hfn
      split at hA
      case h_2 => cases hA
      rename_i l hl
      obtain ⟨cv, g1, g2⟩ := results_ok hr env.get hl
      obtain ⟨hh, f', ccs', q1, q2⟩ := return_ok (base := base) b hr hfl hcs hA g2
      refine ⟨ρ, f', ccs', w, .one (unwind_step hm ?_), q2, by rw [hh]; exact .refl _ _ _ _⟩
      unfold unwind
      simp only [hfd, hbm, b.fn, hfn, GStep.bare_after, Sem.runT_eq, g1]
      exact q1

/-- one step of the machine is some of the model's -/
theorem astep_sound (hN : NoNum P) (hmix : P.follows .mixedOrders = true) {m m' : AM} {f : Frame} {ccs : List Frame} (R : MRel P B ρ m f ccs w) (hA : astep P m = some m') : StepOk P B base ρ m m' f ccs w := by
  obtain ⟨a, cs, h⟩ := m
  obtain ⟨hr, fl, hfl, hf, hcs⟩ := R
  unfold astep at hA
  simp only at hA hr hf hcs
  split at hA
  · rename_i ha
    by_cases hdr : ∃ ops chain acted seen k, a.todo = .draw ops chain acted seen :: k
    · obtain ⟨ops, chain, acted, seen, k, ht⟩ := hdr
      exact draw_step hN hf hr hfl hcs ha ht hA
    · obtain ⟨b, e, t⟩ := hf.lift2 (.inr fun ops chain acted seen k ht => hdr ⟨ops, chain, acted, seen, k, ht⟩)
      have p : Plain P B fl ρ h w a f cs ccs := ⟨b, e, t, hr, hfl, hcs⟩
      cases ht : a.todo with
      | nil => exact item_ok p ha hA (by rw [ht]; trivial)
      | cons x k =>
        cases x with
        | inBlock i => exact item_ok p ha hA (by rw [ht]; trivial)
        | inLoop i => exact item_ok p ha hA (by rw [ht]; trivial)
        | inScope i => exact item_ok p ha hA (by rw [ht]; trivial)
        | inRegion ops todo => cases todo with
          | nil => exact item_ok p ha hA (by rw [ht]; trivial)
          | cons i rest => exact oper_ok hN p ha ht hA
        | draw ops chain acted seen => exact absurd ⟨ops, chain, acted, seen, k, ht⟩ hdr
        | inRangeFunc l => unfold aexec at hA; simp only [ht] at hA; cases hA
        | endRangeFunc l => exact end_ok p ha ht hA
        | beginRound => exact begin_ok p ha ht hA
        | code c => cases c with
          | rangeFunc x params assign body => exact rangeFunc_ok hN p ha ht hA
          | region id ops draw => cases draw with
            | true => exact drawn_ok hmix p ha ht hA
            | false => exact code_ok p ha ht hA trivial
          | _ => exact code_ok p ha ht hA trivial
  · rename_i ha
    exact unwind_ok hN hf hr hfl hcs (fun e => ha e) hA

theorem arun_sound (hN : NoNum P) (hmix : P.follows .mixedOrders = true) : ∀ (n : Nat) {m m' : AM} {ρ : Ren} {f : Frame} {ccs : List Frame} {w : World}, MRel P B ρ m f ccs w → arun P n m = some m' → StepOk P B base ρ m m' f ccs w
  | 0, m, m', ρ, f, ccs, w, R, hA => by
    simp only [arun, Option.some.injEq] at hA; subst hA
    exact ⟨ρ, f, ccs, w, .refl _ _, R, .refl _ _ _ _⟩
  | n + 1, m, m', ρ, f, ccs, w, R, hA => by
    unfold arun at hA
    split at hA
    · rename_i m1 h1
      obtain ⟨ρ1, f1, ccs1, w1, s1, R1, k1⟩ := astep_sound (base := base) hN hmix R h1
      obtain ⟨ρ2, f2, ccs2, w2, s2, R2, k2⟩ := arun_sound hN hmix n R1 hA
      exact ⟨ρ2, f2, ccs2, w2, s1.trans s2, R2, k1.trans k2⟩
    · cases hA

end Go.Abs

set_option linter.unusedSimpArgs false
set_option linter.unusedVariables false
namespace Go.Abs
variable {P : Program} {ρ : Ren} {h : AHeap} {w : World}

theorem arun_add : ∀ (a b : Nat) {m m1 m2 : AM}, arun P a m = some m1 → arun P b m1 = some m2 → arun P (a + b) m = some m2
  | 0, b, m, m1, m2, h1, h2 => by simp only [arun, Option.some.injEq] at h1; subst h1; rw [Nat.zero_add]; exact h2
  | a + 1, b, m, m1, m2, h1, h2 => by
    rw [show a + 1 + b = (a + b) + 1 by omega]
    unfold arun at h1 ⊢
    split at h1
    · rename_i m3 h3; exact arun_add a b h1 h2
    · cases h1

theorem noNum_of (h : P.funcs.toList.all (fun fn => !(fn.body.isSome && fn.name == "runtime.NumGoroutine")) = true) : NoNum P := by
  intro f fn hf hb
  have hm : fn ∈ P.funcs.toList := by
    obtain ⟨h1, h2⟩ := Array.getElem?_eq_some_iff.1 hf
    rw [← h2]; simp
  have := List.all_eq_true.1 h fn hm
  simpa [hb] using this

/-! blocks that nobody needs any more may be forgotten -/
theorem Rel.drop (r : Rel ρ h w) {h' : AHeap} (hs : ∀ b o, h'.m.get b = some o → h.m.get b = some o) (hn : h'.next = h.next) (hfs : h'.facts = h.facts) : Rel ρ h' w ∧ ∀ B, KeepsB B ρ h w ρ h' w := by
  refine ⟨⟨fun b o hb => r.obj b o (hs b o hb), fun b b' o o' l l' hb hb' => r.inj b b' o o' l l' (hs b o hb) (hs b' o' hb'), r.bnd, fun b hb => r.fresh b (hn ▸ hb), hfs ▸ r.facts⟩, fun B => ⟨.refl _, Nat.le_refl _, fun _ _ _ => rfl, fun b o l hb hl => .inr ⟨b, o, l, hs b o hb, hl, rfl⟩, rfl, rfl, rfl⟩⟩

/-- the blocks of a list alone -/
noncomputable def keepL (m : PT AObj) : List Nat → PT AObj
  | [] => .e
  | b :: bs => match m.get b with
    | some o => (keepL m bs).set b o
    | none => keepL m bs
theorem keepL_get (m : PT AObj) : ∀ (l : List Nat) (b : Nat) (o : AObj), (keepL m l).get b = some o → m.get b = some o
  | [], b, o, h => by simp [keepL, PT.get_e] at h
  | x :: l, b, o, h => by
    unfold keepL at h
    split at h
    · rename_i o' ho'
      rw [PT.get_set] at h
      split at h
      · rename_i e; subst e; cases h; exact ho'
      · exact keepL_get m l b o h
    · exact keepL_get m l b o h
noncomputable def AM.keep (l : List Nat) (m : AM) : AM := ⟨m.fr, m.cs, ⟨keepL m.h.m l, m.h.next, m.h.facts⟩⟩

/-- some steps, and then only the blocks of the list -/
noncomputable def arunK (P : Program) (n : Nat) (l : List Nat) (m : AM) : Option AM := match arun P n m with
  | some m => some (m.keep l)
  | none => none

theorem arunK_sound {B : Nat} {base : List Frame} (hN : NoNum P) (hmix : P.follows .mixedOrders = true) {n : Nat} {l : List Nat} {m m' : AM} {f : Frame} {ccs : List Frame} (R : MRel P B ρ m f ccs w) (hA : arunK P n l m = some m') : StepOk P B base ρ m m' f ccs w := by
  unfold arunK at hA
  split at hA <;> cases hA
  rename_i m1 h1
  obtain ⟨ρ1, f1, ccs1, w1, s1, R1, k1⟩ := arun_sound (base := base) hN hmix n R h1
  obtain ⟨hr1, fl, hfl, hf, hcs⟩ := R1
  have hs : ∀ b o, (m1.keep l).h.m.get b = some o → m1.h.m.get b = some o := keepL_get m1.h.m l
  obtain ⟨hr2, hk2⟩ := hr1.drop (h' := (m1.keep l).h) hs rfl rfl
  exact ⟨ρ1, f1, ccs1, w1, s1, ⟨hr2, fl, hfl, hf.mono (hk2 w1.heap.size) (Nat.le_refl _), frsRel.mono (hk2 w1.heap.size) hfl hcs⟩, k1.trans (hk2 B)⟩

/-- the machine comes from one state to another, and may forget blocks on its way -/
inductive AReach (P : Program) : AM → AM → Prop where
  | refl (m : AM) : AReach P m m
  | run {m m1 m2 : AM} (n : Nat) (h : arun P n m = some m1) (r : AReach P m1 m2) : AReach P m m2
  | keep {m m1 m2 : AM} (n : Nat) (l : List Nat) (h : arunK P n l m = some m1) (r : AReach P m1 m2) : AReach P m m2

theorem AReach.trans {m m1 m2 : AM} (a : AReach P m m1) (b : AReach P m1 m2) : AReach P m m2 := by
  induction a with
  | refl => exact b
  | run n h r ih => exact .run n h (ih b)
  | keep n l h r ih => exact .keep n l h (ih b)

theorem reach_sound {B : Nat} {base : List Frame} (hN : NoNum P) (hmix : P.follows .mixedOrders = true) {m m' : AM} (hA : AReach P m m') : ∀ {ρ : Ren} {f : Frame} {ccs : List Frame} {w : World}, MRel P B ρ m f ccs w → StepOk P B base ρ m m' f ccs w := by
  induction hA with
  | refl m => intro ρ f ccs w R; exact ⟨ρ, f, ccs, w, .refl _ _, R, .refl _ _ _ _⟩
  | run n h r ih =>
    intro ρ f ccs w R
    obtain ⟨ρ1, f1, ccs1, w1, s1, R1, k1⟩ := arun_sound (base := base) hN hmix n R h
    obtain ⟨ρ2, f2, ccs2, w2, s2, R2, k2⟩ := ih R1
    exact ⟨ρ2, f2, ccs2, w2, s1.trans s2, R2, k1.trans k2⟩
  | keep n l h r ih =>
    intro ρ f ccs w R
    obtain ⟨ρ1, f1, ccs1, w1, s1, R1, k1⟩ := arunK_sound (base := base) hN hmix R h
    obtain ⟨ρ2, f2, ccs2, w2, s2, R2, k2⟩ := ih R1
    exact ⟨ρ2, f2, ccs2, w2, s1.trans s2, R2, k1.trans k2⟩

/-- a run of the machine to a function's end is a call of the model -/
theorem calls_of_run (hN : NoNum P) (hmix : P.follows .mixedOrders = true) {k : FuncId} {args : List AV} {cargs : List Value} {a : AFrame} {m' : AM} (hr : Rel ρ h w) (hc : concL ρ args = some cargs) (he : enterFrame P k args false = some a)
    (hrun : AReach P ⟨a, [], h⟩ m') (hmode : m'.fr.mode = .returning) (hd : m'.fr.defers = []) (hcs : m'.cs = []) (hfn : m'.fr.fn = k) (hdf : m'.fr.deferred = false) {fn : Func} (hf : P.funcs[k]? = some fn) {l : List AV} (hl : resultsA P m'.h m'.fr.env fn.results.toList = some l) :
    Calls P k cargs.toArray w (fun e w' => ∃ ρ' cv, e = .returned cv ∧ conc ρ' (oneOf l) = some cv ∧ Rel ρ' m'.h w' ∧ KeepsB w.heap.size ρ h w ρ' m'.h w') := by
  intro cs
  obtain ⟨b1, e1, t1⟩ := enter_rel (df := false) hc he
  have R : MRel P w.heap.size ρ ⟨a, [], h⟩ (Frame.enter P k cargs.toArray .normal) [] w := ⟨hr, w.heap.size, Nat.le_refl _, .plain b1 e1 t1, Nat.le_refl _⟩
  obtain ⟨ρ', f', ccs', w', hs, R', hk⟩ := reach_sound (base := cs) hN hmix hrun R
  obtain ⟨hr', fl, hfl, hfr, hfrs⟩ := R'
  rw [hcs] at hfrs
  cases ccs' with
  | cons => exact hfrs.elim
  | nil =>
    obtain ⟨b, env, todo⟩ := hfr.lift2 (.inl (by rw [hmode]; simp))
    obtain ⟨cv, g1, g2⟩ := results_ok (P := P) hr' env.get hl
    have hbm := b.mode
    rw [hmode] at hbm
    refine ⟨.returned cv, w', f', ⟨ρ', cv, rfl, g2, hr', hk⟩, hs, b.fn.trans hfn, hbm, ?_, ?_, fn, ?_, g1⟩
    · have := b.defers; rw [hd] at this; simp only [concDs, Option.some.injEq] at this; exact this.symm
    · have := b.kind; rw [hdf] at this; simpa using this
    · rw [b.fn, hfn]; exact hf

/-- nothing is known of memory -/
def ren0 : Ren := { loc := fun _ => none, val := fun _ => 0, num := fun _ => 0 }
theorem rel0 (w : World) : Rel ren0 ⟨.e, 0, []⟩ w :=
  ⟨fun b o hb => by simp [PT.get_e] at hb, fun b b' o o' l l' hb => by simp [PT.get_e] at hb, fun b l hl => by simp [ren0] at hl, fun b _ => rfl, fun f hf => by cases hf⟩

end Go.Abs

set_option linter.unusedSimpArgs false
set_option linter.unusedVariables false
namespace Go.Abs
variable {P : Program} {B : Nat} {ρ : Ren} {h : AHeap} {w : World}

/-! values that name only blocks below a bound, and no unknown number -/
mutual
def clean (tr : Bool) (n : Nat) : AV → Bool
  | .lin .. => false
  | .ptrL .. => false
  | .trm .. => tr
  | .ptr b _ => Nat.blt b n
  | .slice b _ _ _ => Nat.blt b n
  | .vslice b _ _ _ => Nat.blt b n
  | .eslice b _ _ _ => Nat.blt b n
  | .map b => Nat.blt b n
  | .yld b => Nat.blt b n
  | .func _ a c => cleanL tr n a && cleanL tr n c
  | .iface _ v => clean tr n v
  | .agg l => cleanL tr n l
  | .tup l => cleanL tr n l
  | _ => true
def cleanL (tr : Bool) (n : Nat) : List AV → Bool
  | [] => true
  | v :: vs => clean tr n v && cleanL tr n vs
end

/-- two memories' places agree below a bound -/
structure Ren.agree (ρ ρ2 : Ren) (tr : Bool) (n : Nat) : Prop where
  loc : ∀ b, b < n → ρ2.loc b = ρ.loc b
  num : tr = true → ρ2.num = ρ.num

mutual
theorem clean_conc {ρ ρ2 : Ren} {tr : Bool} {n : Nat} (hl : ρ.agree ρ2 tr n) : ∀ (a : AV), clean tr n a = true → conc ρ2 a = conc ρ a
  | .bool _, _ => by simp [conc]
  | .int _ _, _ => by simp [conc]
  | .str _, _ => by simp [conc]
  | .nilp, _ => by simp [conc]
  | .nils, _ => by simp [conc]
  | .nilm, _ => by simp [conc]
  | .nilf, _ => by simp [conc]
  | .nili, _ => by simp [conc]
  | .lin .., h => by simp [clean] at h
  | .ptrL .., h => by simp [clean] at h
  | .trm _ _, h => by simp only [clean] at h; simp only [conc, hl.num h]
  | .ptr b _, h => by simp only [clean] at h; simp only [conc, hl.loc b (lt_of_blt h)]
  | .slice b _ _ _, h => by simp only [clean] at h; simp only [conc, hl.loc b (lt_of_blt h)]
  | .vslice b _ _ _, h => by simp only [clean] at h; simp only [conc, hl.loc b (lt_of_blt h)]
  | .eslice b _ _ _, h => by simp only [clean] at h; simp only [conc, hl.loc b (lt_of_blt h)]
  | .map b, h => by simp only [clean] at h; simp only [conc, hl.loc b (lt_of_blt h)]
  | .yld b, h => by simp only [clean] at h; simp only [conc, hl.loc b (lt_of_blt h)]
  | .func f a c, h => by
    simp only [clean, Bool.and_eq_true] at h
    simp only [conc, cleanL_conc hl a h.1, cleanL_conc hl c h.2]
  | .iface t v, h => by simp only [clean] at h; simp only [conc, clean_conc hl v h]
  | .agg l, h => by simp only [clean] at h; simp only [conc, cleanL_conc hl l h]
  | .tup l, h => by simp only [clean] at h; simp only [conc, cleanL_conc hl l h]
theorem cleanL_conc {ρ ρ2 : Ren} {tr : Bool} {n : Nat} (hl : ρ.agree ρ2 tr n) : ∀ (a : List AV), cleanL tr n a = true → concL ρ2 a = concL ρ a
  | [], _ => by simp [concL]
  | v :: vs, h => by
    simp only [cleanL, Bool.and_eq_true] at h
    simp only [concL, clean_conc hl v h.1, cleanL_conc hl vs h.2]
end

/-! trees -/
def PT.allK {α : Type} (f : Nat → α → Bool) : Nat → Nat → PT α → Bool
  | _, _, .e => true
  | a, b, .nd l v r => (match v with | some x => f b x | none => true) && PT.allK f (2 * a) (a + b) l && PT.allK f (2 * a) (2 * a + b) r

theorem PT.allK_get {α : Type} {f : Nat → α → Bool} : ∀ {t : PT α} {a b j : Nat} {x : α}, PT.allK f a b t = true → t.get j = some x → f (a * j + b) x = true
  | .e, a, b, j, x, _, h => by rw [PT.get_e] at h; cases h
  | .nd l v r, a, b, 0, x, ha, h => by
    simp only [PT.allK, Bool.and_eq_true] at ha
    rw [PT.get_zero] at h; subst h
    simpa using ha.1.1
  | .nd l v r, a, b, j + 1, x, ha, h => by
    simp only [PT.allK, Bool.and_eq_true] at ha
    rcases Nat.mod_two_eq_zero_or_one j with h' | h'
    · rw [PT.get_left _ _ _ h'] at h
      have := PT.allK_get ha.1.2 h
      have hh : 2 * a * (j / 2) + (a + b) = a * (j + 1) + b := by
        have : j + 1 = 2 * (j / 2) + 1 := by omega
        rw [this, Nat.mul_add, Nat.mul_one, ← Nat.mul_assoc, Nat.mul_comm a 2]; omega
      rwa [hh] at this
    · rw [PT.get_right _ _ _ h'] at h
      have := PT.allK_get ha.2 h
      have hh : 2 * a * (j / 2) + (2 * a + b) = a * (j + 1) + b := by
        have : j + 1 = 2 * (j / 2) + 2 := by omega
        rw [this, Nat.mul_add, ← Nat.mul_assoc, Nat.mul_comm a 2]; omega
      rwa [hh] at this

def cleanEnv (tr : Bool) (n : Nat) (env : PT AV) : Bool := PT.allK (fun _ a => clean tr n a) 1 0 env
theorem cleanEnv_get {tr : Bool} {n : Nat} {env : PT AV} (h : cleanEnv tr n env = true) {t : Nat} {a : AV} (ha : env.get t = some a) : clean tr n a = true := PT.allK_get h ha

theorem EnvRel.change {ρ ρ2 : Ren} {tr : Bool} {n k : Nat} (hl : ρ.agree ρ2 tr n) {env : PT AV} (hc : cleanEnv tr n env = true) {tmps : Array Value} (r : EnvRel ρ k env tmps) : EnvRel ρ2 k env tmps :=
  ⟨r.size, fun t a ha => by rw [clean_conc hl a (cleanEnv_get hc ha)]; exact r.get t a ha⟩

def cleanD (tr : Bool) (n : Nat) : ADefer → Bool
  | .call d => cleanL tr n d.args && cleanL tr n d.cap
  | .collected r => Nat.blt r n
theorem concD_change {ρ ρ2 : Ren} {tr : Bool} {n : Nat} (hl : ρ.agree ρ2 tr n) {d : ADefer} (h : cleanD tr n d = true) : concD ρ2 d = concD ρ d := by
  cases d with
  | call d => simp only [cleanD, Bool.and_eq_true] at h; simp only [concD, cleanL_conc hl _ h.1, cleanL_conc hl _ h.2]
  | collected r => simp only [cleanD] at h; simp only [concD, hl.loc r (lt_of_blt h)]
theorem concDs_change {ρ ρ2 : Ren} {tr : Bool} {n : Nat} (hl : ρ.agree ρ2 tr n) : ∀ {d : List ADefer}, d.all (cleanD tr n) = true → concDs ρ2 d = concDs ρ d
  | [], _ => by simp [concDs]
  | d :: ds, h => by
    simp only [List.all_cons, Bool.and_eq_true] at h
    simp only [concDs, concD_change hl h.1, concDs_change hl h.2]
def cleanE (tr : Bool) (n : Nat) (e : AV × AV × Nat) : Bool := clean tr n e.1 && clean tr n e.2.1
theorem concEs_change {ρ ρ2 : Ren} {tr : Bool} {n : Nat} (hl : ρ.agree ρ2 tr n) : ∀ {d : List (AV × AV × Nat)}, d.all (cleanE tr n) = true → concEs ρ2 d = concEs ρ d
  | [], _ => by simp [concEs]
  | d :: ds, h => by
    simp only [List.all_cons, Bool.and_eq_true, cleanE] at h
    simp only [concEs, concE, clean_conc hl _ h.1.1, clean_conc hl _ h.1.2, concEs_change hl h.2]

def cleanObj (tr : Bool) (n : Nat) : AObj → Bool
  | .cells z _ _ _ _ m => z.all (fun x => clean tr n x.2) && PT.allK (fun _ a => clean tr n a) 1 0 m
  | .map es _ => es.all (cleanE tr n)
  | .mapIter none _ _ _ => true
  | .mapIter (some r) _ _ _ => Nat.blt r n
  | .loop _ _ _ _ env _ _ _ ds => Nat.blt ds n && cleanEnv tr n env
  | .deferred none => true
  | .deferred (some ds) => ds.all (cleanD tr n)

theorem zeroAt_mem : ∀ {z : List (Nat × AV)} {i : Nat} {a : AV}, zeroAt z i = some a → ∃ x ∈ z, x.2 = a
  | [], i, a, h => by simp [zeroAt] at h
  | (k, v) :: rest, i, a, h => by
    simp only [zeroAt] at h
    split at h
    · cases h; exact ⟨(k, v), List.mem_cons_self, rfl⟩
    · obtain ⟨x, hx, e⟩ := zeroAt_mem h; exact ⟨x, List.mem_cons_of_mem _ hx, e⟩

theorem objRel.change {ρ ρ2 : Ren} {tr : Bool} {n : Nat} (hl : ρ.agree ρ2 tr n) {l : Loc} {a : AObj} {o : Obj} (hc : cleanObj tr n a = true) (r : objRel ρ l a o) : objRel ρ2 l a o := by
  unfold objRel at r ⊢
  split at r
  · rename_i z p lim ex esz m
    simp only [cleanObj, Bool.and_eq_true] at hc
    obtain ⟨c, e, h1, h2, h3, h4⟩ := r
    refine ⟨c, e, h1, h2, h3, fun i a ha => ?_⟩
    obtain ⟨h5, v, hv, hcc⟩ := h4 i a ha
    refine ⟨h5, v, ?_, hcc⟩
    rw [clean_conc hl a ?_]
    · exact hv
    · simp only [AObj.at] at ha
      split at ha
      · split at ha
        · cases ha; exact PT.allK_get hc.2 (by assumption)
        · obtain ⟨x, hx, rfl⟩ := zeroAt_mem ha
          exact List.all_eq_true.1 hc.1 x hx
      · cases ha
  · simp only [cleanObj] at hc
    obtain ⟨c, h1, h2⟩ := r; exact ⟨c, by rw [concEs_change hl hc]; exact h1, h2⟩
  · exact r
  · simp only [cleanObj] at hc
    obtain ⟨h0, c, h1, h2⟩ := r; exact ⟨h0, c, by rw [hl.loc _ (lt_of_blt hc)]; exact h1, h2⟩
  · simp only [cleanObj, Bool.and_eq_true] at hc
    obtain ⟨c, d, h1, h2, h3⟩ := r; exact ⟨c, d, by rw [hl.loc _ (lt_of_blt hc.1)]; exact h1, h2.change hl hc.2, h3⟩
  · exact r
  · simp only [cleanObj] at hc
    obtain ⟨c, h1, h2⟩ := r; exact ⟨c, by rw [concDs_change hl hc]; exact h1, h2⟩

def cleanHeap (tr : Bool) (n : Nat) (m : PT AObj) : Bool := PT.allK (fun b o => Nat.blt b n && cleanObj tr n o) 1 0 m
theorem cleanHeap_get {tr : Bool} {n : Nat} {m : PT AObj} (h : cleanHeap tr n m = true) {b : Nat} {o : AObj} (hb : m.get b = some o) : b < n ∧ cleanObj tr n o = true := by
  have := PT.allK_get h hb
  simp only [Nat.one_mul, Nat.add_zero, Bool.and_eq_true] at this
  exact ⟨lt_of_blt this.1, this.2⟩

theorem Rel.change {ρ ρ2 : Ren} {tr : Bool} {n : Nat} (hl : ρ.agree ρ2 tr n) (hn : ∀ b, n ≤ b → ρ2.loc b = none) {m : PT AObj} {next : Nat} {fs : List Fact} (hg : ρ2.num = ρ.num) (hc : cleanHeap tr n m = true) (r : Rel ρ ⟨m, next, fs⟩ w) : Rel ρ2 ⟨m, n, fs⟩ w := by
  refine ⟨fun b o hb => ?_, fun b b' o o' l l' hb hb' h1 h2 => ?_, fun b l hb => ?_, fun b hb => hn b hb, by rw [hg]; exact r.facts⟩
  · obtain ⟨h1, h2⟩ := cleanHeap_get hc hb
    obtain ⟨l, h3, co, h4, h5⟩ := r.obj b o hb
    exact ⟨l, by rw [hl.loc b h1]; exact h3, co, h4, h5.change hl h2⟩
  · obtain ⟨g1, _⟩ := cleanHeap_get hc hb
    obtain ⟨g2, _⟩ := cleanHeap_get hc hb'
    rw [hl.loc b g1] at h1; rw [hl.loc b' g2] at h2
    exact r.inj b b' o o' l l' hb hb' h1 h2
  · by_cases hb' : b < n
    · rw [hl.loc b hb'] at hb; exact r.bnd b l hb
    · rw [hn b (by omega)] at hb; cases hb

/-! frames -/
def cleanItem (tr : Bool) (n : Nat) : AItem → Bool
  | .inRangeFunc l => Nat.blt l n
  | .endRangeFunc l => Nat.blt l n
  | .draw ops chain _ _ => chain.all fun i => match ops[i]? with | some o => !floatOp o.op | none => true
  | _ => true
theorem todoRel.change {ρ ρ2 : Ren} {tr : Bool} {n : Nat} (hl : ρ.agree ρ2 tr n) : ∀ {a : List AItem} {b : List Item}, a.all (cleanItem tr n) = true → todoRel ρ a b → todoRel ρ2 a b
  | [], [], _, _ => trivial
  | [], _ :: _, _, r => r.elim
  | _ :: _, [], _, r => r.elim
  | a :: as, b :: bs, h, r => by
    simp only [List.all_cons, Bool.and_eq_true] at h
    refine ⟨?_, todoRel.change hl h.2 r.2⟩
    have h1 := r.1
    have hc := h.1
    cases a <;> simp only [itemRel, cleanItem] at h1 hc ⊢ <;> first
      | exact h1
      | (obtain ⟨l, h3, h4⟩ := h1; exact ⟨l, by rw [hl.loc _ (lt_of_blt hc)]; exact h3, h4⟩)

def cleanBase (tr : Bool) (n : Nat) (a : AFrame) : Bool :=
  a.todo.all (cleanItem tr n) && a.defers.all (cleanD tr n) && (match a.mode with | .panicking _ => false | _ => true) && (match a.roundOf with | some l => Nat.blt l n | none => true)

theorem FrBase.change {ρ ρ2 : Ren} {tr : Bool} {n : Nat} (hl : ρ.agree ρ2 tr n) {a : AFrame} {f : Frame} (hc : cleanBase tr n a = true) (r : FrBase ρ a f) : FrBase ρ2 a f := by
  simp only [cleanBase, Bool.and_eq_true] at hc
  refine ⟨r.fn, r.kind, ?_, by rw [concDs_change hl hc.1.1.2]; exact r.defers, ?_⟩
  · have := r.round
    cases ha : a.roundOf with
    | none => simpa [ha] using this
    | some l =>
      simp only [ha] at this hc ⊢
      obtain ⟨lc, h1, h2⟩ := this
      exact ⟨lc, by rw [hl.loc _ (lt_of_blt hc.2)]; exact h1, h2⟩
  · have := r.mode
    cases ha : a.mode with
    | panicking c => simp [ha] at hc
    | run => simpa [ha, modeRel] using this
    | returning => simpa [ha, modeRel] using this

def cleanFrame (tr : Bool) (n : Nat) (a : AFrame) : Bool := cleanBase tr n a && cleanEnv tr n a.env

theorem FrRel.change {ρ ρ2 : Ren} {tr : Bool} {n : Nat} (hl : ρ.agree ρ2 tr n) {h h2 : AHeap} {fl cl : Nat} {a : AFrame} {f : Frame} (hc : cleanFrame tr n a = true) (r : FrRel P false fl cl ρ h w a f) : FrRel P false fl cl ρ2 h2 w a f := by
  simp only [cleanFrame, Bool.and_eq_true] at hc
  have hb := hc.1
  simp only [cleanBase, Bool.and_eq_true] at hb
  cases r with
  | plain b env todo => exact .plain (b.change hl hc.1) (env.change hl hc.2) (todo.change hl hb.1.1.1)
  | draw ht => cases ht
  | drawn ht hm b ops i chain acted seen k todo k' listed e1 e2 hk r hi hp left =>
    have ht := hb.1.1.1
    rw [e1] at ht
    simp only [List.all_cons, Bool.and_eq_true] at ht
    refine .drawn rfl hm (b.change hl hc.1) ops i chain acted seen k todo k' listed e1 e2 (hk.change hl ht.2) ?_ hi hp left
    refine ⟨r.ok, r.full, r.lsize, r.closed, r.acts, r.seenQ, r.doneQ, r.size, fun t a ha hs => ?_, fun j o hj ho hlj => ?_⟩
    · rw [clean_conc hl a (cleanEnv_get hc.2 ha)]; exact r.sync t a ha hs
    · have hf := (r.early j o hj ho hlj).1
      have := List.all_eq_true.1 ht.1 j hj
      simp only [ho, hf] at this
      cases this

theorem frsRel.change {ρ ρ2 : Ren} {tr : Bool} {n : Nat} (hl : ρ.agree ρ2 tr n) {h h2 : AHeap} : ∀ {cl : Nat} {a : List AFrame} {b : List Frame}, a.all (cleanFrame tr n) = true → frsRel P B ρ h w cl a b → frsRel P B ρ2 h2 w cl a b
  | _, [], [], _, r => r
  | _, [], _ :: _, _, r => r.elim
  | _, _ :: _, [], _, r => r.elim
  | _, _ :: _, _ :: _, hc, ⟨fl, h1, h2, h3⟩ => by
    simp only [List.all_cons, Bool.and_eq_true] at hc
    exact ⟨fl, h1, h2.change hl hc.1, frsRel.change hl hc.2 h3⟩

end Go.Abs

set_option linter.unusedSimpArgs false
set_option linter.unusedVariables false
namespace Go.Abs
variable {P : Program} {B : Nat} {ρ : Ren} {h : AHeap} {w : World} {base : List Frame}

/-! a loop whose turns differ in one number -/
def numOf (v : Nat) : AV → Option (IntKind × Int)
  | .int k d => some (k, d)
  | .lin k i m c _ _ => match Nat.beq i 0 with
    | true => some (k, m * (v : Int) + c)
    | false => none
  | _ => none
def inR (v : Nat) : AV → Prop
  | .lin _ _ _ _ lo hi => lo ≤ v ∧ v ≤ hi
  | _ => True

def topOk (n v1 v2 : Nat) (env env2 : PT AV) : Prop := ∀ t a, env2.get t = some a → ∃ a', env.get t = some a' ∧ ((clean false n a = true ∧ a' = a) ∨ ∃ kd, numOf v1 a' = some kd ∧ numOf v2 a = some kd ∧ inR v2 a)

theorem numOf_conc {v : Nat} (hv : ρ.val 0 = v) {a : AV} {k : IntKind} {d : Int} (h : numOf v a = some (k, d)) : (∀ x, conc ρ a = some x → x = .int k d) ∧ (inR v a → conc ρ a = some (.int k d)) := by
  cases a with
  | int k' d' => simp only [numOf, Option.some.injEq, Prod.mk.injEq] at h; obtain ⟨rfl, rfl⟩ := h; exact ⟨fun x hx => by simp [conc] at hx; exact hx.symm, fun _ => by simp [conc]⟩
  | lin k' i m c lo hi =>
    simp only [numOf] at h
    split at h
    · rename_i e
      have := Nat.eq_of_beq_eq_true e; subst this
      simp only [Option.some.injEq, Prod.mk.injEq] at h; obtain ⟨rfl, rfl⟩ := h
      refine ⟨fun x hx => ?_, fun hr => ?_⟩
      · simp only [conc] at hx; split at hx <;> cases hx
        rw [hv]
      · simp only [inR] at hr
        simp only [conc, hv]; rw [if_pos hr]
    · cases h
  | _ => simp [numOf] at h

def Ren.reset (ρ : Ren) (n : Nat) (g : Nat → Nat) : Ren := ⟨fun b => if b < n then ρ.loc b else none, g, ρ.num⟩
theorem Ren.reset_agree (ρ : Ren) (tr : Bool) (n : Nat) (g : Nat → Nat) : ρ.agree (ρ.reset n g) tr n := ⟨fun b hb => by simp [Ren.reset, hb], fun _ => rfl⟩

theorem EnvRel.top {n k v1 v2 : Nat} {env env2 : PT AV} {tmps : Array Value} {g : Nat → Nat} (h1 : ρ.val 0 = v1) (h2 : g 0 = v2) (ht : topOk n v1 v2 env env2) (r : EnvRel ρ k env tmps) : EnvRel (ρ.reset n g) k env2 tmps := by
  refine ⟨r.size, fun t a ha => ?_⟩
  obtain ⟨a', ha', hh⟩ := ht t a ha
  obtain ⟨x, hx, hx'⟩ := r.get t a' ha'
  rcases hh with ⟨hc, rfl⟩ | ⟨⟨k', d⟩, g1, g2, g3⟩
  · exact ⟨x, by rw [clean_conc (ρ.reset_agree false n g) _ hc]; exact hx, hx'⟩
  · have := (numOf_conc h1 g1).1 x hx; subst this
    exact ⟨_, (numOf_conc (ρ := ρ.reset n g) h2 g2).2 g3, hx'⟩

theorem MRel.change {n v1 v2 : Nat} {g : Nat → Nat} {fr : AFrame} {cs : List AFrame} {mm : PT AObj} {next : Nat} {fs : List Fact} {env env2 : PT AV} {f : Frame} {ccs : List Frame}
    (R : MRel P B ρ ⟨{ fr with env := env }, cs, ⟨mm, next, fs⟩⟩ f ccs w) (hd : ∀ ops chain acted seen k, fr.todo ≠ .draw ops chain acted seen :: k)
    (hb : cleanBase false n fr = true) (hcs : cs.all (cleanFrame false n) = true) (hm : cleanHeap false n mm = true) (h1 : ρ.val 0 = v1) (h2 : g 0 = v2) (ht : topOk n v1 v2 env env2) :
    MRel P B (ρ.reset n g) ⟨{ fr with env := env2 }, cs, ⟨mm, n, fs⟩⟩ f ccs w := by
  obtain ⟨hr, fl, hfl, hf, hfs⟩ := R
  have hag := ρ.reset_agree false n g
  refine ⟨hr.change hag (fun b hb => by simp [Ren.reset]; omega) rfl hm, fl, hfl, ?_, hfs.change hag hcs⟩
  obtain ⟨b, e, t⟩ := hf.lift2 (.inr hd)
  have hb' := hb
  simp only [cleanBase, Bool.and_eq_true] at hb'
  have hbase : cleanBase false n { fr with env := env } = true := hb
  have b2 := b.change hag hbase
  exact .plain ⟨b2.fn, b2.kind, b2.round, b2.defers, b2.mode⟩ (e.top h1 h2 ht) (t.change hag hb'.1.1.1)

theorem KeepsB.setVal {ρ ρ' : Ren} {h h' : AHeap} {w w' : World} (k : KeepsB B ρ h w ρ' h' w') (g : Nat → Nat) : KeepsB B ⟨ρ.loc, g, ρ.num⟩ h w ⟨ρ'.loc, g, ρ'.num⟩ h' w' :=
  ⟨⟨k.le.loc, fun _ => rfl, k.le.num⟩, k.size, k.same, k.img, k.os, k.output, k.tape⟩

theorem KeepsB.reset {ρ ρ' : Ren} {h h' : AHeap} {w w' : World} (k : KeepsB B ρ h w ρ' h' w') {n : Nat} (hf : ∀ b, n ≤ b → ρ.loc b = none) : KeepsB B ρ h w (ρ'.reset n ρ.val) ⟨h'.m, n, h'.facts⟩ w' := by
  refine ⟨⟨fun b l hb => ?_, fun _ => rfl, k.le.num⟩, k.size, k.same, fun b o l hb hl => ?_, k.os, k.output, k.tape⟩
  · by_cases hn : b < n
    · simp only [Ren.reset, hn, if_true]; exact k.le.loc b l hb
    · rw [hf b (by omega)] at hb; cases hb
  · simp only [Ren.reset] at hl
    split at hl
    · exact k.img b o l hb hl
    · cases hl

/-- the machine comes from one state to another, whatever the memory's places -/
def Comes (P : Program) (m m' : AM) : Prop := ∀ (B : Nat) (base : List Frame) (ρ : Ren) (f : Frame) (ccs : List Frame) (w : World), MRel P B ρ m f ccs w → StepOk P B base ρ m m' f ccs w

theorem Comes.refl (m : AM) : Comes P m m := fun B base ρ f ccs w R => ⟨ρ, f, ccs, w, .refl _ _, R, .refl _ _ _ _⟩
theorem Comes.trans {m m1 m2 : AM} (a : Comes P m m1) (b : Comes P m1 m2) : Comes P m m2 := fun B base ρ f ccs w R =>
  let ⟨ρ1, f1, ccs1, w1, s1, R1, k1⟩ := a B base ρ f ccs w R
  let ⟨ρ2, f2, ccs2, w2, s2, R2, k2⟩ := b B base ρ1 f1 ccs1 w1 R1
  ⟨ρ2, f2, ccs2, w2, s1.trans s2, R2, k1.trans k2⟩
theorem Comes.run (hN : NoNum P) (hmix : P.follows .mixedOrders = true) {n : Nat} {m m' : AM} (h : arun P n m = some m') : Comes P m m' := fun _ _ _ _ _ _ R => arun_sound hN hmix n R h
theorem Comes.keep (hN : NoNum P) (hmix : P.follows .mixedOrders = true) {n : Nat} {l : List Nat} {m m' : AM} (h : arunK P n l m = some m') : Comes P m m' := fun _ _ _ _ _ _ R => arunK_sound hN hmix R h

/-- the turns of a loop, each but one number like the one ahead -/
theorem turns {n nE hi : Nat} {fr : AFrame} {cs : List AFrame} {mm : PT AObj} {fs : List Fact} {envS envE : Env}
    (hrun : Comes P ⟨{ fr with env := envS }, cs, ⟨mm, n, fs⟩⟩ ⟨{ fr with env := envE }, cs, ⟨mm, nE, fs⟩⟩)
    (hd : ∀ ops chain acted seen k, fr.todo ≠ .draw ops chain acted seen :: k)
    (hb : cleanBase false n fr = true) (hcs : cs.all (cleanFrame false n) = true) (hm : cleanHeap false n mm = true)
    (hstep : ∀ v, v < hi → topOk n v (v + 1) envE envS) : ∀ (j v : Nat), v + j = hi → ∀ {ρ : Ren} {f : Frame} {ccs : List Frame} {w : World}, ρ.val 0 = v → MRel P B ρ ⟨{ fr with env := envS }, cs, ⟨mm, n, fs⟩⟩ f ccs w →
      ∃ ρ' f' ccs' w', Steps P (lone f (ccs ++ base) w) (lone f' (ccs' ++ base) w') ∧ MRel P B ρ' ⟨{ fr with env := envE }, cs, ⟨mm, nE, fs⟩⟩ f' ccs' w' ∧ ρ'.val 0 = hi ∧ KeepsB B ρ ⟨mm, n, fs⟩ w ⟨ρ'.loc, ρ.val, ρ'.num⟩ ⟨mm, nE, fs⟩ w'
  | 0, v, hv, ρ, f, ccs, w, h0, R => by
    obtain ⟨ρ1, f1, ccs1, w1, s1, R1, k1⟩ := hrun B base _ _ _ _ R
    refine ⟨ρ1, f1, ccs1, w1, s1, R1, by rw [k1.le.val, h0]; omega, ?_⟩
    exact ⟨⟨k1.le.loc, fun _ => rfl, k1.le.num⟩, k1.size, k1.same, k1.img, k1.os, k1.output, k1.tape⟩
  | j + 1, v, hv, ρ, f, ccs, w, h0, R => by
    obtain ⟨ρ1, f1, ccs1, w1, s1, R1, k1⟩ := hrun B base _ _ _ _ R
    have hfr := R.rel.fresh
    have R2 := R1.change (g := fun _ => v + 1) hd hb hcs hm (by rw [k1.le.val, h0]) rfl (hstep v (by omega))
    have k2 := k1.reset (n := n) hfr
    obtain ⟨ρ3, f3, ccs3, w3, s3, R3, h3, k3⟩ := turns hrun hd hb hcs hm hstep j (v + 1) (by omega) rfl R2
    refine ⟨ρ3, f3, ccs3, w3, s1.trans s3, R3, h3, ?_⟩
    exact k2.trans (k3.setVal ρ.val)

/-- the values at a loop's begin, within it, at its end -/
def pairE (n : Nat) (a' a : AV) : Bool :=
  match a, a' with
  | .lin k i _ c lo _, .int k' d => decide (k = k') && Nat.beq i 0 && decide (c = d) && Nat.beq lo 0
  | _, _ => clean false n a && sameV a' a
def pairS (n hi : Nat) (a' a : AV) : Bool :=
  match a, a' with
  | .lin k i m c lo hi1, .lin k' i' m' c' _ _ => decide (k = k') && Nat.beq i 0 && Nat.beq i' 0 && decide (m = m') && decide (c' = c + m) && Nat.beq lo 0 && Nat.beq hi1 hi
  | _, _ => clean false n a && sameV a' a
def pairZ (n hi : Nat) (a' a : AV) : Bool :=
  match a, a' with
  | .int k d, .lin k' i' m' c' _ _ => decide (k = k') && Nat.beq i' 0 && decide (d = m' * (hi : Int) + c')
  | _, _ => clean false n a && sameV a' a
noncomputable def pairs (p : AV → AV → Bool) (env env2 : PT AV) : Bool := PT.allK (fun t a => match env.get t with | some a' => p a' a | none => false) 1 0 env2

theorem pairs_top {p : AV → AV → Bool} {n v1 v2 : Nat} {env env2 : PT AV} (h : pairs p env env2 = true)
    (hp : ∀ a' a, p a' a = true → (clean false n a = true ∧ a' = a) ∨ ∃ kd, numOf v1 a' = some kd ∧ numOf v2 a = some kd ∧ inR v2 a) : topOk n v1 v2 env env2 := by
  intro t a ha
  have := PT.allK_get h ha
  simp only [Nat.one_mul, Nat.add_zero] at this
  split at this
  · rename_i a' ha'; exact ⟨a', ha', hp a' a this⟩
  · cases this

theorem pairE_ok {n : Nat} {v1 : Nat} {a' a : AV} (h : pairE n a' a = true) : (clean false n a = true ∧ a' = a) ∨ ∃ kd, numOf v1 a' = some kd ∧ numOf 0 a = some kd ∧ inR 0 a := by
  unfold pairE at h
  split at h
  · simp only [Bool.and_eq_true, decide_eq_true_eq] at h
    obtain ⟨⟨⟨rfl, h2⟩, rfl⟩, h4⟩ := h
    have := Nat.eq_of_beq_eq_true h2; subst this
    have := Nat.eq_of_beq_eq_true h4; subst this
    exact .inr ⟨_, rfl, by simp [numOf], ⟨Nat.le_refl _, Nat.zero_le _⟩⟩
  · simp only [Bool.and_eq_true] at h; exact .inl ⟨h.1, sameV_eq _ _ h.2⟩
theorem pairS_ok {n hi v : Nat} (hv : v < hi) {a' a : AV} (h : pairS n hi a' a = true) : (clean false n a = true ∧ a' = a) ∨ ∃ kd, numOf v a' = some kd ∧ numOf (v + 1) a = some kd ∧ inR (v + 1) a := by
  unfold pairS at h
  split at h
  · simp only [Bool.and_eq_true, decide_eq_true_eq] at h
    obtain ⟨⟨⟨⟨⟨⟨rfl, h2⟩, h3⟩, rfl⟩, rfl⟩, h5⟩, h6⟩ := h
    have := Nat.eq_of_beq_eq_true h2; subst this
    have := Nat.eq_of_beq_eq_true h3; subst this
    have := Nat.eq_of_beq_eq_true h5; subst this
    have := Nat.eq_of_beq_eq_true h6; subst this
    refine .inr ⟨_, rfl, ?_, ⟨Nat.zero_le _, hv⟩⟩
    simp only [numOf, Nat.beq_refl, Option.some.injEq, Prod.mk.injEq, true_and]
    rw [Int.natCast_add, Int.mul_add]; simp; omega
  · simp only [Bool.and_eq_true] at h; exact .inl ⟨h.1, sameV_eq _ _ h.2⟩
theorem pairZ_ok {n hi v2 : Nat} {a' a : AV} (h : pairZ n hi a' a = true) : (clean false n a = true ∧ a' = a) ∨ ∃ kd, numOf hi a' = some kd ∧ numOf v2 a = some kd ∧ inR v2 a := by
  unfold pairZ at h
  split at h
  · simp only [Bool.and_eq_true, decide_eq_true_eq] at h
    obtain ⟨⟨rfl, h2⟩, rfl⟩ := h
    have := Nat.eq_of_beq_eq_true h2; subst this
    exact .inr ⟨_, rfl, rfl, trivial⟩
  · simp only [Bool.and_eq_true] at h; exact .inl ⟨h.1, sameV_eq _ _ h.2⟩

def noDraw : List AItem → Bool
  | .draw .. :: _ => false
  | _ => true
theorem noDraw_ok {l : List AItem} (h : noDraw l = true) : ∀ ops chain acted seen k, l ≠ .draw ops chain acted seen :: k := by
  rintro ops chain acted seen k rfl; simp [noDraw] at h

/-- what is checked of a loop beside its turn -/
noncomputable def loopOk (n hi : Nat) (fr : AFrame) (cs : List AFrame) (mm : PT AObj) (env0 envS envE envZ : Env) : Bool :=
  noDraw fr.todo && cleanBase false n fr && cs.all (cleanFrame false n) && cleanHeap false n mm && pairs (pairE n) env0 envS && pairs (pairS n hi) envE envS && pairs (pairZ n hi) envE envZ

theorem Comes.loop {n nE hi : Nat} {fr : AFrame} {cs : List AFrame} {mm : PT AObj} {fs : List Fact} {env0 envS envE envZ : Env}
    (hrun : Comes P ⟨{ fr with env := envS }, cs, ⟨mm, n, fs⟩⟩ ⟨{ fr with env := envE }, cs, ⟨mm, nE, fs⟩⟩)
    (hok : loopOk n hi fr cs mm env0 envS envE envZ = true) : Comes P ⟨{ fr with env := env0 }, cs, ⟨mm, n, fs⟩⟩ ⟨{ fr with env := envZ }, cs, ⟨mm, n, fs⟩⟩ := by
  intro B base ρ f ccs w R
  simp only [loopOk, Bool.and_eq_true] at hok
  obtain ⟨⟨⟨⟨⟨⟨h1, h2⟩, h3⟩, h4⟩, h5⟩, h6⟩, h7⟩ := hok
  have hd := noDraw_ok h1
  have R0 := R.change (g := fun _ => 0) hd h2 h3 h4 rfl rfl (pairs_top h5 fun a' a => pairE_ok)
  obtain ⟨ρ1, f1, ccs1, w1, s1, R1, e1, k1⟩ := turns (base := base) hrun hd h2 h3 h4 (fun v hv => pairs_top h6 fun a' a => pairS_ok hv) hi 0 (by omega) rfl R0
  have R2 := R1.change (g := ρ.val) hd h2 h3 h4 e1 rfl (pairs_top h7 fun a' a => pairZ_ok)
  refine ⟨_, f1, ccs1, w1, s1, R2, ?_⟩
  have hfr := R.rel.fresh
  have k0 := (KeepsB.refl B ρ ⟨mm, n, fs⟩ w).reset (n := n) hfr
  have k1' := k0.trans (k1.setVal ρ.val)
  exact k1'.reset (n := n) hfr

end Go.Abs

namespace Go.Abs
/-! a place in a function's body -/
def sub : List Nat → Code → Code
  | [], c => c
  | i :: p, c => match c with
    | .seq a b => (match i with | 0 => sub p a | _ => sub p b)
    | .cond _ a b => (match i with | 0 => sub p a | _ => sub p b)
    | .block _ a => sub p a
    | .loop a => sub p a
    | .scope a => sub p a
    | .rangeFunc _ _ a b => (match i with | 0 => sub p a | _ => sub p b)
    | c => c
def opsAt (p : List Nat) (c : Code) : Array Oper := match sub p c with
  | .region _ ops _ => ops
  | _ => #[]
def bodyOf (f : Func) : Code := match f.body with
  | some c => c
  | none => .skip
end Go.Abs

set_option linter.unusedSimpArgs false
set_option linter.unusedVariables false
namespace Go.Abs
variable {P : Program} {B : Nat} {ρ : Ren} {h : AHeap} {w : World} {base : List Frame}

/-! a call of a function that asks nothing of memory, beneath any callers -/
/-- all blocks of a world are another's -/
theorem Rel.grow {w' : World} (r : Rel ρ h w) (hs : w.heap.size ≤ w'.heap.size) (he : ∀ c, c < w.heap.size → w'.heap[c]? = w.heap[c]?) : Rel ρ h w' := by
  refine ⟨fun b o hb => ?_, r.inj, fun b l hb => Nat.lt_of_lt_of_le (r.bnd b l hb) hs, r.fresh, r.facts⟩
  obtain ⟨l, h1, co, h2, h3⟩ := r.obj b o hb
  exact ⟨l, h1, co, by rw [he _ (r.bnd b l h1)]; exact h2, h3⟩

noncomputable def subEnv (env env2 : PT AV) : Bool := PT.allK (fun t a => match env.get t with | some a' => sameV a' a | none => false) 1 0 env2
theorem subEnv_get {env env2 : PT AV} (h : subEnv env env2 = true) {t : Nat} {a : AV} (ha : env2.get t = some a) : env.get t = some a := by
  have := PT.allK_get h ha
  simp only [Nat.one_mul, Nat.add_zero] at this
  split at this
  · rename_i a' ha'; have := sameV_eq _ _ this; subst this; exact ha'
  · cases this

noncomputable def calleeOk (g g' : AFrame) (env' : Env) : Bool :=
  noDraw g.todo && noDraw g'.todo && cleanFrame false 0 g && cleanBase false 0 g' && cleanEnv false 0 env' && subEnv g'.env env'

theorem Comes.callee {g g' : AFrame} {hE : AHeap} {env' : Env} (hrun : Comes P ⟨g, [], ⟨.e, 0, []⟩⟩ ⟨g', [], hE⟩) (hok : calleeOk g g' env' = true) (a : AFrame) (cs : List AFrame) (h : AHeap) :
    Comes P ⟨g, a :: cs, h⟩ ⟨{ g' with env := env' }, a :: cs, h⟩ := by
  intro B base ρ f ccs w R
  simp only [calleeOk, Bool.and_eq_true] at hok
  obtain ⟨⟨⟨⟨⟨o1, o2⟩, o3⟩, o4⟩, o5⟩, o6⟩ := hok
  obtain ⟨hr, fl, hfl, hf, hfs⟩ := R
  obtain ⟨b, e, t⟩ := hf.lift2 (.inr (noDraw_ok o1))
  simp only [cleanFrame, Bool.and_eq_true] at o3
  have o3' := o3.1
  simp only [cleanBase, Bool.and_eq_true] at o3'
  let ρ0 : Ren := ⟨fun _ => none, ρ.val, ρ.num⟩
  have hag : ρ.agree ρ0 false 0 := ⟨fun b hb => by omega, fun h => by cases h⟩
  have R0 : MRel P w.heap.size ρ0 ⟨g, [], ⟨.e, 0, []⟩⟩ f [] w := by
    refine ⟨⟨fun b o hb => by simp [PT.get_e] at hb, fun b b' o o' l l' hb => by simp [PT.get_e] at hb, fun b l hl => by simp [ρ0] at hl, fun b _ => rfl, fun f hf => by cases hf⟩, w.heap.size, Nat.le_refl _, ?_, Nat.le_refl _⟩
    exact .plain (b.change hag o3.1) (e.change hag o3.2) (t.change hag o3'.1.1.1)
  obtain ⟨ρ', f', ccs', w', s, R', k⟩ := hrun w.heap.size (ccs ++ base) ρ0 f [] w R0
  obtain ⟨hr', fl', hfl', hf', hfs'⟩ := R'
  cases ccs' with
  | cons => exact hfs'.elim
  | nil =>
    have hsame : ∀ c, c < w.heap.size → w'.heap[c]? = w.heap[c]? := fun c hc => k.same c hc fun b o l hb => by simp [PT.get_e] at hb
    have kk : KeepsB w.heap.size ρ h w ρ h w' := ⟨.refl _, k.size, fun c hc _ => hsame c hc, fun b o l hb hl => .inr ⟨b, o, l, hb, hl, rfl⟩, k.os, k.output, k.tape⟩
    have hag' : ρ'.agree ρ false 0 := ⟨fun b hb => by omega, fun h => by cases h⟩
    obtain ⟨b', e', t'⟩ := hf'.lift2 (.inr (noDraw_ok o2))
    have o4' := o4
    simp only [cleanBase, Bool.and_eq_true] at o4'
    refine ⟨ρ, f', ccs, w', by simpa using s, ⟨hr.grow k.size hsame, fl, Nat.le_trans hfl k.size, ?_, frsRel.mono kk hfl hfs⟩, kk.lower (Nat.le_trans (frsRel.low hfs) hfl)⟩
    have b2 := b'.change hag' o4
    refine .plain ⟨b2.fn, b2.kind, b2.round, b2.defers, b2.mode⟩ ⟨e'.size, fun t a ha => ?_⟩ (t'.change hag' o4'.1.1.1)
    rw [clean_conc hag' a (cleanEnv_get o5 ha)]
    exact e'.get t a (subEnv_get o6 ha)

/-- a run of the machine to a function's end is a call of the model -/
theorem calls_of_comes {k : FuncId} {args : List AV} {cargs : List Value} {a : AFrame} {m' : AM} (hr : Rel ρ h w) (hc : concL ρ args = some cargs) (he : enterFrame P k args false = some a)
    (hrun : Comes P ⟨a, [], h⟩ m') (hmode : m'.fr.mode = .returning) (hd : m'.fr.defers = []) (hcs : m'.cs = []) (hfn : m'.fr.fn = k) (hdf : m'.fr.deferred = false) {fn : Func} (hf : P.funcs[k]? = some fn) {l : List AV} (hl : resultsA P m'.h m'.fr.env fn.results.toList = some l) :
    Calls P k cargs.toArray w (fun e w' => ∃ ρ' cv, e = .returned cv ∧ conc ρ' (oneOf l) = some cv ∧ Rel ρ' m'.h w' ∧ KeepsB w.heap.size ρ h w ρ' m'.h w') := by
  intro cs
  obtain ⟨b1, e1, t1⟩ := enter_rel (df := false) hc he
  have R : MRel P w.heap.size ρ ⟨a, [], h⟩ (Frame.enter P k cargs.toArray .normal) [] w := ⟨hr, w.heap.size, Nat.le_refl _, .plain b1 e1 t1, Nat.le_refl _⟩
  obtain ⟨ρ', f', ccs', w', hs, R', hk⟩ := hrun w.heap.size cs ρ _ _ _ R
  obtain ⟨hr', fl, hfl, hfr, hfrs⟩ := R'
  rw [hcs] at hfrs
  cases ccs' with
  | cons => exact hfrs.elim
  | nil =>
    obtain ⟨b, env, todo⟩ := hfr.lift2 (.inl (by rw [hmode]; simp))
    obtain ⟨cv, g1, g2⟩ := results_ok (P := P) hr' env.get hl
    have hbm := b.mode
    rw [hmode] at hbm
    refine ⟨.returned cv, w', f', ⟨ρ', cv, rfl, g2, hr', hk⟩, hs, b.fn.trans hfn, hbm, ?_, ?_, fn, ?_, g1⟩
    · have := b.defers; rw [hd] at this; simp only [concDs, Option.some.injEq] at this; exact this.symm
    · have := b.kind; rw [hdf] at this; simpa using this
    · rw [b.fn, hfn]; exact hf

/-- nothing is known of memory, the numbers are these -/
def renV (g : Nat → Nat) : Ren := { loc := fun _ => none, val := g, num := fun _ => 0 }
theorem relV (g : Nat → Nat) (w : World) : Rel (renV g) ⟨.e, 0, []⟩ w :=
  ⟨fun b o hb => by simp [PT.get_e] at hb, fun b b' o o' l l' hb => by simp [PT.get_e] at hb, fun b l hl => by simp [renV] at hl, fun b _ => rfl, fun f hf => by cases hf⟩

/-- a call of a function that is told no memory leaves what there was -/
theorem kept_of_keeps {g : Nat → Nat} {ρ' : Ren} {h' : AHeap} {w' : World} (k : KeepsB w.heap.size (renV g) ⟨.e, 0, []⟩ w ρ' h' w') (may : MemPlace → Prop) : w.keptBut w' may := by
  refine ⟨k.os, k.output, fun i hi => ?_⟩
  have := k.same i hi fun b o l hb => by simp [PT.get_e] at hb
  rw [this]
  cases ho : w.heap[i]? with
  | none => rfl
  | some o => cases o <;> simp
end Go.Abs

