/- A machine in plain words for the model, each of its steps some steps of the model. -/
import Derived.Test.YtnpcbokncacbjaaGreatAd
import Derived.Control
set_option linter.all false
set_option linter.unusedSimpArgs false
set_option linter.unusedVariables false
namespace Go.Abs
variable {P : Program}

/-! items, modes -/
def itemRel (ρ : Ren) : AItem → Item → Prop
  | .code c, it => it = .code c
  | .inBlock i, it => it = .inBlock i
  | .inLoop b, it => it = .inLoop b
  | .inScope b, it => it = .inScope b
  | .inRegion ops todo, it => it = .inRegion ops todo
  | .draw _ _ _ _, _ => False
  | .inRangeFunc l, it => ∃ lc, ρ.loc l = some lc ∧ it = .inRangeFunc lc.blk
  | .endRangeFunc l, it => ∃ lc, ρ.loc l = some lc ∧ it = .endRangeFunc lc.blk
  | .beginRound, it => it = .beginRound

def todoRel (ρ : Ren) : List AItem → List Item → Prop
  | [], [] => True
  | a :: as, b :: bs => itemRel ρ a b ∧ todoRel ρ as bs
  | _, _ => False

theorem itemRel.mono {ρ ρ' : Ren} (h : ρ.le ρ') {a : AItem} {b : Item} (r : itemRel ρ a b) : itemRel ρ' a b := by
  cases a <;> simp only [itemRel] at r ⊢ <;> first
    | exact r
    | (obtain ⟨l, h1, h2⟩ := r; exact ⟨l, h.loc _ _ h1, h2⟩)
theorem todoRel.mono {ρ ρ' : Ren} (h : ρ.le ρ') : ∀ {a : List AItem} {b : List Item}, todoRel ρ a b → todoRel ρ' a b
  | [], [], _ => trivial
  | [], _ :: _, r => r.elim
  | _ :: _, [], r => r.elim
  | _ :: _, _ :: _, r => ⟨r.1.mono h, todoRel.mono h r.2⟩
theorem todoRel.append {ρ : Ren} : ∀ {a b : List AItem} {x y : List Item}, todoRel ρ a x → todoRel ρ b y → todoRel ρ (a ++ b) (x ++ y)
  | [], b, [], y, _, h => h
  | [], _, _ :: _, _, r, _ => r.elim
  | _ :: _, _, [], _, r, _ => r.elim
  | _ :: _, b, _ :: _, y, r, h => ⟨r.1, todoRel.append r.2 h⟩

def concP (ρ : Ren) : List APanic → List PanicEntry → Prop
  | [], [] => True
  | a :: as, b :: bs => conc ρ a.v = some b.v ∧ b.recovered = a.recovered ∧ b.goexit = false ∧ concP ρ as bs
  | _, _ => False
theorem concP.mono {ρ ρ' : Ren} (h : ρ.le ρ') : ∀ {a : List APanic} {b : List PanicEntry}, concP ρ a b → concP ρ' a b
  | [], [], _ => trivial
  | [], _ :: _, r => r.elim
  | _ :: _, [], r => r.elim
  | _ :: _, _ :: _, r => ⟨conc_mono h _ _ r.1, r.2.1, r.2.2.1, concP.mono h r.2.2.2⟩
theorem concP.append {ρ : Ren} : ∀ {a b : List APanic} {x y : List PanicEntry}, concP ρ a x → concP ρ b y → concP ρ (a ++ b) (x ++ y)
  | [], b, [], y, _, h => h
  | [], _, _ :: _, _, r, _ => r.elim
  | _ :: _, _, [], _, r, _ => r.elim
  | _ :: _, b, _ :: _, y, r, h => ⟨r.1, r.2.1, r.2.2.1, concP.append r.2.2.2 h⟩

def modeRel (ρ : Ren) : AMode → FrameMode → Prop
  | .run, m => m = .run
  | .returning, m => m = .returning
  | .panicking c, m => ∃ d, concP ρ c d ∧ m = .panicking d
theorem modeRel.mono {ρ ρ' : Ren} (h : ρ.le ρ') {a : AMode} {b : FrameMode} (r : modeRel ρ a b) : modeRel ρ' a b := by
  cases a <;> simp only [modeRel] at r ⊢ <;> first
    | exact r
    | (obtain ⟨l, h1, h2⟩ := r; exact ⟨l, h1.mono h, h2⟩)

/-! what a step leaves alone, of the blocks below a floor -/
structure KeepsB (B : Nat) (ρ : Ren) (h : AHeap) (w : World) (ρ' : Ren) (h' : AHeap) (w' : World) : Prop where
  le : ρ.le ρ'
  size : w.heap.size ≤ w'.heap.size
  same : ∀ c, c < B → (∀ b o l, h.m.get b = some o → ρ.loc b = some l → l.blk ≠ c) → w'.heap[c]? = w.heap[c]?
  img : ∀ b o l, h'.m.get b = some o → ρ'.loc b = some l → B ≤ l.blk ∨ ∃ b₀ o₀ l₀, h.m.get b₀ = some o₀ ∧ ρ.loc b₀ = some l₀ ∧ l₀.blk = l.blk
  os : w'.os = w.os
  output : w'.output = w.output
  tape : w'.tape = w.tape

theorem Keeps.toB {B : Nat} {ρ ρ' : Ren} {h h' : AHeap} {w w' : World} (k : Keeps ρ h w ρ' h' w') (hB : B ≤ w.heap.size) : KeepsB B ρ h w ρ' h' w' :=
  ⟨k.le, k.size, fun c hc hn => k.same c (Nat.lt_of_lt_of_le hc hB) hn, fun b o l hb hl => (k.img b o l hb hl).imp (Nat.le_trans hB) id, k.os, k.output, k.tape⟩
theorem KeepsB.lower {B B' : Nat} {ρ ρ' : Ren} {h h' : AHeap} {w w' : World} (k : KeepsB B ρ h w ρ' h' w') (hB : B' ≤ B) : KeepsB B' ρ h w ρ' h' w' :=
  ⟨k.le, k.size, fun c hc hn => k.same c (Nat.lt_of_lt_of_le hc hB) hn, fun b o l hb hl => (k.img b o l hb hl).imp (Nat.le_trans hB) id, k.os, k.output, k.tape⟩
theorem KeepsB.refl (B : Nat) (ρ : Ren) (h : AHeap) (w : World) : KeepsB B ρ h w ρ h w :=
  ⟨.refl _, Nat.le_refl _, fun _ _ _ => rfl, fun b o l hb hl => .inr ⟨b, o, l, hb, hl, rfl⟩, rfl, rfl, rfl⟩
theorem KeepsB.trans {B : Nat} {ρ ρ' ρ'' : Ren} {h h' h'' : AHeap} {w w' w'' : World} (a : KeepsB B ρ h w ρ' h' w') (b : KeepsB B ρ' h' w' ρ'' h'' w'') : KeepsB B ρ h w ρ'' h'' w'' := by
  refine ⟨a.le.trans b.le, Nat.le_trans a.size b.size, fun c hc hn => ?_, fun i o l hi hl => ?_, b.os.trans a.os, b.output.trans a.output, b.tape.trans a.tape⟩
  · rw [b.same c hc ?_, a.same c hc hn]
    intro i o l hi hl he
    rcases a.img i o l hi hl with h1 | ⟨b₀, o₀, l₀, h1, h2, h3⟩
    · omega
    · exact hn b₀ o₀ l₀ h1 h2 (h3.trans he)
  · rcases b.img i o l hi hl with h1 | ⟨b₀, o₀, l₀, h1, h2, h3⟩
    · exact .inl h1
    · rcases a.img b₀ o₀ l₀ h1 h2 with h4 | ⟨b₁, o₁, l₁, h4, h5, h6⟩
      · exact .inl (h3 ▸ h4)
      · exact .inr ⟨b₁, o₁, l₁, h4, h5, h6.trans h3⟩

/-! a region that draws -/
/-- a block that an early maker has made: nobody else has it -/
def Lone (ρ : Ren) (h : AHeap) (w : World) (nb : Nat) (co : Obj) : Prop :=
  w.heap[nb]? = some co ∧ ∀ b o l, h.m.get b = some o → ρ.loc b = some l → l.blk ≠ nb

/-- what an early maker of memory came to: `E`: the temporaries that it looked at; its block lies between the frame's floor and ceiling -/
structure Early (P : Program) (fl cl : Nat) (ρ : Ren) (h : AHeap) (w : World) (o : Oper) (E : Env) (v : Value) : Prop where
  is : ∃ nb co, (fl ≤ nb ∧ nb < cl) ∧ Lone ρ h w nb co ∧ ∀ h0 av h', aop P E h0 o = some (.val av h') → ∃ obj, h' = (h0.new obj).2 ∧
    ∀ ρ', ρ.le ρ' → ρ'.loc h0.next = none → objRel (ρ'.with_ h0.next ⟨nb, 0, 0⟩) ⟨nb, 0, 0⟩ obj co ∧ conc (ρ'.with_ h0.next ⟨nb, 0, 0⟩) av = some v

theorem Early.mono {B fl cl : Nat} {ρ ρ' : Ren} {h h' : AHeap} {w w' : World} (k : KeepsB B ρ h w ρ' h' w') (hB : cl ≤ B) {o : Oper} {E : Env} {v : Value} (e : Early P fl cl ρ h w o E v) : Early P fl cl ρ' h' w' o E v := by
  obtain ⟨nb, co, hb0, ⟨h1, h2⟩, h3⟩ := e
  have hlt : nb < B := Nat.lt_of_lt_of_le hb0.2 hB
  refine ⟨nb, co, hb0, ⟨(k.same nb hlt h2).trans h1, ?_⟩, fun h0 av h'' he => ?_⟩
  · intro b o l hb hl he
    rcases k.img b o l hb hl with h4 | ⟨b₀, o₀, l₀, h4, h5, h6⟩
    · omega
    · exact h2 b₀ o₀ l₀ h4 h5 (h6.trans he)
  · obtain ⟨obj, g1, g2⟩ := h3 h0 av h'' he
    exact ⟨obj, g1, fun ρ'' hle hn => g2 ρ'' (k.le.trans hle) hn⟩

theorem Early.ceil {fl cl : Nat} {ρ : Ren} {h : AHeap} {w : World} {o : Oper} {E : Env} {v : Value} (e : Early P fl cl ρ h w o E v) {cl' : Nat} (hc : w.heap.size ≤ cl') : Early P fl cl' ρ h w o E v := by
  obtain ⟨nb, co, hb0, h1, h3⟩ := e
  exact ⟨nb, co, ⟨hb0.1, Nat.lt_of_lt_of_le (Array.getElem?_eq_some_iff.1 h1.1).1 hc⟩, h1, h3⟩

/-- how the machine and the model stand in a region that draws. `listed`: what the model has done -/
structure DrawRel (P : Program) (fl cl : Nat) (ρ : Ren) (h : AHeap) (w : World) (ops : Array Oper) (n : Nat) (env : Env) (tmps : Array Value) (chain : List Nat) (acted seen : Nat) (listed : Array Bool) : Prop where
  ok : drawOk ops = true
  full : ∃ pre, drawChain ops = some (pre ++ chain) ∧ ∀ i, Nat.testBit acted i = true ↔ i ∈ pre
  lsize : listed.size = ops.size
  closed : ∀ (i : Nat) (o : Oper), ops[i]? = some o → listed.getD i false = true → ∀ e ∈ o.after, Region.binds .any e = true → listed.getD e.on false = true
  acts : ∀ i, Nat.testBit acted i = true → listed.getD i false = true
  seenQ : ∀ i, Nat.testBit seen i = true → ∃ o, ops[i]? = some o ∧ quietOp o.op = true
  doneQ : ∀ (i : Nat) (o : Oper), ops[i]? = some o → quietOp o.op = true → listed.getD i false = true → Nat.testBit seen i = true
  size : tmps.size = n
  sync : ∀ t a, env.get t = some a → (∀ (i : Nat) (o : Oper), ops[i]? = some o → o.dst = some t → (Nat.testBit seen i = true → listed.getD i false = true) ∧ (listed.getD i false = true → i ∉ chain)) →
    ∃ v, conc ρ a = some v ∧ tmps[t]? = some v
  early : ∀ (i : Nat) (o : Oper), i ∈ chain → ops[i]? = some o → listed.getD i false = true → floatOp o.op = true ∧ o.guard = none ∧ floater ops (beforeL ops.toList) o i = true ∧
    (match o.dst with
      | some d => d < n ∧ ∃ v, tmps[d]? = some v ∧ Early P fl cl ρ h w o (restr env (readsOf o)) v
      | none => ∃ v, Early P fl cl ρ h w o (restr env (readsOf o)) v)

theorem DrawRel.mono {B fl cl : Nat} {ρ ρ' : Ren} {h h' : AHeap} {w w' : World} (k : KeepsB B ρ h w ρ' h' w') (hB : cl ≤ B) {ops : Array Oper} {n : Nat} {env : Env} {tmps : Array Value} {chain : List Nat} {acted seen : Nat} {listed : Array Bool}
    (r : DrawRel P fl cl ρ h w ops n env tmps chain acted seen listed) : DrawRel P fl cl ρ' h' w' ops n env tmps chain acted seen listed := by
  refine ⟨r.ok, r.full, r.lsize, r.closed, r.acts, r.seenQ, r.doneQ, r.size, fun t a ha hs => ?_, fun i o hi ho hl => ?_⟩
  · obtain ⟨v, h1, h2⟩ := r.sync t a ha hs; exact ⟨v, conc_mono k.le _ _ h1, h2⟩
  · obtain ⟨h0, hg, hx, h1⟩ := r.early i o hi ho hl
    refine ⟨h0, hg, hx, ?_⟩
    cases hd : o.dst with
    | none => simp only [hd] at h1 ⊢; obtain ⟨v, h2⟩ := h1; exact ⟨v, h2.mono k hB⟩
    | some d => simp only [hd] at h1 ⊢; obtain ⟨h2, v, h3, h4⟩ := h1; exact ⟨h2, v, h3, h4.mono k hB⟩
theorem DrawRel.ceil {fl cl : Nat} {ρ : Ren} {h : AHeap} {w : World} {cl' : Nat} (hc : w.heap.size ≤ cl') {ops : Array Oper} {n : Nat} {env : Env} {tmps : Array Value} {chain : List Nat} {acted seen : Nat} {listed : Array Bool}
    (r : DrawRel P fl cl ρ h w ops n env tmps chain acted seen listed) : DrawRel P fl cl' ρ h w ops n env tmps chain acted seen listed := by
  refine ⟨r.ok, r.full, r.lsize, r.closed, r.acts, r.seenQ, r.doneQ, r.size, r.sync, fun i o hi ho hl => ?_⟩
  obtain ⟨h0, hg, hx, h1⟩ := r.early i o hi ho hl
  refine ⟨h0, hg, hx, ?_⟩
  cases hd : o.dst with
  | none => simp only [hd] at h1 ⊢; obtain ⟨v, h2⟩ := h1; exact ⟨v, h2.ceil hc⟩
  | some d => simp only [hd] at h1 ⊢; obtain ⟨h2, v, h3, h4⟩ := h1; exact ⟨h2, v, h3, h4.ceil hc⟩

/-- what the model still does in it -/
def leftOf (ops : Array Oper) (listed : Array Bool) (todo : List Nat) : Prop := ∃ fuel t, todo = Region.linearise.go .any ops fuel t listed [] ∧ (List.range ops.size).countP (fun i => !listed.getD i true) ≤ fuel

/-! frames -/
structure FrBase (ρ : Ren) (a : AFrame) (f : Frame) : Prop where
  fn : f.fn = a.fn
  kind : f.kind = if a.deferred then .deferred else .normal
  round : match a.roundOf with
    | none => f.roundOf = none
    | some l => ∃ lc, ρ.loc l = some lc ∧ f.roundOf = some lc.blk
  defers : concDs ρ a.defers = some f.defers
  mode : modeRel ρ a.mode f.mode

theorem FrBase.mono {ρ ρ' : Ren} (h : ρ.le ρ') {a : AFrame} {f : Frame} (r : FrBase ρ a f) : FrBase ρ' a f := by
  refine ⟨r.fn, r.kind, ?_, concDs_mono h r.defers, r.mode.mono h⟩
  have := r.round
  cases ha : a.roundOf with
  | none => simpa [ha] using this
  | some l => simp only [ha] at this ⊢; obtain ⟨lc, h1, h2⟩ := this; exact ⟨lc, h.loc _ _ h1, h2⟩

inductive FrRel (P : Program) (top : Bool) (fl cl : Nat) (ρ : Ren) (h : AHeap) (w : World) (a : AFrame) (f : Frame) : Prop where
  | plain (b : FrBase ρ a f) (env : EnvRel ρ a.n a.env f.tmps) (todo : todoRel ρ a.todo f.todo)
  /-- at the head of a region that draws -/
  | draw (ht : top = true) (hm : a.mode = .run) (b : FrBase ρ a f) (ops : Array Oper) (chain : List Nat) (acted seen : Nat) (k : List AItem) (todo : List Nat) (k' : List Item) (listed : Array Bool) (e1 : a.todo = .draw ops chain acted seen :: k) (e2 : f.todo = .inRegion ops todo :: k')
      (hk : todoRel ρ k k') (r : DrawRel P fl cl ρ h w ops a.n a.env f.tmps chain acted seen listed) (left : leftOf ops listed todo)
  /-- a call out of such a region is under way -/
  | drawn (ht : top = false) (hm : a.mode = .run) (b : FrBase ρ a f) (ops : Array Oper) (i : Nat) (chain : List Nat) (acted seen : Nat) (k : List AItem) (todo : List Nat) (k' : List Item) (listed : Array Bool) (e1 : a.todo = .draw ops (i :: chain) acted seen :: k) (e2 : f.todo = .inRegion ops (i :: todo) :: k')
      (hk : todoRel ρ k k') (r : DrawRel P fl cl ρ h w ops a.n a.env f.tmps (i :: chain) acted seen listed) (hi : listed.getD i true = false) (hp : ∀ o, ops[i]? = some o → ∀ e ∈ o.after, Region.binds .any e = true → listed.getD e.on false = true) (left : leftOf ops (listed.setIfInBounds i true) todo)

theorem FrRel.base {fl cl : Nat} {ρ : Ren} {h : AHeap} {w : World} {a : AFrame} {f : Frame} {top : Bool} (r : FrRel P top fl cl ρ h w a f) : FrBase ρ a f := by cases r <;> assumption

theorem FrRel.mono {B fl cl : Nat} {ρ ρ' : Ren} {h h' : AHeap} {w w' : World} (k : KeepsB B ρ h w ρ' h' w') (hB : cl ≤ B) {a : AFrame} {f : Frame} {top : Bool} (r : FrRel P top fl cl ρ h w a f) : FrRel P top fl cl ρ' h' w' a f := by
  cases r with
  | plain b env todo => exact .plain (b.mono k.le) (env.mono k.le) (todo.mono k.le)
  | draw ht hm b ops chain acted seen kk todo k' listed e1 e2 hk r left => exact .draw ht hm (b.mono k.le) ops chain acted seen kk todo k' listed e1 e2 (hk.mono k.le) (r.mono k hB) left
  | drawn ht hm b ops i chain acted seen kk todo k' listed e1 e2 hk r hi hp left => exact .drawn ht hm (b.mono k.le) ops i chain acted seen kk todo k' listed e1 e2 (hk.mono k.le) (r.mono k hB) hi hp left

theorem FrRel.ceil {fl cl : Nat} {ρ : Ren} {h : AHeap} {w : World} {cl' : Nat} (hc : w.heap.size ≤ cl') {a : AFrame} {f : Frame} {top : Bool} (r : FrRel P top fl cl ρ h w a f) : FrRel P top fl cl' ρ h w a f := by
  cases r with
  | plain b env todo => exact .plain b env todo
  | draw ht hm b ops chain acted seen kk todo k' listed e1 e2 hk r left => exact .draw ht hm b ops chain acted seen kk todo k' listed e1 e2 hk (r.ceil hc) left
  | drawn ht hm b ops i chain acted seen kk todo k' listed e1 e2 hk r hi hp left => exact .drawn ht hm b ops i chain acted seen kk todo k' listed e1 e2 hk (r.ceil hc) hi hp left

/-- the callers: each one's early blocks lie between its floor and the floor of who is above; `B`: the lowest floor -/
def frsRel (P : Program) (B : Nat) (ρ : Ren) (h : AHeap) (w : World) : Nat → List AFrame → List Frame → Prop
  | cl, [], [] => B ≤ cl
  | cl, a :: as, b :: bs => ∃ fl, fl ≤ cl ∧ FrRel P false fl cl ρ h w a b ∧ frsRel P B ρ h w fl as bs
  | _, _, _ => False
theorem frsRel.mono {B C : Nat} {ρ ρ' : Ren} {h h' : AHeap} {w w' : World} (k : KeepsB C ρ h w ρ' h' w') : ∀ {cl : Nat} {a : List AFrame} {b : List Frame}, cl ≤ C → frsRel P B ρ h w cl a b → frsRel P B ρ' h' w' cl a b
  | _, [], [], _, r => r
  | _, [], _ :: _, _, r => r.elim
  | _, _ :: _, [], _, r => r.elim
  | _, _ :: _, _ :: _, hc, ⟨fl, h1, h2, h3⟩ => ⟨fl, h1, h2.mono k hc, frsRel.mono k (Nat.le_trans h1 hc) h3⟩
theorem frsRel.low {B : Nat} {ρ : Ren} {h : AHeap} {w : World} : ∀ {cl : Nat} {a : List AFrame} {b : List Frame}, frsRel P B ρ h w cl a b → B ≤ cl
  | _, [], [], r => r
  | _, [], _ :: _, r => r.elim
  | _, _ :: _, [], r => r.elim
  | _, _ :: _, _ :: _, ⟨fl, h1, h2, h3⟩ => Nat.le_trans (frsRel.low h3) h1

/-- the machine and the model's lone goroutine -/
structure MRel (P : Program) (B : Nat) (ρ : Ren) (m : AM) (fr : Frame) (cs : List Frame) (w : World) : Prop where
  rel : Rel ρ m.h w
  fr : ∃ fl, fl ≤ w.heap.size ∧ FrRel P true fl w.heap.size ρ m.h w m.fr fr ∧ frsRel P B ρ m.h w fl m.cs cs

/-- one of the machine's steps is some of the model's -/
def StepOk (P : Program) (B : Nat) (base : List Frame) (ρ : Ren) (m m' : AM) (fr : Frame) (cs : List Frame) (w : World) : Prop :=
  ∃ ρ' fr' cs' w', Steps P (lone fr (cs ++ base) w) (lone fr' (cs' ++ base) w') ∧ MRel P B ρ' m' fr' cs' w' ∧ KeepsB B ρ m.h w ρ' m'.h w'

theorem EvOk.of {ρ : Ren} {env : Env} {f : Frame} (h : ∀ t a, env.get t = some a → ∃ v, conc ρ a = some v ∧ f.tmps[t]? = some v) : EvOk ρ env f.eval := by
  intro x a hx
  cases x with
  | tmp t =>
    obtain ⟨v, h1, h2⟩ := h t a hx
    exact ⟨v, h1, by simp [Frame.eval, Array.getD_eq_getD_getElem?, h2]⟩
  | const c => exact ⟨c, ofVal_conc hx, rfl⟩
  | global g => simp [evalA] at hx
  | func g => simp only [evalA, Option.some.injEq] at hx; subst hx; exact ⟨.func (.func g) #[] #[], by simp [conc, concL], rfl⟩

end Go.Abs

set_option linter.unusedSimpArgs false
set_option linter.unusedVariables false
namespace Go.Abs
variable {P : Program}

/-! who must stand ahead -/
theorem maskOf_bit (acc : List Nat) (j : Nat) : ∀ (es : List Edge), Nat.testBit (maskOf acc es) j = true ↔ ∃ e ∈ es, Region.binds .any e = true ∧ (j = e.on ∨ Nat.testBit (acc.getD e.on 0) j = true)
  | [] => by simp [maskOf]
  | e :: es => by
    unfold maskOf
    have ih := maskOf_bit acc j es
    cases hb : Region.binds .any e with
    | false =>
      simp only [ih]
      constructor
      · rintro ⟨x, h1, h2⟩; exact ⟨x, List.mem_cons_of_mem _ h1, h2⟩
      · rintro ⟨x, h1, h2, h3⟩
        rcases List.mem_cons.1 h1 with rfl | h1
        · rw [hb] at h2; cases h2
        · exact ⟨x, h1, h2, h3⟩
    | true =>
      show Nat.testBit ((2 ^ e.on ||| acc.getD e.on 0) ||| maskOf acc es) j = true ↔ _
      simp only [Nat.testBit_or, Bool.or_eq_true, ih, Nat.testBit_two_pow, decide_eq_true_eq]
      constructor
      · rintro ((h | h) | ⟨x, h1, h2⟩)
        · exact ⟨e, List.mem_cons_self, hb, .inl h.symm⟩
        · exact ⟨e, List.mem_cons_self, hb, .inr h⟩
        · exact ⟨x, List.mem_cons_of_mem _ h1, h2⟩
      · rintro ⟨x, h1, h2, h3⟩
        rcases List.mem_cons.1 h1 with rfl | h1
        · rcases h3 with h3 | h3
          · exact .inl (.inl h3.symm)
          · exact .inl (.inr h3)
        · exact .inr ⟨x, h1, h2, h3⟩

theorem beforeFrom_get : ∀ (os : List Oper) (acc : List Nat), (∀ i, i < acc.length → (beforeFrom os acc)[i]? = acc[i]?) ∧ (beforeFrom os acc).length = acc.length + os.length ∧
    ∀ (i : Nat) (o : Oper), os[i]? = some o → (beforeFrom os acc).getD (acc.length + i) 0 = maskOf ((beforeFrom os acc).take (acc.length + i)) o.after.toList
  | [], acc => ⟨fun _ _ => rfl, by simp [beforeFrom], fun i o h => by simp at h⟩
  | o :: os, acc => by
    obtain ⟨h1, h2, h3⟩ := beforeFrom_get os (acc ++ [maskOf acc o.after.toList])
    simp only [List.length_append, List.length_cons, List.length_nil, Nat.zero_add] at h1 h2 h3
    unfold beforeFrom
    refine ⟨fun i hi => ?_, by simp only [List.length_cons]; omega, fun i o' ho => ?_⟩
    · rw [h1 i (by omega), List.getElem?_append_left hi]
    · cases i with
      | zero =>
        simp only [List.getElem?_cons_zero, Option.some.injEq] at ho; subst ho
        have h4 := h1 acc.length (by omega)
        rw [List.getElem?_append_right (Nat.le_refl _)] at h4
        simp only [Nat.sub_self, List.getElem?_cons_zero] at h4
        have ht : (beforeFrom os (acc ++ [maskOf acc o.after.toList])).take acc.length = acc := by
          apply List.ext_getElem?
          intro j
          rw [List.getElem?_take]
          split
          · rename_i hj; rw [h1 j (by omega), List.getElem?_append_left hj]
          · rename_i hj; exact (List.getElem?_eq_none (by omega)).symm
        simp only [Nat.add_zero]
        rw [ht, List.getD_eq_getElem?_getD, h4]; rfl
      | succ i =>
        have := h3 i o' (by simpa using ho)
        rw [show acc.length + (i + 1) = acc.length + 1 + i by omega]; exact this

theorem has_iff (ops : Array Oper) {i : Nat} {o : Oper} (ho : ops[i]? = some o) (j : Nat) :
    has (beforeL ops.toList) i j = true ↔ ∃ e ∈ o.after, Region.binds .any e = true ∧ (j = e.on ∨ (e.on < i ∧ has (beforeL ops.toList) e.on j = true)) := by
  obtain ⟨_, h2, h3⟩ := beforeFrom_get ops.toList []
  have := h3 i o (by simpa using ho)
  simp only [List.length_nil, Nat.zero_add] at this
  unfold has beforeL
  rw [this, maskOf_bit]
  constructor
  · rintro ⟨e, h4, h5, h6⟩
    refine ⟨e, by simpa using h4, h5, ?_⟩
    rcases h6 with h6 | h6
    · exact .inl h6
    · right
      rw [List.getD_eq_getElem?_getD, List.getElem?_take] at h6
      split at h6
      · rename_i hlt; exact ⟨hlt, by rw [List.getD_eq_getElem?_getD]; exact h6⟩
      · simp at h6
  · rintro ⟨e, h4, h5, h6⟩
    refine ⟨e, by simpa using h4, h5, ?_⟩
    rcases h6 with h6 | ⟨h6, h7⟩
    · exact .inl h6
    · right
      rw [List.getD_eq_getElem?_getD, List.getElem?_take, if_pos h6, ← List.getD_eq_getElem?_getD]; exact h7

/-- a set that holds each one's edges holds all that must stand ahead -/
theorem has_closed {ops : Array Oper} {D : Nat → Prop} (hD : ∀ (i : Nat) (o : Oper), ops[i]? = some o → D i → ∀ e ∈ o.after, Region.binds .any e = true → D e.on) : ∀ (i j : Nat), D i → has (beforeL ops.toList) i j = true → D j := by
  intro i
  induction i using Nat.strongRecOn with
  | ind i ih =>
    intro j hi hj
    cases ho : ops[i]? with
    | none =>
      exfalso
      unfold has beforeL at hj
      obtain ⟨_, h2, _⟩ := beforeFrom_get ops.toList []
      rw [List.getD_eq_getElem?_getD, List.getElem?_eq_none] at hj
      · simp at hj
      · rw [h2]; simp at ho; simpa using ho
    | some o =>
      obtain ⟨e, h1, h2, h3⟩ := (has_iff ops ho j).1 hj
      have h4 := hD i o ho hi e h1 h2
      rcases h3 with rfl | ⟨h5, h6⟩
      · exact h4
      · exact ih e.on h5 j h4 h6

theorem has_preds {ops : Array Oper} {D : Nat → Prop} (hD : ∀ (i : Nat) (o : Oper), ops[i]? = some o → D i → ∀ e ∈ o.after, Region.binds .any e = true → D e.on) {i : Nat} {o : Oper} (ho : ops[i]? = some o)
    (hp : ∀ e ∈ o.after, Region.binds .any e = true → D e.on) {j : Nat} (hj : has (beforeL ops.toList) i j = true) : D j := by
  obtain ⟨e, h1, h2, h3⟩ := (has_iff ops ho j).1 hj
  rcases h3 with rfl | ⟨h5, h6⟩
  · exact hp e h1 h2
  · exact has_closed hD e.on j (hp e h1 h2) h6

/-! the static check, taken apart -/
structure DrawOk (ops : Array Oper) : Prop where
  edge : ∀ (i : Nat) (o : Oper), ops[i]? = some o → ∀ e ∈ o.after, Region.binds .any e = true → e.on < i
  guard : ∀ (i : Nat) (o : Oper), ops[i]? = some o → ∀ j b, o.guard = some (j, b) → has (beforeL ops.toList) i j = true
  own : ∀ (i : Nat) (o : Oper), ops[i]? = some o → quietOp o.op = true → ∃ t, o.dst = some t ∧ t ∉ looksOf ops o
  dst : ∀ (i j : Nat) (o p : Oper), ops[i]? = some o → ops[j]? = some p → i ≠ j → ∀ t, p.dst = some t → o.dst ≠ some t
  look : ∀ (i j : Nat) (o p : Oper), ops[i]? = some o → ops[j]? = some p → i ≠ j → ∀ t, p.dst = some t → t ∈ looksOf ops o → has (beforeL ops.toList) i j = true ∨ (quietOp p.op = false ∧ has (beforeL ops.toList) j i = true)
  chain : ∀ (i j : Nat) (o p : Oper), ops[i]? = some o → ops[j]? = some p → quietOp o.op = false → quietOp p.op = false → j < i → has (beforeL ops.toList) i j = true ∨ (floatOp o.op = true ∧ o.guard = none)
  float : ∀ (a c q : Nat) (o p : Oper), ops[a]? = some o → floatOp o.op = true → ops[c]? = some p → quietOp p.op = false → c < a → has (beforeL ops.toList) a c = false → q < ops.size → has (beforeL ops.toList) q a = true → has (beforeL ops.toList) q c = true
  one : ∀ (a b : Nat) (o p : Oper), ops[a]? = some o → ops[b]? = some p → floater ops (beforeL ops.toList) o a = true → floater ops (beforeL ops.toList) p b = true → a = b

theorem mem_zipIdx {ops : Array Oper} {i : Nat} {o : Oper} (h : ops[i]? = some o) : (o, i) ∈ ops.toList.zipIdx := by
  rw [List.mem_zipIdx_iff_getElem?]; simpa using h

theorem floatOk_all {ops : Array Oper} {bf : List Nat} {n : Nat} : ∀ {l : List (Oper × Nat)}, floatOk ops bf n l = true → ∀ x ∈ l, (if floatOp x.1.op then
      (List.range x.2).all (fun c => match ops[c]? with
        | some p => if !quietOp p.op && !has bf x.2 c then (List.range n).all (fun q => if has bf q x.2 then has bf q c else true) else true
        | none => true)
    else true) = true
  | [], h, x, hx => by cases hx
  | (o, a) :: rest, h, x, hx => by
    rw [floatOk, Bool.and_eq_true] at h
    rcases List.mem_cons.1 hx with rfl | hx
    · exact h.1
    · exact floatOk_all h.2 x hx

theorem drawOk_ok {ops : Array Oper} (h : drawOk ops = true) : DrawOk ops := by
  unfold drawOk at h
  simp only [Bool.and_eq_true] at h
  obtain ⟨⟨h1, h2⟩, hone⟩ := h
  have pr : ∀ (i j : Nat) (o p : Oper), ops[i]? = some o → ops[j]? = some p → pairOk ops (beforeL ops.toList) o i p j = true := fun i j o p hi hj => by
    have := List.all_eq_true.1 h1 _ (mem_zipIdx hi)
    simp only [Bool.and_eq_true] at this
    exact List.all_eq_true.1 this.1.1 _ (mem_zipIdx hj)
  refine ⟨?_, ?_, ?_, ?_, ?_, ?_, ?_, ?_⟩
  · intro i o hi e he hb
    have := List.all_eq_true.1 h1 _ (mem_zipIdx hi)
    simp only [Bool.and_eq_true] at this
    have := List.all_eq_true.1 this.1.2 e (by simpa using he)
    simp only [hb, Bool.not_true, Bool.false_or] at this
    exact lt_of_blt this
  · intro i o hi j b hg
    have := List.all_eq_true.1 h1 _ (mem_zipIdx hi)
    simp only [Bool.and_eq_true, hg] at this
    exact this.2
  · intro i o hi hq
    have := pr i i o o hi hi
    unfold pairOk at this
    simp only [if_true] at this
    split at this
    · rename_i t ht
      refine ⟨t, ht, ?_⟩
      simp [hq] at this
      exact this
    · simp [hq] at this
  · intro i j o p hi hj hij t ht
    have := pr i j o p hi hj
    unfold pairOk at this
    rw [if_neg hij] at this
    simp only [ht, Bool.and_eq_true, decide_eq_true_eq] at this
    exact this.1.1
  · intro i j o p hi hj hij t ht hl
    have := pr i j o p hi hj
    unfold pairOk at this
    rw [if_neg hij] at this
    simp only [ht, Bool.and_eq_true, decide_eq_true_eq] at this
    have h3 := this.1.2
    rw [if_pos (by simpa using hl)] at h3
    simpa using h3
  · intro i j o p hi hj hq hp hlt
    have := pr i j o p hi hj
    unfold pairOk at this
    rw [if_neg (by omega)] at this
    simp only [Bool.and_eq_true] at this
    have h3 := this.2
    cases hb : has (beforeL ops.toList) i j with
    | true => exact .inl rfl
    | false =>
      right
      simp [hq, hp, hb, blt_of_lt hlt] at h3
      exact h3
  · intro a c q o p ha hf hc hp hlt hb hq hqa
    have h3 := floatOk_all h2 _ (mem_zipIdx ha)
    rw [if_pos hf] at h3
    have h4 := List.all_eq_true.1 h3 c (List.mem_range.2 hlt)
    simp only [hc, hp, hb, Bool.not_false, Bool.and_self, if_true] at h4
    have h5 := List.all_eq_true.1 h4 q (List.mem_range.2 (by simpa using hq))
    rw [if_pos hqa] at h5
    exact h5
  · intro a b o p ha hb hfa hfb
    have m1 : (o, a) ∈ ops.toList.zipIdx.filter (fun x => floater ops (beforeL ops.toList) x.1 x.2) := List.mem_filter.2 ⟨mem_zipIdx ha, hfa⟩
    have m2 : (p, b) ∈ ops.toList.zipIdx.filter (fun x => floater ops (beforeL ops.toList) x.1 x.2) := List.mem_filter.2 ⟨mem_zipIdx hb, hfb⟩
    unfold oneFloat at hone
    split at hone
    · rename_i he; rw [he] at m1; cases m1
    · rename_i x he
      rw [he, List.mem_singleton] at m1 m2
      have := m1.trans m2.symm
      exact (Prod.mk.inj this).2
    · cases hone

theorem chain_mem {ops : Array Oper} {C : List Nat} (h : drawChain ops = some C) (i : Nat) : i ∈ C ↔ ∃ o, ops[i]? = some o ∧ quietOp o.op = false := by
  unfold drawChain at h
  simp only at h
  split at h <;> cases h
  rw [List.mem_filter, List.mem_range]
  constructor
  · rintro ⟨h1, h2⟩
    cases ho : ops[i]? with
    | none => simp at ho; simp at h1; omega
    | some o =>
      refine ⟨o, rfl, ?_⟩
      have : ops.toList[i]? = some o := by simpa using ho
      simp only [this] at h2; simpa using h2
  · rintro ⟨o, h1, h2⟩
    have : ops.toList[i]? = some o := by simpa using h1
    refine ⟨(List.getElem?_eq_some_iff.1 this).1, ?_⟩
    simp only [this, h2, Bool.not_false]

theorem chain_sorted {ops : Array Oper} {C : List Nat} (h : drawChain ops = some C) : C.Pairwise (· < ·) := by
  unfold drawChain at h
  simp only at h
  split at h <;> cases h
  exact List.Pairwise.filter _ List.pairwise_lt_range

theorem has_lt {ops : Array Oper} (h : DrawOk ops) : ∀ (i j : Nat), has (beforeL ops.toList) i j = true → j < i := by
  intro i
  induction i using Nat.strongRecOn with
  | ind i ih =>
    intro j hj
    cases ho : ops[i]? with
    | none =>
      exfalso
      unfold has beforeL at hj
      obtain ⟨_, h2, _⟩ := beforeFrom_get ops.toList []
      rw [List.getD_eq_getElem?_getD, List.getElem?_eq_none] at hj
      · simp at hj
      · rw [h2]; simp at ho; simpa using ho
    | some o =>
      obtain ⟨e, h1, h2, h3⟩ := (has_iff ops ho j).1 hj
      have := h.edge i o ho e h1 h2
      rcases h3 with rfl | ⟨h5, h6⟩
      · exact this
      · have := ih e.on h5 j h6; omega

end Go.Abs

set_option linter.unusedSimpArgs false
set_option linter.unusedVariables false
namespace Go.Abs
variable {P : Program} {fl cl : Nat} {ρ : Ren} {h : AHeap} {w : World}

theorem restr_get (env : Env) : ∀ (ts : List Tmp) (t : Nat), (restr env ts).get t = if t ∈ ts then env.get t else none
  | [], t => by simp [restr, PT.get_e]
  | x :: ts, t => by
    unfold restr
    split
    · rename_i v hv
      rw [PT.get_set, restr_get env ts]
      by_cases h : t = x
      · subst h; simp [hv]
      · rw [if_neg h]; simp [h]
    · rename_i hv
      rw [restr_get env ts]
      by_cases h : t = x
      · subst h; simp [hv]
      · simp [h]
theorem restr_congr {env env' : Env} : ∀ {ts : List Tmp}, (∀ t ∈ ts, env.get t = env'.get t) → restr env ts = restr env' ts
  | [], _ => rfl
  | x :: ts, h => by
    unfold restr
    rw [h x List.mem_cons_self, restr_congr fun t ht => h t (List.mem_cons_of_mem _ ht)]

theorem getD_set {listed : Array Bool} {i j : Nat} (hi : i < listed.size) (d : Bool) : (listed.setIfInBounds i true).getD j d = if j = i then true else listed.getD j d := by
  simp only [Array.getD_eq_getD_getElem?, Array.getElem?_setIfInBounds]
  by_cases h : i = j
  · subst h; simp [hi]
  · rw [if_neg h, if_neg (fun e => h e.symm)]

theorem getD_tf {listed : Array Bool} {i : Nat} (hi : listed.getD i true = false) : listed.getD i false = false ∧ i < listed.size := by
  simp only [Array.getD_eq_getD_getElem?] at hi ⊢
  cases hx : listed[i]? with
  | none => simp [hx] at hi
  | some b => simp [hx] at hi; subst hi; exact ⟨by simp, (Array.getElem?_eq_some_iff.1 hx).1⟩

theorem bit_or (a i j : Nat) : Nat.testBit (Nat.lor a (2 ^ i)) j = true ↔ Nat.testBit a j = true ∨ j = i := by
  show Nat.testBit (a ||| 2 ^ i) j = true ↔ _
  simp only [Nat.testBit_or, Bool.or_eq_true, Nat.testBit_two_pow, decide_eq_true_eq]
  constructor
  · rintro (h | h); exact .inl h; exact .inr h.symm
  · rintro (h | h); exact .inl h; exact .inr h.symm

/-- the temporary that a result goes to -/
def PutRel (n : Nat) (dst : Option Tmp) (env : Env) (tmps : Array Value) (v : AV) (cv : Value) (env' : Env) (tmps' : Array Value) : Prop :=
  match dst with
  | none => env' = env ∧ tmps' = tmps
  | some d => d < n ∧ env' = env.set d v ∧ tmps' = tmps.setIfInBounds d cv

theorem PutRel.size {n : Nat} {dst : Option Tmp} {env env' : Env} {tmps tmps' : Array Value} {v : AV} {cv : Value} (p : PutRel n dst env tmps v cv env' tmps') : tmps'.size = tmps.size := by
  unfold PutRel at p; split at p
  · rw [p.2]
  · rw [p.2.2]; simp
theorem PutRel.other {n : Nat} {dst : Option Tmp} {env env' : Env} {tmps tmps' : Array Value} {v : AV} {cv : Value} (p : PutRel n dst env tmps v cv env' tmps') {t : Nat} (ht : dst ≠ some t) : env'.get t = env.get t ∧ tmps'[t]? = tmps[t]? := by
  unfold PutRel at p; split at p
  · rw [p.1, p.2]; exact ⟨rfl, rfl⟩
  · rename_i d
    have : t ≠ d := fun e => ht (by rw [e])
    rw [p.2.1, p.2.2, PT.get_set, if_neg this, Array.getElem?_setIfInBounds, if_neg (Ne.symm this)]; exact ⟨rfl, rfl⟩

section
variable {ops : Array Oper} {n : Nat} {env : Env} {tmps : Array Value} {chain : List Nat} {acted seen : Nat} {listed : Array Bool}

theorem DrawRel.pred (r : DrawRel P fl cl ρ h w ops n env tmps chain acted seen listed) {i : Nat} {o : Oper} (ho : ops[i]? = some o) (hp : ∀ e ∈ o.after, Region.binds .any e = true → listed.getD e.on false = true) {j : Nat} (hj : has (beforeL ops.toList) i j = true) : listed.getD j false = true :=
  has_preds (D := fun j => listed.getD j false = true) r.closed ho hp hj
theorem DrawRel.down (r : DrawRel P fl cl ρ h w ops n env tmps chain acted seen listed) {i j : Nat} (hi : listed.getD i false = true) (hj : has (beforeL ops.toList) i j = true) : listed.getD j false = true :=
  has_closed (D := fun j => listed.getD j false = true) r.closed i j hi hj

theorem DrawRel.chain_not (r : DrawRel P fl cl ρ h w ops n env tmps chain acted seen listed) {i : Nat} (hi : i ∈ chain) : (∃ o, ops[i]? = some o ∧ quietOp o.op = false) ∧ ¬ Nat.testBit acted i = true := by
  obtain ⟨pre, h1, h2⟩ := r.full
  refine ⟨(chain_mem h1 i).1 (List.mem_append_right _ hi), fun ha => ?_⟩
  have hs := chain_sorted h1
  rw [List.pairwise_append] at hs
  exact absurd (hs.2.2 i ((h2 i).1 ha) i hi) (by omega)

/-- the head of the chain is done -/
theorem DrawRel.act {i : Nat} (r : DrawRel P fl cl ρ h w ops n env tmps (i :: chain) acted seen listed) (hi : listed.getD i true = false) {o : Oper} (ho : ops[i]? = some o) (hp : ∀ e ∈ o.after, Region.binds .any e = true → listed.getD e.on false = true)
    {v : AV} {cv : Value} (hv : conc ρ v = some cv) {env' : Env} {tmps' : Array Value} (hput : PutRel n o.dst env tmps v cv env' tmps') :
    DrawRel P fl cl ρ h w ops n env' tmps' chain (Nat.lor acted (2 ^ i)) seen (listed.setIfInBounds i true) := by
  obtain ⟨hif, his⟩ := getD_tf hi
  have dk := drawOk_ok r.ok
  have g := fun (j : Nat) (d : Bool) => getD_set (j := j) his d
  obtain ⟨pre, f1, f2⟩ := r.full
  have hs := chain_sorted f1
  rw [List.pairwise_append, List.pairwise_cons] at hs
  obtain ⟨⟨oi, hoi, hqi⟩, hnact⟩ := r.chain_not (i := i) List.mem_cons_self
  rw [ho] at hoi; cases hoi
  refine ⟨r.ok, ⟨pre ++ [i], by simpa using f1, fun j => ?_⟩, by simp [r.lsize], fun j p hj hl e he hb => ?_, fun j hj => ?_, r.seenQ, fun j p hj hq hl => ?_, by rw [hput.size]; exact r.size, fun t a ha hsy => ?_, fun j p hj hpj hl => ?_⟩
  · rw [bit_or, f2]; simp
  · rw [g] at hl ⊢
    split
    · rfl
    · by_cases hji : j = i
      · subst hji; rw [ho] at hj; cases hj; exact hp e he hb
      · rw [if_neg hji] at hl; exact r.closed j p hj hl e he hb
  · rw [g]
    split
    · rfl
    · rename_i hne; exact r.acts j (((bit_or _ _ _).1 hj).resolve_right hne)
  · rw [g] at hl
    by_cases hji : j = i
    · subst hji; rw [ho] at hj; cases hj; rw [hqi] at hq; cases hq
    · rw [if_neg hji] at hl; exact r.doneQ j p hj hq hl
  · by_cases ht : o.dst = some t
    · unfold PutRel at hput
      rw [ht] at hput
      obtain ⟨hd, rfl, rfl⟩ := hput
      rw [PT.get_set, if_pos rfl] at ha; cases ha
      exact ⟨cv, hv, by rw [Array.getElem?_setIfInBounds]; simp [r.size, hd]⟩
    · obtain ⟨e1, e2⟩ := hput.other ht
      rw [e1] at ha; rw [e2]
      refine r.sync t a ha fun j p hj hd => ?_
      have hji : j ≠ i := by rintro rfl; rw [ho] at hj; cases hj; exact ht hd
      have := hsy j p hj hd
      rw [g, if_neg hji] at this
      exact ⟨this.1, fun hl => by simp only [List.mem_cons, not_or]; exact ⟨hji, this.2 hl⟩⟩
  · have hlt : i < j := hs.2.1.1 j hj
    rw [g, if_neg (by omega)] at hl
    obtain ⟨h0, hgd, hfl, h1⟩ := r.early j p (List.mem_cons_of_mem _ hj) hpj hl
    refine ⟨h0, hgd, hfl, ?_⟩
    have hre : restr env' (readsOf p) = restr env (readsOf p) := by
      refine restr_congr fun t ht => ?_
      by_cases hdt : o.dst = some t
      · exfalso
        rcases dk.look j i p o hpj ho (by omega) t hdt (List.mem_append_right _ ht) with h2 | ⟨_, h2⟩
        · rw [r.down hl h2] at hif; cases hif
        · have := has_lt dk _ _ h2; omega
      · exact (hput.other hdt).1
    rw [hre]
    cases hd : p.dst with
    | none => simpa [hd] using h1
    | some d =>
      simp only [hd] at h1 ⊢
      obtain ⟨h2, v', h3, h4⟩ := h1
      have hne : o.dst ≠ some d := dk.dst i j o p ho hpj (by omega) d hd
      exact ⟨h2, v', by rw [(hput.other hne).2]; exact h3, h4⟩

/-- a quiet one is done: it comes to what was looked at -/
theorem DrawRel.quiet (r : DrawRel P fl cl ρ h w ops n env tmps chain acted seen listed) {i : Nat} (hi : listed.getD i true = false) {o : Oper} (ho : ops[i]? = some o) (hq : quietOp o.op = true) (hsn : Nat.testBit seen i = true)
    (hp : ∀ e ∈ o.after, Region.binds .any e = true → listed.getD e.on false = true)
    {d : Tmp} (hd : o.dst = some d) (hdn : d < n) {v : AV} (hev : env.get d = some v) {cv : Value} (hv : conc ρ v = some cv) :
    DrawRel P fl cl ρ h w ops n env (tmps.setIfInBounds d cv) chain acted seen (listed.setIfInBounds i true) := by
  obtain ⟨hif, his⟩ := getD_tf hi
  have dk := drawOk_ok r.ok
  have g := fun (j : Nat) (d : Bool) => getD_set (j := j) his d
  have hnc : i ∉ chain := fun hc => by
    obtain ⟨⟨oi, hoi, hqi⟩, _⟩ := r.chain_not hc
    rw [ho] at hoi; cases hoi; rw [hq] at hqi; cases hqi
  refine ⟨r.ok, r.full, by simp [r.lsize], fun j p hj hl e he hb => ?_, fun j hj => ?_, r.seenQ, fun j p hj hq' hl => ?_, by simp [r.size], fun t a ha hsy => ?_, fun j p hj hpj hl => ?_⟩
  · rw [g] at hl ⊢
    split
    · rfl
    · by_cases hji : j = i
      · subst hji; rw [ho] at hj; cases hj; exact hp e he hb
      · rw [if_neg hji] at hl; exact r.closed j p hj hl e he hb
  · rw [g]; split
    · rfl
    · exact r.acts j hj
  · rw [g] at hl
    by_cases hji : j = i
    · subst hji; exact hsn
    · rw [if_neg hji] at hl; exact r.doneQ j p hj hq' hl
  · by_cases ht : t = d
    · subst ht
      rw [hev] at ha; cases ha
      exact ⟨cv, hv, by rw [Array.getElem?_setIfInBounds]; simp [r.size, hdn]⟩
    · rw [Array.getElem?_setIfInBounds, if_neg (Ne.symm ht)]
      refine r.sync t a ha fun j p hj hdj => ?_
      have hji : j ≠ i := by rintro rfl; rw [ho] at hj; cases hj; rw [hd] at hdj; cases hdj; exact ht rfl
      have := hsy j p hj hdj
      rw [g, if_neg hji] at this
      exact this
  · have hji : j ≠ i := by rintro rfl; exact hnc hj
    rw [g, if_neg hji] at hl
    obtain ⟨h0, hgd, hfl, h1⟩ := r.early j p hj hpj hl
    refine ⟨h0, hgd, hfl, ?_⟩
    cases hdj : p.dst with
    | none => simpa [hdj] using h1
    | some d' =>
      simp only [hdj] at h1 ⊢
      obtain ⟨h2, v', h3, h4⟩ := h1
      have hne : o.dst ≠ some d' := dk.dst i j o p ho hpj (Ne.symm hji) d' hdj
      refine ⟨h2, v', ?_, h4⟩
      rw [Array.getElem?_setIfInBounds, if_neg (by rintro rfl; exact hne hd)]; exact h3

end
end Go.Abs

