/- A machine in plain words for the model, each of its steps some steps of the model. -/
import Derived.Test.YtnpcbokncacbjaaGreatTAc
import Derived.Control
import Derived.Orders
set_option linter.all false
set_option linter.unusedSimpArgs false
set_option linter.unusedVariables false
namespace Go.Abs
variable {P : Program}

/-! items, modes -/
def itemRel (ρ : Ren) : AItem → Item → Prop
  | .code c, it => it = .code c
  | .inBlock i, it => it = .inBlock i
  | .inLoop b, it => it = .inLoop b
  | .inScope b, it => it = .inScope b
  | .inRegion ops todo, it => it = .inRegion ops todo
  | .draw _ _ _ _, _ => False
  | .inRangeFunc l, it => ∃ lc, ρ.loc l = some lc ∧ it = .inRangeFunc lc.blk
  | .endRangeFunc l, it => ∃ lc, ρ.loc l = some lc ∧ it = .endRangeFunc lc.blk
  | .beginRound, it => it = .beginRound

def todoRel (ρ : Ren) : List AItem → List Item → Prop
  | [], [] => True
  | a :: as, b :: bs => itemRel ρ a b ∧ todoRel ρ as bs
  | _, _ => False

theorem itemRel.mono {ρ ρ' : Ren} (h : ρ.le ρ') {a : AItem} {b : Item} (r : itemRel ρ a b) : itemRel ρ' a b := by
  cases a <;> simp only [itemRel] at r ⊢ <;> first
    | exact r
    | (obtain ⟨l, h1, h2⟩ := r; exact ⟨l, h.loc _ _ h1, h2⟩)
theorem todoRel.mono {ρ ρ' : Ren} (h : ρ.le ρ') : ∀ {a : List AItem} {b : List Item}, todoRel ρ a b → todoRel ρ' a b
  | [], [], _ => trivial
  | [], _ :: _, r => r.elim
  | _ :: _, [], r => r.elim
  | _ :: _, _ :: _, r => ⟨r.1.mono h, todoRel.mono h r.2⟩
theorem todoRel.append {ρ : Ren} : ∀ {a b : List AItem} {x y : List Item}, todoRel ρ a x → todoRel ρ b y → todoRel ρ (a ++ b) (x ++ y)
  | [], b, [], y, _, h => h
  | [], _, _ :: _, _, r, _ => r.elim
  | _ :: _, _, [], _, r, _ => r.elim
  | _ :: _, b, _ :: _, y, r, h => ⟨r.1, todoRel.append r.2 h⟩

def concP (ρ : Ren) : List APanic → List PanicEntry → Prop
  | [], [] => True
  | a :: as, b :: bs => conc ρ a.v = some b.v ∧ b.recovered = a.recovered ∧ b.goexit = false ∧ concP ρ as bs
  | _, _ => False
theorem concP.mono {ρ ρ' : Ren} (h : ρ.le ρ') : ∀ {a : List APanic} {b : List PanicEntry}, concP ρ a b → concP ρ' a b
  | [], [], _ => trivial
  | [], _ :: _, r => r.elim
  | _ :: _, [], r => r.elim
  | _ :: _, _ :: _, r => ⟨conc_mono h _ _ r.1, r.2.1, r.2.2.1, concP.mono h r.2.2.2⟩
theorem concP.append {ρ : Ren} : ∀ {a b : List APanic} {x y : List PanicEntry}, concP ρ a x → concP ρ b y → concP ρ (a ++ b) (x ++ y)
  | [], b, [], y, _, h => h
  | [], _, _ :: _, _, r, _ => r.elim
  | _ :: _, _, [], _, r, _ => r.elim
  | _ :: _, b, _ :: _, y, r, h => ⟨r.1, r.2.1, r.2.2.1, concP.append r.2.2.2 h⟩

def modeRel (ρ : Ren) : AMode → FrameMode → Prop
  | .run, m => m = .run
  | .returning, m => m = .returning
  | .panicking c, m => ∃ d, concP ρ c d ∧ m = .panicking d
theorem modeRel.mono {ρ ρ' : Ren} (h : ρ.le ρ') {a : AMode} {b : FrameMode} (r : modeRel ρ a b) : modeRel ρ' a b := by
  cases a <;> simp only [modeRel] at r ⊢ <;> first
    | exact r
    | (obtain ⟨l, h1, h2⟩ := r; exact ⟨l, h1.mono h, h2⟩)

/-! what a step leaves alone, of the blocks below a floor -/
structure KeepsB (B : Nat) (ρ : Ren) (h : AHeap) (w : World) (ρ' : Ren) (h' : AHeap) (w' : World) : Prop where
  le : ρ.le ρ'
  size : w.heap.size ≤ w'.heap.size
  same : ∀ c, c < B → (∀ b o l, h.m.get b = some o → ρ.loc b = some l → l.blk ≠ c) → w'.heap[c]? = w.heap[c]?
  img : ∀ b o l, h'.m.get b = some o → ρ'.loc b = some l → B ≤ l.blk ∨ ∃ b₀ o₀ l₀, h.m.get b₀ = some o₀ ∧ ρ.loc b₀ = some l₀ ∧ l₀.blk = l.blk
  os : w'.os = w.os
  output : w'.output = w.output
  tape : w'.tape = w.tape

theorem Keeps.toB {B : Nat} {ρ ρ' : Ren} {h h' : AHeap} {w w' : World} (k : Keeps ρ h w ρ' h' w') (hB : B ≤ w.heap.size) : KeepsB B ρ h w ρ' h' w' :=
  ⟨k.le, k.size, fun c hc hn => k.same c (Nat.lt_of_lt_of_le hc hB) hn, fun b o l hb hl => (k.img b o l hb hl).imp (Nat.le_trans hB) id, k.os, k.output, k.tape⟩
theorem KeepsB.lower {B B' : Nat} {ρ ρ' : Ren} {h h' : AHeap} {w w' : World} (k : KeepsB B ρ h w ρ' h' w') (hB : B' ≤ B) : KeepsB B' ρ h w ρ' h' w' :=
  ⟨k.le, k.size, fun c hc hn => k.same c (Nat.lt_of_lt_of_le hc hB) hn, fun b o l hb hl => (k.img b o l hb hl).imp (Nat.le_trans hB) id, k.os, k.output, k.tape⟩
theorem KeepsB.refl (B : Nat) (ρ : Ren) (h : AHeap) (w : World) : KeepsB B ρ h w ρ h w :=
  ⟨.refl _, Nat.le_refl _, fun _ _ _ => rfl, fun b o l hb hl => .inr ⟨b, o, l, hb, hl, rfl⟩, rfl, rfl, rfl⟩
theorem KeepsB.trans {B : Nat} {ρ ρ' ρ'' : Ren} {h h' h'' : AHeap} {w w' w'' : World} (a : KeepsB B ρ h w ρ' h' w') (b : KeepsB B ρ' h' w' ρ'' h'' w'') : KeepsB B ρ h w ρ'' h'' w'' := by
  refine ⟨a.le.trans b.le, Nat.le_trans a.size b.size, fun c hc hn => ?_, fun i o l hi hl => ?_, b.os.trans a.os, b.output.trans a.output, b.tape.trans a.tape⟩
  · rw [b.same c hc ?_, a.same c hc hn]
    intro i o l hi hl he
    rcases a.img i o l hi hl with h1 | ⟨b₀, o₀, l₀, h1, h2, h3⟩
    · omega
    · exact hn b₀ o₀ l₀ h1 h2 (h3.trans he)
  · rcases b.img i o l hi hl with h1 | ⟨b₀, o₀, l₀, h1, h2, h3⟩
    · exact .inl h1
    · rcases a.img b₀ o₀ l₀ h1 h2 with h4 | ⟨b₁, o₁, l₁, h4, h5, h6⟩
      · exact .inl (h3 ▸ h4)
      · exact .inr ⟨b₁, o₁, l₁, h4, h5, h6.trans h3⟩

/-! a region that draws -/
/-- a block that an early maker has made: nobody else has it -/
def Lone (ρ : Ren) (h : AHeap) (w : World) (nb : Nat) (co : Obj) : Prop :=
  w.heap[nb]? = some co ∧ ∀ b o l, h.m.get b = some o → ρ.loc b = some l → l.blk ≠ nb

/-- what an early maker of memory came to: `E`: the temporaries that it looked at; its block lies between the frame's floor and ceiling -/
structure Early (P : Program) (fl cl : Nat) (ρ : Ren) (h : AHeap) (w : World) (o : Oper) (E : Env) (v : Value) : Prop where
  is : ∃ nb co, (fl ≤ nb ∧ nb < cl) ∧ Lone ρ h w nb co ∧ ∀ h0 av h', aop P E h0 o = some (.val av h') → ∃ obj, h' = (h0.new obj).2 ∧
    ∀ ρ', ρ.le ρ' → ρ'.loc h0.next = none → objRel (ρ'.with_ h0.next ⟨nb, 0, 0⟩) ⟨nb, 0, 0⟩ obj co ∧ conc (ρ'.with_ h0.next ⟨nb, 0, 0⟩) av = some v

theorem Early.mono {B fl cl : Nat} {ρ ρ' : Ren} {h h' : AHeap} {w w' : World} (k : KeepsB B ρ h w ρ' h' w') (hB : cl ≤ B) {o : Oper} {E : Env} {v : Value} (e : Early P fl cl ρ h w o E v) : Early P fl cl ρ' h' w' o E v := by
  obtain ⟨nb, co, hb0, ⟨h1, h2⟩, h3⟩ := e
  have hlt : nb < B := Nat.lt_of_lt_of_le hb0.2 hB
  refine ⟨nb, co, hb0, ⟨(k.same nb hlt h2).trans h1, ?_⟩, fun h0 av h'' he => ?_⟩
  · intro b o l hb hl he
    rcases k.img b o l hb hl with h4 | ⟨b₀, o₀, l₀, h4, h5, h6⟩
    · omega
    · exact h2 b₀ o₀ l₀ h4 h5 (h6.trans he)
  · obtain ⟨obj, g1, g2⟩ := h3 h0 av h'' he
    exact ⟨obj, g1, fun ρ'' hle hn => g2 ρ'' (k.le.trans hle) hn⟩

theorem Early.ceil {fl cl : Nat} {ρ : Ren} {h : AHeap} {w : World} {o : Oper} {E : Env} {v : Value} (e : Early P fl cl ρ h w o E v) {cl' : Nat} (hc : w.heap.size ≤ cl') : Early P fl cl' ρ h w o E v := by
  obtain ⟨nb, co, hb0, h1, h3⟩ := e
  exact ⟨nb, co, ⟨hb0.1, Nat.lt_of_lt_of_le (Array.getElem?_eq_some_iff.1 h1.1).1 hc⟩, h1, h3⟩

/-- how the machine and the model stand in a region that draws. `listed`: what the model has done -/
structure DrawRel (P : Program) (fl cl : Nat) (ρ : Ren) (h : AHeap) (w : World) (ops : Array Oper) (n : Nat) (env : Env) (tmps : Array Value) (chain : List Nat) (acted seen : Nat) (listed : Array Bool) : Prop where
  ok : drawOk ops = true
  full : ∃ pre, drawChain ops = some (pre ++ chain) ∧ ∀ i, Nat.testBit acted i = true ↔ i ∈ pre
  lsize : listed.size = ops.size
  closed : ∀ (i : Nat) (o : Oper), ops[i]? = some o → listed.getD i false = true → ∀ e ∈ o.after, Region.binds .any e = true → listed.getD e.on false = true
  acts : ∀ i, Nat.testBit acted i = true → listed.getD i false = true
  seenQ : ∀ i, Nat.testBit seen i = true → ∃ o, ops[i]? = some o ∧ quietOp o.op = true
  doneQ : ∀ (i : Nat) (o : Oper), ops[i]? = some o → quietOp o.op = true → listed.getD i false = true → Nat.testBit seen i = true
  size : tmps.size = n
  sync : ∀ t a, env.get t = some a → (∀ (i : Nat) (o : Oper), ops[i]? = some o → o.dst = some t → (Nat.testBit seen i = true → listed.getD i false = true) ∧ (listed.getD i false = true → i ∉ chain)) →
    ∃ v, conc ρ a = some v ∧ tmps[t]? = some v
  early : ∀ (i : Nat) (o : Oper), i ∈ chain → ops[i]? = some o → listed.getD i false = true → floatOp o.op = true ∧ o.guard = none ∧ floater ops (beforeL ops.toList) o i = true ∧
    (match o.dst with
      | some d => d < n ∧ ∃ v, tmps[d]? = some v ∧ Early P fl cl ρ h w o (restr env (readsOf o)) v
      | none => ∃ v, Early P fl cl ρ h w o (restr env (readsOf o)) v)

theorem DrawRel.mono {B fl cl : Nat} {ρ ρ' : Ren} {h h' : AHeap} {w w' : World} (k : KeepsB B ρ h w ρ' h' w') (hB : cl ≤ B) {ops : Array Oper} {n : Nat} {env : Env} {tmps : Array Value} {chain : List Nat} {acted seen : Nat} {listed : Array Bool}
    (r : DrawRel P fl cl ρ h w ops n env tmps chain acted seen listed) : DrawRel P fl cl ρ' h' w' ops n env tmps chain acted seen listed := by
  refine ⟨r.ok, r.full, r.lsize, r.closed, r.acts, r.seenQ, r.doneQ, r.size, fun t a ha hs => ?_, fun i o hi ho hl => ?_⟩
  · obtain ⟨v, h1, h2⟩ := r.sync t a ha hs; exact ⟨v, conc_mono k.le _ _ h1, h2⟩
  · obtain ⟨h0, hg, hx, h1⟩ := r.early i o hi ho hl
    refine ⟨h0, hg, hx, ?_⟩
    cases hd : o.dst with
    | none => simp only [hd] at h1 ⊢; obtain ⟨v, h2⟩ := h1; exact ⟨v, h2.mono k hB⟩
    | some d => simp only [hd] at h1 ⊢; obtain ⟨h2, v, h3, h4⟩ := h1; exact ⟨h2, v, h3, h4.mono k hB⟩
theorem DrawRel.ceil {fl cl : Nat} {ρ : Ren} {h : AHeap} {w : World} {cl' : Nat} (hc : w.heap.size ≤ cl') {ops : Array Oper} {n : Nat} {env : Env} {tmps : Array Value} {chain : List Nat} {acted seen : Nat} {listed : Array Bool}
    (r : DrawRel P fl cl ρ h w ops n env tmps chain acted seen listed) : DrawRel P fl cl' ρ h w ops n env tmps chain acted seen listed := by
  refine ⟨r.ok, r.full, r.lsize, r.closed, r.acts, r.seenQ, r.doneQ, r.size, r.sync, fun i o hi ho hl => ?_⟩
  obtain ⟨h0, hg, hx, h1⟩ := r.early i o hi ho hl
  refine ⟨h0, hg, hx, ?_⟩
  cases hd : o.dst with
  | none => simp only [hd] at h1 ⊢; obtain ⟨v, h2⟩ := h1; exact ⟨v, h2.ceil hc⟩
  | some d => simp only [hd] at h1 ⊢; obtain ⟨h2, v, h3, h4⟩ := h1; exact ⟨h2, v, h3, h4.ceil hc⟩

/-- what the model still does in it -/
def leftOf (ops : Array Oper) (listed : Array Bool) (todo : List Nat) : Prop := ∃ fuel t, todo = Region.linearise.go .any ops fuel t listed [] ∧ (List.range ops.size).countP (fun i => !listed.getD i true) ≤ fuel

/-! frames -/
structure FrBase (ρ : Ren) (a : AFrame) (f : Frame) : Prop where
  fn : f.fn = a.fn
  kind : f.kind = if a.deferred then .deferred else .normal
  round : match a.roundOf with
    | none => f.roundOf = none
    | some l => ∃ lc, ρ.loc l = some lc ∧ f.roundOf = some lc.blk
  defers : concDs ρ a.defers = some f.defers
  mode : modeRel ρ a.mode f.mode

theorem FrBase.mono {ρ ρ' : Ren} (h : ρ.le ρ') {a : AFrame} {f : Frame} (r : FrBase ρ a f) : FrBase ρ' a f := by
  refine ⟨r.fn, r.kind, ?_, concDs_mono h r.defers, r.mode.mono h⟩
  have := r.round
  cases ha : a.roundOf with
  | none => simpa [ha] using this
  | some l => simp only [ha] at this ⊢; obtain ⟨lc, h1, h2⟩ := this; exact ⟨lc, h.loc _ _ h1, h2⟩

inductive FrRel (P : Program) (top : Bool) (fl cl : Nat) (ρ : Ren) (h : AHeap) (w : World) (a : AFrame) (f : Frame) : Prop where
  | plain (b : FrBase ρ a f) (env : EnvRel ρ a.n a.env f.tmps) (todo : todoRel ρ a.todo f.todo)
  /-- at the head of a region that draws -/
  | draw (ht : top = true) (hm : a.mode = .run) (b : FrBase ρ a f) (ops : Array Oper) (chain : List Nat) (acted seen : Nat) (k : List AItem) (todo : List Nat) (k' : List Item) (listed : Array Bool) (e1 : a.todo = .draw ops chain acted seen :: k) (e2 : f.todo = .inRegion ops todo :: k')
      (hk : todoRel ρ k k') (r : DrawRel P fl cl ρ h w ops a.n a.env f.tmps chain acted seen listed) (left : leftOf ops listed todo)
  /-- a call out of such a region is under way -/
  | drawn (ht : top = false) (hm : a.mode = .run) (b : FrBase ρ a f) (ops : Array Oper) (i : Nat) (chain : List Nat) (acted seen : Nat) (k : List AItem) (todo : List Nat) (k' : List Item) (listed : Array Bool) (e1 : a.todo = .draw ops (i :: chain) acted seen :: k) (e2 : f.todo = .inRegion ops (i :: todo) :: k')
      (hk : todoRel ρ k k') (r : DrawRel P fl cl ρ h w ops a.n a.env f.tmps (i :: chain) acted seen listed) (hi : listed.getD i true = false) (hp : ∀ o, ops[i]? = some o → ∀ e ∈ o.after, Region.binds .any e = true → listed.getD e.on false = true) (left : leftOf ops (listed.setIfInBounds i true) todo)

theorem FrRel.base {fl cl : Nat} {ρ : Ren} {h : AHeap} {w : World} {a : AFrame} {f : Frame} {top : Bool} (r : FrRel P top fl cl ρ h w a f) : FrBase ρ a f := by cases r <;> assumption

theorem FrRel.mono {B fl cl : Nat} {ρ ρ' : Ren} {h h' : AHeap} {w w' : World} (k : KeepsB B ρ h w ρ' h' w') (hB : cl ≤ B) {a : AFrame} {f : Frame} {top : Bool} (r : FrRel P top fl cl ρ h w a f) : FrRel P top fl cl ρ' h' w' a f := by
  cases r with
  | plain b env todo => exact .plain (b.mono k.le) (env.mono k.le) (todo.mono k.le)
  | draw ht hm b ops chain acted seen kk todo k' listed e1 e2 hk r left => exact .draw ht hm (b.mono k.le) ops chain acted seen kk todo k' listed e1 e2 (hk.mono k.le) (r.mono k hB) left
  | drawn ht hm b ops i chain acted seen kk todo k' listed e1 e2 hk r hi hp left => exact .drawn ht hm (b.mono k.le) ops i chain acted seen kk todo k' listed e1 e2 (hk.mono k.le) (r.mono k hB) hi hp left

theorem FrRel.ceil {fl cl : Nat} {ρ : Ren} {h : AHeap} {w : World} {cl' : Nat} (hc : w.heap.size ≤ cl') {a : AFrame} {f : Frame} {top : Bool} (r : FrRel P top fl cl ρ h w a f) : FrRel P top fl cl' ρ h w a f := by
  cases r with
  | plain b env todo => exact .plain b env todo
  | draw ht hm b ops chain acted seen kk todo k' listed e1 e2 hk r left => exact .draw ht hm b ops chain acted seen kk todo k' listed e1 e2 hk (r.ceil hc) left
  | drawn ht hm b ops i chain acted seen kk todo k' listed e1 e2 hk r hi hp left => exact .drawn ht hm b ops i chain acted seen kk todo k' listed e1 e2 hk (r.ceil hc) hi hp left

/-- the callers: each one's early blocks lie between its floor and the floor of who is above; `B`: the lowest floor -/
def frsRel (P : Program) (B : Nat) (ρ : Ren) (h : AHeap) (w : World) : Nat → List AFrame → List Frame → Prop
  | cl, [], [] => B ≤ cl
  | cl, a :: as, b :: bs => ∃ fl, fl ≤ cl ∧ FrRel P false fl cl ρ h w a b ∧ frsRel P B ρ h w fl as bs
  | _, _, _ => False
theorem frsRel.mono {B C : Nat} {ρ ρ' : Ren} {h h' : AHeap} {w w' : World} (k : KeepsB C ρ h w ρ' h' w') : ∀ {cl : Nat} {a : List AFrame} {b : List Frame}, cl ≤ C → frsRel P B ρ h w cl a b → frsRel P B ρ' h' w' cl a b
  | _, [], [], _, r => r
  | _, [], _ :: _, _, r => r.elim
  | _, _ :: _, [], _, r => r.elim
  | _, _ :: _, _ :: _, hc, ⟨fl, h1, h2, h3⟩ => ⟨fl, h1, h2.mono k hc, frsRel.mono k (Nat.le_trans h1 hc) h3⟩
theorem frsRel.low {B : Nat} {ρ : Ren} {h : AHeap} {w : World} : ∀ {cl : Nat} {a : List AFrame} {b : List Frame}, frsRel P B ρ h w cl a b → B ≤ cl
  | _, [], [], r => r
  | _, [], _ :: _, r => r.elim
  | _, _ :: _, [], r => r.elim
  | _, _ :: _, _ :: _, ⟨fl, h1, h2, h3⟩ => Nat.le_trans (frsRel.low h3) h1

/-- the machine and the model's lone goroutine -/
structure MRel (P : Program) (B : Nat) (ρ : Ren) (m : AM) (fr : Frame) (cs : List Frame) (w : World) : Prop where
  rel : Rel ρ m.h w
  fr : ∃ fl, fl ≤ w.heap.size ∧ FrRel P true fl w.heap.size ρ m.h w m.fr fr ∧ frsRel P B ρ m.h w fl m.cs cs

/-- one of the machine's steps is some of the model's -/
def StepOk (P : Program) (B : Nat) (base : List Frame) (ρ : Ren) (m m' : AM) (fr : Frame) (cs : List Frame) (w : World) : Prop :=
  ∃ ρ' fr' cs' w', Steps P (lone fr (cs ++ base) w) (lone fr' (cs' ++ base) w') ∧ MRel P B ρ' m' fr' cs' w' ∧ KeepsB B ρ m.h w ρ' m'.h w'

theorem EvOk.of {ρ : Ren} {env : Env} {f : Frame} (h : ∀ t a, env.get t = some a → ∃ v, conc ρ a = some v ∧ f.tmps[t]? = some v) : EvOk ρ env f.eval := by
  intro x a hx
  cases x with
  | tmp t =>
    obtain ⟨v, h1, h2⟩ := h t a hx
    exact ⟨v, h1, by simp [Frame.eval, Array.getD_eq_getD_getElem?, h2]⟩
  | const c => exact ⟨c, ofVal_conc hx, rfl⟩
  | global g => simp [evalA] at hx
  | func g => simp only [evalA, Option.some.injEq] at hx; subst hx; exact ⟨.func (.func g) #[] #[], by simp [conc, concL], rfl⟩

end Go.Abs

set_option linter.unusedSimpArgs false
set_option linter.unusedVariables false
namespace Go.Abs
variable {P : Program}

/-! who must stand ahead -/
theorem maskOf_bit (acc : List Nat) (j : Nat) : ∀ (es : List Edge), Nat.testBit (maskOf acc es) j = true ↔ ∃ e ∈ es, Region.binds .any e = true ∧ (j = e.on ∨ Nat.testBit (acc.getD e.on 0) j = true)
  | [] => by simp [maskOf]
  | e :: es => by
    unfold maskOf
    have ih := maskOf_bit acc j es
    cases hb : Region.binds .any e with
    | false =>
      simp only [ih]
      constructor
      · rintro ⟨x, h1, h2⟩; exact ⟨x, List.mem_cons_of_mem _ h1, h2⟩
      · rintro ⟨x, h1, h2, h3⟩
        rcases List.mem_cons.1 h1 with rfl | h1
        · rw [hb] at h2; cases h2
        · exact ⟨x, h1, h2, h3⟩
    | true =>
      show Nat.testBit ((2 ^ e.on ||| acc.getD e.on 0) ||| maskOf acc es) j = true ↔ _
      simp only [Nat.testBit_or, Bool.or_eq_true, ih, Nat.testBit_two_pow, decide_eq_true_eq]
      constructor
      · rintro ((h | h) | ⟨x, h1, h2⟩)
        · exact ⟨e, List.mem_cons_self, hb, .inl h.symm⟩
        · exact ⟨e, List.mem_cons_self, hb, .inr h⟩
        · exact ⟨x, List.mem_cons_of_mem _ h1, h2⟩
      · rintro ⟨x, h1, h2, h3⟩
        rcases List.mem_cons.1 h1 with rfl | h1
        · rcases h3 with h3 | h3
          · exact .inl (.inl h3.symm)
          · exact .inl (.inr h3)
        · exact .inr ⟨x, h1, h2, h3⟩

theorem beforeFrom_get : ∀ (os : List Oper) (acc : List Nat), (∀ i, i < acc.length → (beforeFrom os acc)[i]? = acc[i]?) ∧ (beforeFrom os acc).length = acc.length + os.length ∧
    ∀ (i : Nat) (o : Oper), os[i]? = some o → (beforeFrom os acc).getD (acc.length + i) 0 = maskOf ((beforeFrom os acc).take (acc.length + i)) o.after.toList
  | [], acc => ⟨fun _ _ => rfl, by simp [beforeFrom], fun i o h => by simp at h⟩
  | o :: os, acc => by
    obtain ⟨h1, h2, h3⟩ := beforeFrom_get os (acc ++ [maskOf acc o.after.toList])
    simp only [List.length_append, List.length_cons, List.length_nil, Nat.zero_add] at h1 h2 h3
    unfold beforeFrom
    refine ⟨fun i hi => ?_, by simp only [List.length_cons]; omega, fun i o' ho => ?_⟩
    · rw [h1 i (by omega), List.getElem?_append_left hi]
    · cases i with
      | zero =>
        simp only [List.getElem?_cons_zero, Option.some.injEq] at ho; subst ho
        have h4 := h1 acc.length (by omega)
        rw [List.getElem?_append_right (Nat.le_refl _)] at h4
        simp only [Nat.sub_self, List.getElem?_cons_zero] at h4
        have ht : (beforeFrom os (acc ++ [maskOf acc o.after.toList])).take acc.length = acc := by
          apply List.ext_getElem?
          intro j
          rw [List.getElem?_take]
          split
          · rename_i hj; rw [h1 j (by omega), List.getElem?_append_left hj]
          · rename_i hj; exact (List.getElem?_eq_none (by omega)).symm
        simp only [Nat.add_zero]
        rw [ht, List.getD_eq_getElem?_getD, h4]; rfl
      | succ i =>
        have := h3 i o' (by simpa using ho)
        rw [show acc.length + (i + 1) = acc.length + 1 + i by omega]; exact this

theorem has_iff (ops : Array Oper) {i : Nat} {o : Oper} (ho : ops[i]? = some o) (j : Nat) :
    has (beforeL ops.toList) i j = true ↔ ∃ e ∈ o.after, Region.binds .any e = true ∧ (j = e.on ∨ (e.on < i ∧ has (beforeL ops.toList) e.on j = true)) := by
  obtain ⟨_, h2, h3⟩ := beforeFrom_get ops.toList []
  have := h3 i o (by simpa using ho)
  simp only [List.length_nil, Nat.zero_add] at this
  unfold has beforeL
  rw [this, maskOf_bit]
  constructor
  · rintro ⟨e, h4, h5, h6⟩
    refine ⟨e, by simpa using h4, h5, ?_⟩
    rcases h6 with h6 | h6
    · exact .inl h6
    · right
      rw [List.getD_eq_getElem?_getD, List.getElem?_take] at h6
      split at h6
      · rename_i hlt; exact ⟨hlt, by rw [List.getD_eq_getElem?_getD]; exact h6⟩
      · simp at h6
  · rintro ⟨e, h4, h5, h6⟩
    refine ⟨e, by simpa using h4, h5, ?_⟩
    rcases h6 with h6 | ⟨h6, h7⟩
    · exact .inl h6
    · right
      rw [List.getD_eq_getElem?_getD, List.getElem?_take, if_pos h6, ← List.getD_eq_getElem?_getD]; exact h7

/-- a set that holds each one's edges holds all that must stand ahead -/
theorem has_closed {ops : Array Oper} {D : Nat → Prop} (hD : ∀ (i : Nat) (o : Oper), ops[i]? = some o → D i → ∀ e ∈ o.after, Region.binds .any e = true → D e.on) : ∀ (i j : Nat), D i → has (beforeL ops.toList) i j = true → D j := by
  intro i
  induction i using Nat.strongRecOn with
  | ind i ih =>
    intro j hi hj
    cases ho : ops[i]? with
    | none =>
      exfalso
      unfold has beforeL at hj
      obtain ⟨_, h2, _⟩ := beforeFrom_get ops.toList []
      rw [List.getD_eq_getElem?_getD, List.getElem?_eq_none] at hj
      · simp at hj
      · rw [h2]; simp at ho; simpa using ho
    | some o =>
      obtain ⟨e, h1, h2, h3⟩ := (has_iff ops ho j).1 hj
      have h4 := hD i o ho hi e h1 h2
      rcases h3 with rfl | ⟨h5, h6⟩
      · exact h4
      · exact ih e.on h5 j h4 h6

theorem has_preds {ops : Array Oper} {D : Nat → Prop} (hD : ∀ (i : Nat) (o : Oper), ops[i]? = some o → D i → ∀ e ∈ o.after, Region.binds .any e = true → D e.on) {i : Nat} {o : Oper} (ho : ops[i]? = some o)
    (hp : ∀ e ∈ o.after, Region.binds .any e = true → D e.on) {j : Nat} (hj : has (beforeL ops.toList) i j = true) : D j := by
  obtain ⟨e, h1, h2, h3⟩ := (has_iff ops ho j).1 hj
  rcases h3 with rfl | ⟨h5, h6⟩
  · exact hp e h1 h2
  · exact has_closed hD e.on j (hp e h1 h2) h6

/-! the static check, taken apart -/
structure DrawOk (ops : Array Oper) : Prop where
  edge : ∀ (i : Nat) (o : Oper), ops[i]? = some o → ∀ e ∈ o.after, Region.binds .any e = true → e.on < i
  guard : ∀ (i : Nat) (o : Oper), ops[i]? = some o → ∀ j b, o.guard = some (j, b) → has (beforeL ops.toList) i j = true
  own : ∀ (i : Nat) (o : Oper), ops[i]? = some o → quietOp o.op = true → ∃ t, o.dst = some t ∧ t ∉ looksOf ops o
  dst : ∀ (i j : Nat) (o p : Oper), ops[i]? = some o → ops[j]? = some p → i ≠ j → ∀ t, p.dst = some t → o.dst ≠ some t
  look : ∀ (i j : Nat) (o p : Oper), ops[i]? = some o → ops[j]? = some p → i ≠ j → ∀ t, p.dst = some t → t ∈ looksOf ops o → has (beforeL ops.toList) i j = true ∨ (quietOp p.op = false ∧ has (beforeL ops.toList) j i = true)
  chain : ∀ (i j : Nat) (o p : Oper), ops[i]? = some o → ops[j]? = some p → quietOp o.op = false → quietOp p.op = false → j < i → has (beforeL ops.toList) i j = true ∨ (floatOp o.op = true ∧ o.guard = none)
  float : ∀ (a c q : Nat) (o p : Oper), ops[a]? = some o → floatOp o.op = true → ops[c]? = some p → quietOp p.op = false → c < a → has (beforeL ops.toList) a c = false → q < ops.size → has (beforeL ops.toList) q a = true → has (beforeL ops.toList) q c = true
  one : ∀ (a b : Nat) (o p : Oper), ops[a]? = some o → ops[b]? = some p → floater ops (beforeL ops.toList) o a = true → floater ops (beforeL ops.toList) p b = true → a = b

theorem mem_zipIdx {ops : Array Oper} {i : Nat} {o : Oper} (h : ops[i]? = some o) : (o, i) ∈ ops.toList.zipIdx := by
  rw [List.mem_zipIdx_iff_getElem?]; simpa using h

theorem floatOk_all {ops : Array Oper} {bf : List Nat} {n : Nat} : ∀ {l : List (Oper × Nat)}, floatOk ops bf n l = true → ∀ x ∈ l, (if floatOp x.1.op then
      (List.range x.2).all (fun c => match ops[c]? with
        | some p => if !quietOp p.op && !has bf x.2 c then (List.range n).all (fun q => if has bf q x.2 then has bf q c else true) else true
        | none => true)
    else true) = true
  | [], h, x, hx => by cases hx
  | (o, a) :: rest, h, x, hx => by
    rw [floatOk, Bool.and_eq_true] at h
    rcases List.mem_cons.1 hx with rfl | hx
    · exact h.1
    · exact floatOk_all h.2 x hx

theorem drawOk_ok {ops : Array Oper} (h : drawOk ops = true) : DrawOk ops := by
  unfold drawOk at h
  simp only [Bool.and_eq_true] at h
  obtain ⟨⟨h1, h2⟩, hone⟩ := h
  have pr : ∀ (i j : Nat) (o p : Oper), ops[i]? = some o → ops[j]? = some p → pairOk ops (beforeL ops.toList) o i p j = true := fun i j o p hi hj => by
    have := List.all_eq_true.1 h1 _ (mem_zipIdx hi)
    simp only [Bool.and_eq_true] at this
    exact List.all_eq_true.1 this.1.1 _ (mem_zipIdx hj)
  refine ⟨?_, ?_, ?_, ?_, ?_, ?_, ?_, ?_⟩
  · intro i o hi e he hb
    have := List.all_eq_true.1 h1 _ (mem_zipIdx hi)
    simp only [Bool.and_eq_true] at this
    have := List.all_eq_true.1 this.1.2 e (by simpa using he)
    simp only [hb, Bool.not_true, Bool.false_or] at this
    exact lt_of_blt this
  · intro i o hi j b hg
    have := List.all_eq_true.1 h1 _ (mem_zipIdx hi)
    simp only [Bool.and_eq_true, hg] at this
    exact this.2
  · intro i o hi hq
    have := pr i i o o hi hi
    unfold pairOk at this
    simp only [if_true] at this
    split at this
    · rename_i t ht
      refine ⟨t, ht, ?_⟩
      simp [hq] at this
      exact this
    · simp [hq] at this
  · intro i j o p hi hj hij t ht
    have := pr i j o p hi hj
    unfold pairOk at this
    rw [if_neg hij] at this
    simp only [ht, Bool.and_eq_true, decide_eq_true_eq] at this
    exact this.1.1
  · intro i j o p hi hj hij t ht hl
    have := pr i j o p hi hj
    unfold pairOk at this
    rw [if_neg hij] at this
    simp only [ht, Bool.and_eq_true, decide_eq_true_eq] at this
    have h3 := this.1.2
    rw [if_pos (by simpa using hl)] at h3
    simpa using h3
  · intro i j o p hi hj hq hp hlt
    have := pr i j o p hi hj
    unfold pairOk at this
    rw [if_neg (by omega)] at this
    simp only [Bool.and_eq_true] at this
    have h3 := this.2
    cases hb : has (beforeL ops.toList) i j with
    | true => exact .inl rfl
    | false =>
      right
      simp [hq, hp, hb, blt_of_lt hlt] at h3
      exact h3
  · intro a c q o p ha hf hc hp hlt hb hq hqa
    have h3 := floatOk_all h2 _ (mem_zipIdx ha)
    rw [if_pos hf] at h3
    have h4 := List.all_eq_true.1 h3 c (List.mem_range.2 hlt)
    simp only [hc, hp, hb, Bool.not_false, Bool.and_self, if_true] at h4
    have h5 := List.all_eq_true.1 h4 q (List.mem_range.2 (by simpa using hq))
    rw [if_pos hqa] at h5
    exact h5
  · intro a b o p ha hb hfa hfb
    have m1 : (o, a) ∈ ops.toList.zipIdx.filter (fun x => floater ops (beforeL ops.toList) x.1 x.2) := List.mem_filter.2 ⟨mem_zipIdx ha, hfa⟩
    have m2 : (p, b) ∈ ops.toList.zipIdx.filter (fun x => floater ops (beforeL ops.toList) x.1 x.2) := List.mem_filter.2 ⟨mem_zipIdx hb, hfb⟩
    unfold oneFloat at hone
    split at hone
    · rename_i he; rw [he] at m1; cases m1
    · rename_i x he
      rw [he, List.mem_singleton] at m1 m2
      have := m1.trans m2.symm
      exact (Prod.mk.inj this).2
    · cases hone

theorem chain_mem {ops : Array Oper} {C : List Nat} (h : drawChain ops = some C) (i : Nat) : i ∈ C ↔ ∃ o, ops[i]? = some o ∧ quietOp o.op = false := by
  unfold drawChain at h
  simp only at h
  split at h <;> cases h
  rw [List.mem_filter, List.mem_range]
  constructor
  · rintro ⟨h1, h2⟩
    cases ho : ops[i]? with
    | none => simp at ho; simp at h1; omega
    | some o =>
      refine ⟨o, rfl, ?_⟩
      have : ops.toList[i]? = some o := by simpa using ho
      simp only [this] at h2; simpa using h2
  · rintro ⟨o, h1, h2⟩
    have : ops.toList[i]? = some o := by simpa using h1
    refine ⟨(List.getElem?_eq_some_iff.1 this).1, ?_⟩
    simp only [this, h2, Bool.not_false]

theorem chain_sorted {ops : Array Oper} {C : List Nat} (h : drawChain ops = some C) : C.Pairwise (· < ·) := by
  unfold drawChain at h
  simp only at h
  split at h <;> cases h
  exact List.Pairwise.filter _ List.pairwise_lt_range

theorem has_lt {ops : Array Oper} (h : DrawOk ops) : ∀ (i j : Nat), has (beforeL ops.toList) i j = true → j < i := by
  intro i
  induction i using Nat.strongRecOn with
  | ind i ih =>
    intro j hj
    cases ho : ops[i]? with
    | none =>
      exfalso
      unfold has beforeL at hj
      obtain ⟨_, h2, _⟩ := beforeFrom_get ops.toList []
      rw [List.getD_eq_getElem?_getD, List.getElem?_eq_none] at hj
      · simp at hj
      · rw [h2]; simp at ho; simpa using ho
    | some o =>
      obtain ⟨e, h1, h2, h3⟩ := (has_iff ops ho j).1 hj
      have := h.edge i o ho e h1 h2
      rcases h3 with rfl | ⟨h5, h6⟩
      · exact this
      · have := ih e.on h5 j h6; omega

end Go.Abs

set_option linter.unusedSimpArgs false
set_option linter.unusedVariables false
namespace Go.Abs
variable {P : Program} {fl cl : Nat} {ρ : Ren} {h : AHeap} {w : World}

theorem restr_get (env : Env) : ∀ (ts : List Tmp) (t : Nat), (restr env ts).get t = if t ∈ ts then env.get t else none
  | [], t => by simp [restr, PT.get_e]
  | x :: ts, t => by
    unfold restr
    split
    · rename_i v hv
      rw [PT.get_set, restr_get env ts]
      by_cases h : t = x
      · subst h; simp [hv]
      · rw [if_neg h]; simp [h]
    · rename_i hv
      rw [restr_get env ts]
      by_cases h : t = x
      · subst h; simp [hv]
      · simp [h]
theorem restr_congr {env env' : Env} : ∀ {ts : List Tmp}, (∀ t ∈ ts, env.get t = env'.get t) → restr env ts = restr env' ts
  | [], _ => rfl
  | x :: ts, h => by
    unfold restr
    rw [h x List.mem_cons_self, restr_congr fun t ht => h t (List.mem_cons_of_mem _ ht)]

theorem getD_set {listed : Array Bool} {i j : Nat} (hi : i < listed.size) (d : Bool) : (listed.setIfInBounds i true).getD j d = if j = i then true else listed.getD j d := by
  simp only [Array.getD_eq_getD_getElem?, Array.getElem?_setIfInBounds]
  by_cases h : i = j
  · subst h; simp [hi]
  · rw [if_neg h, if_neg (fun e => h e.symm)]

theorem getD_tf {listed : Array Bool} {i : Nat} (hi : listed.getD i true = false) : listed.getD i false = false ∧ i < listed.size := by
  simp only [Array.getD_eq_getD_getElem?] at hi ⊢
  cases hx : listed[i]? with
  | none => simp [hx] at hi
  | some b => simp [hx] at hi; subst hi; exact ⟨by simp, (Array.getElem?_eq_some_iff.1 hx).1⟩

theorem bit_or (a i j : Nat) : Nat.testBit (Nat.lor a (2 ^ i)) j = true ↔ Nat.testBit a j = true ∨ j = i := by
  show Nat.testBit (a ||| 2 ^ i) j = true ↔ _
  simp only [Nat.testBit_or, Bool.or_eq_true, Nat.testBit_two_pow, decide_eq_true_eq]
  constructor
  · rintro (h | h); exact .inl h; exact .inr h.symm
  · rintro (h | h); exact .inl h; exact .inr h.symm

/-- the temporary that a result goes to -/
def PutRel (n : Nat) (dst : Option Tmp) (env : Env) (tmps : Array Value) (v : AV) (cv : Value) (env' : Env) (tmps' : Array Value) : Prop :=
  match dst with
  | none => env' = env ∧ tmps' = tmps
  | some d => d < n ∧ env' = env.set d v ∧ tmps' = tmps.setIfInBounds d cv

theorem PutRel.size {n : Nat} {dst : Option Tmp} {env env' : Env} {tmps tmps' : Array Value} {v : AV} {cv : Value} (p : PutRel n dst env tmps v cv env' tmps') : tmps'.size = tmps.size := by
  unfold PutRel at p; split at p
  · rw [p.2]
  · rw [p.2.2]; simp
theorem PutRel.other {n : Nat} {dst : Option Tmp} {env env' : Env} {tmps tmps' : Array Value} {v : AV} {cv : Value} (p : PutRel n dst env tmps v cv env' tmps') {t : Nat} (ht : dst ≠ some t) : env'.get t = env.get t ∧ tmps'[t]? = tmps[t]? := by
  unfold PutRel at p; split at p
  · rw [p.1, p.2]; exact ⟨rfl, rfl⟩
  · rename_i d
    have : t ≠ d := fun e => ht (by rw [e])
    rw [p.2.1, p.2.2, PT.get_set, if_neg this, Array.getElem?_setIfInBounds, if_neg (Ne.symm this)]; exact ⟨rfl, rfl⟩

section
variable {ops : Array Oper} {n : Nat} {env : Env} {tmps : Array Value} {chain : List Nat} {acted seen : Nat} {listed : Array Bool}

theorem DrawRel.pred (r : DrawRel P fl cl ρ h w ops n env tmps chain acted seen listed) {i : Nat} {o : Oper} (ho : ops[i]? = some o) (hp : ∀ e ∈ o.after, Region.binds .any e = true → listed.getD e.on false = true) {j : Nat} (hj : has (beforeL ops.toList) i j = true) : listed.getD j false = true :=
  has_preds (D := fun j => listed.getD j false = true) r.closed ho hp hj
theorem DrawRel.down (r : DrawRel P fl cl ρ h w ops n env tmps chain acted seen listed) {i j : Nat} (hi : listed.getD i false = true) (hj : has (beforeL ops.toList) i j = true) : listed.getD j false = true :=
  has_closed (D := fun j => listed.getD j false = true) r.closed i j hi hj

theorem DrawRel.chain_not (r : DrawRel P fl cl ρ h w ops n env tmps chain acted seen listed) {i : Nat} (hi : i ∈ chain) : (∃ o, ops[i]? = some o ∧ quietOp o.op = false) ∧ ¬ Nat.testBit acted i = true := by
  obtain ⟨pre, h1, h2⟩ := r.full
  refine ⟨(chain_mem h1 i).1 (List.mem_append_right _ hi), fun ha => ?_⟩
  have hs := chain_sorted h1
  rw [List.pairwise_append] at hs
  exact absurd (hs.2.2 i ((h2 i).1 ha) i hi) (by omega)

/-- the head of the chain is done -/
theorem DrawRel.act {i : Nat} (r : DrawRel P fl cl ρ h w ops n env tmps (i :: chain) acted seen listed) (hi : listed.getD i true = false) {o : Oper} (ho : ops[i]? = some o) (hp : ∀ e ∈ o.after, Region.binds .any e = true → listed.getD e.on false = true)
    {v : AV} {cv : Value} (hv : conc ρ v = some cv) {env' : Env} {tmps' : Array Value} (hput : PutRel n o.dst env tmps v cv env' tmps') :
    DrawRel P fl cl ρ h w ops n env' tmps' chain (Nat.lor acted (2 ^ i)) seen (listed.setIfInBounds i true) := by
  obtain ⟨hif, his⟩ := getD_tf hi
  have dk := drawOk_ok r.ok
  have g := fun (j : Nat) (d : Bool) => getD_set (j := j) his d
  obtain ⟨pre, f1, f2⟩ := r.full
  have hs := chain_sorted f1
  rw [List.pairwise_append, List.pairwise_cons] at hs
  obtain ⟨⟨oi, hoi, hqi⟩, hnact⟩ := r.chain_not (i := i) List.mem_cons_self
  rw [ho] at hoi; cases hoi
  refine ⟨r.ok, ⟨pre ++ [i], by simpa using f1, fun j => ?_⟩, by simp [r.lsize], fun j p hj hl e he hb => ?_, fun j hj => ?_, r.seenQ, fun j p hj hq hl => ?_, by rw [hput.size]; exact r.size, fun t a ha hsy => ?_, fun j p hj hpj hl => ?_⟩
  · rw [bit_or, f2]; simp
  · rw [g] at hl ⊢
    split
    · rfl
    · by_cases hji : j = i
      · subst hji; rw [ho] at hj; cases hj; exact hp e he hb
      · rw [if_neg hji] at hl; exact r.closed j p hj hl e he hb
  · rw [g]
    split
    · rfl
    · rename_i hne; exact r.acts j (((bit_or _ _ _).1 hj).resolve_right hne)
  · rw [g] at hl
    by_cases hji : j = i
    · subst hji; rw [ho] at hj; cases hj; rw [hqi] at hq; cases hq
    · rw [if_neg hji] at hl; exact r.doneQ j p hj hq hl
  · by_cases ht : o.dst = some t
    · unfold PutRel at hput
      rw [ht] at hput
      obtain ⟨hd, rfl, rfl⟩ := hput
      rw [PT.get_set, if_pos rfl] at ha; cases ha
      exact ⟨cv, hv, by rw [Array.getElem?_setIfInBounds]; simp [r.size, hd]⟩
    · obtain ⟨e1, e2⟩ := hput.other ht
      rw [e1] at ha; rw [e2]
      refine r.sync t a ha fun j p hj hd => ?_
      have hji : j ≠ i := by rintro rfl; rw [ho] at hj; cases hj; exact ht hd
      have := hsy j p hj hd
      rw [g, if_neg hji] at this
      exact ⟨this.1, fun hl => by simp only [List.mem_cons, not_or]; exact ⟨hji, this.2 hl⟩⟩
  · have hlt : i < j := hs.2.1.1 j hj
    rw [g, if_neg (by omega)] at hl
    obtain ⟨h0, hgd, hfl, h1⟩ := r.early j p (List.mem_cons_of_mem _ hj) hpj hl
    refine ⟨h0, hgd, hfl, ?_⟩
    have hre : restr env' (readsOf p) = restr env (readsOf p) := by
      refine restr_congr fun t ht => ?_
      by_cases hdt : o.dst = some t
      · exfalso
        rcases dk.look j i p o hpj ho (by omega) t hdt (List.mem_append_right _ ht) with h2 | ⟨_, h2⟩
        · rw [r.down hl h2] at hif; cases hif
        · have := has_lt dk _ _ h2; omega
      · exact (hput.other hdt).1
    rw [hre]
    cases hd : p.dst with
    | none => simpa [hd] using h1
    | some d =>
      simp only [hd] at h1 ⊢
      obtain ⟨h2, v', h3, h4⟩ := h1
      have hne : o.dst ≠ some d := dk.dst i j o p ho hpj (by omega) d hd
      exact ⟨h2, v', by rw [(hput.other hne).2]; exact h3, h4⟩

/-- a quiet one is done: it comes to what was looked at -/
theorem DrawRel.quiet (r : DrawRel P fl cl ρ h w ops n env tmps chain acted seen listed) {i : Nat} (hi : listed.getD i true = false) {o : Oper} (ho : ops[i]? = some o) (hq : quietOp o.op = true) (hsn : Nat.testBit seen i = true)
    (hp : ∀ e ∈ o.after, Region.binds .any e = true → listed.getD e.on false = true)
    {d : Tmp} (hd : o.dst = some d) (hdn : d < n) {v : AV} (hev : env.get d = some v) {cv : Value} (hv : conc ρ v = some cv) :
    DrawRel P fl cl ρ h w ops n env (tmps.setIfInBounds d cv) chain acted seen (listed.setIfInBounds i true) := by
  obtain ⟨hif, his⟩ := getD_tf hi
  have dk := drawOk_ok r.ok
  have g := fun (j : Nat) (d : Bool) => getD_set (j := j) his d
  have hnc : i ∉ chain := fun hc => by
    obtain ⟨⟨oi, hoi, hqi⟩, _⟩ := r.chain_not hc
    rw [ho] at hoi; cases hoi; rw [hq] at hqi; cases hqi
  refine ⟨r.ok, r.full, by simp [r.lsize], fun j p hj hl e he hb => ?_, fun j hj => ?_, r.seenQ, fun j p hj hq' hl => ?_, by simp [r.size], fun t a ha hsy => ?_, fun j p hj hpj hl => ?_⟩
  · rw [g] at hl ⊢
    split
    · rfl
    · by_cases hji : j = i
      · subst hji; rw [ho] at hj; cases hj; exact hp e he hb
      · rw [if_neg hji] at hl; exact r.closed j p hj hl e he hb
  · rw [g]; split
    · rfl
    · exact r.acts j hj
  · rw [g] at hl
    by_cases hji : j = i
    · subst hji; exact hsn
    · rw [if_neg hji] at hl; exact r.doneQ j p hj hq' hl
  · by_cases ht : t = d
    · subst ht
      rw [hev] at ha; cases ha
      exact ⟨cv, hv, by rw [Array.getElem?_setIfInBounds]; simp [r.size, hdn]⟩
    · rw [Array.getElem?_setIfInBounds, if_neg (Ne.symm ht)]
      refine r.sync t a ha fun j p hj hdj => ?_
      have hji : j ≠ i := by rintro rfl; rw [ho] at hj; cases hj; rw [hd] at hdj; cases hdj; exact ht rfl
      have := hsy j p hj hdj
      rw [g, if_neg hji] at this
      exact this
  · have hji : j ≠ i := by rintro rfl; exact hnc hj
    rw [g, if_neg hji] at hl
    obtain ⟨h0, hgd, hfl, h1⟩ := r.early j p hj hpj hl
    refine ⟨h0, hgd, hfl, ?_⟩
    cases hdj : p.dst with
    | none => simpa [hdj] using h1
    | some d' =>
      simp only [hdj] at h1 ⊢
      obtain ⟨h2, v', h3, h4⟩ := h1
      have hne : o.dst ≠ some d' := dk.dst i j o p ho hpj (Ne.symm hji) d' hdj
      refine ⟨h2, v', ?_, h4⟩
      rw [Array.getElem?_setIfInBounds, if_neg (by rintro rfl; exact hne hd)]; exact h3

end
end Go.Abs

set_option linter.unusedSimpArgs false
set_option linter.unusedVariables false
namespace Go.Abs
variable {P : Program} {fl cl : Nat} {ρ : Ren} {h : AHeap} {w : World}

theorem countP_lt {p q : Nat → Bool} (hpq : ∀ x, q x = true → p x = true) : ∀ {l : List Nat} {i : Nat}, i ∈ l → p i = true → q i = false → l.countP q + 1 ≤ l.countP p
  | [], i, h, _, _ => by cases h
  | x :: l, i, h, h1, h2 => by
    have mono : ∀ l : List Nat, l.countP q ≤ l.countP p := fun l => List.countP_mono_left fun x _ hx => hpq x hx
    rcases List.mem_cons.1 h with rfl | h
    · rw [List.countP_cons, List.countP_cons, h1, h2]
      have := mono l
      simp; omega
    · have := countP_lt hpq h h1 h2
      rw [List.countP_cons, List.countP_cons]
      cases hq : q x with
      | true => rw [hpq x hq]; simp; omega
      | false => simp; split <;> omega

theorem left_cons {ops : Array Oper} {listed : Array Bool} {i : Nat} {rest : List Nat} (hl : listed.size = ops.size) (h : leftOf ops listed (i :: rest)) :
    listed.getD i true = false ∧ (∃ o, ops[i]? = some o ∧ ∀ e ∈ o.after, Region.binds .any e = true → listed.getD e.on false = true) ∧ leftOf ops (listed.setIfInBounds i true) rest := by
  obtain ⟨fuel, t, h1, h2⟩ := h
  cases fuel with
  | zero => simp [Region.linearise.go] at h1
  | succ fuel =>
    simp only [Region.linearise.go] at h1
    split at h1
    · rename_i j hj
      rw [linearise_go_acc] at h1
      simp only [List.reverse_cons, List.reverse_nil, List.nil_append, List.singleton_append, List.cons.injEq] at h1
      obtain ⟨rfl, h3⟩ := h1
      have hm := List.mem_of_getElem? hj
      rw [List.mem_filter, List.mem_range, Bool.and_eq_true] at hm
      obtain ⟨hlt, h4, h5⟩ := hm
      have h4 : listed.getD i true = false := by simpa using h4
      refine ⟨h4, ?_, fuel, _, h3, ?_⟩
      · have ho : ops[i]? = some ops[i] := Array.getElem?_eq_getElem hlt
        refine ⟨_, ho, fun e he hb => ?_⟩
        simp only [ho, Option.map_some, Option.getD_some, Array.all_eq_true'] at h5
        have := h5 e he
        simpa [hb] using this
      · obtain ⟨_, his⟩ := getD_tf h4
        have := countP_lt (p := fun j => !listed.getD j true) (q := fun j => !(listed.setIfInBounds i true).getD j true) (by
          intro x hx
          simp only [getD_set his] at hx
          split at hx
          · simp at hx
          · exact hx) (l := List.range ops.size) (i := i) (List.mem_range.2 hlt) (by simp [h4]) (by simp only [getD_set his]; simp)
        omega
    · simp at h1

theorem left_nil {ops : Array Oper} (dk : DrawOk ops) {listed : Array Bool} (hl : listed.size = ops.size) (h : leftOf ops listed []) : ∀ i, i < ops.size → listed.getD i false = true := by
  obtain ⟨fuel, t, h1, h2⟩ := h
  have all : (∀ i, i < ops.size → listed.getD i true = true) → ∀ i, i < ops.size → listed.getD i false = true := by
    intro ha i hi
    have := ha i hi
    simp only [Array.getD_eq_getD_getElem?] at this ⊢
    rw [Array.getElem?_eq_getElem (by omega)] at this ⊢
    simpa using this
  refine all ?_
  cases fuel with
  | zero =>
    intro i hi
    have h3 : (List.range ops.size).countP (fun i => !listed.getD i true) = 0 := by omega
    rw [List.countP_eq_zero] at h3
    have := h3 i (List.mem_range.2 hi)
    simpa using this
  | succ fuel =>
    simp only [Region.linearise.go] at h1
    split at h1
    · rename_i j hj
      rw [linearise_go_acc] at h1
      simp at h1
    · rename_i hnone
      intro i
      induction i using Nat.strongRecOn with
      | ind i ih =>
        intro hi
        cases hli : listed.getD i true with
        | true => rfl
        | false =>
          exfalso
          have hmem : i ∈ (List.range ops.size).filter fun i => !listed.getD i true && ((ops[i]?).map (·.after.all fun e => !Region.binds .any e || listed.getD e.on false)).getD false := by
            rw [List.mem_filter, List.mem_range, Bool.and_eq_true]
            refine ⟨hi, by simp [hli], ?_⟩
            have ho : ops[i]? = some ops[i] := Array.getElem?_eq_getElem hi
            simp only [ho, Option.map_some, Option.getD_some, Array.all_eq_true']
            intro e he
            cases hb : Region.binds .any e with
            | false => simp
            | true =>
              have hlt := dk.edge i _ ho e he hb
              have := ih e.on hlt (by omega)
              simp only [Array.getD_eq_getD_getElem?] at this ⊢
              rw [Array.getElem?_eq_getElem (by omega)] at this ⊢
              simpa using this
          generalize hr : ((List.range ops.size).filter fun i => !listed.getD i true && ((ops[i]?).map (·.after.all fun e => !Region.binds .any e || listed.getD e.on false)).getD false) = rs at hnone hmem
          have hpos : 0 < rs.length := List.length_pos_of_mem hmem
          have := Nat.mod_lt t hpos
          rw [List.getElem?_eq_getElem this] at hnone
          cases hnone

/-- a frame that gets the value it waits for -/
theorem finish_ok {a a' : AFrame} {f : Frame} {v : AV} {cv : Value} (r : FrRel P false fl cl ρ h w a f) (hf : finishA a v = some a') (hv : conc ρ v = some cv) : FrRel P true fl cl ρ h w a' (f.finish cv) := by
  cases r with
  | draw ht => cases ht
  | plain b henv htodo =>
    unfold finishA at hf
    split at hf
    · rename_i ops i rest k hk
      rw [hk] at htodo
      cases ht : f.todo with
      | nil => rw [ht] at htodo; exact htodo.elim
      | cons x xs =>
        rw [ht] at htodo
        obtain ⟨h1, h2⟩ := htodo
        simp only [itemRel] at h1; subst h1
        split at hf <;> cases hf
        rename_i env hp
        unfold putA at hp
        cases hd : (ops[i]?).bind (·.dst) with
        | none =>
          simp only [hd, Option.some.injEq] at hp; subst hp
          have hfin : f.finish cv = { f with todo := .inRegion ops rest :: xs } := by unfold Frame.finish; rw [ht]; simp only [hd]
          rw [hfin]
          exact .plain ⟨b.fn, b.kind, b.round, b.defers, b.mode⟩ henv ⟨rfl, h2⟩
        | some d =>
          simp only [hd] at hp
          split at hp <;> cases hp
          rename_i hlt
          have hfin : f.finish cv = { f with tmps := f.tmps.setIfInBounds d cv, todo := .inRegion ops rest :: xs } := by unfold Frame.finish; rw [ht]; simp only [hd]
          rw [hfin]
          exact .plain ⟨b.fn, b.kind, b.round, b.defers, b.mode⟩ (henv.set (lt_of_blt hlt) hv) ⟨rfl, h2⟩
    · rename_i ops i rest acted seen k hk
      rw [hk] at htodo
      cases ht : f.todo with
      | nil => rw [ht] at htodo; exact htodo.elim
      | cons x xs => rw [ht] at htodo; exact htodo.1.elim
    · rename_i l k hk
      rw [hk] at htodo
      cases ht : f.todo with
      | nil => rw [ht] at htodo; exact htodo.elim
      | cons x xs =>
        rw [ht] at htodo
        obtain ⟨⟨lc, h1, rfl⟩, h2⟩ := htodo
        cases hf
        have hfin : f.finish cv = { f with todo := .endRangeFunc lc.blk :: xs } := by simp [Frame.finish, ht]
        rw [hfin]
        exact .plain ⟨b.fn, b.kind, b.round, b.defers, b.mode⟩ henv ⟨⟨lc, h1, rfl⟩, h2⟩
    · rename_i k hk
      rw [hk] at htodo
      cases ht : f.todo with
      | nil => rw [ht] at htodo; exact htodo.elim
      | cons x xs =>
        rw [ht] at htodo
        obtain ⟨h1, h2⟩ := htodo
        simp only [itemRel] at h1; subst h1
        cases hf
        have hfin : f.finish cv = { f with todo := xs } := by simp [Frame.finish, ht]
        rw [hfin]
        exact .plain ⟨b.fn, b.kind, b.round, b.defers, b.mode⟩ henv h2
    · cases hf
  | drawn ht hm b ops i chain acted seen k todo k' listed e1 e2 hk r hi hp left =>
    unfold finishA at hf
    rw [e1] at hf
    simp only at hf
    split at hf <;> cases hf
    rename_i env hput
    obtain ⟨⟨o, ho, _⟩, _⟩ := r.chain_not (i := i) List.mem_cons_self
    unfold putA at hput
    simp only [ho, Option.bind_some] at hput
    cases hd : o.dst with
    | none =>
      simp only [hd, Option.some.injEq] at hput; subst hput
      have hfin : f.finish cv = { f with todo := .inRegion ops todo :: k' } := by unfold Frame.finish; rw [e2]; simp only [ho, Option.bind_some, hd]
      rw [hfin]
      exact .draw rfl hm ⟨b.fn, b.kind, b.round, b.defers, b.mode⟩ ops chain _ seen k todo k' _ rfl rfl hk (r.act hi ho (hp o ho) hv (v := v) (by unfold PutRel; rw [hd]; exact ⟨rfl, rfl⟩)) left
    | some d =>
      simp only [hd] at hput
      split at hput <;> cases hput
      rename_i hlt
      have hfin : f.finish cv = { f with tmps := f.tmps.setIfInBounds d cv, todo := .inRegion ops todo :: k' } := by unfold Frame.finish; rw [e2]; simp only [ho, Option.bind_some, hd]
      rw [hfin]
      exact .draw rfl hm ⟨b.fn, b.kind, b.round, b.defers, b.mode⟩ ops chain _ seen k todo k' _ rfl rfl hk (r.act hi ho (hp o ho) hv (v := v) (by unfold PutRel; rw [hd]; exact ⟨lt_of_blt hlt, rfl, rfl⟩)) left

end Go.Abs

set_option linter.unusedSimpArgs false
set_option linter.unusedVariables false
namespace Go.Abs
variable {P : Program} {ρ : Ren} {h : AHeap} {w : World}

theorem wantedA_congr {o : Oper} {ops : Array Oper} {env env' : Env} (h : ∀ t ∈ guardTmp ops o, env.get t = env'.get t) : wantedA o ops env = wantedA o ops env' := by
  unfold wantedA guardTmp at *
  split
  · rfl
  · rename_i j want hg
    simp only [hg] at h
    cases hj : ops[j]? with
    | none => rfl
    | some oj =>
      simp only [hj] at h
      cases hd : oj.dst with
      | none => simp only [hd]
      | some t => simp only [hd, Option.toList_some, List.mem_singleton, forall_eq] at h; simp only [hd, h]

theorem wanted_ok {o : Oper} {ops : Array Oper} {env : Env} {tmps : Array Value} {b : Bool} (hw : wantedA o ops env = some b) (hs : ∀ t ∈ guardTmp ops o, ∀ a, env.get t = some a → ∃ v, conc ρ a = some v ∧ tmps[t]? = some v) :
    Region.wanted o (yielded ops tmps) = b := by
  unfold wantedA at hw
  unfold Region.wanted
  cases hg : o.guard with
  | none => simp only [hg, Option.some.injEq] at hw; subst hw; rfl
  | some x =>
    obtain ⟨j, want⟩ := x
    simp only [hg] at hw
    unfold guardTmp at hs
    simp only [hg] at hs
    simp only [yielded]
    cases hj : ops[j]? with
    | none => simp only [hj, Option.some.injEq] at hw; subst hw; simp [hj]
    | some oj =>
      simp only [hj] at hw hs
      cases hd : oj.dst with
      | none => simp only [hd, Option.some.injEq] at hw; subst hw; simp [hd]
      | some t =>
        simp only [hd] at hw hs
        cases ht : env.get t with
        | none => simp [ht] at hw
        | some a =>
          obtain ⟨v, h1, h2⟩ := hs t (by simp) a ht
          simp only [Option.bind_some, hd, h2]
          simp only [ht] at hw
          cases a with
          | bool x => simp only [conc] at h1; cases h1; simp only [Option.some.injEq] at hw; subst hw; rfl
          | _ =>
            simp only [Option.some.injEq] at hw; subst hw
            simp only [conc] at h1 <;> (try split at h1) <;> (try split at h1) <;> cases h1 <;> rfl

def LookedAt (P : Program) (ops : Array Oper) (env : Env) (h : AHeap) (n : Nat) (o : Oper) : Prop :=
  ∃ d v, o.dst = some d ∧ d < n ∧ env.get d = some v ∧ ∃ wn, wantedA o ops env = some wn ∧ (wn = false → v = undefA) ∧ (wn = true → ∃ h', aop P (restr env (readsOf o)) h o = some (.val v h'))

theorem LookedAt.congr {ops : Array Oper} {env env' : Env} {n : Nat} {o : Oper} (h1 : ∀ t ∈ looksOf ops o, env.get t = env'.get t) (h2 : ∀ d, o.dst = some d → env.get d = env'.get d) (l : LookedAt P ops env h n o) : LookedAt P ops env' h n o := by
  obtain ⟨d, v, a1, a2, a3, wn, a4, a5, a6⟩ := l
  refine ⟨d, v, a1, a2, by rw [← h2 d a1]; exact a3, wn, ?_, a5, fun hw => ?_⟩
  · rw [← wantedA_congr fun t ht => h1 t (List.mem_append_left _ ht)]; exact a4
  · rw [← restr_congr fun t ht => h1 t (List.mem_append_right _ ht)]; exact a6 hw

def enabled (bf : List Nat) (cb acted forced i : Nat) : Bool := Nat.beq (Nat.land (Nat.land (bf.getD i 0) cb) acted) (Nat.land (bf.getD i 0) cb) && !Nat.testBit forced i

structure LookRes (P : Program) (ops : Array Oper) (bf : List Nat) (n : Nat) (h : AHeap) (cb acted forced : Nat) (l : List (Oper × Nat)) (env : Env) (seen : Nat) (env' : Env) (seen' : Nat) : Prop where
  other : ∀ t, (∀ x ∈ l, quietOp x.1.op = true → x.1.dst ≠ some t) → env'.get t = env.get t
  old : ∀ x ∈ l, quietOp x.1.op = true → Nat.testBit seen x.2 = true → ∀ t, x.1.dst = some t → env'.get t = env.get t
  unseen : ∀ x ∈ l, quietOp x.1.op = true → Nat.testBit seen' x.2 = false → ∀ t, x.1.dst = some t → env'.get t = env.get t
  up : ∀ j, Nat.testBit seen j = true → Nat.testBit seen' j = true
  back : ∀ j, Nat.testBit seen' j = true → Nat.testBit seen j = true ∨ ∃ o, (o, j) ∈ l ∧ quietOp o.op = true
  looked : ∀ x ∈ l, quietOp x.1.op = true → enabled bf cb acted forced x.2 = true → LookedAt P ops env' h n x.1 ∧ Nat.testBit seen' x.2 = true

theorem lookAll_res {ops : Array Oper} (dk : DrawOk ops) {n cb acted forced : Nat} : ∀ (l : List (Oper × Nat)) (env : Env) (seen : Nat) (env' : Env) (seen' : Nat),
    (∀ x ∈ l, ops[x.2]? = some x.1) → l.Pairwise (fun x y => x.2 < y.2) → lookAll P ops (beforeL ops.toList) n h cb acted forced l env seen = some (env', seen') → LookRes P ops (beforeL ops.toList) n h cb acted forced l env seen env' seen' := by
  intro l
  induction l with
  | nil => intro env seen env' seen' _ _ h1; simp only [lookAll, Option.some.injEq, Prod.mk.injEq] at h1; obtain ⟨rfl, rfl⟩ := h1; exact ⟨fun _ _ => rfl, fun x hx => (by cases hx), fun x hx => (by cases hx), fun _ h => h, fun _ h => .inl h, fun x hx => (by cases hx)⟩
  | cons x l ih =>
    obtain ⟨o, i⟩ := x
    intro env seen env' seen' hops hpw h1
    rw [List.pairwise_cons] at hpw
    have hoi := hops (o, i) List.mem_cons_self
    have hops' : ∀ x ∈ l, ops[x.2]? = some x.1 := fun x hx => hops x (List.mem_cons_of_mem _ hx)
    have skip : (quietOp o.op = true → enabled (beforeL ops.toList) cb acted forced i = false) → lookAll P ops (beforeL ops.toList) n h cb acted forced l env seen = some (env', seen') →
        LookRes P ops (beforeL ops.toList) n h cb acted forced ((o, i) :: l) env seen env' seen' := by
      intro hne h2
      have r := ih env seen env' seen' hops' hpw.2 h2
      refine ⟨fun t ht => r.other t fun x hx => ht x (List.mem_cons_of_mem _ hx), fun x hx hq hs t hd => ?_, fun x hx hq hs t hd => ?_, r.up, fun j hj => ?_, fun x hx hq he => ?_⟩
      · rcases List.mem_cons.1 hx with rfl | hx
        · exact r.other t fun y hy hqy hdy => dk.dst y.2 i y.1 o (hops' y hy) hoi (by have := hpw.1 y hy; omega) t hd hdy
        · exact r.old x hx hq hs t hd
      · rcases List.mem_cons.1 hx with rfl | hx
        · exact r.other t fun y hy hqy hdy => dk.dst y.2 i y.1 o (hops' y hy) hoi (by have := hpw.1 y hy; omega) t hd hdy
        · exact r.unseen x hx hq hs t hd
      · rcases r.back j hj with h3 | ⟨o', h3, h4⟩
        · exact .inl h3
        · exact .inr ⟨o', List.mem_cons_of_mem _ h3, h4⟩
      · rcases List.mem_cons.1 hx with rfl | hx
        · rw [hne hq] at he; cases he
        · exact r.looked x hx hq he
    unfold lookAll at h1
    split at h1
    · rename_i hq; exact skip (fun hq' => by rw [hq] at hq'; cases hq') h1
    · rename_i hq
      simp only at h1
      split at h1
      · rename_i hen; exact skip (fun _ => hen) h1
      · rename_i hen
        split at h1
        · cases h1
        · rename_i wn hwn
          split at h1
          · rename_i v h'' hres
            have hval : (wn = false → v = undefA) ∧ (wn = true → ∃ h', aop P (restr env (readsOf o)) h o = some (.val v h')) := by
              split at hres
              · simp only [Option.some.injEq, AR.val.injEq] at hres; exact ⟨fun _ => hres.1.symm, fun e => (by cases e)⟩
              · exact ⟨fun e => (by cases e), fun _ => ⟨_, hres⟩⟩
            obtain ⟨t0, ht0, hown⟩ := dk.own i o hoi hq
            -- what is looked at stays so behind the rest
            have keep : ∀ env1 seen1, LookRes P ops (beforeL ops.toList) n h cb acted forced l env1 seen1 env' seen' → LookedAt P ops env1 h n o → LookedAt P ops env' h n o := by
              intro env1 seen1 r hl
              refine hl.congr (fun t ht => (r.other t fun y hy hqy hdy => ?_).symm) (fun d hd => (r.other d fun y hy hqy hdy => ?_).symm)
              · have hlt := hpw.1 y hy
                rcases dk.look i y.2 o y.1 hoi (hops' y hy) (by simp only at hlt; omega) t hdy ht with h3 | ⟨h3, _⟩
                · have := has_lt dk _ _ h3; simp only at hlt; omega
                · rw [hqy] at h3; cases h3
              · have hlt := hpw.1 y hy
                exact dk.dst y.2 i y.1 o (hops' y hy) hoi (by simp only at hlt; omega) d hd hdy
            split at h1
            · cases h1
            · rename_i d hd
              split at h1
              · cases h1
              rename_i hlt
              split at h1
              · -- looked at for the first time
                rename_i hsn
                rw [hd] at ht0; injection ht0 with ht0; subst ht0
                have r := ih _ _ env' seen' hops' hpw.2 h1
                have hl1 : LookedAt P ops (env.set d v) h n o := by
                  have hne : ∀ t ∈ looksOf ops o, env.get t = (env.set d v).get t := fun t ht => by
                    rw [PT.get_set, if_neg]; rintro rfl; exact hown ht
                  refine ⟨d, v, hd, lt_of_blt hlt, by rw [PT.get_set, if_pos rfl], wn, ?_, hval.1, fun hw => ?_⟩
                  · rw [← wantedA_congr fun t ht => hne t (List.mem_append_left _ ht)]; exact hwn
                  · rw [← restr_congr fun t ht => hne t (List.mem_append_right _ ht)]; exact hval.2 hw
                refine ⟨fun t ht => ?_, fun x hx hqx hs t hdt => ?_, fun x hx hqx hs t hdt => ?_, fun j hj => r.up j ((bit_or _ _ _).2 (.inl hj)), fun j hj => ?_, fun x hx hqx he => ?_⟩
                · rw [r.other t fun x hx => ht x (List.mem_cons_of_mem _ hx), PT.get_set, if_neg]
                  rintro rfl; exact ht _ List.mem_cons_self hq hd
                · rcases List.mem_cons.1 hx with rfl | hx
                  · rw [hsn] at hs; cases hs
                  · rw [r.old x hx hqx ((bit_or _ _ _).2 (.inl hs)) t hdt, PT.get_set, if_neg]
                    rintro rfl
                    have hlt := hpw.1 x hx
                    exact dk.dst i x.2 o x.1 hoi (hops' x hx) (by simp only at hlt; omega) _ hdt hd
                · rcases List.mem_cons.1 hx with rfl | hx
                  · rw [r.up i ((bit_or _ _ _).2 (.inr rfl))] at hs; cases hs
                  · rw [r.unseen x hx hqx hs t hdt, PT.get_set, if_neg]
                    rintro rfl
                    have hlt := hpw.1 x hx
                    exact dk.dst i x.2 o x.1 hoi (hops' x hx) (by simp only at hlt; omega) _ hdt hd
                · rcases r.back j hj with h3 | ⟨o', h3, h4⟩
                  · rcases (bit_or _ _ _).1 h3 with h3 | rfl
                    · exact .inl h3
                    · exact .inr ⟨o, List.mem_cons_self, hq⟩
                  · exact .inr ⟨o', List.mem_cons_of_mem _ h3, h4⟩
                · rcases List.mem_cons.1 hx with rfl | hx
                  · exact ⟨keep _ _ r hl1, r.up i ((bit_or _ _ _).2 (.inr rfl))⟩
                  · exact r.looked x hx hqx he
              · -- looked at again
                rename_i hsn
                split at h1
                case h_2 => cases h1
                rename_i u hu
                split at h1
                · rename_i hsame
                  have := sameV_eq _ _ hsame; subst this
                  rw [hd] at ht0; injection ht0 with ht0; subst ht0
                  have r := ih _ _ env' seen' hops' hpw.2 h1
                  have hdn : d < n := lt_of_blt hlt
                  have hl1 : LookedAt P ops env h n o := ⟨d, u, hd, hdn, hu, wn, hwn, hval.1, hval.2⟩
                  refine ⟨fun t ht => r.other t fun x hx => ht x (List.mem_cons_of_mem _ hx), fun x hx hqx hs t hdt => ?_, fun x hx hqx hs t hdt => ?_, r.up, fun j hj => ?_, fun x hx hqx he => ?_⟩
                  · rcases List.mem_cons.1 hx with rfl | hx
                    · exact r.other t fun y hy hqy hdy => dk.dst y.2 i y.1 o (hops' y hy) hoi (by have := hpw.1 y hy; omega) t hdt hdy
                    · exact r.old x hx hqx hs t hdt
                  · rcases List.mem_cons.1 hx with rfl | hx
                    · rw [r.up i hsn] at hs; cases hs
                    · exact r.unseen x hx hqx hs t hdt
                  · rcases r.back j hj with h3 | ⟨o', h3, h4⟩
                    · exact .inl h3
                    · exact .inr ⟨o', List.mem_cons_of_mem _ h3, h4⟩
                  · rcases List.mem_cons.1 hx with rfl | hx
                    · exact ⟨keep _ _ r hl1, r.up i hsn⟩
                    · exact r.looked x hx hqx he
                · cases h1
          · cases h1

end Go.Abs

set_option linter.unusedSimpArgs false
set_option linter.unusedVariables false
namespace Go.Abs
variable {P : Program} {w w' : World} {f : Frame} {cs : List Frame} {ops : Array Oper} {i : Nat} {rest : List Nat} {k : List Item} {o : Oper}

theorem stepG_oper (hm : f.mode = .run) (ht : f.todo = .inRegion ops (i :: rest) :: k) (ho : ops[i]? = some o) (hw : Region.wanted o (yielded ops f.tmps) = true) (hd : f.roundOf = none ∨ ∀ c, o.op ≠ .defer c) :
    stepG P true { frame := f, callers := cs, status := .running, dying := none } w = stepG.apply P true f cs none (execOp f.eval o) w := by
  obtain ⟨fn, tmps, todo, defers, mode, kind, roundOf⟩ := f
  simp only at hm ht hd
  subst hm; subst ht
  rcases hd with rfl | hd
  · simp [stepG, stepG.exec, stepG.oper, Frame.oper?, ho, hw]
  · simp only [stepG, stepG.exec, stepG.oper, Frame.oper?, ho, hw, Option.map_some, Option.getD_some, if_true]
    split
    · rename_i c hc; exact absurd hc (hd _)
    · rfl

theorem op_value (hm : f.mode = .run) (ht : f.todo = .inRegion ops (i :: rest) :: k) (ho : ops[i]? = some o) (hw : Region.wanted o (yielded ops f.tmps) = true) (hd : f.roundOf = none ∨ ∀ c, o.op ≠ .defer c)
    {v : Value} (hr : (execOp f.eval o).run P w = .ok (.value v) w') : step P (lone f cs w) = .next (lone (f.finish v) cs w') :=
  step_lone_go (by rw [stepG_oper hm ht ho hw hd]; simp [stepG.apply, hr])

theorem op_skip (hm : f.mode = .run) (ht : f.todo = .inRegion ops (i :: rest) :: k) (ho : ops[i]? = some o) (hw : Region.wanted o (yielded ops f.tmps) = true) (hd : f.roundOf = none ∨ ∀ c, o.op ≠ .defer c)
    (hr : (execOp f.eval o).run P w = .ok .skip w') : step P (lone f cs w) = .next (lone (f.finish undef) cs w') :=
  step_lone_go (by rw [stepG_oper hm ht ho hw hd]; simp [stepG.apply, hr])

theorem op_enter (hm : f.mode = .run) (ht : f.todo = .inRegion ops (i :: rest) :: k) (ho : ops[i]? = some o) (hw : Region.wanted o (yielded ops f.tmps) = true) (hd : f.roundOf = none ∨ ∀ c, o.op ≠ .defer c)
    {g : FuncId} {args : Array Value} (hr : (execOp f.eval o).run P w = .ok (.enter g args) w') : step P (lone f cs w) = .next (lone (Frame.enter P g args .normal) (f :: cs) w') :=
  step_lone_go (by rw [stepG_oper hm ht ho hw hd]; simp [stepG.apply, hr, ht])

theorem op_round (hm : f.mode = .run) (ht : f.todo = .inRegion ops (i :: rest) :: k) (ho : ops[i]? = some o) (hw : Region.wanted o (yielded ops f.tmps) = true) (hd : f.roundOf = none ∨ ∀ c, o.op ≠ .defer c)
    {l : Nat} {g : FuncId} {tmps : Array Value} {a b : Code} (hr : (execOp f.eval o).run P w = .ok (.round l g tmps a b) w') : step P (lone f cs w) = .next (lone (Frame.round l g tmps a b .normal) (f :: cs) w') :=
  step_lone_go (by rw [stepG_oper hm ht ho hw hd]; simp [stepG.apply, hr])

theorem op_defer (hm : f.mode = .run) (ht : f.todo = .inRegion ops (i :: rest) :: k) (ho : ops[i]? = some o) (hw : Region.wanted o (yielded ops f.tmps) = true) (hd : f.roundOf = none)
    {d : Deferred} (hr : (execOp f.eval o).run P w = .ok (.defer d) w') : step P (lone f cs w) = .next (lone ({ f with defers := d :: f.defers }.finish undef) cs w') :=
  step_lone_go (by rw [stepG_oper hm ht ho hw (.inl hd)]; simp [stepG.apply, hr])

theorem op_panicked (hm : f.mode = .run) (ht : f.todo = .inRegion ops (i :: rest) :: k) (ho : ops[i]? = some o) (hw : Region.wanted o (yielded ops f.tmps) = true) (hd : f.roundOf = none ∨ ∀ c, o.op ≠ .defer c)
    {v : Value} (hr : (execOp f.eval o).run P w = .halt (.panic v) w') : step P (lone f cs w) = .next (lone (f.raise [{ v, recovered := false }]) cs w') :=
  step_lone_go (by rw [stepG_oper hm ht ho hw hd]; simp [stepG.apply, hr])

theorem op_recover (hm : f.mode = .run) (ht : f.todo = .inRegion ops (i :: rest) :: k) (ho : ops[i]? = some o) (hw : Region.wanted o (yielded ops f.tmps) = true) (hd : f.roundOf = none)
    (hr : (execOp f.eval o).run P w = .ok .recover w') :
    step P (lone f cs w) = match tryRecover f cs with
      | some (v, cs') => .next (lone (f.finish v) cs' w')
      | none => .next (lone (f.finish .nilIface) cs w') := by
  cases hq : tryRecover f cs with
  | none => exact step_lone_go (by rw [stepG_oper hm ht ho hw (.inl hd)]; simp [stepG.apply, hr, hd, hq])
  | some x =>
    obtain ⟨v, cs'⟩ := x
    exact step_lone_go (by rw [stepG_oper hm ht ho hw (.inl hd)]; simp [stepG.apply, hr, hd, hq])

theorem op_unwanted (hm : f.mode = .run) (ht : f.todo = .inRegion ops (i :: rest) :: k) (ho : ops[i]? = some o) (hw : Region.wanted o (yielded ops f.tmps) = false) :
    step P (lone f cs w) = .next (lone (f.finish undef) cs w) := by
  refine step_lone_go ?_
  obtain ⟨fn, tmps, todo, defers, mode, kind, roundOf⟩ := f
  simp only at hm ht
  subst hm; subst ht
  simp [stepG, stepG.exec, ho, hw]

theorem region_end (hm : f.mode = .run) (ht : f.todo = .inRegion ops [] :: k) : step P (lone f cs w) = .next (lone { f with todo := k } cs w) := by
  refine step_lone_go ?_
  obtain ⟨fn, tmps, todo, defers, mode, kind, roundOf⟩ := f
  simp only at hm ht
  subst hm; subst ht
  simp [stepG, stepG.exec]

theorem finish_at_op (ht : f.todo = .inRegion ops (i :: rest) :: k) (ho : ops[i]? = some o) (v : Value) :
    f.finish v = { f with tmps := (match o.dst with | some d => f.tmps.setIfInBounds d v | none => f.tmps), todo := .inRegion ops rest :: k } := by
  unfold Frame.finish; rw [ht]; simp only [ho, Option.bind_some]
  cases o.dst <;> rfl

end Go.Abs

set_option linter.unusedSimpArgs false
set_option linter.unusedVariables false
namespace Go.Abs
variable {P : Program} {fl cl : Nat} {ρ : Ren} {h : AHeap} {w : World}

theorem bitsOf_bit : ∀ (l : List Nat) (j : Nat), Nat.testBit (bitsOf l) j = true ↔ j ∈ l
  | [], j => by simp [bitsOf]
  | x :: l, j => by
    show Nat.testBit (2 ^ x ||| bitsOf l) j = true ↔ _
    simp only [Nat.testBit_or, Bool.or_eq_true, Nat.testBit_two_pow, decide_eq_true_eq, bitsOf_bit l j, List.mem_cons]
    constructor
    · rintro (h | h); exact .inl h.symm; exact .inr h
    · rintro (h | h); exact .inl h.symm; exact .inr h

theorem forced_bit (acted j : Nat) : ∀ (s : Nat) (bs : List Nat), Nat.testBit (forcedBits [] acted s bs) j = true → ∃ a b, bs[a]? = some b ∧ Nat.testBit acted (s + a) = true ∧ Nat.testBit b j = true
  | s, [], h => by simp [forcedBits] at h
  | s, b :: bs, h => by
    unfold forcedBits at h
    split at h
    · rename_i ha
      have h : Nat.testBit (b ||| forcedBits [] acted (s + 1) bs) j = true := h
      rw [Nat.testBit_or, Bool.or_eq_true] at h
      rcases h with h | h
      · exact ⟨0, b, rfl, by simpa using ha, h⟩
      · obtain ⟨a, b', h1, h2, h3⟩ := forced_bit acted j (s + 1) bs h
        exact ⟨a + 1, b', by simpa using h1, by rw [show s + (a + 1) = s + 1 + a by omega]; exact h2, h3⟩
    · obtain ⟨a, b', h1, h2, h3⟩ := forced_bit acted j (s + 1) bs h
      exact ⟨a + 1, b', by simpa using h1, by rw [show s + (a + 1) = s + 1 + a by omega]; exact h2, h3⟩

theorem forced_any (bf : List Nat) (acted : Nat) : ∀ (s : Nat) (bs : List Nat), forcedBits bf acted s bs = forcedBits [] acted s bs
  | s, [] => rfl
  | s, b :: bs => by unfold forcedBits; simp only [forced_any bf acted (s + 1) bs]

variable {ops : Array Oper} {n : Nat} {env env1 : Env} {tmps : Array Value} {chain : List Nat} {acted seen seen1 : Nat} {listed : Array Bool}

/-- may it be looked at here -/
def Able (ops : Array Oper) (C : List Nat) (acted i : Nat) : Prop := (∀ j, has (beforeL ops.toList) i j = true → j ∈ C → Nat.testBit acted j = true) ∧ ∀ a, Nat.testBit acted a = true → has (beforeL ops.toList) a i = false

theorem look_rel (r : DrawRel P fl cl ρ h w ops n env tmps chain acted seen listed) (hl : lookDraw P ops n h acted env seen = some (env1, seen1)) :
    DrawRel P fl cl ρ h w ops n env1 tmps chain acted seen1 listed ∧ ∀ C, drawChain ops = some C → ∀ (i : Nat) (o : Oper), ops[i]? = some o → quietOp o.op = true → Able ops C acted i → LookedAt P ops env1 h n o ∧ Nat.testBit seen1 i = true := by
  have dk := drawOk_ok r.ok
  unfold lookDraw at hl
  simp only at hl
  split at hl
  case h_2 => cases hl
  rename_i C hC
  have hops : ∀ x ∈ ops.toList.zipIdx, ops[x.2]? = some x.1 := fun x hx => by
    obtain ⟨a, b⟩ := x
    have := List.mem_zipIdx_iff_getElem?.1 hx
    simpa using this
  have hpw : ops.toList.zipIdx.Pairwise (fun x y => x.2 < y.2) := by
    rw [List.pairwise_iff_getElem]
    intro a b ha hb hab
    simp only [List.getElem_zipIdx, Nat.zero_add]; exact hab
  have res := lookAll_res (P := P) (h := h) dk ops.toList.zipIdx env seen env1 seen1 hops hpw hl
  have inl : ∀ {i : Nat} {o : Oper}, ops[i]? = some o → (o, i) ∈ ops.toList.zipIdx := fun ho => mem_zipIdx ho
  refine ⟨⟨r.ok, r.full, r.lsize, r.closed, r.acts, fun j hj => ?_, fun i o ho hq hli => res.up i (r.doneQ i o ho hq hli), r.size, fun t a ha hs => ?_, fun i o hi ho hli => ?_⟩, fun C' hC' i o ho hq hab => ?_⟩
  · rcases res.back j hj with h1 | ⟨o, h1, h2⟩
    · exact r.seenQ j h1
    · exact ⟨o, hops _ h1, h2⟩
  · by_cases hx : ∃ x ∈ ops.toList.zipIdx, quietOp x.1.op = true ∧ x.1.dst = some t
    · obtain ⟨x, hx1, hx2, hx3⟩ := hx
      have hxo := hops x hx1
      by_cases hsn : Nat.testBit seen x.2 = true
      · rw [res.old x hx1 hx2 hsn t hx3] at ha
        refine r.sync t a ha fun i o ho hd => ?_
        have := hs i o ho hd
        exact ⟨fun h1 => this.1 (res.up i h1), this.2⟩
      · -- looked at just now: then the model has not done it
        have := (hs x.2 x.1 hxo hx3).1
        by_cases hs1 : Nat.testBit seen1 x.2 = true
        · exact absurd (r.doneQ x.2 x.1 hxo hx2 (this hs1)) hsn
        · -- not looked at: its temporary has no value of it
          rw [res.unseen x hx1 hx2 (by simpa using hs1) t hx3] at ha
          obtain ⟨v, h1, h2⟩ := r.sync t a ha fun i o ho hd => by
            have := hs i o ho hd
            refine ⟨fun h1 => this.1 (res.up i h1), this.2⟩
          exact ⟨v, h1, h2⟩
    · rw [res.other t (fun x hx1 hx2 hx3 => hx ⟨x, hx1, hx2, hx3⟩)] at ha
      refine r.sync t a ha fun i o ho hd => ?_
      have := hs i o ho hd
      exact ⟨fun h1 => this.1 (res.up i h1), this.2⟩
  · obtain ⟨h0, hg, hfl, h1⟩ := r.early i o hi ho hli
    refine ⟨h0, hg, hfl, ?_⟩
    have hre : restr env1 (readsOf o) = restr env (readsOf o) := by
      refine restr_congr fun t ht => ?_
      by_cases hx : ∃ x ∈ ops.toList.zipIdx, quietOp x.1.op = true ∧ x.1.dst = some t
      · obtain ⟨x, hx1, hx2, hx3⟩ := hx
        have hxo := hops x hx1
        have hne : i ≠ x.2 := by
          rintro rfl
          obtain ⟨⟨oi, hoi, hqi⟩, _⟩ := r.chain_not hi
          rw [hxo] at hoi; cases hoi; rw [hx2] at hqi; cases hqi
        rcases dk.look i x.2 o x.1 ho hxo hne t hx3 (List.mem_append_right _ ht) with h2 | ⟨h2, _⟩
        · exact res.old x hx1 hx2 (r.doneQ _ _ hxo hx2 (r.down hli h2)) t hx3
        · rw [hx2] at h2; cases h2
      · exact res.other t (fun x hx1 hx2 hx3 => hx ⟨x, hx1, hx2, hx3⟩)
    rw [hre]; exact h1
  · rw [hC] at hC'; cases hC'
    refine res.looked (o, i) (inl ho) hq ?_
    unfold enabled
    rw [Bool.and_eq_true]
    constructor
    · have : Nat.land (Nat.land ((beforeL ops.toList).getD i 0) (bitsOf C)) acted = Nat.land ((beforeL ops.toList).getD i 0) (bitsOf C) := by
        apply Nat.eq_of_testBit_eq
        intro j
        show Nat.testBit (((beforeL ops.toList).getD i 0 &&& bitsOf C) &&& acted) j = Nat.testBit ((beforeL ops.toList).getD i 0 &&& bitsOf C) j
        simp only [Nat.testBit_and]
        cases h1 : Nat.testBit ((beforeL ops.toList).getD i 0) j with
        | false => rfl
        | true =>
          cases h2 : Nat.testBit (bitsOf C) j with
          | false => rfl
          | true => simp only [Bool.and_self, Bool.true_and]; exact hab.1 j h1 ((bitsOf_bit C j).1 h2)
      rw [this]; exact Nat.beq_refl _
    · cases hf : Nat.testBit (forcedBits (beforeL ops.toList) acted 0 (beforeL ops.toList)) i with
      | false => rfl
      | true =>
        exfalso
        rw [forced_any] at hf
        obtain ⟨a, b, h1, h2, h3⟩ := forced_bit acted i 0 _ hf
        have := hab.2 a (by simpa using h2)
        unfold has at this
        rw [List.getD_eq_getElem?_getD, h1] at this
        simp only [Option.getD_some] at this
        rw [h3] at this; cases this

end Go.Abs

set_option linter.unusedSimpArgs false
set_option linter.unusedVariables false
namespace Go.Abs
variable {P : Program} {ρ : Ren} {h : AHeap} {w : World}

theorem Rel.pushed (r : Rel ρ h w) (co : Obj) : Rel ρ h (pushed w co) ∧ Keeps ρ h w ρ h (pushed w co) := by
  have get : ∀ {b : Nat} {o : Obj}, w.heap[b]? = some o → (Abs.pushed w co).heap[b]? = some o := by
    intro b o hb
    have := (Array.getElem?_eq_some_iff.1 hb).1
    simp only [Abs.pushed, Array.getElem?_push]; rw [if_neg (by omega)]; exact hb
  refine ⟨⟨fun b o hb => ?_, r.inj, fun b l hl => ?_, r.fresh, r.facts⟩, .refl _, by simp [Abs.pushed], fun c hc _ => ?_, fun b o l hb hl => .inr ⟨b, o, l, hb, hl, rfl⟩, rfl, rfl, rfl⟩
  · obtain ⟨l, h1, co', h2, h3⟩ := r.obj b o hb
    exact ⟨l, h1, co', get h2, h3⟩
  · have := r.bnd b l hl; simp only [Abs.pushed, Array.size_push]; omega
  · simp only [Abs.pushed, Array.getElem?_push]; rw [if_neg (by omega)]

/-- a block that is there already, and nobody else's -/
theorem rel_adopt (r : Rel ρ h w) {o : AObj} {co : Obj} {nb : Nat} (hl : Lone ρ h w nb co) (ho : objRel (ρ.with_ h.next ⟨nb, 0, 0⟩) ⟨nb, 0, 0⟩ o co) :
    Rel (ρ.with_ h.next ⟨nb, 0, 0⟩) (h.new o).2 w ∧ (∀ c, c < w.heap.size → (∀ b o l, h.m.get b = some o → ρ.loc b = some l → l.blk ≠ c) → c ≠ nb → True) ∧ ρ.le (ρ.with_ h.next ⟨nb, 0, 0⟩) := by
  have hle : ρ.le (ρ.with_ h.next ⟨nb, 0, 0⟩) := Ren.le_with (r.fresh _ (Nat.le_refl _))
  have hlt : nb < w.heap.size := (Array.getElem?_eq_some_iff.1 hl.1).1
  have get0 : ∀ {i : Nat} {x : AObj}, i ≠ h.next → (h.new o).2.m.get i = some x → h.m.get i = some x := by
    intro i x e hx; simp only [AHeap.new, PT.get_set] at hx; rw [if_neg e] at hx; exact hx
  have loc0 : ∀ {i : Nat} {l : Loc}, i ≠ h.next → (ρ.with_ h.next ⟨nb, 0, 0⟩).loc i = some l → ρ.loc i = some l := by
    intro i l e hx; simp only [Ren.with_] at hx; rw [if_neg e] at hx; exact hx
  have locN : ∀ {l : Loc}, (ρ.with_ h.next ⟨nb, 0, 0⟩).loc h.next = some l → l = ⟨nb, 0, 0⟩ := by
    intro l hx; simp only [Ren.with_, if_true] at hx; cases hx; rfl
  refine ⟨⟨fun i x hx => ?_, fun i j x y li lj hi hj hli hlj hne => ?_, fun i li hi => ?_, fun i hi => ?_, r.facts⟩, fun _ _ _ _ => trivial, hle⟩
  · by_cases e : i = h.next
    · subst e
      simp only [AHeap.new, PT.get_set, if_true] at hx; cases hx
      exact ⟨_, by simp [Ren.with_], co, hl.1, ho⟩
    · obtain ⟨l, h1, co', h2, h3⟩ := r.obj i x (get0 e hx)
      exact ⟨l, hle.loc _ _ h1, co', h2, h3.mono hle⟩
  · by_cases ei : i = h.next
    · subst ei
      have := locN hli; subst this
      exact (hl.2 j y lj (get0 (Ne.symm hne) hj) (loc0 (Ne.symm hne) hlj)).symm
    · by_cases ej : j = h.next
      · subst ej
        have := locN hlj; subst this
        exact hl.2 i x li (get0 ei hi) (loc0 ei hli)
      · exact r.inj i j x y li lj (get0 ei hi) (get0 ej hj) (loc0 ei hli) (loc0 ej hlj) hne
  · by_cases e : i = h.next
    · subst e; have := locN hi; subst this; exact hlt
    · exact r.bnd i li (loc0 e hi)
  · simp only [AHeap.new] at hi
    show (if i = h.next then _ else ρ.loc i) = none
    rw [if_neg (by omega)]; exact r.fresh i (by omega)

/-- what a maker of memory does, whenever it is done -/
theorem alloc_split {E : Env} {ev : Operand → Value} {o : Oper} (hf : floatOp o.op = true) (hsome : (aop P E h o).isSome = true) (hev : EvOk ρ E ev) (w : World) :
    ∃ v co, (execOp ev o).run P w = .ok (.value v) (pushed w co) ∧ ∀ h0 av h', aop P E h0 o = some (.val av h') → ∃ obj, h' = (h0.new obj).2 ∧
      ∀ ρ', ρ.le ρ' → ρ'.loc h0.next = none → objRel (ρ'.with_ h0.next ⟨w.heap.size, 0, 0⟩) ⟨w.heap.size, 0, 0⟩ obj co ∧ conc (ρ'.with_ h0.next ⟨w.heap.size, 0, 0⟩) av = some v := by
  simp only [aop_eq (float_loud hf)] at hsome ⊢
  obtain ⟨dst, op, ty, pos, after, gd⟩ := o
  obtain ⟨res, he⟩ := Option.isSome_iff_exists.1 hsome
  clear hsome
  cases op <;> simp only [floatOp, Bool.false_eq_true] at hf
  case alloc t =>
    simp only [aop0] at he ⊢
    split at he
    · rename_i z n hz hn
      split at he <;> cases he
      rename_i hone
      obtain ⟨a, m, h1, h2, h3, rfl⟩ := zruns_some hz
      rw [hn] at h2; cases h2
      obtain ⟨v, hv, hc⟩ := run_zero h1
      refine ⟨.pointer (some ⟨w.heap.size, 0, none⟩), .cells v.cells t (0, 0), by simp [execOp, Instr.alloc, hv, newVar, newRow, pushed], fun h0 av h' he0 => ?_⟩
      simp only [hone, if_true, Option.some.injEq, AR.val.injEq] at he0
      obtain ⟨rfl, rfl⟩ := he0
      refine ⟨_, rfl, fun ρ' hle hn => ⟨?_, by simp [AHeap.new, conc, Ren.with_]⟩⟩
      have hcc := conc_cells (hc (ρ'.with_ h0.next ⟨w.heap.size, 0, 0⟩))
      have hsz : v.cells.size = n := by have := concL_length hcc; simp at this; omega
      refine ⟨v.cells, t, rfl, by simp [hsz], by simp, fun i x hx => ?_⟩
      simp only [AObj.at, PT.get_e] at hx
      split at hx
      · rename_i hi
        have hi := lt_of_blt hi
        simp only [show Nat.mod i n = i from Nat.mod_eq_of_lt hi, zeroAt_runs] at hx
        obtain ⟨u, hu, hu'⟩ := concL_get hcc i x hx
        exact ⟨runs_one hone _ (List.mem_of_getElem? hx), u, hu, by simpa using hu'⟩
      · cases hx
    · cases he
  case buildSlice t n ps =>
    simp only [aop0] at he ⊢
    split at he
    · rename_i e hu
      split at he
      · rename_i s z qs hs hz hq
        split at he
        · rename_i hn
          split at he
          · rename_i l hl
            split at he <;> cases he
            rename_i hone
            obtain ⟨zv, hz1, hz2⟩ := run_zero hz
            have hp := hev.parts hq
            have hzc := conc_cells (hz2 ρ)
            obtain ⟨vl, h1, h2⟩ := fill_run (ρ := ρ) qs _ _ (List.flatten (List.replicate n zv.cells.toList)).toArray l hl hp (by simpa using concL_flatten hzc n)
            refine ⟨.slice (some ⟨w.heap.size, 0, none⟩) n n, .cells vl e (0, 0), ?_, fun h0 av h' he0 => ?_⟩
            · have hzs : zv.cells.size = s := by have := concL_length hzc; simp at this; omega
              subst hzs
              have hbig : ¬ (n * zv.cells.size > 2 ^ 24) := by have := hn.1; omega
              simp only [execOp, Instr.buildSlice, Sem.run_bind, run_und hu, Result.andThen_ok, run_size hs]
              rw [if_neg hbig]
              have h1' : ∀ c, c = (List.flatten (List.replicate n zv.cells.toList)).toArray → Instr.fill (fun i => some (i * zv.cells.size, zv.cells.size)) c (List.map (fun x => (x.fst, ev x.snd)) ps.toList) = some vl := by
                rintro c rfl; exact h1
              simp only [Array.toList_map] at *
              split
              · rename_i h0
                have := zeroCells_flatten zv.cells n
                simp only [Sem.run_bind, Sem.run_pure, Result.andThen_ok]
                rw [h1' _ (by
                  apply Array.ext'
                  rw [← this, h0]; simp)]
                simp [newRow, pushed]
              · simp only [Sem.run_bind, Sem.run_pure, Result.andThen_ok, hz1]
                rw [h1' _ (by
                  apply Array.ext'
                  exact zeroCells_flatten zv.cells n)]
                simp [newRow, pushed]
            · try simp only [hu, hs, hz, hq, hl] at he0
              rw [if_pos hn, if_pos hone] at he0
              simp only [Option.some.injEq, AR.val.injEq] at he0
              obtain ⟨rfl, rfl⟩ := he0
              refine ⟨_, rfl, fun ρ' hle hnn => ⟨?_, by simp [newRowA, AHeap.new, conc, Ren.with_]⟩⟩
              have hle2 : ρ.le (ρ'.with_ h0.next ⟨w.heap.size, 0, 0⟩) := hle.trans (Ren.le_with hnn)
              refine ⟨vl, e, rfl, by have := concL_length h2; simp at this ⊢; omega, by simp, fun j a ha => ?_⟩
              simp only [AObj.at, PT.get_setL, PT.get_e, zeroAt] at ha
              split at ha
              · rename_i hj
                have hj := lt_of_blt hj
                simp only [Nat.zero_le, Nat.zero_add, hj, and_self, if_true, Nat.sub_zero] at ha
                obtain ⟨x, hx⟩ : ∃ x, l[j]? = some x := ⟨l[j], List.getElem?_eq_getElem hj⟩
                simp only [hx, Option.some.injEq] at ha; subst ha
                obtain ⟨u, hu1, hu2⟩ := concL_get h2 _ _ hx
                exact ⟨List.all_eq_true.1 hone _ (List.mem_of_getElem? hx), u, conc_mono hle2 _ _ hu1, by simpa using hu2⟩
              · cases ha
          · cases he
        · cases he
      · cases he
    · cases he

end Go.Abs

set_option linter.unusedSimpArgs false
set_option linter.unusedVariables false
namespace Go.Abs
variable {P : Program} {fl cl : Nat} {ρ : Ren} {h : AHeap} {w : World} {ops : Array Oper} {n : Nat} {env : Env} {tmps : Array Value} {chain : List Nat} {acted seen : Nat} {listed : Array Bool}

/-- the head of the chain is not done yet -/
def Ahead (chain : List Nat) (listed : Array Bool) : Prop := ∀ c is, chain = c :: is → listed.getD c false = false

theorem DrawRel.not_chain (r : DrawRel P fl cl ρ h w ops n env tmps chain acted seen listed) (hch : Ahead chain listed) {i : Nat} {o : Oper} (ho : ops[i]? = some o)
    (hp : ∀ e ∈ o.after, Region.binds .any e = true → listed.getD e.on false = true) {j : Nat} (hj : has (beforeL ops.toList) i j = true) : j ∉ chain := by
  intro hm
  have dk := drawOk_ok r.ok
  have hjl := r.pred ho hp hj
  cases chain with
  | nil => cases hm
  | cons c is =>
    have hc := hch c is rfl
    rcases List.mem_cons.1 hm with rfl | hm'
    · rw [hc] at hjl; cases hjl
    · obtain ⟨pre, f1, f2⟩ := r.full
      have hs := chain_sorted f1
      rw [List.pairwise_append, List.pairwise_cons] at hs
      have hlt : c < j := hs.2.1.1 j hm'
      obtain ⟨⟨p, hpj, hqj⟩, _⟩ := r.chain_not hm
      obtain ⟨⟨q, hqc, hqq⟩, _⟩ := r.chain_not (i := c) List.mem_cons_self
      obtain ⟨hf, _, _, _⟩ := r.early j p hm hpj hjl
      have hno : has (beforeL ops.toList) j c = false := by
        cases hb : has (beforeL ops.toList) j c with
        | false => rfl
        | true => rw [r.down hjl hb] at hc; cases hc
      have := dk.float j c i p q hpj hf hqc hqq hlt hno (Array.getElem?_eq_some_iff.1 ho).1 hj
      rw [r.pred ho hp this] at hc; cases hc

theorem DrawRel.reads (r : DrawRel P fl cl ρ h w ops n env tmps chain acted seen listed) (hch : Ahead chain listed) {i : Nat} {o : Oper} (ho : ops[i]? = some o) (hi : listed.getD i true = false)
    (hp : ∀ e ∈ o.after, Region.binds .any e = true → listed.getD e.on false = true) {t : Tmp} (ht : t ∈ looksOf ops o) {a : AV} (ha : env.get t = some a) : ∃ v, conc ρ a = some v ∧ tmps[t]? = some v := by
  have dk := drawOk_ok r.ok
  obtain ⟨hif, his⟩ := getD_tf hi
  refine r.sync t a ha fun j p hj hd => ?_
  by_cases hji : j = i
  · subst hji
    rw [ho] at hj; cases hj
    refine ⟨fun hs => ?_, fun hl => by rw [hif] at hl; cases hl⟩
    obtain ⟨o', ho', hq⟩ := r.seenQ j hs
    rw [ho] at ho'; cases ho'
    obtain ⟨t', ht', hn⟩ := dk.own j o ho hq
    rw [hd] at ht'; cases ht'
    exact absurd ht hn
  · rcases dk.look i j o p ho hj (Ne.symm hji) t hd ht with h1 | ⟨h1, h2⟩
    · exact ⟨fun _ => r.pred ho hp h1, fun _ => r.not_chain hch ho hp h1⟩
    · refine ⟨fun hs => ?_, fun hl => ?_⟩
      · obtain ⟨o', ho', hq⟩ := r.seenQ j hs
        rw [hj] at ho'; cases ho'; rw [h1] at hq; cases hq
      · rw [r.down hl h2] at hif; cases hif

theorem DrawRel.able (r : DrawRel P fl cl ρ h w ops n env tmps chain acted seen listed) (hch : Ahead chain listed) {i : Nat} {o : Oper} (ho : ops[i]? = some o) (hi : listed.getD i true = false)
    (hp : ∀ e ∈ o.after, Region.binds .any e = true → listed.getD e.on false = true) {C : List Nat} (hC : drawChain ops = some C) : Able ops C acted i := by
  obtain ⟨hif, _⟩ := getD_tf hi
  refine ⟨fun j hj hm => ?_, fun a ha => ?_⟩
  · obtain ⟨pre, f1, f2⟩ := r.full
    rw [hC] at f1; cases f1
    rcases List.mem_append.1 hm with h1 | h1
    · exact (f2 j).2 h1
    · exact absurd h1 (r.not_chain hch ho hp hj)
  · cases hb : has (beforeL ops.toList) a i with
    | false => rfl
    | true => rw [r.down (r.acts a ha) hb] at hif; cases hif

theorem DrawRel.evOk (r : DrawRel P fl cl ρ h w ops n env tmps chain acted seen listed) (hch : Ahead chain listed) {i : Nat} {o : Oper} (ho : ops[i]? = some o) (hi : listed.getD i true = false)
    (hp : ∀ e ∈ o.after, Region.binds .any e = true → listed.getD e.on false = true) {f : Frame} (hf : f.tmps = tmps) : EvOk ρ (restr env (readsOf o)) f.eval := by
  refine EvOk.of fun t a ha => ?_
  rw [restr_get] at ha
  split at ha
  · rename_i ht; rw [hf]; exact r.reads hch ho hi hp (List.mem_append_right _ ht) ha
  · cases ha

/-- a maker of memory is done ahead of its time -/
theorem DrawRel.float {c : Nat} {is : List Nat} (r : DrawRel P fl cl ρ h w ops n env tmps (c :: is) acted seen listed) {i : Nat} (hi : listed.getD i true = false) (hm : i ∈ is) {o : Oper} (ho : ops[i]? = some o)
    (hf : floatOp o.op = true) (hg : o.guard = none) (hfl : floater ops (beforeL ops.toList) o i = true)
    (hp : ∀ e ∈ o.after, Region.binds .any e = true → listed.getD e.on false = true) {d : Tmp} (hd : o.dst = some d) (hdn : d < n) {v : Value} (he : Early P fl cl ρ h w o (restr env (readsOf o)) v) :
    DrawRel P fl cl ρ h w ops n env (tmps.setIfInBounds d v) (c :: is) acted seen (listed.setIfInBounds i true) := by
  obtain ⟨hif, his⟩ := getD_tf hi
  have dk := drawOk_ok r.ok
  have g := fun (j : Nat) (d : Bool) => getD_set (j := j) his d
  refine ⟨r.ok, r.full, by simp [r.lsize], fun j p hj hl e he hb => ?_, fun j hj => ?_, r.seenQ, fun j p hj hq' hl => ?_, by simp [r.size], fun t a ha hsy => ?_, fun j p hj hpj hl => ?_⟩
  · rw [g] at hl ⊢
    split
    · rfl
    · by_cases hji : j = i
      · subst hji; rw [ho] at hj; cases hj; exact hp e he hb
      · rw [if_neg hji] at hl; exact r.closed j p hj hl e he hb
  · rw [g]; split
    · rfl
    · exact r.acts j hj
  · rw [g] at hl
    by_cases hji : j = i
    · subst hji
      rw [ho] at hj; cases hj
      obtain ⟨⟨q, hq1, hq2⟩, _⟩ := r.chain_not (List.mem_cons_of_mem _ hm)
      rw [ho] at hq1; cases hq1; rw [hq2] at hq'; cases hq'
    · rw [if_neg hji] at hl; exact r.doneQ j p hj hq' hl
  · by_cases ht : t = d
    · subst ht
      exact absurd (List.mem_cons_of_mem _ hm) ((hsy i o ho hd).2 (by rw [g, if_pos rfl]))
    · rw [Array.getElem?_setIfInBounds, if_neg (Ne.symm ht)]
      refine r.sync t a ha fun j p hj hdj => ?_
      have hji : j ≠ i := by rintro rfl; rw [ho] at hj; cases hj; rw [hd] at hdj; cases hdj; exact ht rfl
      have := hsy j p hj hdj
      rw [g, if_neg hji] at this
      exact this
  · by_cases hji : j = i
    · subst hji
      rw [ho] at hpj; cases hpj
      refine ⟨hf, hg, hfl, ?_⟩
      simp only [hd]
      exact ⟨hdn, v, by rw [Array.getElem?_setIfInBounds]; simp [r.size, hdn], he⟩
    · rw [g, if_neg hji] at hl
      obtain ⟨h0, hgd, hfl', h1⟩ := r.early j p hj hpj hl
      refine ⟨h0, hgd, hfl', ?_⟩
      cases hdj : p.dst with
      | none => simpa [hdj] using h1
      | some d' =>
        simp only [hdj] at h1 ⊢
        obtain ⟨h2, v', h3, h4⟩ := h1
        have hne : o.dst ≠ some d' := dk.dst i j o p ho hpj (Ne.symm hji) d' hdj
        refine ⟨h2, v', ?_, h4⟩
        rw [Array.getElem?_setIfInBounds, if_neg (by rintro rfl; exact hne hd)]; exact h3

/-- the machine does what the model has done already -/
theorem DrawRel.adopt {c : Nat} {is : List Nat} (r : DrawRel P fl cl ρ h w ops n env tmps (c :: is) acted seen listed) (hl : listed.getD c false = true) {o : Oper} (ho : ops[c]? = some o) {ρ' : Ren} (hle : ρ.le ρ') {h' : AHeap} {w' : World} {cl' : Nat}
    {av : AV} {v : Value} {env' : Env} (hput : match o.dst with | none => env' = env | some d => env' = env.set d av ∧ conc ρ' av = some v ∧ tmps[d]? = some v) :
    DrawRel P fl cl' ρ' h' w' ops n env' tmps is (Nat.lor acted (2 ^ c)) seen listed := by
  have dk := drawOk_ok r.ok
  obtain ⟨pre, f1, f2⟩ := r.full
  have hs := chain_sorted f1
  rw [List.pairwise_append, List.pairwise_cons] at hs
  refine ⟨r.ok, ⟨pre ++ [c], by simpa using f1, fun j => ?_⟩, r.lsize, r.closed, fun j hj => ?_, r.seenQ, r.doneQ, r.size, fun t a ha hsy => ?_, fun j p hj hpj hlj => ?_⟩
  · rw [bit_or, f2]; simp
  · rcases (bit_or _ _ _).1 hj with h1 | rfl
    · exact r.acts j h1
    · exact hl
  · by_cases ht : o.dst = some t
    · simp only [ht] at hput
      obtain ⟨rfl, h1, h2⟩ := hput
      rw [PT.get_set, if_pos rfl] at ha; cases ha
      exact ⟨v, h1, h2⟩
    · have he : env'.get t = env.get t := by
        cases hd : o.dst with
        | none => simp only [hd] at hput; rw [hput]
        | some d =>
          simp only [hd] at hput
          rw [hput.1, PT.get_set, if_neg]
          rintro rfl; exact ht hd
      rw [he] at ha
      obtain ⟨v', h1, h2⟩ := r.sync t a ha fun j p hj hdj => by
        have hjc : j ≠ c := by rintro rfl; rw [ho] at hj; cases hj; exact ht hdj
        have := hsy j p hj hdj
        exact ⟨this.1, fun hl => by simp only [List.mem_cons, not_or]; exact ⟨hjc, this.2 hl⟩⟩
      exact ⟨v', conc_mono hle _ _ h1, h2⟩
  · exfalso
    obtain ⟨_, _, h1, _⟩ := r.early j p (List.mem_cons_of_mem _ hj) hpj hlj
    obtain ⟨_, _, h2, _⟩ := r.early c o List.mem_cons_self ho hl
    have := dk.one j c p o hpj ho h1 h2
    have := hs.2.1.1 j hj
    omega

/-- the model's way to the next acting one -/
theorem drain (hN : NoNum P) {cs : List Frame} {k' : List Item} {C : List Nat} (hC : drawChain ops = some C)
    (looked : ∀ (i : Nat) (o : Oper), ops[i]? = some o → quietOp o.op = true → Able ops C acted i → LookedAt P ops env h n o ∧ Nat.testBit seen i = true)
    (floats : ∀ c is, chain = c :: is → ∀ i ∈ is, ∀ o, ops[i]? = some o → floatOp o.op = true → (∀ j, has (beforeL ops.toList) i j = true → j ∈ C → Nat.testBit acted j = true) → ∃ d, o.dst = some d ∧ d < n ∧ (aop P (restr env (readsOf o)) h o).isSome = true) :
    ∀ (todo : List Nat) (f : Frame) (ρ : Ren) (w : World) (listed : Array Bool), f.mode = .run → f.todo = .inRegion ops todo :: k' → fl ≤ w.heap.size → Rel ρ h w → DrawRel P fl w.heap.size ρ h w ops n env f.tmps chain acted seen listed →
      leftOf ops listed todo → Ahead chain listed →
      ∃ ρ' w' tmps' listed' todo', Steps P (lone f cs w) (lone { f with tmps := tmps', todo := .inRegion ops todo' :: k' } cs w') ∧ Rel ρ' h w' ∧ Keeps ρ h w ρ' h w' ∧ DrawRel P fl w'.heap.size ρ' h w' ops n env tmps' chain acted seen listed' ∧
        leftOf ops listed' todo' ∧ Ahead chain listed' ∧ (match chain with | [] => todo' = [] | c :: _ => ∃ rest, todo' = c :: rest) := by
  intro todo
  induction todo with
  | nil =>
    intro f ρ w listed hm ht hfl hr r left hch
    have hall := left_nil (drawOk_ok r.ok) r.lsize left
    refine ⟨ρ, w, f.tmps, listed, [], ?_, hr, .refl _ _ _, r, left, hch, ?_⟩
    · rw [← ht]; exact .refl _ _
    · cases chain with
      | nil => rfl
      | cons c is =>
        exfalso
        obtain ⟨⟨p, hp, _⟩, _⟩ := r.chain_not (i := c) List.mem_cons_self
        have := hall c (Array.getElem?_eq_some_iff.1 hp).1
        rw [hch c is rfl] at this; cases this
  | cons i rest ih =>
    intro f ρ w listed hm ht hfl hr r left hch
    obtain ⟨hi, ⟨o, ho, hp⟩, left'⟩ := left_cons r.lsize left
    obtain ⟨hif, his⟩ := getD_tf hi
    have dk := drawOk_ok r.ok
    have hev := r.evOk hch ho hi hp (f := f) rfl
    have g := fun (j : Nat) (d : Bool) => getD_set (j := j) his d
    by_cases hq : quietOp o.op = true
    · -- a quiet one
      obtain ⟨⟨d, v, hd, hdn, hv, wn, hwn, hw0, hw1⟩, hsn⟩ := looked i o ho hq (r.able hch ho hi hp hC)
      have hwa : Region.wanted o (yielded ops f.tmps) = wn := wanted_ok hwn fun t ht a ha => r.reads hch ho hi hp (List.mem_append_left _ ht) ha
      have hnd : f.roundOf = none ∨ ∀ c, o.op ≠ .defer c := .inr fun c hc => by rw [hc] at hq; cases hq
      have hni : i ∉ chain := fun hc => by
        obtain ⟨⟨oi, hoi, hqi⟩, _⟩ := r.chain_not hc
        rw [ho] at hoi; cases hoi; rw [hq] at hqi; cases hqi
      have hch' : Ahead chain (listed.setIfInBounds i true) := fun c is he => by
        rw [g, if_neg]
        · exact hch c is he
        · rintro rfl; exact hni (he ▸ List.mem_cons_self)
      have fin : ∀ cv, f.finish cv = { f with tmps := f.tmps.setIfInBounds d cv, todo := .inRegion ops rest :: k' } := fun cv => by rw [finish_at_op ht ho]; simp only [hd]
      cases wn with
      | false =>
        have hu := hw0 rfl; subst hu
        have r' := r.quiet hi ho hq hsn hp hd hdn hv (cv := undef) (by rfl)
        obtain ⟨ρ', w', tmps', listed', todo', a1, a2, a3, a4, a5, a6, a7⟩ := ih (f.finish undef) ρ w _ (by rw [fin]; exact hm) (by rw [fin]) hfl hr (by rw [fin]; exact r') left' hch'
        refine ⟨ρ', w', tmps', listed', todo', .head (op_unwanted hm ht ho hwa) ?_, a2, a3, a4, a5, a6, a7⟩
        rw [fin] at a1 ⊢; exact a1
      | true =>
        obtain ⟨h', hres⟩ := hw1 rfl
        have := quiet_same hq hres; subst this
        obtain ⟨ρ1, cv, w1, hrun, hcv, hr1, hk1⟩ := aop_ok hN hr hev o hres
        have hk1B := hk1.toB (Nat.le_refl _)
        have r1 : DrawRel P fl w1.heap.size ρ1 h' w1 ops n env (f.tmps.setIfInBounds d cv) chain acted seen (listed.setIfInBounds i true) := ((r.mono hk1B (Nat.le_refl _)).ceil (Nat.le_refl _)).quiet hi ho hq hsn hp hd hdn hv hcv
        obtain ⟨ρ', w', tmps', listed', todo', a1, a2, a3, a4, a5, a6, a7⟩ := ih (f.finish cv) ρ1 w1 _ (by rw [fin]; exact hm) (by rw [fin]) (Nat.le_trans hfl hk1.size) hr1 (by rw [fin]; exact r1) left' hch'
        refine ⟨ρ', w', tmps', listed', todo', ?_, a2, hk1.trans a3, a4, a5, a6, a7⟩
        have hst : step P (lone f cs w) = .next (lone (f.finish cv) cs w1) := by
          rcases hrun with hrun | ⟨hrun, rfl⟩
          · exact op_value hm ht ho hwa hnd hrun
          · exact op_skip hm ht ho hwa hnd hrun
        refine .head hst ?_
        rw [fin] at a1 ⊢; exact a1
    · -- an acting one
      have hq : quietOp o.op = false := by simpa using hq
      have hiC : i ∈ C := (chain_mem hC i).2 ⟨o, ho, hq⟩
      obtain ⟨pre, f1, f2⟩ := r.full
      rw [hC] at f1
      have f1 := Option.some.inj f1
      have him : i ∈ chain := by
        rw [f1] at hiC
        rcases List.mem_append.1 hiC with h1 | h1
        · rw [r.acts i ((f2 i).2 h1)] at hif; cases hif
        · exact h1
      cases chain with
      | nil => cases him
      | cons c is =>
        rcases List.mem_cons.1 him with rfl | him'
        · refine ⟨ρ, w, f.tmps, listed, i :: rest, ?_, hr, .refl _ _ _, r, left, hch, rest, rfl⟩
          rw [← ht]; exact .refl _ _
        · have hs := chain_sorted hC
          rw [f1, List.pairwise_append, List.pairwise_cons] at hs
          have hlt : c < i := hs.2.1.1 i him'
          obtain ⟨⟨p, hpc, hqc⟩, _⟩ := r.chain_not (i := c) List.mem_cons_self
          have hno : has (beforeL ops.toList) i c = false := by
            cases hb : has (beforeL ops.toList) i c with
            | false => rfl
            | true => have := r.pred ho hp hb; rw [hch c is rfl] at this; cases this
          obtain ⟨hf, hg⟩ : floatOp o.op = true ∧ o.guard = none := by
            rcases dk.chain i c o p ho hpc hq hqc hlt with h1 | h1
            · rw [hno] at h1; cases h1
            · exact h1
          obtain ⟨d, hd, hdn, hsome⟩ := floats c is rfl i him' o ho hf (r.able hch ho hi hp hC).1
          have hfl2 : floater ops (beforeL ops.toList) o i = true := by
            unfold floater
            rw [Bool.and_eq_true]
            refine ⟨hf, List.any_eq_true.2 ⟨c, List.mem_range.2 hlt, ?_⟩⟩
            simp only [hpc, hqc, hno, Bool.not_false, Bool.and_self]
          obtain ⟨v, co, hrun, hearly⟩ := alloc_split hf hsome hev w
          obtain ⟨hr1, hk1⟩ := hr.pushed co
          have hsz : (pushed w co).heap.size = w.heap.size + 1 := by simp [pushed]
          have he : Early P fl (pushed w co).heap.size ρ h (pushed w co) o (restr env (readsOf o)) v := by
            refine ⟨w.heap.size, co, ⟨hfl, by omega⟩, ⟨by show (w.heap.push co)[w.heap.size]? = some co; exact Array.getElem?_push_size, fun b o l hb hl => ?_⟩, hearly⟩
            have := hr.bnd b l hl; omega
          have r1 := ((r.mono (hk1.toB (Nat.le_refl _)) (Nat.le_refl _)).ceil (Nat.le_refl _)).float hi him' ho hf hg hfl2 hp hd hdn he
          have hch' : Ahead (c :: is) (listed.setIfInBounds i true) := fun c' is' he => by
            cases he
            rw [g, if_neg (by omega)]; exact hch c is rfl
          have fin : f.finish v = { f with tmps := f.tmps.setIfInBounds d v, todo := .inRegion ops rest :: k' } := by rw [finish_at_op ht ho]; simp only [hd]
          have hwa : Region.wanted o (yielded ops f.tmps) = true := by simp [Region.wanted, hg]
          have hnd : f.roundOf = none ∨ ∀ c, o.op ≠ .defer c := .inr fun c hc => by rw [hc] at hf; cases hf
          obtain ⟨ρ', w', tmps', listed', todo', a1, a2, a3, a4, a5, a6, a7⟩ := ih (f.finish v) ρ (pushed w co) _ (by rw [fin]; exact hm) (by rw [fin]) (Nat.le_trans hfl hk1.size) hr1 (by rw [fin]; exact r1) left' hch'
          refine ⟨ρ', w', tmps', listed', todo', .head (op_value hm ht ho hwa hnd hrun) ?_, a2, hk1.trans a3, a4, a5, a6, a7⟩
          rw [fin] at a1 ⊢; exact a1

end Go.Abs

set_option linter.unusedSimpArgs false
set_option linter.unusedVariables false
namespace Go.Abs
variable {P : Program} {B fl : Nat} {ρ : Ren} {h : AHeap} {w : World} {base : List Frame}

def goneTo (f : Frame) (cs : List Frame) (w : World) : GStep := .go { frame := f, callers := cs, status := .running, dying := none } w

theorem exec_step {f f' : Frame} {cs cs' : List Frame} {w w' : World} (hm : f.mode = .run) (hx : (stepG.exec P true true f cs none w).bare = goneTo f' cs' w') : step P (lone f cs w) = .next (lone f' cs' w') := by
  refine step_lone_go ?_
  obtain ⟨fn, tmps, todo, defers, mode, kind, roundOf⟩ := f
  simp only at hm; subst hm
  simpa [stepG, goneTo] using hx

theorem unwind_step {f f' : Frame} {cs cs' : List Frame} {w w' : World} (hm : f.mode ≠ .run) (hx : (unwind P true f cs none w).bare = goneTo f' cs' w') : step P (lone f cs w) = .next (lone f' cs' w') := by
  refine step_lone_go ?_
  obtain ⟨fn, tmps, todo, defers, mode, kind, roundOf⟩ := f
  cases mode with
  | run => exact absurd rfl hm
  | returning => simpa [stepG, goneTo] using hx
  | panicking c => simpa [stepG, goneTo] using hx

/-! returning -/
theorem FrRel.lift {cl : Nat} {a : AFrame} {f : Frame} (r : FrRel P false fl cl ρ h w a f) (hm : a.mode ≠ .run) : FrBase ρ a f ∧ EnvRel ρ a.n a.env f.tmps ∧ todoRel ρ a.todo f.todo := by
  cases r with
  | plain b e t => exact ⟨b, e, t⟩
  | draw ht => cases ht
  | drawn _ hm' => exact absurd hm' hm

theorem concP_goexit {c : List APanic} {d : List PanicEntry} (hc : concP ρ c d) : d.dropWhile (!·.goexit) = [] := by
  induction c generalizing d with
  | nil => cases d with
    | nil => rfl
    | cons => exact hc.elim
  | cons a c ih => cases d with
    | nil => exact hc.elim
    | cons e d =>
      obtain ⟨_, _, h3, h4⟩ := hc
      rw [List.dropWhile_cons, h3]; simp only [Bool.not_false, if_true]; exact ih h4

theorem return_ok {a : AFrame} {f : Frame} {cs : List AFrame} {ccs : List Frame} {v : AV} {cv : Value} {m' : AM} (b : FrBase ρ a f) (hr : Rel ρ h w) (hfl : fl ≤ w.heap.size) (hcs : frsRel P B ρ h w fl cs ccs)
    (hA : returnA a cs h v = some m') (hv : conc ρ v = some cv) :
    m'.h = h ∧ ∃ f' ccs', (doReturn P true f (ccs ++ base) none cv w).bare = goneTo f' (ccs' ++ base) w ∧ MRel P B ρ m' f' ccs' w := by
  unfold returnA at hA
  cases cs with
  | nil => cases hA
  | cons c rest =>
    cases ccs with
    | nil => exact hcs.elim
    | cons cc crest =>
      obtain ⟨fl1, h1, h2, h3⟩ := hcs
      simp only at hA
      cases hd : a.deferred with
      | false =>
        have hk : f.kind = .normal := by have := b.kind; rw [hd] at this; simpa using this
        simp only [hd] at hA
        split at hA <;> cases hA
        rename_i c' hc'
        refine ⟨rfl, cc.finish cv, crest, ?_, hr, fl1, Nat.le_trans h1 hfl, (finish_ok h2 hc' hv).ceil (Nat.le_refl _), h3⟩
        simp [doReturn, hk, goneTo]
      | true =>
        have hk : f.kind = .deferred := by have := b.kind; rw [hd] at this; simpa using this
        simp only [hd] at hA
        have hcm := h2.base.mode
        split at hA
        · rename_i v0 older hmode
          cases hA
          obtain ⟨bc, ec, tc⟩ := h2.lift (by rw [hmode]; simp)
          rw [hmode] at hcm
          obtain ⟨d, hd1, hd2⟩ := hcm
          cases d with
          | nil => exact hd1.elim
          | cons e es =>
            obtain ⟨_, g2, g3, g4⟩ := hd1
            have hdw := concP_goexit g4
            refine ⟨rfl, { cc with mode := .returning }, crest, ?_, hr, fl1, Nat.le_trans h1 hfl, .plain ⟨bc.fn, bc.kind, bc.round, bc.defers, rfl⟩ ec tc, h3⟩
            obtain ⟨ev, er, eg⟩ := e
            simp only at g2 g3; subst g2; subst g3
            simp [doReturn, hk, goneTo, hd2, hdw]
        · cases hA
        · rename_i hn1 hn2
          cases hA
          obtain ⟨bc, ec, tc⟩ := h2.lift (fun e => hn2 e)
          refine ⟨rfl, cc, crest, ?_, hr, fl1, Nat.le_trans h1 hfl, .plain bc ec tc, h3⟩
          cases hmode : c.mode with
          | run => exact absurd hmode hn2
          | returning => rw [hmode] at hcm; simp only [modeRel] at hcm; simp [doReturn, hk, goneTo, hcm]
          | panicking l =>
            rw [hmode] at hcm
            obtain ⟨d, hd1, hd2⟩ := hcm
            cases l with
            | nil => cases d with
              | nil => simp [doReturn, hk, goneTo, hd2]
              | cons => exact hd1.elim
            | cons p l => cases d with
              | nil => exact hd1.elim
              | cons e es =>
                obtain ⟨_, g2, g3, g4⟩ := hd1
                obtain ⟨ev, er, eg⟩ := e
                obtain ⟨pv, pr⟩ := p
                cases pr with
                | true => exact absurd hmode (hn1 pv l)
                | false => simp only at g2 g3; subst g2; subst g3; simp [doReturn, hk, goneTo, hd2]

/-! leaving -/
def leaveC (P : Program) (fr : Frame) (callers : List Frame) (w : World) (jump : Option Code) : GStep :=
  match fr.roundOf with
  | none => if jump matches none | some .ret then goneTo { fr with mode := .returning } callers w else .ended (.stuck "exit, goto: no such block or label" (fr.pos P)) w
  | some l => match (Instr.endRound l jump).run P w with
    | .ok v w => doReturn P true fr callers none v w
    | .halt _ w => .ended (.stuck "range over a function: no such loop" (fr.pos P)) w

theorem Rel.loop (r : Rel ρ h w) {l : Nat} {st : LoopState} {pend : Option Code} {fn n : Nat} {env : PT AV} {params : List Nat} {assign body : Code} {ds : Nat} (hl : h.m.get l = some (.loop st pend fn n env params assign body ds)) :
    ∃ lc tmps ld, ρ.loc l = some lc ∧ ρ.loc ds = some ld ∧ EnvRel ρ n env tmps ∧ w.heap[lc.blk]? = some (.loop { state := st, pending := pend, fn, tmps, params := params.toArray, assign, body, defers := ld.blk }) := by
  obtain ⟨lc, h1, co, h2, h3⟩ := r.obj l _ hl
  obtain ⟨tmps, ld, h4, h5, rfl⟩ := h3
  exact ⟨lc, tmps, ld, h1, h4, h5, h2⟩

theorem getLoop_run {b : Nat} {r : Loop} (hb : w.heap[b]? = some (.loop r)) : (Instr.getLoop b).run P w = .ok r w := by
  simp [Instr.getLoop, getObj, Sem.run, hb]
theorem setObj_loop {b : Nat} {r : Loop} (hb : w.heap[b]? = some (.loop r)) (o : Obj) : (setObj b o).run P w = .ok () (put w b o) := by
  simp [setObj, Sem.run, hb, put]
theorem endRound_run {b : Nat} {r : Loop} (hb : w.heap[b]? = some (.loop r)) (jump : Option Code) :
    (Instr.endRound b jump).run P w = .ok (.bool jump.isNone) (put w b (.loop { r with state := if jump.isNone then .ready else .done, pending := jump })) := by
  simp [Instr.endRound, Sem.run_bind, getLoop_run hb, setObj_loop hb]

theorem round_ok {a : AFrame} {f : Frame} {cs : List AFrame} {ccs : List Frame} {m' : AM} {jump : Option Code} (b : FrBase ρ a f) (hm : f.mode = .run)
    (hr : Rel ρ h w) (hfl : fl ≤ w.heap.size) (hcs : frsRel P B ρ h w fl cs ccs) {l : Nat} (hro : a.roundOf = some l) {st : LoopState} {pend : Option Code} {fn n : Nat} {env : PT AV} {params : List Nat} {assign body : Code} {ds : Nat}
    (hl : h.m.get l = some (.loop st pend fn n env params assign body ds)) {st' : LoopState} (hst : (if jump.isNone then LoopState.ready else .done) = st')
    (hA : returnA a cs ⟨h.m.set l (.loop st' jump fn n env params assign body ds), h.next, h.facts⟩ (.bool jump.isNone) = some m')
    (hx : (stepG.exec P true true f (ccs ++ base) none w).bare = (leaveC P f (ccs ++ base) w jump).bare) : StepOk P B base ρ ⟨a, cs, h⟩ m' f ccs w := by
  obtain ⟨lc, hlc, hcr⟩ : ∃ lc, ρ.loc l = some lc ∧ f.roundOf = some lc.blk := by have := b.round; rw [hro] at this; exact this
  obtain ⟨lc', tmps, ld, g1, g2, g3, g4⟩ := hr.loop hl
  rw [hlc] at g1; cases g1
  obtain ⟨hr1, hk1⟩ := rel_put hr hl hlc (o' := .loop st' jump fn n env params assign body ds)
    (co' := .loop { state := st', pending := jump, fn, tmps, params := params.toArray, assign, body, defers := ld.blk }) ⟨tmps, ld, g2, g3, rfl⟩
  have hkB := hk1.toB (Nat.le_refl _)
  obtain ⟨hh, f', ccs', q1, q2⟩ := return_ok (base := base) b hr1 (Nat.le_trans hfl hk1.size) (frsRel.mono hkB hfl hcs) hA (cv := .bool jump.isNone) rfl
  refine ⟨ρ, f', ccs', _, .one (exec_step hm ?_), q2, ?_⟩
  · rw [hx]
    unfold leaveC
    simp only [hcr, endRound_run g4, hst]
    exact q1
  · rw [hh]; exact (hk1.toB (Nat.le_trans (frsRel.low hcs) hfl))

theorem leave_ok {a : AFrame} {f : Frame} {cs : List AFrame} {ccs : List Frame} {m' : AM} {jump : Option Code} (b : FrBase ρ a f) (ha : a.mode = .run) (henv : EnvRel ρ a.n a.env f.tmps) (htodo : todoRel ρ a.todo f.todo)
    (hr : Rel ρ h w) (hfl : fl ≤ w.heap.size) (hcs : frsRel P B ρ h w fl cs ccs) (hA : leaveA a cs h jump = some m')
    (hx : (stepG.exec P true true f (ccs ++ base) none w).bare = (leaveC P f (ccs ++ base) w jump).bare) : StepOk P B base ρ ⟨a, cs, h⟩ m' f ccs w := by
  have hm : f.mode = .run := by have := b.mode; rw [ha] at this; exact this
  unfold leaveA at hA
  split at hA
  · rename_i hro
    have hcr : f.roundOf = none := by have := b.round; rw [hro] at this; exact this
    have key : (jump = none ∨ jump = some .ret) → m' = ⟨{ a with mode := .returning }, cs, h⟩ → StepOk P B base ρ ⟨a, cs, h⟩ m' f ccs w := by
      intro hj he
      subst he
      refine ⟨ρ, { f with mode := .returning }, ccs, w, .one (exec_step hm ?_), ⟨hr, fl, hfl, .plain ⟨b.fn, b.kind, b.round, b.defers, rfl⟩ henv htodo, hcs⟩, .refl _ _ _ _⟩
      rw [hx]
      rcases hj with rfl | rfl <;> simp [leaveC, hcr, goneTo]
    split at hA
    · cases hA; exact key (.inl rfl) rfl
    · cases hA; exact key (.inr rfl) rfl
    · cases hA
  · rename_i l hro
    split at hA
    case h_2 => cases hA
    rename_i st pend fn n env params assign body ds hl
    cases jump with
    | none => exact round_ok b hm hr hfl hcs hro hl (st' := .ready) rfl hA hx
    | some j => exact round_ok b hm hr hfl hcs hro hl (st' := .done) rfl hA hx

end Go.Abs

