/- A machine in plain words for the model, each of its steps some steps of the model. -/
import Derived.Test.YtnpcbokncacbjaaGreatAj
import Derived.KernelRfl
set_option linter.all false
set_option linter.unusedVariables false
set_option linter.unusedSimpArgs false
namespace Go.Abs.T
noncomputable section

/-! THE SAME MACHINE, WRITTEN SO THAT A STEP COSTS LITTLE: each branch a word of its own, the state's parts handed on one by one -/
def evalF (x : Operand) : Env → Option AV := Operand.rec (motive := fun _ => Env → Option AV) (fun t env => env.get t) (fun v _ => ofVal v) (fun _ _ => none) (fun f _ => some (.func (.func f) [] [])) x
theorem evalF_eq (x : Operand) (env : Env) : evalF x env = evalA env x := by cases x <;> rfl
def asBool : AV → Option Bool
  | .bool b => some b
  | _ => none
def asPtr : AV → Option (Nat × Nat)
  | .ptr b o => some (b, o)
  | _ => none
def asTup : AV → Option (List AV)
  | .tup l => some l
  | _ => none
def retV (h : AHeap) (v : AV) : Option AR := some (.val v h)

/-! operations -/
def x_move (P : Tab) (x : Operand) (env : Env) (h : AHeap) : Option AR :=
  let ev := evalA env
  match ev x with | some v => some (.val v h) | none => none


def x_assign (P : Tab) (x : Operand) (env : Env) (h : AHeap) : Option AR :=
  let ev := evalA env
  match ev x with | some v => some (.val v h) | none => none


def x_pick (P : Tab) (c : Operand) (a : Operand) (b : Operand) (env : Env) (h : AHeap) : Option AR :=
  let ev := evalA env
  match ev c with
    | some (.bool true) => (match ev a with | some v => some (.val v h) | none => none)
    | some (.bool false) => (match ev b with | some v => some (.val v h) | none => none)
    | _ => none

def x_alloc (P : Tab) (e : TypeId) (env : Env) (h : AHeap) : Option AR :=
  let ev := evalA env
  match tzruns P e, tsize P e with
    | some z, some n => if z.all (fun x => oneCell x.2) then let (b, h) := h.new (.cells z n n true 1 .e); some (.val (.ptr b 0) h) else none
    | _, _ => none

def x_box (P : Tab) (_a0 : TypeId) (x : Operand) (env : Env) (h : AHeap) : Option AR :=
  let ev := evalA env
  match ev x with
    | some v => if v.cells.all oneCell then let (b, h) := newRowA h v.cells; some (.val (.ptr b 0) h) else none
    | none => none

def x_build (P : Tab) (t : TypeId) (parts : Array (Nat × Operand)) (env : Env) (h : AHeap) : Option AR :=
  let ev := evalA env
  match tzero P t, evalParts env parts.toList with
    | some z, some ps => match P.und t with
      | some (.struct fs) => match placesA P fs.toList with
        | some pl => match fillA (fun i => pl[i]?) z.cells ps with
          | some l => some (.val (.agg l) h)
          | none => none
        | none => none
      | some (.array _ e) => match tsize P e with
        | some s => match fillA (fun i => some (i * s, s)) z.cells ps with
          | some l => some (.val (.agg l) h)
          | none => none
        | none => none
      | _ => none
    | _, _ => none

def x_buildSlice (P : Tab) (t : TypeId) (len : Nat) (parts : Array (Nat × Operand)) (env : Env) (h : AHeap) : Option AR :=
  let ev := evalA env
  match P.und t with
    | some (.slice e) => match tsize P e, tzero P e, evalParts env parts.toList with
      | some s, some z, some ps => if len * s ≤ 65536 ∧ z.cells.length = s then
          match fillA (fun i => some (i * s, s)) (List.flatten (List.replicate len z.cells)) ps with
          | some l => if l.all oneCell then let (b, h) := newRowA h l; some (.val (.slice b 0 len len) h) else none
          | none => none
        else none
      | _, _, _ => none
    | _ => none

def x_load (P : Tab) (t : TypeId) (a : Operand) (env : Env) (h : AHeap) : Option AR :=
  let ev := evalA env
  match ev a with
    | some (.ptr b off) => (match loadVarA P h t b off with | some v => some (.val v h) | none => none)
    | _ => none

def x_store (P : Tab) (t : TypeId) (a : Operand) (x : Operand) (env : Env) (h : AHeap) : Option AR :=
  let ev := evalA env
  match ev a, ev x with
    | some (.ptr b off), some v => (match storeVarA P h t b off v with | some h => some (.val undefA h) | none => none)
    | _, _ => none

def x_nilCheck (P : Tab) (x : Operand) (env : Env) (h : AHeap) : Option AR :=
  let ev := evalA env
  match ev x with
    | some (.ptr b off) => some (.val (.ptr b off) h)
    | some (.func (.func f) a c) => some (.val (.func (.func f) a c) h)
    | some (.yld l) => some (.val (.yld l) h)
    | _ => none

def x_binOp (P : Tab) (op : BinOp) (t : TypeId) (x : Operand) (y : Operand) (_a4 : TypeId) (env : Env) (h : AHeap) : Option AR :=
  let ev := evalA env
  match ev x, ev y with
    | some a, some b => if guardA P op t x y a b then (match binA P h op t a b with | some v => some (.val v h) | none => none) else none
    | _, _ => none

def x_unOp (P : Tab) (op : UnOp) (_a1 : TypeId) (x : Operand) (env : Env) (h : AHeap) : Option AR :=
  let ev := evalA env
  match ev x with
    | some a => (match unA op a with | some v => some (.val v h) | none => none)
    | none => none

def x_convert (P : Tab) (s : TypeId) (d : TypeId) (x : Operand) (env : Env) (h : AHeap) : Option AR :=
  let ev := evalA env
  match ev x with
    | some a => (match convertA P s d a with | some v => some (.val v h) | none => none)
    | none => none

def x_makeInterface (P : Tab) (t : TypeId) (x : Operand) (env : Env) (h : AHeap) : Option AR :=
  let ev := evalA env
  match ev x, P.und t with
    | some _, some (.interface _) => none
    | some v, some _ => some (.val (.iface t v) h)
    | _, _ => none

def x_makeFunc (P : Tab) (fn : Fn) (first : Array Operand) (cap : Array Operand) (env : Env) (h : AHeap) : Option AR :=
  let ev := evalA env
  match evalL env first.toList, evalL env cap.toList with
    | some a, some b => some (.val (.func fn a b) h)
    | _, _ => none

def x_makeMap (P : Tab) (t : TypeId) (r : Option Operand) (env : Env) (h : AHeap) : Option AR :=
  let ev := evalA env
  match P.und t, evalO env r with
    | some (.map _ _), some none => let (b, h) := h.new (.map [] 0); some (.val (.map b) h)
    | some (.map _ _), some (some (.int _ _)) => let (b, h) := h.new (.map [] 0); some (.val (.map b) h)
    | _, _ => none

def x_makeSlice (P : Tab) (t : TypeId) (l : Operand) (c : Operand) (env : Env) (h : AHeap) : Option AR :=
  let ev := evalA env
  match P.und t, ev l, ev c with
    | some (.slice e), some (.int .i64 l), some (.int .i64 c) => match tsize P e, tzruns P e, tbytes P e with
      | some s, some z, some bytes => if 0 ≤ l ∧ l ≤ c ∧ c ≤ 1048576 ∧ bytes * 4294967296 ≤ 2 ^ 48 ∧ z.all (fun x => oneCell x.2) then
          let (b, h) := h.new (.cells z s (c.toNat * s) true s .e)
          some (.val (.slice b 0 l.toNat c.toNat) h)
        else none
      | _, _, _ => none
    | _, _, _ => none

def x_slice (P : Tab) (t : TypeId) (x : Operand) (lo : Option Operand) (hi : Option Operand) (mx : Option Operand) (env : Env) (h : AHeap) : Option AR :=
  let ev := evalA env
  match ev x, evalO env lo, evalO env hi, evalO env mx with
    | some v, some lo, some hi, some mx => (match sliceA P h t v lo hi mx with | some v => some (.val v h) | none => none)
    | _, _, _, _ => none

def x_fieldAddr (P : Tab) (s : TypeId) (x : Operand) (f : Nat) (env : Env) (h : AHeap) : Option AR :=
  let ev := evalA env
  match ev x, tfield P s f with
    | some (.ptr b off), some fl => (match tsize P fl.type with
      | some (_ + 1) => some (.val (.ptr b (off + fl.offset)) h)
      | _ => none)
    | _, _ => none

def x_field (P : Tab) (t : TypeId) (x : Operand) (f : Nat) (env : Env) (h : AHeap) : Option AR :=
  let ev := evalA env
  match ev x, tfield P t f with
    | some (.agg cs), some fl => (match partA P fl.type cs fl.offset with | some v => some (.val v h) | none => none)
    | _, _ => none

def x_indexAddr (P : Tab) (t : TypeId) (x : Operand) (ix : Operand) (env : Env) (h : AHeap) : Option AR :=
  let ev := evalA env
  match P.und t, ev x, ev ix with
    | some (.array n e), some (.ptr b off), some (.int _ i) => if 0 ≤ i ∧ i < n then (match tsize P e with | some s => some (.val (.ptr b (off + i.toNat * s)) h) | none => none) else none
    | some (.slice e), some (.slice b off n _), some (.int _ i) => if 0 ≤ i ∧ i < n then (match tsize P e with | some s => some (.val (.ptr b (off + i.toNat * s)) h) | none => none) else none
    | some (.slice e), some (.vslice b off n _), some (.int _ i) => if 0 ≤ i ∧ i < n then (match tsize P e with | some s => some (.val (.ptr b (off + i.toNat * s)) h) | none => none) else none
    | _, _, _ => none

def x_index (P : Tab) (t : TypeId) (x : Operand) (ix : Operand) (env : Env) (h : AHeap) : Option AR :=
  let ev := evalA env
  match P.und t, ev x, ev ix with
    | some (.array n e), some (.agg cs), some (.int _ i) => if 0 ≤ i ∧ i < n then
        (match tsize P e with | some s => (match partA P e cs (i.toNat * s) with | some v => some (.val v h) | none => none) | none => none) else none
    | some .string, some (.str s), some (.int _ i) => if 0 ≤ i then (match s.data.toList[i.toNat]? with | some b => some (.val (.int .u8 b.toNat) h) | none => none) else none
    | _, _, _ => none

def x_lookup (P : Tab) (t : TypeId) (m : Operand) (k : Operand) (ok : Bool) (env : Env) (h : AHeap) : Option AR :=
  let ev := evalA env
  match ev m, ev k with
    | some m, some k => lookupA P h t m k ok
    | _, _ => none

def x_mapUpdate (P : Tab) (t : TypeId) (m : Operand) (k : Operand) (v : Operand) (env : Env) (h : AHeap) : Option AR :=
  let ev := evalA env
  match ev m, ev k, ev v with
    | some m, some k, some v => updateA P h t m k v
    | _, _, _ => none

def x_insert (P : Tab) (t : TypeId) (m : Operand) (k : Operand) (v : Operand) (env : Env) (h : AHeap) : Option AR :=
  let ev := evalA env
  match ev m, ev k, ev v with
    | some m, some k, some v => updateA P h t m k v
    | _, _, _ => none

def x_mapEntry (P : Tab) (t : TypeId) (m : Operand) (k : Operand) (env : Env) (h : AHeap) : Option AR :=
  let ev := evalA env
  match ev m, ev k with
    | some m, some k => mapEntryA P h t m k
    | _, _ => none

def x_entryStore (P : Tab) (_a0 : TypeId) (m : Operand) (s : Operand) (v : Operand) (env : Env) (h : AHeap) : Option AR :=
  let ev := evalA env
  match ev m, ev s, ev v with
    | some m, some s, some v => entryStoreA h m s v
    | _, _, _ => none

def x_range (P : Tab) (t : TypeId) (x : Operand) (env : Env) (h : AHeap) : Option AR :=
  let ev := evalA env
  match ev x with
    | some x => rangeA P h t x
    | none => none

def x_next (P : Tab) (it : Operand) (isString : Bool) (env : Env) (h : AHeap) : Option AR :=
  let ev := evalA env
  match isString, ev it with
    | false, some it => nextA h it
    | _, _ => none

def x_entry (P : Tab) (it : Operand) (env : Env) (h : AHeap) : Option AR :=
  let ev := evalA env
  match ev it with
    | some it => entryA h it
    | none => none

def x_typeAssert (P : Tab) (x : Operand) (_a1 : TypeId) (asserted : TypeId) (ok : Bool) (env : Env) (h : AHeap) : Option AR :=
  let ev := evalA env
  match ev x with
    | some x => typeAssertA P h x asserted ok
    | none => none

def x_extract (P : Tab) (t : Operand) (i : Nat) (env : Env) (h : AHeap) : Option AR :=
  let ev := evalA env
  match ev t with
    | some (.tup vs) => (match vs[i]? with | some v => some (.val v h) | none => none)
    | _ => none

def x_call (P : Tab) (c : Call) (env : Env) (h : AHeap) : Option AR :=
  let ev := evalA env
  match evalL env c.args.toList with
    | none => none
    | some args => match c.callee with
      | .builtin b => builtinA P h b c.argTypes.toList args
      | .value f => (match ev f with | some f => callA P f args h | none => none)
      | .invoke _ _ => none

def x_defer (P : Tab) (c : Call) (env : Env) (h : AHeap) : Option AR :=
  let ev := evalA env
  match evalL env c.args.toList, c.callee with
    | some args, .value f => (match ev f with
      | some (.func fn first cap) => some (.defer ⟨fn, first ++ args, cap⟩)
      | _ => none)
    | _, _ => none

def x_panic (P : Tab) (x : Operand) (env : Env) (h : AHeap) : Option AR :=
  let ev := evalA env
  match ev x with
    | some (.iface t v) => some (.panic (.iface t v))
    | _ => none

def y_move (P : Tab) (x : Operand) (env : Env) (h : AHeap) : Option AR := ob (retV h) (evalF x env)
theorem y_move_eq (P : Tab) (x : Operand) (env : Env) (h : AHeap) : y_move P x env h = x_move P x env h := by
  unfold y_move x_move; rw [evalF_eq]; simp only []; cases evalA env x <;> rfl
def y_assign (P : Tab) (x : Operand) (env : Env) (h : AHeap) : Option AR := ob (retV h) (evalF x env)
theorem y_assign_eq (P : Tab) (x : Operand) (env : Env) (h : AHeap) : y_assign P x env h = x_assign P x env h := by
  unfold y_assign x_assign; rw [evalF_eq]; simp only []; cases evalA env x <;> rfl
def pickB (h : AHeap) (a b : Operand) (env : Env) (t : Bool) : Option AR := ob (retV h) (Bool.rec (motive := fun _ => Option AV) (evalF b env) (evalF a env) t)
def y_pick (P : Tab) (c a b : Operand) (env : Env) (h : AHeap) : Option AR := ob (fun v => ob (pickB h a b env) (asBool v)) (evalF c env)
theorem y_pick_eq (P : Tab) (c a b : Operand) (env : Env) (h : AHeap) : y_pick P c a b env h = x_pick P c a b env h := by
  unfold y_pick x_pick pickB; rw [evalF_eq, evalF_eq, evalF_eq]; simp only []
  cases evalA env c with
  | none => rfl
  | some v =>
    cases v with
    | bool t => cases t with
      | false => simp only [ob_some, asBool]; cases evalA env b <;> rfl
      | true => simp only [ob_some, asBool]; cases evalA env a <;> rfl
    | _ => rfl
def loadP (P : Tab) (t : TypeId) (h : AHeap) (p : Nat × Nat) : Option AR := ob (retV h) (loadVarA P h t p.1 p.2)
def y_load (P : Tab) (t : TypeId) (a : Operand) (env : Env) (h : AHeap) : Option AR := ob (fun v => ob (loadP P t h) (asPtr v)) (evalF a env)
theorem y_load_eq (P : Tab) (t : TypeId) (a : Operand) (env : Env) (h : AHeap) : y_load P t a env h = x_load P t a env h := by
  unfold y_load x_load loadP; rw [evalF_eq]; simp only []
  cases evalA env a with
  | none => rfl
  | some v => cases v with
    | ptr b off =>
      simp only [ob_some, asPtr]
      generalize loadVarA P h t b off = z
      cases z <;> rfl
    | _ => rfl
def y_store (P : Tab) (t : TypeId) (a x : Operand) (env : Env) (h : AHeap) : Option AR :=
  ob (fun av => ob (fun p => ob (fun v => ob (fun h' => some (.val undefA h')) (storeVarA P h t p.1 p.2 v)) (evalF x env)) (asPtr av)) (evalF a env)
theorem y_store_eq (P : Tab) (t : TypeId) (a x : Operand) (env : Env) (h : AHeap) : y_store P t a x env h = x_store P t a x env h := by
  unfold y_store x_store; rw [evalF_eq, evalF_eq]; simp only []
  cases evalA env a with
  | none => rfl
  | some v =>
    cases v with
    | ptr b off =>
      cases evalA env x with
      | none => rfl
      | some u =>
        simp only [ob_some, asPtr]
        generalize storeVarA P h t b off u = z
        cases z <;> rfl
    | _ => cases evalA env x <;> rfl
def nilB (h : AHeap) : AV → Option AR
  | .ptr b off => some (.val (.ptr b off) h)
  | .func (.func f) a c => some (.val (.func (.func f) a c) h)
  | .yld l => some (.val (.yld l) h)
  | _ => none
def y_nilCheck (P : Tab) (x : Operand) (env : Env) (h : AHeap) : Option AR := ob (nilB h) (evalF x env)
theorem y_nilCheck_eq (P : Tab) (x : Operand) (env : Env) (h : AHeap) : y_nilCheck P x env h = x_nilCheck P x env h := by
  unfold y_nilCheck x_nilCheck; rw [evalF_eq]; simp only []
  cases evalA env x with
  | none => rfl
  | some v => cases v <;> first | rfl | (rename_i f _ _; cases f <;> rfl)
/-- an offset that stands in the text alone -/
def fldOff (P : Tab) (s : TypeId) (f : Nat) : Option Nat := match tfield P s f with
  | some fl => (match tsize P fl.type with
    | some (_ + 1) => some fl.offset
    | _ => none)
  | none => none
def y_fieldAddr (P : Tab) (s : TypeId) (x : Operand) (f : Nat) (env : Env) (h : AHeap) : Option AR :=
  ob (fun v => ob (fun p => ob (fun o => some (.val (.ptr p.1 (p.2 + o)) h)) (fldOff P s f)) (asPtr v)) (evalF x env)
theorem y_fieldAddr_eq (P : Tab) (s : TypeId) (x : Operand) (f : Nat) (env : Env) (h : AHeap) : y_fieldAddr P s x f env h = x_fieldAddr P s x f env h := by
  unfold y_fieldAddr x_fieldAddr fldOff; rw [evalF_eq]; simp only []
  cases evalA env x with
  | none => rfl
  | some v =>
    cases v with
    | ptr b off =>
      simp only [ob_some, asPtr]
      cases tfield P s f with
      | none => rfl
      | some fl =>
        simp only []
        generalize tsize P fl.type = z
        cases z with
        | none => rfl
        | some n => cases n <;> rfl
    | _ => cases tfield P s f <;> rfl
def idxB (P : Tab) (t : TypeId) (h : AHeap) (a i : AV) : Option AR := match P.und t, some a, some i with
    | some (.array n e), some (.ptr b off), some (.int _ i) => if 0 ≤ i ∧ i < n then (match tsize P e with | some s => some (.val (.ptr b (off + i.toNat * s)) h) | none => none) else none
    | some (.slice e), some (.slice b off n _), some (.int _ i) => if 0 ≤ i ∧ i < n then (match tsize P e with | some s => some (.val (.ptr b (off + i.toNat * s)) h) | none => none) else none
    | some (.slice e), some (.vslice b off n _), some (.int _ i) => if 0 ≤ i ∧ i < n then (match tsize P e with | some s => some (.val (.ptr b (off + i.toNat * s)) h) | none => none) else none
    | _, _, _ => none
def y_indexAddr (P : Tab) (t : TypeId) (x ix : Operand) (env : Env) (h : AHeap) : Option AR := ob (fun a => ob (fun i => idxB P t h a i) (evalF ix env)) (evalF x env)
theorem y_indexAddr_eq (P : Tab) (t : TypeId) (x ix : Operand) (env : Env) (h : AHeap) : y_indexAddr P t x ix env h = x_indexAddr P t x ix env h := by
  unfold y_indexAddr x_indexAddr idxB; rw [evalF_eq, evalF_eq]; simp only []
  cases evalA env x with
  | none => cases P.und t with
    | none => rfl
    | some d => cases d <;> rfl
  | some a =>
    cases evalA env ix with
    | none => cases P.und t with
      | none => rfl
      | some d => cases d <;> cases a <;> rfl
    | some i => rfl

def y_extract (P : Tab) (t : Operand) (i : Nat) (env : Env) (h : AHeap) : Option AR := ob (fun v => ob (fun l => ob (retV h) (l[i]?)) (asTup v)) (evalF t env)
theorem y_extract_eq (P : Tab) (t : Operand) (i : Nat) (env : Env) (h : AHeap) : y_extract P t i env h = x_extract P t i env h := by
  unfold y_extract x_extract; rw [evalF_eq]; simp only []
  cases evalA env t with
  | none => rfl
  | some v => cases v <;> first | rfl | (simp only [ob_some, asTup]; rename_i l; cases l[i]? <;> rfl)
def allocO (P : Tab) (e : TypeId) : Option AObj := match tzruns P e, tsize P e with
  | some z, some n => if z.all (fun x => oneCell x.2) then some (.cells z n n true 1 .e) else none
  | _, _ => none
def y_alloc (P : Tab) (e : TypeId) (env : Env) (h : AHeap) : Option AR := ob (fun o => some (.val (.ptr h.next 0) (h.new o).2)) (allocO P e)
theorem y_alloc_eq (P : Tab) (e : TypeId) (env : Env) (h : AHeap) : y_alloc P e env h = x_alloc P e env h := by
  unfold y_alloc x_alloc allocO; simp only []
  cases tzruns P e with
  | none => rfl
  | some z => cases tsize P e with
    | none => rfl
    | some n => simp only []; split <;> rfl
def intB (op : BinOp) (k : IntKind) (a b : Int) : Option AV := match op with
  | .shl => if b < 0 then none else some (.int k (k.wrap (a * 2 ^ min b.toNat k.bits)))
  | .shr => if b < 0 then none else some (.int k (a.fdiv (2 ^ min b.toNat k.bits)))
  | op => intBin op k a b
def isShift : BinOp → Bool
  | .shl => true
  | .shr => true
  | _ => false
def intG (op : BinOp) (k k' : IntKind) (a b : Int) : Option AV := Bool.rec (motive := fun _ => Option AV) (if k = k' then intBin op k a b else none) (intB op k a b) (isShift op)
def binF (P : Tab) (op : BinOp) (t : TypeId) (x y : Operand) (h : AHeap) (a b : AV) : Option AR :=
  Option.rec (motive := fun _ => Option AR) (if guardA P op t x y a b then (match binA P h op t a b with | some v => some (.val v h) | none => none) else none)
    (fun p => Option.rec (motive := fun _ => Option AR) (if guardA P op t x y a b then (match binA P h op t a b with | some v => some (.val v h) | none => none) else none)
      (fun q => ob (retV h) (intG op p.1 q.1 p.2 q.2)) (asInt b)) (asInt a)
def y_binOp (P : Tab) (op : BinOp) (t : TypeId) (x y : Operand) (_ : TypeId) (env : Env) (h : AHeap) : Option AR := ob (fun a => ob (fun b => binF P op t x y h a b) (evalF y env)) (evalF x env)
theorem binA_int (P : Tab) (h : AHeap) (op : BinOp) (t : TypeId) (k k' : IntKind) (a b : Int) : binA P h op t (.int k a) (.int k' b) = intG op k k' a b := by
  cases op <;> rfl
theorem guardA_int (P : Tab) (op : BinOp) (t : TypeId) (x y : Operand) (k k' : IntKind) (a b : Int) : guardA P op t x y (.int k a) (.int k' b) = true := by
  cases op <;> rfl
theorem y_binOp_eq (P : Tab) (op : BinOp) (t : TypeId) (x y : Operand) (t' : TypeId) (env : Env) (h : AHeap) : y_binOp P op t x y t' env h = x_binOp P op t x y t' env h := by
  unfold y_binOp x_binOp; rw [evalF_eq, evalF_eq]; simp only []
  cases evalA env x with
  | none => rfl
  | some a =>
    cases evalA env y with
    | none => rfl
    | some b =>
      simp only [ob_some]
      cases a <;> first | rfl | skip
      cases b <;> first | rfl | skip
      rw [binA_int, guardA_int]
      unfold binF
      simp only [asInt, if_true]
      cases intG op _ _ _ _ <;> rfl
def fsel (op : Op) : Tab → Env → AHeap → Option AR := Op.rec (motive := fun _ => Tab → Env → AHeap → Option AR)
  (fun a0 P env h => y_move P a0 env h)
  (fun a0 P env h => y_assign P a0 env h)
  (fun a0 a1 a2 P env h => y_pick P a0 a1 a2 env h)
  (fun a0 P env h => y_alloc P a0 env h)
  (fun a0 a1 P env h => x_box P a0 a1 env h)
  (fun a0 a1 P env h => x_build P a0 a1 env h)
  (fun a0 a1 a2 P env h => x_buildSlice P a0 a1 a2 env h)
  (fun a0 a1 a2 a3 P env h => x_insert P a0 a1 a2 a3 env h)
  (fun a0 a1 P env h => y_load P a0 a1 env h)
  (fun a0 a1 a2 P env h => y_store P a0 a1 a2 env h)
  (fun _ _ _ _ => none)
  (fun _ _ _ _ => none)
  (fun a0 P env h => y_nilCheck P a0 env h)
  (fun a0 a1 a2 a3 a4 P env h => y_binOp P a0 a1 a2 a3 a4 env h)
  (fun a0 a1 a2 P env h => x_unOp P a0 a1 a2 env h)
  (fun a0 a1 a2 P env h => x_convert P a0 a1 a2 env h)
  (fun _ _ _ _ _ => none)
  (fun a0 a1 P env h => x_makeInterface P a0 a1 env h)
  (fun a0 a1 a2 P env h => x_makeFunc P a0 a1 a2 env h)
  (fun a0 a1 P env h => x_makeMap P a0 a1 env h)
  (fun _ _ _ _ _ => none)
  (fun a0 a1 a2 P env h => x_makeSlice P a0 a1 a2 env h)
  (fun a0 a1 a2 a3 a4 P env h => x_slice P a0 a1 a2 a3 a4 env h)
  (fun a0 a1 a2 P env h => y_fieldAddr P a0 a1 a2 env h)
  (fun a0 a1 a2 P env h => x_field P a0 a1 a2 env h)
  (fun a0 a1 a2 P env h => y_indexAddr P a0 a1 a2 env h)
  (fun a0 a1 a2 P env h => x_index P a0 a1 a2 env h)
  (fun a0 a1 a2 a3 P env h => x_lookup P a0 a1 a2 a3 env h)
  (fun a0 a1 a2 a3 P env h => x_mapUpdate P a0 a1 a2 a3 env h)
  (fun a0 a1 a2 P env h => x_mapEntry P a0 a1 a2 env h)
  (fun a0 a1 a2 a3 P env h => x_entryStore P a0 a1 a2 a3 env h)
  (fun a0 a1 P env h => x_range P a0 a1 env h)
  (fun a0 a1 P env h => x_next P a0 a1 env h)
  (fun a0 P env h => x_entry P a0 env h)
  (fun a0 a1 a2 a3 P env h => x_typeAssert P a0 a1 a2 a3 env h)
  (fun a0 a1 P env h => y_extract P a0 a1 env h)
  (fun a0 P env h => x_call P a0 env h)
  (fun _ _ _ _ => none)
  (fun a0 P env h => x_defer P a0 env h)
  (fun a0 P env h => x_panic P a0 env h)
  (fun _ _ _ _ _ => none)
  (fun _ _ _ _ _ _ => none)
  (fun _ _ _ _ _ => none)
  op
theorem fsel_eq (P : Tab) (env : Env) (h : AHeap) (o : Oper) : fsel o.op P env h = aop0 P env h o := by
  obtain ⟨dst, op, ty, pos, after, gd⟩ := o
  cases op
  case move => exact y_move_eq P _ env h
  case assign => exact y_assign_eq P _ env h
  case pick => exact y_pick_eq P _ _ _ env h
  case alloc => exact y_alloc_eq P _ env h
  case load => exact y_load_eq P _ _ env h
  case store => exact y_store_eq P _ _ _ env h
  case nilCheck => exact y_nilCheck_eq P _ env h
  case binOp => exact y_binOp_eq P _ _ _ _ ty env h
  case fieldAddr => exact y_fieldAddr_eq P _ _ _ env h
  case indexAddr => exact y_indexAddr_eq P _ _ _ env h
  case extract => exact y_extract_eq P _ _ env h
  all_goals rfl

def aopF (P : Tab) (env : Env) (h : AHeap) (o : Oper) : Option AR := Option.rec (motive := fun _ => Option AR) (brute P env h o) some (fsel o.op P env h)
theorem aopF_eq (P : Tab) (env : Env) (h : AHeap) (o : Oper) : aopF P env h o = aop P env h o := by
  unfold aopF aop; rw [fsel_eq]; cases aop0 P env h o <;> rfl

/-! steps -/
structure FX where
  fn : FuncId
  n : Nat
  defers : List ADefer
  deferred : Bool
  roundOf : Option Nat

abbrev FK := FX → AMode → Env → List AItem → List AFrame → AHeap → Option AM
abbrev FH := Tab → FK → FX → Env → List AItem → List AFrame → AHeap → Option AM

def FX.fr (x : FX) (mode : AMode) (env : Env) (todo : List AItem) : AFrame := ⟨x.fn, x.n, env, todo, x.defers, mode, x.deferred, x.roundOf⟩
def toF (K : FK) (cs : List AFrame) (h : AHeap) (fr : AFrame) : Option AM :=
  AFrame.rec (motive := fun _ => Option AM) (fun fn n env todo ds mode df ro => K ⟨fn, n, ds, df, ro⟩ mode env todo cs h) fr
def toK (K : FK) (m : AM) : Option AM := AM.rec (motive := fun _ => Option AM) (fun fr cs h => toF K cs h fr) m

def cold (P : Tab) (K : FK) (x : FX) (mode : AMode) (env : Env) (todo : List AItem) (cs : List AFrame) (h : AHeap) : Option AM := ob (toK K) (astep P ⟨x.fr mode env todo, cs, h⟩)

def Good (K : FK) (R : AM → Option AM) : Prop := ∀ x mode env todo cs h, K x mode env todo cs h = R ⟨x.fr mode env todo, cs, h⟩
theorem toK_eq {K : FK} {R : AM → Option AM} (g : Good K R) (m : AM) : toK K m = R m := by
  obtain ⟨⟨fn, n, env, todo, ds, mode, df, ro⟩, cs, h⟩ := m
  exact g ⟨fn, n, ds, df, ro⟩ mode env todo cs h
theorem cold_eq (P : Tab) {K : FK} {R : AM → Option AM} (g : Good K R) (x : FX) (mode : AMode) (env : Env) (todo : List AItem) (cs : List AFrame) (h : AHeap) :
    cold P K x mode env todo cs h = ob R (astep P ⟨x.fr mode env todo, cs, h⟩) := by
  unfold cold
  cases astep P ⟨x.fr mode env todo, cs, h⟩ with
  | none => rfl
  | some m => exact toK_eq g m

def fputD (o : Array Oper) (rest : List Nat) (k : List AItem) (K : FK) (x : FX) (env : Env) (cs : List AFrame) (h : AHeap) (v : AV) (dst : Option Tmp) : Option AM :=
  Option.rec (motive := fun _ => Option AM) (K x .run env (.inRegion o rest :: k) cs h)
    (fun d => Bool.rec (motive := fun _ => Option AM) none (K x .run (env.set d v) (.inRegion o rest :: k) cs h) (Nat.blt d x.n)) dst
def fenter (P : Tab) (K : FK) (fr : AFrame) (cs : List AFrame) (h : AHeap) (f : FuncId) (args : List AV) : Option AM := ob (toF K (fr :: cs) h) (enterFrame P f args false)
def fres (P : Tab) (o : Oper) (ops : Array Oper) (i : Nat) (rest : List Nat) (k : List AItem) (K : FK) (x : FX) (env : Env) (cs : List AFrame) (h : AHeap) (r : AR) : Option AM :=
  AR.rec (motive := fun _ => Option AM)
    (fun v h' => fputD ops rest k K x env cs h' v o.dst)
    (fun f args h' => Option.rec (motive := fun _ => Option AM) (fenter P K (x.fr .run env (.inRegion ops (i :: rest) :: k)) cs h' f args) (fun v => fputD ops rest k K x env cs h' v o.dst) (P.memo f args))
    (fun l args h' => ob (toK K) (applyA P (x.fr .run env (.inRegion ops (i :: rest) :: k)) cs h (.round l args h')))
    (fun d => ob (toK K) (applyA P (x.fr .run env (.inRegion ops (i :: rest) :: k)) cs h (.defer d)))
    (ob (toK K) (applyA P (x.fr .run env (.inRegion ops (i :: rest) :: k)) cs h .recover))
    (fun v => ob (toK K) (applyA P (x.fr .run env (.inRegion ops (i :: rest) :: k)) cs h (.panic v)))
    r
def wantedF (o : Oper) (ops : Array Oper) (env : Env) : Option Bool := Option.rec (motive := fun _ => Option Bool) (some true) (fun _ => wantedA o ops env) o.guard
def fop (P : Tab) (ops : Array Oper) (i : Nat) (rest : List Nat) (k : List AItem) (K : FK) (x : FX) (env : Env) (cs : List AFrame) (h : AHeap) (o : Oper) : Option AM :=
  ob (fun w => Bool.rec (motive := fun _ => Option AM) (fputD ops rest k K x env cs h undefA o.dst) (ob (fres P o ops i rest k K x env cs h) (aopF P env h o)) w) (wantedF o ops env)
def fregion (ops : Array Oper) (todo : List Nat) : FH := List.rec (motive := fun _ => FH) (fun _ K x env k cs h => K x .run env k cs h)
  (fun i rest _ P K x env k cs h => ob (fop P ops i rest k K x env cs h) (ops[i]?)) todo
def fcondB (a b : Code) (K : FK) (x : FX) (env : Env) (k : List AItem) (cs : List AFrame) (h : AHeap) (t : Bool) : Option AM :=
  Bool.rec (motive := fun _ => Option AM) (K x .run env (.code b :: k) cs h) (K x .run env (.code a :: k) cs h) t
def fcond (c : Operand) (a b : Code) : FH := fun _ K x env k cs h => ob (fun v => ob (fcondB a b K x env k cs h) (asBool v)) (evalF c env)
def fret : FH := fun P K x env k cs h => Option.rec (motive := fun _ => Option AM) (K x .returning env (.code .ret :: k) cs h) (fun _ => cold P K x .run env (.code .ret :: k) cs h) x.roundOf
def fcode (c : Code) : FH := Code.rec (motive := fun _ => FH)
  (fun _ K x env k cs h => K x .run env k cs h)
  (fun id ops draw P K x env k cs h => Bool.rec (motive := fun _ => Option AM) (K x .run env (.inRegion ops (rangeL ops.size) :: k) cs h) (cold P K x .run env (.code (.region id ops true) :: k) cs h) draw)
  (fun a b _ _ _ K x env k cs h => K x .run env (.code a :: .code b :: k) cs h)
  (fun c a b _ _ => fcond c a b)
  (fun id body _ _ K x env k cs h => K x .run env (.code body :: .inBlock id :: k) cs h)
  (fun body _ _ K x env k cs h => K x .run env (.code body :: .inLoop body :: k) cs h)
  (fun f ps as_ body _ _ P K x env k cs h => cold P K x .run env (.code (.rangeFunc f ps as_ body) :: k) cs h)
  (fun id P K x env k cs h => cold P K x .run env (.code (.exit id) :: k) cs h)
  (fun body _ _ K x env k cs h => K x .run env (.code body :: .inScope body :: k) cs h)
  (fun _ _ K x env k cs h => K x .run env k cs h)
  (fun l P K x env k cs h => cold P K x .run env (.code (.goto l) :: k) cs h)
  fret
  (fun _ _ _ _ _ _ _ _ => none)
  c
def fitem (it : AItem) : FH := AItem.rec (motive := fun _ => FH)
  fcode
  (fun _ _ K x env k cs h => K x .run env k cs h)
  (fun body _ K x env k cs h => K x .run env (.code body :: .inLoop body :: k) cs h)
  (fun _ _ K x env k cs h => K x .run env k cs h)
  fregion
  (fun ops chain acted seen P K x env k cs h => cold P K x .run env (.draw ops chain acted seen :: k) cs h)
  (fun l P K x env k cs h => cold P K x .run env (.inRangeFunc l :: k) cs h)
  (fun l P K x env k cs h => cold P K x .run env (.endRangeFunc l :: k) cs h)
  (fun P K x env k cs h => cold P K x .run env (.beginRound :: k) cs h)
  it
def fexec (todo : List AItem) : Tab → FK → FX → Env → List AFrame → AHeap → Option AM :=
  List.rec (motive := fun _ => Tab → FK → FX → Env → List AFrame → AHeap → Option AM) (fun P K x env cs h => cold P K x .run env [] cs h) (fun it k _ P K x env cs h => fitem it P K x env k cs h) todo
def fstep (P : Tab) (K : FK) : FK := fun x mode env todo cs h =>
  AMode.rec (motive := fun _ => Option AM) (fexec todo P K x env cs h) (cold P K x .returning env todo cs h) (fun c => cold P K x (.panicking c) env todo cs h) mode
def frun (P : Tab) (n : Nat) : FK := Nat.rec (motive := fun _ => FK) (fun x mode env todo cs h => some ⟨x.fr mode env todo, cs, h⟩) (fun _ K => fstep P K) n

theorem wantedF_eq (o : Oper) (ops : Array Oper) (env : Env) : wantedF o ops env = wantedA o ops env := by
  obtain ⟨dst, op, ty, pos, after, gd⟩ := o
  cases gd <;> rfl

variable {P : Tab} {K : FK} {R : AM → Option AM}
theorem fputD_eq (g : Good K R) {ops : Array Oper} {i : Nat} {rest : List Nat} {k : List AItem} {x : FX} {env : Env} {cs : List AFrame} {h h' : AHeap} {v : AV} {o : Oper} (ho : ops[i]? = some o) :
    fputD ops rest k K x env cs h' v o.dst = ob R (applyA P (x.fr .run env (.inRegion ops (i :: rest) :: k)) cs h (.val v h')) := by
  simp only [applyA, finishA, FX.fr, ho, Option.bind_some, putA, fputD]
  cases o.dst with
  | none => exact g ..
  | some d =>
    simp only []
    cases Nat.blt d x.n with
    | false => rfl
    | true => exact g ..

/-- what a step that is known beforehand comes to -/
def Hit (P : Tab) (K : FK) (m : AM) (m' : AM) : Prop := m.fr.mode = .run ∧ ∃ f args h' v a', (∃ g, ∀ a, enterFrame P f args false = some a → astep P m = some ⟨a, g, h'⟩ ∧ g = m.fr :: m.cs) ∧ P.memo f args = some v ∧ finishA m.fr v = some a' ∧ toK K ⟨a', m.cs, h'⟩ = some m'

theorem good_self (K : FK) : Good K (toK K) := fun _ _ _ _ _ _ => rfl

theorem fres_snd {ops : Array Oper} {i : Nat} {rest : List Nat} {k : List AItem} {x : FX} {env : Env} {cs : List AFrame} {h : AHeap} {o : Oper} (ho : ops[i]? = some o) (r : AR) {m' : AM} (hm : fres P o ops i rest k K x env cs h r = some m')
    (hs : astep P ⟨x.fr .run env (.inRegion ops (i :: rest) :: k), cs, h⟩ = applyA P (x.fr .run env (.inRegion ops (i :: rest) :: k)) cs h r) :
    ob (toK K) (applyA P (x.fr .run env (.inRegion ops (i :: rest) :: k)) cs h r) = some m' ∨ Hit P K ⟨x.fr .run env (.inRegion ops (i :: rest) :: k), cs, h⟩ m' := by
  cases r with
  | val v h' => left; rw [← fputD_eq (good_self K) ho]; exact hm
  | enter f args h' =>
    cases hM : P.memo f args with
    | none =>
      left
      simp only [fres, hM, fenter] at hm
      simp only [applyA]
      cases he : enterFrame P f args false with
      | none => rw [he] at hm; cases hm
      | some a => rw [he] at hm; exact hm
    | some v =>
      right
      simp only [fres, hM] at hm
      rw [fputD_eq (P := P) (i := i) (h := h) (good_self K) ho] at hm
      simp only [applyA] at hm
      cases hf : finishA (x.fr .run env (.inRegion ops (i :: rest) :: k)) v with
      | none => rw [hf] at hm; cases hm
      | some a' =>
        rw [hf] at hm
        refine ⟨rfl, f, args, h', v, a', ⟨_, fun a ha => ⟨?_, rfl⟩⟩, hM, hf, hm⟩
        rw [hs]; simp only [applyA, ha]
  | round l args h' => left; exact hm
  | defer d => left; exact hm
  | recover => left; exact hm
  | panic v => left; exact hm

theorem fregion_snd (ops : Array Oper) (todo : List Nat) (x : FX) (env : Env) (k : List AItem) (cs : List AFrame) (h : AHeap) {m' : AM} (hm : fregion ops todo P K x env k cs h = some m') :
    ob (toK K) (astep P ⟨x.fr .run env (.inRegion ops todo :: k), cs, h⟩) = some m' ∨ Hit P K ⟨x.fr .run env (.inRegion ops todo :: k), cs, h⟩ m' := by
  cases todo with
  | nil => left; exact hm
  | cons i rest =>
    have e1 : ∀ o, ops[i]? = some o → ∀ r, wantedA o ops env = some true → aop P env h o = some r → astep P ⟨x.fr .run env (.inRegion ops (i :: rest) :: k), cs, h⟩ = applyA P (x.fr .run env (.inRegion ops (i :: rest) :: k)) cs h r := by
      intro o ho r hw hr
      simp only [astep, FX.fr, aexec, ho, hw, hr]
    simp only [fregion] at hm
    cases ho : ops[i]? with
    | none => rw [ho] at hm; cases hm
    | some o =>
      rw [ho] at hm
      simp only [ob_some, fop] at hm
      rw [wantedF_eq] at hm
      cases hw : wantedA o ops env with
      | none => rw [hw] at hm; cases hm
      | some w =>
        rw [hw] at hm
        cases w with
        | false =>
          left
          simp only [ob_some] at hm
          rw [fputD_eq (P := P) (i := i) (h := h) (good_self K) ho] at hm
          have e2 : astep P ⟨x.fr .run env (.inRegion ops (i :: rest) :: k), cs, h⟩ = applyA P (x.fr .run env (.inRegion ops (i :: rest) :: k)) cs h (.val undefA h) := by
            simp only [astep, FX.fr, aexec, ho, hw]
          rw [e2]; exact hm
        | true =>
          simp only [ob_some] at hm
          rw [aopF_eq] at hm
          cases hr : aop P env h o with
          | none => rw [hr] at hm; cases hm
          | some r =>
            rw [hr] at hm
            have e3 := e1 o ho r hw hr
            rcases fres_snd ho r hm e3 with h1 | h1
            · left; rw [e3]; exact h1
            · right; exact h1

theorem fcode_eq (g : Good K R) (c : Code) (x : FX) (env : Env) (k : List AItem) (cs : List AFrame) (h : AHeap) :
    fcode c P K x env k cs h = ob R (astep P ⟨x.fr .run env (.code c :: k), cs, h⟩) := by
  cases c with
  | skip => exact g ..
  | region id ops draw => cases draw with
    | false => exact g ..
    | true => exact cold_eq P g ..
  | seq a b => exact g ..
  | cond c a b =>
    show fcond c a b P K x env k cs h = _
    simp only [fcond, astep, FX.fr, aexec]
    rw [evalF_eq]
    cases evalA env c with
    | none => rfl
    | some v => cases v <;> first | rfl | (rename_i t; cases t <;> exact g ..)
  | block id b => exact g ..
  | loop b => exact g ..
  | rangeFunc f ps a b => exact cold_eq P g ..
  | exit id => exact cold_eq P g ..
  | scope b => exact g ..
  | label l => exact g ..
  | goto l => exact cold_eq P g ..
  | ret =>
    show fret P K x env k cs h = _
    obtain ⟨fn, n, ds, df, ro⟩ := x
    cases ro with
    | none => exact g ..
    | some l => exact cold_eq P g ..
  | refuse w => rfl

theorem fstep_snd (x : FX) (mode : AMode) (env : Env) (todo : List AItem) (cs : List AFrame) (h : AHeap) {m' : AM} (hm : fstep P K x mode env todo cs h = some m') :
    ob (toK K) (astep P ⟨x.fr mode env todo, cs, h⟩) = some m' ∨ Hit P K ⟨x.fr mode env todo, cs, h⟩ m' := by
  have g := good_self K
  cases mode with
  | returning => left; rw [← cold_eq P g]; exact hm
  | panicking c => left; rw [← cold_eq P g]; exact hm
  | run =>
    cases todo with
    | nil => left; rw [← cold_eq P g]; exact hm
    | cons it k =>
      cases it with
      | code c => left; rw [← fcode_eq g]; exact hm
      | inBlock id => left; exact hm
      | inLoop b => left; exact hm
      | inScope b => left; exact hm
      | inRegion ops todo => exact fregion_snd ops todo x env k cs h hm
      | draw ops chain acted seen => left; rw [← cold_eq P g]; exact hm
      | inRangeFunc l => left; rw [← cold_eq P g]; exact hm
      | endRangeFunc l => left; rw [← cold_eq P g]; exact hm
      | beginRound => left; rw [← cold_eq P g]; exact hm

theorem astep_of (Q : Go.Program) (M : FuncId → List AV → Option AV) : T.astep (T.of Q M) = Go.Abs.astep Q := by kernel_rfl
theorem enter_of (Q : Go.Program) (M : FuncId → List AV → Option AV) : T.enterFrame (T.of Q M) = Go.Abs.enterFrame Q := by kernel_rfl

/-- what is known of a call -/
def Summed (Q : Go.Program) (f : FuncId) (args : List AV) (v : AV) : Prop :=
  ∃ g, Go.Abs.enterFrame Q f args false = some g ∧ ∀ a cs h a', finishA a v = some a' → a.mode = .run → Comes Q ⟨g, a :: cs, h⟩ ⟨a', cs, h⟩
def MemoOk (Q : Go.Program) (M : FuncId → List AV → Option AV) : Prop := ∀ f args v, M f args = some v → Summed Q f args v

theorem finish_run {a a' : AFrame} {v : AV} (h : finishA a v = some a') : a'.mode = a.mode := by
  unfold finishA at h
  repeat' split at h
  all_goals first | (cases h; rfl) | cases h

theorem fstep_comes {Q : Go.Program} {M : FuncId → List AV → Option AV} (hN : NoNum Q) (hmix : Q.follows .mixedOrders = true) (hM : MemoOk Q M) {K : FK} (ih : ∀ m m', toK K m = some m' → Comes Q m m') (x : FX) (mode : AMode) (env : Env) (todo : List AItem) (cs : List AFrame) (h : AHeap) {m' : AM}
    (hm : fstep (T.of Q M) K x mode env todo cs h = some m') : Comes Q ⟨x.fr mode env todo, cs, h⟩ m' := by
  have one : ∀ m m1, T.astep (T.of Q M) m = some m1 → Comes Q m m1 := by
    intro m m1 h1
    rw [astep_of] at h1
    exact Comes.run hN hmix (n := 1) (by unfold Go.Abs.arun; rw [h1]; rfl)
  rcases fstep_snd x mode env todo cs h hm with h1 | h1
  · cases hs : T.astep (T.of Q M) ⟨x.fr mode env todo, cs, h⟩ with
    | none => rw [hs] at h1; cases h1
    | some m1 => rw [hs] at h1; exact (one _ _ hs).trans (ih _ _ h1)
  · obtain ⟨hmode, f, args, h', v, a', ⟨g, hg⟩, h2, h3, h4⟩ := h1
    obtain ⟨b, hb, hc⟩ := hM f args v h2
    rw [enter_of] at hg
    obtain ⟨h5, h6⟩ := hg b hb
    subst h6
    exact (one _ _ h5).trans ((hc _ cs h' a' h3 hmode).trans (ih _ _ h4))

theorem frun_snd {Q : Go.Program} {M : FuncId → List AV → Option AV} (hN : NoNum Q) (hmix : Q.follows .mixedOrders = true) (hM : MemoOk Q M) : ∀ (n : Nat) (x : FX) (mode : AMode) (env : Env) (todo : List AItem) (cs : List AFrame) (h : AHeap) {m' : AM}, frun (T.of Q M) n x mode env todo cs h = some m' → Comes Q ⟨x.fr mode env todo, cs, h⟩ m'
  | 0, x, mode, env, todo, cs, h, m', hm => by
    have hm' : some (⟨x.fr mode env todo, cs, h⟩ : AM) = some m' := hm
    cases hm'; exact .refl _
  | n + 1, x, mode, env, todo, cs, h, m', hm =>
    fstep_comes hN hmix hM (K := frun (T.of Q M) n) (fun ⟨⟨fn, n', env, todo, ds, mode, df, ro⟩, cs, h⟩ m' hm => frun_snd hN hmix hM n ⟨fn, n', ds, df, ro⟩ mode env todo cs h hm) x mode env todo cs h hm

/-- the run to the end of the lowest function -/
def fstop (K : FK) : FK := fun x mode env todo cs h =>
  AMode.rec (motive := fun _ => Option AM) (K x .run env todo cs h)
    (List.rec (motive := fun _ => Option AM) (List.rec (motive := fun _ => Option AM) (some ⟨x.fr .returning env todo, [], h⟩) (fun _ _ _ => K x .returning env todo cs h) x.defers) (fun _ _ _ => K x .returning env todo cs h) cs)
    (fun c => K x (.panicking c) env todo cs h) mode
def frunE (P : Tab) (n : Nat) : FK := Nat.rec (motive := fun _ => FK) (fun _ _ _ _ _ _ => none) (fun _ K => fstop (fstep P K)) n
theorem frunE_snd {Q : Go.Program} {M : FuncId → List AV → Option AV} (hN : NoNum Q) (hmix : Q.follows .mixedOrders = true) (hM : MemoOk Q M) : ∀ (n : Nat) (x : FX) (mode : AMode) (env : Env) (todo : List AItem) (cs : List AFrame) (h : AHeap) {m' : AM}, frunE (T.of Q M) n x mode env todo cs h = some m' → Comes Q ⟨x.fr mode env todo, cs, h⟩ m'
  | 0, x, mode, env, todo, cs, h, m', hm => by
    have hm' : (none : Option AM) = some m' := hm
    cases hm'
  | n + 1, x, mode, env, todo, cs, h, m', hm => by
    have st := fun (mode : AMode) (cs : List AFrame) (hm : fstep (T.of Q M) (frunE (T.of Q M) n) x mode env todo cs h = some m') => fstep_comes hN hmix hM (K := frunE (T.of Q M) n) (fun ⟨⟨fn, n', env, todo, ds, mode, df, ro⟩, cs, h⟩ m' hm => frunE_snd hN hmix hM n ⟨fn, n', ds, df, ro⟩ mode env todo cs h hm) x mode env todo cs h hm
    have hm' : fstop (fstep (T.of Q M) (frunE (T.of Q M) n)) x mode env todo cs h = some m' := hm
    cases mode with
    | run => exact st .run cs hm'
    | panicking c => exact st (.panicking c) cs hm'
    | returning =>
      cases cs with
      | cons a cs => exact st .returning (a :: cs) hm'
      | nil =>
        obtain ⟨fn, n', ds, df, ro⟩ := x
        cases ds with
        | cons d ds => exact st .returning [] hm'
        | nil =>
          have hm2 : some (⟨FX.fr ⟨fn, n', [], df, ro⟩ .returning env todo, [], h⟩ : AM) = some m' := hm'
          cases hm2; exact .refl _

/-- the run, and then only the blocks of the list -/
def frunK (P : Tab) (n : Nat) (l : List Nat) (m : AM) : Option AM := ob (fun m => some (m.keep l)) (toK (frun P n) m)
def noMemo : FuncId → List AV → Option AV := fun _ _ => none
theorem noMemo_ok (Q : Go.Program) : MemoOk Q noMemo := fun f args v h => by cases h
theorem Comes.drop {Q : Go.Program} (m : AM) (l : List Nat) : Comes Q m (m.keep l) := by
  intro B base ρ f ccs w R
  obtain ⟨hr1, fl, hfl, hf, hcs⟩ := R
  have hs : ∀ b o, (m.keep l).h.m.get b = some o → m.h.m.get b = some o := keepL_get m.h.m l
  obtain ⟨hr2, hk2⟩ := hr1.drop (h' := (m.keep l).h) hs rfl
  exact ⟨ρ, f, ccs, w, .refl _ _, ⟨hr2, fl, hfl, hf.mono (hk2 w.heap.size) (Nat.le_refl _), frsRel.mono (hk2 w.heap.size) hfl hcs⟩, hk2 B⟩
theorem frun_comes {Q : Go.Program} {M : FuncId → List AV → Option AV} (hN : NoNum Q) (hmix : Q.follows .mixedOrders = true) (hM : MemoOk Q M) {n : Nat} {m m' : AM} (h : toK (frun (fast Q M) n) m = some m') : Comes Q m m' := by
  rw [fast_eq] at h
  obtain ⟨⟨fn, n', env, todo, ds, mode, df, ro⟩, cs, hp⟩ := m
  exact frun_snd hN hmix hM n ⟨fn, n', ds, df, ro⟩ mode env todo cs hp h
theorem frunK_comes {Q : Go.Program} {M : FuncId → List AV → Option AV} (hN : NoNum Q) (hmix : Q.follows .mixedOrders = true) (hM : MemoOk Q M) {n : Nat} {l : List Nat} {m m' : AM} (h : frunK (fast Q M) n l m = some m') : Comes Q m m' := by
  unfold frunK at h
  cases e : toK (frun (fast Q M) n) m with
  | none => rw [e] at h; cases h
  | some a =>
    rw [e] at h
    simp only [ob_some, Option.some.injEq] at h; subst h
    exact (frun_comes hN hmix hM e).trans (Comes.drop a l)
theorem frunE_comes {Q : Go.Program} {M : FuncId → List AV → Option AV} (hN : NoNum Q) (hmix : Q.follows .mixedOrders = true) (hM : MemoOk Q M) {n : Nat} {m m' : AM} (h : toK (frunE (fast Q M) n) m = some m') : Comes Q m m' := by
  rw [fast_eq] at h
  obtain ⟨⟨fn, n', env, todo, ds, mode, df, ro⟩, cs, hp⟩ := m
  exact frunE_snd hN hmix hM n ⟨fn, n', ds, df, ro⟩ mode env todo cs hp h
end
end Go.Abs.T

