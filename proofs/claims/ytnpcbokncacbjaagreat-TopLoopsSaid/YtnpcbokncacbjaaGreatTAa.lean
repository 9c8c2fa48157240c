/- A machine in plain words for the model, each of its steps some steps of the model. -/
import GoSem.Step
set_option linter.all false
namespace Go.Abs
noncomputable section

/-! sparse trees over Nat keys -/
inductive PT (α : Type) where
  | e
  | nd (l : PT α) (v : Option α) (r : PT α)

variable {α : Type}

def PT.get (t : PT α) : Nat → Option α :=
  PT.rec (motive := fun _ => Nat → Option α) (fun _ => none)
    (fun _ v _ gl gr k => Nat.rec (motive := fun _ => Option α) v (fun k' _ => Nat.rec (motive := fun _ => Nat → Option α) gl (fun _ _ => gr) (Nat.mod k' 2) (Nat.div k' 2)) k) t
def PT.one (x : Option α) (f : Nat) : Nat → PT α :=
  Nat.rec (motive := fun _ => Nat → PT α) (fun _ => .e)
    (fun _ ih k => Nat.rec (motive := fun _ => PT α) (.nd .e x .e) (fun k' _ => Nat.rec (motive := fun _ => PT α → PT α) (fun s => .nd s none .e) (fun _ _ s => .nd .e none s) (Nat.mod k' 2) (ih (Nat.div k' 2))) k) f
def PT.put (x : Option α) (t : PT α) : Nat → PT α :=
  PT.rec (motive := fun _ => Nat → PT α) (fun k => PT.one x (k + 1) k)
    (fun l v r gl gr k => Nat.rec (motive := fun _ => PT α) (.nd l x r) (fun k' _ => Nat.rec (motive := fun _ => Nat → PT α) (fun j => .nd (gl j) v r) (fun _ _ j => .nd l v (gr j)) (Nat.mod k' 2) (Nat.div k' 2)) k) t

def PT.set (t : PT α) (k : Nat) (x : α) : PT α := PT.put (some x) t k
def PT.del (t : PT α) (k : Nat) : PT α := PT.put none t k
def PT.setL : PT α → Nat → List α → PT α
  | t, _, [] => t
  | t, i, x :: xs => PT.setL (t.set i x) (i + 1) xs
def PT.getL (t : Nat → Option α) : Nat → Nat → Option (List α)
  | _, 0 => some []
  | i, n + 1 => match t i with
    | none => none
    | some v => match PT.getL t (i + 1) n with
      | none => none
      | some vs => some (v :: vs)

/-! numbers reckoned from unknown ones -/
inductive Trm where
  | var (i : Nat)
  | con (n : Int)
  | op (o : BinOp) (k : IntKind) (a b : Trm)
  | wrp (k : IntKind) (a : Trm)
  | mn (a b : Trm)
  | mx (a b : Trm)
  deriving Inhabited

/-! values with abstract block numbers -/
inductive AV where
  | bool (b : Bool)
  | int (k : IntKind) (n : Int)
  /-- `m` times the number `i`, of which is known that it is of `lo` to `hi`, and `c` -/
  | lin (k : IntKind) (i : Nat) (m c : Int) (lo hi : Nat)
  | str (s : ByteArray)
  | ptr (b off : Nat)
  /-- an address `m` times the number `i` and `c` behind a block's begin -/
  | ptrL (b i m c lo hi : Nat)
  /-- a number that is reckoned from unknown ones -/
  | trm (k : IntKind) (t : Trm)
  | nilp
  | slice (b off len cap : Nat)
  | vslice (b off len sub : Nat)
  /-- empty, at the end of what is known of an append's block: at `off0` if the block ends there, else at `off` -/
  | eslice (b off0 off sub : Nat)
  | nils
  | map (r : Nat)
  | nilm
  | func (fn : Fn) (first captured : List AV)
  | yld (l : Nat)
  | nilf
  | iface (t : Nat) (v : AV)
  | nili
  | agg (vs : List AV)
  | tup (vs : List AV)
  deriving Inhabited

def AV.cells : AV → List AV
  | .agg l => l
  | v => [v]

def undefA : AV := .tup []

/-- same number -/
def sameI (a b : Int) : Bool := match a, b with
  | .ofNat n, .ofNat m => Nat.beq n m
  | .negSucc n, .negSucc m => Nat.beq n m
  | _, _ => false
def sameT : Trm → Trm → Bool
  | .var i, .var j => Nat.beq i j
  | .con a, .con b => sameI a b
  | .op o k a b, .op o' k' a' b' => decide (o = o') && decide (k = k') && sameT a a' && sameT b b'
  | .wrp k a, .wrp k' a' => decide (k = k') && sameT a a'
  | .mn a b, .mn a' b' => sameT a a' && sameT b b'
  | .mx a b, .mx a' b' => sameT a a' && sameT b b'
  | _, _ => false
mutual
/-- same value: what a second look must find -/
def sameV : AV → AV → Bool
  | .bool a, .bool b => a == b
  | .int k a, .int l b => decide (k = l) && a == b
  | .lin k i m a lo hi, .lin l j m' b lo' hi' => decide (k = l) && Nat.beq i j && m == m' && a == b && Nat.beq lo lo' && Nat.beq hi hi'
  | .ptrL a b c d lo hi, .ptrL a' b' c' d' lo' hi' => Nat.beq a a' && Nat.beq b b' && Nat.beq c c' && Nat.beq d d' && Nat.beq lo lo' && Nat.beq hi hi'
  | .str a, .str b => decide (a = b)
  | .ptr a b, .ptr c d => Nat.beq a c && Nat.beq b d
  | .trm k a, .trm l b => decide (k = l) && sameT a b
  | .nilp, .nilp => true
  | .slice a b c d, .slice a' b' c' d' => Nat.beq a a' && Nat.beq b b' && Nat.beq c c' && Nat.beq d d'
  | .eslice a b c d, .eslice a' b' c' d' => Nat.beq a a' && Nat.beq b b' && Nat.beq c c' && Nat.beq d d'
  | .vslice a b c d, .vslice a' b' c' d' => Nat.beq a a' && Nat.beq b b' && Nat.beq c c' && Nat.beq d d'
  | .nils, .nils => true
  | .map a, .map b => Nat.beq a b
  | .nilm, .nilm => true
  | .func f a b, .func g c d => decide (f = g) && sameL a c && sameL b d
  | .yld a, .yld b => Nat.beq a b
  | .nilf, .nilf => true
  | .iface t v, .iface u w => Nat.beq t u && sameV v w
  | .nili, .nili => true
  | .agg a, .agg b => sameL a b
  | .tup a, .tup b => sameL a b
  | _, _ => false
def sameL : List AV → List AV → Bool
  | [], [] => true
  | a :: as, b :: bs => sameV a b && sameL as bs
  | _, _ => false
end


/-- a value of the program's text: it names no block -/
def ofScalar : Value → Option AV
  | .bool b => some (.bool b)
  | .int k n => some (.int k n)
  | .string s => some (.str s)
  | .pointer none => some .nilp
  | .slice none 0 0 => some .nils
  | .map none => some .nilm
  | .nilFunc => some .nilf
  | .nilIface => some .nili
  | _ => none
def ofScalars : List Value → Option (List AV)
  | [] => some []
  | v :: vs => match ofScalar v with
    | none => none
    | some a => match ofScalars vs with
      | none => none
      | some l => some (a :: l)
def ofVal : Value → Option AV
  | .agg cs => match ofScalars cs.toList with
    | some l => some (.agg l)
    | none => none
  | v => ofScalar v

structure ADef where
  fn : Fn              -- `.func f` alone is made
  args : List AV
  cap : List AV
  deriving Inhabited
inductive ADefer where
  | call (d : ADef)
  | collected (r : Nat)
  deriving Inhabited

/-- memory -/
inductive AObj where
  /-- cells: below `lim` they are `m`'s, else the zeros `zero`, periodic (`zero = []`: `m` alone). `exact`: the block ends there; else it is an append's, of elements of `esz` cells -/
  | cells (zero : List (Nat × AV)) (per lim : Nat) (exact : Bool) (esz : Nat) (m : PT AV)
  | map (es : List (AV × AV × Nat)) (clock : Nat)
  | mapIter (m : Option Nat) (since : Nat) (seen : List Nat) (stepped : Nat)
  | loop (state : LoopState) (pending : Option Code) (fn : Nat) (n : Nat) (env : PT AV) (params : List Nat) (assign body : Code) (defers : Nat)
  | deferred (calls : Option (List ADefer))
  deriving Inhabited

/-- what is known of unknown numbers: a comparison and what it comes to -/
structure Fact where
  o : BinOp
  a : Trm
  b : Trm
  is : Bool
structure AHeap where
  m : PT AObj
  next : Nat
  facts : List Fact

def zeroAt : List (Nat × AV) → Nat → Option AV
  | [], _ => none
  | (k, v) :: rest, i => match Nat.blt i k with
    | true => some v
    | false => zeroAt rest (i - k)

def AObj.at (o : AObj) (i : Nat) : Option AV :=
  match o with
  | .cells zero per lim _ _ m => match Nat.blt i lim with
    | true => match m.get i with
      | some v => some v
      | none => zeroAt zero (Nat.mod i per)
    | false => none
  | _ => none

def AHeap.new (h : AHeap) (o : AObj) : Nat × AHeap := (h.next, ⟨h.m.set h.next o, h.next + 1, h.facts⟩)

def AHeap.load (h : AHeap) (b i : Nat) : Option AV := match h.m.get b with
  | some o => o.at i
  | none => none

def AHeap.loadL (h : AHeap) (b i n : Nat) : Option (List AV) := match h.m.get b with
  | some o => PT.getL o.at i n
  | none => none

def oneCell : AV → Bool
  | .agg _ => false
  | .tup _ => false
  | _ => true

def sameScalar : AV → AV → Bool
  | .int k a, .int l b => decide (k = l) && a == b
  | .bool a, .bool b => a == b
  | .nilp, .nilp => true
  | .nils, .nils => true
  | .nilm, .nilm => true
  | .nilf, .nilf => true
  | .nili, .nili => true
  | _, _ => false

/-- cells put into a block; what is the block's default is not stored again -/
def setS (z : List (Nat × AV)) (p : Nat) : PT AV → Nat → List AV → PT AV
  | t, _, [] => t
  | t, i, x :: xs => match t.get i with
    | some _ => setS z p (t.set i x) (i + 1) xs
    | none => match zeroAt z (Nat.mod i p) with
      | some d => (match sameScalar x d with
        | true => setS z p t (i + 1) xs
        | false => setS z p (t.set i x) (i + 1) xs)
      | none => setS z p (t.set i x) (i + 1) xs

def AHeap.storeL (h : AHeap) (b i : Nat) (vs : List AV) : Option AHeap :=
  match h.m.get b with
  | some (.cells z p lim ex esz m) => match Nat.ble (i + vs.length) lim && vs.all oneCell with
    | true => some ⟨h.m.set b (.cells z p lim ex esz (setS z p m i vs)), h.next, h.facts⟩
    | false => none
  | _ => none

/-! types -/
def runsOf : List AV → List (Nat × AV)
  | [] => []
  | v :: vs => match runsOf vs with
    | [] => [(1, v)]
    | (k, u) :: rest => match sameScalar v u with
      | true => (k + 1, u) :: rest
      | false => (1, v) :: (k, u) :: rest

section
variable (P : Program)

def tinfo (t : TypeId) : Option TypeInfo := P.toTables.info? t
def tsize (t : TypeId) : Option Nat := match tinfo P t with | some i => some i.size | none => none
def tbytes (t : TypeId) : Option Nat := match tinfo P t with | some i => some i.bytes | none => none
def tzero (t : TypeId) : Option AV := match tinfo P t with
  | some i => (match i.zero with | some v => ofVal v | none => none)
  | none => none
def tzruns (t : TypeId) : Option (List (Nat × AV)) := match tzero P t, tsize P t with
  | some v, some n => if v.cells.length = n then some (runsOf v.cells) else none
  | _, _ => none
def tagg (t : TypeId) : Option Bool := match P.underlying t with
  | some (.struct _) => some true
  | some (.array _ _) => some true
  | some _ => some false
  | none => none
def tfield (s : TypeId) (f : Nat) : Option Field := match P.underlying s with
  | some (.struct fs) => fs[f]?
  | _ => none

def loadVarA (h : AHeap) (t : TypeId) (b off : Nat) : Option AV :=
  match tagg P t with
  | some true => match tsize P t with
    | some n => if n = 0 then none else match h.loadL b off n with
      | some l => some (.agg l)
      | none => none
    | none => none
  | some false => h.load b off
  | none => none

def storeVarA (h : AHeap) (t : TypeId) (b off : Nat) (v : AV) : Option AHeap :=
  match tsize P t with
  | some n => if v.cells.length = n then h.storeL b off v.cells else none
  | none => none

/-- a new variable that holds just these cells -/
def newRowA (h : AHeap) (vs : List AV) : Nat × AHeap := h.new (.cells [] 1 vs.length true 1 (PT.setL .e 0 vs))

def partA (t : TypeId) (cs : List AV) (off : Nat) : Option AV :=
  match tagg P t with
  | some true => match tsize P t with
    | some n => some (.agg ((cs.drop off).take n))
    | none => none
  | some false => cs[off]?
  | none => none

def live (h : AHeap) (b : Nat) : Bool := (h.m.get b).isSome

def alive (h : AHeap) (b : Nat) : Bool := match h.m.get b with | some (.cells ..) => true | _ => false

mutual
def eqA (h : AHeap) : Nat → TypeId → AV → AV → Option Bool
  | 0, _, _, _ => none
  | d + 1, t, x, y =>
    match P.underlying t, x, y with
    | some .bool, .bool a, .bool b => some (a == b)
    | some (.int _), .int k a, .int k' b => if k = k' then some (a == b) else none
    | some .string, .str a, .str b => some (a == b)
    | some (.pointer _), .nilp, .nilp => some true
    | some (.pointer _), .nilp, .ptr _ _ => some false
    | some (.pointer _), .ptr _ _, .nilp => some false
    | some (.pointer e), .ptr b o, .ptr b' o' => match tsize P e with
      | some (_ + 1) => if b = b' then some (o == o') else if alive h b && alive h b' then some false else none
      | _ => none
    | some (.interface _), .nili, .nili => some true
    | some (.interface _), .nili, .iface _ _ => some false
    | some (.interface _), .iface _ _, .nili => some false
    | some (.slice _), .nils, .nils => some true
    | some (.slice _), .nils, .slice .. => some false
    | some (.slice _), .nils, .vslice .. => some false
    | some (.slice _), .nils, .eslice .. => some false
    | some (.slice _), .slice .., .nils => some false
    | some (.slice _), .vslice .., .nils => some false
    | some (.slice _), .eslice .., .nils => some false
    | some (.map _ _), .nilm, .nilm => some true
    | some (.map _ _), .nilm, .map _ => some false
    | some (.map _ _), .map _, .nilm => some false
    | some (.func _ _ _), .nilf, .nilf => some true
    | some (.func _ _ _), .nilf, .func .. => some false
    | some (.func _ _ _), .func .., .nilf => some false
    | some (.struct fs), .agg xs, .agg ys => if P.stoodInHeld t then none else eqFields h d fs.toList xs ys
    | some (.array n e), .agg xs, .agg ys => match tsize P e with
      | some s => eqElems h d e s n 0 xs ys
      | none => none
    | _, _, _ => none
def eqFields (h : AHeap) : Nat → List Field → List AV → List AV → Option Bool
  | 0, _, _, _ => none
  | _, [], _, _ => some true
  | d + 1, f :: fs, xs, ys =>
    if f.name ≠ "_" then
      match partA P f.type xs f.offset, partA P f.type ys f.offset with
      | some a, some b => match eqA h d f.type a b with
        | some true => eqFields h d fs xs ys
        | some false => some false
        | none => none
      | _, _ => none
    else eqFields h d fs xs ys
def eqElems (h : AHeap) : Nat → TypeId → Nat → Nat → Nat → List AV → List AV → Option Bool
  | 0, _, _, _, _, _, _ => none
  | _, _, _, 0, _, _, _ => some true
  | d + 1, e, s, n + 1, i, xs, ys =>
    match partA P e xs (i * s), partA P e ys (i * s) with
    | some a, some b => match eqA h d e a b with
      | some true => eqElems h d e s n (i + 1) xs ys
      | some false => some false
      | none => none
    | _, _ => none
end

/-- may this be a map's key: it holds no interface -/
def keyOk : Nat → TypeId → AV → Bool
  | 0, _, _ => false
  | d + 1, t, v => match P.underlying t, v with
    | some (.int _), _ => true
    | some .string, _ => true
    | some .bool, _ => true
    | some (.struct fs), .agg cs => fs.toList.all fun f => match partA P f.type cs f.offset with
      | some x => keyOk d f.type x
      | none => false
    | _, _ => false

def findKeyA (h : AHeap) (t : TypeId) (k : AV) : List (AV × AV × Nat) → Nat → Option (Option (Nat × AV))
  | [], _ => some none
  | e :: es, i => match eqA P h 20 t k e.1 with
    | some true => some (some (i, e.2.1))
    | some false => findKeyA h t k es (i + 1)
    | none => none

/-! results of an operation -/
inductive AR where
  | val (v : AV) (h : AHeap)
  | enter (f : FuncId) (args : List AV) (h : AHeap)
  | round (l : Nat) (args : List AV) (h : AHeap)
  | defer (d : ADef)
  | recover
  | panic (v : AV)

def intBin (op : BinOp) (k : IntKind) (a b : Int) : Option AV :=
  match op with
  | .add => some (.int k (k.wrap (a + b)))
  | .sub => some (.int k (k.wrap (a - b)))
  | .mul => some (.int k (k.wrap (a * b)))
  | .quo => if b = 0 then none else some (.int k (k.wrap (a.tdiv b)))
  | .rem => if b = 0 then none else some (.int k (a.tmod b))
  | .and => some (.int k (k.wrap ((BitVec.ofInt k.bits a &&& BitVec.ofInt k.bits b).toNat)))
  | .or => some (.int k (k.wrap ((BitVec.ofInt k.bits a ||| BitVec.ofInt k.bits b).toNat)))
  | .xor => some (.int k (k.wrap ((BitVec.ofInt k.bits a ^^^ BitVec.ofInt k.bits b).toNat)))
  | .andNot => some (.int k (k.wrap ((BitVec.ofInt k.bits a &&& ~~~ BitVec.ofInt k.bits b).toNat)))
  | .eql => some (.bool (a == b))
  | .neq => some (.bool (a != b))
  | .lss => some (.bool (decide (a < b)))
  | .leq => some (.bool (decide (a ≤ b)))
  | .gtr => some (.bool (decide (a > b)))
  | .geq => some (.bool (decide (a ≥ b)))
  | _ => none

def numOrStr : AV → Bool
  | .int _ _ => true
  | .lin .. => true
  | .trm .. => true
  | .str _ => true
  | _ => false

def binA (h : AHeap) (op : BinOp) (t : TypeId) (x y : AV) : Option AV :=
  match op, x, y with
  | .shl, .int k a, .int _ b => if b < 0 then none else some (.int k (k.wrap (a * 2 ^ min b.toNat k.bits)))
  | .shr, .int k a, .int _ b => if b < 0 then none else some (.int k (a.fdiv (2 ^ min b.toNat k.bits)))
  | op, .int k a, .int k' b => if k = k' then intBin op k a b else none
  | .eql, x, y => match numOrStr x with
    | true => none
    | false => match eqA P h 20 t x y with | some r => some (.bool r) | none => none
  | .neq, x, y => match numOrStr x with
    | true => none
    | false => match eqA P h 20 t x y with | some r => some (.bool (!r)) | none => none
  | _, _, _ => none

def isConstO : Operand → Bool
  | .const _ => true
  | _ => false
/-- what the model asks ahead of a comparison -/
def guardA (op : BinOp) (t : TypeId) (x y : Operand) (a b : AV) : Bool :=
  match op with
  | .eql | .neq => match a, b with
    | .nili, .nili => isConstO x || isConstO y
    | .agg _, .agg _ => !P.eqGuardType P.depth t
    | _, _ => true
  | _ => true

def unA (op : UnOp) (x : AV) : Option AV :=
  match op, x with
  | .neg, .int k n => some (.int k (k.wrap (0 - n)))
  | .xor, .int k n => some (.int k (k.wrap ((BitVec.ofInt k.bits (if k.signed then -1 else k.max) ^^^ BitVec.ofInt k.bits n).toNat)))
  | .not, .bool b => some (.bool !b)
  | _, _ => none

def placesA : List Field → Option (List (Nat × Nat))
  | [] => some []
  | f :: fs => match tsize P f.type, placesA fs with
    | some s, some l => some ((f.offset, s) :: l)
    | _, _ => none

def fillA (place : Nat → Option (Nat × Nat)) (cells : List AV) : List (Nat × AV) → Option (List AV)
  | [] => some cells
  | (i, v) :: rest => match place i with
    | none => none
    | some (off, size) =>
      if v.cells.length = size ∧ off + size ≤ cells.length then fillA place (cells.take off ++ v.cells ++ cells.drop (off + size)) rest else none

def bound (x : Option AV) (dflt most : Nat) : Option Nat :=
  match x with
  | none => some dflt
  | some (.int _ i) => if 0 ≤ i ∧ i ≤ most then some i.toNat else none
  | _ => none

/-- low, high, max of a slice expression -/
def boundsA (len : Nat) (most : Nat) (lo hi mx : Option AV) : Option (Nat × Nat × Option Nat) :=
  match mx, hi with
  | none, hi => match bound hi len most with
    | none => none
    | some h => match bound lo 0 h with
      | none => none
      | some l => some (l, h, none)
  | some m, some hi => match bound (some m) 0 most with
    | none => none
    | some m => match bound (some hi) 0 m with
      | none => none
      | some h => match bound lo 0 h with
        | none => none
        | some l => some (l, h, some m)
  | some _, none => none

/-- how many elements a block of an append has at the least -/
def least (h : AHeap) (b : Nat) : Option (Nat × Nat) := match h.m.get b with
  | some (.cells _ _ lim false esz _) => some (lim / esz, esz)
  | _ => none

def sliceA (h : AHeap) (t : TypeId) (x : AV) (lo hi mx : Option AV) : Option AV :=
  match P.underlying t, x with
  | some (.slice e), .nils => match boundsA 0 0 lo hi mx with | some _ => (match tsize P e with | some _ => some .nils | none => none) | none => none
  | some (.slice e), .slice b off len cap => match boundsA len cap lo hi mx, tsize P e with
    | some (l, h, m), some s => let m := m.getD cap; some (.slice b (if m = l then off else off + l * s) (h - l) (m - l))
    | _, _ => none
  | some (.slice e), .vslice b off len sub => match least h b, tsize P e with
    | some (lo', esz), some s => if esz = s ∧ off = sub * s ∧ sub ≤ lo' then
        match boundsA len (lo' - sub) lo hi mx with
        | some (l, hh, some m) => some (.slice b (if m = l then off else off + l * s) (hh - l) (m - l))
        | some (l, hh, none) => if l < lo' - sub then some (.vslice b (off + l * s) (hh - l) (sub + l)) else if l = 0 then some (.vslice b off hh sub) else if hh = l ∧ l = lo' - sub then some (.eslice b off (off + l * s) (sub + l)) else none
        | none => none
      else none
    | _, _ => none
  | some (.slice e), .eslice b o off sub => match boundsA 0 0 lo hi mx with
    | some (_, _, none) => match tsize P e with
      | some _ => some (.eslice b o off sub)
      | none => none
    | _ => none
  | some (.array n e), .ptr b off => match boundsA n n lo hi mx, tsize P e with
    | some (l, h, m), some s => let m := m.getD n; some (.slice b (if m = l then off else off + l * s) (h - l) (m - l))
    | _, _ => none
  | _, _ => none

def lenA (h : AHeap) (t : TypeId) (x : AV) : Option Nat :=
  match P.underlying t, x with
  | some (.slice _), .nils => some 0
  | some (.slice _), .slice _ _ n _ => some n
  | some (.slice _), .vslice _ _ n _ => some n
  | some (.slice _), .eslice .. => some 0
  | some (.string), .str s => some s.size
  | some (.map _ _), .nilm => some 0
  | some (.map _ _), .map r => match h.m.get r with | some (.map es _) => some es.length | _ => none
  | some (.array n _), _ => some n
  | some (.pointer a), _ => match P.underlying a with | some (.array n _) => some n | _ => none
  | _, _ => none

def sliceLen : AV → Option Nat
  | .nils => some 0
  | .slice _ _ n _ => some n
  | .vslice _ _ n _ => some n
  | .eslice .. => some 0
  | _ => none

def firstA (h : AHeap) (size n : Nat) : AV → Option (List AV)
  | .nils => some []
  | .slice b off _ _ => h.loadL b off (n * size)
  | .vslice b off _ _ => h.loadL b off (n * size)
  | .eslice .. => if n = 0 then some [] else none
  | .str s => some ((s.data.toList.take n).map fun b => .int .u8 b.toNat)
  | _ => none

/-- the new block of an append -/
def grownA (h : AHeap) (size need : Nat) (cells : List AV) : AR :=
  let (b, h) := h.new (.cells [] 1 (need * size) false size (PT.setL .e 0 cells))
  .val (.vslice b 0 need 0) h

def appendA (h : AHeap) (ts : TypeId) (s x : AV) : Option AR :=
  match P.underlying ts with
  | some (.slice e) => match tsize P e, tbytes P e, sliceLen x with
    | some size, some bytes, some n =>
      if size = 0 then none else
      if bytes * 4294967296 > 2 ^ 48 then none else
      if (tzruns P e).isNone then none else
      match s with
      | .nils => if n = 0 then some (.val .nils h) else
        match firstA h size n x with
        | some new => if n < 1048576 then some (grownA h size n new) else none
        | none => none
      | .slice b off len cap =>
        if len + n ≤ cap then
          match firstA h size n x with
          | some new => match (if n = 0 then some h else h.storeL b (off + len * size) new) with
            | some h => some (.val (.slice b off (len + n) cap) h)
            | none => none
          | none => none
        else if len = 0 then
          -- the whole of another block: its cells are shared
          match x with
          | .slice b' 0 n' _ => match h.m.get b' with
            | some (.cells z p lim true _ m) =>
              if n' * size = lim ∧ n' < 1048576 then
                let (nb, h) := h.new (.cells z p lim false size m)
                some (.val (.vslice nb 0 n' 0) h)
              else none
            | some (.cells _ _ _ false _ _) => match firstA h size n x with
              | some new => if n < 1048576 then some (grownA h size n new) else none
              | none => none
            | _ => none
          | _ => match firstA h size n x with
            | some new => if n < 1048576 then some (grownA h size n new) else none
            | none => none
        else
          match firstA h size len s, firstA h size n x with
          | some old, some new => if len + n < 1048576 then some (grownA h size (len + n) (old ++ new)) else none
          | _, _ => none
      | .vslice b off len sub => match least h b with
        | some (lo, esz) => if esz = size ∧ off = sub * size then
            if n = 0 then (if len + sub ≤ lo then some (.val (.vslice b off len sub) h) else none) else
            if len + n + sub ≤ lo then
              match firstA h size n x with
              | some new => match h.storeL b (off + len * size) new with
                | some h => some (.val (.vslice b off (len + n) sub) h)
                | none => none
              | none => none
            else
              match firstA h size len s, firstA h size n x with
              | some old, some new => if len + n < 1048576 then some (grownA ⟨h.m.del b, h.next, h.facts⟩ size (len + n) (old ++ new)) else none
              | _, _ => none
          else none
        | none => none
      | .eslice b _ off sub => match least h b with
        | some (_, esz) => if esz = size ∧ off = sub * size ∧ 0 < n ∧ n < 1048576 then
            match firstA h size n x with
            | some new => some (grownA ⟨h.m.del b, h.next, h.facts⟩ size n new)
            | none => none
          else none
        | none => none
      | _ => none
    | _, _, _ => none
  | _ => none

/-- `append(s, make([]T, n)...)`, where it grows -/
def appendZerosA (h : AHeap) (ts : TypeId) (s x : AV) : Option AR :=
  match P.underlying ts, x with
  | some (.slice e), .int .i64 n => match tsize P e, tbytes P e, tzero P e with
    | some size, some bytes, some z =>
      if size = 0 ∨ n < 0 ∨ n ≥ 65536 ∨ bytes * 4294967296 > 2 ^ 48 ∨ z.cells.length ≠ size ∨ (z.cells.all oneCell) = false then none else
      let n := n.toNat
      let new := List.flatten (List.replicate n z.cells)
      match s with
      | .vslice b off len sub => match least h b with
        | some (lo, esz) => if esz = size ∧ off = sub * size then
            if n = 0 then none else
            if len + n + sub ≤ lo then none else
              match firstA h size len s with
              | some old => if len + n < 1048576 then some (grownA ⟨h.m.del b, h.next, h.facts⟩ size (len + n) (old ++ new)) else none
              | _ => none
          else none
        | none => none
      | .nils => if n = 0 then none else some (grownA h size n new)
      | _ => none
    | _, _, _ => none
  | _, _ => none

def copyA (h : AHeap) (ts : TypeId) (d s : AV) : Option AR :=
  match P.underlying ts with
  | some (.slice e) => match tsize P e, sliceLen d, sliceLen s with
    | some size, some dl, some sl =>
      if size = 0 then none else
      let n := Nat.min sl dl
      match firstA h size n s with
      | some l => match d with
        | .nils => some (.val (.int .i64 n) h)
        | .slice b off _ _ => (match (if n = 0 then some h else h.storeL b off l) with | some h => some (.val (.int .i64 n) h) | none => none)
        | .vslice b off _ _ => (match (if n = 0 then some h else h.storeL b off l) with | some h => some (.val (.int .i64 n) h) | none => none)
        | _ => none
      | none => none
    | _, _, _ => none
  | _ => none

def clearA (h : AHeap) (ts : TypeId) (x : AV) : Option AR :=
  match P.underlying ts, x with
  | some (.slice _), .nils => some (.val undefA h)
  | some (.slice e), .slice b off n _ => match tzero P e with
    | some z => if n = 0 then some (.val undefA h) else if n < 65536 then (match h.storeL b off (List.flatten (List.replicate n z.cells)) with | some h => some (.val undefA h) | none => none) else none
    | none => none
  | some (.slice e), .vslice b off n _ => match tzero P e with
    | some z => if n = 0 then some (.val undefA h) else if n < 65536 then (match h.storeL b off (List.flatten (List.replicate n z.cells)) with | some h => some (.val undefA h) | none => none) else none
    | none => none
  | some (.slice _), .eslice .. => some (.val undefA h)
  | _, _ => none

def minmaxA (isMax : Bool) : AV → List AV → Option AV
  | x, [] => some x
  | .int k x, .int _ y :: rest => minmaxA isMax (.int k (if isMax then (if y > x then y else x) else (if y < x then y else x))) rest
  | _, _ => none

def deleteA (h : AHeap) (tm : TypeId) (m k : AV) : Option AR :=
  match P.underlying tm with
  | some (.map kt _) => if keyOk P 20 kt k then match m with
    | .nilm => some (.val undefA h)
    | .map r => match h.m.get r with
      | some (.map es clock) => match findKeyA P h kt k es 0 with
        | some (some (i, _)) => some (.val undefA ⟨h.m.set r (.map (es.eraseIdx i) clock), h.next, h.facts⟩)
        | some none => some (.val undefA ⟨h.m.set r (.map es clock), h.next, h.facts⟩)
        | none => none
      | _ => none
    | _ => none
    else none
  | _ => none

def lookupA (h : AHeap) (tm : TypeId) (m k : AV) (ok : Bool) : Option AR :=
  match P.underlying tm with
  | some (.map kt et) => if keyOk P 20 kt k then
    match (match m with | .nilm => some [] | .map r => (match h.m.get r with | some (.map es _) => some es | _ => none) | _ => none) with
    | none => none
    | some es => match findKeyA P h kt k es 0 with
      | some (some (_, v)) => some (.val (if ok then .tup [v, .bool true] else v) h)
      | some none => (match tzero P et with | some z => some (.val (if ok then .tup [z, .bool false] else z) h) | none => none)
      | none => none
    else none
  | _ => none

def updateA (h : AHeap) (tm : TypeId) (m k v : AV) : Option AR :=
  match P.underlying tm, m with
  | some (.map kt _), .map r => if keyOk P 20 kt k then
    match h.m.get r with
    | some (.map es clock) => match findKeyA P h kt k es 0 with
      | some (some (i, _)) => match es[i]? with
        | some e => if sameV k e.1 then some (.val undefA ⟨h.m.set r (.map (es.modify i fun e => (k, v, e.2.2)) clock), h.next, h.facts⟩) else none
        | none => none
      | some none => some (.val undefA ⟨h.m.set r (.map (es ++ [(k, v, clock)]) (clock + 1)), h.next, h.facts⟩)
      | none => none
    | _ => none
    else none
  | _, _ => none

def mapEntryA (h : AHeap) (tm : TypeId) (m k : AV) : Option AR :=
  match P.underlying tm, m with
  | some (.map kt et), .map r => if keyOk P 20 kt k then
    match h.m.get r with
    | some (.map es clock) => match findKeyA P h kt k es 0 with
      | some (some (i, v)) => match es[i]? with
        | some e => if !sameV k e.1 then none else some (.val (.tup [v, .int .i64 e.2.2]) ⟨h.m.set r (.map (es.modify i fun e => (k, e.2.1, e.2.2)) clock), h.next, h.facts⟩)
        | none => none
      | some none => match tzero P et with
        | some z => some (.val (.tup [z, .int .i64 clock]) ⟨h.m.set r (.map (es ++ [(k, z, clock)]) (clock + 1)), h.next, h.facts⟩)
        | none => none
      | none => none
    | _ => none
    else none
  | _, _ => none

def entryStoreA (h : AHeap) (m s v : AV) : Option AR :=
  match m, s with
  | .map r, .int _ born => match h.m.get r with
    | some (.map es clock) => match es.findIdx? (fun e => (e.2.2 : Int) == born) with
      | some i => some (.val undefA ⟨h.m.set r (.map (es.modify i fun e => (e.1, v, e.2.2)) clock), h.next, h.facts⟩)
      | none => none
    | _ => none
  | _, _ => none

/-- ranging over a map: at most one entry is left -/
def nextA (h : AHeap) (it : AV) : Option AR :=
  match it with
  | .ptr r 0 => match h.m.get r with
    | some (.mapIter none _ _ _) => some (.val (.tup [.bool false]) h)
    | some (.mapIter (some m) since seen last) => match h.m.get m with
      | some (.map es clock) =>
        if (!seen.isEmpty && !es.isEmpty && es.all fun e => Nat.ble last e.2.2) then none else
        match es.filter fun e => !seen.contains e.2.2 with
        | [] => some (.val (.tup [.bool false]) h)
        | [e] => if e.2.2 < since then
            some (.val (.tup [.bool true, e.1, e.2.1]) ⟨h.m.set r (.mapIter (some m) since (seen ++ [e.2.2]) clock), h.next, h.facts⟩)
          else none
        | _ => none
      | _ => none
    | _ => none
  | _ => none

def entryA (h : AHeap) (it : AV) : Option AR :=
  match it with
  | .ptr r 0 => match h.m.get r with
    | some (.mapIter (some m) _ seen stepped) => match seen.getLast?, h.m.get m with
      | some stamp, some (.map es clock) => if clock = stepped then
          match es.find? (fun e => e.2.2 == stamp) with
          | some e => some (.val (.tup [e.1, e.2.1]) h)
          | none => none
        else none
      | _, _ => none
    | _ => none
  | _ => none

def rangeA (h : AHeap) (t : TypeId) (x : AV) : Option AR :=
  match P.underlying t, x with
  | some (.map _ _), .nilm => let (r, h) := h.new (.mapIter none 0 [] 0); some (.val (.ptr r 0) h)
  | some (.map _ _), .map m => match h.m.get m with
    | some (.map _ clock) => let (r, h) := h.new (.mapIter (some m) clock [] clock); some (.val (.ptr r 0) h)
    | _ => none
  | _, _ => none

def typeAssertA (h : AHeap) (x : AV) (asserted : TypeId) (ok : Bool) : Option AR :=
  match P.underlying asserted, x with
  | some (.interface _), _ => none
  | some _, .iface t v => if t = asserted then some (.val (if ok then .tup [v, .bool true] else v) h)
      else if ok then (match tzero P asserted with | some z => some (.val (.tup [z, .bool false]) h) | none => none) else none
  | some _, .nili => if ok then (match tzero P asserted with | some z => some (.val (.tup [z, .bool false]) h) | none => none) else none
  | _, _ => none

def convertA (src dst : TypeId) (x : AV) : Option AV :=
  match P.underlying src, P.underlying dst, x with
  | some _, some (.int k), .int _ n => some (.int k (k.wrap n))
  | some _, some .string, .str s => some (.str s)
  | _, _, _ => none

abbrev Env := PT AV
def evalA (env : Env) : Operand → Option AV
  | .tmp t => env.get t
  | .const v => ofVal v
  | .global _ => none
  | .func f => some (.func (.func f) [] [])
def evalL (env : Env) : List Operand → Option (List AV)
  | [] => some []
  | o :: os => match evalA env o with
    | none => none
    | some v => match evalL env os with
      | none => none
      | some vs => some (v :: vs)
def evalO (env : Env) : Option Operand → Option (Option AV)
  | none => some none
  | some o => match evalA env o with | some v => some (some v) | none => none
def evalParts (env : Env) : List (Nat × Operand) → Option (List (Nat × AV))
  | [] => some []
  | (i, o) :: os => match evalA env o with
    | none => none
    | some v => match evalParts env os with
      | none => none
      | some vs => some ((i, v) :: vs)

def enterA (f : FuncId) (args : List AV) (h : AHeap) : Option AR :=
  match P.funcs[f]? with
  | some fn => if fn.body.isSome then some (.enter f args h) else none
  | none => none

def callA (f : AV) (args : List AV) (h : AHeap) : Option AR :=
  match f with
  | .func (.func g) first cap => enterA P g (first ++ args ++ cap) h
  | .yld l => some (.round l args h)
  | _ => none

def builtinA (h : AHeap) (b : Builtin) (ts : List TypeId) (args : List AV) : Option AR :=
  match b, ts, args with
  | .append, [t, u], [s, x] => match P.underlying u with
    | some (.int _) => appendZerosA P h t s x
    | some _ => appendA P h t s x
    | none => none
  | .copy, t :: _, [d, s] => copyA P h t d s
  | .clear, [t], [x] => clearA P h t x
  | .len, [t], [x] => match lenA P h t x with | some n => some (.val (.int .i64 n) h) | none => none
  | .cap, [t], [x] => match P.underlying t, x with
    | some (.slice _), .nils => some (.val (.int .i64 0) h)
    | some (.slice _), .slice _ _ _ c => some (.val (.int .i64 c) h)
    | _, _ => none
  | .min, _, x :: xs => match minmaxA false x xs with | some v => some (.val v h) | none => none
  | .max, _, x :: xs => match minmaxA true x xs with | some v => some (.val v h) | none => none
  | .delete, t :: _, [m, k] => deleteA P h t m k
  | .recover, _, _ => some .recover
  | _, _, _ => none

def aop0 (env : Env) (h : AHeap) (o : Oper) : Option AR :=
  let ev := evalA env
  match o.op with
  | .move x => match ev x with | some v => some (.val v h) | none => none
  | .assign x => match ev x with | some v => some (.val v h) | none => none
  | .pick c a b => match ev c with
    | some (.bool true) => (match ev a with | some v => some (.val v h) | none => none)
    | some (.bool false) => (match ev b with | some v => some (.val v h) | none => none)
    | _ => none
  | .alloc e => match tzruns P e, tsize P e with
    | some z, some n => if z.all (fun x => oneCell x.2) then let (b, h) := h.new (.cells z n n true 1 .e); some (.val (.ptr b 0) h) else none
    | _, _ => none
  | .box _ x => match ev x with
    | some v => if v.cells.all oneCell then let (b, h) := newRowA h v.cells; some (.val (.ptr b 0) h) else none
    | none => none
  | .build t parts => match tzero P t, evalParts env parts.toList with
    | some z, some ps => match P.underlying t with
      | some (.struct fs) => match placesA P fs.toList with
        | some pl => match fillA (fun i => pl[i]?) z.cells ps with
          | some l => some (.val (.agg l) h)
          | none => none
        | none => none
      | some (.array _ e) => match tsize P e with
        | some s => match fillA (fun i => some (i * s, s)) z.cells ps with
          | some l => some (.val (.agg l) h)
          | none => none
        | none => none
      | _ => none
    | _, _ => none
  | .buildSlice t len parts => match P.underlying t with
    | some (.slice e) => match tsize P e, tzero P e, evalParts env parts.toList with
      | some s, some z, some ps => if len * s ≤ 65536 ∧ z.cells.length = s then
          match fillA (fun i => some (i * s, s)) (List.flatten (List.replicate len z.cells)) ps with
          | some l => if l.all oneCell then let (b, h) := newRowA h l; some (.val (.slice b 0 len len) h) else none
          | none => none
        else none
      | _, _, _ => none
    | _ => none
  | .load t a => match ev a with
    | some (.ptr b off) => (match loadVarA P h t b off with | some v => some (.val v h) | none => none)
    | _ => none
  | .store t a x => match ev a, ev x with
    | some (.ptr b off), some v => (match storeVarA P h t b off v with | some h => some (.val undefA h) | none => none)
    | _, _ => none
  | .nilCheck x => match ev x with
    | some (.ptr b off) => some (.val (.ptr b off) h)
    | some (.func (.func f) a c) => some (.val (.func (.func f) a c) h)
    | some (.yld l) => some (.val (.yld l) h)
    | _ => none
  | .binOp op t x y _ => match ev x, ev y with
    | some a, some b => if guardA P op t x y a b then (match binA P h op t a b with | some v => some (.val v h) | none => none) else none
    | _, _ => none
  | .unOp op _ x => match ev x with
    | some a => (match unA op a with | some v => some (.val v h) | none => none)
    | none => none
  | .convert s d x => match ev x with
    | some a => (match convertA P s d a with | some v => some (.val v h) | none => none)
    | none => none
  | .makeInterface t x => match ev x, P.underlying t with
    | some _, some (.interface _) => none
    | some v, some _ => some (.val (.iface t v) h)
    | _, _ => none
  | .makeFunc fn first cap => match evalL env first.toList, evalL env cap.toList with
    | some a, some b => some (.val (.func fn a b) h)
    | _, _ => none
  | .makeMap t r => match P.underlying t, evalO env r with
    | some (.map _ _), some none => let (b, h) := h.new (.map [] 0); some (.val (.map b) h)
    | some (.map _ _), some (some (.int _ _)) => let (b, h) := h.new (.map [] 0); some (.val (.map b) h)
    | _, _ => none
  | .makeSlice t l c => match P.underlying t, ev l, ev c with
    | some (.slice e), some (.int .i64 l), some (.int .i64 c) => match tsize P e, tzruns P e, tbytes P e with
      | some s, some z, some bytes => if 0 ≤ l ∧ l ≤ c ∧ c ≤ 1048576 ∧ bytes * 4294967296 ≤ 2 ^ 48 ∧ z.all (fun x => oneCell x.2) then
          let (b, h) := h.new (.cells z s (c.toNat * s) true s .e)
          some (.val (.slice b 0 l.toNat c.toNat) h)
        else none
      | _, _, _ => none
    | _, _, _ => none
  | .slice t x lo hi mx => match ev x, evalO env lo, evalO env hi, evalO env mx with
    | some v, some lo, some hi, some mx => (match sliceA P h t v lo hi mx with | some v => some (.val v h) | none => none)
    | _, _, _, _ => none
  | .fieldAddr s x f => match ev x, tfield P s f with
    | some (.ptr b off), some fl => (match tsize P fl.type with
      | some (_ + 1) => some (.val (.ptr b (off + fl.offset)) h)
      | _ => none)
    | _, _ => none
  | .field t x f => match ev x, tfield P t f with
    | some (.agg cs), some fl => (match partA P fl.type cs fl.offset with | some v => some (.val v h) | none => none)
    | _, _ => none
  | .indexAddr t x ix => match P.underlying t, ev x, ev ix with
    | some (.array n e), some (.ptr b off), some (.int _ i) => if 0 ≤ i ∧ i < n then (match tsize P e with | some s => some (.val (.ptr b (off + i.toNat * s)) h) | none => none) else none
    | some (.slice e), some (.slice b off n _), some (.int _ i) => if 0 ≤ i ∧ i < n then (match tsize P e with | some s => some (.val (.ptr b (off + i.toNat * s)) h) | none => none) else none
    | some (.slice e), some (.vslice b off n _), some (.int _ i) => if 0 ≤ i ∧ i < n then (match tsize P e with | some s => some (.val (.ptr b (off + i.toNat * s)) h) | none => none) else none
    | _, _, _ => none
  | .index t x ix => match P.underlying t, ev x, ev ix with
    | some (.array n e), some (.agg cs), some (.int _ i) => if 0 ≤ i ∧ i < n then
        (match tsize P e with | some s => (match partA P e cs (i.toNat * s) with | some v => some (.val v h) | none => none) | none => none) else none
    | some .string, some (.str s), some (.int _ i) => if 0 ≤ i then (match s.data.toList[i.toNat]? with | some b => some (.val (.int .u8 b.toNat) h) | none => none) else none
    | _, _, _ => none
  | .lookup t m k ok => match ev m, ev k with
    | some m, some k => lookupA P h t m k ok
    | _, _ => none
  | .mapUpdate t m k v => match ev m, ev k, ev v with
    | some m, some k, some v => updateA P h t m k v
    | _, _, _ => none
  | .insert t m k v => match ev m, ev k, ev v with
    | some m, some k, some v => updateA P h t m k v
    | _, _, _ => none
  | .mapEntry t m k => match ev m, ev k with
    | some m, some k => mapEntryA P h t m k
    | _, _ => none
  | .entryStore _ m s v => match ev m, ev s, ev v with
    | some m, some s, some v => entryStoreA h m s v
    | _, _, _ => none
  | .range t x => match ev x with
    | some x => rangeA P h t x
    | none => none
  | .next it isString => match isString, ev it with
    | false, some it => nextA h it
    | _, _ => none
  | .entry it => match ev it with
    | some it => entryA h it
    | none => none
  | .typeAssert x _ asserted ok => match ev x with
    | some x => typeAssertA P h x asserted ok
    | none => none
  | .extract t i => match ev t with
    | some (.tup vs) => (match vs[i]? with | some v => some (.val v h) | none => none)
    | _ => none
  | .call c => match evalL env c.args.toList with
    | none => none
    | some args => match c.callee with
      | .builtin b => builtinA P h b c.argTypes.toList args
      | .value f => (match ev f with | some f => callA P f args h | none => none)
      | .invoke _ _ => none
  | .defer c => match evalL env c.args.toList, c.callee with
    | some args, .value f => (match ev f with
      | some (.func fn first cap) => some (.defer ⟨fn, first ++ args, cap⟩)
      | _ => none)
    | _, _ => none
  | .panic x => match ev x with
    | some (.iface t v) => some (.panic (.iface t v))
    | _ => none
  | _ => none

/-- operations that neither change memory nor make any, nor leave their function -/
def quietOp : Op → Bool
  | .move _ | .pick .. | .build .. | .load .. | .nilCheck _ | .binOp .. | .unOp .. | .convert .. | .makeInterface .. | .makeFunc .. | .slice .. | .fieldAddr .. | .field ..
  | .indexAddr .. | .index .. | .lookup .. | .typeAssert .. | .extract .. => true
  | .call { callee := .builtin .len, .. } => true
  | .call { callee := .builtin .min, .. } => true
  | .call { callee := .builtin .max, .. } => true
  | _ => false

/-- the temporaries that an operation looks at -/
def readsOf (o : Oper) : List Tmp := o.op.operands.toList.filterMap fun | .tmp t => some t | _ => none
/-- the temporaries of a list alone -/
def restr (env : Env) : List Tmp → Env
  | [] => .e
  | t :: ts => match env.get t with
    | some v => (restr env ts).set t v
    | none => restr env ts

/-! a number that is known to lie in a range: each of its values is tried -/
def instA (i v : Nat) : AV → AV
  | .lin k j m c lo hi => match Nat.beq j i with
    | true => .int k (m * (v : Int) + c)
    | false => .lin k j m c lo hi
  | .ptrL b j m c lo hi => match Nat.beq j i with
    | true => .ptr b (c + m * v)
    | false => .ptrL b j m c lo hi
  | a => a
def symOf : AV → Option (Nat × Nat × Nat)
  | .lin _ i _ _ lo hi => some (i, lo, hi)
  | .ptrL _ i _ _ lo hi => some (i, lo, hi)
  | _ => none
def firstSym (env : Env) : List Tmp → Option (Nat × Nat × Nat)
  | [] => none
  | t :: ts => match env.get t with
    | some a => match symOf a with
      | some s => some s
      | none => firstSym env ts
    | none => firstSym env ts
def instEnv (i v : Nat) (env : Env) : List Tmp → Env
  | [] => .e
  | t :: ts => match env.get t with
    | some a => (instEnv i v env ts).set t (instA i v a)
    | none => instEnv i v env ts
def abst (i lo hi : Nat) : AV → AV → AV
  | .int k a, .int _ b => match decide (a = b) with
    | true => .int k a
    | false => .lin k i (b - a) (a - (b - a) * (lo : Int)) lo hi
  | .ptr b o, .ptr _ o' => match Nat.beq o o' with
    | true => .ptr b o
    | false => .ptrL b i (Nat.sub o' o) (Nat.sub o (Nat.mul (Nat.sub o' o) lo)) lo hi
  | a, _ => match symOf a with
    | some _ => undefA
    | none => a
def allV (f : Nat → Bool) : Nat → Nat → Bool
  | _, 0 => true
  | v, n + 1 => match f v with
    | true => allV f (v + 1) n
    | false => false
def bruteTry (h : AHeap) (o : Oper) (env : Env) (rs : List Tmp) (i : Nat) (r : AV) (v : Nat) : Bool :=
  match aop0 P (instEnv i v env rs) h o with
  | some (.val rv _) => sameV (instA i v r) rv
  | _ => false
def brute (env : Env) (h : AHeap) (o : Oper) : Option AR :=
  match quietOp o.op with
  | false => none
  | true => match firstSym env (readsOf o) with
    | none => none
    | some (i, lo, hi) =>
      match aop0 P (instEnv i lo env (readsOf o)) h o, aop0 P (instEnv i (lo + 1) env (readsOf o)) h o with
      | some (.val r0 _), some (.val r1 _) =>
        match allV (bruteTry P h o env (readsOf o) i (abst i lo hi r0 r1)) lo (hi + 1 - lo) with
        | true => some (.val (abst i lo hi r0 r1) h)
        | false => none
      | _, _ => none
/-! numbers reckoned from unknown ones -/
def asTrm : AV → Option (IntKind × Trm)
  | .int k n => some (k, .con n)
  | .trm k t => some (k, t)
  | _ => none
def isTrm : AV → Bool
  | .trm .. => true
  | _ => false
def factOf : List Fact → BinOp → Trm → Trm → Option Bool
  | [], _, _, _ => none
  | f :: fs, o, a, b => match decide (f.o = o) && sameT f.a a && sameT f.b b with
    | true => some f.is
    | false => factOf fs o a b
def isArith : BinOp → Bool
  | .add => true
  | .sub => true
  | .mul => true
  | .and => true
  | .or => true
  | .xor => true
  | .andNot => true
  | _ => false
def isCmp : BinOp → Bool
  | .eql => true
  | .neq => true
  | .lss => true
  | .leq => true
  | .gtr => true
  | .geq => true
  | _ => false
def isQuo : BinOp → Bool
  | .quo => true
  | .rem => true
  | _ => false
def trmBin (fs : List Fact) (op : BinOp) (k : IntKind) (x y : Trm) : Option AV :=
  match isArith op with
  | true => some (.trm k (.op op k x y))
  | false => match isCmp op with
    | true => (match factOf fs op x y with | some b => some (.bool b) | none => none)
    | false => match isQuo op with
      | true => (match factOf fs .eql y (.con 0) with | some false => some (.trm k (.op op k x y)) | _ => match y with
        | .con n => (match sameI n 0 with | true => none | false => some (.trm k (.op op k x y)))
        | _ => none)
      | false => none
def trmTwo (h : AHeap) (op : BinOp) (a b : AV) : Option AR := match asTrm a, asTrm b with
  | some (k, x), some (l, y) => if k = l then (match trmBin h.facts op k x y with | some v => some (.val v h) | none => none) else none
  | _, _ => none
def trmMM (isMax : Bool) : Trm → List AV → Option Trm
  | t, [] => some t
  | t, v :: vs => match asTrm v with
    | some (_, y) => trmMM isMax (match isMax with | true => .mx t y | false => .mn t y) vs
    | none => none
def isMM : Builtin → Option Bool
  | .min => some false
  | .max => some true
  | _ => none
def trmOp (env : Env) (h : AHeap) (o : Oper) : Option AR :=
  match o.op with
  | .binOp op _ x y _ => (match evalA env x, evalA env y with
    | some a, some b => (match isTrm a || isTrm b with | true => trmTwo h op a b | false => none)
    | _, _ => none)
  | .convert s d x => (match P.underlying s, P.underlying d, evalA env x with
    | some _, some (.int k), some (.trm _ t) => some (.val (.trm k (.wrp k t)) h)
    | _, _, _ => none)
  | .call c => (match c.callee with
    | .builtin b => (match isMM b, evalL env c.args.toList with
      | some isMax, some (x :: xs) => (match asTrm x with
        | some (k, t) => (match trmMM isMax t xs with | some u => some (.val (.trm k u) h) | none => none)
        | none => none)
      | _, _ => none)
    | _ => none)
  | _ => none
def aop (env : Env) (h : AHeap) (o : Oper) : Option AR :=
  match aop0 P env h o with
  | some r => some r
  | none => match brute P env h o with
    | some r => some r
    | none => trmOp P env h o

/-! frames -/
inductive AItem where
  | code (c : Code)
  | inBlock (id : Nat)
  | inLoop (body : Code)
  | inScope (body : Code)
  | inRegion (ops : Array Oper) (todo : List Nat)
  /-- a region that draws its order: what is left of its chain; bits of the chain's that are done; of the quiet ones that were looked at -/
  | draw (ops : Array Oper) (chain : List Nat) (acted seen : Nat)
  | inRangeFunc (loop : Nat)
  | endRangeFunc (loop : Nat)
  | beginRound

structure APanic where
  v : AV
  recovered : Bool

inductive AMode where
  | run
  | returning
  | panicking (chain : List APanic)

structure AFrame where
  fn : FuncId
  n : Nat
  env : Env
  todo : List AItem
  defers : List ADefer
  mode : AMode
  deferred : Bool
  roundOf : Option Nat

structure AM where
  fr : AFrame
  cs : List AFrame
  h : AHeap

def exitA (id : Nat) : List AItem → Option (List AItem)
  | .inBlock id' :: k => if id' == id then some k else exitA id k
  | _ :: k => exitA id k
  | [] => none

def gotoA (l : Nat) : List AItem → Option (List AItem)
  | .inScope body :: k => match findLabel body l with
    | some rest => some (.code rest :: .inScope body :: k)
    | none => gotoA l k
  | _ :: k => gotoA l k
  | [] => none

def putA (fr : AFrame) (dst : Option Tmp) (v : AV) : Option Env :=
  match dst with
  | none => some fr.env
  | some d => match Nat.blt d fr.n with
    | true => some (fr.env.set d v)
    | false => none

def finishA (fr : AFrame) (v : AV) : Option AFrame :=
  match fr.todo with
  | .inRegion ops (i :: rest) :: k => match putA fr ((ops[i]?).bind (·.dst)) v with
    | some env => some { fr with env, todo := .inRegion ops rest :: k }
    | none => none
  | .draw ops (i :: rest) acted seen :: k => match putA fr ((ops[i]?).bind (·.dst)) v with
    | some env => some { fr with env, todo := .draw ops rest (Nat.lor acted (2 ^ i)) seen :: k }
    | none => none
  | .inRangeFunc l :: k => some { fr with todo := .endRangeFunc l :: k }
  | .beginRound :: k => some { fr with todo := k }
  | _ => none

def raiseA (fr : AFrame) (vs : List APanic) : AFrame :=
  match fr.mode with
  | .panicking chain => { fr with mode := .panicking (vs ++ chain) }
  | _ => { fr with mode := .panicking vs }

def envOf : Nat → List AV → Env → Env
  | _, [], e => e
  | i, v :: vs, e => envOf (i + 1) vs (e.set i v)

def enterFrame (f : FuncId) (args : List AV) (deferred : Bool) : Option AFrame :=
  match P.funcs[f]? with
  | some fn => match fn.body with
    | some c => if args.length ≤ fn.ntmps then
        some { fn := f, n := fn.ntmps, env := envOf 0 args .e, todo := [.code c], defers := [], mode := .run, deferred, roundOf := none }
      else none
    | none => none
  | none => none

/-- what becomes of a machine whose operation came to this -/
def applyA (fr : AFrame) (cs : List AFrame) (h : AHeap) : AR → Option AM
  | .val v h => match finishA fr v with
    | some fr => some ⟨fr, cs, h⟩
    | none => none
  | .enter f args h => match enterFrame P f args false with
    | some g => some ⟨g, fr :: cs, h⟩
    | none => none
  | .round l args h => match h.m.get l with
    | some (.loop _ _ fn n env params assign body _) =>
      if args.length = params.length ∧ params.all (fun t => Nat.blt t n) then
        some ⟨{ fn, n, env := (params.zip args).foldl (fun e (t, a) => e.set t a) env, todo := [.code assign, .beginRound, .code body], defers := [], mode := .run, deferred := false, roundOf := some l }, fr :: cs, h⟩
      else none
    | _ => none
  | .defer d => match fr.roundOf with
    | some _ => none
    | none => match finishA { fr with defers := .call d :: fr.defers } undefA with
      | some fr => some ⟨fr, cs, h⟩
      | none => none
  | .recover => match fr.roundOf with
    | some _ => none
    | none => match fr.deferred, cs with
      | true, c :: rest => match c.mode with
        | .panicking (⟨v, false⟩ :: older) => (match finishA fr v with
          | some fr => some ⟨fr, { c with mode := .panicking (⟨v, true⟩ :: older) } :: rest, h⟩
          | none => none)
        | _ => (match finishA fr .nili with | some fr => some ⟨fr, cs, h⟩ | none => none)
      | true, [] => none
      | false, _ => (match finishA fr .nili with | some fr => some ⟨fr, cs, h⟩ | none => none)
  | .panic v => match fr.todo with
    | .draw .. :: _ => none
    | _ => some ⟨raiseA fr [⟨v, false⟩], cs, h⟩

def returnA (fr : AFrame) (cs : List AFrame) (h : AHeap) (v : AV) : Option AM :=
  match cs with
  | [] => none
  | c :: rest => match fr.deferred with
    | false => match finishA c v with
      | some c => some ⟨c, rest, h⟩
      | none => none
    | true => match c.mode with
      | .panicking (⟨_, true⟩ :: _) => some ⟨{ c with mode := .returning }, rest, h⟩
      | .run => none
      | _ => some ⟨c, rest, h⟩

def leaveA (fr : AFrame) (cs : List AFrame) (h : AHeap) (jump : Option Code) : Option AM :=
  match fr.roundOf with
  | none => match jump with
    | none => some ⟨{ fr with mode := .returning }, cs, h⟩
    | some .ret => some ⟨{ fr with mode := .returning }, cs, h⟩
    | _ => none
  | some l => match h.m.get l with
    | some (.loop _ _ fn n env params assign body ds) =>
      let h := ⟨h.m.set l (.loop (match jump with | none => .ready | some _ => .done) jump fn n env params assign body ds), h.next, h.facts⟩
      returnA fr cs h (.bool jump.isNone)
    | _ => none

def wantedA (o : Oper) (ops : Array Oper) (env : Env) : Option Bool :=
  match o.guard with
  | none => some true
  | some (j, want) => match ops[j]? with
    | some oj => match oj.dst with
      | some t => match env.get t with
        | some (.bool b) => some (b == want)
        | some _ => some false
        | none => none
      | none => some false
    | none => some false

def allocOp : Op → Bool
  | .alloc _ | .box .. | .buildSlice .. | .makeSlice .. | .makeMap .. => true
  | _ => false

/-! a region that draws: its chain, checked once -/
def maskOf (acc : List Nat) : List Edge → Nat
  | [] => 0
  | e :: es => match Region.binds .any e with
    | true => Nat.lor (Nat.lor (2 ^ e.on) (acc.getD e.on 0)) (maskOf acc es)
    | false => maskOf acc es
def beforeFrom : List Oper → List Nat → List Nat
  | [], acc => acc
  | o :: os, acc => beforeFrom os (acc ++ [maskOf acc o.after.toList])
def beforeL (ops : List Oper) : List Nat := beforeFrom ops []

def guardTmp (ops : Array Oper) (o : Oper) : List Tmp :=
  match o.guard with
  | none => []
  | some (j, _) => match ops[j]? with
    | some oj => oj.dst.toList
    | none => []
def looksOf (ops : Array Oper) (o : Oper) : List Tmp := guardTmp ops o ++ readsOf o

def floatOp : Op → Bool
  | .alloc _ => true
  | .buildSlice .. => true
  | _ => false

def has (bf : List Nat) (i j : Nat) : Bool := Nat.testBit (bf.getD i 0) j

/-- one pair: operation i, operation j -/
def pairOk (ops : Array Oper) (bf : List Nat) (o : Oper) (i : Nat) (p : Oper) (j : Nat) : Bool :=
  if i = j then (match o.dst with
    | some t => !(quietOp o.op && (looksOf ops o).contains t)
    | none => !quietOp o.op)
  else
    (match p.dst with
    | none => true
    | some t => decide (o.dst ≠ some t) &&
      (if (looksOf ops o).contains t then has bf i j || (!quietOp p.op && has bf j i) else true)) &&
    -- the chain: an earlier acting one stands ahead, but of a floating one
    (if !quietOp o.op && !quietOp p.op && Nat.blt j i && !has bf i j then floatOp o.op && o.guard.isNone else true)

/-- who leans on a floating one leans on all that it floats over -/
def floatOk (ops : Array Oper) (bf : List Nat) (n : Nat) : List (Oper × Nat) → Bool
  | [] => true
  | (o, a) :: rest => (if floatOp o.op then
      (List.range a).all (fun c => match ops[c]? with
        | some p => if !quietOp p.op && !has bf a c then (List.range n).all (fun q => if has bf q a then has bf q c else true) else true
        | none => true)
    else true) && floatOk ops bf n rest

/-- a maker of memory that may come ahead of another acting one -/
def floater (ops : Array Oper) (bf : List Nat) (o : Oper) (a : Nat) : Bool :=
  floatOp o.op && (List.range a).any (fun c => match ops[c]? with | some p => !quietOp p.op && !has bf a c | none => false)
def oneFloat (ops : Array Oper) (bf : List Nat) (l : List (Oper × Nat)) : Bool :=
  match l.filter (fun x => floater ops bf x.1 x.2) with
  | [] => true
  | [_] => true
  | _ => false

def drawOk (ops : Array Oper) : Bool :=
  let l := ops.toList
  let z := l.zipIdx
  let bf := beforeL l
  z.all (fun x => z.all (fun y => pairOk ops bf x.1 x.2 y.1 y.2) &&
    x.1.after.toList.all (fun e => !Region.binds .any e || Nat.blt e.on x.2) &&
    (match x.1.guard with | some (j, _) => has bf x.2 j | none => true)) && floatOk ops bf l.length z && oneFloat ops bf z

def drawChain (ops : Array Oper) : Option (List Nat) :=
  let l := ops.toList
  if drawOk ops then some ((List.range l.length).filter fun i => match l[i]? with | some o => !quietOp o.op | none => false) else none

def bitsOf : List Nat → Nat
  | [] => 0
  | i :: is => Nat.lor (2 ^ i) (bitsOf is)

/-- all that an acting one that is done has ahead -/
def forcedBits (bf : List Nat) (acted : Nat) : Nat → List Nat → Nat
  | _, [] => 0
  | i, b :: bs => match Nat.testBit acted i with
    | true => Nat.lor b (forcedBits bf acted (i + 1) bs)
    | false => forcedBits bf acted (i + 1) bs

/-- looks at all quiet operations that may stand here: `acted`: bits of the chain's operations that are done; each must come to what is known of it -/
def lookAll (ops : Array Oper) (bf : List Nat) (n : Nat) (h : AHeap) (chainBits acted forced : Nat) : List (Oper × Nat) → Env → Nat → Option (Env × Nat)
  | [], env, seen => some (env, seen)
  | (o, i) :: rest, env, seen =>
    match quietOp o.op with
    | false => lookAll ops bf n h chainBits acted forced rest env seen
    | true =>
      let b := bf.getD i 0
      match Nat.beq (Nat.land (Nat.land b chainBits) acted) (Nat.land b chainBits) && !Nat.testBit forced i with
      | false => lookAll ops bf n h chainBits acted forced rest env seen
      | true =>
        match wantedA o ops env with
        | none => none
        | some w =>
          match (match w with | false => some (AR.val undefA h) | true => aop P (restr env (readsOf o)) h o) with
          | some (.val v _) =>
            match o.dst with
            | none => none
            | some d => match Nat.blt d n with
              | false => none
              | true => match Nat.testBit seen i with
                | false => lookAll ops bf n h chainBits acted forced rest (env.set d v) (Nat.lor seen (2 ^ i))
                | true => match env.get d with
                  | some u => (match sameV u v with | true => lookAll ops bf n h chainBits acted forced rest env seen | false => none)
                  | none => none
          | _ => none

def lookDraw (ops : Array Oper) (n : Nat) (h : AHeap) (acted : Nat) (env : Env) (seen : Nat) : Option (Env × Nat) :=
  let l := ops.toList
  let bf := beforeL l
  match drawChain ops with
  | some chain => lookAll P ops bf n h (bitsOf chain) acted (forcedBits bf acted 0 bf) l.zipIdx env seen
  | none => none

/-- a maker of memory that may come early can be done now -/
def floatsOk (ops : Array Oper) (bf : List Nat) (n : Nat) (h : AHeap) (chainBits acted : Nat) (env : Env) : List Nat → Bool
  | [] => true
  | i :: is => (match ops[i]? with
    | some o => if floatOp o.op && Nat.beq (Nat.land (Nat.land (bf.getD i 0) chainBits) acted) (Nat.land (bf.getD i 0) chainBits) then
        (match o.dst with | none => false | some d => Nat.blt d n && (aop P (restr env (readsOf o)) h o).isSome)
      else true
    | none => false) && floatsOk ops bf n h chainBits acted env is

def allA (m : Nat) : Nat := 2 ^ m - 1

def rangeL (n : Nat) : List Nat := List.range n

def aexec (fr : AFrame) (cs : List AFrame) (h : AHeap) : Option AM :=
  let to (todo : List AItem) : Option AM := some ⟨{ fr with todo }, cs, h⟩
  match fr.todo with
  | [] => leaveA fr cs h none
  | .inBlock _ :: k => to k
  | .inScope _ :: k => to k
  | .inLoop body :: k => to (.code body :: .inLoop body :: k)
  | .code c :: k => match c with
    | .ret => leaveA fr cs h (some .ret)
    | .skip => to k
    | .label _ => to k
    | .seq a b => to (.code a :: .code b :: k)
    | .cond c a b => match evalA fr.env c with
      | some (.bool true) => to (.code a :: k)
      | some (.bool false) => to (.code b :: k)
      | _ => none
    | .block id body => to (.code body :: .inBlock id :: k)
    | .loop body => to (.code body :: .inLoop body :: k)
    | .scope body => to (.code body :: .inScope body :: k)
    | .exit id => match exitA id k with
      | some k => to k
      | none => leaveA fr cs h (some (.exit id))
    | .goto l => match gotoA l k with
      | some k => to k
      | none => leaveA fr cs h (some (.goto l))
    | .rangeFunc f params assign body =>
      match (match fr.roundOf with
        | some l => (match h.m.get l with | some (.loop _ _ _ _ _ _ _ _ ds) => some (ds, ([] : List ADefer), h) | _ => none)
        | none => (let (r, h) := h.new (.deferred (some [])); some (r, [.collected r], h))) with
      | none => none
      | some (ds, mark, h) =>
        let (l, h) := h.new (.loop .ready none fr.fn fr.n fr.env params.toList assign body ds)
        match evalA fr.env f with
        | some f => match callA P f [.yld l] h with
          | some r => applyA P { fr with todo := .inRangeFunc l :: k, defers := mark ++ fr.defers } cs h r
          | none => none
        | none => none
    | .region _ ops draw => match draw with
      | false => to (.inRegion ops (rangeL ops.size) :: k)
      | true => match drawChain ops with
        | some chain => to (.draw ops chain 0 0 :: k)
        | none => none
    | .refuse _ => none
  | .inRangeFunc _ :: _ => none
  | .beginRound :: _ => match fr.roundOf with
    | some l => match h.m.get l with
      | some (.loop .ready pend fn n env params assign body ds) =>
        applyA P fr cs h (.val undefA ⟨h.m.set l (.loop .busy pend fn n env params assign body ds), h.next, h.facts⟩)
      | _ => none
    | none => none
  | .endRangeFunc l :: k => match h.m.get l with
    | some (.loop .busy _ _ _ _ _ _ _ _) => none
    | some (.loop _ pend fn n env params assign body ds) =>
      some ⟨{ fr with todo := (match pend with | some c => [.code c] | none => []) ++ k }, cs, ⟨h.m.set l (.loop .exhausted pend fn n env params assign body ds), h.next, h.facts⟩⟩
    | _ => none
  | .inRegion _ [] :: k => to k
  | .inRegion ops (i :: _) :: _ => match ops[i]? with
    | none => none
    | some o => match wantedA o ops fr.env with
      | some true => match aop P fr.env h o with
        | some r => applyA P fr cs h r
        | none => none
      | some false => applyA P fr cs h (.val undefA h)
      | none => none
  | .draw ops chain acted seen :: k => match lookDraw P ops fr.n h acted fr.env seen with
    | none => none
    | some (env, seen) => match chain with
      | [] => if Nat.beq (Nat.lor acted seen) (allA ops.size) then some ⟨{ fr with env, todo := k }, cs, h⟩ else none
      | i :: is => if !floatsOk P ops (beforeL ops.toList) fr.n h (match drawChain ops with | some c => bitsOf c | none => 0) acted env is then none else
        match ops[i]? with
        | none => none
        | some o => match wantedA o ops env with
          | some true => match aop P (restr env (readsOf o)) h o with
            | some r => applyA P { fr with env, todo := .draw ops chain acted seen :: k } cs h r
            | none => none
          | some false => applyA P { fr with env, todo := .draw ops chain acted seen :: k } cs h (.val undefA h)
          | none => none

def resultsA (h : AHeap) (env : Env) : List ResultVar → Option (List AV)
  | [] => some []
  | .tmp t :: rs => match env.get t with
    | some v => (match resultsA h env rs with | some l => some (v :: l) | none => none)
    | none => none
  | .cell a t :: rs => match env.get a with
    | some (.ptr b off) => (match loadVarA P h t b off, resultsA h env rs with | some v, some l => some (v :: l) | _, _ => none)
    | _ => none

def oneOf : List AV → AV
  | [v] => v
  | l => .tup l

def unwindA (fr : AFrame) (cs : List AFrame) (h : AHeap) : Option AM :=
  match fr.defers with
  | .collected r :: ds => match h.m.get r with
    | some (.deferred (some l)) => some ⟨{ fr with defers := l ++ ds }, cs, ⟨h.m.set r (.deferred none), h.next, h.facts⟩⟩
    | _ => none
  | .call d :: ds => match d.fn with
    | .func f => match enterFrame P f (d.args ++ d.cap) true with
      | some g => some ⟨g, { fr with defers := ds } :: cs, h⟩
      | none => none
    | _ => none
  | [] => match fr.mode with
    | .run => none
    | .panicking chain => match cs with
      | c :: rest => (match c.todo with
        | .draw .. :: _ => none
        | _ => some ⟨raiseA c chain, rest, h⟩)
      | [] => none
    | .returning => match P.funcs[fr.fn]? with
      | some fn => match resultsA P h fr.env fn.results.toList with
        | some l => returnA fr cs h (oneOf l)
        | none => none
      | none => none

def astep (m : AM) : Option AM :=
  match m.fr.mode with
  | .run => aexec P m.fr m.cs m.h
  | _ => unwindA P m.fr m.cs m.h

def arun : Nat → AM → Option AM
  | 0, m => some m
  | n + 1, m => match astep P m with
    | some m => arun n m
    | none => none

end
end
end Go.Abs

namespace Go.Abs

/-! trees -/
theorem beq_ne {a b : Nat} (h : a ≠ b) : Nat.beq a b = false := by
  cases e : Nat.beq a b with
  | false => rfl
  | true => exact absurd (Nat.eq_of_beq_eq_true e) h

theorem PT.get_e {α : Type} (j : Nat) : (PT.e : PT α).get j = none := rfl
theorem PT.get_zero {α : Type} (l : PT α) (v : Option α) (r : PT α) : (PT.nd l v r).get 0 = v := rfl
theorem PT.get_left {α : Type} (l : PT α) (v : Option α) (r : PT α) {k : Nat} (h : k % 2 = 0) : (PT.nd l v r).get (k + 1) = l.get (k / 2) := by
  show (Nat.rec (motive := fun _ => Nat → Option α) l.get (fun _ _ => r.get) (k % 2) (k / 2)) = _
  rw [h]; rfl
theorem PT.get_right {α : Type} (l : PT α) (v : Option α) (r : PT α) {k : Nat} (h : k % 2 = 1) : (PT.nd l v r).get (k + 1) = r.get (k / 2) := by
  show (Nat.rec (motive := fun _ => Nat → Option α) l.get (fun _ _ => r.get) (k % 2) (k / 2)) = _
  rw [h]; rfl
theorem PT.put_zero {α : Type} (l : PT α) (v : Option α) (r : PT α) (x : Option α) : (PT.nd l v r).put x 0 = .nd l x r := rfl
theorem PT.put_left {α : Type} (l : PT α) (v : Option α) (r : PT α) (x : Option α) {k : Nat} (h : k % 2 = 0) : (PT.nd l v r).put x (k + 1) = .nd (l.put x (k / 2)) v r := by
  show (Nat.rec (motive := fun _ => Nat → PT α) (fun j => .nd (l.put x j) v r) (fun _ _ j => .nd l v (r.put x j)) (k % 2) (k / 2)) = _
  rw [h]; rfl
theorem PT.put_right {α : Type} (l : PT α) (v : Option α) (r : PT α) (x : Option α) {k : Nat} (h : k % 2 = 1) : (PT.nd l v r).put x (k + 1) = .nd l v (r.put x (k / 2)) := by
  show (Nat.rec (motive := fun _ => Nat → PT α) (fun j => .nd (l.put x j) v r) (fun _ _ j => .nd l v (r.put x j)) (k % 2) (k / 2)) = _
  rw [h]; rfl
theorem PT.one_zero {α : Type} (x : Option α) (f : Nat) : PT.one x (f + 1) 0 = .nd .e x .e := rfl
theorem PT.one_left {α : Type} (x : Option α) (f : Nat) {k : Nat} (h : k % 2 = 0) : PT.one x (f + 1) (k + 1) = .nd (PT.one x f (k / 2)) none .e := by
  show (Nat.rec (motive := fun _ => PT α → PT α) (fun s => PT.nd s none .e) (fun _ _ s => PT.nd .e none s) (k % 2) (PT.one x f (k / 2))) = _
  rw [h]; rfl
theorem PT.one_right {α : Type} (x : Option α) (f : Nat) {k : Nat} (h : k % 2 = 1) : PT.one x (f + 1) (k + 1) = .nd .e none (PT.one x f (k / 2)) := by
  show (Nat.rec (motive := fun _ => PT α → PT α) (fun s => PT.nd s none .e) (fun _ _ s => PT.nd .e none s) (k % 2) (PT.one x f (k / 2))) = _
  rw [h]; rfl

theorem PT.one_get {α : Type} (x : Option α) : ∀ (f k j : Nat), k < f → (PT.one x f k).get j = if j = k then x else none
  | 0, k, j, h => by omega
  | f + 1, 0, j, _ => by
    rw [PT.one_zero]
    cases j with
    | zero => rfl
    | succ j =>
      rw [if_neg (by omega)]
      rcases Nat.mod_two_eq_zero_or_one j with h | h
      · rw [PT.get_left _ _ _ h]; rfl
      · rw [PT.get_right _ _ _ h]; rfl
  | f + 1, k + 1, j, hk => by
    rcases Nat.mod_two_eq_zero_or_one k with h | h
    · rw [PT.one_left _ _ h]
      cases j with
      | zero => rw [if_neg (by omega)]; rfl
      | succ j =>
        rcases Nat.mod_two_eq_zero_or_one j with h' | h'
        · rw [PT.get_left _ _ _ h', PT.one_get x f _ _ (by omega)]
          by_cases e : j = k
          · subst e; simp
          · rw [if_neg (by omega), if_neg (by omega)]
        · rw [PT.get_right _ _ _ h', if_neg (by omega)]; rfl
    · rw [PT.one_right _ _ h]
      cases j with
      | zero => rw [if_neg (by omega)]; rfl
      | succ j =>
        rcases Nat.mod_two_eq_zero_or_one j with h' | h'
        · rw [PT.get_left _ _ _ h', if_neg (by omega)]; rfl
        · rw [PT.get_right _ _ _ h', PT.one_get x f _ _ (by omega)]
          by_cases e : j = k
          · subst e; simp
          · rw [if_neg (by omega), if_neg (by omega)]

theorem PT.put_get {α : Type} (x : Option α) : ∀ (t : PT α) (k j : Nat), (PT.put x t k).get j = if j = k then x else t.get j
  | .e, k, j => by
    show (PT.one x (k + 1) k).get j = _
    rw [PT.one_get x _ _ _ (Nat.lt_succ_self k)]; rfl
  | .nd l v r, 0, j => by
    rw [PT.put_zero]
    cases j with
    | zero => rfl
    | succ j =>
      rw [if_neg (by omega)]
      rcases Nat.mod_two_eq_zero_or_one j with h | h
      · rw [PT.get_left _ _ _ h, PT.get_left _ _ _ h]
      · rw [PT.get_right _ _ _ h, PT.get_right _ _ _ h]
  | .nd l v r, k + 1, j => by
    rcases Nat.mod_two_eq_zero_or_one k with h | h
    · rw [PT.put_left _ _ _ _ h]
      cases j with
      | zero => rw [if_neg (by omega)]; rfl
      | succ j =>
        rcases Nat.mod_two_eq_zero_or_one j with h' | h'
        · rw [PT.get_left _ _ _ h', PT.put_get x l, PT.get_left _ _ _ h']
          by_cases e : j = k
          · subst e; simp
          · rw [if_neg (by omega), if_neg (by omega)]
        · rw [PT.get_right _ _ _ h', PT.get_right _ _ _ h', if_neg (by omega)]
    · rw [PT.put_right _ _ _ _ h]
      cases j with
      | zero => rw [if_neg (by omega)]; rfl
      | succ j =>
        rcases Nat.mod_two_eq_zero_or_one j with h' | h'
        · rw [PT.get_left _ _ _ h', PT.get_left _ _ _ h', if_neg (by omega)]
        · rw [PT.get_right _ _ _ h', PT.put_get x r, PT.get_right _ _ _ h']
          by_cases e : j = k
          · subst e; simp
          · rw [if_neg (by omega), if_neg (by omega)]

theorem PT.get_set {α : Type} (t : PT α) (k : Nat) (x : α) (j : Nat) : (t.set k x).get j = if j = k then some x else t.get j := PT.put_get _ _ _ _
theorem PT.get_del {α : Type} (t : PT α) (k : Nat) (j : Nat) : (t.del k).get j = if j = k then none else t.get j := PT.put_get _ _ _ _

theorem PT.get_setL {α : Type} : ∀ (xs : List α) (t : PT α) (i j : Nat), (PT.setL t i xs).get j = if i ≤ j ∧ j < i + xs.length then xs[j - i]? else t.get j := by
  intro xs
  induction xs with
  | nil => intro t i j; rw [PT.setL]; simp; intro h h2; omega
  | cons x xs ih =>
    intro t i j
    rw [PT.setL, ih, PT.get_set]
    simp only [List.length_cons]
    by_cases h1 : i + 1 ≤ j ∧ j < i + 1 + xs.length
    · rw [if_pos h1, if_pos (by omega)]
      have : j - i = (j - (i + 1)) + 1 := by omega
      rw [this, List.getElem?_cons_succ]
    · rw [if_neg h1]
      by_cases h2 : j = i
      · subst h2; rw [if_pos rfl, if_pos (by omega)]; simp
      · rw [if_neg h2, if_neg (by omega)]

theorem PT.getL_some {α : Type} (f : Nat → Option α) : ∀ (n i : Nat) (l : List α), PT.getL f i n = some l → l.length = n ∧ ∀ k, k < n → f (i + k) = l[k]? := by
  intro n
  induction n with
  | zero => intro i l h; rw [PT.getL] at h; cases h; exact ⟨rfl, fun k hk => by omega⟩
  | succ n ih =>
    intro i l h
    rw [PT.getL] at h
    cases hv : f i with
    | none => simp [hv] at h
    | some v =>
      simp only [hv] at h
      cases hl : PT.getL f (i + 1) n with
      | none => simp [hl] at h
      | some vs =>
        simp only [hl, Option.some.injEq] at h
        subst h
        obtain ⟨h1, h2⟩ := ih _ _ hl
        refine ⟨by simp [h1], fun k hk => ?_⟩
        cases k with
        | zero => simpa using hv
        | succ k =>
          have := h2 k (by omega)
          rw [List.getElem?_cons_succ, ← this]; congr 1; omega

/-! what an abstract value stands for -/
structure Loc where
  blk : Nat
  off : Nat
  cap : Nat

structure Ren where
  loc : Nat → Option Loc
  val : Nat → Nat
  num : Nat → Int

/-- what an operation makes of two numbers -/
def opI (o : BinOp) (k : IntKind) (x y : Int) : Int := match intBin o k x y with
  | some (.int _ n) => n
  | _ => 0
def cmpI (o : BinOp) (x y : Int) : Bool := match intBin o .i64 x y with
  | some (.bool b) => b
  | _ => false
def Trm.eval (g : Nat → Int) : Trm → Int
  | .var i => g i
  | .con n => n
  | .op o k a b => opI o k (a.eval g) (b.eval g)
  | .wrp k a => k.wrap (a.eval g)
  | .mn a b => if b.eval g < a.eval g then b.eval g else a.eval g
  | .mx a b => if b.eval g > a.eval g then b.eval g else a.eval g
def Fact.holds (g : Nat → Int) (f : Fact) : Prop := cmpI f.o (f.a.eval g) (f.b.eval g) = f.is
mutual
def conc (ρ : Ren) : AV → Option Value
  | .bool b => some (.bool b)
  | .int k n => some (.int k n)
  | .lin k i m c lo hi => if lo ≤ ρ.val i ∧ ρ.val i ≤ hi then some (.int k (m * (ρ.val i : Int) + c)) else none
  | .str s => some (.string s)
  | .ptr b o => match ρ.loc b with | some l => some (.pointer (some ⟨l.blk, l.off + o, none⟩)) | none => none
  | .ptrL b i m c lo hi => if lo ≤ ρ.val i ∧ ρ.val i ≤ hi then (match ρ.loc b with | some l => some (.pointer (some ⟨l.blk, l.off + (c + m * ρ.val i), none⟩)) | none => none) else none
  | .trm k t => some (.int k (t.eval ρ.num))
  | .nilp => some (.pointer none)
  | .slice b o n c => match ρ.loc b with | some l => some (.slice (some ⟨l.blk, l.off + o, none⟩) n c) | none => none
  | .vslice b o n s => match ρ.loc b with | some l => some (.slice (some ⟨l.blk, l.off + o, none⟩) n (l.cap - s)) | none => none
  | .eslice b o0 o s => match ρ.loc b with | some l => some (.slice (some ⟨l.blk, l.off + (if l.cap - s = 0 then o0 else o), none⟩) 0 (l.cap - s)) | none => none
  | .nils => some (.slice none 0 0)
  | .map r => match ρ.loc r with | some l => some (.map (some l.blk)) | none => none
  | .nilm => some (.map none)
  | .func fn a c => match concL ρ a, concL ρ c with | some a, some c => some (.func fn a.toArray c.toArray) | _, _ => none
  | .yld r => match ρ.loc r with | some l => some (.func (.yield l.blk) #[] #[]) | none => none
  | .nilf => some .nilFunc
  | .iface t v => match conc ρ v with | some v => some (.iface t v) | none => none
  | .nili => some .nilIface
  | .agg vs => match concL ρ vs with | some l => some (.agg l.toArray) | none => none
  | .tup vs => match concL ρ vs with | some l => some (.tuple l.toArray) | none => none
def concL (ρ : Ren) : List AV → Option (List Value)
  | [] => some []
  | v :: vs => match conc ρ v, concL ρ vs with | some a, some l => some (a :: l) | _, _ => none
end

/-- more is known -/
structure Ren.le (ρ ρ' : Ren) : Prop where
  loc : ∀ b l, ρ.loc b = some l → ρ'.loc b = some l
  val : ∀ i, ρ'.val i = ρ.val i
  num : ρ'.num = ρ.num

theorem Ren.le.refl (ρ : Ren) : ρ.le ρ := ⟨fun _ _ h => h, fun _ => rfl, rfl⟩
theorem Ren.le.trans {a b c : Ren} (h : a.le b) (h' : b.le c) : a.le c := ⟨fun i l x => h'.loc _ _ (h.loc _ _ x), fun i => (h'.val i).trans (h.val i), h'.num.trans h.num⟩

mutual
theorem conc_mono {ρ ρ' : Ren} (h : ρ.le ρ') : ∀ (a : AV) (v : Value), conc ρ a = some v → conc ρ' a = some v
  | .bool b, v, e => by simpa [conc] using e
  | .int k n, v, e => by simpa [conc] using e
  | .lin k i m c lo hi, v, e => by simpa [conc, h.val] using e
  | .ptrL b i m c lo hi, v, e => by
    simp only [conc, h.val] at e ⊢; split at e
    · rename_i h0; rw [if_pos h0]; split at e
      · rename_i l hl; rw [h.loc _ _ hl]; exact e
      · cases e
    · cases e
  | .str s, v, e => by simpa [conc] using e
  | .trm k t, v, e => by simpa [conc, h.num] using e
  | .nilp, v, e => by simpa [conc] using e
  | .nils, v, e => by simpa [conc] using e
  | .nilm, v, e => by simpa [conc] using e
  | .nilf, v, e => by simpa [conc] using e
  | .nili, v, e => by simpa [conc] using e
  | .ptr b o, v, e => by
    simp only [conc] at e ⊢; split at e
    · rename_i l hl; rw [h.loc _ _ hl]; exact e
    · cases e
  | .slice b o n c, v, e => by
    simp only [conc] at e ⊢; split at e
    · rename_i l hl; rw [h.loc _ _ hl]; exact e
    · cases e
  | .vslice b o n c, v, e => by
    simp only [conc] at e ⊢; split at e
    · rename_i l hl; rw [h.loc _ _ hl]; exact e
    · cases e
  | .eslice b o n c, v, e => by
    simp only [conc] at e ⊢; split at e
    · rename_i l hl; rw [h.loc _ _ hl]; exact e
    · cases e
  | .map b, v, e => by
    simp only [conc] at e ⊢; split at e
    · rename_i l hl; rw [h.loc _ _ hl]; exact e
    · cases e
  | .yld b, v, e => by
    simp only [conc] at e ⊢; split at e
    · rename_i l hl; rw [h.loc _ _ hl]; exact e
    · cases e
  | .func fn a c, v, e => by
    simp only [conc] at e ⊢; split at e
    · rename_i x y hx hy; rw [concL_mono h _ _ hx, concL_mono h _ _ hy]; exact e
    · cases e
  | .iface t a, v, e => by
    simp only [conc] at e ⊢; split at e
    · rename_i x hx; rw [conc_mono h _ _ hx]; exact e
    · cases e
  | .agg a, v, e => by
    simp only [conc] at e ⊢; split at e
    · rename_i x hx; rw [concL_mono h _ _ hx]; exact e
    · cases e
  | .tup a, v, e => by
    simp only [conc] at e ⊢; split at e
    · rename_i x hx; rw [concL_mono h _ _ hx]; exact e
    · cases e
theorem concL_mono {ρ ρ' : Ren} (h : ρ.le ρ') : ∀ (a : List AV) (v : List Value), concL ρ a = some v → concL ρ' a = some v
  | [], v, e => by simpa [concL] using e
  | x :: xs, v, e => by
    simp only [concL] at e ⊢; split at e
    · rename_i a b ha hb; rw [conc_mono h _ _ ha, concL_mono h _ _ hb]; exact e
    · cases e
end

theorem concL_cons {ρ : Ren} {a : AV} {as : List AV} {l : List Value} (h : concL ρ (a :: as) = some l) : ∃ v vs, conc ρ a = some v ∧ concL ρ as = some vs ∧ l = v :: vs := by
  simp only [concL] at h; split at h
  · rename_i x y hx hy; cases h; exact ⟨x, y, hx, hy, rfl⟩
  · cases h
theorem concL_cons_mk {ρ : Ren} {a : AV} {as : List AV} {v : Value} {vs : List Value} (h : conc ρ a = some v) (h' : concL ρ as = some vs) : concL ρ (a :: as) = some (v :: vs) := by
  simp [concL, h, h']

theorem concL_length {ρ : Ren} : ∀ {as : List AV} {l : List Value}, concL ρ as = some l → l.length = as.length
  | [], l, h => by simp [concL] at h; subst h; rfl
  | a :: as, l, h => by obtain ⟨v, vs, _, h2, rfl⟩ := concL_cons h; simp [concL_length h2]

theorem concL_get {ρ : Ren} : ∀ {as : List AV} {l : List Value} (_ : concL ρ as = some l) (i : Nat) (a : AV), as[i]? = some a → ∃ v, conc ρ a = some v ∧ l[i]? = some v
  | [], l, h, i, a, ha => by simp at ha
  | x :: xs, l, h, i, a, ha => by
    obtain ⟨v, vs, h1, h2, rfl⟩ := concL_cons h
    cases i with
    | zero => simp at ha; subst ha; exact ⟨v, h1, by simp⟩
    | succ i => simp at ha; obtain ⟨u, hu, hu'⟩ := concL_get h2 i a ha; exact ⟨u, hu, by simpa using hu'⟩

theorem concL_of_get {ρ : Ren} : ∀ {as : List AV} {l : List Value} (_ : l.length = as.length) (_ : ∀ (i : Nat) (a : AV), as[i]? = some a → ∃ v : Value, conc ρ a = some v ∧ l[i]? = some v), concL ρ as = some l
  | [], l, h, _ => by simp at h; subst h; rfl
  | x :: xs, [], h, _ => by simp at h
  | x :: xs, v :: vs, h, hg => by
    obtain ⟨u, hu, hu'⟩ := hg 0 x (by simp)
    simp at hu'; subst hu'
    exact concL_cons_mk hu (concL_of_get (by simpa using h) fun i a ha => by simpa using hg (i + 1) a (by simpa using ha))

theorem concL_append {ρ : Ren} : ∀ {as bs : List AV} {l m : List Value}, concL ρ as = some l → concL ρ bs = some m → concL ρ (as ++ bs) = some (l ++ m)
  | [], bs, l, m, h, h' => by simp [concL] at h; subst h; simpa using h'
  | a :: as, bs, l, m, h, h' => by
    obtain ⟨v, vs, h1, h2, rfl⟩ := concL_cons h
    exact concL_cons_mk h1 (concL_append h2 h')

theorem conc_oneCell {ρ : Ren} {a : AV} {v : Value} (h : conc ρ a = some v) (ho : oneCell a = true) : v.cells = #[v] ∧ (∀ c, v ≠ .agg c) ∧ (∀ c, v ≠ .tuple c) := by
  cases a <;> simp only [conc] at h <;> (try split at h) <;> (try split at h) <;> (try cases h) <;> (first | (simp [oneCell] at ho; done) | exact ⟨rfl, by simp, by simp⟩)

theorem conc_cells {ρ : Ren} {a : AV} {v : Value} (h : conc ρ a = some v) : concL ρ a.cells = some v.cells.toList := by
  have one : ∀ {a : AV} {v : Value}, conc ρ a = some v → concL ρ [a] = some [v] := fun h => concL_cons_mk h (by simp [concL])
  cases a with
  | agg vs => simp only [conc] at h; split at h <;> cases h; rename_i x hx; simpa [AV.cells, Value.cells] using hx
  | _ =>
    have h0 := one h
    simp only [conc] at h <;> (try split at h) <;> (try split at h) <;> (try cases h) <;> simpa only [AV.cells, Value.cells] using h0

theorem ofScalar_conc {ρ : Ren} {v : Value} {a : AV} (h : ofScalar v = some a) : conc ρ a = some v := by
  unfold ofScalar at h; split at h <;> cases h <;> simp [conc]
theorem ofScalars_conc {ρ : Ren} : ∀ {vs : List Value} {l : List AV}, ofScalars vs = some l → concL ρ l = some vs
  | [], l, h => by simp [ofScalars] at h; subst h; rfl
  | v :: vs, l, h => by
    simp only [ofScalars] at h; split at h
    · cases h
    · rename_i a ha; split at h
      · cases h
      · rename_i l' hl; cases h; exact concL_cons_mk (ofScalar_conc ha) (ofScalars_conc hl)
theorem ofVal_conc {ρ : Ren} {v : Value} {a : AV} (h : ofVal v = some a) : conc ρ a = some v := by
  unfold ofVal at h; split at h
  · rename_i cs; split at h <;> cases h; rename_i l hl
    simp [conc, ofScalars_conc hl]
  · exact ofScalar_conc h

end Go.Abs

namespace Go.Abs

def concD (ρ : Ren) : ADefer → Option Deferred
  | .call d => match concL ρ d.args, concL ρ d.cap with
    | some a, some c => some { target := .fn d.fn c.toArray, args := a.toArray }
    | _, _ => none
  | .collected r => match ρ.loc r with
    | some l => some { target := .collected l.blk, args := #[] }
    | none => none
def concDs (ρ : Ren) : List ADefer → Option (List Deferred)
  | [] => some []
  | d :: ds => match concD ρ d, concDs ρ ds with
    | some a, some l => some (a :: l)
    | _, _ => none
def concE (ρ : Ren) (e : AV × AV × Nat) : Option MapEntry :=
  match conc ρ e.1, conc ρ e.2.1 with
  | some k, some v => some { key := k, val := v, born := e.2.2 }
  | _, _ => none
def concEs (ρ : Ren) : List (AV × AV × Nat) → Option (List MapEntry)
  | [] => some []
  | e :: es => match concE ρ e, concEs ρ es with
    | some a, some l => some (a :: l)
    | _, _ => none

theorem concD_mono {ρ ρ' : Ren} (h : ρ.le ρ') {d : ADefer} {x : Deferred} (e : concD ρ d = some x) : concD ρ' d = some x := by
  cases d with
  | call d =>
    simp only [concD] at e ⊢; split at e
    · rename_i a c ha hc; rw [concL_mono h _ _ ha, concL_mono h _ _ hc]; exact e
    · cases e
  | collected r =>
    simp only [concD] at e ⊢; split at e
    · rename_i l hl; rw [h.loc _ _ hl]; exact e
    · cases e
theorem concDs_mono {ρ ρ' : Ren} (h : ρ.le ρ') : ∀ {d : List ADefer} {x : List Deferred}, concDs ρ d = some x → concDs ρ' d = some x
  | [], x, e => by simpa [concDs] using e
  | d :: ds, x, e => by
    simp only [concDs] at e ⊢; split at e
    · rename_i a c ha hc; rw [concD_mono h ha, concDs_mono h hc]; exact e
    · cases e
theorem concDs_append {ρ : Ren} : ∀ {a b : List ADefer} {x y : List Deferred}, concDs ρ a = some x → concDs ρ b = some y → concDs ρ (a ++ b) = some (x ++ y)
  | [], b, x, y, h, h' => by simp [concDs] at h; subst h; simpa using h'
  | d :: ds, b, x, y, h, h' => by
    simp only [concDs] at h; split at h
    · rename_i a c ha hc; cases h
      simp [concDs, ha, concDs_append hc h']
    · cases h
theorem concE_mono {ρ ρ' : Ren} (h : ρ.le ρ') {d : AV × AV × Nat} {x : MapEntry} (e : concE ρ d = some x) : concE ρ' d = some x := by
  simp only [concE] at e ⊢; split at e
  · rename_i a c ha hc; rw [conc_mono h _ _ ha, conc_mono h _ _ hc]; exact e
  · cases e
theorem concEs_mono {ρ ρ' : Ren} (h : ρ.le ρ') : ∀ {d : List (AV × AV × Nat)} {x : List MapEntry}, concEs ρ d = some x → concEs ρ' d = some x
  | [], x, e => by simpa [concEs] using e
  | d :: ds, x, e => by
    simp only [concEs] at e ⊢; split at e
    · rename_i a c ha hc; rw [concE_mono h ha, concEs_mono h hc]; exact e
    · cases e

/-- a frame's temporaries -/
structure EnvRel (ρ : Ren) (n : Nat) (env : PT AV) (tmps : Array Value) : Prop where
  size : tmps.size = n
  get : ∀ t a, env.get t = some a → ∃ v, conc ρ a = some v ∧ tmps[t]? = some v

theorem EnvRel.mono {ρ ρ' : Ren} (h : ρ.le ρ') {n : Nat} {env : PT AV} {tmps : Array Value} (r : EnvRel ρ n env tmps) : EnvRel ρ' n env tmps :=
  ⟨r.size, fun t a ha => let ⟨v, hv, ht⟩ := r.get t a ha; ⟨v, conc_mono h _ _ hv, ht⟩⟩

theorem EnvRel.set {ρ : Ren} {n : Nat} {env : PT AV} {tmps : Array Value} (r : EnvRel ρ n env tmps) {d : Nat} {a : AV} {v : Value} (hd : d < n) (h : conc ρ a = some v) :
    EnvRel ρ n (env.set d a) (tmps.setIfInBounds d v) := by
  refine ⟨by simp [r.size], fun t b hb => ?_⟩
  rw [PT.get_set] at hb
  split at hb
  · rename_i ht; subst ht; cases hb
    exact ⟨v, h, by rw [Array.getElem?_setIfInBounds]; simp [r.size, hd]⟩
  · rename_i ht
    obtain ⟨u, hu, hu'⟩ := r.get t b hb
    refine ⟨u, hu, ?_⟩
    rw [Array.getElem?_setIfInBounds, if_neg (by omega)]; exact hu'

def objRel (ρ : Ren) (l : Loc) : AObj → Obj → Prop
  | .cells z p lim ex esz m, o => ∃ c e, o = .cells c e (0, 0) ∧ l.off + lim ≤ c.size ∧ (ex = false → c.size = l.off + l.cap * esz) ∧
      ∀ i a, (AObj.cells z p lim ex esz m).at i = some a → oneCell a = true ∧ ∃ v, conc ρ a = some v ∧ c[l.off + i]? = some v
  | .map es clock, o => ∃ ces, concEs ρ es = some ces ∧ o = .map ces.toArray clock
  | .mapIter none since seen st, o => l.off = 0 ∧ o = .mapIter none since seen.toArray st
  | .mapIter (some r) since seen st, o => l.off = 0 ∧ ∃ l', ρ.loc r = some l' ∧ o = .mapIter (some l'.blk) since seen.toArray st
  | .loop st pend fn n env params assign body ds, o => ∃ tmps ld, ρ.loc ds = some ld ∧ EnvRel ρ n env tmps ∧
      o = .loop { state := st, pending := pend, fn, tmps, params := params.toArray, assign, body, defers := ld.blk }
  | .deferred none, o => o = .deferred none
  | .deferred (some ds), o => ∃ l, concDs ρ ds = some l ∧ o = .deferred (some l)

theorem objRel.mono {ρ ρ' : Ren} (h : ρ.le ρ') {l : Loc} {a : AObj} {o : Obj} (r : objRel ρ l a o) : objRel ρ' l a o := by
  unfold objRel at r ⊢
  split at r
  · obtain ⟨c, e, h1, h2, h3, h4⟩ := r
    exact ⟨c, e, h1, h2, h3, fun i a ha => let ⟨h5, v, hv, hc⟩ := h4 i a ha; ⟨h5, v, conc_mono h _ _ hv, hc⟩⟩
  · obtain ⟨c, h1, h2⟩ := r; exact ⟨c, concEs_mono h h1, h2⟩
  · exact r
  · obtain ⟨h0, c, h1, h2⟩ := r; exact ⟨h0, c, h.loc _ _ h1, h2⟩
  · obtain ⟨c, d, h1, h2, h3⟩ := r; exact ⟨c, d, h.loc _ _ h1, h2.mono h, h3⟩
  · exact r
  · obtain ⟨c, h1, h2⟩ := r; exact ⟨c, concDs_mono h h1, h2⟩

/-- what the memory of the machine is, in the world -/
structure Rel (ρ : Ren) (h : AHeap) (w : World) : Prop where
  obj : ∀ b o, h.m.get b = some o → ∃ l, ρ.loc b = some l ∧ ∃ co, w.heap[l.blk]? = some co ∧ objRel ρ l o co
  inj : ∀ b b' o o' l l', h.m.get b = some o → h.m.get b' = some o' → ρ.loc b = some l → ρ.loc b' = some l' → b ≠ b' → l.blk ≠ l'.blk
  bnd : ∀ b l, ρ.loc b = some l → l.blk < w.heap.size
  fresh : ∀ b, h.next ≤ b → ρ.loc b = none
  facts : ∀ f ∈ h.facts, f.holds ρ.num

theorem Rel.of_heap {ρ : Ren} {h : AHeap} {w w' : World} (r : Rel ρ h w) (e : w'.heap = w.heap) : Rel ρ h w' := by
  refine ⟨?_, r.inj, ?_, r.fresh, r.facts⟩
  · rw [e]; exact r.obj
  · rw [e]; exact r.bnd

/-- what a step leaves of the world -/
structure Keeps (ρ : Ren) (h : AHeap) (w : World) (ρ' : Ren) (h' : AHeap) (w' : World) : Prop where
  le : ρ.le ρ'
  size : w.heap.size ≤ w'.heap.size
  same : ∀ c, c < w.heap.size → (∀ b o l, h.m.get b = some o → ρ.loc b = some l → l.blk ≠ c) → w'.heap[c]? = w.heap[c]?
  img : ∀ b o l, h'.m.get b = some o → ρ'.loc b = some l → w.heap.size ≤ l.blk ∨ ∃ b₀ o₀ l₀, h.m.get b₀ = some o₀ ∧ ρ.loc b₀ = some l₀ ∧ l₀.blk = l.blk
  os : w'.os = w.os
  output : w'.output = w.output
  tape : w'.tape = w.tape

theorem Keeps.of_heap {ρ : Ren} {h : AHeap} {w w' : World} (e : w'.heap = w.heap) (os : w'.os = w.os) (ou : w'.output = w.output) (ta : w'.tape = w.tape) : Keeps ρ h w ρ h w' :=
  ⟨.refl _, by rw [e]; exact Nat.le_refl _, fun c _ _ => by rw [e], fun b o l hb hl => .inr ⟨b, o, l, hb, hl, rfl⟩, os, ou, ta⟩
theorem Keeps.refl (ρ : Ren) (h : AHeap) (w : World) : Keeps ρ h w ρ h w := .of_heap rfl rfl rfl rfl

theorem Keeps.trans {ρ ρ' ρ'' : Ren} {h h' h'' : AHeap} {w w' w'' : World} (a : Keeps ρ h w ρ' h' w') (b : Keeps ρ' h' w' ρ'' h'' w'') : Keeps ρ h w ρ'' h'' w'' := by
  refine ⟨a.le.trans b.le, Nat.le_trans a.size b.size, fun c hc hn => ?_, fun i o l hi hl => ?_, b.os.trans a.os, b.output.trans a.output, b.tape.trans a.tape⟩
  · rw [b.same c (Nat.lt_of_lt_of_le hc a.size) ?_, a.same c hc hn]
    intro i o l hi hl he
    rcases a.img i o l hi hl with h1 | ⟨b₀, o₀, l₀, h1, h2, h3⟩
    · omega
    · exact hn b₀ o₀ l₀ h1 h2 (h3.trans he)
  · rcases b.img i o l hi hl with h1 | ⟨b₀, o₀, l₀, h1, h2, h3⟩
    · exact .inl (Nat.le_trans a.size h1)
    · rcases a.img b₀ o₀ l₀ h1 h2 with h4 | ⟨b₁, o₁, l₁, h4, h5, h6⟩
      · exact .inl (h3 ▸ h4)
      · exact .inr ⟨b₁, o₁, l₁, h4, h5, h6.trans h3⟩

/-! a block put in place of another -/
def put (w : World) (b : Nat) (o : Obj) : World := { w with heap := w.heap.setIfInBounds b o }

theorem put_get {w : World} {b : Nat} {o : Obj} (c : Nat) : (put w b o).heap[c]? = if c = b ∧ b < w.heap.size then some o else w.heap[c]? := by
  simp only [put, Array.getElem?_setIfInBounds]
  by_cases h : b = c
  · subst h; by_cases h2 : b < w.heap.size <;> simp [h2]
  · rw [if_neg h, if_neg (fun x => h x.1.symm)]

theorem rel_put {ρ : Ren} {h : AHeap} {w : World} (r : Rel ρ h w) {b : Nat} {o o' : AObj} {l : Loc} {co' : Obj} (hb : h.m.get b = some o) (hl : ρ.loc b = some l) (ho : objRel ρ l o' co') :
    Rel ρ ⟨h.m.set b o', h.next, h.facts⟩ (put w l.blk co') ∧ Keeps ρ h w ρ ⟨h.m.set b o', h.next, h.facts⟩ (put w l.blk co') := by
  have hbd := r.bnd b l hl
  constructor
  · refine ⟨fun i x hx => ?_, fun i j x y li lj hi hj hli hlj hne => ?_, fun i li hi => ?_, r.fresh, r.facts⟩
    · simp only [PT.get_set] at hx
      split at hx
      · rename_i e; subst e; cases hx
        exact ⟨l, hl, co', by rw [put_get, if_pos ⟨rfl, hbd⟩], ho⟩
      · rename_i e
        obtain ⟨li, h1, co, h2, h3⟩ := r.obj i x hx
        refine ⟨li, h1, co, ?_, h3⟩
        rw [put_get, if_neg ?_]; exact h2
        intro hc
        exact r.inj i b x o li l hx hb h1 hl e hc.1
    · have old : ∀ {i : Nat} {x : AObj}, (h.m.set b o').get i = some x → ∃ z, h.m.get i = some z := by
        intro i x hx; rw [PT.get_set] at hx; split at hx
        · rename_i e; subst e; exact ⟨o, hb⟩
        · exact ⟨x, hx⟩
      obtain ⟨z, hz⟩ := old hi
      obtain ⟨z', hz'⟩ := old hj
      exact r.inj i j z z' li lj hz hz' hli hlj hne
    · simpa [put] using r.bnd i li hi
  · refine ⟨.refl _, by simp [put], fun c hc hn => ?_, fun i x li hi hli => ?_, rfl, rfl, rfl⟩
    · rw [put_get, if_neg (fun hx => hn b o l hb hl hx.1.symm)]
    · simp only [PT.get_set] at hi
      split at hi
      · rename_i e; subst e; exact .inr ⟨i, o, l, hb, hl, by rw [hl] at hli; cases hli; rfl⟩
      · exact .inr ⟨i, x, li, hi, hli, rfl⟩

/-! a new block -/
def pushed (w : World) (o : Obj) : World := { w with heap := w.heap.push o }
def Ren.with_ (ρ : Ren) (b : Nat) (l : Loc) : Ren := ⟨fun i => if i = b then some l else ρ.loc i, ρ.val, ρ.num⟩

theorem Ren.le_with {ρ : Ren} {b : Nat} {l : Loc} (h : ρ.loc b = none) : ρ.le (ρ.with_ b l) :=
  ⟨fun i x hx => (by
    show (if i = b then some l else ρ.loc i) = some x
    rw [if_neg]
    · exact hx
    · rintro rfl; rw [h] at hx; exact absurd hx (by simp)), fun _ => rfl, rfl⟩

theorem rel_new {ρ : Ren} {h : AHeap} {w : World} (r : Rel ρ h w) {o : AObj} {co : Obj} (cap : Nat)
    (ho : objRel (ρ.with_ h.next ⟨w.heap.size, 0, cap⟩) ⟨w.heap.size, 0, cap⟩ o co) :
    Rel (ρ.with_ h.next ⟨w.heap.size, 0, cap⟩) (h.new o).2 (pushed w co) ∧ Keeps ρ h w (ρ.with_ h.next ⟨w.heap.size, 0, cap⟩) (h.new o).2 (pushed w co) := by
  have hle : ρ.le (ρ.with_ h.next ⟨w.heap.size, 0, cap⟩) := Ren.le_with (r.fresh _ (Nat.le_refl _))
  have get0 : ∀ {i : Nat} {x : AObj}, i ≠ h.next → (h.new o).2.m.get i = some x → h.m.get i = some x := by
    intro i x e hx; simp only [AHeap.new, PT.get_set] at hx; rw [if_neg e] at hx; exact hx
  have loc0 : ∀ {i : Nat} {l : Loc}, i ≠ h.next → (ρ.with_ h.next ⟨w.heap.size, 0, cap⟩).loc i = some l → ρ.loc i = some l := by
    intro i l e hx; simp only [Ren.with_] at hx; rw [if_neg e] at hx; exact hx
  have locN : ∀ {l : Loc}, (ρ.with_ h.next ⟨w.heap.size, 0, cap⟩).loc h.next = some l → l = ⟨w.heap.size, 0, cap⟩ := by
    intro l hx; simp only [Ren.with_, if_true] at hx; cases hx; rfl
  constructor
  · refine ⟨fun i x hx => ?_, fun i j x y li lj hi hj hli hlj hne => ?_, fun i li hi => ?_, fun i hi => ?_, r.facts⟩
    · by_cases e : i = h.next
      · subst e
        simp only [AHeap.new, PT.get_set, if_true] at hx; cases hx
        exact ⟨_, by simp [Ren.with_], co, by simp [pushed], ho⟩
      · obtain ⟨l, h1, co', h2, h3⟩ := r.obj i x (get0 e hx)
        refine ⟨l, hle.loc _ _ h1, co', ?_, h3.mono hle⟩
        have := r.bnd i l h1
        simp only [pushed, Array.getElem?_push]; rw [if_neg (by omega)]; exact h2
    · by_cases ei : i = h.next
      · subst ei
        have := locN hli; subst this
        have h2 := r.bnd j lj (loc0 (Ne.symm hne) hlj)
        show w.heap.size ≠ lj.blk; omega
      · by_cases ej : j = h.next
        · subst ej
          have := locN hlj; subst this
          have h2 := r.bnd i li (loc0 ei hli)
          show li.blk ≠ w.heap.size; omega
        · exact r.inj i j x y li lj (get0 ei hi) (get0 ej hj) (loc0 ei hli) (loc0 ej hlj) hne
    · by_cases e : i = h.next
      · subst e; have := locN hi; subst this; simp [pushed]
      · have := r.bnd i li (loc0 e hi); simp only [pushed, Array.size_push]; omega
    · simp only [AHeap.new] at hi
      show (if i = h.next then _ else ρ.loc i) = none
      rw [if_neg (by omega)]; exact r.fresh i (by omega)
  · refine ⟨hle, by simp [pushed], fun c hc hn => ?_, fun i x li hi hli => ?_, rfl, rfl, rfl⟩
    · simp only [pushed, Array.getElem?_push]; rw [if_neg (by omega)]
    · by_cases e : i = h.next
      · subst e; have := locN hli; subst this; exact .inl (Nat.le_refl _)
      · exact .inr ⟨i, x, li, get0 e hi, loc0 e hli, rfl⟩

/-! reading -/
theorem Rel.load {ρ : Ren} {h : AHeap} {w : World} (r : Rel ρ h w) {b i : Nat} {a : AV} (hl : h.load b i = some a) :
    ∃ l v, ρ.loc b = some l ∧ conc ρ a = some v ∧ w.cell? ⟨l.blk, l.off + i, none⟩ = some v ∧ oneCell a = true := by
  unfold AHeap.load at hl
  split at hl
  · rename_i o ho
    obtain ⟨l, h1, co, h2, h3⟩ := r.obj b o ho
    cases o with
    | cells z p lim ex esz m =>
      obtain ⟨c, e, rfl, _, _, h6⟩ := h3
      obtain ⟨h7, v, hv, hc⟩ := h6 i a hl
      exact ⟨l, v, h1, hv, by simp [World.cell?, h2, hc], h7⟩
    | _ => simp [AObj.at] at hl
  · cases hl

end Go.Abs

