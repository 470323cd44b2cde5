/-
  The abstract machine's operations: what each of the model's operations comes to on abstract values. Partial: none where it would panic, or is not covered.
-/
import Derived.Test.YtcjjleelhaphkaaGreatDoorA1
import GoSem.Op.String
import GoSem.Core.Utf8
set_option linter.unusedVariables false
set_option linter.unusedSimpArgs false
namespace Go.Am

/-- A type's form, as far as the machine needs it. A field: where it begins, how many cells it has, its kind (1 an integer, 2 a string, 3 a bool, 4 an aggregate, 0 another). -/
inductive ADesc where
  | struct (fs : List (Nat × Nat × Nat))
  | slice (elem : Nat)
  | array (n elem : Nat)
  | map (kind elem : Nat)
  | str
  | bool
  | int (k : IntKind)
  | ptr
  | func
  | other
  deriving Inhabited

structure ATy where
  desc : ADesc
  size : Nat
  bytes : Nat
  agg : Bool
  zero : AV
  deriving Inhabited

abbrev Tab := PT ATy

def i64Fits (n : Int) : Bool := decide (-9223372036854775808 ≤ n) && decide (n ≤ 9223372036854775807)

/-- 'IntKind.wrap', quick where nothing is lost. -/
def awrap (k : IntKind) (n : Int) : Int :=
  match k with
  | .i64 => bif i64Fits n then n else IntKind.i64.wrap n
  | k => k.wrap n

/-- A constant of one cell. -/
def absConst : Value → Option AV
  | .bool b => some (.bool b)
  | .int k n => some (.int k n)
  | .string s => some (.str s.data.toList)
  | .pointer none => some .nilptr
  | .slice none 0 0 => some .nilslice
  | .map none => some .nilmap
  | .nilFunc => some .nilfunc
  | _ => none

def absConstL : List Value → Option (List AV)
  | [] => some []
  | x :: xs => match absConst x, absConstL xs with
    | some y, some ys => some (y :: ys)
    | _, _ => none

/-- A constant. -/
def absConst2 : Value → Option AV
  | .agg cs => (absConstL cs.toList).map .agg
  | v => absConst v

def aev (fr : AFrame) : Operand → Option AV
  | .tmp t => fr.get t
  | .const v => absConst2 v
  | .func f => some (.func f [] [])
  | .global _ => none

def aevL (ρ : Operand → Option AV) : List Operand → Option (List AV)
  | [] => some []
  | x :: xs => match ρ x, aevL ρ xs with
    | some y, some ys => some (y :: ys)
    | _, _ => none

inductive ACallee where
  | fn (f : Nat)
  | yield (o : Nat)
  | enter (f : Nat)

inductive ARes where
  | val (v : Option AV) (h : AHeap)
  | call (c : ACallee) (args : List AV)

def ret1 (h : AHeap) (v : Option AV) : Option ARes := match v with | some v => some (.val (some v) h) | none => none

def ret2 (r : Option (AV × AHeap)) : Option ARes := match r with | some (v, h) => some (.val (some v) h) | none => none

/-! ### Numbers, texts, truths -/

def aint (op : BinOp) (k : IntKind) (a b : Int) : Option AV :=
  match op with
  | .add => some (.int k (awrap k (a + b)))
  | .sub => some (.int k (awrap k (a - b)))
  | .mul => some (.int k (awrap k (a * b)))
  | .quo => bif decide (b = 0) then none else some (.int k (awrap k (a.tdiv b)))
  | .rem => bif decide (b = 0) then none else some (.int k (a.tmod b))
  | .and => some (.int k (k.wrap (BitVec.ofInt k.bits a &&& BitVec.ofInt k.bits b).toNat))
  | .or => some (.int k (k.wrap (BitVec.ofInt k.bits a ||| BitVec.ofInt k.bits b).toNat))
  | .xor => some (.int k (k.wrap (BitVec.ofInt k.bits a ^^^ BitVec.ofInt k.bits b).toNat))
  | .eql => some (.bool (decide (a = b)))
  | .neq => some (.bool (!decide (a = b)))
  | .lss => some (.bool (decide (a < b)))
  | .leq => some (.bool (decide (a ≤ b)))
  | .gtr => some (.bool (decide (b < a)))
  | .geq => some (.bool (decide (b ≤ a)))
  | _ => none

def ashift (op : BinOp) (k : IntKind) (a b : Int) : Option AV :=
  match b with
  | .ofNat n =>
    match op with
    | .shl => some (.int k (awrap k (a * 2 ^ (Nat.min n k.bits))))
    | .shr => some (.int k (a.fdiv (2 ^ (Nat.min n k.bits))))
    | _ => none
  | .negSucc _ => none

def astr (op : BinOp) (a b : List UInt8) : Option AV :=
  match op with
  | .add => bif Nat.ble (a.length + b.length) 4611686018427387904 then some (.str (a ++ b)) else none
  | .eql => some (.bool (decide (a = b)))
  | .neq => some (.bool (!decide (a = b)))
  | .lss => some (.bool (Op.bytesLess a b))
  | .leq => some (.bool (Op.bytesLess a b || decide (a = b)))
  | .gtr => some (.bool (!(Op.bytesLess a b || decide (a = b))))
  | .geq => some (.bool (!Op.bytesLess a b))
  | _ => none

/-- Equal cells, of the kinds 1, 2, 3. -/
def eqCell (kind : Nat) (x y : AV) : Option Bool :=
  match kind, x, y with
  | 1, .int j a, .int k b => bif decide (j = k) then some (decide (a = b)) else none
  | 2, .str a, .str b => some (decide (a = b))
  | 3, .bool a, .bool b => some (a == b)
  | _, _, _ => none

def eqFields : List (Nat × Nat × Nat) → List AV → List AV → Option Bool
  | [], _, _ => some true
  | (off, _, kind) :: fs, xs, ys =>
    match xs[off]?, ys[off]? with
    | some x, some y =>
      match eqCell kind x y with
      | some true => eqFields fs xs ys
      | some false => some false
      | none => none
    | _, _ => none

/-- '==' where neither integers nor texts are compared. -/
def aeq (T : Tab) (t : Nat) (x y : AV) : Option Bool :=
  match x, y with
  | .bool a, .bool b => match T.get t with
    | some ⟨.bool, _, _, _, _⟩ => some (a == b)
    | _ => none
  | .nilptr, .nilptr => some true
  | .nilptr, .ptr _ _ => some false
  | .ptr _ _, .nilptr => some false
  | .nilslice, .nilslice => some true
  | .nilslice, .slice _ _ _ _ => some false
  | .nilslice, .eslice => some false
  | .slice _ _ _ _, .nilslice => some false
  | .eslice, .nilslice => some false
  | .nilmap, .nilmap => some true
  | .nilmap, .map _ => some false
  | .map _, .nilmap => some false
  | .nilfunc, .nilfunc => some true
  | .nilfunc, .func _ _ _ => some false
  | .func _ _ _, .nilfunc => some false
  | .agg xs, .agg ys => match T.get t with
    | some ⟨.struct fs, _, _, _, _⟩ => eqFields fs xs ys
    | _ => none
  | _, _ => none

/-- Of which types may '==' be asked so? -/
def eqOk (T : Tab) (t : Nat) (x y : AV) : Bool :=
  match T.get t with
  | some ⟨d, _, _, _, _⟩ => match d, x, y with
    | .bool, .bool _, .bool _ => true
    | .struct _, .agg _, .agg _ => true
    | .slice _, .nilslice, _ => true
    | .slice _, _, .nilslice => true
    | .map _ _, .nilmap, _ => true
    | .map _ _, _, .nilmap => true
    | .ptr, .nilptr, _ => true
    | .ptr, _, .nilptr => true
    | .func, .nilfunc, _ => true
    | .func, _, .nilfunc => true
    | _, _, _ => false
  | none => false

def abin (T : Tab) (op : BinOp) (t : Nat) (x y : AV) : Option AV :=
  match x, y with
  | .int k a, .int k' b =>
    match op with
    | .shl => ashift op k a b
    | .shr => ashift op k a b
    | _ => bif decide (k = k') then aint op k a b else none
  | .str a, .str b => astr op a b
  | x, y =>
    bif eqOk T t x y then
      match op with
      | .eql => (aeq T t x y).map .bool
      | .neq => (aeq T t x y).map fun b => .bool (!b)
      | _ => none
    else none

def aun (op : UnOp) (x : AV) : Option AV :=
  match op, x with
  | .neg, .int k n => some (.int k (awrap k (0 - n)))
  | .not, .bool b => some (.bool !b)
  | _, _ => none

/-! ### Memory -/

def allOne : List AV → Bool
  | [] => true
  | x :: xs => x.one && allOne xs

/-- Cells from a place on. -/
def cut (vs : List AV) (i n : Nat) : Option (List AV) :=
  bif Nat.ble (i + n) vs.length then some ((vs.drop i).take n) else none

/-- Cells put over others from a place on. -/
def splice (vs : List AV) (i : Nat) (cs : List AV) : Option (List AV) :=
  bif Nat.ble (i + cs.length) vs.length then some (vs.take i ++ (cs ++ vs.drop (i + cs.length))) else none

def aload (T : Tab) (h : AHeap) (t : Nat) (o i : Nat) : Option AV :=
  match h.get o, T.get t with
  | some (.cells vs _), some ty => bif ty.agg then (cut vs i ty.size).map .agg else vs[i]?
  | _, _ => none

def astore (T : Tab) (h : AHeap) (t : Nat) (o i : Nat) (v : AV) : Option AHeap :=
  match h.get o, T.get t with
  | some (.cells vs true), some ty =>
    bif Nat.beq v.cells.length ty.size && allOne v.cells then
      match splice vs i v.cells with
      | some vs' => some (h.put o (.cells vs' true))
      | none => none
    else none
  | _, _ => none

def newCells (h : AHeap) (cs : List AV) (k : Nat → AV) : Option (AV × AHeap) :=
  bif allOne cs then some (k h.next, (h.add (.cells cs true))) else none

/-- 'fill': parts put into cells. -/
def afill (place : Nat → Option (Nat × Nat)) : List AV → List (Nat × AV) → Option (List AV)
  | cells, [] => some cells
  | cells, (i, v) :: rest =>
    match place i with
    | none => none
    | some (off, size) =>
      bif Nat.beq v.cells.length size && v.noTup then
        match splice cells off v.cells with
        | some cells' => afill place cells' rest
        | none => none
      else none

def parts (ρ : Operand → Option AV) : List (Nat × Operand) → Option (List (Nat × AV))
  | [] => some []
  | (i, x) :: xs => match ρ x, parts ρ xs with
    | some y, some ys => some ((i, y) :: ys)
    | _, _ => none

def fieldAt (fs : List (Nat × Nat × Nat)) (i : Nat) : Option (Nat × Nat) :=
  match fs[i]? with
  | some (off, size, _) => some (off, size)
  | none => none

def abuild (T : Tab) (t : Nat) (ps : List (Nat × AV)) : Option AV :=
  match T.get t with
  | some ⟨.struct fs, _, _, _, zero⟩ => (afill (fieldAt fs) zero.cells ps).map .agg
  | some ⟨.array _ e, _, _, _, zero⟩ => match T.get e with
    | some te => (afill (fun i => some (i * te.size, te.size)) zero.cells ps).map .agg
    | none => none
  | _ => none

def zeros (z : List AV) : Nat → List AV
  | 0 => []
  | n + 1 => z ++ zeros z n

def abuildSlice (T : Tab) (h : AHeap) (t len : Nat) (ps : List (Nat × AV)) : Option (AV × AHeap) :=
  match T.get t with
  | some ⟨.slice e, _, _, _, _⟩ =>
    match T.get e with
    | some te =>
      bif Nat.ble (len * te.size) 16777216 && Nat.ble 1 te.size && Nat.beq te.zero.cells.length te.size then
        match afill (fun i => some (i * te.size, te.size)) (zeros te.zero.cells len) ps with
        | some cells => newCells h cells fun o => .slice o 0 len te.size
        | none => none
      else none
    | none => none
  | _ => none

/-- An index that lies in so many. -/
def inside (x : AV) (n : Nat) : Option Nat :=
  match x with
  | .int _ (.ofNat i) => bif Nat.blt i n then some i else none
  | _ => none

def upTo (x : Option AV) (dflt n : Nat) : Option Nat :=
  match x with
  | none => some dflt
  | some (.int _ (.ofNat i)) => bif Nat.ble i n then some i else none
  | some _ => none

def aindexAddr (T : Tab) (t : Nat) (x ix : AV) : Option AV :=
  match T.get t with
  | some ⟨.slice e, _, _, _, _⟩ =>
    match x, T.get e with
    | .slice o off len esz, some te =>
      bif Nat.beq te.size esz then
        match inside ix len with
        | some i => some (.ptr o (off + i * esz))
        | none => none
      else none
    | _, _ => none
  | some ⟨.array n e, _, _, _, _⟩ =>
    match x, T.get e with
    | .ptr o off, some te =>
      match inside ix n with
      | some i => some (.ptr o (off + i * te.size))
      | none => none
    | _, _ => none
  | _ => none

def aindex (T : Tab) (t : Nat) (x ix : AV) : Option AV :=
  match x with
  | .str s =>
    match T.get t with
    | some ⟨.str, _, _, _, _⟩ =>
      match inside ix s.length with
      | some i => match s[i]? with
        | some b => some (.int .u8 b.toNat)
        | none => none
      | none => none
    | _ => none
  | .agg cs =>
    match T.get t with
    | some ⟨.array n e, _, _, _, _⟩ =>
      match inside ix n, T.get e with
      | some i, some te => bif te.agg then (cut cs (i * te.size) te.size).map .agg else cs[i * te.size]?
      | _, _ => none
    | _ => none
  | _ => none

def afield (T : Tab) (t : Nat) (x : AV) (f : Nat) : Option AV :=
  match x, T.get t with
  | .agg cs, some ⟨.struct fs, _, _, _, _⟩ =>
    match fs[f]? with
    | some (off, size, kind) => bif Nat.beq kind 4 then (cut cs off size).map .agg else cs[off]?
    | none => none
  | _, _ => none

def afieldAddr (T : Tab) (t : Nat) (x : AV) (f : Nat) : Option AV :=
  match x, T.get t with
  | .ptr o i, some ⟨.struct fs, _, _, _, _⟩ =>
    match fs[f]? with
    | some (off, size, _) => bif Nat.ble 1 size then some (.ptr o (i + off)) else none
    | none => none
  | _, _ => none

def aslice (T : Tab) (t : Nat) (x : AV) (lo hi : Option AV) : Option AV :=
  match x with
  | .str s =>
    match T.get t with
    | some ⟨.str, _, _, _, _⟩ =>
      match upTo hi s.length s.length with
      | some b => match upTo lo 0 b with
        | some a => some (.str ((s.take b).drop a))
        | none => none
      | none => none
    | _ => none
  | .slice o off len esz =>
    match T.get t with
    | some ⟨.slice e, _, _, _, _⟩ =>
      match T.get e with
      | some te =>
        bif Nat.beq te.size esz then
          match upTo hi len len with
          | some b => match upTo lo 0 b with
            | some a => some (bif Nat.beq a b then .eslice else .slice o (off + a * esz) (b - a) esz)
            | none => none
          | none => none
        else none
      | none => none
    | _ => none
  | .nilslice =>
    match T.get t with
    | some ⟨.slice e, _, _, _, _⟩ =>
      match T.get e, upTo hi 0 0, upTo lo 0 0 with
      | some _, some _, some _ => some .nilslice
      | _, _, _ => none
    | _ => none
  | .eslice =>
    match T.get t with
    | some ⟨.slice e, _, _, _, _⟩ =>
      match T.get e, upTo hi 0 0, upTo lo 0 0 with
      | some _, some _, some _ => some .eslice
      | _, _, _ => none
    | _ => none
  | _ => none

/-! ### Maps -/

def keyEq : AV → AV → Option Bool
  | .int j a, .int k b => bif decide (j = k) then some (decide (a = b)) else none
  | .str a, .str b => some (decide (a = b))
  | .bool a, .bool b => some (a == b)
  | _, _ => none

/-- The entry of a key: its place, what stands there, its number. 'some none': there is none. -/
def findE (k : AV) : List (AV × AV × Nat) → Nat → Option (Option (Nat × AV × Nat))
  | [], _ => some none
  | e :: es, i =>
    match keyEq k e.1 with
    | some true => some (some (i, e.2.1, e.2.2))
    | some false => findE k es (i + 1)
    | none => none

/-- Is a key of a kind (1 an integer, 2 a string, 3 a bool)? -/
def keyOk (kind : Nat) (k : AV) : Bool :=
  match kind, k with
  | 1, .int _ _ => true
  | 2, .str _ => true
  | 3, .bool _ => true
  | _, _ => false

def alookup (T : Tab) (h : AHeap) (t : Nat) (x k : AV) (commaOk : Bool) : Option AV :=
  match T.get t with
  | some ⟨.map kind e, _, _, _, _⟩ =>
    bif keyOk kind k then
      match T.get e with
      | some te =>
        match x with
        | .nilmap => some (bif commaOk then .tuple [te.zero, .bool false] else te.zero)
        | .map o =>
          match h.get o with
          | some (.map es _) =>
            match findE k es 0 with
            | some (some (_, v, _)) => some (bif commaOk then .tuple [v, .bool true] else v)
            | some none => some (bif commaOk then .tuple [te.zero, .bool false] else te.zero)
            | none => none
          | _ => none
        | _ => none
      | none => none
    else none
  | _ => none

def setEntry (es : List (AV × AV × Nat)) (i : Nat) (k v : AV) (born : Nat) : List (AV × AV × Nat) := es.set i (k, v, born)

def amapUpdate (T : Tab) (h : AHeap) (t : Nat) (m k v : AV) : Option AHeap :=
  match T.get t, m with
  | some ⟨.map kind _, _, _, _, _⟩, .map o =>
    bif keyOk kind k then
      match h.get o with
      | some (.map es clock) =>
        match findE k es 0 with
        | some (some (i, _, born)) => some (h.put o (.map (setEntry es i k v born) clock))
        | some none => some (h.put o (.map (es ++ [(k, v, clock)]) (clock + 1)))
        | none => none
      | _ => none
    else none
  | _, _ => none

def amapEntry (T : Tab) (h : AHeap) (t : Nat) (m k : AV) : Option (AV × AHeap) :=
  match T.get t, m with
  | some ⟨.map kind e, _, _, _, _⟩, .map o =>
    bif keyOk kind k then
      match h.get o, T.get e with
      | some (.map es clock), some te =>
        match findE k es 0 with
        | some (some (i, v, born)) => some (.tuple [v, .int .i64 born], (h.put o (.map (setEntry es i k v born) clock)))
        | some none => some (.tuple [te.zero, .int .i64 clock], (h.put o (.map (es ++ [(k, te.zero, clock)]) (clock + 1))))
        | none => none
      | _, _ => none
    else none
  | _, _ => none

def findBorn (n : Int) : List (AV × AV × Nat) → Nat → Option (Nat × AV)
  | [], _ => none
  | e :: es, i => bif decide ((e.2.2 : Int) = n) then some (i, e.1) else findBorn n es (i + 1)

def aentryStore (h : AHeap) (m stamp v : AV) : Option AHeap :=
  match m, stamp with
  | .map o, .int .i64 n =>
    match h.get o with
    | some (.map es clock) =>
      match findBorn n es 0 with
      | some (i, k) => match es[i]? with
        | some e => some (h.put o (.map (setEntry es i k v e.2.2) clock))
        | none => none
      | none => none
    | _ => none
  | _, _ => none

def adelete (T : Tab) (h : AHeap) (t : Nat) (m k : AV) : Option AHeap :=
  match T.get t, m with
  | some ⟨.map kind _, _, _, _, _⟩, .map o =>
    bif keyOk kind k then
      match h.get o with
      | some (.map es clock) =>
        match findE k es 0 with
        | some (some (i, _, _)) => some (h.put o (.map (es.eraseIdx i) clock))
        | some none => some (h.put o (.map es clock))
        | none => none
      | _ => none
    else none
  | _, _ => none

/-! ### Calls of builtins, conversions -/

/-- The cells of a slice. -/
def rowOf (h : AHeap) (x : AV) (esz : Nat) : Option (List AV) :=
  match x with
  | .nilslice => some []
  | .eslice => some []
  | .slice o off len e =>
    bif Nat.beq e esz then
      match h.get o with
      | some (.cells vs _) => cut vs off (len * esz)
      | _ => none
    else none
  | .str s => bif Nat.beq esz 1 then some (s.map fun b => .int .u8 b.toNat) else none
  | _ => none

def lenOf : AV → Option Nat
  | .nilslice => some 0
  | .eslice => some 0
  | .slice _ _ len _ => some len
  | .str s => some s.length
  | _ => none

def srcOk : ADesc → Bool
  | .slice _ => true
  | .str => true
  | _ => false

/-- 'append': always a new row; the elder one is given up. -/
def aappend (T : Tab) (h : AHeap) (ts tx : Nat) (s x : AV) : Option (AV × AHeap) :=
  match T.get ts, T.get tx with
  | some ⟨.slice e, _, _, _, _⟩, some ⟨d, _, _, _, _⟩ =>
    match T.get e with
    | some te =>
      match lenOf s, lenOf x, rowOf h s te.size, rowOf h x te.size with
      | some n, some m, some old, some new =>
        bif srcOk d && Nat.ble 1 te.size && Nat.ble ((n + m) * te.bytes) 35184372088832 && Nat.ble (n + m) 35184372088832 && allOne new then
          match m with
          | 0 => match s with
            | .str _ => none
            | s => some (s, h)
          | _ + 1 =>
            match s with
            | .nilslice => some (.slice h.next 0 (n + m) te.size, (h.add (.cells (old ++ new) true)))
            | .slice o _ _ _ =>
              match h.get o with
              | some (.cells _ true) => some (.slice h.next 0 (n + m) te.size, ((h.put o .dead).add (.cells (old ++ new) true)))
              | _ => none
            | _ => none
        else none
      | _, _, _, _ => none
    | none => none
  | _, _ => none

def alen (T : Tab) (h : AHeap) (t : Nat) (x : AV) : Option AV :=
  match T.get t with
  | some ⟨d, _, _, _, _⟩ =>
    match d, x with
    | .str, .str s => some (.int .i64 s.length)
    | .slice _, .nilslice => some (.int .i64 0)
    | .slice _, .eslice => some (.int .i64 0)
    | .slice _, .slice _ _ n _ => some (.int .i64 n)
    | .map _ _, .nilmap => some (.int .i64 0)
    | .map _ _, .map o => match h.get o with
      | some (.map es _) => some (.int .i64 es.length)
      | _ => none
    | .array n _, _ => some (.int .i64 n)
    | _, _ => none
  | none => none

def amin : AV → AV → Option AV
  | .int j a, .int k b => bif decide (j = k) then some (.int j (bif decide (b < a) then b else a)) else none
  | _, _ => none

def amax : AV → AV → Option AV
  | .int j a, .int k b => bif decide (j = k) then some (.int j (bif decide (a < b) then b else a)) else none
  | _, _ => none

def byteOf : AV → Option UInt8
  | .int .u8 (.ofNat n) => some (UInt8.ofNat n)
  | _ => none

def bytesOf : List AV → Option (List UInt8)
  | [] => some []
  | x :: xs => match byteOf x, bytesOf xs with
    | some y, some ys => some (y :: ys)
    | _, _ => none

def aconvert (T : Tab) (h : AHeap) (src dst : Nat) (x : AV) : Option (AV × AHeap) :=
  match T.get src, T.get dst with
  | some ⟨ds, _, _, _, _⟩, some ⟨dd, _, _, _, _⟩ =>
    match dd, x with
    | .int k, .int _ n => some (.int k (awrap k n), h)
    | .str, .str s => some (.str s, h)
    | .slice e, .str s =>
      match T.get e with
      | some ⟨.int .u8, 1, _, _, _⟩ => bif Nat.ble s.length 35184372088832 then newCells h (s.map fun b => .int .u8 b.toNat) fun o => .slice o 0 s.length 1 else none
      | _ => none
    | .str, x =>
      match ds with
      | .slice e =>
        match T.get e with
        | some ⟨.int .u8, _, _, _, _⟩ =>
          match rowOf h x 1 with
          | some cs => match bytesOf cs with
            | some bs => match x with
              | .str _ => none
              | _ => some (.str bs, h)
            | none => none
          | none => none
        | _ => none
      | _ => none
    | _, _ => none
  | _, _ => none

def amakeSlice (T : Tab) (h : AHeap) (t : Nat) (len cap : AV) : Option (AV × AHeap) :=
  match T.get t, len, cap with
  | some ⟨.slice e, _, _, _, _⟩, .int .i64 (.ofNat n), .int .i64 (.ofNat m) =>
    match T.get e with
    | some te =>
      bif Nat.beq n m && Nat.ble 1 te.size && Nat.ble (n * te.bytes) 35184372088832 && Nat.ble n 35184372088832 && Nat.beq te.zero.cells.length te.size then
        newCells h (zeros te.zero.cells n) fun o => .slice o 0 n te.size
      else none
    | none => none
  | _, _, _ => none

def acallV (f : AV) (args : List AV) : Option ARes :=
  match f with
  | .func g first captured => some (.call (.fn g) (first ++ (args ++ captured)))
  | .yield o => some (.call (.yield o) args)
  | _ => none

/-- The next rune of a text that is ranged over. -/
def anext (h : AHeap) (o : Nat) : Option (AV × AHeap) :=
  match h.get o with
  | some (.raw (.stringIter s pos)) =>
    bif Nat.blt pos s.size then some (.tuple [.bool true, .int .i64 pos, .int .i32 (Utf8.decode s pos).1], h.put o (.raw (.stringIter s (pos + (Utf8.decode s pos).2))))
    else some (.tuple [.bool false], h)
  | _ => none

def aop (T : Tab) (ρ : Operand → Option AV) (h : AHeap) : Op → Option ARes
  | .move x => some (.val (ρ x) h)
  | .assign x => some (.val (ρ x) h)
  | .pick c a b => match ρ c with
    | some (.bool c) => some (.val (bif c then ρ a else ρ b) h)
    | _ => none
  | .alloc e => match T.get e with
    | some te => ret2 (newCells h te.zero.cells fun o => .ptr o 0)
    | none => none
  | .box _ x => match ρ x with
    | some v => ret2 (newCells h v.cells fun o => .ptr o 0)
    | none => none
  | .build t ps => match parts ρ ps.toList with
    | some ps => ret1 h (abuild T t ps)
    | none => none
  | .buildSlice t len ps => match parts ρ ps.toList with
    | some ps => ret2 (abuildSlice T h t len ps)
    | none => none
  | .load t a => match ρ a with
    | some (.ptr o i) => ret1 h (aload T h t o i)
    | _ => none
  | .store t a x => match ρ a, ρ x with
    | some (.ptr o i), some v => match astore T h t o i v with
      | some h' => some (.val none h')
      | none => none
    | _, _ => none
  | .nilCheck x => match ρ x with
    | some (.ptr o i) => some (.val (some (.ptr o i)) h)
    | some (.func f a c) => some (.val (some (.func f a c)) h)
    | some (.yield o) => some (.val (some (.yield o)) h)
    | _ => none
  | .binOp op t x y _ => match ρ x, ρ y with
    | some a, some b => ret1 h (abin T op t a b)
    | _, _ => none
  | .unOp op _ x => match ρ x with
    | some a => ret1 h (aun op a)
    | none => none
  | .convert s d x => match ρ x with
    | some a => ret2 (aconvert T h s d a)
    | none => none
  | .makeFunc fn first captured => match fn with
    | .func f => match aevL ρ first.toList, aevL ρ captured.toList with
      | some a, some c => some (.val (some (.func f a c)) h)
      | _, _ => none
    | _ => none
  | .makeMap t r => match T.get t with
    | some ⟨.map _ _, _, _, _, _⟩ => match r with
      | none => some (.val (some (.map h.next)) (h.add (.map [] 0)))
      | some r => match ρ r with
        | some (.int _ _) => some (.val (some (.map h.next)) (h.add (.map [] 0)))
        | _ => none
    | _ => none
  | .makeSlice t l c => match ρ l, ρ c with
    | some a, some b => ret2 (amakeSlice T h t a b)
    | _, _ => none
  | .slice t x lo hi mx => match mx, ρ x, lo.map ρ, hi.map ρ with
    | none, some a, none, none => ret1 h (aslice T t a none none)
    | none, some a, some (some l), none => ret1 h (aslice T t a (some l) none)
    | none, some a, none, some (some b) => ret1 h (aslice T t a none (some b))
    | none, some a, some (some l), some (some b) => ret1 h (aslice T t a (some l) (some b))
    | _, _, _, _ => none
  | .fieldAddr s x f => match ρ x with
    | some a => ret1 h (afieldAddr T s a f)
    | none => none
  | .field s x f => match ρ x with
    | some a => ret1 h (afield T s a f)
    | none => none
  | .indexAddr t x i => match ρ x, ρ i with
    | some a, some b => ret1 h (aindexAddr T t a b)
    | _, _ => none
  | .index t x i => match ρ x, ρ i with
    | some a, some b => ret1 h (aindex T t a b)
    | _, _ => none
  | .lookup t x i ok => match ρ x, ρ i with
    | some a, some b => ret1 h (alookup T h t a b ok)
    | _, _ => none
  | .mapUpdate t m k v => match ρ m, ρ k, ρ v with
    | some a, some b, some c => match amapUpdate T h t a b c with
      | some h' => some (.val none h')
      | none => none
    | _, _, _ => none
  | .insert t m k v => match ρ m, ρ k, ρ v with
    | some a, some b, some c => match amapUpdate T h t a b c with
      | some h' => some (.val none h')
      | none => none
    | _, _, _ => none
  | .mapEntry t m k => match ρ m, ρ k with
    | some a, some b => ret2 (amapEntry T h t a b)
    | _, _ => none
  | .entryStore _ m s v => match ρ m, ρ s, ρ v with
    | some a, some b, some c => match aentryStore h a b c with
      | some h' => some (.val none h')
      | none => none
    | _, _, _ => none
  | .extract x i => match ρ x with
    | some (.tuple vs) => ret1 h vs[i]?
    | _ => none
  | .call c => match aevL ρ c.args.toList with
    | some args => match c.callee with
      | .value f => match ρ f with
        | some g => acallV g args
        | none => none
      | .builtin b => match b, args, c.argTypes.toList with
        | .append, [s, x], [ts, tx] => ret2 (aappend T h ts tx s x)
        | .len, [x], [t] => ret1 h (alen T h t x)
        | .delete, [m, k], t :: _ => match adelete T h t m k with
          | some h' => some (.val (some (.tuple [])) h')
          | none => none
        | .min, [x, y], _ => ret1 h (amin x y)
        | .max, [x, y], _ => ret1 h (amax x y)
        | _, _, _ => none
      | .invoke _ _ => none
    | none => none
  | .range t x => match T.get t, ρ x with
    | some ⟨.str, _, _, _, _⟩, some (.str s) => some (.val (some (.ptr h.next 0)) (h.add (.raw (.stringIter ⟨s.toArray⟩ 0))))
    | _, _ => none
  | .next it isStr => match isStr, ρ it with
    | true, some (.ptr o 0) => match anext h o with
      | some (v, h') => some (.val (some v) h')
      | none => none
    | _, _ => none
  | _ => none

end Go.Am
