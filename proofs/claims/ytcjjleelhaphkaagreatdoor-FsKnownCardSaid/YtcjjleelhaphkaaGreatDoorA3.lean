/-
  The abstract machine's runs: regions (in their order, or by a plan where the model draws one), code, functions. Deterministic; it may hand back nothing; 'n' bounds rounds and calls in one another.
-/
import Derived.Test.YtcjjleelhaphkaaGreatDoorA2
import Derived.Orders
set_option linter.unusedVariables false
set_option linter.unusedSimpArgs false
namespace Go.Am

/-- What calls come to. -/
abbrev Env := ACallee → List AV → AHeap → Option (AV × AHeap)

/-- What is known of a function beside its code: which temporaries are kept at a loop's head (by the loop's first region), a plan for each region that draws its order (by the region's number): an order, and for each operation which stand ahead of it (bits). -/
structure AFn where
  fn : Func
  keep : PT (List Nat)
  plan : PT (List Nat × List Nat)
  join : PT (List Nat) := .leaf

structure ASt where
  fr : AFrame
  ms : List Nat
  h : AHeap

def guardBy (ops : List Oper) (g : Tmp → Option AV) (o : Oper) : Option Bool :=
  match o.guard with
  | none => some true
  | some (j, want) =>
    match ops[j]? with
    | some oj =>
      match oj.dst with
      | some t => match g t with
        | some (.bool b) => some (b == want)
        | some (.tuple []) => some false
        | _ => none
      | none => none
    | none => none

def guardOf (ops : List Oper) (fr : AFrame) (o : Oper) : Option Bool := guardBy ops fr.get o

def putT (nt : Nat) (fr : AFrame) (dst : Option Tmp) (v : Option AV) : Option AFrame :=
  match dst with
  | none => some fr
  | some t => bif Nat.blt t nt then some (fr.set t v) else none

/-- One operation, its guard aside. -/
def opGo (E : Env) (T : Tab) (nt : Nat) (o : Oper) (fr : AFrame) (h : AHeap) : Option (AFrame × AHeap) :=
  match aop T (aev fr) h o.op with
  | some (.val v h') => match putT nt fr o.dst v with
    | some fr' => some (fr', h')
    | none => none
  | some (.call c args) => match E c args h with
    | some (r, h') => match putT nt fr o.dst (some r) with
      | some fr' => some (fr', h')
      | none => none
    | none => none
  | none => none

def opStep (E : Env) (T : Tab) (nt : Nat) (ops : List Oper) (o : Oper) (fr : AFrame) (h : AHeap) : Option (AFrame × AHeap) :=
  match guardOf ops fr o with
  | some true => opGo E T nt o fr h
  | some false => match putT nt fr o.dst (some (.tuple [])) with
    | some fr' => some (fr', h)
    | none => none
  | none => none

def runSeq (E : Env) (T : Tab) (nt : Nat) (ops : List Oper) : List Oper → AFrame → AHeap → Option (AFrame × AHeap)
  | [], fr, h => some (fr, h)
  | o :: rest, fr, h => match opStep E T nt ops o fr h with
    | some (fr', h') => runSeq E T nt ops rest fr' h'
    | none => none

/-! ### A region that draws its order -/

inductive Cls where
  | pure | read | alloc | eff

def clsOf (T : Tab) : Op → Cls
  | .move _ | .assign _ | .pick _ _ _ | .build _ _ | .nilCheck _ | .binOp _ _ _ _ _ | .unOp _ _ _ | .makeFunc _ _ _
  | .slice _ _ _ _ _ | .fieldAddr _ _ _ | .field _ _ _ | .indexAddr _ _ _ | .index _ _ _ | .extract _ _ => .pure
  | .load _ _ | .lookup _ _ _ _ => .read
  | .alloc _ | .box _ _ | .buildSlice _ _ _ | .makeMap _ _ => .alloc
  | .convert _ d _ => match T.get d with
    | some ⟨.int _, _, _, _, _⟩ => .pure
    | some ⟨.str, _, _, _, _⟩ => .read
    | _ => .eff
  | .call c => match c.callee with
    | .builtin .len => .read
    | .builtin .min => .pure
    | .builtin .max => .pure
    | _ => .eff
  | _ => .eff

/-- What a read came to, asked again. -/
def again (T : Tab) (ops : List Oper) (fr : AFrame) (h : AHeap) (mask : Nat) : List (Nat × Option AV) → Bool
  | [] => true
  | (i, v) :: rds =>
    (bif Nat.testBit mask i then true else
      match ops[i]? with
      | some o => match aop T (aev fr) h o.op, v with
        | some (.val (some x) _), some y => AV.beq x y
        | _, _ => false
      | none => false) && again T ops fr h mask rds

def runPlan (E : Env) (T : Tab) (nt : Nat) (ops : List Oper) (bef : List Nat) : List Nat → AFrame → AHeap → List (Nat × Option AV) → Option (AFrame × AHeap)
  | [], fr, h, _ => some (fr, h)
  | i :: rest, fr, h, rds =>
    match ops[i]? with
    | none => none
    | some o =>
      match guardOf ops fr o with
      | none => none
      | some false => match putT nt fr o.dst (some (.tuple [])) with
        | some fr' => runPlan E T nt ops bef rest fr' h rds
        | none => none
      | some true =>
        match clsOf T o.op with
        | .pure => match aop T (aev fr) h o.op with
          | some (.val v h') => match putT nt fr o.dst v with
            | some fr' => runPlan E T nt ops bef rest fr' h' rds
            | none => none
          | _ => none
        | .alloc => match aop T (aev fr) h o.op with
          | some (.val v h') => match putT nt fr o.dst v with
            | some fr' => runPlan E T nt ops bef rest fr' h' rds
            | none => none
          | _ => none
        | .read => match aop T (aev fr) h o.op with
          | some (.val v h') => match putT nt fr o.dst v with
            | some fr' => runPlan E T nt ops bef rest fr' h' ((i, v) :: rds)
            | none => none
          | _ => none
        | .eff => match opGo E T nt o fr h with
          | some (fr', h') => bif again T ops fr' h' (bef.getD i 0) rds then runPlan E T nt ops bef rest fr' h' rds else none
          | none => none

/-- Bits of what stands ahead of each operation. -/
def befOf (after : List Edge) (acc : List Nat) : Nat :=
  match after with
  | [] => 0
  | e :: es => bif Region.binds .any e then Nat.lor (Nat.lor (2 ^ e.on) (acc.getD e.on 0)) (befOf es acc) else befOf es acc

def isEff (T : Tab) (o : Oper) : Bool := match clsOf T o.op with | .eff => true | _ => false

def isRead (T : Tab) (o : Oper) : Bool := match clsOf T o.op with | .read => true | _ => false

def orderOk (T : Tab) (ops : List Oper) (bef : List Nat) : Nat → Nat → List Nat → Bool
  | _, _, [] => true
  | done, effs, i :: rest =>
    match ops[i]? with
    | none => false
    | some o => !Nat.testBit done i && Nat.beq (Nat.land (bef.getD i 0) done) (bef.getD i 0) && Nat.beq (Nat.land effs (bef.getD i 0)) effs &&
      orderOk T ops bef (Nat.lor done (2 ^ i)) (bif isEff T o then Nat.lor effs (2 ^ i) else effs) rest

def tmpsOfOp (o : Oper) : List Tmp := o.op.operands.toList.filterMap fun | .tmp t => some t | _ => none

def pairOk (T : Tab) (ops : List Oper) (bef : List Nat) (o : Oper) (i : Nat) (p : Oper) (k : Nat) : Bool :=
  Nat.beq i k ||
    match p.dst with
    | none => true
    | some t => (!(o.looksAt ops.toArray).contains t || Nat.testBit (bef.getD i 0) k || Nat.testBit (bef.getD k 0) i) && !(o.dst == some t) &&
        (!isRead T o || !(tmpsOfOp o).contains t || Nat.testBit (bef.getD i 0) k)

/-- A read does not look at what it writes itself. -/
def selfOk (T : Tab) (o : Oper) : Bool :=
  match o.dst with
  | none => true
  | some t => !isRead T o || !(tmpsOfOp o).contains t

def planOk (T : Tab) (ops : List Oper) (order bef : List Nat) : Bool :=
  (ops.zipIdx.all fun (o, i) => Nat.beq (bef.getD i 0) (befOf o.after.toList bef) && (o.after.toList.all fun e => !Region.binds .any e || Nat.blt e.on i) && order.contains i && selfOk T o) &&
    orderOk T ops bef 0 0 order && (ops.zipIdx.all fun (o, i) => ops.zipIdx.all fun (p, k) => pairOk T ops bef o i p k)

/-! ### Code -/

/-- The first region's number, in a loop's body. -/
def firstRegion : Code → Nat
  | .region id _ _ => id
  | .seq a _ => firstRegion a
  | .cond _ a _ => firstRegion a
  | .block _ b => firstRegion b
  | .loop b => firstRegion b
  | .scope b => firstRegion b
  | _ => 0

def keepOnly (fr : AFrame) : List Nat → AFrame
  | [] => .leaf
  | t :: ts => (keepOnly fr ts).set t (fr.get t)

def clean (A : AFn) (k : Nat) (s : ASt) : ASt :=
  match A.keep.get k with
  | some ts => { s with fr := keepOnly s.fr ts }
  | none => s

/-- At a place where ways meet: what is kept there (by the first region behind it). -/
def cleanJ (A : AFn) (k : Nat) (s : ASt) : ASt :=
  match A.join.get k with
  | some ts => { s with fr := keepOnly s.fr ts }
  | none => s

/-- What a range over a function keeps for its rounds. -/
def keepR (A : AFn) (k : Nat) (fr : AFrame) : AFrame :=
  match A.keep.get k with
  | some ts => keepOnly fr ts
  | none => fr

def iter (step : ASt → Option (AExit × ASt)) (pre : ASt → ASt) : Nat → ASt → Option (AExit × ASt)
  | 0, _ => none
  | n + 1, s => match step (pre s) with
    | some (.normal, s') => iter step pre n s'
    | r => r

/-- 'rd': is it a round's body? 'fid': the function's number. -/
def exec (E : Env) (T : Tab) (A : AFn) (fid nt n : Nat) (rd : Bool) : Code → ASt → Option (AExit × ASt)
  | .skip, s => some (.normal, s)
  | .label _, s => some (.normal, s)
  | .region id ops draw, s =>
    match draw with
    | false => match runSeq E T nt ops.toList ops.toList s.fr s.h with
      | some (fr, h) => some (.normal, { s with fr, h })
      | none => none
    | true => match A.plan.get id with
      | some (order, bef) =>
        bif planOk T ops.toList order bef then
          match runPlan E T nt ops.toList bef order s.fr s.h [] with
          | some (fr, h) => some (.normal, { s with fr, h })
          | none => none
        else none
      | none => none
  | .seq a b, s => match exec E T A fid nt n rd a s with
    | some (.normal, s') => exec E T A fid nt n rd b (cleanJ A (firstRegion b) s')
    | r => r
  | .cond c a b, s => match aev s.fr c with
    | some (.bool t) => match t with
      | true => exec E T A fid nt n rd a s
      | false => exec E T A fid nt n rd b s
    | _ => none
  | .block id b, s => match exec E T A fid nt n rd b s with
    | some (.exit id', s') => bif Nat.beq id' id then some (.normal, s') else some (.exit id', s')
    | r => r
  | .loop b, s => iter (exec E T A fid nt n rd b) (clean A (firstRegion b)) n s
  | .scope b, s => exec E T A fid nt n rd b s
  | .exit id, s => some (.exit id, s)
  | .ret, s => some (.ret, s)
  | .rangeFunc f ps assign body, s =>
    match rd with
    | true => none
    | false => match aev s.fr f with
      | some g =>
        let m := s.h.next
        let l := (s.h.add .marks).next
        match acallV g [.yield l] with
        | some (.call (.fn f) args) =>
          match E (.enter f) args ((s.h.add .marks).add (.loop { state := .ready, pending := .normal, fn := fid, fr := keepR A (firstRegion body) s.fr, nt, params := ps.toList, assign, body })) with
          | some (_, h3) => match h3.get l with
            | some (.loop L) => match L.state with
              | .busy => none
              | _ => some (L.pending, { fr := s.fr, ms := m :: s.ms, h := h3.put l (.loop { L with state := .exhausted }) })
            | _ => none
          | none => none
        | _ => none
      | none => none
  | _, _ => none

/-! ### Functions -/

def initFrame : List AV → Nat → AFrame
  | [], _ => .leaf
  | x :: xs, i => (initFrame xs (i + 1)).set i (some x)

def resultsOf (T : Tab) (fr : AFrame) (h : AHeap) : List ResultVar → Option (List AV)
  | [] => some []
  | .tmp t :: rs => match fr.get t, resultsOf T fr h rs with
    | some v, some vs => some (v :: vs)
    | _, _ => none
  | .cell a t :: rs => match fr.get a with
    | some (.ptr o i) => match aload T h t o i, resultsOf T fr h rs with
      | some v, some vs => some (v :: vs)
      | _, _ => none
    | _ => none

def tupled : List AV → AV
  | [v] => v
  | vs => .tuple vs

/-- The marks are taken over at a function's end. -/
def unmark (h : AHeap) : List Nat → Option AHeap
  | [] => some h
  | m :: ms => match h.get m with
    | some .marks => unmark (h.put m .dead) ms
    | _ => none

def finish (T : Tab) (fn : Func) (s : ASt) : Option (AV × AHeap) :=
  match unmark s.h s.ms with
  | some h => match resultsOf T s.fr h fn.results.toList with
    | some vs => some (tupled vs, h)
    | none => none
  | none => none

def callFn (E : Env) (T : Tab) (A : AFn) (fid n : Nat) (args : List AV) (h : AHeap) : Option (AV × AHeap) :=
  match A.fn.body with
  | some c =>
    bif Nat.ble args.length A.fn.ntmps then
      match exec E T A fid A.fn.ntmps n false c { fr := initFrame args 0, ms := [], h } with
      | some (.normal, s) => finish T A.fn s
      | some (.ret, s) => finish T A.fn s
      | _ => none
    else none
  | none => none

def setParams : AFrame → List Nat → List AV → AFrame
  | fr, p :: ps, x :: xs => setParams (fr.set p (some x)) ps xs
  | fr, _, _ => fr

def inBounds (nt : Nat) : List Nat → Bool
  | [] => true
  | p :: ps => Nat.blt p nt && inBounds nt ps

/-- One round of a range over a function: what yield does. -/
def callRound (E : Env) (T : Tab) (Fs : PT AFn) (n : Nat) (l : Nat) (args : List AV) (h : AHeap) : Option (AV × AHeap) :=
  match h.get l with
  | some (.loop L) =>
    match Fs.get L.fn with
    | some A =>
      bif Nat.beq args.length L.params.length && inBounds L.nt L.params then
        match exec E T A L.fn L.nt n true L.assign { fr := setParams L.fr L.params args, ms := [], h } with
        | some (.normal, s1) =>
          match s1.h.get l with
          | some (.loop L1) =>
            match L1.state with
            | .ready =>
              match exec E T A L.fn L.nt n true L.body { s1 with h := s1.h.put l (.loop { L1 with state := .busy }) } with
              | some (e, s2) =>
                match s2.h.get l with
                | some (.loop L2) =>
                  match e with
                  | .normal => some (.bool true, s2.h.put l (.loop { L2 with state := .ready, pending := .normal }))
                  | e => some (.bool false, s2.h.put l (.loop { L2 with state := .done, pending := e }))
                | _ => none
              | none => none
            | _ => none
          | _ => none
        | _ => none
      else none
    | none => none
  | _ => none

/-- Library functions that are told by what they do. -/
abbrev Prims := Nat → Option (Env → List AV → AHeap → Option (AV × AHeap))

def mkE (T : Tab) (Fs : PT AFn) (Pr : Prims) : Nat → Env
  | 0 => fun _ _ _ => none
  | n + 1 => fun c args h =>
    match c with
    | .fn f => match Pr f with
      | some p => p (mkE T Fs Pr n) args h
      | none => match Fs.get f with
        | some A => callFn (mkE T Fs Pr n) T A f n args h
        | none => none
    | .enter f => match Pr f with
      | some _ => none
      | none => match Fs.get f with
        | some A => callFn (mkE T Fs Pr n) T A f n args h
        | none => none
    | .yield l => callRound (mkE T Fs Pr n) T Fs n l args h

end Go.Am
