/-
  The abstract machine's runs with what comes behind handed in: so that a run over code that is known comes, by reckoning alone, to a plain text.
-/
import Derived.Test.YtcjjleelhaphkaaGreatDoorM1
set_option linter.unusedVariables false
set_option linter.unusedSimpArgs false
namespace Go.Am

section
variable {R : Type}

def valK (v : Option AV) (k : AV → Option R) : Option R := match v with | some v => k v | none => none
def hpK (r : Option AHeap) (k : AHeap → Option R) : Option R := match r with | some h => k h | none => none
def bothK (r : Option (AV × AHeap)) (k : AV → AHeap → Option R) : Option R := match r with | some (v, h) => k v h | none => none
def boolK (v : AV) (a b : Option R) : Option R := match v with | .bool true => a | .bool false => b | _ => none
def skipK (v : AV) (a b : Option R) : Option R := match v with | .tuple [] => a | _ => b
def jn {α : Type} (f : α) (g : α → Option R) : Option R := g f

theorem valK_some {v : Option AV} {k : AV → Option R} {r : R} (h : valK v k = some r) : ∃ x, v = some x ∧ k x = some r := by
  cases v with
  | none => cases h
  | some x => exact ⟨x, rfl, h⟩
theorem hpK_some {v : Option AHeap} {k : AHeap → Option R} {r : R} (h : hpK v k = some r) : ∃ x, v = some x ∧ k x = some r := by
  cases v with
  | none => cases h
  | some x => exact ⟨x, rfl, h⟩
theorem bothK_some {v : Option (AV × AHeap)} {k : AV → AHeap → Option R} {r : R} (h : bothK v k = some r) : ∃ x y, v = some (x, y) ∧ k x y = some r := by
  cases v with
  | none => cases h
  | some x => exact ⟨x.1, x.2, rfl, h⟩
theorem boolK_some {v : AV} {a b : Option R} {r : R} (h : boolK v a b = some r) : (v = .bool true ∧ a = some r) ∨ (v = .bool false ∧ b = some r) := by
  unfold boolK at h
  split at h
  · exact .inl ⟨rfl, h⟩
  · exact .inr ⟨rfl, h⟩
  · cases h

/-! ### Operations -/

def loadA (T : Tab) (h : AHeap) (t : Nat) (a : AV) : Option AV := match a with | .ptr o i => aload T h t o i | _ => none
def storeA (T : Tab) (h : AHeap) (t : Nat) (a v : AV) : Option AHeap := match a with | .ptr o i => astore T h t o i v | _ => none
def boxA (h : AHeap) (v : AV) : Option (AV × AHeap) := newCells h v.cells fun o => .ptr o 0
def nilA (x : AV) : Option AV := match x with
  | .ptr o i => some (.ptr o i)
  | .func f a c => some (.func f a c)
  | .yield o => some (.yield o)
  | _ => none
def extractA (x : AV) (i : Nat) : Option AV := match x with | .tuple vs => vs[i]? | _ => none
def callA (f : AV) (args : List AV) (kc : ACallee → List AV → Option R) : Option R := match f with
  | .func g first captured => kc (.fn g) (first ++ (args ++ captured))
  | .yield o => kc (.yield o) args
  | _ => none
def isIntK (x : AV) (a : Option R) : Option R := match x with | .int _ _ => a | _ => none

def newMapA (h : AHeap) : Option (AV × AHeap) := some (.map h.next, h.add (.map [] 0))

def argsK (ρ : Operand → Option AV) : List Operand → (List AV → Option R) → Option R
  | [], k => k []
  | x :: xs, k => valK (ρ x) fun v => argsK ρ xs fun vs => k (v :: vs)

theorem argsK_some {ρ : Operand → Option AV} : ∀ {l : List Operand} {k : List AV → Option R} {r : R}, argsK ρ l k = some r → ∃ vs, aevL ρ l = some vs ∧ k vs = some r
  | [], k, r, h => ⟨[], rfl, h⟩
  | x :: xs, k, r, h => by
    obtain ⟨v, h1, h2⟩ := valK_some h
    obtain ⟨vs, h3, h4⟩ := argsK_some h2
    exact ⟨v :: vs, by simp only [aevL, h1, h3], h4⟩

def partsK (ρ : Operand → Option AV) : List (Nat × Operand) → (List (Nat × AV) → Option R) → Option R
  | [], k => k []
  | (i, x) :: xs, k => valK (ρ x) fun v => partsK ρ xs fun vs => k ((i, v) :: vs)

theorem partsK_some {ρ : Operand → Option AV} : ∀ {l : List (Nat × Operand)} {k : List (Nat × AV) → Option R} {r : R}, partsK ρ l k = some r → ∃ vs, parts ρ l = some vs ∧ k vs = some r
  | [], k, r, h => ⟨[], rfl, h⟩
  | (i, x) :: xs, k, r, h => by
    obtain ⟨v, h1, h2⟩ := valK_some h
    obtain ⟨vs, h3, h4⟩ := partsK_some h2
    exact ⟨(i, v) :: vs, by simp only [parts, h1, h3], h4⟩

def aopK (T : Tab) (ρ : Operand → Option AV) (h : AHeap) (kv : Option AV → AHeap → Option R) (kc : ACallee → List AV → Option R) : Op → Option R
  | .move x => valK (ρ x) fun v => kv (some v) h
  | .assign x => valK (ρ x) fun v => kv (some v) h
  | .pick c a b => valK (ρ c) fun c => boolK c (valK (ρ a) fun v => kv (some v) h) (valK (ρ b) fun v => kv (some v) h)
  | .alloc e => match T.get e with
    | some te => bothK (newCells h te.zero.cells fun o => .ptr o 0) fun v h => kv (some v) h
    | none => none
  | .box _ x => valK (ρ x) fun v => bothK (boxA h v) fun v h => kv (some v) h
  | .build t ps => partsK ρ ps.toList fun ps => valK (abuild T t ps) fun v => kv (some v) h
  | .buildSlice t len ps => partsK ρ ps.toList fun ps => bothK (abuildSlice T h t len ps) fun v h => kv (some v) h
  | .load t a => valK (ρ a) fun a => valK (loadA T h t a) fun v => kv (some v) h
  | .store t a x => valK (ρ a) fun a => valK (ρ x) fun v => hpK (storeA T h t a v) fun h => kv none h
  | .nilCheck x => valK (ρ x) fun x => valK (nilA x) fun v => kv (some v) h
  | .binOp op t x y _ => valK (ρ x) fun x => valK (ρ y) fun y => valK (abin T op t x y) fun v => kv (some v) h
  | .unOp op _ x => valK (ρ x) fun x => valK (aun op x) fun v => kv (some v) h
  | .convert s d x => valK (ρ x) fun x => bothK (aconvert T h s d x) fun v h => kv (some v) h
  | .makeFunc fn first captured => match fn with
    | .func f => argsK ρ first.toList fun a => argsK ρ captured.toList fun c => kv (some (.func f a c)) h
    | _ => none
  | .makeMap t r => match T.get t with
    | some ⟨.map _ _, _, _, _, _⟩ => match r with
      | none => bothK (newMapA h) fun v h => kv (some v) h
      | some r => valK (ρ r) fun r => isIntK r (bothK (newMapA h) fun v h => kv (some v) h)
    | _ => none
  | .makeSlice t l c => valK (ρ l) fun a => valK (ρ c) fun b => bothK (amakeSlice T h t a b) fun v h => kv (some v) h
  | .slice t x lo hi mx => match mx with
    | some _ => none
    | none => valK (ρ x) fun a => match lo, hi with
      | none, none => valK (aslice T t a none none) fun v => kv (some v) h
      | some l, none => valK (ρ l) fun l => valK (aslice T t a (some l) none) fun v => kv (some v) h
      | none, some b => valK (ρ b) fun b => valK (aslice T t a none (some b)) fun v => kv (some v) h
      | some l, some b => valK (ρ l) fun l => valK (ρ b) fun b => valK (aslice T t a (some l) (some b)) fun v => kv (some v) h
  | .fieldAddr s x f => valK (ρ x) fun a => valK (afieldAddr T s a f) fun v => kv (some v) h
  | .field s x f => valK (ρ x) fun a => valK (afield T s a f) fun v => kv (some v) h
  | .indexAddr t x i => valK (ρ x) fun a => valK (ρ i) fun b => valK (aindexAddr T t a b) fun v => kv (some v) h
  | .index t x i => valK (ρ x) fun a => valK (ρ i) fun b => valK (aindex T t a b) fun v => kv (some v) h
  | .lookup t x i ok => valK (ρ x) fun a => valK (ρ i) fun b => valK (alookup T h t a b ok) fun v => kv (some v) h
  | .mapUpdate t m k v => valK (ρ m) fun a => valK (ρ k) fun b => valK (ρ v) fun c => hpK (amapUpdate T h t a b c) fun h => kv none h
  | .insert t m k v => valK (ρ m) fun a => valK (ρ k) fun b => valK (ρ v) fun c => hpK (amapUpdate T h t a b c) fun h => kv none h
  | .mapEntry t m k => valK (ρ m) fun a => valK (ρ k) fun b => bothK (amapEntry T h t a b) fun v h => kv (some v) h
  | .entryStore _ m s v => valK (ρ m) fun a => valK (ρ s) fun b => valK (ρ v) fun c => hpK (aentryStore h a b c) fun h => kv none h
  | .extract x i => valK (ρ x) fun x => valK (extractA x i) fun v => kv (some v) h
  | .call c => argsK ρ c.args.toList fun args => match c.callee with
      | .value f => valK (ρ f) fun g => callA g args kc
      | .builtin b => match b, args, c.argTypes.toList with
        | .append, [s, x], [ts, tx] => bothK (aappend T h ts tx s x) fun v h => kv (some v) h
        | .len, [x], [t] => valK (alen T h t x) fun v => kv (some v) h
        | .delete, [m, k], t :: _ => hpK (adelete T h t m k) fun h => kv (some (.tuple [])) h
        | .min, [x, y], _ => valK (amin x y) fun v => kv (some v) h
        | .max, [x, y], _ => valK (amax x y) fun v => kv (some v) h
        | _, _, _ => none
      | .invoke _ _ => none
  | _ => none

theorem aopK_le {T : Tab} {ρ : Operand → Option AV} {h : AHeap} {kv : Option AV → AHeap → Option R} {kc : ACallee → List AV → Option R} {r : R} : ∀ {op : Op}, aopK T ρ h kv kc op = some r →
    (∃ v h', aop T ρ h op = some (.val v h') ∧ kv v h' = some r) ∨ (∃ c args, aop T ρ h op = some (.call c args) ∧ kc c args = some r) := by
  intro op he
  cases op with
  | move x =>
    obtain ⟨v, h1, h2⟩ := valK_some he
    exact .inl ⟨_, _, by simp only [aop, h1], h2⟩
  | assign x =>
    obtain ⟨v, h1, h2⟩ := valK_some he
    exact .inl ⟨_, _, by simp only [aop, h1], h2⟩
  | pick c a b =>
    obtain ⟨v, h1, h2⟩ := valK_some he
    rcases boolK_some h2 with ⟨rfl, h3⟩ | ⟨rfl, h3⟩
    · obtain ⟨w, h4, h5⟩ := valK_some h3
      exact .inl ⟨_, _, by simp only [aop, h1, h4, cond_true], h5⟩
    · obtain ⟨w, h4, h5⟩ := valK_some h3
      exact .inl ⟨_, _, by simp only [aop, h1, h4, cond_false], h5⟩
  | alloc e =>
    simp only [aopK] at he
    split at he
    · rename_i te ht
      obtain ⟨v, h', h1, h2⟩ := bothK_some he
      exact .inl ⟨_, _, by simp only [aop, ht, h1, ret2], h2⟩
    · cases he
  | box t x =>
    obtain ⟨v, h1, h2⟩ := valK_some he
    obtain ⟨w, h', h3, h4⟩ := bothK_some h2
    unfold boxA at h3
    exact .inl ⟨_, _, by simp only [aop, h1, h3, ret2], h4⟩
  | build t ps =>
    obtain ⟨v, h1, h2⟩ := partsK_some he
    obtain ⟨w, h3, h4⟩ := valK_some h2
    exact .inl ⟨_, _, by simp only [aop, h1, h3, ret1], h4⟩
  | buildSlice t len ps =>
    obtain ⟨v, h1, h2⟩ := partsK_some he
    obtain ⟨w, h', h3, h4⟩ := bothK_some h2
    exact .inl ⟨_, _, by simp only [aop, h1, h3, ret2], h4⟩
  | load t a =>
    obtain ⟨v, h1, h2⟩ := valK_some he
    obtain ⟨w, h3, h4⟩ := valK_some h2
    unfold loadA at h3
    split at h3
    · exact .inl ⟨_, _, by simp only [aop, h1, h3, ret1], h4⟩
    · cases h3
  | store t a x =>
    obtain ⟨v, h1, h2⟩ := valK_some he
    obtain ⟨w, h3, h4⟩ := valK_some h2
    obtain ⟨h', h5, h6⟩ := hpK_some h4
    unfold storeA at h5
    split at h5
    · exact .inl ⟨_, _, by simp only [aop, h1, h3, h5], h6⟩
    · cases h5
  | nilCheck x =>
    obtain ⟨v, h1, h2⟩ := valK_some he
    obtain ⟨w, h3, h4⟩ := valK_some h2
    unfold nilA at h3
    split at h3 <;> first | (cases h3; exact .inl ⟨_, _, by simp only [aop, h1], h4⟩) | cases h3
  | binOp op t x y t' =>
    obtain ⟨v, h1, h2⟩ := valK_some he
    obtain ⟨w, h3, h4⟩ := valK_some h2
    obtain ⟨u, h5, h6⟩ := valK_some h4
    exact .inl ⟨_, _, by simp only [aop, h1, h3, h5, ret1], h6⟩
  | unOp op t x =>
    obtain ⟨v, h1, h2⟩ := valK_some he
    obtain ⟨w, h3, h4⟩ := valK_some h2
    exact .inl ⟨_, _, by simp only [aop, h1, h3, ret1], h4⟩
  | convert s d x =>
    obtain ⟨v, h1, h2⟩ := valK_some he
    obtain ⟨w, h', h3, h4⟩ := bothK_some h2
    exact .inl ⟨_, _, by simp only [aop, h1, h3, ret2], h4⟩
  | makeFunc fn first captured =>
    simp only [aopK] at he
    split at he
    · obtain ⟨v, h1, h2⟩ := argsK_some he
      obtain ⟨w, h3, h4⟩ := argsK_some h2
      exact .inl ⟨_, _, by simp only [aop, h1, h3], h4⟩
    · cases he
  | makeMap t r =>
    simp only [aopK] at he
    split at he
    · rename_i ht
      split at he
      · exact .inl ⟨_, _, by simp only [aop, ht], he⟩
      · obtain ⟨v, h1, h2⟩ := valK_some he
        unfold isIntK at h2
        split at h2
        · exact .inl ⟨_, _, by simp only [aop, ht, h1], h2⟩
        · cases h2
    · cases he
  | makeSlice t l c =>
    obtain ⟨v, h1, h2⟩ := valK_some he
    obtain ⟨w, h3, h4⟩ := valK_some h2
    obtain ⟨u, h', h5, h6⟩ := bothK_some h4
    exact .inl ⟨_, _, by simp only [aop, h1, h3, h5, ret2], h6⟩
  | slice t x lo hi mx =>
    simp only [aopK] at he
    split at he
    · cases he
    · obtain ⟨v, h1, h2⟩ := valK_some he
      split at h2
      · obtain ⟨w, h3, h4⟩ := valK_some h2
        exact .inl ⟨_, _, by simp only [aop, h1, Option.map_none, h3, ret1], h4⟩
      · obtain ⟨w, h3, h4⟩ := valK_some h2
        obtain ⟨u, h5, h6⟩ := valK_some h4
        exact .inl ⟨_, _, by simp only [aop, h1, Option.map_none, Option.map_some, h3, h5, ret1], h6⟩
      · obtain ⟨w, h3, h4⟩ := valK_some h2
        obtain ⟨u, h5, h6⟩ := valK_some h4
        exact .inl ⟨_, _, by simp only [aop, h1, Option.map_none, Option.map_some, h3, h5, ret1], h6⟩
      · obtain ⟨w, h3, h4⟩ := valK_some h2
        obtain ⟨u, h5, h6⟩ := valK_some h4
        obtain ⟨z, h7, h8⟩ := valK_some h6
        exact .inl ⟨_, _, by simp only [aop, h1, Option.map_none, Option.map_some, h3, h5, h7, ret1], h8⟩
  | fieldAddr s x f =>
    obtain ⟨v, h1, h2⟩ := valK_some he
    obtain ⟨w, h3, h4⟩ := valK_some h2
    exact .inl ⟨_, _, by simp only [aop, h1, h3, ret1], h4⟩
  | field s x f =>
    obtain ⟨v, h1, h2⟩ := valK_some he
    obtain ⟨w, h3, h4⟩ := valK_some h2
    exact .inl ⟨_, _, by simp only [aop, h1, h3, ret1], h4⟩
  | indexAddr t x i =>
    obtain ⟨v, h1, h2⟩ := valK_some he
    obtain ⟨w, h3, h4⟩ := valK_some h2
    obtain ⟨u, h5, h6⟩ := valK_some h4
    exact .inl ⟨_, _, by simp only [aop, h1, h3, h5, ret1], h6⟩
  | index t x i =>
    obtain ⟨v, h1, h2⟩ := valK_some he
    obtain ⟨w, h3, h4⟩ := valK_some h2
    obtain ⟨u, h5, h6⟩ := valK_some h4
    exact .inl ⟨_, _, by simp only [aop, h1, h3, h5, ret1], h6⟩
  | lookup t x i ok =>
    obtain ⟨v, h1, h2⟩ := valK_some he
    obtain ⟨w, h3, h4⟩ := valK_some h2
    obtain ⟨u, h5, h6⟩ := valK_some h4
    exact .inl ⟨_, _, by simp only [aop, h1, h3, h5, ret1], h6⟩
  | mapUpdate t m k v =>
    obtain ⟨v, h1, h2⟩ := valK_some he
    obtain ⟨w, h3, h4⟩ := valK_some h2
    obtain ⟨u, h5, h6⟩ := valK_some h4
    obtain ⟨h', h7, h8⟩ := hpK_some h6
    exact .inl ⟨_, _, by simp only [aop, h1, h3, h5, h7], h8⟩
  | insert t m k v =>
    obtain ⟨v, h1, h2⟩ := valK_some he
    obtain ⟨w, h3, h4⟩ := valK_some h2
    obtain ⟨u, h5, h6⟩ := valK_some h4
    obtain ⟨h', h7, h8⟩ := hpK_some h6
    exact .inl ⟨_, _, by simp only [aop, h1, h3, h5, h7], h8⟩
  | mapEntry t m k =>
    obtain ⟨v, h1, h2⟩ := valK_some he
    obtain ⟨w, h3, h4⟩ := valK_some h2
    obtain ⟨u, h', h5, h6⟩ := bothK_some h4
    exact .inl ⟨_, _, by simp only [aop, h1, h3, h5, ret2], h6⟩
  | entryStore t m s v =>
    obtain ⟨v, h1, h2⟩ := valK_some he
    obtain ⟨w, h3, h4⟩ := valK_some h2
    obtain ⟨u, h5, h6⟩ := valK_some h4
    obtain ⟨h', h7, h8⟩ := hpK_some h6
    exact .inl ⟨_, _, by simp only [aop, h1, h3, h5, h7], h8⟩
  | extract x i =>
    obtain ⟨v, h1, h2⟩ := valK_some he
    obtain ⟨w, h3, h4⟩ := valK_some h2
    unfold extractA at h3
    split at h3
    · exact .inl ⟨_, _, by simp only [aop, h1, h3, ret1], h4⟩
    · cases h3
  | call c =>
    obtain ⟨args, h1, h2⟩ := argsK_some he
    simp only [aop, h1]
    split at h2
    · rename_i f hc
      obtain ⟨g, h3, h4⟩ := valK_some h2
      simp only [hc, h3]
      unfold callA at h4
      split at h4
      · exact .inr ⟨_, _, rfl, h4⟩
      · exact .inr ⟨_, _, rfl, h4⟩
      · cases h4
    · rename_i b hc
      simp only [hc]
      split at h2
      · rename_i h5
        obtain ⟨u, h', h7, h8⟩ := bothK_some h2
        exact .inl ⟨_, _, by simp only [h5, h7, ret2], h8⟩
      · rename_i h5
        obtain ⟨u, h7, h8⟩ := valK_some h2
        exact .inl ⟨_, _, by simp only [h5, h7, ret1], h8⟩
      · rename_i h5
        obtain ⟨h', h7, h8⟩ := hpK_some h2
        exact .inl ⟨_, _, by simp only [h5, h7], h8⟩
      · rename_i h5
        obtain ⟨u, h7, h8⟩ := valK_some h2
        exact .inl ⟨_, _, by simp only [h7, ret1], h8⟩
      · rename_i h5
        obtain ⟨u, h7, h8⟩ := valK_some h2
        exact .inl ⟨_, _, by simp only [h7, ret1], h8⟩
      · cases h2
    · cases h2
  | _ => cases he

def putK (nt : Nat) (fr : AFrame) (dst : Option Tmp) (v : Option AV) (k : AFrame → Option R) : Option R :=
  match dst with
  | none => k fr
  | some t => bif Nat.blt t nt then k (fr.set t v) else none

theorem putK_some {nt : Nat} {fr : AFrame} {dst : Option Tmp} {v : Option AV} {k : AFrame → Option R} {r : R} (h : putK nt fr dst v k = some r) : ∃ fr', putT nt fr dst v = some fr' ∧ k fr' = some r := by
  unfold putK at h
  unfold putT
  cases dst with
  | none => exact ⟨fr, rfl, h⟩
  | some t =>
    simp only at h ⊢
    cases hb : Nat.blt t nt with
    | false => rw [hb] at h; cases h
    | true => rw [hb] at h; exact ⟨_, rfl, h⟩

def opGoK (E : Env) (T : Tab) (nt : Nat) (o : Oper) (fr : AFrame) (h : AHeap) (k : AFrame → AHeap → Option R) : Option R :=
  aopK T (aev fr) h (fun v h' => putK nt fr o.dst v fun fr' => k fr' h') (fun c args => bothK (E c args h) fun r h' => putK nt fr o.dst (some r) fun fr' => k fr' h') o.op

theorem opGoK_some {E : Env} {T : Tab} {nt : Nat} {o : Oper} {fr : AFrame} {h : AHeap} {k : AFrame → AHeap → Option R} {r : R} (he : opGoK E T nt o fr h k = some r) : ∃ fr' h', opGo E T nt o fr h = some (fr', h') ∧ k fr' h' = some r := by
  rcases aopK_le he with ⟨v, h1, e1, e2⟩ | ⟨c, args, e1, e2⟩
  · obtain ⟨fr', e3, e4⟩ := putK_some e2
    exact ⟨fr', h1, by simp only [opGo, e1, e3], e4⟩
  · obtain ⟨v, h1, e3, e4⟩ := bothK_some e2
    obtain ⟨fr', e5, e6⟩ := putK_some e4
    exact ⟨fr', h1, by simp only [opGo, e1, e3, e5], e6⟩

/-- An operation's guard: the truth that it looks at is put in its plain form. -/
def guardK (ops : List Oper) (fr : AFrame) (o : Oper) (k : Bool → AFrame → Option R) : Option R :=
  match o.guard with
  | none => k true fr
  | some (j, want) =>
    match ops[j]? with
    | some oj =>
      match oj.dst with
      | some t => valK (fr.get t) fun v => match oj.guard with
        | none => boolK v (k (true == want) (fr.set t (some (.bool true)))) (k (false == want) (fr.set t (some (.bool false))))
        | some _ => skipK v (k false (fr.set t (some (.tuple [])))) (boolK v (k (true == want) (fr.set t (some (.bool true)))) (k (false == want) (fr.set t (some (.bool false)))))
      | none => none
    | none => none

theorem PT.set_same {α : Type} : ∀ (f : Nat) (t : PT α) (k : Nat) (x : α), k < f → t.get k = some x → PT.setF f t k (some x) = t := by
  intro f
  induction f with
  | zero => intro t k x h; omega
  | succ f ih =>
    intro t k x h hg
    cases t with
    | leaf => rw [PT.get_leaf] at hg; cases hg
    | node l v r =>
      cases k with
      | zero => simp only [PT.get_z] at hg; simp only [PT.setF_nz, hg]
      | succ k =>
        have hlt : k / 2 < f := by omega
        simp only [PT.get_s] at hg
        simp only [PT.setF_ns]
        cases hb : Nat.beq (k % 2) 0 with
        | true => rw [hb] at hg; simp only [cond_true] at hg ⊢; rw [ih _ _ _ hlt hg]
        | false => rw [hb] at hg; simp only [cond_false] at hg ⊢; rw [ih _ _ _ hlt hg]

theorem guardK_some {ops : List Oper} {fr : AFrame} {o : Oper} {k : Bool → AFrame → Option R} {r : R} (he : guardK ops fr o k = some r) : ∃ b, guardOf ops fr o = some b ∧ k b fr = some r := by
  unfold guardK at he
  unfold guardOf guardBy
  split at he
  · rename_i hg
    exact ⟨true, by simp only [hg], he⟩
  · rename_i j want hg
    simp only [hg]
    split at he
    · rename_i oj hj
      simp only [hj]
      split at he
      · rename_i t ht
        obtain ⟨v, h1, h2⟩ := valK_some he
        have main : boolK v (k (true == want) (fr.set t (some (.bool true)))) (k (false == want) (fr.set t (some (.bool false)))) = some r → ∃ b, (match oj.dst with
            | some t => match fr.get t with
              | some (.bool b) => some (b == want)
              | some (.tuple []) => some false
              | _ => none
            | none => none) = some b ∧ k b fr = some r := by
          intro h2
          rcases boolK_some h2 with ⟨rfl, h3⟩ | ⟨rfl, h3⟩
          · have : fr.set t (some (.bool true)) = fr := PT.set_same _ _ _ _ (Nat.lt_succ_self _) h1
            rw [this] at h3
            exact ⟨_, by simp only [ht, h1], h3⟩
          · have : fr.set t (some (.bool false)) = fr := PT.set_same _ _ _ _ (Nat.lt_succ_self _) h1
            rw [this] at h3
            exact ⟨_, by simp only [ht, h1], h3⟩
        split at h2
        · exact main h2
        · unfold skipK at h2
          split at h2
          · have : fr.set t (some (.tuple [])) = fr := PT.set_same _ _ _ _ (Nat.lt_succ_self _) h1
            rw [this] at h2
            exact ⟨false, by simp only [ht, h1], h2⟩
          · exact main h2
      · cases he
    · cases he

def seqK (E : Env) (T : Tab) (nt : Nat) (ops : List Oper) : List Oper → AFrame → AHeap → (AFrame → AHeap → Option R) → Option R
  | [], fr, h, k => k fr h
  | o :: rest, fr, h, k => guardK ops fr o fun b fr => bif b then opGoK E T nt o fr h fun fr h => seqK E T nt ops rest fr h k else putK nt fr o.dst (some (.tuple [])) fun fr => seqK E T nt ops rest fr h k

theorem seqK_some {E : Env} {T : Tab} {nt : Nat} {ops : List Oper} : ∀ {l : List Oper} {fr : AFrame} {h : AHeap} {k : AFrame → AHeap → Option R} {r : R}, seqK E T nt ops l fr h k = some r → ∃ fr' h', runSeq E T nt ops l fr h = some (fr', h') ∧ k fr' h' = some r
  | [], fr, h, k, r, he => ⟨fr, h, rfl, he⟩
  | o :: rest, fr, h, k, r, he => by
    simp only [seqK] at he
    obtain ⟨b, h1, h2⟩ := guardK_some he
    cases b with
    | true =>
      simp only [cond_true] at h2
      obtain ⟨fr1, h3, e3, e4⟩ := opGoK_some h2
      obtain ⟨fr2, h5, e5, e6⟩ := seqK_some e4
      exact ⟨fr2, h5, by simp only [runSeq, opStep, h1, e3, e5], e6⟩
    | false =>
      simp only [cond_false] at h2
      obtain ⟨fr1, e3, e4⟩ := putK_some h2
      obtain ⟨fr2, h5, e5, e6⟩ := seqK_some e4
      exact ⟨fr2, h5, by simp only [runSeq, opStep, h1, e3, e5], e6⟩

/-- What was read is asked again, and is the same. -/
def sameK (x y : AV) (k : Option R) : Option R := bif AV.beq x y then k else none

def againK (T : Tab) (ops : List Oper) (fr : AFrame) (h : AHeap) (mask : Nat) : List (Nat × Option AV) → Option R → Option R
  | [], k => k
  | (i, v) :: rds, k =>
    bif Nat.testBit mask i then againK T ops fr h mask rds k else
      match ops[i]?, v with
      | some o, some y => aopK T (aev fr) h (fun x _ => match x with | some x => sameK x y (againK T ops fr h mask rds k) | none => none) (fun _ _ => none) o.op
      | _, _ => none

theorem againK_some {T : Tab} {ops : List Oper} {fr : AFrame} {h : AHeap} {mask : Nat} : ∀ {l : List (Nat × Option AV)} {k : Option R} {r : R}, againK T ops fr h mask l k = some r → again T ops fr h mask l = true ∧ k = some r
  | [], k, r, he => ⟨rfl, he⟩
  | (i, v) :: rds, k, r, he => by
    simp only [againK] at he
    simp only [again]
    cases hb : Nat.testBit mask i with
    | true =>
      rw [hb] at he
      obtain ⟨h1, h2⟩ := againK_some (he : againK T ops fr h mask rds k = some r)
      exact ⟨by rw [h1]; rfl, h2⟩
    | false =>
      rw [hb] at he
      simp only [cond_false] at he
      split at he
      · rename_i o y ho
        rcases aopK_le he with ⟨x, h1, e1, e2⟩ | ⟨c, args, e1, e2⟩
        · cases x with
          | none => cases e2
          | some x =>
            simp only [sameK] at e2
            cases hxy : AV.beq x y with
            | false => rw [hxy] at e2; cases e2
            | true =>
              rw [hxy] at e2
              obtain ⟨h3, h4⟩ := againK_some (e2 : againK T ops fr h mask rds k = some r)
              exact ⟨by simp only [ho, e1, hxy, h3, cond_false, Bool.and_self], h4⟩
        · cases e2
      · cases he

def planK (E : Env) (T : Tab) (nt : Nat) (ops : List Oper) (bef : List Nat) : List Nat → AFrame → AHeap → List (Nat × Option AV) → (AFrame → AHeap → Option R) → Option R
  | [], fr, h, _, k => k fr h
  | i :: rest, fr, h, rds, k =>
    match ops[i]? with
    | none => none
    | some o => guardK ops fr o fun b fr =>
      bif b then
        match clsOf T o.op with
        | .pure => aopK T (aev fr) h (fun v h' => putK nt fr o.dst v fun fr' => planK E T nt ops bef rest fr' h' rds k) (fun _ _ => none) o.op
        | .alloc => aopK T (aev fr) h (fun v h' => putK nt fr o.dst v fun fr' => planK E T nt ops bef rest fr' h' rds k) (fun _ _ => none) o.op
        | .read => aopK T (aev fr) h (fun v h' => putK nt fr o.dst v fun fr' => planK E T nt ops bef rest fr' h' ((i, v) :: rds) k) (fun _ _ => none) o.op
        | .eff => opGoK E T nt o fr h fun fr' h' => againK T ops fr' h' (bef.getD i 0) rds (planK E T nt ops bef rest fr' h' rds k)
      else putK nt fr o.dst (some (.tuple [])) fun fr' => planK E T nt ops bef rest fr' h rds k

theorem planK_some {E : Env} {T : Tab} {nt : Nat} {ops : List Oper} {bef : List Nat} : ∀ {l : List Nat} {fr : AFrame} {h : AHeap} {rds : List (Nat × Option AV)} {k : AFrame → AHeap → Option R} {r : R}, planK E T nt ops bef l fr h rds k = some r → ∃ fr' h', runPlan E T nt ops bef l fr h rds = some (fr', h') ∧ k fr' h' = some r
  | [], fr, h, rds, k, r, he => ⟨fr, h, rfl, he⟩
  | i :: rest, fr, h, rds, k, r, he => by
    simp only [planK] at he
    simp only [runPlan]
    split at he
    · cases he
    · rename_i o ho
      simp only [ho]
      obtain ⟨b, h1, h2⟩ := guardK_some he
      cases b with
      | true =>
        simp only [cond_true] at h2
        simp only [h1]
        split at h2
        · rename_i hc
          simp only [hc]
          rcases aopK_le h2 with ⟨v, h', e1, e2⟩ | ⟨c, args, e1, e2⟩
          · obtain ⟨fr1, e3, e4⟩ := putK_some e2
            simp only [e1, e3]
            exact planK_some e4
          · cases e2
        · rename_i hc
          simp only [hc]
          rcases aopK_le h2 with ⟨v, h', e1, e2⟩ | ⟨c, args, e1, e2⟩
          · obtain ⟨fr1, e3, e4⟩ := putK_some e2
            simp only [e1, e3]
            exact planK_some e4
          · cases e2
        · rename_i hc
          simp only [hc]
          rcases aopK_le h2 with ⟨v, h', e1, e2⟩ | ⟨c, args, e1, e2⟩
          · obtain ⟨fr1, e3, e4⟩ := putK_some e2
            simp only [e1, e3]
            exact planK_some e4
          · cases e2
        · rename_i hc
          simp only [hc]
          obtain ⟨fr1, h3, e3, e4⟩ := opGoK_some h2
          obtain ⟨e5, e6⟩ := againK_some e4
          simp only [e3, e5, cond_true]
          exact planK_some e6
      | false =>
        simp only [cond_false] at h2
        obtain ⟨fr1, e3, e4⟩ := putK_some h2
        simp only [h1, e3]
        exact planK_some e4

/-! ### What is kept, as a row of values -/

def Tup : List Nat → Type
  | [] => Unit
  | _ :: ts => AV × Tup ts

def emb : (ts : List Nat) → Tup ts → AFrame
  | [], _ => .leaf
  | t :: ts, v => (emb ts v.2).set t (some v.1)

def projK : (ts : List Nat) → AFrame → (Tup ts → Option R) → Option R
  | [], _, k => k ()
  | t :: ts, fr, k => valK (fr.get t) fun x => projK ts fr fun v => k (x, v)

theorem projK_some : ∀ {ts : List Nat} {fr : AFrame} {k : Tup ts → Option R} {r : R}, projK ts fr k = some r → ∃ v, emb ts v = keepOnly fr ts ∧ k v = some r
  | [], fr, k, r, he => ⟨(), rfl, he⟩
  | t :: ts, fr, k, r, he => by
    obtain ⟨x, h1, h2⟩ := valK_some he
    obtain ⟨v, h3, h4⟩ := projK_some h2
    exact ⟨(x, v), by simp only [emb, keepOnly, h3, h1], h4⟩

/-- Rounds: each is handed what to do with the next one. -/
def loopN {σ : Type} (step : σ → List Nat → AHeap → (σ → List Nat → AHeap → Option R) → Option R) : Nat → σ → List Nat → AHeap → Option R
  | 0, _, _, _ => none
  | n + 1, s, ms, h => step s ms h (loopN step n)

abbrev KExit (R : Type) := AExit → AFrame → List Nat → AHeap → Option R

def loopAtK (h : AHeap) (l : Nat) (k : ALoop → Option R) : Option R := match h.get l with | some (.loop L) => k L | _ => none
def endedK (L : ALoop) (k : Option R) : Option R := match L.state with | .busy => none | _ => k
def readyK (L : ALoop) (k : Option R) : Option R := match L.state with | .ready => k | _ => none
def exitK (e : AExit) (a : Option R) (b : Nat → Option R) (c : Option R) : Option R := match e with | .normal => a | .exit id => b id | .ret => c

theorem loopAtK_some {h : AHeap} {l : Nat} {k : ALoop → Option R} {r : R} (he : loopAtK h l k = some r) : ∃ L, h.get l = some (.loop L) ∧ k L = some r := by
  unfold loopAtK at he
  split at he
  · rename_i L hL; exact ⟨L, hL, he⟩
  · cases he
theorem endedK_some {L : ALoop} {k : Option R} {r : R} (he : endedK L k = some r) : L.state ≠ .busy ∧ k = some r := by
  unfold endedK at he
  split at he
  · cases he
  · rename_i hb; exact ⟨hb, he⟩
theorem readyK_some {L : ALoop} {k : Option R} {r : R} (he : readyK L k = some r) : L.state = .ready ∧ k = some r := by
  unfold readyK at he
  split at he
  · rename_i hb; exact ⟨hb, he⟩
  · cases he

def rangeK (E : Env) (fid nt : Nat) (g : AV) (ps : List Nat) (assign body : Code) (fr : AFrame) (ms : List Nat) (h : AHeap) (k : AExit → List Nat → AHeap → Option R) : Option R :=
  callA g [.yield (h.next + 1)] fun c args => match c with
    | .fn f => bothK (E (.enter f) args ((h.add .marks).add (.loop { state := .ready, pending := .normal, fn := fid, fr, nt, params := ps, assign, body }))) fun _ h3 =>
      loopAtK h3 (h.next + 1) fun L => endedK L (k L.pending (h.next :: ms) (h3.put (h.next + 1) (.loop { L with state := .exhausted })))
    | _ => none

def cexec (E : Env) (T : Tab) (A : AFn) (fid nt n : Nat) (rd : Bool) : Code → AFrame → List Nat → AHeap → KExit R → Option R
  | .skip, fr, ms, h, k => k .normal fr ms h
  | .label _, fr, ms, h, k => k .normal fr ms h
  | .region id ops draw, fr, ms, h, k =>
    match draw with
    | false => seqK E T nt ops.toList ops.toList fr h fun fr h => k .normal fr ms h
    | true => match A.plan.get id with
      | some (order, bef) =>
        bif planOk T ops.toList order bef then planK E T nt ops.toList bef order fr h [] fun fr h => k .normal fr ms h
        else none
      | none => none
  | .seq a b, fr, ms, h, k => match A.join.get (firstRegion b) with
    | none => cexec E T A fid nt n rd a fr ms h fun e fr ms h => match e with
      | .normal => cexec E T A fid nt n rd b fr ms h k
      | e => k e fr ms h
    | some ts => jn (fun (v : Tup ts) ms h => cexec E T A fid nt n rd b (emb ts v) ms h k) fun j =>
      cexec E T A fid nt n rd a fr ms h fun e fr ms h => match e with
      | .normal => projK ts fr fun v => j v ms h
      | e => k e fr ms h
  | .cond c a b, fr, ms, h, k => valK (aev fr c) fun v => boolK v (cexec E T A fid nt n rd a fr ms h k) (cexec E T A fid nt n rd b fr ms h k)
  | .block id b, fr, ms, h, k => cexec E T A fid nt n rd b fr ms h fun e fr ms h => match e with
    | .exit id' => bif Nat.beq id' id then k .normal fr ms h else k (.exit id') fr ms h
    | e => k e fr ms h
  | .loop b, fr, ms, h, k => match A.keep.get (firstRegion b) with
    | some ts => projK ts fr fun v => loopN (fun (v : Tup ts) ms h next => cexec E T A fid nt n rd b (emb ts v) ms h fun e fr ms h => match e with
      | .normal => projK ts fr fun v => next v ms h
      | e => k e fr ms h) n v ms h
    | none => none
  | .scope b, fr, ms, h, k => cexec E T A fid nt n rd b fr ms h k
  | .exit id, fr, ms, h, k => k (.exit id) fr ms h
  | .ret, fr, ms, h, k => k .ret fr ms h
  | .rangeFunc f ps assign body, fr, ms, h, k =>
    match rd with
    | true => none
    | false => valK (aev fr f) fun g => rangeK E fid nt g ps.toList assign body (keepR A (firstRegion body) fr) ms h fun e ms h => k e fr ms h
  | _, _, _, _, _ => none

theorem cexec_some {E : Env} {T : Tab} {A : AFn} {fid nt n : Nat} {rd : Bool} : ∀ (c : Code) {fr : AFrame} {ms : List Nat} {h : AHeap} {k : KExit R} {r : R}, cexec E T A fid nt n rd c fr ms h k = some r →
    ∃ e s, exec E T A fid nt n rd c ⟨fr, ms, h⟩ = some (e, s) ∧ k e s.fr s.ms s.h = some r := by
  intro c
  induction c with
  | skip => intro fr ms h k r he; exact ⟨_, _, rfl, he⟩
  | label l => intro fr ms h k r he; exact ⟨_, _, rfl, he⟩
  | ret => intro fr ms h k r he; exact ⟨_, _, rfl, he⟩
  | exit id => intro fr ms h k r he; exact ⟨_, _, rfl, he⟩
  | region id ops draw =>
    intro fr ms h k r he
    simp only [cexec] at he
    simp only [exec]
    cases draw with
    | false =>
      obtain ⟨fr', h', h1, h2⟩ := seqK_some he
      exact ⟨.normal, ⟨fr', ms, h'⟩, by simp only [h1], h2⟩
    | true =>
      simp only at he ⊢
      split at he
      · rename_i order bef hp
        simp only [hp]
        cases hok : planOk T ops.toList order bef with
        | false => rw [hok] at he; cases he
        | true =>
          rw [hok] at he
          simp only [cond_true] at he ⊢
          obtain ⟨fr', h', h1, h2⟩ := planK_some he
          exact ⟨.normal, ⟨fr', ms, h'⟩, by simp only [h1], h2⟩
      · cases he
  | seq a b iha ihb =>
    intro fr ms h k r he
    simp only [cexec] at he
    simp only [exec]
    split at he
    · rename_i hj
      obtain ⟨e, s, h1, h2⟩ := iha he
      cases e with
      | normal =>
        obtain ⟨e', s', h3, h4⟩ := ihb h2
        exact ⟨e', s', by simp only [h1, cleanJ, hj]; exact h3, h4⟩
      | exit id => exact ⟨_, s, by simp only [h1], h2⟩
      | ret => exact ⟨_, s, by simp only [h1], h2⟩
    · rename_i ts hj
      simp only [jn] at he
      obtain ⟨e, s, h1, h2⟩ := iha he
      cases e with
      | normal =>
        obtain ⟨v, h5, h6⟩ := projK_some h2
        obtain ⟨e', s', h3, h4⟩ := ihb h6
        exact ⟨e', s', by simp only [h1, cleanJ, hj]; rw [← h5]; exact h3, h4⟩
      | exit id => exact ⟨_, s, by simp only [h1], h2⟩
      | ret => exact ⟨_, s, by simp only [h1], h2⟩
  | cond c a b iha ihb =>
    intro fr ms h k r he
    simp only [cexec] at he
    simp only [exec]
    obtain ⟨v, h1, h2⟩ := valK_some he
    rcases boolK_some h2 with ⟨rfl, h3⟩ | ⟨rfl, h3⟩
    · simp only [h1]; exact iha h3
    · simp only [h1]; exact ihb h3
  | block id b ih =>
    intro fr ms h k r he
    simp only [cexec] at he
    simp only [exec]
    obtain ⟨e, s, h1, h2⟩ := ih he
    cases e with
    | normal => exact ⟨_, s, by simp only [h1], h2⟩
    | ret => exact ⟨_, s, by simp only [h1], h2⟩
    | exit id' =>
      simp only at h2
      cases hb : Nat.beq id' id with
      | true => rw [hb] at h2; exact ⟨_, s, by simp only [h1, hb, cond_true], h2⟩
      | false => rw [hb] at h2; exact ⟨_, s, by simp only [h1, hb, cond_false], h2⟩
  | loop b ih =>
    intro fr ms h k r he
    simp only [cexec] at he
    simp only [exec]
    split at he
    · rename_i ts hk
      have key : ∀ (m : Nat) {fr : AFrame} {v : Tup ts} {ms : List Nat} {h : AHeap}, emb ts v = keepOnly fr ts → loopN (fun (v : Tup ts) ms h next => cexec E T A fid nt n rd b (emb ts v) ms h fun e fr ms h => match e with
          | .normal => projK ts fr fun v => next v ms h
          | e => k e fr ms h) m v ms h = some r → ∃ e s, iter (exec E T A fid nt n rd b) (clean A (firstRegion b)) m ⟨fr, ms, h⟩ = some (e, s) ∧ k e s.fr s.ms s.h = some r := by
        intro m
        induction m with
        | zero => intro fr v ms h hv hl; cases hl
        | succ m ihm =>
          intro fr v ms h hv hl
          simp only [loopN] at hl
          obtain ⟨e, s, h1, h2⟩ := ih hl
          simp only [iter, clean, hk]
          rw [hv] at h1
          cases e with
          | normal =>
            obtain ⟨v', h5, h6⟩ := projK_some h2
            obtain ⟨e', s', h3, h4⟩ := ihm (fr := s.fr) h5 h6
            exact ⟨e', s', by simp only [h1]; exact h3, h4⟩
          | exit id => exact ⟨_, s, by simp only [h1], h2⟩
          | ret => exact ⟨_, s, by simp only [h1], h2⟩
      obtain ⟨v, h5, h6⟩ := projK_some he
      exact key n h5 h6
    · cases he
  | scope b ih =>
    intro fr ms h k r he
    simp only [cexec] at he
    simp only [exec]
    exact ih he
  | rangeFunc f ps assign body =>
    intro fr ms h k r he
    simp only [cexec] at he
    simp only [exec]
    cases rd with
    | true => cases he
    | false =>
      simp only at he ⊢
      obtain ⟨g, h1, h2⟩ := valK_some he
      simp only [h1]
      unfold rangeK callA at h2
      split at h2
      · rename_i f1 first captured
        simp only at h2
        obtain ⟨rv, h3, e3, e4⟩ := bothK_some h2
        simp only [acallV, AHeap.next_add, e3]
        obtain ⟨L, hL, e5⟩ := loopAtK_some e4
        obtain ⟨hnb, e6⟩ := endedK_some e5
        simp only [hL]
        refine ⟨L.pending, ⟨fr, h.next :: ms, h3.put (h.next + 1) (.loop { L with state := .exhausted })⟩, ?_, e6⟩
        rfl
      · cases h2
      · cases h2
  | _ => intro fr ms h k r he; cases he

/-- A part of code, by the way to it. -/
def subCode : List Nat → Code → Code
  | [], c => c
  | i :: is, c => subCode is (match c with
    | .seq a b => match i with | 0 => a | _ => b
    | .cond _ a b => match i with | 0 => a | _ => b
    | .block _ b => b
    | .loop b => b
    | .scope b => b
    | .rangeFunc _ _ a b => match i with | 0 => a | _ => b
    | _ => .skip)

/-! ### Functions -/

def resK (T : Tab) (fr : AFrame) (h : AHeap) : List ResultVar → (List AV → Option R) → Option R
  | [], k => k []
  | .tmp t :: rs, k => valK (fr.get t) fun v => resK T fr h rs fun vs => k (v :: vs)
  | .cell a t :: rs, k => valK (fr.get a) fun a => valK (loadA T h t a) fun v => resK T fr h rs fun vs => k (v :: vs)

theorem resK_some {T : Tab} {fr : AFrame} {h : AHeap} : ∀ {l : List ResultVar} {k : List AV → Option R} {r : R}, resK T fr h l k = some r → ∃ vs, resultsOf T fr h l = some vs ∧ k vs = some r
  | [], k, r, he => ⟨[], rfl, he⟩
  | .tmp t :: rs, k, r, he => by
    obtain ⟨v, h1, h2⟩ := valK_some he
    obtain ⟨vs, h3, h4⟩ := resK_some h2
    exact ⟨v :: vs, by simp only [resultsOf, h1, h3], h4⟩
  | .cell a t :: rs, k, r, he => by
    obtain ⟨v, h1, h2⟩ := valK_some he
    obtain ⟨w, h5, h6⟩ := valK_some h2
    obtain ⟨vs, h3, h4⟩ := resK_some h6
    unfold loadA at h5
    split at h5
    · exact ⟨w :: vs, by simp only [resultsOf, h1, h5, h3], h4⟩
    · cases h5

def finK (T : Tab) (rs : List ResultVar) (fr : AFrame) (ms : List Nat) (h : AHeap) : Option (AV × AHeap) :=
  hpK (unmark h ms) fun h => resK T fr h rs fun vs => some (tupled vs, h)

def fnK (E : Env) (T : Tab) (A : AFn) (fid n : Nat) (args : List AV) (h : AHeap) : Option (AV × AHeap) :=
  match A.fn.body with
  | some c =>
    bif Nat.ble args.length A.fn.ntmps then
      cexec E T A fid A.fn.ntmps n false c (initFrame args 0) [] h fun e fr ms h => match e with
        | .normal => finK T A.fn.results.toList fr ms h
        | .ret => finK T A.fn.results.toList fr ms h
        | _ => none
    else none
  | none => none

theorem finK_some {T : Tab} {fn : Func} {fr : AFrame} {ms : List Nat} {h : AHeap} {r : AV × AHeap} (he : finK T fn.results.toList fr ms h = some r) : finish T fn ⟨fr, ms, h⟩ = some r := by
  obtain ⟨h1, e1, e2⟩ := hpK_some he
  obtain ⟨vs, e3, e4⟩ := resK_some e2
  simp only [finish, e1, e3]
  exact e4

theorem fnK_some {E : Env} {T : Tab} {A : AFn} {fid n : Nat} {args : List AV} {h : AHeap} {r : AV × AHeap} (he : fnK E T A fid n args h = some r) : callFn E T A fid n args h = some r := by
  unfold fnK at he
  unfold callFn
  split at he
  · rename_i c hb
    simp only [hb]
    cases hl : Nat.ble args.length A.fn.ntmps with
    | false => rw [hl] at he; cases he
    | true =>
      rw [hl] at he
      simp only [cond_true] at he ⊢
      obtain ⟨e, s, h1, h2⟩ := cexec_some c he
      simp only [h1]
      cases e with
      | normal => exact finK_some h2
      | ret => exact finK_some h2
      | exit id => cases h2
  · cases he

/-- One round of a range over a function. -/
def roundK (E : Env) (T : Tab) (A : AFn) (n l : Nat) (L : ALoop) (args : List AV) (h : AHeap) : Option (AV × AHeap) :=
  bif Nat.beq args.length L.params.length && inBounds L.nt L.params then
    cexec E T A L.fn L.nt n true L.assign (setParams L.fr L.params args) [] h fun e fr ms h => match e with
      | .normal => loopAtK h l fun L1 => readyK L1 (cexec E T A L.fn L.nt n true L.body fr ms (h.put l (.loop { L1 with state := .busy })) fun e fr ms h => loopAtK h l fun L2 => match e with
              | .normal => some (.bool true, h.put l (.loop { L2 with state := .ready, pending := .normal }))
              | e => some (.bool false, h.put l (.loop { L2 with state := .done, pending := e })))
      | _ => none
  else none

theorem roundK_some {E : Env} {T : Tab} {Fs : PT AFn} {A : AFn} {n l : Nat} {L : ALoop} {args : List AV} {h : AHeap} {r : AV × AHeap} (hl : h.get l = some (.loop L)) (hA : Fs.get L.fn = some A) (he : roundK E T A n l L args h = some r) : callRound E T Fs n l args h = some r := by
  unfold roundK at he
  unfold callRound
  simp only [hl, hA]
  cases hb : Nat.beq args.length L.params.length && inBounds L.nt L.params with
  | false => rw [hb] at he; cases he
  | true =>
    rw [hb] at he
    simp only [cond_true] at he ⊢
    obtain ⟨e, s, h1, h2⟩ := cexec_some _ he
    simp only [h1]
    cases e with
    | exit id => cases h2
    | ret => cases h2
    | normal =>
      simp only at h2 ⊢
      obtain ⟨L1, hl1, h5⟩ := loopAtK_some h2
      obtain ⟨hst, h6⟩ := readyK_some h5
      simp only [hl1, hst]
      obtain ⟨e', s', h3, h4⟩ := cexec_some _ h6
      simp only [h3]
      obtain ⟨L2, hl2, h7⟩ := loopAtK_some h4
      simp only [hl2]
      exact h7

end
end Go.Am
