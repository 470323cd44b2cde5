/-
  How the abstract machine's values, frames and heaps stand for the model's: an injection β from objects to places in blocks; plain lemmas on it.
-/
import Derived.Test.YtcjjleelhaphkaaGreatDoorA3
import Derived.Below
import Derived.Laws.World
import Derived.Laws.Sem
set_option linter.unusedVariables false
set_option linter.unusedSimpArgs false
namespace Go.Am
open Go.RowKit

structure Loc where
  b : Nat
  off : Nat
  lim : Nat

abbrev Inj := Nat → Option Loc

mutual
def VR (β : Inj) : AV → Value → Prop
  | .bool b, V => V = .bool b
  | .int k n, V => V = .int k n
  | .str s, V => V = .string ⟨s.toArray⟩
  | .nilptr, V => V = .pointer none
  | .ptr o i, V => ∃ L, β o = some L ∧ V = .pointer (some ⟨L.b, L.off + i, none⟩)
  | .nilslice, V => V = .slice none 0 0
  | .eslice, V => ∃ a c, V = .slice (some a) 0 c
  | .slice o i n e, V => ∃ L c, β o = some L ∧ V = .slice (some ⟨L.b, L.off + i, none⟩) n c ∧ n ≤ c ∧ i + c * e ≤ L.lim
  | .nilmap, V => V = .map none
  | .map o, V => ∃ L, β o = some L ∧ V = .map (some L.b)
  | .nilfunc, V => V = .nilFunc
  | .func f a c, V => ∃ as cs, VRL β a as ∧ VRL β c cs ∧ V = .func (.func f) as.toArray cs.toArray
  | .yield o, V => ∃ L, β o = some L ∧ V = .func (.yield L.b) #[] #[]
  | .agg xs, V => ∃ vs, VRL β xs vs ∧ V = .agg vs.toArray
  | .tuple xs, V => ∃ vs, VRL β xs vs ∧ V = .tuple vs.toArray
def VRL (β : Inj) : List AV → List Value → Prop
  | [], Vs => Vs = []
  | x :: xs, Vs => ∃ V Vs', VR β x V ∧ VRL β xs Vs' ∧ Vs = V :: Vs'
end

def Inj.le (β β' : Inj) : Prop := ∀ o L, β o = some L → β' o = some L

theorem Inj.le_refl (β : Inj) : β.le β := fun _ _ h => h
theorem Inj.le.trans {a b c : Inj} (h : a.le b) (k : b.le c) : a.le c := fun o L x => k o L (h o L x)

mutual
theorem VR.mono {β β' : Inj} (hb : β.le β') : ∀ {v : AV} {V : Value}, VR β v V → VR β' v V
  | .bool _, _, h => h
  | .int _ _, _, h => h
  | .str _, _, h => h
  | .nilptr, _, h => h
  | .ptr _ _, _, h => by
    simp only [VR] at h ⊢
    obtain ⟨L, h1, h2⟩ := h
    exact ⟨L, hb _ _ h1, h2⟩
  | .nilslice, _, h => h
  | .eslice, _, h => h
  | .slice _ _ _ _, _, h => by
    simp only [VR] at h ⊢
    obtain ⟨L, c, h1, h2⟩ := h
    exact ⟨L, c, hb _ _ h1, h2⟩
  | .nilmap, _, h => h
  | .map _, _, h => by
    simp only [VR] at h ⊢
    obtain ⟨L, h1, h2⟩ := h
    exact ⟨L, hb _ _ h1, h2⟩
  | .nilfunc, _, h => h
  | .func _ _ _, _, h => by
    simp only [VR] at h ⊢
    obtain ⟨as, cs, h1, h2, h3⟩ := h
    exact ⟨as, cs, VRL.mono hb h1, VRL.mono hb h2, h3⟩
  | .yield _, _, h => by
    simp only [VR] at h ⊢
    obtain ⟨L, h1, h2⟩ := h
    exact ⟨L, hb _ _ h1, h2⟩
  | .agg _, _, h => by
    simp only [VR] at h ⊢
    obtain ⟨as, h1, h2⟩ := h
    exact ⟨as, VRL.mono hb h1, h2⟩
  | .tuple _, _, h => by
    simp only [VR] at h ⊢
    obtain ⟨as, h1, h2⟩ := h
    exact ⟨as, VRL.mono hb h1, h2⟩
theorem VRL.mono {β β' : Inj} (hb : β.le β') : ∀ {v : List AV} {V : List Value}, VRL β v V → VRL β' v V
  | [], _, h => h
  | x :: xs, _, h => by
    simp only [VRL] at h ⊢
    obtain ⟨V, Vs, h1, h2, h3⟩ := h
    exact ⟨V, Vs, VR.mono hb h1, VRL.mono hb h2, h3⟩
end

section vrl
variable {β : Inj}

theorem VRL.nil : VRL β [] [] := by simp [VRL]
theorem VRL.cons {x : AV} {X : Value} {xs : List AV} {Xs : List Value} (h : VR β x X) (hs : VRL β xs Xs) : VRL β (x :: xs) (X :: Xs) := by
  simp only [VRL]; exact ⟨X, Xs, h, hs, rfl⟩
theorem VRL.nil_inv {Xs : List Value} (h : VRL β [] Xs) : Xs = [] := by simpa [VRL] using h
theorem VRL.cons_inv {x : AV} {xs : List AV} {Xs : List Value} (h : VRL β (x :: xs) Xs) : ∃ X Xs', VR β x X ∧ VRL β xs Xs' ∧ Xs = X :: Xs' := by
  simpa only [VRL] using h

theorem VRL.length : ∀ {xs : List AV} {Xs : List Value}, VRL β xs Xs → Xs.length = xs.length
  | [], _, h => by rw [h.nil_inv]; rfl
  | x :: xs, _, h => by
    obtain ⟨X, Xs', _, h2, rfl⟩ := h.cons_inv
    simp [VRL.length h2]

theorem VRL.append : ∀ {xs ys : List AV} {Xs Ys : List Value}, VRL β xs Xs → VRL β ys Ys → VRL β (xs ++ ys) (Xs ++ Ys)
  | [], _, _, _, h, k => by rw [h.nil_inv]; exact k
  | x :: xs, _, _, _, h, k => by
    obtain ⟨X, Xs', h1, h2, rfl⟩ := h.cons_inv
    exact VRL.cons h1 (VRL.append h2 k)

theorem VRL.take : ∀ (n : Nat) {xs : List AV} {Xs : List Value}, VRL β xs Xs → VRL β (xs.take n) (Xs.take n)
  | 0, _, _, _ => by simpa using VRL.nil
  | n + 1, [], _, h => by rw [h.nil_inv]; simpa using VRL.nil
  | n + 1, x :: xs, _, h => by
    obtain ⟨X, Xs', h1, h2, rfl⟩ := h.cons_inv
    exact VRL.cons h1 (VRL.take n h2)

theorem VRL.drop : ∀ (n : Nat) {xs : List AV} {Xs : List Value}, VRL β xs Xs → VRL β (xs.drop n) (Xs.drop n)
  | 0, _, _, h => by simpa using h
  | n + 1, [], _, h => by rw [h.nil_inv]; simpa using VRL.nil
  | n + 1, x :: xs, _, h => by
    obtain ⟨X, Xs', h1, h2, rfl⟩ := h.cons_inv
    exact VRL.drop n h2

theorem VRL.get : ∀ {xs : List AV} {Xs : List Value}, VRL β xs Xs → ∀ (i : Nat) (v : AV), xs[i]? = some v → ∃ V, Xs[i]? = some V ∧ VR β v V
  | [], _, _, i, v, hv => by simp at hv
  | x :: xs, _, h, i, v, hv => by
    obtain ⟨X, Xs', h1, h2, rfl⟩ := h.cons_inv
    cases i with
    | zero => simp at hv; subst hv; exact ⟨X, rfl, h1⟩
    | succ i => simp at hv; simpa using VRL.get h2 i v hv

theorem VRL.set : ∀ {xs : List AV} {Xs : List Value}, VRL β xs Xs → ∀ (i : Nat) {v : AV} {V : Value}, VR β v V → VRL β (xs.set i v) (Xs.set i V)
  | [], _, h, i, v, V, hv => by rw [h.nil_inv]; simpa using VRL.nil
  | x :: xs, _, h, i, v, V, hv => by
    obtain ⟨X, Xs', h1, h2, rfl⟩ := h.cons_inv
    cases i with
    | zero => exact VRL.cons hv h2
    | succ i => exact VRL.cons h1 (VRL.set h2 i hv)

theorem VRL.snoc {xs : List AV} {Xs : List Value} {x : AV} {X : Value} (h : VRL β xs Xs) (k : VR β x X) : VRL β (xs ++ [x]) (Xs ++ [X]) :=
  h.append (VRL.cons k VRL.nil)

/-- Out of all places. -/
theorem VRL.of_get : ∀ {xs : List AV} {Xs : List Value}, Xs.length = xs.length → (∀ (i : Nat) (v : AV), xs[i]? = some v → ∃ V, Xs[i]? = some V ∧ VR β v V) → VRL β xs Xs
  | [], Xs, hl, _ => by cases Xs with | nil => exact VRL.nil | cons => simp at hl
  | x :: xs, Xs, hl, h => by
    cases Xs with
    | nil => simp at hl
    | cons X Xs =>
      obtain ⟨V, h1, h2⟩ := h 0 x rfl
      simp at h1; subst h1
      exact VRL.cons h2 (VRL.of_get (by simpa using hl) fun i v hv => by
        have := h (i + 1) v (by simpa using hv)
        simpa using this)

theorem VR.one {x : AV} {X : Value} (h : VR β x X) (h1 : x.one = true) : X.oneCell' = true := by
  cases x <;> simp only [AV.one, Bool.false_eq_true] at h1 <;> simp only [VR] at h
  case bool => subst h; rfl
  case int => subst h; rfl
  case str => subst h; rfl
  case nilptr => subst h; rfl
  case ptr => obtain ⟨_, _, rfl⟩ := h; rfl
  case nilslice => subst h; rfl
  case eslice => obtain ⟨_, _, rfl⟩ := h; rfl
  case slice => obtain ⟨_, _, _, rfl, _⟩ := h; rfl
  case nilmap => subst h; rfl
  case map => obtain ⟨_, _, rfl⟩ := h; rfl
  case nilfunc => subst h; rfl
  case func => obtain ⟨_, _, _, _, rfl⟩ := h; rfl
  case yield => obtain ⟨_, _, rfl⟩ := h; rfl

theorem VRL.one : ∀ {xs : List AV} {Xs : List Value}, VRL β xs Xs → allOne xs = true → ∀ X ∈ Xs, X.oneCell' = true
  | [], _, h, _, X, hX => by rw [h.nil_inv] at hX; simp at hX
  | x :: xs, _, h, h1, X, hX => by
    obtain ⟨Y, Xs', k1, k2, rfl⟩ := h.cons_inv
    simp only [allOne, Bool.and_eq_true] at h1
    cases List.mem_cons.1 hX with
    | inl e => subst e; exact k1.one h1.1
    | inr e => exact VRL.one k2 h1.2 X e

/-- A value's cells stand for its cells. -/
theorem VR.cells {x : AV} {X : Value} (h : VR β x X) (ht : x.noTup = true) : VRL β x.cells X.cells.toList := by
  cases x
  case agg xs =>
    simp only [VR] at h
    obtain ⟨vs, h1, rfl⟩ := h
    simpa [AV.cells, Value.cells] using h1
  case tuple xs => cases ht
  all_goals
    have h' := h
    simp only [VR] at h
    simp only [AV.cells]
  case bool => subst h; exact VRL.cons h' VRL.nil
  case int => subst h; exact VRL.cons h' VRL.nil
  case str => subst h; exact VRL.cons h' VRL.nil
  case nilptr => subst h; exact VRL.cons h' VRL.nil
  case ptr => obtain ⟨_, _, rfl⟩ := h; exact VRL.cons h' VRL.nil
  case nilslice => subst h; exact VRL.cons h' VRL.nil
  case eslice => obtain ⟨_, _, rfl⟩ := h; exact VRL.cons h' VRL.nil
  case slice => obtain ⟨_, _, _, rfl, _⟩ := h; exact VRL.cons h' VRL.nil
  case nilmap => subst h; exact VRL.cons h' VRL.nil
  case map => obtain ⟨_, _, rfl⟩ := h; exact VRL.cons h' VRL.nil
  case nilfunc => subst h; exact VRL.cons h' VRL.nil
  case func => obtain ⟨_, _, _, _, rfl⟩ := h; exact VRL.cons h' VRL.nil
  case yield => obtain ⟨_, _, rfl⟩ := h; exact VRL.cons h' VRL.nil

/-- Of what is allOne. -/
theorem VR.cells_one {x : AV} {X : Value} (h : VR β x X) (h1 : allOne x.cells = true) : VRL β x.cells X.cells.toList :=
  h.cells (by cases x <;> first | rfl | simp [AV.cells, allOne, AV.one] at h1)
end vrl

/-- A frame's known temporaries. -/
def FR (β : Inj) (fr : AFrame) (tmps : Array Value) : Prop := ∀ t v, fr.get t = some v → ∃ V, tmps[t]? = some V ∧ VR β v V

theorem FR.mono {β β' : Inj} (hb : β.le β') {fr : AFrame} {tmps : Array Value} (h : FR β fr tmps) : FR β' fr tmps := fun t v hv =>
  let ⟨V, h1, h2⟩ := h t v hv; ⟨V, h1, h2.mono hb⟩

/-! ### Objects -/

def ER (β : Inj) : List (AV × AV × Nat) → List MapEntry → Prop
  | [], Es => Es = []
  | e :: es, Es => ∃ E Es', VR β e.1 E.key ∧ VR β e.2.1 E.val ∧ E.born = e.2.2 ∧ ER β es Es' ∧ Es = E :: Es'

theorem ER.mono {β β' : Inj} (hb : β.le β') : ∀ {es : List (AV × AV × Nat)} {Es : List MapEntry}, ER β es Es → ER β' es Es
  | [], _, h => h
  | e :: es, _, h => by
    obtain ⟨E, Es', h1, h2, h3, h4, h5⟩ := h
    exact ⟨E, Es', h1.mono hb, h2.mono hb, h3, ER.mono hb h4, h5⟩

def jumpOf : AExit → Option Code
  | .normal => none
  | .exit id => some (.exit id)
  | .ret => some .ret

def stateOf : ALoopState → LoopState
  | .ready => .ready
  | .busy => .busy
  | .done => .done
  | .exhausted => .exhausted

structure LR (β : Inj) (l : ALoop) (L : Loop) : Prop where
  state : L.state = stateOf l.state
  pending : L.pending = jumpOf l.pending
  fr : FR β l.fr L.tmps
  nt : L.tmps.size = l.nt
  params : L.params.toList = l.params
  assign : L.assign = l.assign
  body : L.body = l.body

theorem LR.mono {β β' : Inj} (hb : β.le β') {l : ALoop} {L : Loop} (h : LR β l L) : LR β' l L :=
  { h with fr := h.fr.mono hb }

/-- Cells of a block that are a row's. -/
def RowR (β : Inj) (vs : List AV) (off : Nat) (c : Array Value) : Prop := ∀ i v, vs[i]? = some v → ∃ V, c[off + i]? = some V ∧ VR β v V

def ObjR (B0 : Nat) (β : Inj) (heap : Array Obj) (L : Loc) : AObj → Prop
  | .cells vs rw => ∃ c el fz, heap[L.b]? = some (.cells c el fz) ∧ L.off + L.lim ≤ c.size ∧ vs.length ≤ L.lim ∧ RowR β vs L.off c ∧
      (rw = true → B0 ≤ L.b ∧ allOne vs = true ∧ ∀ j, L.off ≤ j → j < L.off + L.lim → ¬ (fz.1 ≤ j ∧ j < fz.2)) ∧ (rw = false → L.b < B0)
  | .map es clock => ∃ Es, heap[L.b]? = some (.map Es clock) ∧ ER β es Es.toList ∧ B0 ≤ L.b
  | .loop l => ∃ l', heap[L.b]? = some (.loop l') ∧ LR β l l' ∧ B0 ≤ L.b
  | .marks => heap[L.b]? = some (.deferred (some [])) ∧ B0 ≤ L.b
  | .keys m => ∃ M el fz, heap[L.b]? = some (.cells #[M] el fz) ∧ VR β m M ∧ L.off = 0 ∧ B0 ≤ L.b
  | .raw ob => heap[L.b]? = some ob ∧ L.off = 0 ∧ B0 ≤ L.b
  | .dead => True

/-- Does it own its block? -/
def AObj.own : AObj → Bool
  | .cells _ rw => rw
  | .dead => false
  | _ => true

structure WR (w0 : World) (β : Inj) (h : AHeap) (w : World) : Prop where
  below : Below w0.heap.size w0 w
  dom : ∀ o L, β o = some L → o < h.next
  wf : ∀ o x, h.get o = some x → o < h.next
  obj : ∀ o x L, h.get o = some x → β o = some L → ObjR w0.heap.size β w.heap L x
  inj : ∀ o o' x x' L L', h.get o = some x → h.get o' = some x' → x.own = true → x'.own = true → β o = some L → β o' = some L' → L.b = L'.b → o = o'

theorem RowR.mono {β β' : Inj} (hb : β.le β') {vs : List AV} {off : Nat} {c : Array Value} (h : RowR β vs off c) : RowR β' vs off c := fun i v hv =>
  let ⟨V, h1, h2⟩ := h i v hv; ⟨V, h1, h2.mono hb⟩

theorem ObjR.mono {B0 : Nat} {β β' : Inj} (hb : β.le β') {heap : Array Obj} {L : Loc} {x : AObj} (h : ObjR B0 β heap L x) : ObjR B0 β' heap L x := by
  cases x with
  | cells vs rw =>
    obtain ⟨c, el, fz, h1, h2, h3, h4, h5⟩ := h
    exact ⟨c, el, fz, h1, h2, h3, h4.mono hb, h5⟩
  | map es clock =>
    obtain ⟨Es, h1, h2, h3⟩ := h
    exact ⟨Es, h1, h2.mono hb, h3⟩
  | loop l =>
    obtain ⟨l', h1, h2, h3⟩ := h
    exact ⟨l', h1, h2.mono hb, h3⟩
  | marks => exact h
  | keys m =>
    obtain ⟨M, el, fz, h1, h2, h3⟩ := h
    exact ⟨M, el, fz, h1, h2.mono hb, h3⟩
  | raw ob => exact h
  | dead => trivial

/-- Of a block that reads as before. -/
theorem ObjR.of_block {B0 : Nat} {β : Inj} {heap heap' : Array Obj} {L : Loc} {x : AObj} (h : ObjR B0 β heap L x) (hb : heap'[L.b]? = heap[L.b]?) : ObjR B0 β heap' L x := by
  cases x with
  | cells vs rw =>
    obtain ⟨c, el, fz, h1, h2⟩ := h
    exact ⟨c, el, fz, by rw [hb]; exact h1, h2⟩
  | map es clock =>
    obtain ⟨Es, h1, h2⟩ := h
    exact ⟨Es, by rw [hb]; exact h1, h2⟩
  | loop l =>
    obtain ⟨l', h1, h2⟩ := h
    exact ⟨l', by rw [hb]; exact h1, h2⟩
  | marks => exact ⟨by rw [hb]; exact h.1, h.2⟩
  | keys m =>
    obtain ⟨M, el, fz, h1, h2⟩ := h
    exact ⟨M, el, fz, by rw [hb]; exact h1, h2⟩
  | raw ob => exact ⟨by rw [hb]; exact h.1, h.2⟩
  | dead => trivial

/-- A block that an object (a dead one aside) lies in is there. -/
theorem ObjR.lt {B0 : Nat} {β : Inj} {heap : Array Obj} {L : Loc} {x : AObj} (h : ObjR B0 β heap L x) (hx : x ≠ .dead) : L.b < heap.size := by
  have key : ∀ y : Obj, heap[L.b]? = some y → L.b < heap.size := fun y hy => by
    rcases Nat.lt_or_ge L.b heap.size with h | h
    · exact h
    · rw [Array.getElem?_eq_none h] at hy; cases hy
  cases x with
  | cells vs rw => obtain ⟨_, _, _, h1, _⟩ := h; exact key _ h1
  | map es clock => obtain ⟨_, h1, _⟩ := h; exact key _ h1
  | loop l => obtain ⟨_, h1, _⟩ := h; exact key _ h1
  | marks => exact key _ h.1
  | keys m => obtain ⟨_, _, _, h1, _⟩ := h; exact key _ h1
  | raw ob => exact key _ h.1
  | dead => exact absurd rfl hx

theorem ObjR.owned {B0 : Nat} {β : Inj} {heap : Array Obj} {L : Loc} {x : AObj} (h : ObjR B0 β heap L x) (hx : x.own = true) : B0 ≤ L.b := by
  cases x with
  | cells vs rw => obtain ⟨_, _, _, _, _, _, _, h5, _⟩ := h; exact (h5 hx).1
  | map es clock => obtain ⟨_, _, _, h⟩ := h; exact h
  | loop l => obtain ⟨_, _, _, h⟩ := h; exact h
  | marks => exact h.2
  | keys m => obtain ⟨_, _, _, _, _, _, h⟩ := h; exact h
  | raw ob => exact h.2.2
  | dead => cases hx

/-! ### Steps of the world -/

/-- How a world, a heap and an injection may go on together. -/
structure Goes (β : Inj) (h : AHeap) (β' : Inj) (h' : AHeap) : Prop where
  old : ∀ o, o < h.next → β' o = β o
  next : h.next ≤ h'.next
  free : ∀ o, o < h.next → β o = none → h'.get o = h.get o

theorem Goes.refl (β : Inj) (h : AHeap) : Goes β h β h := ⟨fun _ _ => rfl, Nat.le_refl _, fun _ _ _ => rfl⟩

theorem Goes.trans {β β' β'' : Inj} {h h' h'' : AHeap} (a : Goes β h β' h') (b : Goes β' h' β'' h'') : Goes β h β'' h'' :=
  ⟨fun o ho => (b.old o (Nat.lt_of_lt_of_le ho a.next)).trans (a.old o ho), Nat.le_trans a.next b.next,
   fun o ho hn => (b.free o (Nat.lt_of_lt_of_le ho a.next) (by rw [a.old o ho]; exact hn)).trans (a.free o ho hn)⟩

theorem WR.le {w0 : World} {β β' : Inj} {h h' : AHeap} {w : World} (hw : WR w0 β h w) (g : Goes β h β' h') : β.le β' := fun o L e => by
  rw [g.old o (hw.dom o L e)]; exact e

theorem WR.drew {w0 : World} {β : Inj} {h : AHeap} {w : World} (hw : WR w0 β h w) : WR w0 β h w.drew :=
  ⟨⟨hw.below.os, hw.below.tape, hw.below.output, hw.below.size, hw.below.block⟩, hw.dom, hw.wf, hw.obj, hw.inj⟩

/-- The injection with one object more. -/
def Inj.with (β : Inj) (o : Nat) (L : Loc) : Inj := fun j => if j = o then some L else β j

theorem Inj.with_self (β : Inj) (o : Nat) (L : Loc) : (β.with o L) o = some L := by simp [Inj.with]
theorem Inj.with_ne (β : Inj) {o j : Nat} (L : Loc) (h : j ≠ o) : (β.with o L) j = β j := by simp [Inj.with, h]

/-- An object that the model does not have (yet). -/
theorem WR.unborn {w0 : World} {β : Inj} {h : AHeap} {w : World} (hw : WR w0 β h w) (x : AObj) : WR w0 β (h.add x) w := by
  have hn : ∀ o L, β o = some L → o ≠ h.next := fun o L e => Nat.ne_of_lt (hw.dom o L e)
  refine ⟨hw.below, fun o L e => Nat.lt_succ_of_lt (hw.dom o L e), fun o y e => ?_, fun o y L e e' => ?_, fun o o' y y' L L' e e' f f' k k' hb => ?_⟩
  · rw [AHeap.get_add] at e
    by_cases ho : o = h.next
    · subst ho; exact Nat.lt_succ_self _
    · rw [if_neg ho] at e; exact Nat.lt_succ_of_lt (hw.wf o y e)
  · rw [AHeap.get_add_ne _ _ (hn o L e')] at e
    exact hw.obj o y L e e'
  · rw [AHeap.get_add_ne _ _ (hn o L k)] at e
    rw [AHeap.get_add_ne _ _ (hn o' L' k')] at e'
    exact hw.inj o o' y y' L L' e e' f f' k k' hb

theorem heap_push_old {heap : Array Obj} {b : Nat} {ob : Obj} (h : b < heap.size) : (heap.push ob)[b]? = heap[b]? := by
  rw [Array.getElem?_push]; simp [Nat.ne_of_lt h]

theorem heap_push_new {heap : Array Obj} {ob : Obj} : (heap.push ob)[heap.size]? = some ob := by simp

theorem Below.push {w0 w : World} (h : Below w0.heap.size w0 w) (ob : Obj) : Below w0.heap.size w0 (w.alloc ob) :=
  ⟨h.os, h.tape, h.output, Nat.le_trans h.size (by simp), fun k hk => by
    have := h.block k hk
    rw [← this]
    exact heap_push_old (Nat.lt_of_lt_of_le hk h.size)⟩

/-- An object of the heap that comes to a block of its own, at the world's end. -/
theorem WR.birth {w0 : World} {β : Inj} {h : AHeap} {w : World} (hw : WR w0 β h w) {o : Nat} {x : AObj} {ob : Obj} {L : Loc} (ho : h.get o = some x) (hn : β o = none) (hL : L.b = w.heap.size)
    (hob : ObjR w0.heap.size (β.with o L) (w.alloc ob).heap L x) : WR w0 (β.with o L) h (w.alloc ob) := by
  have hle : β.le (β.with o L) := fun j M e => by
    by_cases hj : j = o
    · subst hj; rw [hn] at e; cases e
    · rw [Inj.with_ne _ _ hj]; exact e
  have hblk : ∀ j y M, h.get j = some y → β j = some M → y ≠ .dead → M.b < w.heap.size := fun j y M e e' hy => (hw.obj j y M e e').lt hy
  refine ⟨Below.push hw.below ob, fun j M e => ?_, hw.wf, fun j y M e e' => ?_, fun j j' y y' M M' e e' f f' k k' hb => ?_⟩
  · by_cases hj : j = o
    · subst hj; exact hw.wf j x ho
    · rw [Inj.with_ne _ _ hj] at e; exact hw.dom j M e
  · by_cases hj : j = o
    · subst hj
      rw [Inj.with_self] at e'; cases e'
      rw [ho] at e; cases e
      exact hob
    · rw [Inj.with_ne _ _ hj] at e'
      by_cases hy : y = .dead
      · subst hy; trivial
      · exact ((hw.obj j y M e e').mono hle).of_block (heap_push_old (hblk j y M e e' hy))
  · have hne : ∀ j y M, h.get j = some y → y.own = true → β j = some M → M.b ≠ w.heap.size := fun j y M e f k =>
      Nat.ne_of_lt (hblk j y M e k (by intro h; subst h; cases f))
    by_cases hj : j = o
    · by_cases hj' : j' = o
      · rw [hj, hj']
      · subst hj
        rw [Inj.with_self] at k; cases k
        rw [Inj.with_ne _ _ hj'] at k'
        exact absurd (hb.symm.trans hL) (hne j' y' M' e' f' k')
    · rw [Inj.with_ne _ _ hj] at k
      by_cases hj' : j' = o
      · subst hj'
        rw [Inj.with_self] at k'; cases k'
        exact absurd (hb.trans hL) (hne j y M e f k)
      · rw [Inj.with_ne _ _ hj'] at k'
        exact hw.inj j j' y y' M M' e e' f f' k k' hb

/-- A new object at both ends. -/
theorem WR.alloc {w0 : World} {β : Inj} {h : AHeap} {w : World} (hw : WR w0 β h w) {x : AObj} {ob : Obj} {L : Loc} (hL : L.b = w.heap.size)
    (hob : ObjR w0.heap.size (β.with h.next L) (w.alloc ob).heap L x) :
    WR w0 (β.with h.next L) (h.add x) (w.alloc ob) ∧ Goes β h (β.with h.next L) (h.add x) := by
  have hn : β h.next = none := by
    cases e : β h.next with
    | none => rfl
    | some M => exact absurd (hw.dom _ _ e) (Nat.lt_irrefl _)
  exact ⟨(hw.unborn x).birth (AHeap.get_add_self _ _) hn hL hob,
    ⟨fun o ho => Inj.with_ne _ _ (Nat.ne_of_lt ho), Nat.le_succ _, fun o ho _ => AHeap.get_add_ne _ _ (Nat.ne_of_lt ho)⟩⟩

/-- A new object in a block of the call's own that nobody owns any more. -/
theorem WR.adopt {w0 : World} {β : Inj} {h : AHeap} {w : World} (hw : WR w0 β h w) {x : AObj} {L : Loc} (hfree : ∀ j z M, h.get j = some z → z.own = true → β j = some M → M.b ≠ L.b)
    (hob : ObjR w0.heap.size (β.with h.next L) w.heap L x) : WR w0 (β.with h.next L) (h.add x) w ∧ Goes β h (β.with h.next L) (h.add x) := by
  have hn : β h.next = none := by
    cases e : β h.next with
    | none => rfl
    | some M => exact absurd (hw.dom _ _ e) (Nat.lt_irrefl _)
  have hle : β.le (β.with h.next L) := fun j M e => by
    rw [Inj.with_ne _ _ (Nat.ne_of_lt (hw.dom j M e))]; exact e
  refine ⟨⟨hw.below, fun j M e => ?_, fun j y e => ?_, fun j y M e e' => ?_, fun j j' y y' M M' e e' f f' k k' hb => ?_⟩,
    ⟨fun o ho => Inj.with_ne _ _ (Nat.ne_of_lt ho), Nat.le_succ _, fun o ho _ => AHeap.get_add_ne _ _ (Nat.ne_of_lt ho)⟩⟩
  · by_cases hj : j = h.next
    · subst hj; exact Nat.lt_succ_self _
    · rw [Inj.with_ne _ _ hj] at e; exact Nat.lt_succ_of_lt (hw.dom j M e)
  · rw [AHeap.get_add] at e
    by_cases hj : j = h.next
    · subst hj; exact Nat.lt_succ_self _
    · rw [if_neg hj] at e; exact Nat.lt_succ_of_lt (hw.wf j y e)
  · by_cases hj : j = h.next
    · subst hj
      rw [Inj.with_self] at e'; cases e'
      rw [AHeap.get_add_self] at e; cases e
      exact hob
    · rw [Inj.with_ne _ _ hj] at e'
      rw [AHeap.get_add_ne _ _ hj] at e
      exact (hw.obj j y M e e').mono hle
  · by_cases hj : j = h.next
    · by_cases hj' : j' = h.next
      · rw [hj, hj']
      · subst hj
        rw [Inj.with_self] at k; cases k
        rw [Inj.with_ne _ _ hj'] at k'
        rw [AHeap.get_add_ne _ _ hj'] at e'
        exact absurd hb.symm (hfree j' y' M' e' f' k')
    · rw [Inj.with_ne _ _ hj] at k
      rw [AHeap.get_add_ne _ _ hj] at e
      by_cases hj' : j' = h.next
      · subst hj'
        rw [Inj.with_self] at k'; cases k'
        exact absurd hb (hfree j y M e f k)
      · rw [Inj.with_ne _ _ hj'] at k'
        rw [AHeap.get_add_ne _ _ hj'] at e'
        exact hw.inj j j' y y' M M' e e' f f' k k' hb

/-- An object is given up. -/
theorem WR.kill {w0 : World} {β : Inj} {h : AHeap} {w : World} (hw : WR w0 β h w) {o : Nat} {x : AObj} (ho : h.get o = some x) : WR w0 β (h.put o .dead) w := by
  refine ⟨hw.below, hw.dom, fun j y e => ?_, fun j y M e k => ?_, fun j j' y y' M M' e e' f f' k k' hb => ?_⟩
  · rw [AHeap.get_put] at e
    by_cases hj : j = o
    · subst hj; exact hw.wf j x ho
    · rw [if_neg hj] at e; exact hw.wf j y e
  · rw [AHeap.get_put] at e
    by_cases hj : j = o
    · rw [if_pos hj] at e; cases e; trivial
    · rw [if_neg hj] at e; exact hw.obj j y M e k
  · rw [AHeap.get_put] at e e'
    by_cases hj : j = o
    · rw [if_pos hj] at e; cases e; cases f
    · by_cases hj' : j' = o
      · rw [if_pos hj'] at e'; cases e'; cases f'
      · rw [if_neg hj] at e; rw [if_neg hj'] at e'
        exact hw.inj j j' y y' M M' e e' f f' k k' hb

/-- An object that owns its block turns, and its block with it; all other blocks stay. -/
theorem WR.turn {w0 : World} {β : Inj} {h : AHeap} {w w' : World} (hw : WR w0 β h w) {o : Nat} {x y : AObj} {L : Loc} (ho : h.get o = some x) (hx : x.own = true) (hL : β o = some L)
    (hob : ObjR w0.heap.size β w'.heap L y) (hos : w'.os = w.os) (ht : w'.tape = w.tape) (hout : w'.output = w.output) (hsz : w'.heap.size = w.heap.size) (hoth : ∀ k, k ≠ L.b → w'.heap[k]? = w.heap[k]?) :
    WR w0 β (h.put o y) w' ∧ Goes β h β (h.put o y) := by
  have hB : w0.heap.size ≤ L.b := (hw.obj o x L ho hL).owned hx
  refine ⟨⟨⟨hos.trans hw.below.os, ht.trans hw.below.tape, hout.trans hw.below.output, by rw [hsz]; exact hw.below.size, fun k hk => ?_⟩, hw.dom, fun j z e => ?_, fun j z M e k => ?_,
    fun j j' z z' M M' e e' f f' k k' hb => ?_⟩, ⟨fun _ _ => rfl, Nat.le_refl _, fun j _ hj => ?_⟩⟩
  · rw [hoth k (by omega)]; exact hw.below.block k hk
  · rw [AHeap.get_put] at e
    by_cases hj : j = o
    · subst hj; exact hw.wf j x ho
    · rw [if_neg hj] at e; exact hw.wf j z e
  · rw [AHeap.get_put] at e
    by_cases hj : j = o
    · subst hj; rw [if_pos rfl] at e; cases e
      rw [hL] at k; cases k; exact hob
    · rw [if_neg hj] at e
      by_cases hz : M.b = L.b
      · by_cases hzo : z.own = true
        · exact absurd (hw.inj j o z x M L e ho hzo hx k hL hz) hj
        · cases z with
          | cells vs rw =>
            have : rw = false := by cases rw <;> simp_all [AObj.own]
            subst this
            obtain ⟨_, _, _, _, _, _, _, _, h6⟩ := hw.obj j _ M e k
            have := h6 rfl
            omega
          | dead => trivial
          | map es c => exact absurd rfl hzo
          | loop l => exact absurd rfl hzo
          | marks => exact absurd rfl hzo
          | keys m => exact absurd rfl hzo
          | raw ob => exact absurd rfl hzo
      · exact (hw.obj j z M e k).of_block (hoth _ hz)
  · rw [AHeap.get_put] at e e'
    by_cases hj : j = o
    · by_cases hj' : j' = o
      · rw [hj, hj']
      · subst hj; rw [if_neg hj'] at e'
        exact hw.inj j j' x z' M M' ho e' hx f' k k' hb
    · rw [if_neg hj] at e
      by_cases hj' : j' = o
      · subst hj'
        exact hw.inj j j' z x M M' e ho f hx k k' hb
      · rw [if_neg hj'] at e'
        exact hw.inj j j' z z' M M' e e' f f' k k' hb
  · exact AHeap.get_put_ne _ _ (fun e => by subst e; rw [hL] at hj; cases hj)

end Go.Am
