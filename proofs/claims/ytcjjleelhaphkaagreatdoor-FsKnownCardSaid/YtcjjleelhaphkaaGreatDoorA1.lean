/-
  The data of the abstract machine 'Am': a table by numbers (PT), values, objects, the heap. Plain Lean, no Go program in it.
-/
import GoSem.Core.World
set_option linter.unusedVariables false
set_option linter.unusedSimpArgs false
namespace Go.Am

/-- A table by numbers: the root is 0; an odd number lies left, another right. -/
inductive PT (α : Type) where
  | leaf : PT α
  | node (l : PT α) (v : Option α) (r : PT α) : PT α

namespace PT
variable {α : Type}

def getC : PT α → Nat → Option α
  | .leaf, _ => none
  | .node l v r, k =>
    match k with
    | 0 => v
    | k + 1 => bif Nat.beq (k % 2) 0 then l.getC (k / 2) else r.getC (k / 2)

def setC : Nat → PT α → Nat → Option α → PT α
  | 0, t, _, _ => t
  | f + 1, .leaf, k, x =>
    match k with
    | 0 => .node .leaf x .leaf
    | k + 1 => bif Nat.beq (k % 2) 0 then .node (setC f .leaf (k / 2) x) none .leaf else .node .leaf none (setC f .leaf (k / 2) x)
  | f + 1, .node l v r, k, x =>
    match k with
    | 0 => .node l x r
    | k + 1 => bif Nat.beq (k % 2) 0 then .node (setC f l (k / 2) x) v r else .node l v (setC f r (k / 2) x)

/-- What stands at a number: by the recursors alone, which the kernel reckons fastest. -/
noncomputable def get (t : PT α) : Nat → Option α :=
  PT.rec (motive := fun _ => Nat → Option α) (fun _ => none)
    (fun _ v _ gl gr k => Nat.rec (motive := fun _ => Option α) v (fun k' _ => cond (Nat.beq (Nat.mod k' 2) 0) (gl (Nat.div k' 2)) (gr (Nat.div k' 2))) k) t

noncomputable def setF (f : Nat) : PT α → Nat → Option α → PT α :=
  Nat.rec (motive := fun _ => PT α → Nat → Option α → PT α) (fun t _ _ => t)
    (fun _ ih t k x => PT.rec (motive := fun _ => PT α)
      (Nat.rec (motive := fun _ => PT α) (.node .leaf x .leaf) (fun k' _ => cond (Nat.beq (Nat.mod k' 2) 0) (.node (ih .leaf (Nat.div k' 2) x) none .leaf) (.node .leaf none (ih .leaf (Nat.div k' 2) x))) k)
      (fun l v r _ _ => Nat.rec (motive := fun _ => PT α) (.node l x r) (fun k' _ => cond (Nat.beq (Nat.mod k' 2) 0) (.node (ih l (Nat.div k' 2) x) v r) (.node l v (ih r (Nat.div k' 2) x))) k) t) f

theorem get_l (k : Nat) : (leaf : PT α).get k = none := rfl
theorem get_z (l : PT α) (v : Option α) (r : PT α) : (node l v r).get 0 = v := rfl
theorem get_s (l : PT α) (v : Option α) (r : PT α) (k : Nat) : (node l v r).get (k + 1) = bif Nat.beq (k % 2) 0 then l.get (k / 2) else r.get (k / 2) := rfl
theorem setF_0 (t : PT α) (k : Nat) (x : Option α) : setF 0 t k x = t := rfl
theorem setF_lz (f : Nat) (x : Option α) : setF (f + 1) .leaf 0 x = .node .leaf x .leaf := rfl
theorem setF_ls (f k : Nat) (x : Option α) : setF (f + 1) .leaf (k + 1) x = bif Nat.beq (k % 2) 0 then .node (setF f .leaf (k / 2) x) none .leaf else .node .leaf none (setF f .leaf (k / 2) x) := rfl
theorem setF_nz (f : Nat) (l : PT α) (v : Option α) (r : PT α) (x : Option α) : setF (f + 1) (.node l v r) 0 x = .node l x r := rfl
theorem setF_ns (f : Nat) (l : PT α) (v : Option α) (r : PT α) (k : Nat) (x : Option α) : setF (f + 1) (.node l v r) (k + 1) x = bif Nat.beq (k % 2) 0 then .node (setF f l (k / 2) x) v r else .node l v (setF f r (k / 2) x) := rfl

@[csimp] theorem get_eq_getC : @get = @getC := by
  funext α t k
  induction t generalizing k with
  | leaf => cases k <;> rfl
  | node l v r ihl ihr =>
    cases k with
    | zero => rfl
    | succ k => simp only [get_s, getC, ihl, ihr]

@[csimp] theorem setF_eq_setC : @setF = @setC := by
  funext α f
  induction f with
  | zero => funext t k x; cases t <;> cases k <;> rfl
  | succ f ih =>
    funext t k x
    cases t <;> cases k <;> simp only [setF_lz, setF_ls, setF_nz, setF_ns, setC, ih]

def set (t : PT α) (k : Nat) (x : Option α) : PT α := setF (k + 1) t k x

theorem beq0 {n : Nat} (h : ¬ n % 2 = 0) : Nat.beq (n % 2) 0 = false := by
  have e : n % 2 = 1 := by omega
  rw [e]; rfl

theorem get_leaf (k : Nat) : (leaf : PT α).get k = none := rfl

theorem get_setF : ∀ (f : Nat) (t : PT α) (k j : Nat) (x : Option α), k < f → (setF f t k x).get j = if j = k then x else t.get j := by
  intro f
  induction f with
  | zero => intro t k j x h; omega
  | succ f ih =>
    intro t k j x h
    cases t with
    | leaf =>
      cases k with
      | zero => cases j with
        | zero => simp [setF_0, setF_lz, setF_ls, setF_nz, setF_ns, get_l, get_z, get_s]
        | succ j => simp [setF_0, setF_lz, setF_ls, setF_nz, setF_ns, get_l, get_z, get_s]
      | succ k =>
        have hlt : k / 2 < f := by omega
        cases j with
        | zero =>
          rw [if_neg (by omega), get_leaf]
          by_cases hk : k % 2 = 0
          · simp [setF_0, setF_lz, setF_ls, setF_nz, setF_ns, hk, get_l, get_z, get_s]
          · have hk' : Nat.beq (k % 2) 0 = false := beq0 hk
            simp [setF_0, setF_lz, setF_ls, setF_nz, setF_ns, hk', get_l, get_z, get_s]
        | succ j =>
          rw [get_leaf]
          by_cases hk : k % 2 = 0
          · simp only [setF_0, setF_lz, setF_ls, setF_nz, setF_ns, hk, Nat.beq_refl, cond_true, get_l, get_z, get_s]
            by_cases hj : j % 2 = 0
            · simp only [hj, Nat.beq_refl, cond_true]
              rw [ih _ _ _ _ hlt, get_leaf]
              by_cases e : j / 2 = k / 2
              · rw [if_pos e, if_pos (by omega)]
              · rw [if_neg e, if_neg (by omega)]
            · have hj' : Nat.beq (j % 2) 0 = false := beq0 hj
              simp only [hj', cond_false]
              rw [if_neg (by omega)]
          · have hk' : Nat.beq (k % 2) 0 = false := beq0 hk
            simp only [setF_0, setF_lz, setF_ls, setF_nz, setF_ns, hk', cond_false, get_l, get_z, get_s]
            by_cases hj : j % 2 = 0
            · simp only [hj, Nat.beq_refl, cond_true]
              rw [if_neg (by omega)]
            · have hj' : Nat.beq (j % 2) 0 = false := beq0 hj
              simp only [hj', cond_false]
              rw [ih _ _ _ _ hlt, get_leaf]
              by_cases e : j / 2 = k / 2
              · rw [if_pos e, if_pos (by omega)]
              · rw [if_neg e, if_neg (by omega)]
    | node l v r =>
      cases k with
      | zero => cases j with
        | zero => simp [setF_0, setF_lz, setF_ls, setF_nz, setF_ns, get_l, get_z, get_s]
        | succ j => simp [setF_0, setF_lz, setF_ls, setF_nz, setF_ns, get_l, get_z, get_s]
      | succ k =>
        have hlt : k / 2 < f := by omega
        cases j with
        | zero =>
          rw [if_neg (by omega)]
          by_cases hk : k % 2 = 0
          · simp [setF_0, setF_lz, setF_ls, setF_nz, setF_ns, hk, get_l, get_z, get_s]
          · have hk' : Nat.beq (k % 2) 0 = false := beq0 hk
            simp [setF_0, setF_lz, setF_ls, setF_nz, setF_ns, hk', get_l, get_z, get_s]
        | succ j =>
          by_cases hk : k % 2 = 0
          · simp only [setF_0, setF_lz, setF_ls, setF_nz, setF_ns, hk, Nat.beq_refl, cond_true, get_l, get_z, get_s]
            by_cases hj : j % 2 = 0
            · simp only [hj, Nat.beq_refl, cond_true]
              rw [ih _ _ _ _ hlt]
              by_cases e : j / 2 = k / 2
              · rw [if_pos e, if_pos (by omega)]
              · rw [if_neg e, if_neg (by omega)]
            · have hj' : Nat.beq (j % 2) 0 = false := beq0 hj
              simp only [hj', cond_false]
              rw [if_neg (by omega)]
          · have hk' : Nat.beq (k % 2) 0 = false := beq0 hk
            simp only [setF_0, setF_lz, setF_ls, setF_nz, setF_ns, hk', cond_false, get_l, get_z, get_s]
            by_cases hj : j % 2 = 0
            · simp only [hj, Nat.beq_refl, cond_true]
              rw [if_neg (by omega)]
            · have hj' : Nat.beq (j % 2) 0 = false := beq0 hj
              simp only [hj', cond_false]
              rw [ih _ _ _ _ hlt]
              by_cases e : j / 2 = k / 2
              · rw [if_pos e, if_pos (by omega)]
              · rw [if_neg e, if_neg (by omega)]

theorem get_set (t : PT α) (k j : Nat) (x : Option α) : (t.set k x).get j = if j = k then x else t.get j :=
  get_setF (k + 1) t k j x (by omega)

theorem get_set_self (t : PT α) (k : Nat) (x : Option α) : (t.set k x).get k = x := by rw [get_set, if_pos rfl]

theorem get_set_ne (t : PT α) {k j : Nat} (x : Option α) (h : j ≠ k) : (t.set k x).get j = t.get j := by rw [get_set, if_neg h]

/-- A table out of rows. -/
def ofList : List (Nat × α) → PT α
  | [] => .leaf
  | (k, x) :: l => (ofList l).set k (some x)

theorem mem_of_get : ∀ {l : List (Nat × α)} {k : Nat} {x : α}, (ofList l).get k = some x → (k, x) ∈ l
  | [], k, x, h => by simp [ofList, get_leaf] at h
  | (j, y) :: l, k, x, h => by
    rw [ofList, get_set] at h
    by_cases e : k = j
    · rw [if_pos e] at h; cases h; subst e; exact List.mem_cons_self
    · rw [if_neg e] at h; exact List.mem_cons_of_mem _ (mem_of_get h)
end PT

/-- Values: an object by its number, and a place in it (in cells). 'slice o off len esz': len elements of esz cells each. 'eslice': a slice that is not nil, without elements, of which no more is known. -/
inductive AV where
  | bool (b : Bool)
  | int (k : IntKind) (n : Int)
  | str (s : List UInt8)
  | nilptr
  | ptr (o off : Nat)
  | nilslice
  | eslice
  | slice (o off len esz : Nat)
  | nilmap
  | map (o : Nat)
  | nilfunc
  | func (f : Nat) (first captured : List AV)
  | yield (o : Nat)
  | agg (cs : List AV)
  | tuple (vs : List AV)
  deriving Inhabited

/-- Is it a value of one cell? -/
def AV.one : AV → Bool
  | .agg _ => false
  | .tuple _ => false
  | _ => true

/-- Is it no tuple? -/
def AV.noTup : AV → Bool
  | .tuple _ => false
  | _ => true

/-- Its cells. -/
def AV.cells : AV → List AV
  | .agg cs => cs
  | v => [v]

mutual
def AV.beq : AV → AV → Bool
  | .bool a, .bool b => a == b
  | .int j a, .int k b => decide (j = k) && decide (a = b)
  | .str a, .str b => decide (a = b)
  | .nilptr, .nilptr => true
  | .ptr a i, .ptr b j => Nat.beq a b && Nat.beq i j
  | .nilslice, .nilslice => true
  | .eslice, .eslice => true
  | .slice a i n e, .slice b j m f => Nat.beq a b && Nat.beq i j && Nat.beq n m && Nat.beq e f
  | .nilmap, .nilmap => true
  | .map a, .map b => Nat.beq a b
  | .nilfunc, .nilfunc => true
  | .func f a c, .func g b d => Nat.beq f g && AV.beqL a b && AV.beqL c d
  | .yield a, .yield b => Nat.beq a b
  | .agg a, .agg b => AV.beqL a b
  | .tuple a, .tuple b => AV.beqL a b
  | _, _ => false
def AV.beqL : List AV → List AV → Bool
  | [], [] => true
  | x :: xs, y :: ys => AV.beq x y && AV.beqL xs ys
  | _, _ => false
end

mutual
theorem AV.eq_of_beq : ∀ {a b : AV}, AV.beq a b = true → a = b
  | .bool a, b, h => by cases b <;> simp_all [AV.beq]
  | .int j a, b, h => by cases b <;> simp_all [AV.beq]
  | .str a, b, h => by cases b <;> simp_all [AV.beq]
  | .nilptr, b, h => by cases b <;> simp_all [AV.beq]
  | .ptr a i, b, h => by cases b <;> simp_all [AV.beq, Nat.beq_eq]
  | .nilslice, b, h => by cases b <;> simp_all [AV.beq]
  | .eslice, b, h => by cases b <;> simp_all [AV.beq]
  | .slice a i n e, b, h => by cases b <;> simp_all [AV.beq, Nat.beq_eq]
  | .nilmap, b, h => by cases b <;> simp_all [AV.beq]
  | .map a, b, h => by cases b <;> simp_all [AV.beq, Nat.beq_eq]
  | .nilfunc, b, h => by cases b <;> simp_all [AV.beq]
  | .func f a c, b, h => by
    cases b <;> simp only [AV.beq, Bool.false_eq_true] at h
    simp only [Bool.and_eq_true, Nat.beq_eq] at h
    obtain ⟨⟨rfl, h1⟩, h2⟩ := h
    rw [AV.eq_of_beqL h1, AV.eq_of_beqL h2]
  | .yield a, b, h => by cases b <;> simp_all [AV.beq, Nat.beq_eq]
  | .agg a, b, h => by
    cases b <;> simp only [AV.beq, Bool.false_eq_true] at h
    rw [AV.eq_of_beqL h]
  | .tuple a, b, h => by
    cases b <;> simp only [AV.beq, Bool.false_eq_true] at h
    rw [AV.eq_of_beqL h]
theorem AV.eq_of_beqL : ∀ {a b : List AV}, AV.beqL a b = true → a = b
  | [], b, h => by cases b <;> simp_all [AV.beqL]
  | x :: xs, b, h => by
    cases b with
    | nil => simp [AV.beqL] at h
    | cons y ys =>
      simp only [AV.beqL, Bool.and_eq_true] at h
      rw [AV.eq_of_beq h.1, AV.eq_of_beqL h.2]
end

mutual
theorem AV.beq_refl : ∀ (a : AV), AV.beq a a = true
  | .bool a => by simp [AV.beq]
  | .int j a => by simp [AV.beq]
  | .str a => by simp [AV.beq]
  | .nilptr => rfl
  | .ptr a i => by simp [AV.beq]
  | .nilslice => rfl
  | .eslice => rfl
  | .slice a i n e => by simp [AV.beq]
  | .nilmap => rfl
  | .map a => by simp [AV.beq]
  | .nilfunc => rfl
  | .func f a c => by simp [AV.beq, AV.beq_reflL a, AV.beq_reflL c]
  | .yield a => by simp [AV.beq]
  | .agg a => by simp [AV.beq, AV.beq_reflL a]
  | .tuple a => by simp [AV.beq, AV.beq_reflL a]
theorem AV.beq_reflL : ∀ (a : List AV), AV.beqL a a = true
  | [] => rfl
  | x :: xs => by simp [AV.beqL, AV.beq_refl x, AV.beq_reflL xs]
end

abbrev AFrame := PT AV

/-- How a piece of code is left. -/
inductive AExit where
  | normal
  | exit (id : Nat)
  | ret
  deriving Inhabited

inductive ALoopState where
  | ready | busy | done | exhausted
  deriving Inhabited

/-- The record of a range over a function. -/
structure ALoop where
  state : ALoopState
  pending : AExit
  fn : Nat
  fr : AFrame
  nt : Nat
  params : List Tmp
  assign : Code
  body : Code

/-- Objects. 'cells vs rw': a row of cells; rw: it may be written. 'map es clock': as the model's map. 'marks': the block for the deferred calls of rounds. 'dead': no more is known of it. -/
inductive AObj where
  | cells (vs : List AV) (rw : Bool)
  | map (es : List (AV × AV × Nat)) (clock : Nat)
  | loop (l : ALoop)
  | keys (m : AV)
  | raw (ob : Obj)
  | marks
  | dead

structure AHeap where
  tbl : PT AObj
  next : Nat

namespace AHeap
def get (h : AHeap) (o : Nat) : Option AObj := h.tbl.get o
def put (h : AHeap) (o : Nat) (x : AObj) : AHeap := { h with tbl := h.tbl.set o (some x) }
def add (h : AHeap) (x : AObj) : AHeap := { tbl := h.tbl.set h.next (some x), next := h.next + 1 }

theorem get_put (h : AHeap) (o j : Nat) (x : AObj) : (h.put o x).get j = if j = o then some x else h.get j := PT.get_set _ _ _ _
theorem get_put_self (h : AHeap) (o : Nat) (x : AObj) : (h.put o x).get o = some x := by rw [get_put, if_pos rfl]
theorem get_put_ne (h : AHeap) {o j : Nat} (x : AObj) (e : j ≠ o) : (h.put o x).get j = h.get j := by rw [get_put, if_neg e]
theorem get_add (h : AHeap) (j : Nat) (x : AObj) : (h.add x).get j = if j = h.next then some x else h.get j := PT.get_set _ _ _ _
theorem get_add_self (h : AHeap) (x : AObj) : (h.add x).get h.next = some x := by rw [get_add, if_pos rfl]
theorem get_add_ne (h : AHeap) {j : Nat} (x : AObj) (e : j ≠ h.next) : (h.add x).get j = h.get j := by rw [get_add, if_neg e]
@[simp] theorem next_put (h : AHeap) (o : Nat) (x : AObj) : (h.put o x).next = h.next := rfl
@[simp] theorem next_add (h : AHeap) (x : AObj) : (h.add x).next = h.next + 1 := rfl
end AHeap

end Go.Am
