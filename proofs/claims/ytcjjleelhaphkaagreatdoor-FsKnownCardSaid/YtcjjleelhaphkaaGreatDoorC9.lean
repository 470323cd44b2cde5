/-
  Tables: of types, checked; of functions.
-/
import Derived.Test.YtcjjleelhaphkaaGreatDoorC8
set_option linter.unusedVariables false
set_option linter.unusedSimpArgs false
namespace Go.Am

namespace PT
variable {α : Type}

/-- All that a table holds, with the numbers. -/
def allB (p : Nat → α → Bool) : PT α → (Nat → Nat) → Bool
  | .leaf, _ => true
  | .node l v r, key => (match v with | none => true | some x => p (key 0) x) && allB p l (fun k => key (2 * k + 1)) && allB p r (fun k => key (2 * k + 2))

theorem allB_get {p : Nat → α → Bool} : ∀ (t : PT α) (key : Nat → Nat), allB p t key = true → ∀ k x, t.get k = some x → p (key k) x = true
  | .leaf, _, _, k, x, h => by cases k <;> cases h
  | .node l v r, key, ha, k, x, h => by
    simp only [allB, Bool.and_eq_true] at ha
    cases k with
    | zero =>
      simp only [get_l, get_z, get_s] at h
      subst h
      exact ha.1.1
    | succ k =>
      simp only [get_l, get_z, get_s] at h
      by_cases hk : k % 2 = 0
      · simp only [hk, Nat.beq_refl, cond_true] at h
        have := allB_get l _ ha.1.2 _ _ h
        have e : 2 * (k / 2) + 1 = k + 1 := by omega
        rwa [e] at this
      · rw [beq0 hk] at h
        simp only [cond_false] at h
        have := allB_get r _ ha.2 _ _ h
        have e : 2 * (k / 2) + 2 = k + 1 := by omega
        rwa [e] at this
end PT

/-! ### Types -/

mutual
/-- Is it that value, with no address in it? -/
def vrB : AV → Value → Bool
  | .bool b, .bool c => b == c
  | .int k n, .int k' m => decide (k = k') && decide (n = m)
  | .str [], .string s => Nat.beq s.size 0
  | .nilptr, .pointer none => true
  | .nilslice, .slice none l c => Nat.beq l 0 && Nat.beq c 0
  | .nilmap, .map none => true
  | .nilfunc, .nilFunc => true
  | .agg xs, .agg vs => vrLB xs vs.toList
  | _, _ => false
def vrLB : List AV → List Value → Bool
  | [], [] => true
  | x :: xs, V :: Vs => vrB x V && vrLB xs Vs
  | _, _ => false
end

mutual
theorem vrB_spec : ∀ {x : AV} {V : Value}, vrB x V = true → VR (fun _ => none) x V := by
  intro x V h
  unfold vrB at h
  split at h
  · simp only [VR]; simp at h; rw [h]
  · simp only [Bool.and_eq_true, decide_eq_true_eq] at h
    simp only [VR]; rw [h.1, h.2]
  · simp only [VR]
    rename_i s
    have : s.data = #[] := Array.eq_empty_of_size_eq_zero (Nat.eq_of_beq_eq_true h)
    congr 1
    rcases s with ⟨d⟩
    simp at this
    subst this; rfl
  · simp only [VR]
  · simp only [Bool.and_eq_true] at h
    simp only [VR]; rw [Nat.eq_of_beq_eq_true h.1, Nat.eq_of_beq_eq_true h.2]
  · simp only [VR]
  · simp only [VR]
  · rename_i xs vs
    simp only [VR]
    exact ⟨vs.toList, vrLB_spec h, by simp⟩
  · cases h
theorem vrLB_spec : ∀ {xs : List AV} {Vs : List Value}, vrLB xs Vs = true → VRL (fun _ => none) xs Vs := by
  intro xs Vs h
  unfold vrLB at h
  split at h
  · exact VRL.nil
  · simp only [Bool.and_eq_true] at h
    exact VRL.cons (vrB_spec h.1) (vrLB_spec h.2)
  · cases h
end

def isNoneB {α : Type} : Option α → Bool
  | none => true
  | some _ => false

def fieldB (P : Program) (f : Go.Field) (x : Nat × Nat × Nat) : Bool :=
  Nat.beq f.offset x.1 && (match P.info? f.type with | some i => Nat.beq i.size x.2.1 | none => false) && !isNoneB (P.underlying f.type) && (isAggD (P.underlying f.type) == Nat.beq x.2.2 4) &&
    (match x.2.2 with
     | 1 => match P.underlying f.type with | some (.int _) => true | _ => false
     | 2 => match P.underlying f.type with | some .string => true | _ => false
     | 3 => match P.underlying f.type with | some .bool => true | _ => false
     | _ => true) && decide (f.name ≠ "_")

def fieldsB (P : Program) : List Go.Field → List (Nat × Nat × Nat) → Bool
  | [], [] => true
  | f :: fs, x :: xs => fieldB P f x && fieldsB P fs xs
  | _, _ => false

def keyB (kind : Nat) (d : Option TypeDesc) : Bool :=
  match kind, d with
  | 1, some (.int _) => true
  | 2, some .string => true
  | 3, some .bool => true
  | _, _ => false

def descB (P : Program) (t : Nat) (a : ADesc) : Bool :=
  match a, P.underlying t with
  | .struct fs, some (.struct fields) => fieldsB P fields.toList fs && !P.stoodInHeld t && !P.eqGuardType P.depth t
  | .slice e, some (.slice e') => Nat.beq e e'
  | .array n e, some (.array n' e') => Nat.beq n n' && Nat.beq e e'
  | .map kind e, some (.map key e') => Nat.beq e e' && keyB kind (P.underlying key)
  | .str, some .string => true
  | .bool, some .bool => true
  | .int k, some (.int k') => decide (k = k')
  | .ptr, some (.pointer _) => true
  | .func, some (.func _ _ _) => true
  | .other, some _ => true
  | _, _ => false

def tyB (P : Program) (t : Nat) (ty : ATy) : Bool :=
  (match P.info? t with
   | some i => Nat.beq i.size ty.size && Nat.beq i.bytes ty.bytes && (match i.zero with | some z => vrB ty.zero z | none => false)
   | none => false) && descB P t ty.desc && (isAggD (P.underlying t) == ty.agg) && ty.zero.noTup && Nat.beq ty.zero.cells.length ty.size

theorem fieldsB_spec {P : Program} : ∀ {fields : List Go.Field} {fs : List (Nat × Nat × Nat)}, fieldsB P fields fs = true → fields.length = fs.length ∧ ∀ (i : Nat) x, fs[i]? = some x → ∃ f, fields[i]? = some f ∧ FieldOK P f x
  | [], [], _ => ⟨rfl, fun i x h => by simp at h⟩
  | [], _ :: _, h => by cases h
  | _ :: _, [], h => by cases h
  | f :: fields, x :: fs, h => by
    simp only [fieldsB, Bool.and_eq_true] at h
    obtain ⟨h1, h2⟩ := fieldsB_spec h.2
    refine ⟨by simp [h1], fun i y hy => ?_⟩
    cases i with
    | succ i => simpa using h2 i y (by simpa using hy)
    | zero =>
      simp only [List.getElem?_cons_zero, Option.some.injEq] at hy
      subst hy
      refine ⟨f, rfl, ?_⟩
      obtain ⟨hf, _⟩ := h
      simp only [fieldB, Bool.and_eq_true, decide_eq_true_eq] at hf
      obtain ⟨⟨⟨⟨⟨a1, a2⟩, a3⟩, a4⟩, a5⟩, a6⟩ := hf
      refine ⟨Nat.eq_of_beq_eq_true a1, ?_, ?_, by simpa using a4, fun e => ?_, fun e => ?_, fun e => ?_, a6⟩
      · split at a2
        · rename_i i hi; exact ⟨i, hi, Nat.eq_of_beq_eq_true a2⟩
        · cases a2
      · cases hu : P.underlying f.type with
        | none => rw [hu] at a3; cases a3
        | some d => exact ⟨d, rfl⟩
      · rw [e] at a5
        simp only at a5
        split at a5
        · rename_i k hk; exact ⟨k, hk⟩
        · cases a5
      · rw [e] at a5
        simp only at a5
        split at a5
        · rename_i hk; exact hk
        · cases a5
      · rw [e] at a5
        simp only at a5
        split at a5
        · rename_i hk; exact hk
        · cases a5

theorem keyB_spec {kind : Nat} {d : Option TypeDesc} (h : keyB kind d = true) : KeyOK kind d := by
  unfold keyB at h
  split at h
  · exact .inl ⟨rfl, _, rfl⟩
  · exact .inr (.inl ⟨rfl, rfl⟩)
  · exact .inr (.inr ⟨rfl, rfl⟩)
  · cases h

theorem descB_spec {P : Program} {t : Nat} {a : ADesc} (h : descB P t a = true) : DescOK P t a := by
  unfold descB at h
  split at h
  · rename_i fs fields hu
    simp only [Bool.and_eq_true, Bool.not_eq_true'] at h
    obtain ⟨h1, h2⟩ := fieldsB_spec h.1.1
    exact ⟨fields, hu, by simpa using h1, fun i x hx => by
      obtain ⟨f, k1, k2⟩ := h2 i x hx
      exact ⟨f, by simpa using k1, k2⟩, h.1.2, h.2⟩
  · rename_i hu; rw [← Nat.eq_of_beq_eq_true h] at hu; exact hu
  · rename_i hu
    simp only [Bool.and_eq_true] at h
    rw [← Nat.eq_of_beq_eq_true h.1, ← Nat.eq_of_beq_eq_true h.2] at hu; exact hu
  · rename_i key e' hu
    simp only [Bool.and_eq_true] at h
    rw [← Nat.eq_of_beq_eq_true h.1] at hu
    exact ⟨key, hu, keyB_spec h.2⟩
  · rename_i hu; exact hu
  · rename_i hu; exact hu
  · rename_i hu; rw [← of_decide_eq_true h] at hu; exact hu
  · rename_i hu; exact ⟨_, hu⟩
  · rename_i hu; exact ⟨_, _, _, hu⟩
  · rename_i hu; exact ⟨_, hu⟩
  · cases h

theorem tyB_spec {P : Program} {t : Nat} {ty : ATy} (h : tyB P t ty = true) : TyOK P t ty := by
  simp only [tyB, Bool.and_eq_true] at h
  obtain ⟨⟨⟨⟨h1, h2⟩, h3⟩, h4⟩, h5⟩ := h
  refine ⟨?_, descB_spec h2, by simpa using h3, h4, Nat.eq_of_beq_eq_true h5⟩
  split at h1
  · rename_i i hi
    simp only [Bool.and_eq_true] at h1
    obtain ⟨⟨a1, a2⟩, a3⟩ := h1
    split at a3
    · rename_i z hz
      exact ⟨i, z, hi, Nat.eq_of_beq_eq_true a1, Nat.eq_of_beq_eq_true a2, hz, vrB_spec a3⟩
    · cases a3
  · cases h1

theorem tabOK_of {P : Program} {T : Tab} (h : T.allB (tyB P) id = true) : TabOK P T := fun t _ ht => tyB_spec (PT.allB_get T id h t _ ht)

/-! ### Functions -/

/-- A table of functions, each with the program's word for it. -/
def FnOK (P : Program) (f : Nat) (A : AFn) : Prop := P.funcs[f]? = some A.fn ∧ ¬ A.fn.name = "runtime.NumGoroutine"

def FsOK (P : Program) (Fs : PT AFn) : Prop := ∀ f A, Fs.get f = some A → FnOK P f A

def PT.AllP {α : Type} (p : Nat → α → Prop) : PT α → (Nat → Nat) → Prop
  | .leaf, _ => True
  | .node l v r, key => (match v with | none => True | some x => p (key 0) x) ∧ AllP p l (fun k => key (2 * k + 1)) ∧ AllP p r (fun k => key (2 * k + 2))

theorem PT.allP_get {α : Type} {p : Nat → α → Prop} : ∀ (t : PT α) (key : Nat → Nat), AllP p t key → ∀ k x, t.get k = some x → p (key k) x
  | .leaf, _, _, k, x, h => by cases k <;> cases h
  | .node l v r, key, ha, k, x, h => by
    obtain ⟨a1, a2, a3⟩ := ha
    cases k with
    | zero =>
      simp only [get_l, get_z, get_s] at h
      subst h
      exact a1
    | succ k =>
      simp only [get_l, get_z, get_s] at h
      by_cases hk : k % 2 = 0
      · simp only [hk, Nat.beq_refl, cond_true] at h
        have := allP_get l _ a2 _ _ h
        have e : 2 * (k / 2) + 1 = k + 1 := by omega
        rwa [e] at this
      · rw [beq0 hk] at h
        simp only [cond_false] at h
        have := allP_get r _ a3 _ _ h
        have e : 2 * (k / 2) + 2 = k + 1 := by omega
        rwa [e] at this

end Go.Am
