/-
  Texts in rising order: the order is one, and a rising list is told by what it holds.
-/
import Derived.Test.YtpofhpkdjcnhmaaP1
set_option linter.unusedVariables false
set_option linter.unusedSimpArgs false
namespace Go.Am

theorem bl_irrefl : ∀ (a : List UInt8), Op.bytesLess a a = false
  | [] => rfl
  | x :: a => by simp [Op.bytesLess, bl_irrefl a, UInt8.lt_irrefl]

theorem bl_trans : ∀ {a b c : List UInt8}, Op.bytesLess a b = true → Op.bytesLess b c = true → Op.bytesLess a c = true
  | a, b, [], _, h => by cases b <;> simp [Op.bytesLess] at h
  | [], _, z :: c, _, _ => rfl
  | x :: a, [], z :: c, h, _ => by simp [Op.bytesLess] at h
  | x :: a, y :: b, z :: c, h1, h2 => by
    simp only [Op.bytesLess, Bool.or_eq_true, decide_eq_true_eq, Bool.and_eq_true, beq_iff_eq] at h1 h2 ⊢
    rcases h1 with h1 | ⟨rfl, h1⟩
    · rcases h2 with h2 | ⟨rfl, h2⟩
      · exact .inl (UInt8.lt_trans h1 h2)
      · exact .inl h1
    · rcases h2 with h2 | ⟨rfl, h2⟩
      · exact .inl h2
      · exact .inr ⟨rfl, bl_trans h1 h2⟩

theorem bl_tri : ∀ (a b : List UInt8), Op.bytesLess a b = true ∨ a = b ∨ Op.bytesLess b a = true
  | [], [] => .inr (.inl rfl)
  | [], _ :: _ => .inl rfl
  | _ :: _, [] => .inr (.inr rfl)
  | x :: a, y :: b => by
    simp only [Op.bytesLess, Bool.or_eq_true, decide_eq_true_eq, Bool.and_eq_true, beq_iff_eq]
    by_cases hxy : x = y
    · subst hxy
      rcases bl_tri a b with h | h | h
      · exact .inl (.inr ⟨rfl, h⟩)
      · subst h; exact .inr (.inl rfl)
      · exact .inr (.inr (.inr ⟨rfl, h⟩))
    · by_cases hlt : x < y
      · exact .inl (.inl hlt)
      · refine .inr (.inr (.inl ?_))
        have h1 : y ≤ x := UInt8.not_lt.1 hlt
        exact UInt8.lt_of_le_of_ne h1 (fun e => hxy e.symm)

theorem bl_asymm {a b : List UInt8} (h : Op.bytesLess a b = true) : Op.bytesLess b a = false := by
  cases e : Op.bytesLess b a with
  | false => rfl
  | true => have := bl_trans h e; rw [bl_irrefl] at this; cases this

/-- A strictly rising list. -/
abbrev Rising (l : List (List UInt8)) : Prop := l.Pairwise fun a b => Op.bytesLess a b = true

theorem mem_insS1 {s x : List UInt8} : ∀ {l}, x ∈ insS s l ↔ x = s ∨ x ∈ l
  | [] => by simp [insS]
  | t :: l => by
    simp only [insS]
    split
    · simp only [List.mem_cons, mem_insS1 (l := l)]
      constructor
      · rintro (h | h | h)
        · exact .inr (.inl h)
        · exact .inl h
        · exact .inr (.inr h)
      · rintro (h | h | h)
        · exact .inr (.inl h)
        · exact .inl h
        · exact .inr (.inr h)
    · simp

theorem insS_rising {s : List UInt8} : ∀ {l}, Rising l → s ∉ l → Rising (insS s l)
  | [], _, _ => by simp [insS, Rising]
  | t :: l, h, hs => by
    simp only [Rising, List.pairwise_cons] at h
    simp only [List.mem_cons, not_or] at hs
    simp only [insS]
    split
    · rename_i hlt
      simp only [Rising, List.pairwise_cons]
      refine ⟨fun x hx => ?_, insS_rising h.2 hs.2⟩
      rcases mem_insS1.1 hx with rfl | hx
      · exact hlt
      · exact h.1 x hx
    · rename_i hlt
      have hst : Op.bytesLess s t = true := by
        rcases bl_tri s t with h1 | h1 | h1
        · exact h1
        · exact absurd h1 hs.1
        · rw [hlt] at h1; cases h1
      simp only [Rising, List.pairwise_cons]
      refine ⟨fun x hx => ?_, h.1, h.2⟩
      rcases List.mem_cons.1 hx with rfl | hx
      · exact hst
      · exact bl_trans hst (h.1 x hx)

theorem mem_sortS1 {x : List UInt8} : ∀ {l}, x ∈ sortS l ↔ x ∈ l
  | [] => by simp [sortS]
  | s :: l => by simp [sortS, mem_insS1, mem_sortS1 (l := l)]

theorem sortS_rising : ∀ {l : List (List UInt8)}, l.Nodup → Rising (sortS l)
  | [], _ => by simp [sortS, Rising]
  | s :: l, h => by
    rw [List.nodup_cons] at h
    exact insS_rising (sortS_rising h.2) fun hc => h.1 (mem_sortS1.1 hc)

theorem rising_nodup {l : List (List UInt8)} (h : Rising l) : l.Nodup :=
  h.imp fun {a b} hab e => by subst e; rw [bl_irrefl] at hab; cases hab

/-- Rising lists with the same members are the same. -/
theorem rising_ext : ∀ {a b : List (List UInt8)}, Rising a → Rising b → (∀ x, x ∈ a ↔ x ∈ b) → a = b
  | [], [], _, _, _ => rfl
  | [], y :: b, _, _, h => by have := (h y).2 List.mem_cons_self; cases this
  | x :: a, [], _, _, h => by have := (h x).1 List.mem_cons_self; cases this
  | x :: a, y :: b, ha, hb, h => by
    have ha' := ha
    have hb' := hb
    simp only [Rising, List.pairwise_cons] at ha' hb'
    have hxy : x = y := by
      rcases List.mem_cons.1 ((h x).1 List.mem_cons_self) with e | e
      · exact e
      · rcases List.mem_cons.1 ((h y).2 List.mem_cons_self) with e2 | e2
        · exact e2.symm
        · have h1 := hb'.1 x e
          have h2 := ha'.1 y e2
          rw [bl_asymm h1] at h2; cases h2
    subst hxy
    congr 1
    refine rising_ext ha'.2 hb'.2 fun z => ?_
    have hz := h z
    simp only [List.mem_cons] at hz
    constructor
    · intro hza
      rcases hz.1 (.inr hza) with e | e
      · subst e; have := ha'.1 z hza; rw [bl_irrefl] at this; cases this
      · exact e
    · intro hzb
      rcases hz.2 (.inr hzb) with e | e
      · subst e; have := hb'.1 z hzb; rw [bl_irrefl] at this; cases this
      · exact e

theorem rising_filter {l : List (List UInt8)} (h : Rising l) (p : List UInt8 → Bool) : Rising (l.filter p) := h.filter p

theorem sortS_rising_id {l : List (List UInt8)} (h : Rising l) : sortS l = l :=
  rising_ext (sortS_rising (rising_nodup h)) h fun x => mem_sortS1

theorem insS_len (s : List UInt8) : ∀ l, (insS s l).length = l.length + 1
  | [] => rfl
  | t :: l => by
    simp only [insS]
    split
    · simp [insS_len s l]
    · simp
theorem sortS_len : ∀ l, (sortS l).length = l.length
  | [] => rfl
  | s :: l => by simp [sortS, insS_len, sortS_len l]

theorem nodup_len {a b : List (List UInt8)} (ha : a.Nodup) (h : ∀ x ∈ a, x ∈ b) : a.length ≤ b.length := by
  induction a generalizing b with
  | nil => simp
  | cons x a ih =>
    rw [List.nodup_cons] at ha
    have hx : x ∈ b := h x List.mem_cons_self
    have := ih (b := b.erase x) ha.2 fun y hy => by
      rw [List.mem_erase_of_ne (show y ≠ x from fun e => ha.1 (e ▸ hy))]; exact h y (List.mem_cons_of_mem _ hy)
    rw [List.length_erase_of_mem hx] at this
    have hb : 0 < b.length := List.length_pos_of_mem hx
    simp only [List.length_cons]; omega

theorem nodup_len_eq {a b : List (List UInt8)} (ha : a.Nodup) (hb : b.Nodup) (h : ∀ x, x ∈ a ↔ x ∈ b) : a.length = b.length :=
  Nat.le_antisymm (nodup_len ha fun x hx => (h x).1 hx) (nodup_len hb fun x hx => (h x).2 hx)

/-- A part, and what is not in it. -/
theorem split_len {a : List (List UInt8)} (p : List UInt8 → Bool) : (a.filter p).length + (a.filter fun x => !p x).length = a.length := by
  induction a with
  | nil => rfl
  | cons x a ih =>
    simp only [List.filter_cons]
    cases p x <;> simp <;> omega

end Go.Am
