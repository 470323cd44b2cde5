/-
  What a plan that is right says.
-/
import Derived.Test.YtcjjleelhaphkaaGreatDoorC2
set_option linter.unusedVariables false
set_option linter.unusedSimpArgs false
namespace Go.Am

/-- k stands ahead of i. -/
def Bef (bef : List Nat) (i k : Nat) : Prop := Nat.testBit (bef.getD i 0) k = true

def dstAt (ops : Array Oper) (i : Nat) : Option Tmp := (ops[i]?).bind (·.dst)

theorem befOf_bit (acc : List Nat) (k : Nat) : ∀ (l : List Edge), Nat.testBit (befOf l acc) k = true ↔ ∃ e ∈ l, Region.binds .any e = true ∧ (k = e.on ∨ Nat.testBit (acc.getD e.on 0) k = true)
  | [] => by simp [befOf]
  | e :: es => by
    simp only [befOf]
    cases hb : Region.binds .any e with
    | false =>
      simp only [cond_false]
      rw [befOf_bit acc k es]
      simp [hb]
    | true =>
      simp only [cond_true]
      show Nat.testBit (((2 ^ e.on) ||| (acc.getD e.on 0)) ||| befOf es acc) k = true ↔ _
      rw [Nat.testBit_or, Nat.testBit_or, Nat.testBit_two_pow]
      simp only [Bool.or_eq_true, decide_eq_true_eq]
      rw [befOf_bit acc k es]
      simp only [List.mem_cons, exists_eq_or_imp, hb, true_and]
      constructor
      · rintro ((h | h) | h)
        · exact .inl (.inl h.symm)
        · exact .inl (.inr h)
        · exact .inr h
      · rintro ((h | h) | h)
        · exact .inl (.inl h.symm)
        · exact .inl (.inr h)
        · exact .inr h

theorem land_sub {a b : Nat} (h : Nat.beq (Nat.land a b) a = true) (k : Nat) (hk : Nat.testBit a k = true) : Nat.testBit b k = true := by
  have e : a &&& b = a := Nat.eq_of_beq_eq_true h
  rw [← e, Nat.testBit_and] at hk
  simp only [Bool.and_eq_true] at hk
  exact hk.2

theorem lor_bit (a i k : Nat) : Nat.testBit (Nat.lor a (2 ^ i)) k = true ↔ Nat.testBit a k = true ∨ k = i := by
  show Nat.testBit (a ||| 2 ^ i) k = true ↔ _
  rw [Nat.testBit_or, Nat.testBit_two_pow]
  simp only [Bool.or_eq_true, decide_eq_true_eq]
  exact ⟨fun h => h.imp id Eq.symm, fun h => h.imp id Eq.symm⟩

theorem orderOk_spec {T : Tab} {ops : List Oper} {bef : List Nat} : ∀ (l : List Nat) (done effs : Nat), orderOk T ops bef done effs l = true → ∀ pre i suf, l = pre ++ i :: suf →
    ∃ o, ops[i]? = some o ∧ ¬ Nat.testBit done i = true ∧ i ∉ pre ∧ (∀ k, Bef bef i k → Nat.testBit done k = true ∨ k ∈ pre) ∧
      (∀ k, (Nat.testBit effs k = true ∨ (k ∈ pre ∧ ∃ p, ops[k]? = some p ∧ isEff T p = true)) → Bef bef i k)
  | [], _, _, _, pre, i, suf, e => by cases pre <;> cases e
  | j :: l, done, effs, h, pre, i, suf, e => by
    simp only [orderOk] at h
    split at h
    · cases h
    · rename_i o ho
      simp only [Bool.and_eq_true, Bool.not_eq_true'] at h
      obtain ⟨⟨⟨h1, h2⟩, h3⟩, h4⟩ := h
      cases pre with
      | nil =>
        simp only [List.nil_append, List.cons.injEq] at e
        obtain ⟨rfl, rfl⟩ := e
        refine ⟨o, ho, by rw [h1]; simp, by simp, fun k hk => .inl (land_sub h2 k hk), fun k hk => ?_⟩
        rcases hk with hk | ⟨hk, _⟩
        · exact land_sub h3 k hk
        · cases hk
      | cons x pre =>
        simp only [List.cons_append, List.cons.injEq] at e
        obtain ⟨rfl, rfl⟩ := e
        obtain ⟨o', q1, q2, q3, q4, q5⟩ := orderOk_spec _ _ _ h4 pre i suf rfl
        rw [lor_bit] at q2
        refine ⟨o', q1, fun hh => q2 (.inl hh), ?_, fun k hk => ?_, fun k hk => ?_⟩
        · simp only [List.mem_cons, not_or]
          exact ⟨fun hh => q2 (.inr hh), q3⟩
        · rcases q4 k hk with hh | hh
          · rw [lor_bit] at hh
            rcases hh with hh | rfl
            · exact .inl hh
            · exact .inr List.mem_cons_self
          · exact .inr (List.mem_cons_of_mem _ hh)
        · refine q5 k ?_
          cases he : isEff T o with
          | true =>
            simp only [cond_true, lor_bit]
            rcases hk with hk | ⟨hk, p, hp, hpe⟩
            · exact .inl (.inl hk)
            · rcases List.mem_cons.1 hk with rfl | hk
              · exact .inl (.inr rfl)
              · exact .inr ⟨hk, p, hp, hpe⟩
          | false =>
            simp only [cond_false]
            rcases hk with hk | ⟨hk, p, hp, hpe⟩
            · exact .inl hk
            · rcases List.mem_cons.1 hk with rfl | hk
              · rw [ho] at hp; cases hp; rw [he] at hpe; cases hpe
              · exact .inr ⟨hk, p, hp, hpe⟩

structure PlanOK (T : Tab) (ops : Array Oper) (order bef : List Nat) : Prop where
  all : ∀ i, i < ops.size → i ∈ order
  edge : ∀ i o, ops[i]? = some o → ∀ e ∈ o.after, Region.binds .any e = true → e.on < i ∧ Bef bef i e.on
  clos : ∀ i o k, ops[i]? = some o → Bef bef i k → ∃ e ∈ o.after, Region.binds .any e = true ∧ (k = e.on ∨ Bef bef e.on k)
  ord : ∀ pre i suf, order = pre ++ i :: suf → i < ops.size ∧ i ∉ pre ∧ (∀ k, Bef bef i k → k ∈ pre) ∧ (∀ k ∈ pre, ∀ p, ops[k]? = some p → isEff T p = true → Bef bef i k)
  pair : ∀ i k o p t, i ≠ k → ops[i]? = some o → ops[k]? = some p → p.dst = some t → (t ∈ o.looksAt ops → Bef bef i k ∨ Bef bef k i) ∧ o.dst ≠ some t ∧ (isRead T o = true → Operand.tmp t ∈ o.op.operands → Bef bef i k)
  self : ∀ (i : Nat) (o : Oper) (t : Tmp), ops[i]? = some o → o.dst = some t → isRead T o = true → ¬ Operand.tmp t ∈ o.op.operands

theorem planOk_spec {T : Tab} {ops : Array Oper} {order bef : List Nat} (h : planOk T ops.toList order bef = true) : PlanOK T ops order bef := by
  simp only [planOk, Bool.and_eq_true, List.all_eq_true] at h
  obtain ⟨⟨h1, h2⟩, h3⟩ := h
  have mem : ∀ {i o}, ops[i]? = some o → (o, i) ∈ ops.toList.zipIdx := fun {i o} hi => by
    rw [List.mk_mem_zipIdx_iff_getElem?]
    simpa using hi
  have hbef : ∀ i o, ops[i]? = some o → bef.getD i 0 = befOf o.after.toList bef := fun i o hi => Nat.eq_of_beq_eq_true (h1 _ (mem hi)).1.1.1
  refine ⟨fun i hi => ?_, fun i o hi e he hb => ?_, fun i o k hi hk => ?_, fun pre i suf e => ?_, fun i k o p t hik hi hk ht => ?_, fun i o t hi ht hr hin => ?_⟩
  · have := (h1 _ (mem (Array.getElem?_eq_getElem hi))).1.2
    simpa using this
  · have hlt := (h1 _ (mem hi)).1.1.2 e (by simpa using he)
    rw [hb] at hlt
    simp only [Bool.not_true, Bool.false_or] at hlt
    refine ⟨by simpa using hlt, ?_⟩
    unfold Bef
    rw [hbef i o hi, befOf_bit]
    exact ⟨e, by simpa using he, hb, .inl rfl⟩
  · unfold Bef at hk
    rw [hbef i o hi, befOf_bit] at hk
    obtain ⟨e, he, hb, hk⟩ := hk
    exact ⟨e, by simpa using he, hb, hk⟩
  · obtain ⟨o, q1, q2, q3, q4, q5⟩ := orderOk_spec order 0 0 h2 pre i suf e
    refine ⟨?_, q3, fun k hk => ?_, fun k hk p hp hpe => q5 k (.inr ⟨hk, p, by simpa using hp, hpe⟩)⟩
    · rcases Nat.lt_or_ge i ops.size with hh | hh
      · exact hh
      · rw [List.getElem?_eq_none (by simpa using hh)] at q1; cases q1
    · rcases q4 k hk with hh | hh
      · simp at hh
      · exact hh
  · have := h3 _ (mem hi) _ (mem hk)
    simp only [pairOk, ht, Bool.or_eq_true, Bool.and_eq_true, Bool.not_eq_true', Array.toArray_toList] at this
    rcases this with hh | ⟨⟨a1, a2⟩, a3⟩
    · exact absurd (Nat.eq_of_beq_eq_true hh) hik
    · refine ⟨fun hin => ?_, fun e => ?_, fun hr hin => ?_⟩
      · rcases a1 with (a1 | a1) | a1
        · rw [List.contains_eq_mem] at a1
          simp [hin] at a1
        · exact .inl a1
        · exact .inr a1
      · rw [e] at a2; simp at a2
      · rcases a3 with (a3 | a3) | a3
        · rw [hr] at a3; cases a3
        · have : t ∈ tmpsOfOp o := by
            unfold tmpsOfOp
            rw [List.mem_filterMap]
            exact ⟨.tmp t, by simpa using hin, rfl⟩
          rw [List.contains_eq_mem] at a3
          simp [this] at a3
        · exact a3
  · have := (h1 _ (mem hi)).2
    simp only [selfOk, ht, hr, Bool.not_true, Bool.false_or] at this
    have hm : t ∈ tmpsOfOp o := by
      unfold tmpsOfOp
      rw [List.mem_filterMap]
      exact ⟨.tmp t, by simpa using hin, rfl⟩
    rw [List.contains_eq_mem] at this
    simp [hm] at this

end Go.Am
