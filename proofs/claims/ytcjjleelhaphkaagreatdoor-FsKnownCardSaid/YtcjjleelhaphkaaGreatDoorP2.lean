/-
  maps.Keys with slices.Sorted, maps.Clone: that the model does what is told of them.
-/
import Derived.Test.YtcjjleelhaphkaaGreatDoorP1
import Derived.Maps.Own
import Derived.Sort.KeysCollected
import Derived.StringKeys
set_option linter.unusedVariables false
set_option linter.unusedSimpArgs false
namespace Go.Am
open Go.RowKit Go.Maps Go.Sort Go.MapKept
open Go.WideElems (Fit rd rg rd_mk)

theorem fw_none : FW none = Fence.wide := rfl

theorem callsIn_fw {P : Program} {n m f : Nat} {args : Array Value} {w : World} {R : Ending → World → Prop} (h : CallsIn Fence.wide n P f args w R) : CallsIn (FW none) m P f args w R :=
  callsIn_wide.2 (callsIn_wide.1 h)

theorem below_step {w0 w w' : World} (h : Below w0.heap.size w0 w) (k : Below w.heap.size w w') : Below w0.heap.size w0 w' :=
  ⟨k.os.trans h.os, k.tape.trans h.tape, k.output.trans h.output, Nat.le_trans h.size k.size, fun j hj => (k.block j (Nat.lt_of_lt_of_le hj h.size)).trans (h.block j hj)⟩

/-- What lies behind a call that keeps all that was there. -/
theorem WR.grown {w0 : World} {β : Inj} {h : AHeap} {w w' : World} (hw : WR w0 β h w) (k : Below w.heap.size w w') : WR w0 β h w' := by
  refine ⟨below_step hw.below k, hw.dom, hw.wf, fun j x L e e' => ?_, hw.inj⟩
  by_cases hx : x = .dead
  · subst hx; trivial
  · have := hw.obj j x L e e'
    exact this.of_block (k.block _ (this.lt hx))

/-- A new row in a block that is new. -/
theorem WR.fresh {w0 : World} {β : Inj} {h : AHeap} {w w' : World} (hw : WR w0 β h w) (k : Below w.heap.size w w') {x : AObj} {L : Loc} (hL : w.heap.size ≤ L.b) (hob : ∀ β', β.le β' → ObjR w0.heap.size β' w'.heap L x) :
    WR w0 (β.with h.next L) (h.add x) w' ∧ Goes β h (β.with h.next L) (h.add x) := by
  have hn : β h.next = none := by
    cases e : β h.next with
    | none => rfl
    | some M => exact absurd (hw.dom _ _ e) (Nat.lt_irrefl _)
  refine (hw.grown k).adopt (fun j z M e f g => ?_) (hob _ fun j M e => ?_)
  · have := (hw.obj j z M e g).lt (by intro h; subst h; cases f)
    omega
  · by_cases hj : j = h.next
    · subst hj; rw [hn] at e; cases e
    · rw [Inj.with_ne _ _ hj]; exact e

/-! ### maps.Keys -/

structure KeysHyp (P : Program) (f iter t : Nat) : Prop where
  enters : ∃ fn c, P.funcs[f]? = some fn ∧ fn.body = some c ∧ ¬ fn.name = "runtime.NumGoroutine"
  calls : ∀ (mb : Option Nat) (W : World), CallsIn Fence.wide 5 P f #[.map mb] W fun e w' => e = .returned (.func (.func iter) #[] #[.pointer (some ⟨W.heap.size, 0, none⟩)]) ∧ w' = W.alloc (.cells #[.map mb] t)

theorem keysP_ok {P : Program} {f iter t : Nat} (K : KeysHyp P f iter t) : PrimOK P f (keysP iter) := by
  refine ⟨K.enters, fun E hE args h r h' he w0 β w vals hw hv => ?_⟩
  have key : ∀ m, args = [m] → (m = .nilmap ∨ ∃ o, m = .map o) → r = .func iter [] [.ptr h.next 0] → h' = h.add (.keys m) → CallsIn (FW none) 0 P f vals.toArray w (RetPost w0 β h r h') := by
    rintro m rfl hm rfl rfl
    obtain ⟨M, Ms, h1, h2, rfl⟩ := hv.cons_inv
    have := h2.nil_inv; subst this
    obtain ⟨mb, rfl⟩ : ∃ mb, M = .map mb := by
      rcases hm with rfl | ⟨o, rfl⟩
      · exact ⟨none, by simpa [VR] using h1⟩
      · simp only [VR] at h1; obtain ⟨L, _, rfl⟩ := h1; exact ⟨_, rfl⟩
    refine callsIn_fw ((K.calls mb w).mono ?_)
    rintro e w' ⟨rfl, rfl⟩
    have hn : β h.next = none := by
      cases e : β h.next with
      | none => rfl
      | some M => exact absurd (hw.dom _ _ e) (Nat.lt_irrefl _)
    have hle : β.le (β.with h.next ⟨w.heap.size, 0, 1⟩) := fun j M e => by
      by_cases hj : j = h.next
      · subst hj; rw [hn] at e; cases e
      · rw [Inj.with_ne _ _ hj]; exact e
    obtain ⟨W1, G1⟩ := hw.alloc (x := .keys m) (ob := .cells #[.map mb] t) (L := ⟨w.heap.size, 0, 1⟩) rfl ⟨.map mb, t, (0, 0), heap_push_new, h1.mono hle, rfl, hw.below.size⟩
    refine ⟨_, _, rfl, ?_, W1, G1⟩
    simp only [VR]
    exact ⟨[], [.pointer (some ⟨w.heap.size, 0, none⟩)], VRL.nil, VRL.cons (by simp only [VR]; exact ⟨_, Inj.with_self _ _ _, rfl⟩) VRL.nil, rfl⟩
  unfold keysP at he
  split at he
  · split at he
    · cases he; exact key _ rfl (.inl rfl) rfl rfl
    · cases he; exact key _ rfl (.inr ⟨_, rfl⟩) rfl rfl
    · cases he
  · cases he

/-! ### maps.Clone -/

structure CloneHyp (P : Program) (f : Nat) : Prop where
  enters : ∃ fn c, P.funcs[f]? = some fn ∧ fn.body = some c ∧ ¬ fn.name = "runtime.NumGoroutine"
  some : ∀ (b : Nat) (es : Array MapEntry) (clock : Nat) (w : World), w.heap[b]? = some (.map es clock) → Calls P f #[.map (some b)] w fun e w' => e = .returned (.map (some w.heap.size)) ∧ w' = w.alloc (.map es clock)
  none : ∀ w, Calls P f #[.map none] w fun e w' => e = .returned (.map none) ∧ w' = w

theorem cloneP_ok {P : Program} {f : Nat} (K : CloneHyp P f) : PrimOK P f cloneP := by
  refine ⟨K.enters, fun E hE args h r h' he w0 β w vals hw hv => ?_⟩
  unfold cloneP at he
  split at he
  · cases he
    obtain ⟨M, Ms, h1, h2, rfl⟩ := hv.cons_inv
    have := h2.nil_inv; subst this
    simp only [VR] at h1; subst h1
    refine callsIn_wide.2 ((K.none w).mono ?_)
    rintro e w' ⟨rfl, rfl⟩
    exact ⟨β, _, rfl, by simp [VR], hw, Goes.refl _ _⟩
  · rename_i o
    obtain ⟨M, Ms, h1, h2, rfl⟩ := hv.cons_inv
    have := h2.nil_inv; subst this
    simp only [VR] at h1
    obtain ⟨L, hL, rfl⟩ := h1
    split at he
    · rename_i es clock ho
      cases he
      obtain ⟨Es, e1, e2, e3⟩ := hw.obj _ _ L ho hL
      refine callsIn_wide.2 ((K.some L.b Es clock w e1).mono ?_)
      rintro e w' ⟨rfl, rfl⟩
      have hn : β h.next = none := by
        cases e : β h.next with
        | none => rfl
        | some M => exact absurd (hw.dom _ _ e) (Nat.lt_irrefl _)
      have hle : β.le (β.with h.next ⟨w.heap.size, 0, 0⟩) := fun j M e => by
        by_cases hj : j = h.next
        · subst hj; rw [hn] at e; cases e
        · rw [Inj.with_ne _ _ hj]; exact e
      obtain ⟨W1, G1⟩ := hw.alloc (x := .map es clock) (ob := .map Es clock) (L := ⟨w.heap.size, 0, 0⟩) rfl ⟨Es, heap_push_new, ER.mono hle e2, hw.below.size⟩
      exact ⟨_, _, rfl, by simp only [VR]; exact ⟨_, Inj.with_self _ _ _, rfl⟩, W1, G1⟩
    · cases he
  · cases he

end Go.Am
