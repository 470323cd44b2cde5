/-
  The table of types stands for the program's; loads, stores and new rows of the model, as the abstract machine tells them.
-/
import Derived.Test.YtcjjleelhaphkaaGreatDoorB1
import Derived.Laws.Cells
import Derived.Laws.Entries
import GoSem.Instr.Address
import GoSem.Instr.Alloc
import GoSem.Instr.Build
import GoSem.Instr.MakeSlice
import GoSem.Op.Equal
set_option linter.unusedVariables false
set_option linter.unusedSimpArgs false
namespace Go.Am

def isAggD : Option TypeDesc → Bool
  | some (.struct _) => true
  | some (.array _ _) => true
  | _ => false

structure FieldOK (P : Program) (f : Go.Field) (x : Nat × Nat × Nat) : Prop where
  off : f.offset = x.1
  info : ∃ i, P.info? f.type = some i ∧ i.size = x.2.1
  und : ∃ d, P.underlying f.type = some d
  agg : isAggD (P.underlying f.type) = Nat.beq x.2.2 4
  k1 : x.2.2 = 1 → ∃ k, P.underlying f.type = some (.int k)
  k2 : x.2.2 = 2 → P.underlying f.type = some .string
  k3 : x.2.2 = 3 → P.underlying f.type = some .bool
  name : f.name ≠ "_"

def KeyOK (kind : Nat) (d : Option TypeDesc) : Prop :=
  (kind = 1 ∧ ∃ k, d = some (.int k)) ∨ (kind = 2 ∧ d = some .string) ∨ (kind = 3 ∧ d = some .bool)

def DescOK (P : Program) (t : Nat) : ADesc → Prop
  | .struct fs => ∃ fields, P.underlying t = some (.struct fields) ∧ fields.size = fs.length ∧ (∀ (i : Nat) x, fs[i]? = some x → ∃ f, fields[i]? = some f ∧ FieldOK P f x) ∧ P.stoodInHeld t = false ∧ P.eqGuardType P.depth t = false
  | .slice e => P.underlying t = some (.slice e)
  | .array n e => P.underlying t = some (.array n e)
  | .map kind e => ∃ key, P.underlying t = some (.map key e) ∧ KeyOK kind (P.underlying key)
  | .str => P.underlying t = some .string
  | .bool => P.underlying t = some .bool
  | .int k => P.underlying t = some (.int k)
  | .ptr => ∃ e, P.underlying t = some (.pointer e)
  | .func => ∃ a b c, P.underlying t = some (.func a b c)
  | .other => ∃ d, P.underlying t = some d

structure TyOK (P : Program) (t : Nat) (ty : ATy) : Prop where
  info : ∃ i z, P.info? t = some i ∧ i.size = ty.size ∧ i.bytes = ty.bytes ∧ i.zero = some z ∧ VR (fun _ => none) ty.zero z
  desc : DescOK P t ty.desc
  agg : isAggD (P.underlying t) = ty.agg
  notup : ty.zero.noTup = true
  zlen : ty.zero.cells.length = ty.size

def TabOK (P : Program) (T : Tab) : Prop := ∀ t ty, T.get t = some ty → TyOK P t ty

section
variable {P : Program} {T : Tab} (w : World)

theorem run_und {t : TypeId} {d : TypeDesc} (h : P.underlying t = some d) : (underlying t).run P w = .ok d w := run_underlying h w
theorem run_info {t : TypeId} {i : TypeInfo} (h : P.info? t = some i) : (typeInfo t).run P w = .ok i w := by simp [typeInfo, h]

theorem TyOK.und {t : Nat} {ty : ATy} (h : TyOK P t ty) : ∃ d, P.underlying t = some d := by
  have hd := h.desc
  cases hty : ty.desc <;> rw [hty] at hd <;> simp only [DescOK] at hd
  case struct => obtain ⟨_, h1, _⟩ := hd; exact ⟨_, h1⟩
  case map => obtain ⟨_, h1, _⟩ := hd; exact ⟨_, h1⟩
  case ptr => obtain ⟨_, h1⟩ := hd; exact ⟨_, h1⟩
  case func => obtain ⟨_, _, _, h1⟩ := hd; exact ⟨_, h1⟩
  case other => exact hd
  all_goals exact ⟨_, hd⟩

theorem run_isAggD {t : TypeId} {d : TypeDesc} (h : P.underlying t = some d) : (isAgg t).run P w = .ok (isAggD (P.underlying t)) w := by
  rw [h]; cases d <;> simp [isAgg, run_und w h, isAggD]

theorem TyOK.run_isAgg {t : Nat} {ty : ATy} (h : TyOK P t ty) : (isAgg t).run P w = .ok ty.agg w := by
  obtain ⟨d, hd⟩ := h.und
  rw [run_isAggD w hd, h.agg]

theorem TyOK.run_sizeOf {t : Nat} {ty : ATy} (h : TyOK P t ty) : (sizeOf t).run P w = .ok ty.size w := by
  obtain ⟨i, z, h1, h2, _⟩ := h.info
  simp [sizeOf, run_info w h1, h2]

theorem TyOK.run_zero {t : Nat} {ty : ATy} (h : TyOK P t ty) (β : Inj) : ∃ z, (zeroValue t).run P w = .ok z w ∧ VR β ty.zero z := by
  obtain ⟨i, z, h1, _, _, h4, h5⟩ := h.info
  exact ⟨z, by simp [zeroValue, run_info w h1, h4], h5.mono (fun _ _ e => by cases e)⟩

theorem add_none (b o j : Nat) : (⟨b, o, none⟩ : Addr).add j = ⟨b, o + j, none⟩ := by
  unfold Addr.add
  split
  · rename_i h; subst h; rfl
  · rfl

theorem cell_of {w : World} {b o : Nat} {c : Array Value} {el : TypeId} {fz : Nat × Nat} (h : w.heap[b]? = some (.cells c el fz)) : w.cell? ⟨b, o, none⟩ = c[o]? := by
  simp [World.cell?, h]

theorem frozen_of {w : World} {b o : Nat} {c : Array Value} {el : TypeId} {fz : Nat × Nat} (h : w.heap[b]? = some (.cells c el fz)) :
    w.frozen? ⟨b, o, none⟩ = (decide (fz.1 ≤ o) && decide (o < fz.2)) := by
  obtain ⟨lo, hi⟩ := fz
  simp [World.frozen?, h]

/-- Cells that stand one behind the other. -/
theorem row_get {β : Inj} {vs : List AV} {off : Nat} {c : Array Value} (h : RowR β vs off c) {cs : List AV} {i n : Nat} (hc : cut vs i n = some cs) :
    ∃ Cs, VRL β cs Cs ∧ Cs.length = n ∧ ∀ j V, Cs[j]? = some V → c[off + i + j]? = some V := by
  unfold cut at hc
  cases hb : Nat.ble (i + n) vs.length with
  | false => rw [hb] at hc; cases hc
  | true =>
    rw [hb] at hc; simp only [cond_true, Option.some.injEq] at hc
    subst hc
    have hle : i + n ≤ vs.length := Nat.le_of_ble_eq_true hb
    have hin : ∀ j, j < n → ∃ V, c[off + i + j]? = some V := fun j hj => by
      obtain ⟨V, h1, _⟩ := h (i + j) (vs[i + j]'(by omega)) (List.getElem?_eq_getElem (by omega))
      exact ⟨V, by rw [show off + i + j = off + (i + j) from by omega]; exact h1⟩
    refine ⟨(List.range n).map fun j => (c[off + i + j]?).getD undef, VRL.of_get (by simp; omega) fun j v hv => ?_, by simp, fun j V hj => ?_⟩
    · have hj : j < n := by
        rcases Nat.lt_or_ge j n with hh | hh
        · exact hh
        · rw [List.getElem?_eq_none (by simp; omega)] at hv; cases hv
      rw [List.getElem?_take_of_lt hj, List.getElem?_drop] at hv
      obtain ⟨V, h1, h2⟩ := h (i + j) v hv
      refine ⟨V, ?_, h2⟩
      rw [List.getElem?_map, List.getElem?_range hj]
      simp [show off + i + j = off + (i + j) from by omega, h1]
    · have hjn : j < n := by
        rcases Nat.lt_or_ge j n with hh | hh
        · exact hh
        · rw [List.getElem?_eq_none (by simp; omega)] at hj; cases hj
      obtain ⟨V', h1⟩ := hin j hjn
      rw [List.getElem?_map, List.getElem?_range hjn] at hj
      simp [h1] at hj
      rw [h1, hj]

theorem run_loadCells_at {w : World} {b o n : Nat} {c : Array Value} {el : TypeId} {fz : Nat × Nat} (h : w.heap[b]? = some (.cells c el fz)) {Cs : List Value} (hl : Cs.length = n)
    (hc : ∀ (j : Nat) V, Cs[j]? = some V → c[o + j]? = some V) : (loadCells ⟨b, o, none⟩ n).run P w = .ok Cs.toArray w := by
  subst hl
  exact run_loadCells_list w ⟨b, o, none⟩ Cs fun j V hj => by rw [add_none, cell_of h]; exact hc j V hj

theorem aload_sim {w0 : World} {β : Inj} {h : AHeap} (hT : TabOK P T) (hw : WR w0 β h w) {t o i : Nat} {v : AV} (hv : aload T h t o i = some v) {L : Loc} (hL : β o = some L) :
    ∃ V, (loadVar t ⟨L.b, L.off + i, none⟩).run P w = .ok V w ∧ VR β v V := by
  unfold aload at hv
  split at hv
  · rename_i vs rw' ty ho ht
    have hty := hT t ty ht
    obtain ⟨c, el, fz, h1, h2, h3, h4, _⟩ := hw.obj o _ L ho hL
    cases hag : ty.agg with
    | true =>
      rw [hag] at hv
      simp only [cond_true, Option.map_eq_some_iff] at hv
      obtain ⟨cs, hcs, rfl⟩ := hv
      obtain ⟨Cs, k1, k2, k3⟩ := row_get h4 hcs
      refine ⟨.agg Cs.toArray, ?_, by simp only [VR]; exact ⟨Cs, k1, rfl⟩⟩
      simp [loadVar, hty.run_isAgg, hag, hty.run_sizeOf, run_loadCells_at h1 k2 k3]
    | false =>
      rw [hag] at hv
      simp only [cond_false] at hv
      obtain ⟨V, k1, k2⟩ := h4 i v hv
      refine ⟨V, ?_, k2⟩
      simp [loadVar, hty.run_isAgg, hag, cell_of h1, k1]
  · cases hv

/-! ### Stores -/

/-- Cells put over others. -/
def putCells (c : Array Value) (j : Nat) : List Value → Array Value
  | [] => c
  | V :: Vs => putCells (c.setIfInBounds j V) (j + 1) Vs

theorem putCells_size : ∀ (Vs : List Value) (c : Array Value) (j : Nat), (putCells c j Vs).size = c.size
  | [], _, _ => rfl
  | V :: Vs, c, j => by simp [putCells, putCells_size Vs]

theorem putCells_get : ∀ (Vs : List Value) (c : Array Value) (j k : Nat), j + Vs.length ≤ c.size →
    (putCells c j Vs)[k]? = if j ≤ k ∧ k < j + Vs.length then Vs[k - j]? else c[k]?
  | [], c, j, k, _ => by rw [if_neg (by simp only [List.length_nil]; omega)]; rfl
  | V :: Vs, c, j, k, h => by
    simp only [List.length_cons] at h
    rw [putCells, putCells_get Vs _ _ _ (by simp; omega)]
    by_cases hk : j = k
    · subst hk
      rw [if_neg (by omega), if_pos (by simp)]
      have hj : j < c.size := by omega
      simp [hj]
    · by_cases h1 : j + 1 ≤ k ∧ k < j + 1 + Vs.length
      · rw [if_pos h1, if_pos (by simp; omega)]
        rw [show k - j = (k - (j + 1)) + 1 from by omega]
        simp
      · rw [if_neg h1, if_neg (by simp; omega)]
        simp [hk]

/-- All but one block of the world are as they were. -/
structure But (b : Nat) (w w' : World) : Prop where
  os : w'.os = w.os
  tape : w'.tape = w.tape
  out : w'.output = w.output
  size : w'.heap.size = w.heap.size
  oth : ∀ k, k ≠ b → w'.heap[k]? = w.heap[k]?

theorem But.refl (b : Nat) (w : World) : But b w w := ⟨rfl, rfl, rfl, rfl, fun _ _ => rfl⟩
theorem But.trans {b : Nat} {w w' w'' : World} (h : But b w w') (k : But b w' w'') : But b w w'' :=
  ⟨k.os.trans h.os, k.tape.trans h.tape, k.out.trans h.out, k.size.trans h.size, fun j hj => (k.oth j hj).trans (h.oth j hj)⟩

theorem But.setCell (w : World) (b o : Nat) (V : Value) : But b w (w.setCell ⟨b, o, none⟩ V) :=
  ⟨rfl, rfl, rfl, by simp [World.setCell], fun k hk => by simp only [World.setCell, Array.getElem?_modify]; rw [if_neg (fun e => hk e.symm)]⟩

theorem setCell_block {w : World} {b o : Nat} {V : Value} {c : Array Value} {el : TypeId} {fz : Nat × Nat} (h : w.heap[b]? = some (.cells c el fz)) :
    (w.setCell ⟨b, o, none⟩ V).heap[b]? = some (.cells (c.setIfInBounds o V) el fz) := by
  simp [World.setCell, Array.getElem?_modify, h]

theorem run_storeCells_at {b o : Nat} {el : TypeId} {fz : Nat × Nat} : ∀ (Vs : List Value) (i : Nat) (c : Array Value) (w : World), w.heap[b]? = some (.cells c el fz) → o + i + Vs.length ≤ c.size →
    (∀ j, o + i ≤ j → j < o + i + Vs.length → ¬ (fz.1 ≤ j ∧ j < fz.2)) → (∀ V ∈ Vs, V.oneCell' = true) →
    ∃ w', (storeCells ⟨b, o, none⟩ Vs i).run P w = .ok () w' ∧ w'.heap[b]? = some (.cells (putCells c (o + i) Vs) el fz) ∧ But b w w'
  | [], i, c, w, h, _, _, _ => ⟨w, by simp [storeCells], h, But.refl _ _⟩
  | V :: Vs, i, c, w, h, hl, hf, h1 => by
    simp only [List.length_cons] at hl hf
    obtain ⟨w', k1, k2, k3⟩ := run_storeCells_at (o := o) Vs (i + 1) (c.setIfInBounds (o + i) V) (w.setCell ⟨b, o + i, none⟩ V) (setCell_block h) (by simp; omega)
      (fun j hj hj' => hf j (by omega) (by omega)) (fun X hX => h1 X (List.mem_cons_of_mem _ hX))
    refine ⟨w', ?_, k2, (But.setCell w b (o + i) V).trans k3⟩
    have hin : o + i < c.size := by omega
    have hc : w.cell? ⟨b, o + i, none⟩ = some c[o + i] := by rw [cell_of h, Array.getElem?_eq_getElem hin]
    have hfz : w.frozen? ⟨b, o + i, none⟩ = false := by
      rw [frozen_of h]
      have := hf (o + i) (by omega) (by omega)
      simp only [Bool.and_eq_false_iff, decide_eq_false_iff_not]
      by_cases hh : fz.1 ≤ o + i
      · right; exact fun x => this ⟨hh, x⟩
      · left; exact hh
    simp only [storeCells, Sem.run_bind, add_none]
    rw [run_store P w ⟨b, o + i, none⟩ V .plain (h1 V List.mem_cons_self), hc, hfz]
    simpa using k1

/-- An owned row in which cells are put over others. -/
theorem WR.put {w0 : World} {β : Inj} {h : AHeap} {w : World} (hw : WR w0 β h w) {o i : Nat} {vs vs' cs : List AV} {L : Loc} {Cs : List Value} (ho : h.get o = some (.cells vs true)) (hL : β o = some L)
    (hs : splice vs i cs = some vs') (h1 : allOne cs = true) (hC : VRL β cs Cs) :
    ∃ w', (storeCells ⟨L.b, L.off + i, none⟩ Cs 0).run P w = .ok () w' ∧ WR w0 β (h.put o (.cells vs' true)) w' ∧ Goes β h β (h.put o (.cells vs' true)) := by
  obtain ⟨c, el, fz, e1, e2, e3, e4, e5, _⟩ := hw.obj o _ L ho hL
  obtain ⟨f1, f2, f3⟩ := e5 rfl
  unfold splice at hs
  cases hb : Nat.ble (i + cs.length) vs.length with
  | false => rw [hb] at hs; cases hs
  | true =>
    rw [hb] at hs; simp only [cond_true, Option.some.injEq] at hs
    have hle : i + cs.length ≤ vs.length := Nat.le_of_ble_eq_true hb
    have hCl := hC.length
    obtain ⟨w', k1, k2, k3⟩ := run_storeCells_at (P := P) (o := L.off + i) Cs 0 c w e1 (by omega) (fun j hj hj' => f3 j (by omega) (by omega)) (hC.one h1)
    have hallvs : ∀ (l : List AV), allOne l = true → ∀ x ∈ l, x.one = true := by
      intro l
      induction l with
      | nil => intro _ x hx; cases hx
      | cons y l ih =>
        intro hl x hx
        simp only [allOne, Bool.and_eq_true] at hl
        cases List.mem_cons.1 hx with
        | inl e => subst e; exact hl.1
        | inr e => exact ih hl.2 x e
    have hmk : ∀ (l : List AV), (∀ x ∈ l, x.one = true) → allOne l = true := by
      intro l
      induction l with
      | nil => intro _; rfl
      | cons y l ih =>
        intro hl
        simp only [allOne, Bool.and_eq_true]
        exact ⟨hl y List.mem_cons_self, ih fun x hx => hl x (List.mem_cons_of_mem _ hx)⟩
    have hlen : vs'.length = vs.length := by rw [← hs]; simp; omega
    have hget : ∀ (j : Nat) v, vs'[j]? = some v → (i ≤ j ∧ j < i + cs.length ∧ cs[j - i]? = some v) ∨ ((j < i ∨ i + cs.length ≤ j) ∧ vs[j]? = some v) := by
      intro j v hv
      rw [← hs] at hv
      by_cases c1 : j < i
      · rw [List.getElem?_append_left (by simp; omega), List.getElem?_take_of_lt c1] at hv
        exact .inr ⟨.inl c1, hv⟩
      · rw [List.getElem?_append_right (by simp; omega)] at hv
        have hmin : (vs.take i).length = i := by simp; omega
        rw [hmin] at hv
        by_cases c2 : j - i < cs.length
        · rw [List.getElem?_append_left c2] at hv
          exact .inl ⟨by omega, by omega, hv⟩
        · rw [List.getElem?_append_right (by omega), List.getElem?_drop] at hv
          rw [show i + cs.length + (j - i - cs.length) = j from by omega] at hv
          exact .inr ⟨.inr (by omega), hv⟩
    refine ⟨w', k1, ?_⟩
    refine hw.turn ho rfl hL (w' := w') ?_ k3.os k3.tape k3.out k3.size k3.oth
    refine ⟨_, el, fz, k2, by rw [putCells_size]; exact e2, by omega, fun j v hv => ?_, fun _ => ⟨f1, ?_, f3⟩, fun hh => by cases hh⟩
    · rw [putCells_get _ _ _ _ (by omega)]
      rcases hget j v hv with ⟨g1, g2, g3⟩ | ⟨g1, g2⟩
      · rw [if_pos (by omega)]
        obtain ⟨V, m1, m2⟩ := hC.get _ _ g3
        exact ⟨V, by rw [show L.off + j - (L.off + i + 0) = j - i from by omega]; exact m1, m2⟩
      · rw [if_neg (by omega)]
        exact e4 j v g2
    · refine hmk _ fun x hx => ?_
      obtain ⟨j, hj⟩ := List.getElem?_of_mem hx
      rcases hget j x hj with ⟨_, _, g3⟩ | ⟨_, g2⟩
      · exact hallvs _ h1 x (List.mem_of_getElem? g3)
      · exact hallvs _ f2 x (List.mem_of_getElem? g2)

theorem astore_sim {w0 : World} {β : Inj} {h h' : AHeap} (hT : TabOK P T) (hw : WR w0 β h w) {t o i : Nat} {v : AV} {V : Value} (hs : astore T h t o i v = some h') {L : Loc} (hL : β o = some L)
    (hv : VR β v V) : ∃ w', (storeVar t ⟨L.b, L.off + i, none⟩ V).run P w = .ok () w' ∧ WR w0 β h' w' ∧ Goes β h β h' := by
  unfold astore at hs
  split at hs
  · rename_i vs ty ho ht
    have hty := hT t ty ht
    cases hb : (Nat.beq v.cells.length ty.size && allOne v.cells) with
    | false => rw [hb] at hs; cases hs
    | true =>
      rw [hb] at hs; simp only [cond_true] at hs
      simp only [Bool.and_eq_true] at hb
      have hsz : v.cells.length = ty.size := Nat.eq_of_beq_eq_true hb.1
      split at hs
      · rename_i vs' hsp
        cases hs
        have hC := hv.cells_one hb.2
        obtain ⟨w', k1, k2, k3⟩ := hw.put (P := P) ho hL hsp hb.2 hC
        refine ⟨w', ?_, k2, k3⟩
        have hVs : V.cells.size = ty.size := by
          have := hC.length
          simp at this; omega
        simp [storeVar, hty.run_sizeOf, hVs, k1]
      · cases hs
  · cases hs

/-! ### New rows -/

theorem newCells_loc {w0 : World} {β : Inj} {h : AHeap} {w : World} (hw : WR w0 β h w) {cs : List AV} {Cs : Array Value} (el : TypeId) (h1 : allOne cs = true) (hC : VRL β cs Cs.toList) (n : Nat) (hn : n = Cs.size) :
    WR w0 (β.with h.next ⟨w.heap.size, 0, n⟩) (h.add (.cells cs true)) (w.alloc (.cells Cs el)) ∧ Goes β h (β.with h.next ⟨w.heap.size, 0, n⟩) (h.add (.cells cs true)) := by
  subst hn
  refine hw.alloc rfl ⟨Cs, el, (0, 0), heap_push_new, by simp, ?_, fun i v hv => ?_, fun _ => ⟨hw.below.size, h1, fun j _ _ => by simp⟩, fun hh => by cases hh⟩
  · have := hC.length; simp at this; show cs.length ≤ Cs.size; omega
  · obtain ⟨V, k1, k2⟩ := hC.get i v hv
    refine ⟨V, by simpa using k1, k2.mono fun o L e => ?_⟩
    rw [Inj.with_ne _ _ (Nat.ne_of_lt (hw.dom o L e))]; exact e

theorem run_newRow (el : TypeId) (Cs : Array Value) : (newRow el Cs).run P w = .ok ⟨w.heap.size, 0, none⟩ (w.alloc (.cells Cs el)) := by
  simp [newRow]
end

end Go.Am
