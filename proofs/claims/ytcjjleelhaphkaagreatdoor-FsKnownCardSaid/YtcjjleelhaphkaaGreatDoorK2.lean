/-
  What plain functions come to: heaps that grow, rows, maps by keys, rounds.
-/
import Derived.Test.YtcjjleelhaphkaaGreatDoorK1
import Derived.Test.YtcjjleelhaphkaaGreatDoorP1
set_option linter.unusedVariables false
set_option linter.unusedSimpArgs false
namespace Go.Am

section
variable {R : Type}

@[simp] theorem valK_s (v : AV) (k : AV → Option R) : valK (some v) k = k v := by cases v <;> rfl
@[simp] theorem hpK_s (h : AHeap) (k : AHeap → Option R) : hpK (some h) k = k h := by cases h; rfl
@[simp] theorem bothK_s (v : AV) (h : AHeap) (k : AV → AHeap → Option R) : bothK (some (v, h)) k = k v h := by cases v <;> rfl
@[simp] theorem boolK_t (a b : Option R) : boolK (.bool true) a b = a := by cases a <;> rfl
@[simp] theorem boolK_f (a b : Option R) : boolK (.bool false) a b = b := by cases b <;> rfl
theorem boolK_b (c : Bool) (a b : Option R) : boolK (.bool c) a b = if c = true then a else b := by cases c <;> rfl
@[simp] theorem skipK_b (c : Bool) (a b : Option R) : skipK (.bool c) a b = b := rfl
@[simp] theorem jn_a {α : Type} (f : α) (g : α → Option R) : jn f g = g f := by
  cases e : g f <;> exact e
@[simp] theorem sameK_r (x : AV) (k : Option R) : sameK x x k = k := by simp [sameK, AV.beq_refl]
@[simp] theorem unmark_nil (h : AHeap) : unmark h [] = some h := rfl
@[simp] theorem callA_func (g : Nat) (a c args : List AV) (kc : ACallee → List AV → Option R) : callA (.func g a c) args kc = kc (.fn g) (a ++ (args ++ c)) := rfl
@[simp] theorem callA_yield (o : Nat) (args : List AV) (kc : ACallee → List AV → Option R) : callA (.yield o) args kc = kc (.yield o) args := rfl
@[simp] theorem extractA_0 (x : AV) (l : List AV) : extractA (.tuple (x :: l)) 0 = some x := rfl
@[simp] theorem extractA_1 (x y : AV) (l : List AV) : extractA (.tuple (x :: y :: l)) 1 = some y := rfl
@[simp] theorem extractA_2 (x y z : AV) (l : List AV) : extractA (.tuple (x :: y :: z :: l)) 2 = some z := rfl
@[simp] theorem aun_not (b : Bool) : aun .not (.bool b) = some (.bool !b) := rfl
end

theorem ble_dec (a b : Nat) : Nat.ble a b = decide (a ≤ b) := by
  by_cases h : a ≤ b
  · rw [Nat.ble_eq_true_of_le h]; simp [h]
  · have : Nat.ble a b = false := by
      cases e : Nat.ble a b with
      | false => rfl
      | true => exact absurd (Nat.le_of_ble_eq_true e) h
    rw [this]; simp [h]
theorem beq_dec (a b : Nat) : Nat.beq a b = decide (a = b) := by
  cases e : Nat.beq a b with
  | true => simp [Nat.eq_of_beq_eq_true e]
  | false => simp [Nat.ne_of_beq_eq_false e]
theorem blt_dec (a b : Nat) : Nat.blt a b = decide (a < b) := ble_dec (a + 1) b

/-! ### Numbers -/
section
variable {T : Tab} {t : Nat} {k : IntKind}
theorem abin_int {op : BinOp} {a b : Int} (h1 : op ≠ .shl) (h2 : op ≠ .shr) : abin T op t (.int k a) (.int k b) = aint op k a b := by
  cases op <;> first | exact absurd rfl h1 | exact absurd rfl h2 | simp [abin]
@[simp] theorem abin_lss (a b : Int) : abin T .lss t (.int k a) (.int k b) = some (.bool (decide (a < b))) := abin_int (by simp) (by simp)
@[simp] theorem abin_leq (a b : Int) : abin T .leq t (.int k a) (.int k b) = some (.bool (decide (a ≤ b))) := abin_int (by simp) (by simp)
@[simp] theorem abin_gtr (a b : Int) : abin T .gtr t (.int k a) (.int k b) = some (.bool (decide (b < a))) := abin_int (by simp) (by simp)
@[simp] theorem abin_geq (a b : Int) : abin T .geq t (.int k a) (.int k b) = some (.bool (decide (b ≤ a))) := abin_int (by simp) (by simp)
@[simp] theorem abin_eql (a b : Int) : abin T .eql t (.int k a) (.int k b) = some (.bool (decide (a = b))) := abin_int (by simp) (by simp)
@[simp] theorem abin_neq (a b : Int) : abin T .neq t (.int k a) (.int k b) = some (.bool (!decide (a = b))) := abin_int (by simp) (by simp)
theorem awrap_i64 {n : Int} (h1 : -9223372036854775808 ≤ n) (h2 : n ≤ 9223372036854775807) : awrap .i64 n = n := by
  have : i64Fits n = true := by simp [i64Fits]; omega
  simp only [awrap, this, cond_true]
theorem abin_add {a b : Int} (h1 : -9223372036854775808 ≤ a + b) (h2 : a + b ≤ 9223372036854775807) : abin T .add t (.int .i64 a) (.int .i64 b) = some (.int .i64 (a + b)) := by
  rw [abin_int (by simp) (by simp)]
  simp only [aint, awrap_i64 h1 h2]
theorem abin_sub {a b : Int} (h1 : -9223372036854775808 ≤ a - b) (h2 : a - b ≤ 9223372036854775807) : abin T .sub t (.int .i64 a) (.int .i64 b) = some (.int .i64 (a - b)) := by
  rw [abin_int (by simp) (by simp)]
  simp only [aint, awrap_i64 h1 h2]
/-- The next index. -/
theorem abin_inc {i : Nat} (h : i < 4611686018427387904) : abin T .add t (.int .i64 (i : Int)) (.int .i64 1) = some (.int .i64 ((i + 1 : Nat) : Int)) := by
  rw [abin_add (by omega) (by omega)]; rfl
@[simp] theorem abin_streq (a b : List UInt8) : abin T .eql t (.str a) (.str b) = some (.bool (decide (a = b))) := rfl
@[simp] theorem abin_strne (a b : List UInt8) : abin T .neq t (.str a) (.str b) = some (.bool (!decide (a = b))) := rfl
@[simp] theorem abin_strlt (a b : List UInt8) : abin T .lss t (.str a) (.str b) = some (.bool (Op.bytesLess a b)) := rfl
@[simp] theorem abin_strge (a b : List UInt8) : abin T .geq t (.str a) (.str b) = some (.bool (!Op.bytesLess a b)) := rfl
theorem abin_cat {a b : List UInt8} (h : a.length + b.length ≤ 4611686018427387904) : abin T .add t (.str a) (.str b) = some (.str (a ++ b)) := by
  show (bif Nat.ble (a.length + b.length) 4611686018427387904 then some (AV.str (a ++ b)) else none) = _
  rw [Nat.ble_eq_true_of_le h]; rfl
theorem abin_booleq {s by' : Nat} {ag : Bool} {z : AV} (h : T.get t = some ⟨.bool, s, by', ag, z⟩) (a b : Bool) : abin T .eql t (.bool a) (.bool b) = some (.bool (a == b)) := by
  simp [abin, eqOk, aeq, h]
theorem abin_boolne {s by' : Nat} {ag : Bool} {z : AV} (h : T.get t = some ⟨.bool, s, by', ag, z⟩) (a b : Bool) : abin T .neq t (.bool a) (.bool b) = some (.bool (a != b)) := by
  simp [abin, eqOk, aeq, h, bne]
end

/-! ### Heaps that grow -/

def AHeap.WF (h : AHeap) : Prop := ∀ o x, h.get o = some x → o < h.next

/-- All that was there is there as it was. -/
structure Ext (h h' : AHeap) : Prop where
  keep : ∀ o x, h.get o = some x → h'.get o = some x
  wf : h'.WF

theorem AHeap.WF.add {h : AHeap} (hw : h.WF) (x : AObj) : (h.add x).WF := fun o y e => by
  rw [AHeap.get_add] at e
  split at e
  · rename_i e1; rw [e1, AHeap.next_add]; exact Nat.lt_succ_self _
  · exact Nat.lt_succ_of_lt (hw o y e)

theorem AHeap.WF.put {h : AHeap} (hw : h.WF) {o : Nat} {y : AObj} (ho : h.get o = some y) (x : AObj) : (h.put o x).WF := fun j z e => by
  rw [AHeap.get_put] at e
  split at e
  · rename_i e1; rw [e1]; exact hw o y ho
  · exact hw j z e

theorem AHeap.WF.new {h : AHeap} (hw : h.WF) : h.get h.next = none := by
  cases e : h.get h.next with
  | none => rfl
  | some x => exact absurd (hw _ _ e) (Nat.lt_irrefl _)

theorem Ext.refl {h : AHeap} (hw : h.WF) : Ext h h := ⟨fun _ _ e => e, hw⟩
theorem Ext.trans {h h1 h2 : AHeap} (a : Ext h h1) (b : Ext h1 h2) : Ext h h2 := ⟨fun o x e => b.keep o x (a.keep o x e), b.wf⟩
theorem Ext.new {h h1 : AHeap} (a : Ext h h1) : h.get h1.next = none := by
  cases e : h.get h1.next with
  | none => rfl
  | some x => exact absurd (a.wf _ _ (a.keep _ _ e)) (Nat.lt_irrefl _)
theorem Ext.add {h h1 : AHeap} (a : Ext h h1) (x : AObj) : Ext h (h1.add x) := ⟨fun o y e => by
  have h2 := a.keep o y e
  rw [AHeap.get_add_ne _ _ (Nat.ne_of_lt (a.wf _ _ h2))]; exact h2, a.wf.add x⟩
theorem Ext.put {h h1 : AHeap} (a : Ext h h1) {o : Nat} {y : AObj} (hn : h.get o = none) (ho : h1.get o = some y) (x : AObj) : Ext h (h1.put o x) := ⟨fun j z e => by
  have h2 := a.keep j z e
  rw [AHeap.get_put_ne _ _ (fun e1 => by rw [e1, hn] at e; cases e)]; exact h2, a.wf.put ho x⟩
theorem Ext.none {h h1 : AHeap} (a : Ext h h1) {o : Nat} (ho : h1.get o = none) : h.get o = none := by
  cases e : h.get o with
  | none => rfl
  | some x => rw [a.keep _ _ e] at ho; cases ho
theorem Ext.wf0 {h h1 : AHeap} (a : Ext h h1) : h1.WF := a.wf
theorem Ext.next_le {h h1 : AHeap} (a : Ext h h1) : ∀ o x, h.get o = some x → o < h1.next := fun o x e => a.wf _ _ (a.keep _ _ e)

theorem PT.setF_setF {α : Type} : ∀ (f : Nat) (t : PT α) (k : Nat) (x y : Option α), k < f → PT.setF f (PT.setF f t k x) k y = PT.setF f t k y := by
  intro f
  induction f with
  | zero => intro t k x y h; omega
  | succ f ih =>
    intro t k x y h
    cases k with
    | zero => cases t <;> rfl
    | succ k =>
      have hlt : k / 2 < f := by omega
      cases t <;> (simp only [PT.setF_lz, PT.setF_ls, PT.setF_nz, PT.setF_ns]; cases hb : Nat.beq (k % 2) 0 <;> simp [PT.setF_lz, PT.setF_ls, PT.setF_nz, PT.setF_ns, hb, ih _ _ _ _ hlt])

theorem AHeap.put_put (h : AHeap) (o : Nat) (x y : AObj) : (h.put o x).put o y = h.put o y := by
  simp only [AHeap.put, PT.set]
  rw [PT.setF_setF _ _ _ _ _ (Nat.lt_succ_self _)]

theorem AHeap.put_same {h : AHeap} {o : Nat} {x : AObj} (e : h.get o = some x) : h.put o x = h := by
  have : h.tbl.set o (some x) = h.tbl := PT.set_same _ _ _ _ (Nat.lt_succ_self _) e
  simp only [AHeap.put, this]

/-! ### Rows -/

/-- 'v' is a slice of n elements of esz cells each; 'vs': all their cells. -/
def Row (h : AHeap) (v : AV) (n esz : Nat) (vs : List AV) : Prop :=
  vs.length = n * esz ∧ ((v = .nilslice ∧ n = 0) ∨ (v = .eslice ∧ n = 0) ∨ ∃ o off ws rw, v = .slice o off n esz ∧ h.get o = some (.cells ws rw) ∧ off + n * esz ≤ ws.length ∧ ∀ j, j < n * esz → ws[off + j]? = vs[j]?)

/-- A row of one's own, made behind h0. -/
def Own (h0 h : AHeap) (v : AV) (n esz : Nat) (vs : List AV) : Prop :=
  vs.length = n * esz ∧ ((v = .nilslice ∧ n = 0) ∨ ∃ o, v = .slice o 0 n esz ∧ h.get o = some (.cells vs true) ∧ h0.get o = none)

theorem Own.row {h0 h : AHeap} {v : AV} {n esz : Nat} {vs : List AV} (a : Own h0 h v n esz vs) : Row h v n esz vs := by
  obtain ⟨h1, h2⟩ := a
  refine ⟨h1, ?_⟩
  rcases h2 with h2 | ⟨o, h2, h3, _⟩
  · exact .inl h2
  · exact .inr (.inr ⟨o, 0, vs, true, h2, h3, by omega, fun j _ => by rw [Nat.zero_add]⟩)

theorem Row.ext {h h' : AHeap} {v : AV} {n esz : Nat} {vs : List AV} (a : Row h v n esz vs) (e : Ext h h') : Row h' v n esz vs := by
  obtain ⟨h1, h2⟩ := a
  refine ⟨h1, ?_⟩
  rcases h2 with h2 | h2 | ⟨o, off, ws, rw, h2, h3, h4⟩
  · exact .inl h2
  · exact .inr (.inl h2)
  · exact .inr (.inr ⟨o, off, ws, rw, h2, e.keep _ _ h3, h4⟩)

theorem Own.ext {h0 h h' : AHeap} {v : AV} {n esz : Nat} {vs : List AV} (a : Own h0 h v n esz vs) (e : Ext h h') : Own h0 h' v n esz vs := by
  obtain ⟨h1, h2⟩ := a
  refine ⟨h1, ?_⟩
  rcases h2 with h2 | ⟨o, h2, h3, h4⟩
  · exact .inl h2
  · exact .inr ⟨o, h2, e.keep _ _ h3, h4⟩

theorem Own.base {h0 h1 h : AHeap} {v : AV} {n esz : Nat} {vs : List AV} (a : Own h1 h v n esz vs) (e : Ext h0 h1) : Own h0 h v n esz vs := by
  obtain ⟨h1, h2⟩ := a
  refine ⟨h1, ?_⟩
  rcases h2 with h2 | ⟨o, h2, h3, h4⟩
  · exact .inl h2
  · exact .inr ⟨o, h2, h3, e.none h4⟩

/-- What is put over a map leaves rows as they are. -/
theorem Row.putMap {h : AHeap} {v : AV} {n esz : Nat} {vs : List AV} (a : Row h v n esz vs) {o : Nat} {es : List (AV × AV × Nat)} {c : Nat} (ho : h.get o = some (.map es c)) (x : AObj) : Row (h.put o x) v n esz vs := by
  obtain ⟨h1, h2⟩ := a
  refine ⟨h1, ?_⟩
  rcases h2 with h2 | h2 | ⟨o', off, ws, rw, h2, h3, h4⟩
  · exact .inl h2
  · exact .inr (.inl h2)
  · refine .inr (.inr ⟨o', off, ws, rw, h2, ?_, h4⟩)
    rw [AHeap.get_put_ne _ _ (fun e => by rw [e, ho] at h3; cases h3)]; exact h3

section
variable {T : Tab} {h : AHeap} {v : AV} {n esz : Nat} {vs : List AV}

/-- An element of several cells. -/
theorem Row.getAgg (a : Row h v n esz vs) {t e s b : Nat} {ag : Bool} {z : AV} {te : ATy} (ht : T.get t = some ⟨.slice e, s, b, ag, z⟩) (he : T.get e = some te) (hs : te.size = esz) (hg : te.agg = true) {i : Nat} (hi : i < n) {k : IntKind} :
    ∃ o off, aindexAddr T t v (.int k (i : Int)) = some (.ptr o off) ∧ loadA T h e (.ptr o off) = some (.agg ((vs.drop (i * esz)).take esz)) ∧ (∃ ws rw, h.get o = some (.cells ws rw) ∧ ∀ j, j < esz → ws[off + j]? = vs[i * esz + j]?) := by
  have h1 := a.1
  obtain ⟨h1, h2⟩ := a
  rcases h2 with ⟨rfl, rfl⟩ | ⟨rfl, rfl⟩ | ⟨o, off, ws, rw, rfl, h3, h4, h5⟩
  · omega
  · omega
  · have hb : Nat.beq te.size esz = true := by rw [hs]; exact Nat.beq_refl _
    have hin : inside (.int k (i : Int)) n = some i := by
      show (bif Nat.blt i n then some i else none) = _
      have : Nat.blt i n = true := by simpa using hi
      rw [this]; rfl
    have hle : i * esz + esz ≤ n * esz := by rw [← Nat.succ_mul]; exact Nat.mul_le_mul_right _ hi
    have hc : cut ws (off + i * esz) esz = some ((vs.drop (i * esz)).take esz) := by
      unfold cut
      rw [Nat.ble_eq_true_of_le (by omega), cond_true]
      congr 1
      apply List.ext_getElem?
      intro j
      by_cases hj : j < esz
      · rw [List.getElem?_take_of_lt hj, List.getElem?_take_of_lt hj, List.getElem?_drop, List.getElem?_drop, Nat.add_assoc]
        exact h5 _ (by omega)
      · rw [List.getElem?_eq_none (by simp; omega), List.getElem?_eq_none (by simp; omega)]
    refine ⟨o, off + i * esz, by simp only [aindexAddr, ht, he, hb, cond_true, hin], by simp only [loadA, aload, h3, he, hg, cond_true, hs, hc, Option.map_some], ws, rw, h3, fun j hj => ?_⟩
    rw [Nat.add_assoc]
    exact h5 _ (by omega)

theorem Row.len (a : Row h v n esz vs) {t e s b : Nat} {ag : Bool} {z : AV} (ht : T.get t = some ⟨.slice e, s, b, ag, z⟩) : alen T h t v = some (.int .i64 (n : Int)) := by
  obtain ⟨_, h2⟩ := a
  rcases h2 with ⟨rfl, rfl⟩ | ⟨rfl, rfl⟩ | ⟨o, off, ws, rw, rfl, h3, h4⟩ <;> simp [alen, ht]

/-- A place in a row. -/
theorem Row.at (a : Row h v n esz vs) {t e s b : Nat} {ag : Bool} {z : AV} {te : ATy} (ht : T.get t = some ⟨.slice e, s, b, ag, z⟩) (he : T.get e = some te) (hs : te.size = esz) {i : Nat} (hi : i < n) {k : IntKind} :
    ∃ o off ws rw, aindexAddr T t v (.int k (i : Int)) = some (.ptr o off) ∧ h.get o = some (.cells ws rw) ∧ off + esz ≤ ws.length ∧ ∀ j, j < esz → ws[off + j]? = vs[i * esz + j]? := by
  obtain ⟨h1, h2⟩ := a
  rcases h2 with ⟨rfl, rfl⟩ | ⟨rfl, rfl⟩ | ⟨o, off, ws, rw, rfl, h3, h4, h5⟩
  · omega
  · omega
  · have hb : Nat.beq te.size esz = true := by rw [hs]; exact Nat.beq_refl _
    have hin : inside (.int k (i : Int)) n = some i := by
      show (bif Nat.blt i n then some i else none) = _
      have : Nat.blt i n = true := by simpa using hi
      rw [this]; rfl
    have hle : i * esz + esz ≤ n * esz := by rw [← Nat.succ_mul]; exact Nat.mul_le_mul_right _ hi
    refine ⟨o, off + i * esz, ws, rw, by simp only [aindexAddr, ht, he, hb, cond_true, hin], h3, by omega, fun j hj => ?_⟩
    rw [Nat.add_assoc]
    exact h5 _ (by omega)

theorem loadA_cell {t o off : Nat} {ty : ATy} {ws : List AV} {rw : Bool} {x : AV} (ht : T.get t = some ty) (hg : ty.agg = false) (ho : h.get o = some (.cells ws rw)) (hx : ws[off]? = some x) : loadA T h t (.ptr o off) = some x := by
  simp only [loadA, aload, ho, ht, hg, cond_false, hx]

/-- An element of one cell. -/
theorem Row.get1 (a : Row h v n 1 vs) {t e s b : Nat} {ag : Bool} {z : AV} {te : ATy} (ht : T.get t = some ⟨.slice e, s, b, ag, z⟩) (he : T.get e = some te) (hs : te.size = 1) (hg : te.agg = false) {i : Nat} {x : AV} (hx : vs[i]? = some x) {k : IntKind} :
    ∃ p, aindexAddr T t v (.int k (i : Int)) = some p ∧ loadA T h e p = some x := by
  have hi : i < n := by
    have := a.1
    have := (List.getElem?_eq_some_iff.1 hx).1
    omega
  obtain ⟨o, off, ws, rw, h1, h2, h3, h4⟩ := a.at ht he hs hi (k := k)
  refine ⟨_, h1, loadA_cell he hg h2 ?_⟩
  have := h4 0 (by omega)
  simpa [hx] using this
end

/-- A new row. -/
theorem own_nil (h0 h : AHeap) (esz : Nat) : Own h0 h .nilslice 0 esz [] := ⟨by simp, .inl ⟨rfl, rfl⟩⟩

theorem cut_all {vs : List AV} {m : Nat} (h : vs.length = m) : cut vs 0 m = some vs := by
  unfold cut
  rw [Nat.ble_eq_true_of_le (by omega)]
  simp [← h]

theorem allOne_one {x : AV} (h : x.one = true) : allOne [x] = true := by simp [allOne, h]

/-- One more element, of one cell. -/
theorem push1 {T : Tab} {h0 h : AHeap} {v x : AV} {n : Nat} {vs : List AV} {t e s b : Nat} {ag : Bool} {z : AV} {te : ATy} (ht : T.get t = some ⟨.slice e, s, b, ag, z⟩) (he : T.get e = some te) (hs : te.size = 1) (hz : te.zero.cells.length = 1) (hb : te.bytes ≤ 1000)
    (a : Own h0 h v n 1 vs) (e0 : Ext h0 h) (hx : x.one = true) (hn : n < 1000000000) :
    ∃ y h1 v' h', abuildSlice T h t 1 [(0, x)] = some (y, h1) ∧ aappend T h1 t t v y = some (v', h') ∧ Own h0 h' v' (n + 1) 1 (vs ++ [x]) ∧ Ext h0 h' := by
  have hc : x.cells = [x] := by cases x <;> first | rfl | cases hx
  have hnt : x.noTup = true := by cases x <;> first | rfl | cases hx
  obtain ⟨z0, hz0⟩ : ∃ z0, te.zero.cells = [z0] := by
    match hh : te.zero.cells, hz with
    | [z0], _ => exact ⟨z0, rfl⟩
  have hbs : abuildSlice T h t 1 [(0, x)] = some (.slice h.next 0 1 1, h.add (.cells [x] true)) := by
    simp [abuildSlice, ht, he, hs, hz0, zeros, afill, hc, hnt, splice, newCells, allOne, hx, ble_dec]
  have hvl := a.1
  have e1 : (h.add (.cells [x] true)).get h.next = some (.cells [x] true) := AHeap.get_add_self _ _
  have hnb : (n + 1) * te.bytes ≤ 35184372088832 := Nat.le_trans (Nat.mul_le_mul (by omega : n + 1 ≤ 1000000000) hb) (by decide)
  have hx1 : rowOf (h.add (.cells [x] true)) (.slice h.next 0 1 1) te.size = some [x] := by
    simp [rowOf, hs, e1, cut, ble_dec]
  obtain ⟨_, h2⟩ := a
  rcases h2 with ⟨rfl, rfl⟩ | ⟨o, rfl, ho, hnone⟩
  · have hv0 : vs = [] := List.eq_nil_of_length_eq_zero (by omega)
    subst hv0
    have : aappend T (h.add (.cells [x] true)) t t .nilslice (.slice h.next 0 1 1) = some (.slice (h.add (.cells [x] true)).next 0 (0 + 1) te.size, (h.add (.cells [x] true)).add (.cells ([] ++ [x]) true)) := by
      simp only [aappend, ht, he, lenOf, hx1, srcOk, allOne, hx]
      simp only [rowOf, hs, ble_dec, decide_eq_true (by omega : (0 + 1) * te.bytes ≤ 35184372088832), allOne_one hx]
      rfl
    rw [hs] at this
    exact ⟨_, _, _, _, hbs, this, ⟨by simp, .inr ⟨_, rfl, AHeap.get_add_self _ _, (e0.add _).new⟩⟩, (e0.add _).add _⟩
  · have hne : o ≠ h.next := Nat.ne_of_lt (e0.wf _ _ ho)
    have ho1 : (h.add (.cells [x] true)).get o = some (.cells vs true) := by rw [AHeap.get_add_ne _ _ hne]; exact ho
    have hr : rowOf (h.add (.cells [x] true)) (.slice o 0 n 1) te.size = some vs := by
      simp only [rowOf, hs, Nat.beq_refl, cond_true, ho1]
      exact cut_all hvl
    have : aappend T (h.add (.cells [x] true)) t t (.slice o 0 n 1) (.slice h.next 0 1 1) = some (.slice ((h.add (.cells [x] true)).next) 0 (n + 1) te.size, (((h.add (.cells [x] true)).put o .dead).add (.cells (vs ++ [x]) true))) := by
      simp only [aappend, ht, he, lenOf, hr, hx1, srcOk, allOne, hx, ho1]
      simp only [hs, ble_dec, decide_eq_true hnb, decide_eq_true (by omega : n + 1 ≤ 35184372088832), allOne_one hx]
      rfl
    rw [hs] at this
    have e2 : Ext h0 ((h.add (.cells [x] true)).put o .dead) := (e0.add _).put hnone ho1 _
    refine ⟨_, _, _, _, hbs, this, ⟨by simp; omega, .inr ⟨_, rfl, AHeap.get_add_self _ _, e2.new⟩⟩, e2.add _⟩

/-- What stands below h0's numbers stays as it is in h. -/
structure Keeps (h0 h h' : AHeap) : Prop where
  same : ∀ j y, h.get j = some y → h0.get j ≠ none → h'.get j = some y
  wf : h'.WF
  grows : h.next ≤ h'.next

theorem Keeps.ext {h0 h h' : AHeap} (a : Keeps h0 h h') (e : Ext h0 h) : Ext h0 h' :=
  ⟨fun o x hx => a.same o x (e.keep o x hx) (by rw [hx]; simp), a.wf⟩

theorem Keeps.refl' {h0 h : AHeap} (hw : h.WF) : Keeps h0 h h := ⟨fun _ _ e _ => e, hw, Nat.le_refl _⟩

theorem zeros_one (z : List AV) : zeros z 1 = z := by simp [zeros]

/-- One more element, of so many cells. -/
theorem pushK {T : Tab} {h0 h : AHeap} {v x : AV} {n esz : Nat} {vs : List AV} {t e s b : Nat} {ag : Bool} {z : AV} {te : ATy} (ht : T.get t = some ⟨.slice e, s, b, ag, z⟩) (he : T.get e = some te) (hs : te.size = esz) (hz : te.zero.cells.length = esz) (hb : te.bytes ≤ 1000)
    (h1e : 1 ≤ esz) (h2e : esz ≤ 1000) (a : Own h0 h v n esz vs) (hw : h.WF) (hd : ∀ j, h0.get j ≠ none → h.get j ≠ none) (hxl : x.cells.length = esz) (hx : allOne x.cells = true) (hnt : x.noTup = true) (hn : n < 1000000000) :
    ∃ y h1 v' h', abuildSlice T h t 1 [(0, x)] = some (y, h1) ∧ aappend T h1 t t v y = some (v', h') ∧ Own h0 h' v' (n + 1) esz (vs ++ x.cells) ∧ Keeps h0 h h' ∧ (∀ j y, h.get j = some y → (∀ n e, v ≠ .slice j 0 n e) → h'.get j = some y) ∧ ∀ j, h.get j ≠ none → ∀ n e, v' ≠ .slice j 0 n e := by
  have hsp : splice te.zero.cells (0 * te.size) x.cells = some x.cells := by
    unfold splice
    rw [Nat.zero_mul, Nat.zero_add, Nat.ble_eq_true_of_le (by omega), cond_true]
    simp only [List.take_zero, List.nil_append, Option.some.injEq]
    rw [List.drop_of_length_le (by omega), List.append_nil]
  have hbs : abuildSlice T h t 1 [(0, x)] = some (.slice h.next 0 1 esz, h.add (.cells x.cells true)) := by
    have e1 : Nat.beq x.cells.length te.size = true := by rw [beq_dec]; simp; omega
    simp only [abuildSlice, ht, he, zeros_one, afill, e1, hnt, hsp, ble_dec, Bool.and_true, cond_true, newCells, hx]
    rw [decide_eq_true (by omega : 1 * te.size ≤ 16777216), decide_eq_true (by omega : 1 ≤ te.size), beq_dec, decide_eq_true (by omega : te.zero.cells.length = te.size)]
    simp [hs]
  have hvl := a.1
  have g1 : (h.add (.cells x.cells true)).get h.next = some (.cells x.cells true) := AHeap.get_add_self _ _
  have x1 : Ext h (h.add (.cells x.cells true)) := (Ext.refl hw).add _
  have hnb : (n + 1) * te.bytes ≤ 35184372088832 := Nat.le_trans (Nat.mul_le_mul (by omega : n + 1 ≤ 1000000000) hb) (by decide)
  have hx1 : rowOf (h.add (.cells x.cells true)) (.slice h.next 0 1 esz) te.size = some x.cells := by
    simp only [rowOf, hs, Nat.beq_refl, cond_true, g1]
    exact cut_all (by omega)
  have h1s : Nat.ble 1 te.size = true := by rw [ble_dec]; simp; omega
  have hnew : h0.get (h.add (.cells x.cells true)).next = none := by
    cases e0 : h0.get (h.add (.cells x.cells true)).next with
    | none => rfl
    | some y =>
      have := hd (h.add (.cells x.cells true)).next (by rw [e0]; simp)
      cases e2 : h.get (h.add (.cells x.cells true)).next with
      | none => exact absurd e2 this
      | some y => have := hw _ _ e2; simp only [AHeap.next_add] at this; omega
  obtain ⟨_, h2⟩ := a
  rcases h2 with ⟨rfl, rfl⟩ | ⟨o, rfl, ho, hnone⟩
  · have hv0 : vs = [] := List.eq_nil_of_length_eq_zero (by omega)
    subst hv0
    have : aappend T (h.add (.cells x.cells true)) t t .nilslice (.slice h.next 0 1 esz) = some (.slice (h.add (.cells x.cells true)).next 0 (0 + 1) te.size, (h.add (.cells x.cells true)).add (.cells ([] ++ x.cells) true)) := by
      simp only [aappend, ht, he, lenOf, hx1, srcOk, hx]
      simp only [rowOf, h1s, ble_dec, decide_eq_true (by omega : (0 + 1) * te.bytes ≤ 35184372088832), hx]
      rfl
    rw [hs] at this
    have x2 := x1.add (.cells ([] ++ x.cells) true)
    refine ⟨_, _, _, _, hbs, this, ⟨by simp; omega, .inr ⟨_, rfl, AHeap.get_add_self _ _, hnew⟩⟩, ⟨fun j y hj _ => x2.keep j y hj, x2.wf, by simp; omega⟩, fun j y hj _ => x2.keep j y hj, fun j hj n e he => ?_⟩
    cases e1 : h.get j with
    | none => exact hj e1
    | some y =>
      have := hw _ _ e1
      simp only [AV.slice.injEq, AHeap.next_add] at he
      omega
  · have ho1 := x1.keep _ _ ho
    have hr : rowOf (h.add (.cells x.cells true)) (.slice o 0 n esz) te.size = some vs := by
      simp only [rowOf, hs, Nat.beq_refl, cond_true, ho1]
      exact cut_all hvl
    have : aappend T (h.add (.cells x.cells true)) t t (.slice o 0 n esz) (.slice h.next 0 1 esz) = some (.slice ((h.add (.cells x.cells true)).next) 0 (n + 1) te.size, (((h.add (.cells x.cells true)).put o .dead).add (.cells (vs ++ x.cells) true))) := by
      simp only [aappend, ht, he, lenOf, hr, hx1, srcOk, hx, ho1]
      simp only [h1s, ble_dec, decide_eq_true hnb, decide_eq_true (by omega : n + 1 ≤ 35184372088832), hx]
      rfl
    rw [hs] at this
    have w2 : ((h.add (.cells x.cells true)).put o .dead).WF := x1.wf.put ho1 _
    have keep : ∀ j y, h.get j = some y → h0.get j ≠ none → (((h.add (.cells x.cells true)).put o .dead).add (.cells (vs ++ x.cells) true)).get j = some y := fun j y hj hj0 => by
      have e1 := x1.keep j y hj
      have e2 : ((h.add (.cells x.cells true)).put o .dead).get j = some y := by
        rw [AHeap.get_put_ne _ _ (fun e => by rw [e] at hj0; exact hj0 hnone)]; exact e1
      exact ((Ext.refl w2).add _).keep _ _ e2
    refine ⟨_, _, _, _, hbs, this, ⟨by simp [Nat.add_mul]; omega, .inr ⟨_, rfl, AHeap.get_add_self _ _, hnew⟩⟩, ⟨keep, w2.add _, by simp; omega⟩, fun j y hj hne => ?_, fun j hj n e he => ?_⟩
    · have e1 := x1.keep j y hj
      have e2 : ((h.add (.cells x.cells true)).put o .dead).get j = some y := by
        rw [AHeap.get_put_ne _ _ (fun e => by rw [e] at hne; exact hne _ _ rfl)]; exact e1
      exact ((Ext.refl w2).add _).keep _ _ e2
    · cases e1 : h.get j with
      | none => exact hj e1
      | some y =>
        have := hw _ _ e1
        simp only [AV.slice.injEq, AHeap.next_add] at he
        omega

/-- Where a row's own object is as it was, the row is. -/
theorem Row.same {h h' : AHeap} {v : AV} {n esz : Nat} {vs : List AV} (a : Row h v n esz vs) (e : ∀ o off m e y, v = .slice o off m e → h.get o = some y → h'.get o = some y) : Row h' v n esz vs := by
  obtain ⟨h1, h2⟩ := a
  refine ⟨h1, ?_⟩
  rcases h2 with h2 | h2 | ⟨o, off, ws, rw, h2, h3, h4⟩
  · exact .inl h2
  · exact .inr (.inl h2)
  · exact .inr (.inr ⟨o, off, ws, rw, h2, e _ _ _ _ _ h2 h3, h4⟩)

theorem Row.there {h : AHeap} {v : AV} {n esz : Nat} {vs : List AV} (a : Row h v n esz vs) {o off m e : Nat} (hv : v = .slice o off m e) : h.get o ≠ none := by
  rcases a.2 with ⟨h2, _⟩ | ⟨h2, _⟩ | ⟨o', off', ws, rw, h2, h3, h4⟩
  · rw [h2] at hv; cases hv
  · rw [h2] at hv; cases hv
  · rw [h2] at hv; cases hv; rw [h3]; simp

/-- A part of a row. -/
theorem Row.sub {T : Tab} {h : AHeap} {v : AV} {n esz : Nat} {vs : List AV} (a : Row h v n esz vs) {t e s b : Nat} {ag : Bool} {z : AV} {te : ATy} (ht : T.get t = some ⟨.slice e, s, b, ag, z⟩) (he : T.get e = some te) (hs : te.size = esz) {lo hi : Nat} (h1 : lo ≤ hi) (h2 : hi ≤ n) {k1 k2 : IntKind} :
    ∃ v', aslice T t v (some (.int k1 (lo : Int))) (some (.int k2 (hi : Int))) = some v' ∧ Row h v' (hi - lo) esz ((vs.drop (lo * esz)).take ((hi - lo) * esz)) := by
  obtain ⟨hl, h3⟩ := a
  have hlen : ((vs.drop (lo * esz)).take ((hi - lo) * esz)).length = (hi - lo) * esz := by
    have q1 : lo * esz ≤ hi * esz := Nat.mul_le_mul_right _ h1
    have q2 : hi * esz ≤ n * esz := Nat.mul_le_mul_right _ h2
    rw [List.length_take, List.length_drop, Nat.sub_mul]; omega
  have upH : upTo (some (.int k2 (hi : Int))) n n = some hi := by
    show (bif Nat.ble hi n then some hi else none) = _
    rw [Nat.ble_eq_true_of_le h2]; rfl
  have upL : upTo (some (.int k1 (lo : Int))) 0 hi = some lo := by
    show (bif Nat.ble lo hi then some lo else none) = _
    rw [Nat.ble_eq_true_of_le h1]; rfl
  rcases h3 with ⟨rfl, rfl⟩ | ⟨rfl, rfl⟩ | ⟨o, off, ws, rw, rfl, g1, g2, g3⟩
  · obtain rfl : hi = 0 := by omega
    obtain rfl : lo = 0 := by omega
    exact ⟨.nilslice, by simp only [aslice, ht, he]; rw [upH, upL], hlen, .inl ⟨rfl, rfl⟩⟩
  · obtain rfl : hi = 0 := by omega
    obtain rfl : lo = 0 := by omega
    exact ⟨.eslice, by simp only [aslice, ht, he]; rw [upH, upL], hlen, .inr (.inl ⟨rfl, rfl⟩)⟩
  · have hb : Nat.beq te.size esz = true := by rw [hs]; exact Nat.beq_refl _
    simp only [aslice, ht, he, hb, cond_true, upH, upL]
    cases hlh : Nat.beq lo hi with
    | true =>
      have := Nat.eq_of_beq_eq_true hlh
      subst this
      exact ⟨.eslice, rfl, hlen, .inr (.inl ⟨rfl, by omega⟩)⟩
    | false =>
      refine ⟨_, rfl, hlen, .inr (.inr ⟨o, off + lo * esz, ws, rw, rfl, g1, ?_, fun j hj => ?_⟩)⟩
      · have q1 : lo * esz ≤ hi * esz := Nat.mul_le_mul_right _ h1
        have q2 : hi * esz ≤ n * esz := Nat.mul_le_mul_right _ h2
        rw [Nat.sub_mul]; omega
      · have q1 : lo * esz ≤ hi * esz := Nat.mul_le_mul_right _ h1
        have q2 : hi * esz ≤ n * esz := Nat.mul_le_mul_right _ h2
        rw [List.getElem?_take_of_lt hj, List.getElem?_drop, Nat.add_assoc]
        rw [Nat.sub_mul] at hj
        exact g3 _ (by omega)

/-- A row behind a row. -/
theorem appendRow {T : Tab} {h0 h : AHeap} {v x : AV} {n m esz : Nat} {vs ws : List AV} {t e s b : Nat} {ag : Bool} {z : AV} {te : ATy} (ht : T.get t = some ⟨.slice e, s, b, ag, z⟩) (he : T.get e = some te) (hs : te.size = esz) (hb : te.bytes ≤ 1000)
    (h1e : 1 ≤ esz) (a : Own h0 h v n esz vs) (c : Row h x m esz ws) (hw : h.WF) (hd : ∀ j, h0.get j ≠ none → h.get j ≠ none) (hx : allOne ws = true) (hn : n + m < 1000000000) :
    ∃ v' h', aappend T h t t v x = some (v', h') ∧ Own h0 h' v' (n + m) esz (vs ++ ws) ∧ Keeps h0 h h' ∧ (∀ j y, h.get j = some y → (∀ n e, v ≠ .slice j 0 n e) → h'.get j = some y) ∧ ((m = 0 ∧ v' = v ∧ h' = h) ∨ ∀ j, h.get j ≠ none → ∀ n e, v' ≠ .slice j 0 n e) := by
  have hvl := a.1
  have hwl := c.1
  have hlx : lenOf x = some m := by
    rcases c.2 with ⟨rfl, rfl⟩ | ⟨rfl, rfl⟩ | ⟨o, off, us, rw, rfl, _⟩ <;> rfl
  have hrx : rowOf h x te.size = some ws := by
    rcases c.2 with ⟨rfl, rfl⟩ | ⟨rfl, rfl⟩ | ⟨o, off, us, rw, rfl, g1, g2, g3⟩
    · have : ws = [] := List.eq_nil_of_length_eq_zero (by omega)
      subst this; rfl
    · have : ws = [] := List.eq_nil_of_length_eq_zero (by omega)
      subst this; rfl
    · simp only [rowOf, hs, Nat.beq_refl, cond_true, g1, cut]
      rw [Nat.ble_eq_true_of_le g2, cond_true]
      congr 1
      apply List.ext_getElem?
      intro j
      by_cases hj : j < m * esz
      · rw [List.getElem?_take_of_lt hj, List.getElem?_drop]; exact g3 j hj
      · rw [List.getElem?_eq_none (by simp; omega), List.getElem?_eq_none (by omega)]
  have hnb : (n + m) * te.bytes ≤ 35184372088832 := Nat.le_trans (Nat.mul_le_mul (by omega : n + m ≤ 1000000000) hb) (by decide)
  have h1s : Nat.ble 1 te.size = true := by rw [ble_dec]; simp; omega
  have hnew : h0.get h.next = none := by
    cases e0 : h0.get h.next with
    | none => rfl
    | some y => exact absurd hw.new (hd h.next (by rw [e0]; simp))
  cases m with
  | zero =>
    have hw0 : ws = [] := List.eq_nil_of_length_eq_zero (by omega)
    subst hw0
    refine ⟨v, h, ?_, by rw [List.append_nil]; exact a, Keeps.refl' hw, fun j y hj _ => hj, .inl ⟨rfl, rfl, rfl⟩⟩
    rcases a.2 with ⟨rfl, rfl⟩ | ⟨o, rfl, ho, _⟩
    · have hr : rowOf h .nilslice te.size = some [] := rfl
      have hl1 : lenOf .nilslice = some 0 := rfl
      simp only [aappend, ht, he, hl1, hlx, hr, hrx, srcOk, allOne, h1s, ble_dec, decide_eq_true (by omega : (0 + 0) * te.bytes ≤ 35184372088832)]
      rfl
    · have hr : rowOf h (.slice o 0 n esz) te.size = some vs := by
        simp only [rowOf, hs, Nat.beq_refl, cond_true, ho]; exact cut_all hvl
      have hl1 : lenOf (.slice o 0 n esz) = some n := rfl
      simp only [aappend, ht, he, hl1, hlx, hr, hrx, srcOk, allOne, h1s, ble_dec, decide_eq_true (by omega : (n + 0) * te.bytes ≤ 35184372088832), decide_eq_true (by omega : n + 0 ≤ 35184372088832)]
      rfl
  | succ m =>
    rcases a.2 with ⟨rfl, rfl⟩ | ⟨o, rfl, ho, hnone⟩
    · have hv0 : vs = [] := List.eq_nil_of_length_eq_zero (by omega)
      subst hv0
      have hr : rowOf h .nilslice te.size = some [] := rfl
      have hl1 : lenOf .nilslice = some 0 := rfl
      have e1 : aappend T h t t .nilslice x = some (.slice h.next 0 (0 + (m + 1)) te.size, h.add (.cells ([] ++ ws) true)) := by
        simp only [aappend, ht, he, hl1, hlx, hr, hrx, srcOk, hx, h1s, ble_dec, decide_eq_true hnb, decide_eq_true (by omega : 0 + (m + 1) ≤ 35184372088832)]
        rfl
      rw [hs] at e1
      have x2 := (Ext.refl hw).add (.cells ([] ++ ws) true)
      refine ⟨_, _, e1, ⟨by simp; omega, .inr ⟨_, rfl, AHeap.get_add_self _ _, hnew⟩⟩, ⟨fun j y hj _ => x2.keep j y hj, x2.wf, by simp⟩, fun j y hj _ => x2.keep j y hj, .inr fun j hj n e he => ?_⟩
      cases e2 : h.get j with
      | none => exact hj e2
      | some y =>
        have := hw _ _ e2
        simp only [AV.slice.injEq] at he
        omega
    · have hr : rowOf h (.slice o 0 n esz) te.size = some vs := by
        simp only [rowOf, hs, Nat.beq_refl, cond_true, ho]; exact cut_all hvl
      have hl1 : lenOf (.slice o 0 n esz) = some n := rfl
      have e1 : aappend T h t t (.slice o 0 n esz) x = some (.slice h.next 0 (n + (m + 1)) te.size, (h.put o .dead).add (.cells (vs ++ ws) true)) := by
        simp only [aappend, ht, he, hl1, hlx, hr, hrx, srcOk, hx, h1s, ble_dec, decide_eq_true hnb, decide_eq_true (by omega : n + (m + 1) ≤ 35184372088832), ho]
        rfl
      rw [hs] at e1
      have w2 : (h.put o .dead).WF := hw.put ho _
      have keep : ∀ j y, h.get j = some y → j ≠ o → ((h.put o .dead).add (.cells (vs ++ ws) true)).get j = some y := fun j y hj hne => by
        have e2 : (h.put o .dead).get j = some y := by rw [AHeap.get_put_ne _ _ hne]; exact hj
        exact ((Ext.refl w2).add _).keep _ _ e2
      refine ⟨_, _, e1, ⟨by simp [Nat.add_mul, hvl, hwl], .inr ⟨_, rfl, AHeap.get_add_self _ _, hnew⟩⟩, ⟨fun j y hj hj0 => keep j y hj fun e => hj0 (e ▸ hnone), w2.add _, by simp⟩, fun j y hj hne => keep j y hj fun e => hne n esz (by rw [e]), .inr fun j hj n e he => ?_⟩
      cases e2 : h.get j with
      | none => exact hj e2
      | some y =>
        have := hw _ _ e2
        simp only [AV.slice.injEq] at he
        omega

/-! ### Rounds -/

theorem loop_rule {σ R : Type} {step : σ → List Nat → AHeap → (σ → List Nat → AHeap → Option R) → Option R} {ms : List Nat} {total : Nat} {I : Nat → σ → AHeap → Prop} {Q : Option R → Prop}
    (hstep : ∀ i s h nx, I i s h → (i < total ∧ ∃ s' h', step s ms h nx = nx s' ms h' ∧ I (i + 1) s' h') ∨ Q (step s ms h nx)) :
    ∀ (N i : Nat) (s : σ) (h : AHeap), I i s h → total < N + i → 0 < N → Q (loopN step N s ms h) := by
  intro N
  induction N with
  | zero => intro i s h _ _ h0; omega
  | succ N ih =>
    intro i s h hi ht _
    simp only [loopN]
    rcases hstep i s h (loopN step N) hi with ⟨hlt, s', h', e, hi'⟩ | hq
    · rw [e]; exact ih (i + 1) s' h' hi' (by omega) (by omega)
    · exact hq

/-! ### Maps by texts -/

abbrev SE := List (List UInt8 × AV × Nat)
def strE (l : SE) : List (AV × AV × Nat) := l.map fun e => (.str e.1, e.2.1, e.2.2)

def getS (s : List UInt8) : SE → Option AV
  | [] => none
  | e :: l => if s = e.1 then some e.2.1 else getS s l

def setS (s : List UInt8) (v : AV) (clock : Nat) : SE → SE
  | [] => [(s, v, clock)]
  | e :: l => if s = e.1 then (e.1, v, e.2.2) :: l else e :: setS s v clock l

def hasS (s : List UInt8) : SE → Bool
  | [] => false
  | e :: l => if s = e.1 then true else hasS s l

theorem findE_str (s : List UInt8) : ∀ (l : SE) (i : Nat), (hasS s l = false ∧ getS s l = none ∧ findE (.str s) (strE l) i = some none) ∨
    ∃ j v b, hasS s l = true ∧ getS s l = some v ∧ findE (.str s) (strE l) i = some (some (i + j, v, b)) ∧ ∀ v' c, setEntry (strE l) j (.str s) v' b = strE (setS s v' c l)
  | [], i => .inl ⟨rfl, rfl, rfl⟩
  | e :: l, i => by
    by_cases h : s = e.1
    · refine .inr ⟨0, e.2.1, e.2.2, by simp [hasS, h], by simp [getS, h], ?_, fun v' c => ?_⟩
      · simp [strE, findE, keyEq, h]
      · simp [strE, setEntry, setS, h]
    · rcases findE_str s l (i + 1) with ⟨h1, h2, h3⟩ | ⟨j, v, b, h1, h2, h3, h4⟩
      · exact .inl ⟨by simp [hasS, h, h1], by simp [getS, h, h2], by simp only [strE, List.map_cons, findE, keyEq, h, decide_false]; exact h3⟩
      · refine .inr ⟨j + 1, v, b, by simp [hasS, h, h1], by simp [getS, h, h2], ?_, fun v' c => ?_⟩
        · simp only [strE, List.map_cons, findE, keyEq, h, decide_false]
          rw [show i + (j + 1) = i + 1 + j by omega]; exact h3
        · have := h4 v' c
          simp only [setEntry, strE, List.map_cons] at this ⊢
          simp only [List.set_cons_succ, setS, h, if_false, List.map_cons, this]

theorem setS_new {s : List UInt8} {v : AV} {c : Nat} : ∀ {l : SE}, hasS s l = false → setS s v c l = l ++ [(s, v, c)]
  | [], _ => rfl
  | e :: l, h => by
    simp only [hasS] at h
    split at h
    · cases h
    · rename_i hne
      simp [setS, hne, setS_new h]

section
variable {T : Tab} {h : AHeap} {t el s b : Nat} {ag : Bool} {z : AV} {te : ATy} {m : Nat} {l : SE} {clock : Nat} {key : List UInt8}

theorem lookup_str (ht : T.get t = some ⟨.map 2 el, s, b, ag, z⟩) (he : T.get el = some te) (hm : h.get m = some (.map (strE l) clock)) (ok : Bool) :
    alookup T h t (.map m) (.str key) ok = some (match getS key l with
      | some v => bif ok then .tuple [v, .bool true] else v
      | none => bif ok then .tuple [te.zero, .bool false] else te.zero) := by
  rcases findE_str key l 0 with ⟨_, h2, h3⟩ | ⟨j, v, b', _, h2, h3, _⟩ <;> simp [alookup, ht, he, keyOk, hm, h2, h3]

theorem update_str (ht : T.get t = some ⟨.map 2 el, s, b, ag, z⟩) (hm : h.get m = some (.map (strE l) clock)) (v : AV) :
    amapUpdate T h t (.map m) (.str key) v = some (h.put m (.map (strE (setS key v clock l)) (bif hasS key l then clock else clock + 1))) := by
  rcases findE_str key l 0 with ⟨h1, h2, h3⟩ | ⟨j, w, b', h1, h2, h3, h4⟩
  · simp only [amapUpdate, ht, keyOk, hm, h3, h1, setS_new h1, cond_true, cond_false]
    simp [strE]
  · simp [amapUpdate, ht, keyOk, hm, h3, h1]
    rw [h4 v clock]

theorem len_map {es : List (AV × AV × Nat)} {kk : Nat} (ht : T.get t = some ⟨.map kk el, s, b, ag, z⟩) (hm : h.get m = some (.map es clock)) : alen T h t (.map m) = some (.int .i64 es.length) := by
  simp [alen, ht, hm]
end

end Go.Am
