/-
  graph.Closed, told by what it does: its range over a map in whatever order.
-/
import Derived.Test.YtfieacodpjpfbaaP4
import Derived.Maps.RangeRun
set_option linter.unusedVariables false
set_option linter.unusedSimpArgs false
namespace Go.Am
open Go Go.Proofs

def rowVals (h : AHeap) : AV → Option (List AV)
  | .nilslice => some []
  | .eslice => some []
  | .slice o off len esz => match h.get o with
    | some (.cells vs _) => bif Nat.beq esz 1 && Nat.ble (off + len) vs.length && Nat.blt len 4611686018427387904 then some ((vs.drop off).take len) else none
    | _ => none
  | _ => none

def rowThere (h : AHeap) (es : List (AV × AV × Nat)) (r : AV) : Option Bool :=
  match rowVals h r with
  | some l => refsThere es l
  | none => none

def allThere (h : AHeap) (es : List (AV × AV × Nat)) : List (AV × AV × Nat) → Option Bool
  | [] => some true
  | (_, r, _) :: l => match rowThere h es r, allThere h es l with
    | some a, some b => some (a && b)
    | _, _ => none

def closedP (refs : Nat) (E : Env) (args : List AV) (h : AHeap) : Option (AV × AHeap) :=
  match args with
  | [l] => match E (.fn refs) [l] h with
    | some (.map m, h1) => match h1.get m with
      | some (.map es clock) =>
        bif stampB clock es && Nat.blt m h1.next then
          match allThere h1 es es with
          | some b => some (.bool b, h1.add .dead)
          | none => none
        else none
      | _ => none
    | _ => none
  | _ => none

section
variable {E : Env} {rd : Bool} {h : AHeap} {m : Nat} {it : AV} {es : List (AV × AV × Nat)} {clock : Nat}

abbrev big : Nat := 4611686018427387904

def f5 (m it rv : AV) : AFrame := ((PT.leaf.set 13 (some it)).set 3 (some m)).set 5 (some rv)

/-- What stands behind the entry's load: a row's texts, one by one. -/
theorem rb12 (hm : h.get m = some (.map es clock)) {rv : AV} {b : Bool} (hr : rowThere h es rv = some b) :
    ∃ fr' e, exec E tab pureA 12 33 big rd (cR (cL (cR (cR lb12)))) ⟨f5 (.map m) it rv, [], h⟩ = some (e, ⟨fr', [], h⟩) ∧ ((b = true ∧ e = .normal ∧ fr'.get 13 = some it ∧ fr'.get 3 = some (.map m)) ∨ (b = false ∧ e = .ret ∧ fr'.get 2 = some (.bool false))) := by
  unfold rowThere at hr
  split at hr
  case h_2 => cases hr
  rename_i l hl
  have key : ∀ (len : Nat), aop tab (aev ((f5 (.map m) it rv).set 18 (some rv))) h (.call { callee := .builtin .len, args := #[.tmp 18], argTypes := #[26] }) = some (.val (some (.int .i64 len)) h) →
      (∃ fr' e, exec E tab pureA 12 33 big rd (cL (cR (cR (cL (cR (cR lb12)))))) ⟨(((f5 (.map m) it rv).set 18 (some rv)).set 19 (some (.int .i64 len))).set 20 (some (.int .i64 0)), [], h⟩ = some (e, ⟨fr', [], h⟩) ∧ ((b = true ∧ e = .exit 2 ∧ fr'.get 13 = some it ∧ fr'.get 3 = some (.map m)) ∨ (b = false ∧ e = .ret ∧ fr'.get 2 = some (.bool false)))) →
      ∃ fr' e, exec E tab pureA 12 33 big rd (cR (cL (cR (cR lb12)))) ⟨f5 (.map m) it rv, [], h⟩ = some (e, ⟨fr', [], h⟩) ∧ ((b = true ∧ e = .normal ∧ fr'.get 13 = some it ∧ fr'.get 3 = some (.map m)) ∨ (b = false ∧ e = .ret ∧ fr'.get 2 = some (.bool false))) := by
    intro len hop ⟨fr', e, q1, q2⟩
    have h5 : exec E tab pureA 12 33 big rd (cL (cR (cL (cR (cR lb12))))) ⟨f5 (.map m) it rv, [], h⟩ = some (.normal, ⟨(((f5 (.map m) it rv).set 18 (some rv)).set 19 (some (.int .i64 len))).set 20 (some (.int .i64 0)), [], h⟩) := by
      refine ex_region ?_
      refine rs_val (h1 := h) (v := some rv) rfl rfl rfl ?_
      refine rs_val (h1 := h) (v := some (.int .i64 len)) rfl hop rfl ?_
      exact rs_val rfl rfl rfl rs_nil
    rcases q2 with ⟨c1, rfl, c3, c4⟩ | ⟨c1, rfl, c3⟩
    · exact ⟨fr', .normal, ex_seq h5 (ex_block_exit q1), .inl ⟨c1, rfl, c3, c4⟩⟩
    · exact ⟨fr', .ret, ex_seq h5 (ex_block_ret q1), .inr ⟨c1, rfl, c3⟩⟩
  have none0 : ∀ rv', rv = rv' → l = [] → aop tab (aev ((f5 (.map m) it rv).set 18 (some rv))) h (.call { callee := .builtin .len, args := #[.tmp 18], argTypes := #[26] }) = some (.val (some (.int .i64 ((0 : Nat) : Int))) h) →
      ∃ fr' e, exec E tab pureA 12 33 big rd (cR (cL (cR (cR lb12)))) ⟨f5 (.map m) it rv, [], h⟩ = some (e, ⟨fr', [], h⟩) ∧ ((b = true ∧ e = .normal ∧ fr'.get 13 = some it ∧ fr'.get 3 = some (.map m)) ∨ (b = false ∧ e = .ret ∧ fr'.get 2 = some (.bool false))) := by
    rintro rv' rfl rfl hop
    simp only [refsThere, Option.some.injEq] at hr
    refine key 0 hop ?_
    obtain ⟨fr', q1, q2, q3⟩ := ib12_stop (E := E) (n := big) (rd := rd) (h := h) (m := m) (it := it) (len := 0) (rv := rv)
    refine ⟨fr', .exit 2, ?_, .inl ⟨hr.symm, rfl, q2, q3⟩⟩
    show iter (exec E tab pureA 12 33 big rd ib12) (clean pureA 6) (4611686018427387903 + 1) _ = _
    rw [iter]
    rw [clean12 (rv := rv) (len := 0) (i := 0) (it := it) (m := m) rfl rfl rfl rfl rfl]
    rw [show exec E tab pureA 12 33 big rd ib12 ⟨fi12 (.map m) it rv 0 0, [], h⟩ = _ from q1]
  unfold rowVals at hl
  split at hl
  · cases hl; exact none0 _ rfl rfl rfl
  · cases hl; exact none0 _ rfl rfl rfl
  · rename_i o off len esz
    split at hl
    case h_2 => cases hl
    rename_i vs rw ho
    cases hc : Nat.beq esz 1 && Nat.ble (off + len) vs.length && Nat.blt len 4611686018427387904 with
    | false => rw [hc] at hl; cases hl
    | true =>
      rw [hc] at hl
      simp only [cond_true, Option.some.injEq] at hl
      subst hl
      simp only [Bool.and_eq_true] at hc
      obtain ⟨⟨c1, c2⟩, c3⟩ := hc
      have := Nat.eq_of_beq_eq_true c1
      subst this
      refine key len ?_ ?_
      · exact op_len_slice (ob := o) (off := off) (esz := 1) rfl rfl rfl rfl rfl
      · obtain ⟨fr', e, q1, q2⟩ := il12 (E := E) (n := big) (rd := rd) (it := it) ho hm (by simpa using c3) (Nat.le_of_ble_eq_true c2) len 0 big ((((f5 (.map m) it (.slice o off len 1)).set 18 (some (.slice o off len 1))).set 19 (some (.int .i64 len))).set 20 (some (.int .i64 0))) b (by omega) (by simpa using c3) hr rfl rfl rfl rfl rfl
        exact ⟨fr', e, q1, q2⟩
  · cases hl
end
end Go.Am
