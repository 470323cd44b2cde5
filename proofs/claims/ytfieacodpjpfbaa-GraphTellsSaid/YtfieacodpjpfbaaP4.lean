/-
  Symbolic runs over the seat's program.
-/
import Derived.Test.YtfieacodpjpfbaaTryD1
import Derived.Test.YtfieacodpjpfbaaP3
import Derived.Test.YtfieacodpjpfbaaS1
set_option linter.unusedVariables false
set_option linter.unusedSimpArgs false
namespace Go.Am
open Go Go.Proofs

/-- Parts of code. -/
def cL : Code → Code
  | .seq a _ => a
  | .cond _ a _ => a
  | .block _ b => b
  | .loop b => b
  | .scope b => b
  | _ => .skip
def cR : Code → Code
  | .seq _ b => b
  | .cond _ _ b => b
  | _ => .skip

noncomputable def cl12 : Code := (Try.f12.body).getD .skip
noncomputable def lb12 : Code := cL (cL (cR (cL (cR (cR cl12)))))
noncomputable def ib12 : Code := cL (cL (cR (cR (cL (cR (cR lb12))))))

def fi12 (m it rv : AV) (len : Nat) (i : Int) : AFrame := (((((PT.leaf.set 13 (some it)).set 3 (some m)).set 18 (some rv)).set 19 (some (.int .i64 len))).set 20 (some (.int .i64 i)))

noncomputable def pureA : AFn := ⟨Try.f12, PT.leaf.set 6 (some [20, 19, 18, 3, 13]), .leaf, .leaf⟩


section
variable {E : Env} {n : Nat} {rd : Bool} {h : AHeap} {m o off len i : Nat} {it : AV} {vs : List AV} {rw : Bool} {s : List UInt8} {es : List (AV × AV × Nat)} {clock : Nat}

/-- One round of the inner loop, where there is one more: the reference is there, or not. -/
theorem ib12_round (hi : i < len) (ho : h.get o = some (.cells vs rw)) (hv : vs[off + i * 1]? = some (.str s)) (hm : h.get m = some (.map es clock)) {r : Option (Nat × AV × Nat)} (hf : findE (.str s) es 0 = some r) (hlen : len < 4611686018427387904) :
    ∃ fr, exec E tab pureA 12 33 n rd ib12 ⟨fi12 (.map m) it (.slice o off len 1) len i, [], h⟩ = some (match r with | some _ => (.normal, ⟨fr, [], h⟩) | none => (.ret, ⟨fr, [], h⟩)) ∧
      (match r with
       | some _ => fr.get 13 = some it ∧ fr.get 3 = some (.map m) ∧ fr.get 18 = some (.slice o off len 1) ∧ fr.get 19 = some (.int .i64 len) ∧ fr.get 20 = some (.int .i64 ((i + 1 : Nat) : Int))
       | none => fr.get 2 = some (.bool false)) := by
  have hlt : decide ((i : Int) < len) = true := by simpa using hi
  have h6 : exec E tab pureA 12 33 n rd (cL ib12) ⟨fi12 (.map m) it (.slice o off len 1) len i, [], h⟩ = some (.normal, ⟨(fi12 (.map m) it (.slice o off len 1) len i).set 21 (some (.bool (decide ((i : Int) < len)))), [], h⟩) := rfl
  rw [hlt] at h6
  obtain ⟨f7, h7, g7⟩ : ∃ fr, exec E tab pureA 12 33 n rd (cL (cL (cL (cR (cR ib12))))) ⟨(fi12 (.map m) it (.slice o off len 1) len i).set 21 (some (.bool true)), [], h⟩ = some (.normal, ⟨fr, [], h⟩) ∧ fr = (((((fi12 (.map m) it (.slice o off len 1) len i).set 21 (some (.bool true))).set 22 (some (.ptr o (off + i * 1)))).set 23 (some (.str s))).set 7 (some (.str s))) := by
    refine ⟨_, ex_region (rs_val rfl (op_indexAddr (te := ⟨.str, 1, 16, false, .str []⟩) rfl rfl rfl rfl rfl hi) rfl ?_), rfl⟩
    refine rs_val rfl (op_load (ty := ⟨.str, 1, 16, false, .str []⟩) rfl ho rfl rfl hv) rfl ?_
    exact rs_val rfl rfl rfl rs_nil
  subst g7
  cases r with
  | some p =>
    obtain ⟨j, v, bn⟩ := p
    obtain ⟨f8, h8, g8, g9⟩ : ∃ fr, exec E tab pureA 12 33 n rd (cL (cR (cL (cL (cR (cR ib12)))))) ⟨(((((fi12 (.map m) it (.slice o off len 1) len i).set 21 (some (.bool true))).set 22 (some (.ptr o (off + i * 1)))).set 23 (some (.str s))).set 7 (some (.str s))), [], h⟩ = some (.normal, ⟨fr, [], h⟩) ∧
        (fr.get 13 = some it ∧ fr.get 3 = some (.map m) ∧ fr.get 18 = some (.slice o off len 1) ∧ fr.get 19 = some (.int .i64 len) ∧ fr.get 20 = some (.int .i64 i)) ∧ fr.get 9 = some (.bool true) := by
      refine ⟨(((((((((((((fi12 (.map m) it (.slice o off len 1) len i).set 21 (some (.bool true))).set 22 (some (.ptr o (off + i * 1)))).set 23 (some (.str s))).set 7 (some (.str s))).set 25 (some (.map m))).set 26 (some (.str s))).set 27 (some (.tuple [v, .bool true]))).set 24 (some (.tuple [v, .bool true]))).set 28 (some (v))).set 29 (some (.bool true))).set 8 (some (v))).set 9 (some (.bool true))), ?_, ⟨rfl, rfl, rfl, rfl, rfl⟩, rfl⟩
      · refine ex_region ?_
        refine rs_val rfl rfl rfl (rs_val rfl rfl rfl ?_)
        refine rs_val rfl (op_lookup (te := ⟨.slice 9, 1, 24, false, .nilslice⟩) (key := .str s) rfl rfl rfl rfl rfl hm hf) rfl ?_
        exact rs_val rfl rfl rfl (rs_val rfl rfl rfl (rs_val rfl rfl rfl (rs_val rfl rfl rfl (rs_val rfl rfl rfl rs_nil))))
    obtain ⟨b0, b1, b2, b3, b4⟩ := g8
    have h9 : exec E tab pureA 12 33 n rd (cL (cR (cR (cL (cL (cR (cR ib12))))))) ⟨f8, [], h⟩ = some (.normal, ⟨(f8.set 30 (some (.bool true))).set 31 (some (.bool false)), [], h⟩) := by
      refine ex_region ?_
      refine rs_val (h1 := h) (v := some (.bool true)) rfl (by show some (ARes.val (f8.get 9) h) = _; rw [g9]) rfl ?_
      refine rs_val (h1 := h) (v := some (.bool false)) rfl ?_ rfl rs_nil
      show (match ((f8.set 30 (some (.bool true))).get 30) with | some a => ret1 h (aun .not a) | none => none) = _
      rw [PT.get_set, if_pos rfl]
      rfl
    have h10 : exec E tab pureA 12 33 n rd (cR (cR (cR (cL (cL (cR (cR ib12))))))) ⟨(f8.set 30 (some (.bool true))).set 31 (some (.bool false)), [], h⟩ = some (.normal, ⟨(f8.set 30 (some (.bool true))).set 31 (some (.bool false)), [], h⟩) := by
      refine ex_false ?_ rfl
      show PT.get _ 31 = _
      rw [PT.get_set, if_pos rfl]
    have h11 : exec E tab pureA 12 33 n rd (cR (cR (cR ib12))) ⟨(f8.set 30 (some (.bool true))).set 31 (some (.bool false)), [], h⟩ = some (.normal, ⟨(((f8.set 30 (some (.bool true))).set 31 (some (.bool false))).set 32 (some (.int .i64 ((i + 1 : Nat) : Int)))).set 20 (some (.int .i64 ((i + 1 : Nat) : Int))), [], h⟩) := by
      refine ex_region ?_
      refine rs_val (h1 := h) (v := some (.int .i64 ((i + 1 : Nat) : Int))) rfl ?_ rfl ?_
      · refine op_bin (a := .int .i64 i) (b := .int .i64 1) ?_ rfl (add_i64 (by omega) (by omega))
        show PT.get _ 20 = _
        rw [PT.get_set, if_neg (by decide), PT.get_set, if_neg (by decide), b4]
      · refine rs_val (h1 := h) (v := some (.int .i64 ((i + 1 : Nat) : Int))) rfl ?_ rfl rs_nil
        show some (ARes.val (PT.get _ 32) h) = _
        rw [PT.get_set, if_pos rfl]
    refine ⟨_, ex_seq h6 (ex_seq (s1 := ⟨(fi12 (.map m) it (.slice o off len 1) len i).set 21 (some (.bool true)), [], h⟩) (ex_true rfl rfl) (ex_seq (ex_block (ex_seq h7 (ex_seq h8 (ex_seq h9 h10)))) h11)), ?_, ?_, ?_, ?_, ?_⟩
    · rw [PT.get_set, if_neg (by decide), PT.get_set, if_neg (by decide), PT.get_set, if_neg (by decide), PT.get_set, if_neg (by decide), b0]
    · rw [PT.get_set, if_neg (by decide), PT.get_set, if_neg (by decide), PT.get_set, if_neg (by decide), PT.get_set, if_neg (by decide), b1]
    · rw [PT.get_set, if_neg (by decide), PT.get_set, if_neg (by decide), PT.get_set, if_neg (by decide), PT.get_set, if_neg (by decide), b2]
    · rw [PT.get_set, if_neg (by decide), PT.get_set, if_neg (by decide), PT.get_set, if_neg (by decide), PT.get_set, if_neg (by decide), b3]
    · rw [PT.get_set, if_pos rfl]
  | none =>
    obtain ⟨f8, h8, g8, g9⟩ : ∃ fr, exec E tab pureA 12 33 n rd (cL (cR (cL (cL (cR (cR ib12)))))) ⟨(((((fi12 (.map m) it (.slice o off len 1) len i).set 21 (some (.bool true))).set 22 (some (.ptr o (off + i * 1)))).set 23 (some (.str s))).set 7 (some (.str s))), [], h⟩ = some (.normal, ⟨fr, [], h⟩) ∧
        (fr.get 13 = some it ∧ fr.get 3 = some (.map m) ∧ fr.get 18 = some (.slice o off len 1) ∧ fr.get 19 = some (.int .i64 len) ∧ fr.get 20 = some (.int .i64 i)) ∧ fr.get 9 = some (.bool false) := by
      refine ⟨(((((((((((((fi12 (.map m) it (.slice o off len 1) len i).set 21 (some (.bool true))).set 22 (some (.ptr o (off + i * 1)))).set 23 (some (.str s))).set 7 (some (.str s))).set 25 (some (.map m))).set 26 (some (.str s))).set 27 (some (.tuple [.nilslice, .bool false]))).set 24 (some (.tuple [.nilslice, .bool false]))).set 28 (some (.nilslice))).set 29 (some (.bool false))).set 8 (some (.nilslice))).set 9 (some (.bool false))), ?_, ⟨rfl, rfl, rfl, rfl, rfl⟩, rfl⟩
      · refine ex_region ?_
        refine rs_val rfl rfl rfl (rs_val rfl rfl rfl ?_)
        refine rs_val rfl (op_lookup (te := ⟨.slice 9, 1, 24, false, .nilslice⟩) (key := .str s) rfl rfl rfl rfl rfl hm hf) rfl ?_
        exact rs_val rfl rfl rfl (rs_val rfl rfl rfl (rs_val rfl rfl rfl (rs_val rfl rfl rfl (rs_val rfl rfl rfl rs_nil))))
    have h9 : exec E tab pureA 12 33 n rd (cL (cR (cR (cL (cL (cR (cR ib12))))))) ⟨f8, [], h⟩ = some (.normal, ⟨(f8.set 30 (some (.bool false))).set 31 (some (.bool true)), [], h⟩) := by
      refine ex_region ?_
      refine rs_val (h1 := h) (v := some (.bool false)) rfl (by show some (ARes.val (f8.get 9) h) = _; rw [g9]) rfl ?_
      refine rs_val (h1 := h) (v := some (.bool true)) rfl ?_ rfl rs_nil
      show (match ((f8.set 30 (some (.bool false))).get 30) with | some a => ret1 h (aun .not a) | none => none) = _
      rw [PT.get_set, if_pos rfl]
      rfl
    have h10 : exec E tab pureA 12 33 n rd (cR (cR (cR (cL (cL (cR (cR ib12))))))) ⟨(f8.set 30 (some (.bool false))).set 31 (some (.bool true)), [], h⟩ = some (.ret, ⟨((f8.set 30 (some (.bool false))).set 31 (some (.bool true))).set 2 (some (.bool false)), [], h⟩) := by
      refine ex_true ?_ (ex_seq (ex_region (rs_val rfl rfl rfl rs_nil)) rfl)
      show PT.get _ 31 = _
      rw [PT.get_set, if_pos rfl]
    refine ⟨_, ex_seq h6 (ex_seq (s1 := ⟨(fi12 (.map m) it (.slice o off len 1) len i).set 21 (some (.bool true)), [], h⟩) (ex_true rfl rfl) (ex_seq_out (ex_block_ret (ex_seq h7 (ex_seq h8 (ex_seq h9 h10)))) (by simp))), ?_⟩
    show PT.get _ 2 = _
    rw [PT.get_set, if_pos rfl]

theorem ib12_stop {rv : AV} : ∃ fr, exec E tab pureA 12 33 n rd ib12 ⟨fi12 (.map m) it rv len len, [], h⟩ = some (.exit 2, ⟨fr, [], h⟩) ∧ fr.get 13 = some it ∧ fr.get 3 = some (.map m) := by
  have hlt : decide ((len : Int) < len) = false := by simp
  have h6 : exec E tab pureA 12 33 n rd (cL ib12) ⟨fi12 (.map m) it rv len len, [], h⟩ = some (.normal, ⟨(fi12 (.map m) it rv len len).set 21 (some (.bool (decide ((len : Int) < len)))), [], h⟩) := rfl
  rw [hlt] at h6
  exact ⟨_, ex_seq h6 (ex_seq_out (ex_false rfl rfl) (by simp)), rfl, rfl⟩

/-- Are all texts of a row keys? -/
def refsThere (es : List (AV × AV × Nat)) : List AV → Option Bool
  | [] => some true
  | .str s :: l => match findE (.str s) es 0, refsThere es l with
    | some r, some b => some (r.isSome && b)
    | _, _ => none
  | _ :: _ => none

theorem clean12 {fr : AFrame} {rv : AV} {i : Int} {ms : List Nat} (h13 : fr.get 13 = some it) (h3 : fr.get 3 = some (.map m)) (h18 : fr.get 18 = some rv) (h19 : fr.get 19 = some (.int .i64 len)) (h20 : fr.get 20 = some (.int .i64 i)) :
    clean pureA 6 ⟨fr, ms, h⟩ = ⟨fi12 (.map m) it rv len i, ms, h⟩ := by
  show (ASt.mk (keepOnly fr [20, 19, 18, 3, 13]) ms h) = _
  simp only [keepOnly, h13, h3, h18, h19, h20, fi12]

/-- The inner loop. -/
theorem il12 (ho : h.get o = some (.cells vs rw)) (hm : h.get m = some (.map es clock)) (hlen : len < 4611686018427387904) (hin : off + len ≤ vs.length) :
    ∀ (k i N : Nat) (fr : AFrame) (b : Bool), i + k = len → k < N → refsThere es ((vs.drop (off + i)).take k) = some b → fr.get 13 = some it → fr.get 3 = some (.map m) → fr.get 18 = some (.slice o off len 1) → fr.get 19 = some (.int .i64 len) → fr.get 20 = some (.int .i64 i) →
      ∃ fr' e, iter (exec E tab pureA 12 33 n rd ib12) (clean pureA 6) N ⟨fr, [], h⟩ = some (e, ⟨fr', [], h⟩) ∧ ((b = true ∧ e = .exit 2 ∧ fr'.get 13 = some it ∧ fr'.get 3 = some (.map m)) ∨ (b = false ∧ e = .ret ∧ fr'.get 2 = some (.bool false)))
  | 0, i, N + 1, fr, b, hk, _, hr, h13, h3, h18, h19, h20 => by
    have hil : i = len := by omega
    subst hil
    obtain ⟨fr', q1, q2, q3⟩ := ib12_stop (E := E) (n := n) (rd := rd) (h := h) (m := m) (it := it) (len := i) (rv := .slice o off i 1)
    simp only [List.take_zero, refsThere, Option.some.injEq] at hr
    refine ⟨fr', .exit 2, ?_, .inl ⟨hr.symm, rfl, q2, q3⟩⟩
    simp only [iter, clean12 h13 h3 h18 h19 h20, q1]
  | k + 1, i, N + 1, fr, b, hk, hN, hr, h13, h3, h18, h19, h20 => by
    have hi : i < len := by omega
    have hlt : off + i < vs.length := by omega
    rw [List.drop_eq_getElem_cons hlt, List.take_succ_cons] at hr
    cases hv : vs[off + i] with
    | str s =>
      rw [hv] at hr
      simp only [refsThere] at hr
      split at hr
      · rename_i r b' hf hb'
        cases hr
        have hv' : vs[off + i * 1]? = some (.str s) := by rw [Nat.mul_one, List.getElem?_eq_getElem hlt, hv]
        obtain ⟨fr1, q1, q2⟩ := ib12_round (E := E) (n := n) (rd := rd) (it := it) hi ho hv' hm hf hlen
        cases r with
        | some p =>
          obtain ⟨c13, c3, c18, c19, c20⟩ := q2
          obtain ⟨fr2, e, r1, r2⟩ := il12 ho hm hlen hin k (i + 1) N fr1 b' (by omega) (by omega) (by rw [show off + (i + 1) = off + i + 1 from by omega]; exact hb') c13 c3 c18 c19 c20
          refine ⟨fr2, e, ?_, by simpa using r2⟩
          simp only [iter, clean12 h13 h3 h18 h19 h20, q1]
          exact r1
        | none =>
          refine ⟨fr1, .ret, ?_, .inr ⟨rfl, rfl, q2⟩⟩
          simp only [iter, clean12 h13 h3 h18 h19 h20, q1]
      · cases hr
    | _ => rw [hv] at hr; cases hr
end
end Go.Am
