/-
  GraphLive: the walk.
-/
import Derived.Test.YtfieacodpjpfbaaG5
set_option linter.unusedVariables false
set_option linter.unusedSimpArgs false
namespace Go.Am
open Go Go.Proofs

/-- A path of a row. -/
theorem prep_at {h : AHeap} {v : AV} {G : Gr} (a : PRep h v G) {i : Nat} {e : Bs × List Bs} (he : G[i]? = some e) :
    ∃ o off rv, aindexAddr tab 24 v (.int .i64 (i : Int)) = some (.ptr o off) ∧ loadA tab h 9 (.ptr o off) = some (.str e.1) ∧ loadA tab h 26 (.ptr o (off + 1)) = some rv ∧ SRow h rv e.2 ∧ loadA tab h 28 (.ptr o off) = some (.agg [.str e.1, rv, .str [], .str []]) := by
  obtain ⟨pl, hr, hf⟩ := a
  have hi : i < pl.length := by rw [hf.length]; exact (List.getElem?_eq_some_iff.1 he).1
  have hei : pl[i]? = some pl[i] := List.getElem?_eq_getElem hi
  obtain ⟨b, h1, h2, h3⟩ := hf.get hei
  rw [he] at h1; cases h1
  obtain ⟨o, off, q1, q2, ws, rw, q3, q4⟩ := hr.getAgg ty24 ty28 rfl rfl hi (k := .i64)
  have hc := pcells_at pl i _ hei
  rw [hc] at q2
  have cell : ∀ j, j < 4 → (pcells pl)[i * 4 + j]? = ([.str pl[i].1, pl[i].2, .str [], .str []] : List AV)[j]? := fun j hj => by
    rw [← hc, List.getElem?_take_of_lt hj, List.getElem?_drop]
  refine ⟨o, off, pl[i].2, q1, ?_, ?_, h3, by rw [q2, h2]⟩
  · refine loadA_cell ty9 rfl q3 ?_
    have := q4 0 (by decide)
    rw [cell 0 (by omega)] at this
    rw [← h2]; simpa using this
  · refine loadA_cell ty26 rfl q3 ?_
    have := q4 1 (by decide)
    rw [cell 1 (by omega)] at this
    simpa using this

theorem prep_len {h : AHeap} {v : AV} {G : Gr} (a : PRep h v G) : alen tab h 24 v = some (.int .i64 (G.length : Int)) := by
  obtain ⟨pl, hr, hf⟩ := a
  rw [hr.len ty24, hf.length]

theorem str_one (s : Bs) : (AV.str s).one = true := rfl
theorem row_one {h : AHeap} {v : AV} {n e : Nat} {vs : List AV} (a : Row h v n e vs) : v.one = true := by
  rcases a.2 with ⟨e, _⟩ | ⟨e, _⟩ | ⟨o, off, ws, rw, e, _⟩ <;> rw [e] <;> rfl

/-- One more path. -/
theorem push_path {h0 h : AHeap} {out rv : AV} {pl : List (Bs × AV)} {s : Bs} {rs : List Bs} (a : Own h0 h out pl.length 4 (pcells pl)) (e : Ext h0 h) (hrv : rv.one = true) (hn : pl.length < 1000000000) :
    ∃ y h1 v' h', abuildSlice tab h 24 1 [(0, .agg [.str s, rv, .str [], .str []])] = some (y, h1) ∧ aappend tab h1 24 24 out y = some (v', h') ∧ Own h0 h' v' (pl ++ [(s, rv)]).length 4 (pcells (pl ++ [(s, rv)])) ∧ Ext h0 h' := by
  have hd : ∀ j, h0.get j ≠ none → h.get j ≠ none := fun j hj => by
    cases e1 : h0.get j with
    | none => exact absurd e1 hj
    | some y => rw [e.keep _ _ e1]; simp
  obtain ⟨y, h1, v', h', p1, p2, p3, p4, _, _⟩ := pushK (x := .agg [.str s, rv, .str [], .str []]) ty24 ty28 rfl rfl (by decide) (by decide) (by decide) a e.wf hd rfl (by simp [AV.cells, allOne, hrv, str_one]) rfl hn
  rw [pcells_push] at p3
  exact ⟨y, h1, v', h', p1, p2, by simpa using p3, p4.ext e⟩

abbrev S3 := AV × AV × AV × AV × AV × AV × Unit

section
variable {B : AHeap} {p r live dead : AV} {G : Gr} {rl : List Bs} {n i : Nat} {e : Bs × List Bs} {N : Nat} {next25 : S3 → List Nat → AHeap → Option (AV × AHeap)}

/-- What a round of the outer loop hands on. -/
def Next3 (B : AHeap) (p r live dead : AV) (G : Gr) (i : Nat) (L : List Bs) (next25 : S3 → List Nat → AHeap → Option (AV × AHeap)) (o : Option (AV × AHeap)) : Prop :=
  ∃ out hh pl, o = next25 (p, r, live, dead, out, .int .i64 ((i + 1 : Nat) : Int), ()) [] hh ∧ Ext B hh ∧ Own B hh out pl.length 4 (pcells pl) ∧ Rel2 B pl (restG (G.take (i + 1)) L)

/-- What stands behind the references. -/
theorem live_push (hp : PRep B p G) (he : G[i]? = some e) (hi : i < 1000) {L : List Bs} {x : Bool} (hx : x = decide (e.1 ∈ L)) {out : AV} {hh : AHeap} {pl : List (Bs × AV)} (hext : Ext B hh) (ho : Own B hh out pl.length 4 (pcells pl)) (hrel : Rel2 B pl (restG (G.take i) L)) :
    Next3 B p r live dead G i L next25 (boolK (.bool x) (
valK (aindexAddr tab 24 p (.int .i64 (i : Int))) fun x72 =>
valK (loadA tab hh 28 x72) fun x73 =>
bothK (abuildSlice tab hh 24 1 [(0, x73)]) fun x74 h75 =>
bothK (aappend tab h75 24 24 out x74) fun x76 h77 =>
valK (abin tab .add 3 (.int .i64 (i : Int)) (.int .i64 1)) fun x78 =>
next25 (p, r, live, dead, x76, x78, ()) [] h77) (
valK (abin tab .add 3 (.int .i64 (i : Int)) (.int .i64 1)) fun x79 =>
next25 (p, r, live, dead, out, x79, ()) [] hh)) := by
  have htk : restG (G.take (i + 1)) L = restG (G.take i) L ++ (if e.1 ∈ L then [e] else []) := by
    have hlt := (List.getElem?_eq_some_iff.1 he)
    obtain ⟨hlt, hge⟩ := hlt
    rw [List.take_succ_eq_append_getElem hlt, restG, restG, List.filter_append, hge]
    congr 1
    by_cases h : e.1 ∈ L <;> simp [h]
  have hpl : pl.length ≤ i := by
    rw [hrel.length]
    exact Nat.le_trans (List.length_filter_le _ _) (by simp; omega)
  by_cases h : e.1 ∈ L
  · subst hx
    obtain ⟨o, off, rv, q1, _, q3, q4, q5⟩ := prep_at (hp.ext hext) he
    obtain ⟨o', off', rv', q1', _, _, q4', q5'⟩ := prep_at hp he
    have hrr : rv = rv' := by
      rw [q1] at q1'; cases q1'
      have : loadA tab hh 28 (.ptr o off) = some (.agg [.str e.1, rv', .str [], .str []]) := by
        simp only [loadA, aload] at q5' ⊢
        split at q5'
        · rename_i vs _ ty hg ht
          rw [hext.keep _ _ hg, ht]
          exact q5'
        · cases q5'
      rw [q5] at this; cases this; rfl
    subst hrr
    obtain ⟨y, h1, v', h', p1, p2, p3, p4⟩ := push_path (s := e.1) (rs := e.2) ho hext (row_one q4) (by omega)
    rw [decide_eq_true h]
    simp only [boolK_t, q1, q5, p1, p2, valK_s, bothK_s, abin_inc (show i < 4611686018427387904 by omega)]
    refine ⟨v', h', pl ++ [(e.1, rv)], rfl, p4, p3, ?_⟩
    rw [htk, if_pos h]
    exact Rel2.push ⟨rfl, q4'⟩ hrel
  · subst hx
    rw [decide_eq_false h]
    simp only [boolK_f, valK_s, abin_inc (show i < 4611686018427387904 by omega)]
    refine ⟨out, hh, pl, rfl, hext, ho, ?_⟩
    rw [htk, if_neg h, List.append_nil]; exact hrel

/-- All that a live path refers to is live. -/
theorem live_refs (hp : PRep B p G) (he : G[i]? = some e) (hi : i < 1000) {L : List Bs} (hl : SRow B live L) (hL : L.length < 1000000000) (hrs : e.2.length < 1000000000) {x : Bool} (hx : x = decide (e.1 ∈ L)) (hall : e.1 ∈ L → ∀ q ∈ e.2, q ∈ L)
    {out : AV} {hh : AHeap} {pl : List (Bs × AV)} (hext : Ext B hh) (ho : Own B hh out pl.length 4 (pcells pl)) (hrel : Rel2 B pl (restG (G.take i) L)) (hN : e.2.length < N) :
    Next3 B p r live dead G i L next25 (loopN (F3_b24 EG N next25) N (p, r, live, dead, out, .int .i64 (i : Int), .bool x, .int .i64 (0 : Int), ()) [] hh) := by
  refine loop_rule (σ := AV × AV × AV × AV × AV × AV × AV × AV × Unit) (R := AV × AHeap) (total := e.2.length) (I := fun k s h1 => k ≤ e.2.length ∧ s = (p, r, live, dead, out, .int .i64 (i : Int), .bool x, .int .i64 (k : Int), ()) ∧ h1 = hh)
    (Q := Next3 B p r live dead G i L next25) ?_ _ 0 _ _ ⟨by omega, rfl, rfl⟩ (by omega) (by omega)
  rintro k s h1 nx ⟨hk, rfl, rfl⟩
  simp only [F3_b24, jn_a]
  obtain ⟨o, off, rv, q1, q2, q3, q4, q5⟩ := prep_at (hp.ext hext) he
  have hpush := live_push (r := r) (live := live) (dead := dead) (next25 := next25) hp he hi hx hext ho hrel
  cases hxv : x with
  | false =>
    right
    rw [hxv] at hpush
    exact hpush
  | true =>
    rw [hxv] at hpush
    have hmem : e.1 ∈ L := by rw [hx] at hxv; simpa using hxv
    simp only [boolK_t, q1, fa28_1, q3, valK_s, srow_len q4, abin_lss]
    by_cases hlt : k < e.2.length
    · left
      obtain ⟨pp, e1, e2⟩ := srow_get q4 (List.getElem?_eq_getElem hlt)
      have hh1 := has_run (hl.ext hext) hL (s := e.2[k])
      have hin : decide (e.2[k] ∈ L) = true := by simpa using hall hmem _ (List.getElem_mem hlt)
      simp only [ltT hlt, boolK_t, e1, e2, valK_s, hh1, hin, bothK_s, aun_not, Bool.not_true, boolK_f, abin_inc (show k < 4611686018427387904 by omega)]
      exact ⟨hlt, _, _, rfl, by omega, rfl, rfl⟩
    · right
      simp only [ltF hlt, boolK_f]
      simp only [boolK_t] at hpush
      simp only [q1] at hpush
      exact hpush

/-- A round: whether the path is live is told alike by all. -/
theorem live_round (hp : PRep B p G) (hr : SRow B r rl) (he : G[i]? = some e) (hi : i < 1000) (hG : SmallG G) (hrl : rl.length < 1000000000) {D : List Bs}
    (hl : SRow B live (closureG G rl)) (hd : SRow B dead D) (hL : (closureG G rl).length < 1000000000) (hD : D.length < 1000000000) (hrs : e.2.length < 1000000000) (hDL : e.1 ∈ D ↔ e.1 ∉ closureG G rl) (hall : e.1 ∈ closureG G rl → ∀ q ∈ e.2, q ∈ closureG G rl) (hthere : (thereG G e.1).isSome = true)
    {out : AV} {hh : AHeap} {pl : List (Bs × AV)} (hext : Ext B hh) (ho : Own B hh out pl.length 4 (pcells pl)) (hrel : Rel2 B pl (restG (G.take i) (closureG G rl))) (hN : e.2.length < N) (hN2 : rl.length < N) :
    Next3 B p r live dead G i (closureG G rl) next25 (loopN (F3_b18 EG N next25) N (p, r, live, dead, out, .int .i64 (i : Int), .bool (decide (e.1 ∈ closureG G rl)), .bool false, .int .i64 (0 : Int), ()) [] hh) := by
  have hmem : ∀ x, x ∈ closureG G rl ↔ ∃ q ∈ rl, x ∈ closureG G [q] := fun x => by
    rw [mem_closureG]
    constructor
    · rintro ⟨q, h1, h2⟩; exact ⟨q, h1, mem_closureG.2 ⟨q, List.mem_singleton.2 rfl, h2⟩⟩
    · rintro ⟨q, h1, h2⟩
      obtain ⟨q', h3, h4⟩ := mem_closureG.1 h2
      rw [List.mem_singleton] at h3; subst h3
      exact ⟨q', h1, h4⟩
  refine loop_rule (σ := AV × AV × AV × AV × AV × AV × AV × AV × AV × Unit) (R := AV × AHeap) (total := rl.length)
    (I := fun k s h1 => k ≤ rl.length ∧ ∃ b : Bool, s = (p, r, live, dead, out, .int .i64 (i : Int), .bool (decide (e.1 ∈ closureG G rl)), .bool b, .int .i64 (k : Int), ()) ∧ Ext hh h1 ∧ (b = true ↔ ∃ q ∈ rl.take k, e.1 ∈ closureG G [q]))
    (Q := Next3 B p r live dead G i (closureG G rl) next25) ?_ _ 0 _ _ ⟨by omega, false, rfl, Ext.refl hext.wf, by simp⟩ (by omega) (by omega)
  rintro k s h1 nx ⟨hk, b, rfl, hx1, hb⟩
  have hext1 := hext.trans hx1
  simp only [F3_b18, jn_a, srow_len (hr.ext hext1), valK_s, abin_lss]
  obtain ⟨o, off, rv, q1, q2, q3, q4, q5⟩ := prep_at (hp.ext hext1) he
  by_cases hlt : k < rl.length
  · left
    have htk : rl.take (k + 1) = rl.take k ++ [rl[k]] := List.take_succ_eq_append_getElem hlt
    simp only [ltT hlt, boolK_t]
    cases b with
    | true =>
      simp only [boolK_t, abin_inc (show k < 4611686018427387904 by omega), valK_s]
      refine ⟨hlt, _, _, rfl, by omega, true, rfl, hx1, ?_⟩
      obtain ⟨q, hq1, hq2⟩ := hb.1 rfl
      exact ⟨fun _ => ⟨q, by rw [htk]; exact List.mem_append_left _ hq1, hq2⟩, fun _ => rfl⟩
    | false =>
      obtain ⟨v1, w1, w2⟩ := (hr.ext hext1).sub ty26 ty9 rfl (lo := k) (hi := k + 1) (by omega) (by omega) (k1 := .i64) (k2 := .i64)
      have hsub : ((strs rl).drop (k * 1)).take ((k + 1 - k) * 1) = strs [rl[k]] := by
        rw [show k + 1 - k = 1 by omega]
        simp only [strs, ← List.map_drop, ← List.map_take, Nat.mul_one]
        rw [List.drop_eq_getElem_cons hlt]
        rfl
      rw [hsub, show k + 1 - k = ([rl[k]] : List Bs).length by simp] at w2
      obtain ⟨v2, h2, c1, c2, c3⟩ := closure_run hext1.wf (hp.ext hext1) hG w2 (by simp)
      have hcl : (closureG G [rl[k]]).length < 1000000000 := by
        have := visG_length G [rl[k]]
        have h3 := hG.1
        rw [closureG, sortS_length]; omega
      have l2 : loadA tab h2 9 (.ptr o off) = some (.str e.1) := by
        obtain ⟨o', off', rv', t1, t2, _⟩ := prep_at (hp.ext (hext1.trans c3)) he
        rw [q1] at t1; cases t1; exact t2
      have hh2 := has_run c2.row hcl (s := e.1)
      simp only [boolK_f, abin_inc (show k < 4611686018427387904 by omega), valK_s, w1, q1, fa28_0, q2, c1, bothK_s, l2, sameK_r, hh2]
      refine ⟨hlt, _, _, rfl, by omega, _, rfl, hx1.trans c3, ?_⟩
      rw [htk, decide_eq_true_eq]
      constructor
      · exact fun h => ⟨rl[k], List.mem_append_right _ (List.mem_singleton.2 rfl), h⟩
      · rintro ⟨q, hq1, hq2⟩
        rcases List.mem_append.1 hq1 with hq1 | hq1
        · exact absurd (hb.2 ⟨q, hq1, hq2⟩) (by simp)
        · rw [List.mem_singleton] at hq1; subst hq1; exact hq2
  · right
    have hkl : k = rl.length := by omega
    subst hkl
    rw [List.take_length, ← hmem] at hb
    have hb' : b = decide (e.1 ∈ closureG G rl) := by
      cases b with
      | true => simpa using hb.1 rfl
      | false =>
        symm; rw [decide_eq_false_iff_not]; exact fun h => by have := hb.2 h; cases this
    have hdd := has_run (hd.ext hext1) hD (s := e.1)
    have hrr := has_run (hr.ext hext1) hrl (s := e.1)
    have hDx : decide (e.1 ∈ D) = !decide (e.1 ∈ closureG G rl) := by
      by_cases h : e.1 ∈ closureG G rl <;> simp [hDL, h]
    have hfin := live_refs (next25 := next25) (r := r) (dead := dead) (N := N) hp he hi hl hL hrs (x := decide (e.1 ∈ closureG G rl)) rfl hall hext1 (ho.ext hx1) hrel hN
    simp only [ltF hlt, boolK_f, q1, fa28_0, q2, valK_s, hdd, bothK_s, abin_booleq ty4, hDx]
    have hne : (decide (e.1 ∈ closureG G rl) == !decide (e.1 ∈ closureG G rl)) = false := by cases decide (e.1 ∈ closureG G rl) <;> rfl
    simp only [hne, boolK_f, hb', abin_boolne ty4, bne_self_eq_false, valK_s, hrr, skipK_b, bothK_s]
    by_cases hroot : e.1 ∈ rl
    · have hin : e.1 ∈ closureG G rl := mem_closureG.2 ⟨e.1, hroot, .refl hthere⟩
      rw [decide_eq_true hin] at hfin ⊢
      simp only [decide_eq_true hroot, boolK_t, aun_not, valK_s, Bool.not_true, boolK_f]
      exact hfin
    · simp only [decide_eq_false hroot, boolK_f]
      exact hfin

/-- The outer loop. -/
theorem live_outer (hp : PRep B p G) (hr : SRow B r rl) (hw : B.WF) (hGl : G.length < 1000) (hG : SmallG G) (hn : (G.map (·.1)).Nodup) (hc : closedG G = true) (hrl : rl.length < 1000)
    (hl : SRow B live (closureG G rl)) (hd : SRow B dead (deadG G rl)) (hN : 1000 < N) (hrs : ∀ e ∈ G, e.2.length < 1000) :
    ∃ h', loopN (F3_b13 EG N) N (p, r, live, dead, .nilslice, .int .i64 (0 : Int), ()) [] B = some (.bool true, h') := by
  have hLl : (closureG G rl).length < 1000000000 := by
    have := visG_length G rl
    rw [closureG, sortS_length]; omega
  have hDl : (deadG G rl).length < 1000000000 := by
    have := live_dead hn rl
    omega
  refine loop_rule (σ := S3) (R := AV × AHeap) (total := G.length)
    (I := fun i s hh => i ≤ G.length ∧ ∃ out pl, s = (p, r, live, dead, out, .int .i64 (i : Int), ()) ∧ Ext B hh ∧ Own B hh out pl.length 4 (pcells pl) ∧ Rel2 B pl (restG (G.take i) (closureG G rl)))
    (Q := fun o => ∃ h', o = some (.bool true, h')) ?_ _ 0 _ _ ⟨by omega, .nilslice, [], rfl, Ext.refl hw, own_nil _ _ 4, trivial⟩ (by omega) (by omega)
  rintro i s hh nx ⟨hi, out, pl, rfl, hext, ho, hrel⟩
  simp only [F3_b13, prep_len (hp.ext hext), valK_s, abin_lss]
  by_cases hlt : i < G.length
  · left
    have he : G[i]? = some G[i] := List.getElem?_eq_getElem hlt
    have hm : G[i] ∈ G := List.getElem_mem hlt
    obtain ⟨o, off, rv, q1, q2, q3, q4, q5⟩ := prep_at (hp.ext hext) he
    have h1 := has_run (hl.ext hext) hLl (s := G[i].1)
    have hth : thereG G G[i].1 = some G[i].2 := thereG_nodup hn hm
    obtain ⟨out', hh', pl', e1, e2, e3, e4⟩ := live_round (next25 := nx) (N := N) (D := deadG G rl) (i := i) hp hr he (by omega) hG (by omega) hl hd hLl hDl (by have := hrs _ hm; omega)
      (by rw [mem_deadG]; exact ⟨fun h => h.2, fun h => ⟨List.mem_map_of_mem hm, h⟩⟩)
      (fun hin q hq => by
        obtain ⟨q0, hq0, hr0⟩ := mem_closureG.1 hin
        have hq1 := closedG_iff.1 hc _ _ hth q hq
        exact mem_closureG.2 ⟨q0, hq0, hr0.trans (.step hth hq (.refl ((thereG_mem G q).2 hq1)))⟩)
      (by rw [hth]; rfl) hext ho hrel (by have := hrs _ hm; omega) (by omega)
    simp only [ltT hlt, boolK_t, q1, fa28_0, q2, valK_s, h1, bothK_s]
    rw [e1]
    exact ⟨hlt, _, _, rfl, by omega, out', pl', rfl, e2, e3, e4⟩
  · right
    have hin : i = G.length := by omega
    subst hin
    rw [List.take_length] at hrel
    have prest : PRep hh out (restG G (closureG G rl)) := ⟨pl, ho.row, hrel.ext hext⟩
    have srest : SmallG (restG G (closureG G rl)) := ⟨Nat.lt_of_le_of_lt (List.length_filter_le _ _) hG.1, fun e he => hG.2 e ((List.mem_filter.1 he).1)⟩
    obtain ⟨h2, c1, c2⟩ := closed_run hext.wf prest srest
    obtain ⟨v3, h3, d1, d2, d3⟩ := dead_run c2.wf (prest.ext c2) srest (hr.ext (hext.trans c2)) (by omega)
    rw [rest_dead hn] at d2
    rw [rest_closed hn hc] at c1
    have hz : alen tab h3 26 v3 = some (.int .i64 0) := srow_len d2.row
    simp only [ltF hlt, boolK_f, c1, bothK_s, boolK_t, d1, hz, valK_s, abin_eql, run14, unmark_nil, hpK_s]
    exact ⟨h3, rfl⟩
end

theorem graphLive_walk {h : AHeap} (hw : h.WF) {v0 : AV} {al : List Int} (hr0 : Row h v0 al.length 1 (al.map (AV.int .u16))) (rt : Int) {N : Nat} (hN : 2000 ≤ N) :
    ∃ h', F3 EG N v0 (.int .u16 rt) h = some (.bool true, h') := by
  unfold F3
  obtain ⟨p, h1, e1, p1, x1⟩ := small_run hw hr0 false
  simp only [e1, bothK_s]
  have hGl := small_length al false
  have hnod := small_nodup al false
  have hcl := small_closed al false
  have hsm := small_small al false
  have hrs : ∀ e ∈ smallG al false, e.2.length < 1000 := fun e he => by
    simp only [smallG, List.mem_map, List.mem_range] at he
    obtain ⟨i, hi, rfl⟩ := he
    have := smallR_length al false (min al.length 14) i
    have h2 : tot false (min al.length 14) i ≤ 14 := by unfold tot; simp; omega
    simp only; omega
  have hkeys := smallG_keys al false
  generalize smallG al false = G at *
  refine loop_rule (σ := AV × AV × AV × AV × Unit) (R := AV × AHeap) (total := G.length)
    (I := fun i s hh => i ≤ G.length ∧ ∃ out, ∃ rl : List Bs, s = (.int .u16 rt, p, out, .int .i64 (i : Int), ()) ∧ Ext h1 hh ∧ SOwn h1 hh out rl ∧ rl.length ≤ i)
    (Q := fun o => ∃ h', o = some (.bool true, h')) ?_ _ 0 _ _ ⟨by omega, .nilslice, [], rfl, Ext.refl x1.wf, own_nil _ _ 1, by simp⟩ (by omega) (by omega)
  rintro i s hh nx ⟨hi, out, rl, rfl, hext, ho, hrl⟩
  have hp := p1.ext hext
  simp only [F3_b4, prep_len hp, valK_s, abin_lss]
  by_cases hlt : i < G.length
  · left
    have he : G[i]? = some G[i] := List.getElem?_eq_getElem hlt
    obtain ⟨o, off, rv, q1, q2, q3, q4, q5⟩ := prep_at hp he
    simp only [ltT hlt, boolK_t, shr_u16, rem_u16, abin_eql, valK_s]
    cases hb : decide ((rt.fdiv (2 ^ (Nat.min i 16))).tmod 2 = 1) with
    | true =>
      obtain ⟨y, h2, v', h', p1, p2, p3, p4⟩ := push1 (x := .str G[i].1) ty26 ty9 rfl rfl (by decide) ho hext rfl (by omega)
      simp only [boolK_t, q1, fa28_0, q2, valK_s, p1, p2, bothK_s, abin_inc (show i < 4611686018427387904 by omega)]
      exact ⟨hlt, _, _, rfl, by omega, v', rl ++ [G[i].1], rfl, p4, sown_push p3, by simp; omega⟩
    | false =>
      simp only [boolK_f, abin_inc (show i < 4611686018427387904 by omega), valK_s]
      exact ⟨hlt, _, _, rfl, by omega, out, rl, rfl, hext, ho, by omega⟩
  · right
    simp only [ltF hlt, boolK_f]
    have hr := ho.row
    obtain ⟨lv, h2, c1, c2, x2⟩ := closure_run hext.wf hp hsm hr (by omega)
    obtain ⟨dv, h3, d1, d2, x3⟩ := dead_run x2.wf (hp.ext x2) hsm (hr.ext x2) (by omega)
    have ll := live_dead hnod rl
    have cl3 := c2.row.ext x3
    have hsum : abin tab .add 3 (.int .i64 ((closureG G rl).length : Int)) (.int .i64 ((deadG G rl).length : Int)) = some (.int .i64 (G.length : Int)) := by
      rw [abin_add (by omega) (by omega)]
      congr 2; omega
    obtain ⟨lv2, h4, f1, f2, x4⟩ := closure_run x3.wf (hp.ext (x2.trans x3)) hsm cl3 (by omega)
    rw [closure_again] at f2
    have hsl : sumLen (closureG G rl) < 1000000000000 := by
      have hb : ∀ x ∈ closureG G rl, x.length = 1 := fun x hx => by
        have h5 := visG_there G rl x (mem_sortS.1 hx)
        rw [hkeys, List.mem_map] at h5
        obtain ⟨j, _, rfl⟩ := h5; rfl
      have key : ∀ l : List Bs, (∀ x ∈ l, x.length = 1) → sumLen l = 2 * l.length := by
        intro l
        induction l with
        | nil => intro _; rfl
        | cons x l ih =>
          intro hx
          have := ih fun y hy => hx y (List.mem_cons_of_mem _ hy)
          have h6 := hx x List.mem_cons_self
          simp only [sumLen, List.map_cons, List.sum_cons, List.length_cons] at this ⊢
          omega
      rw [key _ hb]; omega
    have s1 := said_run f2.row (by omega) hsl
    have s2 := said_run ((cl3.ext x4)) (by omega) hsl
    obtain ⟨h5, g1, x5⟩ := closed_run x4.wf (hp.ext ((x2.trans x3).trans x4)) hsm
    rw [hcl] at g1
    have xall := ((x2.trans x3).trans x4).trans x5
    obtain ⟨h6, m1⟩ := live_outer (B := h5) (p := p) (r := out) (live := lv) (dead := dv) (G := G) (rl := rl) (N := N) (hp.ext xall) (hr.ext xall) x5.wf (by omega) hsm hnod hcl (by omega)
      (cl3.ext (x4.trans x5)) (d2.row.ext (x4.trans x5)) (by omega) hrs
    simp only [c1, bothK_s, d1, jn_a, srow_len cl3, srow_len d2.row, hsum, prep_len (hp.ext (x2.trans x3)), abin_neq, valK_s, decide_true, Bool.not_true, boolK_f, f1, s1, s2, abin_strne, g1, aun_not, m1]
    exact ⟨h6, rfl⟩

end Go.Am
