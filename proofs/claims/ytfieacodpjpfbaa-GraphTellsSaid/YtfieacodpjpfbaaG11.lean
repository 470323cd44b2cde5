/-
  The document's answers for the graph: that they are the same functions.
-/
import Derived.Test.YtfieacodpjpfbaaG9
set_option linter.unusedVariables false
set_option linter.unusedSimpArgs false
namespace Go.Am
open Go Go.Proofs

/-! ### find, has, put, All, Texts -/

def findI (G : Gr) (p : Bs) : Int := match G.findIdx? fun e => decide (e.1 = p) with | some i => (i : Int) | none => -1

theorem findI_nonneg (G : Gr) (p : Bs) : decide ((0 : Int) ≤ findI G p) = decide (p ∈ G.map (·.1)) := by
  unfold findI
  cases h : G.findIdx? fun e => decide (e.1 = p) with
  | some i =>
    have h1 := List.findIdx?_eq_some_iff_getElem.1 h
    obtain ⟨hi, h2, _⟩ := h1
    have : p ∈ G.map (·.1) := by
      rw [← of_decide_eq_true h2]; exact List.mem_map_of_mem (List.getElem_mem hi)
    simp only [decide_eq_true this, decide_eq_true_eq]; omega
  | none =>
    have h1 := List.findIdx?_eq_none_iff.1 h
    have : p ∉ G.map (·.1) := fun hc => by
      obtain ⟨e, he, h2⟩ := List.mem_map.1 hc
      have := h1 e he
      simp [h2] at this
    rw [decide_eq_false this]; rfl

theorem findI_neg (G : Gr) (p : Bs) : decide (findI G p < 0) = decide (p ∉ G.map (·.1)) := by
  have := findI_nonneg G p
  by_cases h : p ∈ G.map (·.1)
  · rw [decide_eq_true h, decide_eq_true_eq] at this
    simp only [h, not_true_eq_false, decide_false, decide_eq_false_iff_not]; omega
  · rw [decide_eq_false h, decide_eq_false_iff_not] at this
    simp only [h, not_false_eq_true, decide_true, decide_eq_true_eq]; omega

/-- The first path of that name is the one that counts. -/
theorem findI_there {G : Gr} {p : Bs} (h : p ∈ G.map (·.1)) : ∃ (i : Nat) (e : Bs × List Bs), findI G p = (i : Int) ∧ G[i]? = some e ∧ e.1 = p ∧ thereG G p = some e.2 := by
  induction G with
  | nil => simp at h
  | cons f G ih =>
    by_cases hf : f.1 = p
    · refine ⟨0, f, ?_, rfl, hf, ?_⟩
      · simp [findI, List.findIdx?_cons, hf]
      · simp [thereG, hf]
    · have h' : p ∈ G.map (·.1) := by
        simp only [List.map_cons, List.mem_cons] at h
        rcases h with h | h
        · exact absurd h.symm hf
        · exact h
      obtain ⟨i, e, h1, h2, h3, h4⟩ := ih h'
      refine ⟨i + 1, e, ?_, by simpa using h2, h3, ?_⟩
      · unfold findI at h1 ⊢
        rw [List.findIdx?_cons]
        simp only [hf, decide_false, Bool.false_eq_true, if_false]
        cases hg : G.findIdx? fun e => decide (e.1 = p) with
        | none => rw [hg] at h1; exact absurd h1 (by simp only; omega)
        | some j => rw [hg] at h1; simp at h1 ⊢; omega
      · have : ¬ p = f.1 := fun e => hf e.symm
        simp [thereG, this, h4]

theorem find_run {h : AHeap} {v : AV} {G : Gr} (a : PRep h v G) (hn : G.length < 1000000) (p : Bs) : EG (.fn 32) [v, .str p] h = some (.int .i64 (findI G p), h) := by
  refine run32 (G.length + 1) ?_
  unfold F32
  refine loop_rule (σ := AV × AV × AV × Unit) (R := AV × AHeap) (total := G.length) (I := fun i st hh => hh = h ∧ i ≤ G.length ∧ st = (v, .str p, .int .i64 (i : Int), ()) ∧ ∀ j e, j < i → G[j]? = some e → e.1 ≠ p)
    (Q := fun o => o = some (.int .i64 (findI G p), h)) ?_ _ 0 _ _ ⟨rfl, by omega, rfl, fun j e hj => by omega⟩ (by omega) (by omega)
  rintro i st hh nx ⟨rfl, hi, rfl, hno⟩
  simp only [F32_b2, prep_len a, valK_s, abin_lss]
  by_cases hlt : i < G.length
  · have he : G[i]? = some G[i] := List.getElem?_eq_getElem hlt
    obtain ⟨o, off, rv, q1, q2, _⟩ := prep_at a he
    simp only [ltT hlt, boolK_t, q1, fa28_0, q2, valK_s, abin_streq]
    by_cases hp : G[i].1 = p
    · right
      simp only [decide_eq_true hp, boolK_t, unmark_nil, hpK_s]
      have : G.findIdx? (fun e => decide (e.1 = p)) = some i := by
        rw [List.findIdx?_eq_some_iff_getElem]
        refine ⟨hlt, by simpa using hp, fun j hj => ?_⟩
        have := hno j G[j] hj (List.getElem?_eq_getElem _)
        simpa using this
      simp only [findI, this]
    · left
      simp only [decide_eq_false hp, boolK_f, abin_inc (show i < 4611686018427387904 by omega), valK_s]
      refine ⟨hlt, _, _, rfl, rfl, by omega, rfl, fun j e hj hje => ?_⟩
      by_cases hji : j = i
      · subst hji; rw [he] at hje; cases hje; exact hp
      · exact hno j e (by omega) hje
  · right
    simp only [ltF hlt, boolK_f, unmark_nil, hpK_s]
    have : G.findIdx? (fun e => decide (e.1 = p)) = none := by
      rw [List.findIdx?_eq_none_iff]
      intro e he
      obtain ⟨j, hj, rfl⟩ := List.getElem_of_mem he
      have := hno j _ (by omega) (List.getElem?_eq_getElem hj)
      simpa using this
    simp only [findI, this]

theorem F35_same (n : Nat) (a0 a1 : AV) (h : AHeap) : F35 EG n a0 a1 h = F13 EG n a0 a1 h := rfl

theorem has35_run {h : AHeap} {v : AV} {l : List Bs} {s : Bs} (a : SRow h v l) (hn : l.length < 1000000000) : EG (.fn 35) [v, .str s] h = some (.bool (decide (s ∈ l)), h) := by
  refine run35 (l.length + 1) ?_
  rw [F35_same]
  unfold F13
  refine loop_rule (σ := AV × AV × AV × Unit) (R := AV × AHeap) (total := l.length) (I := fun i st hh => hh = h ∧ i ≤ l.length ∧ st = (v, .str s, .int .i64 (i : Int), ()) ∧ s ∉ l.take i)
    (Q := fun o => o = some (.bool (decide (s ∈ l)), h)) ?_ _ 0 _ _ ⟨rfl, by omega, rfl, by simp⟩ (by omega) (by omega)
  rintro i st hh nx ⟨rfl, hi, rfl, hno⟩
  simp only [F13_b2, srow_len a, valK_s, abin_lss]
  by_cases hlt : i < l.length
  · obtain ⟨p, h1, h2⟩ := srow_get a (List.getElem?_eq_getElem hlt)
    simp only [ltT hlt, boolK_t, h1, h2, valK_s, abin_streq, boolK_b, unmark_nil, hpK_s]
    by_cases he : l[i] = s
    · right
      have : s ∈ l := by rw [← he]; exact List.getElem_mem hlt
      simp [he, this]
    · left
      simp only [decide_eq_true_eq, he, if_false, abin_inc (show i < 4611686018427387904 by omega), valK_s]
      refine ⟨hlt, _, _, rfl, rfl, by omega, rfl, ?_⟩
      rw [List.take_succ_eq_append_getElem hlt]
      simp only [List.mem_append, List.mem_singleton, not_or]
      exact ⟨hno, fun e => he e.symm⟩
  · right
    simp only [ltF hlt, boolK_f, unmark_nil, hpK_s]
    rw [List.take_of_length_le (by omega)] at hno
    simp [hno]

/-- A text put into a rising list, once. -/
def putS (s : Bs) (l : List Bs) : List Bs := if s ∈ l then l else insS s l

theorem putS_rising {s : Bs} {l : List Bs} (h : Rising l) : Rising (putS s l) := by
  unfold putS; split
  · exact h
  · rename_i hs; exact insS_rising h hs

theorem mem_putS {s x : Bs} {l : List Bs} : x ∈ putS s l ↔ x = s ∨ x ∈ l := by
  unfold putS; split
  · rename_i hs
    constructor
    · exact .inr
    · rintro (rfl | h)
      · exact hs
      · exact h
  · exact mem_insS1

theorem putS_length (s : Bs) (l : List Bs) : (putS s l).length ≤ l.length + 1 := by
  unfold putS; split
  · omega
  · rw [insS_len]; omega

/-- Where it comes, and what stands there. -/
theorem insS_at {s : Bs} : ∀ {l : List Bs} {i : Nat}, i ≤ l.length → (∀ x ∈ l.take i, Op.bytesLess x s = true) → (∀ x, l[i]? = some x → Op.bytesLess x s = false) → insS s l = l.take i ++ s :: l.drop i
  | [], i, hi, _, _ => by
    obtain rfl : i = 0 := by simpa using hi
    rfl
  | t :: l, 0, _, _, h => by
    have := h t rfl
    simp only [insS, this]; rfl
  | t :: l, i + 1, hi, h1, h2 => by
    have h3 := h1 t (by simp)
    simp only [insS, h3]
    rw [insS_at (by simpa using hi) (fun x hx => h1 x (by simp [hx])) (fun x hx => h2 x (by simpa using hx))]
    simp

theorem slice_to {h : AHeap} {v : AV} {n : Nat} {vs : List AV} (a : Row h v n 1 vs) {hi : Nat} (h2 : hi ≤ n) : ∃ v', aslice tab 26 v none (some (.int .i64 (hi : Int))) = some v' ∧ Row h v' hi 1 (vs.take hi) := by
  obtain ⟨v', e1, e2⟩ := a.sub ty26 ty9 rfl (lo := 0) (hi := hi) (by omega) h2 (k1 := .i64) (k2 := .i64)
  refine ⟨v', ?_, by simpa using e2⟩
  rw [← e1]
  obtain ⟨_, h3⟩ := a
  rcases h3 with ⟨rfl, rfl⟩ | ⟨rfl, rfl⟩ | ⟨o, off, ws, rw, rfl, _⟩ <;> rfl

theorem slice_from {h : AHeap} {v : AV} {n : Nat} {vs : List AV} (a : Row h v n 1 vs) {lo : Nat} (h2 : lo ≤ n) : ∃ v', aslice tab 26 v (some (.int .i64 (lo : Int))) none = some v' ∧ Row h v' (n - lo) 1 (vs.drop lo) := by
  obtain ⟨v', e1, e2⟩ := a.sub ty26 ty9 rfl (lo := lo) (hi := n) h2 (by omega) (k1 := .i64) (k2 := .i64)
  have hl := a.1
  refine ⟨v', ?_, by
    have : (vs.drop (lo * 1)).take ((n - lo) * 1) = vs.drop lo := by
      rw [Nat.mul_one, Nat.mul_one, List.take_of_length_le (by simp; omega)]
    rwa [this] at e2⟩
  rw [← e1]
  obtain ⟨_, h3⟩ := a
  rcases h3 with ⟨rfl, rfl⟩ | ⟨rfl, rfl⟩ | ⟨o, off, ws, rw, rfl, _⟩
  · obtain rfl : lo = 0 := by omega
    rfl
  · obtain rfl : lo = 0 := by omega
    rfl
  · simp only [aslice, ty26, ty9, ATy.size, Nat.beq]
    have : upTo (some (AV.int .i64 (n : Int))) n n = some n := by
      show (bif Nat.ble n n then some n else none) = _
      rw [Nat.ble_eq_true_of_le (Nat.le_refl _)]; rfl
    rw [this]; rfl

theorem put_run {h : AHeap} (hw : h.WF) {v : AV} {l : List Bs} (a : SRow h v l) (hr : Rising l) (hn : l.length < 1000000) (s : Bs) :
    ∃ v' h', EG (.fn 33) [v, .str s] h = some (v', h') ∧ SRow h' v' (putS s l) ∧ Ext h h' := by
  suffices ∀ N, l.length < N → ∃ v' h', F33 EG N v (.str s) h = some (v', h') ∧ SRow h' v' (putS s l) ∧ Ext h h' by
    obtain ⟨v', h', e, q⟩ := this (l.length + 1) (Nat.lt_succ_self _)
    exact ⟨v', h', run33 _ e, q⟩
  intro N hN
  unfold F33
  simp only [jn_a]
  refine loop_rule (σ := AV × AV × AV × Unit) (R := AV × AHeap) (total := l.length) (I := fun i st hh => hh = h ∧ i ≤ l.length ∧ st = (v, .str s, .int .i64 (i : Int), ()) ∧ ∀ x ∈ l.take i, Op.bytesLess x s = true)
    (Q := fun o => ∃ v' h', o = some (v', h') ∧ SRow h' v' (putS s l) ∧ Ext h h') ?_ _ 0 _ _ ⟨rfl, by omega, rfl, by simp⟩ (by omega) (by omega)
  rintro i st hh nx ⟨rfl, hi, rfl, hall⟩
  simp only [F33_b2, srow_len a, valK_s, abin_lss]
  have hin : s ∈ l.take i → False := fun hc => by have := hall s hc; rw [bl_irrefl] at this; cases this
  -- what makes the new list
  have make : i ≤ l.length → (∀ x, l[i]? = some x → Op.bytesLess x s = false) → s ∉ l → ∃ v' h', (
      valK (aslice tab 26 v none (some (.int .i64 (i : Int)))) fun x8 =>
      bothK (aappend tab hh 26 26 .nilslice x8) fun x9 h10 =>
      bothK (abuildSlice tab h10 26 1 [(0, .str s)]) fun x11 h12 =>
      bothK (aappend tab h12 26 26 x9 x11) fun x13 h14 =>
      valK (aslice tab 26 v (some (.int .i64 (i : Int))) none) fun x15 =>
      bothK (aappend tab h14 26 26 x13 x15) fun x16 h17 =>
      some (x16, h17)) = some (v', h') ∧ SRow h' v' (putS s l) ∧ Ext hh h' := by
    intro hi' hge hns
    obtain ⟨x8, a1, a2⟩ := slice_to a hi'
    obtain ⟨x9, h10, b1, b2, k10, _, _⟩ := appendRow ty26 ty9 rfl (by decide) (by decide) (own_nil hh hh 1) a2 hw (fun j hj => hj) (by rw [strs, ← List.map_take]; exact allOne_strs _) (by omega)
    have x10 := k10.ext (Ext.refl hw)
    rw [List.nil_append, Nat.zero_add] at b2
    have b2' : SOwn hh h10 x9 (l.take i) := by
      have : (l.take i).length = i := by simp; omega
      show Own hh h10 x9 (l.take i).length 1 (strs (l.take i))
      rw [this, strs, List.map_take]; exact b2
    obtain ⟨y, h12, x13, h14, c1, c2, c3, x14⟩ := push1 (x := .str s) ty26 ty9 rfl rfl (by decide) b2' x10 rfl (by simp; omega)
    obtain ⟨x15, d1, d2⟩ := slice_from (a.ext x14) hi'
    have c3' := sown_push c3
    obtain ⟨x16, h17, f1, f2, k17, _, _⟩ := appendRow ty26 ty9 rfl (by decide) (by decide) c3' d2 x14.wf (ext_dom x14) (by rw [strs, ← List.map_drop]; exact allOne_strs _) (by simp; omega)
    simp only [a1, valK_s, b1, bothK_s, c1, c2, d1, f1]
    refine ⟨x16, h17, rfl, ?_, k17.ext x14⟩
    have hp : putS s l = l.take i ++ [s] ++ l.drop i := by
      unfold putS
      rw [if_neg hns, insS_at hi' hall hge]; simp
    show Row h17 x16 (putS s l).length 1 (strs (putS s l))
    rw [hp, strs_append, List.length_append]
    have : strs (l.drop i) = (strs l).drop i := by simp [strs]
    rw [this, List.length_drop]
    exact f2.row
  by_cases hlt : i < l.length
  · have hli : l[i]? = some l[i] := List.getElem?_eq_getElem hlt
    obtain ⟨p, h1, h2⟩ := srow_get a hli
    simp only [ltT hlt, boolK_t, h1, h2, valK_s, abin_strlt]
    cases hb : Op.bytesLess l[i] s with
    | true =>
      left
      simp only [boolK_t, abin_inc (show i < 4611686018427387904 by omega), valK_s]
      refine ⟨hlt, _, _, rfl, rfl, by omega, rfl, fun x hx => ?_⟩
      rw [List.take_succ_eq_append_getElem hlt, List.mem_append, List.mem_singleton] at hx
      rcases hx with hx | rfl
      · exact hall x hx
      · exact hb
    | false =>
      right
      simp only [boolK_f, srow_len a, valK_s, ltT hlt, boolK_t, h1, h2, abin_streq, unmark_nil, hpK_s]
      by_cases he : l[i] = s
      · simp only [decide_eq_true he, boolK_t]
        refine ⟨v, hh, rfl, ?_, Ext.refl hw⟩
        have : putS s l = l := by unfold putS; rw [if_pos (by rw [← he]; exact List.getElem_mem hlt)]
        rw [this]; exact a
      · simp only [decide_eq_false he, boolK_f]
        refine make hi (fun x hx => by rw [hli] at hx; cases hx; exact hb) fun hs => ?_
        -- it would stand behind, and be greater
        obtain ⟨j, hj, hjs⟩ := List.getElem_of_mem hs
        rw [Rising, List.pairwise_iff_getElem] at hr
        by_cases hji : j < i
        · refine hin ?_
          rw [← hjs]
          exact List.mem_take_iff_getElem.2 ⟨j, by omega, rfl⟩
        · by_cases hje : j = i
          · subst hje; exact he hjs
          · have := hr i j hlt hj (by omega)
            rw [hjs, hb] at this; cases this
  · right
    have hil : i = l.length := by omega
    subst hil
    simp only [ltF hlt, boolK_f, srow_len a, valK_s, unmark_nil, hpK_s]
    rw [List.take_length] at hin
    exact make (Nat.le_refl _) (fun x hx => by simp at hx) hin

theorem allR_run {h : AHeap} (hw : h.WF) {v : AV} {G : Gr} (a : PRep h v G) (hn : G.length < 1000000) :
    ∃ v' h', EG (.fn 34) [v] h = some (v', h') ∧ SRow h' v' (sortS (keysG G [])) ∧ Ext h h' := by
  suffices ∀ N, G.length < N → ∃ v' h', F34 EG N v h = some (v', h') ∧ SRow h' v' (sortS (keysG G [])) ∧ Ext h h' by
    obtain ⟨v', h', e, q⟩ := this (G.length + 1) (Nat.lt_succ_self _)
    exact ⟨v', h', run34 _ e, q⟩
  intro N hN
  unfold F34
  refine loop_rule (σ := AV × AV × AV × Unit) (R := AV × AHeap) (total := G.length) (I := fun i st hh => i ≤ G.length ∧ Ext h hh ∧ ∃ out, ∃ l : List Bs, st = (v, out, .int .i64 (i : Int), ()) ∧ SRow hh out l ∧ Rising l ∧ (∀ x, x ∈ l ↔ x ∈ (G.take i).map (·.1)) ∧ l.length ≤ i)
    (Q := fun o => ∃ v' h', o = some (v', h') ∧ SRow h' v' (sortS (keysG G [])) ∧ Ext h h') ?_ _ 0 _ _ ⟨by omega, Ext.refl hw, .nilslice, [], rfl, (own_nil h h 1).row, by simp [Rising], by simp, by simp⟩ (by omega) (by omega)
  rintro i st hh nx ⟨hi, hext, out, l, rfl, hrow, hris, hmem, hll⟩
  simp only [F34_b3, prep_len (a.ext hext), valK_s, abin_lss]
  by_cases hlt : i < G.length
  · left
    have he : G[i]? = some G[i] := List.getElem?_eq_getElem hlt
    obtain ⟨o, off, rv, q1, q2, _⟩ := prep_at (a.ext hext) he
    obtain ⟨v1, h1, c1, c2, x1⟩ := put_run hext.wf hrow hris (by omega) G[i].1
    simp only [ltT hlt, boolK_t, q1, fa28_0, q2, valK_s, c1, bothK_s, abin_inc (show i < 4611686018427387904 by omega)]
    refine ⟨hlt, _, _, rfl, by omega, hext.trans x1, v1, _, rfl, c2, putS_rising hris, fun x => ?_, by have := putS_length G[i].1 l; omega⟩
    rw [mem_putS, hmem, List.take_succ_eq_append_getElem hlt, List.map_append, List.mem_append]
    simp only [List.map_cons, List.map_nil, List.mem_singleton]
    exact ⟨fun h => h.symm, fun h => h.symm⟩
  · right
    have hie : i = G.length := by omega
    subst hie
    simp only [ltF hlt, boolK_f, unmark_nil, hpK_s]
    rw [List.take_length] at hmem
    have : l = sortS (keysG G []) := rising_ext hris (sortS_rising (keysG_nodup G [] List.nodup_nil)) fun x => by
      rw [hmem, mem_sortS, keysG_mem]; simp
    rw [← this]
    exact ⟨out, hh, rfl, hrow, hext⟩

theorem texts_same {h : AHeap} {v w : AV} {l : List Bs} (a : SRow h v l) (b : SRow h w l) (hn : l.length < 1000000000) : EG (.fn 17) [v, w] h = some (.bool true, h) := by
  refine run17 (l.length + 1) ?_
  unfold F17
  simp only [srow_len a, srow_len b, valK_s, abin_neq, decide_true, Bool.not_true, boolK_f]
  refine loop_rule (σ := AV × AV × AV × Unit) (R := AV × AHeap) (total := l.length) (I := fun i st hh => hh = h ∧ i ≤ l.length ∧ st = (v, w, .int .i64 (i : Int), ()))
    (Q := fun o => o = some (.bool true, h)) ?_ _ 0 _ _ ⟨rfl, by omega, rfl⟩ (by omega) (by omega)
  rintro i st hh nx ⟨rfl, hi, rfl⟩
  simp only [F17_b4, srow_len a, valK_s, abin_lss]
  by_cases hlt : i < l.length
  · left
    obtain ⟨p, h1, h2⟩ := srow_get a (List.getElem?_eq_getElem hlt)
    obtain ⟨q, h3, h4⟩ := srow_get b (List.getElem?_eq_getElem hlt)
    simp only [ltT hlt, boolK_t, h1, h2, h3, h4, valK_s, abin_strne, decide_true, Bool.not_true, boolK_f, abin_inc (show i < 4611686018427387904 by omega)]
    exact ⟨hlt, _, _, rfl, rfl, by omega, rfl⟩
  · right
    simp only [ltF hlt, boolK_f, unmark_nil, hpK_s]

end Go.Am
