/-
  graph.Referrers, graph.Order: what they answer.
-/
import Derived.Test.YtfieacodpjpfbaaG7
set_option linter.unusedVariables false
set_option linter.unusedSimpArgs false
namespace Go.Am
open Go Go.Proofs

/-! ### slices.Contains, slices.ContainsFunc -/

theorem index_run {h : AHeap} {v : AV} {l : List Bs} {s : Bs} (a : SRow h v l) (hn : l.length < 1000000000) :
    ∃ n, EG (.fn 50) [v, .str s] h = some (.int .i64 n, h) ∧ decide ((0 : Int) ≤ n) = decide (s ∈ l) := by
  suffices ∃ n, F50 EG (l.length + 1) v (.str s) h = some (.int .i64 n, h) ∧ decide ((0 : Int) ≤ n) = decide (s ∈ l) by
    obtain ⟨n, e, q⟩ := this
    exact ⟨n, run50 _ e, q⟩
  unfold F50
  simp only [srow_len a, valK_s]
  refine loop_rule (σ := AV × AV × AV × AV × Unit) (R := AV × AHeap) (total := l.length) (I := fun i st hh => hh = h ∧ i ≤ l.length ∧ st = (v, .str s, .int .i64 (l.length : Int), .int .i64 (i : Int), ()) ∧ s ∉ l.take i)
    (Q := fun o => ∃ n, o = some (.int .i64 n, h) ∧ decide ((0 : Int) ≤ n) = decide (s ∈ l)) ?_ _ 0 _ _ ⟨rfl, by omega, rfl, by simp⟩ (by omega) (by omega)
  rintro i st hh nx ⟨rfl, hi, rfl, hno⟩
  simp only [F50_b2, abin_lss, valK_s]
  by_cases hlt : i < l.length
  · obtain ⟨p, h1, h2⟩ := srow_get a (List.getElem?_eq_getElem hlt)
    simp only [ltT hlt, boolK_t, h1, h2, valK_s, abin_streq, boolK_b, unmark_nil, hpK_s]
    by_cases he : s = l[i]
    · right
      have : s ∈ l := by rw [he]; exact List.getElem_mem hlt
      refine ⟨i, by simp [← he], ?_⟩
      rw [decide_eq_true this, decide_eq_true]; omega
    · left
      simp only [decide_eq_true_eq, he, if_false, abin_inc (show i < 4611686018427387904 by omega), valK_s]
      refine ⟨hlt, _, _, rfl, rfl, by omega, rfl, ?_⟩
      rw [List.take_succ_eq_append_getElem hlt]
      simp only [List.mem_append, List.mem_singleton, not_or]
      exact ⟨hno, he⟩
  · right
    simp only [ltF hlt, boolK_f, unmark_nil, hpK_s]
    rw [List.take_of_length_le (by omega)] at hno
    exact ⟨-1, rfl, by simp [hno]⟩

theorem contains_run {h : AHeap} {v : AV} {l : List Bs} {s : Bs} (a : SRow h v l) (hn : l.length < 1000000000) : EG (.fn 43) [v, .str s] h = some (.bool (decide (s ∈ l)), h) := by
  obtain ⟨n, e, q⟩ := index_run a hn (s := s)
  refine run43 0 ?_
  unfold F43
  simp only [e, bothK_s, abin_geq, valK_s, q]

theorem indexF_run {h : AHeap} (hw : h.WF) {v : AV} {l : List Bs} (a : SRow h v l) (hn : l.length < 1000000000) {g : Nat} {cap : List AV} {f : Bs → Bool}
    (his : ∀ p ∈ l, ∀ h1, Ext h h1 → ∃ h2, EG (.fn g) (.str p :: cap) h1 = some (.bool (f p), h2) ∧ Ext h1 h2) :
    ∃ n h', EG (.fn 49) [v, .func g [] cap] h = some (.int .i64 n, h') ∧ decide ((0 : Int) ≤ n) = l.any f ∧ Ext h h' := by
  suffices ∃ n h', F49 EG (l.length + 1) v (.func g [] cap) h = some (.int .i64 n, h') ∧ decide ((0 : Int) ≤ n) = l.any f ∧ Ext h h' by
    obtain ⟨n, h', e, q⟩ := this
    exact ⟨n, h', run49 _ e, q⟩
  unfold F49
  simp only [srow_len a, valK_s]
  refine loop_rule (σ := AV × AV × AV × AV × Unit) (R := AV × AHeap) (total := l.length) (I := fun i st hh => Ext h hh ∧ i ≤ l.length ∧ st = (v, .func g [] cap, .int .i64 (l.length : Int), .int .i64 (i : Int), ()) ∧ (l.take i).any f = false)
    (Q := fun o => ∃ n h', o = some (.int .i64 n, h') ∧ decide ((0 : Int) ≤ n) = l.any f ∧ Ext h h') ?_ _ 0 _ _ ⟨Ext.refl hw, by omega, rfl, by simp⟩ (by omega) (by omega)
  rintro i st hh nx ⟨he, hi, rfl, hno⟩
  simp only [F49_b2, abin_lss, valK_s]
  by_cases hlt : i < l.length
  · obtain ⟨p, h1, h2⟩ := srow_get (a.ext he) (List.getElem?_eq_getElem hlt)
    obtain ⟨h3, e1, e2⟩ := his l[i] (List.getElem_mem hlt) hh he
    simp only [ltT hlt, boolK_t, h1, h2, valK_s, callA_func, List.nil_append, List.cons_append, e1, bothK_s]
    cases hf : f l[i] with
    | true =>
      right
      simp only [boolK_t, unmark_nil, hpK_s]
      refine ⟨i, h3, rfl, ?_, he.trans e2⟩
      rw [decide_eq_true (by omega)]
      symm
      rw [List.any_eq_true]
      exact ⟨l[i], List.getElem_mem hlt, hf⟩
    | false =>
      left
      simp only [boolK_f, abin_inc (show i < 4611686018427387904 by omega), valK_s]
      refine ⟨hlt, _, _, rfl, he.trans e2, by omega, rfl, ?_⟩
      rw [List.take_succ_eq_append_getElem hlt, List.any_append, hno]
      simp [hf]
  · right
    simp only [ltF hlt, boolK_f, unmark_nil, hpK_s]
    rw [List.take_of_length_le (by omega)] at hno
    exact ⟨-1, hh, rfl, by rw [hno]; rfl, he⟩

theorem containsF_run {h : AHeap} (hw : h.WF) {v : AV} {l : List Bs} (a : SRow h v l) (hn : l.length < 1000000000) {g : Nat} {cap : List AV} {f : Bs → Bool}
    (his : ∀ p ∈ l, ∀ h1, Ext h h1 → ∃ h2, EG (.fn g) (.str p :: cap) h1 = some (.bool (f p), h2) ∧ Ext h1 h2) :
    ∃ h', EG (.fn 38) [v, .func g [] cap] h = some (.bool (l.any f), h') ∧ Ext h h' := by
  obtain ⟨n, h', e, q, x⟩ := indexF_run hw a hn his
  refine ⟨h', run38 0 ?_, x⟩
  unfold F38
  simp only [e, bothK_s, abin_geq, valK_s, q]

/-! ### Referrers -/

def refsOf (G : Gr) (p : Bs) : List Bs := (thereG G p).getD []

def referrersG (G : Gr) (path : Bs) : List Bs := (sortS (keysG G [])).filter fun p => decide (p ≠ path) && decide (path ∈ refsOf G p)

/-- What a map of references holds at a key, or the empty row. -/
theorem mrep_row {h : AHeap} {m : Nat} {l : SE} {G : Gr} (M : MRep h m l G) (p : Bs) : SRow h (match getS p l with | some v => v | none => .nilslice) (refsOf G p) := by
  rcases M.2.2.2 p with ⟨q1, q2⟩ | ⟨rv, rs, q1, q2, q3⟩
  · rw [q1]; simp only [refsOf, q2, Option.getD_none]; exact ⟨by simp, .inl ⟨rfl, rfl⟩⟩
  · rw [q1]; simp only [refsOf, q2, Option.getD_some]; exact q3

theorem refsOf_len {G : Gr} (hG : SmallG G) (p : Bs) : (refsOf G p).length < 1000000000 := by
  unfold refsOf
  cases h : thereG G p with
  | none => simp
  | some rs => exact (hG.2 _ (thereG_some h)).2

theorem mrep_small {h : AHeap} {m : Nat} {l : SE} {G : Gr} (M : MRep h m l G) (hG : SmallG G) : l.length < 1000000 ∧ ∀ e ∈ l, e.1.length < 1000000000 := by
  have hlen : l.length = (keysG G []).length := by rw [← M.2.2.1, List.length_map]
  have hkl := keysG_length G []
  have hG1 := hG.1
  refine ⟨by rw [hlen]; simp at hkl; omega, fun e he => keyLen hG (by
      have : e.1 ∈ l.map (·.1) := List.mem_map_of_mem he
      rw [M.2.2.1, keysG_mem] at this
      rcases this with h | h
      · cases h
      · exact h)⟩

theorem referrers_run {h : AHeap} (hw : h.WF) {v : AV} {G : Gr} (a : PRep h v G) (hG : SmallG G) (path : Bs) :
    ∃ v' h', EG (.fn 23) [v, .str path] h = some (v', h') ∧ SOwn h h' v' (referrersG G path) ∧ Ext h h' := by
  have x0 : Ext h (h.add (.cells [.str path] true)) := (Ext.refl hw).add _
  have b0 : boxA h (.str path) = some (.ptr h.next 0, h.add (.cells [.str path] true)) := rfl
  have g0 : (h.add (.cells [.str path] true)).get h.next = some (.cells [.str path] true) := AHeap.get_add_self _ _
  obtain ⟨m, h1, l, e1, M, x1, _⟩ := refs_run x0.wf (a.ext x0) hG.1
  have g3 : (h1.add (.cells [.nilmap] true)).get h1.next = some (.cells [.nilmap] true) := AHeap.get_add_self _ _
  obtain ⟨h4, q4⟩ : ∃ h4, h4 = (h1.add (.cells [.nilmap] true)).put h1.next (.cells [.map m] true) := ⟨_, rfl⟩
  have x4 : Ext h1 h4 := q4 ▸ ((Ext.refl x1.wf).add _).put x1.wf.new g3 _
  have g4 : h4.get h1.next = some (.cells [.map m] true) := by rw [q4]; exact AHeap.get_put_self _ _ _
  have gp := (x1.trans x4).keep _ _ g0
  have M4 := M.ext x4
  obtain ⟨s1, s2⟩ := mrep_small M4 hG
  obtain ⟨v', h5, e5, o5, x5⟩ := kept30_run x4.wf M4.1 M4.2.1.once s1 s2 (g := 42) (cap := [.ptr h.next 0, .ptr h1.next 0]) (f := fun p => decide (p ≠ path) && decide (path ∈ refsOf G p)) (fun p hp h3 hx => by
    refine ⟨h3, run42 0 ?_, Ext.refl hx.wf⟩
    unfold F42
    have l0 : loadA tab h3 9 (.ptr h.next 0) = some (.str path) := loadA_cell ty9 rfl (hx.keep _ _ gp) rfl
    have l1 : loadA tab h3 48 (.ptr h1.next 0) = some (.map m) := loadA_cell ty48 rfl (hx.keep _ _ g4) rfl
    have M3 := M4.ext hx
    have row := mrep_row M3 p
    have hc := contains_run row (refsOf_len hG p) (s := path)
    simp only [l0, valK_s, abin_strne]
    by_cases hpp : p = path
    · simp [hpp]
    · simp only [decide_eq_false hpp, Bool.not_false, boolK_t, l1, valK_s, lookup_str ty48 ty26 M3.1, cond_false]
      have : decide (p ≠ path) = true := by simpa using hpp
      rw [this, Bool.true_and]
      rcases hg : getS p l with _ | rv
      · rw [hg] at hc
        simp only at hc ⊢
        simp only [hc, bothK_s]
      · rw [hg] at hc
        simp only at hc ⊢
        simp only [hc, bothK_s])
  refine ⟨v', h5, run23 0 ?_, ?_, ((x0.trans x1).trans x4).trans x5⟩
  · unfold F23
    have n2 : newCells h1 [.nilmap] (fun o => .ptr o 0) = some (.ptr h1.next 0, h1.add (.cells [.nilmap] true)) := rfl
    have s2 : storeA tab (h1.add (.cells [.nilmap] true)) 48 (.ptr h1.next 0) (.map m) = some h4 := by
      simp only [storeA, astore, g3, ty48]; rw [q4]; rfl
    have l7 : loadA tab h4 48 (.ptr h1.next 0) = some (.map m) := loadA_cell ty48 rfl g4 rfl
    simp only [b0, bothK_s, e1, n2, s2, hpK_s, l7, valK_s, e5]
  · rw [M.2.2.1] at o5
    exact o5.base ((x0.trans x1).trans x4)

/-! ### Order -/

def delS (k : Bs) (l : SE) : SE := l.filter fun e => decide (e.1 ≠ k)

theorem delete_at (k : Bs) : ∀ (l : SE) (i : Nat), (l.map (·.1)).Nodup → (hasS k l = false ∧ findE (.str k) (strE l) i = some none ∧ delS k l = l) ∨
    ∃ j v b, findE (.str k) (strE l) i = some (some (i + j, v, b)) ∧ (strE l).eraseIdx j = strE (delS k l)
  | [], i, _ => .inl ⟨rfl, rfl, rfl⟩
  | e :: l, i, hn => by
    simp only [List.map_cons, List.nodup_cons] at hn
    by_cases h : k = e.1
    · refine .inr ⟨0, e.2.1, e.2.2, by simp [strE, findE, keyEq, h], ?_⟩
      have : delS k l = l := List.filter_eq_self.2 fun x hx => by
        simp only [ne_eq, decide_not, Bool.not_eq_true', decide_eq_false_iff_not]
        exact fun h2 => hn.1 (by rw [← h, ← h2]; exact List.mem_map_of_mem hx)
      have hd : delS k (e :: l) = l := by
        simp only [delS, List.filter_cons] at this ⊢
        simp only [← h, ne_eq, not_true_eq_false, decide_false, Bool.false_eq_true, if_false]
        exact this
      rw [hd]; rfl
    · have h' : ¬ e.1 = k := fun h2 => h h2.symm
      rcases delete_at k l (i + 1) hn.2 with ⟨h1, h2, h3⟩ | ⟨j, v, b, h1, h2⟩
      · exact .inl ⟨by simp [hasS, h, h1], by simp only [strE, List.map_cons, findE, keyEq, h, decide_false]; exact h2, by simp only [delS] at h3 ⊢; simp [List.filter_cons, h']; simpa using h3⟩
      · refine .inr ⟨j + 1, v, b, ?_, ?_⟩
        · simp only [strE, List.map_cons, findE, keyEq, h, decide_false]
          rw [show i + (j + 1) = i + 1 + j by omega]; exact h1
        · simp only [strE, List.map_cons, List.eraseIdx_cons_succ, delS, List.filter_cons] at h2 ⊢
          rw [h2]
          simp [h']

theorem delete_str {h : AHeap} {t el s b : Nat} {ag : Bool} {z : AV} {m : Nat} {l : SE} {clock : Nat} {k : Bs} (ht : tab.get t = some ⟨.map 2 el, s, b, ag, z⟩) (hm : h.get m = some (.map (strE l) clock)) (hn : (l.map (·.1)).Nodup) :
    adelete tab h t (.map m) (.str k) = some (h.put m (.map (strE (delS k l)) clock)) := by
  rcases delete_at k l 0 hn with ⟨_, h2, h3⟩ | ⟨j, v, b', h1, h2⟩
  · simp only [adelete, ht, keyOk, hm, h2, cond_true, h3]
  · simp only [adelete, ht, keyOk, hm, h1, cond_true, Nat.zero_add, h2]

/-- Those that wait for none but themselves. -/
def readyG (G : Gr) (left : List Bs) : List Bs := (sortS left).filter fun p => !((refsOf G p).any fun q => decide (q ∈ left) && decide (q ≠ p))

def pickG (G : Gr) (left : List Bs) : List Bs := if readyG G left = [] then sortS left else readyG G left

def ordG (G : Gr) : Nat → List Bs → List Bs → List Bs
  | 0, _, out => out
  | f + 1, left, out => match pickG G left with
    | [] => out
    | p :: _ => ordG G f (left.filter fun q => decide (q ≠ p)) (out ++ [p])

def orderG (G : Gr) : List Bs := ordG G (keysG G []).length (keysG G []) []

theorem delS_keys (k : Bs) (l : SE) : (delS k l).map (·.1) = (l.map (·.1)).filter fun q => decide (q ≠ k) := by
  simp only [delS, List.filter_map]
  rfl

theorem Once.sub {l : SE} {c : Nat} (a : Once l c) (p : Bs × AV × Nat → Bool) : Once (l.filter p) c :=
  ⟨fun e he => a.1 e (List.mem_of_mem_filter' he), a.2.filter p⟩
where List.mem_of_mem_filter' {α : Type} {p : α → Bool} {l : List α} {e : α} (h : e ∈ l.filter p) : e ∈ l := (List.mem_filter.1 h).1

end Go.Am
