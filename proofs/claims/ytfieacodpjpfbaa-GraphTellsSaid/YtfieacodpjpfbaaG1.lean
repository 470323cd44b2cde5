/-
  The graph's functions: what they answer, as heaps grow.
-/
import Derived.Test.YtfieacodpjpfbaaTryO1
set_option linter.unusedVariables false
set_option linter.unusedSimpArgs false
namespace Go.Am
open Go Go.Proofs

theorem ty3 : tab.get 3 = some ⟨.int .i64, 1, 8, false, .int .i64 0⟩ := rfl
theorem ty4 : tab.get 4 = some ⟨.bool, 1, 1, false, .bool false⟩ := rfl
theorem ty9 : tab.get 9 = some ⟨.str, 1, 16, false, .str []⟩ := rfl
theorem ty24 : tab.get 24 = some ⟨.slice 28, 1, 24, false, .nilslice⟩ := rfl
theorem ty26 : tab.get 26 = some ⟨.slice 9, 1, 24, false, .nilslice⟩ := rfl
theorem ty28 : tab.get 28 = some ⟨.struct [(0, 1, 2), (1, 1, 0), (2, 1, 2), (3, 1, 2)], 4, 72, true, .agg [.str [], .nilslice, .str [], .str []]⟩ := rfl
theorem ty46 : tab.get 46 = some ⟨.map 2 3, 1, 8, false, .nilmap⟩ := rfl
theorem ty48 : tab.get 48 = some ⟨.map 2 26, 1, 8, false, .nilmap⟩ := rfl
theorem ty62 : tab.get 62 = some ⟨.func, 1, 8, false, .nilfunc⟩ := rfl

theorem ltT {i n : Nat} (h : i < n) : decide ((i : Int) < (n : Int)) = true := by simp; omega
theorem ltF {i n : Nat} (h : ¬ i < n) : decide ((i : Int) < (n : Int)) = false := by simp; omega

abbrev Bs := List UInt8
def strs (l : List Bs) : List AV := l.map .str
@[simp] theorem strs_length (l : List Bs) : (strs l).length = l.length := by simp [strs]
@[simp] theorem strs_append (a b : List Bs) : strs (a ++ b) = strs a ++ strs b := by simp [strs]
theorem strs_get {l : List Bs} {i : Nat} {s : Bs} (h : l[i]? = some s) : (strs l)[i]? = some (.str s) := by simp [strs, h]

/-- A row of texts. -/
abbrev SRow (h : AHeap) (v : AV) (l : List Bs) : Prop := Row h v l.length 1 (strs l)
abbrev SOwn (h0 h : AHeap) (v : AV) (l : List Bs) : Prop := Own h0 h v l.length 1 (strs l)

theorem sown_push {h0 h : AHeap} {v : AV} {l : List Bs} {s : Bs} (a : Own h0 h v (l.length + 1) 1 (strs l ++ [.str s])) : SOwn h0 h v (l ++ [s]) := by
  show Own h0 h v (l ++ [s]).length 1 (strs (l ++ [s]))
  rw [show (l ++ [s]).length = l.length + 1 by simp, strs_append]; exact a
theorem srow_len {h : AHeap} {v : AV} {l : List Bs} (a : SRow h v l) : alen tab h 26 v = some (.int .i64 (l.length : Int)) := a.len ty26
theorem srow_get {h : AHeap} {v : AV} {l : List Bs} (a : SRow h v l) {i : Nat} {s : Bs} (hs : l[i]? = some s) : ∃ p, aindexAddr tab 26 v (.int .i64 (i : Int)) = some p ∧ loadA tab h 9 p = some (.str s) :=
  a.get1 ty26 ty9 rfl rfl (strs_get hs)

/-! ### has, said -/

theorem has_run {h : AHeap} {v : AV} {l : List Bs} {s : Bs} (a : SRow h v l) (hn : l.length < 1000000000) : EG (.fn 13) [v, .str s] h = some (.bool (decide (s ∈ l)), h) := by
  refine run13 (l.length + 1) ?_
  unfold F13
  refine loop_rule (σ := AV × AV × AV × Unit) (R := AV × AHeap) (total := l.length) (I := fun i st hh => hh = h ∧ i ≤ l.length ∧ st = (v, .str s, .int .i64 (i : Int), ()) ∧ s ∉ l.take i)
    (Q := fun o => o = some (.bool (decide (s ∈ l)), h)) ?_ _ 0 _ _ ⟨rfl, by omega, rfl, by simp⟩ (by omega) (by omega)
  rintro i st hh nx ⟨rfl, hi, rfl, hno⟩
  simp only [F13_b2, srow_len a, valK_s, abin_lss]
  by_cases hlt : i < l.length
  · obtain ⟨p, h1, h2⟩ := srow_get a (List.getElem?_eq_getElem hlt)
    simp only [ltT hlt, boolK_t, h1, h2, valK_s, abin_streq, boolK_b, unmark_nil, hpK_s]
    by_cases he : l[i] = s
    · right
      have : s ∈ l := by rw [← he]; exact List.getElem_mem hlt
      simp [he, this]
    · left
      simp only [decide_eq_true_eq, he, if_false, abin_inc (show i < 4611686018427387904 by omega), valK_s]
      refine ⟨hlt, _, _, rfl, rfl, by omega, rfl, ?_⟩
      rw [List.take_succ_eq_append_getElem hlt]
      simp only [List.mem_append, List.mem_singleton, not_or]
      exact ⟨hno, fun e => he e.symm⟩
  · right
    simp only [ltF hlt, boolK_f, unmark_nil, hpK_s]
    rw [List.take_of_length_le (by omega)] at hno
    simp [hno]

def saidS (l : List Bs) : Bs := l.flatMap fun s => s ++ [32]

def sumLen (l : List Bs) : Nat := (l.map fun s => s.length + 1).sum

theorem saidS_length (l : List Bs) : (saidS l).length = sumLen l := by
  simp [saidS, sumLen, List.length_flatMap]

theorem sumLen_take (l : List Bs) (i : Nat) : sumLen (l.take i) ≤ sumLen l := by
  have : sumLen l = sumLen (l.take i) + sumLen (l.drop i) := by
    unfold sumLen
    rw [← List.sum_append_nat, ← List.map_append, List.take_append_drop]
  omega

theorem said_run {h : AHeap} {v : AV} {l : List Bs} (a : SRow h v l) (hn : l.length < 1000000000) (hs : sumLen l < 1000000000000) : EG (.fn 11) [v] h = some (.str (saidS l), h) := by
  refine run11 (l.length + 1) ?_
  unfold F11
  refine loop_rule (σ := AV × AV × AV × Unit) (R := AV × AHeap) (total := l.length) (I := fun i st hh => hh = h ∧ i ≤ l.length ∧ st = (v, .str (saidS (l.take i)), .int .i64 (i : Int), ()))
    (Q := fun o => o = some (.str (saidS l), h)) ?_ _ 0 _ _ ⟨rfl, by omega, rfl⟩ (by omega) (by omega)
  rintro i st hh nx ⟨rfl, hi, rfl⟩
  simp only [F11_b3, srow_len a, valK_s, abin_lss]
  by_cases hlt : i < l.length
  · left
    obtain ⟨p, h1, h2⟩ := srow_get a (List.getElem?_eq_getElem hlt)
    have e1 : saidS (l.take (i + 1)) = saidS (l.take i) ++ l[i] ++ [32] := by
      rw [List.take_succ_eq_append_getElem hlt]; simp only [saidS, List.flatMap_append, List.flatMap_cons, List.flatMap_nil, List.append_nil, List.append_assoc]
    have e2 := saidS_length (l.take (i + 1))
    have e3 := sumLen_take l (i + 1)
    rw [e1] at e2
    simp only [List.length_append] at e2
    have e4 : ([32] : Bs).length = 1 := rfl
    simp only [ltT hlt, boolK_t, h1, h2, valK_s, abin_cat (show (saidS (l.take i)).length + l[i].length ≤ 4611686018427387904 by omega),
      abin_cat (show (saidS (l.take i) ++ l[i]).length + ([32] : Bs).length ≤ 4611686018427387904 by rw [List.length_append]; omega), abin_inc (show i < 4611686018427387904 by omega)]
    exact ⟨hlt, _, _, rfl, rfl, by omega, by rw [e1]⟩
  · right
    simp only [ltF hlt, boolK_f, unmark_nil, hpK_s]
    rw [List.take_of_length_le (by omega)]

/-! ### kept -/

theorem keysOf_str : ∀ (l : SE), keysOf (strE l) = some (l.map (·.1))
  | [] => rfl
  | e :: l => by
    have := keysOf_str l
    simp only [strE] at this
    simp [strE, keysOf, this]

/-- Keys and stamps, each once. -/
def Once (l : SE) (clock : Nat) : Prop := (∀ e ∈ l, e.2.2 < clock) ∧ l.Pairwise fun a b => a.1 ≠ b.1 ∧ a.2.2 ≠ b.2.2

theorem stampB_str : ∀ {l : SE} {clock : Nat}, Once l clock → stampB clock (strE l) = true
  | [], _, _ => rfl
  | e :: l, clock, ⟨h1, h2⟩ => by
    rw [List.pairwise_cons] at h2
    have ih := stampB_str (l := l) (clock := clock) ⟨fun x hx => h1 x (List.mem_cons_of_mem _ hx), h2.2⟩
    simp only [strE] at ih
    simp only [strE, List.map_cons, stampB, ih, Bool.and_true, Bool.and_eq_true]
    refine ⟨by simpa using h1 e List.mem_cons_self, ?_⟩
    rw [List.all_eq_true]
    intro x hx
    obtain ⟨y, hy, rfl⟩ := List.mem_map.1 hx
    obtain ⟨q1, q2⟩ := h2.1 y hy
    simp only [AV.beq, beq_dec, Bool.and_eq_true, Bool.not_eq_true', decide_eq_false_iff_not]
    exact ⟨fun e1 => q1 e1.symm, fun e1 => q2 e1.symm⟩

theorem insS_length (s : Bs) : ∀ l, (insS s l).length = l.length + 1
  | [] => rfl
  | t :: l => by
    simp only [insS]
    split
    · simp [insS_length s l]
    · simp
theorem sortS_length : ∀ l, (sortS l).length = l.length
  | [] => rfl
  | s :: l => by simp [sortS, insS_length, sortS_length l]
theorem mem_insS {s x : Bs} : ∀ {l}, x ∈ insS s l ↔ x = s ∨ x ∈ l
  | [] => by simp [insS]
  | t :: l => by
    simp only [insS]
    split
    · simp only [List.mem_cons, mem_insS (l := l)]
      constructor
      · rintro (h | h | h)
        · exact .inr (.inl h)
        · exact .inl h
        · exact .inr (.inr h)
      · rintro (h | h | h)
        · exact .inr (.inl h)
        · exact .inl h
        · exact .inr (.inr h)
    · simp
theorem mem_sortS {x : Bs} : ∀ {l}, x ∈ sortS l ↔ x ∈ l
  | [] => by simp [sortS]
  | s :: l => by simp [sortS, mem_insS, mem_sortS (l := l)]

theorem F26_b3_eq : F26_b3 = F30_b3 := rfl

/-- What stands behind the sorted keys. -/
theorem kept_loop {h : AHeap} (hw : h.WF) {x : AV} {ks : List Bs} (a : SRow h x ks) (hn : ks.length < 1000000) {g : Nat} {cap : List AV} {f : Bs → Bool}
    (his : ∀ p ∈ ks, ∀ h1, Ext h h1 → ∃ h2, EG (.fn g) (.str p :: cap) h1 = some (.bool (f p), h2) ∧ Ext h1 h2) {n : Nat} (hnn : ks.length < n) :
    ∃ v' h', loopN (F30_b3 EG n) n (.func g [] cap, .nilslice, x, .int .i64 (ks.length : Int), .int .i64 (0 : Int), ()) [] h = some (v', h') ∧ SOwn h h' v' (ks.filter f) ∧ Ext h h' := by
  refine loop_rule (σ := AV × AV × AV × AV × AV × Unit) (R := AV × AHeap) (total := ks.length) (I := fun i st hh => i ≤ ks.length ∧ Ext h hh ∧ ∃ out, st = (.func g [] cap, out, x, .int .i64 (ks.length : Int), .int .i64 (i : Int), ()) ∧ SOwn h hh out ((ks.take i).filter f))
    (Q := fun o => ∃ v' h', o = some (v', h') ∧ SOwn h h' v' (ks.filter f) ∧ Ext h h') ?_ _ 0 _ _ ⟨by omega, Ext.refl hw, _, rfl, own_nil h h 1⟩ (by omega) (by omega)
  rintro i st hh nx ⟨hi, he, out, rfl, ho⟩
  simp only [F30_b3, abin_lss, valK_s]
  by_cases hlt : i < ks.length
  · left
    obtain ⟨p, h1, h2⟩ := srow_get (a.ext he) (List.getElem?_eq_getElem hlt)
    obtain ⟨h3, e1, e2⟩ := his ks[i] (List.getElem_mem hlt) hh he
    simp only [ltT hlt, boolK_t, h1, h2, valK_s, callA_func, List.nil_append, List.cons_append, e1, bothK_s]
    cases hf : f ks[i] with
    | true =>
      have hl : ((ks.take i).filter f).length ≤ i := Nat.le_trans (List.length_filter_le _ _) (by simp; omega)
      obtain ⟨y, h4, v', h', p1, q1, q2, q3⟩ := push1 (x := .str ks[i]) ty26 ty9 rfl rfl (by decide) (ho.ext e2) (he.trans e2) rfl (by omega)
      simp only [boolK_t, p1, q1, bothK_s, abin_inc (show i < 4611686018427387904 by omega), valK_s]
      refine ⟨hlt, _, _, rfl, by omega, q3, _, rfl, ?_⟩
      rw [List.take_succ_eq_append_getElem hlt, List.filter_append]
      simp only [List.filter_cons, hf, if_true, List.filter_nil]
      exact sown_push q2
    | false =>
      simp only [boolK_f, abin_inc (show i < 4611686018427387904 by omega), valK_s]
      refine ⟨hlt, _, _, rfl, by omega, he.trans e2, _, rfl, ?_⟩
      rw [List.take_succ_eq_append_getElem hlt, List.filter_append]
      simp only [List.filter_cons, hf, List.filter_nil, Bool.false_eq_true, if_false, List.append_nil]
      exact ho.ext e2
  · right
    simp only [ltF hlt, boolK_f, unmark_nil, hpK_s]
    rw [List.take_of_length_le (by omega)] at ho
    exact ⟨_, _, rfl, ho, he⟩

/-- Behind maps.Keys and slices.Sorted. -/
theorem sorted_run {h : AHeap} (hw : h.WF) {m it : Nat} (hit : it = 53 ∨ it = 54) {l : SE} {clock : Nat} (hm : h.get m = some (.map (strE l) clock)) (ho : Once l clock) (hn : l.length < 1000000) (hl : ∀ e ∈ l, e.1.length < 1000000000) :
    ∃ x h', EG (.fn 44) [.func it [] [.ptr h.next 0]] (h.add (.keys (.map m))) = some (x, h') ∧ SRow h' x (sortS (l.map (·.1))) ∧ Ext h h' := by
  have hm1 : (h.add (.keys (.map m))).get m = some (.map (strE l) clock) := (Ext.refl hw).add _ |>.keep _ _ hm
  have hk := keysOf_str l
  have hs := stampB_str ho
  have hp : sortedP [53, 54] EG [.func it [] [.ptr h.next 0]] (h.add (.keys (.map m))) = (match some (l.map (·.1)) with
          | some [] => some (.nilslice, h.add (.keys (.map m)))
          | some (k :: ks) => bif stampB clock (strE l) && Nat.blt (k :: ks).length 1000000000 && (k :: ks).all (fun s => Nat.blt s.length 1000000000000) then some (.slice (h.add (.keys (.map m))).next 0 (k :: ks).length 1, (h.add (.keys (.map m))).add (.cells ((sortS (k :: ks)).map .str) true)) else none
          | none => none) := by
    unfold sortedP
    have : ([53, 54] : List Nat).contains it = true := by rcases hit with rfl | rfl <;> rfl
    simp only [this, cond_true, AHeap.get_add_self, hm1, hk]
    rfl
  cases hc : l.map (·.1) with
  | nil =>
    rw [hc] at hp
    refine ⟨_, _, run_prim (f := 44) rfl hp, ⟨by simp [sortS], .inl ⟨rfl, rfl⟩⟩, (Ext.refl hw).add _⟩
  | cons k ks =>
    rw [hc] at hp
    have hlen : (k :: ks).length = l.length := by rw [← hc, List.length_map]
    have hall : ((k :: ks).all fun s => Nat.blt s.length 1000000000000) = true := by
      rw [← hc, List.all_eq_true]
      intro s hs
      obtain ⟨e, he, rfl⟩ := List.mem_map.1 hs
      have := hl e he
      rw [blt_dec]; simp; omega
    have hb : Nat.blt (k :: ks).length 1000000000 = true := by rw [blt_dec, decide_eq_true]; omega
    simp only [hs, hall, hb, Bool.and_true, cond_true] at hp
    have e1 : Ext h (h.add (.keys (.map m))) := (Ext.refl hw).add _
    refine ⟨_, _, run_prim (f := 44) rfl hp, ⟨by simp, .inr (.inr ⟨_, 0, _, true, by rw [sortS_length], AHeap.get_add_self _ _, by simp, fun j _ => by rw [Nat.zero_add]; rfl⟩)⟩, e1.add _⟩

theorem kept30_run {h : AHeap} (hw : h.WF) {m : Nat} {l : SE} {clock : Nat} (hm : h.get m = some (.map (strE l) clock)) (ho : Once l clock) (hn : l.length < 1000000) (hl : ∀ e ∈ l, e.1.length < 1000000000) {g : Nat} {cap : List AV} {f : Bs → Bool}
    (his : ∀ p ∈ l.map (·.1), ∀ h1, Ext h h1 → ∃ h2, EG (.fn g) (.str p :: cap) h1 = some (.bool (f p), h2) ∧ Ext h1 h2) :
    ∃ v' h', EG (.fn 30) [.map m, .func g [] cap] h = some (v', h') ∧ SOwn h h' v' ((sortS (l.map (·.1))).filter f) ∧ Ext h h' := by
  obtain ⟨x, h1, e1, r1, x1⟩ := sorted_run hw (.inr rfl) hm ho hn hl
  obtain ⟨v', h', q1, q2, q3⟩ := kept_loop x1.wf r1 (by rw [sortS_length]; simpa using hn) (g := g) (cap := cap) (f := f) (n := (sortS (l.map (·.1))).length + 1) (fun p hp h2 hx => his p (mem_sortS.1 hp) h2 (x1.trans hx)) (by omega)
  refine ⟨v', h', run30 ((sortS (l.map (·.1))).length + 1) ?_, q2.base x1, x1.trans q3⟩
  have e0 : EG (.fn 47) [.map m] h = some (.func 54 [] [.ptr h.next 0], h.add (.keys (.map m))) := run_prim (f := 47) rfl rfl
  unfold F30
  simp only [e0, bothK_s, e1, srow_len r1, valK_s]
  exact q1

theorem kept26_run {h : AHeap} (hw : h.WF) {m : Nat} {l : SE} {clock : Nat} (hm : h.get m = some (.map (strE l) clock)) (ho : Once l clock) (hn : l.length < 1000000) (hl : ∀ e ∈ l, e.1.length < 1000000000) {g : Nat} {cap : List AV} {f : Bs → Bool}
    (his : ∀ p ∈ l.map (·.1), ∀ h1, Ext h h1 → ∃ h2, EG (.fn g) (.str p :: cap) h1 = some (.bool (f p), h2) ∧ Ext h1 h2) :
    ∃ v' h', EG (.fn 26) [.map m, .func g [] cap] h = some (v', h') ∧ SOwn h h' v' ((sortS (l.map (·.1))).filter f) ∧ Ext h h' := by
  obtain ⟨x, h1, e1, r1, x1⟩ := sorted_run hw (.inl rfl) hm ho hn hl
  obtain ⟨v', h', q1, q2, q3⟩ := kept_loop x1.wf r1 (by rw [sortS_length]; simpa using hn) (g := g) (cap := cap) (f := f) (n := (sortS (l.map (·.1))).length + 1) (fun p hp h2 hx => his p (mem_sortS.1 hp) h2 (x1.trans hx)) (by omega)
  refine ⟨v', h', run26 ((sortS (l.map (·.1))).length + 1) ?_, q2.base x1, x1.trans q3⟩
  have e0 : EG (.fn 45) [.map m] h = some (.func 53 [] [.ptr h.next 0], h.add (.keys (.map m))) := run_prim (f := 45) rfl rfl
  unfold F26
  simp only [e0, bothK_s, e1, srow_len r1, valK_s, F26_b3_eq]
  exact q1

end Go.Am
