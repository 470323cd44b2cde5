/-
  The document's table of inodes (whiskref07) in an abstract heap.
  The document's table: has, place, find, Find, Up, Node.
  The document's table: Node, Used, room, Texts.
  The document's table: Names.
  The document's table: what is put into its lists.
  The document's table: Link, Write, Chmod, Unlink.
  The document's table: Unlink, Move.
  The document's table: Move, Make, New.
  The document's table: Make, New.
  InodePlays: a table and the document's, side by side; what is done to both.
  InodePlays: both tell the same; the walk.
-/
import Derived.Test.YtaolgkpabgmnkaaMJ

set_option linter.unusedVariables false
set_option linter.unusedSimpArgs false
namespace Go.Am
open Go Go.Proofs

theorem ty83 : tab.get 83 = some ⟨.slice 35, 1, 24, false, .nilslice⟩ := rfl
theorem ty84 : tab.get 84 = some ⟨.slice 98, 1, 24, false, .nilslice⟩ := rfl
theorem ty35x : ∃ ty, tab.get 35 = some ty ∧ ty.size = 4 ∧ ty.agg = true ∧ ty.zero.cells.length = 4 ∧ ty.bytes ≤ 1000 := ⟨_, rfl, rfl, rfl, rfl, by decide⟩
theorem ty98x : ∃ ty, tab.get 98 = some ty ∧ ty.size = 3 ∧ ty.agg = true ∧ ty.zero.cells.length = 3 ∧ ty.bytes ≤ 1000 := ⟨_, rfl, rfl, rfl, rfl, by decide⟩

/-- An inode of the document's list. -/
structure RI where
  kind : Int
  mode : Int
  data : Bs

def cellsI (x : RI) : List AV := [.int .i64 x.kind, .int .i64 x.mode, .str x.data, .int .i64 0]
def cellsE (e : Ed) : List AV := [.int .i64 e.dir, .str e.name, .int .i64 e.ino]
def flatL (l : List RI) : List AV := l.flatMap cellsI
def flatE (l : List Ed) : List AV := l.flatMap cellsE

theorem flatK_len {α : Type} {f : α → List AV} {k : Nat} (hf : ∀ x, (f x).length = k) : ∀ (l : List α), (l.flatMap f).length = l.length * k
  | [] => by simp
  | x :: l => by rw [List.flatMap_cons, List.length_append, hf, flatK_len hf l, List.length_cons, Nat.succ_mul]; omega

theorem flatK_get {α : Type} {f : α → List AV} {k : Nat} (hf : ∀ x, (f x).length = k) : ∀ {l : List α} {i j : Nat} {x : α}, l[i]? = some x → j < k → (l.flatMap f)[i * k + j]? = (f x)[j]?
  | y :: l, 0, j, x, h, hj => by
    simp only [List.getElem?_cons_zero, Option.some.injEq] at h
    subst h
    rw [List.flatMap_cons, Nat.zero_mul, Nat.zero_add, List.getElem?_append_left (by rw [hf]; exact hj)]
  | y :: l, i + 1, j, x, h, hj => by
    rw [List.flatMap_cons, List.getElem?_append_right (by rw [hf, Nat.succ_mul]; omega), hf]
    rw [show (i + 1) * k + j - k = i * k + j by rw [Nat.succ_mul]; omega]
    exact flatK_get hf (by simpa using h) hj
  | [], _, _, _, h, _ => by simp at h

theorem splice_mid (A m B : List AV) {j : Nat} {cs : List AV} (h : j + cs.length ≤ m.length) : splice (A ++ m ++ B) (A.length + j) cs = some (A ++ (m.take j ++ (cs ++ m.drop (j + cs.length))) ++ B) := by
  unfold splice
  rw [Nat.ble_eq_true_of_le (by simp; omega), cond_true]
  congr 1
  rw [List.append_assoc, List.take_append, List.drop_append]
  have h1 : A.length + j - A.length = j := by omega
  have h2 : A.length + j + cs.length - A.length = j + cs.length := by omega
  rw [h1, h2, List.take_of_length_le (by omega), List.drop_of_length_le (by omega), List.nil_append, List.take_append_of_le_length (by omega), List.drop_append_of_le_length h]
  simp [List.append_assoc]

/-- What is put over one element. -/
theorem splice_flat {α : Type} {f : α → List AV} {k : Nat} (hf : ∀ x, (f x).length = k) {l : List α} {i j : Nat} {x x' : α} {cs : List AV} (hx : l[i]? = some x) (h : j + cs.length ≤ k) (h' : f x' = (f x).take j ++ (cs ++ (f x).drop (j + cs.length))) :
    splice (l.flatMap f) (i * k + j) cs = some ((l.set i x').flatMap f) := by
  obtain ⟨hi, hxi⟩ := List.getElem?_eq_some_iff.1 hx
  have hl : l = l.take i ++ [x] ++ l.drop (i + 1) := by
    have h1 : l = l.take i ++ l.drop i := (List.take_append_drop i l).symm
    have h2 : l.drop i = x :: l.drop (i + 1) := by rw [← hxi]; exact List.drop_eq_getElem_cons hi
    calc l = l.take i ++ l.drop i := h1
      _ = l.take i ++ [x] ++ l.drop (i + 1) := by rw [h2]; simp
  have hs : l.set i x' = l.take i ++ [x'] ++ l.drop (i + 1) := by
    rw [List.set_eq_take_append_cons_drop, if_pos hi]; simp
  have e1 : l.flatMap f = (l.take i).flatMap f ++ f x ++ (l.drop (i + 1)).flatMap f := by
    conv => lhs; rw [hl]
    simp
  have e2 : (l.set i x').flatMap f = (l.take i).flatMap f ++ f x' ++ (l.drop (i + 1)).flatMap f := by
    rw [hs]; simp
  have hlen : ((l.take i).flatMap f).length = i * k := by rw [flatK_len hf, List.length_take, Nat.min_eq_left (by omega)]
  rw [e1, e2, ← hlen, splice_mid _ _ _ (by rw [hf]; exact h), h']

theorem lenI (x : RI) : (cellsI x).length = 4 := rfl
theorem lenE (e : Ed) : (cellsE e).length = 3 := rfl
theorem flatL_len (l : List RI) : (flatL l).length = l.length * 4 := flatK_len lenI l
theorem flatE_len (l : List Ed) : (flatE l).length = l.length * 3 := flatK_len lenE l

/-- An element of a row of one's own. -/
theorem Own.at {T : Tab} {h0 h : AHeap} {v : AV} {n esz : Nat} {vs : List AV} (a : Own h0 h v n esz vs) {t e s b : Nat} {ag : Bool} {z : AV} {te : ATy} (ht : T.get t = some ⟨.slice e, s, b, ag, z⟩) (he : T.get e = some te) (hs : te.size = esz) {i : Nat} (hi : i < n) :
    ∃ o, v = .slice o 0 n esz ∧ h.get o = some (.cells vs true) ∧ h0.get o = none ∧ aindexAddr T t v (.int .i64 (i : Int)) = some (.ptr o (i * esz)) := by
  rcases a.2 with ⟨rfl, h2⟩ | ⟨o, rfl, h3, h4⟩
  · omega
  · have hb : Nat.beq te.size esz = true := by rw [hs]; exact Nat.beq_refl _
    have hin : inside (.int .i64 (i : Int)) n = some i := by
      show (bif Nat.blt i n then some i else none) = _
      have : Nat.blt i n = true := by simpa using hi
      rw [this]; rfl
    exact ⟨o, rfl, h3, h4, by simp only [aindexAddr, ht, he, hb, cond_true, hin, Nat.zero_add]⟩

/-- The document's table in the heap. -/
structure RR (h0 h : AHeap) (r : Nat) (lv ev : AV) (qi qb : Int) (LL : List RI) (E : List Ed) : Prop where
  top : h.get r = some (.cells [.int .i64 qi, .int .i64 qb, lv, ev] true)
  lown : Own h0 h lv LL.length 4 (flatL LL)
  eown : Own h0 h ev E.length 3 (flatE E)
  rnew : h0.get r = none
  r_l : ∀ n e, lv ≠ .slice r 0 n e
  r_e : ∀ n e, ev ≠ .slice r 0 n e
  l_e : ∀ j n e n' e', lv = .slice j 0 n e → ev ≠ .slice j 0 n' e'

def refS (r : Nat) (lv ev : AV) : Nat → Prop := fun j => j = r ∨ (∃ n e, lv = .slice j 0 n e) ∨ ∃ n e, ev = .slice j 0 n e

section
variable {h0 h : AHeap} {r : Nat} {lv ev : AV} {qi qb : Int} {LL : List RI} {E : List Ed}

theorem Own.kept {h0 h h' : AHeap} {v : AV} {n esz : Nat} {vs : List AV} (a : Own h0 h v n esz vs) (e : ∀ j y, (∃ n e, v = .slice j 0 n e) → h.get j = some y → h'.get j = some y) : Own h0 h' v n esz vs := by
  refine ⟨a.1, ?_⟩
  rcases a.2 with q | ⟨o, q1, q2, q3⟩
  · exact .inl q
  · exact .inr ⟨o, q1, e o _ ⟨_, _, q1⟩ q2, q3⟩

theorem RR.kept (a : RR h0 h r lv ev qi qb LL E) {h' : AHeap} (e : ∀ j y, refS r lv ev j → h.get j = some y → h'.get j = some y) : RR h0 h' r lv ev qi qb LL E where
  top := e r _ (.inl rfl) a.top
  lown := a.lown.kept fun j y hj => e j y (.inr (.inl hj))
  eown := a.eown.kept fun j y hj => e j y (.inr (.inr hj))
  rnew := a.rnew
  r_l := a.r_l
  r_e := a.r_e
  l_e := a.l_e

theorem RR.ext (a : RR h0 h r lv ev qi qb LL E) {h' : AHeap} (x : Ext h h') : RR h0 h' r lv ev qi qb LL E := a.kept fun j y _ hy => x.keep j y hy

theorem RR.there (a : RR h0 h r lv ev qi qb LL E) {j : Nat} (hj : refS r lv ev j) : h.get j ≠ none ∧ h0.get j = none := by
  rcases hj with rfl | ⟨n, e, hj⟩ | ⟨n, e, hj⟩
  · exact ⟨by rw [a.top]; simp, a.rnew⟩
  · rcases a.lown.2 with ⟨q, _⟩ | ⟨o, q1, q2, q3⟩
    · rw [q] at hj; cases hj
    · rw [q1] at hj
      simp only [AV.slice.injEq] at hj
      rw [← hj.1]; exact ⟨by rw [q2]; simp, q3⟩
  · rcases a.eown.2 with ⟨q, _⟩ | ⟨o, q1, q2, q3⟩
    · rw [q] at hj; cases hj
    · rw [q1] at hj
      simp only [AV.slice.injEq] at hj
      rw [← hj.1]; exact ⟨by rw [q2]; simp, q3⟩

theorem nilp (i : Nat) : nilA (.ptr r i) = some (.ptr r i) := rfl
theorem fa86_0 : afieldAddr tab 86 (.ptr r 0) 0 = some (.ptr r 0) := rfl
theorem fa86_1 : afieldAddr tab 86 (.ptr r 0) 1 = some (.ptr r 2) := rfl
theorem fa86_2 : afieldAddr tab 86 (.ptr r 0) 2 = some (.ptr r 3) := rfl
theorem RR.l_l (a : RR h0 h r lv ev qi qb LL E) : loadA tab h 83 (.ptr r 2) = some lv := loadA_cell ty83 rfl a.top rfl
theorem RR.l_e' (a : RR h0 h r lv ev qi qb LL E) : loadA tab h 84 (.ptr r 3) = some ev := loadA_cell ty84 rfl a.top rfl
theorem RR.l_qi (a : RR h0 h r lv ev qi qb LL E) : loadA tab h 3 (.ptr r 0) = some (.int .i64 qi) := loadA_cell ty3 rfl a.top rfl
theorem RR.l_qb (a : RR h0 h r lv ev qi qb LL E) : loadA tab h 3 (.ptr r 1) = some (.int .i64 qb) := loadA_cell ty3 rfl a.top rfl
theorem RR.n_l (a : RR h0 h r lv ev qi qb LL E) : alen tab h 83 lv = some (.int .i64 (LL.length : Int)) := a.lown.row.len ty83
theorem RR.n_e (a : RR h0 h r lv ev qi qb LL E) : alen tab h 84 ev = some (.int .i64 (E.length : Int)) := a.eown.row.len ty84

/-- An inode of the list. -/
theorem RR.at_l (a : RR h0 h r lv ev qi qb LL E) {i : Nat} {x : RI} (hx : LL[i]? = some x) : ∃ o, lv = .slice o 0 LL.length 4 ∧ h.get o = some (.cells (flatL LL) true) ∧ aindexAddr tab 83 lv (.int .i64 (i : Int)) = some (.ptr o (i * 4)) ∧
    afieldAddr tab 35 (.ptr o (i * 4)) 0 = some (.ptr o (i * 4)) ∧ afieldAddr tab 35 (.ptr o (i * 4)) 1 = some (.ptr o (i * 4 + 1)) ∧ afieldAddr tab 35 (.ptr o (i * 4)) 2 = some (.ptr o (i * 4 + 2)) ∧
    (∀ h', h'.get o = some (.cells (flatL LL) true) → loadA tab h' 3 (.ptr o (i * 4)) = some (.int .i64 x.kind) ∧ loadA tab h' 9 (.ptr o (i * 4 + 2)) = some (.str x.data) ∧ loadA tab h' 35 (.ptr o (i * 4)) = some (.agg (cellsI x))) := by
  obtain ⟨ty, t1, t2, t3, t4, t5⟩ := ty35x
  have hi := (List.getElem?_eq_some_iff.1 hx).1
  obtain ⟨o, q1, q2, q3, q4⟩ := a.lown.at ty83 t1 t2 hi
  have g0 : (flatL LL)[i * 4 + 0]? = some (.int .i64 x.kind) := flatK_get lenI hx (by omega)
  have g2 : (flatL LL)[i * 4 + 2]? = some (.str x.data) := flatK_get lenI hx (by omega)
  refine ⟨o, q1, q2, q4, rfl, rfl, rfl, fun h' hh => ⟨loadA_cell ty3 rfl hh g0, loadA_cell ty9 rfl hh g2, ?_⟩⟩
  have hc : cut (flatL LL) (i * 4) 4 = some (cellsI x) := by
    unfold cut
    have hl := flatL_len LL
    rw [Nat.ble_eq_true_of_le (by omega), cond_true]
    congr 1
    apply List.ext_getElem?
    intro j
    by_cases hj : j < 4
    · rw [List.getElem?_take_of_lt hj, List.getElem?_drop]
      exact flatK_get lenI hx hj
    · rw [List.getElem?_eq_none (by simp; omega), List.getElem?_eq_none (by rw [lenI]; omega)]
  simp only [loadA, aload, hh, t1, t2, t3, cond_true, hc, Option.map_some]

/-- An entry of the list. -/
theorem RR.at_e (a : RR h0 h r lv ev qi qb LL E) {i : Nat} {e : Ed} (hx : E[i]? = some e) : ∃ p p0 p1 p2, aindexAddr tab 84 ev (.int .i64 (i : Int)) = some p ∧
    afieldAddr tab 98 p 0 = some p0 ∧ afieldAddr tab 98 p 1 = some p1 ∧ afieldAddr tab 98 p 2 = some p2 ∧
    ∀ h', Ext h h' → loadA tab h' 3 p0 = some (.int .i64 e.dir) ∧ loadA tab h' 9 p1 = some (.str e.name) ∧ loadA tab h' 3 p2 = some (.int .i64 e.ino) := by
  obtain ⟨ty, t1, t2, t3, t4, t5⟩ := ty98x
  have hi := (List.getElem?_eq_some_iff.1 hx).1
  obtain ⟨o, q1, q2, q3, q4⟩ := a.eown.at ty84 t1 t2 hi
  have g0 : (flatE E)[i * 3 + 0]? = some (.int .i64 e.dir) := flatK_get lenE hx (by omega)
  have g1 : (flatE E)[i * 3 + 1]? = some (.str e.name) := flatK_get lenE hx (by omega)
  have g2 : (flatE E)[i * 3 + 2]? = some (.int .i64 e.ino) := flatK_get lenE hx (by omega)
  refine ⟨_, _, _, _, q4, rfl, rfl, rfl, fun h' x => ?_⟩
  have hh := x.keep _ _ q2
  exact ⟨loadA_cell ty3 rfl hh g0, loadA_cell ty9 rfl hh g1, loadA_cell ty3 rfl hh g2⟩
end

/-- The list tells what the table tells. -/
def riOf (f : Int → Option Nd) (k : Int) : RI := match f k with | some nd => ⟨nd.kind, nd.mode, nd.data⟩ | none => ⟨0, 0, []⟩
def listR (tb : Tb) : List RI := (List.range tb.last.toNat).map fun (i : Nat) => riOf tb.nodes ((i : Int) + 1)

def kindT (tb : Tb) (k : Int) : Int := match tb.nodes k with | some nd => nd.kind | none => 0

/-- Both stand in the heap. -/
structure RM (h0 h : AHeap) (r : Nat) (lv ev : AV) (tb : Tb) (E : List Ed) (n : Nat) : Prop where
  rr : RR h0 h r lv ev tb.qi tb.qb (listR tb) E
  st : St tb E n
  small : n ≤ 100
  wf : h.WF

section
variable {h0 h : AHeap} {r : Nat} {lv ev : AV} {tb : Tb} {E : List Ed} {n : Nat}

theorem RM.ext (a : RM h0 h r lv ev tb E n) {h' : AHeap} (x : Ext h h') : RM h0 h' r lv ev tb E n := ⟨a.rr.ext x, a.st, a.small, x.wf⟩

theorem RM.lenL (a : RM h0 h r lv ev tb E n) : ((listR tb).length : Int) = tb.last := by
  have := a.st.inv.last1
  simp only [listR, List.length_map, List.length_range]
  omega
theorem RM.last (a : RM h0 h r lv ev tb E n) : 1 ≤ tb.last ∧ tb.last ≤ 101 := ⟨a.st.inv.last1, by have := a.st.last; have := a.small; omega⟩
theorem RM.lenE (a : RM h0 h r lv ev tb E n) : E.length ≤ 100 := by have := a.st.len; have := a.small; omega

theorem RM.at (a : RM h0 h r lv ev tb E n) {k : Int} (h1 : 1 ≤ k) (h2 : k ≤ tb.last) : ∃ i : Nat, k - 1 = (i : Int) ∧ (listR tb)[i]? = some (riOf tb.nodes k) := by
  refine ⟨(k - 1).toNat, by omega, ?_⟩
  have : (listR tb)[(k - 1).toNat]? = some (riOf tb.nodes (((k - 1).toNat : Int) + 1)) := by
    simp only [listR, List.getElem?_map]
    rw [List.getElem?_range (by omega)]
    rfl
  rw [this]
  congr 2
  omega

theorem RM.kind_run (a : RM h0 h r lv ev tb E n) (k : Int) : EG (.fn 76) [.ptr r 0, .int .i64 k] h = some (.int .i64 (kindT tb k), h) := by
  refine run76 0 ?_
  unfold F76
  have hl := a.lenL
  have out : ¬ (1 ≤ k ∧ k ≤ tb.last) → kindT tb k = 0 := fun hk => by
    cases hn : tb.nodes k with
    | none => simp only [kindT, hn]
    | some nd => exact absurd (a.st.inv.range k nd hn) hk
  by_cases h1 : k < 1
  · simp only [abin_lss, valK_s, decide_eq_true h1, boolK_t, out (by omega)]
  · by_cases h2 : ((listR tb).length : Int) < k
    · simp only [abin_lss, valK_s, decide_eq_false h1, boolK_f, nilp, fa86_1, a.rr.l_l, a.rr.n_l, abin_gtr, decide_eq_true h2, boolK_t, out (by omega)]
    · obtain ⟨i, hi, hx⟩ := a.at (k := k) (by omega) (by omega)
      obtain ⟨o, q1, q2, q3, f0, f1, f2, ld⟩ := a.rr.at_l hx
      have sub := abin_sub (T := tab) (t := 3) (a := k) (b := 1) (by omega) (by have := a.last; omega)
      rw [hi] at sub
      have hkd : (riOf tb.nodes k).kind = kindT tb k := by
        unfold riOf kindT
        cases tb.nodes k <;> rfl
      simp only [abin_lss, valK_s, decide_eq_false h1, boolK_f, nilp, fa86_1, a.rr.l_l, a.rr.n_l, abin_gtr, decide_eq_false h2, sub, q3, f0, (ld h q2).1, hkd]

theorem RM.kinds (a : RM h0 h r lv ev tb E n) (k : Int) : (tb.nodes k = none ∧ kindT tb k = 0) ∨ ∃ nd, tb.nodes k = some nd ∧ kindT tb k = nd.kind ∧ 1 ≤ nd.kind ∧ nd.kind ≤ 3 := by
  cases hn : tb.nodes k with
  | none => exact .inl ⟨rfl, by simp only [kindT, hn]⟩
  | some nd => exact .inr ⟨nd, rfl, by simp only [kindT, hn], a.st.inv.kind k nd hn⟩

theorem RM.dir_run (a : RM h0 h r lv ev tb E n) (k : Int) : EG (.fn 72) [.ptr r 0, .int .i64 k] h = some (.int .i64 (dirE tb k), h) := by
  refine run72 0 ?_
  unfold F72
  have e1 := a.kind_run k
  rcases a.kinds k with ⟨q1, q2⟩ | ⟨nd, q1, q2, q3, q4⟩
  · rw [q2] at e1
    simp only [e1, bothK_s, abin_eql, valK_s, decide_true, boolK_t, dirE, q1]
  · rw [q2] at e1
    have h1 : ¬ nd.kind = 0 := by omega
    simp only [e1, bothK_s, abin_eql, valK_s, decide_eq_false h1, boolK_f, abin_neq, dirE, q1]
    by_cases h2 : nd.kind = 2
    · simp only [decide_eq_true h2, Bool.not_true, boolK_f, if_pos h2]
    · simp only [decide_eq_false h2, Bool.not_false, boolK_t, if_neg h2]

theorem RM.file_run (a : RM h0 h r lv ev tb E n) (k : Int) : EG (.fn 71) [.ptr r 0, .int .i64 k] h = some (.int .i64 (fileE tb k), h) := by
  refine run71 0 ?_
  unfold F71
  have e1 := a.kind_run k
  rcases a.kinds k with ⟨q1, q2⟩ | ⟨nd, q1, q2, q3, q4⟩
  · rw [q2] at e1
    simp only [e1, bothK_s, abin_eql, valK_s, decide_true, boolK_t, fileE, q1]
  · rw [q2] at e1
    have h1 : ¬ nd.kind = 0 := by omega
    by_cases h2 : nd.kind = 2
    · simp only [e1, bothK_s, abin_eql, valK_s, decide_eq_false h1, boolK_f, decide_eq_true h2, boolK_t, fileE, q1, if_pos h2]
    · by_cases h3 : nd.kind = 3
      · have h4 : ¬ nd.kind = 1 := by omega
        simp only [e1, bothK_s, abin_eql, valK_s, decide_eq_false h1, boolK_f, decide_eq_false h2, decide_eq_true h3, boolK_t, fileE, q1, if_neg h2, if_neg h4]
      · have h4 : nd.kind = 1 := by omega
        simp only [e1, bothK_s, abin_eql, valK_s, decide_eq_false h1, boolK_f, decide_eq_false h2, decide_eq_false h3, fileE, q1, if_neg h2, if_pos h4]
end
end Go.Am

set_option linter.unusedVariables false
set_option linter.unusedSimpArgs false
namespace Go.Am
open Go Go.Proofs

theorem fuel (m : Nat) : ∃ N : Nat, m < N := ⟨m + 1, Nat.lt_succ_self m⟩

theorem has_run {h : AHeap} (s : Bs) (c : UInt8) (hl : s.length < 1000000) : EG (.fn 68) [.str s, .int .u8 (c.toNat : Int)] h = some (.bool (decide (c ∈ s)), h) := by
  obtain ⟨N, hN⟩ := fuel (s.length + 1)
  refine run68 N ?_
  unfold F68
  refine loop_rule (σ := AV × AV × AV × Unit) (R := AV × AHeap) (total := s.length) (I := fun i st hh => hh = h ∧ i ≤ s.length ∧ st = (.str s, .int .u8 (c.toNat : Int), .int .i64 (i : Int), ()) ∧ c ∉ s.take i)
    (Q := fun r => r = some (.bool (decide (c ∈ s)), h)) ?_ N 0 _ _ ⟨rfl, by omega, rfl, by simp⟩ (by omega) (by omega)
  rintro i st hh nx ⟨rfl, hi, rfl, hno⟩
  by_cases hlt : i < s.length
  · have ix : aindex tab 9 (.str s) (.int .i64 (i : Int)) = some (.int .u8 (s[i].toNat : Int)) := by
      have hin : inside (.int .i64 (i : Int)) s.length = some i := by
        show (bif Nat.blt i s.length then some i else none) = _
        have : Nat.blt i s.length = true := by simpa using hlt
        rw [this]; rfl
      simp only [aindex, ty9, hin, List.getElem?_eq_getElem hlt]
    by_cases he : s[i] = c
    · right
      have hm : c ∈ s := by rw [← he]; exact List.getElem_mem hlt
      unfold F68_b2
      simp only [alen9, valK_s, abin_lss, ltT hlt, boolK_t, ix, eqk, he, decide_true, unmark_nil, hpK_s, decide_eq_true hm]
    · left
      have hd : decide ((s[i].toNat : Int) = (c.toNat : Int)) = false := by
        rw [decide_eq_false_iff_not]
        intro e
        exact he (UInt8.toNat_inj.1 (by omega))
      refine ⟨hlt, _, hh, ?_, rfl, by omega, rfl, fun hm => ?_⟩
      · unfold F68_b2
        simp only [alen9, valK_s, abin_lss, ltT hlt, boolK_t, ix, eqk, hd, boolK_f, abin_inc (show i < 4611686018427387904 by omega)]
      · rw [List.take_succ_eq_append_getElem hlt, List.mem_append, List.mem_singleton] at hm
        rcases hm with hm | hm
        · exact hno hm
        · exact he hm.symm
  · right
    have hil : i = s.length := by omega
    rw [hil, List.take_length] at hno
    unfold F68_b2
    simp only [alen9, valK_s, abin_lss, ltF hlt, boolK_f, unmark_nil, hpK_s, decide_eq_false hno]

theorem hasAny_two : ∀ (s : Bs), hasAny [47, 0] s = (decide ((47 : UInt8) ∈ s) || decide ((0 : UInt8) ∈ s))
  | [] => rfl
  | b :: l => by
    simp only [hasAny, hasAny_two l, List.any_cons, List.any_nil, Bool.or_false, beq_byte, List.mem_cons]
    have e1 : decide (b = 47) = decide ((47 : UInt8) = b) := decide_eq_decide.2 ⟨fun h => h.symm, fun h => h.symm⟩
    have e2 : decide (b = 0) = decide ((0 : UInt8) = b) := decide_eq_decide.2 ⟨fun h => h.symm, fun h => h.symm⟩
    rw [e1, e2]
    by_cases h1 : (47 : UInt8) = b <;> by_cases h2 : (0 : UInt8) = b <;> by_cases h3 : (47 : UInt8) ∈ l <;> by_cases h4 : (0 : UInt8) ∈ l <;> simp [h1, h2, h3, h4]

section
variable {h0 h : AHeap} {r : Nat} {lv ev : AV} {tb : Tb} {E : List Ed} {n : Nat}

def placeE (tb : Tb) (d : Int) (s : Bs) : Int := if dirE tb d = 0 then nameE s else dirE tb d

theorem RM.place_run (a : RM h0 h r lv ev tb E n) (d : Int) (s : Bs) : EG (.fn 67) [.ptr r 0, .int .i64 d, .str s] h = some (.int .i64 (placeE tb d s), h) := by
  refine run67 0 ?_
  unfold F67
  have e1 := a.dir_run d
  unfold placeE
  by_cases h1 : dirE tb d = 0
  · rw [if_pos h1]
    by_cases h2 : 56 < s.length
    · have c2 : decide ((56 : Int) < (s.length : Int)) = true := by rw [decide_eq_true_eq]; omega
      simp only [e1, bothK_s, abin_neq, decide_eq_true h1, Bool.not_true, valK_s, boolK_f, alen9, abin_gtr, c2, boolK_t, nameE, if_pos h2]
    · have c2 : decide ((56 : Int) < (s.length : Int)) = false := by rw [decide_eq_false_iff_not]; omega
      have k1 := has_run (h := h) s 47 (by omega)
      have k2 := has_run (h := h) s 0 (by omega)
      rw [show (((47 : UInt8).toNat : Int)) = 47 from rfl] at k1
      rw [show (((0 : UInt8).toNat : Int)) = 0 from rfl] at k2
      simp only [e1, bothK_s, abin_neq, decide_eq_true h1, Bool.not_true, valK_s, boolK_f, alen9, abin_gtr, c2, abin_streq, nameE, if_neg h2, goodName, hasAny_two]
      by_cases q1 : s = []
      · simp only [decide_eq_true q1, boolK_t]; simp
      · by_cases q2 : s = [46]
        · simp only [decide_eq_false q1, boolK_f, decide_eq_true q2, boolK_t]; simp
        · by_cases q3 : s = [46, 46]
          · simp only [decide_eq_false q1, boolK_f, decide_eq_false q2, decide_eq_true q3, boolK_t]; simp
          · simp only [decide_eq_false q1, boolK_f, decide_eq_false q2, decide_eq_false q3, k1, bothK_s]
            by_cases q4 : (47 : UInt8) ∈ s
            · simp only [decide_eq_true q4, boolK_t]; simp
            · simp only [decide_eq_false q4, boolK_f, k2, bothK_s]
              by_cases q5 : (0 : UInt8) ∈ s
              · simp only [decide_eq_true q5, boolK_t]; simp
              · simp only [decide_eq_false q5, boolK_f]; simp
  · simp only [e1, bothK_s, abin_neq, decide_eq_false h1, Bool.not_false, valK_s, boolK_t, if_neg h1]

theorem RM.find_run (a : RM h0 h r lv ev tb E n) (d : Int) (s : Bs) : ∃ res, EG (.fn 69) [.ptr r 0, .int .i64 d, .str s] h = some (.int .i64 res, h) ∧
    ((res = -1 ∧ findT tb d s = none) ∨ ∃ (i : Nat) (x : Int), res = (i : Int) ∧ E[i]? = some ⟨d, s, x⟩ ∧ findT tb d s = some x) := by
  obtain ⟨N, hN⟩ := fuel 101
  suffices ∃ res, F69 EG N (.ptr r 0) (.int .i64 d) (.str s) h = some (.int .i64 res, h) ∧ ((res = -1 ∧ findT tb d s = none) ∨ ∃ (i : Nat) (x : Int), res = (i : Int) ∧ E[i]? = some ⟨d, s, x⟩ ∧ findT tb d s = some x) by
    obtain ⟨res, q1, q2⟩ := this
    exact ⟨res, run69 N q1, q2⟩
  unfold F69
  have hEl := a.lenE
  refine loop_rule (σ := AV × AV × AV × AV × Unit) (R := AV × AHeap) (total := E.length) (I := fun i st hh => hh = h ∧ i ≤ E.length ∧ st = (.ptr r 0, .int .i64 d, .str s, .int .i64 (i : Int), ()) ∧ ∀ e ∈ E.take i, ¬ (e.dir = d ∧ e.name = s))
    (Q := fun o => ∃ res, o = some (.int .i64 res, h) ∧ ((res = -1 ∧ findT tb d s = none) ∨ ∃ (i : Nat) (x : Int), res = (i : Int) ∧ E[i]? = some ⟨d, s, x⟩ ∧ findT tb d s = some x)) ?_ N 0 _ _ ⟨rfl, by omega, rfl, by simp⟩ (by omega) (by omega)
  rintro i st hh nx ⟨rfl, hi, rfl, hno⟩
  by_cases hlt : i < E.length
  · have he : E[i]? = some E[i] := List.getElem?_eq_getElem hlt
    obtain ⟨p, p0, p1, p2, q0, f0, f1, f2, ld⟩ := a.rr.at_e he
    obtain ⟨l0, l1, l2⟩ := ld hh (Ext.refl a.wf)
    have inc := abin_inc (T := tab) (t := 3) (i := i) (by omega)
    have stepE : ¬ (E[i].dir = d ∧ E[i].name = s) → ∀ e ∈ E.take (i + 1), ¬ (e.dir = d ∧ e.name = s) := fun hne e hm => by
      rw [List.take_succ_eq_append_getElem hlt, List.mem_append, List.mem_singleton] at hm
      rcases hm with hm | rfl
      · exact hno e hm
      · exact hne
    by_cases h1 : E[i].dir = d
    · by_cases h2 : E[i].name = s
      · right
        refine ⟨(i : Int), ?_, .inr ⟨i, E[i].ino, rfl, ?_, ?_⟩⟩
        · unfold F69_b2
          simp only [nilp, valK_s, fa86_2, a.rr.l_e', a.rr.n_e, abin_lss, ltT hlt, boolK_t, q0, f0, l0, abin_eql, decide_eq_true h1, f1, l1, abin_streq, decide_eq_true h2, unmark_nil, hpK_s]
        · rw [he, ← h1, ← h2]
        · obtain ⟨dn, d1, d2⟩ := a.st.inv.dir E[i] (List.getElem_mem hlt)
          refine a.st.inv.find.2 ⟨?_, by rw [← h1, d1]; rfl⟩
          rw [← h1, ← h2]
          exact List.getElem_mem hlt
      · left
        refine ⟨hlt, _, hh, ?_, rfl, by omega, rfl, stepE fun hh => h2 hh.2⟩
        unfold F69_b2
        simp only [nilp, valK_s, fa86_2, a.rr.l_e', a.rr.n_e, abin_lss, ltT hlt, boolK_t, q0, f0, l0, abin_eql, decide_eq_true h1, f1, l1, abin_streq, decide_eq_false h2, boolK_f, inc]
    · left
      refine ⟨hlt, _, hh, ?_, rfl, by omega, rfl, stepE fun hh => h1 hh.1⟩
      unfold F69_b2
      simp only [nilp, valK_s, fa86_2, a.rr.l_e', a.rr.n_e, abin_lss, ltT hlt, boolK_t, q0, f0, l0, abin_eql, decide_eq_false h1, boolK_f, inc]
  · right
    have hil : i = E.length := by omega
    rw [hil, List.take_length] at hno
    refine ⟨-1, ?_, .inl ⟨rfl, ?_⟩⟩
    · unfold F69_b2
      simp only [nilp, valK_s, fa86_2, a.rr.l_e', a.rr.n_e, abin_lss, ltF hlt, boolK_f, unmark_nil, hpK_s]
    · exact a.st.inv.no_name fun e he h1 h2 => hno e he ⟨h1, h2⟩

theorem RM.Find_run (a : RM h0 h r lv ev tb E n) (d : Int) (s : Bs) : EG (.fn 48) [.ptr r 0, .int .i64 d, .str s] h = some (.tuple [intOf (findT tb d s), .bool (findT tb d s).isSome], h) := by
  refine run48 0 ?_
  obtain ⟨res, e1, hres⟩ := a.find_run d s
  unfold F48
  rcases hres with ⟨rfl, h1⟩ | ⟨i, x, rfl, h1, h2⟩
  · simp only [e1, bothK_s, abin_lss, valK_s, show decide ((-1 : Int) < 0) = true from rfl, boolK_t, h1, intOf, Option.isSome_none]
  · obtain ⟨p, p0, p1, p2, q0, f0, f1, f2, ld⟩ := a.rr.at_e h1
    obtain ⟨l0, l1, l2⟩ := ld h (Ext.refl a.wf)
    have c : decide ((i : Int) < 0) = false := by rw [decide_eq_false_iff_not]; omega
    simp only [e1, bothK_s, abin_lss, valK_s, c, boolK_f, nilp, fa86_2, a.rr.l_e', q0, f2, l2, h2, intOf, Option.isSome_some]

theorem RM.up_run (a : RM h0 h r lv ev tb E n) (k : Int) : EG (.fn 50) [.ptr r 0, .int .i64 k] h = some (.int .i64 (upT tb k), h) := by
  obtain ⟨N, hN⟩ := fuel 101
  refine run50 N ?_
  unfold F50
  have e1 := a.kind_run k
  have hEl := a.lenE
  rcases a.kinds k with ⟨q1, q2⟩ | ⟨nd, q1, q2, q3, q4⟩
  · rw [q2] at e1
    simp only [e1, bothK_s, abin_neq, valK_s, show (!decide ((0 : Int) = 2)) = true from rfl, boolK_t, upT, q1]
  · rw [q2] at e1
    have hup : upT tb k = nd.up := by simp only [upT, q1]
    by_cases h2 : nd.kind = 2
    · simp only [e1, bothK_s, abin_neq, valK_s, decide_eq_true h2, Bool.not_true, boolK_f]
      refine loop_rule (σ := AV × AV × AV × Unit) (R := AV × AHeap) (total := E.length) (I := fun i st hh => hh = h ∧ i ≤ E.length ∧ st = (.ptr r 0, .int .i64 k, .int .i64 (i : Int), ()) ∧ ∀ e ∈ E.take i, e.ino ≠ k)
        (Q := fun o => o = some (.int .i64 (upT tb k), h)) ?_ N 0 _ _ ⟨rfl, by omega, rfl, by simp⟩ (by omega) (by omega)
      rintro i st hh nx ⟨rfl, hi, rfl, hno⟩
      by_cases hlt : i < E.length
      · have he : E[i]? = some E[i] := List.getElem?_eq_getElem hlt
        obtain ⟨p, p0, p1, p2, r0, f0, f1, f2, ld⟩ := a.rr.at_e he
        obtain ⟨l0, l1, l2⟩ := ld hh (Ext.refl a.wf)
        have inc := abin_inc (T := tab) (t := 3) (i := i) (by omega)
        by_cases h1 : E[i].ino = k
        · right
          have : E[i].dir = upT tb k := by
            obtain ⟨_, cn, c1, c2⟩ := a.st.inv.ino E[i] (List.getElem_mem hlt)
            rw [h1, q1] at c1; cases c1
            rw [hup]; exact (c2 h2).symm
          unfold F50_b4
          simp only [nilp, valK_s, fa86_2, a.rr.l_e', a.rr.n_e, abin_lss, ltT hlt, boolK_t, r0, f0, l0, f2, l2, abin_eql, decide_eq_true h1, unmark_nil, hpK_s, this]
        · left
          refine ⟨hlt, _, hh, ?_, rfl, by omega, rfl, fun e hm => ?_⟩
          · unfold F50_b4
            simp only [nilp, valK_s, fa86_2, a.rr.l_e', a.rr.n_e, abin_lss, ltT hlt, boolK_t, r0, f2, l2, abin_eql, decide_eq_false h1, boolK_f, inc]
          · rw [List.take_succ_eq_append_getElem hlt, List.mem_append, List.mem_singleton] at hm
            rcases hm with hm | rfl
            · exact hno e hm
            · exact h1
      · right
        have hil : i = E.length := by omega
        rw [hil, List.take_length] at hno
        have hk1 : k = 1 := by
          by_cases hk : k = 1
          · exact hk
          · obtain ⟨e, c1, c2, _⟩ := a.st.inv.upEdge q1 hk
            exact absurd c2 (hno e c1)
        have : upT tb k = 1 := by
          obtain ⟨r', c1, c2, c3, _⟩ := a.st.inv.root
          simp only [upT, hk1, c1]; exact c3
        unfold F50_b4
        simp only [nilp, valK_s, fa86_2, a.rr.l_e', a.rr.n_e, abin_lss, ltF hlt, boolK_f, unmark_nil, hpK_s, this]
    · simp only [e1, bothK_s, abin_neq, valK_s, decide_eq_false h2, Bool.not_false, boolK_t, hup, a.st.inv.upf k nd q1 h2]
end
end Go.Am

set_option linter.unusedVariables false
set_option linter.unusedSimpArgs false
namespace Go.Am
open Go Go.Proofs

theorem ino_ld {h : AHeap} {c : Nat} {k m n : Int} {d : Bs} (g : h.get c = some (.cells [.int .i64 k, .int .i64 m, .str d, .int .i64 n] true)) :
    loadA tab h 35 (.ptr c 0) = some (.agg [.int .i64 k, .int .i64 m, .str d, .int .i64 n]) ∧ loadA tab h 3 (.ptr c 3) = some (.int .i64 n) := by
  obtain ⟨ty, t1, t2, t3, t4, t5⟩ := ty35x
  refine ⟨?_, loadA_cell ty3 rfl g rfl⟩
  simp only [loadA, aload, g, t1, t2, t3, cond_true]
  rfl
theorem ino_st {h : AHeap} {c : Nat} {k m n : Int} {d : Bs} (g : h.get c = some (.cells [.int .i64 k, .int .i64 m, .str d, .int .i64 n] true)) (k' m' n' : Int) (d' : Bs) :
    storeA tab h 35 (.ptr c 0) (.agg [.int .i64 k', .int .i64 m', .str d', .int .i64 n']) = some (h.put c (.cells [.int .i64 k', .int .i64 m', .str d', .int .i64 n'] true)) := by
  obtain ⟨ty, t1, t2, t3, t4, t5⟩ := ty35x
  simp only [storeA, astore, g, t1, t2, AV.cells]
  rfl
theorem ino_st3 {h : AHeap} {c : Nat} {k m n : Int} {d : Bs} (g : h.get c = some (.cells [.int .i64 k, .int .i64 m, .str d, .int .i64 n] true)) (n' : Int) :
    storeA tab h 3 (.ptr c 3) (.int .i64 n') = some (h.put c (.cells [.int .i64 k, .int .i64 m, .str d, .int .i64 n'] true)) := by
  simp only [storeA, astore, g, ty3]; rfl
theorem quo_st {h : AHeap} {c : Nat} {x y : Int} (g : h.get c = some (.cells [.int .i64 x, .int .i64 y] true)) (x' y' : Int) : storeA tab h 26 (.ptr c 0) (.agg [.int .i64 x', .int .i64 y']) = some (h.put c (.cells [.int .i64 x', .int .i64 y'] true)) := by
  have t26 : ∃ ty, tab.get 26 = some ty ∧ ty.size = 2 ∧ ty.agg = true := ⟨_, rfl, rfl, rfl⟩
  obtain ⟨ty, t1, t2, t3⟩ := t26
  simp only [storeA, astore, g, t1, t2, AV.cells]
  rfl
theorem quo_st0 {h : AHeap} {c : Nat} {x y : Int} (g : h.get c = some (.cells [.int .i64 x, .int .i64 y] true)) (x' : Int) : storeA tab h 3 (.ptr c 0) (.int .i64 x') = some (h.put c (.cells [.int .i64 x', .int .i64 y] true)) := by
  simp only [storeA, astore, g, ty3]; rfl
theorem quo_st1 {h : AHeap} {c : Nat} {x y : Int} (g : h.get c = some (.cells [.int .i64 x, .int .i64 y] true)) (y' : Int) : storeA tab h 3 (.ptr c 1) (.int .i64 y') = some (h.put c (.cells [.int .i64 x, .int .i64 y'] true)) := by
  simp only [storeA, astore, g, ty3]; rfl

section
variable {h0 h : AHeap} {r : Nat} {lv ev : AV} {tb : Tb} {E : List Ed} {n : Nat}

theorem RM.node_run (a : RM h0 h r lv ev tb E n) (k : Int) : ∃ h', EG (.fn 49) [.ptr r 0, .int .i64 k] h = some (.tuple [nodeV tb k, .bool (tb.nodes k).isSome], h') ∧ Ext h h' := by
  obtain ⟨N, hN⟩ := fuel 101
  suffices ∃ h', F49 EG N (.ptr r 0) (.int .i64 k) h = some (.tuple [nodeV tb k, .bool (tb.nodes k).isSome], h') ∧ Ext h h' by
    obtain ⟨h', q1, q2⟩ := this
    exact ⟨h', run49 N q1, q2⟩
  have hEl := a.lenE
  have x1 : Ext h (h.add (.cells [.int .i64 0, .int .i64 0, .str [], .int .i64 0] true)) := (Ext.refl a.wf).add _
  have g1 : (h.add (.cells [.int .i64 0, .int .i64 0, .str [], .int .i64 0] true)).get h.next = some (.cells [.int .i64 0, .int .i64 0, .str [], .int .i64 0] true) := AHeap.get_add_self _ _
  have n0 : newCells h [.int .i64 0, .int .i64 0, .str [], .int .i64 0] (fun o => .ptr o 0) = some (.ptr h.next 0, h.add (.cells [.int .i64 0, .int .i64 0, .str [], .int .i64 0] true)) := rfl
  have nw := a.wf.new
  generalize h.add (.cells [.int .i64 0, .int .i64 0, .str [], .int .i64 0] true) = h1 at x1 g1 n0
  generalize h.next = b at g1 n0 nw
  have a1 := a.ext x1
  have e1 := a1.kind_run k
  have b35 : abuild tab 35 [] = some (.agg [.int .i64 0, .int .i64 0, .str [], .int .i64 0]) := rfl
  rcases a1.kinds k with ⟨q1, q2⟩ | ⟨nd, q1, q2, q3, q4⟩
  · rw [q2] at e1
    have s1 := ino_st g1 0 0 0 []
    have g2 : (h1.put b (.cells [.int .i64 0, .int .i64 0, .str [], .int .i64 0] true)).get b = some (.cells [.int .i64 0, .int .i64 0, .str [], .int .i64 0] true) := AHeap.get_put_self _ _ _
    refine ⟨h1.put b (.cells [.int .i64 0, .int .i64 0, .str [], .int .i64 0] true), ?_, x1.put nw g1 _⟩
    unfold F49
    simp only [n0, bothK_s, e1, abin_eql, valK_s, decide_true, boolK_t, b35, s1, hpK_s, (ino_ld g2).1, nodeV, q1, ino0, Option.isSome_none]
  · rw [q2] at e1
    have h10 : ¬ nd.kind = 0 := by omega
    have hr := a1.st.inv.range k nd q1
    obtain ⟨i, hi, hx⟩ := a1.at hr.1 hr.2
    have hxr : riOf tb.nodes k = ⟨nd.kind, nd.mode, nd.data⟩ := by simp only [riOf, q1]
    rw [hxr] at hx
    obtain ⟨o, p1, p2, p3, f0, f1, f2, ld⟩ := a1.rr.at_l hx
    have hag : loadA tab h1 35 (.ptr o (i * 4)) = some (.agg [.int .i64 nd.kind, .int .i64 nd.mode, .str nd.data, .int .i64 0]) := (ld h1 p2).2.2
    have sub := abin_sub (T := tab) (t := 3) (a := k) (b := 1) (by omega) (by have := a.last; omega)
    rw [hi] at sub
    obtain ⟨c, h2, h3, e2, e3, g3, y3⟩ := ino_cell x1.wf nd.kind nd.mode 0 nd.data
    have cnew : h1.get c = none := by
      have hh : newCells h1 [.int .i64 0, .int .i64 0, .str [], .int .i64 0] (fun o => .ptr o 0) = some (.ptr h1.next 0, h1.add (.cells [.int .i64 0, .int .i64 0, .str [], .int .i64 0] true)) := rfl
      rw [hh] at e2
      simp only [Option.some.injEq, Prod.mk.injEq, AV.ptr.injEq, and_true] at e2
      rw [← e2.1]; exact x1.wf.new
    have hbc : b ≠ c := fun e => by rw [e, cnew] at g1; cases g1
    unfold F49
    simp only [n0, bothK_s, e1, abin_eql, valK_s, decide_eq_false h10, boolK_f, nilp, fa86_1, a1.rr.l_l, sub, p3, hag, e2, e3, hpK_s]
    refine loop_rule (σ := AV × AV × AV × AV × AV × Unit) (R := AV × AHeap) (total := E.length)
      (I := fun i st hh => i ≤ E.length ∧ st = (.ptr r 0, .int .i64 k, .ptr b 0, .ptr c 0, .int .i64 (i : Int), ()) ∧ Ext h hh ∧ hh.get c = some (.cells [.int .i64 nd.kind, .int .i64 nd.mode, .str nd.data, .int .i64 ((cntE (E.take i) k : Nat) : Int)] true) ∧ hh.get b = some (.cells [.int .i64 0, .int .i64 0, .str [], .int .i64 0] true))
      (Q := fun o => ∃ h', o = some (.tuple [nodeV tb k, .bool (tb.nodes k).isSome], h') ∧ Ext h h') ?_ N 0 _ _ ⟨by omega, rfl, x1.trans y3, g3, y3.keep _ _ g1⟩ (by omega) (by omega)
    rintro i st hh nx ⟨hi, rfl, xh, gc, gb⟩
    have ah := a.ext xh
    have cn0 : h.get c = none := x1.none cnew
    by_cases hlt : i < E.length
    · left
      have he : E[i]? = some E[i] := List.getElem?_eq_getElem hlt
      obtain ⟨p, p0, p1, p2, r0, f0, f1, f2, ld⟩ := ah.rr.at_e he
      obtain ⟨l0, l1, l2⟩ := ld hh (Ext.refl ah.wf)
      have inc := abin_inc (T := tab) (t := 3) (i := i) (by omega)
      have htk : E.take (i + 1) = E.take i ++ [E[i]] := List.take_succ_eq_append_getElem hlt
      by_cases h1' : E[i].ino = k
      · have hcn : cntE (E.take (i + 1)) k = cntE (E.take i) k + 1 := by
          rw [htk]; simp only [cntE, List.countP_append, List.countP_cons, List.countP_nil, h1', decide_true]; rfl
        have hle := cntE_le (E.take i) k
        have hle2 : (E.take i).length ≤ E.length := by simp; omega
        have add := abin_inc (T := tab) (t := 3) (i := cntE (E.take i) k) (by omega)
        have st3 := ino_st3 gc ((cntE (E.take i) k + 1 : Nat) : Int)
        have fa3 : afieldAddr tab 35 (.ptr c 0) 3 = some (.ptr c 3) := rfl
        refine ⟨hlt, _, _, ?_, by omega, rfl, xh.put cn0 gc _, by rw [hcn]; exact AHeap.get_put_self _ _ _, by rw [AHeap.get_put_ne _ _ hbc]; exact gb⟩
        unfold F49_b5
        simp only [nilp, valK_s, fa86_2, ah.rr.l_e', ah.rr.n_e, abin_lss, ltT hlt, boolK_t, r0, f2, l2, abin_eql, decide_eq_true h1', fa3, (ino_ld gc).2, add, st3, hpK_s, inc]
      · have hcn : cntE (E.take (i + 1)) k = cntE (E.take i) k := by
          rw [htk]; simp only [cntE, List.countP_append, List.countP_cons, List.countP_nil, h1', decide_false]; rfl
        refine ⟨hlt, _, hh, ?_, by omega, rfl, xh, by rw [hcn]; exact gc, gb⟩
        unfold F49_b5
        simp only [nilp, valK_s, fa86_2, ah.rr.l_e', ah.rr.n_e, abin_lss, ltT hlt, boolK_t, r0, f2, l2, abin_eql, decide_eq_false h1', boolK_f, inc]
    · right
      have hil : i = E.length := by omega
      rw [hil, List.take_length] at gc
      have fa3 : afieldAddr tab 35 (.ptr c 0) 3 = some (.ptr c 3) := rfl
      have bn0 : h.get b = none := nw
      by_cases hk1 : k = 1
      · have hl1 : nd.links = 1 := by
          obtain ⟨r', c1, c2, c3, c4⟩ := a.st.inv.root
          rw [hk1, c1] at q1; cases q1
          exact c4
        have st3 := ino_st3 gc 1
        have gc2 : (hh.put c (.cells [.int .i64 nd.kind, .int .i64 nd.mode, .str nd.data, .int .i64 1] true)).get c = some (.cells [.int .i64 nd.kind, .int .i64 nd.mode, .str nd.data, .int .i64 1] true) := AHeap.get_put_self _ _ _
        have gb2 : (hh.put c (.cells [.int .i64 nd.kind, .int .i64 nd.mode, .str nd.data, .int .i64 1] true)).get b = some (.cells [.int .i64 0, .int .i64 0, .str [], .int .i64 0] true) := by rw [AHeap.get_put_ne _ _ hbc]; exact gb
        have xc := xh.put cn0 gc (.cells [.int .i64 nd.kind, .int .i64 nd.mode, .str nd.data, .int .i64 1] true)
        generalize hh.put c (.cells [.int .i64 nd.kind, .int .i64 nd.mode, .str nd.data, .int .i64 1] true) = hc at st3 gc2 gb2 xc
        have st4 := ino_st gb2 nd.kind nd.mode 1 nd.data
        have gb3 : (hc.put b (.cells [.int .i64 nd.kind, .int .i64 nd.mode, .str nd.data, .int .i64 1] true)).get b = some (.cells [.int .i64 nd.kind, .int .i64 nd.mode, .str nd.data, .int .i64 1] true) := AHeap.get_put_self _ _ _
        refine ⟨_, ?_, xc.put bn0 gb2 (.cells [.int .i64 nd.kind, .int .i64 nd.mode, .str nd.data, .int .i64 1] true)⟩
        unfold F49_b5
        simp only [nilp, valK_s, fa86_2, ah.rr.l_e', ah.rr.n_e, abin_lss, ltF hlt, boolK_f, abin_eql, decide_eq_true hk1, boolK_t, fa3, st3, hpK_s, (ino_ld gc2).1, st4, unmark_nil, (ino_ld gb3).1, nodeV, q1, inoV, hl1, Option.isSome_some]
      · have hl1 := (a.st.inv.links k nd q1 hk1).1
        have st4 := ino_st gb nd.kind nd.mode ((cntE E k : Nat) : Int) nd.data
        have gb3 : (hh.put b (.cells [.int .i64 nd.kind, .int .i64 nd.mode, .str nd.data, .int .i64 ((cntE E k : Nat) : Int)] true)).get b = some (.cells [.int .i64 nd.kind, .int .i64 nd.mode, .str nd.data, .int .i64 ((cntE E k : Nat) : Int)] true) := AHeap.get_put_self _ _ _
        refine ⟨_, ?_, xh.put bn0 gb (.cells [.int .i64 nd.kind, .int .i64 nd.mode, .str nd.data, .int .i64 ((cntE E k : Nat) : Int)] true)⟩
        unfold F49_b5
        simp only [nilp, valK_s, fa86_2, ah.rr.l_e', ah.rr.n_e, abin_lss, ltF hlt, boolK_f, abin_eql, decide_eq_false hk1, (ino_ld gc).1, st4, hpK_s, unmark_nil, (ino_ld gb3).1, nodeV, q1, inoV, hl1, Option.isSome_some]

/-- What the list counts up to. -/
def numR (l : List RI) : Nat := l.countP fun x => decide (0 < x.kind)
def lenR (l : List RI) : Nat := (l.map fun x => x.data.length).sum

theorem RM.used (a : RM h0 h r lv ev tb E n) : tb.ui = numR (listR tb) ∧ tb.ub = lenR (listR tb) := by
  have hK : Keys tb.nodes (((List.range tb.last.toNat).map fun (i : Nat) => (i : Int) + 1).filter fun k => (tb.nodes k).isSome) := by
    refine ⟨List.Pairwise.filter _ ?_, fun k => ?_⟩
    · rw [List.pairwise_map]
      exact (List.nodup_iff_pairwise_ne.1 List.nodup_range).imp fun h1 h2 => h1 (by omega)
    · simp only [List.mem_filter, List.mem_map, List.mem_range, and_iff_right_iff_imp]
      intro hs
      obtain ⟨nd, hnd⟩ := Option.isSome_iff_exists.1 hs
      have := a.st.inv.range k nd hnd
      exact ⟨(k - 1).toNat, by omega, by omega⟩
  obtain ⟨u1, u2⟩ := a.st.uses.any hK
  have e1 : ∀ (l : List Nat), ((l.map fun (i : Nat) => (i : Int) + 1).filter fun k => (tb.nodes k).isSome).length = numR (l.map fun (i : Nat) => riOf tb.nodes ((i : Int) + 1)) ∧
      sumT tb.nodes ((l.map fun (i : Nat) => (i : Int) + 1).filter fun k => (tb.nodes k).isSome) = lenR (l.map fun (i : Nat) => riOf tb.nodes ((i : Int) + 1)) := fun l => by
    induction l with
    | nil => exact ⟨rfl, rfl⟩
    | cons i l ih =>
      simp only [numR, lenR, sumT] at ih
      simp only [numR, lenR, sumT, List.map_cons, List.filter_cons, List.countP_cons, List.sum_cons]
      cases hn : tb.nodes ((i : Int) + 1) with
      | none =>
        have h1 : riOf tb.nodes ((i : Int) + 1) = ⟨0, 0, []⟩ := by simp only [riOf, hn]
        rw [h1]
        simp only [Option.isSome_none, Bool.false_eq_true, if_false, Int.lt_irrefl, decide_false, Nat.add_zero, List.length_nil, Nat.zero_add]
        exact ih
      | some nd =>
        have h1 : riOf tb.nodes ((i : Int) + 1) = ⟨nd.kind, nd.mode, nd.data⟩ := by simp only [riOf, hn]
        have h2 := (a.st.inv.kind _ nd hn).1
        rw [h1]
        simp only [Option.isSome_some, if_true, List.length_cons, List.map_cons, List.sum_cons, lenT, hn, decide_eq_true (show 0 < nd.kind by omega)]
        exact ⟨by rw [ih.1], by rw [ih.2]⟩
  rw [u1, u2]
  obtain ⟨e2, e3⟩ := e1 (List.range tb.last.toNat)
  exact ⟨by rw [e2]; rfl, by rw [e3]; rfl⟩

theorem RM.used_run (a : RM h0 h r lv ev tb E n) : ∃ h', EG (.fn 53) [.ptr r 0] h = some (.agg [.int .i64 tb.ui, .int .i64 tb.ub], h') ∧ Ext h h' := by
  obtain ⟨N, hN⟩ := fuel 102
  suffices ∃ h', F53 EG N (.ptr r 0) h = some (.agg [.int .i64 tb.ui, .int .i64 tb.ub], h') ∧ Ext h h' by
    obtain ⟨h', q1, q2⟩ := this
    exact ⟨h', run53 N q1, q2⟩
  have hlast := a.last
  have hll := a.lenL
  obtain ⟨u1, u2⟩ := a.used
  have x1 : Ext h (h.add (.cells [.int .i64 0, .int .i64 0] true)) := (Ext.refl a.wf).add _
  have g1 : (h.add (.cells [.int .i64 0, .int .i64 0] true)).get h.next = some (.cells [.int .i64 0, .int .i64 0] true) := AHeap.get_add_self _ _
  have n0 : newCells h [.int .i64 0, .int .i64 0] (fun o => .ptr o 0) = some (.ptr h.next 0, h.add (.cells [.int .i64 0, .int .i64 0] true)) := rfl
  have nw := a.wf.new
  generalize h.add (.cells [.int .i64 0, .int .i64 0] true) = h1 at x1 g1 n0
  generalize h.next = b at g1 n0 nw
  obtain ⟨c, h2, h3, e2, e3, g3, y3, cnew⟩ := quo_cell x1.wf 0 0
  have hbc : b ≠ c := fun e => by rw [e, cnew] at g1; cases g1
  have b26 : abuild tab 26 [] = some (.agg [.int .i64 0, .int .i64 0]) := rfl
  have hlen : ∀ (l : List RI) i, i ≤ l.length → lenR (l.take i) ≤ lenR l := fun l => by
    induction l with
    | nil => simp [lenR]
    | cons x l ih =>
      intro i hi
      cases i with
      | zero => simp [lenR]
      | succ i =>
        have := ih i (by simpa using hi)
        simp only [lenR, List.take_succ_cons, List.map_cons, List.sum_cons] at this ⊢
        omega
  unfold F53
  simp only [n0, bothK_s, b26, valK_s, e2, e3, hpK_s]
  refine loop_rule (σ := AV × AV × AV × AV × Unit) (R := AV × AHeap) (total := (listR tb).length)
    (I := fun i st hh => i ≤ (listR tb).length ∧ st = (.ptr r 0, .ptr b 0, .ptr c 0, .int .i64 (i : Int), ()) ∧ Ext h hh ∧ hh.get c = some (.cells [.int .i64 ((numR ((listR tb).take i) : Nat) : Int), .int .i64 ((lenR ((listR tb).take i) : Nat) : Int)] true) ∧ hh.get b = some (.cells [.int .i64 0, .int .i64 0] true))
    (Q := fun o => ∃ h', o = some (.agg [.int .i64 tb.ui, .int .i64 tb.ub], h') ∧ Ext h h') ?_ N 0 _ _ ⟨by omega, rfl, x1.trans y3, g3, y3.keep _ _ g1⟩ (by omega) (by omega)
  rintro i st hh nx ⟨hi, rfl, xh, gc, gb⟩
  have ah := a.ext xh
  have cn0 : h.get c = none := x1.none cnew
  by_cases hlt : i < (listR tb).length
  · left
    have hx : (listR tb)[i]? = some (listR tb)[i] := List.getElem?_eq_getElem hlt
    generalize (listR tb)[i] = x at hx
    obtain ⟨o, p1, p2, p3, f0, f1, f2, ld⟩ := ah.rr.at_l hx
    obtain ⟨l0, l2, _⟩ := ld hh p2
    have inc := abin_inc (T := tab) (t := 3) (i := i) (by omega)
    have htk : (listR tb).take (i + 1) = (listR tb).take i ++ [x] := by rw [List.take_add_one, hx]; rfl
    have hnl : ((listR tb).take i).countP (fun x => decide (0 < x.kind)) ≤ ((listR tb).take i).length := List.countP_le_length
    have hsm := a.st.small.ub
    have hb1 := hlen (listR tb) (i + 1) (by omega)
    have hln : lenR ((listR tb).take (i + 1)) = lenR ((listR tb).take i) + x.data.length := by
      rw [htk]; simp only [lenR, List.map_append, List.sum_append, List.map_cons, List.map_nil, List.sum_cons, List.sum_nil, Nat.add_zero]
    by_cases hk : 0 < x.kind
    · have hnn : numR ((listR tb).take (i + 1)) = numR ((listR tb).take i) + 1 := by
        rw [htk]; simp only [numR, List.countP_append, List.countP_cons, List.countP_nil, decide_eq_true hk]; rfl
      have add := abin_inc (T := tab) (t := 3) (i := numR ((listR tb).take i)) (by
        have : ((listR tb).take i).length ≤ (listR tb).length := by simp; omega
        simp only [numR]; omega)
      have add2 := abin_add (T := tab) (t := 3) (a := ((lenR ((listR tb).take i) : Nat) : Int)) (b := (x.data.length : Int)) (by omega) (by omega)
      rw [show ((lenR ((listR tb).take i) : Nat) : Int) + (x.data.length : Int) = ((lenR ((listR tb).take (i + 1)) : Nat) : Int) by omega] at add2
      have s0 := quo_st0 gc ((numR ((listR tb).take i) + 1 : Nat) : Int)
      have gc2 : (hh.put c (.cells [.int .i64 ((numR ((listR tb).take i) + 1 : Nat) : Int), .int .i64 ((lenR ((listR tb).take i) : Nat) : Int)] true)).get c = some (.cells [.int .i64 ((numR ((listR tb).take i) + 1 : Nat) : Int), .int .i64 ((lenR ((listR tb).take i) : Nat) : Int)] true) := AHeap.get_put_self _ _ _
      have gb2 : (hh.put c (.cells [.int .i64 ((numR ((listR tb).take i) + 1 : Nat) : Int), .int .i64 ((lenR ((listR tb).take i) : Nat) : Int)] true)).get b = some (.cells [.int .i64 0, .int .i64 0] true) := by rw [AHeap.get_put_ne _ _ hbc]; exact gb
      have xc := xh.put cn0 gc (.cells [.int .i64 ((numR ((listR tb).take i) + 1 : Nat) : Int), .int .i64 ((lenR ((listR tb).take i) : Nat) : Int)] true)
      generalize hh.put c (.cells [.int .i64 ((numR ((listR tb).take i) + 1 : Nat) : Int), .int .i64 ((lenR ((listR tb).take i) : Nat) : Int)] true) = hc at s0 gc2 gb2 xc
      have ac := a.ext xc
      obtain ⟨o', p1', p2', p3', f0', f1', f2', ld'⟩ := ac.rr.at_l hx
      rw [p1] at p1'
      simp only [AV.slice.injEq, and_true] at p1'
      subst p1'
      obtain ⟨_, l2', _⟩ := ld' hc p2'
      have s1 := quo_st1 gc2 ((lenR ((listR tb).take (i + 1)) : Nat) : Int)
      refine ⟨hlt, _, _, ?_, by omega, rfl, xc.put cn0 gc2 _, by rw [hnn]; exact AHeap.get_put_self _ _ _, by rw [AHeap.get_put_ne _ _ hbc]; exact gb2⟩
      unfold F53_b3
      simp only [nilp, valK_s, fa86_1, ah.rr.l_l, ah.rr.n_l, abin_lss, ltT hlt, boolK_t, p3, f0, l0, abin_gtr, decide_eq_true hk, fa26_00, fa26_01, (ld_quo gc).2.1, add, s0, hpK_s, (ld_quo gc2).2.2, ac.rr.l_l, f2, l2', alen9, add2, s1, inc]
    · have hnn : numR ((listR tb).take (i + 1)) = numR ((listR tb).take i) := by
        rw [htk]; simp only [numR, List.countP_append, List.countP_cons, List.countP_nil, decide_eq_false hk]; rfl
      have hd0 : x.data.length = 0 := by
        obtain ⟨j, hj, rfl⟩ := List.mem_map.1 (List.mem_of_getElem? hx)
        cases hn : tb.nodes ((j : Int) + 1) with
        | none => simp only [riOf, hn]; rfl
        | some nd =>
          have := (a.st.inv.kind _ nd hn).1
          simp only [riOf, hn] at hk
          omega
      refine ⟨hlt, _, hh, ?_, by omega, rfl, xh, by rw [hnn, hln, hd0]; exact gc, gb⟩
      unfold F53_b3
      simp only [nilp, valK_s, fa86_1, ah.rr.l_l, ah.rr.n_l, abin_lss, ltT hlt, boolK_t, p3, f0, l0, abin_gtr, decide_eq_false hk, boolK_f, inc]
  · right
    have hil : i = (listR tb).length := by omega
    rw [hil, List.take_length, ← u1, ← u2] at gc
    have s2 := quo_st gb tb.ui tb.ub
    have gb3 : (hh.put b (.cells [.int .i64 tb.ui, .int .i64 tb.ub] true)).get b = some (.cells [.int .i64 tb.ui, .int .i64 tb.ub] true) := AHeap.get_put_self _ _ _
    refine ⟨_, ?_, xh.put nw gb (.cells [.int .i64 tb.ui, .int .i64 tb.ub] true)⟩
    unfold F53_b3
    simp only [nilp, valK_s, fa86_1, ah.rr.l_l, ah.rr.n_l, abin_lss, ltF hlt, boolK_f, (ld_quo gc).1, s2, hpK_s, unmark_nil, (ld_quo gb3).1]

theorem RM.room_run (a : RM h0 h r lv ev tb E n) {i b : Int} (hi : 0 ≤ i ∧ i ≤ 1) (hb : -1152921504606846976 ≤ b ∧ b ≤ 1152921504606846976) :
    ∃ h', EG (.fn 70) [.ptr r 0, .int .i64 i, .int .i64 b] h = some (.bool (decide (roomE tb i b = 0)), h') ∧ Ext h h' := by
  obtain ⟨h1, e1, x1⟩ := a.used_run
  obtain ⟨c, h2, h3, e2, e3, g3, y3, _⟩ := quo_cell x1.wf tb.ui tb.ub
  have a3 := a.ext (x1.trans y3)
  refine ⟨h3, run70 0 ?_, x1.trans y3⟩
  have s1 := a.st.small.ui; have s2 := a.st.small.ub
  obtain ⟨q1, q2, q3⟩ := ld_quo g3
  unfold F70
  simp only [e1, bothK_s, e2, e3, hpK_s, fa26_00, fa26_01, valK_s, q2, q3, nilp, fa86_0, a3.rr.l_qi, a3.rr.l_qb, abin_add (show -9223372036854775808 ≤ tb.ui + i by omega) (show tb.ui + i ≤ 9223372036854775807 by omega), abin_add (show -9223372036854775808 ≤ tb.ub + b by omega) (show tb.ub + b ≤ 9223372036854775807 by omega), abin_leq]
  unfold roomE
  by_cases c1 : tb.ui + i ≤ tb.qi
  · by_cases c2 : tb.ub + b ≤ tb.qb
    · simp only [decide_eq_true c1, boolK_t, decide_eq_true c2, if_pos (And.intro c1 c2), decide_true]
    · simp only [decide_eq_true c1, boolK_t, decide_eq_false c2, if_neg (fun h : _ ∧ _ => c2 h.2)]
      rfl
  · simp only [decide_eq_false c1, boolK_f, if_neg (fun h : _ ∧ _ => c1 h.1)]
    rfl

theorem texts_same {h : AHeap} (hw : h.WF) {v w : AV} {l : List Bs} (a : SRow h v l) (b : SRow h w l) (hn : l.length < 1000000) : EG (.fn 51) [v, w] h = some (.bool true, h) := by
  obtain ⟨N, hN⟩ := fuel (l.length + 1)
  refine run51 N ?_
  unfold F51
  simp only [Row.len a ty30, Row.len b ty30, valK_s, abin_neq, decide_true, Bool.not_true, boolK_f]
  refine loop_rule (σ := AV × AV × AV × Unit) (R := AV × AHeap) (total := l.length) (I := fun i st hh => hh = h ∧ i ≤ l.length ∧ st = (v, w, .int .i64 (i : Int), ())) (Q := fun o => o = some (.bool true, h)) ?_ N 0 _ _ ⟨rfl, by omega, rfl⟩ (by omega) (by omega)
  rintro i st hh nx ⟨rfl, hi, rfl⟩
  by_cases hlt : i < l.length
  · left
    obtain ⟨p, e1, e2⟩ := a.get1 ty30 ty9 rfl rfl (i := i) (x := .str l[i]) (by rw [List.getElem?_map, List.getElem?_eq_getElem hlt]; rfl) (k := .i64)
    obtain ⟨q, e3, e4⟩ := b.get1 ty30 ty9 rfl rfl (i := i) (x := .str l[i]) (by rw [List.getElem?_map, List.getElem?_eq_getElem hlt]; rfl) (k := .i64)
    refine ⟨hlt, _, hh, ?_, rfl, by omega, rfl⟩
    unfold F51_b4
    simp only [Row.len a ty30, valK_s, abin_lss, ltT hlt, boolK_t, e1, e2, e3, e4, abin_strne, decide_true, Bool.not_true, boolK_f, abin_inc (show i < 4611686018427387904 by omega)]
  · right
    unfold F51_b4
    simp only [Row.len a ty30, valK_s, abin_lss, ltF hlt, boolK_f, unmark_nil, hpK_s]
end
end Go.Am

set_option linter.unusedVariables false
set_option linter.unusedSimpArgs false
namespace Go.Am
open Go Go.Proofs

theorem allOne_strs : ∀ (l : List Bs), allOne (l.map AV.str) = true
  | [] => rfl
  | s :: l => by
    have := allOne_strs l
    simp only [allOne, List.map_cons, List.all_cons] at this ⊢
    rw [this]; rfl

theorem insS_at {s : Bs} : ∀ {l : List Bs} {i : Nat}, i ≤ l.length → (∀ x ∈ l.take i, Op.bytesLess x s = true) → (∀ x, l[i]? = some x → Op.bytesLess x s = false) → insS s l = l.take i ++ s :: l.drop i
  | [], i, hi, _, _ => by
    obtain rfl : i = 0 := by simpa using hi
    rfl
  | t :: l, 0, _, _, h => by
    have := h t rfl
    simp only [insS, this]; rfl
  | t :: l, i + 1, hi, h1, h2 => by
    have h3 := h1 t (by simp)
    simp only [insS, h3]
    rw [insS_at (by simpa using hi) (fun x hx => h1 x (by simp [hx])) (fun x hx => h2 x (by simpa using hx))]
    simp

theorem slice_to {h : AHeap} {v : AV} {n : Nat} {vs : List AV} (a : Row h v n 1 vs) {hi : Nat} (h2 : hi ≤ n) : ∃ v', aslice tab 30 v none (some (.int .i64 (hi : Int))) = some v' ∧ Row h v' hi 1 (vs.take hi) := by
  obtain ⟨v', e1, e2⟩ := a.sub ty30 ty9 rfl (lo := 0) (hi := hi) (by omega) h2 (k1 := .i64) (k2 := .i64)
  exact ⟨v', by rw [aslice_lo]; exact e1, by simpa using e2⟩
theorem slice_from {h : AHeap} {v : AV} {n : Nat} {vs : List AV} (a : Row h v n 1 vs) {lo : Nat} (h2 : lo ≤ n) : ∃ v', aslice tab 30 v (some (.int .i64 (lo : Int))) none = some v' ∧ Row h v' (n - lo) 1 (vs.drop lo) := by
  obtain ⟨v', e1, e2⟩ := a.sub ty30 ty9 rfl (lo := lo) (hi := n) h2 (by omega) (k1 := .i64) (k2 := .i64)
  have hl := a.1
  refine ⟨v', by rw [aslice_hi a]; exact e1, ?_⟩
  have : (vs.drop (lo * 1)).take ((n - lo) * 1) = vs.drop lo := by
    rw [Nat.mul_one, Nat.mul_one, List.take_of_length_le (by simp; omega)]
  rwa [this] at e2

theorem mem_namesT {tb : Tb} {E : List Ed} (a : Inv tb E) {k : Int} {x : Bs} : x ∈ namesT tb k ↔ ∃ e ∈ E, e.dir = k ∧ e.name = x := by
  cases hn : tb.nodes k with
  | none =>
    simp only [namesT, hn, List.not_mem_nil, false_iff, not_exists, not_and]
    intro e he hd
    obtain ⟨dn, q, _⟩ := a.dir e he
    rw [hd, hn] at q; cases q
  | some nd =>
    simp only [namesT, hn, mem_sortS1, a.ents k nd hn, entsE, List.map_map, List.mem_map, List.mem_filter, decide_eq_true_eq, Function.comp]
    constructor
    · rintro ⟨e, ⟨h1, h2⟩, h3⟩; exact ⟨e, h1, h2, h3⟩
    · rintro ⟨e, h1, h2, h3⟩; exact ⟨e, ⟨h1, h2⟩, h3⟩

section
variable {h0 h : AHeap} {r : Nat} {lv ev : AV} {tb : Tb} {E : List Ed} {n : Nat}

theorem RM.names_run (a : RM h0 h r lv ev tb E n) (k : Int) : ∃ v h', EG (.fn 52) [.ptr r 0, .int .i64 k] h = some (v, h') ∧ SRow h' v (namesT tb k) ∧ Ext h h' := by
  obtain ⟨N, hN⟩ := fuel 102
  suffices ∃ v h', F52 EG N (.ptr r 0) (.int .i64 k) h = some (v, h') ∧ SRow h' v (namesT tb k) ∧ Ext h h' by
    obtain ⟨v, h', q1, q2⟩ := this
    exact ⟨v, h', run52 N q1, q2⟩
  have hEl := a.lenE
  unfold F52
  refine loop_rule (σ := AV × AV × AV × AV × Unit) (R := AV × AHeap) (total := E.length)
    (I := fun i st hh => i ≤ E.length ∧ ∃ out : AV, ∃ l : List Bs, st = (.ptr r 0, .int .i64 k, out, .int .i64 (i : Int), ()) ∧ Ext h hh ∧ SRow hh out l ∧ Rising l ∧ (∀ x, x ∈ l ↔ ∃ e ∈ E.take i, e.dir = k ∧ e.name = x) ∧ l.length ≤ i)
    (Q := fun o => ∃ v h', o = some (v, h') ∧ SRow h' v (namesT tb k) ∧ Ext h h') ?_ N 0 _ _ ⟨by omega, .nilslice, [], rfl, Ext.refl a.wf, ⟨rfl, .inl ⟨rfl, rfl⟩⟩, List.Pairwise.nil, by simp, Nat.le_refl _⟩ (by omega) (by omega)
  rintro i st hh nx ⟨hi, out, l, rfl, xh, row, ris, mem, hl⟩
  have ah := a.ext xh
  by_cases hlt : i < E.length
  · left
    refine ⟨hlt, ?_⟩
    have he : E[i]? = some E[i] := List.getElem?_eq_getElem hlt
    obtain ⟨p, p0, p1, p2, r0, f0, f1, f2, ld⟩ := ah.rr.at_e he
    obtain ⟨l0, l1, l2⟩ := ld hh (Ext.refl ah.wf)
    have inc := abin_inc (T := tab) (t := 3) (i := i) (by omega)
    have htk : E.take (i + 1) = E.take i ++ [E[i]] := List.take_succ_eq_append_getElem hlt
    by_cases h1 : E[i].dir = k
    · -- its place
      have hno : E[i].name ∉ l := fun hm => by
        obtain ⟨e, q1, q2, q3⟩ := (mem _).1 hm
        obtain ⟨j, hj, hje⟩ := List.mem_take_iff_getElem.1 q1
        have hjl : j < E.length := by omega
        have := List.pairwise_iff_getElem.1 a.st.inv.one j i hjl hlt (by omega)
        rw [hje] at this
        exact this ⟨q2.trans h1.symm, q3⟩
      have mem' : ∀ x, x ∈ insS E[i].name l ↔ ∃ e ∈ E.take (i + 1), e.dir = k ∧ e.name = x := fun x => by
        rw [mem_insS1, mem, htk]
        constructor
        · rintro (rfl | ⟨e, q1, q2⟩)
          · exact ⟨E[i], List.mem_append_right _ (List.mem_singleton.2 rfl), h1, rfl⟩
          · exact ⟨e, List.mem_append_left _ q1, q2⟩
        · rintro ⟨e, q1, q2, q3⟩
          rcases List.mem_append.1 q1 with q1 | q1
          · exact .inr ⟨e, q1, q2, q3⟩
          · rw [List.mem_singleton.1 q1] at q3; exact .inl q3.symm
      have ris' := insS_rising ris hno
      have llen := insS_length E[i].name l
      obtain ⟨QQ, hQ⟩ : ∃ QQ : Option (AV × AHeap) → Prop, QQ = fun o => ∃ s' h', o = nx s' [] h' ∧ (i + 1 ≤ E.length ∧ ∃ out : AV, ∃ l : List Bs, s' = (.ptr r 0, .int .i64 k, out, .int .i64 ((i + 1 : Nat) : Int), ()) ∧ Ext h h' ∧ SRow h' out l ∧ Rising l ∧ (∀ x, x ∈ l ↔ ∃ e ∈ E.take (i + 1), e.dir = k ∧ e.name = x) ∧ l.length ≤ i + 1) := ⟨_, rfl⟩
      have fin : ∀ {h' : AHeap} {out' : AV}, Ext h h' → SRow h' out' (insS E[i].name l) → QQ (nx (.ptr r 0, .int .i64 k, out', .int .i64 ((i + 1 : Nat) : Int), ()) [] h') := fun {h' out'} x' row' => by
        rw [hQ]
        exact ⟨_, h', rfl, by omega, out', _, rfl, x', row', ris', mem', by omega⟩
      have key : QQ (F52_b3 EG N (.ptr r 0, .int .i64 k, out, .int .i64 (i : Int), ()) [] hh nx) := by
        unfold F52_b3
        simp only [jn_a, nilp, valK_s, fa86_2, ah.rr.l_e', ah.rr.n_e, abin_lss, ltT hlt, boolK_t, r0, f0, l0, abin_neq, decide_eq_true h1, Bool.not_true, boolK_f]
        refine loop_rule (σ := AV × AV × AV × AV × AV × Unit) (R := AV × AHeap) (total := l.length)
          (I := fun j st h' => h' = hh ∧ j ≤ l.length ∧ st = (.ptr r 0, .int .i64 k, out, .int .i64 (i : Int), .int .i64 (j : Int), ()) ∧ ∀ x ∈ l.take j, Op.bytesLess x E[i].name = true)
          (Q := QQ) ?_ N 0 _ _ ⟨rfl, by omega, rfl, by simp⟩ (by omega) (by omega)
        rintro j st h' nx' ⟨rfl, hj, rfl, hall⟩
        -- what makes the new list
        have make : (∀ x, l[j]? = some x → Op.bytesLess x E[i].name = false) → QQ (
            valK (aslice tab 30 out none (some (.int .i64 (j : Int)))) fun x18 =>
            bothK (aappend tab h' 30 30 (.nilslice) x18) fun x19 h20 =>
            valK (loadA tab h20 84 (.ptr r 3)) fun x23 =>
            valK (aindexAddr tab 84 x23 (.int .i64 (i : Int))) fun x24 =>
            valK (afieldAddr tab 98 x24 1) fun x25 =>
            valK (loadA tab h20 9 x25) fun x26 =>
            bothK (abuildSlice tab h20 30 1 [(0, x26)]) fun x27 h28 =>
            bothK (aappend tab h28 30 30 x19 x27) fun x29 h30 =>
            valK (aslice tab 30 out (some (.int .i64 (j : Int))) none) fun x31 =>
            bothK (aappend tab h30 30 30 x29 x31) fun x32 h33 =>
            nx (.ptr r 0, .int .i64 k, x32, .int .i64 ((i + 1 : Nat) : Int), ()) [] h33) := fun hge => by
          have ins := insS_at (l := l) (i := j) hj hall hge
          obtain ⟨x18, a1, a2⟩ := slice_to row hj
          obtain ⟨x19, h20, b1, b2, k20, _, _⟩ := appendRow ty30 ty9 rfl (by decide) (by decide) (own_nil h' h' 1) a2 ah.wf (fun j hj => hj) (by rw [← List.map_take]; exact allOne_strs _) (by omega)
          have x20 := k20.ext (Ext.refl ah.wf)
          rw [List.nil_append, Nat.zero_add] at b2
          have a20 := ah.ext x20
          obtain ⟨l0', l1', l2'⟩ := ld h20 x20
          obtain ⟨y, h28, x29, h30, c1, c2, c3, x30⟩ := push1 (x := .str E[i].name) ty30 ty9 rfl rfl (by decide) b2 x20 rfl (by omega)
          obtain ⟨x31, d1, d2⟩ := slice_from (row.ext x30) hj
          obtain ⟨x32, h33, e1, e2, k33, _, _⟩ := appendRow ty30 ty9 rfl (by decide) (by decide) c3 d2 x30.wf (fun j hj => by
            cases e1 : h'.get j with
            | none => exact absurd e1 hj
            | some y => rw [x30.keep _ _ e1]; simp) (by rw [← List.map_drop]; exact allOne_strs _) (by omega)
          simp only [a1, valK_s, b1, bothK_s, a20.rr.l_e', r0, f1, l1', c1, c2, d1, e1]
          refine fin (xh.trans (k33.ext x30)) ?_
          have hlen2 : (insS E[i].name l).length = j + 1 + (l.length - j) := by omega
          show Row h33 x32 (insS E[i].name l).length 1 ((insS E[i].name l).map .str)
          rw [hlen2, ins]
          have : (l.take j ++ E[i].name :: l.drop j).map AV.str = (l.map AV.str).take j ++ [.str E[i].name] ++ (l.map AV.str).drop j := by simp
          rw [this]
          exact e2.row
        have inj := abin_inc (T := tab) (t := 3) (i := j) (by omega)
        by_cases hjl : j < l.length
        · obtain ⟨q, g1, g2⟩ := row.get1 ty30 ty9 rfl rfl (i := j) (x := .str l[j]) (by rw [List.getElem?_map, List.getElem?_eq_getElem hjl]; rfl) (k := .i64)
          cases hb : Op.bytesLess l[j] E[i].name with
          | true =>
            left
            refine ⟨hjl, _, h', ?_, rfl, by omega, rfl, fun x hx => ?_⟩
            · unfold F52_b7
              simp only [Row.len row ty30, valK_s, abin_lss, ltT hjl, boolK_t, g1, g2, nilp, fa86_2, ah.rr.l_e', r0, f1, l1, abin_strlt, hb, inj]
            · rw [List.take_succ_eq_append_getElem hjl, List.mem_append, List.mem_singleton] at hx
              rcases hx with hx | rfl
              · exact hall x hx
              · exact hb
          | false =>
            right
            have := make fun x hx => by rw [List.getElem?_eq_getElem hjl] at hx; cases hx; exact hb
            unfold F52_b7
            simp only [Row.len row ty30, valK_s, abin_lss, ltT hjl, boolK_t, g1, g2, nilp, fa86_2, ah.rr.l_e', r0, f1, l1, abin_strlt, hb, boolK_f, inc]
            exact this
        · right
          have := make fun x hx => by rw [List.getElem?_eq_none (by omega)] at hx; cases hx
          unfold F52_b7
          simp only [Row.len row ty30, valK_s, abin_lss, ltF hjl, boolK_f, nilp, fa86_2, inc]
          exact this
      rw [hQ] at key
      exact key
    · refine ⟨_, hh, ?_, by omega, out, l, rfl, xh, row, ris, fun x => ?_, by omega⟩
      · unfold F52_b3
        simp only [jn_a, nilp, valK_s, fa86_2, ah.rr.l_e', ah.rr.n_e, abin_lss, ltT hlt, boolK_t, r0, f0, l0, abin_neq, decide_eq_false h1, Bool.not_false, inc]
      · rw [mem, htk]
        constructor
        · rintro ⟨e, q1, q2⟩; exact ⟨e, List.mem_append_left _ q1, q2⟩
        · rintro ⟨e, q1, q2, q3⟩
          rcases List.mem_append.1 q1 with q1 | q1
          · exact ⟨e, q1, q2, q3⟩
          · rw [List.mem_singleton.1 q1] at q2; exact absurd q2 h1
  · right
    have hil : i = E.length := by omega
    rw [hil, List.take_length] at mem
    have hnm : l = namesT tb k := rising_ext ris (rising_names a.st.inv k) fun x => by rw [mem, mem_namesT a.st.inv]
    refine ⟨out, hh, ?_, by rw [← hnm]; exact row, xh⟩
    unfold F52_b3
    simp only [jn_a, nilp, valK_s, fa86_2, ah.rr.l_e', ah.rr.n_e, abin_lss, ltF hlt, boolK_f, unmark_nil, hpK_s]
end
end Go.Am

set_option linter.unusedVariables false
set_option linter.unusedSimpArgs false
namespace Go.Am
open Go Go.Proofs

section
variable {h0 h : AHeap} {r : Nat} {lv ev : AV} {qi qb : Int} {LL : List RI} {E : List Ed}

theorem dom_of (hx : Ext h0 h) : ∀ j, h0.get j ≠ none → h.get j ≠ none := fun j hj => by
  cases e : h0.get j with
  | none => exact absurd e hj
  | some y => rw [hx.keep _ _ e]; simp

theorem allOne_flatE : ∀ (l : List Ed), allOne (flatE l) = true
  | [] => rfl
  | e :: l => by
    rw [flatE, List.flatMap_cons]
    exact allOne_append rfl (allOne_flatE l)

theorem flatE_add (l : List Ed) (e : Ed) : flatE (l ++ [e]) = flatE l ++ cellsE e := by simp [flatE]
theorem flatL_add (l : List RI) (x : RI) : flatL (l ++ [x]) = flatL l ++ cellsI x := by simp [flatL]

/-- Another list of entries, made new. -/
theorem RR.newE (a : RR h0 h r lv ev qi qb LL E) {h2 : AHeap} {ev' : AV} {E' : List Ed} (o : Own h0 h2 ev' E'.length 3 (flatE E')) (hw : h2.WF) (k : ∀ j y, h.get j = some y → (∀ n e, ev ≠ .slice j 0 n e) → h2.get j = some y) (f : ∀ j, h.get j ≠ none → ∀ n e, ev' ≠ .slice j 0 n e) :
    ∃ h3, storeA tab h2 84 (.ptr r 3) ev' = some h3 ∧ RR h0 h3 r lv ev' qi qb LL E' ∧ Step (refS r lv ev) h (refS r lv ev') h3 := by
  have top2 := k r _ a.top a.r_e
  have hone : ev'.one = true := by rcases o.2 with ⟨q, _⟩ | ⟨x, q, _⟩ <;> rw [q] <;> rfl
  have hcs : ev'.cells = [ev'] := by rcases o.2 with ⟨q, _⟩ | ⟨x, q, _⟩ <;> rw [q] <;> rfl
  have hne : ∀ n e, ev' ≠ .slice r 0 n e := f r (by rw [a.top]; simp)
  have hst : storeA tab h2 84 (.ptr r 3) ev' = some (h2.put r (.cells [.int .i64 qi, .int .i64 qb, lv, ev'] true)) := by
    simp only [storeA, astore, top2, ty84, hcs]
    simp [allOne, hone, splice, ble_dec]
  have oth : ∀ {j y}, j ≠ r → h2.get j = some y → (h2.put r (.cells [.int .i64 qi, .int .i64 qb, lv, ev'] true)).get j = some y := fun hj hy => by rw [AHeap.get_put_ne _ _ hj]; exact hy
  refine ⟨_, hst, ?_, ?_⟩
  · exact {
      top := AHeap.get_put_self _ _ _
      lown := a.lown.kept fun j y ⟨n, e, hj⟩ hy => oth (fun e1 => a.r_l n e (by rw [← e1]; exact hj)) (k j y hy fun n' e' => a.l_e j n e n' e' hj)
      eown := o.kept fun j y ⟨n, e, hj⟩ hy => oth (fun e1 => hne n e (by rw [← e1]; exact hj)) hy
      rnew := a.rnew
      r_l := a.r_l
      r_e := hne
      l_e := fun j n e n' e' hj => f j (a.there (.inr (.inl ⟨n, e, hj⟩))).1 n' e' }
  · refine ⟨fun j hj => ?_, fun j y hy hn => oth (fun e1 => hn (.inl e1)) (k j y hy fun n e he => hn (.inr (.inr ⟨n, e, he⟩))), hw.put top2 _⟩
    rcases hj with hj | hj | ⟨n, e, hj⟩
    · exact .inl (.inl hj)
    · exact .inl (.inr (.inl hj))
    · right
      cases hg : h.get j with
      | none => rfl
      | some y => exact absurd hj (f j (by rw [hg]; simp) n e)

theorem RR.pushE (a : RR h0 h r lv ev qi qb LL E) (hx : Ext h0 h) (hn : E.length < 1000000) (e : Ed) :
    ∃ y h1 ev' h2 h3, abuildSlice tab h 84 1 [(0, .agg (cellsE e))] = some (y, h1) ∧ aappend tab h1 84 84 ev y = some (ev', h2) ∧ storeA tab h2 84 (.ptr r 3) ev' = some h3 ∧ RR h0 h3 r lv ev' qi qb LL (E ++ [e]) ∧ Step (refS r lv ev) h (refS r lv ev') h3 := by
  obtain ⟨ty, t1, t2, t3, t4, t5⟩ := ty98x
  obtain ⟨y, h1, ev', h2, q1, q2, q3, q4, q5, q6⟩ := pushK (T := tab) (h0 := h0) (x := .agg (cellsE e)) (esz := 3) ty84 t1 t2 t4 t5 (by decide) (by decide) a.eown hx.wf (dom_of hx) rfl rfl rfl (by omega)
  have o : Own h0 h2 ev' (E ++ [e]).length 3 (flatE (E ++ [e])) := by
    rw [flatE_add, List.length_append]; exact q3
  obtain ⟨h3, s1, s2, s3⟩ := a.newE o q4.wf q5 q6
  exact ⟨y, h1, ev', h2, h3, q1, q2, s1, s2, s3⟩

theorem RR.pushL (a : RR h0 h r lv ev qi qb LL E) (hx : Ext h0 h) (hn : LL.length < 1000000) (x : RI) :
    ∃ y h1 lv' h2 h3, abuildSlice tab h 83 1 [(0, .agg (cellsI x))] = some (y, h1) ∧ aappend tab h1 83 83 lv y = some (lv', h2) ∧ storeA tab h2 83 (.ptr r 2) lv' = some h3 ∧ RR h0 h3 r lv' ev qi qb (LL ++ [x]) E ∧ Step (refS r lv ev) h (refS r lv' ev) h3 := by
  obtain ⟨ty, t1, t2, t3, t4, t5⟩ := ty35x
  obtain ⟨y, h1, lv', h2, q1, q2, q3, q4, k, f⟩ := pushK (T := tab) (h0 := h0) (x := .agg (cellsI x)) (esz := 4) ty83 t1 t2 t4 t5 (by decide) (by decide) a.lown hx.wf (dom_of hx) rfl rfl rfl (by omega)
  have o : Own h0 h2 lv' (LL ++ [x]).length 4 (flatL (LL ++ [x])) := by
    rw [flatL_add, List.length_append]; exact q3
  have top2 := k r _ a.top a.r_l
  have hone : lv'.one = true := by rcases o.2 with ⟨q, _⟩ | ⟨x, q, _⟩ <;> rw [q] <;> rfl
  have hcs : lv'.cells = [lv'] := by rcases o.2 with ⟨q, _⟩ | ⟨x, q, _⟩ <;> rw [q] <;> rfl
  have hne : ∀ n e, lv' ≠ .slice r 0 n e := f r (by rw [a.top]; simp)
  have hst : storeA tab h2 83 (.ptr r 2) lv' = some (h2.put r (.cells [.int .i64 qi, .int .i64 qb, lv', ev] true)) := by
    simp only [storeA, astore, top2, ty83, hcs]
    simp [allOne, hone, splice, ble_dec]
  have oth : ∀ {j y}, j ≠ r → h2.get j = some y → (h2.put r (.cells [.int .i64 qi, .int .i64 qb, lv', ev] true)).get j = some y := fun hj hy => by rw [AHeap.get_put_ne _ _ hj]; exact hy
  refine ⟨y, h1, lv', h2, _, q1, q2, hst, ?_, ?_⟩
  · exact {
      top := AHeap.get_put_self _ _ _
      lown := o.kept fun j y ⟨n, e, hj⟩ hy => oth (fun e1 => hne n e (by rw [← e1]; exact hj)) hy
      eown := a.eown.kept fun j y ⟨n, e, hj⟩ hy => oth (fun e1 => a.r_e n e (by rw [← e1]; exact hj)) (k j y hy fun n' e' hl => a.l_e j n' e' n e hl hj)
      rnew := a.rnew
      r_l := hne
      r_e := a.r_e
      l_e := fun j n e n' e' hj he => f j (a.there (.inr (.inr ⟨n', e', he⟩))).1 n e hj }
  · refine ⟨fun j hj => ?_, fun j y hy hn => oth (fun e1 => hn (.inl e1)) (k j y hy fun n e he => hn (.inr (.inl ⟨n, e, he⟩))), q4.wf.put top2 _⟩
    rcases hj with hj | ⟨n, e, hj⟩ | hj
    · exact .inl (.inl hj)
    · right
      cases hg : h.get j with
      | none => rfl
      | some y => exact absurd hj (f j (by rw [hg]; simp) n e)
    · exact .inl (.inr (.inr hj))

/-- Something is put over an inode. -/
theorem RR.setL (a : RR h0 h r lv ev qi qb LL E) (hw : h.WF) {o : Nat} (hl : lv = .slice o 0 LL.length 4) (g : h.get o = some (.cells (flatL LL) true)) {i : Nat} {x : RI} (hx : LL[i]? = some x) (x' : RI) :
    RR h0 (h.put o (.cells (flatL (LL.set i x')) true)) r lv ev qi qb (LL.set i x') E ∧ Step (refS r lv ev) h (refS r lv ev) (h.put o (.cells (flatL (LL.set i x')) true)) := by
  have hor : r ≠ o := fun e => a.r_l _ _ (by rw [e]; exact hl)
  have hs : refS r lv ev o := .inr (.inl ⟨_, _, hl⟩)
  refine ⟨{
    top := by rw [AHeap.get_put_ne _ _ hor]; exact a.top
    lown := ⟨by rw [flatL_len], .inr ⟨o, by rw [hl, List.length_set], AHeap.get_put_self _ _ _, (a.there hs).2⟩⟩
    eown := a.eown.kept fun j y ⟨n, e, hj⟩ hy => by rw [AHeap.get_put_ne _ _ (fun e1 => a.l_e o _ _ n e hl (by rw [← e1]; exact hj))]; exact hy
    rnew := a.rnew
    r_l := a.r_l
    r_e := a.r_e
    l_e := a.l_e }, fun j hj => .inl hj, fun j y hy hn => by rw [AHeap.get_put_ne _ _ (fun e : j = o => hn (by rw [e]; exact hs))]; exact hy, hw.put g _⟩

/-- 't.drop(i)'. -/
theorem RR.drop_run (a : RR h0 h r lv ev qi qb LL E) (hx : Ext h0 h) (hn : E.length < 1000000) {i : Nat} (hi : i < E.length) :
    ∃ ev' h', EG (.fn 73) [.ptr r 0, .int .i64 (i : Int)] h = some (.tuple [], h') ∧ RR h0 h' r lv ev' qi qb LL (E.eraseIdx i) ∧ Step (refS r lv ev) h (refS r lv ev') h' := by
  obtain ⟨ty, t1, t2, t3, t4, t5⟩ := ty98x
  have rowE := a.eown.row
  have hlE := flatE_len E
  obtain ⟨s3, c1, c2⟩ := rowE.sub ty84 t1 t2 (lo := 0) (hi := i) (by omega) (by omega) (k1 := .i64) (k2 := .i64)
  have c1' : aslice tab 84 ev none (some (.int .i64 (i : Int))) = some s3 := by
    rw [← c1]
    rcases rowE.2 with ⟨q, _⟩ | ⟨q, _⟩ | ⟨o, off, ws, rw', q, _⟩ <;> rw [q] <;> rfl
  have hal : ∀ {l : List AV}, (∀ x ∈ l, x ∈ flatE E) → allOne l = true := fun {l} hm => by
    rw [allOne_iff]
    exact fun x hx => allOne_iff.1 (allOne_flatE E) x (hm x hx)
  obtain ⟨x4, h5, d1, d2, k5, kk5, f5⟩ := appendRow ty84 t1 t2 t5 (by decide) (own_nil h0 h 3) c2 hx.wf (dom_of hx) (hal fun x hx => List.mem_of_mem_drop (List.mem_of_mem_take hx)) (by omega)
  rw [List.nil_append, Nat.zero_add, Nat.zero_mul, List.drop_zero] at d2
  have xx5 : Ext h0 h5 := k5.ext hx
  have keep5 : ∀ j y, h.get j = some y → h5.get j = some y := fun j y hy => kk5 j y hy fun n e he => by cases he
  have a5 : RR h0 h5 r lv ev qi qb LL E := a.kept fun j y _ hy => keep5 j y hy
  have rowE5 := a5.eown.row
  obtain ⟨s10, e1, e2⟩ := rowE5.sub ty84 t1 t2 (lo := i + 1) (hi := E.length) (by omega) (by omega) (k1 := .i64) (k2 := .i64)
  have e1' : aslice tab 84 ev (some (.int .i64 ((i + 1 : Nat) : Int))) none = some s10 := by
    rw [← e1]
    rcases rowE5.2 with ⟨q, _⟩ | ⟨q, _⟩ | ⟨o, off, ws, rw', q, _⟩
    · rcases a.eown.2 with ⟨_, q2⟩ | ⟨o, q2, _⟩
      · omega
      · rw [q] at q2; cases q2
    · rcases a.eown.2 with ⟨_, q2⟩ | ⟨o, q2, _⟩
      · omega
      · rw [q] at q2; cases q2
    · rw [q]
      simp only [aslice, ty84, t1]
      have : upTo (some (AV.int .i64 (E.length : Int))) E.length E.length = some E.length := by
        show (bif Nat.ble E.length E.length then some E.length else none) = _
        rw [Nat.ble_eq_true_of_le (Nat.le_refl _)]; rfl
      rw [this]; rfl
  obtain ⟨x11, h12, g1, g2, k12, kk12, f12⟩ := appendRow ty84 t1 t2 t5 (by decide) d2 e2 xx5.wf (dom_of xx5) (hal fun x hx => List.mem_of_mem_drop (List.mem_of_mem_take hx)) (by omega)
  have hlen : (E.eraseIdx i).length = i + (E.length - (i + 1)) := by rw [List.length_eraseIdx]; simp [hi]; omega
  have hfl : flatE (E.eraseIdx i) = (flatE E).take ((i - 0) * 3) ++ ((flatE E).drop ((i + 1) * 3)).take ((E.length - (i + 1)) * 3) := by
    have h1 : (flatE E).take (i * 3) = flatE (E.take i) := by
      have hE : flatE E = flatE (E.take i) ++ flatE (E.drop i) := by
        rw [flatE, flatE, flatE, ← List.flatMap_append, List.take_append_drop]
      rw [hE, List.take_append_of_le_length (by rw [flatE_len, List.length_take]; omega), List.take_of_length_le (by rw [flatE_len, List.length_take]; omega)]
    have h2 : (flatE E).drop ((i + 1) * 3) = flatE (E.drop (i + 1)) := by
      have hE : flatE E = flatE (E.take (i + 1)) ++ flatE (E.drop (i + 1)) := by
        rw [flatE, flatE, flatE, ← List.flatMap_append, List.take_append_drop]
      have hl2 : (flatE (E.take (i + 1))).length = (i + 1) * 3 := by rw [flatE_len, List.length_take]; omega
      rw [hE, ← hl2, List.drop_left]
    have h3 : (flatE (E.drop (i + 1))).take ((E.length - (i + 1)) * 3) = flatE (E.drop (i + 1)) := List.take_of_length_le (by rw [flatE_len, List.length_drop]; omega)
    rw [Nat.sub_zero, h1, h2, h3, List.eraseIdx_eq_take_drop_succ]
    simp only [flatE, List.flatMap_append]
  have o : Own h0 h12 x11 (E.eraseIdx i).length 3 (flatE (E.eraseIdx i)) := by
    rw [hlen, hfl]; exact g2
  have keep12 : ∀ j y, h.get j = some y → (∀ n e, ev ≠ .slice j 0 n e) → h12.get j = some y := fun j y hy _ => by
    refine kk12 j y (keep5 j y hy) fun n e he => ?_
    rcases f5 with ⟨q1, q2, _⟩ | q
    · rw [q2] at he; cases he
    · exact q j (by rw [hy]; simp) n e he
  have fresh12 : ∀ j, h.get j ≠ none → ∀ n e, x11 ≠ .slice j 0 n e := fun j hj n e he => by
    have hj5 : h5.get j ≠ none := by
      cases hg : h.get j with
      | none => exact absurd hg hj
      | some y => rw [keep5 j y hg]; simp
    rcases f12 with ⟨q1, q2, _⟩ | q
    · rw [q2] at he
      rcases f5 with ⟨p1, p2, _⟩ | p
      · rw [p2] at he; cases he
      · exact p j hj n e he
    · exact q j hj5 n e he
  have a12 : RR h0 h12 r lv ev qi qb LL E ∨ True := .inr trivial
  obtain ⟨h3, s1, s2, s3'⟩ := a.newE o k12.wf keep12 fresh12
  refine ⟨x11, h3, run73 0 ?_, s2, s3'⟩
  have inc := abin_inc (T := tab) (t := 3) (i := i) (by omega)
  unfold F73
  simp only [nilp, valK_s, fa86_2, a.l_e', c1', d1, bothK_s, a5.l_e', inc, e1', g1, s1, hpK_s]
end
end Go.Am

set_option linter.unusedVariables false
set_option linter.unusedSimpArgs false
namespace Go.Am
open Go Go.Proofs

/-! ### What the lists come to -/

theorem listR_len (tb : Tb) : (listR tb).length = tb.last.toNat := by simp [listR]
theorem listR_get (tb : Tb) {j : Nat} (hj : j < tb.last.toNat) : (listR tb)[j]? = some (riOf tb.nodes ((j : Int) + 1)) := by
  simp only [listR, List.getElem?_map]
  rw [List.getElem?_range hj]; rfl

theorem listR_same {tb tb' : Tb} (h1 : tb'.last = tb.last) (h2 : ∀ k, riOf tb'.nodes k = riOf tb.nodes k) : listR tb' = listR tb := by
  simp only [listR, h1]
  exact List.map_congr_left fun i _ => h2 _

theorem listR_set {tb tb' : Tb} {i : Nat} {x : RI} (h1 : tb'.last = tb.last) (h2 : ∀ k, riOf tb'.nodes k = if k = (i : Int) + 1 then x else riOf tb.nodes k) : listR tb' = (listR tb).set i x := by
  apply List.ext_getElem?
  intro j
  rw [List.getElem?_set]
  by_cases hj : j < tb.last.toNat
  · rw [listR_get tb' (by rw [h1]; exact hj), h2]
    by_cases e : i = j
    · subst e
      rw [if_pos rfl, if_pos rfl, if_pos (by rw [listR_len]; exact hj)]
    · rw [if_neg e, if_neg (by omega), listR_get tb hj]
  · rw [List.getElem?_eq_none (by rw [listR_len, h1]; omega)]
    by_cases e : i = j
    · rw [if_pos e, if_neg (by rw [listR_len]; omega)]
    · rw [if_neg e, List.getElem?_eq_none (by rw [listR_len]; omega)]

theorem listR_add {tb tb' : Tb} {x : RI} (h0 : 0 ≤ tb.last) (h1 : tb'.last = tb.last + 1) (h2 : ∀ k, k ≤ tb.last → riOf tb'.nodes k = riOf tb.nodes k) (h3 : riOf tb'.nodes (tb.last + 1) = x) : listR tb' = listR tb ++ [x] := by
  have e1 : tb'.last.toNat = tb.last.toNat + 1 := by omega
  simp only [listR, e1, List.range_succ, List.map_append, List.map_cons, List.map_nil]
  have e2 : ((tb.last.toNat : Nat) : Int) + 1 = tb.last + 1 := by omega
  rw [e2, h3]
  congr 1
  refine List.map_congr_left fun i hi => h2 _ ?_
  have := List.mem_range.1 hi
  omega

theorem riOf_map {f f' : Int → Option Nd} {k : Int} {g : Nd → Nd} (h : f' k = (f k).map g) (h1 : ∀ nd, (g nd).kind = nd.kind ∧ (g nd).mode = nd.mode ∧ (g nd).data = nd.data) : riOf f' k = riOf f k := by
  unfold riOf
  rw [h]
  cases f k with
  | none => rfl
  | some nd =>
    obtain ⟨q1, q2, q3⟩ := h1 nd
    simp only [Option.map_some, q1, q2, q3]

theorem dropE_erase {d x : Int} {s : Bs} : ∀ {E : List Ed} {i : Nat}, OneE E → E[i]? = some ⟨d, s, x⟩ → dropE E d s = E.eraseIdx i
  | e :: E, 0, h, he => by
    simp only [List.getElem?_cons_zero, Option.some.injEq] at he
    subst he
    have h := List.pairwise_cons.1 h
    have : dropE (⟨d, s, x⟩ :: E) d s = dropE E d s := by simp [dropE]
    rw [this, dropE_none fun e he hh => h.1 e he ⟨hh.1.symm, hh.2.symm⟩]
    rfl
  | e :: E, i + 1, h, he => by
    have h := List.pairwise_cons.1 h
    have he' : E[i]? = some ⟨d, s, x⟩ := by simpa using he
    have hne : ¬ (e.dir = d ∧ e.name = s) := fun hh => h.1 _ (List.mem_of_getElem? he') ⟨hh.1, hh.2⟩
    have : dropE (e :: E) d s = e :: dropE E d s := by
      simp only [dropE, List.filter_cons]
      have : (!(decide (e.dir = d) && decide (e.name = s))) = true := by
        rw [Bool.not_eq_true', Bool.and_eq_false_iff, decide_eq_false_iff_not, decide_eq_false_iff_not]
        by_cases h1 : e.dir = d
        · exact .inr fun h2 => hne ⟨h1, h2⟩
        · exact .inl h1
      rw [this]; rfl
    rw [this, List.eraseIdx_cons_succ, dropE_erase h.2 he']
  | [], _, _, he => by simp at he

theorem act_refusedE (tb : Tb) (E : List Ed) (x : Act) (h : actE tb x ≠ 0) : actEd tb E x = E := by
  cases x with
  | make d s k m x => exact if_neg h
  | link d s i => exact if_neg h
  | unlink d s => exact if_neg h
  | move f s t u =>
    simp only [actE, moveE] at h
    simp only [actEd, moveEd]
    by_cases h1 : move1E tb f s t u = 0
    · rw [if_pos h1] at h ⊢
      by_cases h2 : f = t ∧ s = u
      · rw [if_pos h2]
      · rw [if_neg h2] at h ⊢
        rw [if_neg h]
    · rw [if_neg h1]
  | write i x => rfl
  | chmod i m => rfl

section
variable {h0 h : AHeap} {r : Nat} {lv ev : AV} {tb : Tb} {E : List Ed} {n : Nat}

/-- What an act of the document's table comes to. -/
def Does (h0 h : AHeap) (r : Nat) (lv ev : AV) (tb : Tb) (E : List Ed) (n : Nat) (x : Act) (h' : AHeap) : Prop :=
  ∃ lv' ev', RM h0 h' r lv' ev' (actT tb x) (actEd tb E x) (n + 1) ∧ Step (refS r lv ev) h (refS r lv' ev') h'

theorem RM.does (a : RM h0 h r lv ev tb E n) (hn : n < 100) {x : Act} {h' : AHeap} {lv' ev' : AV} {LL : List RI} {E' : List Ed} (rr : RR h0 h' r lv' ev' tb.qi tb.qb LL E') (s : Step (refS r lv ev) h (refS r lv' ev') h') (hL : listR (actT tb x) = LL) (hE : actEd tb E x = E') : Does h0 h r lv ev tb E n x h' := by
  obtain ⟨t1, t2, _⟩ := act_tops tb x
  refine ⟨lv', ev', ⟨?_, a.st.act x, by omega, s.wf⟩, s⟩
  rw [t1, t2, hL, hE]; exact rr

theorem RM.stays (a : RM h0 h r lv ev tb E n) (hn : n < 100) {x : Act} {h' : AHeap} (y : Ext h h') (h1 : actT tb x = tb) (h2 : actEd tb E x = E) : Does h0 h r lv ev tb E n x h' :=
  a.does hn (a.rr.ext y) y.step (by rw [h1]) h2

theorem RM.refuses (a : RM h0 h r lv ev tb E n) (hn : n < 100) {x : Act} {h' : AHeap} (y : Ext h h') (h1 : actE tb x ≠ 0) : Does h0 h r lv ev tb E n x h' :=
  a.stays hn y (act_refused tb x h1) (act_refusedE tb E x h1)

theorem RM.Link_run (a : RM h0 h r lv ev tb E n) (hx : Ext h0 h) (hn : n < 100) (d i : Int) (s : Bs) :
    ∃ h', EG (.fn 42) [.ptr r 0, .int .i64 d, .str s, .int .i64 i] h = some (.int .i64 (linkE tb d s i), h') ∧ Does h0 h r lv ev tb E n (.link d s i) h' := by
  have hEl := a.lenE
  have e1 := a.place_run d s
  have run : ∀ {rr h'}, F42 EG 0 (.ptr r 0) (.int .i64 d) (.str s) (.int .i64 i) h = some (rr, h') → rr = .int .i64 (linkE tb d s i) → Does h0 h r lv ev tb E n (.link d s i) h' → ∃ h', EG (.fn 42) [.ptr r 0, .int .i64 d, .str s, .int .i64 i] h = some (.int .i64 (linkE tb d s i), h') ∧ Does h0 h r lv ev tb E n (.link d s i) h' :=
    fun q1 q2 q3 => by subst q2; exact ⟨_, run42 0 q1, q3⟩
  have no : linkE tb d s i ≠ 0 → Does h0 h r lv ev tb E n (.link d s i) h := fun hh => a.refuses hn (Ext.refl a.wf) hh
  by_cases hp : placeE tb d s = 0
  · have hd : dirE tb d = 0 := by
      unfold placeE at hp
      by_cases q : dirE tb d = 0
      · exact q
      · rw [if_neg q] at hp; exact absurd hp q
    have hnm : nameE s = 0 := by unfold placeE at hp; rw [if_pos hd] at hp; exact hp
    rw [hp] at e1
    have e2 := a.file_run i
    by_cases hf : fileE tb i = 0
    · obtain ⟨res, e3, hres⟩ := a.find_run d s
      rcases hres with ⟨rfl, h1⟩ | ⟨j, y, rfl, h1, h2⟩
      · have hl : linkE tb d s i = 0 := by
          refine firstE_of fun e he => ?_
          have hfr : freeE tb d s = 0 := by simp only [freeE, h1]; rfl
          simp only [List.mem_cons, List.not_mem_nil, or_false] at he
          rcases he with rfl | rfl | rfl | rfl | rfl
          · rfl
          · exact hd
          · exact hnm
          · exact hf
          · exact hfr
        have b98 : abuild tab 98 [(0, .int .i64 d), (1, .str s), (2, .int .i64 i)] = some (.agg (cellsE ⟨d, s, i⟩)) := rfl
        obtain ⟨y, h1', ev', h2', h3', p1, p2, p3, p4, p5⟩ := a.rr.pushE hx (by omega) ⟨d, s, i⟩
        refine run (rr := .int .i64 0) (h' := h3') ?_ (by rw [hl]) (a.does hn p4 p5 ?_ (if_pos hl))
        · unfold F42
          simp only [jn_a, e1, bothK_s, abin_eql, valK_s, decide_true, boolK_t, e2, hf, abin_neq, Bool.not_true, boolK_f, e3, abin_geq, show decide ((0 : Int) ≤ -1) = false from rfl, nilp, fa86_2, a.rr.l_e', b98, p1, p2, p3, hpK_s, unmark_nil]
        · show listR (linkT tb d s i) = _
          unfold linkT
          rw [if_pos hl]
          refine listR_same rfl fun k => ?_
          refine riOf_map (g := fun nd => (fun nd : Nd => if k = i then { nd with links := nd.links + 1 } else nd) (if k = d then { nd with ents := nd.ents ++ [(s, i)] } else nd)) ?_ fun nd => ?_
          · show incL _ _ _ _ = _
            rw [incL_map, addE_map]
            cases tb.nodes k <;> rfl
          · dsimp only
            split <;> split <;> exact ⟨rfl, rfl, rfl⟩
      · have hfr : freeE tb d s = 6 := by simp only [freeE, h2]; rfl
        have hl : linkE tb d s i = 6 := by simp only [linkE, firstE, hd, hnm, hf, hfr]; rfl
        have c : decide ((0 : Int) ≤ (j : Int)) = true := by rw [decide_eq_true_eq]; omega
        refine run (rr := .int .i64 6) (h' := h) ?_ (by rw [hl]) (no (by omega))
        unfold F42
        simp only [jn_a, e1, bothK_s, abin_eql, valK_s, decide_true, boolK_t, e2, hf, abin_neq, Bool.not_true, boolK_f, e3, abin_geq, c, hpK_s, unmark_nil]
    · have hl : linkE tb d s i = fileE tb i := by simp only [linkE, firstE, hd, hnm, if_true, if_neg hf]
      refine run (rr := .int .i64 (fileE tb i)) (h' := h) ?_ (by rw [hl]) (no (by omega))
      unfold F42
      simp only [jn_a, e1, bothK_s, abin_eql, valK_s, decide_true, boolK_t, e2, abin_neq, decide_eq_false hf, Bool.not_false, hpK_s, unmark_nil]
  · have hl : linkE tb d s i = placeE tb d s := by
      unfold placeE at hp ⊢
      by_cases q : dirE tb d = 0
      · rw [if_pos q] at hp ⊢
        simp only [linkE, firstE, q, if_true, if_neg hp]
      · rw [if_neg q]
        simp only [linkE, firstE, if_true, if_neg q]
    refine run (rr := .int .i64 (placeE tb d s)) (h' := h) ?_ (by rw [hl]) (no (by omega))
    unfold F42
    simp only [jn_a, e1, bothK_s, abin_eql, valK_s, decide_eq_false hp, boolK_f, abin_neq, Bool.not_false, boolK_t, hpK_s, unmark_nil]

theorem RM.fileAt (a : RM h0 h r lv ev tb E n) {i : Int} {nd : Nd} (hk : tb.nodes i = some nd) : ∃ j : Nat, i - 1 = (j : Int) ∧ (listR tb)[j]? = some ⟨nd.kind, nd.mode, nd.data⟩ ∧ i = (j : Int) + 1 := by
  have hr := a.st.inv.range i nd hk
  obtain ⟨j, hj, hx⟩ := a.at hr.1 hr.2
  exact ⟨j, hj, by rw [hx]; simp only [riOf, hk], by omega⟩

theorem RM.Write_run (a : RM h0 h r lv ev tb E n) (hx : Ext h0 h) (hn : n < 100) (i : Int) (x : Bs) (hxl : x.length < 1000000) :
    ∃ h', EG (.fn 45) [.ptr r 0, .int .i64 i, .str x] h = some (.int .i64 (writeE tb i x), h') ∧ Does h0 h r lv ev tb E n (.write i x) h' := by
  have e1 := a.file_run i
  by_cases hf : fileE tb i = 0
  · obtain ⟨nd, hk, hk1⟩ := fileE_zero hf
    obtain ⟨j, hj, hxj, hij⟩ := a.fileAt hk
    obtain ⟨o, p1, p2, p3, f0, f1, f2, ld⟩ := a.rr.at_l hxj
    obtain ⟨l0, l2, _⟩ := ld h p2
    have hdl := a.st.data hk
    have hsm := a.st.small.ub
    have hlast := a.last
    have hr := a.st.inv.range i nd hk
    have sub := abin_sub (T := tab) (t := 3) (a := i) (b := 1) (by omega) (by omega)
    rw [hj] at sub
    have sub2 := abin_sub (T := tab) (t := 3) (a := (x.length : Int)) (b := (nd.data.length : Int)) (by omega) (by omega)
    obtain ⟨h1, e2, y1⟩ := a.room_run (i := 0) (b := (x.length : Int) - (nd.data.length : Int)) (by omega) (by omega)
    have a1 := a.ext y1
    have hw : writeE tb i x = roomE tb 0 ((x.length : Int) - nd.data.length) := by
      simp only [writeE, firstE, hf, hk, if_true]
      split
      · rename_i q; exact q.symm
      · rfl
    by_cases hrm : roomE tb 0 ((x.length : Int) - nd.data.length) = 0
    · have g1 := y1.keep _ _ p2
      have hspl := splice_flat lenI (cs := [AV.str x]) (j := 2) (x' := ⟨nd.kind, nd.mode, x⟩) hxj (by simp) rfl
      have st : storeA tab h1 9 (.ptr o (j * 4 + 2)) (.str x) = some (h1.put o (.cells (flatL ((listR tb).set j ⟨nd.kind, nd.mode, x⟩)) true)) := by
        simp only [storeA, astore, g1, ty9, AV.cells]
        rw [show (flatL (listR tb)) = (listR tb).flatMap cellsI from rfl, hspl]
        rfl
      obtain ⟨q1, q2⟩ := a1.rr.setL y1.wf p1 g1 hxj ⟨nd.kind, nd.mode, x⟩
      have hws : writeE tb i x = 0 := by rw [hw, hrm]
      refine ⟨h1.put o (.cells (flatL ((listR tb).set j ⟨nd.kind, nd.mode, x⟩)) true), run45 0 ?_, a.does hn q1 (y1.step.trans q2) ?_ rfl⟩
      · rw [hws]
        unfold F45
        simp only [e1, bothK_s, hf, abin_neq, decide_true, Bool.not_true, valK_s, boolK_f, alen9, nilp, fa86_1, a.rr.l_l, sub, p3, f2, l2, sub2, e2, hrm, aun_not, Bool.not_true, a1.rr.l_l, st, hpK_s]
      · show listR (writeT tb i x) = _
        unfold writeT
        rw [if_pos hws, hk]
        refine listR_set rfl fun k => ?_
        show riOf (upd _ _ _) k = _
        rw [← hij]
        unfold riOf
        by_cases e : k = i
        · subst e; rw [upd_self, if_pos rfl]
        · rw [upd_ne _ _ e, if_neg e]
    · have hre : roomE tb 0 ((x.length : Int) - nd.data.length) = 10 := by
        unfold roomE at hrm ⊢
        split
        · rename_i q; exact absurd (if_pos q) hrm
        · rfl
      have hws : writeE tb i x = 10 := by rw [hw, hre]
      refine ⟨h1, run45 0 ?_, a.refuses hn y1 (show writeE tb i x ≠ 0 by omega)⟩
      rw [hws]
      unfold F45
      simp only [e1, bothK_s, hf, abin_neq, decide_true, Bool.not_true, valK_s, boolK_f, alen9, nilp, fa86_1, a.rr.l_l, sub, p3, f2, l2, sub2, e2, decide_eq_false hrm, aun_not, Bool.not_false, boolK_t]
  · have hws : writeE tb i x = fileE tb i := by simp only [writeE, firstE, if_true, if_neg hf]
    refine ⟨h, run45 0 ?_, a.refuses hn (Ext.refl a.wf) (show writeE tb i x ≠ 0 by omega)⟩
    rw [hws]
    unfold F45
    simp only [e1, bothK_s, abin_neq, decide_eq_false hf, Bool.not_false, valK_s, boolK_t]

theorem RM.Chmod_run (a : RM h0 h r lv ev tb E n) (hx : Ext h0 h) (hn : n < 100) (i m : Int) :
    ∃ h', EG (.fn 47) [.ptr r 0, .int .i64 i, .int .i64 m] h = some (.int .i64 (chmodE tb i m), h') ∧ Does h0 h r lv ev tb E n (.chmod i m) h' := by
  have e1 := a.kind_run i
  by_cases h1 : m < 0
  · have hc : chmodE tb i m = 2 := by
      simp only [chmodE, firstE, if_true, if_neg (show ¬ (0 ≤ m ∧ m ≤ 511) by omega)]; rfl
    refine ⟨h, run47 0 ?_, a.refuses hn (Ext.refl a.wf) (show chmodE tb i m ≠ 0 by omega)⟩
    rw [hc]
    unfold F47
    simp only [jn_a, abin_lss, valK_s, decide_eq_true h1, boolK_t]
  · by_cases h2 : 511 < m
    · have hc : chmodE tb i m = 2 := by
        simp only [chmodE, firstE, if_true, if_neg (show ¬ (0 ≤ m ∧ m ≤ 511) by omega)]; rfl
      refine ⟨h, run47 0 ?_, a.refuses hn (Ext.refl a.wf) (show chmodE tb i m ≠ 0 by omega)⟩
      rw [hc]
      unfold F47
      simp only [jn_a, abin_lss, valK_s, decide_eq_false h1, boolK_f, abin_gtr, decide_eq_true h2, boolK_t]
    · have hm : 0 ≤ m ∧ m ≤ 511 := by omega
      rcases a.kinds i with ⟨q1, q2⟩ | ⟨nd, q1, q2, q3, q4⟩
      · rw [q2] at e1
        have hc : chmodE tb i m = 5 := by simp only [chmodE, firstE, if_pos hm, if_true, q1]; rfl
        refine ⟨h, run47 0 ?_, a.refuses hn (Ext.refl a.wf) (show chmodE tb i m ≠ 0 by omega)⟩
        rw [hc]
        unfold F47
        simp only [jn_a, abin_lss, valK_s, decide_eq_false h1, boolK_f, abin_gtr, decide_eq_false h2, e1, bothK_s, abin_eql, decide_true, boolK_t, unmark_nil, hpK_s]
      · rw [q2] at e1
        have hc : chmodE tb i m = 0 := by simp only [chmodE, firstE, if_pos hm, if_true, q1]; rfl
        obtain ⟨j, hj, hxj, hij⟩ := a.fileAt q1
        obtain ⟨o, p1, p2, p3, f0, f1, f2, ld⟩ := a.rr.at_l hxj
        have hr := a.st.inv.range i nd q1
        have hlast := a.last
        have sub := abin_sub (T := tab) (t := 3) (a := i) (b := 1) (by omega) (by omega)
        rw [hj] at sub
        have hspl := splice_flat lenI (cs := [AV.int .i64 m]) (j := 1) (x' := ⟨nd.kind, m, nd.data⟩) hxj (by simp) rfl
        have st : storeA tab h 3 (.ptr o (j * 4 + 1)) (.int .i64 m) = some (h.put o (.cells (flatL ((listR tb).set j ⟨nd.kind, m, nd.data⟩)) true)) := by
          simp only [storeA, astore, p2, ty3, AV.cells]
          rw [show (flatL (listR tb)) = (listR tb).flatMap cellsI from rfl, hspl]
          rfl
        obtain ⟨r1, r2⟩ := a.rr.setL a.wf p1 p2 hxj ⟨nd.kind, m, nd.data⟩
        have hk0 : ¬ nd.kind = 0 := by omega
        refine ⟨h.put o (.cells (flatL ((listR tb).set j ⟨nd.kind, m, nd.data⟩)) true), run47 0 ?_, a.does hn r1 r2 ?_ rfl⟩
        · rw [hc]
          unfold F47
          simp only [jn_a, abin_lss, valK_s, decide_eq_false h1, boolK_f, abin_gtr, decide_eq_false h2, e1, bothK_s, abin_eql, decide_eq_false hk0, nilp, fa86_1, a.rr.l_l, sub, p3, f1, st, unmark_nil, hpK_s]
        · show listR (chmodT tb i m) = _
          unfold chmodT
          rw [if_pos hc, q1]
          refine listR_set rfl fun k => ?_
          show riOf (upd _ _ _) k = _
          rw [← hij]
          unfold riOf
          by_cases e : k = i
          · subst e; rw [upd_self, if_pos rfl]
          · rw [upd_ne _ _ e, if_neg e]
end
end Go.Am

set_option linter.unusedVariables false
set_option linter.unusedSimpArgs false
namespace Go.Am
open Go Go.Proofs

section
variable {h0 h : AHeap} {r : Nat} {lv ev : AV} {qi qb : Int} {LL : List RI} {E : List Ed}

theorem RR.kind_at (a : RR h0 h r lv ev qi qb LL E) (hl : LL.length < 1000000) {i : Nat} {x : RI} (hx : LL[i]? = some x) : EG (.fn 76) [.ptr r 0, .int .i64 ((i : Int) + 1)] h = some (.int .i64 x.kind, h) := by
  have hi := (List.getElem?_eq_some_iff.1 hx).1
  obtain ⟨o, q1, q2, q3, f0, f1, f2, ld⟩ := a.at_l hx
  have c1 : decide ((i : Int) + 1 < 1) = false := by rw [decide_eq_false_iff_not]; omega
  have c2 : decide ((LL.length : Int) < (i : Int) + 1) = false := by rw [decide_eq_false_iff_not]; omega
  have sub := abin_sub (T := tab) (t := 3) (a := (i : Int) + 1) (b := 1) (by omega) (by omega)
  rw [show (i : Int) + 1 - 1 = (i : Int) by omega] at sub
  refine run76 0 ?_
  unfold F76
  simp only [abin_lss, valK_s, c1, boolK_f, nilp, fa86_1, a.l_l, a.n_l, abin_gtr, c2, sub, q3, f0, (ld h q2).1]

theorem RR.node_at (a : RR h0 h r lv ev qi qb LL E) (hw : h.WF) (hl : LL.length < 1000000) (hEl : E.length < 1000000) {j : Nat} {x : RI} (hx : LL[j]? = some x) (hk : ¬ x.kind = 0) (hj1 : ¬ (j : Int) + 1 = 1) :
    ∃ h', EG (.fn 49) [.ptr r 0, .int .i64 ((j : Int) + 1)] h = some (.tuple [.agg [.int .i64 x.kind, .int .i64 x.mode, .str x.data, .int .i64 (cntE E ((j : Int) + 1) : Nat)], .bool true], h') ∧ Ext h h' := by
  obtain ⟨N, hN⟩ := fuel (E.length + 1)
  suffices ∃ h', F49 EG N (.ptr r 0) (.int .i64 ((j : Int) + 1)) h = some (.tuple [.agg [.int .i64 x.kind, .int .i64 x.mode, .str x.data, .int .i64 (cntE E ((j : Int) + 1) : Nat)], .bool true], h') ∧ Ext h h' by
    obtain ⟨h', q1, q2⟩ := this
    exact ⟨h', run49 N q1, q2⟩
  have x1 : Ext h (h.add (.cells [.int .i64 0, .int .i64 0, .str [], .int .i64 0] true)) := (Ext.refl hw).add _
  have g1 : (h.add (.cells [.int .i64 0, .int .i64 0, .str [], .int .i64 0] true)).get h.next = some (.cells [.int .i64 0, .int .i64 0, .str [], .int .i64 0] true) := AHeap.get_add_self _ _
  have n0 : newCells h [.int .i64 0, .int .i64 0, .str [], .int .i64 0] (fun o => .ptr o 0) = some (.ptr h.next 0, h.add (.cells [.int .i64 0, .int .i64 0, .str [], .int .i64 0] true)) := rfl
  have nw := hw.new
  generalize h.add (.cells [.int .i64 0, .int .i64 0, .str [], .int .i64 0] true) = h1 at x1 g1 n0
  generalize h.next = b at g1 n0 nw
  have a1 := a.ext x1
  have e1 := a1.kind_at hl hx
  have hi := (List.getElem?_eq_some_iff.1 hx).1
  obtain ⟨o, p1, p2, p3, f0, f1, f2, ld⟩ := a1.at_l hx
  have hag : loadA tab h1 35 (.ptr o (j * 4)) = some (.agg [.int .i64 x.kind, .int .i64 x.mode, .str x.data, .int .i64 0]) := (ld h1 p2).2.2
  have sub := abin_sub (T := tab) (t := 3) (a := (j : Int) + 1) (b := 1) (by omega) (by omega)
  rw [show (j : Int) + 1 - 1 = (j : Int) by omega] at sub
  obtain ⟨c, h2, h3, e2, e3, g3, y3⟩ := ino_cell x1.wf x.kind x.mode 0 x.data
  have cnew : h1.get c = none := by
    have hh : newCells h1 [.int .i64 0, .int .i64 0, .str [], .int .i64 0] (fun o => .ptr o 0) = some (.ptr h1.next 0, h1.add (.cells [.int .i64 0, .int .i64 0, .str [], .int .i64 0] true)) := rfl
    rw [hh] at e2
    simp only [Option.some.injEq, Prod.mk.injEq, AV.ptr.injEq, and_true] at e2
    rw [← e2.1]; exact x1.wf.new
  have hbc : b ≠ c := fun e => by rw [e, cnew] at g1; cases g1
  unfold F49
  simp only [n0, bothK_s, e1, abin_eql, valK_s, decide_eq_false hk, boolK_f, nilp, fa86_1, a1.l_l, sub, p3, hag, e2, e3, hpK_s]
  generalize hkk : (j : Int) + 1 = k at hj1
  refine loop_rule (σ := AV × AV × AV × AV × AV × Unit) (R := AV × AHeap) (total := E.length)
    (I := fun i st hh => i ≤ E.length ∧ st = (.ptr r 0, .int .i64 k, .ptr b 0, .ptr c 0, .int .i64 (i : Int), ()) ∧ Ext h hh ∧ hh.get c = some (.cells [.int .i64 x.kind, .int .i64 x.mode, .str x.data, .int .i64 ((cntE (E.take i) k : Nat) : Int)] true) ∧ hh.get b = some (.cells [.int .i64 0, .int .i64 0, .str [], .int .i64 0] true))
    (Q := fun o => ∃ h', o = some (.tuple [.agg [.int .i64 x.kind, .int .i64 x.mode, .str x.data, .int .i64 ((cntE E k : Nat) : Int)], .bool true], h') ∧ Ext h h') ?_ N 0 _ _ ⟨by omega, rfl, x1.trans y3, g3, y3.keep _ _ g1⟩ (by omega) (by omega)
  rintro i st hh nx ⟨hi', rfl, xh, gc, gb⟩
  have ah := a.ext xh
  have cn0 : h.get c = none := x1.none cnew
  by_cases hlt : i < E.length
  · left
    have he : E[i]? = some E[i] := List.getElem?_eq_getElem hlt
    obtain ⟨p, p0, p1, p2, r0, f0, f1, f2, ld⟩ := ah.at_e he
    obtain ⟨l0, l1, l2⟩ := ld hh (Ext.refl xh.wf)
    have inc := abin_inc (T := tab) (t := 3) (i := i) (by omega)
    have htk : E.take (i + 1) = E.take i ++ [E[i]] := List.take_succ_eq_append_getElem hlt
    by_cases h1' : E[i].ino = k
    · have hcn : cntE (E.take (i + 1)) k = cntE (E.take i) k + 1 := by
        rw [htk]; simp only [cntE, List.countP_append, List.countP_cons, List.countP_nil, h1', decide_true]; rfl
      have hle := cntE_le (E.take i) k
      have hle2 : (E.take i).length ≤ E.length := by simp; omega
      have add := abin_inc (T := tab) (t := 3) (i := cntE (E.take i) k) (by omega)
      have st3 := ino_st3 gc ((cntE (E.take i) k + 1 : Nat) : Int)
      have fa3 : afieldAddr tab 35 (.ptr c 0) 3 = some (.ptr c 3) := rfl
      refine ⟨hlt, _, _, ?_, by omega, rfl, xh.put cn0 gc _, by rw [hcn]; exact AHeap.get_put_self _ _ _, by rw [AHeap.get_put_ne _ _ hbc]; exact gb⟩
      unfold F49_b5
      simp only [nilp, valK_s, fa86_2, ah.l_e', ah.n_e, abin_lss, ltT hlt, boolK_t, r0, f2, l2, abin_eql, decide_eq_true h1', fa3, (ino_ld gc).2, add, st3, hpK_s, inc]
    · have hcn : cntE (E.take (i + 1)) k = cntE (E.take i) k := by
        rw [htk]; simp only [cntE, List.countP_append, List.countP_cons, List.countP_nil, h1', decide_false]; rfl
      refine ⟨hlt, _, hh, ?_, by omega, rfl, xh, by rw [hcn]; exact gc, gb⟩
      unfold F49_b5
      simp only [nilp, valK_s, fa86_2, ah.l_e', ah.n_e, abin_lss, ltT hlt, boolK_t, r0, f2, l2, abin_eql, decide_eq_false h1', boolK_f, inc]
  · right
    have hil : i = E.length := by omega
    rw [hil, List.take_length] at gc
    have bn0 : h.get b = none := nw
    have st4 := ino_st gb x.kind x.mode ((cntE E k : Nat) : Int) x.data
    have gb3 : (hh.put b (.cells [.int .i64 x.kind, .int .i64 x.mode, .str x.data, .int .i64 ((cntE E k : Nat) : Int)] true)).get b = some (.cells [.int .i64 x.kind, .int .i64 x.mode, .str x.data, .int .i64 ((cntE E k : Nat) : Int)] true) := AHeap.get_put_self _ _ _
    refine ⟨_, ?_, xh.put bn0 gb (.cells [.int .i64 x.kind, .int .i64 x.mode, .str x.data, .int .i64 ((cntE E k : Nat) : Int)] true)⟩
    unfold F49_b5
    simp only [nilp, valK_s, fa86_2, ah.l_e', ah.n_e, abin_lss, ltF hlt, boolK_f, abin_eql, decide_eq_false hj1, (ino_ld gc).1, st4, hpK_s, unmark_nil, (ino_ld gb3).1]
end

section
variable {h0 h : AHeap} {r : Nat} {lv ev : AV} {tb : Tb} {E : List Ed} {n : Nat}

theorem RM.Unlink_run (a : RM h0 h r lv ev tb E n) (hx : Ext h0 h) (hn : n < 100) (d : Int) (s : Bs) :
    ∃ h', EG (.fn 43) [.ptr r 0, .int .i64 d, .str s] h = some (.int .i64 (unlinkE tb d s), h') ∧ Does h0 h r lv ev tb E n (.unlink d s) h' := by
  have hEl := a.lenE
  have e1 := a.dir_run d
  have hL := a.lenL
  have hlast := a.last
  by_cases hd : dirE tb d = 0
  · rw [hd] at e1
    obtain ⟨res, e2, hres⟩ := a.find_run d s
    rcases hres with ⟨rfl, h1⟩ | ⟨i, ino, rfl, h1, h2⟩
    · have hen : entryE tb d s = 5 := by simp only [entryE, h1]; rfl
      have hu : unlinkE tb d s = 5 := by simp only [unlinkE, firstE, hd, hen]; rfl
      refine ⟨h, run43 0 ?_, a.refuses hn (Ext.refl a.wf) (show unlinkE tb d s ≠ 0 by omega)⟩
      rw [hu]
      unfold F43
      simp only [e1, bothK_s, abin_neq, decide_true, Bool.not_true, valK_s, boolK_f, e2, abin_lss, show decide ((-1 : Int) < 0) = true from rfl, boolK_t]
    · have hil := (List.getElem?_eq_some_iff.1 h1).1
      obtain ⟨p, p0, p1, p2, r0, f0, f1, f2, ld⟩ := a.rr.at_e h1
      obtain ⟨l0, l1, l2⟩ := ld h (Ext.refl a.wf)
      have ci : decide ((i : Int) < 0) = false := by rw [decide_eq_false_iff_not]; omega
      obtain ⟨v12, h13, e3, n3, y3⟩ := a.names_run ino
      have a3 := a.ext y3
      have al := Row.len n3 ty30
      have hem := (a.st.inv.find.1 h2).1
      obtain ⟨hi1, cn, hcn, _⟩ := a.st.inv.ino _ hem
      have hi1 : ino ≠ 1 := hi1
      have hcn : tb.nodes ino = some cn := hcn
      have hen : entryE tb d s = 0 := by simp only [entryE, h2]; rfl
      have hnm : (namesT tb ino).length = cn.ents.length := by simp only [namesT, hcn, sortS_length, List.length_map]
      by_cases hem0 : cn.ents.length = 0
      · have hu : unlinkE tb d s = 0 := by simp only [unlinkE, firstE, hd, hen, emptyE, h2, hcn, if_pos hem0]; rfl
        have c0 : decide ((0 : Int) < ((namesT tb ino).length : Int)) = false := by rw [decide_eq_false_iff_not]; omega
        have hx3 : Ext h0 h13 := hx.trans y3
        obtain ⟨ev', h17, e4, rr4, s4⟩ := a3.rr.drop_run hx3 (by omega) hil
        have hdr : dropE E d s = E.eraseIdx i := dropE_erase a.st.inv.one h1
        rw [← hdr] at rr4
        obtain ⟨j, hj, hxj, hij⟩ := a.fileAt hcn
        have hdl := dropE_len E d s
        have hkd := a.st.inv.kind ino cn hcn
        have hk0 : ¬ cn.kind = 0 := by omega
        obtain ⟨h19, e5, y5⟩ := rr4.node_at s4.wf (by omega) (by omega) hxj hk0 (by omega)
        rw [← hij] at e5
        have rr5 := rr4.ext y5
        obtain ⟨c, h23, h24, e6, e7, g7, y7⟩ := ino_cell y5.wf cn.kind cn.mode ((cntE (dropE E d s) ino : Nat) : Int) cn.data
        have rr7 := rr5.ext y7
        have fa3 : afieldAddr tab 35 (.ptr c 0) 3 = some (.ptr c 3) := rfl
        have hcd := cntE_drop (k := ino) a.st.inv.one hem
        rw [if_pos rfl] at hcd
        have hlk := (a.st.inv.links ino cn hcn hi1).1
        have hne : ino ≠ d := a.st.inv.apart hem
        have hg : delE tb.nodes d s ino = some cn := by rw [delE_map, hcn]; simp [hne]
        have hact : actT tb (.unlink d s) = goneT tb (delE tb.nodes d s) ino := by
          show unlinkT tb d s = _
          simp only [unlinkT, hu, if_true, h2]
        have hEd : actEd tb E (.unlink d s) = dropE E d s := if_pos hu
        have steps : Step (refS r lv ev) h (refS r lv ev') h24 := ((y3.step.trans s4).trans y5.step).trans y7.step
        by_cases hz : cntE (dropE E d s) ino = 0
        · have hlz : cn.links - 1 = 0 := by omega
          obtain ⟨o, q1, q2, q3, f0', f1', f2', ld'⟩ := rr7.at_l hxj
          have sub := abin_sub (T := tab) (t := 3) (a := ino) (b := 1) (by omega) (by have := a.st.inv.range ino cn hcn; omega)
          rw [hj] at sub
          obtain ⟨ty, t1, t2, t3, t4, t5⟩ := ty35x
          have hspl := splice_flat lenI (cs := cellsI ⟨0, 0, []⟩) (j := 0) (x' := ⟨0, 0, []⟩) hxj (by rw [lenI]; omega) (by simp [cellsI])
          rw [Nat.add_zero] at hspl
          have st : storeA tab h24 35 (.ptr o (j * 4)) (.agg (cellsI ⟨0, 0, []⟩)) = some (h24.put o (.cells (flatL ((listR tb).set j ⟨0, 0, []⟩)) true)) := by
            simp only [storeA, astore, q2, t1, t2, AV.cells]
            rw [show (flatL (listR tb)) = (listR tb).flatMap cellsI from rfl, hspl]
            rfl
          obtain ⟨r1, r2⟩ := rr7.setL y7.wf q1 q2 hxj ⟨0, 0, []⟩
          have b35 : abuild tab 35 [] = some (.agg (cellsI ⟨0, 0, []⟩)) := rfl
          refine ⟨h24.put o (.cells (flatL ((listR tb).set j ⟨0, 0, []⟩)) true), run43 0 ?_, a.does hn r1 (steps.trans r2) ?_ hEd⟩
          · rw [hu]
            unfold F43
            simp only [e1, bothK_s, abin_neq, decide_true, Bool.not_true, valK_s, boolK_f, e2, abin_lss, ci, nilp, fa86_2, a.rr.l_e', r0, f2, l2, e3, al, abin_gtr, c0, e4, e5, extractA_0, extractA_1, e6, e7, hpK_s, fa3, (ino_ld g7).2, abin_eql, show decide (((cntE (dropE E d s) ino : Nat) : Int) = 0) = true from decide_eq_true (by omega), boolK_t, fa86_1, rr7.l_l, sub, b35, q3, st]
          · rw [hact]
            unfold goneT
            rw [hg]
            dsimp only
            rw [if_pos hlz]
            refine listR_set rfl fun k => ?_
            show riOf (upd (delE tb.nodes d s) ino none) k = _
            rw [← hij]
            by_cases e : k = ino
            · rw [if_pos e, e]; simp only [riOf, upd_self]
            · rw [if_neg e]
              have : riOf (upd (delE tb.nodes d s) ino none) k = riOf (delE tb.nodes d s) k := by simp only [riOf, upd_ne _ _ e]
              rw [this]
              refine riOf_map (delE_map tb.nodes d s k) fun nd => ?_
              split <;> exact ⟨rfl, rfl, rfl⟩
        · have hlz : ¬ cn.links - 1 = 0 := by omega
          refine ⟨h24, run43 0 ?_, a.does hn rr7 steps ?_ hEd⟩
          · rw [hu]
            unfold F43
            simp only [e1, bothK_s, abin_neq, decide_true, Bool.not_true, valK_s, boolK_f, e2, abin_lss, ci, nilp, fa86_2, a.rr.l_e', r0, f2, l2, e3, al, abin_gtr, c0, e4, e5, extractA_0, extractA_1, e6, e7, hpK_s, fa3, (ino_ld g7).2, abin_eql, show decide (((cntE (dropE E d s) ino : Nat) : Int) = 0) = false from decide_eq_false (by omega)]
          · rw [hact]
            unfold goneT
            rw [hg]
            dsimp only
            rw [if_neg hlz]
            refine listR_same rfl fun k => ?_
            show riOf (upd (delE tb.nodes d s) ino _) k = _
            by_cases e : k = ino
            · rw [e]; simp only [riOf, upd_self, hcn]
            · have : riOf (upd (delE tb.nodes d s) ino (some { cn with links := cn.links - 1 })) k = riOf (delE tb.nodes d s) k := by simp only [riOf, upd_ne _ _ e]
              rw [this]
              refine riOf_map (delE_map tb.nodes d s k) fun nd => ?_
              split <;> exact ⟨rfl, rfl, rfl⟩
      · have hu : unlinkE tb d s = 20 := by simp only [unlinkE, firstE, hd, hen, emptyE, h2, hcn, if_neg hem0]; rfl
        have c0 : decide ((0 : Int) < ((namesT tb ino).length : Int)) = true := by rw [decide_eq_true_eq]; omega
        refine ⟨h13, run43 0 ?_, a.refuses hn y3 (show unlinkE tb d s ≠ 0 by omega)⟩
        rw [hu]
        unfold F43
        simp only [e1, bothK_s, abin_neq, decide_true, Bool.not_true, valK_s, boolK_f, e2, abin_lss, ci, nilp, fa86_2, a.rr.l_e', r0, f2, l2, e3, al, abin_gtr, c0, boolK_t]
  · have hu : unlinkE tb d s = dirE tb d := by simp only [unlinkE, firstE, if_true, if_neg hd]
    refine ⟨h, run43 0 ?_, a.refuses hn (Ext.refl a.wf) (show unlinkE tb d s ≠ 0 by omega)⟩
    rw [hu]
    unfold F43
    simp only [e1, bothK_s, abin_neq, decide_eq_false hd, Bool.not_false, valK_s, boolK_t]
end
end Go.Am

set_option linter.unusedVariables false
set_option linter.unusedSimpArgs false
namespace Go.Am
open Go Go.Proofs

/-- What stands behind the checks of Make. -/
noncomputable def R41 (E : Env) (t d s k m x : AV) (h : AHeap) : Option (AV × AHeap) :=
bothK (E (.fn 69) [t, d, s] h) fun x7 h8 =>
valK (abin tab .geq 3 x7 (.int .i64 0)) fun x9 =>
boolK x9 (
hpK (unmark h8 []) fun h10 =>
some (.tuple [(.int .i64 0), (.int .i64 6)], h10)) (
valK (alen tab h8 9 x) fun x11 =>
bothK (E (.fn 70) [t, (.int .i64 1), x11] h8) fun x12 h13 =>
valK (aun .not x12) fun x14 =>
boolK x14 (
hpK (unmark h13 []) fun h15 =>
some (.tuple [(.int .i64 0), (.int .i64 10)], h15)) (
valK (nilA t) fun x16 =>
valK (afieldAddr tab 86 x16 1) fun x17 =>
valK (loadA tab h13 83 x17) fun x18 =>
valK (abuild tab 35 [(0, k), (1, m), (2, x)]) fun x19 =>
bothK (abuildSlice tab h13 83 1 [(0, x19)]) fun x20 h21 =>
bothK (aappend tab h21 83 83 x18 x20) fun x22 h23 =>
valK (nilA t) fun x24 =>
valK (afieldAddr tab 86 x24 1) fun x25 =>
hpK (storeA tab h23 83 x25 x22) fun h26 =>
valK (nilA t) fun x27 =>
valK (afieldAddr tab 86 x27 2) fun x28 =>
valK (loadA tab h26 84 x28) fun x29 =>
valK (nilA t) fun x30 =>
valK (afieldAddr tab 86 x30 1) fun x31 =>
valK (loadA tab h26 83 x31) fun x32 =>
valK (alen tab h26 83 x32) fun x33 =>
valK (abuild tab 98 [(0, d), (1, s), (2, x33)]) fun x34 =>
bothK (abuildSlice tab h26 84 1 [(0, x34)]) fun x35 h36 =>
bothK (aappend tab h36 84 84 x29 x35) fun x37 h38 =>
valK (nilA t) fun x39 =>
valK (afieldAddr tab 86 x39 2) fun x40 =>
hpK (storeA tab h38 84 x40 x37) fun h41 =>
valK (nilA t) fun x42 =>
valK (afieldAddr tab 86 x42 1) fun x43 =>
valK (loadA tab h41 83 x43) fun x44 =>
valK (alen tab h41 83 x44) fun x45 =>
hpK (unmark h41 []) fun h46 =>
some (.tuple [x45, (.int .i64 0)], h46)))

theorem idxB_neg (c : UInt8) : ∀ (l : Bs) (i : Nat), idxB c l i < 0 ↔ c ∉ l
  | [], i => by simp [idxB]
  | b :: l, i => by
    simp only [idxB, beq_byte, List.mem_cons, not_or]
    by_cases h : b = c
    · simp only [decide_eq_true h, cond_true]
      constructor
      · intro hh; omega
      · rintro ⟨h1, _⟩; exact absurd h.symm h1
    · simp only [decide_eq_false h, cond_false, idxB_neg c l (i + 1)]
      constructor
      · intro hh; exact ⟨fun e => h e.symm, hh⟩
      · exact fun hh => hh.2

section
variable {h0 h : AHeap} {r : Nat} {lv ev : AV} {tb : Tb} {E : List Ed} {n : Nat}

theorem RR.stepExt {qi qb : Int} {LL : List RI} (a : RR h0 h r lv ev qi qb LL E) (hx : Ext h0 h) {S' : Nat → Prop} {h' : AHeap} (s : Step (refS r lv ev) h S' h') : Ext h0 h' :=
  ⟨fun j y hy => s.keep j y (hx.keep j y hy) (fun hs => by have := (a.there hs).2; rw [this] at hy; cases hy), s.wf⟩

theorem RM.Move_run (a : RM h0 h r lv ev tb E n) (hx : Ext h0 h) (hn : n < 100) (f t : Int) (s u : Bs) :
    ∃ h', EG (.fn 44) [.ptr r 0, .int .i64 f, .str s, .int .i64 t, .str u] h = some (.int .i64 (moveE tb f s t u), h') ∧ Does h0 h r lv ev tb E n (.move f s t u) h' := by
  obtain ⟨N, hN⟩ := fuel 110
  suffices ∃ h', F44 EG N (.ptr r 0) (.int .i64 f) (.str s) (.int .i64 t) (.str u) h = some (.int .i64 (moveE tb f s t u), h') ∧ Does h0 h r lv ev tb E n (.move f s t u) h' by
    obtain ⟨h', q1, q2⟩ := this
    exact ⟨h', run44 N q1, q2⟩
  have hEl := a.lenE
  have hlast := a.last
  have e1 := a.dir_run f
  have no : moveE tb f s t u ≠ 0 → Does h0 h r lv ev tb E n (.move f s t u) h := fun hh => a.refuses hn (Ext.refl a.wf) hh
  by_cases hf : dirE tb f = 0
  · rw [hf] at e1
    have e2 := a.place_run t u
    by_cases hp : placeE tb t u = 0
    · have ht : dirE tb t = 0 := by
        unfold placeE at hp
        by_cases q : dirE tb t = 0
        · exact q
        · rw [if_neg q] at hp; exact absurd hp q
      have hnm : nameE u = 0 := by unfold placeE at hp; rw [if_pos ht] at hp; exact hp
      rw [hp] at e2
      obtain ⟨res, e3, hres⟩ := a.find_run f s
      rcases hres with ⟨rfl, h1⟩ | ⟨i, ino, rfl, h1, h2⟩
      · have hen : entryE tb f s = 5 := by simp only [entryE, h1]; rfl
        have hm1 : move1E tb f s t u = 5 := by simp only [move1E, firstE, hf, ht, hnm, hen]; rfl
        have hm : moveE tb f s t u = 5 := by simp only [moveE, hm1]; rfl
        refine ⟨h, ?_, no (by omega)⟩
        rw [hm]
        unfold F44
        simp only [jn_a, e1, bothK_s, abin_eql, decide_true, valK_s, boolK_t, e2, abin_neq, Bool.not_true, boolK_f, e3, abin_lss, show decide ((-1 : Int) < 0) = true from rfl, unmark_nil, hpK_s]
      · have hil := (List.getElem?_eq_some_iff.1 h1).1
        have ci : decide ((i : Int) < 0) = false := by rw [decide_eq_false_iff_not]; omega
        have hen : entryE tb f s = 0 := by simp only [entryE, h2]; rfl
        have hm1 : move1E tb f s t u = 0 := by simp only [move1E, firstE, hf, ht, hnm, hen, if_true]
        by_cases hsame : f = t ∧ s = u
        · have hm : moveE tb f s t u = 0 := by simp only [moveE, hm1, if_true, if_pos hsame]
          refine ⟨h, ?_, a.stays hn (Ext.refl a.wf) ?_ ?_⟩
          · rw [hm]
            unfold F44
            simp only [jn_a, e1, bothK_s, abin_eql, decide_true, valK_s, boolK_t, e2, abin_neq, Bool.not_true, boolK_f, e3, abin_lss, ci, decide_eq_true hsame.1, abin_streq, decide_eq_true hsame.2, unmark_nil, hpK_s]
          · show moveT tb f s t u = tb
            simp only [moveT, hm1, if_true, if_pos hsame]
          · show moveEd tb E f s t u = E
            simp only [moveEd, hm1, if_true, if_pos hsame]
        · have hmv : moveE tb f s t u = move2E tb f s t u := by simp only [moveE, hm1, if_true, if_neg hsame]
          obtain ⟨res, e4, hres⟩ := a.find_run t u
          -- up to the second search
          have start : ∀ {R}, (valK (abin tab .geq 3 (.int .i64 res) (.int .i64 0)) fun x18 =>
              boolK x18 (some (.int .i64 6, h)) (
              valK (nilA (.ptr r 0)) fun x20 =>
              valK (afieldAddr tab 86 x20 2) fun x21 =>
              valK (loadA tab h 84 x21) fun x22 =>
              valK (aindexAddr tab 84 x22 (.int .i64 (i : Int))) fun x23 =>
              valK (afieldAddr tab 98 x23 2) fun x24 =>
              valK (loadA tab h 3 x24) fun x25 =>
              loopN (F44_b15 EG N) N (.ptr r 0, .int .i64 t, .str u, .int .i64 (i : Int), x25, .int .i64 t, ()) [] h)) = R → F44 EG N (.ptr r 0) (.int .i64 f) (.str s) (.int .i64 t) (.str u) h = R := fun hR => by
            rw [← hR]
            unfold F44
            by_cases hft : f = t
            · have hsu : ¬ s = u := fun e => hsame ⟨hft, e⟩
              simp only [jn_a, e1, bothK_s, abin_eql, decide_true, valK_s, boolK_t, e2, abin_neq, Bool.not_true, boolK_f, e3, abin_lss, ci, decide_eq_true hft, abin_streq, decide_eq_false hsu, e4, unmark_nil, hpK_s]
            · simp only [jn_a, e1, bothK_s, abin_eql, decide_true, valK_s, boolK_t, e2, abin_neq, Bool.not_true, boolK_f, e3, abin_lss, ci, decide_eq_false hft, e4, unmark_nil, hpK_s]
          rcases hres with ⟨rfl, h3⟩ | ⟨j, y, rfl, h3, h4⟩
          · have hfr : freeE tb t u = 0 := by simp only [freeE, h3]; rfl
            have hem := (a.st.inv.find.1 h2).1
            obtain ⟨tn, htn, htn2⟩ := dirE_zero ht
            obtain ⟨e, hce, he⟩ := a.st.inv.climbE_is htn htn2 ino
            have hap : apartE tb ino t = e := by simp only [apartE, hce]
            have hm2 : move2E tb f s t u = e := by
              simp only [move2E, firstE, hfr, h2, hap, if_true]
              split
              · rename_i q; exact q.symm
              · rfl
            rw [hm2] at hmv
            obtain ⟨p, p0, p1, p2, r0, f0, f1, f2, ld⟩ := a.rr.at_e h1
            obtain ⟨l0, l1, l2⟩ := ld h (Ext.refl a.wf)
            suffices ∃ h', loopN (F44_b15 EG N) N (.ptr r 0, .int .i64 t, .str u, .int .i64 (i : Int), .int .i64 ino, .int .i64 t, ()) [] h = some (.int .i64 (moveE tb f s t u), h') ∧ Does h0 h r lv ev tb E n (.move f s t u) h' by
              obtain ⟨h', q1, q2⟩ := this
              refine ⟨h', start ?_, q2⟩
              simp only [abin_geq, valK_s, show decide ((0 : Int) ≤ -1) = false from rfl, boolK_f, nilp, fa86_2, a.rr.l_e', r0, f2, l2]
              exact q1
            rw [hmv]
            refine loop_rule (σ := AV × AV × AV × AV × AV × AV × Unit) (R := AV × AHeap) (total := tb.last.toNat + 2)
              (I := fun j st hh => hh = h ∧ j ≤ tb.last.toNat + 2 ∧ ∃ at' : Int, st = (.ptr r 0, .int .i64 t, .str u, .int .i64 (i : Int), .int .i64 ino, .int .i64 at', ()) ∧ climbE tb.nodes ino (tb.last.toNat + 2 - j) at' = some e)
              (Q := fun o => ∃ h', o = some (.int .i64 e, h') ∧ Does h0 h r lv ev tb E n (.move f s t u) h') ?_ N 0 _ _ ⟨rfl, by omega, t, rfl, hce⟩ (by omega) (by omega)
            rintro j st hh nx ⟨rfl, hj, at', rfl, hc⟩
            obtain ⟨q, hq⟩ : ∃ q, tb.last.toNat + 2 - j = q + 1 := by
              cases hqq : tb.last.toNat + 2 - j with
              | zero => rw [hqq] at hc; simp [climbE] at hc
              | succ q => exact ⟨q, rfl⟩
            rw [hq] at hc
            simp only [climbE] at hc
            by_cases ha1 : at' = 1
            · right
              rw [if_pos ha1] at hc
              have he0 : e = 0 := (Option.some.inj hc).symm
              have hm20 : move2E tb f s t u = 0 := by rw [hm2, he0]
              obtain ⟨ev', h17, e5, rr5, s5⟩ := a.rr.drop_run hx (by omega) hil
              have hdr : dropE E f s = E.eraseIdx i := dropE_erase a.st.inv.one h1
              rw [← hdr] at rr5
              have hdl := dropE_len E f s
              have b98 : abuild tab 98 [(0, .int .i64 t), (1, .str u), (2, .int .i64 ino)] = some (.agg (cellsE ⟨t, u, ino⟩)) := rfl
              obtain ⟨y, h1', ev2, h2', h3', p1, p2, p3, p4, p5⟩ := rr5.pushE (a.rr.stepExt hx s5) (by omega) ⟨t, u, ino⟩
              refine ⟨h3', ?_, a.does hn p4 (s5.trans p5) ?_ ?_⟩
              · rw [he0]
                unfold F44_b15
                simp only [abin_neq, valK_s, decide_eq_true ha1, Bool.not_true, boolK_f, e5, bothK_s, nilp, fa86_2, rr5.l_e', b98, p1, p2, p3, hpK_s, unmark_nil]
              · show listR (moveT tb f s t u) = _
                simp only [moveT, hm1, if_true, if_neg hsame, hm20, h2]
                refine listR_same rfl fun k => ?_
                refine riOf_map (g := fun nd => (fun nd : Nd => if k = ino ∧ nd.kind = 2 then { nd with up := t } else nd) ((fun nd : Nd => if k = t then { nd with ents := nd.ents ++ [(u, ino)] } else nd) (if k = f then { nd with ents := delN s nd.ents } else nd))) ?_ fun nd => ?_
                · show setUp _ _ _ _ = _
                  rw [setUp_map, addE_map, delE_map]
                  cases tb.nodes k <;> rfl
                · dsimp only
                  split <;> split <;> split <;> exact ⟨rfl, rfl, rfl⟩
              · show moveEd tb E f s t u = _
                simp only [moveEd, hm1, if_true, if_neg hsame, hm20, h2]
            · rw [if_neg ha1] at hc
              by_cases ha2 : at' = ino
              · right
                rw [if_pos ha2] at hc
                have he2 : e = 2 := (Option.some.inj hc).symm
                refine ⟨hh, ?_, no (by omega)⟩
                rw [he2]
                unfold F44_b15
                simp only [abin_neq, valK_s, decide_eq_false ha1, Bool.not_false, boolK_t, abin_eql, decide_eq_true ha2, hpK_s, unmark_nil]
              · left
                rw [if_neg ha2] at hc
                cases hna : tb.nodes at' with
                | none => rw [hna] at hc; cases hc
                | some nd =>
                  rw [hna] at hc
                  have eu := a.up_run at'
                  have hup : upT tb at' = nd.up := by simp only [upT, hna]
                  rw [hup] at eu
                  refine ⟨by omega, _, hh, ?_, rfl, by omega, nd.up, rfl, by rw [show tb.last.toNat + 2 - (j + 1) = q by omega]; exact hc⟩
                  unfold F44_b15
                  simp only [abin_neq, valK_s, decide_eq_false ha1, Bool.not_false, boolK_t, abin_eql, decide_eq_false ha2, boolK_f, eu, bothK_s]
          · have hfr : freeE tb t u = 6 := by simp only [freeE, h4]; rfl
            have hm2 : move2E tb f s t u = 6 := by simp only [move2E, firstE, hfr]; rfl
            rw [hm2] at hmv
            have cj : decide ((0 : Int) ≤ (j : Int)) = true := by rw [decide_eq_true_eq]; omega
            refine ⟨h, start ?_, no (by omega)⟩
            simp only [abin_geq, valK_s, cj, boolK_t, hmv]
    · have hm1 : move1E tb f s t u = placeE tb t u := by
        unfold placeE at hp ⊢
        by_cases q : dirE tb t = 0
        · rw [if_pos q] at hp ⊢
          simp only [move1E, firstE, hf, q, if_true, if_neg hp]
        · rw [if_neg q]
          simp only [move1E, firstE, hf, if_true, if_neg q]
      have hm : moveE tb f s t u = placeE tb t u := by
        have hm1' : ¬ move1E tb f s t u = 0 := by rw [hm1]; exact hp
        unfold moveE; rw [if_neg hm1', hm1]
      refine ⟨h, ?_, no (by omega)⟩
      rw [hm]
      unfold F44
      simp only [jn_a, e1, bothK_s, abin_eql, decide_true, valK_s, boolK_t, e2, abin_neq, decide_eq_false hp, Bool.not_false, unmark_nil, hpK_s]
  · have hm1 : move1E tb f s t u = dirE tb f := by simp only [move1E, firstE, if_true, if_neg hf]
    have hm : moveE tb f s t u = dirE tb f := by
      have hm1' : ¬ move1E tb f s t u = 0 := by rw [hm1]; exact hf
      unfold moveE; rw [if_neg hm1', hm1]
    refine ⟨h, ?_, no (by omega)⟩
    rw [hm]
    unfold F44
    simp only [jn_a, e1, bothK_s, abin_eql, decide_eq_false hf, valK_s, boolK_f, abin_neq, Bool.not_false, boolK_t, unmark_nil, hpK_s]
end
end Go.Am

set_option linter.unusedVariables false
set_option linter.unusedSimpArgs false
namespace Go.Am
open Go Go.Proofs

section
variable {h0 h : AHeap} {r : Nat} {lv ev : AV} {tb : Tb} {E : List Ed} {n : Nat}

theorem RM.R41_run (a : RM h0 h r lv ev tb E n) (hx : Ext h0 h) (hn : n < 100) {d k m : Int} {s x : Bs} (hd : dirE tb d = 0) (hnm : nameE s = 0) (hlk : likeE k m x = 0) (hxl : x.length < 1000000) :
    ∃ h', R41 EG (.ptr r 0) (.int .i64 d) (.str s) (.int .i64 k) (.int .i64 m) (.str x) h = some (.tuple [.int .i64 (if makeE tb d s k m x = 0 then tb.last + 1 else 0), .int .i64 (makeE tb d s k m x)], h') ∧ Does h0 h r lv ev tb E n (.make d s k m x) h' := by
  have hEl := a.lenE
  have hlast := a.last
  have hL := a.lenL
  obtain ⟨res, e1, hres⟩ := a.find_run d s
  have mk : makeE tb d s k m x = firstE [freeE tb d s, roomE tb 1 x.length] := by simp only [makeE, firstE, hd, hnm, hlk, if_true]
  rcases hres with ⟨rfl, h1⟩ | ⟨j, y, rfl, h1, h2⟩
  · have hfr : freeE tb d s = 0 := by simp only [freeE, h1]; rfl
    obtain ⟨h2, e2, y2⟩ := a.room_run (i := 1) (b := (x.length : Int)) (by omega) (by omega)
    have a2 := a.ext y2
    have hx2 := hx.trans y2
    by_cases hrm : roomE tb 1 x.length = 0
    · have hm : makeE tb d s k m x = 0 := by rw [mk]; simp only [firstE, hfr, hrm, if_true]
      have b35 : abuild tab 35 [(0, .int .i64 k), (1, .int .i64 m), (2, .str x)] = some (.agg (cellsI ⟨k, m, x⟩)) := rfl
      obtain ⟨y, h21, lv', h23, h26, p1, p2, p3, rr3, s3⟩ := a2.rr.pushL hx2 (by omega) ⟨k, m, x⟩
      have hx3 := a2.rr.stepExt hx2 s3
      have nl : alen tab h26 83 lv' = some (.int .i64 (tb.last + 1)) := by
        rw [rr3.n_l, List.length_append]
        simp only [List.length_cons, List.length_nil]
        congr 2; omega
      have b98 : abuild tab 98 [(0, .int .i64 d), (1, .str s), (2, .int .i64 (tb.last + 1))] = some (.agg (cellsE ⟨d, s, tb.last + 1⟩)) := rfl
      obtain ⟨y', h36, ev', h38, h41, q1, q2, q3, rr4, s4⟩ := rr3.pushE hx3 (by omega) ⟨d, s, tb.last + 1⟩
      have nl2 : alen tab h41 83 lv' = some (.int .i64 (tb.last + 1)) := by
        rw [rr4.n_l, List.length_append]
        simp only [List.length_cons, List.length_nil]
        congr 2; omega
      refine ⟨h41, ?_, a.does hn rr4 ((y2.step.trans s3).trans s4) ?_ (if_pos hm)⟩
      · unfold R41
        simp only [e1, bothK_s, abin_geq, show decide ((0 : Int) ≤ -1) = false from rfl, valK_s, boolK_f, alen9, e2, decide_eq_true hrm, aun_not, Bool.not_true, nilp, fa86_1, fa86_2, a2.rr.l_l, b35, p1, p2, p3, hpK_s, rr3.l_e', rr3.l_l, nl, b98, q1, q2, q3, rr4.l_l, nl2, unmark_nil, hm, if_true]
      · show listR (makeT tb d s k m x) = _
        unfold makeT
        rw [if_pos hm]
        obtain ⟨dn, hdn, hd2⟩ := dirE_zero hd
        have hfresh : tb.nodes (tb.last + 1) = none := a.st.inv.fresh _ (by omega)
        have hdne : d ≠ tb.last + 1 := fun e => by rw [e, hfresh] at hdn; cases hdn
        refine listR_add (by omega) rfl (fun q hq => ?_) ?_
        · refine riOf_map (g := fun nd => if q = d then { nd with ents := nd.ents ++ [(s, tb.last + 1)] } else nd) ?_ fun nd => ?_
          · rw [make_nodes, if_neg (by omega)]
          · split <;> exact ⟨rfl, rfl, rfl⟩
        · have : (madeT tb d s k m x).nodes (tb.last + 1) = some (freshNd d k m x) := by
            rw [make_nodes, if_pos rfl]
            simp only [Option.map_some, if_neg (fun h : tb.last + 1 = d => hdne h.symm)]
          simp only [riOf, this, freshNd]
    · have hr10 : roomE tb 1 x.length = 10 := by
        unfold roomE at hrm ⊢
        split
        · rename_i q; exact absurd (if_pos q) hrm
        · rfl
      have hm : makeE tb d s k m x = 10 := by rw [mk]; simp only [firstE, hfr, hr10]; rfl
      refine ⟨h2, ?_, a.refuses hn y2 (show makeE tb d s k m x ≠ 0 by omega)⟩
      unfold R41
      simp only [e1, bothK_s, abin_geq, show decide ((0 : Int) ≤ -1) = false from rfl, valK_s, boolK_f, alen9, e2, decide_eq_false hrm, aun_not, Bool.not_false, boolK_t, unmark_nil, hpK_s, hm]
      rfl
  · have hfr : freeE tb d s = 6 := by simp only [freeE, h2]; rfl
    have hm : makeE tb d s k m x = 6 := by rw [mk]; simp only [firstE, hfr]; rfl
    have cj : decide ((0 : Int) ≤ (j : Int)) = true := by rw [decide_eq_true_eq]; omega
    refine ⟨h, ?_, a.refuses hn (Ext.refl a.wf) (show makeE tb d s k m x ≠ 0 by omega)⟩
    unfold R41
    simp only [e1, bothK_s, abin_geq, cj, valK_s, boolK_t, unmark_nil, hpK_s, hm]
    rfl

theorem good_of {k m : Int} {x : Bs} (h : goodLike k m x = true) : likeE k m x = 0 := if_pos h
theorem bad_of {k m : Int} {x : Bs} (h : goodLike k m x = false) : likeE k m x = 2 := by unfold likeE; rw [h]; rfl

/-- How an inode may look: the document's checks. -/
theorem F41_like {k m : Int} {x : Bs} {A0 A1 A2 : AV} {h1 : AHeap} (e1 : EG (.fn 67) [A0, A1, A2] h = some (.int .i64 0, h1)) :
    (goodLike k m x = true ∧ F41 EG 0 A0 A1 A2 (.int .i64 k) (.int .i64 m) (.str x) h = R41 EG A0 A1 A2 (.int .i64 k) (.int .i64 m) (.str x) h1) ∨
    (goodLike k m x = false ∧ F41 EG 0 A0 A1 A2 (.int .i64 k) (.int .i64 m) (.str x) h = some (.tuple [.int .i64 0, .int .i64 2], h1)) := by
  by_cases k1 : k < 1
  · right
    refine ⟨by simp only [goodLike, decide_eq_false (show ¬ k = 1 by omega), decide_eq_false (show ¬ k = 2 by omega), decide_eq_false (show ¬ k = 3 by omega), Bool.false_and, Bool.or_false], ?_⟩
    unfold F41
    simp only [jn_a, e1, bothK_s, abin_neq, decide_true, Bool.not_true, valK_s, boolK_f, abin_lss, decide_eq_true k1, boolK_t]
  by_cases k3 : 3 < k
  · right
    refine ⟨by simp only [goodLike, decide_eq_false (show ¬ k = 1 by omega), decide_eq_false (show ¬ k = 2 by omega), decide_eq_false (show ¬ k = 3 by omega), Bool.false_and, Bool.or_false], ?_⟩
    unfold F41
    simp only [jn_a, e1, bothK_s, abin_neq, decide_true, Bool.not_true, valK_s, boolK_f, abin_lss, decide_eq_false k1, abin_gtr, decide_eq_true k3, boolK_t]
  by_cases m0 : m < 0
  · right
    refine ⟨by simp only [goodLike, decide_eq_false (show ¬ 0 ≤ m by omega), Bool.and_false, Bool.false_and], ?_⟩
    unfold F41
    simp only [jn_a, e1, bothK_s, abin_neq, decide_true, Bool.not_true, valK_s, boolK_f, abin_lss, decide_eq_false k1, abin_gtr, decide_eq_false k3, decide_eq_true m0, boolK_t]
  by_cases m5 : 511 < m
  · right
    refine ⟨by simp only [goodLike, decide_eq_false (show ¬ m ≤ 511 by omega), Bool.and_false], ?_⟩
    unfold F41
    simp only [jn_a, e1, bothK_s, abin_neq, decide_true, Bool.not_true, valK_s, boolK_f, abin_lss, decide_eq_false k1, abin_gtr, decide_eq_false k3, decide_eq_false m0, decide_eq_true m5, boolK_t]
  have mm : (decide (0 ≤ m) = true) ∧ (decide (m ≤ 511) = true) := ⟨decide_eq_true (by omega), decide_eq_true (by omega)⟩
  have hk : k = 1 ∨ k = 2 ∨ k = 3 := by omega
  have c12 : decide ((1 : Int) = 2) = false := rfl
  have c13 : decide ((1 : Int) = 3) = false := rfl
  have c23 : decide ((2 : Int) = 3) = false := rfl
  have c32 : decide ((3 : Int) = 2) = false := rfl
  have c31 : decide ((3 : Int) = 1) = false := rfl
  have c21 : decide ((2 : Int) = 1) = false := rfl
  rcases hk with rfl | rfl | rfl
  · left
    refine ⟨by simp only [goodLike, decide_true, Bool.true_or, mm.1, mm.2, Bool.and_self], ?_⟩
    unfold F41 R41
    simp only [jn_a, e1, bothK_s, abin_neq, decide_true, Bool.not_true, valK_s, boolK_f, abin_lss, decide_eq_false k1, abin_gtr, decide_eq_false k3, decide_eq_false m0, decide_eq_false m5, abin_eql, c12, c13, skipK_b]
  · by_cases hx : x = []
    · left
      refine ⟨by simp only [goodLike, c21, decide_true, decide_eq_true hx, Bool.true_or, Bool.false_or, Bool.and_self, mm.1, mm.2], ?_⟩
      unfold F41 R41
      simp only [jn_a, e1, bothK_s, abin_neq, decide_true, Bool.not_true, valK_s, boolK_f, boolK_t, abin_lss, decide_eq_false k1, abin_gtr, decide_eq_false k3, decide_eq_false m0, decide_eq_false m5, abin_eql, c23, skipK_b, abin_strne, decide_eq_true hx]
    · right
      refine ⟨by simp only [goodLike, c21, c23, decide_true, decide_eq_false hx, Bool.and_false, Bool.false_or, Bool.false_and, Bool.or_false], ?_⟩
      unfold F41
      simp only [jn_a, e1, bothK_s, abin_neq, decide_true, Bool.not_true, Bool.not_false, valK_s, boolK_f, boolK_t, abin_lss, decide_eq_false k1, abin_gtr, decide_eq_false k3, decide_eq_false m0, decide_eq_false m5, abin_eql, skipK_b, abin_strne, decide_eq_false hx]
  · by_cases hx : x = []
    · right
      refine ⟨by simp only [goodLike, c31, c32, decide_true, decide_eq_true hx, Bool.not_true, Bool.and_false, Bool.false_and, Bool.false_or, Bool.or_false], ?_⟩
      unfold F41
      simp only [jn_a, e1, bothK_s, abin_neq, decide_true, Bool.not_true, valK_s, boolK_f, boolK_t, abin_lss, decide_eq_false k1, abin_gtr, decide_eq_false k3, decide_eq_false m0, decide_eq_false m5, abin_eql, c32, skipK_b, abin_streq, decide_eq_true hx]
    · by_cases hl : 255 < x.length
      · right
        have cl : decide ((255 : Int) < (x.length : Int)) = true := by rw [decide_eq_true_eq]; omega
        refine ⟨by simp only [goodLike, c31, c32, decide_eq_false (show ¬ x.length ≤ 255 by omega), Bool.and_false, Bool.false_and, Bool.false_or, Bool.or_false], ?_⟩
        unfold F41
        simp only [jn_a, e1, bothK_s, abin_neq, decide_true, Bool.not_true, valK_s, boolK_f, boolK_t, abin_lss, decide_eq_false k1, abin_gtr, decide_eq_false k3, decide_eq_false m0, decide_eq_false m5, abin_eql, c32, skipK_b, abin_streq, decide_eq_false hx, alen9, cl]
      · have cl : decide ((255 : Int) < (x.length : Int)) = false := by rw [decide_eq_false_iff_not]; omega
        have hh := has_run (h := h1) x 0 (by omega)
        rw [show (((0 : UInt8).toNat : Int)) = 0 from rfl] at hh
        by_cases hz : (0 : UInt8) ∈ x
        · right
          have hi : decide (idxB 0 x 0 < 0) = false := by rw [decide_eq_false_iff_not, idxB_neg]; exact fun q => q hz
          refine ⟨by simp only [goodLike, c31, c32, hi, Bool.and_false, Bool.false_and, Bool.false_or, Bool.or_false], ?_⟩
          unfold F41
          simp only [jn_a, e1, bothK_s, abin_neq, decide_true, Bool.not_true, valK_s, boolK_f, boolK_t, abin_lss, decide_eq_false k1, abin_gtr, decide_eq_false k3, decide_eq_false m0, decide_eq_false m5, abin_eql, c32, skipK_b, abin_streq, decide_eq_false hx, alen9, cl, hh, decide_eq_true hz]
        · left
          have hi : decide (idxB 0 x 0 < 0) = true := by rw [decide_eq_true_eq, idxB_neg]; exact hz
          refine ⟨by simp only [goodLike, c31, c32, hi, decide_true, decide_eq_false hx, Bool.not_false, decide_eq_true (show x.length ≤ 255 by omega), Bool.and_self, Bool.false_and, Bool.or_true, mm.1, mm.2], ?_⟩
          unfold F41 R41
          simp only [jn_a, e1, bothK_s, abin_neq, decide_true, Bool.not_true, valK_s, boolK_f, boolK_t, abin_lss, decide_eq_false k1, abin_gtr, decide_eq_false k3, decide_eq_false m0, decide_eq_false m5, abin_eql, c32, skipK_b, abin_streq, decide_eq_false hx, alen9, cl, hh, decide_eq_false hz]

theorem RM.Make_run (a : RM h0 h r lv ev tb E n) (hx : Ext h0 h) (hn : n < 100) (d k m : Int) (s x : Bs) (hxl : x.length < 1000000) :
    ∃ h', EG (.fn 41) [.ptr r 0, .int .i64 d, .str s, .int .i64 k, .int .i64 m, .str x] h = some (.tuple [.int .i64 (if makeE tb d s k m x = 0 then tb.last + 1 else 0), .int .i64 (makeE tb d s k m x)], h') ∧ Does h0 h r lv ev tb E n (.make d s k m x) h' := by
  have e1 := a.place_run d s
  by_cases hp : placeE tb d s = 0
  · have hd : dirE tb d = 0 := by
      unfold placeE at hp
      by_cases q : dirE tb d = 0
      · exact q
      · rw [if_neg q] at hp; exact absurd hp q
    have hnm : nameE s = 0 := by unfold placeE at hp; rw [if_pos hd] at hp; exact hp
    rw [hp] at e1
    rcases F41_like (k := k) (m := m) (x := x) e1 with ⟨g, q⟩ | ⟨g, q⟩
    · obtain ⟨h', p1, p2⟩ := a.R41_run hx hn hd hnm (good_of g) hxl
      exact ⟨h', run41 0 (by rw [q]; exact p1), p2⟩
    · have hm : makeE tb d s k m x = 2 := by simp only [makeE, firstE, hd, hnm, bad_of g]; rfl
      refine ⟨h, run41 0 (by rw [q, hm]; rfl), a.refuses hn (Ext.refl a.wf) (show makeE tb d s k m x ≠ 0 by omega)⟩
  · have hm : makeE tb d s k m x = placeE tb d s := by
      unfold placeE at hp ⊢
      by_cases q : dirE tb d = 0
      · rw [if_pos q] at hp ⊢
        simp only [makeE, firstE, q, if_true, if_neg hp]
      · rw [if_neg q]
        simp only [makeE, firstE, if_true, if_neg q]
    refine ⟨h, run41 0 ?_, a.refuses hn (Ext.refl a.wf) (show makeE tb d s k m x ≠ 0 by omega)⟩
    rw [hm, if_neg hp]
    unfold F41
    simp only [jn_a, e1, bothK_s, abin_neq, decide_eq_false hp, Bool.not_false, valK_s, boolK_t]
end

/-- The document's New. -/
theorem newR_run {h : AHeap} (hw : h.WF) (qi qb : Int) : (newT qi qb = none ∧ ∃ h', EG (.fn 20) [.agg [.int .i64 qi, .int .i64 qb]] h = some (.nilptr, h') ∧ Ext h h') ∨
    ∃ tb, newT qi qb = some tb ∧ ∃ r lv h', EG (.fn 20) [.agg [.int .i64 qi, .int .i64 qb]] h = some (.ptr r 0, h') ∧ RM h h' r lv .nilslice tb [] 0 ∧ Ext h h' := by
  have b0 : boxA h (.agg [.int .i64 qi, .int .i64 qb]) = some (.ptr h.next 0, h.add (.cells [.int .i64 qi, .int .i64 qb] true)) := rfl
  have g0 : (h.add (.cells [.int .i64 qi, .int .i64 qb] true)).get h.next = some (.cells [.int .i64 qi, .int .i64 qb] true) := AHeap.get_add_self _ _
  have x0 : Ext h (h.add (.cells [.int .i64 qi, .int .i64 qb] true)) := (Ext.refl hw).add _
  generalize h.add (.cells [.int .i64 qi, .int .i64 qb] true) = h1 at b0 g0 x0
  generalize h.next = b at b0 g0
  obtain ⟨l0, l1, l2⟩ := ld_quo g0
  by_cases c1 : qi < 1
  · left
    refine ⟨if_pos (by omega), h1, run20 0 ?_, x0⟩
    unfold F20
    simp only [jn_a, b0, bothK_s, fa26_00, valK_s, l1, abin_lss, decide_eq_true c1, boolK_t]
  by_cases c2 : 1048576 < qi
  · left
    refine ⟨if_pos (by omega), h1, run20 0 ?_, x0⟩
    unfold F20
    simp only [jn_a, b0, bothK_s, fa26_00, valK_s, l1, abin_lss, decide_eq_false c1, boolK_f, abin_gtr, decide_eq_true c2, boolK_t]
  by_cases c3 : qb < 0
  · left
    refine ⟨if_pos (by omega), h1, run20 0 ?_, x0⟩
    unfold F20
    simp only [jn_a, b0, bothK_s, fa26_00, fa26_01, valK_s, l1, l2, abin_lss, decide_eq_false c1, boolK_f, abin_gtr, decide_eq_false c2, decide_eq_true c3, boolK_t]
  by_cases c4 : 1073741824 < qb
  · left
    refine ⟨if_pos (by omega), h1, run20 0 ?_, x0⟩
    unfold F20
    simp only [jn_a, b0, bothK_s, fa26_00, fa26_01, valK_s, l1, l2, abin_lss, decide_eq_false c1, boolK_f, abin_gtr, decide_eq_false c2, decide_eq_false c3, decide_eq_true c4, boolK_t]
  right
  have hn : newT qi qb = some ⟨qi, qb, 1, 0, 1, upd (fun _ => none) 1 (some ⟨2, 493, [], 1, 1, []⟩)⟩ := if_neg (by omega)
  have b35 : abuild tab 35 [(0, .int .i64 2), (1, .int .i64 493)] = some (.agg (cellsI ⟨2, 493, []⟩)) := rfl
  obtain ⟨ty, t1, t2, t3, t4, t5⟩ := ty35x
  have bs : ∃ y h2, abuildSlice tab h1 83 1 [(0, .agg (cellsI ⟨2, 493, []⟩))] = some (y, h2) ∧ Own h h2 y 1 4 (cellsI ⟨2, 493, []⟩) ∧ Ext h1 h2 ∧ (∀ j, h1.get j ≠ none → ∀ n e, y ≠ .slice j 0 n e) ∧ (∃ o, y = .slice o 0 1 4) := by
    refine ⟨.slice h1.next 0 1 4, h1.add (.cells (cellsI ⟨2, 493, []⟩) true), rfl, ⟨rfl, .inr ⟨_, rfl, AHeap.get_add_self _ _, x0.none x0.wf.new⟩⟩, (Ext.refl x0.wf).add _, fun j hj n e he => ?_, _, rfl⟩
    simp only [AV.slice.injEq] at he
    rw [← he.1] at hj
    exact hj x0.wf.new
  obtain ⟨y, h2, q1, q2, q3, q4, o', q5⟩ := bs
  have hyc : y.cells = [y] := by rw [q5]; rfl
  have hyo : y.one = true := by rw [q5]; rfl
  have b86 : abuild tab 86 [(0, .agg [.int .i64 qi, .int .i64 qb]), (1, y)] = some (.agg [.int .i64 qi, .int .i64 qb, y, .nilslice]) := by rw [q5]; rfl
  have bx : boxA h2 (.agg [.int .i64 qi, .int .i64 qb, y, .nilslice]) = some (.ptr h2.next 0, h2.add (.cells [.int .i64 qi, .int .i64 qb, y, .nilslice] true)) := by rw [q5]; rfl
  have xx : Ext h2 (h2.add (.cells [.int .i64 qi, .int .i64 qb, y, .nilslice] true)) := (Ext.refl q3.wf).add _
  have X2 := x0.trans q3
  refine ⟨_, hn, h2.next, y, h2.add (.cells [.int .i64 qi, .int .i64 qb, y, .nilslice] true), run20 0 ?_, ⟨?_, St.new hn, by omega, xx.wf⟩, X2.trans xx⟩
  · unfold F20
    simp only [jn_a, b0, bothK_s, fa26_00, fa26_01, valK_s, l0, l1, l2, abin_lss, decide_eq_false c1, boolK_f, abin_gtr, decide_eq_false c2, decide_eq_false c3, decide_eq_false c4, b35, q1, b86, bx, unmark_nil, hpK_s]
  · have hL : listR ⟨qi, qb, 1, 0, 1, upd (fun _ => none) 1 (some ⟨2, 493, [], 1, 1, []⟩)⟩ = [⟨2, 493, []⟩] := rfl
    rw [hL]
    exact {
      top := AHeap.get_add_self _ _
      lown := q2.ext xx
      eown := ⟨rfl, .inl ⟨rfl, rfl⟩⟩
      rnew := X2.none q3.wf.new
      r_l := fun n e he => by
        rcases q2.2 with ⟨_, w⟩ | ⟨o, w1, w2, _⟩
        · omega
        · rw [w1] at he
          simp only [AV.slice.injEq] at he
          rw [he.1] at w2
          rw [q3.wf.new] at w2; cases w2
      r_e := fun n e he => by cases he
      l_e := fun j n e n' e' _ he => by cases he }
end Go.Am

set_option linter.unusedVariables false
set_option linter.unusedSimpArgs false
namespace Go.Am
open Go Go.Proofs

/-- Both tables, beside each other. -/
structure PS (h0 h : AHeap) (S : Nat → Prop) (o : Nat) (tb : Tb) (L : Lay) (r : Nat) (lv ev : AV) (E : List Ed) (n : Nat) : Prop where
  tr : TR S h o tb L
  far : ∀ j, S j → h0.get j = none
  ext : Ext h0 h
  rm : RM h0 h r lv ev tb E n
  dis : ∀ j, S j → ¬ refS r lv ev j

section
variable {h0 h : AHeap} {S : Nat → Prop} {o : Nat} {tb : Tb} {L : Lay} {r : Nat} {lv ev : AV} {E : List Ed} {n : Nat}

theorem PS.grow (a : PS h0 h S o tb L r lv ev E n) {h' : AHeap} (x : Ext h h') : PS h0 h' S o tb L r lv ev E n := ⟨a.tr.ext x, a.far, a.ext.trans x, a.rm.ext x, a.dis⟩
theorem PS.wf (a : PS h0 h S o tb L r lv ev E n) : h.WF := a.ext.wf

/-- The table has changed, the document's not yet. -/
theorem PS.mid (a : PS h0 h S o tb L r lv ev E n) {S' : Nat → Prop} {h' : AHeap} (s : Step S h S' h') : RM h0 h' r lv ev tb E n ∧ Ext h0 h' :=
  ⟨⟨a.rm.rr.kept fun j y hj hy => s.keep j y hy fun hs => a.dis j hs hj, a.rm.st, a.rm.small, s.wf⟩, ⟨fun j y hy => s.keep j y (a.ext.keep j y hy) (fun hs => by rw [a.far j hs] at hy; cases hy), s.wf⟩⟩

theorem PS.act (a : PS h0 h S o tb L r lv ev E n) (x : Act) {S' : Nat → Prop} {L' : Lay} {h' : AHeap} (t : TR S' h' o (actT tb x) L') (s : Step S h S' h') {h'' : AHeap} (d : Does h0 h' r lv ev tb E n x h'') :
    ∃ lv' ev', PS h0 h'' S' o (actT tb x) L' r lv' ev' (actEd tb E x) (n + 1) ∧ ∀ c y, h.get c = some y → ¬ S c → ¬ refS r lv ev c → h''.get c = some y ∧ ¬ S' c ∧ ¬ refS r lv' ev' c := by
  obtain ⟨lv', ev', rm', s'⟩ := d
  obtain ⟨m1, m2⟩ := a.mid s
  have dis1 : ∀ j, S' j → ¬ refS r lv ev j := fun j hj hr => by
    rcases s.new j hj with q | q
    · exact a.dis j q hr
    · exact (a.rm.rr.there hr).1 q
  refine ⟨lv', ev', ⟨t.kept fun j y hj hy => s'.keep j y hy (dis1 j hj), fun j hj => ?_, m1.rr.stepExt m2 s', rm', fun j hj hr => ?_⟩, fun c y hy n1 n2 => ?_⟩
  · rcases s.new j hj with q | q
    · exact a.far j q
    · exact a.ext.none q
  · rcases s'.new j hr with q | q
    · exact dis1 j hj q
    · exact t.there j hj q
  · obtain ⟨q1, q2⟩ := s.beside hy n1
    obtain ⟨q3, q4⟩ := s'.beside q1 n2
    exact ⟨q3, q2, q4⟩

/-- What lies beside both. -/
theorem PS.beside (a : PS h0 h S o tb L r lv ev E n) {c : Nat} {h1 : AHeap} (x : Ext h h1) (hc : h.get c = none) : ¬ S c ∧ ¬ refS r lv ev c :=
  ⟨fun hs => a.tr.there c hs hc, fun hr => (a.rm.rr.there hr).1 hc⟩

/-! ### An act, as it is handed over -/

/-- Seven cells. -/
structure A7 where
  w : Int
  a : Int
  b : Int
  m : Int
  nm : Bs
  as' : Bs
  da : Bs

def c7 (x : A7) : List AV := [.int .i64 x.w, .int .i64 x.a, .int .i64 x.b, .int .i64 x.m, .str x.nm, .str x.as', .str x.da]

theorem ld7 {h : AHeap} {c : Nat} {x : A7} (g : h.get c = some (.cells (c7 x) true)) : loadA tab h 3 (.ptr c 0) = some (.int .i64 x.w) ∧ loadA tab h 3 (.ptr c 1) = some (.int .i64 x.a) ∧ loadA tab h 3 (.ptr c 2) = some (.int .i64 x.b) ∧ loadA tab h 3 (.ptr c 3) = some (.int .i64 x.m) ∧
    loadA tab h 9 (.ptr c 4) = some (.str x.nm) ∧ loadA tab h 9 (.ptr c 5) = some (.str x.as') ∧ loadA tab h 9 (.ptr c 6) = some (.str x.da) :=
  ⟨loadA_cell ty3 rfl g rfl, loadA_cell ty3 rfl g rfl, loadA_cell ty3 rfl g rfl, loadA_cell ty3 rfl g rfl, loadA_cell ty9 rfl g rfl, loadA_cell ty9 rfl g rfl, loadA_cell ty9 rfl g rfl⟩

theorem ty54 : tab.get 54 = some ⟨.ptr, 1, 8, false, .nilptr⟩ := rfl

theorem take_300 {s : Bs} : ∃ m, amin (.int .i64 (s.length : Int)) (.int .i64 300) = some (.int .i64 (m : Nat)) ∧ aslice tab 9 (.str s) none (some (.int .i64 (m : Nat))) = some (.str (s.take 300)) := by
  refine ⟨min s.length 300, ?_, ?_⟩
  · have : amin (.int .i64 (s.length : Int)) (.int .i64 300) = some (.int .i64 (bif decide ((300 : Int) < (s.length : Int)) then 300 else (s.length : Int))) := rfl
    rw [this]
    by_cases h : 300 < s.length
    · have h1 : decide ((300 : Int) < (s.length : Int)) = true := by rw [decide_eq_true_eq]; omega
      rw [h1]; congr 2; simp only [cond_true]; omega
    · have h1 : decide ((300 : Int) < (s.length : Int)) = false := by rw [decide_eq_false_iff_not]; omega
      rw [h1]; congr 2; simp only [cond_false]; omega
  · have e1 : upTo (some (.int .i64 ((min s.length 300 : Nat) : Int))) s.length s.length = some (min s.length 300) := by
      show (bif Nat.ble (min s.length 300) s.length then some (min s.length 300) else none) = _
      rw [Nat.ble_eq_true_of_le (Nat.min_le_left _ _)]; rfl
    simp only [aslice, ty9, e1]
    show some (AV.str ((s.take (min s.length 300)).drop 0)) = _
    rw [List.drop_zero, Nat.min_comm, ← List.take_eq_take_min]

theorem do_run (a : PS h0 h S o tb L r lv ev E n) (hn : n < 100) (x : A7) :
    ∃ h' S' tb' L' lv' ev' E', EG (.fn 21) [.agg [.ptr o 0, .ptr r 0], .agg (c7 x)] h = some (.bool true, h') ∧ PS h0 h' S' o tb' L' r lv' ev' E' (n + 1) ∧ ∀ c y, h.get c = some y → ¬ S c → ¬ refS r lv ev c → h'.get c = some y ∧ ¬ S' c ∧ ¬ refS r lv' ev' c := by
  have b0 : boxA h (.agg [.ptr o 0, .ptr r 0]) = some (.ptr h.next 0, h.add (.cells [.ptr o 0, .ptr r 0] true)) := rfl
  have g0 : (h.add (.cells [.ptr o 0, .ptr r 0] true)).get h.next = some (.cells [.ptr o 0, .ptr r 0] true) := AHeap.get_add_self _ _
  have x0 : Ext h (h.add (.cells [.ptr o 0, .ptr r 0] true)) := (Ext.refl a.wf).add _
  generalize h.add (.cells [.ptr o 0, .ptr r 0] true) = h1 at b0 g0 x0
  generalize h.next = c0 at b0 g0
  have b2 : boxA h1 (.agg (c7 x)) = some (.ptr h1.next 0, h1.add (.cells (c7 x) true)) := rfl
  have g2 : (h1.add (.cells (c7 x) true)).get h1.next = some (.cells (c7 x) true) := AHeap.get_add_self _ _
  have x2 : Ext h1 (h1.add (.cells (c7 x) true)) := (Ext.refl x0.wf).add _
  have nw2 := x0.wf.new
  generalize h1.add (.cells (c7 x) true) = h3 at b2 g2 x2
  generalize h1.next = c at b2 g2 nw2
  have f0 : afieldAddr tab 57 (.ptr c0 0) 0 = some (.ptr c0 0) := rfl
  have f1 : afieldAddr tab 57 (.ptr c0 0) 1 = some (.ptr c0 1) := rfl
  have k0 := x2.keep _ _ g0
  have m0 : loadA tab h3 23 (.ptr c0 0) = some (.ptr o 0) := loadA_cell ty23 rfl k0 rfl
  have m1 : loadA tab h3 54 (.ptr c0 1) = some (.ptr r 0) := loadA_cell ty54 rfl k0 rfl
  have p0 : afieldAddr tab 60 (.ptr c 0) 0 = some (.ptr c 0) := rfl
  have p1 : afieldAddr tab 60 (.ptr c 0) 1 = some (.ptr c 1) := rfl
  have p2 : afieldAddr tab 60 (.ptr c 0) 2 = some (.ptr c 2) := rfl
  have p3 : afieldAddr tab 60 (.ptr c 0) 3 = some (.ptr c 3) := rfl
  have p4 : afieldAddr tab 60 (.ptr c 0) 4 = some (.ptr c 4) := rfl
  have p5 : afieldAddr tab 60 (.ptr c 0) 5 = some (.ptr c 5) := rfl
  have p6 : afieldAddr tab 60 (.ptr c 0) 6 = some (.ptr c 6) := rfl
  obtain ⟨_, _, _, _, _, _, l6⟩ := ld7 g2
  obtain ⟨mm, t1, t2⟩ := take_300 (s := x.da)
  have st : storeA tab h3 9 (.ptr c 6) (.str (x.da.take 300)) = some (h3.put c (.cells (c7 { x with da := x.da.take 300 }) true)) := by
    simp only [storeA, astore, g2, ty9]; rfl
  have hc0 : h.get c = none := x0.none nw2
  have x4 : Ext h (h3.put c (.cells (c7 { x with da := x.da.take 300 }) true)) := (x0.trans x2).put hc0 g2 _
  have g4 : (h3.put c (.cells (c7 { x with da := x.da.take 300 }) true)).get c = some (.cells (c7 { x with da := x.da.take 300 }) true) := AHeap.get_put_self _ _ _
  generalize h3.put c (.cells (c7 { x with da := x.da.take 300 }) true) = h4 at st x4 g4
  have a4 := a.grow x4
  obtain ⟨nS, nR⟩ := a.beside x4 hc0
  have hdl : (x.da.take 300).length ≤ 300 := by simp; omega
  obtain ⟨w, A, B, m, nm, as', da⟩ := x
  dsimp only at *
  generalize da.take 300 = da' at *
  obtain ⟨l0, l1, l2, l3, l4, l5, l6'⟩ := ld7 g4
  have any : ∀ s : Bs, s.length ≤ 56 → AnyOK s := fun s hs => anyOK (by omega)
  have ns : n ≤ 1000000 := by omega
  by_cases w0 : w = 0 ∨ w = 1 ∨ w = 2
  · obtain ⟨S5, L5, h5, e5, t5, s5⟩ := a.rm.st.run_make ns a4.tr a4.wf (dir := A) (name := nm) (kind := B) (mode := m) (data := da') (any nm) (by omega)
    obtain ⟨g5, n5⟩ := s5.beside g4 nS
    obtain ⟨l0', l1', l2', l3', l4', l5', l6''⟩ := ld7 g5
    obtain ⟨r5, x5⟩ := a4.mid s5
    obtain ⟨h6, e6, d6⟩ := r5.Make_run x5 hn A B m nm da' (by omega)
    obtain ⟨lv', ev', a6, b6⟩ := a4.act (.make A nm B m da') t5 s5 d6
    refine ⟨h6, S5, _, L5, lv', ev', _, run21 0 ?_, a6, fun c y hy n1 n2 => b6 c y (x4.keep _ _ hy) n1 n2⟩
    unfold F21
    rcases w0 with rfl | rfl | rfl
    · simp only [jn_a, b0, bothK_s, b2, f0, f1, valK_s, m0, m1, p0, p1, p2, p3, p4, p5, p6, l6, alen9, t1, t2, st, hpK_s, l0, abin_eql, decide_true, boolK_t, l1, l2, l3, l4, l6', e5, extractA_0, extractA_1, l1', l2', l3', l4', l6'', e6, unmark_nil]
    · simp only [jn_a, b0, bothK_s, b2, f0, f1, valK_s, m0, m1, p0, p1, p2, p3, p4, p5, p6, l6, alen9, t1, t2, st, hpK_s, l0, abin_eql, decide_true, boolK_t, show decide ((1 : Int) = 0) = false from rfl, boolK_f, l1, l2, l3, l4, l6', e5, extractA_0, extractA_1, l1', l2', l3', l4', l6'', e6, unmark_nil]
    · simp only [jn_a, b0, bothK_s, b2, f0, f1, valK_s, m0, m1, p0, p1, p2, p3, p4, p5, p6, l6, alen9, t1, t2, st, hpK_s, l0, abin_eql, decide_true, boolK_t, show decide ((2 : Int) = 0) = false from rfl, show decide ((2 : Int) = 1) = false from rfl, boolK_f, l1, l2, l3, l4, l6', e5, extractA_0, extractA_1, l1', l2', l3', l4', l6'', e6, unmark_nil]
  have w00 : decide (w = 0) = false := decide_eq_false (by omega)
  have w01 : decide (w = 1) = false := decide_eq_false (by omega)
  have w02 : decide (w = 2) = false := decide_eq_false (by omega)
  by_cases w3 : w = 3
  · obtain ⟨h5, e5, t5, s5⟩ := a.rm.st.run_link ns a4.tr a4.wf (dir := A) (name := nm) (ino := B) (any nm)
    obtain ⟨g5, n5⟩ := s5.beside g4 nS
    obtain ⟨l0', l1', l2', l3', l4', l5', l6''⟩ := ld7 g5
    obtain ⟨r5, x5⟩ := a4.mid s5
    obtain ⟨h6, e6, d6⟩ := r5.Link_run x5 hn A B nm
    obtain ⟨lv', ev', a6, b6⟩ := a4.act (.link A nm B) t5 s5 d6
    refine ⟨h6, S, _, L, lv', ev', _, run21 0 ?_, a6, fun c y hy n1 n2 => b6 c y (x4.keep _ _ hy) n1 n2⟩
    unfold F21
    simp only [jn_a, b0, bothK_s, b2, f0, f1, valK_s, m0, m1, p0, p1, p2, p3, p4, p5, p6, l6, alen9, t1, t2, st, hpK_s, l0, abin_eql, w00, w01, w02, boolK_f, decide_eq_true w3, boolK_t, l1, l2, l4, e5, l1', l2', l4', sameK_r, e6, decide_true, unmark_nil]
  have w03 : decide (w = 3) = false := decide_eq_false w3
  by_cases w4 : w = 4
  · obtain ⟨h5, e5, t5, s5⟩ := a.rm.st.run_unlink ns a4.tr a4.wf (dir := A) (name := nm)
    obtain ⟨g5, n5⟩ := s5.beside g4 nS
    obtain ⟨l0', l1', l2', l3', l4', l5', l6''⟩ := ld7 g5
    obtain ⟨r5, x5⟩ := a4.mid s5
    obtain ⟨h6, e6, d6⟩ := r5.Unlink_run x5 hn A nm
    obtain ⟨lv', ev', a6, b6⟩ := a4.act (.unlink A nm) t5 s5 d6
    refine ⟨h6, S, _, L, lv', ev', _, run21 0 ?_, a6, fun c y hy n1 n2 => b6 c y (x4.keep _ _ hy) n1 n2⟩
    unfold F21
    simp only [jn_a, b0, bothK_s, b2, f0, f1, valK_s, m0, m1, p0, p1, p2, p3, p4, p5, p6, l6, alen9, t1, t2, st, hpK_s, l0, abin_eql, w00, w01, w02, w03, boolK_f, decide_eq_true w4, boolK_t, l1, l4, e5, l1', l4', sameK_r, e6, decide_true, unmark_nil]
  have w04 : decide (w = 4) = false := decide_eq_false w4
  by_cases w5 : w = 5
  · obtain ⟨h5, e5, t5, s5⟩ := a.rm.st.run_move a4.tr a4.wf (fro := A) (name := nm) (to := B) (as' := as') (any as')
    obtain ⟨g5, n5⟩ := s5.beside g4 nS
    obtain ⟨l0', l1', l2', l3', l4', l5', l6''⟩ := ld7 g5
    obtain ⟨r5, x5⟩ := a4.mid s5
    obtain ⟨h6, e6, d6⟩ := r5.Move_run x5 hn A B nm as'
    obtain ⟨lv', ev', a6, b6⟩ := a4.act (.move A nm B as') t5 s5 d6
    refine ⟨h6, S, _, L, lv', ev', _, run21 0 ?_, a6, fun c y hy n1 n2 => b6 c y (x4.keep _ _ hy) n1 n2⟩
    unfold F21
    simp only [jn_a, b0, bothK_s, b2, f0, f1, valK_s, m0, m1, p0, p1, p2, p3, p4, p5, p6, l6, alen9, t1, t2, st, hpK_s, l0, abin_eql, w00, w01, w02, w03, w04, boolK_f, decide_eq_true w5, boolK_t, l1, l2, l4, l5, e5, l1', l2', l4', l5', sameK_r, e6, decide_true, unmark_nil]
  have w05 : decide (w = 5) = false := decide_eq_false w5
  by_cases w6 : w = 6
  · obtain ⟨h5, e5, t5, s5⟩ := a.rm.st.run_write a4.tr a4.wf (ino := A) (data := da') (by omega)
    obtain ⟨g5, n5⟩ := s5.beside g4 nS
    obtain ⟨l0', l1', l2', l3', l4', l5', l6''⟩ := ld7 g5
    obtain ⟨r5, x5⟩ := a4.mid s5
    obtain ⟨h6, e6, d6⟩ := r5.Write_run x5 hn A da' (by omega)
    obtain ⟨lv', ev', a6, b6⟩ := a4.act (.write A da') t5 s5 d6
    refine ⟨h6, S, _, L, lv', ev', _, run21 0 ?_, a6, fun c y hy n1 n2 => b6 c y (x4.keep _ _ hy) n1 n2⟩
    unfold F21
    simp only [jn_a, b0, bothK_s, b2, f0, f1, valK_s, m0, m1, p0, p1, p2, p3, p4, p5, p6, l6, alen9, t1, t2, st, hpK_s, l0, abin_eql, w00, w01, w02, w03, w04, w05, boolK_f, decide_eq_true w6, boolK_t, l1, l6', e5, l1', l6'', sameK_r, e6, decide_true, unmark_nil]
  have w06 : decide (w = 6) = false := decide_eq_false w6
  by_cases w7 : w = 7
  · obtain ⟨h5, e5, t5, s5⟩ := chmod_run a4.tr a4.wf (ino := A) (mode := m)
    obtain ⟨g5, n5⟩ := s5.beside g4 nS
    obtain ⟨l0', l1', l2', l3', l4', l5', l6''⟩ := ld7 g5
    obtain ⟨r5, x5⟩ := a4.mid s5
    obtain ⟨h6, e6, d6⟩ := r5.Chmod_run x5 hn A m
    obtain ⟨lv', ev', a6, b6⟩ := a4.act (.chmod A m) t5 s5 d6
    refine ⟨h6, S, _, L, lv', ev', _, run21 0 ?_, a6, fun c y hy n1 n2 => b6 c y (x4.keep _ _ hy) n1 n2⟩
    unfold F21
    simp only [jn_a, b0, bothK_s, b2, f0, f1, valK_s, m0, m1, p0, p1, p2, p3, p4, p5, p6, l6, alen9, t1, t2, st, hpK_s, l0, abin_eql, w00, w01, w02, w03, w04, w05, w06, boolK_f, decide_eq_true w7, boolK_t, l1, l3, e5, l1', l3', sameK_r, e6, decide_true, unmark_nil]
  have w07 : decide (w = 7) = false := decide_eq_false w7
  have e5 := Go.Am.find_run a4.tr A nm
  have e6 := a4.rm.Find_run A nm
  have a6 : PS h0 h4 S o tb L r lv ev E (n + 1) := ⟨a4.tr, a4.far, a4.ext, ⟨a4.rm.rr, a4.rm.st.more (Nat.le_succ n), by omega, a4.wf⟩, a4.dis⟩
  refine ⟨h4, S, tb, L, lv, ev, E, run21 0 ?_, a6, fun c y hy n1 n2 => ⟨x4.keep _ _ hy, n1, n2⟩⟩
  unfold F21
  simp only [jn_a, b0, bothK_s, b2, f0, f1, valK_s, m0, m1, p0, p1, p2, p3, p4, p5, p6, l6, alen9, t1, t2, st, hpK_s, l0, abin_eql, w00, w01, w02, w03, w04, w05, w06, w07, boolK_f, l1, l4, e5, extractA_0, extractA_1, e6, intOf, decide_true, boolK_t, abin_booleq ty4, beq_self_eq_true, unmark_nil]
end
end Go.Am

set_option linter.unusedVariables false
set_option linter.unusedSimpArgs false
namespace Go.Am
open Go Go.Proofs

theorem ino_neq_same (k m l : Int) (s : Bs) : abin tab .neq 35 (.agg [.int .i64 k, .int .i64 m, .str s, .int .i64 l]) (.agg [.int .i64 k, .int .i64 m, .str s, .int .i64 l]) = some (.bool false) := by
  have t35 : ∃ s b' z, tab.get 35 = some ⟨.struct [(0, (1, 1)), (1, (1, 1)), (2, (1, 2)), (3, (1, 1))], s, b', true, z⟩ := ⟨_, _, _, rfl⟩
  obtain ⟨s0, b', z, t1⟩ := t35
  have e : ∀ x y : Int, eqCell 1 (.int .i64 x) (.int .i64 y) = some (decide (x = y)) := fun x y => by simp [eqCell]
  have e2 : ∀ x y : Bs, eqCell 2 (.str x) (.str y) = some (decide (x = y)) := fun x y => by simp [eqCell]
  have ok : eqOk tab 35 (.agg [.int .i64 k, .int .i64 m, .str s, .int .i64 l]) (.agg [.int .i64 k, .int .i64 m, .str s, .int .i64 l]) = true := by simp only [eqOk, t1]
  have eq : aeq tab 35 (.agg [.int .i64 k, .int .i64 m, .str s, .int .i64 l]) (.agg [.int .i64 k, .int .i64 m, .str s, .int .i64 l]) = some true := by
    simp only [aeq, t1, eqFields, List.getElem?_cons_zero, List.getElem?_cons_succ, e, e2, decide_true]
  simp only [abin, ok, cond_true, eq, Option.map_some]
  rfl

theorem nodeV_parts (tb : Tb) (k : Int) : ∃ a b c : Int, ∃ s : Bs, nodeV tb k = .agg [.int .i64 a, .int .i64 b, .str s, .int .i64 c] := by
  unfold nodeV
  cases tb.nodes k with
  | none => exact ⟨0, 0, 0, [], rfl⟩
  | some nd => exact ⟨nd.kind, nd.mode, nd.links, nd.data, rfl⟩

section
variable {h0 h : AHeap} {S : Nat → Prop} {o : Nat} {tb : Tb} {L : Lay} {r : Nat} {lv ev : AV} {E : List Ed} {n : Nat}

theorem same_run (a : PS h0 h S o tb L r lv ev E n) : ∃ h', EG (.fn 22) [.agg [.ptr o 0, .ptr r 0]] h = some (.bool true, h') ∧ Ext h h' := by
  obtain ⟨N, hN⟩ := fuel 110
  suffices ∃ h', F22 EG N (.agg [.ptr o 0, .ptr r 0]) h = some (.bool true, h') ∧ Ext h h' by
    obtain ⟨h', q1, q2⟩ := this
    exact ⟨h', run22 N q1, q2⟩
  have b0 : boxA h (.agg [.ptr o 0, .ptr r 0]) = some (.ptr h.next 0, h.add (.cells [.ptr o 0, .ptr r 0] true)) := rfl
  have g0 : (h.add (.cells [.ptr o 0, .ptr r 0] true)).get h.next = some (.cells [.ptr o 0, .ptr r 0] true) := AHeap.get_add_self _ _
  have x0 : Ext h (h.add (.cells [.ptr o 0, .ptr r 0] true)) := (Ext.refl a.wf).add _
  generalize h.add (.cells [.ptr o 0, .ptr r 0] true) = h1 at b0 g0 x0
  generalize h.next = c0 at b0 g0
  have f0 : afieldAddr tab 57 (.ptr c0 0) 0 = some (.ptr c0 0) := rfl
  have f1 : afieldAddr tab 57 (.ptr c0 0) 1 = some (.ptr c0 1) := rfl
  have hlast := a.rm.last
  have hn := a.rm.small
  unfold F22
  simp only [b0, bothK_s]
  refine loop_rule (σ := AV × AV × Unit) (R := AV × AHeap) (total := tb.last.toNat + 3)
    (I := fun j st hh => j ≤ tb.last.toNat + 3 ∧ st = (.ptr c0 0, .int .i64 ((j : Int) - 1), ()) ∧ Ext h1 hh)
    (Q := fun q => ∃ h', q = some (.bool true, h') ∧ Ext h h') ?_ N 0 _ _ ⟨by omega, rfl, Ext.refl x0.wf⟩ (by omega) (by omega)
  rintro j st hh nx ⟨hj, rfl, xh⟩
  have X := x0.trans xh
  have aa := a.grow X
  have m0 : ∀ {h' : AHeap}, Ext hh h' → loadA tab h' 23 (.ptr c0 0) = some (.ptr o 0) := fun y => loadA_cell ty23 rfl (y.keep _ _ (xh.keep _ _ g0)) rfl
  have m1 : ∀ {h' : AHeap}, Ext hh h' → loadA tab h' 54 (.ptr c0 1) = some (.ptr r 0) := fun y => loadA_cell ty54 rfl (y.keep _ _ (xh.keep _ _ g0)) rfl
  have z0 := Ext.refl aa.wf
  have hL := aa.rm.lenL
  have nl := aa.rm.rr.n_l
  rw [hL] at nl
  have add1 := abin_add (T := tab) (t := 3) (a := tb.last) (b := 1) (by omega) (by omega)
  by_cases hlt : j < tb.last.toNat + 3
  · left
    have c1 : decide ((j : Int) - 1 ≤ tb.last + 1) = true := by rw [decide_eq_true_eq]; omega
    generalize hk : (j : Int) - 1 = k
    rw [hk] at c1
    obtain ⟨q1, q2, q3, q4, hnv⟩ := nodeV_parts tb k
    obtain ⟨h2, e2, y2⟩ := Go.Am.node_run aa.tr aa.wf k
    rw [hnv] at e2
    obtain ⟨d1, h3, h4, e3, e4, g4, y4⟩ := ino_cell y2.wf q1 q2 q3 q4
    have Y4 := y2.trans y4
    obtain ⟨h5, e5, y5⟩ := (aa.rm.ext Y4).node_run k
    rw [hnv] at e5
    obtain ⟨d2, h6, h7, e6, e7, g7, y7⟩ := ino_cell y5.wf q1 q2 q3 q4
    have Y7 := (Y4.trans y5).trans y7
    have k7 := (ino_ld ((y5.trans y7).keep _ _ g4)).1
    have k7' := (ino_ld g7).1
    have a7 := aa.grow Y7
    have e8 := Go.Am.up_run a7.tr k
    have e9 := a7.rm.up_run k
    obtain ⟨v1, h8, e10, n10, y8⟩ := Go.Am.names_run a7.tr a7.wf k (a.rm.st.run_names (by omega))
    have a8 := a7.grow y8
    obtain ⟨v2, h9, e11, n11, y9⟩ := a8.rm.names_run k
    have hnl : (namesT tb k).length < 1000000 := by
      cases hn' : tb.nodes k with
      | none => simp only [namesT, hn']; simp
      | some nd =>
        have := (a.rm.st.run_names (k := k) (by omega) nd hn').1
        simp only [namesT, hn', sortS_length, List.length_map]
        have h1 : nd.ents.length ≤ E.length := by
          rw [a.rm.st.inv.ents k nd hn']
          simp only [entsE, List.length_map]; exact List.length_filter_le _ _
        have := a.rm.lenE
        omega
    have e12 := texts_same (v := v1) (w := v2) y9.wf (n10.ext y9) n11 hnl
    have inc := abin_add (T := tab) (t := 3) (a := k) (b := 1) (by omega) (by omega)
    have hk1 : k + 1 = ((j + 1 : Nat) : Int) - 1 := by omega
    rw [hk1] at inc
    refine ⟨hlt, _, h9, ?_, by omega, rfl, xh.trans ((Y7.trans y8).trans y9)⟩
    unfold F22_b2
    simp only [f0, f1, valK_s, m1 z0, m0 z0, nilp, fa86_1, aa.rm.rr.l_l, nl, add1, abin_leq, c1, boolK_t, e2, bothK_s, extractA_0, extractA_1, e3, e4, hpK_s, m1 Y4, e5, e6, e7, k7, k7', ino_neq_same, boolK_f, abin_boolne ty4, bne_self_eq_false, m0 Y7, m1 Y7, e8, sameK_r, e9, abin_neq, decide_true, Bool.not_true, e10, m1 (Y7.trans y8), e11, e12, aun_not, inc]
  · right
    have hje : j = tb.last.toNat + 3 := by omega
    have c1 : decide ((j : Int) - 1 ≤ tb.last + 1) = false := by rw [decide_eq_false_iff_not]; omega
    obtain ⟨h2, e2, y2⟩ := Go.Am.used_run aa.tr aa.wf
    obtain ⟨h3, e3, y3⟩ := (aa.rm.ext y2).used_run
    have Y3 := y2.trans y3
    have a3 := aa.grow Y3
    have top3 := a3.rm.rr.top
    have t26 : ∃ ty, tab.get 26 = some ty ∧ ty.size = 2 ∧ ty.agg = true := ⟨_, rfl, rfl, rfl⟩
    have lq : ∀ {h' : AHeap}, h'.get r = some (.cells [.int .i64 tb.qi, .int .i64 tb.qb, lv, ev] true) → loadA tab h' 26 (.ptr r 0) = some (.agg [.int .i64 tb.qi, .int .i64 tb.qb]) := fun {h'} g => by
      obtain ⟨ty, t1, t2, t3⟩ := t26
      simp only [loadA, aload, g, t1, t2, t3, cond_true]
      rfl
    obtain ⟨h4, e4, y4⟩ := Go.Am.quota_run a3.tr a3.wf
    have top4 := y4.keep _ _ top3
    have Y4 := Y3.trans y4
    refine ⟨h4, ?_, (x0.trans xh).trans Y4⟩
    unfold F22_b2
    simp only [f0, f1, valK_s, m1 z0, m0 z0, nilp, fa86_1, fa86_0, aa.rm.rr.l_l, nl, add1, abin_leq, c1, boolK_f, e2, bothK_s, m1 y2, sameK_r, e3, quota_eql, decide_true, Bool.and_self, boolK_t, m0 Y3, m1 Y3, lq top3, e4, lq top4, m1 Y4, m0 Y4, root_run, abin_eql, unmark_nil, hpK_s]
end

/-- Acts in a row. -/
def ARow (h : AHeap) (w : AV) (A : List A7) : Prop := ∃ vs, Row h w A.length 7 vs ∧ ∀ i x, A[i]? = some x → (vs.drop (i * 7)).take 7 = c7 x

theorem ty53 : tab.get 53 = some ⟨.slice 60, 1, 24, false, .nilslice⟩ := rfl
theorem ty60x : ∃ ty, tab.get 60 = some ty ∧ ty.size = 7 ∧ ty.agg = true := ⟨_, rfl, rfl, rfl⟩

theorem ARow.ext {h h' : AHeap} {w : AV} {A : List A7} (a : ARow h w A) (e : Ext h h') : ARow h' w A := by
  obtain ⟨vs, q1, q2⟩ := a
  exact ⟨vs, q1.ext e, q2⟩
theorem ARow.at {h : AHeap} {w : AV} {A : List A7} (a : ARow h w A) {i : Nat} (hi : i < A.length) : ∃ p, aindexAddr tab 53 w (.int .i64 (i : Int)) = some p ∧ loadA tab h 60 p = some (.agg (c7 A[i])) := by
  obtain ⟨vs, q1, q2⟩ := a
  obtain ⟨ty, t1, t2, t3⟩ := ty60x
  obtain ⟨o, off, e1, e2, _⟩ := q1.getAgg ty53 t1 t2 t3 hi (k := .i64)
  rw [q2 i A[i] (List.getElem?_eq_getElem hi)] at e2
  exact ⟨_, e1, e2⟩
theorem ARow.len {h : AHeap} {w : AV} {A : List A7} (a : ARow h w A) : alen tab h 53 w = some (.int .i64 (A.length : Int)) := by
  obtain ⟨vs, q1, q2⟩ := a
  exact q1.len ty53

theorem plays_loop {h0 : AHeap} {w : AV} {A : List A7} (hr : ARow h0 w A) {hh : AHeap} {S : Nat → Prop} {o : Nat} {tb : Tb} {L : Lay} {r : Nat} {lv ev : AV} {E : List Ed} (a : PS h0 hh S o tb L r lv ev E 0) {c : Nat} (gc : hh.get c = some (.cells [.ptr o 0, .ptr r 0] true)) (nS : ¬ S c) (nR : ¬ refS r lv ev c) {N : Nat} (hN : 100 < N) :
    ∃ h', loopN (F6_b6 EG N) N (w, .ptr c 0, .int .i64 0, ()) [] hh = some (.bool true, h') := by
  have t57 : ∃ ty, tab.get 57 = some ty ∧ ty.size = 2 ∧ ty.agg = true := ⟨_, rfl, rfl, rfl⟩
  have lb : ∀ {h' : AHeap}, h'.get c = some (.cells [.ptr o 0, .ptr r 0] true) → loadA tab h' 57 (.ptr c 0) = some (.agg [.ptr o 0, .ptr r 0]) := fun {h'} g => by
    obtain ⟨ty, t1, t2, t3⟩ := t57
    simp only [loadA, aload, g, t1, t2, t3, cond_true]
    rfl
  refine loop_rule (σ := AV × AV × AV × Unit) (R := AV × AHeap) (total := 60)
    (I := fun i st h => i ≤ 60 ∧ st = (w, .ptr c 0, .int .i64 (i : Int), ()) ∧ ∃ S : Nat → Prop, ∃ tb : Tb, ∃ L : Lay, ∃ lv ev : AV, ∃ E : List Ed, PS h0 h S o tb L r lv ev E i ∧ h.get c = some (.cells [.ptr o 0, .ptr r 0] true) ∧ ¬ S c ∧ ¬ refS r lv ev c)
    (Q := fun q => ∃ h', q = some (.bool true, h')) ?_ N 0 _ _ ⟨by omega, rfl, S, tb, L, lv, ev, E, a, gc, nS, nR⟩ (by omega) (by omega)
  clear a gc nS nR
  · rintro i st h nx ⟨hi, rfl, S, tb, L, lv, ev, E, a, gc, nS, nR⟩
    have hr' := hr.ext a.ext
    obtain ⟨h3, e3, y3⟩ := same_run a
    have fin : ∃ h', (valK (loadA tab h 57 (.ptr c 0)) fun x38 => bothK (EG (.fn 22) [x38] h) fun x39 h40 => boolK x39 (bothK (EG (.fn 15) [] h40) fun x41 h42 => hpK (unmark h42 []) fun h43 => some (x41, h43)) (hpK (unmark h40 []) fun h44 => some ((.bool false), h44))) = some (.bool true, h') := by
      refine ⟨h3, ?_⟩
      simp only [lb gc, valK_s, e3, bothK_s, boolK_t, run15, unmark_nil, hpK_s]
    by_cases hlt : i < A.length
    · have c1 : decide ((i : Int) < (A.length : Int)) = true := ltT hlt
      by_cases h60 : i < 60
      · left
        have c2 : decide ((i : Int) < 60) = true := by rw [decide_eq_true_eq]; omega
        obtain ⟨p, e1, e2⟩ := hr'.at hlt
        obtain ⟨h4, S', tb', L', lv', ev', E', e4, a4, b4⟩ := do_run a (by omega) A[i]
        obtain ⟨gc4, nS4, nR4⟩ := b4 c _ gc nS nR
        obtain ⟨h5, e5, y5⟩ := same_run a4
        have inc := abin_inc (T := tab) (t := 3) (i := i) (by omega)
        refine ⟨h60, _, h5, ?_, by omega, rfl, S', tb', L', lv', ev', E', a4.grow y5, y5.keep _ _ gc4, nS4, nR4⟩
        unfold F6_b6
        simp only [jn_a, hr'.len, valK_s, abin_lss, c1, boolK_t, c2, lb gc, e1, e2, e4, bothK_s, aun_not, Bool.not_true, boolK_f, lb gc4, e5, inc]
      · right
        have c2 : decide ((i : Int) < 60) = false := by rw [decide_eq_false_iff_not]; omega
        unfold F6_b6
        simp only [jn_a, hr'.len, valK_s, abin_lss, c1, boolK_t, c2, boolK_f]
        exact fin
    · right
      have c1 : decide ((i : Int) < (A.length : Int)) = false := ltF hlt
      unfold F6_b6
      simp only [jn_a, hr'.len, valK_s, abin_lss, c1, boolK_f]
      exact fin

theorem inodePlays_walk {h : AHeap} (hw : h.WF) (qi qb : Int) {w : AV} {A : List A7} (hr : ARow h w A) {N : Nat} (hN : 100 < N) :
    ∃ h', F6 EG N (.agg [.int .i64 qi, .int .i64 qb]) w h = some (.bool true, h') := by
  have b0 : boxA h (.agg [.int .i64 qi, .int .i64 qb]) = some (.ptr h.next 0, h.add (.cells [.int .i64 qi, .int .i64 qb] true)) := rfl
  have g0 : (h.add (.cells [.int .i64 qi, .int .i64 qb] true)).get h.next = some (.cells [.int .i64 qi, .int .i64 qb] true) := AHeap.get_add_self _ _
  have x0 : Ext h (h.add (.cells [.int .i64 qi, .int .i64 qb] true)) := (Ext.refl hw).add _
  generalize h.add (.cells [.int .i64 qi, .int .i64 qb] true) = h1 at b0 g0 x0
  generalize h.next = b at b0 g0
  have l0 := (ld_quo g0).1
  obtain ⟨h5, x5, hnew⟩ := new_run x0.wf qi qb
  have l5 := (ld_quo (x5.keep _ _ g0)).1
  have eq23n : abin tab .eql 23 .nilptr .nilptr = some (.bool true) := rfl
  have eq54n : abin tab .eql 54 .nilptr .nilptr = some (.bool true) := rfl
  have eq54 : ∀ r : Nat, abin tab .eql 54 (.ptr r 0) .nilptr = some (.bool false) := fun r => rfl
  rcases newR_run x5.wf qi qb with ⟨hn, h8, e8, x8⟩ | ⟨tb, hn, r, lv, h8, e8, rm, x8⟩
  · rw [hn] at hnew
    refine ⟨h8, ?_⟩
    unfold F6
    simp only [b0, bothK_s, l0, valK_s, hnew, l5, sameK_r, e8, jn_a, eq23n, boolK_t, eq54n, run15]
  · rw [hn] at hnew
    obtain ⟨S, o, L, e5, t5, far⟩ := hnew
    have X5 := x0.trans x5
    have far' : ∀ j, S j → h.get j = none := fun j hj => x0.none (far j hj)
    have rr0 : RR h h8 r lv .nilslice tb.qi tb.qb (listR tb) [] := {
      top := rm.rr.top
      lown := rm.rr.lown.base X5
      eown := rm.rr.eown.base X5
      rnew := X5.none rm.rr.rnew
      r_l := rm.rr.r_l
      r_e := rm.rr.r_e
      l_e := rm.rr.l_e }
    have P : PS h h8 S o tb L r lv .nilslice [] 0 := ⟨t5.ext x8, far', X5.trans x8, ⟨rr0, rm.st, rm.small, rm.wf⟩, fun j hj hr => t5.there j hj (rm.rr.there hr).2⟩
    have b57 : abuild tab 57 [(0, .ptr o 0), (1, .ptr r 0)] = some (.agg [.ptr o 0, .ptr r 0]) := rfl
    have n57 : newCells h8 [.nilptr, .nilptr] (fun o => .ptr o 0) = some (.ptr h8.next 0, h8.add (.cells [.nilptr, .nilptr] true)) := rfl
    have g57 : (h8.add (.cells [.nilptr, .nilptr] true)).get h8.next = some (.cells [.nilptr, .nilptr] true) := AHeap.get_add_self _ _
    have x57 : Ext h8 (h8.add (.cells [.nilptr, .nilptr] true)) := (Ext.refl rm.wf).add _
    have nw := rm.wf.new
    obtain ⟨nS, nR⟩ := P.beside x57 nw
    generalize h8.add (.cells [.nilptr, .nilptr] true) = h15 at n57 g57 x57
    generalize h8.next = c at n57 g57 nw nS nR
    have t57 : ∃ ty, tab.get 57 = some ty ∧ ty.size = 2 ∧ ty.agg = true := ⟨_, rfl, rfl, rfl⟩
    obtain ⟨ty, u1, u2, u3⟩ := t57
    have st : storeA tab h15 57 (.ptr c 0) (.agg [.ptr o 0, .ptr r 0]) = some (h15.put c (.cells [.ptr o 0, .ptr r 0] true)) := by
      simp only [storeA, astore, g57, u1, u2, AV.cells]
      rfl
    have xx : Ext h8 (h15.put c (.cells [.ptr o 0, .ptr r 0] true)) := x57.put nw g57 _
    have gc : (h15.put c (.cells [.ptr o 0, .ptr r 0] true)).get c = some (.cells [.ptr o 0, .ptr r 0] true) := AHeap.get_put_self _ _ _
    obtain ⟨h', e'⟩ := plays_loop hr (P.grow xx) gc nS nR hN
    refine ⟨h', ?_⟩
    unfold F6
    simp only [b0, bothK_s, l0, valK_s, e5, l5, sameK_r, e8, jn_a, eq23, boolK_f, eq54, b57, n57, st, hpK_s]
    exact e'
end Go.Am
