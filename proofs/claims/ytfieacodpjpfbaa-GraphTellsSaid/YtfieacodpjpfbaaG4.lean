/-
  graph.Closed; the laws' small: what they answer.
-/
import Derived.Test.YtfieacodpjpfbaaG3
set_option linter.unusedVariables false
set_option linter.unusedSimpArgs false
namespace Go.Am
open Go Go.Proofs

/-! ### Closed -/

theorem refsThere_str {l : SE} : ∀ (rs : List Bs), refsThere (strE l) (strs rs) = some (rs.all fun q => hasS q l)
  | [] => rfl
  | s :: rs => by
    have ih := refsThere_str (l := l) rs
    simp only [strs, List.map_cons, refsThere] at ih ⊢
    rcases findE_str s l 0 with ⟨h1, _, h3⟩ | ⟨j, v, b, h1, _, h3, _⟩ <;> simp [h3, ih, h1]

theorem rowVals_str {h : AHeap} {v : AV} {rs : List Bs} (a : SRow h v rs) (hn : rs.length < 1000000000) : rowVals h v = some (strs rs) := by
  obtain ⟨h1, h2⟩ := a
  rcases h2 with ⟨rfl, h0⟩ | ⟨rfl, h0⟩ | ⟨o, off, ws, rw, rfl, g1, g2, g3⟩
  · have : rs = [] := List.eq_nil_of_length_eq_zero h0
    subst this; rfl
  · have : rs = [] := List.eq_nil_of_length_eq_zero h0
    subst this; rfl
  · simp only [rowVals, g1]
    rw [Nat.beq_refl, Nat.ble_eq_true_of_le (by omega), blt_dec, decide_eq_true (by omega)]
    simp only [Bool.and_self, cond_true, Option.some.injEq]
    apply List.ext_getElem?
    intro j
    by_cases hj : j < rs.length
    · rw [List.getElem?_take_of_lt hj, List.getElem?_drop]; exact g3 j (by omega)
    · rw [List.getElem?_eq_none (by simp; omega), List.getElem?_eq_none (by simp; omega)]

theorem allThere_str {h : AHeap} {l : SE} {G : Gr} : ∀ (l' : SE), (∀ e ∈ l', ∃ rs, thereG G e.1 = some rs ∧ SRow h e.2.1 rs ∧ rs.length < 1000000000) →
    allThere h (strE l) (strE l') = some (l'.all fun e => ((thereG G e.1).getD []).all fun q => hasS q l)
  | [], _ => rfl
  | e :: l', hh => by
    obtain ⟨rs, h1, h2, h3⟩ := hh e List.mem_cons_self
    have ih := allThere_str (l := l) l' fun x hx => hh x (List.mem_cons_of_mem _ hx)
    simp only [strE, List.map_cons, allThere] at ih ⊢
    rw [ih]
    have : rowThere h (List.map (fun e => (AV.str e.fst, e.snd.fst, e.snd.snd)) l) e.2.1 = some (rs.all fun q => hasS q l) := by
      unfold rowThere
      rw [rowVals_str h2 h3]
      exact refsThere_str rs
    rw [this]
    simp [h1]

def closedG (G : Gr) : Bool := (keysG G []).all fun p => ((thereG G p).getD []).all fun q => decide (q ∈ keysG G [])

theorem getS_mem {s : Bs} {v : AV} : ∀ {l : SE}, getS s l = some v → ∃ b, (s, v, b) ∈ l
  | e :: l, h => by
    simp only [getS] at h
    by_cases he : s = e.1
    · rw [if_pos he] at h; cases h; exact ⟨e.2.2, by rw [he]; exact List.mem_cons_self⟩
    · rw [if_neg he] at h
      obtain ⟨b, hb⟩ := getS_mem h
      exact ⟨b, List.mem_cons_of_mem _ hb⟩

theorem getS_of_mem {e : Bs × AV × Nat} : ∀ {l : SE}, (l.map (·.1)).Nodup → e ∈ l → getS e.1 l = some e.2.1
  | x :: l, hn, h => by
    simp only [List.map_cons, List.nodup_cons] at hn
    simp only [getS]
    rcases List.mem_cons.1 h with h1 | h1
    · subst h1; simp
    · have : ¬ e.1 = x.1 := fun h2 => hn.1 (h2 ▸ List.mem_map_of_mem h1)
      rw [if_neg this]; exact getS_of_mem hn.2 h1

theorem closed_run {h : AHeap} (hw : h.WF) {v : AV} {G : Gr} (a : PRep h v G) (hG : SmallG G) :
    ∃ h', EG (.fn 12) [v] h = some (.bool (closedG G), h') ∧ Ext h h' := by
  obtain ⟨m, h1, l, e1, M, x1, _⟩ := refs_run hw a hG.1
  refine ⟨h1.add .dead, run_prim (f := 12) (p := closedP 28) rfl ?_, x1.add _⟩
  unfold closedP
  have hm : Nat.blt m h1.next = true := by rw [blt_dec]; simpa using x1.wf _ _ M.1
  have ha := allThere_str (h := h1) (l := l) (G := G) l fun e he => by
    have hg := getS_of_mem M.2.1.1 he
    rcases M.2.2.2 e.1 with ⟨q1, _⟩ | ⟨rv, rs, q1, q2, q3⟩
    · rw [q1] at hg; cases hg
    · rw [q1] at hg; cases hg
      exact ⟨rs, q2, q3, (hG.2 _ (thereG_some q2)).2⟩
  simp only [e1, M.1, stampB_str M.2.1.once, hm, Bool.and_self, cond_true, ha]
  have : (l.all fun e => ((thereG G e.1).getD []).all fun q => hasS q l) = closedG G := by
    unfold closedG
    rw [← M.2.2.1, List.all_map]
    congr 1
    funext e
    simp only [Function.comp]
    congr 1
    funext q
    rw [Bool.eq_iff_iff, hasS_iff]; simp
  rw [this]

/-! ### small -/

theorem Rel2.same {h h' : AHeap} : ∀ {l : List (Bs × AV)} {G : Gr}, Rel2 h l G → (∀ x ∈ l, ∀ o off m e y, x.2 = .slice o off m e → h.get o = some y → h'.get o = some y) → Rel2 h' l G
  | [], [], _, _ => trivial
  | a :: l, b :: G, ⟨h1, h2⟩, hs => ⟨⟨h1.1, h1.2.same (hs a List.mem_cons_self)⟩, Rel2.same h2 fun x hx => hs x (List.mem_cons_of_mem _ hx)⟩
  | [], _ :: _, h, _ => h.elim
  | _ :: _, [], h, _ => h.elim

theorem Rel2.there {h : AHeap} {x : Bs × AV} {o off m e : Nat} : ∀ {l : List (Bs × AV)} {G : Gr}, Rel2 h l G → x ∈ l → x.2 = .slice o off m e → h.get o ≠ none
  | a :: l, b :: G, ⟨h1, h2⟩, hx, hv => by
    rcases List.mem_cons.1 hx with rfl | hx
    · exact h1.2.there hv
    · exact Rel2.there h2 hx hv
  | [], _, _, hx, _ => by cases hx
  | _ :: _, [], h, _, _ => h.elim

theorem ty22 : tab.get 22 = some ⟨.slice 23, 1, 24, false, .nilslice⟩ := rfl
theorem ty23 : tab.get 23 = some ⟨.int .u16, 1, 2, false, .int .u16 0⟩ := rfl
theorem ty44 : tab.get 44 = some ⟨.slice 5, 1, 24, false, .nilslice⟩ := rfl
theorem ty5 : tab.get 5 = some ⟨.int .u8, 1, 1, false, .int .u8 0⟩ := rfl

def bitI (a : Int) (k : Nat) : Bool := decide ((a.fdiv (2 ^ (Nat.min k 16))).tmod 2 = 1)

theorem shr_u16 {a : Int} {k : Nat} : abin tab .shr 23 (.int .u16 a) (.int .i64 (k : Int)) = some (.int .u16 (a.fdiv (2 ^ (Nat.min k 16)))) := rfl
theorem rem_u16 {a : Int} : abin tab .rem 23 (.int .u16 a) (.int .u16 2) = some (.int .u16 (a.tmod 2)) := rfl

/-- Names: one letter. -/
def nm (i : Nat) : Bs := [UInt8.ofNat (97 + i)]

theorem name_run {h : AHeap} (hw : h.WF) {i : Nat} (hi : i < 14) :
    ∃ x4 x6 x7 h8, aconvert tab h 3 5 (.int .i64 (i : Int)) = some (x4, h) ∧ abin tab .add 5 (.int .u8 97) x4 = some x6 ∧ abuildSlice tab h 44 1 [(0, x6)] = some (x7, h8) ∧ aconvert tab h8 44 9 x7 = some (.str (nm i), h8) ∧ Ext h h8 := by
  have e1 : aconvert tab h 3 5 (.int .i64 (i : Int)) = some (.int .u8 (awrap .u8 (i : Int)), h) := rfl
  have e2 : abin tab .add 5 (.int .u8 97) (.int .u8 (awrap .u8 (i : Int))) = some (.int .u8 (awrap .u8 (97 + awrap .u8 (i : Int)))) := rfl
  have e3 : awrap .u8 (97 + awrap .u8 (i : Int)) = ((97 + i : Nat) : Int) := by
    have : ∀ j : Fin 14, awrap .u8 (97 + awrap .u8 (j.val : Int)) = ((97 + j.val : Nat) : Int) := by decide
    exact this ⟨i, hi⟩
  have e4 : abuildSlice tab h 44 1 [(0, .int .u8 ((97 + i : Nat) : Int))] = some (.slice h.next 0 1 1, h.add (.cells [.int .u8 ((97 + i : Nat) : Int)] true)) := rfl
  have e5 : aconvert tab (h.add (.cells [.int .u8 ((97 + i : Nat) : Int)] true)) 44 9 (.slice h.next 0 1 1) = some (.str (nm i), h.add (.cells [.int .u8 ((97 + i : Nat) : Int)] true)) := by
    have : rowOf (h.add (.cells [.int .u8 ((97 + i : Nat) : Int)] true)) (.slice h.next 0 1 1) 1 = some [.int .u8 ((97 + i : Nat) : Int)] := by
      simp [rowOf, AHeap.get_add_self, cut, ble_dec]
    simp only [aconvert, ty44, ty9, ty5, this]
    rfl
  exact ⟨_, _, _, _, e1, by rw [e2, e3], e4, e5, (Ext.refl hw).add _⟩

def tot (st : Bool) (n i : Nat) : Nat := if st = true then i + 1 else n

def smallR (al : List Int) (st : Bool) (n i : Nat) : List Bs := ((List.range (tot st n i)).filter fun k => bitI (al.getD i 0) k).map nm
def smallG (al : List Int) (st : Bool) : Gr := (List.range (min al.length 14)).map fun i => (nm i, smallR al st (min al.length 14) i)

theorem pcells_push (pl : List (Bs × AV)) (s : Bs) (v : AV) : pcells pl ++ (AV.agg [.str s, v, .str [], .str []]).cells = pcells (pl ++ [(s, v)]) := by
  simp [pcells, AV.cells]

theorem Keeps.refl {h0 h : AHeap} (hw : h.WF) : Keeps h0 h h := ⟨fun _ _ e _ => e, hw, Nat.le_refl _⟩
theorem Ext.nexts {h h' : AHeap} (a : Ext h h') : True := trivial

/-- The inner loop: what a path refers to. -/
theorem small_inner {hb h : AHeap} {c : Nat} {v0 x : AV} {al : List Int} {st : Bool} {n i : Nat} {lo out : AV} (hx : Ext hb h) (hc : h.get c = some (.cells [.str (nm i), .nilslice, .str [], .str []] true)) (hcb : hb.get c = none)
    (hr : Row hb v0 al.length 1 (al.map (AV.int .u16))) (hn : n = min al.length 14) (hi : i < n) {next2 : AV × AV × AV × AV × AV × Unit → List Nat → AHeap → Option (AV × AHeap)} {N : Nat} (hN : 15 < N) :
    ∃ hh rv, loopN (F8_b8 EG N next2) N (v0, .bool st, out, .int .i64 (n : Int), .int .i64 (i : Int), .ptr c 0, .int .i64 (0 : Int), ()) [] h =
      (valK (loadA tab hh 28 (.ptr c 0)) fun x57 =>
        bothK (abuildSlice tab hh 24 1 [(0, x57)]) fun x58 h59 =>
        bothK (aappend tab h59 24 24 out x58) fun x60 h61 =>
        valK (abin tab .add 3 (.int .i64 (i : Int)) (.int .i64 1)) fun x62 =>
        next2 (v0, .bool st, x60, .int .i64 (n : Int), x62, ()) [] h61) ∧
      hh.get c = some (.cells [.str (nm i), rv, .str [], .str []] true) ∧ SOwn h hh rv (smallR al st n i) ∧ Ext hb hh := by
  have htot : tot st n i ≤ n := by unfold tot; split <;> omega
  let part (j : Nat) : List Bs := ((List.range j).filter fun k => bitI (al.getD i 0) k).map nm
  have hpl : ∀ j, (part j).length ≤ j := fun j => by
    simp only [part, List.length_map]
    exact Nat.le_trans (List.length_filter_le _ _) (by simp)
  have hps : ∀ j, part (j + 1) = if bitI (al.getD i 0) j = true then part j ++ [nm j] else part j := fun j => by
    simp only [part, List.range_succ, List.filter_append, List.map_append, List.filter_cons, List.filter_nil]
    split <;> simp
  refine loop_rule (σ := AV × AV × AV × AV × AV × AV × AV × Unit) (R := AV × AHeap) (total := tot st n i)
    (I := fun j s hh => j ≤ tot st n i ∧ s = (v0, .bool st, out, .int .i64 (n : Int), .int .i64 (i : Int), .ptr c 0, .int .i64 (j : Int), ()) ∧ Ext hb hh ∧ (∀ q, h.get q ≠ none → hh.get q ≠ none) ∧ ∃ rv, hh.get c = some (.cells [.str (nm i), rv, .str [], .str []] true) ∧ SOwn h hh rv (part j))
    (Q := fun o => ∃ hh rv, o = (valK (loadA tab hh 28 (.ptr c 0)) fun x57 =>
        bothK (abuildSlice tab hh 24 1 [(0, x57)]) fun x58 h59 =>
        bothK (aappend tab h59 24 24 out x58) fun x60 h61 =>
        valK (abin tab .add 3 (.int .i64 (i : Int)) (.int .i64 1)) fun x62 =>
        next2 (v0, .bool st, x60, .int .i64 (n : Int), x62, ()) [] h61) ∧
      hh.get c = some (.cells [.str (nm i), rv, .str [], .str []] true) ∧ SOwn h hh rv (smallR al st n i) ∧ Ext hb hh) ?_ _ 0 _ _ ⟨by omega, rfl, hx, fun _ e => e, _, hc, own_nil _ _ 1⟩ (by omega) (by omega)
  rintro j s hh nx ⟨hj, rfl, he, hdom, rv, hcc, ho⟩
  simp only [F8_b8, jn_a, abin_lss, valK_s]
  have hend : ¬ j < tot st n i → part j = smallR al st n i := fun h => by
    have : j = tot st n i := by omega
    subst this; rfl
  have round : j < tot st n i → (∃ s' h', (valK (aindexAddr tab 22 v0 (.int .i64 (i : Int))) fun x20 =>
      valK (loadA tab hh 23 x20) fun x21 =>
      valK (abin tab .shr 23 x21 (.int .i64 (j : Int))) fun x22 =>
      valK (abin tab .rem 23 x22 (.int .u16 2)) fun x23 =>
      valK (abin tab .eql 23 x23 (.int .u16 1)) fun x24 =>
      boolK x24 (
      valK (afieldAddr tab 28 (.ptr c 0) 1) fun x25 =>
      valK (loadA tab hh 26 x25) fun x26 =>
      bothK (aconvert tab hh 3 5 (.int .i64 (j : Int))) fun x27 h28 =>
      valK (abin tab .add 5 (.int .u8 97) x27) fun x29 =>
      bothK (abuildSlice tab h28 44 1 [(0, x29)]) fun x30 h31 =>
      bothK (aconvert tab h31 44 9 x30) fun x32 h33 =>
      bothK (abuildSlice tab h33 26 1 [(0, x32)]) fun x34 h35 =>
      bothK (aappend tab h35 26 26 x26 x34) fun x36 h37 =>
      valK (afieldAddr tab 28 (.ptr c 0) 1) fun x38 =>
      hpK (storeA tab h37 26 x38 x36) fun h39 =>
      valK (abin tab .add 3 (.int .i64 (j : Int)) (.int .i64 1)) fun x40 =>
      nx (v0, .bool st, out, .int .i64 (n : Int), .int .i64 (i : Int), .ptr c 0, x40, ()) [] h39) (
      valK (abin tab .add 3 (.int .i64 (j : Int)) (.int .i64 1)) fun x41 =>
      nx (v0, .bool st, out, .int .i64 (n : Int), .int .i64 (i : Int), .ptr c 0, x41, ()) [] hh)) = nx s' [] h' ∧
        (j + 1 ≤ tot st n i ∧ s' = (v0, .bool st, out, .int .i64 (n : Int), .int .i64 (i : Int), .ptr c 0, .int .i64 ((j + 1 : Nat) : Int), ()) ∧ Ext hb h' ∧ (∀ q, h.get q ≠ none → h'.get q ≠ none) ∧ ∃ rv, h'.get c = some (.cells [.str (nm i), rv, .str [], .str []] true) ∧ SOwn h h' rv (part (j + 1)))) := by
    intro hlt
    have hi' : i < al.length := by omega
    have ha : (al.map (AV.int .u16))[i]? = some (.int .u16 (al.getD i 0)) := by simp [hi', List.getD_eq_getElem?_getD]
    obtain ⟨p, e1, e2⟩ := (hr.ext he).get1 ty22 ty23 rfl rfl ha (k := .i64)
    simp only [e1, e2, valK_s, shr_u16, rem_u16, abin_eql]
    cases hb1 : decide (((al.getD i 0).fdiv (2 ^ (Nat.min j 16))).tmod 2 = 1) with
    | true =>
      have hbit : bitI (al.getD i 0) j = true := hb1
      have l1 : loadA tab hh 26 (.ptr c 1) = some rv := loadA_cell ty26 rfl hcc rfl
      obtain ⟨x4, x6, x7, hn1, n1, n2, n3, n4, xn⟩ := name_run he.wf (i := j) (by omega)
      have hpj := hpl j
      have hdom1 : ∀ q, h.get q ≠ none → hn1.get q ≠ none := fun q hq => by
        have := hdom q hq
        cases e : hh.get q with
        | none => exact absurd e this
        | some y => rw [xn.keep _ _ e]; simp
      obtain ⟨y, h6, v', h', p1, q2, q3, q4, _, _⟩ := pushK (x := .str (nm j)) ty26 ty9 rfl rfl (by decide) (by decide) (by decide) (ho.ext xn) xn.wf hdom1 rfl rfl rfl (by omega)
      have hc1 : h'.get c = some (.cells [.str (nm i), rv, .str [], .str []] true) := q4.same _ _ (xn.keep _ _ hcc) (by rw [hc]; simp)
      have hvo : v'.one = true := by rcases q3.2 with ⟨e, _⟩ | ⟨o, e, _⟩ <;> rw [e] <;> rfl
      have s1 : storeA tab h' 26 (.ptr c 1) v' = some (h'.put c (.cells [.str (nm i), v', .str [], .str []] true)) := by
        have hcs : v'.cells = [v'] := by rcases q3.2 with ⟨e, _⟩ | ⟨o, e, _⟩ <;> rw [e] <;> rfl
        simp only [storeA, astore, hc1, ty26, hcs, allOne, hvo, splice]
        rfl
      simp only [boolK_t, fa28_1, valK_s, l1, Nat.zero_add, n1, n2, n3, n4, bothK_s, p1, q2, s1, hpK_s, abin_inc (show j < 4611686018427387904 by omega)]
      have eb : Ext hb h' := ⟨fun o y e => q4.same o y ((he.trans xn).keep o y e) (by rw [hx.keep o y e]; simp), q4.wf⟩
      refine ⟨_, _, rfl, by omega, rfl, eb.put hcb hc1 _, fun q hq => ?_, v', AHeap.get_put_self _ _ _, ?_⟩
      · rw [AHeap.get_put]
        by_cases e : q = c
        · simp [e]
        · rw [if_neg e]
          have := hdom1 q hq
          cases e1 : hn1.get q with
          | none => exact absurd e1 this
          | some y => rw [q4.same _ _ e1 hq]; simp
      · rw [hps j, if_pos hbit]
        have q5 : SOwn h h' v' (part j ++ [nm j]) := sown_push q3
        obtain ⟨r1, r2⟩ := q5
        refine ⟨r1, ?_⟩
        rcases r2 with r2 | ⟨o, r2, r3, r4⟩
        · exact .inl r2
        · refine .inr ⟨o, r2, ?_, r4⟩
          rw [AHeap.get_put_ne _ _ (fun e => by rw [e, hc] at r4; cases r4)]; exact r3
    | false =>
      have hbit : bitI (al.getD i 0) j = false := hb1
      simp only [boolK_f, abin_inc (show j < 4611686018427387904 by omega), valK_s]
      refine ⟨_, _, rfl, by omega, rfl, he, hdom, rv, hcc, ?_⟩
      rw [hps j, if_neg (by rw [hbit]; simp)]; exact ho
  by_cases hjn : j < n
  · simp only [ltT hjn, boolK_t, aun_not, valK_s, skipK_b, abin_leq]
    cases st with
    | false =>
      have hlt : j < tot false n i := hjn
      simp only [Bool.not_false, boolK_t]
      obtain ⟨s', h', r1, r2⟩ := round hlt
      exact .inl ⟨hlt, s', h', r1, r2⟩
    | true =>
      simp only [Bool.not_true, boolK_f]
      by_cases hji : j ≤ i
      · have hlt : j < tot true n i := by unfold tot; simp; omega
        simp only [decide_eq_true (show (j : Int) ≤ (i : Int) by omega), boolK_t]
        obtain ⟨s', h', r1, r2⟩ := round hlt
        exact .inl ⟨hlt, s', h', r1, r2⟩
      · have hlt : ¬ j < tot true n i := by unfold tot; simp; omega
        simp only [decide_eq_false (show ¬ (j : Int) ≤ (i : Int) by omega), boolK_f]
        exact .inr ⟨hh, rv, rfl, hcc, by rw [← hend hlt]; exact ho, he⟩
  · have hlt : ¬ j < tot st n i := by omega
    simp only [ltF hjn, boolK_f]
    exact .inr ⟨hh, rv, rfl, hcc, by rw [← hend hlt]; exact ho, he⟩

theorem small_run {h : AHeap} (hw : h.WF) {v0 : AV} {al : List Int} (hr : Row h v0 al.length 1 (al.map (AV.int .u16))) (st : Bool) :
    ∃ v h', EG (.fn 8) [v0, .bool st] h = some (v, h') ∧ PRep h' v (smallG al st) ∧ Ext h h' := by
  suffices ∃ v h', F8 EG 20 v0 (.bool st) h = some (v, h') ∧ PRep h' v (smallG al st) ∧ Ext h h' by
    obtain ⟨v, h', e, q⟩ := this
    exact ⟨v, h', run8 _ e, q⟩
  unfold F8
  have hmin : amin (.int .i64 (al.length : Int)) (.int .i64 14) = some (.int .i64 ((min al.length 14 : Nat) : Int)) := by
    simp only [amin]
    by_cases h14 : (14 : Int) < (al.length : Int)
    · simp [h14]; omega
    · simp [h14]; omega
  obtain ⟨n, hn⟩ : ∃ n, n = min al.length 14 := ⟨_, rfl⟩
  rw [← hn] at hmin
  simp only [hr.len ty22, valK_s, hmin]
  have hG : smallG al st = (List.range n).map fun i => (nm i, smallR al st n i) := by rw [hn]; rfl
  rw [hG]
  refine loop_rule (σ := AV × AV × AV × AV × AV × Unit) (R := AV × AHeap) (total := n)
    (I := fun i s hh => i ≤ n ∧ Ext h hh ∧ ∃ out pl, s = (v0, .bool st, out, .int .i64 (n : Int), .int .i64 (i : Int), ()) ∧ Own h hh out i 4 (pcells pl) ∧ Rel2 hh pl ((List.range i).map fun i => (nm i, smallR al st n i)) ∧ ∀ x ∈ pl, ∀ j off m e, x.2 = .slice j off m e → ∀ m e, out ≠ .slice j 0 m e)
    (Q := fun o => ∃ v h', o = some (v, h') ∧ PRep h' v ((List.range n).map fun i => (nm i, smallR al st n i)) ∧ Ext h h') ?_ _ 0 _ _ ⟨by omega, Ext.refl hw, .nilslice, [], rfl, own_nil _ _ 4, trivial, by simp⟩ (by omega) (by omega)
  rintro i s hh nx ⟨hi, he, out, pl, rfl, ho, hrel, hsep⟩
  simp only [F8_b4, abin_lss, valK_s]
  have hpl : pl.length = i := by simpa using hrel.length
  by_cases hlt : i < n
  · left
    simp only [ltT hlt, boolK_t]
    obtain ⟨y4, y6, y7, h1, m1, m2, m3, m4, x1⟩ := name_run he.wf (i := i) (by omega)
    have b1 : abuild tab 28 [(0, .str (nm i))] = some (.agg [.str (nm i), .nilslice, .str [], .str []]) := rfl
    have n1 : newCells h1 [.str [], .nilslice, .str [], .str []] (fun o => .ptr o 0) = some (.ptr h1.next 0, h1.add (.cells [.str [], .nilslice, .str [], .str []] true)) := rfl
    have g2 : (h1.add (.cells [.str [], .nilslice, .str [], .str []] true)).get h1.next = some (.cells [.str [], .nilslice, .str [], .str []] true) := AHeap.get_add_self _ _
    obtain ⟨h3, q3⟩ : ∃ h3, h3 = (h1.add (.cells [.str [], .nilslice, .str [], .str []] true)).put h1.next (.cells [.str (nm i), .nilslice, .str [], .str []] true) := ⟨_, rfl⟩
    have s1 : storeA tab (h1.add (.cells [.str [], .nilslice, .str [], .str []] true)) 28 (.ptr h1.next 0) (.agg [.str (nm i), .nilslice, .str [], .str []]) = some h3 := by
      simp only [storeA, astore, g2, ty28, AV.cells]
      rw [q3]; rfl
    have x3 : Ext h1 h3 := q3 ▸ ((Ext.refl x1.wf).add _).put x1.wf.new g2 _
    have x03 : Ext hh h3 := x1.trans x3
    have g3 : h3.get h1.next = some (.cells [.str (nm i), .nilslice, .str [], .str []] true) := by rw [q3]; exact AHeap.get_put_self _ _ _
    have hcb : hh.get h1.next = none := x1.new
    obtain ⟨h4, rv, q4, g4, r4, x4⟩ := small_inner (hb := hh) x03 g3 hcb (hr.ext he) hn hlt (lo := out) (out := out) (x := out) (st := st) (next2 := nx) (N := 20) (by omega)
    simp only [m1, m2, m3, m4, b1, valK_s, n1, bothK_s, s1, hpK_s]
    rw [q4]
    have l4 : loadA tab h4 28 (.ptr h1.next 0) = some (.agg [.str (nm i), rv, .str [], .str []]) := by
      simp only [loadA, aload, g4, ty28]; rfl
    have hrv : rv.one = true := by rcases r4.2 with ⟨e, _⟩ | ⟨o, e, _⟩ <;> rw [e] <;> rfl
    have hd : ∀ j, h.get j ≠ none → h4.get j ≠ none := fun j hj => by
      cases e : h.get j with
      | none => exact absurd e hj
      | some y => rw [(he.trans x4).keep _ _ e]; simp
    have h1s : ∀ s, (AV.str s).one = true := fun _ => rfl
    obtain ⟨y8, h8, v', h5, p5, q5, o5, k5, only5, new5⟩ := pushK (x := .agg [.str (nm i), rv, .str [], .str []]) ty24 ty28 rfl rfl (by decide) (by decide) (by decide) (ho.ext x4) x4.wf hd rfl (by simp [AV.cells, allOne, hrv, h1s]) rfl (by omega)
    simp only [l4, p5, q5, bothK_s, valK_s]
    simp only [abin_inc (show i < 4611686018427387904 by omega), valK_s]
    rw [pcells_push] at o5
    have hsepr : ∀ j off m e, rv = .slice j off m e → ∀ m e, out ≠ .slice j 0 m e := fun j off m e hj m' e' ho' => by
      have t1 := ho.row.there ho'
      have t2 : h3.get j ≠ none := by
        cases e : hh.get j with
        | none => exact absurd e t1
        | some y => rw [x03.keep _ _ e]; simp
      rcases r4.2 with ⟨e1, _⟩ | ⟨o, e1, _, e2⟩
      · rw [e1] at hj; cases hj
      · rw [e1] at hj; cases hj; exact t2 e2
    have rel4 : Rel2 h4 (pl ++ [(nm i, rv)]) ((List.range (i + 1)).map fun i => (nm i, smallR al st n i)) := by
      rw [List.range_succ, List.map_append]
      exact Rel2.push ⟨rfl, r4.row⟩ (hrel.ext x4)
    have hsep4 : ∀ x ∈ pl ++ [(nm i, rv)], ∀ j off m e, x.2 = .slice j off m e → ∀ m e, out ≠ .slice j 0 m e := fun x hx => by
      rw [List.mem_append, List.mem_singleton] at hx
      rcases hx with hx | rfl
      · exact hsep x hx
      · exact hsepr
    refine ⟨hlt, _, _, rfl, by omega, k5.ext (he.trans x4), v', pl ++ [(nm i, rv)], rfl, o5, rel4.same fun x hx o off m e y hxv hy => only5 o y hy (hsep4 x hx o off m e hxv), fun x hx j off m e hj m' e' => ?_⟩
    exact new5 j (rel4.there hx hj) m' e'
  · right
    simp only [ltF hlt, boolK_f, unmark_nil, hpK_s]
    have : i = n := by omega
    subst this
    exact ⟨out, hh, rfl, ⟨pl, by rw [hpl]; exact ho.row, hrel⟩, he⟩

end Go.Am
