/-
  graph.Closed: the walk.
-/
import Derived.Test.YtfieacodpjpfbaaP5
set_option linter.unusedVariables false
set_option linter.unusedSimpArgs false
namespace Go.Am
open Go Go.Proofs Go.ChangeMaps

section
variable {P : Program}

theorem ops_raw {ops : Array Oper} {i : Nat} {is : List Nat} {o : Oper} {Q : Exit → Act → World → Prop} {a : Act} {w w' : World} {V : Value} {r : Option Nat}
    (ho : ops[i]? = some o) (hg : o.guard = none) (hnd : ∀ c, o.op ≠ .defer c) (hrun : (execOp a.eval o).run P w = .ok (.value V) w') (hn : wpOpsIn (FW r) 0 P ops Q is (a.put o.dst V) w') : wpOpsIn (FW r) 0 P ops Q (i :: is) a w := by
  simp only [wpOpsIn, ho]
  have hw : Region.wanted o (yielded ops a.tmps) = true := by unfold Region.wanted; rw [hg]
  rw [if_pos hw]
  refine ⟨fun _ _ => trivial, ?_⟩
  rw [Oper.semAt_eq _ _ _ hnd, hrun]
  exact hn

theorem FR.put1 {β : Inj} {fr : AFrame} {a : Act} {nt d : Nat} {x : AV} {V : Value} (hf : FR β fr a.tmps) (hs : a.tmps.size = nt) (hd : d < nt) (hv : VR β x V) : FR β (fr.set d (some x)) (a.put (some d) V).tmps :=
  FR.put hf hs (dst := some d) (v := some x) (by
    have : Nat.blt d nt = true := by simpa using hd
    simp only [putT, this, cond_true]) fun y hy => by cases hy; exact hv

theorem FR.leaf {β : Inj} {tmps : Array Value} : FR β .leaf tmps := fun t v h => by simp [PT.get] at h

theorem FR.set1 {β : Inj} {fr : AFrame} {tmps : Array Value} {t : Nat} {v : AV} (hf : FR β fr tmps) (h : ∃ V, tmps[t]? = some V ∧ VR β v V) : FR β (fr.set t (some v)) tmps := fun u x hx => by
  rw [PT.get_set] at hx
  by_cases e : u = t
  · rw [if_pos e] at hx; cases hx; subst e; exact h
  · rw [if_neg e] at hx; exact hf u x hx

theorem WR.congr {w0 : World} {β : Inj} {h h' : AHeap} {w : World} (hw : WR w0 β h w) (hg : ∀ o, h'.get o = h.get o) (hn : h'.next = h.next) : WR w0 β h' w :=
  ⟨hw.below, fun o L e => by rw [hn]; exact hw.dom o L e, fun o x e => by rw [hg] at e; rw [hn]; exact hw.wf o x e, fun o x L e => by rw [hg] at e; exact hw.obj o x L e,
    fun o o' x x' L L' e e' => by rw [hg] at e e'; exact hw.inj o o' x x' L L' e e'⟩

theorem eval_tmp {a : Act} {t : Nat} {V : Value} (h : a.tmps[t]? = some V) : a.eval (.tmp t) = V := by
  simp [Act.eval, Array.getD_eq_getD_getElem?, h]
end

theorem rowThere_add {h1 : AHeap} {x : AObj} {es : List (AV × AV × Nat)} {r : AV} {b : Bool} (hwf : ∀ o y, h1.get o = some y → o < h1.next) (h : rowThere h1 es r = some b) : rowThere (h1.add x) es r = some b := by
  unfold rowThere at h ⊢
  have : ∀ l, rowVals h1 r = some l → rowVals (h1.add x) r = some l := by
    intro l hl
    cases r <;> simp only [rowVals] at hl ⊢ <;> try exact hl
    rename_i o off len esz
    split at hl
    · rename_i vs rw ho
      rw [AHeap.get_add_ne _ _ (Nat.ne_of_lt (hwf _ _ ho)), ho]
      exact hl
    · cases hl
  split at h
  · rename_i l hl
    rw [this l hl]
    exact h
  · cases h

theorem allThere_spec {h1 : AHeap} {es : List (AV × AV × Nat)} : ∀ {l : List (AV × AV × Nat)} {b : Bool}, allThere h1 es l = some b → (∀ e ∈ l, ∃ x, rowThere h1 es e.2.1 = some x) ∧ (b = true ↔ ∀ e ∈ l, rowThere h1 es e.2.1 = some true)
  | [], b, h => by
    simp only [allThere, Option.some.injEq] at h
    subst h; simp
  | (k, r, bn) :: l, b, h => by
    simp only [allThere] at h
    split at h
    · rename_i x y hx hy
      cases h
      obtain ⟨a1, a2⟩ := allThere_spec hy
      refine ⟨fun e he => ?_, ?_⟩
      · rcases List.mem_cons.1 he with rfl | he
        · exact ⟨x, hx⟩
        · exact a1 e he
      · simp only [Bool.and_eq_true, List.mem_cons, forall_eq_or_imp, a2, hx, Option.some.injEq]
    · cases h

theorem ER.find {β : Inj} : ∀ {es : List (AV × AV × Nat)} {Es : List MapEntry}, ER β es Es → ∀ E ∈ Es, ∃ e ∈ es, VR β e.1 E.key ∧ VR β e.2.1 E.val ∧ E.born = e.2.2
  | [], Es, h, E, hE => by
    have : Es = [] := by simpa [ER] using h
    subst this; cases hE
  | e :: es, Es, h, E, hE => by
    obtain ⟨E', Es', h1, h2, h3, h4, rfl⟩ := h
    rcases List.mem_cons.1 hE with rfl | hE
    · exact ⟨e, List.mem_cons_self, h1, h2, h3⟩
    · obtain ⟨e', m1, m2⟩ := ER.find h4 E hE
      exact ⟨e', List.mem_cons_of_mem _ m1, m2⟩

theorem ER.back {β : Inj} : ∀ {es : List (AV × AV × Nat)} {Es : List MapEntry}, ER β es Es → ∀ e ∈ es, ∃ E ∈ Es, E.born = e.2.2
  | [], Es, h, e, he => by cases he
  | e' :: es, Es, h, e, he => by
    obtain ⟨E', Es', h1, h2, h3, h4, rfl⟩ := h
    rcases List.mem_cons.1 he with rfl | he
    · exact ⟨E', List.mem_cons_self, h3⟩
    · obtain ⟨E, m1, m2⟩ := ER.back h4 e he
      exact ⟨E, List.mem_cons_of_mem _ m1, m2⟩

theorem er_borns {β : Inj} : ∀ {es : List (AV × AV × Nat)} {Es : List MapEntry}, ER β es Es → Es.map (·.born) = es.map (·.2.2)
  | [], Es, h => by
    have : Es = [] := by simpa [ER] using h
    subst this; rfl
  | e' :: es, Es, h => by
    obtain ⟨E', Es', h1, h2, h3, h4, rfl⟩ := h
    simp [h3, er_borns h4]

theorem nodup_inj : ∀ {es : List (AV × AV × Nat)}, (es.map (·.2.2)).Nodup → ∀ {x y}, x ∈ es → y ∈ es → x.2.2 = y.2.2 → x = y
  | [], _, x, y, hx, _, _ => by cases hx
  | e :: es, h, x, y, hx, hy, he => by
    rw [List.map_cons, List.nodup_cons] at h
    have key : ∀ z ∈ es, z.2.2 ≠ e.2.2 := fun z hz e' => h.1 (e' ▸ List.mem_map_of_mem (f := (·.2.2)) hz)
    rcases List.mem_cons.1 hx with h1 | h1
    · rcases List.mem_cons.1 hy with h2 | h2
      · rw [h1, h2]
      · exact absurd (by rw [← he, h1]) (key y h2)
    · rcases List.mem_cons.1 hy with h2 | h2
      · exact absurd (by rw [he, h2]) (key x h1)
      · exact nodup_inj h.2 h1 h2 he

theorem countP_lt {α : Type} {p q : α → Bool} : ∀ {l : List α}, (∀ x, p x = true → q x = true) → (∃ x ∈ l, q x = true ∧ p x = false) → l.countP p < l.countP q
  | [], _, ⟨x, hx, _⟩ => by cases hx
  | y :: l, h, ⟨x, hx, hq, hp⟩ => by
    have hle : l.countP p ≤ l.countP q := List.countP_mono_left fun x _ => h x
    rw [List.countP_cons, List.countP_cons]
    rcases List.mem_cons.1 hx with rfl | hx
    · simp only [hq, hp, if_true]; simp; omega
    · have := countP_lt h ⟨x, hx, hq, hp⟩
      by_cases hpy : p y = true
      · simp only [hpy, h y hpy, if_true]; omega
      · have hp0 : p y = false := by simpa using hpy
        rw [hp0]
        simp only [Bool.false_eq_true, if_false]
        omega

set_option maxHeartbeats 1000000 in
theorem closed_ok : PrimOK Try.prog 12 (closedP 28) := by
  have hmix : Try.prog.follows .mixedOrders = true := by decide
  refine ⟨⟨Try.f12, cl12, Try.func12, rfl, by decide⟩, fun E hE args h r h' he w0 β w vals hw hv => ?_⟩
  unfold closedP at he
  split at he
  case h_2 => cases he
  rename_i l
  split at he
  case h_2 => cases he
  rename_i m h1 hcall
  split at he
  case h_2 => cases he
  rename_i es clock hes
  cases hc0 : stampB clock es && Nat.blt m h1.next with
  | false => rw [hc0] at he; cases he
  | true =>
  rw [hc0] at he
  simp only [cond_true] at he
  split at he
  case h_2 => cases he
  rename_i b hb
  cases he
  simp only [Bool.and_eq_true] at hc0
  obtain ⟨hst, hmlt⟩ := hc0
  obtain ⟨s1, s2, _⟩ := stampB_spec hst
  obtain ⟨al1, al2⟩ := allThere_spec hb
  obtain ⟨V, Vs, v1, v2, rfl⟩ := hv.cons_inv
  have := v2.nil_inv; subst this
  refine callsIn_of_wp_marks Try.func12 (show Try.f12.body = some cl12 from rfl) trivial ?_
  have hs0 : ST w0 β 33 ⟨PT.leaf.set 0 (some l), [], h⟩ { tmps := [V].toArray ++ Array.replicate (Try.f12.ntmps - [V].toArray.size) undef, defers := [] } w :=
    ⟨⟨hw, FR.set1 FR.leaf ⟨V, by simp, v1⟩, by simp [Try.f12]⟩, rfl⟩
  have e0 : exec E tab pureA 12 33 big false (cL cl12) ⟨PT.leaf.set 0 (some l), [], h⟩ = some (.normal, ⟨(PT.leaf.set 0 (some l)).set 2 (some (.bool false)), [], h⟩) := ex_region (rs_val rfl rfl rfl rs_nil)
  have e1 : exec E tab pureA 12 33 big false (cL (cR cl12)) ⟨(PT.leaf.set 0 (some l)).set 2 (some (.bool false)), [], h⟩ =
      some (.normal, ⟨((((PT.leaf.set 0 (some l)).set 2 (some (.bool false))).set 10 (some l)).set 11 (some (.map m))).set 3 (some (.map m)), [], h1⟩) := by
    refine ex_region ?_
    exact rs_val rfl rfl rfl (rs_call rfl rfl hcall rfl (rs_val rfl rfl rfl rs_nil))
  show (Code.seq (cL cl12) (Code.seq (cL (cR cl12)) (cR (cR cl12)))).wpIn _ _ _ _ _ _
  refine wpIn_seq (exec_sound (r := none) tab_ok hE hmix (cL cl12) e0 hs0 fun β1 a1 w1 q1 g1 => ?_)
  refine wpIn_seq (exec_sound (r := none) tab_ok hE hmix (cL (cR cl12)) e1 q1 fun β2 a2 w2 q2 g2 => ?_)
  have g12 : Goes β h β2 h1 := g1.trans g2
  have hwf := q2.wr.wf
  obtain ⟨V3, t3, v3⟩ := q2.fr 3 (.map m) rfl
  simp only [VR] at v3
  obtain ⟨Lm, hLm, rfl⟩ := v3
  obtain ⟨Es2, em1, em2, _⟩ := q2.wr.obj _ _ Lm hes hLm
  have hn2 : β2 h1.next = none := by
    cases e : β2 h1.next with
    | none => rfl
    | some M => exact absurd (q2.wr.dom _ _ e) (Nat.lt_irrefl _)
  -- how it ends
  have fin : ∀ (bb : Bool) (β' : Inj) (ob : Obj) (fr : AFrame) (a : Act) (w' : World), ST w0 β' 33 ⟨fr, [], h1.add (.raw ob)⟩ a w' → fr.get 2 = some (.bool bb) → (∀ o, o < h1.next → β' o = β2 o) → bb = b →
      LeavesInM (FW none) 0 Try.prog Try.f12 a.tmps (RetPost w0 β h (.bool b) (h1.add .dead)) a.defers .returning w' := by
    intro bb β' ob fr a w' hs hfr hold hbb
    refine unmark_sim (F := FW none) (n := 0) [] hs.wr hs.dr rfl fun w1 k1 _ => ?_
    obtain ⟨U, u1, u2⟩ := results_sim (fn := Try.f12) (vs := [.bool bb]) tab_ok k1 hs.fr (by show resultsOf tab fr _ [.tmp 2] = _; simp [resultsOf, hfr])
    refine ⟨U, u1, β', U, rfl, by rw [hbb] at u2; exact u2, ?_, g12.trans ⟨hold, Nat.le_succ _, fun o ho _ => AHeap.get_add_ne _ _ (Nat.ne_of_lt ho)⟩⟩
    refine (k1.kill (o := h1.next) (AHeap.get_add_self _ _)).congr (fun o => ?_) rfl
    rw [AHeap.get_put]
    by_cases ho : o = h1.next
    · subst ho; rw [if_pos rfl, AHeap.get_add_self]
    · rw [if_neg ho, AHeap.get_add_ne _ _ ho, AHeap.get_add_ne _ _ ho]
  -- behind the loop
  have after : ∀ (β' : Inj) (ob : Obj) (fr : AFrame) (a : Act) (w' : World), ST w0 β' 33 ⟨fr, [], h1.add (.raw ob)⟩ a w' → (∀ o, o < h1.next → β' o = β2 o) → b = true →
      (cR (cR (cR cl12))).wpIn (FW none) 0 Try.prog (bodyPostM (FW none) 0 Try.prog Try.f12 (RetPost w0 β h (.bool b) (h1.add .dead))) a w' := by
    intro β' ob fr a w' hs hold hbt
    show (Code.seq (cL (cR (cR (cR cl12)))) Code.ret).wpIn _ _ _ _ _ _
    refine wpIn_seq (exec_sound (r := none) (A := pureA) (fid := 12) (n := big) tab_ok hE hmix (cL (cR (cR (cR cl12)))) (s' := ⟨fr.set 2 (some (.bool true)), [], h1.add (.raw ob)⟩) (ex_region (rs_val rfl rfl rfl rs_nil)) hs fun β3 a3 w3 q3 g3 => ?_)
    exact wpIn_ret (fin true β3 ob _ a3 w3 q3 (by rw [PT.get_set, if_pos rfl]) (fun o ho => (g3.old o (Nat.lt_succ_of_lt ho)).trans (hold o ho)) hbt.symm)
  show (Code.seq (Code.seq (cL (cL (cR (cR cl12)))) (Code.block 0 (Code.loop lb12))) (cR (cR (cR cl12)))).wpIn _ _ _ _ _ _
  refine wpIn_seq (wpIn_seq ?_)
  refine wpIn_region (id := 2) ?_
  show wpOpsIn _ _ _ _ _ (0 :: [1]) _ _
  refine ops_raw (V := .map (some Lm.b)) (w' := w2) rfl rfl (by intro c h; cases h) ?_ ?_
  · show Result.ok (Next.value (a2.eval (.tmp 3))) w2 = _
    rw [eval_tmp t3]
  have hsz2 : a2.tmps.size = 33 := q2.size
  have t12 : (a2.put (some 12) (.map (some Lm.b))).tmps[12]? = some (.map (some Lm.b)) := by simp [Act.put, hsz2]
  refine ops_raw (V := .pointer (some ⟨w2.heap.size, 0, none⟩)) (w' := w2.alloc (.mapIter (some Lm.b) clock #[] clock)) rfl rfl (by intro c h; cases h) ?_ ?_
  · show (do pure (Next.value (← Instr.range 48 ((a2.put (some 12) (.map (some Lm.b))).eval (.tmp 12)))) : Sem Next).run Try.prog w2 = _
    rw [eval_tmp t12]
    simp [run_range_map (P := Try.prog) w2 48 9 26 Lm.b Es2 clock Try.underlying48 em1]
  show (Code.block 0 (Code.loop lb12)).wpIn _ _ _ _ _ _
  refine wpIn_block ?_
  obtain ⟨W3, G3⟩ := q2.wr.alloc (x := .raw (.mapIter (some Lm.b) clock #[] clock)) (ob := .mapIter (some Lm.b) clock #[] clock) (L := ⟨w2.heap.size, 0, 0⟩) rfl ⟨heap_push_new, rfl, q2.wr.below.size⟩
  refine wpIn_loop (fun a w => ∃ β' seen c, ST w0 β' 33 ⟨(PT.leaf.set 13 (some (.ptr h1.next 0))).set 3 (some (.map m)), [], h1.add (.raw (.mapIter (some Lm.b) clock seen c))⟩ a w ∧ (∀ o, o < h1.next → β' o = β2 o) ∧ β' h1.next = some ⟨w2.heap.size, 0, 0⟩ ∧ clock ≤ c ∧
      (∀ e ∈ es, seen.contains e.2.2 = true → rowThere h1 es e.2.1 = some true))
    (fun _ w => match w.heap[w2.heap.size]? with | some (.mapIter _ _ seen _) => es.countP (fun e => !seen.contains e.2.2) | _ => 0) ?_ ?_
  · refine ⟨_, #[], clock, ⟨⟨W3, ?_, by rw [size_put, size_put]; exact hsz2⟩, by rw [defers_put, defers_put]; exact q2.dr⟩, G3.old, Inj.with_self _ _ _, Nat.le_refl _, fun e _ hh => by simp at hh⟩
    refine FR.set1 (FR.set1 FR.leaf ⟨_, by simp [Act.put, hsz2]; rfl, ?_⟩) ⟨.map (some Lm.b), ?_, ?_⟩
    · simp only [VR]
      exact ⟨_, Inj.with_self _ _ _, rfl⟩
    · show ((a2.tmps.setIfInBounds 12 (Value.map (some Lm.b))).setIfInBounds 13 (.pointer (some ⟨w2.heap.size, 0, none⟩)))[3]? = _
      rw [Array.getElem?_setIfInBounds, if_neg (by decide), Array.getElem?_setIfInBounds, if_neg (by decide)]
      exact t3
    · simp only [VR]
      exact ⟨Lm, (q2.wr.le G3) _ _ hLm, rfl⟩
  · rintro a w' ⟨β', seen, c, hs, hold, hoi, hcc, hseen⟩
    have hm' : β' m = some Lm := (hold m (by simpa using hmlt)).trans hLm
    have hraw := hs.wr.obj _ _ _ (AHeap.get_add_self _ _) hoi
    obtain ⟨hr1, _, hr3⟩ := hraw
    have hes' : (h1.add (.raw (.mapIter (some Lm.b) clock seen c))).get m = some (.map es clock) := by
      rw [AHeap.get_add_ne _ _ (Nat.ne_of_lt (by simpa using hmlt))]; exact hes
    obtain ⟨Es, x1, x2, _⟩ := hs.wr.obj _ _ Lm hes' hm'
    have hborn : ∀ x ∈ Es.toList, x.born < clock := fun x hx => by
      obtain ⟨e, he, _, _, hb⟩ := x2.find x hx
      rw [hb]; exact s1 e he
    have hnd : (Es.toList.map (·.born)).Nodup := by rw [er_borns x2]; exact s2
    obtain ⟨V13, t13, v13⟩ := hs.fr 13 (.ptr h1.next 0) rfl
    simp only [VR] at v13
    obtain ⟨L13, l13, rfl⟩ := v13
    rw [hoi] at l13; cases l13
    show (Code.seq (cL lb12) (Code.seq (cL (cR lb12)) (cR (cR lb12)))).wpIn _ _ _ _ _ _
    refine wpIn_seq ?_
    refine wpIn_region (id := 3) ?_
    show wpOpsIn _ _ _ _ _ (0 :: [1]) _ _
    rcases run_next_at (P := Try.prog) w' 0 w2.heap.size Lm.b clock c seen Es clock hr1 x1 hborn hcc with ⟨hz, hrun⟩ | ⟨e, heL, w1, hw1, hrun⟩
    · -- nothing is left
      refine ops_raw (V := .tuple #[.bool false]) (w' := w') rfl rfl (by intro c h; cases h) ?_ ?_
      · show (do pure (Next.value (← Instr.next (a.eval (.tmp 13)) false 0)) : Sem Next).run Try.prog w' = _
        rw [eval_tmp t13]
        simp only [Nat.add_zero, Sem.run_bind, hrun, Result.andThen_ok, Sem.run_pure]
      have hs14 : SR w0 β' 33 (((PT.leaf.set 13 (some (.ptr h1.next 0))).set 3 (some (.map m))).set 14 (some (.tuple [.bool false]))) (h1.add (.raw (.mapIter (some Lm.b) clock seen c))) (a.put (some 14) (.tuple #[.bool false])) w' :=
        ⟨hs.wr, hs.fr.put1 hs.size (by decide) (by simp only [VR]; exact ⟨[.bool false], VRL.cons (by simp [VR]) VRL.nil, rfl⟩), by rw [size_put]; exact hs.size⟩
      refine runSeq_wp (ops := _) tab_ok hE 1 1 rfl hs14 (show runSeq E tab 33 _ _ _ _ = some ((((PT.leaf.set 13 (some (.ptr h1.next 0))).set 3 (some (.map m))).set 14 (some (.tuple [.bool false]))).set 15 (some (.bool false)), _) from rs_val rfl rfl rfl rs_nil) fun β3 a3 w3 q3 g3 d3 => ?_
      show (Code.seq (cL (cR lb12)) (cR (cR lb12))).wpIn _ _ _ _ _ _
      refine wpIn_seq ?_
      obtain ⟨V15, t15, v15⟩ := q3.fr 15 (.bool false) rfl
      simp only [VR] at v15
      subst v15
      show (Code.cond (.tmp 15) .skip (.exit 0)).wpIn _ _ _ _ _ _
      refine wpIn_cond_false (eval_tmp t15) (wpIn_exit ?_)
      simp only [Exit.then, Exit.inBlock, if_true]
      refine after β3 _ _ a3 w3 ⟨q3, by rw [d3, defers_put]; exact hs.dr⟩ (fun o ho => (g3.old o (Nat.lt_succ_of_lt ho)).trans (hold o ho)) (al2.2 fun e he => hseen e he ?_)
      obtain ⟨E', hE', hb'⟩ := x2.back e he
      have : E' ∉ (leftOf Es seen).toList := by
        rw [show (leftOf Es seen) = #[] from Array.eq_empty_of_size_eq_zero hz]; simp
      simp only [leftOf, Array.toList_filter, List.mem_filter, hE', true_and, Bool.not_eq_true', Bool.not_eq_false] at this
      rw [← hb']; exact this
    · -- an entry
      have hmemE : e ∈ Es.toList ∧ seen.contains e.born = false := by
        simpa [leftOf, Array.toList_filter, List.mem_filter] using heL
      obtain ⟨ea, hea, ve1, ve2, hbe⟩ := x2.find e hmemE.1
      have hw1' : WR w0 β' (h1.add (.raw (.mapIter (some Lm.b) clock seen c))) w1 := by
        rcases hw1 with rfl | rfl
        · exact hs.wr
        · exact hs.wr.drew
      have hsize1 : w1.heap = w'.heap := by rcases hw1 with rfl | rfl <;> rfl
      have hlt1 : w2.heap.size < w1.heap.size := by
        rw [hsize1]
        rcases Nat.lt_or_ge w2.heap.size w'.heap.size with hh | hh
        · exact hh
        · rw [Array.getElem?_eq_none hh] at hr1; cases hr1
      obtain ⟨T1, T2⟩ := hw1'.turn (y := .raw (.mapIter (some Lm.b) clock (seen.push e.born) clock)) (w' := setBlock w1 w2.heap.size (.mapIter (some Lm.b) clock (seen.push e.born) clock)) (AHeap.get_add_self _ _) rfl hoi
        ⟨by simp [setBlock, hlt1], rfl, hr3⟩ rfl rfl rfl (by simp [setBlock]) (fun k hk => by simp [setBlock, Array.getElem?_setIfInBounds, Ne.symm hk])
      have hget : ∀ o, (h1.add (.raw (.mapIter (some Lm.b) clock (seen.push e.born) clock))).get o = ((h1.add (.raw (.mapIter (some Lm.b) clock seen c))).put h1.next (.raw (.mapIter (some Lm.b) clock (seen.push e.born) clock))).get o := fun o => by
        rw [AHeap.get_put]
        by_cases ho : o = h1.next
        · subst ho; rw [if_pos rfl, AHeap.get_add_self]
        · rw [if_neg ho, AHeap.get_add_ne _ _ ho, AHeap.get_add_ne _ _ ho]
      have WN := T1.congr hget rfl
      refine ops_raw (V := .tuple #[.bool true, e.key, e.val]) (w' := setBlock w1 w2.heap.size (.mapIter (some Lm.b) clock (seen.push e.born) clock)) rfl rfl (by intro c h; cases h) ?_ ?_
      · show (do pure (Next.value (← Instr.next (a.eval (.tmp 13)) false 0)) : Sem Next).run Try.prog w' = _
        rw [eval_tmp t13]
        simp only [Nat.add_zero, Sem.run_bind, hrun, Result.andThen_ok, Sem.run_pure]
      have hs14 : SR w0 β' 33 (((PT.leaf.set 13 (some (.ptr h1.next 0))).set 3 (some (.map m))).set 14 (some (.tuple [.bool true, ea.1, ea.2.1]))) (h1.add (.raw (.mapIter (some Lm.b) clock (seen.push e.born) clock))) (a.put (some 14) (.tuple #[.bool true, e.key, e.val])) (setBlock w1 w2.heap.size (.mapIter (some Lm.b) clock (seen.push e.born) clock)) :=
        ⟨WN, hs.fr.put1 hs.size (by decide) (by simp only [VR]; exact ⟨[.bool true, e.key, e.val], VRL.cons (by simp [VR]) (VRL.cons ve1 (VRL.cons ve2 VRL.nil)), rfl⟩), by rw [size_put]; exact hs.size⟩
      refine runSeq_wp (ops := _) tab_ok hE 1 1 rfl hs14 (show runSeq E tab 33 _ _ _ _ = some ((((PT.leaf.set 13 (some (.ptr h1.next 0))).set 3 (some (.map m))).set 14 (some (.tuple [.bool true, ea.1, ea.2.1]))).set 15 (some (.bool true)), _) from rs_val rfl rfl rfl rs_nil) fun β3 a3 w3 q3 g3 d3 => ?_
      show (Code.seq (cL (cR lb12)) (cR (cR lb12))).wpIn _ _ _ _ _ _
      refine wpIn_seq ?_
      obtain ⟨V15, t15, v15⟩ := q3.fr 15 (.bool true) rfl
      simp only [VR] at v15
      subst v15
      show (Code.cond (.tmp 15) .skip (.exit 0)).wpIn _ _ _ _ _ _
      refine wpIn_cond_true (eval_tmp t15) (wpIn_skip ?_)
      show (Code.block 1 (Code.seq (cL (cL (cR (cR lb12)))) (cR (cL (cR (cR lb12)))))).wpIn _ _ _ _ _ _
      refine wpIn_block (wpIn_seq ?_)
      refine wpIn_region (id := 4) ?_
      show wpOpsIn _ _ _ _ _ (0 :: [1, 2]) _ _
      have hold3 : ∀ o, o < h1.next → β3 o = β2 o := fun o ho => (g3.old o (Nat.lt_succ_of_lt ho)).trans (hold o ho)
      have hoi3 : β3 h1.next = some ⟨w2.heap.size, 0, 0⟩ := (g3.old _ (Nat.lt_succ_self _)).trans hoi
      have hm3 : β3 m = some Lm := (hold3 m (by simpa using hmlt)).trans hLm
      have hes3 : (h1.add (.raw (.mapIter (some Lm.b) clock (seen.push e.born) clock))).get m = some (.map es clock) := by
        rw [AHeap.get_add_ne _ _ (Nat.ne_of_lt (by simpa using hmlt))]; exact hes
      obtain ⟨hr31, _, _⟩ := q3.wr.obj _ _ _ (AHeap.get_add_self _ _) hoi3
      obtain ⟨Es3, x31, x32, _⟩ := q3.wr.obj _ _ Lm hes3 hm3
      obtain ⟨e3, he3, hbe3⟩ := x32.back ea hea
      have hb33 : e.born = e3.born := by rw [hbe, hbe3]
      obtain ⟨ea3, hea3, ve31, ve32, hbe33⟩ := x32.find e3 he3
      have hnd3 : (Es3.toList.map (·.born)).Nodup := by rw [er_borns x32]; exact s2
      obtain ⟨V13', t13', v13'⟩ := q3.fr 13 (.ptr h1.next 0) rfl
      simp only [VR] at v13'
      obtain ⟨L13, l13, rfl⟩ := v13'
      rw [hoi3] at l13; cases l13
      rw [hb33] at hr31
      refine ops_raw (V := .tuple #[e3.key, e3.val]) (w' := w3) rfl rfl (by intro c h; cases h) ?_ ?_
      · show (do pure (Next.value (← Instr.entry (a3.eval (.tmp 13)))) : Sem Next).run Try.prog w3 = _
        rw [eval_tmp t13']
        simp only [Nat.add_zero, Sem.run_bind, run_entry_at w3 w2.heap.size Lm.b clock seen Es3 clock e3 hr31 x31 he3 hnd3, Result.andThen_ok, Sem.run_pure]
      have hs16 : SR w0 β3 33 ((((((PT.leaf.set 13 (some (.ptr h1.next 0))).set 3 (some (.map m))).set 14 (some (.tuple [.bool true, ea.1, ea.2.1]))).set 15 (some (.bool true))).set 16 (some (.tuple [ea3.1, ea3.2.1])))) (h1.add (.raw (.mapIter (some Lm.b) clock (seen.push e.born) clock))) (a3.put (some 16) (.tuple #[e3.key, e3.val])) w3 :=
        ⟨q3.wr, q3.fr.put1 q3.size (by decide) (by simp only [VR]; exact ⟨[e3.key, e3.val], VRL.cons ve31 (VRL.cons ve32 VRL.nil), rfl⟩), by rw [size_put]; exact q3.size⟩
      refine runSeq_wp (ops := _) tab_ok hE 2 1 rfl hs16 (show runSeq E tab 33 _ _ _ _ = some (_, _) from rs_val rfl rfl rfl (rs_val rfl rfl rfl rs_nil)) fun β4 a4 w4 q4 g4 d4 => ?_
      show (cR (cL (cR (cR lb12)))).wpIn _ _ _ _ _ _
      obtain ⟨x, hx⟩ := al1 ea3 hea3
      obtain ⟨fr5, ee, hex, hres⟩ := rb12 (E := E) (rd := false) (it := .ptr h1.next 0) hes3 (rowThere_add (x := .raw (.mapIter (some Lm.b) clock (seen.push e.born) clock)) hwf hx)
      have hs5 : ST w0 β4 33 ⟨f5 (.map m) (.ptr h1.next 0) ea3.2.1, [], h1.add (.raw (.mapIter (some Lm.b) clock (seen.push e.born) clock))⟩ a4 w4 :=
        ⟨⟨q4.wr, FR.set1 (FR.set1 (FR.set1 FR.leaf (q4.fr 13 _ rfl)) (q4.fr 3 _ rfl)) (q4.fr 5 _ rfl), q4.size⟩, by rw [d4, defers_put, d3, defers_put]; exact hs.dr⟩
      have hold4 : ∀ o, o < h1.next → β4 o = β2 o := fun o ho => (g4.old o (Nat.lt_succ_of_lt ho)).trans (hold3 o ho)
      refine exec_sound (r := none) tab_ok hE hmix _ hex hs5 fun β5 a5 w5 q5 g5 => ?_
      have hold5 : ∀ o, o < h1.next → β5 o = β2 o := fun o ho => (g5.old o (Nat.lt_succ_of_lt ho)).trans (hold4 o ho)
      have hoi5 : β5 h1.next = some ⟨w2.heap.size, 0, 0⟩ := (g5.old _ (Nat.lt_succ_self _)).trans ((g4.old _ (Nat.lt_succ_self _)).trans hoi3)
      rcases hres with ⟨hxt, rfl, c13, c3⟩ | ⟨hxf, rfl, c2⟩
      · subst hxt
        obtain ⟨hr5, _, _⟩ := q5.wr.obj _ _ _ (AHeap.get_add_self _ _) hoi5
        refine ⟨⟨β5, seen.push e.born, clock, ⟨⟨q5.wr, FR.set1 (FR.set1 FR.leaf (q5.fr 13 _ c13)) (q5.fr 3 _ c3), q5.size⟩, q5.dr⟩, hold5, hoi5, Nat.le_refl _, fun e' he' hs' => ?_⟩, ?_⟩
        · rw [Array.contains_push, Bool.or_eq_true] at hs'
          rcases hs' with hs' | hs'
          · exact hseen e' he' hs'
          · have heq : e' = ea3 := nodup_inj s2 he' hea3 (by
              have : e'.2.2 = e.born := by simpa using hs'
              rw [this, hb33, hbe33])
            rw [heq]; exact hx
        · rw [hr1, hr5]
          exact countP_lt (fun x hx => by
            simp only [Array.contains_push, Bool.not_eq_true', Bool.or_eq_false_iff] at hx ⊢
            exact hx.1) ⟨ea, hea, by rw [← hbe, hmemE.2]; rfl, by rw [← hbe]; simp [Array.contains_push]⟩
      · subst hxf
        have hbf : b = false := by
          cases hbb : b with
          | false => rfl
          | true =>
            have := al2.1 hbb ea3 hea3
            rw [hx] at this; cases this
        exact fin false β5 _ _ a5 w5 q5 c2 hold5 hbf.symm
end Go.Am
