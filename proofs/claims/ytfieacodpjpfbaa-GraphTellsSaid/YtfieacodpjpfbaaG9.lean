/-
  graph.Order: the walk.
-/
import Derived.Test.YtfieacodpjpfbaaG8
set_option linter.unusedVariables false
set_option linter.unusedSimpArgs false
namespace Go.Am
open Go Go.Proofs

theorem pick_some {G : Gr} {left : List Bs} (h : left ≠ []) : ∃ p r, pickG G left = p :: r ∧ p ∈ left := by
  have hs : sortS left ≠ [] := fun e => by
    have := sortS_len left
    rw [e] at this
    exact h (List.eq_nil_of_length_eq_zero this.symm)
  have hp : pickG G left ≠ [] := by
    unfold pickG; split
    · exact hs
    · assumption
  cases hc : pickG G left with
  | nil => exact absurd hc hp
  | cons p r =>
    refine ⟨p, r, rfl, ?_⟩
    have hm : p ∈ pickG G left := by rw [hc]; exact List.mem_cons_self
    unfold pickG at hm
    split at hm
    · exact mem_sortS.1 hm
    · exact mem_sortS.1 (List.mem_filter.1 hm).1

theorem filter_ne_length {p : Bs} : ∀ {l : List Bs}, l.Nodup → p ∈ l → (l.filter fun q => decide (q ≠ p)).length + 1 = l.length
  | x :: l, hn, hp => by
    rw [List.nodup_cons] at hn
    simp only [List.filter_cons]
    by_cases h : x = p
    · subst h
      have : (l.filter fun q => decide (q ≠ x)) = l := List.filter_eq_self.2 fun y hy => by
        simp only [ne_eq, decide_not, Bool.not_eq_true', decide_eq_false_iff_not]
        exact fun e => hn.1 (e ▸ hy)
      simp [this]; simpa using congrArg List.length this
    · rcases List.mem_cons.1 hp with e | e
      · exact absurd e.symm h
      · have := filter_ne_length hn.2 e
        simp only [ne_eq, h, not_false_eq_true, decide_true, if_true, List.length_cons] at this ⊢
        omega

theorem ordG_nil (G : Gr) (out : List Bs) : ∀ f, ordG G f [] out = out
  | 0 => rfl
  | f + 1 => by simp [ordG, pickG, readyG, sortS]

theorem order_run {h : AHeap} (hw : h.WF) {v : AV} {G : Gr} (a : PRep h v G) (hG : SmallG G) :
    ∃ v' h', EG (.fn 21) [v] h = some (v', h') ∧ SOwn h h' v' (orderG G) ∧ Ext h h' := by
  obtain ⟨m, h1, l, e1, M, x1, _⟩ := refs_run hw a hG.1
  have g3 : (h1.add (.cells [.nilmap] true)).get h1.next = some (.cells [.nilmap] true) := AHeap.get_add_self _ _
  obtain ⟨B, qB⟩ : ∃ B, B = (h1.add (.cells [.nilmap] true)).put h1.next (.cells [.map m] true) := ⟨_, rfl⟩
  have xB : Ext h1 B := qB ▸ ((Ext.refl x1.wf).add _).put x1.wf.new g3 _
  have gc3 : B.get h1.next = some (.cells [.map m] true) := by rw [qB]; exact AHeap.get_put_self _ _ _
  have MB := M.ext xB
  obtain ⟨sl1, sl2⟩ := mrep_small MB hG
  -- the clone
  obtain ⟨h7, q7⟩ : ∃ h7, h7 = B.add (.map (strE l) l.length) := ⟨_, rfl⟩
  have e36 : EG (.fn 36) [.map m] B = some (.map B.next, h7) := run_prim (f := 36) (p := cloneP) rfl (by unfold cloneP; simp only [MB.1]; rw [q7])
  have x7 : Ext B h7 := q7 ▸ (Ext.refl xB.wf).add _
  have gml : h7.get B.next = some (.map (strE l) l.length) := by rw [q7]; exact AHeap.get_add_self _ _
  have g9 : (h7.add (.cells [.nilmap] true)).get h7.next = some (.cells [.nilmap] true) := AHeap.get_add_self _ _
  obtain ⟨h10, q10⟩ : ∃ h10, h10 = (h7.add (.cells [.nilmap] true)).put h7.next (.cells [.map B.next] true) := ⟨_, rfl⟩
  have x10 : Ext h7 h10 := q10 ▸ ((Ext.refl x7.wf).add _).put x7.wf.new g9 _
  have gc4 : h10.get h7.next = some (.cells [.map B.next] true) := by rw [q10]; exact AHeap.get_put_self _ _ _
  have hBml : B.get B.next = none := xB.wf.new
  have hBc4 : B.get h7.next = none := x7.new
  have hkeys : l.map (·.1) = keysG G [] := M.2.2.1
  have hK : (keysG G []).length = l.length := by rw [← hkeys, List.length_map]
  obtain ⟨N, hN⟩ : ∃ N, (keysG G []).length < N := ⟨_, Nat.lt_succ_self _⟩
  suffices ∃ v' h', F21 EG N v h = some (v', h') ∧ SOwn h h' v' (orderG G) ∧ Ext h h' by
    obtain ⟨v', h', e, q⟩ := this
    exact ⟨v', h', run21 _ e, q⟩
  unfold F21
  have n2 : newCells h1 [.nilmap] (fun o => .ptr o 0) = some (.ptr h1.next 0, h1.add (.cells [.nilmap] true)) := rfl
  have s2 : storeA tab (h1.add (.cells [.nilmap] true)) 48 (.ptr h1.next 0) (.map m) = some B := by
    simp only [storeA, astore, g3, ty48]; rw [qB]; rfl
  have l5 : loadA tab B 48 (.ptr h1.next 0) = some (.map m) := loadA_cell ty48 rfl gc3 rfl
  have n8 : newCells h7 [.nilmap] (fun o => .ptr o 0) = some (.ptr h7.next 0, h7.add (.cells [.nilmap] true)) := rfl
  have s9 : storeA tab (h7.add (.cells [.nilmap] true)) 48 (.ptr h7.next 0) (.map B.next) = some h10 := by
    simp only [storeA, astore, g9, ty48]; rw [q10]; rfl
  simp only [e1, bothK_s, n2, s2, hpK_s, l5, valK_s, e36, n8, s9]
  have x1B := x1.trans xB
  generalize hc3 : h1.next = c3 at *
  generalize hc4 : h7.next = c4 at *
  generalize hml : B.next = ml at *
  refine loop_rule (σ := AV × AV × AV × Unit) (R := AV × AHeap) (total := (keysG G []).length)
    (I := fun i st hh => i ≤ (keysG G []).length ∧ Ext B hh ∧ ∃ out, ∃ l' : SE, ∃ outl : List Bs, st = (.ptr c3 0, .ptr c4 0, out, ()) ∧ hh.get c4 = some (.cells [.map ml] true) ∧ hh.get ml = some (.map (strE l') l.length) ∧ Once l' l.length ∧ (l'.map (·.1)).Nodup ∧
      (∀ e ∈ l', e ∈ l) ∧ l'.length + i = (keysG G []).length ∧ SOwn B hh out outl ∧ outl.length = i ∧ ordG G l'.length (l'.map (·.1)) outl = orderG G)
    (Q := fun o => ∃ v' h', o = some (v', h') ∧ SOwn h h' v' (orderG G) ∧ Ext h h') ?_ _ 0 _ _
    ⟨by omega, x7.trans x10, .nilslice, l, [], rfl, gc4, x10.keep _ _ gml, M.2.1.once, M.2.1.1, fun e he => he, by omega, own_nil _ _ 1, rfl, by rw [hkeys, ← hK]; rfl⟩ (by omega) (by omega)
  rintro i st hh nx ⟨hi, hext, out, l', outl, rfl, k4, kml, hon, hnd, hsub, hlen, ho, hol, hord⟩
  have lc4 : loadA tab hh 48 (.ptr c4 0) = some (.map ml) := loadA_cell ty48 rfl k4 rfl
  have hlm : alen tab hh 48 (.map ml) = some (.int .i64 (l'.length : Int)) := by
    rw [len_map ty48 kml]; simp [strE]
  simp only [F21_b4, lc4, valK_s, hlm, abin_gtr]
  by_cases hz : l' = []
  · right
    subst hz
    rw [show decide ((0 : Int) < (([] : SE).length : Int)) = false from rfl]
    simp only [boolK_f, unmark_nil, hpK_s]
    simp only [List.map_nil, List.length_nil, ordG] at hord
    rw [← hord]
    exact ⟨out, hh, rfl, ho.base x1B, x1B.trans hext⟩
  · left
    have hpos : 0 < l'.length := List.length_pos_iff.2 hz
    rw [decide_eq_true (show (0 : Int) < (l'.length : Int) by omega)]
    simp only [boolK_t]
    have hMh := MB.ext hext
    have hl'1 : l'.length < 1000000 := by omega
    have hl'2 : ∀ e ∈ l', e.1.length < 1000000000 := fun e he => sl2 e (hsub e he)
    have keep4 : ∀ {h2 : AHeap}, Ext hh h2 → loadA tab h2 48 (.ptr c4 0) = some (.map ml) := fun x => loadA_cell ty48 rfl (x.keep _ _ k4) rfl
    have keep3 : ∀ {h2 : AHeap}, Ext hh h2 → loadA tab h2 48 (.ptr c3 0) = some (.map m) := fun x => loadA_cell ty48 rfl ((hext.trans x).keep _ _ gc3) rfl
    -- those that are ready
    obtain ⟨v1, h17, e17, o17, x17⟩ := kept30_run hext.wf kml hon hl'1 hl'2 (g := 37) (cap := [.ptr c3 0, .ptr c4 0]) (f := fun p => !((refsOf G p).any fun q => decide (q ∈ l'.map (·.1)) && decide (q ≠ p))) (fun p hp h2 hx => by
      have y1 : Ext h2 (h2.add (.cells [.str p] true)) := (Ext.refl hx.wf).add _
      have gb : (h2.add (.cells [.str p] true)).get h2.next = some (.cells [.str p] true) := AHeap.get_add_self _ _
      have M2 := (hMh.ext hx).ext y1
      have row := mrep_row M2 p
      obtain ⟨h3, c1, c2⟩ := containsF_run y1.wf row (refsOf_len hG p) (g := 39) (cap := [.ptr c4 0, .ptr h2.next 0]) (f := fun q => decide (q ∈ l'.map (·.1)) && decide (q ≠ p)) (fun q hq h4 hx4 => by
        refine ⟨h4, run39 0 ?_, Ext.refl hx4.wf⟩
        unfold F39
        have l4 := keep4 ((hx.trans y1).trans hx4)
        have lb : loadA tab h4 9 (.ptr h2.next 0) = some (.str p) := loadA_cell ty9 rfl (hx4.keep _ _ gb) rfl
        simp only [l4, valK_s, lookup_str ty48 ty26 (((hx.trans y1).trans hx4).keep _ _ kml)]
        by_cases hin : q ∈ l'.map (·.1)
        · have : ∃ w, getS q l' = some w := by
            cases hg : getS q l' with
            | some w => exact ⟨w, rfl⟩
            | none => exact absurd hin (getS_none.1 hg)
          obtain ⟨w, hg⟩ := this
          simp only [hg, cond_true, extractA_0, extractA_1, valK_s, boolK_t, lb, abin_strne, decide_eq_true hin, Bool.true_and]
          simp
        · simp only [getS_none.2 hin, cond_true, extractA_0, extractA_1, valK_s, boolK_f, decide_eq_false hin, Bool.false_and])
      refine ⟨h3, run37 0 ?_, y1.trans c2⟩
      unfold F37
      have b0 : boxA h2 (.str p) = some (.ptr h2.next 0, h2.add (.cells [.str p] true)) := rfl
      have lb : loadA tab (h2.add (.cells [.str p] true)) 9 (.ptr h2.next 0) = some (.str p) := loadA_cell ty9 rfl gb rfl
      simp only [b0, bothK_s, keep3 (hx.trans y1), valK_s, lb, lookup_str ty48 ty26 M2.1, cond_false]
      rcases hg : getS p l with _ | rv
      · rw [hg] at c1
        simp only at c1 ⊢
        simp only [c1, bothK_s, aun_not, valK_s]
      · rw [hg] at c1
        simp only at c1 ⊢
        simp only [c1, bothK_s, aun_not, valK_s])
    have hleft : l'.map (·.1) ≠ [] := fun e => hz (List.map_eq_nil_iff.1 e)
    obtain ⟨p, r, hpick, hpm⟩ := pick_some (G := G) hleft
    -- what stands behind
    have behind : ∀ {v2 : AV} {h21 : AHeap}, Ext hh h21 → SOwn hh h21 v2 (pickG G (l'.map (·.1))) → ∃ s' h', (valK (aindexAddr tab 26 v2 (.int .i64 0)) fun x22 =>
        valK (loadA tab h21 9 x22) fun x23 =>
        bothK (abuildSlice tab h21 26 1 [(0, x23)]) fun x24 h25 =>
        bothK (aappend tab h25 26 26 out x24) fun x26 h27 =>
        valK (loadA tab h27 48 (.ptr c4 0)) fun x28 =>
        valK (aindexAddr tab 26 v2 (.int .i64 0)) fun x29 =>
        valK (loadA tab h27 9 x29) fun x30 =>
        hpK (adelete tab h27 48 x28 x30) fun h31 =>
        nx (.ptr c3 0, .ptr c4 0, x26, ()) [] h31) = nx s' [] h' ∧ (i + 1 ≤ (keysG G []).length ∧ Ext B h' ∧ ∃ out, ∃ l' : SE, ∃ outl : List Bs, s' = (.ptr c3 0, .ptr c4 0, out, ()) ∧ h'.get c4 = some (.cells [.map ml] true) ∧ h'.get ml = some (.map (strE l') l.length) ∧ Once l' l.length ∧ (l'.map (·.1)).Nodup ∧
          (∀ e ∈ l', e ∈ l) ∧ l'.length + (i + 1) = (keysG G []).length ∧ SOwn B h' out outl ∧ outl.length = i + 1 ∧ ordG G l'.length (l'.map (·.1)) outl = orderG G) := by
      intro v2 h21 x21 w21
      have r21 := w21.row
      rw [hpick] at r21
      obtain ⟨q, t1, t2⟩ := srow_get r21 (i := 0) (s := p) rfl
      have t1' : aindexAddr tab 26 v2 (.int .i64 0) = some q := t1
      have ho21 := ho.ext x21
      have hd : ∀ j, B.get j ≠ none → h21.get j ≠ none := ext_dom (hext.trans x21)
      obtain ⟨y, h25, v3, h27, p1, p2, p3, p4, p5, _⟩ := pushK (x := .str p) ty26 ty9 rfl rfl (by decide) (by decide) (by decide) ho21 x21.wf hd rfl rfl rfl (by omega)
      -- what the push leaves as it is
      have only : ∀ j y, h21.get j = some y → (∀ vs rw, y = .cells vs rw → ∃ x ∈ vs, ∀ s, x ≠ .str s) → h27.get j = some y := fun j y hj hy => by
        refine p5 j y hj fun n' e' hv => ?_
        rcases ho21.2 with ⟨hv2, _⟩ | ⟨o, hv2, ho2, _⟩
        · rw [hv2] at hv; cases hv
        · rw [hv2] at hv; cases hv
          rw [ho2] at hj; cases hj
          obtain ⟨x, hx, hxs⟩ := hy _ _ rfl
          simp only [strs, List.mem_map] at hx
          obtain ⟨s, _, rfl⟩ := hx
          exact hxs s rfl
      have k4' : h27.get c4 = some (.cells [.map ml] true) := only _ _ (x21.keep _ _ k4) fun vs rw e => by cases e; exact ⟨_, List.mem_cons_self, fun s h => by cases h⟩
      have kml' : h27.get ml = some (.map (strE l') l.length) := only _ _ (x21.keep _ _ kml) fun vs rw e => by cases e
      have xB27 : Ext B h27 := p4.ext (hext.trans x21)
      -- the picked row is there still
      have hap : Apart out v2 := fun j n e n' e' ho1 hv2 => by
        have i1 := own_there ho ho1
        rcases w21.2 with ⟨e1, _⟩ | ⟨o, e1, _, e2⟩
        · rw [e1] at hv2; cases hv2
        · rw [e1] at hv2; cases hv2; exact i1 e2
      have t3 : loadA tab h27 9 q = some (.str p) := by
        have r27 := (own_keep w21 hap p5).row
        rw [hpick] at r27
        obtain ⟨q', u1, u2⟩ := srow_get r27 (i := 0) (s := p) rfl
        rw [t1] at u1; cases u1
        exact u2
      have l28 : loadA tab h27 48 (.ptr c4 0) = some (.map ml) := loadA_cell ty48 rfl k4' rfl
      have hdel := delete_str (k := p) ty48 kml' hnd
      simp only [t1', t2, valK_s, p1, p2, bothK_s, l28, t3, hdel, hpK_s]
      have hfl := filter_ne_length hnd hpm
      rw [← delS_keys, List.length_map, List.length_map] at hfl
      refine ⟨_, _, rfl, by omega, xB27.put hBml kml' _, v3, delS p l', outl ++ [p], rfl, ?_, AHeap.get_put_self _ _ _, hon.sub _, ?_, fun e he => hsub e (List.mem_filter.1 he).1, by omega, ?_, by simp [hol], ?_⟩
      · rw [AHeap.get_put_ne _ _ (fun e => by rw [e, kml'] at k4'; cases k4')]; exact k4'
      · rw [delS_keys]; exact hnd.filter _
      · obtain ⟨z1, z2⟩ := sown_push p3
        refine ⟨z1, ?_⟩
        rcases z2 with z2 | ⟨o, z2, z3, z4⟩
        · exact .inl z2
        · refine .inr ⟨o, z2, ?_, z4⟩
          rw [AHeap.get_put_ne _ _ (fun e => by rw [e, kml'] at z3; cases z3)]; exact z3
      · rw [delS_keys, ← hord]
        have : l'.length = (delS p l').length + 1 := by omega
        rw [this]
        simp only [ordG, hpick]
    have hready : ((sortS (l'.map (·.1))).filter fun p => !((refsOf G p).any fun q => decide (q ∈ l'.map (·.1)) && decide (q ≠ p))) = readyG G (l'.map (·.1)) := rfl
    rw [hready] at o17
    simp only [e17, bothK_s, jn_a, srow_len o17.row, valK_s, abin_eql]
    by_cases hr0 : readyG G (l'.map (·.1)) = []
    · have hz0 : decide (((readyG G (l'.map (·.1))).length : Int) = 0) = true := by rw [hr0]; rfl
      simp only [hz0, boolK_t, keep4 x17, valK_s]
      obtain ⟨v2, h36, e36', o36, x36⟩ := kept30_run x17.wf (x17.keep _ _ kml) hon hl'1 hl'2 (g := 40) (cap := []) (f := fun _ => true) (fun p hp h3 hx => ⟨h3, run40 0 rfl, Ext.refl hx.wf⟩)
      rw [List.filter_eq_self.2 (fun _ _ => rfl)] at o36
      have hpk : pickG G (l'.map (·.1)) = sortS (l'.map (·.1)) := by unfold pickG; rw [if_pos hr0]
      simp only [e36', bothK_s]
      obtain ⟨s', h', b1, b2⟩ := behind (x17.trans x36) (by rw [hpk]; exact o36.base x17)
      exact ⟨by omega, s', h', b1, b2⟩
    · have hz0 : decide (((readyG G (l'.map (·.1))).length : Int) = 0) = false := by
        rw [decide_eq_false_iff_not]
        intro e
        exact hr0 (List.eq_nil_of_length_eq_zero (by omega))
      simp only [hz0, boolK_f]
      have hpk : pickG G (l'.map (·.1)) = readyG G (l'.map (·.1)) := by unfold pickG; rw [if_neg hr0]
      obtain ⟨s', h', b1, b2⟩ := behind x17 (by rw [hpk]; exact o17)
      exact ⟨by omega, s', h', b1, b2⟩

end Go.Am
