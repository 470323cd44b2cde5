/-
  GraphMore: the walk, and what is plain in it.
-/
import Derived.Test.YtfieacodpjpfbaaG6
set_option linter.unusedVariables false
set_option linter.unusedSimpArgs false
namespace Go.Am
open Go Go.Proofs

/-! ### Plain -/

theorem closure_two (G : Gr) (x y : List Bs) (p : Bs) : p ∈ closureG G (x ++ y) ↔ p ∈ closureG G x ∨ p ∈ closureG G y := by
  simp only [mem_closureG, List.mem_append]
  constructor
  · rintro ⟨q, h | h, hr⟩
    · exact .inl ⟨q, h, hr⟩
    · exact .inr ⟨q, h, hr⟩
  · rintro (⟨q, h, hr⟩ | ⟨q, h, hr⟩)
    · exact ⟨q, .inl h, hr⟩
    · exact ⟨q, .inr h, hr⟩

/-- One path more, that nobody names. -/
def moreG (G : Gr) (z : Bs) (x : List Bs) : Gr := G ++ [(z, x)]

theorem thereG_append : ∀ (G : Gr) (e : Bs × List Bs) (p : Bs), thereG (G ++ [e]) p = match thereG G p with | some rs => some rs | none => if p = e.1 then some e.2 else none
  | [], e, p => by simp [thereG]
  | f :: G, e, p => by
    simp only [List.cons_append, thereG]
    by_cases h : p = f.1
    · simp [h]
    · simp [h, thereG_append G e p]

section
variable {G : Gr} {z : Bs} {x : List Bs}

theorem more_rch (hc : closedG G = true) (hz : z ∉ G.map (·.1)) {p q : Bs} (hp : p ∈ G.map (·.1)) : Rch (thereG (moreG G z x)) p q ↔ Rch (thereG G) p q := by
  constructor
  · intro h
    induction h with
    | refl _ => exact .refl ((thereG_mem G _).2 hp)
    | step h hq t ih =>
      obtain ⟨rs, hrs⟩ := Option.isSome_iff_exists.1 ((thereG_mem G _).2 hp)
      rw [moreG, thereG_append, hrs] at h
      cases h
      exact .step hrs hq (ih (closedG_iff.1 hc _ _ hrs _ hq))
  · intro h
    induction h with
    | refl h =>
      obtain ⟨rs, hrs⟩ := Option.isSome_iff_exists.1 h
      exact .refl (by rw [moreG, thereG_append, hrs]; rfl)
    | step h hq t ih =>
      exact .step (by rw [moreG, thereG_append, h]) hq (ih (closedG_iff.1 hc _ _ h _ hq))

theorem more_closure (hc : closedG G = true) (hz : z ∉ G.map (·.1)) {y : List Bs} (hy : ∀ q ∈ y, q ∈ G.map (·.1)) : closureG (moreG G z x) y = closureG G y := by
  refine rising_ext (closureG_rising _ _) (closureG_rising _ _) fun q => ?_
  simp only [mem_closureG]
  constructor
  · rintro ⟨p, hp, hr⟩; exact ⟨p, hp, (more_rch hc hz (hy p hp)).1 hr⟩
  · rintro ⟨p, hp, hr⟩; exact ⟨p, hp, (more_rch hc hz (hy p hp)).2 hr⟩

theorem more_keys : (moreG G z x).map (·.1) = G.map (·.1) ++ [z] := by simp [moreG]

theorem more_nodup (hn : (G.map (·.1)).Nodup) (hz : z ∉ G.map (·.1)) : ((moreG G z x).map (·.1)).Nodup := by
  rw [more_keys, List.nodup_append]
  exact ⟨hn, by simp, fun a ha b hb => by simp at hb; subst hb; exact fun e => hz (e ▸ ha)⟩

theorem more_dead (hn : (G.map (·.1)).Nodup) (hc : closedG G = true) (hz : z ∉ G.map (·.1)) {y : List Bs} (hy : ∀ q ∈ y, q ∈ G.map (·.1)) : (deadG (moreG G z x) y).length = (deadG G y).length + 1 := by
  have h1 := live_dead hn y
  have h2 := live_dead (more_nodup (x := x) hn hz) y
  rw [more_closure hc hz hy] at h2
  have : (moreG G z x).length = G.length + 1 := by simp [moreG]
  omega

theorem more_last (hn : (G.map (·.1)).Nodup) (hc : closedG G = true) (hz : z ∉ G.map (·.1)) (hx : ∀ q ∈ x, q ∈ G.map (·.1)) (hlt : ∀ q ∈ G.map (·.1), Op.bytesLess q z = true) : closureG (moreG G z x) [z] = closureG G x ++ [z] := by
  have hzz : thereG (moreG G z x) z = some x := by
    rw [moreG, thereG_append]
    have : thereG G z = none := by
      cases h : thereG G z with
      | none => rfl
      | some rs => exact absurd ((thereG_mem G z).1 (by rw [h]; rfl)) hz
    rw [this]; simp
  refine rising_ext (closureG_rising _ _) ?_ fun q => ?_
  · rw [Rising, List.pairwise_append]
    refine ⟨closureG_rising G x, by simp, fun a ha b hb => ?_⟩
    rw [List.mem_singleton] at hb; subst hb
    exact hlt a (visG_there G x a (mem_sortS.1 ha))
  · rw [mem_closureG, List.mem_append, List.mem_singleton, mem_closureG]
    constructor
    · rintro ⟨p, hp, hr⟩
      rw [List.mem_singleton] at hp; subst hp
      cases hr with
      | refl _ => exact .inr rfl
      | step h hq t =>
        rw [hzz] at h; cases h
        exact .inl ⟨_, hq, (more_rch hc hz (hx _ hq)).1 t⟩
    · rintro (⟨p, hp, hr⟩ | rfl)
      · exact ⟨z, List.mem_singleton.2 rfl, .step hzz hp ((more_rch hc hz (hx p hp)).2 hr)⟩
      · exact ⟨q, List.mem_singleton.2 rfl, .refl (by rw [hzz]; rfl)⟩
end

/-! ### The walk -/

def Apart (v w : AV) : Prop := ∀ j n e n' e', v = .slice j 0 n e → w ≠ .slice j 0 n' e'

theorem own_there {h0 h : AHeap} {v : AV} {n e : Nat} {vs : List AV} (a : Own h0 h v n e vs) {j m e' : Nat} (hv : v = .slice j 0 m e') : h.get j ≠ none := a.row.there hv

theorem own_keep {h0 h h' : AHeap} {v w : AV} {n e : Nat} {ws : List AV} (a : Own h0 h w n e ws) (hap : Apart v w) (only : ∀ j y, h.get j = some y → (∀ n e, v ≠ .slice j 0 n e) → h'.get j = some y) : Own h0 h' w n e ws := by
  refine ⟨a.1, ?_⟩
  rcases a.2 with h1 | ⟨o, h1, h2, h3⟩
  · exact .inl h1
  · exact .inr ⟨o, h1, only o _ h2 fun n' e' hv => hap o n' e' _ _ hv h1, h3⟩

theorem ext_dom {h h' : AHeap} (e : Ext h h') : ∀ j, h.get j ≠ none → h'.get j ≠ none := fun j hj => by
  cases e1 : h.get j with
  | none => exact absurd e1 hj
  | some y => rw [e.keep _ _ e1]; simp

/-- One more text, beside another row. -/
theorem push_beside {h0 h : AHeap} {v w : AV} {l k : List Bs} {s : Bs} (a : SOwn h0 h v l) (b : SOwn h0 h w k) (hap : Apart v w) (e : Ext h0 h) (hn : l.length < 1000000) :
    ∃ y h1 v' h', abuildSlice tab h 26 1 [(0, .str s)] = some (y, h1) ∧ aappend tab h1 26 26 v y = some (v', h') ∧ SOwn h0 h' v' (l ++ [s]) ∧ SOwn h0 h' w k ∧ Apart v' w ∧ Ext h0 h' := by
  obtain ⟨y, h1, v', h', p1, p2, p3, p4, p5, p6⟩ := pushK (x := .str s) ty26 ty9 rfl rfl (by decide) (by decide) (by decide) a e.wf (ext_dom e) rfl rfl rfl (by omega)
  exact ⟨y, h1, v', h', p1, p2, sown_push p3, own_keep b hap p5, fun j n e n' e' hv hw => p6 j (own_there b hw) n e hv, p4.ext e⟩

theorem Apart.symm {v w : AV} (a : Apart v w) : Apart w v := fun j n e n' e' hw hv => a j n' e' n e hv hw

theorem allOne_strs : ∀ (l : List Bs), allOne (strs l) = true
  | [] => rfl
  | s :: l => by
    have := allOne_strs l
    simp only [strs, List.map_cons, allOne] at this ⊢
    rw [this]; rfl

theorem empty26 {h : AHeap} (hw : h.WF) : abuildSlice tab h 26 0 [] = some (.slice h.next 0 0 1, h.add (.cells [] true)) := rfl
theorem empty24 {h : AHeap} (hw : h.WF) : abuildSlice tab h 24 0 [] = some (.slice h.next 0 0 4, h.add (.cells [] true)) := rfl

theorem pcells_one {h : AHeap} : ∀ {pl : List (Bs × AV)} {G : Gr}, Rel2 h pl G → allOne (pcells pl) = true
  | [], _, _ => rfl
  | a :: l, b :: G, ⟨hab, t⟩ => by
    have ih := pcells_one t
    have h1 := row_one hab.2
    simp only [pcells, List.flatMap_cons] at ih ⊢
    show allOne (.str a.1 :: a.2 :: .str [] :: .str [] :: (l.flatMap fun e => [.str e.1, e.2, .str [], .str []])) = true
    simp only [allOne, ih, h1, str_one, Bool.and_self]
  | _ :: _, [], h => h.elim

abbrev zz : Bs := [122, 122]

theorem smallLen {G : Gr} {l : List Bs} (hb : ∀ q ∈ G.map (·.1), q.length = 1) (hz : zz ∉ G.map (·.1)) {frm : List Bs} : True := trivial

theorem sumLen_le {l : List Bs} {k : Nat} (h : ∀ x ∈ l, x.length ≤ k) : sumLen l ≤ (k + 1) * l.length := by
  induction l with
  | nil => simp [sumLen]
  | cons x l ih =>
    have := ih fun y hy => h y (List.mem_cons_of_mem _ hy)
    have h6 := h x List.mem_cons_self
    simp only [sumLen, List.map_cons, List.sum_cons, List.length_cons, Nat.mul_succ] at this ⊢
    omega

theorem closure_len (G : Gr) (frm : List Bs) : (closureG G frm).length ≤ G.length := by rw [closureG, sortS_length]; exact visG_length G frm

theorem dead_len (G : Gr) (frm : List Bs) : (deadG G frm).length ≤ G.length := by
  refine Nat.le_trans (List.length_filter_le _ _) ?_
  rw [sortS_length]; simpa using keysG_length G []

theorem closure_sum {G : Gr} {frm : List Bs} (hG : G.length < 1000) (hk : ∀ q ∈ G.map (·.1), q.length ≤ 2) : sumLen (closureG G frm) < 1000000000000 := by
  have h1 := sumLen_le (l := closureG G frm) (k := 2) fun x hx => hk x (visG_there G frm x (mem_sortS.1 hx))
  have h2 := closure_len G frm
  omega

/-- What stands behind the comparing loop. -/
theorem more_end {B h : AHeap} (hext : Ext B h) {p x y one two both : AV} {G : Gr} {xl yl : List Bs} (hp : PRep B p G) (hx : SRow B x xl) (hy : SRow B y yl) (h1 : SRow B one (closureG G xl)) (h2 : SRow B two (closureG G yl))
    (hGl : G.length < 100) (hn : (G.map (·.1)).Nodup) (hc : closedG G = true) (hsm : SmallG G) (hk : ∀ q ∈ G.map (·.1), q.length ≤ 1) (hlt : ∀ q ∈ G.map (·.1), Op.bytesLess q zz = true) (hxl : ∀ q ∈ xl, q ∈ G.map (·.1)) (hyl : ∀ q ∈ yl, q ∈ G.map (·.1))
    (hxn : xl.length < 1000) (hyn : yl.length < 1000) {N i : Nat} (hi : i = G.length) {nx : AV × AV × AV × AV × AV × AV × AV × Unit → List Nat → AHeap → Option (AV × AHeap)} :
    ∃ h', F4_b13 EG N (p, x, y, one, two, both, .int .i64 (i : Int), ()) [] h nx = some (.bool true, h') := by
  have hz : zz ∉ G.map (·.1) := fun h => by have := hk _ h; simp at this
  obtain ⟨pl, hr, hrel⟩ := hp.ext hext
  have hpl : pl.length = G.length := hrel.length
  simp only [F4_b13, prep_len (hp.ext hext), valK_s, abin_lss, ltF (show ¬ i < G.length by omega), boolK_f, jn_a]
  -- the longer list
  have w0 := hext.wf
  have e1 : Ext h (h.add (.cells [] true)) := (Ext.refl w0).add _
  have o1 : Own h (h.add (.cells [] true)) (.slice h.next 0 0 4) 0 4 [] := ⟨by simp, .inr ⟨_, rfl, AHeap.get_add_self _ _, (Ext.refl w0).new⟩⟩
  obtain ⟨v2, h2', a1, o2, k2, _, _⟩ := appendRow ty24 ty28 rfl (by decide) (by decide) o1 (hr.ext e1) e1.wf (ext_dom e1) (pcells_one hrel) (by omega)
  have x2 := k2.ext e1
  rw [List.nil_append, Nat.zero_add] at o2
  have xx2 := hext.trans x2
  have b1 : abuild tab 28 [(0, .str [122, 122]), (1, x)] = some (.agg [.str [122, 122], x, .str [], .str []]) := by
    rcases hx.2 with ⟨e, _⟩ | ⟨e, _⟩ | ⟨o, off, ws, rw, e, _⟩ <;> rw [e] <;> rfl
  obtain ⟨y3, h3a, v3, h3, c1, c2, o3, x3⟩ := push_path (s := zz) (rs := xl) (rv := x) (h0 := h) (h := h2') (out := v2) (pl := pl) o2 x2 (row_one hx) (by omega)
  have xx3 := hext.trans x3
  have hm : PRep h3 v3 (moreG G zz xl) := by
    refine ⟨pl ++ [(zz, x)], o3.row, ?_⟩
    exact Rel2.push ⟨rfl, hx.ext xx3⟩ (hrel.ext x3)
  have hml : (moreG G zz xl).length = G.length + 1 := by simp [moreG]
  have hmk : ∀ q ∈ (moreG G zz xl).map (·.1), q.length ≤ 2 := fun q hq => by
    rw [more_keys, List.mem_append, List.mem_singleton] at hq
    rcases hq with hq | rfl
    · have := hk q hq; omega
    · simp
  have hms : SmallG (moreG G zz xl) := by
    refine ⟨by omega, fun e he => ?_⟩
    rw [moreG, List.mem_append, List.mem_singleton] at he
    rcases he with he | rfl
    · exact hsm.2 e he
    · exact ⟨by simp, by simp only; omega⟩
  have hk2 : ∀ q ∈ G.map (·.1), q.length ≤ 2 := fun q hq => by have := hk q hq; omega
  -- closures with the longer list
  obtain ⟨v4, h4, d1, d2, x4⟩ := closure_run x3.wf hm hms (hy.ext xx3) (by omega)
  rw [more_closure hc hz hyl] at d2
  have l4 := closure_len G yl
  have s4 := said_run d2.row (by omega) (closure_sum (by omega) hk2)
  have s5 := said_run (h2.ext (xx3.trans x4)) (by omega) (closure_sum (by omega) hk2)
  obtain ⟨v5, h5, f1, f2, x5⟩ := dead_run x4.wf (hm.ext x4) hms (hy.ext (xx3.trans x4)) (by omega)
  obtain ⟨v6, h6, g1, g2, x6⟩ := dead_run x5.wf (hp.ext ((xx3.trans x4).trans x5)) hsm (hy.ext ((xx3.trans x4).trans x5)) (by omega)
  have dl := more_dead (x := xl) hn hc hz hyl
  have dl2 := dead_len G yl
  have hsum : abin tab .add 3 (.int .i64 ((deadG G yl).length : Int)) (.int .i64 1) = some (.int .i64 ((deadG (moreG G zz xl) yl).length : Int)) := by
    rw [abin_add (by omega) (by omega), dl]; rfl
  have xx6 := (((xx3.trans x4).trans x5).trans x6)
  -- the last one
  have t1 : abuildSlice tab h6 26 1 [(0, .str [122, 122])] = some (.slice h6.next 0 1 1, h6.add (.cells [.str [122, 122]] true)) := rfl
  have x7 : Ext h6 (h6.add (.cells [.str [122, 122]] true)) := (Ext.refl x6.wf).add _
  have r7 : SRow (h6.add (.cells [.str [122, 122]] true)) (.slice h6.next 0 1 1) [zz] := ⟨rfl, .inr (.inr ⟨_, 0, _, _, rfl, AHeap.get_add_self _ _, by simp, fun j _ => by rw [Nat.zero_add]; rfl⟩)⟩
  obtain ⟨v8, h8, m1, m2, x8⟩ := closure_run x7.wf (hm.ext (((x4.trans x5).trans x6).trans x7)) hms r7 (by simp)
  rw [more_last hn hc hz hxl hlt] at m2
  have l8 := closure_len G xl
  have hsum1 := closure_sum (G := G) (frm := xl) (by omega) hk2
  have hsum8 : sumLen (closureG G xl ++ [zz]) < 1000000000000 := by
    have := closure_sum (G := moreG G zz xl) (frm := [zz]) (by omega) hmk
    rwa [more_last hn hc hz hxl hlt] at this
  have s8 := said_run m2.row (by simp; omega) hsum8
  have s9 := said_run (h1.ext ((xx6.trans x7).trans x8)) (by omega) hsum1
  have hcat : saidS (closureG G xl ++ [zz]) = saidS (closureG G xl) ++ [122, 122, 32] := by simp [saidS]
  have hl9 := saidS_length (closureG G xl)
  simp only [empty24 w0, bothK_s, a1, b1, valK_s, c1, c2, d1, s4, s5, abin_strne, decide_true, Bool.not_true, boolK_f, f1, srow_len (f2.row.ext x6), srow_len f2.row, g1, srow_len g2.row, hsum, abin_neq, t1, m1, s8, s9,
    abin_cat (show (saidS (closureG G xl)).length + ([122, 122, 32] : Bs).length ≤ 4611686018427387904 by simp; omega), abin_streq, hcat, boolK_t, run14, unmark_nil, hpK_s]
  exact ⟨_, rfl⟩

theorem graphMore_walk {h : AHeap} (hw : h.WF) {v0 : AV} {al : List Int} (hr0 : Row h v0 al.length 1 (al.map (AV.int .u16))) (ra rb : Int) {N : Nat} (hN : 2000 ≤ N) :
    ∃ h', F4 EG N v0 (.int .u16 ra) (.int .u16 rb) h = some (.bool true, h') := by
  unfold F4
  obtain ⟨p, h1, e1, p1, x1⟩ := small_run hw hr0 false
  simp only [e1, bothK_s]
  have hGl := small_length al false
  have hnod := small_nodup al false
  have hcl := small_closed al false
  have hsm := small_small al false
  have hkeys := smallG_keys al false
  have hk : ∀ q ∈ (smallG al false).map (·.1), q.length ≤ 1 := fun q hq => by
    rw [hkeys, List.mem_map] at hq
    obtain ⟨j, _, rfl⟩ := hq; simp [nm]
  have hlt : ∀ q ∈ (smallG al false).map (·.1), Op.bytesLess q zz = true := fun q hq => by
    rw [hkeys, List.mem_map] at hq
    obtain ⟨j, hj, rfl⟩ := hq
    rw [List.mem_range] at hj
    have : ∀ a : Fin 14, Op.bytesLess (nm a.val) zz = true := by decide
    exact this ⟨j, by omega⟩
  clear hkeys
  generalize smallG al false = G at *
  refine loop_rule (σ := AV × AV × AV × AV × AV × AV × Unit) (R := AV × AHeap) (total := G.length)
    (I := fun i s hh => i ≤ G.length ∧ ∃ x y, ∃ xl yl : List Bs, s = (.int .u16 ra, .int .u16 rb, p, x, y, .int .i64 (i : Int), ()) ∧ Ext h1 hh ∧ SOwn h1 hh x xl ∧ SOwn h1 hh y yl ∧ Apart x y ∧ xl.length ≤ i ∧ yl.length ≤ i ∧ (∀ q ∈ xl, q ∈ G.map (·.1)) ∧ (∀ q ∈ yl, q ∈ G.map (·.1)))
    (Q := fun o => ∃ h', o = some (.bool true, h')) ?_ _ 0 _ _ ⟨by omega, .nilslice, .nilslice, [], [], rfl, Ext.refl x1.wf, own_nil _ _ 1, own_nil _ _ 1, fun j n e n' e' h => (by cases h), by simp, by simp, by simp, by simp⟩ (by omega) (by omega)
  rintro i s hh nx ⟨hi, x, y, xl, yl, rfl, hext, hx, hy, hap, hxl, hyl, hxm, hym⟩
  have hp := p1.ext hext
  simp only [F4_b4, prep_len hp, valK_s, abin_lss, jn_a]
  by_cases hlt' : i < G.length
  · left
    have he : G[i]? = some G[i] := List.getElem?_eq_getElem hlt'
    have hmem : G[i].1 ∈ G.map (·.1) := List.mem_map_of_mem (List.getElem_mem hlt')
    obtain ⟨o, off, rv, q1, q2, _⟩ := prep_at hp he
    simp only [ltT hlt', boolK_t, shr_u16, rem_u16, abin_eql, valK_s, q1, fa28_0]
    -- the second row's part
    have second : ∀ {x2 : AV} {xl2 : List Bs} {h2 : AHeap}, Ext h1 h2 → SOwn h1 h2 x2 xl2 → SOwn h1 h2 y yl → Apart x2 y → xl2.length ≤ i + 1 → (∀ q ∈ xl2, q ∈ G.map (·.1)) →
        ∃ s' h', (boolK (.bool (decide ((rb.fdiv (2 ^ (Nat.min i 16))).tmod 2 = 1))) (
          valK (loadA tab h2 9 (.ptr o off)) fun x14 =>
          bothK (abuildSlice tab h2 26 1 [(0, x14)]) fun x15 h16 =>
          bothK (aappend tab h16 26 26 y x15) fun x17 h18 =>
          valK (abin tab .add 3 (.int .i64 (i : Int)) (.int .i64 1)) fun x19 =>
          nx (.int .u16 ra, .int .u16 rb, p, x2, x17, x19, ()) [] h18) (
          valK (abin tab .add 3 (.int .i64 (i : Int)) (.int .i64 1)) fun x20 =>
          nx (.int .u16 ra, .int .u16 rb, p, x2, y, x20, ()) [] h2)) = nx s' [] h' ∧ (i + 1 ≤ G.length ∧ ∃ x y, ∃ xl yl : List Bs, s' = (.int .u16 ra, .int .u16 rb, p, x, y, .int .i64 ((i + 1 : Nat) : Int), ()) ∧ Ext h1 h' ∧ SOwn h1 h' x xl ∧ SOwn h1 h' y yl ∧ Apart x y ∧ xl.length ≤ i + 1 ∧ yl.length ≤ i + 1 ∧ (∀ q ∈ xl, q ∈ G.map (·.1)) ∧ (∀ q ∈ yl, q ∈ G.map (·.1))) := by
      intro x2 xl2 h2 hext2 hx2 hy2 hap2 hl2 hm2
      obtain ⟨o', off', rv', q1', q2, _⟩ := prep_at (p1.ext hext2) he
      rw [q1] at q1'
      cases q1'
      cases hb : decide ((rb.fdiv (2 ^ (Nat.min i 16))).tmod 2 = 1) with
      | true =>
        obtain ⟨z, h3, y', h', a1, a2, a3, a4, a5, a6⟩ := push_beside (s := G[i].1) hy2 hx2 hap2.symm hext2 (by omega)
        simp only [boolK_t, q2, valK_s, a1, a2, bothK_s, abin_inc (show i < 4611686018427387904 by omega)]
        refine ⟨_, _, rfl, by omega, x2, y', xl2, yl ++ [G[i].1], rfl, a6, a4, a3, a5.symm, hl2, by simp; omega, hm2, fun q hq => ?_⟩
        rw [List.mem_append, List.mem_singleton] at hq
        rcases hq with hq | rfl
        · exact hym q hq
        · exact hmem
      | false =>
        simp only [boolK_f, abin_inc (show i < 4611686018427387904 by omega), valK_s]
        exact ⟨_, _, rfl, by omega, x2, y, xl2, yl, rfl, hext2, hx2, hy2, hap2, hl2, by omega, hm2, hym⟩
    cases hb : decide ((ra.fdiv (2 ^ (Nat.min i 16))).tmod 2 = 1) with
    | true =>
      obtain ⟨z, h3, x', h', a1, a2, a3, a4, a5, a6⟩ := push_beside (s := G[i].1) hx hy hap hext (by omega)
      simp only [boolK_t, q2, valK_s, a1, a2, bothK_s]
      obtain ⟨s', h'', r1, r2⟩ := second a6 a3 a4 a5 (by simp; omega) (fun q hq => by
        rw [List.mem_append, List.mem_singleton] at hq
        rcases hq with hq | rfl
        · exact hxm q hq
        · exact hmem)
      exact ⟨hlt', s', h'', r1, r2⟩
    | false =>
      simp only [boolK_f]
      obtain ⟨s', h'', r1, r2⟩ := second hext hx hy hap (by omega) hxm
      exact ⟨hlt', s', h'', r1, r2⟩
  · right
    simp only [ltF hlt', boolK_f]
    obtain ⟨v2, h2, c1, c2, x2⟩ := closure_run hext.wf hp hsm hx.row (by omega)
    obtain ⟨v3, h3, d1, d2, x3⟩ := closure_run x2.wf (hp.ext x2) hsm (hy.row.ext x2) (by omega)
    have x23 := x2.trans x3
    -- both rows in one
    have e4 : Ext h3 (h3.add (.cells [] true)) := (Ext.refl x3.wf).add _
    have o4 : Own h3 (h3.add (.cells [] true)) (.slice h3.next 0 0 1) 0 1 [] := ⟨by simp, .inr ⟨_, rfl, AHeap.get_add_self _ _, (Ext.refl x3.wf).new⟩⟩
    obtain ⟨v5, h5, f1, f2, k5, _, _⟩ := appendRow ty26 ty9 rfl (by decide) (by decide) o4 ((hx.row.ext x23).ext e4) e4.wf (ext_dom e4) (allOne_strs xl) (by omega)
    have x5 := k5.ext e4
    rw [List.nil_append, Nat.zero_add] at f2
    obtain ⟨v6, h6, g1, g2, k6, _, _⟩ := appendRow ty26 ty9 rfl (by decide) (by decide) f2 ((hy.row.ext x23).ext x5) x5.wf (ext_dom x5) (allOne_strs yl) (by omega)
    have x6 := k6.ext x5
    have g2' : SOwn h3 h6 v6 (xl ++ yl) := by
      show Own h3 h6 v6 (xl ++ yl).length 1 (strs (xl ++ yl))
      rw [List.length_append, strs_append]; exact g2
    obtain ⟨v7, h7, m1, m2, x7⟩ := closure_run x6.wf (hp.ext (x23.trans x6)) hsm g2'.row (by simp; omega)
    have xall := (x23.trans x6).trans x7
    have l1 := closure_len G xl
    have l2 := closure_len G yl
    have l3 := closure_len G (xl ++ yl)
    simp only [c1, bothK_s, d1, empty26 x3.wf, f1, g1, m1]
    -- the comparing loop
    have hone := c2.row.ext ((x3.trans x6).trans x7)
    have htwo := d2.row.ext (x6.trans x7)
    have hboth := m2.row
    have hpB := hp.ext xall
    refine loop_rule (σ := AV × AV × AV × AV × AV × AV × AV × Unit) (R := AV × AHeap) (total := G.length)
      (I := fun k s h8 => k ≤ G.length ∧ s = (p, x, y, v2, v3, v7, .int .i64 (k : Int), ()) ∧ h8 = h7)
      (Q := fun o => ∃ h', o = some (.bool true, h')) ?_ _ 0 _ _ ⟨by omega, rfl, rfl⟩ (by omega) (by omega)
    rintro k s h8 nx2 ⟨hk', rfl, rfl⟩
    by_cases hltk : k < G.length
    · left
      have he : G[k]? = some G[k] := List.getElem?_eq_getElem hltk
      obtain ⟨o, off, rv, q1, q2, _⟩ := prep_at hpB he
      have r1 := has_run hboth (by omega) (s := G[k].1)
      have r2 := has_run hone (by omega) (s := G[k].1)
      have r3 := has_run htwo (by omega) (s := G[k].1)
      have htw := closure_two G xl yl G[k].1
      simp only [F4_b13, prep_len hpB, valK_s, abin_lss, ltT hltk, boolK_t, q1, fa28_0, q2, r1, bothK_s, sameK_r, r2, r3]
      by_cases ha : G[k].1 ∈ closureG G xl
      · have hin : G[k].1 ∈ closureG G (xl ++ yl) := htw.2 (.inl ha)
        simp only [decide_eq_true ha, decide_eq_true hin, boolK_t, abin_boolne ty4, bne_self_eq_false, valK_s, boolK_f, abin_inc (show k < 4611686018427387904 by omega)]
        exact ⟨hltk, _, _, rfl, by omega, rfl, rfl⟩
      · have hiff : decide (G[k].1 ∈ closureG G (xl ++ yl)) = decide (G[k].1 ∈ closureG G yl) := by
          rw [decide_eq_decide, htw]; simp [ha]
        simp only [decide_eq_false ha, hiff, boolK_f, abin_boolne ty4, bne_self_eq_false, valK_s, abin_inc (show k < 4611686018427387904 by omega)]
        exact ⟨hltk, _, _, rfl, by omega, rfl, rfl⟩
    · right
      exact more_end (Ext.refl xall.wf) hpB (hx.row.ext xall) (hy.row.ext xall) hone htwo (by omega) hnod hcl hsm hk hlt hxm hym (by omega) (by omega) (by omega)

end Go.Am
