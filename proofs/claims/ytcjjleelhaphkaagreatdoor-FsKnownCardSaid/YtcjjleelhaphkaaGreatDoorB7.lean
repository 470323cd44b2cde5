/-
  'append', 'len', 'min', 'max', conversions: the model's operations give what the abstract machine tells.
-/
import Derived.Test.YtcjjleelhaphkaaGreatDoorB6
set_option linter.unusedVariables false
set_option linter.unusedSimpArgs false
namespace Go.Am
section
variable {P : Program} {T : Tab}

theorem lenOf_sim {β : Inj} {x : AV} {X : Value} {m : Nat} (w : World) (h : lenOf x = some m) (hx : VR β x X) : (Builtin.lenOf X).run P w = .ok m w := by
  unfold lenOf at h
  split at h <;> simp only [Option.some.injEq, reduceCtorEq] at h
  · subst h; simp only [VR] at hx; subst hx; rfl
  · subst h; simp only [VR] at hx; obtain ⟨_, _, rfl⟩ := hx; rfl
  · subst h; simp only [VR] at hx; obtain ⟨_, _, _, rfl, _⟩ := hx; rfl
  · subst h; simp only [VR] at hx; subst hx; simp [Builtin.lenOf, ba_size]

theorem rowOf_sim {w0 : World} {β : Inj} {h : AHeap} {w : World} (hw : WR w0 β h w) {x : AV} {X : Value} {m esz : Nat} {cs : List AV} (hl : lenOf x = some m) (hr : rowOf h x esz = some cs) (hx : VR β x X) :
    ∃ Cs, VRL β cs Cs ∧ (Builtin.firstCells esz m X).run P w = .ok Cs.toArray w ∧ cs.length = m * esz := by
  unfold rowOf at hr
  split at hr
  · simp only [Option.some.injEq] at hr; subst hr
    simp only [lenOf, Option.some.injEq] at hl; subst hl
    simp only [VR] at hx; subst hx
    exact ⟨[], VRL.nil, rfl, by simp⟩
  · simp only [Option.some.injEq] at hr; subst hr
    simp only [lenOf, Option.some.injEq] at hl; subst hl
    simp only [VR] at hx; obtain ⟨_, _, rfl⟩ := hx
    exact ⟨[], VRL.nil, by simp [Builtin.firstCells, loadCells, loadCellsFrom], by simp⟩
  · rename_i o off len e
    simp only [lenOf, Option.some.injEq] at hl; subst hl
    cases hb : Nat.beq e esz with
    | false => rw [hb] at hr; cases hr
    | true =>
      rw [hb] at hr
      simp only [cond_true] at hr
      split at hr
      · rename_i vs rw' ho
        simp only [VR] at hx
        obtain ⟨L, c, hL, rfl, _⟩ := hx
        obtain ⟨C, el, fz, e1, _, _, e4, _⟩ := hw.obj o _ L ho hL
        obtain ⟨Cs, r1, r2, r3⟩ := row_get e4 hr
        refine ⟨Cs, r1, ?_, ?_⟩
        · simp only [Builtin.firstCells]
          exact run_loadCells_at e1 r2 r3
        · rw [← r2, r1.length]
      · cases hr
  · rename_i s
    cases hb : Nat.beq esz 1 with
    | false => rw [hb] at hr; cases hr
    | true =>
      rw [hb] at hr
      simp only [cond_true, Option.some.injEq] at hr; subst hr
      simp only [lenOf, Option.some.injEq] at hl; subst hl
      have := Nat.eq_of_beq_eq_true hb
      subst this
      simp only [VR] at hx; subst hx
      refine ⟨s.map fun b => .int .u8 b.toNat, VRL.of_get (by simp) fun i v hv => ?_, ?_, by simp⟩
      · rw [List.getElem?_map] at hv ⊢
        cases hs : s[i]? with
        | none => rw [hs] at hv; cases hv
        | some b => rw [hs] at hv; cases hv; exact ⟨_, rfl, by simp [VR]⟩
      · have : (⟨s.toArray⟩ : ByteArray).extract 0 s.length = ⟨s.toArray⟩ := by rw [ba_extract]; simp
        simp [Builtin.firstCells, this]
  · cases hr

theorem allOne_append : ∀ {xs ys : List AV}, allOne xs = true → allOne ys = true → allOne (xs ++ ys) = true
  | [], _, _, h => h
  | x :: xs, _, h, k => by
    simp only [allOne, Bool.and_eq_true, List.cons_append] at h ⊢
    exact ⟨h.1, allOne_append h.2 k⟩

theorem allOne_iff : ∀ {xs : List AV}, allOne xs = true ↔ ∀ x ∈ xs, x.one = true
  | [] => by simp [allOne]
  | x :: xs => by simp [allOne, Bool.and_eq_true, allOne_iff (xs := xs)]

theorem allOne_cut {vs cs : List AV} {i n : Nat} (h : cut vs i n = some cs) (ha : allOne vs = true) : allOne cs = true := by
  unfold cut at h
  cases hb : Nat.ble (i + n) vs.length with
  | false => rw [hb] at h; cases h
  | true =>
    rw [hb] at h; cases h
    rw [allOne_iff] at ha ⊢
    exact fun x hx => ha x (List.mem_of_mem_drop (List.mem_of_mem_take hx))

/-- The append's arguments. -/
structure AppArgs (T : Tab) (h : AHeap) (ts tx : Nat) (s x : AV) (r : AV × AHeap) (e : Nat) (te : ATy) (n m : Nat) (old new : List AV) : Prop where
  tsOk : ∃ a b c d, T.get ts = some ⟨.slice e, a, b, c, d⟩
  txOk : ∃ d a b c z, T.get tx = some ⟨d, a, b, c, z⟩ ∧ srcOk d = true
  teOk : T.get e = some te
  nOk : lenOf s = some n
  mOk : lenOf x = some m
  oldOk : rowOf h s te.size = some old
  newOk : rowOf h x te.size = some new
  pos : 1 ≤ te.size
  bytes : (n + m) * te.bytes ≤ 35184372088832
  len : n + m ≤ 35184372088832
  one : allOne new = true
  res : (m = 0 ∧ r = (s, h) ∧ ∀ t, s ≠ .str t) ∨ (1 ≤ m ∧ s = .nilslice ∧ r = (.slice h.next 0 (n + m) te.size, h.add (.cells (old ++ new) true))) ∨
    (1 ≤ m ∧ ∃ o off k vs, s = .slice o off n k ∧ h.get o = some (.cells vs true) ∧ r = (.slice h.next 0 (n + m) te.size, (h.put o .dead).add (.cells (old ++ new) true)))

theorem aappend_inv {h : AHeap} {ts tx : Nat} {s x : AV} {r : AV × AHeap} (ha : aappend T h ts tx s x = some r) : ∃ e te n m old new, AppArgs T h ts tx s x r e te n m old new := by
  unfold aappend at ha
  split at ha
  · rename_i e a b c d dx a' b' c' d' hts htx
    split at ha
    · rename_i te hte
      split at ha
      · rename_i n m old new h1 h2 h3 h4
        cases hb : (srcOk dx && Nat.ble 1 te.size && Nat.ble ((n + m) * te.bytes) 35184372088832 && Nat.ble (n + m) 35184372088832 && allOne new) with
        | false => rw [hb] at ha; cases ha
        | true =>
          rw [hb] at ha
          simp only [cond_true] at ha
          simp only [Bool.and_eq_true] at hb
          refine ⟨e, te, n, m, old, new, ⟨⟨_, _, _, _, hts⟩, ⟨_, _, _, _, _, htx, hb.1.1.1.1⟩, hte, h1, h2, h3, h4, Nat.le_of_ble_eq_true hb.1.1.1.2, Nat.le_of_ble_eq_true hb.1.1.2, Nat.le_of_ble_eq_true hb.1.2, hb.2, ?_⟩⟩
          split at ha
          · split at ha
            · cases ha
            · rename_i hns
              cases ha
              exact .inl ⟨rfl, rfl, hns⟩
          · split at ha
            · cases ha
              exact .inr (.inl ⟨by omega, rfl, rfl⟩)
            · rename_i o off len k
              split at ha
              · rename_i vs ho
                cases ha
                simp only [lenOf, Option.some.injEq] at h1
                subst h1
                exact .inr (.inr ⟨by omega, o, off, k, vs, rfl, ho, rfl⟩)
              · cases ha
            · cases ha
      · cases ha
    · cases ha
  · cases ha

theorem rowOf_one {h : AHeap} {o off n k esz : Nat} {vs old : List AV} (hr : rowOf h (.slice o off n k) esz = some old) (ho : h.get o = some (.cells vs true)) (ha : allOne vs = true) : allOne old = true ∧ k = esz ∧ off + n * esz ≤ vs.length := by
  simp only [rowOf] at hr
  cases hb : Nat.beq k esz with
  | false => rw [hb] at hr; cases hr
  | true =>
    rw [hb, ho] at hr
    simp only [cond_true] at hr
    refine ⟨allOne_cut hr ha, Nat.eq_of_beq_eq_true hb, ?_⟩
    unfold cut at hr
    cases hb : Nat.ble (off + n * esz) vs.length with
    | false => rw [hb] at hr; cases hr
    | true => exact Nat.le_of_ble_eq_true hb

theorem zeroCells_size (z : Array Value) (n : Nat) : (Builtin.zeroCells z n).size = n * z.size := by simp [Builtin.zeroCells]

theorem aappend_sim {w0 : World} {β : Inj} {h h' : AHeap} {w : World} (hT : TabOK P T) (hw : WR w0 β h w) {ts tx ty : Nat} {s x : AV} {v : AV} {S X : Value} (ha : aappend T h ts tx s x = some (v, h')) (hs : VR β s S) (hx : VR β x X) :
    SimV P w0 β h w (Builtin.append_ #[ts, tx] ty #[S, X]) (some v) h' := by
  obtain ⟨e, te, n, m, old, new, A⟩ := aappend_inv ha
  obtain ⟨_, _, _, _, hts⟩ := A.tsOk
  obtain ⟨dx, _, _, _, _, htx, hnot⟩ := A.txOk
  have hds := (hT ts _ hts).desc
  simp only [DescOK] at hds
  have hte := hT e _ A.teOk
  obtain ⟨i, z, i1, i2, i3, i4, i5⟩ := hte.info
  have hux2 : (∃ e', P.underlying tx = some (.slice e')) ∨ P.underlying tx = some .string := by
    have hd := (hT tx _ htx).desc
    cases dx <;> simp only [srcOk, Bool.false_eq_true] at hnot <;> simp only [DescOK] at hd
    case slice => exact .inl ⟨_, hd⟩
    case str => exact .inr hd
  have hzc := (i5.mono (β' := β) (fun _ _ e => by cases e)).cells hte.notup
  have hzl := hzc.length
  simp only [Array.length_toList, hte.zlen] at hzl
  obtain ⟨News, n1, n2, n3⟩ := rowOf_sim (P := P) hw A.mOk A.newOk hx
  obtain ⟨Olds, o1, o2, o3⟩ := rowOf_sim (P := P) hw A.nOk A.oldOk hs
  obtain ⟨News', n1', n2', _⟩ := rowOf_sim (P := P) hw.drew A.mOk A.newOk hx
  obtain ⟨Olds', o1', o2', _⟩ := rowOf_sim (P := P) hw.drew A.nOk A.oldOk hs
  have hlX := lenOf_sim (P := P) w A.mOk hx
  obtain ⟨base, cap, rfl, hcap⟩ : ∃ base cap, S = .slice base n cap ∧ n ≤ cap := by
    have hn := A.nOk
    rcases A.res with ⟨_, _, h1⟩ | ⟨_, rfl, _⟩ | ⟨_, o, off, k, vs, rfl, _⟩
    · cases s <;> simp only [lenOf, Option.some.injEq, reduceCtorEq] at hn
      case str => exact absurd rfl (h1 _)
      case nilslice => simp only [VR] at hs; subst hs hn; exact ⟨none, 0, rfl, Nat.le_refl _⟩
      case eslice => simp only [VR] at hs; obtain ⟨a, c, rfl⟩ := hs; subst hn; exact ⟨some a, c, rfl, Nat.zero_le _⟩
      case slice => simp only [VR] at hs; obtain ⟨L, c, _, rfl, hc, _⟩ := hs; subst hn; exact ⟨_, c, rfl, hc⟩
    · simp only [lenOf, Option.some.injEq] at hn
      simp only [VR] at hs; subst hs hn; exact ⟨none, 0, rfl, Nat.le_refl _⟩
    · simp only [VR] at hs; obtain ⟨L, c, _, rfl, hc, _⟩ := hs; exact ⟨_, c, rfl, hc⟩
  -- the run up to the test
  have key : (Builtin.append_ #[ts, tx] ty #[.slice base n cap, X]).run P w =
      if n + m ≤ cap then ((Builtin.firstCells te.size m X).run P w).andThen fun cs w' => ((match base with | some a => storeCells (a.add (n * te.size)) cs.toList | none => pure () : Sem Unit).run P w').andThen fun _ w'' => .ok (.slice base (n + m) cap) w''
      else (do
        let newCap ← choose (.appendCap (n + m) cap e)
        let old ← Builtin.firstCells te.size n (.slice base n cap)
        let new ← Builtin.firstCells te.size m X
        pure (.slice (some (← newRow e (old ++ new ++ Builtin.zeroCells z.cells (newCap - (n + m))))) (n + m) newCap) : Sem Value).run P w := by
    have hz63 : ¬ (9223372036854775807 < ((n : Int) + (m : Int))) := by have := A.len; omega
    by_cases hc : n + m ≤ cap
    · rw [if_pos hc]
      rcases hux2 with ⟨e', hux⟩ | hux <;> cases base <;> simp [Builtin.append_, run_und w hds, run_und w hux, sizeOf, run_info w i1, i2, hlX, hc]
    · rw [if_neg hc]
      have hfit : ¬ (281474976710656 < Builtin.nextslicecap (n + m) cap * i.bytes) := by
        have := growslice_fits (need := n + m) (old := cap) (bytes := i.bytes) (by omega) (by rw [i3]; have := A.bytes; omega)
        omega
      rcases hux2 with ⟨e', hux⟩ | hux <;> simp [Builtin.append_, run_und w hds, run_und w hux, sizeOf, run_info _ i1, i2, hlX, hc, hz63, hfit, zeroValue, i4, Question.forced]
  -- the new row
  have grow : ¬ (n + m ≤ cap) → ∀ h1 : AHeap, WR w0 β h1 w → h1.next = h.next → (∀ o, o < h.next → β o = none → h1.get o = h.get o) → allOne old = true →
      SimV P w0 β h w (Builtin.append_ #[ts, tx] ty #[.slice base n cap, X]) (some (.slice h.next 0 (n + m) te.size)) (h1.add (.cells (old ++ new) true)) := by
    intro hc h1 hw1 hnx hfree hone
    rw [if_neg hc] at key
    let R := (Question.appendCap (n + m) cap e).cut (w.tape w.drawn (.appendCap (n + m) cap e))
    have hR : n + m ≤ R := by show n + m ≤ (n + m) + _; omega
    let C := Olds'.toArray ++ News'.toArray ++ Builtin.zeroCells z.cells (R - (n + m))
    have hO := o1'.length
    have hN := n1'.length
    have hCs : C.size = R * te.size := by
      simp only [C, Array.size_append, List.size_toArray, zeroCells_size, hO, hN, o3, n3, hzl]
      rw [← Nat.add_mul, ← Nat.add_mul]
      congr 1; omega
    have hrun : (Builtin.append_ #[ts, tx] ty #[.slice base n cap, X]).run P w = .ok (.slice (some ⟨w.heap.size, 0, none⟩) (n + m) R) (w.drew.alloc (.cells C e)) := by
      rw [key]
      simp only [Sem.run_bind, run_choose, Question.forced, Bool.false_eq_true, if_false, Result.andThen_ok]
      show (((Builtin.firstCells te.size n (.slice base n cap)).run P w.drew).andThen _) = _
      rw [o2']
      simp only [Result.andThen_ok, n2', run_newRow]
      rfl
    have hob : ObjR w0.heap.size (β.with h1.next ⟨w.drew.heap.size, 0, R * te.size⟩) (w.drew.alloc (.cells C e)).heap ⟨w.drew.heap.size, 0, R * te.size⟩ (.cells (old ++ new) true) := by
      refine ⟨C, e, (0, 0), heap_push_new, by show 0 + R * te.size ≤ C.size; omega, ?_, fun j v hv => ?_, fun _ => ⟨hw1.below.size, allOne_append hone A.one, fun j _ _ => by simp⟩, fun hh => by cases hh⟩
      · show (old ++ new).length ≤ R * te.size
        rw [List.length_append, o3, n3, ← Nat.add_mul]
        exact Nat.mul_le_mul_right _ hR
      · obtain ⟨V, q1, q2⟩ := (o1'.append n1').get j v hv
        refine ⟨V, ?_, q2.mono fun o L e => ?_⟩
        · have hj : j < (Olds' ++ News').length := by
            rcases Nat.lt_or_ge j (Olds' ++ News').length with hh | hh
            · exact hh
            · rw [List.getElem?_eq_none hh] at q1; cases q1
          have e1 : Olds'.toArray ++ News'.toArray = (Olds' ++ News').toArray := by simp
          simp only [C, e1, Nat.zero_add]
          rw [Array.getElem?_append_left (by simpa using hj)]
          simpa using q1
        · rw [Inj.with_ne _ _ (Nat.ne_of_lt (hw1.dom o L e))]; exact e
    obtain ⟨t1, t2⟩ := hw1.drew.alloc (x := .cells (old ++ new) true) (ob := .cells C e) (L := ⟨w.drew.heap.size, 0, R * te.size⟩) rfl hob
    refine ⟨_, _, _, hrun, fun y hy => ?_, t1, ⟨fun o ho => t2.old o (by omega), by have := t2.next; omega, fun o ho hn => (t2.free o (by omega) hn).trans (hfree o ho hn)⟩⟩
    cases hy
    simp only [VR]
    exact ⟨_, R, by rw [← hnx]; exact Inj.with_self _ _ _, rfl, hR, by simp⟩
  rcases A.res with ⟨hm, hr, _⟩ | ⟨hm, hsn, hr⟩ | ⟨hm, o, off, k, vs, hsn, ho, hr⟩
  · cases hr
    subst hm
    refine ⟨β, _, w, ?_, fun y hy => by cases hy; exact hs, hw, Goes.refl _ _⟩
    rw [key, if_pos (by omega), n2]
    have hN0 : News = [] := by
      have := n1.length
      have h0 : new.length = 0 := by simpa using n3
      exact List.eq_nil_of_length_eq_zero (by omega)
    subst hN0
    cases base <;> simp [storeCells]
  · cases hr
    subst hsn
    have hn := A.nOk
    have hold := A.oldOk
    simp only [lenOf, Option.some.injEq] at hn
    simp only [rowOf, Option.some.injEq] at hold
    subst hn hold
    simp only [VR, Value.slice.injEq] at hs
    obtain ⟨_, _, rfl⟩ := hs
    exact grow (by omega) h hw rfl (fun _ _ _ => rfl) rfl
  · cases hr
    subst hsn
    simp only [VR] at hs
    obtain ⟨L, c, hL, hS, hc, hlim⟩ := hs
    cases hS
    obtain ⟨C, el, fz, e1, e2, e3, e4, e5, _⟩ := hw.obj o _ L ho hL
    obtain ⟨f1, f2, f3⟩ := e5 rfl
    obtain ⟨g1, g2, g3⟩ := rowOf_one A.oldOk ho f2
    subst g2
    by_cases hc2 : n + m ≤ cap
    · -- in place
      have hmul : (n + m) * te.size ≤ cap * te.size := Nat.mul_le_mul_right _ hc2
      rw [Nat.add_mul] at hmul
      have hNl := n1.length
      obtain ⟨w', s1, s2, s3⟩ := run_storeCells_at (P := P) (o := L.off + off + n * te.size) News 0 C w e1 (by omega) (fun j hj hj' => f3 j (by omega) (by omega)) (n1.one A.one)
      obtain ⟨d1, d2⟩ := hw.turn ho rfl hL (y := .dead) (w' := w') trivial s3.os s3.tape s3.out s3.size s3.oth
      have hfree : ∀ j z M, (h.put o .dead).get j = some z → z.own = true → β j = some M → M.b ≠ L.b := by
        intro j z M hj hz hM hb
        rw [AHeap.get_put] at hj
        by_cases hjo : j = o
        · rw [if_pos hjo] at hj; cases hj; cases hz
        · rw [if_neg hjo] at hj
          exact hjo (hw.inj j o z _ M L hj ho hz rfl hM hL hb)
      have hob : ObjR w0.heap.size (β.with (h.put o .dead).next ⟨L.b, L.off + off, L.lim - off⟩) w'.heap ⟨L.b, L.off + off, L.lim - off⟩ (.cells (old ++ new) true) := by
        refine ⟨_, el, fz, s2, ?_, ?_, fun j v hv => ?_, fun _ => ⟨f1, allOne_append g1 A.one, fun j hj hj' => ?_⟩, fun hh => by cases hh⟩
        · rw [putCells_size]; show L.off + off + (L.lim - off) ≤ C.size; omega
        · show (old ++ new).length ≤ L.lim - off
          rw [List.length_append, o3, n3]; omega
        · show ∃ V, (putCells C (L.off + off + n * te.size + 0) News)[L.off + off + j]? = some V ∧ _
          rw [putCells_get _ _ _ _ (by omega)]
          by_cases hj : j < old.length
          · rw [if_neg (by omega)]
            have hv' : old[j]? = some v := by rwa [List.getElem?_append_left hj] at hv
            obtain ⟨V, q1, q2⟩ := o1.get j v hv'
            -- what stood there
            have hrow := A.oldOk
            simp only [rowOf, Nat.beq_refl, ho, cond_true] at hrow
            have hvs : vs[off + j]? = some v := by
              unfold cut at hrow
              cases hb : Nat.ble (off + n * te.size) vs.length with
              | false => rw [hb] at hrow; cases hrow
              | true =>
                rw [hb] at hrow; cases hrow
                rw [List.getElem?_take_of_lt (by simp at hj; omega), List.getElem?_drop] at hv'
                exact hv'
            obtain ⟨V', q3, q4⟩ := e4 _ _ hvs
            refine ⟨V', by rw [← q3]; congr 1; omega, q4.mono fun o' L' e => (Inj.with_ne β _ (Nat.ne_of_lt (hw.dom o' L' e))).trans e⟩
          · have hv' : new[j - old.length]? = some v := by rwa [List.getElem?_append_right (by omega)] at hv
            obtain ⟨V, q1, q2⟩ := n1.get _ v hv'
            have hlt : j - old.length < new.length := by
              rcases Nat.lt_or_ge (j - old.length) new.length with hh | hh
              · exact hh
              · rw [List.getElem?_eq_none hh] at hv'; cases hv'
            rw [if_pos (by omega)]
            refine ⟨V, by rw [← q1]; congr 1; omega, q2.mono fun o' L' e => (Inj.with_ne β _ (Nat.ne_of_lt (hw.dom o' L' e))).trans e⟩
        · refine f3 j ?_ ?_
          · have : L.off + off ≤ j := hj
            omega
          · have : j < L.off + off + (L.lim - off) := hj'
            omega
      obtain ⟨t1, t2⟩ := d1.adopt (L := ⟨L.b, L.off + off, L.lim - off⟩) hfree hob
      refine ⟨_, .slice (some ⟨L.b, L.off + off, none⟩) (n + m) cap, w', ?_, fun y hy => ?_, t1, d2.trans t2⟩
      · rw [key, if_pos hc2, n2]
        simp only [Result.andThen_ok, add_none, s1]
      · cases hy
        simp only [VR]
        refine ⟨_, cap, Inj.with_self _ _ _, by simp, hc2, ?_⟩
        show 0 + cap * te.size ≤ L.lim - off
        omega
    · refine grow hc2 (h.put o .dead) (hw.kill ho) rfl (fun j _ hj => AHeap.get_put_ne _ _ fun e => by subst e; rw [hL] at hj; cases hj) g1

theorem goInt_sim {β : Inj} (n : Nat) : VR β (.int .i64 n) (goInt n) := by simp [VR, goInt]

theorem alen_sim {w0 : World} {β : Inj} {h : AHeap} {w : World} (hT : TabOK P T) (hw : WR w0 β h w) {t ty : Nat} {x v : AV} {X : Value} (ha : alen T h t x = some v) (hx : VR β x X) :
    ∃ V, (Builtin.len_ #[t] ty #[X]).run P w = .ok V w ∧ VR β v V := by
  unfold alen at ha
  split at ha
  · rename_i d _ _ _ _ ht
    have hd := (hT t _ ht).desc
    split at ha <;> simp only [DescOK] at hd
    · simp only [Option.some.injEq] at ha; subst ha
      simp only [VR] at hx; subst hx
      exact ⟨goInt _, by simp [Builtin.len_, run_und w hd, ba_size], goInt_sim _⟩
    · simp only [Option.some.injEq] at ha; subst ha
      simp only [VR] at hx; subst hx
      exact ⟨goInt _, by simp [Builtin.len_, run_und w hd], goInt_sim 0⟩
    · simp only [Option.some.injEq] at ha; subst ha
      simp only [VR] at hx; obtain ⟨_, _, rfl⟩ := hx
      exact ⟨goInt _, by simp [Builtin.len_, run_und w hd], goInt_sim 0⟩
    · simp only [Option.some.injEq] at ha; subst ha
      simp only [VR] at hx; obtain ⟨_, _, _, rfl, _⟩ := hx
      exact ⟨goInt _, by simp [Builtin.len_, run_und w hd], goInt_sim _⟩
    · simp only [Option.some.injEq] at ha; subst ha
      obtain ⟨k, hk, _⟩ := hd
      simp only [VR] at hx; subst hx
      exact ⟨goInt _, by simp [Builtin.len_, run_und w hk], goInt_sim 0⟩
    · obtain ⟨k, hk, _⟩ := hd
      simp only [VR] at hx; obtain ⟨L, hL, rfl⟩ := hx
      split at ha
      · rename_i es clock ho
        simp only [Option.some.injEq] at ha; subst ha
        obtain ⟨Es, e1, e2, _⟩ := hw.obj _ _ L ho hL
        have hlen : ∀ (es : List (AV × AV × Nat)) (Es : List MapEntry), ER β es Es → Es.length = es.length := by
          intro es
          induction es with
          | nil => intro Es h; have : Es = [] := h; subst this; rfl
          | cons e es ih => intro Es h; obtain ⟨E, Es', _, _, _, h4, rfl⟩ := h; simp [ih _ h4]
        have := hlen _ _ e2
        simp only [Array.length_toList] at this
        refine ⟨goInt Es.size, ?_, by rw [this]; exact goInt_sim _⟩
        simp [Builtin.len_, run_und w hk, getObj, Sem.run, e1]
      · cases ha
    · simp only [Option.some.injEq] at ha; subst ha
      refine ⟨_, ?_, goInt_sim _⟩
      simp only [Builtin.len_, Sem.run_bind, List.getElem?_toArray, List.getElem?_cons_zero, run_und w hd, Result.andThen_ok]
      cases X <;> rfl
    · cases ha
  · cases ha

theorem amin_sim {β : Inj} (w : World) {x y v : AV} {X Y : Value} (ts : Array TypeId) (ty : TypeId) (h : amin x y = some v) (hx : VR β x X) (hy : VR β y Y) : ∃ V, (Builtin.min_ ts ty #[X, Y]).run P w = .ok V w ∧ VR β v V := by
  unfold amin at h
  split at h
  · rename_i j a k b
    simp only [VR] at hx hy; subst hx hy
    by_cases hjk : j = k
    · subst hjk
      simp only [decide_true, cond_true, Option.some.injEq] at h
      subst h
      refine ⟨_, run_min_int2 w ts ty j j a b, ?_⟩
      by_cases hab : b < a <;> simp [VR, hab]
    · simp [hjk] at h
  · cases h

theorem amax_sim {β : Inj} (w : World) {x y v : AV} {X Y : Value} (ts : Array TypeId) (ty : TypeId) (h : amax x y = some v) (hx : VR β x X) (hy : VR β y Y) : ∃ V, (Builtin.max_ ts ty #[X, Y]).run P w = .ok V w ∧ VR β v V := by
  unfold amax at h
  split at h
  · rename_i j a k b
    simp only [VR] at hx hy; subst hx hy
    by_cases hjk : j = k
    · subst hjk
      simp only [decide_true, cond_true, Option.some.injEq] at h
      subst h
      refine ⟨_, run_max_int2 w ts ty j j a b, ?_⟩
      by_cases hab : a < b <;> simp [VR, hab]
    · simp [hjk] at h
  · cases h

end
end Go.Am
