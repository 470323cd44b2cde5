/-
  Places, parts, slices, what is built: the model's operations give what the abstract machine tells.
-/
import Derived.Test.YtcjjleelhaphkaaGreatDoorB3
set_option linter.unusedVariables false
set_option linter.unusedSimpArgs false
namespace Go.Am
section
variable {P : Program} {T : Tab} (w : World)

theorem int_of {β : Inj} {k : IntKind} {n : Int} {X : Value} (h : VR β (.int k n) X) : X = .int k n := by simpa [VR] using h

theorem inside_inv {x : AV} {n i : Nat} (h : inside x n = some i) : ∃ k, x = .int k i ∧ i < n := by
  unfold inside at h
  split at h
  · rename_i k j
    cases hb : Nat.blt j n with
    | false => rw [hb] at h; cases h
    | true =>
      rw [hb] at h; cases h
      exact ⟨k, rfl, by simpa using hb⟩
  · cases h

theorem field_get {fs : List (Nat × Nat × Nat)} {fields : Array Go.Field} (h3 : ∀ (i : Nat) x, fs[i]? = some x → ∃ f, fields[i]? = some f ∧ FieldOK P f x) {f off size kind : Nat} (h : fs[f]? = some (off, size, kind)) :
    ∃ fl i d, fields[f]? = some fl ∧ fl.offset = off ∧ P.info? fl.type = some i ∧ i.size = size ∧ P.underlying fl.type = some d ∧ isAggD (P.underlying fl.type) = Nat.beq kind 4 := by
  obtain ⟨fl, g1, g2⟩ := h3 f _ h
  obtain ⟨i, i1, i2⟩ := g2.info
  obtain ⟨d, d1⟩ := g2.und
  exact ⟨fl, i, d, g1, g2.off, i1, i2, d1, g2.agg⟩

theorem afieldAddr_sim {β : Inj} (hT : TabOK P T) {t f : Nat} {x v : AV} {X : Value} (h : afieldAddr T t x f = some v) (hx : VR β x X) : ∃ V, (Instr.fieldAt t X f).run P w = .ok V w ∧ VR β v V := by
  unfold afieldAddr at h
  split at h
  · rename_i o i fs _ _ _ _ ht
    obtain ⟨fields, u1, u2, u3, _⟩ := (hT t _ ht).desc
    simp only [VR] at hx
    obtain ⟨L, hL, rfl⟩ := hx
    split at h
    · rename_i off size kind hf
      obtain ⟨fl, ii, d, g1, g2, g3, g4, _⟩ := field_get u3 hf
      cases hb : Nat.ble 1 size with
      | false => rw [hb] at h; cases h
      | true =>
        rw [hb] at h; cases h
        have hle := Nat.le_of_ble_eq_true hb
        refine ⟨.pointer (some ⟨L.b, L.off + (i + off), none⟩), ?_, by simp only [VR]; exact ⟨L, hL, rfl⟩⟩
        have hne : ¬ ii.size = 0 := by omega
        simp [Instr.fieldAt, run_und w u1, g1, Instr.sureAddr, fieldPlace, sizeOf, run_info w g3, hne, add_none, g2, Nat.add_assoc]
    · cases h
  · cases h

theorem extract_cells {β : Inj} {cs : List AV} {Cs : List Value} (h : VRL β cs Cs) {i n : Nat} {ds : List AV} (hc : cut cs i n = some ds) : ∃ Ds, VRL β ds Ds ∧ Cs.toArray.extract i (i + n) = Ds.toArray := by
  unfold cut at hc
  cases hb : Nat.ble (i + n) cs.length with
  | false => rw [hb] at hc; cases hc
  | true =>
    rw [hb] at hc; cases hc
    refine ⟨(Cs.drop i).take n, (h.drop i).take n, ?_⟩
    rw [List.extract_toArray, List.extract_eq_take_drop, show i + n - i = n from by omega]

theorem afield_sim {β : Inj} (hT : TabOK P T) {t f : Nat} {x v : AV} {X : Value} (h : afield T t x f = some v) (hx : VR β x X) : ∃ V, (Instr.field t X f).run P w = .ok V w ∧ VR β v V := by
  unfold afield at h
  split at h
  · rename_i cs fs _ _ _ _ ht
    obtain ⟨fields, u1, u2, u3, _⟩ := (hT t _ ht).desc
    simp only [VR] at hx
    obtain ⟨Cs, hC, rfl⟩ := hx
    split at h
    · rename_i off size kind hf
      obtain ⟨fl, ii, d, g1, g2, g3, g4, g5, g6⟩ := field_get u3 hf
      cases hk : Nat.beq kind 4 with
      | true =>
        rw [hk] at h g6
        simp only [cond_true, Option.map_eq_some_iff] at h
        obtain ⟨ds, hds, rfl⟩ := h
        obtain ⟨Ds, r1, r2⟩ := extract_cells hC hds
        refine ⟨.agg Ds.toArray, ?_, by simp only [VR]; exact ⟨Ds, r1, rfl⟩⟩
        simp only [Instr.field, Sem.run_bind, run_und w u1, Result.andThen_ok, g1, asAgg, Sem.run_pure, part, run_isAggD w g5, g6, if_true, sizeOf, run_info w g3, g4, g2, r2]
      | false =>
        rw [hk] at h g6
        simp only [cond_false] at h
        obtain ⟨V, r1, r2⟩ := hC.get _ _ h
        refine ⟨V, ?_, r2⟩
        have r1' : Cs.toArray[off]? = some V := by simpa using r1
        simp only [Instr.field, Sem.run_bind, run_und w u1, Result.andThen_ok, g1, asAgg, Sem.run_pure, part, run_isAggD w g5, g6, Bool.false_eq_true, if_false, g2, r1']
    · cases h
  · cases h

theorem aindexAddr_sim {β : Inj} (hT : TabOK P T) {t : Nat} {x ix v : AV} {X I : Value} (h : aindexAddr T t x ix = some v) (hx : VR β x X) (hi : VR β ix I) :
    ∃ V, (Instr.indexAt t X I).run P w = .ok V w ∧ VR β v V := by
  unfold aindexAddr at h
  split at h
  · rename_i e _ _ _ _ ht
    have hd := (hT t _ ht).desc
    simp only [DescOK] at hd
    split at h
    · rename_i o off len esz te he
      cases hb : Nat.beq te.size esz with
      | false => rw [hb] at h; cases h
      | true =>
        rw [hb] at h
        simp only [cond_true] at h
        have hsz := Nat.eq_of_beq_eq_true hb
        split at h
        · rename_i i hin
          cases h
          obtain ⟨k, rfl, hlt⟩ := inside_inv hin
          simp only [VR] at hx
          obtain ⟨L, c, hL, rfl, _⟩ := hx
          obtain rfl := int_of hi
          refine ⟨.pointer (some ⟨L.b, L.off + (off + i * esz), none⟩), ?_, by simp only [VR]; exact ⟨L, hL, rfl⟩⟩
          have h0 : (0 : Int) ≤ i ∧ (i : Int) < len := ⟨by omega, by omega⟩
          simp [Instr.indexAt, asIntOf, run_und w hd, (hT e _ he).run_sizeOf, hlt, add_none, hsz, Nat.add_assoc]
        · cases h
    · cases h
  · rename_i n e _ _ _ _ ht
    have hd := (hT t _ ht).desc
    simp only [DescOK] at hd
    split at h
    · rename_i o off te he
      split at h
      · rename_i i hin
        cases h
        obtain ⟨k, rfl, hlt⟩ := inside_inv hin
        simp only [VR] at hx
        obtain ⟨L, hL, rfl⟩ := hx
        obtain rfl := int_of hi
        refine ⟨.pointer (some ⟨L.b, L.off + (off + i * te.size), none⟩), ?_, by simp only [VR]; exact ⟨L, hL, rfl⟩⟩
        simp [Instr.indexAt, asIntOf, run_und w hd, Instr.sureAddr, (hT e _ he).run_sizeOf, hlt, add_none, Nat.add_assoc]
      · cases h
    · cases h
  · cases h

theorem aindex_sim {β : Inj} (hT : TabOK P T) {t : Nat} {x ix v : AV} {X I : Value} (h : aindex T t x ix = some v) (hx : VR β x X) (hi : VR β ix I) :
    ∃ V, (Instr.index t X I).run P w = .ok V w ∧ VR β v V := by
  unfold aindex at h
  split at h
  · rename_i s
    split at h
    · rename_i ht
      have hd := (hT t _ ht).desc
      simp only [DescOK] at hd
      split at h
      · rename_i i hin
        obtain ⟨k, rfl, hlt⟩ := inside_inv hin
        split at h
        · rename_i b hb
          cases h
          simp only [VR] at hx; subst hx
          obtain rfl := int_of hi
          refine ⟨.int .u8 b.toNat, ?_, by simp [VR]⟩
          simp [Instr.index, asIntOf, run_und w hd, ba_get, hb]
        · cases h
      · cases h
    · cases h
  · rename_i cs
    split at h
    · rename_i n e _ _ _ _ ht
      have hd := (hT t _ ht).desc
      simp only [DescOK] at hd
      split at h
      · rename_i i te hin he
        obtain ⟨k, rfl, hlt⟩ := inside_inv hin
        simp only [VR] at hx
        obtain ⟨Cs, hC, rfl⟩ := hx
        obtain rfl := int_of hi
        have hte := hT e _ he
        cases hag : te.agg with
        | true =>
          rw [hag] at h
          simp only [cond_true, Option.map_eq_some_iff] at h
          obtain ⟨ds, hds, rfl⟩ := h
          obtain ⟨Ds, r1, r2⟩ := extract_cells hC hds
          refine ⟨.agg Ds.toArray, ?_, by simp only [VR]; exact ⟨Ds, r1, rfl⟩⟩
          have h0 : (0 : Int) ≤ i ∧ (i : Int) < n := ⟨by omega, by omega⟩
          simp only [Instr.index, asIntOf, Sem.run_bind, Sem.run_pure, Result.andThen_ok, run_und w hd]
          rw [if_pos h0]
          simp only [Sem.run_bind, hte.run_sizeOf, Result.andThen_ok, part, hte.run_isAgg, hag, if_true, Int.toNat_natCast, Sem.run_pure, r2]
        | false =>
          rw [hag] at h
          simp only [cond_false] at h
          obtain ⟨V, r1, r2⟩ := hC.get _ _ h
          refine ⟨V, ?_, r2⟩
          have h0 : (0 : Int) ≤ i ∧ (i : Int) < n := ⟨by omega, by omega⟩
          have r1' : Cs.toArray[i * te.size]? = some V := by simpa using r1
          simp only [Instr.index, asIntOf, Sem.run_bind, Sem.run_pure, Result.andThen_ok, run_und w hd]
          rw [if_pos h0]
          simp only [Sem.run_bind, hte.run_sizeOf, Result.andThen_ok, part, hte.run_isAgg, hag, Bool.false_eq_true, if_false, Int.toNat_natCast, r1', Sem.run_pure]
      · cases h
    · cases h
  · cases h

/-! ### Slicing -/

theorem upTo_inv {β : Inj} {x : Option AV} {X : Option Value} {dflt n r : Nat} (h : upTo x dflt n = some r) (hx : ∀ v, x = some v → ∃ V, X = some V ∧ VR β v V) (hn : x = none → X = none) :
    (x = none ∧ X = none ∧ r = dflt) ∨ (∃ k, X = some (.int k r) ∧ r ≤ n) := by
  unfold upTo at h
  split at h
  · simp only [Option.some.injEq] at h
    exact .inl ⟨rfl, hn rfl, h.symm⟩
  · rename_i k i
    cases hb : Nat.ble i n with
    | false => rw [hb] at h; cases h
    | true =>
      rw [hb] at h; cases h
      obtain ⟨V, rfl, h2⟩ := hx _ rfl
      simp only [VR] at h2; subst h2
      exact .inr ⟨k, rfl, Nat.le_of_ble_eq_true hb⟩
  · cases h

theorem run_bound {k : IntKind} {i y : Nat} (c : BoundsCode) (h : i ≤ y) : (Instr.sliceBound (.int k i) y c).run P w = .ok i w := by
  have h0 : (0 : Int) ≤ i ∧ (i : Int) ≤ y := ⟨by omega, by omega⟩
  simp [Instr.sliceBound, asIntOf, h]

/-- The bounds of a slice expression, no third one. -/
theorem run_bounds {β : Inj} {lo hi : Option AV} {LO HI : Option Value} {len cap a b : Nat} (isSlice : Bool) (hb : upTo hi len len = some b) (ha : upTo lo 0 b = some a) (hc : len ≤ cap)
    (hl : ∀ v, lo = some v → ∃ V, LO = some V ∧ VR β v V) (hl0 : lo = none → LO = none) (hh : ∀ v, hi = some v → ∃ V, HI = some V ∧ VR β v V) (hh0 : hi = none → HI = none) :
    (Instr.sliceBounds isSlice len cap LO HI none).run P w = .ok (a, b, cap) w ∧ a ≤ b ∧ b ≤ len := by
  have hb' : b ≤ len := by
    rcases upTo_inv hb hh hh0 with ⟨_, _, e⟩ | ⟨_, _, e⟩ <;> omega
  have ha' : a ≤ b := by
    rcases upTo_inv ha hl hl0 with ⟨_, _, e⟩ | ⟨_, _, e⟩ <;> omega
  refine ⟨?_, ha', hb'⟩
  rcases upTo_inv hb hh hh0 with ⟨_, rfl, rfl⟩ | ⟨k, rfl, e⟩ <;> rcases upTo_inv ha hl hl0 with ⟨_, rfl, rfl⟩ | ⟨k', rfl, e'⟩
  · simp [Instr.sliceBounds]
  · simp [Instr.sliceBounds, run_bound w _ e']
  · simp [Instr.sliceBounds, run_bound w _ (Nat.le_trans e hc)]
  · simp [Instr.sliceBounds, run_bound w _ (Nat.le_trans e hc), run_bound w _ e']

theorem aslice_sim {β : Inj} (hT : TabOK P T) {t : Nat} {x v : AV} {lo hi : Option AV} {X : Value} {LO HI : Option Value} (h : aslice T t x lo hi = some v) (hx : VR β x X)
    (hl : ∀ v, lo = some v → ∃ V, LO = some V ∧ VR β v V) (hl0 : lo = none → LO = none) (hh : ∀ v, hi = some v → ∃ V, HI = some V ∧ VR β v V) (hh0 : hi = none → HI = none) :
    ∃ V, (Instr.sliceAt t X LO HI none).run P w = .ok V w ∧ VR β v V := by
  unfold aslice at h
  split at h
  · rename_i s
    split at h
    · rename_i ht
      have hd := (hT t _ ht).desc
      simp only [DescOK] at hd
      split at h
      · rename_i b hb
        split at h
        · rename_i a ha
          cases h
          simp only [VR] at hx; subst hx
          obtain ⟨r, _, _⟩ := run_bounds (P := P) w false hb ha (Nat.le_refl _) hl hl0 hh hh0
          refine ⟨.string ⟨((s.take b).drop a).toArray⟩, ?_, by simp [VR]⟩
          simp [Instr.sliceAt, Instr.slice, run_und w hd, ba_size, r, ba_extract]
        · cases h
      · cases h
    · cases h
  · rename_i o off len esz
    split at h
    · rename_i e _ _ _ _ ht
      have hd := (hT t _ ht).desc
      simp only [DescOK] at hd
      split at h
      · rename_i te he
        cases hsz : Nat.beq te.size esz with
        | false => rw [hsz] at h; cases h
        | true =>
          rw [hsz] at h
          simp only [cond_true] at h
          have hsz' := Nat.eq_of_beq_eq_true hsz
          split at h
          · rename_i b hb
            split at h
            · rename_i a ha
              cases h
              simp only [VR] at hx
              obtain ⟨L, c, hL, rfl, hc, hlim⟩ := hx
              obtain ⟨r, hab, hbl⟩ := run_bounds (P := P) w true hb ha hc hl hl0 hh hh0
              have hrun : ∃ A, (Instr.sliceAt t (.slice (some ⟨L.b, L.off + off, none⟩) len c) LO HI none).run P w = .ok (.slice (some A) (b - a) (c - a)) w ∧ (a ≠ c → A = ⟨L.b, L.off + (off + a * esz), none⟩) := by
                by_cases hac : c = a
                · subst hac
                  exact ⟨⟨L.b, L.off + off, none⟩, by simp [Instr.sliceAt, Instr.slice, run_und w hd, r, (hT e _ he).run_sizeOf], fun hne => absurd rfl hne⟩
                · exact ⟨⟨L.b, L.off + (off + a * esz), none⟩, by simp [Instr.sliceAt, Instr.slice, run_und w hd, r, (hT e _ he).run_sizeOf, hac, add_none, hsz', Nat.add_assoc], fun _ => rfl⟩
              obtain ⟨A, r1, r2⟩ := hrun
              refine ⟨_, r1, ?_⟩
              cases hE : Nat.beq a b with
              | true =>
                have := Nat.eq_of_beq_eq_true hE
                subst this
                simp only [cond_true, VR, Nat.sub_self]
                exact ⟨A, _, rfl⟩
              | false =>
                have hne : a ≠ b := Nat.ne_of_beq_eq_false hE
                simp only [cond_false, VR]
                refine ⟨L, c - a, hL, by rw [r2 (by omega)], by omega, ?_⟩
                rw [Nat.sub_mul]
                have : a * esz ≤ c * esz := Nat.mul_le_mul_right _ (by omega)
                omega
            · cases h
          · cases h
      · cases h
    · cases h
  · split at h
    · rename_i e _ _ _ _ ht
      have hd := (hT t _ ht).desc
      simp only [DescOK] at hd
      split at h
      · rename_i te b a he hb ha
        cases h
        simp only [VR] at hx; subst hx
        have hb0 : b = 0 := by rcases upTo_inv hb hh hh0 with ⟨_, _, e⟩ | ⟨_, _, e⟩ <;> omega
        subst hb0
        obtain ⟨r, hab, _⟩ := run_bounds (P := P) w true hb ha (Nat.le_refl _) hl hl0 hh hh0
        have ha0 : a = 0 := by omega
        subst ha0
        exact ⟨.slice none 0 0, by simp [Instr.sliceAt, Instr.slice, run_und w hd, r, (hT e _ he).run_sizeOf], by simp [VR]⟩
      · cases h
    · cases h
  · split at h
    · rename_i e _ _ _ _ ht
      have hd := (hT t _ ht).desc
      simp only [DescOK] at hd
      split at h
      · rename_i te b a he hb ha
        cases h
        simp only [VR] at hx
        obtain ⟨A, c, rfl⟩ := hx
        have hb0 : b = 0 := by rcases upTo_inv hb hh hh0 with ⟨_, _, e⟩ | ⟨_, _, e⟩ <;> omega
        subst hb0
        obtain ⟨r, hab, _⟩ := run_bounds (P := P) w true hb ha (Nat.zero_le c) hl hl0 hh hh0
        have ha0 : a = 0 := by omega
        subst ha0
        by_cases hc : c = 0
        · subst hc
          exact ⟨.slice (some A) 0 0, by simp [Instr.sliceAt, Instr.slice, run_und w hd, r, (hT e _ he).run_sizeOf], by simp [VR]⟩
        · exact ⟨.slice (some (A.add 0)) 0 c, by simp [Instr.sliceAt, Instr.slice, run_und w hd, r, (hT e _ he).run_sizeOf, hc], by simp [VR]⟩
      · cases h
    · cases h
  · cases h
end
end Go.Am
