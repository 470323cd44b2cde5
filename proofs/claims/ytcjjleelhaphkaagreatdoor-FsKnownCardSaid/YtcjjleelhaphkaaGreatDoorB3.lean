/-
  Numbers, texts, '==': the model's operations give what the abstract machine tells.
-/
import Derived.Test.YtcjjleelhaphkaaGreatDoorB2
import Derived.Laws.Strings
import Derived.Laws.StructEq
import GoSem.Dispatch
set_option linter.unusedVariables false
set_option linter.unusedSimpArgs false
namespace Go.Am

theorem ba_ext {a b : ByteArray} (h : a.data = b.data) : a = b := by cases a; cases b; simp_all

theorem ba_append (s t : List UInt8) : (⟨s.toArray⟩ : ByteArray) ++ ⟨t.toArray⟩ = ⟨(s ++ t).toArray⟩ := ba_ext (by rw [ByteArray.data_append]; simp)

theorem ba_get (s : List UInt8) (i : Nat) : (⟨s.toArray⟩ : ByteArray)[i]? = s[i]? := by
  by_cases h : i < s.length
  · rw [List.getElem?_eq_getElem h, getElem?_pos (⟨s.toArray⟩ : ByteArray) i (by simpa [ByteArray.size] using h)]; rfl
  · rw [List.getElem?_eq_none (by omega), getElem?_neg (⟨s.toArray⟩ : ByteArray) i (by simpa [ByteArray.size] using h)]

theorem ba_size (s : List UInt8) : (⟨s.toArray⟩ : ByteArray).size = s.length := by simp [ByteArray.size]

theorem ba_list (s : List UInt8) : (⟨s.toArray⟩ : ByteArray).toList = s := by rw [ByteArray.toList_eq]

theorem ba_extract (s : List UInt8) (a b : Nat) : (⟨s.toArray⟩ : ByteArray).extract a b = ⟨((s.take b).drop a).toArray⟩ := ba_ext (by
  rw [ByteArray.data_extract, List.extract_toArray, List.extract_eq_take_drop, List.take_drop]
  by_cases h : a ≤ b
  · rw [show a + (b - a) = b from by omega]
  · rw [show a + (b - a) = a from by omega, List.drop_of_length_le (by simp; omega), List.drop_of_length_le (by simp; omega)])

theorem awrap_eq (k : IntKind) (n : Int) : awrap k n = k.wrap n := by
  unfold awrap
  split
  · cases h : i64Fits n with
    | false => rfl
    | true =>
      simp only [i64Fits, Bool.and_eq_true, decide_eq_true_eq] at h
      simp only [cond_true, IntKind.wrap, IntKind.bits, IntKind.signed, Bool.true_and]
      split
      · rename_i hh
        simp only [decide_eq_true_eq, ge_iff_le] at hh
        omega
      · rename_i hh
        simp only [decide_eq_true_eq, ge_iff_le] at hh
        omega
  · rfl

section
variable {P : Program} {T : Tab} (w : World)

theorem aint_sim {op : BinOp} {k : IntKind} {a b : Int} {v : AV} (h : aint op k a b = some v) (t : TypeId) :
    ∃ V, (binOp op t (.int k a) (.int k b)).run P w = .ok V w ∧ ∀ β, VR β v V := by
  cases op <;> simp only [aint, Option.some.injEq, reduceCtorEq] at h <;> (try subst h) <;> try simp only [binOp, ne_eq, not_true_eq_false, if_false]
  case add => exact ⟨_, rfl, fun β => by simp [VR, awrap_eq]⟩
  case sub => exact ⟨_, rfl, fun β => by simp [VR, awrap_eq]⟩
  case mul => exact ⟨_, rfl, fun β => by simp [VR, awrap_eq]⟩
  case quo =>
    by_cases hb : b = 0
    · simp [hb] at h
    · simp only [hb, decide_false, cond_false, Option.some.injEq] at h
      subst h
      exact ⟨.int k (k.wrap (a.tdiv b)), by simp [Op.intDiv, hb], fun β => by simp [VR, awrap_eq]⟩
  case rem =>
    by_cases hb : b = 0
    · simp [hb] at h
    · simp only [hb, decide_false, cond_false, Option.some.injEq] at h
      subst h
      exact ⟨.int k (a.tmod b), by simp [Op.intDiv, hb], fun β => by simp [VR]⟩
  case and => exact ⟨_, rfl, fun β => by simp [VR]⟩
  case or => exact ⟨_, rfl, fun β => by simp [VR]⟩
  case xor => exact ⟨_, rfl, fun β => by simp [VR]⟩
  case eql => exact ⟨_, rfl, fun β => by simp [VR, Bool.beq_eq_decide_eq]⟩
  case neq => exact ⟨_, rfl, fun β => by simp [VR, bne, Bool.beq_eq_decide_eq]⟩
  case lss => exact ⟨_, rfl, fun β => by simp [VR]⟩
  case leq => exact ⟨_, rfl, fun β => by simp [VR]⟩
  case gtr => exact ⟨_, rfl, fun β => by simp [VR]⟩
  case geq => exact ⟨_, rfl, fun β => by simp [VR]⟩

theorem ashift_sim {op : BinOp} {k k' : IntKind} {a b : Int} {v : AV} (h : ashift op k a b = some v) (t : TypeId) :
    ∃ V, (binOp op t (.int k a) (.int k' b)).run P w = .ok V w ∧ ∀ β, VR β v V := by
  unfold ashift at h
  cases b with
  | negSucc n => cases h
  | ofNat n =>
    have hn : ¬ ((n : Int) < 0) := by omega
    have hm : min n k.bits = Nat.min n k.bits := rfl
    cases op <;> simp only [Option.some.injEq, reduceCtorEq] at h <;> subst h
    case shl => exact ⟨_, by simp [binOp, Op.shift, hn, hm]; rfl, fun β => by simp [VR, awrap_eq]⟩
    case shr => exact ⟨_, by simp [binOp, Op.shift, hn, hm]; rfl, fun β => by simp [VR]⟩

theorem astr_sim {op : BinOp} {a b : List UInt8} {v : AV} (h : astr op a b = some v) (t : TypeId) :
    ∃ V, (binOp op t (.string ⟨a.toArray⟩) (.string ⟨b.toArray⟩)).run P w = .ok V w ∧ ∀ β, VR β v V := by
  have key : (binOp op t (.string ⟨a.toArray⟩) (.string ⟨b.toArray⟩)).run P w = (Op.stringOp op ⟨a.toArray⟩ ⟨b.toArray⟩).run P w := by cases op <;> rfl
  rw [key]
  cases op <;> simp only [astr, Option.some.injEq, reduceCtorEq] at h <;> try subst h
  case add =>
    cases hb : Nat.ble (a.length + b.length) 4611686018427387904 with
    | false => rw [hb] at h; cases h
    | true =>
      rw [hb] at h; cases h
      have hle := Nat.le_of_ble_eq_true hb
      have hmax : ¬ (((ByteArray.mk a.toArray).size + (ByteArray.mk b.toArray).size : Nat) : Int) > IntKind.i64.max := by
        rw [ba_size, ba_size]
        simp only [IntKind.max, IntKind.signed, IntKind.bits, if_true, gt_iff_lt]
        omega
      refine ⟨.string ⟨(a ++ b).toArray⟩, ?_, fun β => by simp [VR]⟩
      simp only [Op.stringOp]
      rw [if_neg hmax, ba_append]
      rfl
  case eql => exact ⟨_, by simp only [Op.stringOp, ba_list]; rfl, fun β => by simp [VR, Bool.beq_eq_decide_eq]⟩
  case neq => exact ⟨_, by simp only [Op.stringOp, ba_list]; rfl, fun β => by simp [VR, Bool.beq_eq_decide_eq]⟩
  case lss => exact ⟨_, by simp only [Op.stringOp, ba_list]; rfl, fun β => by simp [VR]⟩
  case leq => exact ⟨_, by simp only [Op.stringOp, ba_list]; rfl, fun β => by simp [VR, Bool.beq_eq_decide_eq]⟩
  case gtr => exact ⟨_, by simp only [Op.stringOp, ba_list]; rfl, fun β => by simp [VR, Bool.beq_eq_decide_eq]⟩
  case geq => exact ⟨_, by simp only [Op.stringOp, ba_list]; rfl, fun β => by simp [VR]⟩

/-! ### '==' -/

theorem part_cell {t : TypeId} {d : TypeDesc} (h : P.underlying t = some d) (hd : isAggD (P.underlying t) = false) {cs : Array Value} {off : Nat} {V : Value} (hc : cs[off]? = some V) :
    (part t cs off).run P w = .ok V w := by
  simp [part, run_isAggD w h, hd, hc]

theorem eqCell_sim {β : Inj} {f : Go.Field} {kind : Nat} {x y : AV} {X Y : Value} {b : Bool} (d : Nat) (h : eqCell kind x y = some b) (hx : VR β x X) (hy : VR β y Y)
    (k1 : kind = 1 → ∃ k, P.underlying f.type = some (.int k)) (k2 : kind = 2 → P.underlying f.type = some .string) (k3 : kind = 3 → P.underlying f.type = some .bool) :
    (Op.equalIn (d + 1) f.type X Y).run P w = .ok b w ∧ isAggD (P.underlying f.type) = false := by
  unfold eqCell at h
  split at h
  · rename_i j a k b'
    obtain ⟨kk, hk⟩ := k1 rfl
    simp only [VR] at hx hy
    subst hx hy
    by_cases hjk : j = k
    · subst hjk
      simp only [decide_true, cond_true, Option.some.injEq] at h
      subst h
      exact ⟨by rw [run_equalIn_int w d _ _ _ _ _ hk, Bool.beq_eq_decide_eq], by rw [hk]; rfl⟩
    · simp [hjk] at h
  · simp only [VR] at hx hy
    subst hx hy
    simp only [Option.some.injEq] at h
    subst h
    exact ⟨by rw [run_equalIn_string w d _ _ _ (k2 rfl), ba_list, ba_list, Bool.beq_eq_decide_eq], by rw [k2 rfl]; rfl⟩
  · simp only [VR] at hx hy
    subst hx hy
    simp only [Option.some.injEq] at h
    subst h
    exact ⟨by rw [run_equalIn_bool' w d _ _ _ (k3 rfl)], by rw [k3 rfl]; rfl⟩
  · cases h

theorem eqFields_sim {β : Inj} (d : Nat) {xs ys : List AV} {Xs Ys : List Value} (hx : VRL β xs Xs) (hy : VRL β ys Ys) : ∀ (fs : List (Nat × Nat × Nat)) (l : List Go.Field) (b : Bool), l.length = fs.length →
    (∀ (i : Nat) x, fs[i]? = some x → ∃ f, l[i]? = some f ∧ FieldOK P f x) → eqFields fs xs ys = some b → (Op.eqFields (d + 1) Xs.toArray Ys.toArray l).run P w = .ok b w
  | [], [], b, _, _, h => by simp only [eqFields, Option.some.injEq] at h; subst h; simp [Op.eqFields]
  | [], _ :: _, _, hl, _, _ => by simp at hl
  | _ :: _, [], _, hl, _, _ => by simp at hl
  | (off, size, kind) :: fs, f :: l, b, hl, hf, h => by
    obtain ⟨f', e0, hfo⟩ := hf 0 _ rfl
    simp at e0; subst e0
    have hrest : ∀ (i : Nat) x, fs[i]? = some x → ∃ f, l[i]? = some f ∧ FieldOK P f x := fun i x hi => by
      have := hf (i + 1) x (by simpa using hi)
      simpa using this
    simp only [eqFields] at h
    split at h
    · rename_i x y gx gy
      obtain ⟨X, kx, rx⟩ := hx.get _ _ gx
      obtain ⟨Y, ky, ry⟩ := hy.get _ _ gy
      obtain ⟨dd, hdd⟩ := hfo.und
      have hoff := hfo.off
      split at h
      · rename_i hc
        obtain ⟨r1, r2⟩ := eqCell_sim w d hc rx ry hfo.k1 hfo.k2 hfo.k3
        simp only [Op.eqFields, hfo.name, ne_eq, not_false_eq_true, if_true, Sem.run_bind]
        rw [part_cell w hdd r2 (by simpa [hoff] using kx)]
        simp only [Result.andThen_ok]
        rw [part_cell w hdd r2 (by simpa [hoff] using ky)]
        simp only [Result.andThen_ok, r1, Bool.not_true, Bool.false_eq_true, if_false]
        exact eqFields_sim d hx hy fs l b (by simpa using hl) hrest h
      · rename_i hc
        obtain ⟨r1, r2⟩ := eqCell_sim w d hc rx ry hfo.k1 hfo.k2 hfo.k3
        simp only [Option.some.injEq] at h; subst h
        simp only [Op.eqFields, hfo.name, ne_eq, not_false_eq_true, if_true, Sem.run_bind]
        rw [part_cell w hdd r2 (by simpa [hoff] using kx)]
        simp only [Result.andThen_ok]
        rw [part_cell w hdd r2 (by simpa [hoff] using ky)]
        simp only [Result.andThen_ok, r1, Bool.not_false, if_true, Sem.run_pure]
      · cases h
    · cases h

theorem eq_ptr {t e : TypeId} (h : P.underlying t = some (.pointer e)) (d : Nat) (a b : Option Addr) (hn : a = none ∨ b = none) : (Op.equalIn (d + 1) t (.pointer a) (.pointer b)).run P w = .ok (a.isNone && b.isNone) w := by
  rcases hn with rfl | rfl
  · simp [Op.equalIn, run_und w h]
  · cases a <;> simp [Op.equalIn, run_und w h]

theorem eq_slice {t e : TypeId} (h : P.underlying t = some (.slice e)) (d : Nat) (a b : Option Addr) (n m k l : Nat) (hn : a = none ∨ b = none) :
    (Op.equalIn (d + 1) t (.slice a n m) (.slice b k l)).run P w = .ok (a.isNone && b.isNone) w := by
  rcases hn with rfl | rfl
  · simp [Op.equalIn, run_und w h]
  · cases a <;> simp [Op.equalIn, run_und w h]

theorem eq_map {t k e : TypeId} (h : P.underlying t = some (.map k e)) (d : Nat) (a b : Option Nat) (hn : a = none ∨ b = none) : (Op.equalIn (d + 1) t (.map a) (.map b)).run P w = .ok (a.isNone && b.isNone) w := by
  rcases hn with rfl | rfl
  · simp [Op.equalIn, run_und w h]
  · cases a <;> simp [Op.equalIn, run_und w h]

theorem aeq_sim {β : Inj} (hT : TabOK P T) {t : Nat} {x y : AV} {X Y : Value} {b : Bool} (hok : eqOk T t x y = true) (h : aeq T t x y = some b) (hx : VR β x X) (hy : VR β y Y) :
    (Op.equal t X Y).run P w = .ok b w ∧ ∀ (op : BinOp) (xo yo : Operand), (eqGuard op t xo yo X Y).run P w = .ok () w := by
  have plain : ∀ (X Y : Value), (∀ a, X ≠ .agg a) → X ≠ .nilIface → ∀ (op : BinOp) (xo yo : Operand), (eqGuard op t xo yo X Y).run P w = .ok () w := by
    intro X Y h1 h2 op xo yo
    cases op <;> simp only [eqGuard] <;> first | rfl | skip
    all_goals
      cases X <;> first | rfl | exact absurd rfl h2 | exact absurd rfl (h1 _)
  unfold eqOk at hok
  split at hok
  · rename_i d _ _ _ _ ht
    have hd := (hT t _ ht).desc
    simp only at hd
    show (Op.equalIn (9998 + 1 + 1) t X Y).run P w = .ok b w ∧ _
    generalize 9998 = n
    unfold aeq at h
    split at h
    case h_1 =>
      rw [ht] at h
      cases d <;> simp only [Option.some.injEq, reduceCtorEq] at h
      subst h
      simp only [VR] at hx hy; subst hx hy
      exact ⟨run_equalIn_bool' w (n + 1) t _ _ hd, plain _ _ (by simp) (by simp)⟩
    case h_2 =>
      simp only [Option.some.injEq] at h; subst h
      simp only [VR] at hx hy
      subst hx
      subst hy
      cases d <;> simp only [Bool.false_eq_true] at hok
      obtain ⟨e, he⟩ := hd
      exact ⟨eq_ptr w he _ _ _ (by simp), plain _ _ (by simp) (by simp)⟩
    case h_3 =>
      simp only [Option.some.injEq] at h; subst h
      simp only [VR] at hx hy
      subst hx
      obtain ⟨_, _, rfl⟩ := hy
      cases d <;> simp only [Bool.false_eq_true] at hok
      obtain ⟨e, he⟩ := hd
      exact ⟨eq_ptr w he _ _ _ (by simp), plain _ _ (by simp) (by simp)⟩
    case h_4 =>
      simp only [Option.some.injEq] at h; subst h
      simp only [VR] at hx hy
      obtain ⟨_, _, rfl⟩ := hx
      subst hy
      cases d <;> simp only [Bool.false_eq_true] at hok
      obtain ⟨e, he⟩ := hd
      exact ⟨eq_ptr w he _ _ _ (by simp), plain _ _ (by simp) (by simp)⟩
    case h_5 =>
      simp only [Option.some.injEq] at h; subst h
      simp only [VR] at hx hy
      subst hx
      subst hy
      cases d <;> simp only [Bool.false_eq_true] at hok
      have he := hd
      exact ⟨eq_slice w he _ _ _ _ _ _ _ (by simp), plain _ _ (by simp) (by simp)⟩
    case h_6 =>
      simp only [Option.some.injEq] at h; subst h
      simp only [VR] at hx hy
      subst hx
      obtain ⟨_, _, _, rfl, _⟩ := hy
      cases d <;> simp only [Bool.false_eq_true] at hok
      have he := hd
      exact ⟨eq_slice w he _ _ _ _ _ _ _ (by simp), plain _ _ (by simp) (by simp)⟩
    case h_7 =>
      simp only [Option.some.injEq] at h; subst h
      simp only [VR] at hx hy
      subst hx
      obtain ⟨_, _, rfl⟩ := hy
      cases d <;> simp only [Bool.false_eq_true] at hok
      have he := hd
      exact ⟨eq_slice w he _ _ _ _ _ _ _ (by simp), plain _ _ (by simp) (by simp)⟩
    case h_8 =>
      simp only [Option.some.injEq] at h; subst h
      simp only [VR] at hx hy
      obtain ⟨_, _, _, rfl, _⟩ := hx
      subst hy
      cases d <;> simp only [Bool.false_eq_true] at hok
      have he := hd
      exact ⟨eq_slice w he _ _ _ _ _ _ _ (by simp), plain _ _ (by simp) (by simp)⟩
    case h_9 =>
      simp only [Option.some.injEq] at h; subst h
      simp only [VR] at hx hy
      obtain ⟨_, _, rfl⟩ := hx
      subst hy
      cases d <;> simp only [Bool.false_eq_true] at hok
      have he := hd
      exact ⟨eq_slice w he _ _ _ _ _ _ _ (by simp), plain _ _ (by simp) (by simp)⟩
    case h_10 =>
      simp only [Option.some.injEq] at h; subst h
      simp only [VR] at hx hy
      subst hx
      subst hy
      cases d <;> simp only [Bool.false_eq_true] at hok
      obtain ⟨k, he, _⟩ := hd
      exact ⟨eq_map w he _ _ _ (by simp), plain _ _ (by simp) (by simp)⟩
    case h_11 =>
      simp only [Option.some.injEq] at h; subst h
      simp only [VR] at hx hy
      subst hx
      obtain ⟨_, _, rfl⟩ := hy
      cases d <;> simp only [Bool.false_eq_true] at hok
      obtain ⟨k, he, _⟩ := hd
      exact ⟨eq_map w he _ _ _ (by simp), plain _ _ (by simp) (by simp)⟩
    case h_12 =>
      simp only [Option.some.injEq] at h; subst h
      simp only [VR] at hx hy
      obtain ⟨_, _, rfl⟩ := hx
      subst hy
      cases d <;> simp only [Bool.false_eq_true] at hok
      obtain ⟨k, he, _⟩ := hd
      exact ⟨eq_map w he _ _ _ (by simp), plain _ _ (by simp) (by simp)⟩
    case h_13 =>
      simp only [Option.some.injEq] at h; subst h
      simp only [VR] at hx hy
      subst hx
      subst hy
      cases d <;> simp only [Bool.false_eq_true] at hok
      obtain ⟨_, _, _, he⟩ := hd
      exact ⟨by simp [Op.equalIn, run_und w he], plain _ _ (by simp) (by simp)⟩
    case h_14 =>
      simp only [Option.some.injEq] at h; subst h
      simp only [VR] at hx hy
      subst hx
      obtain ⟨_, _, _, _, rfl⟩ := hy
      cases d <;> simp only [Bool.false_eq_true] at hok
      obtain ⟨_, _, _, he⟩ := hd
      exact ⟨by simp [Op.equalIn, run_und w he], plain _ _ (by simp) (by simp)⟩
    case h_15 =>
      simp only [Option.some.injEq] at h; subst h
      simp only [VR] at hx hy
      obtain ⟨_, _, _, _, rfl⟩ := hx
      subst hy
      cases d <;> simp only [Bool.false_eq_true] at hok
      obtain ⟨_, _, _, he⟩ := hd
      exact ⟨by simp [Op.equalIn, run_und w he], plain _ _ (by simp) (by simp)⟩
    case h_16 =>
      rw [ht] at h
      cases d <;> simp only [reduceCtorEq] at h
      simp only [VR] at hx hy
      obtain ⟨Xs, r1, rfl⟩ := hx
      obtain ⟨Ys, r2, rfl⟩ := hy
      obtain ⟨fields, u1, u2, u3, u4, u5⟩ := hd
      have hfo : P.underlying t = some (.struct (P.fieldsOf t)) := by simp [Program.fieldsOf, u1]
      have hfe : P.fieldsOf t = fields := by simp [Program.fieldsOf, u1]
      refine ⟨?_, fun op xo yo => run_eqGuard_agg w op t xo yo _ _ u5⟩
      rw [run_equalIn_struct w (n + 1) t _ _ hfo u4, hfe]
      exact eqFields_sim w n r1 r2 _ _ b (by simpa using u2) (fun i x hi => by simpa using u3 i x hi) h
    case h_17 => cases h
  · cases hok

/-- '==', '<', '+' and their kin. -/
theorem abin_sim {β : Inj} (hT : TabOK P T) {op : BinOp} {t : Nat} {x y v : AV} {X Y : Value} (h : abin T op t x y = some v) (hx : VR β x X) (hy : VR β y Y) (xo yo : Operand) :
    ∃ V, (do eqGuard op t xo yo X Y; binOp op t X Y : Sem Value).run P w = .ok V w ∧ VR β v V := by
  have noGuard : ∀ (X Y : Value), (∀ a, X ≠ .agg a) → X ≠ .nilIface → (eqGuard op t xo yo X Y).run P w = .ok () w := by
    intro X Y h1 h2
    cases op <;> simp only [eqGuard] <;> first | rfl | skip
    all_goals
      cases X <;> first | rfl | exact absurd rfl h2 | exact absurd rfl (h1 _)
  unfold abin at h
  split at h
  · rename_i k a k' b
    simp only [VR] at hx hy; subst hx hy
    have hg := noGuard (.int k a) (.int k' b) (by simp) (by simp)
    have hne : ∀ (hsh : (bif decide (k = k') then aint op k a b else none) = some v), k = k' ∧ aint op k a b = some v := by
      intro hsh
      by_cases hk : k = k'
      · subst hk; simpa using hsh
      · simp [hk] at hsh
    split at h
    · obtain ⟨V, h1, h2⟩ := ashift_sim (P := P) w h t (k' := k')
      exact ⟨V, by simp only [Sem.run_bind, hg, Result.andThen_ok, h1], h2 β⟩
    · obtain ⟨V, h1, h2⟩ := ashift_sim (P := P) w h t (k' := k')
      exact ⟨V, by simp only [Sem.run_bind, hg, Result.andThen_ok, h1], h2 β⟩
    · obtain ⟨rfl, h'⟩ := hne h
      obtain ⟨V, h1, h2⟩ := aint_sim (P := P) w h' t
      exact ⟨V, by simp only [Sem.run_bind, hg, Result.andThen_ok, h1], h2 β⟩
  · simp only [VR] at hx hy; subst hx hy
    obtain ⟨V, h1, h2⟩ := astr_sim (P := P) w h t
    rename_i a b
    have hg := noGuard (.string ⟨a.toArray⟩) (.string ⟨b.toArray⟩) (by simp) (by simp)
    exact ⟨V, by simp only [Sem.run_bind, hg, Result.andThen_ok, h1], h2 β⟩
  · cases hok : eqOk T t x y with
    | false => rw [hok] at h; cases h
    | true =>
      rw [hok] at h; simp only [cond_true] at h
      have hform : ∀ b, aeq T t x y = some b → (op = .eql ∨ op = .neq) → ∃ V, (binOp op t X Y).run P w = ((Op.equal t X Y).run P w).andThen (fun b w' => .ok (.bool (if op = .eql then b else !b)) w') ∧ V = (b : Bool) := by
        intro b hb ho
        refine ⟨b, ?_, rfl⟩
        unfold aeq at hb
        split at hb <;> first | cases hb; done | skip
        all_goals (simp only [VR] at hx hy)
        case h_1 => subst hx hy; rcases ho with rfl | rfl <;> simp [binOp]
        case h_2 => subst hx hy; rcases ho with rfl | rfl <;> simp [binOp]
        case h_3 => subst hx; obtain ⟨_, _, rfl⟩ := hy; rcases ho with rfl | rfl <;> simp [binOp]
        case h_4 => subst hy; obtain ⟨_, _, rfl⟩ := hx; rcases ho with rfl | rfl <;> simp [binOp]
        case h_5 => subst hx hy; rcases ho with rfl | rfl <;> simp [binOp]
        case h_6 => subst hx; obtain ⟨_, _, _, rfl, _⟩ := hy; rcases ho with rfl | rfl <;> simp [binOp]
        case h_7 => subst hx; obtain ⟨_, _, rfl⟩ := hy; rcases ho with rfl | rfl <;> simp [binOp]
        case h_8 => subst hy; obtain ⟨_, _, _, rfl, _⟩ := hx; rcases ho with rfl | rfl <;> simp [binOp]
        case h_9 => subst hy; obtain ⟨_, _, rfl⟩ := hx; rcases ho with rfl | rfl <;> simp [binOp]
        case h_10 => subst hx hy; rcases ho with rfl | rfl <;> simp [binOp]
        case h_11 => subst hx; obtain ⟨_, _, rfl⟩ := hy; rcases ho with rfl | rfl <;> simp [binOp]
        case h_12 => subst hy; obtain ⟨_, _, rfl⟩ := hx; rcases ho with rfl | rfl <;> simp [binOp]
        case h_13 => subst hx hy; rcases ho with rfl | rfl <;> simp [binOp]
        case h_14 => subst hx; obtain ⟨_, _, _, _, rfl⟩ := hy; rcases ho with rfl | rfl <;> simp [binOp]
        case h_15 => subst hy; obtain ⟨_, _, _, _, rfl⟩ := hx; rcases ho with rfl | rfl <;> simp [binOp]
        case h_16 => obtain ⟨_, _, rfl⟩ := hx; obtain ⟨_, _, rfl⟩ := hy; rcases ho with rfl | rfl <;> simp [binOp]
      cases op <;> simp only [Option.map_eq_some_iff, reduceCtorEq] at h
      case eql =>
        obtain ⟨b, hb, rfl⟩ := h
        obtain ⟨r1, r2⟩ := aeq_sim w hT hok hb hx hy
        obtain ⟨_, r3, _⟩ := hform b hb (.inl rfl)
        exact ⟨.bool b, by simp only [Sem.run_bind, r2, Result.andThen_ok, r3, r1, if_true], by simp [VR]⟩
      case neq =>
        obtain ⟨b, hb, rfl⟩ := h
        obtain ⟨r1, r2⟩ := aeq_sim w hT hok hb hx hy
        obtain ⟨_, r3, _⟩ := hform b hb (.inr rfl)
        exact ⟨.bool (!b), by simp only [Sem.run_bind, r2, Result.andThen_ok, r3, r1, reduceCtorEq, if_false], by simp [VR]⟩

theorem aun_sim {β : Inj} {op : UnOp} {x v : AV} {X : Value} (h : aun op x = some v) (hx : VR β x X) : ∃ V, (Op.unary op X).run P w = .ok V w ∧ VR β v V := by
  unfold aun at h
  split at h
  · simp only [Option.some.injEq] at h; subst h
    simp only [VR] at hx; subst hx
    exact ⟨_, rfl, by simp [VR, awrap_eq]⟩
  · simp only [Option.some.injEq] at h; subst h
    simp only [VR] at hx; subst hx
    exact ⟨_, rfl, by simp [VR]⟩
  · cases h

end
end Go.Am
