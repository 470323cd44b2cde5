/-
  Conversions and maps: the model's operations give what the abstract machine tells.
-/
import Derived.Test.YtcjjleelhaphkaaGreatDoorB7
import Derived.Lib.ConvBytes
import Derived.Laws.BytesString
import Derived.Laws.BytesArg
import Derived.MapKept
set_option linter.unusedVariables false
set_option linter.unusedSimpArgs false
namespace Go.Am
section
variable {P : Program} {T : Tab}

theorem modify_push (h : Array Obj) (x : Obj) (f : Obj → Obj) : (h.push x).modify h.size f = h.push (f x) := by
  apply Array.ext_getElem?
  intro i
  rw [Array.getElem?_modify, Array.getElem?_push, Array.getElem?_push]
  by_cases hi : i = h.size
  · subst hi; simp
  · rw [if_neg (fun e => hi e.symm), if_neg hi, if_neg hi]

theorem bytesWorld_eq (w : World) (e : TypeId) (s : ByteArray) :
    Lib.bytesWorld w e s = w.drew.alloc (.cells (Lib.bytesCells w e s) e ((Lib.bytesCells w e s).size, (Lib.bytesCells w e s).size + 1)) := by
  unfold Lib.bytesWorld World.freeze
  rw [if_neg (by decide)]
  simp only [World.alloc]
  congr 1
  exact modify_push w.drew.heap _ _

theorem bytesOf_sim {β : Inj} : ∀ (cs : List AV) (Cs : List Value) (bs : List UInt8), bytesOf cs = some bs → VRL β cs Cs → ∃ ns : List Int, Cs = ns.map (Value.int .u8) ∧ ns.map (fun n => UInt8.ofNat n.toNat) = bs
  | [], Cs, bs, h, hc => by
    simp only [bytesOf, Option.some.injEq] at h; subst h
    rw [hc.nil_inv]; exact ⟨[], rfl, rfl⟩
  | x :: xs, Cs, bs, h, hc => by
    obtain ⟨X, Xs, h1, h2, rfl⟩ := hc.cons_inv
    simp only [bytesOf] at h
    split at h
    · rename_i y ys hy hys
      cases h
      unfold byteOf at hy
      split at hy
      · rename_i n
        cases hy
        simp only [VR] at h1; subst h1
        obtain ⟨ns, rfl, e2⟩ := bytesOf_sim xs Xs ys hys h2
        exact ⟨(n : Int) :: ns, rfl, by simp [e2]⟩
      · cases hy
    · cases h

theorem aconvert_sim {w0 : World} {β : Inj} {h h' : AHeap} {w : World} (hT : TabOK P T) (hw : WR w0 β h w) {src dst : Nat} {x : AV} {X : Value} {v : AV} (hc : aconvert T h src dst x = some (v, h')) (hx : VR β x X) :
    SimV P w0 β h w (convert src dst X) (some v) h' := by
  unfold aconvert at hc
  split at hc
  · rename_i ds _ _ _ _ dd _ _ _ _ hs hd
    obtain ⟨us, hus⟩ := (hT src _ hs).und
    have hdd := (hT dst _ hd).desc
    have hds := (hT src _ hs).desc
    simp only at hdd hds
    split at hc
    · rename_i k k' n
      simp only [DescOK] at hdd
      cases hc
      simp only [VR] at hx; subst hx
      refine ⟨β, .int k (k.wrap n), w, ?_, fun y hy => by cases hy; simp [VR, awrap_eq], hw, Goes.refl _ _⟩
      cases us <;> simp [convert, run_und w hus, run_und w hdd, Conv.intToInt]
    · simp only [DescOK] at hdd
      cases hc
      have hx' := hx
      simp only [VR] at hx; subst hx
      refine ⟨β, _, w, ?_, fun y hy => by cases hy; exact hx', hw, Goes.refl _ _⟩
      cases us <;> simp [convert, run_und w hus, run_und w hdd]
    · rename_i e s
      simp only [DescOK] at hdd
      split at hc
      · rename_i he
        have hee := (hT e _ he).desc
        simp only [DescOK] at hee
        simp only [VR] at hx; subst hx
        cases hb : Nat.ble s.length 35184372088832 with
        | false => rw [hb] at hc; cases hc
        | true =>
          rw [hb] at hc
          simp only [cond_true] at hc
          obtain ⟨hone, rfl, rfl⟩ := newCells_inv hc
          have hrun := Lib.run_convert_string_bytes (P := P) w src dst e ⟨s.toArray⟩ hus hdd hee
          rw [bytesWorld_eq] at hrun
          simp only [ba_size] at hrun
          have hgc : s.length ≤ grownCap w s.length 0 e := by
            unfold grownCap
            show s.length ≤ s.length + _
            omega
          have hsz : (Lib.bytesCells w e ⟨s.toArray⟩).size = grownCap w s.length 0 e := by
            simp only [Lib.bytesCells, Array.size_append, Array.size_map, Array.size_replicate, ba_size, List.size_toArray]
            omega
          have hob : ObjR w0.heap.size (β.with h.next ⟨w.drew.heap.size, 0, grownCap w s.length 0 e⟩) (w.drew.alloc (.cells (Lib.bytesCells w e ⟨s.toArray⟩) e ((Lib.bytesCells w e ⟨s.toArray⟩).size, (Lib.bytesCells w e ⟨s.toArray⟩).size + 1))).heap
              ⟨w.drew.heap.size, 0, grownCap w s.length 0 e⟩ (.cells (s.map fun b => .int .u8 b.toNat) true) := by
            refine ⟨_, e, _, heap_push_new, by show 0 + grownCap w s.length 0 e ≤ _; omega, by simpa using hgc, fun j v hv => ?_, fun _ => ⟨hw.below.size, hone, fun j hj hj' => ?_⟩, fun hh => by cases hh⟩
            · rw [List.getElem?_map] at hv
              cases hsj : s[j]? with
              | none => rw [hsj] at hv; cases hv
              | some b =>
                rw [hsj] at hv; cases hv
                have hj : j < s.length := by
                  rcases Nat.lt_or_ge j s.length with hh | hh
                  · exact hh
                  · rw [List.getElem?_eq_none hh] at hsj; cases hsj
                refine ⟨.int .u8 b.toNat, ?_, by simp [VR]⟩
                simp only [Lib.bytesCells, Nat.zero_add]
                rw [Array.getElem?_append_left (by simpa using hj)]
                simp [hsj]
            · have : j < 0 + grownCap w s.length 0 e := hj'
              rw [hsz]; simp only; omega
          obtain ⟨t1, t2⟩ := hw.drew.alloc (x := .cells (s.map fun b => .int .u8 b.toNat) true) rfl hob
          refine ⟨_, _, _, hrun, fun y hy => ?_, t1, t2⟩
          cases hy
          simp only [VR]
          refine ⟨_, _, Inj.with_self _ _ _, rfl, hgc, ?_⟩
          show 0 + grownCap w s.length 0 e * 1 ≤ grownCap w s.length 0 e
          omega
      · cases hc
    · simp only [DescOK] at hdd
      split at hc
      · rename_i e
        simp only [DescOK] at hds
        split at hc
        · rename_i he
          have hee := (hT e _ he).desc
          simp only [DescOK] at hee
          split at hc
          · rename_i cs hr
            split at hc
            · rename_i bs hbs
              have hc' : v = .str bs ∧ h' = h ∧ ∀ s, x ≠ .str s := by
                cases x <;> first | (cases hc; done) | (cases hc; exact ⟨rfl, rfl, fun s hs => by cases hs⟩)
              obtain ⟨rfl, rfl, hns⟩ := hc'
              refine ⟨β, .string ⟨bs.toArray⟩, w, ?_, fun y hy => by cases hy; simp [VR], hw, Goes.refl _ _⟩
              unfold rowOf at hr
              split at hr
              · simp only [Option.some.injEq] at hr; subst hr
                simp only [bytesOf, Option.some.injEq] at hbs; subst hbs
                simp only [VR] at hx; subst hx
                rw [run_convert_bytes_nil w src e hds hee 0 0 dst hdd]
                rfl
              · simp only [Option.some.injEq] at hr; subst hr
                simp only [bytesOf, Option.some.injEq] at hbs; subst hbs
                simp only [VR] at hx; obtain ⟨a, c, rfl⟩ := hx
                rw [run_convert_bytes_string w src dst e _ 0 c hds hee hdd, run_bytesToString w a 0 c [] (by simp [loadCells, loadCellsFrom])]
                rfl
              · rename_i o off len es _
                cases hb : Nat.beq es 1 with
                | false => rw [hb] at hr; cases hr
                | true =>
                  rw [hb] at hr
                  simp only [cond_true] at hr
                  split at hr
                  · rename_i vs rw' ho
                    simp only [VR] at hx
                    obtain ⟨L, c, hL, rfl, _⟩ := hx
                    obtain ⟨C, el, fz, e1, _, _, e4, _⟩ := hw.obj o _ L ho hL
                    obtain ⟨Cs, r1, r2, r3⟩ := row_get e4 hr
                    obtain ⟨ns, rfl, hns⟩ := bytesOf_sim cs Cs bs hbs r1
                    have hl := run_loadCells_at (P := P) e1 r2 r3
                    rw [Nat.mul_one] at hl
                    rw [run_convert_bytes_string w src dst e _ len c hds hee hdd, run_bytesToString w _ len c ns hl, foldl_push_bytes, hns]
                    simp [ByteArray.empty, ByteArray.emptyWithCapacity]
                    rfl
                  · cases hr
              · exact absurd rfl (hns _)
              · cases hr
            · cases hc
          · cases hc
        · cases hc
      · cases hc
    · cases hc
  · cases hc

/-! ### Maps -/

theorem ER.length {β : Inj} : ∀ {es : List (AV × AV × Nat)} {Es : List MapEntry}, ER β es Es → Es.length = es.length
  | [], Es, h => by have : Es = [] := h; subst this; rfl
  | e :: es, Es, h => by obtain ⟨E, Es', _, _, _, h4, rfl⟩ := h; simp [ER.length h4]

theorem ER.get {β : Inj} : ∀ {es : List (AV × AV × Nat)} {Es : List MapEntry}, ER β es Es → ∀ (i : Nat) e, es[i]? = some e → ∃ E, Es[i]? = some E ∧ VR β e.1 E.key ∧ VR β e.2.1 E.val ∧ E.born = e.2.2
  | [], _, _, i, e, he => by simp at he
  | x :: es, _, h, i, e, he => by
    obtain ⟨E, Es', h1, h2, h3, h4, rfl⟩ := h
    cases i with
    | zero => simp at he; subst he; exact ⟨E, rfl, h1, h2, h3⟩
    | succ i => simp at he; simpa using ER.get h4 i e he

theorem ER.set {β : Inj} : ∀ {es : List (AV × AV × Nat)} {Es : List MapEntry}, ER β es Es → ∀ (i : Nat) {e : AV × AV × Nat} {E : MapEntry}, VR β e.1 E.key → VR β e.2.1 E.val → E.born = e.2.2 → ER β (es.set i e) (Es.set i E)
  | [], Es, h, i, e, E, _, _, _ => by have : Es = [] := h; subst this; exact h
  | x :: es, _, h, i, e, E, k1, k2, k3 => by
    obtain ⟨E', Es', h1, h2, h3, h4, rfl⟩ := h
    cases i with
    | zero => exact ⟨E, Es', k1, k2, k3, h4, rfl⟩
    | succ i => exact ⟨E', Es'.set i E, h1, h2, h3, ER.set h4 i k1 k2 k3, rfl⟩

theorem ER.snoc {β : Inj} : ∀ {es : List (AV × AV × Nat)} {Es : List MapEntry}, ER β es Es → ∀ {e : AV × AV × Nat} {E : MapEntry}, VR β e.1 E.key → VR β e.2.1 E.val → E.born = e.2.2 → ER β (es ++ [e]) (Es ++ [E])
  | [], Es, h, e, E, k1, k2, k3 => by have : Es = [] := h; subst this; exact ⟨E, [], k1, k2, k3, rfl, rfl⟩
  | x :: es, _, h, e, E, k1, k2, k3 => by
    obtain ⟨E', Es', h1, h2, h3, h4, rfl⟩ := h
    exact ⟨E', Es' ++ [E], h1, h2, h3, ER.snoc h4 k1 k2 k3, rfl⟩

theorem ER.erase {β : Inj} : ∀ {es : List (AV × AV × Nat)} {Es : List MapEntry}, ER β es Es → ∀ (i : Nat), ER β (es.eraseIdx i) (Es.eraseIdx i)
  | [], Es, h, i => by have : Es = [] := h; subst this; exact h
  | x :: es, _, h, i => by
    obtain ⟨E', Es', h1, h2, h3, h4, rfl⟩ := h
    cases i with
    | zero => exact h4
    | succ i => exact ⟨E', Es'.eraseIdx i, h1, h2, h3, ER.erase h4 i, rfl⟩

/-- A key of the model's. -/
theorem keyEq_sim {β : Inj} {kind : Nat} {D : TypeDesc} {k j : AV} {K J : Value} {b : Bool} (hok : keyOk kind k = true) (hD : KeyOK kind (some D)) (h : keyEq k j = some b) (hk : VR β k K) (hj : VR β j J) : Instr.sameNow D K J = some b := by
  unfold keyEq at h
  split at h
  · rename_i a x c y
    simp only [VR] at hk hj; subst hk hj
    have h1 : ∃ kk, D = .int kk := by
      unfold keyOk at hok
      rcases hD with ⟨rfl, kk, e⟩ | ⟨rfl, e⟩ | ⟨rfl, e⟩
      · cases e; exact ⟨kk, rfl⟩
      · cases hok
      · cases hok
    obtain ⟨kk, rfl⟩ := h1
    by_cases hac : a = c
    · subst hac
      simp only [decide_true, cond_true, Option.some.injEq] at h
      subst h
      simp [Instr.sameNow, Bool.beq_eq_decide_eq]
    · simp [hac] at h
  · rename_i a c
    simp only [VR] at hk hj; subst hk hj
    have h1 : D = .string := by
      unfold keyOk at hok
      rcases hD with ⟨rfl, kk, e⟩ | ⟨rfl, e⟩ | ⟨rfl, e⟩
      · cases hok
      · cases e; rfl
      · cases hok
    subst h1
    simp only [Option.some.injEq] at h; subst h
    simp only [Instr.sameNow, Option.some.injEq]
    rw [beq_toListBytes, ba_list, ba_list, Bool.beq_eq_decide_eq]
  · rename_i a c
    simp only [VR] at hk hj; subst hk hj
    have h1 : D = .bool := by
      unfold keyOk at hok
      rcases hD with ⟨rfl, kk, e⟩ | ⟨rfl, e⟩ | ⟨rfl, e⟩
      · cases hok
      · cases hok
      · cases e; rfl
    subst h1
    simp only [Option.some.injEq] at h; subst h
    rfl
  · cases h

theorem findE_sim {β : Inj} {kind : Nat} {D : TypeDesc} {k : AV} {K : Value} (hok : keyOk kind k = true) (hD : KeyOK kind (some D)) (hk : VR β k K) : ∀ (es : List (AV × AV × Nat)) (Es : List MapEntry) (i : Nat) r, ER β es Es → findE k es i = some r →
    ∃ R, Instr.findNow D K Es i = some R ∧ (r = none → R = none) ∧ (∀ j v born, r = some (j, v, born) → ∃ V, R = some (j, V) ∧ VR β v V ∧ i ≤ j ∧ ∃ e, es[j - i]? = some e ∧ keyEq k e.1 = some true ∧ e.2.1 = v ∧ e.2.2 = born)
  | [], Es, i, r, h, hf => by
    have : Es = [] := h; subst this
    simp only [findE, Option.some.injEq] at hf; subst hf
    exact ⟨none, rfl, fun _ => rfl, fun j v born e => by cases e⟩
  | e :: es, _, i, r, h, hf => by
    obtain ⟨E, Es', h1, h2, h3, h4, rfl⟩ := h
    simp only [findE] at hf
    split at hf
    · rename_i hq
      cases hf
      refine ⟨some (i, E.val), by simp [Instr.findNow, keyEq_sim hok hD hq hk h1], (fun e0 => by cases e0), fun j v born e' => ?_⟩
      cases e'
      exact ⟨E.val, rfl, h2, Nat.le_refl _, e, by simp, hq, rfl, rfl⟩
    · rename_i hq
      obtain ⟨R, r1, r2, r3⟩ := findE_sim hok hD hk es Es' (i + 1) r h4 hf
      refine ⟨R, by simp [Instr.findNow, keyEq_sim hok hD hq hk h1, r1], r2, fun j v born e' => ?_⟩
      obtain ⟨V, s1, s2, s3, x, s4, s5⟩ := r3 j v born e'
      refine ⟨V, s1, s2, by omega, x, ?_, s5⟩
      rw [show j - i = (j - (i + 1)) + 1 from by omega]
      simpa using s4
    · cases hf

theorem run_checkKey {β : Inj} {kind : Nat} {t : TypeId} {D : TypeDesc} (w : World) (empty : Bool) (n : Nat) {k : AV} {K : Value} (hok : keyOk kind k = true) (hD : KeyOK kind (some D)) (hu : P.underlying t = some D) (hk : VR β k K) :
    (Instr.checkKey empty (n + 1) t K).run P w = .ok () w := by
  unfold keyOk at hok
  rcases hD with ⟨rfl, kk, e⟩ | ⟨rfl, e⟩ | ⟨rfl, e⟩ <;> cases e
  · cases k <;> simp only [Bool.false_eq_true] at hok
    simp only [VR] at hk; subst hk
    simp [Instr.checkKey, run_und w hu]
  · cases k <;> simp only [Bool.false_eq_true] at hok
    simp only [VR] at hk; subst hk
    simp [Instr.checkKey, run_und w hu]
  · cases k <;> simp only [Bool.false_eq_true] at hok
    simp only [VR] at hk; subst hk
    simp [Instr.checkKey, run_und w hu]

theorem run_findKey {t : TypeId} {D : TypeDesc} {K : Value} {Es : List MapEntry} {R : Option (Nat × Value)} (w : World) (hu : P.underlying t = some D) (h : Instr.findNow D K Es 0 = some R) : (Instr.findKey t K Es).run P w = .ok R w := by
  simp [Instr.findKey, run_und w hu, h]

theorem keyDesc {kind : Nat} {t : TypeId} (h : KeyOK kind (P.underlying t)) : ∃ D, P.underlying t = some D ∧ KeyOK kind (some D) := by
  rcases h with ⟨a, k, e⟩ | ⟨a, e⟩ | ⟨a, e⟩ <;> exact ⟨_, e, by rw [← e]; first | exact .inl ⟨a, k, e⟩ | exact .inr (.inl ⟨a, e⟩) | exact .inr (.inr ⟨a, e⟩)⟩

theorem alookup_sim {w0 : World} {β : Inj} {h : AHeap} {w : World} (hT : TabOK P T) (hw : WR w0 β h w) {t : Nat} {x k v : AV} {X K : Value} {ok : Bool} (ha : alookup T h t x k ok = some v) (hx : VR β x X) (hk : VR β k K) :
    ∃ V, (Instr.lookup t X K ok).run P w = .ok V w ∧ VR β v V := by
  unfold alookup at ha
  split at ha
  · rename_i kind e _ _ _ _ ht
    obtain ⟨key, hkey, hKO⟩ := (hT t _ ht).desc
    obtain ⟨D, hD, hKD⟩ := keyDesc hKO
    cases hok : keyOk kind k with
    | false => rw [hok] at ha; cases ha
    | true =>
      rw [hok] at ha
      simp only [cond_true] at ha
      split at ha
      · rename_i te he
        obtain ⟨z, z1, z2⟩ := (hT e _ he).run_zero w β
        have fin : ∀ (v' : AV) (V' : Value) (b : Bool), VR β v' V' → VR β (bif ok then .tuple [v', .bool b] else v') (if ok = true then .tuple #[V', .bool b] else V') := by
          intro v' V' b hv'
          cases ok
          · simpa using hv'
          · simp only [cond_true, if_true, VR]
            exact ⟨[V', .bool b], VRL.cons hv' (VRL.cons (by simp [VR]) VRL.nil), rfl⟩
        have ck := fun (em : Bool) => run_checkKey (P := P) (t := key) w em 9999 hok hKD hD hk
        split at ha
        · simp only [Option.some.injEq] at ha; subst ha
          simp only [VR] at hx; subst hx
          have hfk : (Instr.findKey key K []).run P w = .ok none w := run_findKey w hD rfl
          refine ⟨_, ?_, fin te.zero z false z2⟩
          simp only [Instr.lookup, Sem.run_bind, run_und w hkey, Result.andThen_ok, Sem.run_pure]
          rw [ck]
          simp only [Result.andThen_ok, hfk, Sem.run_bind, z1, Sem.run_pure]
        · rename_i o
          simp only [VR] at hx; obtain ⟨L, hL, rfl⟩ := hx
          split at ha
          · rename_i es clock ho
            obtain ⟨Es, e1, e2, _⟩ := hw.obj _ _ L ho hL
            have hgo : (getObj L.b).run P w = .ok (.map Es clock) w := by simp [getObj, Sem.run, e1]
            split at ha
            · rename_i i v' born hf
              simp only [Option.some.injEq] at ha; subst ha
              obtain ⟨R, r1, _, r3⟩ := findE_sim hok hKD hk _ _ 0 _ e2 hf
              obtain ⟨V, rfl, s2, _⟩ := r3 _ _ _ rfl
              refine ⟨_, ?_, fin v' V true s2⟩
              simp only [Instr.lookup, Sem.run_bind, run_und w hkey, Result.andThen_ok, Sem.run_pure, hgo]
              rw [ck]
              simp only [Result.andThen_ok, run_findKey w hD r1, Sem.run_bind, Sem.run_pure]
            · rename_i hf
              simp only [Option.some.injEq] at ha; subst ha
              obtain ⟨R, r1, r2, _⟩ := findE_sim hok hKD hk _ _ 0 _ e2 hf
              have hR := r2 rfl
              subst hR
              refine ⟨_, ?_, fin te.zero z false z2⟩
              simp only [Instr.lookup, Sem.run_bind, run_und w hkey, Result.andThen_ok, Sem.run_pure, hgo]
              rw [ck]
              simp only [Result.andThen_ok, run_findKey w hD r1, Sem.run_bind, z1, Sem.run_pure]
            · cases ha
          · cases ha
        · cases ha
      · cases ha
  · cases ha

/-- A map's block is put anew. -/
theorem WR.putMap {w0 : World} {β : Inj} {h : AHeap} {w : World} (hw : WR w0 β h w) {o : Nat} {es es' : List (AV × AV × Nat)} {clock clock' : Nat} {L : Loc} {Es' : Array MapEntry} (ho : h.get o = some (.map es clock)) (hL : β o = some L)
    (hE : ER β es' Es'.toList) : (setObj L.b (.map Es' clock')).run P w = .ok () { w with heap := w.heap.setIfInBounds L.b (.map Es' clock') } ∧
      WR w0 β (h.put o (.map es' clock')) { w with heap := w.heap.setIfInBounds L.b (.map Es' clock') } ∧ Goes β h β (h.put o (.map es' clock')) := by
  obtain ⟨Es, e1, e2, e3⟩ := hw.obj _ _ L ho hL
  have hlt : L.b < w.heap.size := (hw.obj _ _ L ho hL).lt (by simp)
  refine ⟨by simp [setObj, Sem.run, e1], hw.turn ho rfl hL ⟨Es', by simp [hlt], hE, e3⟩ rfl rfl rfl (by simp) fun k hk => ?_⟩
  simp only [Array.getElem?_setIfInBounds]
  rw [if_neg (fun e => hk e.symm)]

theorem keyThatStays_sim {β : Inj} {k j : AV} {K J : Value} (w : World) (h : keyEq k j = some true) (hk : VR β k K) (hj : VR β j J) : (Instr.keyThatStays J K).run P w = .ok K w := by
  have hs : Instr.sameBits 10000 J K = true := by
    unfold keyEq at h
    split at h
    · rename_i a x c y
      simp only [VR] at hk hj; subst hk hj
      by_cases hac : a = c
      · subst hac
        simp at h; subst h
        simp [Instr.sameBits]
      · simp [hac] at h
    · simp only [VR] at hk hj; subst hk hj
      simp at h; subst h
      simp only [Instr.sameBits]
      rw [beq_toListBytes]; simp
    · simp only [VR] at hk hj; subst hk hj
      simp at h; subst h
      simp [Instr.sameBits]
    · cases h
  simp [Instr.keyThatStays, hs]

theorem modify_set {α : Type} (A : Array α) (i : Nat) (f : α → α) (x : α) (h : A[i]? = some x) : (A.modify i f).toList = A.toList.set i (f x) := by
  apply List.ext_getElem?
  intro j
  rw [Array.getElem?_toList, Array.getElem?_modify, List.getElem?_set, Array.getElem?_toList]
  by_cases hij : i = j
  · subst hij
    have hlt : i < A.size := by
      rcases Nat.lt_or_ge i A.size with hh | hh
      · exact hh
      · rw [Array.getElem?_eq_none hh] at h; cases h
    have hA : A[i] = x := by rw [Array.getElem?_eq_getElem hlt] at h; exact Option.some.inj h
    simp [hlt, hA]
  · simp [hij]

theorem amapUpdate_sim {w0 : World} {β : Inj} {h h' : AHeap} {w : World} (hT : TabOK P T) (hw : WR w0 β h w) {t : Nat} {m k v : AV} {M K V : Value} (ha : amapUpdate T h t m k v = some h') (hm : VR β m M) (hk : VR β k K) (hv : VR β v V) :
    ∃ w', (Instr.mapUpdate t M K V).run P w = .ok () w' ∧ WR w0 β h' w' ∧ Goes β h β h' := by
  unfold amapUpdate at ha
  split at ha
  · rename_i kind e _ _ _ _ o ht
    obtain ⟨key, hkey, hKO⟩ := (hT t _ ht).desc
    obtain ⟨D, hD, hKD⟩ := keyDesc hKO
    cases hok : keyOk kind k with
    | false => rw [hok] at ha; cases ha
    | true =>
      rw [hok] at ha
      simp only [cond_true] at ha
      have ck := fun (em : Bool) => run_checkKey (P := P) (t := key) w em 9999 hok hKD hD hk
      simp only [VR] at hm; obtain ⟨L, hL, rfl⟩ := hm
      split at ha
      · rename_i es clock ho
        obtain ⟨Es, e1, e2, _⟩ := hw.obj _ _ L ho hL
        have hgo : (getObj L.b).run P w = .ok (.map Es clock) w := by simp [getObj, Sem.run, e1]
        split at ha
        · rename_i i v' born hf
          cases ha
          obtain ⟨R, r1, _, r3⟩ := findE_sim hok hKD hk _ _ 0 _ e2 hf
          obtain ⟨V', rfl, s2, _, x, s4, s5, s6, s7⟩ := r3 _ _ _ rfl
          rw [Nat.sub_zero] at s4
          obtain ⟨X, x1, x2, x3, x4⟩ := e2.get _ _ s4
          have x1' : Es[i]? = some X := by simpa using x1
          have hES : ER β (setEntry es i k v born) (Es.modify i fun e => { e with key := K, val := V }).toList := by
            rw [modify_set Es i _ X x1']
            exact e2.set i hk hv (x4.trans s7)
          obtain ⟨q1, q2, q3⟩ := hw.putMap (P := P) (clock' := clock) ho hL hES
          refine ⟨_, ?_, q2, q3⟩
          simp only [Instr.mapUpdate, Sem.run_bind, run_und w hkey, Result.andThen_ok, hgo]
          rw [ck]
          simp only [Result.andThen_ok, run_findKey w hD r1, Sem.run_bind, x1', Option.map_some, Option.getD_some, keyThatStays_sim w s5 hk x2]
          exact q1
        · rename_i hf
          cases ha
          obtain ⟨R, r1, r2, _⟩ := findE_sim hok hKD hk _ _ 0 _ e2 hf
          have hR := r2 rfl
          subst hR
          have hES : ER β (es ++ [(k, v, clock)]) (Es.push { key := K, val := V, born := clock }).toList := by
            rw [Array.toList_push]
            exact e2.snoc hk hv rfl
          obtain ⟨q1, q2, q3⟩ := hw.putMap (P := P) (clock' := clock + 1) ho hL hES
          refine ⟨_, ?_, q2, q3⟩
          simp only [Instr.mapUpdate, Sem.run_bind, run_und w hkey, Result.andThen_ok, hgo]
          rw [ck]
          simp only [Result.andThen_ok, run_findKey w hD r1]
          exact q1
        · cases ha
      · cases ha
  · cases ha

theorem adelete_sim {w0 : World} {β : Inj} {h h' : AHeap} {w : World} (hT : TabOK P T) (hw : WR w0 β h w) {t : Nat} {m k : AV} {M K : Value} (rest : List TypeId) (ty : TypeId) (ha : adelete T h t m k = some h') (hm : VR β m M) (hk : VR β k K) :
    ∃ w', (Builtin.delete_ (t :: rest).toArray ty #[M, K]).run P w = .ok (.tuple #[]) w' ∧ WR w0 β h' w' ∧ Goes β h β h' := by
  unfold adelete at ha
  split at ha
  · rename_i kind e _ _ _ _ o ht
    obtain ⟨key, hkey, hKO⟩ := (hT t _ ht).desc
    obtain ⟨D, hD, hKD⟩ := keyDesc hKO
    cases hok : keyOk kind k with
    | false => rw [hok] at ha; cases ha
    | true =>
      rw [hok] at ha
      simp only [cond_true] at ha
      have ck := fun (em : Bool) => run_checkKey (P := P) (t := key) w em 9999 hok hKD hD hk
      simp only [VR] at hm; obtain ⟨L, hL, rfl⟩ := hm
      split at ha
      · rename_i es clock ho
        obtain ⟨Es, e1, e2, _⟩ := hw.obj _ _ L ho hL
        have hgo : (getObj L.b).run P w = .ok (.map Es clock) w := by simp [getObj, Sem.run, e1]
        split at ha
        · rename_i i v' born hf
          cases ha
          obtain ⟨R, r1, _, r3⟩ := findE_sim hok hKD hk _ _ 0 _ e2 hf
          obtain ⟨V', rfl, s2, _, x, s4, s5, s6, s7⟩ := r3 _ _ _ rfl
          rw [Nat.sub_zero] at s4
          obtain ⟨X, x1, x2, x3, x4⟩ := e2.get _ _ s4
          have hES : ER β (es.eraseIdx i) (Es.eraseIdxIfInBounds i).toList := by
            have : (Es.eraseIdxIfInBounds i).toList = Es.toList.eraseIdx i := by
              simp
            rw [this]
            exact e2.erase i
          obtain ⟨q1, q2, q3⟩ := hw.putMap (P := P) (clock' := clock) ho hL hES
          refine ⟨_, ?_, q2, q3⟩
          simp only [Builtin.delete_, Sem.run_bind, List.getElem?_toArray, List.getElem?_cons_zero, List.getElem?_cons_succ, run_und w hkey, Result.andThen_ok, hgo]
          rw [ck]
          simp only [Result.andThen_ok, run_findKey w hD r1, Sem.run_bind, q1, Sem.run_pure]
        · rename_i hf
          cases ha
          obtain ⟨R, r1, r2, _⟩ := findE_sim hok hKD hk _ _ 0 _ e2 hf
          have hR := r2 rfl
          subst hR
          obtain ⟨q1, q2, q3⟩ := hw.putMap (P := P) (clock' := clock) ho hL e2
          refine ⟨_, ?_, q2, q3⟩
          simp only [Builtin.delete_, Sem.run_bind, List.getElem?_toArray, List.getElem?_cons_zero, List.getElem?_cons_succ, run_und w hkey, Result.andThen_ok, hgo]
          rw [ck]
          simp only [Result.andThen_ok, run_findKey w hD r1, Sem.run_bind, q1, Sem.run_pure]
        · cases ha
      · cases ha
  · cases ha

theorem tuple2 {β : Inj} {x y : AV} {X Y : Value} (hx : VR β x X) (hy : VR β y Y) : VR β (.tuple [x, y]) (.tuple #[X, Y]) := by
  simp only [VR]
  exact ⟨[X, Y], VRL.cons hx (VRL.cons hy VRL.nil), rfl⟩

theorem amapEntry_sim {w0 : World} {β : Inj} {h h' : AHeap} {w : World} (hT : TabOK P T) (hw : WR w0 β h w) {t : Nat} {m k : AV} {v : AV} {M K : Value} (ha : amapEntry T h t m k = some (v, h')) (hm : VR β m M) (hk : VR β k K) :
    SimV P w0 β h w (Instr.mapEntry t M K) (some v) h' := by
  unfold amapEntry at ha
  split at ha
  · rename_i kind e _ _ _ _ o ht
    obtain ⟨key, hkey, hKO⟩ := (hT t _ ht).desc
    obtain ⟨D, hD, hKD⟩ := keyDesc hKO
    cases hok : keyOk kind k with
    | false => rw [hok] at ha; cases ha
    | true =>
      rw [hok] at ha
      simp only [cond_true] at ha
      have ck := fun (em : Bool) => run_checkKey (P := P) (t := key) w em 9999 hok hKD hD hk
      simp only [VR] at hm; obtain ⟨L, hL, rfl⟩ := hm
      split at ha
      · rename_i es clock te ho he
        obtain ⟨z, z1, z2⟩ := (hT e _ he).run_zero w β
        obtain ⟨Es, e1, e2, _⟩ := hw.obj _ _ L ho hL
        have hgo : (getObj L.b).run P w = .ok (.map Es clock) w := by simp [getObj, Sem.run, e1]
        split at ha
        · rename_i i v' born hf
          cases ha
          obtain ⟨R, r1, _, r3⟩ := findE_sim hok hKD hk _ _ 0 _ e2 hf
          obtain ⟨V', rfl, s2, _, x, s4, s5, s6, s7⟩ := r3 _ _ _ rfl
          rw [Nat.sub_zero] at s4
          obtain ⟨X, x1, x2, x3, x4⟩ := e2.get _ _ s4
          have x1' : Es[i]? = some X := by simpa using x1
          have hES : ER β (setEntry es i k v' born) (Es.modify i fun e => { e with key := K }).toList := by
            rw [modify_set Es i _ X x1']
            exact e2.set i hk (s6 ▸ x3) (x4.trans s7)
          obtain ⟨q1, q2, q3⟩ := hw.putMap (P := P) (clock' := clock) ho hL hES
          refine ⟨β, .tuple #[V', goInt X.born], _, ?_, fun y hy => by cases hy; exact tuple2 s2 (by rw [x4, s7]; exact goInt_sim _), q2, q3⟩
          simp only [Instr.mapEntry, Sem.run_bind, run_und w hkey, Result.andThen_ok, hgo]
          rw [ck]
          simp only [Result.andThen_ok, run_findKey w hD r1, Sem.run_bind, x1', Option.map_some, Option.getD_some, keyThatStays_sim w s5 hk x2, q1, Sem.run_pure]
        · rename_i hf
          cases ha
          obtain ⟨R, r1, r2, _⟩ := findE_sim hok hKD hk _ _ 0 _ e2 hf
          have hR := r2 rfl
          subst hR
          have hES : ER β (es ++ [(k, te.zero, clock)]) (Es.push { key := K, val := z, born := clock }).toList := by
            rw [Array.toList_push]
            exact e2.snoc hk z2 rfl
          obtain ⟨q1, q2, q3⟩ := hw.putMap (P := P) (clock' := clock + 1) ho hL hES
          refine ⟨β, .tuple #[z, goInt clock], _, ?_, fun y hy => by cases hy; exact tuple2 z2 (goInt_sim _), q2, q3⟩
          simp only [Instr.mapEntry, Sem.run_bind, run_und w hkey, Result.andThen_ok, hgo]
          rw [ck]
          simp only [Result.andThen_ok, run_findKey w hD r1, Sem.run_bind, z1, q1, Sem.run_pure]
        · cases ha
      · cases ha
  · cases ha

theorem findBorn_sim {β : Inj} {n : Int} : ∀ (es : List (AV × AV × Nat)) (Es : List MapEntry) (i j : Nat) (k : AV), ER β es Es → findBorn n es i = some (j, k) →
    ∃ d e, j = i + d ∧ es[d]? = some e ∧ Es.findIdx? (fun e => (e.born : Int) == n) = some d
  | [], _, _, _, _, _, h => by cases h
  | e :: es, _, i, j, k, hE, h => by
    obtain ⟨E, Es', h1, h2, h3, h4, rfl⟩ := hE
    simp only [findBorn] at h
    by_cases hb : (e.2.2 : Int) = n
    · simp only [hb, decide_true, cond_true, Option.some.injEq, Prod.mk.injEq] at h
      exact ⟨0, e, by omega, rfl, by simp [List.findIdx?_cons, h3, hb]⟩
    · simp only [hb, decide_false, cond_false] at h
      obtain ⟨d, e', r1, r2, r3⟩ := findBorn_sim es Es' (i + 1) j k h4 h
      exact ⟨d + 1, e', by omega, by simpa using r2, by simp [List.findIdx?_cons, h3, hb, r3]⟩

theorem aentryStore_sim {w0 : World} {β : Inj} {h h' : AHeap} {w : World} (hw : WR w0 β h w) (t : TypeId) {m s v : AV} {M S V : Value} (ha : aentryStore h m s v = some h') (hm : VR β m M) (hs : VR β s S) (hv : VR β v V) :
    ∃ w', (Instr.entryStore t M S V).run P w = .ok () w' ∧ WR w0 β h' w' ∧ Goes β h β h' := by
  unfold aentryStore at ha
  split at ha
  · rename_i o n
    simp only [VR] at hm hs
    obtain ⟨L, hL, rfl⟩ := hm
    subst hs
    split at ha
    · rename_i es clock ho
      obtain ⟨Es, e1, e2, _⟩ := hw.obj _ _ L ho hL
      have hgo : (getObj L.b).run P w = .ok (.map Es clock) w := by simp [getObj, Sem.run, e1]
      split at ha
      · rename_i i k hf
        obtain ⟨d, e', r1, r2, r3⟩ := findBorn_sim _ _ 0 i k e2 hf
        have hid : i = d := by omega
        subst hid
        split at ha
        · rename_i x hx
          cases ha
          obtain ⟨X, x1, x2, x3, x4⟩ := e2.get _ _ hx
          have x1' : Es[i]? = some X := by simpa using x1
          have r3' : Es.findIdx? (fun e => (e.born : Int) == n) = some i := by rcases Es with ⟨l⟩; simpa using r3
          have hk : VR β k X.key := by
            have : ∀ (es : List (AV × AV × Nat)) (i j : Nat) (k : AV), findBorn n es i = some (j, k) → ∃ e, es[j - i]? = some e ∧ e.1 = k ∧ i ≤ j := by
              intro es
              induction es with
              | nil => intro i j k h; cases h
              | cons e es ih =>
                intro i j k h
                simp only [findBorn] at h
                by_cases hb : (e.2.2 : Int) = n
                · simp only [hb, decide_true, cond_true, Option.some.injEq, Prod.mk.injEq] at h
                  exact ⟨e, by rw [← h.1]; simp, h.2, by omega⟩
                · simp only [hb, decide_false, cond_false] at h
                  obtain ⟨e', q1, q2, q3⟩ := ih (i + 1) j k h
                  exact ⟨e', by rw [show j - i = (j - (i + 1)) + 1 from by omega]; simpa using q1, q2, by omega⟩
            obtain ⟨e'', q1, q2, _⟩ := this es 0 i k hf
            rw [Nat.sub_zero, hx] at q1
            cases q1
            exact q2 ▸ x2
          have hES : ER β (setEntry es i k v x.2.2) (Es.modify i fun e => { e with val := V }).toList := by
            rw [modify_set Es i _ X x1']
            exact e2.set i hk hv x4
          obtain ⟨q1, q2, q3⟩ := hw.putMap (P := P) (clock' := clock) ho hL hES
          refine ⟨_, ?_, q2, q3⟩
          simp only [Instr.entryStore, Sem.run_bind, hgo, Result.andThen_ok, asInt, asIntOf, Sem.run_pure, r3', q1]
        · cases ha
      · cases ha
    · cases ha
  · cases ha

end
end Go.Am
