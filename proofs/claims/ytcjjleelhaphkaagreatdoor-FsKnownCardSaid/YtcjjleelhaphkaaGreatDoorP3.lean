/-
  slices.Sorted(maps.Keys(m)): that the model does what is told of it.
-/
import Derived.Test.YtcjjleelhaphkaaGreatDoorP2
import Derived.WideShapes
set_option linter.unusedVariables false
set_option linter.unusedSimpArgs false
namespace Go.Am
open Go.RowKit Go.Maps Go.Sort Go.MapKept Go.Proofs Go.WideShapes
open Go.WideElems (Fit rd rg rd_mk rg_of)

theorem bytesLess_lt : ∀ (x y : List UInt8), Op.bytesLess x y = decide (x < y)
  | x, [] => by cases x <;> simp [Op.bytesLess]
  | [], b :: y => by simp [Op.bytesLess]
  | a :: x, b :: y => by
    simp only [Op.bytesLess, bytesLess_lt x y, List.cons_lt_cons_iff]
    by_cases h : a < b
    · simp [h]
    · by_cases e : a = b
      · subst e; simp
      · simp [h, e]

theorem insS_perm (s : List UInt8) : ∀ (l : List (List UInt8)), (insS s l).Perm (s :: l)
  | [] => .refl _
  | t :: l => by
    simp only [insS]
    cases Op.bytesLess t s with
    | true => exact (List.Perm.cons t (insS_perm s l)).trans (.swap s t l)
    | false => exact .refl _

theorem sortS_perm : ∀ (l : List (List UInt8)), (sortS l).Perm l
  | [] => .refl _
  | s :: l => (insS_perm s _).trans (.cons s (sortS_perm l))

theorem insS_sorted (s : List UInt8) : ∀ (l : List (List UInt8)), l.Pairwise (fun x y => x ≤ y) → (insS s l).Pairwise (fun x y => x ≤ y)
  | [], _ => by simp [insS]
  | t :: l, h => by
    simp only [insS]
    rw [List.pairwise_cons] at h
    cases e : Op.bytesLess t s with
    | true =>
      rw [bytesLess_lt, decide_eq_true_eq] at e
      simp only [List.pairwise_cons]
      refine ⟨fun y hy => ?_, insS_sorted s l h.2⟩
      rcases List.mem_cons.1 ((insS_perm s l).mem_iff.1 hy) with rfl | hy
      · exact List.le_of_lt e
      · exact h.1 y hy
    | false =>
      rw [bytesLess_lt, decide_eq_false_iff_not] at e
      have hle : s ≤ t := List.not_lt.1 e
      simp only [List.pairwise_cons]
      refine ⟨fun y hy => ?_, h.1, h.2⟩
      rcases List.mem_cons.1 hy with rfl | hy
      · exact hle
      · exact List.le_trans hle (h.1 y hy)

theorem sortS_sorted : ∀ (l : List (List UInt8)), (sortS l).Pairwise (fun x y => x ≤ y)
  | [] => .nil
  | s :: l => insS_sorted s _ (sortS_sorted l)

theorem sortS_eq {l ss : List (List UInt8)} (h : ss.Perm l) : ss.mergeSort (fun x y => decide (x ≤ y)) = sortS l := by
  have h1 : (ss.mergeSort (fun x y => decide (x ≤ y))).Pairwise (fun x y => x ≤ y) := by
    have := List.pairwise_mergeSort (le := fun x y : List UInt8 => decide (x ≤ y)) (fun a b c hab hbc => by
      simp only [decide_eq_true_eq] at *; exact List.le_trans hab hbc) (fun a b => by
      simp only [Bool.or_eq_true, decide_eq_true_eq]; exact List.le_total a b) ss
    exact this.imp fun h => by simpa using h
  exact List.Perm.eq_of_pairwise (fun a b _ _ hab hba => List.le_antisymm hab hba) h1 (sortS_sorted l) ((List.mergeSort_perm ss _).trans (h.trans (sortS_perm l).symm))

theorem keysOf_map : ∀ {es : List (AV × AV × Nat)} {ks : List (List UInt8)}, keysOf es = some ks → es.map (·.1) = ks.map .str
  | [], ks, h => by simp only [keysOf, Option.some.injEq] at h; subst h; rfl
  | (.str s, v, b) :: es, ks, h => by
    simp only [keysOf] at h
    split at h
    · rename_i ks' hk
      cases h
      simp [keysOf_map hk]
    · cases h
  | (.bool _, _, _) :: _, _, h | (.int _ _, _, _) :: _, _, h | (.nilptr, _, _) :: _, _, h | (.ptr _ _, _, _) :: _, _, h | (.nilslice, _, _) :: _, _, h | (.eslice, _, _) :: _, _, h | (.slice _ _ _ _, _, _) :: _, _, h
  | (.nilmap, _, _) :: _, _, h | (.map _, _, _) :: _, _, h | (.nilfunc, _, _) :: _, _, h | (.func _ _ _, _, _) :: _, _, h | (.yield _, _, _) :: _, _, h | (.agg _, _, _) :: _, _, h | (.tuple _, _, _) :: _, _, h => by cases h

theorem er_keys {β : Inj} : ∀ {es : List (AV × AV × Nat)} {Es : List MapEntry} {ks : List (List UInt8)}, ER β es Es → es.map (·.1) = ks.map .str → Es.map (·.key) = ks.map encStr ∧ Es.map (·.born) = es.map (·.2.2)
  | [], Es, ks, h, hk => by
    have : Es = [] := by simpa [ER] using h
    subst this
    cases ks with
    | nil => exact ⟨rfl, rfl⟩
    | cons => cases hk
  | e :: es, Es, ks, h, hk => by
    obtain ⟨E, Es', h1, h2, h3, h4, rfl⟩ := h
    cases ks with
    | nil => cases hk
    | cons s ks =>
      simp only [List.map_cons, List.cons.injEq] at hk
      obtain ⟨k1, k2⟩ := er_keys h4 hk.2
      rw [hk.1] at h1
      simp only [VR] at h1
      simp [h1, k1, k2, h3, encStr]

theorem stampB_spec {clock : Nat} : ∀ {es : List (AV × AV × Nat)}, stampB clock es = true → (∀ e ∈ es, e.2.2 < clock) ∧ (es.map (·.2.2)).Nodup ∧ es.Pairwise (fun a b => AV.beq b.1 a.1 = false)
  | [], _ => ⟨by simp, by simp, .nil⟩
  | (k, v, b) :: es, h => by
    simp only [stampB, Bool.and_eq_true, List.all_eq_true, Bool.not_eq_true'] at h
    obtain ⟨⟨h1, h2⟩, h3⟩ := h
    obtain ⟨a1, a2, a3⟩ := stampB_spec h3
    refine ⟨fun e he => ?_, ?_, ?_⟩
    · rcases List.mem_cons.1 he with rfl | he
      · simpa using h1
      · exact a1 e he
    · simp only [List.map_cons, List.nodup_cons]
      refine ⟨fun hm => ?_, a2⟩
      obtain ⟨e, he, e1⟩ := List.mem_map.1 hm
      have := (h2 e he).2
      rw [e1] at this
      simp at this
    · rw [List.pairwise_cons]
      exact ⟨fun e he => (h2 e he).1, a3⟩

structure SortedHyp (P : Program) (fs it k : Nat) : Prop where
  str : P.underlying k = some .string
  full : ∀ (b nn : Nat) (D0 : DataW Unit) (R : Value → Option (DataW Unit × List MemPlace)) (Bm : Nat) (W : World), Bm < W.heap.size → W.cell? ⟨Bm, 0, none⟩ = some (.map (some b)) → W.ownsMap P k R b nn D0 → Maps.size D0 ≤ maxLen → Maps.size D0 * 16 ≤ 140737488355328 →
    CallsIn Fence.wide 5 P fs #[.func (.func it) #[] #[.pointer (some ⟨Bm, 0, none⟩)]] W fun e w' => ∃ (v : Value) (ss : List (List UInt8)), e = .returned v ∧ ss.Perm (strKeys D0) ∧ w'.ownsRow W.heap.size k 1 v ss.length ((ss.mergeSort (fun x y => decide (x ≤ y))).map encStr) ∧ (v = .slice none 0 0 ↔ ss = []) ∧ Below W.heap.size W w'
  void : ∀ (Bm : Nat) (W : World), Bm < W.heap.size → W.cell? ⟨Bm, 0, none⟩ = some (.map none) →
    CallsIn Fence.wide 5 P fs #[.func (.func it) #[] #[.pointer (some ⟨Bm, 0, none⟩)]] W fun e w' => e = .returned (.slice none 0 0) ∧ Below W.heap.size W w'

theorem reads_of {P : Program} {k : Nat} (hk : P.underlying k = some .string) : ∀ {Es : List MapEntry} {ks : List (List UInt8)}, Es.map (·.key) = ks.map encStr → (∀ s ∈ ks, s.length ≤ maxLen) →
    (∀ x ∈ Es, ∃ y, rd P k (fun _ => some ((.nil : DataW Unit), [])) x = some y) ∧ Es.map (fun x => strOf (rg P k (fun _ => some ((.nil : DataW Unit), [])) x).1) = ks
  | [], ks, h, _ => by
    cases ks with
    | nil => exact ⟨by simp, rfl⟩
    | cons => cases h
  | E :: Es, [], h, _ => by cases h
  | E :: Es, s :: ks, h, hl => by
    simp only [List.map_cons, List.cons.injEq] at h
    obtain ⟨a1, a2⟩ := reads_of hk h.2 fun t ht => hl t (List.mem_cons_of_mem _ ht)
    have hs : (⟨s.toArray⟩ : ByteArray).size ≤ maxLen := by
      have := hl s List.mem_cons_self
      simpa [ByteArray.size] using this
    have hr : rd P k (fun _ => some ((.nil : DataW Unit), [])) E = some (.string s, .nil) := by
      obtain ⟨key, val, born⟩ := E
      simp only at h
      rw [h.1]
      have := rd_mk (P := P) (k := k) (R := fun _ => some ((.nil : DataW Unit), [])) (key := .string ⟨s.toArray⟩) (val := val) (born := born) (Go.WideMaps.keyOf_string_mk hk hs) rfl
      simpa using this
    refine ⟨fun x hx => ?_, ?_⟩
    · rcases List.mem_cons.1 hx with rfl | hx
      · exact ⟨_, hr⟩
      · exact a1 x hx
    · simp only [List.map_cons, rg_of hr]
      rw [a2]
      rfl

theorem foldr_insert_perm {H : Type} : ∀ (l : List (Lit × DataW H)), (l.foldr DataW.insert []).Perm l
  | [] => .refl _
  | x :: l => (insert_perm x _).trans (.cons x (foldr_insert_perm l))

theorem sortedP_ok {P : Program} {fs k : Nat} {iters : List Nat} (hent : ∃ fn c, P.funcs[fs]? = some fn ∧ fn.body = some c ∧ ¬ fn.name = "runtime.NumGoroutine") (K : ∀ it ∈ iters, SortedHyp P fs it k) : PrimOK P fs (sortedP iters) := by
  refine ⟨hent, fun E hE args h r h' he w0 β w vals hw hv => ?_⟩
  unfold sortedP at he
  split at he
  case h_2 => cases he
  rename_i f o
  cases hit : iters.contains f with
  | false => rw [hit] at he; cases he
  | true =>
  rw [hit] at he
  simp only [cond_true] at he
  have hK := K f (by simpa using hit)
  obtain ⟨V, Vs, v1, v2, rfl⟩ := hv.cons_inv
  have := v2.nil_inv; subst this
  simp only [VR] at v1
  obtain ⟨As, Cs, a1, a2, rfl⟩ := v1
  have := a1.nil_inv; subst this
  obtain ⟨C, Cs', c1, c2, rfl⟩ := a2.cons_inv
  have := c2.nil_inv; subst this
  simp only [VR] at c1
  obtain ⟨L, hL, rfl⟩ := c1
  have hrow : ∀ m, h.get o = some (.keys m) → L.off = 0 ∧ L.b < w.heap.size ∧ ∃ M, w.cell? ⟨L.b, 0, none⟩ = some M ∧ VR β m M := by
    intro m hm
    have hx := hw.obj _ _ L hm hL
    have hlt := hx.lt (by simp)
    obtain ⟨M, el, fz, x1, x2, x3, _⟩ := hx
    exact ⟨x3, hlt, M, by rw [cell_of x1]; rfl, x2⟩
  split at he
  · rename_i hm
    cases he
    obtain ⟨z1, z2, M, z3, z4⟩ := hrow _ hm
    simp only [VR] at z4; subst z4
    have := hK.void L.b w z2 z3
    rw [z1]
    refine callsIn_fw (this.mono ?_)
    rintro e w' ⟨rfl, hb⟩
    exact ⟨β, _, rfl, by simp [VR], hw.grown hb, Goes.refl _ _⟩
  · rename_i om hm
    obtain ⟨z1, z2, M, z3, z4⟩ := hrow _ hm
    simp only [VR] at z4
    obtain ⟨Lm, hLm, rfl⟩ := z4
    rw [z1]
    split at he
    case h_2 => cases he
    rename_i es clock hes
    obtain ⟨Es, e1, e2, e3⟩ := hw.obj _ _ Lm hes hLm
    -- whatever the keys
    have go : ∀ ks, keysOf es = some ks → stampB clock es = true → ks.length < 1000000000 → (∀ s ∈ ks, s.length < 1000000000000) →
        CallsIn (FW none) 0 P fs #[.func (.func f) #[] #[.pointer (some ⟨L.b, 0, none⟩)]] w fun e w' => ∃ (v : Value) (ss : List (List UInt8)), e = .returned v ∧ ss.Perm ks ∧ w'.ownsRow w.heap.size k 1 v ss.length ((sortS ks).map encStr) ∧ (v = .slice none 0 0 ↔ ss = []) ∧ Below w.heap.size w w' := by
      intro ks hks hst hlen hlens
      have hml : ∀ s ∈ ks, s.length ≤ maxLen := fun s hs => by
        have := hlens s hs
        unfold maxLen; omega
      obtain ⟨k1, k2⟩ := er_keys e2 (keysOf_map hks)
      obtain ⟨s1, s2, s3⟩ := stampB_spec hst
      obtain ⟨r1, r2⟩ := reads_of hK.str k1 hml
      have hsz : Es.size = ks.length := by
        have := congrArg List.length k1
        simpa using this
      have hnd : ks.Nodup := by
        have hp : (es.map (·.1)).Pairwise (fun a b => AV.beq b a = false) := List.pairwise_map.2 s3
        rw [keysOf_map hks, List.pairwise_map] at hp
        refine hp.imp fun {a b} hab e => ?_
        subst e
        simp [AV.beq] at hab
      have hF : Fit P k (fun _ => some ((.nil : DataW Unit), [])) Es clock := by
        refine ⟨by unfold maxLen; omega, ⟨fun x hx => ?_, by rw [k2]; exact s2, ?_⟩, r1⟩
        · have : x.born ∈ es.map (·.2.2) := by rw [← k2]; exact List.mem_map_of_mem hx
          obtain ⟨e, he, e'⟩ := List.mem_map.1 this
          rw [← e']; exact s1 e he
        · rw [k1]
          exact List.Pairwise.map _ (fun a b hab e => hab (encStr_inj e)) hnd
      have hown : w.ownsMap P k (fun _ => some ((.nil : DataW Unit), [])) Lm.b Es.size (.map ((Es.toList.map (rg P k (fun _ => some ((.nil : DataW Unit), [])))).foldr DataW.insert [])) := ⟨Es, clock, e1, hF, Nat.le_refl _, rfl⟩
      have hds : Maps.size (.map ((Es.toList.map (rg P k (fun _ => some ((.nil : DataW Unit), [])))).foldr DataW.insert [])) = ks.length := by
        show List.length _ = _
        rw [(foldr_insert_perm _).length_eq, List.length_map]
        have := congrArg List.length k1
        simpa using this
      have hkeys : (strKeys (.map ((Es.toList.map (rg P k (fun _ => some ((.nil : DataW Unit), [])))).foldr DataW.insert []))).Perm ks := by
        show (List.map (fun p : Lit × DataW Unit => strOf p.1) _).Perm ks
        refine ((foldr_insert_perm _).map _).trans ?_
        rw [List.map_map]
        have : List.map ((fun p : Lit × DataW Unit => strOf p.1) ∘ rg P k (fun _ => some ((.nil : DataW Unit), []))) Es.toList = ks := r2
        rw [this]
      refine callsIn_fw ((hK.full Lm.b Es.size _ _ L.b w z2 z3 hown (by rw [hds]; unfold maxLen; omega) (by rw [hds]; omega)).mono ?_)
      rintro e w' ⟨v, ss, rfl, hS, hrow, hnil, hb⟩
      refine ⟨v, ss, rfl, hS.trans hkeys, ?_, hnil, hb⟩
      rw [sortS_eq (hS.trans hkeys)] at hrow
      exact hrow
    split at he
    · rename_i hks
      cases he
      have hes0 : es = [] := by
        have := congrArg List.length (keysOf_map hks)
        exact List.eq_nil_of_length_eq_zero (by simpa using this)
      subst hes0
      refine (go [] hks rfl (by simp) (by simp)).mono ?_
      rintro e w' ⟨v, ss, rfl, hS, hrow, hnil, hb⟩
      have hss : ss = [] := hS.eq_nil
      rw [hnil.2 hss]
      exact ⟨β, _, rfl, by simp [VR], hw.grown hb, Goes.refl _ _⟩
    · rename_i k0 ks hks
      cases hc : stampB clock es && Nat.blt (k0 :: ks).length 1000000000 && (k0 :: ks).all (fun s => Nat.blt s.length 1000000000000) with
      | false => rw [hc] at he; cases he
      | true =>
        rw [hc] at he
        simp only [cond_true, Option.some.injEq, Prod.mk.injEq] at he
        obtain ⟨rfl, rfl⟩ := he
        simp only [Bool.and_eq_true, List.all_eq_true] at hc
        obtain ⟨⟨c1, c2⟩, c3⟩ := hc
        refine (go (k0 :: ks) hks c1 (by simpa using c2) (fun s hs => by simpa using c3 s hs)).mono ?_
        rintro e w' ⟨v, ss, rfl, hS, hrow, hnil, hb⟩
        have hlen : ss.length = (k0 :: ks).length := hS.length_eq
        rcases hrow.2 with ⟨_, hz⟩ | ⟨g, cap, cur, rfl, hbase, hg, q1, q2, q3, q4⟩
        · simp [hlen] at hz
        · rw [Nat.mul_one] at q3 q4
          have hB := hw.below.size
          obtain ⟨W1, G1⟩ := hw.fresh hb (x := .cells ((sortS (k0 :: ks)).map .str) true) (L := ⟨g, 0, cap⟩) hbase fun β' _ => by
            refine ⟨cur, k, (0, 0), hg, by simp [q3], ?_, fun i v hv => ?_, fun _ => ⟨Nat.le_trans hB hbase, ?_, fun j h1 h2 => by simp⟩, fun hh => by cases hh⟩
            · have := (sortS_perm (k0 :: ks)).length_eq
              simp only [List.length_map]
              omega
            · rw [List.getElem?_map, Option.map_eq_some_iff] at hv
              obtain ⟨s, hs, rfl⟩ := hv
              refine ⟨encStr s, ?_, by simp [VR]⟩
              have hi : i < ss.length := by
                have := (sortS_perm (k0 :: ks)).length_eq
                rcases Nat.lt_or_ge i (sortS (k0 :: ks)).length with hh | hh
                · omega
                · rw [List.getElem?_eq_none hh] at hs; cases hs
              have h2 : (cur.toList.take ss.length)[i]? = some (encStr s) := by rw [q4, List.getElem?_map, hs]; rfl
              rw [List.getElem?_take_of_lt hi] at h2
              simpa using h2
            · have : ∀ l : List (List UInt8), allOne (l.map .str) = true := fun l => by
                induction l with
                | nil => rfl
                | cons s l ih => simpa [allOne, AV.one] using ih
              exact this _
          refine ⟨_, _, rfl, ?_, W1, G1⟩
          simp only [VR]
          refine ⟨⟨g, 0, cap⟩, cap, Inj.with_self _ _ _, by rw [← hlen], by rw [← hlen]; exact q1, by simp⟩
    · cases he
  · cases he

end Go.Am
