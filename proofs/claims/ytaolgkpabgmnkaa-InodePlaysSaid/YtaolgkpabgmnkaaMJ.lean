/-
  InodeSound, the plain part: what is reached from the root, breadth first.
  InodeSound: the row of what is to do, and the map of links, in the heap.
  InodeSound: the names of one directory.
  InodeSound: what is reached, and whether all fits.
  InodeSound: the walk.
-/
import Derived.Test.YtaolgkpabgmnkaaMI

set_option linter.unusedVariables false
set_option linter.unusedSimpArgs false
namespace Go.Am
open Go Go.Proofs

def inoAt (tb : Tb) (d : Int) (s : Bs) : Int := match findT tb d s with | some i => i | none => 0
def kids (tb : Tb) (d : Int) : List Int := (namesT tb d).map (inoAt tb d)

section
variable {tb : Tb} {E : List Ed} {n : Nat}

theorem Inv.ents_nodup (a : Inv tb E) (d : Int) : ((entsE E d).map (·.1)).Nodup := by
  have : ∀ {E : List Ed}, OneE E → ((entsE E d).map (·.1)).Nodup := by
    intro E h
    induction E with
    | nil => simp [entsE]
    | cons e E ih =>
      have h := List.pairwise_cons.1 h
      simp only [entsE] at ih
      simp only [entsE, List.filter_cons]
      by_cases h1 : e.dir = d
      · simp only [h1, decide_true, if_true, List.map_cons, List.nodup_cons]
        refine ⟨fun hm => ?_, ih h.2⟩
        simp only [List.map_map, List.mem_map, List.mem_filter, decide_eq_true_eq] at hm
        obtain ⟨x, ⟨hx, hd⟩, hn⟩ := hm
        exact h.1 x hx ⟨h1.trans hd.symm, hn.symm⟩
      · simp only [h1, decide_false, Bool.false_eq_true, if_false]
        exact ih h.2
  exact this a.one

theorem map_getN {l : NE} (hn : (l.map (·.1)).Nodup) {f : Bs → Int} (hf : ∀ s i, getN s l = some i → f s = i) : (l.map (·.1)).map f = l.map (·.2) := by
  rw [List.map_map]
  refine List.map_congr_left fun e he => ?_
  exact hf e.1 e.2 (getN_mem hn (by cases e; exact he))

theorem kids_perm (a : Inv tb E) {d : Int} (hd : (tb.nodes d).isSome = true) : (kids tb d).Perm ((entsE E d).map (·.2)) := by
  obtain ⟨nd, hnd⟩ := Option.isSome_iff_exists.1 hd
  have he := a.ents d nd hnd
  have h1 : namesT tb d = sortS ((entsE E d).map (·.1)) := by simp only [namesT, hnd, he]
  have h2 := map_getN (f := inoAt tb d) (a.ents_nodup d) fun s i h => by
    simp only [inoAt, findT, hnd, he, h]
  unfold kids
  rw [h1, ← h2]
  exact (sortS_perm _).map _

theorem kids_count (a : Inv tb E) {d : Int} (hd : (tb.nodes d).isSome = true) (x : Int) : (kids tb d).count x = E.countP fun e => decide (e.dir = d) && decide (e.ino = x) := by
  rw [(kids_perm a hd).count_eq]
  clear a
  induction E with
  | nil => simp [entsE]
  | cons e E ih =>
    simp only [entsE, List.map_map] at ih
    simp only [entsE, List.filter_cons, List.countP_cons, List.map_map]
    by_cases h1 : e.dir = d
    · simp only [h1, decide_true, if_true, List.map_cons, Function.comp, List.count_cons, Bool.true_and]
      rw [← ih]
      by_cases h2 : e.ino = x <;> simp [h2]
    · simp only [h1, decide_false, Bool.false_eq_true, if_false, Bool.false_and, Nat.add_zero]
      exact ih

/-- From so many directories. -/
def cntD (E : List Ed) (D : List Int) (x : Int) : Nat := E.countP fun e => decide (e.dir ∈ D) && decide (e.ino = x)

theorem cntD_cons (E : List Ed) {d : Int} {D : List Int} (hd : d ∉ D) (x : Int) : cntD E (d :: D) x = (E.countP fun e => decide (e.dir = d) && decide (e.ino = x)) + cntD E D x := by
  unfold cntD
  induction E with
  | nil => rfl
  | cons e E ih =>
    simp only [List.countP_cons, ih]
    by_cases h1 : e.dir = d
    · have : e.dir ∉ D := by rw [h1]; exact hd
      have h3 : d ∉ D := hd
      simp only [h1, List.mem_cons, true_or, decide_true, Bool.true_and, h3, decide_false, Bool.false_and, Bool.false_eq_true, if_false]
      omega
    · simp only [List.mem_cons, h1, false_or, decide_false, Bool.false_and, Bool.false_eq_true, if_false]
      omega

theorem flat_count (a : Inv tb E) (x : Int) : ∀ {D : List Int}, D.Nodup → (∀ d ∈ D, (tb.nodes d).isSome = true) → (D.flatMap (kids tb)).count x = cntD E D x
  | [], _, _ => by simp [cntD]
  | d :: D, hn, hs => by
    rw [List.nodup_cons] at hn
    rw [List.flatMap_cons, List.count_append, kids_count a (hs d List.mem_cons_self), cntD_cons E hn.1, flat_count a x hn.2 fun e he => hs e (List.mem_cons_of_mem _ he)]

theorem cntD_le (E : List Ed) (D : List Int) (x : Int) : cntD E D x ≤ cntE E x := by
  unfold cntD cntE
  refine List.countP_mono_left fun e _ h => ?_
  simp only [Bool.and_eq_true] at h
  exact h.2

theorem kid_mem (a : Inv tb E) {d x : Int} (h : x ∈ kids tb d) : ∃ s, (⟨d, s, x⟩ : Ed) ∈ E := by
  obtain ⟨s, hs, rfl⟩ := List.mem_map.1 h
  cases hnd : tb.nodes d with
  | none => simp only [namesT, hnd] at hs; cases hs
  | some nd =>
    simp only [namesT, hnd, mem_sortS1, a.ents d nd hnd] at hs
    obtain ⟨⟨s', i⟩, he, rfl⟩ := List.mem_map.1 hs
    have := getN_mem (a.ents_nodup d) he
    have hf : findT tb d s' = some i := by simp only [findT, hnd, a.ents d nd hnd]; exact this
    refine ⟨s', ?_⟩
    have h2 := (a.find.1 hf).1
    show (⟨d, s', inoAt tb d s'⟩ : Ed) ∈ E
    simp only [inoAt, hf]; exact h2

/-- Each name of a directory names something. -/
theorem name_find (a : Inv tb E) {d : Int} {s : Bs} (h : s ∈ namesT tb d) : findT tb d s = some (inoAt tb d s) := by
  cases hnd : tb.nodes d with
  | none => simp only [namesT, hnd] at h; cases h
  | some nd =>
    simp only [namesT, hnd, mem_sortS1, a.ents d nd hnd] at h
    obtain ⟨⟨s', i⟩, he, rfl⟩ := List.mem_map.1 h
    have := getN_mem (a.ents_nodup d) he
    have hf : findT tb d s' = some i := by simp only [findT, hnd, a.ents d nd hnd]; exact this
    show findT tb d s' = some (inoAt tb d s')
    simp only [inoAt, hf]

theorem kid_facts (a : Inv tb E) {d x : Int} (h : x ∈ kids tb d) : x ≠ 1 ∧ ∃ cn, tb.nodes x = some cn ∧ (cn.kind = 2 → cn.up = d) := by
  obtain ⟨s, hs⟩ := kid_mem a h
  exact a.ino _ hs

/-- Breadth first: T: what is to do, M: what was named so far. -/
structure BI (tb : Tb) (T M : List Int) : Prop where
  nd : T.Nodup
  root : 1 ∈ T
  mem : ∀ x, x ∈ T ↔ x = 1 ∨ x ∈ M
  there : ∀ x ∈ T, (tb.nodes x).isSome = true

theorem BI.start (a : Inv tb E) : BI tb [1] [] := by
  obtain ⟨r, q1, _⟩ := a.root
  exact ⟨by simp, by simp, by simp, fun x hx => by rw [List.mem_singleton.1 hx, q1]; rfl⟩

variable {T M : List Int}

theorem BI.new (b : BI tb T M) {x : Int} (h1 : x ≠ 1) (h2 : (tb.nodes x).isSome = true) (h3 : M.count x = 0) : BI tb (T ++ [x]) (M ++ [x]) where
  nd := by
    rw [List.nodup_append]
    refine ⟨b.nd, by simp, fun y hy z hz e => ?_⟩
    rw [List.mem_singleton.1 hz] at e
    rw [e] at hy
    rcases (b.mem x).1 hy with h | h
    · exact h1 h
    · exact (List.count_eq_zero.1 h3) h
  root := List.mem_append_left _ b.root
  mem y := by
    rw [List.mem_append, List.mem_append, b.mem]
    exact or_assoc
  there y hy := by
    rcases List.mem_append.1 hy with hy | hy
    · exact b.there y hy
    · rw [List.mem_singleton.1 hy]; exact h2

theorem BI.old (b : BI tb T M) {x : Int} (h3 : M.count x ≠ 0) : BI tb T (M ++ [x]) where
  nd := b.nd
  root := b.root
  mem y := by
    rw [b.mem, List.mem_append]
    constructor
    · rintro (h | h)
      · exact .inl h
      · exact .inr (.inl h)
    · rintro (h | h | h)
      · exact .inl h
      · exact .inr h
      · rw [List.mem_singleton.1 h]
        right
        exact List.count_pos_iff.1 (by omega)
  there := b.there

theorem BI.len (b : BI tb T M) (a : St tb E n) : T.length ≤ n + 1 := by
  have h1 := nodup_range (m := tb.last.toNat) b.nd fun x hx => by
    obtain ⟨nd, hnd⟩ := Option.isSome_iff_exists.1 (b.there x hx)
    have := a.inv.range x nd hnd
    omega
  have := a.last
  omega

/-- No more is named than there is. -/
theorem BI.bound (b : BI tb T M) (a : Inv tb E) {k j : Nat} {d x : Int} (hd : T[k]? = some d) (hx : (kids tb d)[j]? = some x) (hM : M = (T.take k).flatMap (kids tb) ++ (kids tb d).take j) : M.count x + 1 ≤ cntE E x := by
  have e1 : (T.take (k + 1)) = T.take k ++ [d] := by rw [List.take_add_one, hd]; rfl
  have e2 : ((kids tb d).take (j + 1)) = (kids tb d).take j ++ [x] := by rw [List.take_add_one, hx]; rfl
  have h2 : (M ++ [x]).count x ≤ ((T.take (k + 1)).flatMap (kids tb)).count x := by
    rw [e1, List.flatMap_append, hM, List.append_assoc, ← e2, List.count_append, List.count_append]
    have : ((kids tb d).take (j + 1)).count x ≤ (kids tb d).count x := (List.take_sublist _ _).count_le _
    simp only [List.flatMap_cons, List.flatMap_nil, List.append_nil]
    omega
  rw [flat_count a x (b.nd.sublist (List.take_sublist _ _)) fun e he => b.there e (List.mem_of_mem_take he)] at h2
  have h3 := cntD_le E (T.take (k + 1)) x
  have h4 : (M ++ [x]).count x = M.count x + 1 := by rw [List.count_append]; simp
  omega

/-- What was named twice is a file. -/
theorem BI.twice (b : BI tb T M) (a : Inv tb E) {k j : Nat} {d x : Int} (hd : T[k]? = some d) (hx : (kids tb d)[j]? = some x) (hM : M = (T.take k).flatMap (kids tb) ++ (kids tb d).take j) (hc : M.count x ≠ 0) {nd : Nd} (hn : tb.nodes x = some nd) (h1 : x ≠ 1) : nd.kind = 1 := by
  have h2 := b.bound a hd hx hM
  have h5 := a.links x nd hn h1
  by_cases h6 : nd.kind = 1
  · exact h6
  · have := h5.2.2 h6
    omega

/-- At the end all is reached. -/
theorem BI.all (b : BI tb T M) (a : Inv tb E) (hM : M = T.flatMap (kids tb)) {x : Int} (hx : (tb.nodes x).isSome = true) : x ∈ T := by
  have edge : ∀ {e : Ed}, e ∈ E → e.dir ∈ T → e.ino ∈ T := fun {e} he hd => by
    rw [b.mem]
    right
    rw [hM, List.mem_flatMap]
    refine ⟨e.dir, hd, ?_⟩
    rw [(kids_perm a (b.there _ hd)).mem_iff]
    simp only [entsE, List.map_map, List.mem_map, List.mem_filter, decide_eq_true_eq]
    exact ⟨e, ⟨he, rfl⟩, rfl⟩
  have dirs : ∀ {n : Nat} {k : Int}, Climb tb.nodes n k → k ∈ T := fun h => by
    induction h with
    | root => exact b.root
    | @up k n nd h1 h2 h3 h4 ih =>
      obtain ⟨e, q1, q2, q3⟩ := a.upEdge h2 h1
      rw [← q2]
      exact edge q1 (by rw [← q3 h3]; exact ih)
  by_cases h1 : x = 1
  · rw [h1]; exact b.root
  · obtain ⟨nd, hnd⟩ := Option.isSome_iff_exists.1 hx
    obtain ⟨e, q1, q2, _⟩ := a.upEdge hnd h1
    rw [← q2]
    obtain ⟨dn, q3, q4⟩ := a.dir e q1
    obtain ⟨m, hm⟩ := a.climb _ dn q3 q4
    exact edge q1 (dirs hm)

theorem BI.count (b : BI tb T M) (a : Inv tb E) (hM : M = T.flatMap (kids tb)) (x : Int) : M.count x = cntE E x := by
  rw [hM, flat_count a x b.nd b.there]
  unfold cntD cntE
  refine List.countP_congr fun e he => ?_
  obtain ⟨dn, q3, q4⟩ := a.dir e he
  have := b.all a hM (x := e.dir) (by rw [q3]; rfl)
  simp [this]

theorem BI.uses (b : BI tb T M) (a : St tb E n) (hM : M = T.flatMap (kids tb)) : tb.ui = T.length ∧ tb.ub = sumT tb.nodes T :=
  a.uses.any ⟨b.nd, fun x => ⟨b.there x, b.all a.inv hM⟩⟩

/-- A number that was not given. -/
theorem BI.links (b : BI tb T M) (a : Inv tb E) (hM : M = T.flatMap (kids tb)) {x : Int} (h1 : x ≠ 1) : (tb.nodes x).isSome = decide (0 < M.count x) ∧ ∀ nd, tb.nodes x = some nd → nd.links = M.count x := by
  rw [b.count a hM]
  cases hn : tb.nodes x with
  | none =>
    refine ⟨?_, fun nd h => by cases h⟩
    have : cntE E x = 0 := cntE_zero fun e he h => by
      obtain ⟨_, cn, q, _⟩ := a.ino e he
      rw [h, hn] at q; cases q
    simp [this]
  | some nd =>
    have := a.links x nd hn h1
    refine ⟨?_, fun nd' h => by cases h; exact this.1⟩
    have h2 := this.2.1
    simp only [Option.isSome_some]
    exact (decide_eq_true (by omega)).symm
end
end Go.Am

set_option linter.unusedVariables false
set_option linter.unusedSimpArgs false
namespace Go.Am
open Go Go.Proofs

theorem ty47 : tab.get 47 = some ⟨.slice 3, 1, 24, false, .nilslice⟩ := rfl
theorem ty46 : tab.get 46 = some ⟨.map 1 3, 1, 8, false, .nilmap⟩ := rfl

def setI (k : Int) (v : AV) (l : IE) : IE := l.map fun e => if e.1 = k then (k, v, e.2.2) else e

theorem setI_none {k : Int} {v : AV} : ∀ {l : IE}, k ∉ l.map (·.1) → setI k v l = l
  | [], _ => rfl
  | e :: l, h => by
    simp only [List.map_cons, List.mem_cons, not_or] at h
    have h1 : ¬ e.1 = k := fun q => h.1 q.symm
    have ih := setI_none (v := v) h.2
    simp only [setI] at ih
    simp only [setI, List.map_cons, if_neg h1, ih]

theorem findE_set (k : Int) (v : AV) : ∀ (l : IE) (i : Nat), (l.map (·.1)).Nodup → (getI k l).isSome = true → ∃ j v0 b, findE (.int .i64 k) (intE l) i = some (some (i + j, v0, b)) ∧ (intE l).set j (.int .i64 k, v, b) = intE (setI k v l)
  | [], _, _, h => by cases h
  | e :: l, i, hn, h => by
    simp only [List.map_cons, List.nodup_cons] at hn
    by_cases h1 : k = e.1
    · refine ⟨0, e.2.1, e.2.2, by simp [intE, findE, keyEq, h1], ?_⟩
      have : setI k v l = l := setI_none (by rw [h1]; exact hn.1)
      simp only [setI] at this
      simp only [setI, intE, List.map_cons, List.set_cons_zero, this, if_pos h1.symm]
    · have h2 : ¬ e.1 = k := fun q => h1 q.symm
      obtain ⟨j, v0, b, q1, q2⟩ := findE_set k v l (i + 1) hn.2 (by simpa [getI, h1] using h)
      refine ⟨j + 1, v0, b, ?_, ?_⟩
      · simp only [intE, List.map_cons, findE, keyEq, h1, decide_false, decide_true, cond_true]
        rw [show i + (j + 1) = i + 1 + j by omega]; exact q1
      · simp only [setI, intE] at q2
        simp only [setI, intE, List.map_cons, List.set_cons_succ, q2, if_neg h2]

theorem keys_setI (k : Int) (v : AV) (l : IE) : (setI k v l).map (·.1) = l.map (·.1) := by
  simp only [setI, List.map_map]
  refine List.map_congr_left fun e _ => ?_
  simp only [Function.comp]
  split
  · rename_i h; exact h.symm
  · rfl

theorem getI_setI {k x : Int} {v : AV} : ∀ {l : IE}, getI x (setI k v l) = if x = k then (getI k l).map fun _ => v else getI x l
  | [] => by simp [setI, getI]
  | e :: l => by
    have ih := getI_setI (k := k) (x := x) (v := v) (l := l)
    simp only [setI] at ih
    simp only [setI, List.map_cons, getI]
    by_cases h1 : e.1 = k
    · simp only [h1, if_true]
      by_cases h2 : x = k
      · simp [h2]
      · simp only [h2, if_false, ih]
    · simp only [h1, if_false]
      by_cases h2 : x = k
      · subst h2
        have h3 : ¬ x = e.1 := fun q => h1 q.symm
        simp only [h3, if_false, ih, if_true]
      · simp only [h2, if_false, ih]

theorem upd_int {T : Tab} {h : AHeap} {t el s b : Nat} {ag : Bool} {z : AV} {m : Nat} {l : IE} {clock : Nat} {key : Int} (ht : T.get t = some ⟨.map 1 el, s, b, ag, z⟩) (hm : h.get m = some (.map (intE l) clock)) (hn : (l.map (·.1)).Nodup) (v : AV) :
    ∃ l' clock', amapUpdate T h t (.map m) (.int .i64 key) v = some (h.put m (.map (intE l') clock')) ∧ (l'.map (·.1)).Nodup ∧ ∀ x, getI x l' = if x = key then some v else getI x l := by
  cases hg : getI key l with
  | none =>
    refine ⟨_, _, update_int ht hm hn hg v, ?_, fun x => ?_⟩
    · rw [List.map_append, List.nodup_append]
      refine ⟨hn, by simp, fun a ha b' hb e => ?_⟩
      have : b' = key := by simpa using hb
      rw [this] at e
      rw [e] at ha
      exact getI_none.1 hg ha
    · rw [getI_append]
      by_cases e : x = key
      · subst e; rw [hg]; simp [getI]
      · rw [if_neg e]
        cases getI x l with
        | none => simp [getI, e]
        | some _ => rfl
  | some w =>
    obtain ⟨j, v0, b', q1, q2⟩ := findE_set key v l 0 hn (by rw [hg]; rfl)
    refine ⟨setI key v l, clock, ?_, by rw [keys_setI]; exact hn, fun x => ?_⟩
    · simp only [amapUpdate, ht, keyOk, hm, q1, cond_true, Nat.zero_add, setEntry, q2]
    · rw [getI_setI, hg]; rfl

/-- The row of what is to do, the map of links, made behind B. -/
structure BF (B h : AHeap) (m : Nat) (v : AV) (T M : List Int) : Prop where
  ext : Ext B h
  own : Own B h v T.length 1 (T.map (AV.int .i64))
  map : ∃ l clock, h.get m = some (.map (intE l) clock) ∧ (l.map (·.1)).Nodup ∧ ∀ x, getI x l = if M.count x = 0 then none else some (.int .i64 ((M.count x : Nat) : Int))
  new : B.get m = none

section
variable {B h : AHeap} {m : Nat} {v : AV} {T M : List Int}

theorem BF.grow (a : BF B h m v T M) {h' : AHeap} (x : Ext h h') : BF B h' m v T M := by
  obtain ⟨l, c, q1, q2, q3⟩ := a.map
  exact ⟨a.ext.trans x, a.own.ext x, ⟨l, c, x.keep _ _ q1, q2, q3⟩, a.new⟩

theorem BF.wf (a : BF B h m v T M) : h.WF := a.ext.wf
theorem BF.len (a : BF B h m v T M) : alen tab h 47 v = some (.int .i64 (T.length : Int)) := a.own.row.len ty47
theorem BF.at (a : BF B h m v T M) {i : Nat} {x : Int} (hx : T[i]? = some x) : ∃ p, aindexAddr tab 47 v (.int .i64 (i : Int)) = some p ∧ ∀ h', Ext h h' → loadA tab h' 3 p = some (.int .i64 x) := by
  have hi := (List.getElem?_eq_some_iff.1 hx).1
  obtain ⟨o, off, ws, rw, e1, e2, e3, e4⟩ := a.own.row.at ty47 ty3 rfl hi (k := .i64)
  refine ⟨_, e1, fun h' xh => loadA_cell ty3 rfl (xh.keep _ _ e2) ?_⟩
  have := e4 0 (by omega)
  simpa [hx] using this

theorem BF.look (a : BF B h m v T M) (x : Int) : alookup tab h 46 (.map m) (.int .i64 x) false = some (.int .i64 ((M.count x : Nat) : Int)) := by
  obtain ⟨l, c, q1, q2, q3⟩ := a.map
  rw [lookup_int ty46 ty3 q1 q2, q3]
  by_cases h0 : M.count x = 0
  · rw [if_pos h0, h0]; rfl
  · rw [if_neg h0]

theorem BF.count (a : BF B h m v T M) (x : Int) : ∃ h', amapUpdate tab h 46 (.map m) (.int .i64 x) (.int .i64 ((M.count x + 1 : Nat) : Int)) = some h' ∧ BF B h' m v T (M ++ [x]) ∧ ∀ j y, h.get j = some y → (∀ es c, y ≠ .map es c) → h'.get j = some y := by
  obtain ⟨l, c, q1, q2, q3⟩ := a.map
  obtain ⟨l', c', p1, p2, p3⟩ := upd_int (T := tab) (key := x) ty46 q1 q2 (.int .i64 ((M.count x + 1 : Nat) : Int))
  refine ⟨_, p1, ⟨a.ext.put a.new q1 _, ?_, ⟨l', c', AHeap.get_put_self _ _ _, p2, fun y => ?_⟩, a.new⟩, fun j y hj hy => by rw [AHeap.get_put_ne _ _ (fun e => by rw [e, q1] at hj; cases hj; exact hy _ _ rfl)]; exact hj⟩
  · obtain ⟨o1, o2⟩ := a.own
    refine ⟨o1, ?_⟩
    rcases o2 with o2 | ⟨o, o2, o3, o4⟩
    · exact .inl o2
    · exact .inr ⟨o, o2, by rw [AHeap.get_put_ne _ _ (fun e => by rw [e, q1] at o3; cases o3)]; exact o3, o4⟩
  · rw [p3, List.count_append]
    by_cases e : y = x
    · subst e
      have h1 : [y].count y = 1 := by simp
      rw [if_pos rfl, h1, if_neg (by omega)]
    · have h1 : [x].count y = 0 := List.count_eq_zero.2 (by simpa using e)
      rw [if_neg e, h1, Nat.add_zero]
      exact q3 y

theorem BF.push (a : BF B h m v T M) (x : Int) (hn : T.length < 1000000) : ∃ y h1 v' h', abuildSlice tab h 47 1 [(0, .int .i64 x)] = some (y, h1) ∧ aappend tab h1 47 47 v y = some (v', h') ∧ BF B h' m v' (T ++ [x]) M ∧ (∀ j y, h.get j = some y → (∀ n e, v ≠ .slice j 0 n e) → h'.get j = some y) ∧ ∀ j, h.get j ≠ none → ∀ n e, v' ≠ .slice j 0 n e := by
  obtain ⟨y, h1, v', h', q1, q2, q3, q4, q5, q6⟩ := pushK (T := tab) (h0 := B) (x := .int .i64 x) (esz := 1) ty47 ty3 rfl rfl (by decide) (Nat.le_refl _) (by omega) a.own a.wf (fun j hj => by
    cases e : B.get j with
    | none => exact absurd e hj
    | some y => rw [a.ext.keep _ _ e]; simp) rfl rfl rfl (by omega)
  obtain ⟨l, c, p1, p2, p3⟩ := a.map
  refine ⟨y, h1, v', h', q1, q2, ⟨q4.ext a.ext, ?_, ⟨l, c, q5 m _ p1 fun n e hv => ?_, p2, p3⟩, a.new⟩, q5, q6⟩
  · have e1 : (T ++ [x]).length = T.length + 1 := by simp
    have e2 : (T ++ [x]).map (AV.int .i64) = T.map (AV.int .i64) ++ (AV.int .i64 x).cells := by simp [AV.cells]
    rw [e1, e2]; exact q3
  · obtain ⟨_, o2⟩ := a.own
    rcases o2 with ⟨o2, _⟩ | ⟨o, o2, o3, o4⟩
    · rw [o2] at hv; cases hv
    · rw [o2] at hv
      simp only [AV.slice.injEq] at hv
      rw [hv.1, p1] at o3; cases o3

theorem BF.start {h : AHeap} (hw : h.WF) (he : Ext B h) : ∃ m h1 v h2, newMapA h = some (.map m, h1) ∧ abuildSlice tab h1 47 1 [(0, .int .i64 1)] = some (v, h2) ∧ BF B h2 m v [1] [] := by
  have x1 : Ext h (h.add (.map [] 0)) := (Ext.refl hw).add _
  have g1 : (h.add (.map [] 0)).get h.next = some (.map (intE []) 0) := AHeap.get_add_self _ _
  have x2 := x1.add (.cells [.int .i64 1] true)
  have x3 : Ext (h.add (.map [] 0)) ((h.add (.map [] 0)).add (.cells [.int .i64 1] true)) := (Ext.refl x1.wf).add _
  refine ⟨h.next, h.add (.map [] 0), .slice (h.add (.map [] 0)).next 0 1 1, (h.add (.map [] 0)).add (.cells [.int .i64 1] true), rfl, rfl, he.trans x2, ⟨rfl, .inr ⟨_, rfl, AHeap.get_add_self _ _, (he.trans x1).new⟩⟩, ⟨[], 0, x3.keep _ _ g1, List.nodup_nil, fun x => by simp [getI]⟩, he.none hw.new⟩

/-- A row of names beside the row of what is to do. -/
structure NB (h : AHeap) (nv : AV) (names : List Bs) (v : AV) : Prop where
  row : SRow h nv names
  apart : ∀ o off n e n' e', nv = .slice o off n e → v ≠ .slice o 0 n' e'

theorem NB.of {h0 : AHeap} {nv : AV} {names : List Bs} (a : BF B h0 m v T M) (x : SOwn h0 h nv names) : NB h nv names v := by
  refine ⟨x.row, fun o off n e n' e' h1 h2 => ?_⟩
  rcases x.2 with ⟨q, _⟩ | ⟨o1, q, _, q2⟩
  · rw [q] at h1; cases h1
  · rw [q] at h1
    simp only [AV.slice.injEq] at h1
    rcases a.own.2 with ⟨p, _⟩ | ⟨o2, p, p1, _⟩
    · rw [p] at h2; cases h2
    · rw [p] at h2
      simp only [AV.slice.injEq] at h2
      rw [h1.1, ← h2.1, p1] at q2
      cases q2

theorem NB.grow {nv : AV} {names : List Bs} (a : NB h nv names v) {h' : AHeap} (x : Ext h h') : NB h' nv names v := ⟨a.row.ext x, a.apart⟩

theorem NB.put {nv : AV} {names : List Bs} (a : NB h nv names v) {h' : AHeap} (x : ∀ j y, h.get j = some y → (∀ es c, y ≠ .map es c) → h'.get j = some y) : NB h' nv names v :=
  ⟨Row.same a.row fun o off m' e y hv hy => x o y hy fun es c hyy => by
    obtain ⟨q1, q2⟩ := a.row
    rcases q2 with ⟨q, _⟩ | ⟨q, _⟩ | ⟨o2, off2, ws, rw, q, q3, _⟩
    · rw [q] at hv; cases hv
    · rw [q] at hv; cases hv
    · rw [q] at hv
      simp only [AV.slice.injEq] at hv
      rw [hv.1, hy, hyy] at q3
      exact absurd q3 (by simp), a.apart⟩

theorem NB.push {nv : AV} {names : List Bs} (a : NB h nv names v) {h' : AHeap} {v' : AV} (x : ∀ j y, h.get j = some y → (∀ n e, v ≠ .slice j 0 n e) → h'.get j = some y) (y : ∀ j, h.get j ≠ none → ∀ n e, v' ≠ .slice j 0 n e) : NB h' nv names v' :=
  ⟨Row.same a.row fun o off m' e z hv hz => x o z hz fun n' e' => a.apart o off m' e n' e' hv, fun o off n e n' e' hv => y o (a.row.there hv) n' e'⟩
end
end Go.Am

set_option linter.unusedVariables false
set_option linter.unusedSimpArgs false
namespace Go.Am
open Go Go.Proofs

section
variable {B : AHeap} {S : Nat → Prop} {o : Nat} {tb : Tb} {L : Lay} {E : List Ed} {n : Nat}

theorem rising_names (a : Inv tb E) (d : Int) : Rising (namesT tb d) := by
  cases hnd : tb.nodes d with
  | none => simp only [namesT, hnd]; exact List.Pairwise.nil
  | some nd =>
    simp only [namesT, hnd, a.ents d nd hnd]
    exact sortS_rising (a.ents_nodup d)

theorem sound_inner (tr : TR S B o tb L) (st : St tb E n) (hn : n ≤ 60) {h : AHeap} {m : Nat} {v nv : AV} {T M : List Int} {k : Nat} {d : Int} (a : BF B h m v T M) (b : BI tb T M) (hd : T[k]? = some d) (hM : M = (T.take k).flatMap (kids tb)) (hnv : NB h nv (namesT tb d) v)
    {w qc iV inV byV : AV} {N : Nat} (hN : 100 < N) {next83 : AV × AV × AV × AV × AV × AV × AV × AV × AV × Unit → List Nat → AHeap → Option (AV × AHeap)} {Q : Option (AV × AHeap) → Prop}
    (hq : ∀ {h' : AHeap} {v' : AV} {T' M' : List Int}, BF B h' m v' T' M' → BI tb T' M' → T'[k]? = some d → T'.take k = T.take k → M' = (T'.take (k + 1)).flatMap (kids tb) → Q (next83 (w, qc, .ptr o 0, iV, .map m, v', inV, byV, .int .i64 ((k + 1 : Nat) : Int), ()) [] h')) :
    Q (loopN (F4_b27 EG N next83) N (w, qc, .ptr o 0, iV, .map m, v, inV, byV, .int .i64 (k : Int), nv, .int .i64 0, ()) [] h) := by
  have hkl : (namesT tb d).length = (kids tb d).length := by simp only [kids, List.length_map]
  have hnl : (namesT tb d).length ≤ 60 := by
    cases hnd : tb.nodes d with
    | none => simp only [namesT, hnd]; simp
    | some nd =>
      simp only [namesT, hnd, sortS_length, List.length_map, st.inv.ents d nd hnd]
      have h1 : (entsE E d).length ≤ E.length := by simp only [entsE, List.length_map]; exact List.length_filter_le _ _
      have := st.len
      omega
  have hT : T.length ≤ 61 := by have := b.len st; omega
  refine loop_rule (σ := AV × AV × AV × AV × AV × AV × AV × AV × AV × AV × AV × Unit) (R := AV × AHeap) (total := (namesT tb d).length)
    (I := fun j s h => j ≤ (namesT tb d).length ∧ ∃ v : AV, ∃ T' M' : List Int, s = (w, qc, .ptr o 0, iV, .map m, v, inV, byV, .int .i64 (k : Int), nv, .int .i64 (j : Int), ()) ∧ BF B h m v T' M' ∧ BI tb T' M' ∧ T'[k]? = some d ∧ T'.take k = T.take k ∧ M' = (T'.take k).flatMap (kids tb) ++ (kids tb d).take j ∧ NB h nv (namesT tb d) v)
    (Q := Q) ?_ N 0 _ _ ⟨by omega, v, T, M, rfl, a, b, hd, rfl, by simpa using hM, hnv⟩ (by omega) (by omega)
  clear a b hnv hM hd hT
  rintro j s h nx ⟨hj, v, T', M', rfl, a, b, hd, htk, hM, hnv⟩
  have hk := (List.getElem?_eq_some_iff.1 hd).1
  have al := hnv.row.len ty30
  by_cases h1 : j < (namesT tb d).length
  · left
    refine ⟨h1, ?_⟩
    have c1 : decide ((j : Int) < ((namesT tb d).length : Int)) = true := ltT h1
    obtain ⟨p, e1, e2⟩ := a.at hd
    have e2a := e2 h (Ext.refl a.wf)
    obtain ⟨q, e3, e4⟩ := hnv.row.get1 ty30 ty9 rfl rfl (i := j) (x := .str (namesT tb d)[j]) (by rw [List.getElem?_map, List.getElem?_eq_getElem h1]; rfl) (k := .i64)
    have hs : (namesT tb d)[j] ∈ namesT tb d := List.getElem_mem h1
    have hf := name_find st.inv hs
    have hx : (kids tb d)[j]? = some (inoAt tb d (namesT tb d)[j]) := by
      unfold kids
      rw [List.getElem?_map, List.getElem?_eq_getElem h1]; rfl
    have e5 := find_run (tr.ext a.ext) d (namesT tb d)[j]
    rw [hf] at e5
    generalize hxx : inoAt tb d (namesT tb d)[j] = x at hf hx e5
    obtain ⟨x1, cn, hcn, hup⟩ := kid_facts st.inv (List.mem_of_getElem? hx)
    obtain ⟨h2, e6, y2⟩ := node_run (tr.ext a.ext) a.wf x
    have hv : nodeV tb x = .agg [.int .i64 cn.kind, .int .i64 cn.mode, .str cn.data, .int .i64 cn.links] := by simp only [nodeV, hcn]; rfl
    rw [hv, hcn] at e6
    obtain ⟨c, h3, h4, e7, e8, g4, y4⟩ := ino_cell y2.wf cn.kind cn.mode cn.links cn.data
    have Y4 := y2.trans y4
    have a4 := a.grow Y4
    have n4 := hnv.grow Y4
    have lk := a4.look x
    have inc := abin_inc (T := tab) (t := 3) (i := M'.count x) (by
      have := b.bound st.inv hd hx hM
      have := cntE_le E x
      have := st.len
      omega)
    obtain ⟨h5, e9, a5, k5⟩ := a4.count x
    have g5 := k5 _ _ g4 (fun es c' hh => by cases hh)
    have n5 := n4.put k5
    have lk5 := a5.look x
    have hc5 : (M' ++ [x]).count x = M'.count x + 1 := by rw [List.count_append]; simp
    rw [hc5] at lk5
    have inj := abin_inc (T := tab) (t := 3) (i := j) (by omega)
    have kd4 : loadA tab h4 3 (.ptr c 0) = some (.int .i64 cn.kind) := loadA_cell ty3 rfl g4 rfl
    have kd5 : loadA tab h5 3 (.ptr c 0) = some (.int .i64 cn.kind) := loadA_cell ty3 rfl g5 rfl
    have e2b := e2 h4 Y4
    have eu := up_run (tr.ext a4.ext) x
    have hu : cn.kind = 2 → upT tb x = d := fun h => by simp only [upT, hcn]; exact hup h
    -- what is compared with the name ahead
    have prev : 0 < j → ∃ q', aindexAddr tab 30 nv (.int .i64 ((j - 1 : Nat) : Int)) = some q' ∧ loadA tab h4 9 q' = some (.str (namesT tb d)[j - 1]) ∧ Op.bytesLess (namesT tb d)[j - 1] (namesT tb d)[j] = true := fun h0 => by
      obtain ⟨q', p1, p2⟩ := n4.row.get1 ty30 ty9 rfl rfl (i := j - 1) (x := .str (namesT tb d)[j - 1]) (by rw [List.getElem?_map, List.getElem?_eq_getElem (by omega)]; rfl) (k := .i64)
      refine ⟨q', p1, p2, ?_⟩
      exact List.pairwise_iff_getElem.1 (rising_names st.inv d) (j - 1) j (by omega) h1 (by omega)
    obtain ⟨q4, e3', e4'⟩ := n4.row.get1 ty30 ty9 rfl rfl (i := j) (x := .str (namesT tb d)[j]) (by rw [List.getElem?_map, List.getElem?_eq_getElem h1]; rfl) (k := .i64)
    rw [e3] at e3'
    cases e3'
    have hk2 : (kids tb d).take (j + 1) = (kids tb d).take j ++ [x] := by rw [List.take_add_one, hx]; rfl
    have fa35 : afieldAddr tab 35 (.ptr c 0) 0 = some (.ptr c 0) := rfl
    by_cases h0 : M'.count x = 0
    · obtain ⟨y, h6, v', h7, e10, e11, a7, k7, m7⟩ := a5.push x (by have := b.len st; omega)
      have n7 := n5.push k7 m7
      have b7 := b.new x1 (by rw [hcn]; rfl) h0
      refine ⟨(w, qc, .ptr o 0, iV, .map m, v', inV, byV, .int .i64 (k : Int), nv, .int .i64 ((j + 1 : Nat) : Int), ()), h7, ?_, by omega, v', _, _, rfl, a7, b7, ?_, ?_, ?_, n7⟩
      · have cc : decide (((M'.count x + 1 : Nat) : Int) = 1) = true := by rw [decide_eq_true_eq]; omega
        rcases Nat.eq_zero_or_pos j with hj0 | hj0
        · have c0 : decide ((0 : Int) < (j : Int)) = false := by rw [decide_eq_false_iff_not]; omega
          unfold F4_b27
          by_cases hk2 : cn.kind = 2
          · simp only [jn_a, al, valK_s, abin_lss, c1, boolK_t, e1, e2a, e3, e4, e5, bothK_s, extractA_0, extractA_1, intOf, e6, e7, e8, hpK_s, aun_not, Option.isSome_some, Bool.not_true, boolK_f, abin_gtr, skipK_b, c0, fa35, kd4, abin_eql, abin_neq, lk, inc, e9, lk5, kd5, cc, decide_eq_true hk2, e2b, eu, hu hk2, sameK_r, decide_true, e10, e11, inj]
          · simp only [jn_a, al, valK_s, abin_lss, c1, boolK_t, e1, e2a, e3, e4, e5, bothK_s, extractA_0, extractA_1, intOf, e6, e7, e8, hpK_s, aun_not, Option.isSome_some, Bool.not_true, boolK_f, abin_gtr, skipK_b, c0, fa35, kd4, abin_eql, abin_neq, lk, inc, e9, lk5, kd5, cc, decide_eq_false hk2, e10, e11, inj]
        · have c0 : decide ((0 : Int) < (j : Int)) = true := by rw [decide_eq_true_eq]; omega
          obtain ⟨q', p1, p2, p3⟩ := prev hj0
          have sub : abin tab .sub 3 (.int .i64 (j : Int)) (.int .i64 1) = some (.int .i64 ((j - 1 : Nat) : Int)) := by
            rw [abin_sub (by omega) (by omega)]
            congr 2; omega
          unfold F4_b27
          by_cases hk2 : cn.kind = 2
          · simp only [jn_a, al, valK_s, abin_lss, c1, boolK_t, e1, e2a, e3, e4, e5, bothK_s, extractA_0, extractA_1, intOf, e6, e7, e8, hpK_s, aun_not, Option.isSome_some, Bool.not_true, boolK_f, abin_gtr, skipK_b, c0, fa35, kd4, abin_eql, abin_neq, lk, inc, e9, lk5, kd5, cc, sub, p1, p2, e4', abin_strge, p3, decide_eq_true hk2, e2b, eu, hu hk2, sameK_r, decide_true, e10, e11, inj]
          · simp only [jn_a, al, valK_s, abin_lss, c1, boolK_t, e1, e2a, e3, e4, e5, bothK_s, extractA_0, extractA_1, intOf, e6, e7, e8, hpK_s, aun_not, Option.isSome_some, Bool.not_true, boolK_f, abin_gtr, skipK_b, c0, fa35, kd4, abin_eql, abin_neq, lk, inc, e9, lk5, kd5, cc, sub, p1, p2, e4', abin_strge, p3, decide_eq_false hk2, e10, e11, inj]
      · rw [List.getElem?_append_left hk]; exact hd
      · rw [List.take_append_of_le_length (by omega)]; exact htk
      · rw [List.take_append_of_le_length (by omega), hk2, hM, List.append_assoc]
    · refine ⟨(w, qc, .ptr o 0, iV, .map m, v, inV, byV, .int .i64 (k : Int), nv, .int .i64 ((j + 1 : Nat) : Int), ()), h5, ?_, by omega, v, _, _, rfl, a5, b.old h0, hd, htk, ?_, n5⟩
      · have cc : decide (((M'.count x + 1 : Nat) : Int) = 1) = false := by rw [decide_eq_false_iff_not]; omega
        have k1 := b.twice st.inv hd hx hM h0 hcn x1
        rcases Nat.eq_zero_or_pos j with hj0 | hj0
        · have c0 : decide ((0 : Int) < (j : Int)) = false := by rw [decide_eq_false_iff_not]; omega
          unfold F4_b27
          by_cases hk2 : cn.kind = 2
          · simp only [jn_a, al, valK_s, abin_lss, c1, boolK_t, e1, e2a, e3, e4, e5, bothK_s, extractA_0, extractA_1, intOf, e6, e7, e8, hpK_s, aun_not, Option.isSome_some, Bool.not_true, boolK_f, abin_gtr, skipK_b, c0, fa35, kd4, abin_eql, abin_neq, lk, inc, e9, lk5, kd5, cc, decide_eq_true hk2, e2b, eu, hu hk2, sameK_r, decide_true, decide_eq_true k1, inj]
          · simp only [jn_a, al, valK_s, abin_lss, c1, boolK_t, e1, e2a, e3, e4, e5, bothK_s, extractA_0, extractA_1, intOf, e6, e7, e8, hpK_s, aun_not, Option.isSome_some, Bool.not_true, boolK_f, abin_gtr, skipK_b, c0, fa35, kd4, abin_eql, abin_neq, lk, inc, e9, lk5, kd5, cc, decide_eq_false hk2, decide_eq_true k1, inj]
        · have c0 : decide ((0 : Int) < (j : Int)) = true := by rw [decide_eq_true_eq]; omega
          obtain ⟨q', p1, p2, p3⟩ := prev hj0
          have sub : abin tab .sub 3 (.int .i64 (j : Int)) (.int .i64 1) = some (.int .i64 ((j - 1 : Nat) : Int)) := by
            rw [abin_sub (by omega) (by omega)]
            congr 2; omega
          unfold F4_b27
          by_cases hk2 : cn.kind = 2
          · simp only [jn_a, al, valK_s, abin_lss, c1, boolK_t, e1, e2a, e3, e4, e5, bothK_s, extractA_0, extractA_1, intOf, e6, e7, e8, hpK_s, aun_not, Option.isSome_some, Bool.not_true, boolK_f, abin_gtr, skipK_b, c0, fa35, kd4, abin_eql, abin_neq, lk, inc, e9, lk5, kd5, cc, sub, p1, p2, e4', abin_strge, p3, decide_eq_true hk2, e2b, eu, hu hk2, sameK_r, decide_true, decide_eq_true k1, inj]
          · simp only [jn_a, al, valK_s, abin_lss, c1, boolK_t, e1, e2a, e3, e4, e5, bothK_s, extractA_0, extractA_1, intOf, e6, e7, e8, hpK_s, aun_not, Option.isSome_some, Bool.not_true, boolK_f, abin_gtr, skipK_b, c0, fa35, kd4, abin_eql, abin_neq, lk, inc, e9, lk5, kd5, cc, sub, p1, p2, e4', abin_strge, p3, decide_eq_false hk2, decide_eq_true k1, inj]
      · rw [hk2, hM, List.append_assoc]
  · right
    have hjn : j = (namesT tb d).length := by omega
    have c1 : decide ((j : Int) < ((namesT tb d).length : Int)) = false := ltF h1
    have inc := abin_inc (T := tab) (t := 3) (i := k) (by have := b.len st; omega)
    unfold F4_b27
    simp only [al, valK_s, abin_lss, c1, boolK_f, inc]
    refine hq a b hd htk ?_
    rw [hM, hjn, hkl, List.take_length, List.take_add_one, hd]
    simp
end
end Go.Am

set_option linter.unusedVariables false
set_option linter.unusedSimpArgs false
namespace Go.Am
open Go Go.Proofs

section
variable {B : AHeap} {S : Nat → Prop} {o : Nat} {tb : Tb} {L : Lay} {E : List Ed} {n : Nat}

theorem sumT_bound (st : St tb E n) : ∀ (K : List Int), sumT tb.nodes K ≤ K.length * 1073741824
  | [] => by simp [sumT]
  | k :: K => by
    have ih := sumT_bound st K
    have hk : lenT tb.nodes k ≤ 1073741824 := by
      unfold lenT
      split
      · rename_i nd h
        have := st.data h
        have := st.small.ub
        omega
      · omega
    simp only [sumT, List.map_cons, List.sum_cons, List.length_cons] at ih ⊢
    omega

theorem sound_outer (tr : TR S B o tb L) (st : St tb E n) (hn : n ≤ 60) {h : AHeap} {m : Nat} {v : AV} (a : BF B h m v [1] [])
    {w qc iV : AV} {N : Nat} (hN : 100 < N) {j42 : AV × AV × AV × AV × AV × AV × AV × Unit → List Nat → AHeap → Option (AV × AHeap)} {Q : Option (AV × AHeap) → Prop}
    (hq : ∀ {h' : AHeap} {v' : AV} {T M : List Int}, BF B h' m v' T M → BI tb T M → M = T.flatMap (kids tb) → Q (j42 (w, qc, .ptr o 0, iV, .map m, .int .i64 (T.length : Int), .int .i64 (sumT tb.nodes T : Nat), ()) [] h')) :
    Q (loopN (F4_b16 EG N j42) N (w, qc, .ptr o 0, iV, .map m, v, .int .i64 0, .int .i64 0, .int .i64 0, ()) [] h) := by
  refine loop_rule (σ := AV × AV × AV × AV × AV × AV × AV × AV × AV × Unit) (R := AV × AHeap) (total := 61)
    (I := fun k s h => ∃ v : AV, ∃ T M : List Int, s = (w, qc, .ptr o 0, iV, .map m, v, .int .i64 (k : Int), .int .i64 (sumT tb.nodes (T.take k) : Nat), .int .i64 (k : Int), ()) ∧ k ≤ T.length ∧ BF B h m v T M ∧ BI tb T M ∧ M = (T.take k).flatMap (kids tb))
    (Q := Q) ?_ N 0 _ _ ⟨v, [1], [], rfl, by simp, a, BI.start st.inv, rfl⟩ (by omega) (by omega)
  clear a
  rintro k s h nx ⟨v, T, M, rfl, hk, a, b, hM⟩
  have hTl : T.length ≤ 61 := by have := b.len st; omega
  by_cases h1 : k < T.length
  · left
    refine ⟨by omega, ?_⟩
    have c1 : decide ((k : Int) < (T.length : Int)) = true := ltT h1
    have c2 : decide ((k : Int) < 300) = true := by rw [decide_eq_true_eq]; omega
    have hd : T[k]? = some T[k] := List.getElem?_eq_getElem h1
    generalize T[k] = d at hd
    obtain ⟨p, e1, e2⟩ := a.at hd
    have e2a := e2 h (Ext.refl a.wf)
    obtain ⟨cn, hcn⟩ := Option.isSome_iff_exists.1 (b.there d (List.mem_of_getElem? hd))
    obtain ⟨h2, e6, y2⟩ := node_run (tr.ext a.ext) a.wf d
    have hv : nodeV tb d = .agg [.int .i64 cn.kind, .int .i64 cn.mode, .str cn.data, .int .i64 cn.links] := by simp only [nodeV, hcn]; rfl
    rw [hv, hcn] at e6
    obtain ⟨c, h3, h4, e7, e8, g4, y4⟩ := ino_cell y2.wf cn.kind cn.mode cn.links cn.data
    have Y4 := y2.trans y4
    have a4 := a.grow Y4
    obtain ⟨nv, h5, e9, n5, y5⟩ := names_own (tr.ext a4.ext) a4.wf d (st.run_names (by omega))
    have a5 := a4.grow y5
    have nb := NB.of a4 n5
    have g5 := y5.keep _ _ g4
    have al := nb.row.len ty30
    have e2b := e2 h4 Y4
    have inc := abin_inc (T := tab) (t := 3) (i := k) (by omega)
    have hs : sumT tb.nodes (T.take (k + 1)) = sumT tb.nodes (T.take k) + cn.data.length := by
      rw [List.take_add_one, hd]
      simp only [sumT, Option.toList_some, List.map_append, List.sum_append, List.map_cons, List.map_nil, List.sum_cons, List.sum_nil, Nat.add_zero, lenT, hcn]
    have hb := sumT_bound st (T.take (k + 1))
    have hbl : (T.take (k + 1)).length ≤ 61 := by simp; omega
    have add := abin_add (T := tab) (t := 3) (a := ((sumT tb.nodes (T.take k) : Nat) : Int)) (b := (cn.data.length : Int)) (by omega) (by omega)
    rw [show ((sumT tb.nodes (T.take k) : Nat) : Int) + (cn.data.length : Int) = ((sumT tb.nodes (T.take (k + 1)) : Nat) : Int) by omega] at add
    have fa0 : afieldAddr tab 35 (.ptr c 0) 0 = some (.ptr c 0) := rfl
    have fa2 : afieldAddr tab 35 (.ptr c 0) 2 = some (.ptr c 2) := rfl
    have kd5 : loadA tab h5 3 (.ptr c 0) = some (.int .i64 cn.kind) := loadA_cell ty3 rfl g5 rfl
    have dt4 : loadA tab h4 9 (.ptr c 2) = some (.str cn.data) := loadA_cell ty9 rfl g4 rfl
    have dt5 : loadA tab h5 9 (.ptr c 2) = some (.str cn.data) := loadA_cell ty9 rfl g5 rfl
    have key := sound_inner tr st hn a5 b hd hM nb (w := w) (qc := qc) (iV := iV) (inV := .int .i64 ((k + 1 : Nat) : Int)) (byV := .int .i64 ((sumT tb.nodes (T.take (k + 1)) : Nat) : Int)) hN (next83 := nx)
      (Q := fun r => ∃ s' h', r = nx s' [] h' ∧ ∃ v : AV, ∃ T M : List Int, s' = (w, qc, .ptr o 0, iV, .map m, v, .int .i64 ((k + 1 : Nat) : Int), .int .i64 (sumT tb.nodes (T.take (k + 1)) : Nat), .int .i64 ((k + 1 : Nat) : Int), ()) ∧ k + 1 ≤ T.length ∧ BF B h' m v T M ∧ BI tb T M ∧ M = (T.take (k + 1)).flatMap (kids tb))
      (fun {h' v' T' M'} a' b' hd' htk hM' => ⟨_, h', rfl, v', T', M', by
        rw [List.take_add_one, List.take_add_one, hd, hd', htk], by have := (List.getElem?_eq_some_iff.1 hd').1; omega, a', b', hM'⟩)
    obtain ⟨s', h', e10, hI⟩ := key
    refine ⟨s', h', ?_, hI⟩
    rw [← e10]
    by_cases hk2 : cn.kind = 2
    · have hda : cn.data = [] := st.inv.data d cn hcn hk2
      unfold F4_b16
      simp only [jn_a, a.len, valK_s, abin_lss, c1, c2, boolK_t, e1, e2a, e6, bothK_s, extractA_0, extractA_1, e7, e8, hpK_s, aun_not, Option.isSome_some, Bool.not_true, boolK_f, inc, fa2, dt4, alen9, add, e2b, e9, fa0, kd5, abin_neq, decide_eq_true hk2, abin_eql, skipK_b, dt5, abin_strne, decide_eq_true hda]
    · have hno : (namesT tb d).length = 0 := by
        simp only [namesT, hcn, sortS_length, List.length_map, st.inv.ents d cn hcn]
        rw [entsE_nil fun e he h => ?_]
        · rfl
        · obtain ⟨dn, p1, p2⟩ := st.inv.dir e he
          rw [h, hcn] at p1; cases p1
          exact hk2 p2
      rw [hno] at al
      unfold F4_b16
      simp only [jn_a, a.len, valK_s, abin_lss, c1, c2, boolK_t, e1, e2a, e6, bothK_s, extractA_0, extractA_1, e7, e8, hpK_s, aun_not, Option.isSome_some, Bool.not_true, Bool.not_false, boolK_f, inc, fa2, dt4, alen9, add, e2b, e9, fa0, kd5, abin_neq, decide_eq_false hk2, abin_eql, skipK_b, al, abin_gtr, Int.lt_irrefl, decide_false, show decide ((0 : Int) < ((0 : Nat) : Int)) = false from rfl]
  · right
    have hkl : k = T.length := by omega
    have c1 : decide ((k : Int) < (T.length : Int)) = false := ltF h1
    unfold F4_b16
    simp only [jn_a, a.len, valK_s, abin_lss, c1, boolK_f]
    have := hq a b (by rw [hM, hkl, List.take_length])
    rw [hkl, List.take_length]
    exact this

theorem sound_last (tr : TR S B o tb L) (st : St tb E n) (hn : n ≤ 60) {h : AHeap} {m : Nat} {v : AV} {T M : List Int} (a : BF B h m v T M) (b : BI tb T M) (hM : M = T.flatMap (kids tb))
    {w iV : AV} {c : Nat} {qi qb : Int} (gc : B.get c = some (.cells [.int .i64 qi, .int .i64 qb] true)) (hqi : tb.qi = qi) (hqb : tb.qb = qb) {i : Nat} (hi : i < 1000) {N : Nat} (hN : 100 < N) {next20 : AV × AV × AV × AV × Unit → List Nat → AHeap → Option (AV × AHeap)} {Q : Option (AV × AHeap) → Prop}
    (hq : ∀ {h' : AHeap}, Ext B h' → Q (next20 (w, .ptr c 0, .ptr o 0, .int .i64 ((i + 1 : Nat) : Int), ()) [] h')) :
    Q (loopN (F4_b39 EG N next20) N (w, .ptr c 0, .ptr o 0, .int .i64 (i : Int), .map m, .int .i64 (T.length : Int), .int .i64 (sumT tb.nodes T : Nat), .int .i64 2, ()) [] h) := by
  refine loop_rule (σ := AV × AV × AV × AV × AV × AV × AV × AV × Unit) (R := AV × AHeap) (total := 68)
    (I := fun k s h => k ≤ 68 ∧ s = (w, .ptr c 0, .ptr o 0, .int .i64 (i : Int), .map m, .int .i64 (T.length : Int), .int .i64 (sumT tb.nodes T : Nat), .int .i64 ((k + 2 : Nat) : Int), ()) ∧ BF B h m v T M)
    (Q := Q) ?_ N 0 _ _ ⟨by omega, rfl, a⟩ (by omega) (by omega)
  clear a
  rintro k s h nx ⟨hk, rfl, a⟩
  by_cases h1 : k < 68
  · left
    have c1 : decide (((k + 2 : Nat) : Int) < 70) = true := by rw [decide_eq_true_eq]; omega
    obtain ⟨h2, e6, y2⟩ := node_run (tr.ext a.ext) a.wf ((k + 2 : Nat) : Int)
    obtain ⟨l1, l2⟩ := b.links st.inv hM (x := ((k + 2 : Nat) : Int)) (by omega)
    have inc := abin_inc (T := tab) (t := 3) (i := k + 2) (by omega)
    have cc : decide ((0 : Int) < ((M.count ((k + 2 : Nat) : Int) : Nat) : Int)) = decide (0 < M.count ((k + 2 : Nat) : Int)) := decide_eq_decide.2 (by omega)
    cases hn' : tb.nodes ((k + 2 : Nat) : Int) with
    | none =>
      have hv : nodeV tb ((k + 2 : Nat) : Int) = .agg [.int .i64 0, .int .i64 0, .str [], .int .i64 0] := by simp only [nodeV, hn']; rfl
      rw [hv, hn'] at e6
      rw [hn'] at l1
      obtain ⟨cc', h3, h4, e7, e8, g4, y4⟩ := ino_cell y2.wf 0 0 0 []
      have a4 := a.grow (y2.trans y4)
      have lk := a4.look ((k + 2 : Nat) : Int)
      refine ⟨h1, _, h4, ?_, by omega, rfl, a4⟩
      unfold F4_b39
      simp only [valK_s, abin_lss, c1, boolK_t, e6, bothK_s, extractA_0, extractA_1, e7, e8, hpK_s, lk, abin_gtr, cc, ← l1, Option.isSome_none, abin_boolne ty4, bne_self_eq_false, boolK_f, skipK_b, inc]
    | some nd =>
      have hv : nodeV tb ((k + 2 : Nat) : Int) = .agg [.int .i64 nd.kind, .int .i64 nd.mode, .str nd.data, .int .i64 nd.links] := by simp only [nodeV, hn']; rfl
      rw [hv, hn'] at e6
      rw [hn'] at l1
      have hl := l2 nd hn'
      obtain ⟨cc', h3, h4, e7, e8, g4, y4⟩ := ino_cell y2.wf nd.kind nd.mode nd.links nd.data
      have a4 := a.grow (y2.trans y4)
      have lk := a4.look ((k + 2 : Nat) : Int)
      have fa3 : afieldAddr tab 35 (.ptr cc' 0) 3 = some (.ptr cc' 3) := rfl
      have ld : loadA tab h4 3 (.ptr cc' 3) = some (.int .i64 nd.links) := loadA_cell ty3 rfl g4 rfl
      refine ⟨h1, _, h4, ?_, by omega, rfl, a4⟩
      unfold F4_b39
      simp only [valK_s, abin_lss, c1, boolK_t, e6, bothK_s, extractA_0, extractA_1, e7, e8, hpK_s, lk, abin_gtr, cc, ← l1, Option.isSome_some, abin_boolne ty4, bne_self_eq_false, boolK_f, skipK_b, fa3, ld, abin_neq, decide_eq_true hl, Bool.not_true, inc]
  · right
    have hk68 : k = 68 := by omega
    subst hk68
    have c1 : decide (((68 + 2 : Nat) : Int) < 70) = false := rfl
    obtain ⟨h2, e1, y2⟩ := used_run (tr.ext a.ext) a.wf
    obtain ⟨u1, u2⟩ := b.uses st hM
    have hf := st.fit
    have b1 : abuild tab 26 [(0, .int .i64 (T.length : Int)), (1, .int .i64 (sumT tb.nodes T : Nat))] = some (.agg [.int .i64 (T.length : Int), .int .i64 (sumT tb.nodes T : Nat)]) := rfl
    obtain ⟨q1, q2, q3⟩ := ld_quo ((a.ext.trans y2).keep _ _ gc)
    have c2 : decide (qi < (T.length : Int)) = false := by rw [decide_eq_false_iff_not]; omega
    have c3 : decide (qb < ((sumT tb.nodes T : Nat) : Int)) = false := by rw [decide_eq_false_iff_not]; omega
    have inc := abin_inc (T := tab) (t := 3) (i := i) (by omega)
    unfold F4_b39
    simp only [valK_s, abin_lss, c1, boolK_f, e1, bothK_s, b1, quota_neq, u1, u2, decide_true, Bool.and_self, Bool.not_true, fa26_00, fa26_01, q2, q3, abin_gtr, c2, c3, inc]
    exact hq (a.ext.trans y2)
end
end Go.Am

set_option linter.unusedVariables false
set_option linter.unusedSimpArgs false
namespace Go.Am
open Go Go.Proofs

/-- What is refused changes nothing. -/
theorem act_refused (tb : Tb) (x : Act) (h : actE tb x ≠ 0) : actT tb x = tb := by
  cases x with
  | make d s k m x => exact if_neg h
  | link d s i => exact if_neg h
  | unlink d s => exact if_neg h
  | move f s t u =>
    simp only [actE, moveE] at h
    simp only [actT, moveT]
    by_cases h1 : move1E tb f s t u = 0
    · rw [if_pos h1] at h ⊢
      by_cases h2 : f = t ∧ s = u
      · rw [if_pos h2]
      · rw [if_neg h2] at h ⊢
        rw [if_neg h]
    · rw [if_neg h1]
  | write i x => exact if_neg h
  | chmod i m => exact if_neg h

theorem sound_loop {h0 : AHeap} {w : AV} {A : List Five} (hr : FRow h0 w A) {c : Nat} {qi qb : Int} (gc : h0.get c = some (.cells [.int .i64 qi, .int .i64 qb] true)) {S : Nat → Prop} {hh : AHeap} {o : Nat} {tb : Tb} {L : Lay} (a : LS h0 S hh o tb L .nilslice []) (b : Sm tb [] 0 qi qb) {N : Nat} (hN : 100 < N) :
    ∃ h', loopN (F4_b6 EG N) N (w, .ptr c 0, .ptr o 0, .int .i64 0, ()) [] hh = some (.bool true, h') := by
  refine loop_rule (σ := AV × AV × AV × AV × Unit) (R := AV × AHeap) (total := 60)
    (I := fun i st h => i ≤ 60 ∧ ∃ S : Nat → Prop, ∃ L : Lay, ∃ tb : Tb, ∃ E : List Ed, st = (w, .ptr c 0, .ptr o 0, .int .i64 (i : Int), ()) ∧ LS h0 S h o tb L .nilslice [] ∧ Sm tb E i qi qb)
    (Q := fun r => ∃ h', r = some (.bool true, h')) ?_ N 0 _ _ ⟨by omega, S, L, tb, [], rfl, a, b⟩ (by omega) (by omega)
  clear a b
  rintro i st h nx ⟨hi, S, L, tb, E, rfl, a, b⟩
  have hr' := hr.ext a.ext
  by_cases h1 : i < A.length
  · have c1 : decide ((i : Int) < (A.length : Int)) = true := ltT h1
    by_cases h2 : i < 60
    · left
      refine ⟨h2, ?_⟩
      have c2 : decide ((i : Int) < 60) = true := by rw [decide_eq_true_eq]; omega
      obtain ⟨h1', e1, y1⟩ := used_run a.tr a.wf
      obtain ⟨cu, h2', h3, e2, e3, g3, y3, n3⟩ := quo_cell y1.wf tb.ui tb.ub
      have a3 := a.grow (y1.trans y3)
      have nc : ¬ S cu := fun hs => a.tr.there cu hs (y1.none n3)
      obtain ⟨p, e4, e5⟩ := (hr.ext a3.ext).at h1
      obtain ⟨S', L', h4, e6, t4, s4⟩ := small_run a3.tr b.st (by omega) a3.wf (n0 := A[i].1) (n1 := A[i].2.1) (n2 := A[i].2.2.1) (n3 := A[i].2.2.2.1) (n4 := A[i].2.2.2.2)
      obtain ⟨d1, d2⟩ := small_data A[i].1 A[i].2.1 A[i].2.2.1 A[i].2.2.2.1 A[i].2.2.2.2
      have a4 := a3.step t4 s4
      have b4 := b.act d1 d2
      obtain ⟨g4, nc4⟩ := s4.beside g3 nc
      generalize hx : smallA A[i].1 A[i].2.1 A[i].2.2.1 A[i].2.2.2.1 A[i].2.2.2.2 = x at e6 t4 a4 b4
      have gc4 := a4.ext.keep _ _ gc
      -- the rest, once the check of what was used is done
      obtain ⟨QQ, hQ⟩ : ∃ QQ : Option (AV × AHeap) → Prop, QQ = fun r => ∃ s' h', r = nx s' [] h' ∧
          (i + 1 ≤ 60 ∧ ∃ S : Nat → Prop, ∃ L : Lay, ∃ tb : Tb, ∃ E : List Ed, s' = (w, .ptr c 0, .ptr o 0, .int .i64 ((i + 1 : Nat) : Int), ()) ∧ LS h0 S h' o tb L .nilslice [] ∧ Sm tb E (i + 1) qi qb) := ⟨_, rfl⟩
      have rest : ∀ {h5 : AHeap}, Ext h4 h5 → QQ (bothK (newMapA h5) fun x38 h39 =>
          bothK (abuildSlice tab h39 47 1 [(0, (.int .i64 1))]) fun x40 h41 =>
          loopN (F4_b16 EG N (fun v43 ms44 h45 => loopN (F4_b39 EG N nx) N (v43.1, v43.2.1, v43.2.2.1, v43.2.2.2.1, v43.2.2.2.2.1, v43.2.2.2.2.2.1, v43.2.2.2.2.2.2.1, (.int .i64 2), ()) ms44 h45)) N (w, .ptr c 0, .ptr o 0, .int .i64 (i : Int), x38, x40, (.int .i64 0), (.int .i64 0), (.int .i64 0), ()) [] h41) := fun {h5} x5 => by
        obtain ⟨m, h6, v, h7, q1, q2, q3⟩ := BF.start (B := h4) x5.wf x5
        simp only [q1, bothK_s, q2]
        refine sound_outer a4.tr b4.st (by omega) q3 hN (Q := QQ) fun {h8 v8 T M} p1 p2 p3 => ?_
        dsimp only
        refine sound_last (iV := .nilptr) a4.tr b4.st (by omega) p1 p2 p3 gc4 b4.qi b4.qb (by omega) hN (Q := QQ) fun {h9} x9 => ?_
        rw [hQ]
        exact ⟨_, h9, rfl, by omega, S', L', _, _, rfl, a4.grow x9, b4⟩
      rw [hQ] at rest
      by_cases hz : actE tb x = 0
      · obtain ⟨s', h', q1, q2⟩ := rest (Ext.refl a4.wf)
        refine ⟨s', h', ?_, q2⟩
        rw [hz] at e6
        rw [← q1]
        unfold F4_b6
        simp only [jn_a, hr'.len, valK_s, abin_lss, c1, c2, boolK_t, e1, bothK_s, e2, e3, hpK_s, e4, e5]
        simp only [fiveOf, e6, bothK_s, abin_neq, decide_true, Bool.not_true, boolK_f, valK_s]
      · have hrf := act_refused tb x hz
        obtain ⟨h5, e7, y5⟩ := used_run t4 a4.wf
        rw [hrf] at e7
        obtain ⟨s', h', q1, q2⟩ := rest y5
        refine ⟨s', h', ?_, q2⟩
        obtain ⟨k1, k2, k3⟩ := ld_quo g4
        obtain ⟨k4, k5, k6⟩ := ld_quo (y5.keep _ _ g4)
        rw [← q1]
        unfold F4_b6
        simp only [jn_a, hr'.len, valK_s, abin_lss, c1, c2, boolK_t, e1, bothK_s, e2, e3, hpK_s, e4, e5]
        simp only [fiveOf, e6, bothK_s, abin_neq, decide_eq_false hz, Bool.not_false, boolK_t, valK_s, k1, e7, k4, sameK_r, quota_neq, decide_true, Bool.and_self, Bool.not_true, boolK_f]
    · right
      have c2 : decide ((i : Int) < 60) = false := by rw [decide_eq_false_iff_not]; omega
      unfold F4_b6
      simp only [jn_a, hr'.len, valK_s, abin_lss, c1, c2, boolK_t, boolK_f, run15, bothK_s, unmark_nil, hpK_s]
      exact ⟨_, rfl⟩
  · right
    have c1 : decide ((i : Int) < (A.length : Int)) = false := ltF h1
    unfold F4_b6
    simp only [jn_a, hr'.len, valK_s, abin_lss, c1, boolK_f, run15, bothK_s, unmark_nil, hpK_s]
    exact ⟨_, rfl⟩

theorem inodeSound_walk {h : AHeap} (hw : h.WF) {w : AV} {A : List Five} (hr : FRow h w A) {m0 m1 : Nat} (hm0 : m0 ≤ 255) (hm1 : m1 ≤ 255) {N : Nat} (hN : 100 < N) :
    ∃ h', F4 EG N w (.agg [.int .u8 (m0 : Int), .int .u8 (m1 : Int)]) h = some (.bool true, h') := by
  have b0 : boxA h (.agg [.int .u8 (m0 : Int), .int .u8 (m1 : Int)]) = some (.ptr h.next 0, h.add (.cells [.int .u8 (m0 : Int), .int .u8 (m1 : Int)] true)) := rfl
  have g0 : (h.add (.cells [.int .u8 (m0 : Int), .int .u8 (m1 : Int)] true)).get h.next = some (.cells [.int .u8 (m0 : Int), .int .u8 (m1 : Int)] true) := AHeap.get_add_self _ _
  have x0 : Ext h (h.add (.cells [.int .u8 (m0 : Int), .int .u8 (m1 : Int)] true)) := (Ext.refl hw).add _
  generalize h.add (.cells [.int .u8 (m0 : Int), .int .u8 (m1 : Int)] true) = h1 at b0 g0 x0
  generalize h.next = b at b0 g0
  have i0 : aindexAddr tab 43 (.ptr b 0) (.int .i64 0) = some (.ptr b 0) := rfl
  have i1 : aindexAddr tab 43 (.ptr b 0) (.int .i64 1) = some (.ptr b 1) := rfl
  have l0 := ld5 (i := 0) g0 rfl ⟨_, rfl⟩
  have l1 := ld5 (i := 1) g0 rfl ⟨_, rfl⟩
  have r0 : abin tab .rem 5 (.int .u8 (m0 : Int)) (.int .u8 14) = some (.int .u8 ((m0 % 14 : Nat) : Int)) := rem5 (n := 14) (by decide)
  have v0 : aconvert tab h1 5 3 (.int .u8 ((m0 % 14 : Nat) : Int)) = _ := conv5 (by omega)
  have v1 : aconvert tab h1 5 3 (.int .u8 (m1 : Int)) = _ := conv5 (by omega)
  have r1 : abin tab .add 3 (.int .i64 1) (.int .i64 ((m0 % 14 : Nat) : Int)) = some (.int .i64 (1 + ((m0 % 14 : Nat) : Int))) := abin_add (by omega) (by omega)
  have b1 : abuild tab 26 [(0, .int .i64 (1 + ((m0 % 14 : Nat) : Int))), (1, .int .i64 (m1 : Int))] = some (.agg [.int .i64 (1 + ((m0 % 14 : Nat) : Int)), .int .i64 (m1 : Int)]) := rfl
  obtain ⟨c, h2, h3, e2, e3, g3, x3, _⟩ := quo_cell x0.wf (1 + ((m0 % 14 : Nat) : Int)) (m1 : Int)
  obtain ⟨h4, x4, hnew⟩ := new_run x3.wf (1 + ((m0 % 14 : Nat) : Int)) (m1 : Int)
  have hn : ∃ tb, newT (1 + ((m0 % 14 : Nat) : Int)) (m1 : Int) = some tb := ⟨_, if_neg (by omega)⟩
  obtain ⟨tb, hn⟩ := hn
  have hsm := Sm.new hn
  rw [hn] at hnew
  obtain ⟨S, o, L, e4, t4, far⟩ := hnew
  have A0 : LS h3 S h4 o tb L .nilslice [] := ⟨t4, far, x4, ⟨rfl, .inl ⟨rfl, rfl⟩⟩, fun j n e _ h => by cases h⟩
  obtain ⟨h', e'⟩ := sound_loop (hr.ext (x0.trans x3)) g3 A0 hsm hN
  refine ⟨h', ?_⟩
  obtain ⟨q1, q2, q3⟩ := ld_quo g3
  unfold F4
  simp only [b0, bothK_s, i0, i1, valK_s, l0, l1, r0, v0, v1, r1, b1, e2, e3, hpK_s, q1, e4, eq23, boolK_f]
  exact e'
end Go.Am
