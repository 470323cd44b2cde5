/-
  A table of inodes in an abstract heap: what lies where, and what each change comes to.
-/
import Derived.Test.YtpofhpkdjcnhmaaK2
import Derived.Test.YtpofhpkdjcnhmaaP8
set_option linter.unusedVariables false
set_option linter.unusedSimpArgs false
namespace Go.Am
open Go

/-! ### Maps by texts, once more -/

/-- Keys and stamps, each once. -/
def Once (l : SE) (clock : Nat) : Prop := (∀ e ∈ l, e.2.2 < clock) ∧ l.Pairwise fun a b => a.1 ≠ b.1 ∧ a.2.2 ≠ b.2.2

theorem stampB_str : ∀ {l : SE} {clock : Nat}, Once l clock → stampB clock (strE l) = true
  | [], _, _ => rfl
  | e :: l, clock, ⟨h1, h2⟩ => by
    rw [List.pairwise_cons] at h2
    have ih := stampB_str (l := l) (clock := clock) ⟨fun x hx => h1 x (List.mem_cons_of_mem _ hx), h2.2⟩
    simp only [strE] at ih
    simp only [strE, List.map_cons, stampB, ih, Bool.and_true, Bool.and_eq_true]
    refine ⟨by simpa using h1 e List.mem_cons_self, ?_⟩
    rw [List.all_eq_true]
    intro x hx
    obtain ⟨y, hy, rfl⟩ := List.mem_map.1 hx
    obtain ⟨q1, q2⟩ := h2.1 y hy
    simp only [AV.beq, beq_dec, Bool.and_eq_true, Bool.not_eq_true', decide_eq_false_iff_not]
    exact ⟨fun e1 => q1 e1.symm, fun e1 => q2 e1.symm⟩

theorem keysOf_str : ∀ (l : SE), keysOf (strE l) = some (l.map (·.1))
  | [] => rfl
  | e :: l => by
    have := keysOf_str l
    simp only [strE] at this
    simp [strE, keysOf, this]

theorem hasS_iff {s : Bs} : ∀ {l : SE}, hasS s l = true ↔ s ∈ l.map (·.1)
  | [] => by simp [hasS]
  | e :: l => by
    simp only [hasS, List.map_cons, List.mem_cons]
    by_cases h : s = e.1
    · simp [h]
    · simp [h, hasS_iff (l := l)]

theorem Once.nodup {l : SE} {c : Nat} (a : Once l c) : (l.map (·.1)).Nodup := by
  rw [List.nodup_iff_pairwise_ne, List.pairwise_map]
  exact a.2.imp fun h => h.1

theorem Once.sub {l : SE} {c : Nat} (a : Once l c) (p : Bs × AV × Nat → Bool) : Once (l.filter p) c :=
  ⟨fun e he => a.1 e (List.mem_filter.1 he).1, a.2.filter p⟩

theorem Once.add {l : SE} {c : Nat} (a : Once l c) {s : Bs} (h : hasS s l = false) (v : AV) : Once (l ++ [(s, v, c)]) (c + 1) := by
  refine ⟨fun e he => ?_, ?_⟩
  · rcases List.mem_append.1 he with he | he
    · exact Nat.lt_succ_of_lt (a.1 e he)
    · rw [List.mem_singleton.1 he]; exact Nat.lt_succ_self _
  · rw [List.pairwise_append]
    refine ⟨a.2, List.pairwise_singleton _ _, fun x hx y hy => ?_⟩
    rw [List.mem_singleton.1 hy]
    refine ⟨fun e => ?_, Nat.ne_of_lt (a.1 x hx)⟩
    have : hasS s l = true := hasS_iff.2 (by rw [← show x.1 = s from e]; exact List.mem_map_of_mem hx)
    rw [this] at h; cases h

def delS (k : Bs) (l : SE) : SE := l.filter fun e => decide (e.1 ≠ k)

theorem delete_at (k : Bs) : ∀ (l : SE) (i : Nat), (l.map (·.1)).Nodup → (hasS k l = false ∧ findE (.str k) (strE l) i = some none ∧ delS k l = l) ∨
    ∃ j v b, findE (.str k) (strE l) i = some (some (i + j, v, b)) ∧ (strE l).eraseIdx j = strE (delS k l)
  | [], i, _ => .inl ⟨rfl, rfl, rfl⟩
  | e :: l, i, hn => by
    simp only [List.map_cons, List.nodup_cons] at hn
    by_cases h : k = e.1
    · refine .inr ⟨0, e.2.1, e.2.2, by simp [strE, findE, keyEq, h], ?_⟩
      have : delS k l = l := List.filter_eq_self.2 fun x hx => by
        simp only [ne_eq, decide_not, Bool.not_eq_true', decide_eq_false_iff_not]
        exact fun h2 => hn.1 (by rw [← h, ← h2]; exact List.mem_map_of_mem hx)
      have hd : delS k (e :: l) = l := by
        simp only [delS, List.filter_cons] at this ⊢
        simp only [← h, ne_eq, not_true_eq_false, decide_false, Bool.false_eq_true, if_false]
        exact this
      rw [hd]; rfl
    · have h' : ¬ e.1 = k := fun h2 => h h2.symm
      rcases delete_at k l (i + 1) hn.2 with ⟨h1, h2, h3⟩ | ⟨j, v, b, h1, h2⟩
      · exact .inl ⟨by simp [hasS, h, h1], by simp only [strE, List.map_cons, findE, keyEq, h, decide_false]; exact h2, by simp only [delS] at h3 ⊢; simp [List.filter_cons, h']; simpa using h3⟩
      · refine .inr ⟨j + 1, v, b, ?_, ?_⟩
        · simp only [strE, List.map_cons, findE, keyEq, h, decide_false]
          rw [show i + (j + 1) = i + 1 + j by omega]; exact h1
        · simp only [strE, List.map_cons, List.eraseIdx_cons_succ, delS, List.filter_cons] at h2 ⊢
          rw [h2]
          simp [h']

theorem delete_str {T : Tab} {h : AHeap} {t el s b : Nat} {ag : Bool} {z : AV} {m : Nat} {l : SE} {clock : Nat} {k : Bs} (ht : T.get t = some ⟨.map 2 el, s, b, ag, z⟩) (hm : h.get m = some (.map (strE l) clock)) (hn : (l.map (·.1)).Nodup) :
    adelete T h t (.map m) (.str k) = some (h.put m (.map (strE (delS k l)) clock)) := by
  rcases delete_at k l 0 hn with ⟨_, h2, h3⟩ | ⟨j, v, b', h1, h2⟩
  · simp only [adelete, ht, keyOk, hm, h2, cond_true, h3]
  · simp only [adelete, ht, keyOk, hm, h1, cond_true, Nat.zero_add, h2]

/-! ### Names to numbers -/

abbrev NE := List (Bs × Int)

def getN (s : Bs) : NE → Option Int
  | [] => none
  | e :: l => if s = e.1 then some e.2 else getN s l

def delN (s : Bs) (l : NE) : NE := l.filter fun e => decide (e.1 ≠ s)

def NEq (l : SE) (ents : NE) : Prop := l.map (fun e => (e.1, e.2.1)) = ents.map fun e => (e.1, AV.int .i64 e.2)

theorem NEq.get {s : Bs} : ∀ {l : SE} {ents : NE}, NEq l ents → getS s l = (getN s ents).map (AV.int .i64)
  | [], [], _ => rfl
  | [], _ :: _, h => by cases h
  | _ :: _, [], h => by cases h
  | e :: l, x :: ents, h => by
    simp only [NEq, List.map_cons, List.cons.injEq, Prod.mk.injEq] at h
    simp only [getS, getN, h.1.1, h.1.2]
    by_cases hs : s = x.1
    · simp [hs]
    · simp only [hs, if_false]; exact NEq.get h.2

theorem NEq.has {s : Bs} : ∀ {l : SE} {ents : NE}, NEq l ents → hasS s l = (getN s ents).isSome
  | [], [], _ => rfl
  | [], _ :: _, h => by cases h
  | _ :: _, [], h => by cases h
  | e :: l, x :: ents, h => by
    simp only [NEq, List.map_cons, List.cons.injEq, Prod.mk.injEq] at h
    simp only [hasS, getN, h.1.1]
    by_cases hs : s = x.1
    · simp [hs]
    · simp only [hs, if_false]; exact NEq.has h.2

theorem NEq.add {l : SE} {ents : NE} (h : NEq l ents) (s : Bs) (n : Int) (c : Nat) : NEq (l ++ [(s, .int .i64 n, c)]) (ents ++ [(s, n)]) := by
  simp only [NEq, List.map_append] at h ⊢
  rw [h]; rfl

theorem NEq.del {s : Bs} : ∀ {l : SE} {ents : NE}, NEq l ents → NEq (delS s l) (delN s ents)
  | [], [], _ => rfl
  | [], _ :: _, h => by cases h
  | _ :: _, [], h => by cases h
  | e :: l, x :: ents, h => by
    simp only [NEq, List.map_cons, List.cons.injEq, Prod.mk.injEq] at h
    have ih := NEq.del (s := s) h.2
    simp only [NEq, delS, delN] at ih
    simp only [NEq, delS, delN, List.filter_cons, h.1.1]
    by_cases hs : x.1 = s
    · simp only [hs, ne_eq, not_true_eq_false, decide_false, Bool.false_eq_true, if_false]; exact ih
    · simp only [ne_eq, hs, not_false_eq_true, decide_true, if_true, List.map_cons, h.1.1, h.1.2]
      exact congrArg _ ih

theorem NEq.keys {l : SE} {ents : NE} (h : NEq l ents) : l.map (·.1) = ents.map (·.1) := by
  have := congrArg (List.map Prod.fst) h
  simpa [List.map_map, Function.comp_def] using this

theorem NEq.len {l : SE} {ents : NE} (h : NEq l ents) : l.length = ents.length := by
  have := congrArg List.length h
  simpa using this

theorem getN_append {s : Bs} : ∀ {a b : NE}, getN s (a ++ b) = match getN s a with | some v => some v | none => getN s b
  | [], b => rfl
  | e :: a, b => by
    simp only [List.cons_append, getN]
    by_cases h : s = e.1
    · simp [h]
    · simp [h, getN_append (a := a)]

theorem getN_del {s t : Bs} : ∀ {l : NE}, getN s (delN t l) = if s = t then none else getN s l
  | [] => by simp [delN, getN]
  | e :: l => by
    have ih := getN_del (s := s) (t := t) (l := l)
    simp only [delN, List.filter_cons] at ih ⊢
    by_cases h : e.1 = t
    · simp only [h, ne_eq, not_true_eq_false, decide_false, Bool.false_eq_true, if_false, ih, getN]
      by_cases hs : s = t
      · simp [hs]
      · simp [hs]
    · simp only [ne_eq, h, not_false_eq_true, decide_true, if_true, getN, ih]
      by_cases hs : s = e.1
      · simp [hs, h]
      · simp [hs]

theorem getN_some {s : Bs} {n : Int} : ∀ {l : NE}, getN s l = some n → (s, n) ∈ l
  | [], h => by cases h
  | e :: l, h => by
    simp only [getN] at h
    split at h
    · rename_i h1; cases h; rw [h1]; exact List.mem_cons_self
    · exact List.mem_cons_of_mem _ (getN_some h)

theorem getN_none {s : Bs} : ∀ {l : NE}, getN s l = none ↔ s ∉ l.map (·.1)
  | [] => by simp [getN]
  | e :: l => by
    simp only [getN, List.map_cons, List.mem_cons, not_or]
    by_cases h : s = e.1
    · simp [h]
    · simp [h, getN_none (l := l)]

theorem getN_mem {s : Bs} {n : Int} : ∀ {l : NE}, (l.map (·.1)).Nodup → (s, n) ∈ l → getN s l = some n
  | [], _, h => by cases h
  | e :: l, hn, h => by
    simp only [List.map_cons, List.nodup_cons] at hn
    simp only [getN]
    rcases List.mem_cons.1 h with rfl | h
    · simp
    · have : s ≠ e.1 := fun he => hn.1 (by rw [← he]; exact List.mem_map_of_mem (f := Prod.fst) h)
      simp only [this, if_false]
      exact getN_mem hn.2 h

/-! ### Maps by numbers -/

abbrev IE := List (Int × AV × Nat)
def intE (l : IE) : List (AV × AV × Nat) := l.map fun e => (.int .i64 e.1, e.2.1, e.2.2)

def getI (k : Int) : IE → Option AV
  | [] => none
  | e :: l => if k = e.1 then some e.2.1 else getI k l

def delI (k : Int) (l : IE) : IE := l.filter fun e => decide (e.1 ≠ k)

theorem findE_int (k : Int) : ∀ (l : IE) (i : Nat), (l.map (·.1)).Nodup → (getI k l = none ∧ findE (.int .i64 k) (intE l) i = some none ∧ delI k l = l) ∨
    ∃ j v b, getI k l = some v ∧ findE (.int .i64 k) (intE l) i = some (some (i + j, v, b)) ∧ (intE l).eraseIdx j = intE (delI k l)
  | [], i, _ => .inl ⟨rfl, rfl, rfl⟩
  | e :: l, i, hn => by
    simp only [List.map_cons, List.nodup_cons] at hn
    by_cases h : k = e.1
    · refine .inr ⟨0, e.2.1, e.2.2, by simp [getI, h], by simp [intE, findE, keyEq, h], ?_⟩
      have : delI k l = l := List.filter_eq_self.2 fun x hx => by
        simp only [ne_eq, decide_not, Bool.not_eq_true', decide_eq_false_iff_not]
        exact fun h2 => hn.1 (by rw [← h, ← h2]; exact List.mem_map_of_mem hx)
      have hd : delI k (e :: l) = l := by
        simp only [delI, List.filter_cons] at this ⊢
        simp only [← h, ne_eq, not_true_eq_false, decide_false, Bool.false_eq_true, if_false]
        exact this
      rw [hd]; rfl
    · have h' : ¬ e.1 = k := fun h2 => h h2.symm
      rcases findE_int k l (i + 1) hn.2 with ⟨h1, h2, h3⟩ | ⟨j, v, b, h0, h1, h2⟩
      · exact .inl ⟨by simp [getI, h, h1], by simp only [intE, List.map_cons, findE, keyEq, h, decide_false, decide_true, cond_true]; exact h2, by simp only [delI] at h3 ⊢; simp [List.filter_cons, h']; simpa using h3⟩
      · refine .inr ⟨j + 1, v, b, by simp [getI, h, h0], ?_, ?_⟩
        · simp only [intE, List.map_cons, findE, keyEq, h, decide_false, decide_true, cond_true]
          rw [show i + (j + 1) = i + 1 + j by omega]; exact h1
        · simp only [intE, List.map_cons, List.eraseIdx_cons_succ, delI, List.filter_cons] at h2 ⊢
          rw [h2]
          simp [h']

theorem getI_append {k : Int} : ∀ {a b : IE}, getI k (a ++ b) = match getI k a with | some v => some v | none => getI k b
  | [], b => rfl
  | e :: a, b => by
    simp only [List.cons_append, getI]
    by_cases h : k = e.1
    · simp [h]
    · simp [h, getI_append (a := a)]

theorem getI_del {k j : Int} : ∀ {l : IE}, getI j (delI k l) = if j = k then none else getI j l
  | [] => by simp [delI, getI]
  | e :: l => by
    have ih := getI_del (k := k) (j := j) (l := l)
    simp only [delI, List.filter_cons] at ih ⊢
    by_cases h : e.1 = k
    · simp only [h, ne_eq, not_true_eq_false, decide_false, Bool.false_eq_true, if_false, ih, getI]
      by_cases hs : j = k
      · simp [hs]
      · simp [hs]
    · simp only [ne_eq, h, not_false_eq_true, decide_true, if_true, getI, ih]
      by_cases hs : j = e.1
      · simp [hs, h]
      · simp [hs]

theorem getI_none {k : Int} : ∀ {l : IE}, getI k l = none ↔ k ∉ l.map (·.1)
  | [] => by simp [getI]
  | e :: l => by
    simp only [getI, List.map_cons, List.mem_cons, not_or]
    by_cases h : k = e.1
    · simp [h]
    · simp [h, getI_none (l := l)]

section
variable {T : Tab} {h : AHeap} {t el s b : Nat} {ag : Bool} {z : AV} {te : ATy} {m : Nat} {l : IE} {clock : Nat} {key : Int}

theorem lookup_int (ht : T.get t = some ⟨.map 1 el, s, b, ag, z⟩) (he : T.get el = some te) (hm : h.get m = some (.map (intE l) clock)) (hn : (l.map (·.1)).Nodup) :
    alookup T h t (.map m) (.int .i64 key) false = some (match getI key l with
      | some v => v
      | none => te.zero) := by
  rcases findE_int key l 0 hn with ⟨h2, h3, _⟩ | ⟨j, v, b', h2, h3, _⟩ <;> simp [alookup, ht, he, keyOk, hm, h2, h3]

theorem update_int (ht : T.get t = some ⟨.map 1 el, s, b, ag, z⟩) (hm : h.get m = some (.map (intE l) clock)) (hn : (l.map (·.1)).Nodup) (hg : getI key l = none) (v : AV) :
    amapUpdate T h t (.map m) (.int .i64 key) v = some (h.put m (.map (intE (l ++ [(key, v, clock)])) (clock + 1))) := by
  rcases findE_int key l 0 hn with ⟨h1, h3, _⟩ | ⟨j, w, b', h1, h3, _⟩
  · simp only [amapUpdate, ht, keyOk, hm, h3, cond_true]
    simp [intE]
  · rw [hg] at h1; cases h1

theorem delete_int (ht : T.get t = some ⟨.map 1 el, s, b, ag, z⟩) (hm : h.get m = some (.map (intE l) clock)) (hn : (l.map (·.1)).Nodup) :
    adelete T h t (.map m) (.int .i64 key) = some (h.put m (.map (intE (delI key l)) clock)) := by
  rcases findE_int key l 0 hn with ⟨_, h2, h3⟩ | ⟨j, v, b', _, h1, h2⟩
  · simp only [adelete, ht, keyOk, hm, h2, cond_true, h3]
  · simp only [adelete, ht, keyOk, hm, h1, cond_true, Nat.zero_add, h2]
end

/-! ### The table -/

/-- An inode. -/
structure Nd where
  kind : Int
  mode : Int
  data : Bs
  links : Int
  up : Int
  ents : NE

/-- A table. -/
structure Tb where
  qi : Int
  qb : Int
  ui : Int
  ub : Int
  last : Int
  nodes : Int → Option Nd

def upd (f : Int → Option Nd) (k : Int) (x : Option Nd) : Int → Option Nd := fun j => if j = k then x else f j
theorem upd_self (f : Int → Option Nd) (k : Int) (x : Option Nd) : upd f k x k = x := if_pos rfl
theorem upd_ne (f : Int → Option Nd) {k j : Int} (x : Option Nd) (h : j ≠ k) : upd f k x j = f j := if_neg h

/-- Where its parts lie. -/
structure Lay where
  m : Nat
  place : Int → Nat
  ent : Int → Nat

def EntR (h : AHeap) (e : Nat) (ents : NE) : Prop := ∃ l clock, h.get e = some (.map (strE l) clock) ∧ NEq l ents ∧ Once l clock

def evOf (L : Lay) (k : Int) (nd : Nd) : AV := if nd.kind = 2 then .map (L.ent k) else .nilmap
def ndCells (L : Lay) (k : Int) (nd : Nd) : List AV := [.int .i64 nd.kind, .int .i64 nd.mode, .str nd.data, .int .i64 nd.links, .int .i64 nd.up, evOf L k nd]
def tbCells (L : Lay) (tb : Tb) : List AV := [.int .i64 tb.qi, .int .i64 tb.qb, .int .i64 tb.ui, .int .i64 tb.ub, .map L.m, .int .i64 tb.last]

structure TR (S : Nat → Prop) (h : AHeap) (o : Nat) (tb : Tb) (L : Lay) : Prop where
  top : h.get o = some (.cells (tbCells L tb) true)
  map : ∃ l clock, h.get L.m = some (.map (intE l) clock) ∧ (l.map (·.1)).Nodup ∧ ∀ k, getI k l = (tb.nodes k).map fun _ => .ptr (L.place k) 0
  node : ∀ k nd, tb.nodes k = some nd → h.get (L.place k) = some (.cells (ndCells L k nd) true)
  ents : ∀ k nd, tb.nodes k = some nd → nd.kind = 2 → EntR h (L.ent k) nd.ents
  noEnts : ∀ k nd, tb.nodes k = some nd → nd.kind ≠ 2 → nd.ents = []
  inj : ∀ k j nd nd', tb.nodes k = some nd → tb.nodes j = some nd' → L.place k = L.place j → k = j
  injE : ∀ k j nd nd', tb.nodes k = some nd → tb.nodes j = some nd' → nd.kind = 2 → nd'.kind = 2 → L.ent k = L.ent j → k = j
  apart : ∀ k nd, tb.nodes k = some nd → L.place k ≠ o
  apartE : ∀ k nd, tb.nodes k = some nd → nd.kind = 2 → L.ent k ≠ L.m
  inO : S o
  inM : S L.m
  inN : ∀ k nd, tb.nodes k = some nd → S (L.place k)
  inE : ∀ k nd, tb.nodes k = some nd → nd.kind = 2 → S (L.ent k)
  there : ∀ j, S j → h.get j ≠ none

/-- What is not the table's stays. -/
structure Step (S : Nat → Prop) (h : AHeap) (S' : Nat → Prop) (h' : AHeap) : Prop where
  new : ∀ j, S' j → S j ∨ h.get j = none
  keep : ∀ j y, h.get j = some y → ¬ S j → h'.get j = some y
  wf : h'.WF

theorem Step.refl {S : Nat → Prop} {h : AHeap} (hw : h.WF) : Step S h S h := ⟨fun _ a => .inl a, fun _ _ e _ => e, hw⟩
theorem Step.trans {S S1 S2 : Nat → Prop} {h h1 h2 : AHeap} (a : Step S h S1 h1) (b : Step S1 h1 S2 h2) : Step S h S2 h2 where
  new j hj := by
    rcases b.new j hj with h3 | h3
    · exact a.new j h3
    · by_cases hs : S j
      · exact .inl hs
      · cases e : h.get j with
        | none => exact .inr rfl
        | some y => rw [a.keep j y e hs] at h3; cases h3
  keep j y e hs := b.keep j y (a.keep j y e hs) fun h1' => by
    rcases a.new j h1' with h3 | h3
    · exact hs h3
    · rw [e] at h3; cases h3
  wf := b.wf
theorem Ext.step {S : Nat → Prop} {h h' : AHeap} (a : Ext h h') : Step S h S h' := ⟨fun _ a => .inl a, fun j y e _ => a.keep j y e, a.wf⟩
theorem Step.put {S S1 : Nat → Prop} {h h1 : AHeap} (a : Step S h S1 h1) {o : Nat} {y : AObj} (hs : S1 o) (ho : h1.get o = some y) (x : AObj) : Step S h S1 (h1.put o x) :=
  a.trans ⟨fun _ h => .inl h, fun j z e hn => by rw [AHeap.get_put_ne _ _ (show j ≠ o from fun e1 => hn (e1 ▸ hs))]; exact e, a.wf.put ho x⟩
theorem Step.wider {S S1 S2 : Nat → Prop} {h h1 : AHeap} (a : Step S h S1 h1) (hn : ∀ j, S2 j → S1 j ∨ S j ∨ h.get j = none) : Step S h S2 h1 :=
  ⟨fun j hj => (hn j hj).elim (a.new j) id, a.keep, a.wf⟩

section
variable {S : Nat → Prop} {h : AHeap} {o : Nat} {tb : Tb} {L : Lay}

theorem TR.ext (a : TR S h o tb L) {h' : AHeap} (e : Ext h h') : TR S h' o tb L where
  top := e.keep _ _ a.top
  map := by obtain ⟨l, c, q1, q2, q3⟩ := a.map; exact ⟨l, c, e.keep _ _ q1, q2, q3⟩
  node k nd hk := e.keep _ _ (a.node k nd hk)
  ents k nd hk h2 := by obtain ⟨l, c, q1, q2, q3⟩ := a.ents k nd hk h2; exact ⟨l, c, e.keep _ _ q1, q2, q3⟩
  noEnts := a.noEnts
  inj := a.inj
  injE := a.injE
  apart := a.apart
  apartE := a.apartE
  inO := a.inO
  inM := a.inM
  inN := a.inN
  inE := a.inE
  there j hj := by
    cases q : h.get j with
    | none => exact absurd q (a.there j hj)
    | some y => rw [e.keep _ _ q]; simp

/-- What is put over what is there. -/
theorem there_put (hh : ∀ j, S j → h.get j ≠ none) (x : Nat) (y : AObj) : ∀ j, S j → (h.put x y).get j ≠ none := fun j hj => by
  rw [AHeap.get_put]
  split
  · simp
  · exact hh j hj

theorem entR_put {e x : Nat} {ents : NE} {y : AObj} (a : EntR h e ents) (hne : e ≠ x) : EntR (h.put x y) e ents := by
  obtain ⟨l, c, q1, q2, q3⟩ := a
  exact ⟨l, c, by rw [AHeap.get_put_ne _ _ hne]; exact q1, q2, q3⟩

theorem TR.m_ne_o (a : TR S h o tb L) : L.m ≠ o := fun e => by
  obtain ⟨l, c, q1, _⟩ := a.map
  rw [e, a.top] at q1; cases q1
theorem TR.ent_ne_o (a : TR S h o tb L) {k : Int} {nd : Nd} (hk : tb.nodes k = some nd) (h2 : nd.kind = 2) : L.ent k ≠ o := fun e => by
  obtain ⟨l, c, q1, _⟩ := a.ents k nd hk h2
  rw [e, a.top] at q1; cases q1
theorem TR.ent_ne_place (a : TR S h o tb L) {k j : Int} {nd nd' : Nd} (hk : tb.nodes k = some nd) (h2 : nd.kind = 2) (hj : tb.nodes j = some nd') : L.ent k ≠ L.place j := fun e => by
  obtain ⟨l, c, q1, _⟩ := a.ents k nd hk h2
  rw [e, a.node j nd' hj] at q1; cases q1
theorem TR.m_ne_place (a : TR S h o tb L) {j : Int} {nd' : Nd} (hj : tb.nodes j = some nd') : L.m ≠ L.place j := fun e => by
  obtain ⟨l, c, q1, _⟩ := a.map
  rw [e, a.node j nd' hj] at q1; cases q1

/-- Its own numbers. -/
theorem TR.setTop (a : TR S h o tb L) {tb' : Tb} (hn : tb'.nodes = tb.nodes) : TR S (h.put o (.cells (tbCells L tb') true)) o tb' L where
  top := AHeap.get_put_self _ _ _
  map := by
    obtain ⟨l, c, q1, q2, q3⟩ := a.map
    exact ⟨l, c, by rw [AHeap.get_put_ne _ _ a.m_ne_o]; exact q1, q2, by rw [hn]; exact q3⟩
  node k nd hk := by rw [hn] at hk; rw [AHeap.get_put_ne _ _ (a.apart k nd hk)]; exact a.node k nd hk
  ents k nd hk h2 := by rw [hn] at hk; exact entR_put (a.ents k nd hk h2) (a.ent_ne_o hk h2)
  noEnts := by rw [hn]; exact a.noEnts
  inj := by rw [hn]; exact a.inj
  injE := by rw [hn]; exact a.injE
  apart := by rw [hn]; exact a.apart
  apartE := by rw [hn]; exact a.apartE
  inO := a.inO
  inM := a.inM
  inN := by rw [hn]; exact a.inN
  inE := by rw [hn]; exact a.inE
  there := there_put a.there _ _

theorem upd_cases {f : Int → Option Nd} {k j : Int} {x : Option Nd} {nd : Nd} (h : upd f k x j = some nd) : (j = k ∧ x = some nd) ∨ (j ≠ k ∧ f j = some nd) := by
  by_cases e : j = k
  · subst e; rw [upd_self] at h; exact .inl ⟨rfl, h⟩
  · rw [upd_ne _ _ e] at h; exact .inr ⟨e, h⟩

/-- An inode's own cells. -/
theorem TR.setNode (a : TR S h o tb L) {k : Int} {nd nd' : Nd} (hk : tb.nodes k = some nd) (h1 : nd'.kind = nd.kind) (h2 : nd'.ents = nd.ents) :
    TR S (h.put (L.place k) (.cells (ndCells L k nd') true)) o { tb with nodes := upd tb.nodes k (some nd') } L where
  top := by rw [AHeap.get_put_ne _ _ (fun e => a.apart k nd hk e.symm)]; exact a.top
  map := by
    obtain ⟨l, c, q1, q2, q3⟩ := a.map
    refine ⟨l, c, by rw [AHeap.get_put_ne _ _ (a.m_ne_place hk)]; exact q1, q2, fun j => ?_⟩
    rw [q3]
    by_cases e : j = k
    · subst e; show _ = Option.map _ (upd _ _ _ _); rw [upd_self, hk]; rfl
    · show _ = Option.map _ (upd _ _ _ _); rw [upd_ne _ _ e]
  node j x hj := by
    rcases upd_cases hj with ⟨rfl, hx⟩ | ⟨e, hx⟩
    · cases hx; exact AHeap.get_put_self _ _ _
    · rw [AHeap.get_put_ne _ _ (fun e2 => e (a.inj _ _ _ _ hx hk e2))]; exact a.node j x hx
  ents j x hj h3 := by
    rcases upd_cases hj with ⟨rfl, hx⟩ | ⟨e, hx⟩
    · cases hx; rw [h2]; rw [h1] at h3; exact entR_put (a.ents _ nd hk h3) (a.ent_ne_place hk h3 hk)
    · exact entR_put (a.ents j x hx h3) (a.ent_ne_place hx h3 hk)
  noEnts j x hj h3 := by
    rcases upd_cases hj with ⟨rfl, hx⟩ | ⟨e, hx⟩
    · cases hx; rw [h2]; rw [h1] at h3; exact a.noEnts _ nd hk h3
    · exact a.noEnts j x hx h3
  inj i j x y hi hj := by
    rcases upd_cases hi with ⟨rfl, hx⟩ | ⟨_, hx⟩ <;> rcases upd_cases hj with ⟨rfl, hy⟩ | ⟨_, hy⟩
    · exact fun _ => rfl
    · exact a.inj _ _ _ _ hk hy
    · exact a.inj _ _ _ _ hx hk
    · exact a.inj _ _ _ _ hx hy
  injE i j x y hi hj h3 h4 := by
    rcases upd_cases hi with ⟨rfl, hx⟩ | ⟨_, hx⟩ <;> rcases upd_cases hj with ⟨rfl, hy⟩ | ⟨_, hy⟩
    · exact fun _ => rfl
    · cases hx; exact a.injE _ _ _ _ hk hy (h1 ▸ h3) h4
    · cases hy; exact a.injE _ _ _ _ hx hk h3 (h1 ▸ h4)
    · exact a.injE _ _ _ _ hx hy h3 h4
  apart j x hj := by
    rcases upd_cases hj with ⟨rfl, hx⟩ | ⟨e, hx⟩
    · exact a.apart _ _ hk
    · exact a.apart _ _ hx
  apartE j x hj h3 := by
    rcases upd_cases hj with ⟨rfl, hx⟩ | ⟨e, hx⟩
    · cases hx; exact a.apartE _ _ hk (h1 ▸ h3)
    · exact a.apartE _ _ hx h3
  inO := a.inO
  inM := a.inM
  inN j x hj := by
    rcases upd_cases hj with ⟨rfl, hx⟩ | ⟨e, hx⟩
    · exact a.inN _ _ hk
    · exact a.inN _ _ hx
  inE j x hj h3 := by
    rcases upd_cases hj with ⟨rfl, hx⟩ | ⟨e, hx⟩
    · cases hx; exact a.inE _ _ hk (h1 ▸ h3)
    · exact a.inE _ _ hx h3
  there := there_put a.there _ _

/-- A directory's entries. -/
theorem TR.setEnts (a : TR S h o tb L) {k : Int} {nd : Nd} (hk : tb.nodes k = some nd) (h2 : nd.kind = 2) {l : SE} {clock : Nat} {ents : NE} (hl : NEq l ents) (hc : Once l clock) :
    TR S (h.put (L.ent k) (.map (strE l) clock)) o { tb with nodes := upd tb.nodes k (some { nd with ents := ents }) } L where
  top := by rw [AHeap.get_put_ne _ _ (fun e => a.ent_ne_o hk h2 e.symm)]; exact a.top
  map := by
    obtain ⟨l, c, q1, q2, q3⟩ := a.map
    refine ⟨l, c, by rw [AHeap.get_put_ne _ _ (fun e => a.apartE k nd hk h2 e.symm)]; exact q1, q2, fun j => ?_⟩
    rw [q3]
    by_cases e : j = k
    · subst e; show _ = Option.map _ (upd _ _ _ _); rw [upd_self, hk]; rfl
    · show _ = Option.map _ (upd _ _ _ _); rw [upd_ne _ _ e]
  node j x hj := by
    rcases upd_cases hj with ⟨rfl, hx⟩ | ⟨e, hx⟩
    · cases hx; rw [AHeap.get_put_ne _ _ (fun e => a.ent_ne_place hk h2 hk e.symm)]; exact a.node _ nd hk
    · rw [AHeap.get_put_ne _ _ (fun e => a.ent_ne_place hk h2 hx e.symm)]; exact a.node j x hx
  ents j x hj h3 := by
    rcases upd_cases hj with ⟨rfl, hx⟩ | ⟨e, hx⟩
    · cases hx; exact ⟨l, clock, AHeap.get_put_self _ _ _, hl, hc⟩
    · exact entR_put (a.ents j x hx h3) (fun e2 => e (a.injE _ _ _ _ hx hk h3 h2 e2))
  noEnts j x hj h3 := by
    rcases upd_cases hj with ⟨rfl, hx⟩ | ⟨e, hx⟩
    · cases hx; exact absurd h2 h3
    · exact a.noEnts j x hx h3
  inj i j x y hi hj := by
    rcases upd_cases hi with ⟨rfl, hx⟩ | ⟨_, hx⟩ <;> rcases upd_cases hj with ⟨rfl, hy⟩ | ⟨_, hy⟩
    · exact fun _ => rfl
    · exact a.inj _ _ _ _ hk hy
    · exact a.inj _ _ _ _ hx hk
    · exact a.inj _ _ _ _ hx hy
  injE i j x y hi hj h3 h4 := by
    rcases upd_cases hi with ⟨rfl, hx⟩ | ⟨_, hx⟩ <;> rcases upd_cases hj with ⟨rfl, hy⟩ | ⟨_, hy⟩
    · exact fun _ => rfl
    · exact a.injE _ _ _ _ hk hy h2 h4
    · exact a.injE _ _ _ _ hx hk h3 h2
    · exact a.injE _ _ _ _ hx hy h3 h4
  apart j x hj := by
    rcases upd_cases hj with ⟨rfl, hx⟩ | ⟨e, hx⟩
    · exact a.apart _ _ hk
    · exact a.apart _ _ hx
  apartE j x hj h3 := by
    rcases upd_cases hj with ⟨rfl, hx⟩ | ⟨e, hx⟩
    · exact a.apartE _ _ hk h2
    · exact a.apartE _ _ hx h3
  inO := a.inO
  inM := a.inM
  inN j x hj := by
    rcases upd_cases hj with ⟨rfl, hx⟩ | ⟨e, hx⟩
    · exact a.inN _ _ hk
    · exact a.inN _ _ hx
  inE j x hj h3 := by
    rcases upd_cases hj with ⟨rfl, hx⟩ | ⟨e, hx⟩
    · exact a.inE _ _ hk h2
    · exact a.inE _ _ hx h3
  there := there_put a.there _ _

/-- An inode that goes. -/
theorem TR.delNode (a : TR S h o tb L) {k : Int} {l : IE} {clock : Nat} (hm : h.get L.m = some (.map (intE l) clock)) (hnd : (l.map (·.1)).Nodup) (hl : ∀ k, getI k l = (tb.nodes k).map fun _ => .ptr (L.place k) 0) :
    TR S (h.put L.m (.map (intE (delI k l)) clock)) o { tb with nodes := upd tb.nodes k none } L where
  top := by rw [AHeap.get_put_ne _ _ (fun e => a.m_ne_o e.symm)]; exact a.top
  map := by
    refine ⟨delI k l, clock, AHeap.get_put_self _ _ _, ?_, fun j => ?_⟩
    · have : (delI k l).map (·.1) = (l.map (·.1)).filter fun q => decide (q ≠ k) := by
        simp only [delI, List.filter_map]; rfl
      rw [this]; exact hnd.filter _
    · rw [getI_del, hl]
      by_cases e : j = k
      · subst e; show _ = Option.map _ (upd _ _ _ _); rw [upd_self]; simp
      · show _ = Option.map _ (upd _ _ _ _); rw [upd_ne _ _ e]; simp [e]
  node j x hj := by
    rcases upd_cases hj with ⟨rfl, hx⟩ | ⟨e, hx⟩
    · cases hx
    · rw [AHeap.get_put_ne _ _ (fun e => a.m_ne_place hx e.symm)]; exact a.node j x hx
  ents j x hj h3 := by
    rcases upd_cases hj with ⟨rfl, hx⟩ | ⟨e, hx⟩
    · cases hx
    · exact entR_put (a.ents j x hx h3) (a.apartE _ _ hx h3)
  noEnts j x hj h3 := by
    rcases upd_cases hj with ⟨rfl, hx⟩ | ⟨e, hx⟩
    · cases hx
    · exact a.noEnts j x hx h3
  inj i j x y hi hj := by
    rcases upd_cases hi with ⟨rfl, hx⟩ | ⟨_, hx⟩ <;> rcases upd_cases hj with ⟨rfl, hy⟩ | ⟨_, hy⟩
    · exact fun _ => rfl
    · cases hx
    · cases hy
    · exact a.inj _ _ _ _ hx hy
  injE i j x y hi hj h3 h4 := by
    rcases upd_cases hi with ⟨rfl, hx⟩ | ⟨_, hx⟩ <;> rcases upd_cases hj with ⟨rfl, hy⟩ | ⟨_, hy⟩
    · exact fun _ => rfl
    · cases hx
    · cases hy
    · exact a.injE _ _ _ _ hx hy h3 h4
  apart j x hj := by
    rcases upd_cases hj with ⟨rfl, hx⟩ | ⟨e, hx⟩
    · cases hx
    · exact a.apart _ _ hx
  apartE j x hj h3 := by
    rcases upd_cases hj with ⟨rfl, hx⟩ | ⟨e, hx⟩
    · cases hx
    · exact a.apartE _ _ hx h3
  inO := a.inO
  inM := a.inM
  inN j x hj := by
    rcases upd_cases hj with ⟨rfl, hx⟩ | ⟨e, hx⟩
    · cases hx
    · exact a.inN _ _ hx
  inE j x hj h3 := by
    rcases upd_cases hj with ⟨rfl, hx⟩ | ⟨e, hx⟩
    · cases hx
    · exact a.inE _ _ hx h3
  there := there_put a.there _ _

def Lay.set (L : Lay) (k : Int) (a e : Nat) : Lay := ⟨L.m, fun j => if j = k then a else L.place j, fun j => if j = k then e else L.ent j⟩
theorem Lay.set_place (L : Lay) (k : Int) (a e : Nat) : (L.set k a e).place k = a := if_pos rfl
theorem Lay.set_place_ne (L : Lay) {k j : Int} (a e : Nat) (h : j ≠ k) : (L.set k a e).place j = L.place j := if_neg h
theorem Lay.set_ent (L : Lay) (k : Int) (a e : Nat) : (L.set k a e).ent k = e := if_pos rfl
theorem Lay.set_ent_ne (L : Lay) {k j : Int} (a e : Nat) (h : j ≠ k) : (L.set k a e).ent j = L.ent j := if_neg h
theorem Lay.set_cells (L : Lay) {k j : Int} (a e : Nat) (h : j ≠ k) (nd : Nd) : ndCells (L.set k a e) j nd = ndCells L j nd := by
  simp only [ndCells, evOf, Lay.set_ent_ne _ _ _ h]

/-- An inode that comes. -/
theorem TR.addNode (a : TR S h o tb L) {k : Int} {nd : Nd} {x e : Nat} {l : IE} {clock : Nat} (hm : h.get L.m = some (.map (intE l) clock)) (hnd : (l.map (·.1)).Nodup) (hl : ∀ k, getI k l = (tb.nodes k).map fun _ => .ptr (L.place k) 0)
    (hk : tb.nodes k = none) (hx : h.get x = some (.cells (ndCells (L.set k x e) k nd) true)) (hxS : ¬ S x) (he : nd.kind = 2 → EntR h e nd.ents ∧ ¬ S e) (hne : nd.kind ≠ 2 → nd.ents = []) :
    TR (fun j => S j ∨ j = x ∨ (nd.kind = 2 ∧ j = e)) (h.put L.m (.map (intE (l ++ [(k, .ptr x 0, clock)])) (clock + 1))) o { tb with nodes := upd tb.nodes k (some nd) } (L.set k x e) where
  top := by rw [AHeap.get_put_ne _ _ (fun e => a.m_ne_o e.symm)]; exact a.top
  map := by
    refine ⟨_, _, AHeap.get_put_self _ _ _, ?_, fun j => ?_⟩
    · rw [List.map_append, List.nodup_append]
      refine ⟨hnd, by simp, fun p hp q hq => ?_⟩
      have hq : q = k := by simpa using hq
      subst hq
      have : q ∉ l.map (·.1) := getI_none.1 (by rw [hl, hk]; rfl)
      exact fun e => this (e ▸ hp)
    · rw [getI_append, hl]
      by_cases e : j = k
      · subst e; show _ = Option.map _ (upd _ _ _ _); rw [upd_self, hk, Lay.set_place]; simp [getI]
      · show _ = Option.map _ (upd _ _ _ _); rw [upd_ne _ _ e, Lay.set_place_ne _ _ _ e]
        cases tb.nodes j with
        | none => simp [getI, e]
        | some y => rfl
  node j y hj := by
    rcases upd_cases hj with ⟨rfl, hy⟩ | ⟨e1, hy⟩
    · cases hy; rw [Lay.set_place, AHeap.get_put_ne _ _ (show x ≠ L.m from fun e2 => hxS (e2 ▸ a.inM))]; exact hx
    · rw [Lay.set_place_ne _ _ _ e1, Lay.set_cells _ _ _ e1, AHeap.get_put_ne _ _ (fun e => a.m_ne_place hy e.symm)]; exact a.node j y hy
  ents j y hj h3 := by
    rcases upd_cases hj with ⟨rfl, hy⟩ | ⟨e1, hy⟩
    · cases hy; rw [Lay.set_ent]; exact entR_put (he h3).1 (fun e2 => (he h3).2 (show S e from e2 ▸ a.inM))
    · rw [Lay.set_ent_ne _ _ _ e1]; exact entR_put (a.ents j y hy h3) (a.apartE _ _ hy h3)
  noEnts j y hj h3 := by
    rcases upd_cases hj with ⟨rfl, hy⟩ | ⟨e1, hy⟩
    · cases hy; exact hne h3
    · exact a.noEnts j y hy h3
  inj i j y z hi hj := by
    rcases upd_cases hi with ⟨rfl, hy⟩ | ⟨e1, hy⟩ <;> rcases upd_cases hj with ⟨rfl, hz⟩ | ⟨e2, hz⟩
    · exact fun _ => rfl
    · rw [Lay.set_place, Lay.set_place_ne _ _ _ e2]; exact fun e3 => absurd (e3 ▸ a.inN _ _ hz) hxS
    · rw [Lay.set_place, Lay.set_place_ne _ _ _ e1]; exact fun e3 => absurd (e3 ▸ a.inN _ _ hy) hxS
    · rw [Lay.set_place_ne _ _ _ e1, Lay.set_place_ne _ _ _ e2]; exact a.inj _ _ _ _ hy hz
  injE i j y z hi hj h3 h4 := by
    rcases upd_cases hi with ⟨rfl, hy⟩ | ⟨e1, hy⟩ <;> rcases upd_cases hj with ⟨rfl, hz⟩ | ⟨e2, hz⟩
    · exact fun _ => rfl
    · cases hy; rw [Lay.set_ent, Lay.set_ent_ne _ _ _ e2]; exact fun e3 => absurd (show S e from e3 ▸ a.inE _ _ hz h4) (he h3).2
    · cases hz; rw [Lay.set_ent, Lay.set_ent_ne _ _ _ e1]; exact fun e3 => absurd (show S e from e3 ▸ a.inE _ _ hy h3) (he h4).2
    · rw [Lay.set_ent_ne _ _ _ e1, Lay.set_ent_ne _ _ _ e2]; exact a.injE _ _ _ _ hy hz h3 h4
  apart j y hj := by
    rcases upd_cases hj with ⟨rfl, hy⟩ | ⟨e1, hy⟩
    · rw [Lay.set_place]; exact fun e3 => hxS (e3 ▸ a.inO)
    · rw [Lay.set_place_ne _ _ _ e1]; exact a.apart _ _ hy
  apartE j y hj h3 := by
    rcases upd_cases hj with ⟨rfl, hy⟩ | ⟨e1, hy⟩
    · cases hy; rw [Lay.set_ent]; exact fun e3 => (he h3).2 (show S e from e3 ▸ a.inM)
    · rw [Lay.set_ent_ne _ _ _ e1]; exact a.apartE _ _ hy h3
  inO := .inl a.inO
  inM := .inl a.inM
  inN j y hj := by
    rcases upd_cases hj with ⟨rfl, hy⟩ | ⟨e1, hy⟩
    · rw [Lay.set_place]; exact .inr (.inl rfl)
    · rw [Lay.set_place_ne _ _ _ e1]; exact .inl (a.inN _ _ hy)
  inE j y hj h3 := by
    rcases upd_cases hj with ⟨rfl, hy⟩ | ⟨e1, hy⟩
    · cases hy; rw [Lay.set_ent]; exact .inr (.inr ⟨h3, rfl⟩)
    · rw [Lay.set_ent_ne _ _ _ e1]; exact .inl (a.inE _ _ hy h3)
  there j hj := by
    rw [AHeap.get_put]
    split
    · simp
    · rcases hj with hj | rfl | ⟨h2, rfl⟩
      · exact a.there j hj
      · rw [hx]; simp
      · obtain ⟨⟨l, c, q, _⟩, _⟩ := he h2
        rw [q]; simp
end

end Go.Am
