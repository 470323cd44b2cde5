/-
  InodeLinks: the table, in plain Lean.
  InodeLinks: the walk.
  InodeLinks: an element that is cut out of a row.
  InodeLinks: the second loop.
  InodeLinks: the first loop, and the whole.
  A table of inodes, told by a list of edges: what each operation does to them.
  What holds of a table of inodes and its edges.
  What holds of every table: kept by Make.
  What holds of every table: kept by Link, Write, Chmod.
  What holds of every table: kept by Link.
  What holds of every table: kept by Unlink.
  What holds of every table: kept by Move.
  What is used of a table of inodes.
  A table of inodes, after any acts.
  Each act on a table of inodes, as the machine runs it.
  whisklaw07.small: an act by small numbers.
  InodeUndone, the plain part: what was made, moved, moved back and let go leaves all as it was.
  InodeUndone, the plain part: a fresh file is made, moved, moved back, let go.
  InodeUndone: the walk.
  What arguments read as, in the abstract heap.
-/
import Derived.Test.YtaolgkpabgmnkaaMH

set_option linter.unusedVariables false
set_option linter.unusedSimpArgs false
namespace Go.Am
open Go Go.Proofs

/-- Names: one letter. -/
def nm (i : Nat) : Bs := [UInt8.ofNat (97 + i)]

theorem nm_inj12 {i j : Nat} (hi : i < 12) (hj : j < 12) (h : nm i = nm j) : i = j := by
  have : ∀ i : Fin 12, ∀ j : Fin 12, nm i.val = nm j.val → i = j := by decide
  have := this ⟨i, hi⟩ ⟨j, hj⟩ h
  exact congrArg Fin.val this

theorem nm_good {i : Nat} (hi : i < 12) : nameE (nm i) = 0 := by
  have : ∀ i : Fin 12, nameE (nm i.val) = 0 := by decide
  exact this ⟨i, hi⟩

theorem nm_any {i : Nat} (hi : i < 12) : AnyOK (nm i) := by
  have : ∀ i : Fin 12, (nm i.val).all (fun b => Nat.blt b.toNat 128) = true := by decide
  exact anyOK_ascii (by simp [nm]) (this ⟨i, hi⟩)

def three (E1 E2 : NE) (dat : Bs) (n : Int) : Int → Option Nd := fun k =>
  if k = 1 then some ⟨2, 493, [], 1, 1, E1⟩ else if k = 2 then some ⟨2, 493, [], 1, 1, E2⟩ else if k = 3 then some ⟨1, 420, dat, n, 0, []⟩ else none
def linkTb (E1 E2 : NE) (dat : Bs) (n : Int) : Tb := ⟨10, 300, 3, dat.length, 3, three E1 E2 dat n⟩

def dirOf (i : Nat) : Int := if i % 2 = 1 then 2 else 1
def entsOf (E1 E2 : NE) (i : Nat) : NE := if i % 2 = 1 then E2 else E1

structure LI (names : List Bs) (E1 E2 : NE) : Prop where
  get : ∀ i, i < 12 → getN (nm i) (entsOf E1 E2 i) = if nm i ∈ names then some 3 else none
  nodup : names.Nodup
  known : ∀ s ∈ names, ∃ i, i < 12 ∧ s = nm i

section
variable {names : List Bs} {E1 E2 : NE} {dat : Bs} {n : Int} {i : Nat}

theorem find_link (i : Nat) (s : Bs) : findT (linkTb E1 E2 dat n) (dirOf i) s = getN s (entsOf E1 E2 i) := by
  unfold dirOf entsOf
  by_cases h : i % 2 = 1
  · simp only [h, if_true]; rfl
  · simp only [h, if_false]; rfl

theorem dirE_link (i : Nat) : dirE (linkTb E1 E2 dat n) (dirOf i) = 0 := by
  unfold dirOf
  by_cases h : i % 2 = 1
  · simp only [h, if_true]; rfl
  · simp only [h, if_false]; rfl

def set1 (E1 : NE) (i : Nat) (f : NE → NE) : NE := if i % 2 = 1 then E1 else f E1
def set2 (E2 : NE) (i : Nat) (f : NE → NE) : NE := if i % 2 = 1 then f E2 else E2

theorem three_add (s : Bs) (m : Int) : addE (three E1 E2 dat n) (dirOf i) s m = three (set1 E1 i fun e => e ++ [(s, m)]) (set2 E2 i fun e => e ++ [(s, m)]) dat n := by
  funext k
  unfold addE dirOf set1 set2
  by_cases h : i % 2 = 1
  · simp only [h, if_true]
    by_cases h1 : k = 2
    · subst h1; rfl
    · show upd _ 2 _ k = _
      rw [upd_ne _ _ h1]
      by_cases h2 : k = 1
      · subst h2; rfl
      · simp [three, h1, h2]
  · simp only [h, if_false]
    by_cases h1 : k = 1
    · subst h1; rfl
    · show upd _ 1 _ k = _
      rw [upd_ne _ _ h1]
      simp [three, h1]
theorem three_del (s : Bs) : delE (three E1 E2 dat n) (dirOf i) s = three (set1 E1 i (delN s)) (set2 E2 i (delN s)) dat n := by
  funext k
  unfold delE dirOf set1 set2
  by_cases h : i % 2 = 1
  · simp only [h, if_true]
    by_cases h1 : k = 2
    · subst h1; rfl
    · show upd _ 2 _ k = _
      rw [upd_ne _ _ h1]
      by_cases h2 : k = 1
      · subst h2; rfl
      · simp [three, h1, h2]
  · simp only [h, if_false]
    by_cases h1 : k = 1
    · subst h1; rfl
    · show upd _ 1 _ k = _
      rw [upd_ne _ _ h1]
      simp [three, h1]
theorem three_put (dat' : Bs) (n' : Int) : upd (three E1 E2 dat n) 3 (some ⟨1, 420, dat', n', 0, []⟩) = three E1 E2 dat' n' := by
  funext k
  by_cases h : k = 3
  · subst h; rfl
  · rw [upd_ne _ _ h]
    simp [three, h]

theorem getSet {f : NE → NE} {g : Nat → Option Int → Option Int} (hg : ∀ j e, j < 12 → getN (nm j) (f e) = g j (getN (nm j) e)) {j : Nat} (hj : j < 12) (hsame : j % 2 = i % 2 → True) :
    getN (nm j) (entsOf (set1 E1 i f) (set2 E2 i f) j) = if j % 2 = i % 2 then g j (getN (nm j) (entsOf E1 E2 j)) else getN (nm j) (entsOf E1 E2 j) := by
  unfold entsOf set1 set2
  by_cases h1 : i % 2 = 1 <;> by_cases h2 : j % 2 = 1
  · simp [h1, h2, hg _ _ hj]
  · have : ¬ j % 2 = 1 := h2
    simp [h1, h2]
  · simp [h1, h2]
    omega
  · have e1 : i % 2 = 0 := by omega
    have e2 : j % 2 = 0 := by omega
    simp [e1, e2, hg _ _ hj]

/-- One more name. -/
theorem link_at (a : LI names E1 E2) (hi : i < 12) (hn : nm i ∉ names) :
    linkE (linkTb E1 E2 dat n) (dirOf i) (nm i) 3 = 0 ∧ ∃ F1 F2, linkT (linkTb E1 E2 dat n) (dirOf i) (nm i) 3 = linkTb F1 F2 dat (n + 1) ∧ LI (names ++ [nm i]) F1 F2 := by
  have hE : linkE (linkTb E1 E2 dat n) (dirOf i) (nm i) 3 = 0 := by
    refine firstE_zero.2 fun e he => ?_
    simp only [List.mem_cons, List.not_mem_nil, or_false] at he
    rcases he with rfl | rfl | rfl | rfl | rfl
    · rfl
    · exact dirE_link i
    · exact nm_good hi
    · rfl
    · simp only [freeE, find_link, a.get i hi, hn, if_false]; rfl
  refine ⟨hE, set1 E1 i fun e => e ++ [(nm i, 3)], set2 E2 i fun e => e ++ [(nm i, 3)], ?_, ?_⟩
  · rw [linkT, if_pos hE]
    have : incL (addE (linkTb E1 E2 dat n).nodes (dirOf i) (nm i) 3) 3 1 = three (set1 E1 i fun e => e ++ [(nm i, 3)]) (set2 E2 i fun e => e ++ [(nm i, 3)]) dat (n + 1) := by
      show incL (addE (three E1 E2 dat n) _ _ _) 3 1 = _
      rw [three_add, incL_some (nd := ⟨1, 420, dat, n, 0, []⟩) rfl]
      exact three_put dat (n + 1)
    rw [this]; rfl
  · refine ⟨fun j hj => ?_, ?_, ?_⟩
    · rw [getSet (g := fun j o => match o with | some v => some v | none => if nm j = nm i then some 3 else none) (fun j e _ => by rw [getN_append]; cases getN (nm j) e <;> simp [getN]) hj (fun _ => trivial), a.get j hj]
      by_cases e : j = i
      · subst e; simp [hn]
      · have hne : nm j ≠ nm i := fun h => e (nm_inj12 hj hi h)
        by_cases hm : nm j ∈ names <;> simp [hm, hne]
    · rw [List.nodup_append]
      exact ⟨a.nodup, by simp, fun x hx y hy => by have := List.mem_singleton.1 hy; subst this; exact fun e => hn (e ▸ hx)⟩
    · intro s hs
      rcases List.mem_append.1 hs with hs | hs
      · exact a.known s hs
      · exact ⟨i, hi, List.mem_singleton.1 hs⟩

theorem write_at {dat' : Bs} (h1 : dat.length ≤ 300) (h2 : dat'.length ≤ 300) : writeE (linkTb E1 E2 dat n) 3 dat' = 0 ∧ writeT (linkTb E1 E2 dat n) 3 dat' = linkTb E1 E2 dat' n := by
  have hE : writeE (linkTb E1 E2 dat n) 3 dat' = 0 := by
    refine firstE_zero.2 fun e he => ?_
    simp only [List.mem_cons, List.not_mem_nil, or_false] at he
    rcases he with rfl | rfl | rfl
    · rfl
    · rfl
    · show roomE (linkTb E1 E2 dat n) 0 ((dat'.length : Int) - dat.length) = 0
      unfold roomE
      rw [if_pos]
      show (3 : Int) + 0 ≤ 10 ∧ (dat.length : Int) + ((dat'.length : Int) - dat.length) ≤ 300
      omega
  refine ⟨hE, ?_⟩
  rw [writeT, if_pos hE]
  show (⟨10, 300, 3, (dat.length : Int) + ((dat'.length : Int) - dat.length), 3, upd (three E1 E2 dat n) 3 (some ⟨1, 420, dat', n, 0, []⟩)⟩ : Tb) = _
  rw [three_put]
  have : (dat.length : Int) + ((dat'.length : Int) - dat.length) = dat'.length := by omega
  rw [this]; rfl

/-- One name less. -/
theorem unlink_at (a : LI names E1 E2) (hi : i < 12) (hn : nm i ∈ names) :
    findT (linkTb E1 E2 dat n) (dirOf i) (nm i) = some 3 ∧ unlinkE (linkTb E1 E2 dat n) (dirOf i) (nm i) = 0 ∧ ∃ F1 F2, LI (names.filter fun s => decide (s ≠ nm i)) F1 F2 ∧
      unlinkT (linkTb E1 E2 dat n) (dirOf i) (nm i) = (if n = 1 then ⟨10, 300, 2, 0, 3, upd (three F1 F2 dat n) 3 none⟩ else linkTb F1 F2 dat (n - 1)) := by
  have hf : findT (linkTb E1 E2 dat n) (dirOf i) (nm i) = some 3 := by rw [find_link, a.get i hi, if_pos hn]
  have hE : unlinkE (linkTb E1 E2 dat n) (dirOf i) (nm i) = 0 := by
    refine firstE_zero.2 fun e he => ?_
    simp only [List.mem_cons, List.not_mem_nil, or_false] at he
    rcases he with rfl | rfl | rfl | rfl
    · rfl
    · exact dirE_link i
    · simp only [entryE, hf]; rfl
    · simp only [emptyE, hf]; rfl
  refine ⟨hf, hE, set1 E1 i (delN (nm i)), set2 E2 i (delN (nm i)), ⟨fun j hj => ?_, a.nodup.filter _, fun s hs => a.known s (List.mem_filter.1 hs).1⟩, ?_⟩
  · rw [getSet (g := fun j o => if nm j = nm i then none else o) (fun j e _ => getN_del) hj (fun _ => trivial), a.get j hj]
    by_cases e : j = i
    · subst e; simp
    · have hne : nm j ≠ nm i := fun h => e (nm_inj12 hj hi h)
      simp [hne]
  · rw [unlinkT, if_pos hE, hf]
    show goneT (linkTb E1 E2 dat n) (delE (three E1 E2 dat n) (dirOf i) (nm i)) 3 = _
    rw [three_del]
    have h3 : three (set1 E1 i (delN (nm i))) (set2 E2 i (delN (nm i))) dat n 3 = some ⟨1, 420, dat, n, 0, []⟩ := rfl
    simp only [goneT, h3]
    by_cases h1 : n = 1
    · have h0 : n - 1 = 0 := by omega
      rw [if_pos h0, if_pos h1]
      show (⟨10, 300, 3 - 1, (dat.length : Int) - dat.length, 3, _⟩ : Tb) = _
      have : (dat.length : Int) - dat.length = 0 := by omega
      rw [this]; rfl
    · have h0 : ¬ n - 1 = 0 := by omega
      rw [if_neg h0, if_neg h1]
      rw [three_put]; rfl
end
end Go.Am

set_option linter.unusedVariables false
set_option linter.unusedSimpArgs false
namespace Go.Am
open Go Go.Proofs

theorem ty5 : tab.get 5 = some ⟨.int .u8, 1, 1, false, .int .u8 0⟩ := rfl
theorem ty22 : tab.get 22 = some ⟨.slice 5, 1, 24, false, .nilslice⟩ := rfl
theorem ty30 : tab.get 30 = some ⟨.slice 9, 1, 24, false, .nilslice⟩ := rfl

/-- What is the table's own is kept. -/
theorem TR.kept {S : Nat → Prop} {h h' : AHeap} {o : Nat} {tb : Tb} {L : Lay} (a : TR S h o tb L) (e : ∀ j y, S j → h.get j = some y → h'.get j = some y) : TR S h' o tb L where
  top := e _ _ a.inO a.top
  map := by obtain ⟨l, c, q1, q2, q3⟩ := a.map; exact ⟨l, c, e _ _ a.inM q1, q2, q3⟩
  node k nd hk := e _ _ (a.inN k nd hk) (a.node k nd hk)
  ents k nd hk h2 := by obtain ⟨l, c, q1, q2, q3⟩ := a.ents k nd hk h2; exact ⟨l, c, e _ _ (a.inE k nd hk h2) q1, q2, q3⟩
  noEnts := a.noEnts
  inj := a.inj
  injE := a.injE
  apart := a.apart
  apartE := a.apartE
  inO := a.inO
  inM := a.inM
  inN := a.inN
  inE := a.inE
  there j hj := by
    cases q : h.get j with
    | none => exact absurd q (a.there j hj)
    | some y => rw [e _ _ hj q]; simp

/-- A table, made behind h0, and a row of one's own beside it. -/
structure LS (h0 : AHeap) (S : Nat → Prop) (h : AHeap) (o : Nat) (tb : Tb) (L : Lay) (v : AV) (l : List Bs) : Prop where
  tr : TR S h o tb L
  far : ∀ j, S j → h0.get j = none
  ext : Ext h0 h
  own : Own h0 h v l.length 1 (l.map .str)
  apart : ∀ j n e, S j → v ≠ .slice j 0 n e

section
variable {h0 : AHeap} {S : Nat → Prop} {h : AHeap} {o : Nat} {tb : Tb} {L : Lay} {v : AV} {l : List Bs}

theorem LS.step (a : LS h0 S h o tb L v l) {S' : Nat → Prop} {h' : AHeap} {tb' : Tb} {L' : Lay} (t : TR S' h' o tb' L') (s : Step S h S' h') : LS h0 S' h' o tb' L' v l where
  tr := t
  far j hj := (s.new j hj).elim (a.far j) fun e => a.ext.none e
  ext := ⟨fun j y e => s.keep j y (a.ext.keep j y e) (fun hs => by rw [a.far j hs] at e; cases e), s.wf⟩
  own := by
    obtain ⟨q1, q2⟩ := a.own
    refine ⟨q1, ?_⟩
    rcases q2 with q2 | ⟨x, rfl, q3, q4⟩
    · exact .inl q2
    · exact .inr ⟨x, rfl, s.keep _ _ q3 fun hs => a.apart x _ _ hs rfl, q4⟩
  apart j n e hj hv := by
    rcases s.new j hj with hs | hn
    · exact a.apart j n e hs hv
    · exact a.own.row.there hv hn

theorem LS.grow (a : LS h0 S h o tb L v l) {h' : AHeap} (x : Ext h h') : LS h0 S h' o tb L v l := a.step (a.tr.ext x) x.step

theorem LS.wf (a : LS h0 S h o tb L v l) : h.WF := a.ext.wf
theorem LS.row (a : LS h0 S h o tb L v l) : Row h v l.length 1 (l.map .str) := a.own.row

/-- One name more. -/
theorem LS.push (a : LS h0 S h o tb L v l) (s : Bs) (hn : l.length < 1000000) :
    ∃ y h1 v' h', abuildSlice tab h 30 1 [(0, .str s)] = some (y, h1) ∧ aappend tab h1 30 30 v y = some (v', h') ∧ LS h0 S h' o tb L v' (l ++ [s]) := by
  obtain ⟨y, h1, v', h', q1, q2, q3, q4, q5, q6⟩ := pushK (T := tab) (h0 := h0) (x := .str s) (esz := 1) ty30 ty9 rfl rfl (by decide) (Nat.le_refl _) (by omega) a.own a.wf (fun j hj => by
    cases e : h0.get j with
    | none => exact absurd e hj
    | some y => rw [a.ext.keep _ _ e]; simp) rfl rfl rfl (by omega)
  refine ⟨y, h1, v', h', q1, q2, ?_, a.far, q4.ext a.ext, by
    have e1 : (l ++ [s]).length = l.length + 1 := by simp
    have e2 : (l ++ [s]).map AV.str = l.map AV.str ++ (AV.str s).cells := by simp [AV.cells]
    rw [e1, e2]; exact q3, fun j n e hj => q6 j (a.tr.there j hj) n e⟩
  exact a.tr.kept fun j y hj e => q5 j y e fun n e' => a.apart j n e' hj
end

theorem name_run {h : AHeap} (hw : h.WF) {i : Nat} (hi : i < 12) :
    ∃ x4 x6 x7 h8, aconvert tab h 3 5 (.int .i64 (i : Int)) = some (x4, h) ∧ abin tab .add 5 (.int .u8 97) x4 = some x6 ∧ abuildSlice tab h 22 1 [(0, x6)] = some (x7, h8) ∧ aconvert tab h8 22 9 x7 = some (.str (nm i), h8) ∧ Ext h h8 := by
  have e1 : aconvert tab h 3 5 (.int .i64 (i : Int)) = some (.int .u8 (awrap .u8 (i : Int)), h) := rfl
  have e2 : abin tab .add 5 (.int .u8 97) (.int .u8 (awrap .u8 (i : Int))) = some (.int .u8 (awrap .u8 (97 + awrap .u8 (i : Int)))) := rfl
  have e3 : awrap .u8 (97 + awrap .u8 (i : Int)) = ((97 + i : Nat) : Int) := by
    have : ∀ j : Fin 14, awrap .u8 (97 + awrap .u8 (j.val : Int)) = ((97 + j.val : Nat) : Int) := by decide
    exact this ⟨i, by omega⟩
  have e4 : abuildSlice tab h 22 1 [(0, .int .u8 ((97 + i : Nat) : Int))] = some (.slice h.next 0 1 1, h.add (.cells [.int .u8 ((97 + i : Nat) : Int)] true)) := rfl
  have e5 : aconvert tab (h.add (.cells [.int .u8 ((97 + i : Nat) : Int)] true)) 22 9 (.slice h.next 0 1 1) = some (.str (nm i), h.add (.cells [.int .u8 ((97 + i : Nat) : Int)] true)) := by
    have : rowOf (h.add (.cells [.int .u8 ((97 + i : Nat) : Int)] true)) (.slice h.next 0 1 1) 1 = some [.int .u8 ((97 + i : Nat) : Int)] := by
      simp [rowOf, AHeap.get_add_self, cut, ble_dec]
    simp only [aconvert, ty22, ty9, ty5, this]
    rfl
  exact ⟨_, _, _, _, e1, by rw [e2, e3], e4, e5, (Ext.refl hw).add _⟩

theorem small_link {E1 E2 : NE} {dat : Bs} {n : Int} (h : dat.length ≤ 300) : Small (linkTb E1 E2 dat n) :=
  ⟨by show (0 : Int) ≤ 10 ∧ (10 : Int) ≤ 1048576; omega, by show (0 : Int) ≤ 300 ∧ (300 : Int) ≤ 1073741824; omega, by show (0 : Int) ≤ 3 ∧ (3 : Int) ≤ 1048576; omega, by show (0 : Int) ≤ (dat.length : Int) ∧ (dat.length : Int) ≤ 1073741824; omega⟩

theorem three3 {E1 E2 : NE} {dat : Bs} {n : Int} {nd : Nd} (h : (linkTb E1 E2 dat n).nodes 3 = some nd) : nd = ⟨1, 420, dat, n, 0, []⟩ := by
  have : (linkTb E1 E2 dat n).nodes 3 = some ⟨1, 420, dat, n, 0, []⟩ := rfl
  rw [this] at h; cases h; rfl

def namesUpTo (i : Nat) : List Bs := (List.range i).map nm

theorem nm_not_in {i : Nat} (hi : i < 12) : nm i ∉ namesUpTo i := by
  intro h
  obtain ⟨j, hj, e⟩ := List.mem_map.1 h
  have hj := List.mem_range.1 hj
  have := nm_inj12 (by omega) hi e
  omega

end Go.Am

set_option linter.unusedVariables false
set_option linter.unusedSimpArgs false
namespace Go.Am
open Go Go.Proofs

theorem upTo_zero {d b : Nat} (hd : d = 0) : upTo none d b = upTo (some (.int .i64 0)) d b := by
  subst hd
  show some 0 = (bif Nat.ble 0 b then some 0 else none)
  rfl
theorem aslice_lo {v : AV} {hi : Option AV} : aslice tab 30 v none hi = aslice tab 30 v (some (.int .i64 0)) hi := by
  unfold aslice
  simp only [upTo_zero (d := 0) rfl]
theorem upTo_full {b : Nat} : upTo none b b = upTo (some (.int .i64 (b : Int))) b b := by
  show some b = (bif Nat.ble b b then some b else none)
  rw [Nat.ble_eq_true_of_le (Nat.le_refl b)]; rfl

theorem aslice_hi {h : AHeap} {v : AV} {n : Nat} {vs : List AV} (r : Row h v n 1 vs) {lo : Option AV} : aslice tab 30 v lo none = aslice tab 30 v lo (some (.int .i64 (n : Int))) := by
  rcases r.2 with ⟨rfl, rfl⟩ | ⟨rfl, rfl⟩ | ⟨o, off, ws, rw, rfl, _⟩
  · simp only [aslice, ty30, ty9]
    rw [upTo_full (b := 0)]
  · simp only [aslice, ty30, ty9]
    rw [upTo_full (b := 0)]
  · simp only [aslice, ty30, ty9]
    rw [upTo_full (b := n)]

theorem filter_erase {l : List Bs} (hn : l.Nodup) {i : Nat} (hi : i < l.length) : l.take i ++ l.drop (i + 1) = l.filter fun s => decide (s ≠ l[i]) := by
  have e : l = l.take i ++ l[i] :: l.drop (i + 1) := by rw [← List.drop_eq_getElem_cons hi, List.take_append_drop]
  have hn2 : (l.take i ++ l[i] :: l.drop (i + 1)).Nodup := e ▸ hn
  rw [List.nodup_append] at hn2
  obtain ⟨_, h2, h3⟩ := hn2
  rw [List.nodup_cons] at h2
  generalize l[i] = x at e h2 h3
  have e2 : l.filter (fun s => decide (s ≠ x)) = (l.take i ++ x :: l.drop (i + 1)).filter (fun s => decide (s ≠ x)) := congrArg _ e
  rw [e2, List.filter_append, List.filter_cons]
  simp only [ne_eq, not_true_eq_false, decide_false, Bool.false_eq_true, if_false]
  congr 1
  · exact (List.filter_eq_self.2 fun y hy => by simpa using h3 y hy x List.mem_cons_self).symm
  · exact (List.filter_eq_self.2 fun y hy => by simp only [decide_eq_true_eq]; exact fun e => h2.1 (e ▸ hy)).symm

section
variable {h0 : AHeap} {S : Nat → Prop} {h : AHeap} {o : Nat} {tb : Tb} {L : Lay} {v : AV} {l : List Bs}

theorem LS.cut (a : LS h0 S h o tb L v l) (hn : l.length < 1000000) {i : Nat} (hi : i < l.length) :
    ∃ x84 h85 x86 x88 x89 h90 x91 h92, abuildSlice tab h 30 0 [] = some (x84, h85) ∧ aslice tab 30 v none (some (.int .i64 (i : Int))) = some x86 ∧ aslice tab 30 v (some (.int .i64 ((i + 1 : Nat) : Int))) none = some x88 ∧ aappend tab h85 30 30 x84 x86 = some (x89, h90) ∧ aappend tab h90 30 30 x89 x88 = some (x91, h92) ∧
      LS h0 S h92 o tb L x91 (l.take i ++ l.drop (i + 1)) := by
  have hvl : (l.map AV.str).length = l.length := by simp
  obtain ⟨x86, s1, r1⟩ := a.row.sub ty30 ty9 rfl (lo := 0) (hi := i) (by omega) (by omega) (k1 := .i64) (k2 := .i64)
  obtain ⟨x88, s2, r2⟩ := a.row.sub ty30 ty9 rfl (lo := i + 1) (hi := l.length) (by omega) (Nat.le_refl _) (k1 := .i64) (k2 := .i64)
  have b1 : abuildSlice tab h 30 0 [] = some (.slice h.next 0 0 1, h.add (.cells [] true)) := rfl
  have w0 := a.wf
  have x1 : Ext h (h.add (.cells [] true)) := (Ext.refl w0).add _
  have o1 : Own h0 (h.add (.cells [] true)) (.slice h.next 0 0 1) 0 1 [] := ⟨rfl, .inr ⟨_, rfl, AHeap.get_add_self _ _, a.ext.new⟩⟩
  have f1 : h.get h.next = none := w0.new
  generalize hh1 : h.add (.cells [] true) = h1 at b1 x1 o1
  have E1 : Ext h0 h1 := a.ext.trans x1
  have hd1 : ∀ j, h0.get j ≠ none → h1.get j ≠ none := fun j hj => by
    cases e : h0.get j with
    | none => exact absurd e hj
    | some y => rw [E1.keep _ _ e]; simp
  have one : ∀ k : List Bs, allOne (k.map AV.str) = true := fun k => by
    induction k with
    | nil => rfl
    | cons s k ih => simpa [allOne, AV.one] using ih
  have r1' : Row h1 x86 i 1 ((l.take i).map AV.str) := by
    have := r1.ext x1
    simpa [List.map_take] using this
  have r2' : Row h1 x88 (l.length - (i + 1)) 1 ((l.drop (i + 1)).map AV.str) := by
    have := r2.ext x1
    have e : ((l.map AV.str).drop ((i + 1) * 1)).take ((l.length - (i + 1)) * 1) = (l.drop (i + 1)).map AV.str := by
      rw [Nat.mul_one, Nat.mul_one, List.take_of_length_le (by simp), List.map_drop]
    rw [e] at this
    exact this
  obtain ⟨x89, h2, q1, q2, q3, q4, q5⟩ := appendRow (T := tab) ty30 ty9 rfl (by decide) (Nat.le_refl _) o1 r1' x1.wf hd1 (one _) (by omega)
  have fresh1 : ∀ j, h.get j ≠ none → ∀ n e, (AV.slice h.next 0 0 1) ≠ .slice j 0 n e := fun j hj n e he => by
    simp only [AV.slice.injEq] at he
    exact hj (he.1 ▸ f1)
  have k2 : ∀ j y, h.get j = some y → h2.get j = some y := fun j y hy => q4 j y (x1.keep _ _ hy) (fresh1 j (by rw [hy]; simp))
  have fresh2 : ∀ j, h.get j ≠ none → ∀ n e, x89 ≠ .slice j 0 n e := fun j hj n e => by
    rcases q5 with ⟨_, e1, _⟩ | q5
    · rw [e1]; exact fresh1 j hj n e
    · refine q5 j ?_ n e
      cases e2 : h.get j with
      | none => exact absurd e2 hj
      | some y => rw [x1.keep _ _ e2]; simp
  have E2 : Ext h0 h2 := q3.ext E1
  have hd2 : ∀ j, h0.get j ≠ none → h2.get j ≠ none := fun j hj => by
    cases e : h0.get j with
    | none => exact absurd e hj
    | some y => rw [E2.keep _ _ e]; simp
  have r2'' : Row h2 x88 (l.length - (i + 1)) 1 ((l.drop (i + 1)).map AV.str) := by
    refine r2'.same fun o' off m e y hv hy => ?_
    -- its object is the old row's
    have hobj : h.get o' ≠ none := r2.there hv
    cases e2 : h.get o' with
    | none => exact absurd e2 hobj
    | some z =>
      have := x1.keep _ _ e2
      rw [this] at hy; cases hy
      exact k2 _ _ e2
  obtain ⟨x91, h3, t1, t2, t3, t4, t5⟩ := appendRow (T := tab) ty30 ty9 rfl (by decide) (Nat.le_refl _) q2 r2'' q3.wf hd2 (one _) (by omega)
  have k3 : ∀ j y, h.get j = some y → h3.get j = some y := fun j y hy => t4 j y (k2 j y hy) (fresh2 j (by rw [hy]; simp))
  have fresh3 : ∀ j, h.get j ≠ none → ∀ n e, x91 ≠ .slice j 0 n e := fun j hj n e => by
    rcases t5 with ⟨_, e1, _⟩ | t5
    · rw [e1]; exact fresh2 j hj n e
    · refine t5 j ?_ n e
      cases e2 : h.get j with
      | none => exact absurd e2 hj
      | some y => rw [k2 _ _ e2]; simp
  refine ⟨_, _, x86, x88, x89, h2, x91, h3, b1, by rw [aslice_lo]; exact s1, by rw [aslice_hi a.row]; exact s2, q1, t1, ?_, a.far, t3.ext E2, ?_, fun j n e hj => fresh3 j (a.tr.there j hj) n e⟩
  · exact a.tr.kept fun j y _ hy => k3 j y hy
  · have e1 : (l.take i ++ l.drop (i + 1)).length = 0 + i + (l.length - (i + 1)) := by simp; omega
    have e2 : (l.take i ++ l.drop (i + 1)).map AV.str = [] ++ (l.take i).map AV.str ++ (l.drop (i + 1)).map AV.str := by simp
    rw [e1, e2]; exact t2
end

/-- An inode in a cell of its own. -/
theorem ino_cell {h : AHeap} (hw : h.WF) (k m n : Int) (d : Bs) : ∃ c h1 h2, newCells h [.int .i64 0, .int .i64 0, .str [], .int .i64 0] (fun o => .ptr o 0) = some (.ptr c 0, h1) ∧ storeA tab h1 35 (.ptr c 0) (.agg [.int .i64 k, .int .i64 m, .str d, .int .i64 n]) = some h2 ∧
    h2.get c = some (.cells [.int .i64 k, .int .i64 m, .str d, .int .i64 n] true) ∧ Ext h h2 := by
  have x1 : Ext h (h.add (.cells [.int .i64 0, .int .i64 0, .str [], .int .i64 0] true)) := (Ext.refl hw).add _
  have g1 : (h.add (.cells [.int .i64 0, .int .i64 0, .str [], .int .i64 0] true)).get h.next = some (.cells [.int .i64 0, .int .i64 0, .str [], .int .i64 0] true) := AHeap.get_add_self _ _
  refine ⟨h.next, _, (h.add (.cells [.int .i64 0, .int .i64 0, .str [], .int .i64 0] true)).put h.next (.cells [.int .i64 k, .int .i64 m, .str d, .int .i64 n] true), rfl, ?_, AHeap.get_put_self _ _ _, x1.put hw.new g1 _⟩
  have t35 : ∃ ty, tab.get 35 = some ty ∧ ty.size = 4 ∧ ty.agg = true := ⟨_, rfl, rfl, rfl⟩
  obtain ⟨ty, t1, t2, t3⟩ := t35
  simp only [storeA, astore, g1, t1, t2, AV.cells]
  rfl
end Go.Am

set_option linter.unusedVariables false
set_option linter.unusedSimpArgs false
namespace Go.Am
open Go Go.Proofs

theorem rem_nat {k n : Nat} (hn : 0 < n) : abin tab .rem 3 (.int .i64 (k : Int)) (.int .i64 (n : Int)) = some (.int .i64 ((k % n : Nat) : Int)) := by
  rw [abin_int (by simp) (by simp)]
  have : decide ((n : Int) = 0) = false := by rw [decide_eq_false_iff_not]; omega
  simp only [aint, this, cond_false]
  rw [← Int.ofNat_tmod]

theorem letter_run {j : Nat} (hj : j < 12) : ∃ x112 x113, aindex tab 9 (.str (nm j)) (.int .i64 0) = some x112 ∧ abin tab .sub 5 x112 (.int .u8 97) = some x113 ∧ abin tab .rem 5 x113 (.int .u8 2) = some (.int .u8 ((j % 2 : Nat) : Int)) := by
  have e1 : aindex tab 9 (.str (nm j)) (.int .i64 0) = some (.int .u8 ((UInt8.ofNat (97 + j)).toNat : Int)) := rfl
  have e2 : abin tab .sub 5 (.int .u8 ((UInt8.ofNat (97 + j)).toNat : Int)) (.int .u8 97) = some (.int .u8 (awrap .u8 (((UInt8.ofNat (97 + j)).toNat : Int) - 97))) := rfl
  have e3 : awrap .u8 (((UInt8.ofNat (97 + j)).toNat : Int) - 97) = (j : Int) := by
    have : ∀ j : Fin 12, awrap .u8 (((UInt8.ofNat (97 + j.val)).toNat : Int) - 97) = (j.val : Int) := by decide
    exact this ⟨j, hj⟩
  rw [e3] at e2
  refine ⟨_, _, e1, e2, ?_⟩
  have : abin tab .rem 5 (.int .u8 (j : Int)) (.int .u8 2) = some (.int .u8 ((j : Int).tmod 2)) := rfl
  rw [this]
  have h2 : ((j : Int).tmod 2) = ((j % 2 : Nat) : Int) := by
    have := Int.ofNat_tmod j 2
    exact this.symm
  rw [h2]

theorem links_loop2 {h0 : AHeap} {dat : Bs} (hd : dat.length ≤ 200) {al : List Int} (hal : ∀ x ∈ al, 0 ≤ x ∧ x ≤ 255) {w : AV} (hw0 : Row h0 w al.length 1 (al.map (AV.int .u8))) {S : Nat → Prop} {hh : AHeap} {o : Nat} {L : Lay} {v : AV} {names : List Bs} {E1 E2 : NE}
    (a : LS h0 S hh o (linkTb E1 E2 dat names.length) L v names) (b : LI names E1 E2) (hne : names ≠ []) (hn : names.length ≤ 12) {N M : Nat} (hN : 13 < N) :
    ∃ h', loopN (F3_b23 EG M) N (.str dat, w, .ptr o 0, .int .i64 2, .int .i64 3, v, .int .i64 0, ()) [] hh = some (.bool true, h') := by
  refine loop_rule (σ := AV × AV × AV × AV × AV × AV × AV × Unit) (R := AV × AHeap) (total := names.length)
    (I := fun i st h => ∃ S : Nat → Prop, ∃ tb : Tb, ∃ L : Lay, ∃ v : AV, ∃ l : List Bs, ∃ E1 E2 : NE, st = (.str dat, w, .ptr o 0, .int .i64 2, .int .i64 3, v, .int .i64 (i : Int), ()) ∧ LS h0 S h o tb L v l ∧ LI l E1 E2 ∧ l.length + i = names.length ∧
      ((l ≠ [] ∧ tb = linkTb E1 E2 dat l.length) ∨ (l = [] ∧ tb.nodes 3 = none ∧ tb.ui = 2 ∧ tb.ub = 0)))
    (Q := fun r => ∃ h', r = some (.bool true, h')) ?_ N 0 _ _ ⟨S, _, L, v, names, E1, E2, rfl, a, b, by omega, .inl ⟨hne, rfl⟩⟩ (by omega) (by omega)
  rintro i st h nx ⟨S, tb, L, v, l, E1, E2, rfl, a, b, hlen, hcase⟩
  have hl := a.row.len ty30
  rcases hcase with ⟨hl0, rfl⟩ | ⟨rfl, t3, tu, tub⟩
  · left
    have hpos : 0 < l.length := by
      cases l with
      | nil => exact absurd rfl hl0
      | cons x l => simp
    have c0 : decide ((0 : Int) < (l.length : Int)) = true := by rw [decide_eq_true_eq]; omega
    obtain ⟨h1, e1, x1⟩ := node_run a.tr a.wf 3
    replace e1 : EG (.fn 12) [.ptr o 0, .int .i64 3] h = some (.tuple [.agg [.int .i64 1, .int .i64 420, .str dat, .int .i64 l.length], .bool true], h1) := e1
    obtain ⟨c, h2, h3, e2, e3, gc, x3⟩ := ino_cell x1.wf 1 420 l.length dat
    have a3 := a.grow (x1.trans x3)
    have ll : loadA tab h3 3 (.ptr c 3) = some (.int .i64 l.length) := loadA_cell ty3 rfl gc rfl
    have ld : loadA tab h3 9 (.ptr c 2) = some (.str dat) := loadA_cell ty9 rfl gc rfl
    have hl3 := a3.row.len ty30
    have hwr := hw0.ext a3.ext
    -- which goes
    obtain ⟨at', hat, sel⟩ : ∃ at', at' < l.length ∧ ((∃ m p, decide ((i : Int) < (al.length : Int)) = true ∧ aindexAddr tab 22 w (.int .i64 (i : Int)) = some p ∧ loadA tab h3 5 p = some (.int .u8 m) ∧ aconvert tab h3 5 3 (.int .u8 m) = some (.int .i64 m, h3) ∧ abin tab .rem 3 (.int .i64 m) (.int .i64 (l.length : Int)) = some (.int .i64 (at' : Int))) ∨
        (decide ((i : Int) < (al.length : Int)) = false ∧ at' = 0)) := by
      by_cases hi : i < al.length
      · obtain ⟨p, p1, p2⟩ := hwr.get1 ty22 ty5 rfl rfl (x := .int .u8 al[i]) (i := i) (by simp [hi]) (k := .i64)
        have hb := hal al[i] (List.getElem_mem hi)
        refine ⟨al[i].toNat % l.length, Nat.mod_lt _ hpos, .inl ⟨al[i], p, ltT hi, p1, p2, ?_, ?_⟩⟩
        · show some (AV.int .i64 (awrap .i64 al[i]), h3) = _
          rw [awrap_i64 (by omega) (by omega)]
        · have := rem_nat (k := al[i].toNat) hpos
          rw [Int.toNat_of_nonneg hb.1] at this
          exact this
      · exact ⟨0, hpos, .inr ⟨ltF hi, rfl⟩⟩
    -- its name
    obtain ⟨j, hj, hs⟩ := b.known l[at'] (List.getElem_mem hat)
    have hmem : nm j ∈ l := hs ▸ List.getElem_mem hat
    obtain ⟨p2, g1, g2⟩ := a3.row.get1 ty30 ty9 rfl rfl (x := .str l[at']) (i := at') (by simp [hat]) (k := .i64)
    rw [hs] at g2
    obtain ⟨x112, x113, y1, y2, y3⟩ := letter_run hj
    obtain ⟨u1, u2, F1, F2, u3, u4⟩ := unlink_at (dat := dat) (n := (l.length : Int)) b hj hmem
    have hfr := find_run a3.tr (dirOf j) (nm j)
    rw [u1] at hfr
    obtain ⟨h5, e5, t5, s5⟩ := unlink_run a3.tr a3.wf (small_link (by omega)) (dir := dirOf j) (name := nm j) (fun n hn => by
      rw [u1] at hn; cases hn
      exact ⟨_, rfl, show dat.length < _ by omega, show (-1000000000000 : Int) < (l.length : Int) by omega, show (l.length : Int) < 1000000000000 by omega⟩)
    rw [u2] at e5
    rw [u4] at t5
    have a5 := a3.step t5 s5
    obtain ⟨x84, h6, x86, x88, x89, h7, x91, h8, z1, z2, z3, z4, z5, a8⟩ := a5.cut (by omega) hat
    have hcut : l.take at' ++ l.drop (at' + 1) = l.filter fun s => decide (s ≠ nm j) := by rw [← hs]; exact filter_erase b.nodup hat
    have hcl : (l.take at' ++ l.drop (at' + 1)).length = l.length - 1 := by simp; omega
    have inc1 := abin_inc (T := tab) (t := 3) (i := at') (by omega)
    have inc2 := abin_inc (T := tab) (t := 3) (i := i) (by omega)
    have end' : ∃ s' h', nx (.str dat, w, .ptr o 0, .int .i64 2, .int .i64 3, x91, .int .i64 ((i + 1 : Nat) : Int), ()) [] h8 = nx s' [] h' ∧ (∃ S : Nat → Prop, ∃ tb : Tb, ∃ L : Lay, ∃ v : AV, ∃ l : List Bs, ∃ E1 E2 : NE, s' = (.str dat, w, .ptr o 0, .int .i64 2, .int .i64 3, v, .int .i64 ((i + 1 : Nat) : Int), ()) ∧ LS h0 S h' o tb L v l ∧ LI l E1 E2 ∧ l.length + (i + 1) = names.length ∧
      ((l ≠ [] ∧ tb = linkTb E1 E2 dat l.length) ∨ (l = [] ∧ tb.nodes 3 = none ∧ tb.ui = 2 ∧ tb.ub = 0))) := by
      refine ⟨_, _, rfl, S, _, L, x91, _, F1, F2, rfl, a8, by rw [hcut]; exact u3, by rw [hcl]; omega, ?_⟩
      by_cases h1 : (l.length : Int) = 1
      · right
        refine ⟨List.eq_nil_of_length_eq_zero (by rw [hcl]; omega), ?_, ?_, ?_⟩ <;> rw [if_pos h1]
        exact upd_self (three F1 F2 dat l.length) 3 none
      · left
        refine ⟨fun h => ?_, ?_⟩
        · have := congrArg List.length h
          rw [hcl] at this
          simp at this
          omega
        · rw [if_neg h1, hcl]
          have : ((l.length - 1 : Nat) : Int) = (l.length : Int) - 1 := by omega
          rw [this]
    refine ⟨by omega, ?_⟩
    have par : (j % 2 = 1 ∧ dirOf j = 2 ∧ decide (((j % 2 : Nat) : Int) = 1) = true) ∨ (¬ j % 2 = 1 ∧ dirOf j = 1 ∧ decide (((j % 2 : Nat) : Int) = 1) = false) := by
      by_cases hp : j % 2 = 1
      · exact .inl ⟨hp, by simp [dirOf, hp], by rw [hp]; rfl⟩
      · exact .inr ⟨hp, by simp [dirOf, hp], by rw [decide_eq_false_iff_not]; omega⟩
    obtain ⟨s', h', q1, q2⟩ := end'
    refine ⟨s', h', ?_, q2⟩
    rw [← q1]
    simp only [F3_b23, hl, valK_s, abin_gtr, c0, boolK_t, e1, bothK_s, extractA_0, extractA_1, e2, e3, hpK_s, jn_a, aun_not, Bool.not_true, boolK_f, fa35_3, ll, hl3, abin_neq, decide_true, fa35_2, ld, abin_strne]
    rcases sel with ⟨m, p, m1, m2, m3, m4, m5⟩ | ⟨m1, rfl⟩
    · rcases par with ⟨_, d1, d2⟩ | ⟨_, d1, d2⟩ <;> rw [d1] at hfr e5
      · simp only [hwr.len ty22, valK_s, abin_lss, m1, boolK_t, m2, m3, m4, bothK_s, hl3, m5, g1, g2, y1, y2, y3, abin_eql, d2, hfr, extractA_0, extractA_1, Option.isSome_some, aun_not, Bool.not_true, boolK_f, intOf, abin_neq, decide_true, e5, z1, z2, inc1, z3, z4, z5, inc2]
      · simp only [hwr.len ty22, valK_s, abin_lss, m1, boolK_t, m2, m3, m4, bothK_s, hl3, m5, g1, g2, y1, y2, y3, abin_eql, d2, hfr, extractA_0, extractA_1, Option.isSome_some, aun_not, Bool.not_true, boolK_f, intOf, abin_neq, decide_true, e5, z1, z2, inc1, z3, z4, z5, inc2]
    · have g1 : aindexAddr tab 30 v (.int .i64 0) = some p2 := g1
      have z2 : aslice tab 30 v none (some (.int .i64 0)) = some x86 := z2
      have inc1 : abin tab .add 3 (.int .i64 0) (.int .i64 1) = some (.int .i64 ((0 + 1 : Nat) : Int)) := inc1
      rcases par with ⟨_, d1, d2⟩ | ⟨_, d1, d2⟩ <;> rw [d1] at hfr e5
      · simp only [hwr.len ty22, valK_s, abin_lss, m1, boolK_f, bothK_s, g1, g2, y1, y2, y3, abin_eql, d2, boolK_t, hfr, extractA_0, extractA_1, Option.isSome_some, aun_not, Bool.not_true, intOf, abin_neq, decide_true, e5, z1, z2, inc1, z3, z4, z5, inc2]
      · simp only [hwr.len ty22, valK_s, abin_lss, m1, boolK_f, bothK_s, g1, g2, y1, y2, y3, abin_eql, d2, boolK_t, hfr, extractA_0, extractA_1, Option.isSome_some, aun_not, Bool.not_true, intOf, abin_neq, decide_true, e5, z1, z2, inc1, z3, z4, z5, inc2]
  · right
    have c0 : decide ((0 : Int) < (([] : List Bs).length : Int)) = false := by simp
    obtain ⟨h1, e1, x1⟩ := node_run a.tr a.wf 3
    have hv : nodeV tb 3 = .agg [.int .i64 0, .int .i64 0, .str [], .int .i64 0] := by simp only [nodeV, t3, ino0]
    rw [hv, t3] at e1
    obtain ⟨c, h2, h3, e2, e3, gc, x3⟩ := ino_cell x1.wf 0 0 0 []
    have a3 := a.grow (x1.trans x3)
    obtain ⟨h4, e4, x4⟩ := used_run a3.tr a3.wf
    have e5 : abuild tab 26 [(0, .int .i64 2)] = some (.agg [.int .i64 2, .int .i64 0]) := rfl
    have e6 : abin tab .eql 26 (.agg [.int .i64 tb.ui, .int .i64 tb.ub]) (.agg [.int .i64 2, .int .i64 0]) = some (.bool true) := by rw [tu, tub]; rfl
    simp only [F3_b23, hl, valK_s, abin_gtr, c0, boolK_f, e1, bothK_s, extractA_0, extractA_1, e2, e3, hpK_s, aun_not, Option.isSome_none, Bool.not_false, boolK_t, e4, e5, e6, run15, unmark_nil]
    exact ⟨_, rfl⟩
end Go.Am

set_option linter.unusedVariables false
set_option linter.unusedSimpArgs false
namespace Go.Am
open Go Go.Proofs

theorem quota_eq (a b c d : Int) : aeq tab 26 (.agg [.int .i64 a, .int .i64 b]) (.agg [.int .i64 c, .int .i64 d]) = some (decide (a = c) && decide (b = d)) := by
  have t26 : ∃ s b' z, tab.get 26 = some ⟨.struct [(0, (1, 1)), (1, (1, 1))], s, b', true, z⟩ := ⟨_, _, _, rfl⟩
  obtain ⟨s, b', z, t1⟩ := t26
  have e : ∀ x y : Int, eqCell 1 (.int .i64 x) (.int .i64 y) = some (decide (x = y)) := fun x y => by simp [eqCell]
  simp only [aeq, t1, eqFields, List.getElem?_cons_zero, List.getElem?_cons_succ, e]
  by_cases h1 : a = c <;> by_cases h2 : b = d <;> simp [h1, h2]
theorem quota_ok (a b c d : Int) : eqOk tab 26 (.agg [.int .i64 a, .int .i64 b]) (.agg [.int .i64 c, .int .i64 d]) = true := by
  have t26 : ∃ fs s b' z, tab.get 26 = some ⟨.struct fs, s, b', true, z⟩ := ⟨_, _, _, _, rfl⟩
  obtain ⟨fs, s, b', z, t1⟩ := t26
  simp only [eqOk, t1]
theorem quota_eql (a b c d : Int) : abin tab .eql 26 (.agg [.int .i64 a, .int .i64 b]) (.agg [.int .i64 c, .int .i64 d]) = some (.bool (decide (a = c) && decide (b = d))) := by
  simp only [abin, quota_ok, cond_true, quota_eq, Option.map_some]
theorem quota_neq (a b c d : Int) : abin tab .neq 26 (.agg [.int .i64 a, .int .i64 b]) (.agg [.int .i64 c, .int .i64 d]) = some (.bool (!(decide (a = c) && decide (b = d)))) := by
  simp only [abin, quota_ok, cond_true, quota_eq, Option.map_some]

theorem links_loop1 {h0 : AHeap} {dat old : Bs} (hd : dat.length ≤ 200) (hold : old.length ≤ 200) {al : List Int} (hal : ∀ x ∈ al, 0 ≤ x ∧ x ≤ 255) {w : AV} (hw0 : Row h0 w al.length 1 (al.map (AV.int .u8))) {n0 : Int} {k : Nat} (hk : k < 12) (hn0 : n0.tmod 12 = (k : Int)) {S : Nat → Prop} {hh : AHeap} {o : Nat} {L : Lay} {v : AV} {E1 E2 : NE}
    (a : LS h0 S hh o (linkTb E1 E2 old ((0 + 1 : Nat) : Int)) L v (namesUpTo (0 + 1))) (b : LI (namesUpTo (0 + 1)) E1 E2) {N : Nat} (hN : 13 < N) :
    ∃ h', loopN (F3_b11 EG N) N (.int .u8 n0, .str dat, w, .ptr o 0, .int .i64 2, .int .i64 3, v, .int .i64 ((0 + 1 : Nat) : Int), ()) [] hh = some (.bool true, h') := by
  refine loop_rule (σ := AV × AV × AV × AV × AV × AV × AV × AV × Unit) (R := AV × AHeap) (total := k)
    (I := fun i st h => i ≤ k ∧ ∃ S : Nat → Prop, ∃ L : Lay, ∃ v : AV, ∃ E1 E2 : NE, st = (.int .u8 n0, .str dat, w, .ptr o 0, .int .i64 2, .int .i64 3, v, .int .i64 ((i + 1 : Nat) : Int), ()) ∧ LS h0 S h o (linkTb E1 E2 old ((i + 1 : Nat) : Int)) L v (namesUpTo (i + 1)) ∧ LI (namesUpTo (i + 1)) E1 E2)
    (Q := fun r => ∃ h', r = some (.bool true, h')) ?_ N 0 _ _ ⟨by omega, S, L, v, E1, E2, rfl, a, b⟩ (by omega) (by omega)
  rintro i st h nx ⟨hi, S, L, v, E1, E2, rfl, a, b⟩
  have r1 : abin tab .rem 5 (.int .u8 n0) (.int .u8 12) = some (.int .u8 (n0.tmod 12)) := rfl
  rw [hn0] at r1
  have r2 : aconvert tab h 5 3 (.int .u8 (k : Int)) = some (.int .i64 (k : Int), h) := by
    show some (AV.int .i64 (awrap .i64 (k : Int)), h) = _
    rw [awrap_i64 (by omega) (by omega)]
  have r3 := abin_add (T := tab) (t := 3) (a := 1) (b := (k : Int)) (by omega) (by omega)
  have hnl : (namesUpTo (i + 1)).length = i + 1 := by simp [namesUpTo]
  by_cases hlt : i < k
  · left
    have hi1 : i + 1 < 12 := by omega
    have c1 : decide (((i + 1 : Nat) : Int) < 1 + (k : Int)) = true := by rw [decide_eq_true_eq]; omega
    obtain ⟨x27, x29, x30, h2, e1, e2, e3, e4, x2⟩ := name_run a.wf hi1
    have a2 := a.grow x2
    have r4 : abin tab .rem 3 (.int .i64 ((i + 1 : Nat) : Int)) (.int .i64 2) = some (.int .i64 (((i + 1) % 2 : Nat) : Int)) := rem_nat (k := i + 1) (n := 2) (by omega)
    obtain ⟨u1, F1, F2, u2, u3⟩ := link_at (dat := old) (n := ((i + 1 : Nat) : Int)) b hi1 (nm_not_in hi1)
    obtain ⟨h3, e5, t3, s3⟩ := link_run a2.tr a2.wf (dir := dirOf (i + 1)) (ino := 3) (name := nm (i + 1)) (fun _ => nm_any hi1) (fun nd hnd => by
      rw [three3 hnd]
      show (-1000000000000 : Int) < ((i + 1 : Nat) : Int) ∧ ((i + 1 : Nat) : Int) < 1000000000000
      omega)
    rw [u1] at e5
    rw [u2] at t3
    have a3 := a2.step t3 s3
    obtain ⟨y, h4, v', h5, e6, e7, a5⟩ := a3.push (nm (i + 1)) (by rw [hnl]; omega)
    have inc := abin_inc (T := tab) (t := 3) (i := i + 1) (by omega)
    have hnn : namesUpTo (i + 1) ++ [nm (i + 1)] = namesUpTo (i + 1 + 1) := by
      simp [namesUpTo, List.range_succ]
    rw [hnn] at a5 u3
    have hcast : ((i + 1 : Nat) : Int) + 1 = ((i + 1 + 1 : Nat) : Int) := by omega
    rw [hcast] at a5
    refine ⟨hlt, (.int .u8 n0, .str dat, w, .ptr o 0, .int .i64 2, .int .i64 3, v', .int .i64 ((i + 1 + 1 : Nat) : Int), ()), h5, ?_, by omega, S, L, v', F1, F2, rfl, ?_, u3⟩
    · by_cases hp : (i + 1) % 2 = 1
      · have d1 : dirOf (i + 1) = 2 := by simp [dirOf, hp]
        have d2 : decide ((((i + 1) % 2 : Nat) : Int) = 1) = true := by rw [hp]; rfl
        rw [d1] at e5
        simp only [F3_b11, r1, valK_s, r2, bothK_s, r3, abin_lss, c1, boolK_t, e1, e2, e3, e4, r4, abin_eql, d2, e5, abin_neq, decide_true, Bool.not_true, boolK_f, e6, e7, inc]
      · have d1 : dirOf (i + 1) = 1 := by simp [dirOf, hp]
        have d2 : decide ((((i + 1) % 2 : Nat) : Int) = 1) = false := by rw [decide_eq_false_iff_not]; omega
        rw [d1] at e5
        simp only [F3_b11, r1, valK_s, r2, bothK_s, r3, abin_lss, c1, boolK_t, e1, e2, e3, e4, r4, abin_eql, d2, e5, abin_neq, decide_true, Bool.not_true, boolK_f, e6, e7, inc]
    · exact a5
  · right
    have hik : i = k := by omega
    subst hik
    have c1 : decide (((i + 1 : Nat) : Int) < 1 + (i : Int)) = false := by rw [decide_eq_false_iff_not]; omega
    obtain ⟨u1, u2⟩ := write_at (E1 := E1) (E2 := E2) (dat := old) (n := ((i + 1 : Nat) : Int)) (dat' := dat) (by omega) (by omega)
    obtain ⟨h2, e2, t2, s2⟩ := write_run a.tr a.wf (small_link (by omega)) (ino := 3) (data := dat) (by omega) (fun nd hnd => by rw [three3 hnd]; show old.length < _; omega)
    rw [u1] at e2
    rw [u2] at t2
    have a2 := a.step t2 s2
    obtain ⟨h3, e3, x3⟩ := used_run a2.tr a2.wf
    have a3 := a2.grow x3
    have b3 : abuild tab 26 [(0, .int .i64 3), (1, .int .i64 (dat.length : Int))] = some (.agg [.int .i64 3, .int .i64 (dat.length : Int)]) := rfl
    have q3 : abin tab .neq 26 (.agg [.int .i64 (linkTb E1 E2 dat ((i + 1 : Nat) : Int)).ui, .int .i64 (linkTb E1 E2 dat ((i + 1 : Nat) : Int)).ub]) (.agg [.int .i64 3, .int .i64 (dat.length : Int)]) = some (.bool false) := by
      rw [quota_neq]
      show some (AV.bool (!(decide ((3 : Int) = 3) && decide ((dat.length : Int) = dat.length)))) = _
      simp
    have a3' : LS h0 S h3 o (linkTb E1 E2 dat ((namesUpTo (i + 1)).length : Nat)) L v (namesUpTo (i + 1)) := by rw [hnl]; exact a3
    obtain ⟨h', e'⟩ := links_loop2 hd hal hw0 a3' b (fun h => by have := congrArg List.length h; rw [hnl] at this; simp at this) (by rw [hnl]; omega) (N := N) (M := N) hN
    refine ⟨h', ?_⟩
    simp only [F3_b11, r1, valK_s, r2, bothK_s, r3, abin_lss, c1, boolK_f, jn_a, e2, abin_neq, decide_true, Bool.not_true, e3, alen9, b3, q3]
    exact e'

theorem start_links : newT 10 300 = some ⟨10, 300, 1, 0, 1, upd (fun _ => none) 1 (some ⟨2, 493, [], 1, 1, []⟩)⟩ := rfl

def linkT0 : Tb := ⟨10, 300, 1, 0, 1, upd (fun _ => none) 1 (some ⟨2, 493, [], 1, 1, []⟩)⟩
def linkT1 : Tb := ⟨10, 300, 2, 0, 2, fun k => if k = 1 then some ⟨2, 493, [], 1, 1, [([100], 2)]⟩ else if k = 2 then some ⟨2, 493, [], 1, 1, []⟩ else none⟩

theorem links_make1 : makeE linkT0 1 [100] 2 493 [] = 0 ∧ makeT linkT0 1 [100] 2 493 [] = linkT1 := by
  have hE : makeE linkT0 1 [100] 2 493 [] = 0 := by decide
  refine ⟨hE, ?_⟩
  rw [makeT, if_pos hE]
  have : addE (upd linkT0.nodes (linkT0.last + 1) (some (freshNd 1 2 493 []))) 1 [100] (linkT0.last + 1) = linkT1.nodes := by
    funext k
    by_cases h1 : k = 1
    · subst h1; rfl
    · by_cases h2 : k = 2
      · subst h2; rfl
      · show upd (upd (upd (fun _ => none) 1 _) 2 _) 1 _ k = _
        rw [upd_ne _ _ h1, upd_ne _ _ h2, upd_ne _ _ h1]
        simp [linkT1, h1, h2]
  simp only [madeT, this]
  rfl

theorem links_make2 : makeE linkT1 1 [97] 1 420 [111, 108, 100] = 0 ∧ makeT linkT1 1 [97] 1 420 [111, 108, 100] = linkTb [([100], 2), ([97], 3)] [] [111, 108, 100] 1 := by
  have hE : makeE linkT1 1 [97] 1 420 [111, 108, 100] = 0 := by decide
  refine ⟨hE, ?_⟩
  rw [makeT, if_pos hE]
  have : addE (upd linkT1.nodes (linkT1.last + 1) (some (freshNd 1 1 420 [111, 108, 100]))) 1 [97] (linkT1.last + 1) = three [([100], 2), ([97], 3)] [] [111, 108, 100] 1 := by
    funext k
    by_cases h1 : k = 1
    · subst h1; rfl
    · by_cases h3 : k = 3
      · subst h3; rfl
      · show upd (upd linkT1.nodes 3 _) 1 _ k = _
        rw [upd_ne _ _ h1, upd_ne _ _ h3]
        by_cases h2 : k = 2
        · subst h2; rfl
        · simp [linkT1, three, h1, h2, h3]
  simp only [madeT, this]
  rfl

theorem links_li : LI (namesUpTo (0 + 1)) [([100], 2), ([97], 3)] [] where
  get i hi := by
    have : ∀ i : Fin 12, getN (nm i.val) (entsOf [([100], 2), ([97], 3)] [] i.val) = if nm i.val ∈ namesUpTo (0 + 1) then some 3 else none := by decide
    exact this ⟨i, hi⟩
  nodup := by decide
  known s hs := ⟨0, by omega, by simpa [namesUpTo] using hs⟩

theorem take_str {s : Bs} {h : AHeap} : ∃ m, amin (.int .i64 (s.length : Int)) (.int .i64 200) = some (.int .i64 (m : Nat)) ∧ aslice tab 9 (.str s) none (some (.int .i64 (m : Nat))) = some (.str (s.take 200)) := by
  refine ⟨min s.length 200, ?_, ?_⟩
  · have : amin (.int .i64 (s.length : Int)) (.int .i64 200) = some (.int .i64 (bif decide ((200 : Int) < (s.length : Int)) then 200 else (s.length : Int))) := rfl
    rw [this]
    by_cases h : 200 < s.length
    · have h1 : decide ((200 : Int) < (s.length : Int)) = true := by rw [decide_eq_true_eq]; omega
      rw [h1]; congr 2; simp only [cond_true]; omega
    · have h1 : decide ((200 : Int) < (s.length : Int)) = false := by rw [decide_eq_false_iff_not]; omega
      rw [h1]; congr 2; simp only [cond_false]; omega
  · have e1 : upTo (some (.int .i64 ((min s.length 200 : Nat) : Int))) s.length s.length = some (min s.length 200) := by
      show (bif Nat.ble (min s.length 200) s.length then some (min s.length 200) else none) = _
      rw [Nat.ble_eq_true_of_le (Nat.min_le_left _ _)]; rfl
    simp only [aslice, ty9, e1]
    show some (AV.str ((s.take (min s.length 200)).drop 0)) = _
    rw [List.drop_zero, Nat.min_comm, ← List.take_eq_take_min]

theorem small_t0 : Small linkT0 := ⟨by decide, by decide, by decide, by decide⟩
theorem small_t1 : Small linkT1 := ⟨by decide, by decide, by decide, by decide⟩
theorem fresh_t0 : Fresh linkT0 := fun k hk => by
  have : (1 : Int) < k := hk
  simp only [linkT0]
  rw [upd_ne _ _ (by omega)]
theorem fresh_t1 : Fresh linkT1 := fun k hk => by
  have : (2 : Int) < k := hk
  simp only [linkT1]
  rw [if_neg (by omega), if_neg (by omega)]

theorem inodeLinks_walk {h : AHeap} (hw : h.WF) {n0 : Int} (hn0 : 0 ≤ n0 ∧ n0 ≤ 255) (s : Bs) {al : List Int} (hal : ∀ x ∈ al, 0 ≤ x ∧ x ≤ 255) {w : AV} (hw0 : Row h w al.length 1 (al.map (AV.int .u8))) {N : Nat} (hN : 13 < N) :
    ∃ h', F3 EG N (.int .u8 n0) (.str s) w h = some (.bool true, h') := by
  have b0 : abuild tab 26 [(0, .int .i64 10), (1, .int .i64 300)] = some (.agg [.int .i64 10, .int .i64 300]) := rfl
  obtain ⟨h1, x1, hnew⟩ := new_run hw 10 300
  rw [start_links] at hnew
  obtain ⟨S, o, L, e1, t1, far⟩ := hnew
  replace t1 : TR S h1 o linkT0 L := t1
  obtain ⟨m, m1, m2⟩ := take_str (s := s) (h := h)
  have A0 : LS h S h1 o linkT0 L .nilslice [] := ⟨t1, far, x1, ⟨rfl, .inl ⟨rfl, rfl⟩⟩, fun j n e _ h => by cases h⟩
  obtain ⟨S1, L1, h2, e2, t2, s2⟩ := make_run t1 x1.wf small_t0 fresh_t0 (dir := 1) (kind := 2) (mode := 493) (name := [100]) (data := []) (by decide) (fun _ => nm_any (i := 3) (by omega)) (by decide)
  rw [links_make1.1] at e2
  rw [links_make1.2] at t2
  have A1 := A0.step t2 s2
  obtain ⟨S2, L2, h3, e3, t3, s3⟩ := make_run t2 A1.wf small_t1 fresh_t1 (dir := 1) (kind := 1) (mode := 420) (name := [97]) (data := [111, 108, 100]) (by decide) (fun _ => nm_any (i := 0) (by omega)) (by decide)
  rw [links_make2.1] at e3
  rw [links_make2.2] at t3
  have A2 := A1.step t3 s3
  -- the names
  obtain ⟨k, hk, hkn⟩ : ∃ k : Nat, k < 12 ∧ n0.tmod 12 = (k : Int) := by
    obtain ⟨q, rfl⟩ : ∃ q : Nat, n0 = q := ⟨n0.toNat, by omega⟩
    exact ⟨q % 12, Nat.mod_lt _ (by omega), (Int.ofNat_tmod q 12).symm⟩
  have b19 : abuildSlice tab h3 30 1 [(0, .str [97])] = some (.slice h3.next 0 1 1, h3.add (.cells [.str [97]] true)) := rfl
  have x19 : Ext h3 (h3.add (.cells [.str [97]] true)) := (Ext.refl A2.wf).add _
  have f19 : h3.get h3.next = none := A2.wf.new
  have A3 : LS h S2 (h3.add (.cells [.str [97]] true)) o (linkTb [([100], 2), ([97], 3)] [] [111, 108, 100] ((0 + 1 : Nat) : Int)) L2 (.slice h3.next 0 1 1) (namesUpTo (0 + 1)) :=
    ⟨t3.ext x19, A2.far, A2.ext.trans x19, ⟨rfl, .inr ⟨_, rfl, AHeap.get_add_self _ _, A2.ext.new⟩⟩, fun j n e hj he => by
      simp only [AV.slice.injEq] at he
      exact t3.there j hj (he.1 ▸ f19)⟩
  obtain ⟨h', e'⟩ := links_loop1 (dat := s.take 200) (by simp; omega) (by decide) hal hw0 hk hkn A3 links_li hN
  refine ⟨h', ?_⟩
  unfold F3
  simp only [b0, valK_s, e1, bothK_s, eq23, boolK_f, alen9, m1, m2, e2, extractA_0, extractA_1, e3, jn_a, abin_neq, if_true, decide_true, Bool.not_true, b19]
  exact e'

end Go.Am

set_option linter.unusedVariables false
set_option linter.unusedSimpArgs false
namespace Go.Am
open Go Go.Proofs

/-- A name in a directory. -/
structure Ed where
  dir : Int
  name : Bs
  ino : Int

def entsE (E : List Ed) (d : Int) : NE := (E.filter fun e => decide (e.dir = d)).map fun e => (e.name, e.ino)
def cntE (E : List Ed) (k : Int) : Nat := E.countP fun e => decide (e.ino = k)
def dropE (E : List Ed) (d : Int) (s : Bs) : List Ed := E.filter fun e => !(decide (e.dir = d) && decide (e.name = s))
/-- No two edges of a directory bear the same name. -/
def OneE (E : List Ed) : Prop := E.Pairwise fun a b => ¬ (a.dir = b.dir ∧ a.name = b.name)

theorem entsE_add (E : List Ed) (d n : Int) (s : Bs) (k : Int) : entsE (E ++ [⟨d, s, n⟩]) k = if k = d then entsE E d ++ [(s, n)] else entsE E k := by
  simp only [entsE, List.filter_append, List.map_append, List.filter_cons, List.filter_nil]
  by_cases h : k = d
  · subst h; simp
  · have : ¬ d = k := fun e => h e.symm
    simp [h, this]

theorem entsE_drop (E : List Ed) (d : Int) (s : Bs) (k : Int) : entsE (dropE E d s) k = if k = d then delN s (entsE E d) else entsE E k := by
  induction E with
  | nil => simp [entsE, dropE, delN]
  | cons e E ih =>
    simp only [entsE, dropE, delN, List.filter_cons] at ih ⊢
    by_cases h1 : e.dir = d
    · by_cases h2 : e.name = s
      · simp only [h1, h2, decide_true, Bool.and_self, Bool.not_true, Bool.false_eq_true, if_false, if_true]
        rw [ih]
        by_cases hk : k = d
        · subst hk; simp [h2]
        · have : ¬ d = k := fun e => hk e.symm
          simp [hk, this]
      · simp only [h1, h2, decide_true, decide_false, Bool.and_false, Bool.not_false, if_true, List.filter_cons]
        by_cases hk : k = d
        · subst hk
          simp only [decide_true, if_true, List.map_cons, List.filter_cons, ne_eq, h2, not_false_eq_true] at ih ⊢
          rw [ih]
        · have hdk : ¬ d = k := fun e => hk e.symm
          simp only [hdk, decide_false, Bool.false_eq_true, if_false, hk] at ih ⊢
          exact ih
    · simp only [h1, decide_false, Bool.false_and, Bool.not_false, if_true, List.filter_cons, Bool.false_eq_true, if_false]
      by_cases hk : k = d
      · subst hk
        have h1' : ¬ e.dir = k := h1
        simp only [h1', decide_false, Bool.false_eq_true, if_false, if_true] at ih ⊢
        exact ih
      · simp only [hk, if_false] at ih ⊢
        by_cases h3 : e.dir = k
        · simp only [h3, decide_true, if_true, List.map_cons, ih]
        · simp only [h3, decide_false, Bool.false_eq_true, if_false, ih]

theorem cntE_add (E : List Ed) (d n : Int) (s : Bs) (k : Int) : cntE (E ++ [⟨d, s, n⟩]) k = cntE E k + if k = n then 1 else 0 := by
  simp only [cntE, List.countP_append]
  by_cases h : k = n
  · subst h; simp [List.countP_cons]
  · have : ¬ n = k := fun e => h e.symm
    simp [List.countP_cons, h, this]

theorem dropE_none {E : List Ed} {d : Int} {s : Bs} (h : ∀ e ∈ E, ¬ (e.dir = d ∧ e.name = s)) : dropE E d s = E :=
  List.filter_eq_self.2 fun e he => by
    have := h e he
    simp only [Bool.not_eq_true', Bool.and_eq_false_iff, decide_eq_false_iff_not]
    by_cases h1 : e.dir = d
    · exact .inr fun h2 => this ⟨h1, h2⟩
    · exact .inl h1

theorem cntE_drop {d n : Int} {s : Bs} {k : Int} : ∀ {E : List Ed}, OneE E → (⟨d, s, n⟩ : Ed) ∈ E → cntE E k = cntE (dropE E d s) k + if k = n then 1 else 0
  | e :: E, h, hm => by
    have h := List.pairwise_cons.1 h
    by_cases he : e.dir = d ∧ e.name = s
    · have hen : e = ⟨d, s, n⟩ := by
        rcases List.mem_cons.1 hm with rfl | hm
        · rfl
        · exact absurd (show e.dir = d ∧ e.name = s from he) (h.1 _ hm)
      have hd : dropE (e :: E) d s = E := by
        simp only [dropE, List.filter_cons, he.1, he.2, decide_true, Bool.and_self, Bool.not_true, Bool.false_eq_true, if_false]
        exact dropE_none fun x hx hh => h.1 x hx ⟨he.1.trans hh.1.symm, he.2.trans hh.2.symm⟩
      rw [hd]
      subst hen
      simp only [cntE, List.countP_cons]
      by_cases hk : k = n
      · subst hk; simp
      · have : ¬ n = k := fun e => hk e.symm
        simp [hk, this]
    · have hm' : (⟨d, s, n⟩ : Ed) ∈ E := by
        rcases List.mem_cons.1 hm with rfl | hm
        · exact absurd ⟨rfl, rfl⟩ he
        · exact hm
      have ih := cntE_drop (k := k) h.2 hm'
      have hb : (decide (e.dir = d) && decide (e.name = s)) = false := by
        rw [Bool.and_eq_false_iff, decide_eq_false_iff_not, decide_eq_false_iff_not]
        by_cases h1 : e.dir = d
        · exact .inr fun h2 => he ⟨h1, h2⟩
        · exact .inl h1
      simp only [dropE] at ih
      simp only [cntE, dropE, List.filter_cons, hb, Bool.not_false, if_true, List.countP_cons] at ih ⊢
      omega

theorem mem_dropE {E : List Ed} {d : Int} {s : Bs} {e : Ed} : e ∈ dropE E d s ↔ e ∈ E ∧ ¬ (e.dir = d ∧ e.name = s) := by
  simp only [dropE, List.mem_filter, Bool.not_eq_true', Bool.and_eq_false_iff, decide_eq_false_iff_not]
  constructor
  · rintro ⟨h1, h2⟩; exact ⟨h1, fun h => h2.elim (fun q => q h.1) fun q => q h.2⟩
  · rintro ⟨h1, h2⟩
    refine ⟨h1, ?_⟩
    by_cases h3 : e.dir = d
    · exact .inr fun h4 => h2 ⟨h3, h4⟩
    · exact .inl h3

theorem OneE.drop {E : List Ed} (h : OneE E) (d : Int) (s : Bs) : OneE (dropE E d s) := h.filter _
theorem OneE.add {E : List Ed} (h : OneE E) {d n : Int} {s : Bs} (hn : ∀ e ∈ E, ¬ (e.dir = d ∧ e.name = s)) : OneE (E ++ [⟨d, s, n⟩]) := by
  unfold OneE
  rw [List.pairwise_append]
  exact ⟨h, List.pairwise_singleton _ _, fun a ha b hb => by rw [List.mem_singleton.1 hb]; exact hn a ha⟩

theorem getN_entsE {d n : Int} {s : Bs} : ∀ {E : List Ed}, OneE E → (getN s (entsE E d) = some n ↔ (⟨d, s, n⟩ : Ed) ∈ E)
  | [], _ => by simp [entsE, getN]
  | e :: E, h => by
    have h := List.pairwise_cons.1 h
    have ih := getN_entsE (d := d) (n := n) (s := s) h.2
    simp only [entsE] at ih
    simp only [entsE, List.filter_cons]
    by_cases h1 : e.dir = d
    · simp only [h1, decide_true, if_true, List.map_cons, getN]
      by_cases h2 : s = e.name
      · simp only [h2, if_true, Option.some.injEq, List.mem_cons]
        constructor
        · intro q; left; rw [← q, ← h1]
        · rintro (q | q)
          · rw [← q]
          · exact absurd ⟨h1, rfl⟩ (h.1 _ q)
      · simp only [h2, if_false, List.mem_cons, ih]
        constructor
        · exact .inr
        · rintro (q | q)
          · exact absurd (by rw [← q]) h2
          · exact q
    · simp only [h1, decide_false, Bool.false_eq_true, if_false, List.mem_cons, ih]
      constructor
      · exact .inr
      · rintro (q | q)
        · exact absurd (by rw [← q]) h1
        · exact q

theorem getN_entsE_none {d : Int} {s : Bs} {E : List Ed} (h : getN s (entsE E d) = none) : ∀ e ∈ E, ¬ (e.dir = d ∧ e.name = s) := by
  rw [getN_none] at h
  intro e he hh
  refine h ?_
  simp only [entsE, List.map_map, List.mem_map, List.mem_filter, decide_eq_true_eq]
  exact ⟨e, ⟨he, hh.1⟩, hh.2⟩

end Go.Am

set_option linter.unusedVariables false
set_option linter.unusedSimpArgs false
namespace Go.Am
open Go Go.Proofs

/-- From a directory up to the root, in n steps. -/
inductive Climb (f : Int → Option Nd) : Nat → Int → Prop
  | root : Climb f 0 1
  | up {k n nd} (h1 : k ≠ 1) (h2 : f k = some nd) (h3 : nd.kind = 2) (h4 : Climb f n nd.up) : Climb f (n + 1) k

theorem climbE_some {f : Int → Option Nd} {ino : Int} : ∀ {n : Nat} {k : Int}, Climb f n k → ∀ {m : Nat}, n < m → ∃ e, climbE f ino m k = some e ∧ (e = 0 ∨ e = 2) ∧ (e = 0 → k = 1 ∨ k ≠ ino) := by
  intro n k h
  induction h with
  | root => intro m hm; cases m with
    | zero => omega
    | succ m => exact ⟨0, by simp [climbE], .inl rfl, fun _ => .inl rfl⟩
  | @up k n nd h1 h2 h3 h4 ih =>
    intro m hm
    cases m with
    | zero => omega
    | succ m =>
      by_cases hk : k = ino
      · exact ⟨2, by simp only [climbE, if_neg h1, if_pos hk], .inr rfl, fun h => by omega⟩
      · obtain ⟨e, he, h5, _⟩ := ih (m := m) (by omega)
        exact ⟨e, by simp only [climbE, if_neg h1, if_neg hk, h2]; exact he, h5, fun _ => .inr hk⟩

/-- A way up stays where none of its inodes changes its up. -/
theorem Climb.same {f g : Int → Option Nd} : ∀ {n : Nat} {k : Int}, Climb f n k → (∀ k nd, f k = some nd → nd.kind = 2 → ∃ nd', g k = some nd' ∧ nd'.kind = 2 ∧ nd'.up = nd.up) → Climb g n k := by
  intro n k h hs
  induction h with
  | root => exact .root
  | up h1 h2 h3 h4 ih =>
    obtain ⟨nd', q1, q2, q3⟩ := hs _ _ h2 h3
    exact .up h1 q1 q2 (by rw [q3]; exact ih)

/-- What is moved under one that does not lie under it. -/
theorem Climb.moved {f g : Int → Option Nd} {ino to : Int} (hino : ino ≠ 1) (hi : ∃ nd, g ino = some nd ∧ nd.kind = 2 ∧ nd.up = to)
    (hs : ∀ k nd, k ≠ ino → f k = some nd → nd.kind = 2 → ∃ nd', g k = some nd' ∧ nd'.kind = 2 ∧ nd'.up = nd.up) {m : Nat} (ht : Climb f m to) (hfree : ∀ {q}, m < q → climbE f ino q to = some 0) :
    ∀ {n : Nat} {k : Int}, Climb f n k → ∃ n', Climb g n' k := by
  have hup : ∀ {m : Nat} {k : Int}, Climb f m k → (∀ {q}, m < q → climbE f ino q k = some 0) → Climb g m k := by
    intro m k h
    induction h with
    | root => intro _; exact .root
    | @up k n nd h1 h2 h3 h4 ih =>
      intro hq
      have h5 := hq (q := n + 1 + 1) (by omega)
      simp only [climbE, if_neg h1] at h5
      by_cases hk : k = ino
      · rw [if_pos hk] at h5; simp at h5
      · obtain ⟨nd', q1, q2, q3⟩ := hs _ _ hk h2 h3
        refine .up h1 q1 q2 ?_
        rw [q3]
        refine ih fun {q} hq' => ?_
        have h6 := hq (q := q + 1) (by omega)
        simp only [climbE, if_neg h1, if_neg hk, h2] at h6
        exact h6
  have ht' : Climb g m to := hup ht hfree
  intro n k h
  induction h with
  | root => exact ⟨0, .root⟩
  | @up k n nd h1 h2 h3 h4 ih =>
    by_cases hk : k = ino
    · subst hk
      obtain ⟨nd', q1, q2, q3⟩ := hi
      exact ⟨m + 1, .up hino q1 q2 (by rw [q3]; exact ht')⟩
    · obtain ⟨nd', q1, q2, q3⟩ := hs _ _ hk h2 h3
      obtain ⟨n', hn'⟩ := ih
      exact ⟨n' + 1, .up h1 q1 q2 (by rw [q3]; exact hn')⟩

theorem Climb.det {f : Int → Option Nd} : ∀ {n : Nat} {k : Int}, Climb f n k → ∀ {m : Nat}, Climb f m k → n = m := by
  intro n k h
  induction h with
  | root => intro m hm; cases hm with
    | root => rfl
    | up h1 => exact absurd rfl h1
  | up h1 h2 h3 h4 ih =>
    intro m hm
    cases hm with
    | root => exact absurd rfl h1
    | up q1 q2 q3 q4 =>
      rw [h2] at q2; cases q2
      rw [ih q4]

/-- The inodes of a way up. -/
theorem Climb.list {f : Int → Option Nd} : ∀ {n : Nat} {k : Int}, Climb f n k → ∃ l : List Int, l.length = n + 1 ∧ l.Nodup ∧ ∀ x ∈ l, (∃ j, j ≤ n ∧ Climb f j x) ∧ (x = 1 ∨ (f x).isSome = true) := by
  intro n k h
  induction h with
  | root => exact ⟨[1], rfl, by simp, fun x hx => by rw [List.mem_singleton.1 hx]; exact ⟨⟨0, Nat.le_refl _, .root⟩, .inl rfl⟩⟩
  | @up k n nd h1 h2 h3 h4 ih =>
    obtain ⟨l, q1, q2, q3⟩ := ih
    refine ⟨k :: l, by simp [q1], List.nodup_cons.2 ⟨fun hk => ?_, q2⟩, fun x hx => ?_⟩
    · obtain ⟨⟨j, hj, hc⟩, _⟩ := q3 k hk
      have := (Climb.up h1 h2 h3 h4).det hc
      omega
    · rcases List.mem_cons.1 hx with rfl | hx
      · exact ⟨⟨n + 1, Nat.le_refl _, .up h1 h2 h3 h4⟩, .inr (by rw [h2]; rfl)⟩
      · obtain ⟨⟨j, hj, hc⟩, q⟩ := q3 x hx
        exact ⟨⟨j, by omega, hc⟩, q⟩

theorem nodup_range : ∀ {m : Nat} {l : List Int}, l.Nodup → (∀ x ∈ l, 1 ≤ x ∧ x ≤ (m : Int)) → l.length ≤ m
  | 0, l, _, h => by
    cases l with
    | nil => simp
    | cons x l => have := h x List.mem_cons_self; omega
  | m + 1, l, hn, h => by
    have h1 : (l.filter fun x => decide (x ≠ ((m + 1 : Nat) : Int))).length ≤ m := nodup_range (hn.filter _) fun x hx => by
      obtain ⟨q1, q2⟩ := List.mem_filter.1 hx
      have := h x q1
      simp only [ne_eq, decide_not, Bool.not_eq_true', decide_eq_false_iff_not] at q2
      omega
    have h2 : l.length ≤ (l.filter fun x => decide (x ≠ ((m + 1 : Nat) : Int))).length + 1 := by
      clear h1 h
      generalize ((m + 1 : Nat) : Int) = y
      induction l with
      | nil => simp
      | cons x l ih =>
        rw [List.nodup_cons] at hn
        by_cases hx : x = y
        · subst hx
          have : l.filter (fun z => decide (z ≠ x)) = l := List.filter_eq_self.2 fun z hz => by
            simp only [ne_eq, decide_not, Bool.not_eq_true', decide_eq_false_iff_not]
            exact fun e => hn.1 (e ▸ hz)
          rw [List.filter_cons]
          simp only [ne_eq, not_true_eq_false, decide_false, Bool.false_eq_true, if_false]
          simp only [ne_eq] at this
          rw [this]; simp
        · have := ih hn.2
          rw [List.filter_cons]
          simp only [ne_eq, hx, not_false_eq_true, decide_true, if_true, List.length_cons]
          simp only [ne_eq] at this
          omega
    omega

theorem Climb.short {f : Int → Option Nd} {last : Int} (hr : ∀ k nd, f k = some nd → 1 ≤ k ∧ k ≤ last) (h1 : (f 1).isSome = true) {n : Nat} {k : Int} (h : Climb f n k) : n < last.toNat := by
  obtain ⟨l, q1, q2, q3⟩ := h.list
  have hl : 1 ≤ last := by
    obtain ⟨nd, hnd⟩ := Option.isSome_iff_exists.1 h1
    exact (hr 1 nd hnd).2
  have := nodup_range (m := last.toNat) q2 fun x hx => by
    rcases (q3 x hx).2 with rfl | hs
    · omega
    · obtain ⟨nd, hnd⟩ := Option.isSome_iff_exists.1 hs
      have := hr x nd hnd
      omega
  omega

end Go.Am

set_option linter.unusedVariables false
set_option linter.unusedSimpArgs false
namespace Go.Am
open Go Go.Proofs

/-- The inodes that there are, in their order. -/
def keysT (tb : Tb) : List Int := ((List.range tb.last.toNat).map fun i => ((i + 1 : Nat) : Int)).filter fun k => (tb.nodes k).isSome
def lenT (f : Int → Option Nd) (k : Int) : Nat := match f k with | some nd => nd.data.length | none => 0

/-- What holds of every table, but for what is used. -/
structure Inv (tb : Tb) (E : List Ed) : Prop where
  root : ∃ r, tb.nodes 1 = some r ∧ r.kind = 2 ∧ r.up = 1 ∧ r.links = 1
  range : ∀ k nd, tb.nodes k = some nd → 1 ≤ k ∧ k ≤ tb.last
  kind : ∀ k nd, tb.nodes k = some nd → 1 ≤ nd.kind ∧ nd.kind ≤ 3
  data : ∀ k nd, tb.nodes k = some nd → nd.kind = 2 → nd.data = []
  upf : ∀ k nd, tb.nodes k = some nd → nd.kind ≠ 2 → nd.up = 0
  ents : ∀ k nd, tb.nodes k = some nd → nd.ents = entsE E k
  one : OneE E
  dir : ∀ e ∈ E, ∃ dn, tb.nodes e.dir = some dn ∧ dn.kind = 2
  ino : ∀ e ∈ E, e.ino ≠ 1 ∧ ∃ cn, tb.nodes e.ino = some cn ∧ (cn.kind = 2 → cn.up = e.dir)
  links : ∀ k nd, tb.nodes k = some nd → k ≠ 1 → nd.links = cntE E k ∧ 1 ≤ cntE E k ∧ (nd.kind ≠ 1 → cntE E k = 1)
  climb : ∀ k nd, tb.nodes k = some nd → nd.kind = 2 → ∃ n, Climb tb.nodes n k

theorem cntE_zero {E : List Ed} {k : Int} (h : ∀ e ∈ E, e.ino ≠ k) : cntE E k = 0 := by
  unfold cntE
  rw [List.countP_eq_zero]
  intro e he
  simpa using h e he
theorem entsE_nil {E : List Ed} {k : Int} (h : ∀ e ∈ E, e.dir ≠ k) : entsE E k = [] := by
  unfold entsE
  rw [List.filter_eq_nil_iff.2 fun e he => by simpa using h e he]
  rfl

section
variable {tb : Tb} {E : List Ed}

theorem Inv.fresh (a : Inv tb E) : Fresh tb := fun k hk => by
  cases h : tb.nodes k with
  | none => rfl
  | some nd => have := (a.range k nd h).2; omega

theorem Inv.find (a : Inv tb E) {d n : Int} {s : Bs} : findT tb d s = some n ↔ (⟨d, s, n⟩ : Ed) ∈ E ∧ (tb.nodes d).isSome = true := by
  unfold findT
  cases h : tb.nodes d with
  | none => simp
  | some nd => simp only [a.ents d nd h, getN_entsE a.one]; simp

theorem like_kind {kind mode : Int} {data : Bs} (h : likeE kind mode data = 0) : 1 ≤ kind ∧ kind ≤ 3 ∧ (kind = 2 → data = []) := by
  unfold likeE at h
  split at h
  · rename_i hg
    simp only [goodLike, Bool.and_eq_true, Bool.or_eq_true, decide_eq_true_eq, Bool.not_eq_true', decide_eq_false_iff_not] at hg
    obtain ⟨⟨hk, _⟩, _⟩ := hg
    rcases hk with (hk | ⟨hk, hd⟩) | ⟨⟨⟨hk, _⟩, _⟩, _⟩
    · exact ⟨by omega, by omega, fun h => by omega⟩
    · exact ⟨by omega, by omega, fun _ => hd⟩
    · exact ⟨by omega, by omega, fun h => by omega⟩
  · simp at h

/-- Make keeps it. -/
theorem Inv.make (a : Inv tb E) {dir kind mode : Int} {name data : Bs} (h0 : makeE tb dir name kind mode data = 0) : Inv (madeT tb dir name kind mode data) (E ++ [⟨dir, name, tb.last + 1⟩]) := by
  have hz := firstE_zero.1 h0
  obtain ⟨dnd, hd, hd2⟩ := dirE_zero (hz _ (by simp) : dirE tb dir = 0)
  have hn := freeE_zero (hz _ (by simp) : freeE tb dir name = 0)
  obtain ⟨hk1, hk3, hkd⟩ := like_kind (hz _ (by simp) : likeE kind mode data = 0)
  rw [findT_some hd, a.ents dir dnd hd] at hn
  have hno := getN_entsE_none hn
  have hfr : tb.nodes (tb.last + 1) = none := a.fresh _ (by omega)
  have hrd := a.range dir dnd hd
  have hdne : dir ≠ tb.last + 1 := by omega
  have hlast1 : 1 ≤ tb.last := by omega
  -- the inodes that there are now
  have hnodes : (madeT tb dir name kind mode data).nodes = upd (upd tb.nodes (tb.last + 1) (some (freshNd dir kind mode data))) dir (some { dnd with ents := dnd.ents ++ [(name, tb.last + 1)] }) := by
    show addE _ _ _ _ = _
    rw [addE_some (by rw [upd_ne _ _ hdne]; exact hd)]
  have cases' : ∀ k nd, (madeT tb dir name kind mode data).nodes k = some nd → (k = dir ∧ nd = { dnd with ents := dnd.ents ++ [(name, tb.last + 1)] }) ∨ (k = tb.last + 1 ∧ nd = freshNd dir kind mode data) ∨ (k ≠ dir ∧ k ≠ tb.last + 1 ∧ tb.nodes k = some nd) := fun k nd hk => by
    rw [hnodes] at hk
    rcases upd_cases hk with ⟨rfl, hx⟩ | ⟨e, hx⟩
    · cases hx; exact .inl ⟨rfl, rfl⟩
    · rcases upd_cases hx with ⟨e2, hy⟩ | ⟨e2, hy⟩
      · cases hy; exact .inr (.inl ⟨e2, rfl⟩)
      · exact .inr (.inr ⟨e, e2, hy⟩)
  have old : ∀ k nd, tb.nodes k = some nd → ∃ nd', (madeT tb dir name kind mode data).nodes k = some nd' ∧ nd'.kind = nd.kind ∧ nd'.up = nd.up ∧ nd'.links = nd.links := fun k nd hk => by
    rw [hnodes]
    by_cases e : k = dir
    · subst e; rw [hd] at hk; cases hk; exact ⟨_, upd_self _ _ _, rfl, rfl, rfl⟩
    · have e2 : k ≠ tb.last + 1 := fun e2 => by rw [e2, hfr] at hk; cases hk
      exact ⟨nd, by rw [upd_ne _ _ e, upd_ne _ _ e2]; exact hk, rfl, rfl, rfl⟩
  have new : (madeT tb dir name kind mode data).nodes (tb.last + 1) = some (freshNd dir kind mode data) := by
    rw [hnodes, upd_ne _ _ (fun e => hdne e.symm), upd_self]
  have hcl : ∀ {n k}, Climb tb.nodes n k → Climb (madeT tb dir name kind mode data).nodes n k := fun h => h.same fun k nd hk h2 => by
    obtain ⟨nd', q1, q2, q3, _⟩ := old k nd hk
    exact ⟨nd', q1, by rw [q2]; exact h2, q3⟩
  have hinoL : ∀ e ∈ E, e.ino ≠ tb.last + 1 := fun e he hh => by
    obtain ⟨_, cn, hc, _⟩ := a.ino e he
    rw [hh, hfr] at hc; cases hc
  have hdirL : ∀ e ∈ E, e.dir ≠ tb.last + 1 := fun e he hh => by
    obtain ⟨cn, hc, _⟩ := a.dir e he
    rw [hh, hfr] at hc; cases hc
  exact {
    root := by
      obtain ⟨r, q1, q2, q3, q4⟩ := a.root
      obtain ⟨r', p1, p2, p3, p4⟩ := old 1 r q1
      exact ⟨r', p1, by rw [p2]; exact q2, by rw [p3]; exact q3, by rw [p4]; exact q4⟩
    range := fun k nd hk => by
      show 1 ≤ k ∧ k ≤ tb.last + 1
      rcases cases' k nd hk with ⟨rfl, _⟩ | ⟨rfl, _⟩ | ⟨_, _, h⟩
      · omega
      · omega
      · have := a.range k nd h; omega
    kind := fun k nd hk => by
      rcases cases' k nd hk with ⟨rfl, rfl⟩ | ⟨rfl, rfl⟩ | ⟨_, _, h⟩
      · exact a.kind _ dnd hd
      · exact ⟨hk1, hk3⟩
      · exact a.kind k nd h
    data := fun k nd hk h2 => by
      rcases cases' k nd hk with ⟨rfl, rfl⟩ | ⟨rfl, rfl⟩ | ⟨_, _, h⟩
      · exact a.data _ dnd hd hd2
      · exact hkd h2
      · exact a.data k nd h h2
    upf := fun k nd hk h2 => by
      rcases cases' k nd hk with ⟨rfl, rfl⟩ | ⟨rfl, rfl⟩ | ⟨_, _, h⟩
      · exact absurd hd2 h2
      · exact if_neg h2
      · exact a.upf k nd h h2
    ents := fun k nd hk => by
      rw [entsE_add]
      rcases cases' k nd hk with ⟨rfl, rfl⟩ | ⟨rfl, rfl⟩ | ⟨h1, _, h⟩
      · rw [if_pos rfl, ← a.ents _ dnd hd]
      · rw [if_neg (fun e => hdne e.symm), entsE_nil hdirL]; rfl
      · rw [if_neg h1]; exact a.ents k nd h
    one := a.one.add hno
    dir := fun e he => by
      rcases List.mem_append.1 he with he | he
      · obtain ⟨dn, q1, q2⟩ := a.dir e he
        obtain ⟨dn', p1, p2, _⟩ := old _ dn q1
        exact ⟨dn', p1, by rw [p2]; exact q2⟩
      · rw [List.mem_singleton.1 he]
        obtain ⟨dn', p1, p2, _⟩ := old _ dnd hd
        exact ⟨dn', p1, by rw [p2]; exact hd2⟩
    ino := fun e he => by
      rcases List.mem_append.1 he with he | he
      · obtain ⟨q0, cn, q1, q2⟩ := a.ino e he
        obtain ⟨cn', p1, p2, p3, _⟩ := old _ cn q1
        exact ⟨q0, cn', p1, fun h => by rw [p3]; exact q2 (by rw [← p2]; exact h)⟩
      · rw [List.mem_singleton.1 he]
        refine ⟨show tb.last + 1 ≠ 1 by omega, _, new, fun h => ?_⟩
        show (if kind = 2 then dir else 0) = dir
        exact if_pos h
    links := fun k nd hk hk1' => by
      rw [cntE_add]
      rcases cases' k nd hk with ⟨rfl, rfl⟩ | ⟨rfl, rfl⟩ | ⟨_, h2, h⟩
      · rw [if_neg hdne]
        exact a.links _ dnd hd hk1'
      · rw [if_pos rfl, cntE_zero hinoL]
        exact ⟨rfl, Nat.le_refl _, fun _ => rfl⟩
      · rw [if_neg h2]
        exact a.links k nd h hk1'
    climb := fun k nd hk h2 => by
      rcases cases' k nd hk with ⟨rfl, rfl⟩ | ⟨rfl, rfl⟩ | ⟨_, _, h⟩
      · obtain ⟨n, hn⟩ := a.climb _ dnd hd hd2
        exact ⟨n, hcl hn⟩
      · obtain ⟨n, hn⟩ := a.climb _ dnd hd hd2
        refine ⟨n + 1, .up (by omega) new h2 ?_⟩
        show Climb _ n (if kind = 2 then dir else 0)
        rw [if_pos (show kind = 2 from h2)]
        exact hcl hn
      · obtain ⟨n, hn⟩ := a.climb k nd h h2
        exact ⟨n, hcl hn⟩ }
end
end Go.Am

set_option linter.unusedVariables false
set_option linter.unusedSimpArgs false
namespace Go.Am
open Go Go.Proofs

section
variable {tb : Tb} {E : List Ed}

/-- Another mode, other data. -/
theorem Inv.tweak (a : Inv tb E) {tb' : Tb} {k : Int} {nd nd' : Nd} (hk : tb.nodes k = some nd) (hn : tb'.nodes = upd tb.nodes k (some nd')) (hl : tb'.last = tb.last)
    (h1 : nd'.kind = nd.kind) (h2 : nd'.up = nd.up) (h3 : nd'.ents = nd.ents) (h4 : nd'.links = nd.links) (h5 : nd'.kind = 2 → nd'.data = []) : Inv tb' E := by
  have cases' : ∀ j x, tb'.nodes j = some x → (j = k ∧ x = nd') ∨ (j ≠ k ∧ tb.nodes j = some x) := fun j x hj => by
    rw [hn] at hj
    rcases upd_cases hj with ⟨rfl, hx⟩ | ⟨e, hx⟩
    · cases hx; exact .inl ⟨rfl, rfl⟩
    · exact .inr ⟨e, hx⟩
  have old : ∀ j x, tb.nodes j = some x → ∃ x', tb'.nodes j = some x' ∧ x'.kind = x.kind ∧ x'.up = x.up ∧ x'.links = x.links := fun j x hj => by
    rw [hn]
    by_cases e : j = k
    · subst e; rw [hk] at hj; cases hj; exact ⟨_, upd_self _ _ _, h1, h2, h4⟩
    · exact ⟨x, by rw [upd_ne _ _ e]; exact hj, rfl, rfl, rfl⟩
  have hcl : ∀ {n k}, Climb tb.nodes n k → Climb tb'.nodes n k := fun h => h.same fun k nd hk h2 => by
    obtain ⟨nd', q1, q2, q3, _⟩ := old k nd hk
    exact ⟨nd', q1, by rw [q2]; exact h2, q3⟩
  exact {
    root := by
      obtain ⟨r, q1, q2, q3, q4⟩ := a.root
      obtain ⟨r', p1, p2, p3, p4⟩ := old 1 r q1
      exact ⟨r', p1, by rw [p2]; exact q2, by rw [p3]; exact q3, by rw [p4]; exact q4⟩
    range := fun j x hj => by
      rw [hl]
      rcases cases' j x hj with ⟨rfl, _⟩ | ⟨_, h⟩
      · exact a.range _ _ hk
      · exact a.range _ _ h
    kind := fun j x hj => by
      rcases cases' j x hj with ⟨rfl, rfl⟩ | ⟨_, h⟩
      · rw [h1]; exact a.kind _ _ hk
      · exact a.kind _ _ h
    data := fun j x hj hx => by
      rcases cases' j x hj with ⟨rfl, rfl⟩ | ⟨_, h⟩
      · exact h5 hx
      · exact a.data _ _ h hx
    upf := fun j x hj hx => by
      rcases cases' j x hj with ⟨rfl, rfl⟩ | ⟨_, h⟩
      · rw [h2]; exact a.upf _ _ hk (by rw [← h1]; exact hx)
      · exact a.upf _ _ h hx
    ents := fun j x hj => by
      rcases cases' j x hj with ⟨rfl, rfl⟩ | ⟨_, h⟩
      · rw [h3]; exact a.ents _ _ hk
      · exact a.ents _ _ h
    one := a.one
    dir := fun e he => by
      obtain ⟨dn, q1, q2⟩ := a.dir e he
      obtain ⟨dn', p1, p2, _⟩ := old _ dn q1
      exact ⟨dn', p1, by rw [p2]; exact q2⟩
    ino := fun e he => by
      obtain ⟨q0, cn, q1, q2⟩ := a.ino e he
      obtain ⟨cn', p1, p2, p3, _⟩ := old _ cn q1
      exact ⟨q0, cn', p1, fun h => by rw [p3]; exact q2 (by rw [← p2]; exact h)⟩
    links := fun j x hj hj1 => by
      rcases cases' j x hj with ⟨rfl, rfl⟩ | ⟨_, h⟩
      · rw [h4, h1]; exact a.links _ _ hk hj1
      · exact a.links _ _ h hj1
    climb := fun j x hj hx => by
      rcases cases' j x hj with ⟨rfl, rfl⟩ | ⟨_, h⟩
      · obtain ⟨n, hn⟩ := a.climb _ _ hk (by rw [← h1]; exact hx)
        exact ⟨n, hcl hn⟩
      · obtain ⟨n, hn⟩ := a.climb _ _ h hx
        exact ⟨n, hcl hn⟩ }

theorem Inv.write (a : Inv tb E) (ino : Int) (data : Bs) : Inv (writeT tb ino data) E := by
  unfold writeT
  split
  · rename_i h0
    have hf : fileE tb ino = 0 := firstE_zero.1 h0 _ (by simp)
    obtain ⟨nd, hk, hk1⟩ := fileE_zero hf
    simp only [hk]
    exact a.tweak hk rfl rfl rfl rfl rfl rfl fun h => by
      have : nd.kind = 2 := h
      omega
  · exact a

theorem Inv.chmod (a : Inv tb E) (ino mode : Int) : Inv (chmodT tb ino mode) E := by
  unfold chmodT
  split
  · cases hk : tb.nodes ino with
    | none => exact a
    | some nd => exact a.tweak hk rfl rfl rfl rfl rfl rfl fun h => a.data ino nd hk h
  · exact a
end
end Go.Am

set_option linter.unusedVariables false
set_option linter.unusedSimpArgs false
namespace Go.Am
open Go Go.Proofs

section
variable {tb : Tb} {E : List Ed}

theorem Inv.link (a : Inv tb E) {dir ino : Int} {name : Bs} (h0 : linkE tb dir name ino = 0) : Inv { tb with nodes := incL (addE tb.nodes dir name ino) ino 1 } (E ++ [⟨dir, name, ino⟩]) := by
  have hz := firstE_zero.1 h0
  obtain ⟨dnd, hd, hd2⟩ := dirE_zero (hz _ (by simp) : dirE tb dir = 0)
  obtain ⟨fnd, hf, hf1⟩ := fileE_zero (hz _ (by simp) : fileE tb ino = 0)
  have hn := freeE_zero (hz _ (by simp) : freeE tb dir name = 0)
  rw [findT_some hd, a.ents dir dnd hd] at hn
  have hno := getN_entsE_none hn
  have hne : ino ≠ dir := fun e => by rw [e, hd] at hf; cases hf; omega
  have hi1 : ino ≠ 1 := fun e => by
    obtain ⟨r, q1, q2, _⟩ := a.root
    rw [e, q1] at hf; cases hf; omega
  have hnodes : incL (addE tb.nodes dir name ino) ino 1 = upd (upd tb.nodes dir (some { dnd with ents := dnd.ents ++ [(name, ino)] })) ino (some { fnd with links := fnd.links + 1 }) := by
    rw [addE_some hd, incL_some (nd := fnd) (by rw [upd_ne _ _ hne]; exact hf)]
  rw [hnodes]
  have cases' : ∀ k nd, upd (upd tb.nodes dir (some { dnd with ents := dnd.ents ++ [(name, ino)] })) ino (some { fnd with links := fnd.links + 1 }) k = some nd → (k = dir ∧ nd = { dnd with ents := dnd.ents ++ [(name, ino)] }) ∨ (k = ino ∧ nd = { fnd with links := fnd.links + 1 }) ∨ (k ≠ dir ∧ k ≠ ino ∧ tb.nodes k = some nd) := fun k nd hk => by
    rcases upd_cases hk with ⟨e, hx⟩ | ⟨e, hx⟩
    · cases hx; exact .inr (.inl ⟨e, rfl⟩)
    · rcases upd_cases hx with ⟨e2, hy⟩ | ⟨e2, hy⟩
      · cases hy; exact .inl ⟨e2, rfl⟩
      · exact .inr (.inr ⟨e2, e, hy⟩)
  have old : ∀ k nd, tb.nodes k = some nd → ∃ nd', upd (upd tb.nodes dir (some { dnd with ents := dnd.ents ++ [(name, ino)] })) ino (some { fnd with links := fnd.links + 1 }) k = some nd' ∧ nd'.kind = nd.kind ∧ nd'.up = nd.up ∧ (k ≠ ino → nd'.links = nd.links) := fun k nd hk => by
    by_cases e : k = ino
    · subst e; rw [hf] at hk; cases hk; exact ⟨_, upd_self _ _ _, rfl, rfl, fun h => absurd rfl h⟩
    · by_cases e2 : k = dir
      · subst e2; rw [hd] at hk; cases hk; exact ⟨_, (upd_ne _ _ e).trans (upd_self _ _ _), rfl, rfl, fun _ => rfl⟩
      · exact ⟨nd, by rw [upd_ne _ _ e, upd_ne _ _ e2]; exact hk, rfl, rfl, fun _ => rfl⟩
  have hcl : ∀ {n k}, Climb tb.nodes n k → Climb (upd (upd tb.nodes dir (some { dnd with ents := dnd.ents ++ [(name, ino)] })) ino (some { fnd with links := fnd.links + 1 })) n k := fun h => h.same fun k nd hk h2 => by
    obtain ⟨nd', q1, q2, q3, _⟩ := old k nd hk
    exact ⟨nd', q1, by rw [q2]; exact h2, q3⟩
  exact {
    root := by
      obtain ⟨r, q1, q2, q3, q4⟩ := a.root
      obtain ⟨r', p1, p2, p3, p4⟩ := old 1 r q1
      exact ⟨r', p1, by rw [p2]; exact q2, by rw [p3]; exact q3, by rw [p4 (fun e => hi1 e.symm)]; exact q4⟩
    range := fun k nd hk => by
      rcases cases' k nd hk with ⟨rfl, _⟩ | ⟨rfl, _⟩ | ⟨_, _, h⟩
      · exact a.range _ _ hd
      · exact a.range _ _ hf
      · exact a.range _ _ h
    kind := fun k nd hk => by
      rcases cases' k nd hk with ⟨rfl, rfl⟩ | ⟨rfl, rfl⟩ | ⟨_, _, h⟩
      · exact a.kind _ dnd hd
      · exact a.kind _ fnd hf
      · exact a.kind k nd h
    data := fun k nd hk h2 => by
      rcases cases' k nd hk with ⟨rfl, rfl⟩ | ⟨rfl, rfl⟩ | ⟨_, _, h⟩
      · exact a.data _ dnd hd hd2
      · exact a.data _ fnd hf h2
      · exact a.data k nd h h2
    upf := fun k nd hk h2 => by
      rcases cases' k nd hk with ⟨rfl, rfl⟩ | ⟨rfl, rfl⟩ | ⟨_, _, h⟩
      · exact absurd hd2 h2
      · exact a.upf _ fnd hf h2
      · exact a.upf k nd h h2
    ents := fun k nd hk => by
      rw [entsE_add]
      rcases cases' k nd hk with ⟨rfl, rfl⟩ | ⟨rfl, rfl⟩ | ⟨h1, _, h⟩
      · rw [if_pos rfl, ← a.ents _ dnd hd]
      · rw [if_neg hne]; exact a.ents _ fnd hf
      · rw [if_neg h1]; exact a.ents k nd h
    one := a.one.add hno
    dir := fun e he => by
      rcases List.mem_append.1 he with he | he
      · obtain ⟨dn, q1, q2⟩ := a.dir e he
        obtain ⟨dn', p1, p2, _⟩ := old _ dn q1
        exact ⟨dn', p1, by rw [p2]; exact q2⟩
      · rw [List.mem_singleton.1 he]
        obtain ⟨dn', p1, p2, _⟩ := old _ dnd hd
        exact ⟨dn', p1, by rw [p2]; exact hd2⟩
    ino := fun e he => by
      rcases List.mem_append.1 he with he | he
      · obtain ⟨q0, cn, q1, q2⟩ := a.ino e he
        obtain ⟨cn', p1, p2, p3, _⟩ := old _ cn q1
        exact ⟨q0, cn', p1, fun h => by rw [p3]; exact q2 (by rw [← p2]; exact h)⟩
      · rw [List.mem_singleton.1 he]
        obtain ⟨fn', p1, p2, p3, _⟩ := old _ fnd hf
        exact ⟨hi1, fn', p1, fun h => by rw [p2] at h; omega⟩
    links := fun k nd hk hk1 => by
      rw [cntE_add]
      rcases cases' k nd hk with ⟨rfl, rfl⟩ | ⟨rfl, rfl⟩ | ⟨_, h2, h⟩
      · rw [if_neg (fun e => hne e.symm)]
        exact a.links _ dnd hd hk1
      · rw [if_pos rfl]
        have := a.links _ fnd hf hk1
        refine ⟨?_, by omega, fun h => absurd hf1 h⟩
        show fnd.links + 1 = _
        omega
      · rw [if_neg h2]
        exact a.links k nd h hk1
    climb := fun k nd hk h2 => by
      rcases cases' k nd hk with ⟨rfl, rfl⟩ | ⟨rfl, rfl⟩ | ⟨_, _, h⟩
      · obtain ⟨n, hn⟩ := a.climb _ dnd hd hd2
        exact ⟨n, hcl hn⟩
      · obtain ⟨n, hn⟩ := a.climb _ fnd hf h2
        exact ⟨n, hcl hn⟩
      · obtain ⟨n, hn⟩ := a.climb k nd h h2
        exact ⟨n, hcl hn⟩ }
end
end Go.Am

set_option linter.unusedVariables false
set_option linter.unusedSimpArgs false
namespace Go.Am
open Go Go.Proofs

theorem delE_map (f : Int → Option Nd) (d : Int) (s : Bs) (k : Int) : delE f d s k = (f k).map fun nd => if k = d then { nd with ents := delN s nd.ents } else nd := by
  cases hd : f d with
  | none =>
    simp only [delE, hd]
    cases hk : f k with
    | none => rfl
    | some nd =>
      have : k ≠ d := fun e => by rw [e, hd] at hk; cases hk
      simp [this]
  | some dn =>
    rw [delE_some hd]
    by_cases e : k = d
    · rw [e, upd_self, hd]; simp
    · rw [upd_ne _ _ e]; cases f k <;> simp [e]
theorem addE_map (f : Int → Option Nd) (d : Int) (s : Bs) (n k : Int) : addE f d s n k = (f k).map fun nd => if k = d then { nd with ents := nd.ents ++ [(s, n)] } else nd := by
  cases hd : f d with
  | none =>
    simp only [addE, hd]
    cases hk : f k with
    | none => rfl
    | some nd =>
      have : k ≠ d := fun e => by rw [e, hd] at hk; cases hk
      simp [this]
  | some dn =>
    rw [addE_some hd]
    by_cases e : k = d
    · rw [e, upd_self, hd]; simp
    · rw [upd_ne _ _ e]; cases f k <;> simp [e]
theorem setUp_map (f : Int → Option Nd) (i to k : Int) : setUp f i to k = (f k).map fun nd => if k = i ∧ nd.kind = 2 then { nd with up := to } else nd := by
  cases hi : f i with
  | none =>
    simp only [setUp, hi]
    cases hk : f k with
    | none => rfl
    | some nd =>
      have : k ≠ i := fun e => by rw [e, hi] at hk; cases hk
      simp [this]
  | some dn =>
    simp only [setUp, hi]
    by_cases h2 : dn.kind = 2
    · rw [if_pos h2]
      by_cases e : k = i
      · rw [e, upd_self, hi]; simp [h2]
      · rw [upd_ne _ _ e]; cases f k <;> simp [e]
    · rw [if_neg h2]
      by_cases e : k = i
      · rw [e, hi]; simp [h2]
      · cases f k <;> simp [e]

/-- A way up that keeps within P. -/
theorem Climb.within {f g : Int → Option Nd} {P : Int → Prop} : ∀ {n : Nat} {k : Int}, Climb f n k → P k → (∀ k nd, P k → k ≠ 1 → f k = some nd → nd.kind = 2 → P nd.up ∧ ∃ nd', g k = some nd' ∧ nd'.kind = 2 ∧ nd'.up = nd.up) → Climb g n k := by
  intro n k h hp hs
  induction h with
  | root => exact .root
  | up h1 h2 h3 h4 ih =>
    obtain ⟨hq, nd', q1, q2, q3⟩ := hs _ _ hp h1 h2 h3
    exact .up h1 q1 q2 (by rw [q3]; exact ih hq)

section
variable {tb : Tb} {E : List Ed}

/-- No directory names itself. -/
theorem Inv.apart (a : Inv tb E) {d n : Int} {s : Bs} (h : (⟨d, s, n⟩ : Ed) ∈ E) : n ≠ d := fun e => by
  obtain ⟨dn, q1, q2⟩ := a.dir _ h
  obtain ⟨q3, cn, q4, q5⟩ := a.ino _ h
  have q1' : tb.nodes d = some dn := q1
  have q3' : n ≠ 1 := q3
  have q4' : tb.nodes n = some cn := q4
  rw [e, q1'] at q4'
  cases q4'
  have hup : dn.up = d := q5 q2
  obtain ⟨m, hm⟩ := a.climb d dn q1' q2
  cases hm with
  | root => exact q3' e
  | up p1 p2 p3 p4 =>
    rw [q1'] at p2; cases p2
    rw [hup] at p4
    have := (Climb.up p1 q1' q2 (by rw [hup]; exact p4)).det p4
    omega

theorem entsE_none {E : List Ed} {d : Int} (h : (entsE E d).length = 0) : ∀ e ∈ E, e.dir ≠ d := fun e he hd => by
  simp only [entsE, List.length_map] at h
  have := List.length_eq_zero_iff.1 h
  have hm : e ∈ E.filter fun e => decide (e.dir = d) := List.mem_filter.2 ⟨he, by simpa using hd⟩
  rw [this] at hm; cases hm

/-- A directory's edge. -/
theorem Inv.upEdge (a : Inv tb E) {k : Int} {nd : Nd} (hk : tb.nodes k = some nd) (h1 : k ≠ 1) : ∃ e ∈ E, e.ino = k ∧ (nd.kind = 2 → nd.up = e.dir) := by
  obtain ⟨_, h2, _⟩ := a.links k nd hk h1
  have : 0 < cntE E k := by omega
  unfold cntE at this
  rw [List.countP_pos_iff] at this
  obtain ⟨e, he, q⟩ := this
  have q : e.ino = k := by simpa using q
  refine ⟨e, he, q, fun h2 => ?_⟩
  obtain ⟨_, cn, p1, p2⟩ := a.ino e he
  rw [q, hk] at p1; cases p1
  exact p2 h2

theorem cntE_pos {E : List Ed} {e : Ed} (h : e ∈ E) : 1 ≤ cntE E e.ino := by
  unfold cntE
  exact List.countP_pos_iff.2 ⟨e, h, by simp⟩

/-- What Unlink leaves, whichever way. -/
theorem Inv.unlinked (a : Inv tb E) {dir ino : Int} {name : Bs} {cn : Nd} {tb' : Tb} (he : (⟨dir, name, ino⟩ : Ed) ∈ E) (hc : tb.nodes ino = some cn) (h0 : cn.ents.length = 0) (hl : tb'.last = tb.last)
    (hn : tb'.nodes = upd (delE tb.nodes dir name) ino (if cn.links - 1 = 0 then none else some { cn with links := cn.links - 1 })) : Inv tb' (dropE E dir name) := by
  have hne : ino ≠ dir := a.apart he
  have hi1 : ino ≠ 1 := (a.ino _ he).1
  have hcl := a.links ino cn hc hi1
  have hcd := fun k => cntE_drop (k := k) a.one he
  rw [a.ents ino cn hc] at h0
  have hnod := entsE_none h0
  have at' : ∀ k, k ≠ ino → tb'.nodes k = (tb.nodes k).map fun nd => if k = dir then { nd with ents := delN name nd.ents } else nd := fun k hk => by
    rw [hn, upd_ne _ _ hk, delE_map]
  have atI : tb'.nodes ino = if cn.links - 1 = 0 then none else some { cn with links := cn.links - 1 } := by rw [hn, upd_self]
  have kin : cn.links - 1 ≠ 0 → cn.kind = 1 := fun h => by
    by_cases h1 : cn.kind = 1
    · exact h1
    · have := hcl.2.2 h1; omega
  have back : ∀ k nd', tb'.nodes k = some nd' → ∃ nd, tb.nodes k = some nd ∧ nd'.kind = nd.kind ∧ nd'.up = nd.up ∧ nd'.data = nd.data ∧ nd'.ents = entsE (dropE E dir name) k ∧ (k = ino → cn.links - 1 ≠ 0 ∧ nd = cn ∧ nd'.links = cn.links - 1) ∧ (k ≠ ino → nd'.links = nd.links) := fun k nd' hk => by
    by_cases e : k = ino
    · subst e
      rw [atI] at hk
      split at hk
      · cases hk
      · rename_i hz
        cases hk
        refine ⟨cn, hc, rfl, rfl, rfl, ?_, fun _ => ⟨hz, rfl, rfl⟩, fun h => absurd rfl h⟩
        rw [entsE_drop, if_neg hne]
        exact a.ents k cn hc
    · rw [at' k e] at hk
      cases hq : tb.nodes k with
      | none => rw [hq] at hk; cases hk
      | some nd =>
        rw [hq] at hk
        simp only [Option.map_some, Option.some.injEq] at hk
        subst hk
        refine ⟨nd, rfl, ?_⟩
        rw [entsE_drop]
        by_cases e2 : k = dir
        · rw [if_pos e2, if_pos e2, ← a.ents dir nd (by rw [← e2]; exact hq)]
          exact ⟨rfl, rfl, rfl, rfl, fun h => absurd h e, fun _ => rfl⟩
        · rw [if_neg e2, if_neg e2]
          exact ⟨rfl, rfl, rfl, a.ents k nd hq, fun h => absurd h e, fun _ => rfl⟩
  have old : ∀ k nd, tb.nodes k = some nd → (k = ino → cn.links - 1 ≠ 0) → ∃ nd', tb'.nodes k = some nd' ∧ nd'.kind = nd.kind ∧ nd'.up = nd.up ∧ (k ≠ ino → nd'.links = nd.links) := fun k nd hk h => by
    by_cases e : k = ino
    · subst e
      rw [hc] at hk; cases hk
      exact ⟨{ cn with links := cn.links - 1 }, by rw [atI, if_neg (h rfl)], rfl, rfl, fun h => absurd rfl h⟩
    · rw [at' k e, hk]
      refine ⟨_, rfl, ?_⟩
      by_cases e2 : k = dir
      · simp only [if_pos e2]; exact ⟨trivial, trivial, fun _ => trivial⟩
      · simp only [if_neg e2]; exact ⟨trivial, trivial, fun _ => trivial⟩
  have many : ∀ e ∈ dropE E dir name, e.ino = ino → cn.links - 1 ≠ 0 := fun e h h2 => by
    have := cntE_pos h
    have := hcd ino
    rw [h2] at *
    simp only [if_true] at this
    omega
  exact {
    root := by
      obtain ⟨r, q1, q2, q3, q4⟩ := a.root
      obtain ⟨r', p1, p2, p3, p4⟩ := old 1 r q1 fun e => absurd e.symm hi1
      exact ⟨r', p1, by rw [p2]; exact q2, by rw [p3]; exact q3, by rw [p4 fun e => hi1 e.symm]; exact q4⟩
    range := fun k nd hk => by
      obtain ⟨nd0, q1, _⟩ := back k nd hk
      rw [hl]; exact a.range k nd0 q1
    kind := fun k nd hk => by
      obtain ⟨nd0, q1, q2, _⟩ := back k nd hk
      rw [q2]; exact a.kind k nd0 q1
    data := fun k nd hk h2 => by
      obtain ⟨nd0, q1, q2, _, q3, _⟩ := back k nd hk
      rw [q3]; exact a.data k nd0 q1 (by rw [← q2]; exact h2)
    upf := fun k nd hk h2 => by
      obtain ⟨nd0, q1, q2, q3, _⟩ := back k nd hk
      rw [q3]; exact a.upf k nd0 q1 (by rw [← q2]; exact h2)
    ents := fun k nd hk => by
      obtain ⟨nd0, q1, q2, q3, q4, q5, _⟩ := back k nd hk
      exact q5
    one := a.one.drop _ _
    dir := fun e h => by
      have hm := (mem_dropE.1 h).1
      obtain ⟨dn, q1, q2⟩ := a.dir e hm
      obtain ⟨dn', p1, p2, _⟩ := old _ dn q1 fun h => absurd h (hnod e hm)
      exact ⟨dn', p1, by rw [p2]; exact q2⟩
    ino := fun e h => by
      have hm := (mem_dropE.1 h).1
      obtain ⟨q0, cn', q1, q2⟩ := a.ino e hm
      obtain ⟨cn2, p1, p2, p3, _⟩ := old _ cn' q1 (many e h)
      exact ⟨q0, cn2, p1, fun h => by rw [p3]; exact q2 (by rw [← p2]; exact h)⟩
    links := fun k nd hk hk1 => by
      obtain ⟨nd0, q1, q2, q3, q4, q5, q6, q7⟩ := back k nd hk
      have hd := hcd k
      by_cases e : k = ino
      · obtain ⟨r1, r2, r3⟩ := q6 e
        rw [if_pos e] at hd
        subst e
        have := kin r1
        rw [q2, r2, r3]
        exact ⟨by omega, by omega, fun h => absurd this h⟩
      · rw [if_neg e] at hd
        have := a.links k nd0 q1 hk1
        rw [q7 e, q2]
        rw [show cntE (dropE E dir name) k = cntE E k by omega]
        exact this
    climb := fun k nd hk h2 => by
      obtain ⟨nd0, q1, q2, q3, q4, q5, q6, q7⟩ := back k nd hk
      have hki : k ≠ ino := fun e => by
        obtain ⟨r1, r2, r3⟩ := q6 e
        have := kin r1
        rw [r2] at q2
        omega
      obtain ⟨n, hn⟩ := a.climb k nd0 q1 (by rw [← q2]; exact h2)
      refine ⟨n, hn.within (P := fun k => k ≠ ino) hki fun j x hj j1 hx x2 => ⟨?_, ?_⟩⟩
      · obtain ⟨e, p1, p2, p3⟩ := a.upEdge hx j1
        rw [p3 x2]
        exact hnod e p1
      · obtain ⟨x', p1, p2, p3, _⟩ := old j x hx fun e => absurd e hj
        exact ⟨x', p1, by rw [p2]; exact x2, p3⟩ }

theorem emptyE_zero {dir ino : Int} {name : Bs} {cn : Nd} (h0 : emptyE tb dir name = 0) (hi : findT tb dir name = some ino) (hc : tb.nodes ino = some cn) : cn.ents.length = 0 := by
  simp only [emptyE, hi, hc] at h0
  split at h0
  · assumption
  · simp at h0

/-- Unlink keeps it. -/
theorem Inv.unlink (a : Inv tb E) {dir ino : Int} {name : Bs} (h0 : unlinkE tb dir name = 0) (hi : findT tb dir name = some ino) : Inv (goneT tb (delE tb.nodes dir name) ino) (dropE E dir name) := by
  have hz := firstE_zero.1 h0
  have he := (a.find.1 hi).1
  obtain ⟨_, cn, hc, _⟩ := a.ino _ he
  have hc : tb.nodes ino = some cn := hc
  have h1 := emptyE_zero (hz _ (by simp)) hi hc
  have hne : ino ≠ dir := a.apart he
  have hg : delE tb.nodes dir name ino = some cn := by rw [delE_map, hc]; simp [hne]
  unfold goneT
  rw [hg]
  dsimp only
  by_cases hz : cn.links - 1 = 0
  · rw [if_pos hz]
    exact a.unlinked he hc h1 rfl (by rw [if_pos hz])
  · rw [if_neg hz]
    exact a.unlinked he hc h1 rfl (by rw [if_neg hz])
end
end Go.Am

set_option linter.unusedVariables false
set_option linter.unusedSimpArgs false
namespace Go.Am
open Go Go.Proofs

theorem climbE_more {f : Int → Option Nd} {ino : Int} {e : Int} : ∀ {n : Nat} {k : Int}, climbE f ino n k = some e → ∀ {m : Nat}, n ≤ m → climbE f ino m k = some e
  | 0, k, h, m, _ => by simp [climbE] at h
  | n + 1, k, h, m, hm => by
    obtain ⟨m', rfl⟩ : ∃ m', m = m' + 1 := ⟨m - 1, by omega⟩
    simp only [climbE] at h ⊢
    by_cases h1 : k = 1
    · rw [if_pos h1] at h ⊢; exact h
    · rw [if_neg h1] at h ⊢
      by_cases h2 : k = ino
      · rw [if_pos h2] at h ⊢; exact h
      · rw [if_neg h2] at h ⊢
        cases hf : f k with
        | none => rw [hf] at h; cases h
        | some nd =>
          rw [hf] at h
          exact climbE_more (n := n) h (by omega)

section
variable {tb : Tb} {E : List Ed}

theorem Inv.last1 (a : Inv tb E) : 1 ≤ tb.last := by
  obtain ⟨r, q1, _⟩ := a.root
  exact (a.range 1 r q1).2

/-- From each directory the root is reached, in few steps. -/
theorem Inv.climbs (a : Inv tb E) {k : Int} {nd : Nd} (hk : tb.nodes k = some nd) (h2 : nd.kind = 2) : ∃ n, Climb tb.nodes n k ∧ n < tb.last.toNat := by
  obtain ⟨n, hn⟩ := a.climb k nd hk h2
  refine ⟨n, hn, hn.short a.range ?_⟩
  obtain ⟨r, q1, _⟩ := a.root
  rw [q1]; rfl

theorem Inv.climbE_is (a : Inv tb E) {k : Int} {nd : Nd} (hk : tb.nodes k = some nd) (h2 : nd.kind = 2) (ino : Int) : ∃ e, climbE tb.nodes ino (tb.last.toNat + 2) k = some e ∧ (e = 0 ∨ e = 2) := by
  obtain ⟨n, hn, hl⟩ := a.climbs hk h2
  obtain ⟨e, q1, q2, _⟩ := climbE_some (ino := ino) hn (m := tb.last.toNat + 2) (by omega)
  exact ⟨e, q1, q2⟩

/-- Move keeps it. -/
theorem Inv.move (a : Inv tb E) {fro to ino : Int} {name as' : Bs} (h1 : move1E tb fro name to as' = 0) (h2 : move2E tb fro name to as' = 0) (hi : findT tb fro name = some ino) :
    Inv (movedT tb fro name to as' ino) (dropE E fro name ++ [⟨to, as', ino⟩]) := by
  have hz := firstE_zero.1 h1
  have hy := firstE_zero.1 h2
  obtain ⟨fnd, hf, hf2⟩ := dirE_zero (hz _ (by simp) : dirE tb fro = 0)
  obtain ⟨tnd, ht, ht2⟩ := dirE_zero (hz (dirE tb to) (by simp))
  have hn := freeE_zero (hy _ (by simp) : freeE tb to as' = 0)
  rw [findT_some ht, a.ents to tnd ht] at hn
  have hno := getN_entsE_none hn
  have he := (a.find.1 hi).1
  obtain ⟨hi1, cn, hc, hcu⟩ := a.ino _ he
  have hi1 : ino ≠ 1 := hi1
  have hc : tb.nodes ino = some cn := hc
  have hap : apartE tb ino to = 0 := by
    have := hy (match findT tb fro name with | some ino => apartE tb ino to | none => 0) (List.mem_cons_of_mem _ (List.mem_singleton.2 rfl))
    rw [hi] at this; exact this
  have hcd := fun k => cntE_drop (k := k) a.one he
  have at' : ∀ k, (movedT tb fro name to as' ino).nodes k = (tb.nodes k).map fun nd => { nd with ents := entsE (dropE E fro name ++ [⟨to, as', ino⟩]) k, up := if k = ino ∧ nd.kind = 2 then to else nd.up } := fun k => by
    show setUp _ _ _ _ = _
    rw [setUp_map, addE_map, delE_map]
    cases hk : tb.nodes k with
    | none => rfl
    | some nd =>
      have q := a.ents k nd hk
      simp only [Option.map_some, Option.some.injEq]
      have q2 : entsE (dropE E fro name ++ [⟨to, as', ino⟩]) k = if k = to then (if k = fro then delN name nd.ents else nd.ents) ++ [(as', ino)] else if k = fro then delN name nd.ents else nd.ents := by
        rw [entsE_add, entsE_drop, entsE_drop, q]
        by_cases e2 : k = to
        · subst e2
          by_cases e1 : k = fro
          · subst e1; simp
          · simp [e1]
        · by_cases e1 : k = fro
          · subst e1; simp [e2]
          · simp [e1, e2]
      rw [q2]
      by_cases e1 : k = fro <;> by_cases e2 : k = to <;> by_cases e3 : k = ino ∧ nd.kind = 2 <;> (first | simp only [if_pos e1] | simp only [if_neg e1]) <;> (first | simp only [if_pos e2] | simp only [if_neg e2]) <;> (first | simp only [if_pos e3] | simp only [if_neg e3])
  have back : ∀ k nd', (movedT tb fro name to as' ino).nodes k = some nd' → ∃ nd, tb.nodes k = some nd ∧ nd'.kind = nd.kind ∧ nd'.data = nd.data ∧ nd'.links = nd.links ∧ nd'.ents = entsE (dropE E fro name ++ [⟨to, as', ino⟩]) k ∧ nd'.up = if k = ino ∧ nd.kind = 2 then to else nd.up := fun k nd' hk => by
    rw [at'] at hk
    cases hq : tb.nodes k with
    | none => rw [hq] at hk; cases hk
    | some nd =>
      rw [hq] at hk
      simp only [Option.map_some, Option.some.injEq] at hk
      subst hk
      exact ⟨nd, rfl, rfl, rfl, rfl, rfl, rfl⟩
  have old : ∀ k nd, tb.nodes k = some nd → ∃ nd', (movedT tb fro name to as' ino).nodes k = some nd' ∧ nd'.kind = nd.kind ∧ nd'.links = nd.links ∧ nd'.up = if k = ino ∧ nd.kind = 2 then to else nd.up := fun k nd hk => by
    rw [at', hk]
    exact ⟨_, rfl, rfl, rfl, rfl⟩
  have cnt : ∀ k, cntE (dropE E fro name ++ [⟨to, as', ino⟩]) k = cntE E k := fun k => by
    rw [cntE_add, hcd k]
  exact {
    root := by
      obtain ⟨r, q1, q2, q3, q4⟩ := a.root
      obtain ⟨r', p1, p2, p3, p4⟩ := old 1 r q1
      rw [if_neg (fun e => hi1 e.1.symm)] at p4
      exact ⟨r', p1, by rw [p2]; exact q2, by rw [p4]; exact q3, by rw [p3]; exact q4⟩
    range := fun k nd hk => by
      obtain ⟨nd0, q1, _⟩ := back k nd hk
      exact a.range k nd0 q1
    kind := fun k nd hk => by
      obtain ⟨nd0, q1, q2, _⟩ := back k nd hk
      rw [q2]; exact a.kind k nd0 q1
    data := fun k nd hk h2 => by
      obtain ⟨nd0, q1, q2, q3, _⟩ := back k nd hk
      rw [q3]; exact a.data k nd0 q1 (by rw [← q2]; exact h2)
    upf := fun k nd hk h2 => by
      obtain ⟨nd0, q1, q2, q3, q4, q5, q6⟩ := back k nd hk
      rw [q2] at h2
      rw [q6, if_neg (fun e => h2 e.2)]; exact a.upf k nd0 q1 h2
    ents := fun k nd hk => by
      obtain ⟨nd0, q1, q2, q3, q4, q5, q6⟩ := back k nd hk
      exact q5
    one := (a.one.drop _ _).add fun e he => hno e (mem_dropE.1 he).1
    dir := fun e he => by
      rcases List.mem_append.1 he with he | he
      · obtain ⟨dn, q1, q2⟩ := a.dir e (mem_dropE.1 he).1
        obtain ⟨dn', p1, p2, _⟩ := old _ dn q1
        exact ⟨dn', p1, by rw [p2]; exact q2⟩
      · rw [List.mem_singleton.1 he]
        obtain ⟨dn', p1, p2, _⟩ := old _ tnd ht
        exact ⟨dn', p1, by rw [p2]; exact ht2⟩
    ino := fun e he => by
      rcases List.mem_append.1 he with he | he
      · obtain ⟨hm, hnot⟩ := mem_dropE.1 he
        obtain ⟨q0, cn', q1, q2⟩ := a.ino e hm
        obtain ⟨cn2, p1, p2, p3, p4⟩ := old _ cn' q1
        refine ⟨q0, cn2, p1, fun h => ?_⟩
        have h' : cn'.kind = 2 := by rw [← p2]; exact h
        have hne : ¬ (e.ino = ino ∧ cn'.kind = 2) := fun hh => by
          have hpos := cntE_pos he
          have hd := hcd ino
          rw [if_pos rfl] at hd
          rw [hh.1] at hpos
          have := (a.links _ cn' q1 q0).2.2 (by omega)
          rw [hh.1] at this
          omega
        rw [p4, if_neg hne]; exact q2 h'
      · rw [List.mem_singleton.1 he]
        obtain ⟨cn2, p1, p2, p3, p4⟩ := old _ cn hc
        refine ⟨hi1, cn2, p1, fun h => ?_⟩
        have h' : cn.kind = 2 := by rw [← p2]; exact h
        rw [p4, if_pos ⟨rfl, h'⟩]
    links := fun k nd hk hk1 => by
      obtain ⟨nd0, q1, q2, q3, q4, q5, q6⟩ := back k nd hk
      rw [cnt, q2, q4]
      exact a.links k nd0 q1 hk1
    climb := fun k nd hk h2 => by
      obtain ⟨nd0, q1, q2, q3, q4, q5, q6⟩ := back k nd hk
      obtain ⟨n, hn⟩ := a.climb k nd0 q1 (by rw [← q2]; exact h2)
      by_cases hc2 : cn.kind = 2
      · obtain ⟨m, hm, hml⟩ := a.climbs ht ht2
        obtain ⟨cn2, p1, p2, p3, p4⟩ := old _ cn hc
        rw [if_pos ⟨rfl, hc2⟩] at p4
        refine Climb.moved (to := to) hi1 ⟨cn2, p1, by rw [p2]; exact hc2, p4⟩ (fun j x hj hx x2 => ?_) hm (fun {q} hq => ?_) hn
        · obtain ⟨x', r1, r2, r3, r4⟩ := old j x hx
          rw [if_neg (fun e => hj e.1)] at r4
          exact ⟨x', r1, by rw [r2]; exact x2, r4⟩
        · obtain ⟨e, r1, _⟩ := climbE_some (ino := ino) hm hq
          obtain ⟨e2, r3, _⟩ := a.climbE_is ht ht2 ino
          have he2 : e2 = 0 := by
            unfold apartE at hap
            rw [r3] at hap; exact hap
          rw [he2] at r3
          have s1 := climbE_more r1 (m := max q (tb.last.toNat + 2)) (by omega)
          have s2 := climbE_more r3 (m := max q (tb.last.toNat + 2)) (by omega)
          rw [s1] at s2
          rw [r1, s2]
      · refine ⟨n, hn.same fun j x hx x2 => ?_⟩
        obtain ⟨x', r1, r2, r3, r4⟩ := old j x hx
        refine ⟨x', r1, by rw [r2]; exact x2, ?_⟩
        rw [r4, if_neg fun e => ?_]
        have hj : tb.nodes ino = some x := by rw [← e.1]; exact hx
        rw [hc] at hj; cases hj
        exact hc2 x2 }
end
end Go.Am

set_option linter.unusedVariables false
set_option linter.unusedSimpArgs false
namespace Go.Am
open Go Go.Proofs

/-- The inodes that there are, each once. -/
def Keys (f : Int → Option Nd) (K : List Int) : Prop := K.Nodup ∧ ∀ k, k ∈ K ↔ (f k).isSome = true
def sumT (f : Int → Option Nd) (K : List Int) : Nat := (K.map (lenT f)).sum
def Uses (tb : Tb) : Prop := ∃ K, Keys tb.nodes K ∧ tb.ui = K.length ∧ tb.ub = sumT tb.nodes K

theorem sumT_perm {f : Int → Option Nd} {K K' : List Int} (h : K.Perm K') : sumT f K = sumT f K' := by
  unfold sumT
  induction h with
  | nil => rfl
  | cons x _ ih => simp only [List.map_cons, List.sum_cons, ih]
  | swap x y l => simp only [List.map_cons, List.sum_cons]; omega
  | trans _ _ h1 h2 => exact h1.trans h2

theorem sumT_congr {f g : Int → Option Nd} : ∀ {K : List Int}, (∀ k ∈ K, lenT f k = lenT g k) → sumT f K = sumT g K
  | [], _ => rfl
  | k :: K, h => by
    have ih := sumT_congr (K := K) fun x hx => h x (List.mem_cons_of_mem _ hx)
    unfold sumT at ih ⊢
    simp only [List.map_cons, List.sum_cons, ih, h k List.mem_cons_self]

theorem Keys.perm {f : Int → Option Nd} {K K' : List Int} (a : Keys f K) (b : Keys f K') : K.Perm K' :=
  (List.perm_ext_iff_of_nodup a.1 b.1).2 fun k => by rw [a.2, b.2]

theorem Uses.any {tb : Tb} (a : Uses tb) {K : List Int} (h : Keys tb.nodes K) : tb.ui = K.length ∧ tb.ub = sumT tb.nodes K := by
  obtain ⟨K', q1, q2, q3⟩ := a
  have p := q1.perm h
  rw [q2, q3, p.length_eq, sumT_perm p]
  exact ⟨rfl, rfl⟩

theorem Uses.same {tb tb' : Tb} (a : Uses tb) (h1 : ∀ k, (tb'.nodes k).isSome = (tb.nodes k).isSome) (h2 : ∀ k, lenT tb'.nodes k = lenT tb.nodes k) (h3 : tb'.ui = tb.ui) (h4 : tb'.ub = tb.ub) : Uses tb' := by
  obtain ⟨K, q1, q2, q3⟩ := a
  exact ⟨K, ⟨q1.1, fun k => by rw [h1]; exact q1.2 k⟩, by rw [h3, q2], by rw [h4, q3, sumT_congr fun k _ => (h2 k).symm]⟩

theorem Uses.map {tb tb' : Tb} (a : Uses tb) {g : Int → Nd → Nd} (h : ∀ k, tb'.nodes k = (tb.nodes k).map (g k)) (hg : ∀ k nd, (g k nd).data = nd.data) (h3 : tb'.ui = tb.ui) (h4 : tb'.ub = tb.ub) : Uses tb' :=
  a.same (fun k => by rw [h k]; cases tb.nodes k <;> rfl) (fun k => by
    simp only [lenT, h k]
    cases tb.nodes k with
    | none => rfl
    | some nd => simp only [Option.map_some, hg]) h3 h4

theorem incL_map (f : Int → Option Nd) (i d k : Int) : incL f i d k = (f k).map fun nd => if k = i then { nd with links := nd.links + d } else nd := by
  cases hi : f i with
  | none =>
    simp only [incL, hi]
    cases hk : f k with
    | none => rfl
    | some nd =>
      have : k ≠ i := fun e => by rw [e, hi] at hk; cases hk
      simp [this]
  | some dn =>
    rw [incL_some hi]
    by_cases e : k = i
    · rw [e, upd_self, hi]; simp
    · rw [upd_ne _ _ e]; cases f k <;> simp [e]

section
variable {tb : Tb} {E : List Ed}

theorem sum_erase {f : Int → Option Nd} {K : List Int} {k : Int} (h : k ∈ K) : K.length = (K.erase k).length + 1 ∧ sumT f K = lenT f k + sumT f (K.erase k) := by
  have p := List.perm_cons_erase h
  have := p.length_eq
  have h2 := sumT_perm (f := f) p
  exact ⟨by simpa using this, by rw [h2]; simp [sumT]⟩

theorem Uses.made (a : Uses tb) (hf : Fresh tb) {dir kind mode : Int} {name data : Bs} {dnd : Nd} (hd : tb.nodes dir = some dnd) : Uses (madeT tb dir name kind mode data) := by
  obtain ⟨K, q1, q2, q3⟩ := a
  have hfr : tb.nodes (tb.last + 1) = none := hf _ (by omega)
  have hdne : dir ≠ tb.last + 1 := fun e => by rw [e, hfr] at hd; cases hd
  have at' : ∀ k, (madeT tb dir name kind mode data).nodes k = if k = tb.last + 1 then some (freshNd dir kind mode data) else (tb.nodes k).map fun nd => if k = dir then { nd with ents := nd.ents ++ [(name, tb.last + 1)] } else nd := fun k => by
    show addE _ _ _ _ _ = _
    rw [addE_map]
    by_cases e : k = tb.last + 1
    · rw [if_pos e, e, upd_self]
      simp only [Option.map_some, if_neg (fun h : tb.last + 1 = dir => hdne h.symm)]
    · rw [if_neg e, upd_ne _ _ e]
  have hnk : tb.last + 1 ∉ K := fun h => by rw [q1.2, hfr] at h; cases h
  have hlen : ∀ k ∈ K, lenT (madeT tb dir name kind mode data).nodes k = lenT tb.nodes k := fun k hk => by
    have : k ≠ tb.last + 1 := fun e => hnk (by rw [← e]; exact hk)
    simp only [lenT, at', if_neg this]
    cases tb.nodes k with
    | none => rfl
    | some nd => simp only [Option.map_some]; split <;> rfl
  refine ⟨K ++ [tb.last + 1], ⟨?_, fun k => ?_⟩, ?_, ?_⟩
  · rw [List.nodup_append]
    exact ⟨q1.1, by simp, fun x hx y hy e => hnk (by rw [List.mem_singleton.1 hy] at e; rw [← e]; exact hx)⟩
  · rw [List.mem_append, q1.2, List.mem_singleton, at']
    by_cases e : k = tb.last + 1
    · simp [e]
    · simp only [e, or_false, if_false]
      cases tb.nodes k <;> simp
  · show tb.ui + 1 = _
    rw [q2]; simp
  · show tb.ub + data.length = _
    have h2 : sumT (madeT tb dir name kind mode data).nodes (K ++ [tb.last + 1]) = sumT tb.nodes K + data.length := by
      have h3 := sumT_congr hlen
      unfold sumT at h3 ⊢
      rw [List.map_append, List.sum_append, h3]
      simp only [List.map_cons, List.map_nil, List.sum_cons, List.sum_nil, Nat.add_zero, lenT, at', if_true]
      rfl
    rw [h2, q3]; simp

theorem Uses.gone (a : Uses tb) {dir ino : Int} {name : Bs} {cn : Nd} (hc : tb.nodes ino = some cn) (hne : ino ≠ dir) : Uses (goneT tb (delE tb.nodes dir name) ino) := by
  have hg : delE tb.nodes dir name ino = some cn := by rw [delE_map, hc]; simp [hne]
  unfold goneT
  rw [hg]
  dsimp only
  by_cases hz : cn.links - 1 = 0
  · rw [if_pos hz]
    obtain ⟨K, q1, q2, q3⟩ := a
    have hm : ino ∈ K := by rw [q1.2, hc]; rfl
    obtain ⟨p1, p2⟩ := sum_erase (f := tb.nodes) hm
    have hl : lenT tb.nodes ino = cn.data.length := by simp only [lenT, hc]
    refine ⟨K.erase ino, ⟨q1.1.erase _, fun k => ?_⟩, ?_, ?_⟩
    · rw [q1.1.mem_erase_iff, q1.2]
      show _ ↔ (upd (delE tb.nodes dir name) ino none k).isSome = true
      by_cases e : k = ino
      · rw [e, upd_self]; simp
      · rw [upd_ne _ _ e, delE_map]
        cases tb.nodes k <;> simp [e]
    · show tb.ui - 1 = _
      omega
    · show tb.ub - cn.data.length = ((sumT (upd (delE tb.nodes dir name) ino none) (K.erase ino) : Nat) : Int)
      rw [sumT_congr (f := upd (delE tb.nodes dir name) ino none) (g := tb.nodes) fun k hk => ?_]
      · omega
      · rw [q1.1.mem_erase_iff] at hk
        simp only [lenT, upd_ne _ _ hk.1, delE_map]
        cases tb.nodes k with
        | none => rfl
        | some nd => simp only [Option.map_some]; split <;> rfl
  · rw [if_neg hz]
    refine a.same (fun k => ?_) (fun k => ?_) rfl rfl
    · show (upd (delE tb.nodes dir name) ino _ k).isSome = _
      by_cases e : k = ino
      · rw [e, upd_self, hc]; rfl
      · rw [upd_ne _ _ e, delE_map]; cases tb.nodes k <;> rfl
    · show lenT (upd (delE tb.nodes dir name) ino _) k = _
      by_cases e : k = ino
      · simp only [lenT, e, upd_self, hc]
      · simp only [lenT, upd_ne _ _ e, delE_map]
        cases tb.nodes k with
        | none => rfl
        | some nd => simp only [Option.map_some]; split <;> rfl

theorem Uses.write (a : Uses tb) (ino : Int) (data : Bs) : Uses (writeT tb ino data) := by
  unfold writeT
  split
  · cases hc : tb.nodes ino with
    | none => exact a
    | some nd =>
      dsimp only
      obtain ⟨K, q1, q2, q3⟩ := a
      have hm : ino ∈ K := by rw [q1.2, hc]; rfl
      obtain ⟨p1, p2⟩ := sum_erase (f := tb.nodes) hm
      obtain ⟨p3, p4⟩ := sum_erase (f := upd tb.nodes ino (some { nd with data := data })) hm
      have hl : lenT tb.nodes ino = nd.data.length := by simp only [lenT, hc]
      have hl2 : lenT (upd tb.nodes ino (some { nd with data := data })) ino = data.length := by simp only [lenT, upd_self]
      have hr : sumT (upd tb.nodes ino (some { nd with data := data })) (K.erase ino) = sumT tb.nodes (K.erase ino) := sumT_congr fun k hk => by
        rw [q1.1.mem_erase_iff] at hk
        simp only [lenT, upd_ne _ _ hk.1]
      refine ⟨K, ⟨q1.1, fun k => ?_⟩, q2, ?_⟩
      · show _ ↔ (upd tb.nodes ino _ k).isSome = true
        rw [q1.2]
        by_cases e : k = ino
        · rw [e, upd_self, hc]; simp
        · rw [upd_ne _ _ e]
      · show tb.ub + ((data.length : Int) - nd.data.length) = ((sumT (upd tb.nodes ino (some { nd with data := data })) K : Nat) : Int)
        omega
  · exact a

theorem Uses.chmod (a : Uses tb) (ino mode : Int) : Uses (chmodT tb ino mode) := by
  unfold chmodT
  split
  · cases hc : tb.nodes ino with
    | none => exact a
    | some nd =>
      dsimp only
      refine a.same (fun k => ?_) (fun k => ?_) rfl rfl
      · show (upd tb.nodes ino _ k).isSome = _
        by_cases e : k = ino
        · rw [e, upd_self, hc]; rfl
        · rw [upd_ne _ _ e]
      · show lenT (upd tb.nodes ino _) k = _
        by_cases e : k = ino
        · simp only [lenT, e, upd_self, hc]
        · simp only [lenT, upd_ne _ _ e]
  · exact a

theorem Uses.link (a : Uses tb) (dir ino : Int) (name : Bs) : Uses { tb with nodes := incL (addE tb.nodes dir name ino) ino 1 } := by
  refine a.map (g := fun k nd => (fun nd : Nd => if k = ino then { nd with links := nd.links + 1 } else nd) (if k = dir then { nd with ents := nd.ents ++ [(name, ino)] } else nd)) (fun k => ?_) (fun k nd => ?_) rfl rfl
  · show incL _ _ _ _ = _
    rw [incL_map, addE_map]
    cases tb.nodes k <;> rfl
  · dsimp only
    split <;> split <;> rfl

theorem Uses.move (a : Uses tb) (fro to ino : Int) (name as' : Bs) : Uses (movedT tb fro name to as' ino) := by
  refine a.map (g := fun k nd => (fun nd : Nd => if k = ino ∧ nd.kind = 2 then { nd with up := to } else nd) ((fun nd : Nd => if k = to then { nd with ents := nd.ents ++ [(as', ino)] } else nd) (if k = fro then { nd with ents := delN name nd.ents } else nd))) (fun k => ?_) (fun k nd => ?_) rfl rfl
  · show setUp _ _ _ _ = _
    rw [setUp_map, addE_map, delE_map]
    cases tb.nodes k <;> rfl
  · dsimp only
    split <;> split <;> split <;> rfl
end
end Go.Am

set_option linter.unusedVariables false
set_option linter.unusedSimpArgs false
namespace Go.Am
open Go Go.Proofs

/-- What may be done. -/
inductive Act
  | make (dir : Int) (name : Bs) (kind mode : Int) (data : Bs)
  | link (dir : Int) (name : Bs) (ino : Int)
  | unlink (dir : Int) (name : Bs)
  | move (fro : Int) (name : Bs) (to : Int) (as' : Bs)
  | write (ino : Int) (data : Bs)
  | chmod (ino mode : Int)

def actE (tb : Tb) : Act → Int
  | .make d s k m x => makeE tb d s k m x
  | .link d s i => linkE tb d s i
  | .unlink d s => unlinkE tb d s
  | .move f s t u => moveE tb f s t u
  | .write i x => writeE tb i x
  | .chmod i m => chmodE tb i m

def actT (tb : Tb) : Act → Tb
  | .make d s k m x => makeT tb d s k m x
  | .link d s i => linkT tb d s i
  | .unlink d s => unlinkT tb d s
  | .move f s t u => moveT tb f s t u
  | .write i x => writeT tb i x
  | .chmod i m => chmodT tb i m

def unlinkEd (tb : Tb) (E : List Ed) (d : Int) (s : Bs) : List Ed := if unlinkE tb d s = 0 then dropE E d s else E
def moveEd (tb : Tb) (E : List Ed) (f : Int) (s : Bs) (t : Int) (u : Bs) : List Ed :=
  if move1E tb f s t u = 0 then (if f = t ∧ s = u then E else if move2E tb f s t u = 0 then (match findT tb f s with | some i => dropE E f s ++ [⟨t, u, i⟩] | none => E) else E) else E
def actEd (tb : Tb) (E : List Ed) : Act → List Ed
  | .make d s k m x => if makeE tb d s k m x = 0 then E ++ [⟨d, s, tb.last + 1⟩] else E
  | .link d s i => if linkE tb d s i = 0 then E ++ [⟨d, s, i⟩] else E
  | .unlink d s => unlinkEd tb E d s
  | .move f s t u => moveEd tb E f s t u
  | .write _ _ => E
  | .chmod _ _ => E

/-- After n acts. -/
structure St (tb : Tb) (E : List Ed) (n : Nat) : Prop where
  inv : Inv tb E
  uses : Uses tb
  qi : 1 ≤ tb.qi ∧ tb.qi ≤ 1048576
  qb : 0 ≤ tb.qb ∧ tb.qb ≤ 1073741824
  fit : tb.ui ≤ tb.qi ∧ tb.ub ≤ tb.qb
  last : tb.last ≤ n + 1
  len : E.length ≤ n
  names : ∀ e ∈ E, e.name.length ≤ 56

section
variable {tb : Tb} {E : List Ed} {n : Nat}

theorem Uses.nonneg (a : Uses tb) : 0 ≤ tb.ui ∧ 0 ≤ tb.ub := by
  obtain ⟨K, _, q2, q3⟩ := a
  omega

theorem St.small (a : St tb E n) : Small tb := by
  have h1 := a.qi; have h2 := a.qb; have h3 := a.fit; have h4 := a.uses.nonneg
  exact ⟨by omega, by omega, by omega, by omega⟩

theorem St.more (a : St tb E n) {m : Nat} (h : n ≤ m) : St tb E m := ⟨a.inv, a.uses, a.qi, a.qb, a.fit, by have := a.last; omega, by have := a.len; omega, a.names⟩

theorem cntE_le (E : List Ed) (k : Int) : cntE E k ≤ E.length := List.countP_le_length

theorem St.links (a : St tb E n) {k : Int} {nd : Nd} (hk : tb.nodes k = some nd) : 0 ≤ nd.links ∧ nd.links ≤ n + 1 := by
  by_cases h1 : k = 1
  · obtain ⟨r, q1, _, _, q4⟩ := a.inv.root
    rw [h1, q1] at hk; cases hk
    omega
  · have := a.inv.links k nd hk h1
    have := cntE_le E k
    have := a.len
    omega

theorem sumT_ge {f : Int → Option Nd} {K : List Int} {k : Int} (h : k ∈ K) : lenT f k ≤ sumT f K := by
  have := (sum_erase (f := f) h).2
  omega

theorem St.data (a : St tb E n) {k : Int} {nd : Nd} (hk : tb.nodes k = some nd) : (nd.data.length : Int) ≤ tb.ub := by
  obtain ⟨K, q1, q2, q3⟩ := a.uses
  have hm : k ∈ K := by rw [q1.2, hk]; rfl
  have := sumT_ge (f := tb.nodes) hm
  have h2 : lenT tb.nodes k = nd.data.length := by simp only [lenT, hk]
  omega

theorem roomE_zero {i b : Int} (h : roomE tb i b = 0) : tb.ui + i ≤ tb.qi ∧ tb.ub + b ≤ tb.qb := by
  unfold roomE at h
  split at h
  · assumption
  · simp at h

theorem nameE_zero {s : Bs} (h : nameE s = 0) : s.length ≤ 56 ∧ goodName s = true := by
  unfold nameE at h
  split at h
  · simp at h
  · split at h
    · exact ⟨by omega, by assumption⟩
    · simp at h

theorem St.make (a : St tb E n) {d k m : Int} {s x : Bs} (h0 : makeE tb d s k m x = 0) : St (madeT tb d s k m x) (E ++ [⟨d, s, tb.last + 1⟩]) (n + 1) := by
  have hz := firstE_zero.1 h0
  obtain ⟨dnd, hd, hd2⟩ := dirE_zero (hz _ (by simp) : dirE tb d = 0)
  have hr := roomE_zero (hz (roomE tb 1 x.length) (by simp))
  have hn := nameE_zero (hz (nameE s) (by simp))
  have hl := a.last
  have hlen := a.len
  refine ⟨a.inv.make h0, a.uses.made a.inv.fresh hd, a.qi, a.qb, hr, ?_, ?_, ?_⟩
  · show tb.last + 1 ≤ _; omega
  · rw [List.length_append]; simp; omega
  · intro e he
    rcases List.mem_append.1 he with he | he
    · exact a.names e he
    · rw [List.mem_singleton.1 he]; exact hn.1

theorem St.link (a : St tb E n) {d i : Int} {s : Bs} (h0 : linkE tb d s i = 0) : St { tb with nodes := incL (addE tb.nodes d s i) i 1 } (E ++ [⟨d, s, i⟩]) (n + 1) := by
  have hz := firstE_zero.1 h0
  have hn := nameE_zero (hz (nameE s) (by simp))
  have hl := a.last
  have hlen := a.len
  refine ⟨a.inv.link h0, a.uses.link d i s, a.qi, a.qb, a.fit, ?_, ?_, ?_⟩
  · show tb.last ≤ _; omega
  · rw [List.length_append]; simp; omega
  · intro e he
    rcases List.mem_append.1 he with he | he
    · exact a.names e he
    · rw [List.mem_singleton.1 he]; exact hn.1

theorem dropE_len (E : List Ed) (d : Int) (s : Bs) : (dropE E d s).length ≤ E.length := List.length_filter_le _ _

theorem goneT_facts (tb : Tb) (f : Int → Option Nd) (i : Int) : (goneT tb f i).last = tb.last ∧ (goneT tb f i).qi = tb.qi ∧ (goneT tb f i).qb = tb.qb ∧ (goneT tb f i).ui ≤ tb.ui ∧ (goneT tb f i).ub ≤ tb.ub := by
  unfold goneT
  split
  · split
    · refine ⟨rfl, rfl, rfl, ?_, ?_⟩
      · show tb.ui - 1 ≤ tb.ui; omega
      · rename_i nd _ _
        show tb.ub - nd.data.length ≤ tb.ub; omega
    · exact ⟨rfl, rfl, rfl, Int.le_refl _, Int.le_refl _⟩
  · exact ⟨rfl, rfl, rfl, Int.le_refl _, Int.le_refl _⟩

theorem St.unlink (a : St tb E n) {d i : Int} {s : Bs} (h0 : unlinkE tb d s = 0) (hi : findT tb d s = some i) : St (goneT tb (delE tb.nodes d s) i) (dropE E d s) (n + 1) := by
  have he := (a.inv.find.1 hi).1
  obtain ⟨_, cn, hc, _⟩ := a.inv.ino _ he
  have hc : tb.nodes i = some cn := hc
  obtain ⟨f1, f2, f3, f4, f5⟩ := goneT_facts tb (delE tb.nodes d s) i
  have hl := a.last
  have hlen := a.len
  have hfit := a.fit
  have := dropE_len E d s
  refine ⟨a.inv.unlink h0 hi, a.uses.gone hc (a.inv.apart he), by rw [f2]; exact a.qi, by rw [f3]; exact a.qb, by omega, by omega, by omega, fun e h => a.names e (mem_dropE.1 h).1⟩

theorem St.move (a : St tb E n) {f t i : Int} {s u : Bs} (h1 : move1E tb f s t u = 0) (h2 : move2E tb f s t u = 0) (hi : findT tb f s = some i) : St (movedT tb f s t u i) (dropE E f s ++ [⟨t, u, i⟩]) (n + 1) := by
  have hz := firstE_zero.1 h1
  have hn := nameE_zero (hz (nameE u) (by simp))
  have hl := a.last
  have hlen := a.len
  have := dropE_len E f s
  refine ⟨a.inv.move h1 h2 hi, a.uses.move f t i s u, a.qi, a.qb, a.fit, ?_, ?_, ?_⟩
  · show tb.last ≤ _; omega
  · rw [List.length_append]; simp; omega
  · intro e he
    rcases List.mem_append.1 he with he | he
    · exact a.names e (mem_dropE.1 he).1
    · rw [List.mem_singleton.1 he]; exact hn.1

theorem St.write (a : St tb E n) (i : Int) (x : Bs) : St (writeT tb i x) E n := by
  have hw := a.inv.write i x
  have hu := a.uses.write i x
  unfold writeT at hw hu ⊢
  split
  · rename_i h0
    rw [if_pos h0] at hw hu
    cases hk : tb.nodes i with
    | none => exact a
    | some nd =>
      rw [hk] at hw hu
      dsimp only at hw hu ⊢
      have hr : roomE tb 0 ((x.length : Int) - nd.data.length) = 0 := by
        have := firstE_zero.1 h0 (match tb.nodes i with | some nd => roomE tb 0 ((x.length : Int) - nd.data.length) | none => 0) (List.mem_cons_of_mem _ (List.mem_cons_of_mem _ (List.mem_singleton.2 rfl)))
        rw [hk] at this; exact this
      have hr := roomE_zero hr
      exact ⟨hw, hu, a.qi, a.qb, ⟨by show tb.ui ≤ tb.qi; have := a.fit; omega, hr.2⟩, a.last, a.len, a.names⟩
  · exact a

theorem St.chmod (a : St tb E n) (i m : Int) : St (chmodT tb i m) E n := by
  have hw := a.inv.chmod i m
  have hu := a.uses.chmod i m
  have : (chmodT tb i m).qi = tb.qi ∧ (chmodT tb i m).qb = tb.qb ∧ (chmodT tb i m).ui = tb.ui ∧ (chmodT tb i m).ub = tb.ub ∧ (chmodT tb i m).last = tb.last := by
    unfold chmodT
    split
    · split <;> exact ⟨rfl, rfl, rfl, rfl, rfl⟩
    · exact ⟨rfl, rfl, rfl, rfl, rfl⟩
  obtain ⟨f1, f2, f3, f4, f5⟩ := this
  exact ⟨hw, hu, by rw [f1]; exact a.qi, by rw [f2]; exact a.qb, by rw [f1, f2, f3, f4]; exact a.fit, by rw [f5]; exact a.last, a.len, a.names⟩

/-- Each act keeps it. -/
theorem St.act (a : St tb E n) (x : Act) : St (actT tb x) (actEd tb E x) (n + 1) := by
  have up := a.more (Nat.le_succ n)
  cases x with
  | make d s k m x =>
    simp only [actT, actEd, makeT]
    by_cases h : makeE tb d s k m x = 0
    · rw [if_pos h, if_pos h]; exact a.make h
    · rw [if_neg h, if_neg h]; exact up
  | link d s i =>
    simp only [actT, actEd, linkT]
    by_cases h : linkE tb d s i = 0
    · rw [if_pos h, if_pos h]; exact a.link h
    · rw [if_neg h, if_neg h]; exact up
  | unlink d s =>
    simp only [actT, actEd, unlinkT, unlinkEd]
    by_cases h : unlinkE tb d s = 0
    · rw [if_pos h, if_pos h]
      obtain ⟨i, hi⟩ := entryE_zero (firstE_zero.1 h (entryE tb d s) (by simp))
      rw [hi]
      exact a.unlink h hi
    · rw [if_neg h, if_neg h]; exact up
  | move f s t u =>
    simp only [actT, actEd, moveT, moveEd]
    by_cases h : move1E tb f s t u = 0
    · rw [if_pos h, if_pos h]
      by_cases h1 : f = t ∧ s = u
      · rw [if_pos h1, if_pos h1]; exact up
      · rw [if_neg h1, if_neg h1]
        by_cases h2 : move2E tb f s t u = 0
        · rw [if_pos h2, if_pos h2]
          obtain ⟨i, hi⟩ := entryE_zero (firstE_zero.1 h (entryE tb f s) (by simp))
          rw [hi]
          exact a.move h h2 hi
        · rw [if_neg h2, if_neg h2]; exact up
    · rw [if_neg h, if_neg h]; exact up
  | write i x => exact (a.write i x).more (Nat.le_succ n)
  | chmod i m => exact (a.chmod i m).more (Nat.le_succ n)

/-- A new table. -/
theorem St.new {qi qb : Int} {tb : Tb} (h : newT qi qb = some tb) : St tb [] 0 := by
  unfold newT at h
  split at h
  · cases h
  · rename_i hq
    cases h
    have hn : ∀ k nd, upd (fun _ => none) 1 (some (⟨2, 493, [], 1, 1, []⟩ : Nd)) k = some nd → k = 1 ∧ nd = ⟨2, 493, [], 1, 1, []⟩ := fun k nd hk => by
      rcases upd_cases hk with ⟨e, hx⟩ | ⟨_, hx⟩
      · cases hx; exact ⟨e, rfl⟩
      · cases hx
    refine ⟨{
      root := ⟨⟨2, 493, [], 1, 1, []⟩, by dsimp only; rw [upd_self], rfl, rfl, rfl⟩
      range := fun k nd hk => by obtain ⟨rfl, rfl⟩ := hn k nd hk; exact ⟨Int.le_refl _, Int.le_refl _⟩
      kind := fun k nd hk => by obtain ⟨rfl, rfl⟩ := hn k nd hk; exact ⟨by decide, by decide⟩
      data := fun k nd hk _ => by obtain ⟨rfl, rfl⟩ := hn k nd hk; rfl
      upf := fun k nd hk h2 => by obtain ⟨rfl, rfl⟩ := hn k nd hk; exact absurd rfl h2
      ents := fun k nd hk => by obtain ⟨rfl, rfl⟩ := hn k nd hk; rfl
      one := List.Pairwise.nil
      dir := fun e he => nomatch he
      ino := fun e he => nomatch he
      links := fun k nd hk h1 => absurd (hn k nd hk).1 h1
      climb := fun k nd hk _ => by obtain ⟨rfl, rfl⟩ := hn k nd hk; exact ⟨0, .root⟩ }, ?_, ?_, ?_, ?_, ?_, ?_, ?_⟩
    · refine ⟨[1], ⟨by simp, fun k => ?_⟩, rfl, rfl⟩
      rw [List.mem_singleton]
      show _ ↔ (upd (fun _ => none) 1 _ k).isSome = true
      by_cases e : k = 1
      · rw [e, upd_self]; simp
      · rw [upd_ne _ _ e]; simp [e]
    · show 1 ≤ qi ∧ qi ≤ 1048576; omega
    · show 0 ≤ qb ∧ qb ≤ 1073741824; omega
    · show 1 ≤ qi ∧ 0 ≤ qb; omega
    · show (1 : Int) ≤ 0 + 1; omega
    · exact Nat.le_refl _
    · exact fun e he => nomatch he
end
end Go.Am

set_option linter.unusedVariables false
set_option linter.unusedSimpArgs false
namespace Go.Am
open Go Go.Proofs

section
variable {S : Nat → Prop} {h : AHeap} {o : Nat} {tb : Tb} {L : Lay} {E : List Ed} {n : Nat}

theorem St.run_make (st : St tb E n) (hn : n ≤ 1000000) (a : TR S h o tb L) (hw : h.WF) {dir kind mode : Int} {name data : Bs} (hname : name.length ≤ 56 → AnyOK name) (hdl : data.length < 1152921504606846976) :
    ∃ S' L' h', EG (.fn 8) [.ptr o 0, .int .i64 dir, .str name, .int .i64 kind, .int .i64 mode, .str data] h = some (.tuple [.int .i64 (if makeE tb dir name kind mode data = 0 then tb.last + 1 else 0), .int .i64 (makeE tb dir name kind mode data)], h') ∧
      TR S' h' o (makeT tb dir name kind mode data) L' ∧ Step S h S' h' :=
  make_run a hw st.small st.inv.fresh (by have := st.inv.last1; have := st.last; omega) hname hdl

theorem St.run_link (st : St tb E n) (hn : n ≤ 1000000) (a : TR S h o tb L) (hw : h.WF) {dir ino : Int} {name : Bs} (hname : name.length ≤ 56 → AnyOK name) :
    ∃ h', EG (.fn 9) [.ptr o 0, .int .i64 dir, .str name, .int .i64 ino] h = some (.int .i64 (linkE tb dir name ino), h') ∧ TR S h' o (linkT tb dir name ino) L ∧ Step S h S h' :=
  link_run a hw hname fun nd hk => by have := st.links hk; omega

theorem St.run_write (st : St tb E n) (a : TR S h o tb L) (hw : h.WF) {ino : Int} {data : Bs} (hdl : data.length < 1000000000000) :
    ∃ h', EG (.fn 10) [.ptr o 0, .int .i64 ino, .str data] h = some (.int .i64 (writeE tb ino data), h') ∧ TR S h' o (writeT tb ino data) L ∧ Step S h S h' :=
  write_run a hw st.small hdl fun nd hk => by have := st.data hk; have := st.small.ub; omega

theorem St.run_unlink (st : St tb E n) (hn : n ≤ 1000000) (a : TR S h o tb L) (hw : h.WF) {dir : Int} {name : Bs} :
    ∃ h', EG (.fn 14) [.ptr o 0, .int .i64 dir, .str name] h = some (.int .i64 (unlinkE tb dir name), h') ∧ TR S h' o (unlinkT tb dir name) L ∧ Step S h S h' :=
  unlink_run a hw st.small fun k hk => by
    obtain ⟨_, cn, hc, _⟩ := st.inv.ino _ (st.inv.find.1 hk).1
    have hc : tb.nodes k = some cn := hc
    have h1 := st.data hc; have h2 := st.small.ub; have h3 := st.links hc
    exact ⟨cn, hc, by omega, by omega, by omega⟩

theorem St.run_move (st : St tb E n) (a : TR S h o tb L) (hw : h.WF) {fro to : Int} {name as' : Bs} (hname : as'.length ≤ 56 → AnyOK as') :
    ∃ h', EG (.fn 19) [.ptr o 0, .int .i64 fro, .str name, .int .i64 to, .str as'] h = some (.int .i64 (moveE tb fro name to as'), h') ∧ TR S h' o (moveT tb fro name to as') L ∧ Step S h S h' :=
  move_run a hw hname (fun k hk => by
    obtain ⟨_, cn, hc, _⟩ := st.inv.ino _ (st.inv.find.1 hk).1
    exact ⟨cn, hc⟩) fun h1 h2 k hk => by
    obtain ⟨tn, ht, ht2⟩ := dirE_zero h2
    obtain ⟨e, q, _⟩ := st.inv.climbE_is ht ht2 k
    rw [q]; rfl

theorem St.run_names (st : St tb E n) (hn : n ≤ 1000000) {k : Int} : ∀ nd, tb.nodes k = some nd → nd.ents.length < 1000000000 ∧ ∀ e ∈ nd.ents, e.1.length < 1000000000000 := fun nd hk => by
  rw [st.inv.ents k nd hk]
  refine ⟨?_, fun e he => ?_⟩
  · have h1 : (entsE E k).length ≤ E.length := by simp only [entsE, List.length_map]; exact List.length_filter_le _ _
    have := st.len
    omega
  · obtain ⟨x, hx, rfl⟩ := List.mem_map.1 he
    have := st.names x (List.mem_filter.1 hx).1
    show x.name.length < _
    omega
end
end Go.Am

set_option linter.unusedVariables false
set_option linter.unusedSimpArgs false
namespace Go.Am
open Go Go.Proofs

/-- The act of five bytes. -/
def smallA (n0 n1 n2 n3 n4 : Nat) : Act :=
  match n0 % 8 with
  | 0 => .make (1 + (n1 % 12 : Nat)) (nm (n3 % 4)) 2 493 []
  | 1 => .make (1 + (n1 % 12 : Nat)) (nm (n3 % 4)) 2 493 []
  | 2 => .make (1 + (n1 % 12 : Nat)) (nm (n3 % 4)) 1 420 (List.replicate (n4 % 20) 0)
  | 3 => .make (1 + (n1 % 12 : Nat)) (nm (n3 % 4)) 3 511 [116, 111]
  | 4 => .link (1 + (n1 % 12 : Nat)) (nm (n3 % 4)) (1 + (n2 % 12 : Nat))
  | 5 => .unlink (1 + (n1 % 12 : Nat)) (nm (n3 % 4))
  | 6 => .move (1 + (n1 % 12 : Nat)) (nm (n3 % 4)) (1 + (n2 % 12 : Nat)) (nm (n4 % 4))
  | _ => .write (1 + (n2 % 12 : Nat)) (List.replicate (n4 % 20) 0)

theorem smallA_0 {n0 n1 n2 n3 n4 : Nat} (h : n0 % 8 = 0) : smallA n0 n1 n2 n3 n4 = Act.make (1 + (n1 % 12 : Nat)) (nm (n3 % 4)) 2 493 [] := by unfold smallA; rw [h]; rfl
theorem smallA_1 {n0 n1 n2 n3 n4 : Nat} (h : n0 % 8 = 1) : smallA n0 n1 n2 n3 n4 = Act.make (1 + (n1 % 12 : Nat)) (nm (n3 % 4)) 2 493 [] := by unfold smallA; rw [h]; rfl
theorem smallA_2 {n0 n1 n2 n3 n4 : Nat} (h : n0 % 8 = 2) : smallA n0 n1 n2 n3 n4 = Act.make (1 + (n1 % 12 : Nat)) (nm (n3 % 4)) 1 420 (List.replicate (n4 % 20) 0) := by unfold smallA; rw [h]; rfl
theorem smallA_3 {n0 n1 n2 n3 n4 : Nat} (h : n0 % 8 = 3) : smallA n0 n1 n2 n3 n4 = Act.make (1 + (n1 % 12 : Nat)) (nm (n3 % 4)) 3 511 [116, 111] := by unfold smallA; rw [h]; rfl
theorem smallA_4 {n0 n1 n2 n3 n4 : Nat} (h : n0 % 8 = 4) : smallA n0 n1 n2 n3 n4 = Act.link (1 + (n1 % 12 : Nat)) (nm (n3 % 4)) (1 + (n2 % 12 : Nat)) := by unfold smallA; rw [h]; rfl
theorem smallA_5 {n0 n1 n2 n3 n4 : Nat} (h : n0 % 8 = 5) : smallA n0 n1 n2 n3 n4 = Act.unlink (1 + (n1 % 12 : Nat)) (nm (n3 % 4)) := by unfold smallA; rw [h]; rfl
theorem smallA_6 {n0 n1 n2 n3 n4 : Nat} (h : n0 % 8 = 6) : smallA n0 n1 n2 n3 n4 = Act.move (1 + (n1 % 12 : Nat)) (nm (n3 % 4)) (1 + (n2 % 12 : Nat)) (nm (n4 % 4)) := by unfold smallA; rw [h]; rfl
theorem smallA_7 {n0 n1 n2 n3 n4 : Nat} (h : n0 % 8 = 7) : smallA n0 n1 n2 n3 n4 = Act.write (1 + (n2 % 12 : Nat)) (List.replicate (n4 % 20) 0) := by unfold smallA; rw [h]; rfl

def fiveV (n0 n1 n2 n3 n4 : Nat) : AV := .agg [.int .u8 n0, .int .u8 n1, .int .u8 n2, .int .u8 n3, .int .u8 n4]

theorem ty45 : tab.get 45 = some ⟨.array 5 5, 5, 5, true, .agg [.int .u8 0, .int .u8 0, .int .u8 0, .int .u8 0, .int .u8 0]⟩ := rfl

theorem rem5 {k n : Nat} (hn : 0 < n) : abin tab .rem 5 (.int .u8 (k : Int)) (.int .u8 (n : Int)) = some (.int .u8 ((k % n : Nat) : Int)) := by
  rw [abin_int (by simp) (by simp)]
  have : decide ((n : Int) = 0) = false := by rw [decide_eq_false_iff_not]; omega
  simp only [aint, this, cond_false]
  rw [← Int.ofNat_tmod]

theorem conv5 {h : AHeap} {k : Nat} (hk : k < 1000) : aconvert tab h 5 3 (.int .u8 (k : Int)) = some (.int .i64 (k : Int), h) := by
  show some (AV.int .i64 (awrap .i64 (k : Int)), h) = _
  rw [awrap_i64 (by omega) (by omega)]

/-- A name of one letter. -/
theorem nm_run {h : AHeap} (hw : h.WF) {i : Nat} (hi : i < 4) :
    ∃ x5 x6 h7, abin tab .add 5 (.int .u8 97) (.int .u8 (i : Int)) = some x5 ∧ abuildSlice tab h 22 1 [(0, x5)] = some (x6, h7) ∧ aconvert tab h7 22 9 x6 = some (.str (nm i), h7) ∧ Ext h h7 := by
  obtain ⟨x4, x6, x7, h8, e1, e2, e3, e4, x⟩ := name_run hw (i := i) (by omega)
  have e0 : aconvert tab h 3 5 (.int .i64 (i : Int)) = some (.int .u8 (awrap .u8 (i : Int)), h) := rfl
  have e5 : awrap .u8 (i : Int) = (i : Int) := by
    have : ∀ j : Fin 4, awrap .u8 (j.val : Int) = (j.val : Int) := by decide
    exact this ⟨i, hi⟩
  rw [e0, e5] at e1
  cases e1
  exact ⟨x6, x7, h8, e2, e3, e4, x⟩

/-- So many bytes, none set. -/
theorem zeros_run {h : AHeap} (hw : h.WF) {k : Nat} (hk : k < 20) :
    ∃ x35 h36, amakeSlice tab h 22 (.int .i64 (k : Int)) (.int .i64 (k : Int)) = some (x35, h36) ∧ aconvert tab h36 22 9 x35 = some (.str (List.replicate k 0), h36) ∧ Ext h h36 := by
  have hz : ∀ k, zeros [.int .u8 0] k = List.replicate k (.int .u8 0) := fun k => by
    induction k with
    | zero => rfl
    | succ k ih => simp only [zeros, ih, List.replicate_succ]; rfl
  have ho : allOne (List.replicate k (.int .u8 0)) = true := by
    have : ∀ j : Fin 20, allOne (List.replicate j.val (.int .u8 0)) = true := by decide
    exact this ⟨k, hk⟩
  have hb : ∀ j : Fin 20, bytesOf (List.replicate j.val (.int .u8 0)) = some (List.replicate j.val 0) := by decide
  have e1 : amakeSlice tab h 22 (.int .i64 (k : Int)) (.int .i64 (k : Int)) = some (.slice h.next 0 k 1, h.add (.cells (List.replicate k (.int .u8 0)) true)) := by
    show amakeSlice tab h 22 (.int .i64 (.ofNat k)) (.int .i64 (.ofNat k)) = _
    simp only [amakeSlice, ty22, ty5]
    have c : (Nat.beq k k && Nat.ble 1 1 && Nat.ble (k * 1) 35184372088832 && Nat.ble k 35184372088832 && Nat.beq (AV.int IntKind.u8 0).cells.length 1) = true := by
      simp only [Bool.and_eq_true, Nat.beq_eq_true_eq, Nat.ble_eq]
      refine ⟨⟨⟨⟨by simp, Nat.le_refl _⟩, by omega⟩, by omega⟩, rfl⟩
    rw [c, cond_true]
    show newCells h (zeros [.int .u8 0] k) _ = _
    rw [hz, newCells, ho, cond_true]
  refine ⟨_, _, e1, ?_, (Ext.refl hw).add _⟩
  have hr : rowOf (h.add (.cells (List.replicate k (.int .u8 0)) true)) (.slice h.next 0 k 1) 1 = some (List.replicate k (.int .u8 0)) := by
    simp only [rowOf, AHeap.get_add_self, cut]
    simp [ble_dec]
  simp only [aconvert, ty22, ty9, ty5, hr, hb ⟨k, hk⟩]

section
variable {S : Nat → Prop} {h : AHeap} {o : Nat} {tb : Tb} {L : Lay} {E : List Ed} {n : Nat}

theorem ld5 {b i : Nat} {vs : List AV} {v : AV} {rw : Bool} (g : h.get b = some (.cells vs rw)) (hv : vs[i]? = some v) (hi : ∃ k, v = .int .u8 k) : loadA tab h 5 (.ptr b i) = some v := by
  obtain ⟨k, rfl⟩ := hi
  exact loadA_cell ty5 rfl g hv

theorem eqk {i j : Int} : abin tab .eql 5 (.int .u8 i) (.int .u8 j) = some (.bool (decide (i = j))) := by
  rw [abin_int (by simp) (by simp)]; rfl

theorem small_run (a : TR S h o tb L) (st : St tb E n) (hn : n ≤ 1000000) (hw : h.WF) {n0 n1 n2 n3 n4 : Nat} :
    ∃ S' L' h', EG (.fn 16) [.ptr o 0, fiveV n0 n1 n2 n3 n4] h = some (.int .i64 (actE tb (smallA n0 n1 n2 n3 n4)), h') ∧ TR S' h' o (actT tb (smallA n0 n1 n2 n3 n4)) L' ∧ Step S h S' h' := by
  have b0 : boxA h (fiveV n0 n1 n2 n3 n4) = some (.ptr h.next 0, h.add (.cells [.int .u8 n0, .int .u8 n1, .int .u8 n2, .int .u8 n3, .int .u8 n4] true)) := rfl
  have g0 : (h.add (.cells [.int .u8 n0, .int .u8 n1, .int .u8 n2, .int .u8 n3, .int .u8 n4] true)).get h.next = some (.cells [.int .u8 n0, .int .u8 n1, .int .u8 n2, .int .u8 n3, .int .u8 n4] true) := AHeap.get_add_self _ _
  have x0 := (Ext.refl hw).add (.cells [.int .u8 n0, .int .u8 n1, .int .u8 n2, .int .u8 n3, .int .u8 n4] true)
  generalize h.add (.cells [.int .u8 n0, .int .u8 n1, .int .u8 n2, .int .u8 n3, .int .u8 n4] true) = h1 at b0 g0 x0
  generalize h.next = b at b0 g0
  have i0 : aindexAddr tab 45 (.ptr b 0) (.int .i64 0) = some (.ptr b 0) := rfl
  have i1 : aindexAddr tab 45 (.ptr b 0) (.int .i64 1) = some (.ptr b 1) := rfl
  have i2 : aindexAddr tab 45 (.ptr b 0) (.int .i64 2) = some (.ptr b 2) := rfl
  have i3 : aindexAddr tab 45 (.ptr b 0) (.int .i64 3) = some (.ptr b 3) := rfl
  have i4 : aindexAddr tab 45 (.ptr b 0) (.int .i64 4) = some (.ptr b 4) := rfl
  obtain ⟨x5, x6, h7, e5, e6, e8, y7⟩ := nm_run x0.wf (i := n3 % 4) (by omega)
  have X7 := x0.trans y7
  obtain ⟨x13, x14, h15, e13, e14, e16, y15⟩ := nm_run y7.wf (i := n4 % 4) (by omega)
  have X15 := X7.trans y15
  obtain ⟨x35, h36, e35, e37, y36⟩ := zeros_run y15.wf (k := n4 % 20) (by omega)
  have X36 := X15.trans y36
  have g7 := y7.keep _ _ g0
  have g15 := y15.keep _ _ g7
  have g36 := y36.keep _ _ g15
  have hA := a.ext X36
  have hW := y36.wf
  have ok3 : (nm (n3 % 4)).length ≤ 56 → AnyOK (nm (n3 % 4)) := fun _ => nm_any (by omega)
  have ok4 : (nm (n4 % 4)).length ≤ 56 → AnyOK (nm (n4 % 4)) := fun _ => nm_any (by omega)
  have fin : ∀ {S' L' h' v A}, EG (.fn 16) [.ptr o 0, fiveV n0 n1 n2 n3 n4] h = some (v, h') → smallA n0 n1 n2 n3 n4 = A → v = .int .i64 (actE tb A) → TR S' h' o (actT tb A) L' → Step S h36 S' h' → ∃ S' L' h', EG (.fn 16) [.ptr o 0, fiveV n0 n1 n2 n3 n4] h = some (.int .i64 (actE tb (smallA n0 n1 n2 n3 n4)), h') ∧ TR S' h' o (actT tb (smallA n0 n1 n2 n3 n4)) L' ∧ Step S h S' h' := fun q1 q2 q3 q4 q5 => by
    rw [q2, ← q3]; exact ⟨_, _, _, q1, q4, X36.step.trans q5⟩
  have one : ∀ k : Nat, k < 12 → abin tab .add 3 (.int .i64 1) (.int .i64 (k : Int)) = some (.int .i64 (1 + (k : Int))) := fun k hk => abin_add (by omega) (by omega)
  have w8 : n0 % 8 < 8 := by omega
  have r3 : abin tab .rem 5 (.int .u8 (n3 : Int)) (.int .u8 4) = some (.int .u8 ((n3 % 4 : Nat) : Int)) := rem5 (n := 4) (by decide)
  have r4 : abin tab .rem 5 (.int .u8 (n4 : Int)) (.int .u8 4) = some (.int .u8 ((n4 % 4 : Nat) : Int)) := rem5 (n := 4) (by decide)
  have r1 : abin tab .rem 5 (.int .u8 (n1 : Int)) (.int .u8 12) = some (.int .u8 ((n1 % 12 : Nat) : Int)) := rem5 (n := 12) (by decide)
  have r2 : abin tab .rem 5 (.int .u8 (n2 : Int)) (.int .u8 12) = some (.int .u8 ((n2 % 12 : Nat) : Int)) := rem5 (n := 12) (by decide)
  have r5 : abin tab .rem 5 (.int .u8 (n4 : Int)) (.int .u8 20) = some (.int .u8 ((n4 % 20 : Nat) : Int)) := rem5 (n := 20) (by decide)
  have r0 : abin tab .rem 5 (.int .u8 (n0 : Int)) (.int .u8 8) = some (.int .u8 ((n0 % 8 : Nat) : Int)) := rem5 (n := 8) (by decide)
  have c1 : aconvert tab h15 5 3 (.int .u8 ((n1 % 12 : Nat) : Int)) = _ := conv5 (by omega)
  have c2 : aconvert tab h15 5 3 (.int .u8 ((n2 % 12 : Nat) : Int)) = _ := conv5 (by omega)
  have c5 : aconvert tab h15 5 3 (.int .u8 ((n4 % 20 : Nat) : Int)) = _ := conv5 (by omega)
  have o1 := one (n1 % 12) (by omega)
  have o2 := one (n2 % 12) (by omega)
  have m1 := ld5 (i := 3) g0 rfl ⟨_, rfl⟩
  have m2 := ld5 (i := 4) g7 rfl ⟨_, rfl⟩
  have m3 := ld5 (i := 1) g15 rfl ⟨_, rfl⟩
  have m4 := ld5 (i := 2) g15 rfl ⟨_, rfl⟩
  have m5 := ld5 (i := 4) g15 rfl ⟨_, rfl⟩
  have m6 := ld5 (i := 0) g36 rfl ⟨_, rfl⟩
  have hc : n0 % 8 = 0 ∨ n0 % 8 = 1 ∨ n0 % 8 = 2 ∨ n0 % 8 = 3 ∨ n0 % 8 = 4 ∨ n0 % 8 = 5 ∨ n0 % 8 = 6 ∨ n0 % 8 = 7 := by omega
  rcases hc with h8 | h8 | h8 | h8 | h8 | h8 | h8 | h8
  · have sa := smallA_0 (n1 := n1) (n2 := n2) (n3 := n3) (n4 := n4) h8
    have r0 : abin tab .rem 5 (.int .u8 (n0 : Int)) (.int .u8 8) = some (.int .u8 0) := by rw [r0, h8]; rfl
    obtain ⟨S', L', h', t1, t2, t3⟩ := st.run_make hn hA hW (dir := 1 + ((n1 % 12 : Nat) : Int)) (kind := 2) (mode := 493) (data := []) ok3 (by decide)
    refine fin (run16 0 ?_) sa rfl t2 t3; clear fin
    unfold F16
    simp only [jn_a, b0, bothK_s, i0, i1, i2, i3, i4, valK_s, m1, m2, m3, m4, m5, m6, r0, r1, r2, r3, r4, r5, c1, c2, c5, o1, o2, e5, e6, e8, e13, e14, e16, e35, e37, eqk, boolK_t, boolK_f, t1, extractA_1, extractA_0, hpK_s, unmark_nil, decide_true, decide_false, Int.reduceEq, actE]
  · have sa := smallA_1 (n1 := n1) (n2 := n2) (n3 := n3) (n4 := n4) h8
    have r0 : abin tab .rem 5 (.int .u8 (n0 : Int)) (.int .u8 8) = some (.int .u8 1) := by rw [r0, h8]; rfl
    obtain ⟨S', L', h', t1, t2, t3⟩ := st.run_make hn hA hW (dir := 1 + ((n1 % 12 : Nat) : Int)) (kind := 2) (mode := 493) (data := []) ok3 (by decide)
    refine fin (run16 0 ?_) sa rfl t2 t3; clear fin
    unfold F16
    simp only [jn_a, b0, bothK_s, i0, i1, i2, i3, i4, valK_s, m1, m2, m3, m4, m5, m6, r0, r1, r2, r3, r4, r5, c1, c2, c5, o1, o2, e5, e6, e8, e13, e14, e16, e35, e37, eqk, boolK_t, boolK_f, t1, extractA_1, extractA_0, hpK_s, unmark_nil, decide_true, decide_false, Int.reduceEq, actE]
  · have sa := smallA_2 (n1 := n1) (n2 := n2) (n3 := n3) (n4 := n4) h8
    have r0 : abin tab .rem 5 (.int .u8 (n0 : Int)) (.int .u8 8) = some (.int .u8 2) := by rw [r0, h8]; rfl
    obtain ⟨S', L', h', t1, t2, t3⟩ := st.run_make hn hA hW (dir := 1 + ((n1 % 12 : Nat) : Int)) (kind := 1) (mode := 420) (data := List.replicate (n4 % 20) 0) ok3 (by simp; omega)
    refine fin (run16 0 ?_) sa rfl t2 t3; clear fin
    unfold F16
    simp only [jn_a, b0, bothK_s, i0, i1, i2, i3, i4, valK_s, m1, m2, m3, m4, m5, m6, r0, r1, r2, r3, r4, r5, c1, c2, c5, o1, o2, e5, e6, e8, e13, e14, e16, e35, e37, eqk, boolK_t, boolK_f, t1, extractA_1, extractA_0, hpK_s, unmark_nil, decide_true, decide_false, Int.reduceEq, actE]
  · have sa := smallA_3 (n1 := n1) (n2 := n2) (n3 := n3) (n4 := n4) h8
    have r0 : abin tab .rem 5 (.int .u8 (n0 : Int)) (.int .u8 8) = some (.int .u8 3) := by rw [r0, h8]; rfl
    obtain ⟨S', L', h', t1, t2, t3⟩ := st.run_make hn hA hW (dir := 1 + ((n1 % 12 : Nat) : Int)) (kind := 3) (mode := 511) (data := [116, 111]) ok3 (by decide)
    refine fin (run16 0 ?_) sa rfl t2 t3; clear fin
    unfold F16
    simp only [jn_a, b0, bothK_s, i0, i1, i2, i3, i4, valK_s, m1, m2, m3, m4, m5, m6, r0, r1, r2, r3, r4, r5, c1, c2, c5, o1, o2, e5, e6, e8, e13, e14, e16, e35, e37, eqk, boolK_t, boolK_f, t1, extractA_1, extractA_0, hpK_s, unmark_nil, decide_true, decide_false, Int.reduceEq, actE]
  · have sa := smallA_4 (n1 := n1) (n2 := n2) (n3 := n3) (n4 := n4) h8
    have r0 : abin tab .rem 5 (.int .u8 (n0 : Int)) (.int .u8 8) = some (.int .u8 4) := by rw [r0, h8]; rfl
    obtain ⟨h', t1, t2, t3⟩ := st.run_link hn hA hW (dir := 1 + ((n1 % 12 : Nat) : Int)) (ino := 1 + ((n2 % 12 : Nat) : Int)) ok3
    refine fin (run16 0 ?_) sa rfl t2 t3; clear fin
    unfold F16
    simp only [jn_a, b0, bothK_s, i0, i1, i2, i3, i4, valK_s, m1, m2, m3, m4, m5, m6, r0, r1, r2, r3, r4, r5, c1, c2, c5, o1, o2, e5, e6, e8, e13, e14, e16, e35, e37, eqk, boolK_t, boolK_f, t1, hpK_s, unmark_nil, decide_true, decide_false, Int.reduceEq, actE]
  · have sa := smallA_5 (n1 := n1) (n2 := n2) (n3 := n3) (n4 := n4) h8
    have r0 : abin tab .rem 5 (.int .u8 (n0 : Int)) (.int .u8 8) = some (.int .u8 5) := by rw [r0, h8]; rfl
    obtain ⟨h', t1, t2, t3⟩ := st.run_unlink hn hA hW (dir := 1 + ((n1 % 12 : Nat) : Int)) (name := nm (n3 % 4))
    refine fin (run16 0 ?_) sa rfl t2 t3; clear fin
    unfold F16
    simp only [jn_a, b0, bothK_s, i0, i1, i2, i3, i4, valK_s, m1, m2, m3, m4, m5, m6, r0, r1, r2, r3, r4, r5, c1, c2, c5, o1, o2, e5, e6, e8, e13, e14, e16, e35, e37, eqk, boolK_t, boolK_f, t1, hpK_s, unmark_nil, decide_true, decide_false, Int.reduceEq, actE]
  · have sa := smallA_6 (n1 := n1) (n2 := n2) (n3 := n3) (n4 := n4) h8
    have r0 : abin tab .rem 5 (.int .u8 (n0 : Int)) (.int .u8 8) = some (.int .u8 6) := by rw [r0, h8]; rfl
    obtain ⟨h', t1, t2, t3⟩ := st.run_move hA hW (fro := 1 + ((n1 % 12 : Nat) : Int)) (name := nm (n3 % 4)) (to := 1 + ((n2 % 12 : Nat) : Int)) ok4
    refine fin (run16 0 ?_) sa rfl t2 t3; clear fin
    unfold F16
    simp only [jn_a, b0, bothK_s, i0, i1, i2, i3, i4, valK_s, m1, m2, m3, m4, m5, m6, r0, r1, r2, r3, r4, r5, c1, c2, c5, o1, o2, e5, e6, e8, e13, e14, e16, e35, e37, eqk, boolK_t, boolK_f, t1, hpK_s, unmark_nil, decide_true, decide_false, Int.reduceEq, actE]
  · have sa := smallA_7 (n1 := n1) (n2 := n2) (n3 := n3) (n4 := n4) h8
    have r0 : abin tab .rem 5 (.int .u8 (n0 : Int)) (.int .u8 8) = some (.int .u8 7) := by rw [r0, h8]; rfl
    obtain ⟨h', t1, t2, t3⟩ := st.run_write hA hW (ino := 1 + ((n2 % 12 : Nat) : Int)) (data := List.replicate (n4 % 20) 0) (by simp; omega)
    refine fin (run16 0 ?_) sa rfl t2 t3; clear fin
    unfold F16
    simp only [jn_a, b0, bothK_s, i0, i1, i2, i3, i4, valK_s, m1, m2, m3, m4, m5, m6, r0, r1, r2, r3, r4, r5, c1, c2, c5, o1, o2, e5, e6, e8, e13, e14, e16, e35, e37, eqk, boolK_t, boolK_f, t1, hpK_s, unmark_nil, decide_true, decide_false, Int.reduceEq, actE]
end
end Go.Am

set_option linter.unusedVariables false
set_option linter.unusedSimpArgs false
namespace Go.Am
open Go Go.Proofs

/-- After n small acts on a table of this quota. -/
structure Sm (tb : Tb) (E : List Ed) (n : Nat) (qi qb : Int) : Prop where
  st : St tb E n
  one : ∀ e ∈ E, e.name.length = 1
  dat : ∀ k nd, tb.nodes k = some nd → nd.data.length ≤ 19
  ui : tb.ui ≤ n + 1
  qi : tb.qi = qi
  qb : tb.qb = qb

def actData : Act → Bs
  | .make _ _ _ _ x => x
  | .write _ x => x
  | _ => []
def actName : Act → Bs
  | .make _ s _ _ _ => s
  | .link _ s _ => s
  | .move _ _ _ u => u
  | _ => [0]

theorem make_nodes {tb : Tb} {d k m : Int} {s x : Bs} (j : Int) : (madeT tb d s k m x).nodes j = (if j = tb.last + 1 then some (freshNd d k m x) else tb.nodes j).map fun nd => if j = d then { nd with ents := nd.ents ++ [(s, tb.last + 1)] } else nd := by
  show addE _ _ _ _ _ = _
  rw [addE_map]
  rfl

theorem act_data {tb : Tb} (x : Act) {k : Int} {nd' : Nd} (h : (actT tb x).nodes k = some nd') : (∃ nd, tb.nodes k = some nd ∧ nd'.data = nd.data) ∨ nd'.data = actData x := by
  cases x with
  | make d s kd m x =>
    simp only [actT, makeT] at h
    split at h
    · rw [make_nodes] at h
      by_cases e : k = tb.last + 1
      · rw [if_pos e] at h
        simp only [Option.map_some, Option.some.injEq] at h
        right
        rw [← h]
        split <;> rfl
      · rw [if_neg e] at h
        cases hk : tb.nodes k with
        | none => rw [hk] at h; cases h
        | some nd =>
          rw [hk] at h
          simp only [Option.map_some, Option.some.injEq] at h
          left
          refine ⟨nd, rfl, ?_⟩
          rw [← h]
          split <;> rfl
    · exact .inl ⟨nd', h, rfl⟩
  | link d s i =>
    simp only [actT, linkT] at h
    split at h
    · replace h : incL (addE tb.nodes d s i) i 1 k = some nd' := h
      rw [incL_map, addE_map] at h
      cases hk : tb.nodes k with
      | none => rw [hk] at h; cases h
      | some nd =>
        rw [hk] at h
        simp only [Option.map_some, Option.some.injEq] at h
        left
        refine ⟨nd, rfl, ?_⟩
        rw [← h]
        split <;> split <;> rfl
    · exact .inl ⟨nd', h, rfl⟩
  | unlink d s =>
    simp only [actT, unlinkT] at h
    split at h
    · split at h
      · rename_i i hi
        left
        unfold goneT at h
        cases hg : delE tb.nodes d s i with
        | none =>
          rw [hg] at h
          replace h : delE tb.nodes d s k = some nd' := h
          rw [delE_map] at h
          cases hk : tb.nodes k with
          | none => rw [hk] at h; cases h
          | some nd =>
            rw [hk] at h
            simp only [Option.map_some, Option.some.injEq] at h
            refine ⟨nd, rfl, ?_⟩
            rw [← h]
            split <;> rfl
        | some cn =>
          rw [hg] at h
          dsimp only at h
          have hold : ∀ {x}, delE tb.nodes d s k = some x → ∃ nd, tb.nodes k = some nd ∧ x.data = nd.data := fun {x} h => by
            rw [delE_map] at h
            cases hk : tb.nodes k with
            | none => rw [hk] at h; cases h
            | some nd =>
              rw [hk] at h
              simp only [Option.map_some, Option.some.injEq] at h
              refine ⟨nd, rfl, ?_⟩
              rw [← h]
              split <;> rfl
          split at h
          · rcases upd_cases h with ⟨e, hx⟩ | ⟨e, hx⟩
            · cases hx
            · exact hold hx
          · rcases upd_cases h with ⟨e, hx⟩ | ⟨e, hx⟩
            · cases hx
              subst e
              obtain ⟨nd, q1, q2⟩ := hold hg
              exact ⟨nd, q1, q2⟩
            · exact hold hx
      · exact .inl ⟨nd', h, rfl⟩
    · exact .inl ⟨nd', h, rfl⟩
  | move f s t u =>
    simp only [actT, moveT] at h
    split at h
    · split at h
      · exact .inl ⟨nd', h, rfl⟩
      · split at h
        · split at h
          · replace h : setUp (addE (delE tb.nodes f s) t u _) _ t k = some nd' := h
            rw [setUp_map, addE_map, delE_map] at h
            cases hk : tb.nodes k with
            | none => rw [hk] at h; cases h
            | some nd =>
              rw [hk] at h
              simp only [Option.map_some, Option.some.injEq] at h
              left
              refine ⟨nd, rfl, ?_⟩
              rw [← h]
              split <;> split <;> split <;> rfl
          · exact .inl ⟨nd', h, rfl⟩
        · exact .inl ⟨nd', h, rfl⟩
    · exact .inl ⟨nd', h, rfl⟩
  | write i x =>
    simp only [actT, writeT] at h
    split at h
    · cases hi : tb.nodes i with
      | none => rw [hi] at h; exact .inl ⟨nd', h, rfl⟩
      | some nd =>
        rw [hi] at h
        rcases upd_cases h with ⟨e, hx⟩ | ⟨e, hx⟩
        · cases hx; exact .inr rfl
        · exact .inl ⟨nd', hx, rfl⟩
    · exact .inl ⟨nd', h, rfl⟩
  | chmod i m =>
    simp only [actT, chmodT] at h
    split at h
    · cases hi : tb.nodes i with
      | none => rw [hi] at h; exact .inl ⟨nd', h, rfl⟩
      | some nd =>
        rw [hi] at h
        rcases upd_cases h with ⟨e, hx⟩ | ⟨e, hx⟩
        · cases hx; subst e; exact .inl ⟨nd, hi, rfl⟩
        · exact .inl ⟨nd', hx, rfl⟩
    · exact .inl ⟨nd', h, rfl⟩

theorem act_tops (tb : Tb) (x : Act) : (actT tb x).qi = tb.qi ∧ (actT tb x).qb = tb.qb ∧ (actT tb x).ui ≤ tb.ui + 1 := by
  have same : tb.qi = tb.qi ∧ tb.qb = tb.qb ∧ tb.ui ≤ tb.ui + 1 := ⟨rfl, rfl, by omega⟩
  cases x with
  | make d s kd m x =>
    simp only [actT, makeT]
    split
    · exact ⟨rfl, rfl, Int.le_refl _⟩
    · exact same
  | link d s i =>
    simp only [actT, linkT]
    split <;> exact same
  | unlink d s =>
    simp only [actT, unlinkT]
    split
    · split
      · rename_i i hi
        obtain ⟨f1, f2, f3, f4, f5⟩ := goneT_facts tb (delE tb.nodes d s) i
        exact ⟨f2, f3, by omega⟩
      · exact same
    · exact same
  | move f s t u =>
    simp only [actT, moveT]
    split
    · split
      · exact same
      · split
        · split <;> exact same
        · exact same
    · exact same
  | write i x =>
    simp only [actT, writeT]
    split
    · split
      · exact ⟨rfl, rfl, by show tb.ui ≤ tb.ui + 1; omega⟩
      · exact same
    · exact same
  | chmod i m =>
    simp only [actT, chmodT]
    split
    · split <;> exact same
    · exact same

theorem act_names {tb : Tb} {E : List Ed} (x : Act) : ∀ e ∈ actEd tb E x, e ∈ E ∨ e.name = actName x := by
  intro e he
  cases x with
  | make d s kd m x =>
    simp only [actEd] at he
    split at he
    · rcases List.mem_append.1 he with he | he
      · exact .inl he
      · rw [List.mem_singleton.1 he]; exact .inr rfl
    · exact .inl he
  | link d s i =>
    simp only [actEd] at he
    split at he
    · rcases List.mem_append.1 he with he | he
      · exact .inl he
      · rw [List.mem_singleton.1 he]; exact .inr rfl
    · exact .inl he
  | unlink d s =>
    simp only [actEd, unlinkEd] at he
    split at he
    · exact .inl (mem_dropE.1 he).1
    · exact .inl he
  | move f s t u =>
    simp only [actEd, moveEd] at he
    split at he
    · split at he
      · exact .inl he
      · split at he
        · split at he
          · rcases List.mem_append.1 he with he | he
            · exact .inl (mem_dropE.1 he).1
            · rw [List.mem_singleton.1 he]; exact .inr rfl
          · exact .inl he
        · exact .inl he
    · exact .inl he
  | write i x => exact .inl he
  | chmod i m => exact .inl he

theorem Sm.act {tb : Tb} {E : List Ed} {n : Nat} {qi qb : Int} (a : Sm tb E n qi qb) {x : Act} (h1 : (actName x).length = 1) (h2 : (actData x).length ≤ 19) : Sm (actT tb x) (actEd tb E x) (n + 1) qi qb where
  st := a.st.act x
  one e he := (act_names x e he).elim (a.one e) fun h => by rw [h]; exact h1
  dat k nd hk := by
    rcases act_data x hk with ⟨nd0, q1, q2⟩ | q
    · rw [q2]; exact a.dat k nd0 q1
    · rw [q]; exact h2
  ui := by have := (act_tops tb x).2.2; have := a.ui; omega
  qi := by rw [(act_tops tb x).1]; exact a.qi
  qb := by rw [(act_tops tb x).2.1]; exact a.qb

theorem small_data (n0 n1 n2 n3 n4 : Nat) : (actName (smallA n0 n1 n2 n3 n4)).length = 1 ∧ (actData (smallA n0 n1 n2 n3 n4)).length ≤ 19 := by
  have h19 : (List.replicate (n4 % 20) (0 : UInt8)).length ≤ 19 := by simp; omega
  have hc : n0 % 8 = 0 ∨ n0 % 8 = 1 ∨ n0 % 8 = 2 ∨ n0 % 8 = 3 ∨ n0 % 8 = 4 ∨ n0 % 8 = 5 ∨ n0 % 8 = 6 ∨ n0 % 8 = 7 := by omega
  rcases hc with h | h | h | h | h | h | h | h
  · rw [smallA_0 h]; exact ⟨rfl, by simp [actData]⟩
  · rw [smallA_1 h]; exact ⟨rfl, by simp [actData]⟩
  · rw [smallA_2 h]; exact ⟨rfl, h19⟩
  · rw [smallA_3 h]; exact ⟨rfl, by simp [actData]⟩
  · rw [smallA_4 h]; exact ⟨rfl, by simp [actData]⟩
  · rw [smallA_5 h]; exact ⟨rfl, by simp [actData]⟩
  · rw [smallA_6 h]; exact ⟨rfl, by simp [actData]⟩
  · rw [smallA_7 h]; exact ⟨rfl, h19⟩

theorem Sm.used {tb : Tb} {E : List Ed} {n : Nat} {qi qb : Int} (a : Sm tb E n qi qb) : tb.ub ≤ 19 * tb.ui := by
  obtain ⟨K, q1, q2, q3⟩ := a.st.uses
  have : ∀ (K : List Int), sumT tb.nodes K ≤ 19 * K.length := fun K => by
    induction K with
    | nil => simp [sumT]
    | cons k K ih =>
      have hk : lenT tb.nodes k ≤ 19 := by
        unfold lenT
        split
        · rename_i nd h; exact a.dat k nd h
        · omega
      simp only [sumT, List.map_cons, List.sum_cons, List.length_cons] at ih ⊢
      omega
  have := this K
  omega

theorem Sm.new {qi qb : Int} {tb : Tb} (h : newT qi qb = some tb) : Sm tb [] 0 qi qb where
  st := St.new h
  one e he := nomatch he
  dat k nd hk := by
    unfold newT at h
    split at h
    · cases h
    · cases h
      dsimp only at hk
      rcases upd_cases hk with ⟨_, hx⟩ | ⟨_, hx⟩
      · cases hx; exact Nat.zero_le _
      · cases hx
  ui := by
    unfold newT at h
    split at h
    · cases h
    · cases h; show (1 : Int) ≤ 0 + 1; omega
  qi := by unfold newT at h; split at h <;> cases h; rfl
  qb := by unfold newT at h; split at h <;> cases h; rfl
end Go.Am

set_option linter.unusedVariables false
set_option linter.unusedSimpArgs false
namespace Go.Am
open Go Go.Proofs

theorem dirE_of {tb : Tb} {k : Int} {nd : Nd} (h : tb.nodes k = some nd) (h2 : nd.kind = 2) : dirE tb k = 0 := by simp only [dirE, h, h2, if_true]

theorem firstE_of {es : List Int} (h : ∀ e ∈ es, e = 0) : firstE es = 0 := firstE_zero.2 h

theorem climbE_file {f : Int → Option Nd} {ino : Int} {nd : Nd} (hi : f ino = some nd) (h1 : nd.kind ≠ 2) : ∀ {n : Nat} {k : Int}, Climb f n k → ∀ {m : Nat}, n < m → climbE f ino m k = some 0 := by
  intro n k h
  induction h with
  | root => intro m hm; cases m with
    | zero => omega
    | succ m => simp [climbE]
  | @up k n kn q1 q2 q3 q4 ih =>
    intro m hm
    cases m with
    | zero => omega
    | succ m =>
      have hk : k ≠ ino := fun e => by rw [e, hi] at q2; cases q2; exact h1 q3
      simp only [climbE, if_neg q1, if_neg hk, q2]
      exact ih (by omega)

section
variable {tb : Tb} {E : List Ed} {n : Nat}

theorem Inv.apart_file (a : Inv tb E) {i t : Int} {nd tn : Nd} (hi : tb.nodes i = some nd) (h1 : nd.kind ≠ 2) (ht : tb.nodes t = some tn) (ht2 : tn.kind = 2) : apartE tb i t = 0 := by
  obtain ⟨m, hm, hl⟩ := a.climbs ht ht2
  unfold apartE
  rw [climbE_file hi h1 hm (by omega)]

theorem Inv.rootE (a : Inv tb E) : dirE tb 1 = 0 := by
  obtain ⟨r, q1, q2, _⟩ := a.root
  exact dirE_of q1 q2

theorem Inv.no_name (a : Inv tb E) {d : Int} {s : Bs} (h : ∀ e ∈ E, e.dir = d → e.name ≠ s) : findT tb d s = none := by
  cases hf : findT tb d s with
  | none => rfl
  | some i => exact absurd rfl (h _ (a.find.1 hf).1 rfl)

theorem Inv.freeE (a : Inv tb E) {d : Int} {s : Bs} (h : ∀ e ∈ E, e.dir = d → e.name ≠ s) : freeE tb d s = 0 := by
  simp only [Go.Am.freeE, a.no_name h]
  rfl

theorem St.make_ok (a : St tb E n) {d k m : Int} {s x : Bs} (hd : dirE tb d = 0) (hs : nameE s = 0) (hno : ∀ e ∈ E, e.dir = d → e.name ≠ s) (hl : likeE k m x = 0) (h1 : tb.ui + 1 ≤ tb.qi) (h2 : tb.ub + x.length ≤ tb.qb) : makeE tb d s k m x = 0 := by
  refine firstE_of fun e he => ?_
  have hr : roomE tb 1 x.length = 0 := if_pos ⟨h1, h2⟩
  simp only [List.mem_cons, List.not_mem_nil, or_false] at he
  rcases he with rfl | rfl | rfl | rfl | rfl | rfl
  · rfl
  · exact hd
  · exact hs
  · exact hl
  · exact a.inv.freeE hno
  · exact hr

theorem St.move_ok (a : St tb E n) {f t i : Int} {s u : Bs} (hf : dirE tb f = 0) (ht : dirE tb t = 0) (hu : nameE u = 0) (hi : (⟨f, s, i⟩ : Ed) ∈ E) (hno : ∀ e ∈ E, e.dir = t → e.name ≠ u) (hsu : s ≠ u) (hap : apartE tb i t = 0) :
    moveE tb f s t u = 0 ∧ moveT tb f s t u = movedT tb f s t u i ∧ St (movedT tb f s t u i) (dropE E f s ++ [⟨t, u, i⟩]) (n + 1) := by
  obtain ⟨fd, q1, q2⟩ := dirE_zero hf
  have hfi : findT tb f s = some i := a.inv.find.2 ⟨hi, by rw [q1]; rfl⟩
  have h1 : move1E tb f s t u = 0 := firstE_of fun e he => by
    simp only [List.mem_cons, List.not_mem_nil, or_false] at he
    rcases he with rfl | rfl | rfl | rfl | rfl
    · rfl
    · exact hf
    · exact ht
    · exact hu
    · simp only [entryE, hfi]; rfl
  have h2 : move2E tb f s t u = 0 := firstE_of fun e he => by
    simp only [hfi, List.mem_cons, List.not_mem_nil, or_false] at he
    rcases he with rfl | rfl
    · exact a.inv.freeE hno
    · exact hap
  have hne : ¬ (f = t ∧ s = u) := fun h => hsu h.2
  refine ⟨?_, ?_, a.move h1 h2 hfi⟩
  · simp only [moveE, h1, if_true, if_neg hne, h2]
  · simp only [moveT, h1, if_true, if_neg hne, h2, hfi]

theorem moved_node {f t i k : Int} {s u : Bs} {nd : Nd} (h : tb.nodes k = some nd) : ∃ nd', (movedT tb f s t u i).nodes k = some nd' ∧ nd'.kind = nd.kind ∧ nd'.data = nd.data := by
  show ∃ nd', setUp (addE (delE tb.nodes f s) t u i) i t k = some nd' ∧ _
  rw [setUp_map, addE_map, delE_map, h]
  refine ⟨_, rfl, ?_⟩
  dsimp only
  split <;> split <;> split <;> exact ⟨rfl, rfl⟩

theorem dropE_add_same {E : List Ed} {d i : Int} {s : Bs} (h : ∀ e ∈ E, ¬ (e.dir = d ∧ e.name = s)) : dropE (E ++ [⟨d, s, i⟩]) d s = E := by
  have : dropE (E ++ [⟨d, s, i⟩]) d s = dropE E d s ++ dropE [⟨d, s, i⟩] d s := by simp only [dropE, List.filter_append]
  rw [this, dropE_none h]
  simp [dropE]

def freshS : Bs := [102, 114, 101, 115, 104]
def otherS : Bs := [111, 116, 104, 101, 114]
theorem fresh_name : nameE freshS = 0 := by decide
theorem other_name : nameE otherS = 0 := by decide

/-- All of it. -/
theorem undone_facts {tb0 : Tb} {E0 : List Ed} (a : St tb0 E0 n) {d : Int} (hd : dirE tb0 d = 0) (hnm : ∀ e ∈ E0, e.name.length = 1) {x : Bs} (hr1 : tb0.ui + 1 ≤ tb0.qi) (hr2 : tb0.ub + x.length ≤ tb0.qb) :
    makeE tb0 d freshS 1 420 x = 0 ∧ ∃ tb1, makeT tb0 d freshS 1 420 x = tb1 ∧ St tb1 (E0 ++ [⟨d, freshS, tb0.last + 1⟩]) (n + 1) ∧ tb1.ui = tb0.ui + 1 ∧ tb1.ub = tb0.ub + x.length ∧
    moveE tb1 d freshS 1 otherS = 0 ∧ ∃ tb2, moveT tb1 d freshS 1 otherS = tb2 ∧ St tb2 (E0 ++ [⟨1, otherS, tb0.last + 1⟩]) (n + 2) ∧
    moveE tb2 1 otherS d freshS = 0 ∧ ∃ tb3, moveT tb2 1 otherS d freshS = tb3 ∧ St tb3 (E0 ++ [⟨d, freshS, tb0.last + 1⟩]) (n + 3) ∧ findT tb3 d freshS = some (tb0.last + 1) ∧
    unlinkE tb3 d freshS = 0 ∧ ∃ tb4, unlinkT tb3 d freshS = tb4 ∧ St tb4 E0 (n + 4) ∧ tb4.ui = tb0.ui ∧ tb4.ub = tb0.ub ∧ tb4.nodes (tb0.last + 1) = none ∧ tb4.last = tb0.last + 1 ∧
    makeE tb4 d freshS 2 493 [] = 0 := by
  obtain ⟨dn, hdn, hd2⟩ := dirE_zero hd
  have nf : ∀ e ∈ E0, e.name ≠ freshS := fun e he h => by have := hnm e he; rw [h] at this; revert this; decide
  have no : ∀ e ∈ E0, e.name ≠ otherS := fun e he h => by have := hnm e he; rw [h] at this; revert this; decide
  have hso : freshS ≠ otherS := by decide
  have m1 := a.make_ok hd fresh_name (fun e he _ => nf e he) (k := 1) (m := 420) (x := x) (by simp [likeE, goodLike]) hr1 hr2
  have hf0 : tb0.nodes (tb0.last + 1) = none := a.inv.fresh _ (by omega)
  have hdne : d ≠ tb0.last + 1 := fun e => by rw [e, hf0] at hdn; cases hdn
  refine ⟨m1, _, rfl, ?_⟩
  have hT1 : makeT tb0 d freshS 1 420 x = madeT tb0 d freshS 1 420 x := if_pos m1
  rw [hT1]
  have s1 := a.make m1
  have n1 : (madeT tb0 d freshS 1 420 x).nodes (tb0.last + 1) = some (freshNd d 1 420 x) := by
    rw [make_nodes, if_pos rfl]
    simp only [Option.map_some, if_neg (fun h : tb0.last + 1 = d => hdne h.symm)]
  have l1 : (madeT tb0 d freshS 1 420 x).last = tb0.last + 1 := rfl
  have u1 : (madeT tb0 d freshS 1 420 x).ui = tb0.ui + 1 := rfl
  have b1 : (madeT tb0 d freshS 1 420 x).ub = tb0.ub + x.length := rfl
  have qi1 : (madeT tb0 d freshS 1 420 x).qi = tb0.qi := rfl
  have qb1 : (madeT tb0 d freshS 1 420 x).qb = tb0.qb := rfl
  generalize madeT tb0 d freshS 1 420 x = tb1 at s1 n1 l1 u1 b1 qi1 qb1
  have in1 : (⟨d, freshS, tb0.last + 1⟩ : Ed) ∈ E0 ++ [⟨d, freshS, tb0.last + 1⟩] := by simp
  have d1 : dirE tb1 d = 0 := by
    obtain ⟨y, q1, q2⟩ := s1.inv.dir _ in1
    exact dirE_of q1 q2
  refine ⟨s1, u1, b1, ?_⟩
  -- moved
  have root1 : ∃ r, tb1.nodes 1 = some r ∧ r.kind = 2 := by obtain ⟨r, q1, q2, _⟩ := s1.inv.root; exact ⟨r, q1, q2⟩
  obtain ⟨r1, hr1', hr12⟩ := root1
  obtain ⟨mv1, mT1, s2⟩ := s1.move_ok (f := d) (t := 1) (s := freshS) (u := otherS) (i := tb0.last + 1) d1 s1.inv.rootE other_name in1
    (fun e he _ => by
      rcases List.mem_append.1 he with he | he
      · exact no e he
      · rw [List.mem_singleton.1 he]; exact hso)
    hso (s1.inv.apart_file n1 (by show (1 : Int) ≠ 2; decide) hr1' hr12)
  rw [dropE_add_same fun e he h => nf e he h.2] at s2
  refine ⟨mv1, _, rfl, ?_⟩
  rw [mT1]
  obtain ⟨nd2, n2, k2, x2⟩ := moved_node (f := d) (t := 1) (s := freshS) (u := otherS) (i := tb0.last + 1) n1
  have l2 : (movedT tb1 d freshS 1 otherS (tb0.last + 1)).last = tb0.last + 1 := l1
  have u2 : (movedT tb1 d freshS 1 otherS (tb0.last + 1)).ui = tb0.ui + 1 := u1
  have b2 : (movedT tb1 d freshS 1 otherS (tb0.last + 1)).ub = tb0.ub + x.length := b1
  have qi2 : (movedT tb1 d freshS 1 otherS (tb0.last + 1)).qi = tb0.qi := qi1
  have qb2 : (movedT tb1 d freshS 1 otherS (tb0.last + 1)).qb = tb0.qb := qb1
  have dk2 : ∃ y, (movedT tb1 d freshS 1 otherS (tb0.last + 1)).nodes d = some y ∧ y.kind = 2 := by
    obtain ⟨y, q1, q2⟩ := dirE_zero d1
    obtain ⟨y', p1, p2, _⟩ := moved_node (f := d) (t := 1) (s := freshS) (u := otherS) (i := tb0.last + 1) q1
    exact ⟨y', p1, by rw [p2]; exact q2⟩
  generalize movedT tb1 d freshS 1 otherS (tb0.last + 1) = tb2 at s2 n2 l2 u2 b2 qi2 qb2 dk2
  refine ⟨s2, ?_⟩
  obtain ⟨y2, hy2, hy22⟩ := dk2
  have d2 : dirE tb2 d = 0 := dirE_of hy2 hy22
  have in2 : (⟨1, otherS, tb0.last + 1⟩ : Ed) ∈ E0 ++ [⟨1, otherS, tb0.last + 1⟩] := by simp
  have hk2 : nd2.kind ≠ 2 := by rw [k2]; show (1 : Int) ≠ 2; decide
  obtain ⟨mv2, mT2, s3⟩ := s2.move_ok (f := 1) (t := d) (s := otherS) (u := freshS) (i := tb0.last + 1) s2.inv.rootE d2 fresh_name in2
    (fun e he _ => by
      rcases List.mem_append.1 he with he | he
      · exact nf e he
      · rw [List.mem_singleton.1 he]; exact fun h => hso h.symm)
    (fun h => hso h.symm) (s2.inv.apart_file n2 hk2 hy2 hy22)
  rw [dropE_add_same fun e he h => no e he h.2] at s3
  refine ⟨mv2, _, rfl, ?_⟩
  rw [mT2]
  obtain ⟨nd3, n3, k3, x3⟩ := moved_node (f := 1) (t := d) (s := otherS) (u := freshS) (i := tb0.last + 1) n2
  obtain ⟨y3, hy3, hy32, _⟩ := moved_node (f := 1) (t := d) (s := otherS) (u := freshS) (i := tb0.last + 1) hy2
  have l3 : (movedT tb2 1 otherS d freshS (tb0.last + 1)).last = tb0.last + 1 := l2
  have u3 : (movedT tb2 1 otherS d freshS (tb0.last + 1)).ui = tb0.ui + 1 := u2
  have b3 : (movedT tb2 1 otherS d freshS (tb0.last + 1)).ub = tb0.ub + x.length := b2
  have qi3 : (movedT tb2 1 otherS d freshS (tb0.last + 1)).qi = tb0.qi := qi2
  have qb3 : (movedT tb2 1 otherS d freshS (tb0.last + 1)).qb = tb0.qb := qb2
  generalize movedT tb2 1 otherS d freshS (tb0.last + 1) = tb3 at s3 n3 l3 u3 b3 qi3 qb3 hy3
  have in3 : (⟨d, freshS, tb0.last + 1⟩ : Ed) ∈ E0 ++ [⟨d, freshS, tb0.last + 1⟩] := by simp
  have hf3 : findT tb3 d freshS = some (tb0.last + 1) := s3.inv.find.2 ⟨in3, by rw [hy3]; rfl⟩
  refine ⟨s3, hf3, ?_⟩
  -- let go
  have hinoL : ∀ e ∈ E0, e.ino ≠ tb0.last + 1 := fun e he hh => by
    obtain ⟨_, cn, hc, _⟩ := a.inv.ino e he
    rw [hh, hf0] at hc; cases hc
  have hdirL : ∀ e ∈ E0 ++ [⟨d, freshS, tb0.last + 1⟩], e.dir ≠ tb0.last + 1 := fun e he hh => by
    rcases List.mem_append.1 he with he | he
    · obtain ⟨cn, hc, _⟩ := a.inv.dir e he
      rw [hh, hf0] at hc; cases hc
    · rw [List.mem_singleton.1 he] at hh; exact hdne hh
  have he3 : nd3.ents = [] := by rw [s3.inv.ents _ nd3 n3, entsE_nil hdirL]
  have hl3 : nd3.links = 1 := by
    have := a.inv.last1
    rw [(s3.inv.links _ nd3 n3 (by omega)).1, cntE_add, cntE_zero hinoL, if_pos rfl]; rfl
  have ue : unlinkE tb3 d freshS = 0 := firstE_of fun e he => by
    simp only [List.mem_cons, List.not_mem_nil, or_false] at he
    rcases he with rfl | rfl | rfl | rfl
    · rfl
    · exact dirE_of hy3 (by rw [hy32]; exact hy22)
    · simp only [entryE, hf3]; rfl
    · simp only [emptyE, hf3, n3, he3]; rfl
  refine ⟨ue, _, rfl, ?_⟩
  have s4 := s3.unlink ue hf3
  rw [dropE_add_same fun e he h => nf e he h.2] at s4
  have uT : unlinkT tb3 d freshS = goneT tb3 (delE tb3.nodes d freshS) (tb0.last + 1) := by simp only [unlinkT, ue, if_true, hf3]
  rw [uT]
  have hg : delE tb3.nodes d freshS (tb0.last + 1) = some nd3 := by
    rw [delE_map, n3]
    simp only [Option.map_some, if_neg (fun h : tb0.last + 1 = d => hdne h.symm)]
  have hx3 : nd3.data = x := by rw [x3, x2]; rfl
  have gT : goneT tb3 (delE tb3.nodes d freshS) (tb0.last + 1) = { tb3 with ui := tb3.ui - 1, ub := tb3.ub - x.length, nodes := upd (delE tb3.nodes d freshS) (tb0.last + 1) none } := by
    simp only [goneT, hg, hl3, hx3]
    rfl
  rw [gT] at s4 ⊢
  have hu4 : tb3.ui - 1 = tb0.ui := by omega
  have hb4 : tb3.ub - x.length = tb0.ub := by omega
  refine ⟨s4, hu4, hb4, upd_self _ _ _, l3, ?_⟩
  refine s4.make_ok ?_ fresh_name (fun e he _ => nf e he) (by decide) ?_ ?_
  · obtain ⟨y, q1, q2⟩ : ∃ y, delE tb3.nodes d freshS d = some y ∧ y.kind = 2 := by
      rw [delE_map, hy3]
      exact ⟨_, rfl, by simp only [if_true]; rw [hy32]; exact hy22⟩
    refine dirE_of (nd := y) ?_ q2
    show upd _ _ _ d = _
    rw [upd_ne _ _ hdne]; exact q1
  · show tb3.ui - 1 + 1 ≤ tb3.qi
    omega
  · show tb3.ub - x.length + (0 : Nat) ≤ tb3.qb
    omega
end
end Go.Am

set_option linter.unusedVariables false
set_option linter.unusedSimpArgs false
namespace Go.Am
open Go Go.Proofs

theorem insS_length (s : Bs) : ∀ l, (insS s l).length = l.length + 1
  | [] => rfl
  | t :: l => by
    simp only [insS]
    split
    · simp [insS_length s l]
    · simp
theorem sortS_length : ∀ l, (sortS l).length = l.length
  | [] => rfl
  | s :: l => by simp [sortS, insS_length, sortS_length l]

/-- Acts in a row. -/
abbrev Five := Nat × Nat × Nat × Nat × Nat
def actOf (x : Five) : Act := smallA x.1 x.2.1 x.2.2.1 x.2.2.2.1 x.2.2.2.2
def fiveOf (x : Five) : AV := fiveV x.1 x.2.1 x.2.2.1 x.2.2.2.1 x.2.2.2.2
def fiveCs (x : Five) : List AV := [.int .u8 x.1, .int .u8 x.2.1, .int .u8 x.2.2.1, .int .u8 x.2.2.2.1, .int .u8 x.2.2.2.2]
def FRow (h : AHeap) (w : AV) (A : List Five) : Prop := ∃ vs, Row h w A.length 5 vs ∧ ∀ i x, A[i]? = some x → (vs.drop (i * 5)).take 5 = fiveCs x

theorem ty42 : tab.get 42 = some ⟨.slice 45, 1, 24, false, .nilslice⟩ := rfl

theorem FRow.ext {h h' : AHeap} {w : AV} {A : List Five} (a : FRow h w A) (e : Ext h h') : FRow h' w A := by
  obtain ⟨vs, q1, q2⟩ := a
  exact ⟨vs, q1.ext e, q2⟩

theorem FRow.at {h : AHeap} {w : AV} {A : List Five} (a : FRow h w A) {i : Nat} (hi : i < A.length) : ∃ p, aindexAddr tab 42 w (.int .i64 (i : Int)) = some p ∧ loadA tab h 45 p = some (fiveOf A[i]) := by
  obtain ⟨vs, q1, q2⟩ := a
  obtain ⟨o, off, e1, e2, _⟩ := q1.getAgg ty42 ty45 rfl rfl hi (k := .i64)
  rw [q2 i A[i] (List.getElem?_eq_getElem hi)] at e2
  exact ⟨_, e1, e2⟩

theorem FRow.len {h : AHeap} {w : AV} {A : List Five} (a : FRow h w A) : alen tab h 42 w = some (.int .i64 (A.length : Int)) := by
  obtain ⟨vs, q1, q2⟩ := a
  exact q1.len ty42

/-- What lies beside a table stays. -/
theorem Step.beside {S S' : Nat → Prop} {h h' : AHeap} (s : Step S h S' h') {c : Nat} {y : AObj} (g : h.get c = some y) (hn : ¬ S c) : h'.get c = some y ∧ ¬ S' c :=
  ⟨s.keep c y g hn, fun hs => by
    rcases s.new c hs with q | q
    · exact hn q
    · rw [g] at q; cases q⟩

theorem quo_cell {h : AHeap} (hw : h.WF) (x y : Int) : ∃ c h1 h2, newCells h [.int .i64 0, .int .i64 0] (fun o => .ptr o 0) = some (.ptr c 0, h1) ∧ storeA tab h1 26 (.ptr c 0) (.agg [.int .i64 x, .int .i64 y]) = some h2 ∧
    h2.get c = some (.cells [.int .i64 x, .int .i64 y] true) ∧ Ext h h2 ∧ h.get c = none := by
  have x1 : Ext h (h.add (.cells [.int .i64 0, .int .i64 0] true)) := (Ext.refl hw).add _
  have g1 : (h.add (.cells [.int .i64 0, .int .i64 0] true)).get h.next = some (.cells [.int .i64 0, .int .i64 0] true) := AHeap.get_add_self _ _
  refine ⟨h.next, _, (h.add (.cells [.int .i64 0, .int .i64 0] true)).put h.next (.cells [.int .i64 x, .int .i64 y] true), rfl, ?_, AHeap.get_put_self _ _ _, x1.put hw.new g1 _, hw.new⟩
  have t26 : ∃ ty, tab.get 26 = some ty ∧ ty.size = 2 ∧ ty.agg = true := ⟨_, rfl, rfl, rfl⟩
  obtain ⟨ty, t1, t2, t3⟩ := t26
  simp only [storeA, astore, g1, t1, t2, AV.cells]
  rfl

theorem ld_quo {h : AHeap} {c : Nat} {x y : Int} (g : h.get c = some (.cells [.int .i64 x, .int .i64 y] true)) : loadA tab h 26 (.ptr c 0) = some (.agg [.int .i64 x, .int .i64 y]) ∧ loadA tab h 3 (.ptr c 0) = some (.int .i64 x) ∧ loadA tab h 3 (.ptr c 1) = some (.int .i64 y) := by
  have t26 : ∃ ty, tab.get 26 = some ty ∧ ty.size = 2 ∧ ty.agg = true := ⟨_, rfl, rfl, rfl⟩
  obtain ⟨ty, t1, t2, t3⟩ := t26
  refine ⟨?_, loadA_cell ty3 rfl g rfl, loadA_cell ty3 rfl g rfl⟩
  simp only [loadA, aload, g, t1, t2, t3, cond_true]
  rfl

theorem undone_loop {h0 : AHeap} {w : AV} {A : List Five} (hr : FRow h0 w A) {S : Nat → Prop} {hh : AHeap} {o : Nat} {tb : Tb} {L : Lay} (a : LS h0 S hh o tb L .nilslice []) (b : Sm tb [] 0 40 2000) {N : Nat} (hN : 31 < N) {x1 x2 : AV} {j4 : AV × AV × AV × Unit → List Nat → AHeap → Option (AV × AHeap)}
    (hj : ∀ {S : Nat → Prop} {h : AHeap} {L : Lay} {tb : Tb} {E : List Ed} {i : Nat}, i ≤ 30 → LS h0 S h o tb L .nilslice [] → Sm tb E i 40 2000 → ∃ h', j4 (x1, x2, .ptr o 0, ()) [] h = some (.bool true, h')) :
    ∃ h', loopN (F5_b5 EG N j4) N (w, x1, x2, .ptr o 0, .int .i64 0, ()) [] hh = some (.bool true, h') := by
  refine loop_rule (σ := AV × AV × AV × AV × AV × Unit) (R := AV × AHeap) (total := 30)
    (I := fun i st h => i ≤ 30 ∧ ∃ S : Nat → Prop, ∃ L : Lay, ∃ tb : Tb, ∃ E : List Ed, st = (w, x1, x2, .ptr o 0, .int .i64 (i : Int), ()) ∧ LS h0 S h o tb L .nilslice [] ∧ Sm tb E i 40 2000)
    (Q := fun r => ∃ h', r = some (.bool true, h')) ?_ N 0 _ _ ⟨by omega, S, L, tb, [], rfl, a, b⟩ (by omega) (by omega)
  rintro i st h nx ⟨hi, S, L, tb, E, rfl, a, b⟩
  have hr' := hr.ext a.ext
  by_cases h1 : i < A.length
  · have c1 : decide ((i : Int) < (A.length : Int)) = true := ltT h1
    by_cases h2 : i < 30
    · left
      have c2 : decide ((i : Int) < 30) = true := by rw [decide_eq_true_eq]; omega
      obtain ⟨p, e1, e2⟩ := hr'.at h1
      obtain ⟨S', L', h', e3, t3, s3⟩ := small_run a.tr b.st (by omega) a.wf (n0 := A[i].1) (n1 := A[i].2.1) (n2 := A[i].2.2.1) (n3 := A[i].2.2.2.1) (n4 := A[i].2.2.2.2)
      obtain ⟨d1, d2⟩ := small_data A[i].1 A[i].2.1 A[i].2.2.1 A[i].2.2.2.1 A[i].2.2.2.2
      refine ⟨h2, _, h', ?_, by omega, S', L', _, _, rfl, a.step t3 s3, b.act d1 d2⟩
      have inc := abin_inc (T := tab) (t := 3) (i := i) (by omega)
      unfold F5_b5
      simp only [hr'.len, valK_s, abin_lss, c1, c2, boolK_t, e1, e2]
      simp only [fiveOf, e3, bothK_s, inc]
      rfl
    · right
      have c2 : decide ((i : Int) < 30) = false := by rw [decide_eq_false_iff_not]; omega
      unfold F5_b5
      simp only [hr'.len, valK_s, abin_lss, c1, c2, boolK_t, boolK_f]
      exact hj hi a b
  · right
    have c1 : decide ((i : Int) < (A.length : Int)) = false := ltF h1
    unfold F5_b5
    simp only [hr'.len, valK_s, abin_lss, c1, boolK_f]
    exact hj hi a b

theorem namesT_length {tb : Tb} {E : List Ed} {n : Nat} (a : St tb E n) {d : Int} (hd : dirE tb d = 0) : (namesT tb d).length = (entsE E d).length := by
  obtain ⟨nd, q1, _⟩ := dirE_zero hd
  simp only [namesT, q1, sortS_length, List.length_map, a.inv.ents d nd q1]

theorem inodeUndone_walk {h : AHeap} (hw : h.WF) {w : AV} {A : List Five} (hr : FRow h w A) {m : Nat} (hm : m ≤ 255) (s : Bs) {N : Nat} (hN : 31 < N) :
    ∃ h', F5 EG N w (.int .u8 (m : Int)) (.str s) h = some (.bool true, h') := by
  have b0 : abuild tab 26 [(0, .int .i64 40), (1, .int .i64 2000)] = some (.agg [.int .i64 40, .int .i64 2000]) := rfl
  obtain ⟨h1, x1, hnew⟩ := new_run hw 40 2000
  have hn : newT 40 2000 = some ⟨40, 2000, 1, 0, 1, upd (fun _ => none) 1 (some ⟨2, 493, [], 1, 1, []⟩)⟩ := rfl
  have hsm := Sm.new hn
  rw [hn] at hnew
  obtain ⟨S, o, L, e1, t1, far⟩ := hnew
  generalize (⟨40, 2000, 1, 0, 1, upd (fun _ => none) 1 (some ⟨2, 493, [], 1, 1, []⟩)⟩ : Tb) = tb at t1 hsm
  have A0 : LS h S h1 o tb L .nilslice [] := ⟨t1, far, x1, ⟨rfl, .inl ⟨rfl, rfl⟩⟩, fun j n e _ h => by cases h⟩
  unfold F5
  simp only [b0, valK_s, e1, bothK_s, eq23, boolK_f, jn_a]
  refine undone_loop hr A0 hsm hN fun {S h L tb E i} hi a b => ?_
  have r1 : abin tab .rem 5 (.int .u8 (m : Int)) (.int .u8 12) = some (.int .u8 ((m % 12 : Nat) : Int)) := rem5 (n := 12) (by decide)
  have r2 : aconvert tab h 5 3 (.int .u8 ((m % 12 : Nat) : Int)) = _ := conv5 (by omega)
  have r3 : abin tab .add 3 (.int .i64 1) (.int .i64 ((m % 12 : Nat) : Int)) = some (.int .i64 (1 + ((m % 12 : Nat) : Int))) := abin_add (by omega) (by omega)
  generalize hk : (1 + ((m % 12 : Nat) : Int)) = k at r3
  -- the directory
  obtain ⟨d, hd, hup⟩ : ∃ d, dirE tb d = 0 ∧ ((upT tb k = 0 ∧ d = 1) ∨ (upT tb k ≠ 0 ∧ d = k)) := by
    by_cases hu : upT tb k = 0
    · exact ⟨1, b.st.inv.rootE, .inl ⟨hu, rfl⟩⟩
    · refine ⟨k, ?_, .inr ⟨hu, rfl⟩⟩
      cases hkn : tb.nodes k with
      | none => exact absurd (by simp only [upT, hkn]) hu
      | some nd =>
        simp only [upT, hkn] at hu
        by_cases h2 : nd.kind = 2
        · exact dirE_of hkn h2
        · exact absurd (b.st.inv.upf k nd hkn h2) hu
  obtain ⟨mm, m1, m2⟩ := take_str (s := s) (h := h)
  have hsl : (s.take 200).length ≤ 200 := by simp; omega
  generalize s.take 200 = x at m2 hsl
  have hub := b.used
  have hui := b.ui
  have hqi := b.qi
  have hqb := b.qb
  obtain ⟨v1, tb1, T1, st1, u1, ub1, v2, tb2, T2, st2, v3, tb3, T3, st3, f3, v4, tb4, T4, st4, u4, ub4, g4, la4, v5⟩ := undone_facts b.st hd b.one (x := x) (by omega) (by omega)
  generalize hf : tb.last + 1 = f at st1 st2 st3 f3 g4 la4
  obtain ⟨h2, e2, x2⟩ := used_run a.tr a.wf
  obtain ⟨nv, h3, e3, n3, x3⟩ := names_run (a.tr.ext x2) x2.wf d (b.st.run_names (by omega))
  obtain ⟨c, h4, h5, e4, e5, g5, x5, c0⟩ := quo_cell x3.wf tb.ui tb.ub
  have X5 := (x2.trans x3).trans x5
  have a5 := a.grow X5
  have nc : ¬ S c := fun hs => a.tr.there c hs ((x2.trans x3).none c0)
  obtain ⟨S6, L6, h6, e6, t6, s6⟩ := b.st.run_make (by omega) a5.tr a5.wf (dir := d) (name := freshS) (kind := 1) (mode := 420) (data := x) (fun _ => anyOK_ascii (by decide) (by decide)) (by omega)
  rw [v1, if_pos rfl, hf] at e6
  rw [T1] at t6
  obtain ⟨g6, nc6⟩ := s6.beside g5 nc
  obtain ⟨h7, e7, x7⟩ := used_run t6 s6.wf
  rw [u1, ub1] at e7
  have g7 := x7.keep _ _ g6
  obtain ⟨nv2, h8, e8, n8, x8⟩ := names_run (t6.ext x7) x7.wf d (st1.run_names (by omega))
  have g8 := x8.keep _ _ g7
  obtain ⟨h9, e9, t9, s9⟩ := st1.run_move ((t6.ext x7).ext x8) x8.wf (fro := d) (name := freshS) (to := 1) (as' := otherS) (fun _ => anyOK_ascii (by decide) (by decide))
  rw [v2] at e9
  rw [T2] at t9
  obtain ⟨g9, nc9⟩ := s9.beside g8 nc6
  obtain ⟨h10, e10, t10, s10⟩ := st2.run_move t9 s9.wf (fro := 1) (name := otherS) (to := d) (as' := freshS) (fun _ => anyOK_ascii (by decide) (by decide))
  rw [v3] at e10
  rw [T3] at t10
  obtain ⟨g10, nc10⟩ := s10.beside g9 nc9
  have e11 := find_run t10 d freshS
  rw [f3] at e11
  obtain ⟨h12, e12, t12, s12⟩ := st3.run_unlink (by omega) t10 s10.wf (dir := d) (name := freshS)
  rw [v4] at e12
  rw [T4] at t12
  obtain ⟨g12, nc12⟩ := s12.beside g10 nc10
  obtain ⟨h13, e13, x13⟩ := used_run t12 s12.wf
  rw [u4, ub4] at e13
  have g13 := x13.keep _ _ g12
  obtain ⟨nv3, h14, e14, n14, x14⟩ := names_run (t12.ext x13) x13.wf d (st4.run_names (by omega))
  obtain ⟨h15, e15, x15⟩ := node_run ((t12.ext x13).ext x14) x14.wf f
  have hz : nodeV tb4 f = .agg [.int .i64 0, .int .i64 0, .str [], .int .i64 0] := by simp only [nodeV, g4]; rfl
  rw [hz, g4] at e15
  obtain ⟨c2, h16, h17, e16, e17, g17, x17⟩ := ino_cell x15.wf 0 0 0 []
  obtain ⟨S8, L8, h18, e18, t18, s18⟩ := st4.run_make (by omega) ((((t12.ext x13).ext x14).ext x15).ext x17) x17.wf (dir := d) (name := freshS) (kind := 2) (mode := 493) (data := []) (fun _ => anyOK_ascii (by decide) (by decide)) (by decide)
  rw [v5, if_pos rfl] at e18
  -- how many names
  have d4 : dirE tb4 d = 0 := firstE_zero.1 v5 (dirE tb4 d) (by simp)
  have d1 : dirE tb1 d = 0 := by
    obtain ⟨y, q1, q2⟩ := st1.inv.dir ⟨d, freshS, f⟩ (by simp)
    exact dirE_of q1 q2
  have k0 := namesT_length b.st hd
  have k1 := namesT_length st1 d1
  rw [entsE_add, if_pos rfl, List.length_append] at k1
  have k4 := namesT_length st4 d4
  have al3 : alen tab h3 30 nv = some (.int .i64 ((entsE E d).length : Int)) := by rw [n3.len ty30, k0]
  have al8 : alen tab h8 30 nv2 = some (.int .i64 (((entsE E d).length + 1 : Nat) : Int)) := by rw [n8.len ty30, k1]; rfl
  have al14 : alen tab h14 30 nv3 = some (.int .i64 ((entsE E d).length : Int)) := by rw [n14.len ty30, k4]
  have hlen : (entsE E d).length ≤ 30 := by
    have h1 : (entsE E d).length ≤ E.length := by simp only [entsE, List.length_map]; exact List.length_filter_le _ _
    have := b.st.len
    omega
  generalize (entsE E d).length = nn at al3 al8 al14 hlen
  obtain ⟨q1, q2, q3⟩ := ld_quo g6
  obtain ⟨q4, q5, q6⟩ := ld_quo g7
  obtain ⟨q7, q8, q9⟩ := ld_quo g12
  obtain ⟨q10, q11, q12⟩ := ld_quo g13
  have b1 : abuild tab 26 [(0, .int .i64 (tb.ui + 1)), (1, .int .i64 (tb.ub + x.length))] = some (.agg [.int .i64 (tb.ui + 1), .int .i64 (tb.ub + x.length)]) := rfl
  have w1 := abin_add (T := tab) (t := 3) (a := tb.ui) (b := 1) (by have := b.st.uses.nonneg; omega) (by omega)
  have w2 := abin_add (T := tab) (t := 3) (a := tb.ub) (b := (x.length : Int)) (by have := b.st.uses.nonneg; omega) (by omega)
  have w3 := abin_add (T := tab) (t := 3) (a := (nn : Int)) (b := 1) (by omega) (by omega)
  have hgt : decide (f < tb4.last + 1) = true := by rw [decide_eq_true_eq]; omega
  have eu := up_run a.tr k
  have nnc : ((nn + 1 : Nat) : Int) = (nn : Int) + 1 := by omega
  rw [nnc] at al8
  have fs : freshS = [102, 114, 101, 115, 104] := rfl
  have os : otherS = [111, 116, 104, 101, 114] := rfl
  rw [fs] at e6 e9 e10 e11 e12 e18
  rw [os] at e9 e10
  simp only [r1, r2, r3, valK_s, bothK_s, eu, alen9, m1, m2, e2, e3, al3, e4, e5, hpK_s, jn_a, abin_eql]
  rcases hup with ⟨hu, rfl⟩ | ⟨hu, rfl⟩
  · simp only [hu, decide_true, boolK_t, e2, e3, al3, e4, e5, hpK_s, alen9, m1, m2, e6, extractA_0, extractA_1, bothK_s, valK_s, abin_neq, if_true, decide_true, Bool.not_true, boolK_f, fa26_00, fa26_01, q1, q2, q3, q4, q5, q6, q7, q8, q9, q10, q11, q12, w1, w2, w3, b1, e7, sameK_r, quota_neq, Bool.and_self, al8, e8, e9, e10, e11, e12, e13, e14, al14, e15, e16, e17, e18, hpK_s, aun_not, Bool.not_false, abin_gtr, hgt, unmark_nil, run15, intOf, Option.isSome_some, Option.isSome_none]
    exact ⟨_, rfl⟩
  · simp only [hu, decide_false, boolK_t, e2, e3, al3, e4, e5, hpK_s, alen9, m1, m2, e6, extractA_0, extractA_1, bothK_s, valK_s, abin_neq, if_true, decide_true, Bool.not_true, boolK_f, fa26_00, fa26_01, q1, q2, q3, q4, q5, q6, q7, q8, q9, q10, q11, q12, w1, w2, w3, b1, e7, sameK_r, quota_neq, Bool.and_self, al8, e8, e9, e10, e11, e12, e13, e14, al14, e15, e16, e17, e18, hpK_s, aun_not, Bool.not_false, abin_gtr, hgt, unmark_nil, run15, intOf, Option.isSome_some, Option.isSome_none]
    exact ⟨_, rfl⟩
end Go.Am

set_option linter.unusedVariables false
set_option linter.unusedSimpArgs false
namespace Go.Am
open Go Go.Proofs Go.RowKit

theorem u8_range {n : Int} (h : (Lit.int .u8 n).wf = true) : 0 ≤ n ∧ n ≤ 255 := by
  simp only [Lit.wf, Bool.and_eq_true, decide_eq_true_eq] at h
  exact h

theorem drep_u8 {H : Type} {h : AHeap} {xs : List AV} {d : DataW H} (a : DRep Try.prog h 5 xs d) : ∃ n, xs = [.int .u8 n] ∧ 0 ≤ n ∧ n ≤ 255 := by
  have u5 : Try.prog.underlying 5 = some (.int .u8) := Try.underlying5
  cases a with
  | int ht2 hw => rw [u5] at ht2; cases ht2; exact ⟨_, rfl, u8_range hw⟩
  | bool ht2 => rw [u5] at ht2; cases ht2
  | str ht2 _ => rw [u5] at ht2; cases ht2
  | nil ht2 => rw [u5] at ht2; cases ht2
  | slice ht2 _ _ _ => rw [u5] at ht2; cases ht2
  | struct ht2 _ _ _ => rw [u5] at ht2; cases ht2
  | array ht2 _ _ _ => rw [u5] at ht2; cases ht2

theorem drep_text {H : Type} {h : AHeap} {xs : List AV} {d : DataW H} (a : DRep Try.prog h 9 xs d) : ∃ s, xs = [.str s] ∧ s.length ≤ maxLen := by
  have u9 : Try.prog.underlying 9 = some .string := Try.underlying9
  cases a with
  | int ht2 hw => rw [u9] at ht2; cases ht2
  | bool ht2 => rw [u9] at ht2; cases ht2
  | str ht2 hl => exact ⟨_, rfl, hl⟩
  | nil ht2 => rw [u9] at ht2; cases ht2
  | slice ht2 _ _ _ => rw [u9] at ht2; cases ht2
  | struct ht2 _ _ _ => rw [u9] at ht2; cases ht2
  | array ht2 _ _ _ => rw [u9] at ht2; cases ht2

/-- A value of one cell stands as its cell does. -/
theorem vr_cell {β : Inj} {v : AV} {V : Value} (h : VRL β [v] V.cells.toList) (hV : V.cells = #[V]) : VR β v V := by
  rw [hV] at h
  obtain ⟨X, Xs, h1, _, h3⟩ := h.cons_inv
  simp at h3
  obtain ⟨rfl, _⟩ := h3
  exact h1

theorem drep_u8n {H : Type} {h : AHeap} {xs : List AV} {d : DataW H} (a : DRep Try.prog h 5 xs d) : ∃ n : Nat, xs = [.int .u8 (n : Int)] ∧ n ≤ 255 := by
  obtain ⟨n, rfl, h1, h2⟩ := drep_u8 a
  exact ⟨n.toNat, by rw [Int.toNat_of_nonneg h1], by omega⟩

/-- Five bytes. -/
theorem drep_five {H : Type} {h : AHeap} {xs : List AV} {d : DataW H} (a : DRep Try.prog h 45 xs d) : ∃ x : Five, xs = fiveCs x := by
  have u45 : Try.prog.underlying 45 = some (.array 5 5) := Try.underlying45
  have c45 : Try.prog.cellsOf 45 = 5 := by kernel_rfl
  have c5 : Try.prog.cellsOf 5 = 1 := by kernel_rfl
  cases a with
  | bool ht => rw [u45] at ht; cases ht
  | int ht _ => rw [u45] at ht; cases ht
  | str ht _ => rw [u45] at ht; cases ht
  | nil ht => rw [u45] at ht; cases ht
  | slice ht _ _ _ => rw [u45] at ht; cases ht
  | struct ht _ _ _ => rw [u45] at ht; cases ht
  | @array _ n e xs parts ht hl hn he =>
    rw [u45] at ht
    cases ht
    rw [c45] at hl
    rw [c5] at he
    match xs, hl with
    | [y0, y1, y2, y3, y4], _ =>
      match parts, hn with
      | [p0, p1, p2, p3, p4], _ =>
        obtain ⟨n0, e0, _⟩ := drep_u8n (he 0 p0 rfl)
        obtain ⟨n1, e1, _⟩ := drep_u8n (he 1 p1 rfl)
        obtain ⟨n2, e2, _⟩ := drep_u8n (he 2 p2 rfl)
        obtain ⟨n3, e3, _⟩ := drep_u8n (he 3 p3 rfl)
        obtain ⟨n4, e4, _⟩ := drep_u8n (he 4 p4 rfl)
        simp at e0 e1 e2 e3 e4
        exact ⟨(n0, n1, n2, n3, n4), by simp only [fiveCs, e0, e1, e2, e3, e4]⟩

theorem drep_fives {H : Type} {h : AHeap} {xs : List AV} {d : DataW H} (a : DRep Try.prog h 42 xs d) : ∃ v, ∃ A : List Five, xs = [v] ∧ FRow h v A := by
  have u42 : Try.prog.underlying 42 = some (.slice 45) := Try.underlying42
  have c45 : Try.prog.cellsOf 45 = 5 := by kernel_rfl
  cases a with
  | bool ht => rw [u42] at ht; cases ht
  | int ht _ => rw [u42] at ht; cases ht
  | str ht _ => rw [u42] at ht; cases ht
  | nil ht => exact ⟨.nilslice, [], rfl, [], ⟨by simp, .inl ⟨rfl, rfl⟩⟩, fun i x hx => by simp at hx⟩
  | struct ht _ _ _ => rw [u42] at ht; cases ht
  | array ht _ _ _ => rw [u42] at ht; cases ht
  | @slice _ e v vs elems spare ht hl hr he =>
    rw [u42] at ht
    cases ht
    rw [c45] at hr he
    have each : ∀ i : Fin elems.length, ∃ x : Five, (vs.drop (i.val * 5)).take 5 = fiveCs x := fun i => drep_five (he i.val _ (List.getElem?_eq_getElem i.isLt))
    refine ⟨v, (List.finRange elems.length).map fun i => Classical.choose (each i), rfl, vs, by simpa using hr, fun i x hx => ?_⟩
    have hi : i < elems.length := by
      have := (List.getElem?_eq_some_iff.1 hx).1
      simpa using this
    have : x = Classical.choose (each ⟨i, hi⟩) := by
      have := (List.getElem?_eq_some_iff.1 hx).2
      simpa using this.symm
    rw [this]
    exact Classical.choose_spec (each ⟨i, hi⟩)

end Go.Am
