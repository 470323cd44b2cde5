/-
  InodeLinks: the walk.
-/
import Derived.Test.YtpofhpkdjcnhmaaU1
set_option linter.unusedVariables false
set_option linter.unusedSimpArgs false
namespace Go.Am
open Go Go.Proofs

theorem ty5 : tab.get 5 = some ⟨.int .u8, 1, 1, false, .int .u8 0⟩ := rfl
theorem ty22 : tab.get 22 = some ⟨.slice 5, 1, 24, false, .nilslice⟩ := rfl
theorem ty30 : tab.get 30 = some ⟨.slice 9, 1, 24, false, .nilslice⟩ := rfl

/-- What is the table's own is kept. -/
theorem TR.kept {S : Nat → Prop} {h h' : AHeap} {o : Nat} {tb : Tb} {L : Lay} (a : TR S h o tb L) (e : ∀ j y, S j → h.get j = some y → h'.get j = some y) : TR S h' o tb L where
  top := e _ _ a.inO a.top
  map := by obtain ⟨l, c, q1, q2, q3⟩ := a.map; exact ⟨l, c, e _ _ a.inM q1, q2, q3⟩
  node k nd hk := e _ _ (a.inN k nd hk) (a.node k nd hk)
  ents k nd hk h2 := by obtain ⟨l, c, q1, q2, q3⟩ := a.ents k nd hk h2; exact ⟨l, c, e _ _ (a.inE k nd hk h2) q1, q2, q3⟩
  noEnts := a.noEnts
  inj := a.inj
  injE := a.injE
  apart := a.apart
  apartE := a.apartE
  inO := a.inO
  inM := a.inM
  inN := a.inN
  inE := a.inE
  there j hj := by
    cases q : h.get j with
    | none => exact absurd q (a.there j hj)
    | some y => rw [e _ _ hj q]; simp

/-- A table, made behind h0, and a row of one's own beside it. -/
structure LS (h0 : AHeap) (S : Nat → Prop) (h : AHeap) (o : Nat) (tb : Tb) (L : Lay) (v : AV) (l : List Bs) : Prop where
  tr : TR S h o tb L
  far : ∀ j, S j → h0.get j = none
  ext : Ext h0 h
  own : Own h0 h v l.length 1 (l.map .str)
  apart : ∀ j n e, S j → v ≠ .slice j 0 n e

section
variable {h0 : AHeap} {S : Nat → Prop} {h : AHeap} {o : Nat} {tb : Tb} {L : Lay} {v : AV} {l : List Bs}

theorem LS.step (a : LS h0 S h o tb L v l) {S' : Nat → Prop} {h' : AHeap} {tb' : Tb} {L' : Lay} (t : TR S' h' o tb' L') (s : Step S h S' h') : LS h0 S' h' o tb' L' v l where
  tr := t
  far j hj := (s.new j hj).elim (a.far j) fun e => a.ext.none e
  ext := ⟨fun j y e => s.keep j y (a.ext.keep j y e) (fun hs => by rw [a.far j hs] at e; cases e), s.wf⟩
  own := by
    obtain ⟨q1, q2⟩ := a.own
    refine ⟨q1, ?_⟩
    rcases q2 with q2 | ⟨x, rfl, q3, q4⟩
    · exact .inl q2
    · exact .inr ⟨x, rfl, s.keep _ _ q3 fun hs => a.apart x _ _ hs rfl, q4⟩
  apart j n e hj hv := by
    rcases s.new j hj with hs | hn
    · exact a.apart j n e hs hv
    · exact a.own.row.there hv hn

theorem LS.grow (a : LS h0 S h o tb L v l) {h' : AHeap} (x : Ext h h') : LS h0 S h' o tb L v l := a.step (a.tr.ext x) x.step

theorem LS.wf (a : LS h0 S h o tb L v l) : h.WF := a.ext.wf
theorem LS.row (a : LS h0 S h o tb L v l) : Row h v l.length 1 (l.map .str) := a.own.row

/-- One name more. -/
theorem LS.push (a : LS h0 S h o tb L v l) (s : Bs) (hn : l.length < 1000000) :
    ∃ y h1 v' h', abuildSlice tab h 30 1 [(0, .str s)] = some (y, h1) ∧ aappend tab h1 30 30 v y = some (v', h') ∧ LS h0 S h' o tb L v' (l ++ [s]) := by
  obtain ⟨y, h1, v', h', q1, q2, q3, q4, q5, q6⟩ := pushK (T := tab) (h0 := h0) (x := .str s) (esz := 1) ty30 ty9 rfl rfl (by decide) (Nat.le_refl _) (by omega) a.own a.wf (fun j hj => by
    cases e : h0.get j with
    | none => exact absurd e hj
    | some y => rw [a.ext.keep _ _ e]; simp) rfl rfl rfl (by omega)
  refine ⟨y, h1, v', h', q1, q2, ?_, a.far, q4.ext a.ext, by
    have e1 : (l ++ [s]).length = l.length + 1 := by simp
    have e2 : (l ++ [s]).map AV.str = l.map AV.str ++ (AV.str s).cells := by simp [AV.cells]
    rw [e1, e2]; exact q3, fun j n e hj => q6 j (a.tr.there j hj) n e⟩
  exact a.tr.kept fun j y hj e => q5 j y e fun n e' => a.apart j n e' hj
end

theorem name_run {h : AHeap} (hw : h.WF) {i : Nat} (hi : i < 12) :
    ∃ x4 x6 x7 h8, aconvert tab h 3 5 (.int .i64 (i : Int)) = some (x4, h) ∧ abin tab .add 5 (.int .u8 97) x4 = some x6 ∧ abuildSlice tab h 22 1 [(0, x6)] = some (x7, h8) ∧ aconvert tab h8 22 9 x7 = some (.str (nm i), h8) ∧ Ext h h8 := by
  have e1 : aconvert tab h 3 5 (.int .i64 (i : Int)) = some (.int .u8 (awrap .u8 (i : Int)), h) := rfl
  have e2 : abin tab .add 5 (.int .u8 97) (.int .u8 (awrap .u8 (i : Int))) = some (.int .u8 (awrap .u8 (97 + awrap .u8 (i : Int)))) := rfl
  have e3 : awrap .u8 (97 + awrap .u8 (i : Int)) = ((97 + i : Nat) : Int) := by
    have : ∀ j : Fin 14, awrap .u8 (97 + awrap .u8 (j.val : Int)) = ((97 + j.val : Nat) : Int) := by decide
    exact this ⟨i, by omega⟩
  have e4 : abuildSlice tab h 22 1 [(0, .int .u8 ((97 + i : Nat) : Int))] = some (.slice h.next 0 1 1, h.add (.cells [.int .u8 ((97 + i : Nat) : Int)] true)) := rfl
  have e5 : aconvert tab (h.add (.cells [.int .u8 ((97 + i : Nat) : Int)] true)) 22 9 (.slice h.next 0 1 1) = some (.str (nm i), h.add (.cells [.int .u8 ((97 + i : Nat) : Int)] true)) := by
    have : rowOf (h.add (.cells [.int .u8 ((97 + i : Nat) : Int)] true)) (.slice h.next 0 1 1) 1 = some [.int .u8 ((97 + i : Nat) : Int)] := by
      simp [rowOf, AHeap.get_add_self, cut, ble_dec]
    simp only [aconvert, ty22, ty9, ty5, this]
    rfl
  exact ⟨_, _, _, _, e1, by rw [e2, e3], e4, e5, (Ext.refl hw).add _⟩

theorem small_link {E1 E2 : NE} {dat : Bs} {n : Int} (h : dat.length ≤ 300) : Small (linkTb E1 E2 dat n) :=
  ⟨by show (0 : Int) ≤ 10 ∧ (10 : Int) ≤ 1048576; omega, by show (0 : Int) ≤ 300 ∧ (300 : Int) ≤ 1073741824; omega, by show (0 : Int) ≤ 3 ∧ (3 : Int) ≤ 1048576; omega, by show (0 : Int) ≤ (dat.length : Int) ∧ (dat.length : Int) ≤ 1073741824; omega⟩

theorem three3 {E1 E2 : NE} {dat : Bs} {n : Int} {nd : Nd} (h : (linkTb E1 E2 dat n).nodes 3 = some nd) : nd = ⟨1, 420, dat, n, 0, []⟩ := by
  have : (linkTb E1 E2 dat n).nodes 3 = some ⟨1, 420, dat, n, 0, []⟩ := rfl
  rw [this] at h; cases h; rfl

def namesUpTo (i : Nat) : List Bs := (List.range i).map nm

theorem nm_not_in {i : Nat} (hi : i < 12) : nm i ∉ namesUpTo i := by
  intro h
  obtain ⟨j, hj, e⟩ := List.mem_map.1 h
  have hj := List.mem_range.1 hj
  have := nm_inj12 (by omega) hi e
  omega

end Go.Am
