/-
  InodeLinks: an element that is cut out of a row.
-/
import Derived.Test.YtpofhpkdjcnhmaaU2
set_option linter.unusedVariables false
set_option linter.unusedSimpArgs false
namespace Go.Am
open Go Go.Proofs

theorem upTo_zero {d b : Nat} (hd : d = 0) : upTo none d b = upTo (some (.int .i64 0)) d b := by
  subst hd
  show some 0 = (bif Nat.ble 0 b then some 0 else none)
  rfl
theorem aslice_lo {v : AV} {hi : Option AV} : aslice tab 30 v none hi = aslice tab 30 v (some (.int .i64 0)) hi := by
  unfold aslice
  simp only [upTo_zero (d := 0) rfl]
theorem upTo_full {b : Nat} : upTo none b b = upTo (some (.int .i64 (b : Int))) b b := by
  show some b = (bif Nat.ble b b then some b else none)
  rw [Nat.ble_eq_true_of_le (Nat.le_refl b)]; rfl

theorem aslice_hi {h : AHeap} {v : AV} {n : Nat} {vs : List AV} (r : Row h v n 1 vs) {lo : Option AV} : aslice tab 30 v lo none = aslice tab 30 v lo (some (.int .i64 (n : Int))) := by
  rcases r.2 with ⟨rfl, rfl⟩ | ⟨rfl, rfl⟩ | ⟨o, off, ws, rw, rfl, _⟩
  · simp only [aslice, ty30, ty9]
    rw [upTo_full (b := 0)]
  · simp only [aslice, ty30, ty9]
    rw [upTo_full (b := 0)]
  · simp only [aslice, ty30, ty9]
    rw [upTo_full (b := n)]

theorem filter_erase {l : List Bs} (hn : l.Nodup) {i : Nat} (hi : i < l.length) : l.take i ++ l.drop (i + 1) = l.filter fun s => decide (s ≠ l[i]) := by
  have e : l = l.take i ++ l[i] :: l.drop (i + 1) := by rw [← List.drop_eq_getElem_cons hi, List.take_append_drop]
  have hn2 : (l.take i ++ l[i] :: l.drop (i + 1)).Nodup := e ▸ hn
  rw [List.nodup_append] at hn2
  obtain ⟨_, h2, h3⟩ := hn2
  rw [List.nodup_cons] at h2
  generalize l[i] = x at e h2 h3
  have e2 : l.filter (fun s => decide (s ≠ x)) = (l.take i ++ x :: l.drop (i + 1)).filter (fun s => decide (s ≠ x)) := congrArg _ e
  rw [e2, List.filter_append, List.filter_cons]
  simp only [ne_eq, not_true_eq_false, decide_false, Bool.false_eq_true, if_false]
  congr 1
  · exact (List.filter_eq_self.2 fun y hy => by simpa using h3 y hy x List.mem_cons_self).symm
  · exact (List.filter_eq_self.2 fun y hy => by simp only [decide_eq_true_eq]; exact fun e => h2.1 (e ▸ hy)).symm

section
variable {h0 : AHeap} {S : Nat → Prop} {h : AHeap} {o : Nat} {tb : Tb} {L : Lay} {v : AV} {l : List Bs}

theorem LS.cut (a : LS h0 S h o tb L v l) (hn : l.length < 1000000) {i : Nat} (hi : i < l.length) :
    ∃ x84 h85 x86 x88 x89 h90 x91 h92, abuildSlice tab h 30 0 [] = some (x84, h85) ∧ aslice tab 30 v none (some (.int .i64 (i : Int))) = some x86 ∧ aslice tab 30 v (some (.int .i64 ((i + 1 : Nat) : Int))) none = some x88 ∧ aappend tab h85 30 30 x84 x86 = some (x89, h90) ∧ aappend tab h90 30 30 x89 x88 = some (x91, h92) ∧
      LS h0 S h92 o tb L x91 (l.take i ++ l.drop (i + 1)) := by
  have hvl : (l.map AV.str).length = l.length := by simp
  obtain ⟨x86, s1, r1⟩ := a.row.sub ty30 ty9 rfl (lo := 0) (hi := i) (by omega) (by omega) (k1 := .i64) (k2 := .i64)
  obtain ⟨x88, s2, r2⟩ := a.row.sub ty30 ty9 rfl (lo := i + 1) (hi := l.length) (by omega) (Nat.le_refl _) (k1 := .i64) (k2 := .i64)
  have b1 : abuildSlice tab h 30 0 [] = some (.slice h.next 0 0 1, h.add (.cells [] true)) := rfl
  have w0 := a.wf
  have x1 : Ext h (h.add (.cells [] true)) := (Ext.refl w0).add _
  have o1 : Own h0 (h.add (.cells [] true)) (.slice h.next 0 0 1) 0 1 [] := ⟨rfl, .inr ⟨_, rfl, AHeap.get_add_self _ _, a.ext.new⟩⟩
  have f1 : h.get h.next = none := w0.new
  generalize hh1 : h.add (.cells [] true) = h1 at b1 x1 o1
  have E1 : Ext h0 h1 := a.ext.trans x1
  have hd1 : ∀ j, h0.get j ≠ none → h1.get j ≠ none := fun j hj => by
    cases e : h0.get j with
    | none => exact absurd e hj
    | some y => rw [E1.keep _ _ e]; simp
  have one : ∀ k : List Bs, allOne (k.map AV.str) = true := fun k => by
    induction k with
    | nil => rfl
    | cons s k ih => simpa [allOne, AV.one] using ih
  have r1' : Row h1 x86 i 1 ((l.take i).map AV.str) := by
    have := r1.ext x1
    simpa [List.map_take] using this
  have r2' : Row h1 x88 (l.length - (i + 1)) 1 ((l.drop (i + 1)).map AV.str) := by
    have := r2.ext x1
    have e : ((l.map AV.str).drop ((i + 1) * 1)).take ((l.length - (i + 1)) * 1) = (l.drop (i + 1)).map AV.str := by
      rw [Nat.mul_one, Nat.mul_one, List.take_of_length_le (by simp), List.map_drop]
    rw [e] at this
    exact this
  obtain ⟨x89, h2, q1, q2, q3, q4, q5⟩ := appendRow (T := tab) ty30 ty9 rfl (by decide) (Nat.le_refl _) o1 r1' x1.wf hd1 (one _) (by omega)
  have fresh1 : ∀ j, h.get j ≠ none → ∀ n e, (AV.slice h.next 0 0 1) ≠ .slice j 0 n e := fun j hj n e he => by
    simp only [AV.slice.injEq] at he
    exact hj (he.1 ▸ f1)
  have k2 : ∀ j y, h.get j = some y → h2.get j = some y := fun j y hy => q4 j y (x1.keep _ _ hy) (fresh1 j (by rw [hy]; simp))
  have fresh2 : ∀ j, h.get j ≠ none → ∀ n e, x89 ≠ .slice j 0 n e := fun j hj n e => by
    rcases q5 with ⟨_, e1, _⟩ | q5
    · rw [e1]; exact fresh1 j hj n e
    · refine q5 j ?_ n e
      cases e2 : h.get j with
      | none => exact absurd e2 hj
      | some y => rw [x1.keep _ _ e2]; simp
  have E2 : Ext h0 h2 := q3.ext E1
  have hd2 : ∀ j, h0.get j ≠ none → h2.get j ≠ none := fun j hj => by
    cases e : h0.get j with
    | none => exact absurd e hj
    | some y => rw [E2.keep _ _ e]; simp
  have r2'' : Row h2 x88 (l.length - (i + 1)) 1 ((l.drop (i + 1)).map AV.str) := by
    refine r2'.same fun o' off m e y hv hy => ?_
    -- its object is the old row's
    have hobj : h.get o' ≠ none := r2.there hv
    cases e2 : h.get o' with
    | none => exact absurd e2 hobj
    | some z =>
      have := x1.keep _ _ e2
      rw [this] at hy; cases hy
      exact k2 _ _ e2
  obtain ⟨x91, h3, t1, t2, t3, t4, t5⟩ := appendRow (T := tab) ty30 ty9 rfl (by decide) (Nat.le_refl _) q2 r2'' q3.wf hd2 (one _) (by omega)
  have k3 : ∀ j y, h.get j = some y → h3.get j = some y := fun j y hy => t4 j y (k2 j y hy) (fresh2 j (by rw [hy]; simp))
  have fresh3 : ∀ j, h.get j ≠ none → ∀ n e, x91 ≠ .slice j 0 n e := fun j hj n e => by
    rcases t5 with ⟨_, e1, _⟩ | t5
    · rw [e1]; exact fresh2 j hj n e
    · refine t5 j ?_ n e
      cases e2 : h.get j with
      | none => exact absurd e2 hj
      | some y => rw [k2 _ _ e2]; simp
  refine ⟨_, _, x86, x88, x89, h2, x91, h3, b1, by rw [aslice_lo]; exact s1, by rw [aslice_hi a.row]; exact s2, q1, t1, ?_, a.far, t3.ext E2, ?_, fun j n e hj => fresh3 j (a.tr.there j hj) n e⟩
  · exact a.tr.kept fun j y _ hy => k3 j y hy
  · have e1 : (l.take i ++ l.drop (i + 1)).length = 0 + i + (l.length - (i + 1)) := by simp; omega
    have e2 : (l.take i ++ l.drop (i + 1)).map AV.str = [] ++ (l.take i).map AV.str ++ (l.drop (i + 1)).map AV.str := by simp
    rw [e1, e2]; exact t2
end

/-- An inode in a cell of its own. -/
theorem ino_cell {h : AHeap} (hw : h.WF) (k m n : Int) (d : Bs) : ∃ c h1 h2, newCells h [.int .i64 0, .int .i64 0, .str [], .int .i64 0] (fun o => .ptr o 0) = some (.ptr c 0, h1) ∧ storeA tab h1 35 (.ptr c 0) (.agg [.int .i64 k, .int .i64 m, .str d, .int .i64 n]) = some h2 ∧
    h2.get c = some (.cells [.int .i64 k, .int .i64 m, .str d, .int .i64 n] true) ∧ Ext h h2 := by
  have x1 : Ext h (h.add (.cells [.int .i64 0, .int .i64 0, .str [], .int .i64 0] true)) := (Ext.refl hw).add _
  have g1 : (h.add (.cells [.int .i64 0, .int .i64 0, .str [], .int .i64 0] true)).get h.next = some (.cells [.int .i64 0, .int .i64 0, .str [], .int .i64 0] true) := AHeap.get_add_self _ _
  refine ⟨h.next, _, (h.add (.cells [.int .i64 0, .int .i64 0, .str [], .int .i64 0] true)).put h.next (.cells [.int .i64 k, .int .i64 m, .str d, .int .i64 n] true), rfl, ?_, AHeap.get_put_self _ _ _, x1.put hw.new g1 _⟩
  have t35 : ∃ ty, tab.get 35 = some ty ∧ ty.size = 4 ∧ ty.agg = true := ⟨_, rfl, rfl, rfl⟩
  obtain ⟨ty, t1, t2, t3⟩ := t35
  simp only [storeA, astore, g1, t1, t2, AV.cells]
  rfl
end Go.Am
