/-
  What is built, made, appended, converted: the model's operations give what the abstract machine tells.
-/
import Derived.Test.YtcjjleelhaphkaaGreatDoorB4
import Derived.Laws.Tables
import Derived.Laws.Append
import GoSem.Builtin.Len
set_option linter.unusedVariables false
set_option linter.unusedSimpArgs false
namespace Go.Am
section
variable {P : Program} {T : Tab} (w : World)

theorem splice_inv {vs vs' cs : List AV} {i : Nat} (h : splice vs i cs = some vs') : i + cs.length ≤ vs.length ∧ vs' = vs.take i ++ (cs ++ vs.drop (i + cs.length)) := by
  unfold splice at h
  cases hb : Nat.ble (i + cs.length) vs.length with
  | false => rw [hb] at h; cases h
  | true => rw [hb] at h; cases h; exact ⟨Nat.le_of_ble_eq_true hb, rfl⟩

theorem splice_len {vs vs' cs : List AV} {i : Nat} (h : splice vs i cs = some vs') : vs'.length = vs.length := by
  obtain ⟨h1, h2⟩ := splice_inv h
  subst h2
  simp; omega

theorem splice_get {vs vs' cs : List AV} {i : Nat} (h : splice vs i cs = some vs') (j : Nat) : vs'[j]? = if i ≤ j ∧ j < i + cs.length then cs[j - i]? else vs[j]? := by
  obtain ⟨h1, h2⟩ := splice_inv h
  subst h2
  by_cases c1 : j < i
  · rw [List.getElem?_append_left (by simp; omega), List.getElem?_take_of_lt c1, if_neg (by omega)]
  · rw [List.getElem?_append_right (by simp; omega)]
    have hmin : (vs.take i).length = i := by simp; omega
    rw [hmin]
    by_cases c2 : j - i < cs.length
    · rw [List.getElem?_append_left c2, if_pos (by omega)]
    · rw [List.getElem?_append_right (by omega), List.getElem?_drop, if_neg (by omega)]
      rw [show i + cs.length + (j - i - cs.length) = j from by omega]

theorem splice_sim {β : Inj} {vs vs' cs : List AV} {C : Array Value} {Cs : List Value} {i : Nat} (h : splice vs i cs = some vs') (hv : VRL β vs C.toList) (hc : VRL β cs Cs) :
    VRL β vs' (putCells C i Cs).toList ∧ i + Cs.length ≤ C.size := by
  have hl := hv.length
  have hcl := hc.length
  have hle := (splice_inv h).1
  simp only [Array.length_toList] at hl
  refine ⟨VRL.of_get (by simp [putCells_size, splice_len h, hl]) fun j v hj => ?_, by omega⟩
  rw [splice_get h] at hj
  have hp := putCells_get Cs C i j (by omega)
  rw [hcl] at hp
  by_cases hh : i ≤ j ∧ j < i + cs.length
  · rw [if_pos hh] at hj hp
    obtain ⟨V, r1, r2⟩ := hc.get _ _ hj
    exact ⟨V, by simpa using hp.trans r1, r2⟩
  · rw [if_neg hh] at hj hp
    obtain ⟨V, r1, r2⟩ := hv.get _ _ hj
    exact ⟨V, by simpa using hp.trans (by simpa using r1), r2⟩

theorem fold_put (off : Nat) : ∀ (l : List Value) (k : Nat) (c : Array Value), (l.zipIdx k).foldl (fun cs (x : Value × Nat) => cs.setIfInBounds (off + x.2) x.1) c = putCells c (off + k) l
  | [], _, _ => rfl
  | V :: l, k, c => by
    simp only [List.zipIdx_cons, List.foldl_cons, putCells]
    exact fold_put off l (k + 1) _

theorem fold_put_arr (off : Nat) (A : Array Value) (c : Array Value) : A.zipIdx.foldl (fun cs (x : Value × Nat) => cs.setIfInBounds (off + x.2) x.1) c = putCells c off A.toList := by
  rw [← Array.foldl_toList, Array.toList_zipIdx]
  exact fold_put off A.toList 0 c

/-- Parts as the model has them. -/
def PR (β : Inj) : List (Nat × AV) → List (Nat × Value) → Prop
  | [], Qs => Qs = []
  | p :: ps, Qs => ∃ V Qs', VR β p.2 V ∧ PR β ps Qs' ∧ Qs = (p.1, V) :: Qs'

theorem afill_sim {β : Inj} {place : Nat → Option (Nat × Nat)} : ∀ (ps : List (Nat × AV)) (Ps : List (Nat × Value)) (cells out : List AV) (C : Array Value), afill place cells ps = some out → PR β ps Ps →
    VRL β cells C.toList → ∃ C', Instr.fill place C Ps = some C' ∧ VRL β out C'.toList
  | [], Ps, cells, out, C, h, hp, hc => by
    obtain rfl : Ps = [] := by simpa [PR] using hp
    simp only [afill, Option.some.injEq] at h; subst h
    exact ⟨C, rfl, hc⟩
  | (i, v) :: ps, Ps, cells, out, C, h, hp, hc => by
    obtain ⟨V, Qs', hV, hQ, rfl⟩ := hp
    simp only [afill] at h
    split at h
    · cases h
    · rename_i off size hpl
      cases hb : (Nat.beq v.cells.length size && v.noTup) with
      | false => rw [hb] at h; cases h
      | true =>
        rw [hb] at h
        simp only [cond_true] at h
        simp only [Bool.and_eq_true] at hb
        split at h
        · rename_i cells' hsp
          have hVc := hV.cells hb.2
          have hl := hVc.length
          simp only [Array.length_toList] at hl
          have hsz := Nat.eq_of_beq_eq_true hb.1
          obtain ⟨r1, r2⟩ := splice_sim hsp hc hVc
          simp only [Array.length_toList] at r2
          obtain ⟨C', s1, s2⟩ := afill_sim ps Qs' cells' out _ h hQ r1
          refine ⟨C', ?_, s2⟩
          simp only [Instr.fill, hpl]
          rw [if_neg (by simp; omega)]
          rw [← s1]
          congr 1
          exact fold_put_arr off V.cells C
        · cases h

theorem places_get : ∀ (fs : List (Nat × Nat × Nat)) (l : List Go.Field), l.length = fs.length → (∀ (i : Nat) x, fs[i]? = some x → ∃ f, l[i]? = some f ∧ FieldOK P f x) →
    l.mapM (fun f => (P.info? f.type).map fun i => (f.offset, i.size)) = some (fs.map fun x => (x.1, x.2.1))
  | [], [], _, _ => rfl
  | [], _ :: _, hl, _ => by simp at hl
  | _ :: _, [], hl, _ => by simp at hl
  | x :: fs, f :: l, hl, hf => by
    obtain ⟨f', e0, hfo⟩ := hf 0 _ rfl
    simp at e0; subst e0
    have hrest : ∀ (i : Nat) x, fs[i]? = some x → ∃ f, l[i]? = some f ∧ FieldOK P f x := fun i x hi => by
      have := hf (i + 1) x (by simpa using hi)
      simpa using this
    have ih := places_get fs l (by simpa using hl) hrest
    obtain ⟨i, i1, i2⟩ := hfo.info
    simp [List.mapM_cons, i1, ih, hfo.off, i2]

theorem abuild_sim {β : Inj} (hT : TabOK P T) {t : Nat} {ps : List (Nat × AV)} {Ps : Array (Nat × Value)} {v : AV} (h : abuild T t ps = some v) (hp : PR β ps Ps.toList) :
    ∃ V, (Instr.build t Ps).run P w = .ok V w ∧ VR β v V := by
  unfold abuild at h
  split at h
  · rename_i fs _ _ _ zero hty
    have hok := hT t _ hty
    obtain ⟨fields, u1, u2, u3, _⟩ := hok.desc
    obtain ⟨i, z, i1, _, _, i4, i5⟩ := hok.info
    simp only at i5
    simp only [Option.map_eq_some_iff] at h
    obtain ⟨out, h, rfl⟩ := h
    have hzc := (i5.mono (β' := β) (fun _ _ e => by cases e)).cells hok.notup
    obtain ⟨C', s1, s2⟩ := afill_sim ps Ps.toList _ out _ h hp hzc
    have hpl := places_get (P := P) fs fields.toList (by simpa using u2) (fun i x hi => by simpa using u3 i x hi)
    refine ⟨.agg C', run_build w t Ps C' ?_, by simp only [VR]; exact ⟨C'.toList, s2, by simp⟩⟩
    unfold Program.built
    simp only [i1, u1, i4, hpl]
    rw [← s1]
    congr 1
    funext j
    simp only [fieldAt, List.getElem?_toArray, List.getElem?_map]
    cases fs[j]? with
    | none => rfl
    | some x => obtain ⟨a, b, c⟩ := x; rfl
  · rename_i n e _ _ _ zero hty
    have hok := hT t _ hty
    have hd := hok.desc
    simp only [DescOK] at hd
    obtain ⟨i, z, i1, _, _, i4, i5⟩ := hok.info
    simp only at i5
    split at h
    · rename_i te he
      simp only [Option.map_eq_some_iff] at h
      obtain ⟨out, h, rfl⟩ := h
      have hzc := (i5.mono (β' := β) (fun _ _ e => by cases e)).cells hok.notup
      obtain ⟨C', s1, s2⟩ := afill_sim ps Ps.toList _ out _ h hp hzc
      obtain ⟨ie, ze, e1, e2, _⟩ := (hT e _ he).info
      refine ⟨.agg C', run_build w t Ps C' ?_, by simp only [VR]; exact ⟨C'.toList, s2, by simp⟩⟩
      unfold Program.built
      simp only [i1, hd, i4, e1, e2]
      exact s1
    · cases h
  · cases h
end
end Go.Am
