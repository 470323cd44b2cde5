/-
  GraphLive: what is reached, and what is dead, are together all, for any paths and roots; so it answers true in the model.
-/
import Derived.Test.YtfieacodpjpfbaaG6
import Derived.Test.YtfieacodpjpfbaaQ2
import Derived.Test.YtfieacodpjpfbaaChecked
set_option linter.unusedVariables false
set_option linter.unusedSimpArgs false
namespace Go.Am
open Go Go.Proofs Go.RowKit

/-- A row of numbers, out of what is read. -/
theorem drep_u16s {H : Type} {h : AHeap} {xs : List AV} {d : DataW H} (a : DRep Try.prog h 22 xs d) : ∃ v, ∃ al : List Int, xs = [v] ∧ Row h v al.length 1 (al.map (AV.int .u16)) := by
  have u22 : Try.prog.underlying 22 = some (.slice 23) := rfl
  have u23 : Try.prog.underlying 23 = some (.int .u16) := rfl
  have c23 : Try.prog.cellsOf 23 = 1 := rfl
  cases a with
  | bool ht => rw [u22] at ht; cases ht
  | int ht _ => rw [u22] at ht; cases ht
  | str ht _ => rw [u22] at ht; cases ht
  | nil ht => exact ⟨.nilslice, [], rfl, ⟨by simp, .inl ⟨rfl, rfl⟩⟩⟩
  | struct ht _ _ _ => rw [u22] at ht; cases ht
  | array ht _ _ _ => rw [u22] at ht; cases ht
  | @slice _ e v vs elems spare ht hl hr he =>
    rw [u22] at ht
    cases ht
    rw [c23] at hr he
    have hvl := hr.1
    let num : AV → Int := fun x => match x with | .int _ n => n | _ => 0
    refine ⟨v, vs.map num, rfl, ?_⟩
    have hvs : (vs.map num).map (AV.int .u16) = vs := by
      apply List.ext_getElem?
      intro i
      rw [List.getElem?_map, List.getElem?_map]
      cases hi : vs[i]? with
      | none => rfl
      | some x =>
        have hlt : i < vs.length := (List.getElem?_eq_some_iff.1 hi).1
        have hle : i < elems.length := by omega
        have hd := he i _ (List.getElem?_eq_getElem hle)
        have hx : (vs.drop (i * 1)).take 1 = [x] := by
          rw [Nat.mul_one, List.drop_eq_getElem_cons hlt]
          have := (List.getElem?_eq_some_iff.1 hi).2
          simp [this]
        rw [hx] at hd
        generalize elems[i] = dd at hd
        cases hd with
        | int ht2 _ => rw [u23] at ht2; cases ht2; rfl
        | bool ht2 => rw [u23] at ht2; cases ht2
        | str ht2 _ => rw [u23] at ht2; cases ht2
        | nil ht2 => rw [u23] at ht2; cases ht2
        | slice ht2 _ _ _ => rw [u23] at ht2; cases ht2
        | struct ht2 _ _ _ => rw [u23] at ht2; cases ht2
        | array ht2 _ _ _ => rw [u23] at ht2; cases ht2
    have hvl' : (vs.map num).length = elems.length := by simp; omega
    rw [hvs, hvl']; exact hr

theorem drep_u16 {H : Type} {h : AHeap} {xs : List AV} {d : DataW H} (a : DRep Try.prog h 23 xs d) : ∃ n, xs = [.int .u16 n] := by
  have u23 : Try.prog.underlying 23 = some (.int .u16) := rfl
  cases a with
  | int ht2 _ => rw [u23] at ht2; cases ht2; exact ⟨_, rfl⟩
  | bool ht2 => rw [u23] at ht2; cases ht2
  | str ht2 _ => rw [u23] at ht2; cases ht2
  | nil ht2 => rw [u23] at ht2; cases ht2
  | slice ht2 _ _ _ => rw [u23] at ht2; cases ht2
  | struct ht2 _ _ _ => rw [u23] at ht2; cases ht2
  | array ht2 _ _ _ => rw [u23] at ht2; cases ht2

theorem plain_u16 : plainB Try.prog [22, 23] = true := by kernel_rfl

/-- A value of one cell stands as its cell does. -/
theorem vr_cell {β : Inj} {v : AV} {V : Value} (h : VRL β [v] V.cells.toList) (hV : V.cells = #[V]) : VR β v V := by
  rw [hV] at h
  obtain ⟨X, Xs, h1, _, h3⟩ := h.cons_inv
  simp at h3
  obtain ⟨rfl, _⟩ := h3
  exact h1

end Go.Am

namespace Go.Proofs.Ytfieacodpjpfbaa.graphLive
open Go.ChangeShapes Go.WideShapes Go.ChangeAt Go.RowKit Go.Am

theorem own : ownKnob Try.prog.godebug = none := by kernel_rfl
theorem laidOut : laidOutB Try.prog = true := by kernel_rfl

set_option maxRecDepth 100000 in
theorem lifted (os : Os) (started : os.Started) (H : Type) (enc : TypeId × Value → H) :
    ReturnsInHanded {} Try.checked os 3 .any (Rows.graphLiveSpec.pre6 enc Try.prog Try.f3 Rows.graphLiveRow.domain false) (Rows.graphLiveSpec.post enc Try.prog Try.f3 false true false false) := by
  refine returnsInHanded_of_change (C := Try.checked) own started (by kernel_rfl) Try.func3
    (ChangeSpec.witness6 (enc := enc) (C := Try.checked) false ⟨#[], #[.slice none 0 0, .int .u16 0], []⟩ 8 (by kernel_rfl) (by kernel_rfl) (by kernel_rfl) (by kernel_rfl)) ?_
  intro W base args ds gs before hval0 hW hcnd _
  have hval : ∀ (j : Nat) t v, Try.f3.params[j]? = some t → args[j]? = some v → Value.okWide Try.prog W .any base t v := hval0
  have hW' := hW
  obtain ⟨p, q, hA0, hV, rfl, hfz, hnd⟩ := hW
  have hA : DataW.TrodAll enc Try.prog W 0 (fun _ => true) true Try.f3.params.toList args.toList ds p := hA0
  rw [Try.params3] at hA hval
  obtain ⟨rfl, rfl⟩ := trodVars_none hV
  have hA' := hA
  obtain ⟨v0, v1, d0, d1, p0, p1, rfl, rfl, rfl, h0, h1⟩ := trodAll_two hA
  obtain ⟨a0, len, cap, rfl⟩ := okWide_slice Try.underlying22 (hval 0 22 v0 rfl rfl)
  obtain ⟨n1, rfl⟩ := okWide_int Try.underlying23 (hval 1 23 v1 rfl rfl)
  simp only [List.append_nil] at hW'
  have hlt : ∀ x ∈ p0 ++ p1, x.block < W.heap.size := fun x hx => by simpa using hW'.lt x hx
  obtain ⟨β, h, xss, hs, _, _, hn, hf⟩ := adopt_all plain_u16 (ts := [22, 23]) (fun t ht => by simpa using ht) hA' _ _ (start0 W (WR.start W))
  obtain ⟨x0, x1, rfl⟩ : ∃ x0 x1, xss = [x0, x1] := by
    match xss, hn with
    | [x0, x1], _ => exact ⟨x0, x1, rfl⟩
  obtain ⟨r0, _, e0⟩ := hf 0 22 _ d0 x0 rfl rfl rfl rfl
  obtain ⟨r1, _, e1⟩ := hf 1 23 _ d1 x1 rfl rfl rfl rfl
  obtain ⟨v, al, rfl, hrow⟩ := drep_u16s e0
  obtain ⟨n, rfl⟩ := drep_u16 e1
  have q0 := vr_cell r0 rfl
  have q1 := vr_cell r1 rfl
  obtain ⟨h', hrun⟩ := graphLive_walk hs.wr.wf hrow n (N := 2000) (Nat.le_refl _)
  have hent : EG (.enter 3) [v, .int .u16 n] h = some (.bool true, h') := run_enter (n := 2000) rfl rfl (by rw [F3_eq]; exact hrun)
  refine (open_walk eg_ok hent hs.wr (VRL.cons q0 (VRL.cons q1 VRL.nil))).mono fun e W' ⟨he, hb⟩ => ?_
  subst he
  exact ⟨_, rfl, law_post hW' rfl hb (t := 4) rfl Try.underlying4 (fun sp hsp => by
    rw [Try.params3]
    exact trodAll_stays laidOut hb (by kernel_rfl) hA' hlt (fun x hx => hsp x hx)) (fun sp => rfl)⟩

theorem proved : Rows.GraphLiveSaid :=
  OpenClaim.holds_of_wide 3 Try.f3 rfl rfl rfl rfl rfl rfl rfl ⟨rfl, rfl, rfl, rfl, rfl⟩ rfl rfl rfl rfl rfl (by kernel_rfl) Try.func3 (by kernel_rfl)
    (of_decide_eq_true (by kernel_rfl)) (by unfold Func.isWrapper; first | (rw [if_pos (by decide +kernel)]; kernel_rfl) | (rw [if_neg (by decide +kernel)]; exact ⟨rfl, rfl⟩))
    (fun os started H enc _ => lifted os started H enc)

end Go.Proofs.Ytfieacodpjpfbaa.graphLive
