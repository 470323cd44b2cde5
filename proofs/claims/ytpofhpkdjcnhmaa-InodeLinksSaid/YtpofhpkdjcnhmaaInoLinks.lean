/-
  InodeLinks answers true in the abstract machine, whatever it is handed; so it answers true in the model.
-/
import Derived.Test.YtpofhpkdjcnhmaaU5
import Derived.Test.YtpofhpkdjcnhmaaQ2
import Derived.Test.YtpofhpkdjcnhmaaChecked
set_option linter.unusedVariables false
set_option linter.unusedSimpArgs false
namespace Go.Am
open Go Go.Proofs Go.RowKit

theorem u8_range {n : Int} (h : (Lit.int .u8 n).wf = true) : 0 ≤ n ∧ n ≤ 255 := by
  simp only [Lit.wf, Bool.and_eq_true, decide_eq_true_eq] at h
  exact h

theorem drep_u8 {H : Type} {h : AHeap} {xs : List AV} {d : DataW H} (a : DRep Try.prog h 5 xs d) : ∃ n, xs = [.int .u8 n] ∧ 0 ≤ n ∧ n ≤ 255 := by
  have u5 : Try.prog.underlying 5 = some (.int .u8) := Try.underlying5
  cases a with
  | int ht2 hw => rw [u5] at ht2; cases ht2; exact ⟨_, rfl, u8_range hw⟩
  | bool ht2 => rw [u5] at ht2; cases ht2
  | str ht2 _ => rw [u5] at ht2; cases ht2
  | nil ht2 => rw [u5] at ht2; cases ht2
  | slice ht2 _ _ _ => rw [u5] at ht2; cases ht2
  | struct ht2 _ _ _ => rw [u5] at ht2; cases ht2
  | array ht2 _ _ _ => rw [u5] at ht2; cases ht2

theorem drep_text {H : Type} {h : AHeap} {xs : List AV} {d : DataW H} (a : DRep Try.prog h 9 xs d) : ∃ s, xs = [.str s] ∧ s.length ≤ maxLen := by
  have u9 : Try.prog.underlying 9 = some .string := Try.underlying9
  cases a with
  | int ht2 hw => rw [u9] at ht2; cases ht2
  | bool ht2 => rw [u9] at ht2; cases ht2
  | str ht2 hl => exact ⟨_, rfl, hl⟩
  | nil ht2 => rw [u9] at ht2; cases ht2
  | slice ht2 _ _ _ => rw [u9] at ht2; cases ht2
  | struct ht2 _ _ _ => rw [u9] at ht2; cases ht2
  | array ht2 _ _ _ => rw [u9] at ht2; cases ht2

/-- A row of bytes, out of what is read. -/
theorem drep_u8s {H : Type} {h : AHeap} {xs : List AV} {d : DataW H} (a : DRep Try.prog h 22 xs d) : ∃ v, ∃ al : List Int, xs = [v] ∧ Row h v al.length 1 (al.map (AV.int .u8)) ∧ ∀ x ∈ al, 0 ≤ x ∧ x ≤ 255 := by
  have u22 : Try.prog.underlying 22 = some (.slice 5) := Try.underlying22
  have u5 : Try.prog.underlying 5 = some (.int .u8) := Try.underlying5
  have c5 : Try.prog.cellsOf 5 = 1 := by kernel_rfl
  cases a with
  | bool ht => rw [u22] at ht; cases ht
  | int ht _ => rw [u22] at ht; cases ht
  | str ht _ => rw [u22] at ht; cases ht
  | nil ht => exact ⟨.nilslice, [], rfl, ⟨by simp, .inl ⟨rfl, rfl⟩⟩, fun x hx => by cases hx⟩
  | struct ht _ _ _ => rw [u22] at ht; cases ht
  | array ht _ _ _ => rw [u22] at ht; cases ht
  | @slice _ e v vs elems spare ht hl hr he =>
    rw [u22] at ht
    cases ht
    rw [c5] at hr he
    have hvl := hr.1
    let num : AV → Int := fun x => match x with | .int _ n => n | _ => 0
    have each : ∀ (i : Nat) x, vs[i]? = some x → ∃ n, x = .int .u8 n ∧ 0 ≤ n ∧ n ≤ 255 := fun i x hi => by
      have hlt : i < vs.length := (List.getElem?_eq_some_iff.1 hi).1
      have hle : i < elems.length := by omega
      have hd := he i _ (List.getElem?_eq_getElem hle)
      have hx : (vs.drop (i * 1)).take 1 = [x] := by
        rw [Nat.mul_one, List.drop_eq_getElem_cons hlt]
        have := (List.getElem?_eq_some_iff.1 hi).2
        simp [this]
      rw [hx] at hd
      obtain ⟨n, hn, h1⟩ := drep_u8 hd
      simp at hn
      exact ⟨n, hn, h1⟩
    refine ⟨v, vs.map num, rfl, ?_, fun x hx => ?_⟩
    · have hvs : (vs.map num).map (AV.int .u8) = vs := by
        apply List.ext_getElem?
        intro i
        rw [List.getElem?_map, List.getElem?_map]
        cases hi : vs[i]? with
        | none => rfl
        | some x =>
          obtain ⟨n, rfl, _⟩ := each i x hi
          rfl
      have hvl' : (vs.map num).length = elems.length := by simp; omega
      rw [hvs, hvl']; exact hr
    · obtain ⟨y, hy, rfl⟩ := List.mem_map.1 hx
      obtain ⟨i, hi, e⟩ := List.getElem_of_mem hy
      obtain ⟨n, e1, h1⟩ := each i y (by rw [← e]; exact List.getElem?_eq_getElem hi)
      rw [e1]; exact h1

/-- A value of one cell stands as its cell does. -/
theorem vr_cell {β : Inj} {v : AV} {V : Value} (h : VRL β [v] V.cells.toList) (hV : V.cells = #[V]) : VR β v V := by
  rw [hV] at h
  obtain ⟨X, Xs, h1, _, h3⟩ := h.cons_inv
  simp at h3
  obtain ⟨rfl, _⟩ := h3
  exact h1

theorem plain_links : plainB Try.prog [5, 9, 22] = true := by kernel_rfl

end Go.Am

namespace Go.Proofs.Ytpofhpkdjcnhmaa.inodeLinks
open Go.ChangeShapes Go.WideShapes Go.ChangeAt Go.RowKit Go.Am

theorem own : ownKnob Try.prog.godebug = none := by kernel_rfl
theorem laidOut : laidOutB Try.prog = true := by kernel_rfl

set_option maxRecDepth 100000 in
theorem lifted (os : Os) (started : os.Started) (H : Type) (enc : TypeId × Value → H) :
    ReturnsInHanded {} Try.checked os 3 .any (Rows.inodeLinksSpec.pre6 enc Try.prog Try.f3 Rows.inodeLinksRow.domain false) (Rows.inodeLinksSpec.post enc Try.prog Try.f3 false true false false) := by
  refine returnsInHanded_of_change (C := Try.checked) own started (by kernel_rfl) Try.func3
    (ChangeSpec.witness6 (enc := enc) (C := Try.checked) false ⟨#[], #[.int .u8 0, .string ⟨#[]⟩, .slice none 0 0], []⟩ 8 (by kernel_rfl) (by kernel_rfl) (by kernel_rfl) (by kernel_rfl)) ?_
  intro W base args ds gs before hval0 hW hcnd _
  have hval : ∀ (j : Nat) t v, Try.f3.params[j]? = some t → args[j]? = some v → Value.okWide Try.prog W .any base t v := hval0
  have hW' := hW
  obtain ⟨p, q, hA0, hV, rfl, hfz, hnd⟩ := hW
  have hA : DataW.TrodAll enc Try.prog W 0 (fun _ => true) true Try.f3.params.toList args.toList ds p := hA0
  rw [Try.params3] at hA hval
  obtain ⟨rfl, rfl⟩ := trodVars_none hV
  have hA' := hA
  obtain ⟨v0, v1, v2, d0, d1, d2, p0, p1, p2, rfl, rfl, rfl, h0, h1, h2⟩ := trodAll_three hA
  obtain ⟨n0, rfl⟩ := okWide_int Try.underlying5 (hval 0 5 v0 rfl rfl)
  obtain ⟨s1, rfl⟩ := okWide_string Try.underlying9 (hval 1 9 v1 rfl rfl)
  obtain ⟨a2, len2, cap2, rfl⟩ := okWide_slice Try.underlying22 (hval 2 22 v2 rfl rfl)
  simp only [List.append_nil] at hW'
  have hlt : ∀ x ∈ p0 ++ p1 ++ p2, x.block < W.heap.size := fun x hx => by simpa using hW'.lt x hx
  obtain ⟨β, h, xss, hs, _, _, hn, hf⟩ := adopt_all plain_links (ts := [5, 9, 22]) (fun t ht => by first | simpa using ht | (simp at ht ⊢; exact .inl ht)) hA' _ _ (start0 W (WR.start W))
  obtain ⟨x0, x1, x2, rfl⟩ : ∃ x0 x1 x2, xss = [x0, x1, x2] := by
    match xss, hn with
    | [x0, x1, x2], _ => exact ⟨x0, x1, x2, rfl⟩
  obtain ⟨r0, _, e0⟩ := hf 0 5 _ d0 x0 rfl rfl rfl rfl
  obtain ⟨r1, _, e1⟩ := hf 1 9 _ d1 x1 rfl rfl rfl rfl
  obtain ⟨r2, _, e2⟩ := hf 2 22 _ d2 x2 rfl rfl rfl rfl
  obtain ⟨m0, rfl, hm0⟩ := drep_u8 e0
  obtain ⟨t1, rfl, _⟩ := drep_text e1
  obtain ⟨y2, al2, rfl, hrow2, hal2⟩ := drep_u8s e2
  have q0 := vr_cell r0 rfl
  have q1 := vr_cell r1 rfl
  have q2 := vr_cell r2 rfl
  obtain ⟨h', hrun⟩ := inodeLinks_walk hs.wr.wf hm0 t1 hal2 hrow2 (N := 2000) (by omega)
  have hent : EG (.enter 3) [.int .u8 m0, .str t1, y2] h = some (.bool true, h') := run_enter (n := 2000) rfl rfl (by rw [F3_eq]; exact hrun)
  refine (open_walk eg_ok hent hs.wr (VRL.cons q0 (VRL.cons q1 (VRL.cons q2 VRL.nil)))).mono fun e W' ⟨he, hb⟩ => ?_
  subst he
  exact ⟨_, rfl, law_post hW' rfl hb (t := 4) rfl Try.underlying4 (fun sp hsp => by
    rw [Try.params3]
    exact trodAll_stays laidOut hb (by kernel_rfl) hA' hlt (fun x hx => hsp x hx)) (fun sp => rfl)⟩

theorem proved : Rows.InodeLinksSaid :=
  OpenClaim.holds_of_wide 3 Try.f3 rfl rfl rfl rfl rfl rfl rfl ⟨rfl, rfl, rfl, rfl, rfl⟩ rfl rfl rfl rfl rfl (by kernel_rfl) Try.func3 (by kernel_rfl)
    (of_decide_eq_true (by kernel_rfl)) (by unfold Func.isWrapper; first | (rw [if_pos (by decide +kernel)]; kernel_rfl) | (rw [if_neg (by decide +kernel)]; exact ⟨rfl, rfl⟩))
    (fun os started H enc _ => lifted os started H enc)

end Go.Proofs.Ytpofhpkdjcnhmaa.inodeLinks
