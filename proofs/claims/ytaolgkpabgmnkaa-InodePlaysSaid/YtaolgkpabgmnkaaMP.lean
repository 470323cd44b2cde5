/-
  InodePlays answers true in the abstract machine, whatever it is handed; so it answers true in the model.
-/
import Derived.Test.YtaolgkpabgmnkaaChecked
import Derived.Test.YtaolgkpabgmnkaaMK

set_option linter.unusedVariables false
set_option linter.unusedSimpArgs false
namespace Go.Am
open Go Go.Proofs Go.RowKit

theorem plain_plays : plainB Try.prog [3, 9, 26, 53, 60] = true := by kernel_rfl

theorem drep_i64 {H : Type} {h : AHeap} {xs : List AV} {d : DataW H} (a : DRep Try.prog h 3 xs d) : ∃ n : Int, xs = [.int .i64 n] := by
  have u3 : Try.prog.underlying 3 = some (.int .i64) := Try.underlying3
  cases a with
  | int ht2 hw => rw [u3] at ht2; cases ht2; exact ⟨_, rfl⟩
  | bool ht2 => rw [u3] at ht2; cases ht2
  | str ht2 _ => rw [u3] at ht2; cases ht2
  | nil ht2 => rw [u3] at ht2; cases ht2
  | slice ht2 _ _ _ => rw [u3] at ht2; cases ht2
  | struct ht2 _ _ _ => rw [u3] at ht2; cases ht2
  | array ht2 _ _ _ => rw [u3] at ht2; cases ht2

/-- A struct's fields, one by one. -/
theorem drep_fields {H : Type} {h : AHeap} {t : Nat} {xs : List AV} {d : DataW H} {fs : Array Go.Field} (u : Try.prog.underlying t = some (.struct fs)) (a : DRep Try.prog h t xs d) :
    xs.length = Try.prog.cellsOf t ∧ ∀ (i : Nat) (f : Go.Field), fs[i]? = some f → ∃ d', DRep (H := H) Try.prog h f.type ((xs.drop f.offset).take (Try.prog.cellsOf f.type)) d' := by
  cases a with
  | int ht2 hw => rw [u] at ht2; cases ht2
  | bool ht2 => rw [u] at ht2; cases ht2
  | str ht2 _ => rw [u] at ht2; cases ht2
  | nil ht2 => rw [u] at ht2; cases ht2
  | slice ht2 _ _ _ => rw [u] at ht2; cases ht2
  | array ht2 _ _ _ => rw [u] at ht2; cases ht2
  | @struct _ fs' _ parts ht2 hl2 hn2 he2 =>
    rw [u] at ht2; cases ht2
    refine ⟨hl2, fun i f hf => ?_⟩
    have hi := (Array.getElem?_eq_some_iff.1 hf).1
    exact ⟨_, he2 i f _ hf (List.getElem?_eq_getElem (show i < parts.length by omega))⟩

set_option maxRecDepth 100000 in
theorem drep_quota {H : Type} {h : AHeap} {xs : List AV} {d : DataW H} (a : DRep Try.prog h 26 xs d) : ∃ x y : Int, xs = [.int .i64 x, .int .i64 y] := by
  obtain ⟨fs, hfs, ⟨f0, p0, q0, r0⟩, ⟨f1, p1, q1, r1⟩⟩ : ∃ fs, Try.prog.underlying 26 = some (.struct fs) ∧ (∃ f, fs[0]? = some f ∧ f.type = 3 ∧ f.offset = 0) ∧ (∃ f, fs[1]? = some f ∧ f.type = 3 ∧ f.offset = 1) :=
    ⟨_, Try.underlying26, ⟨_, rfl, rfl, rfl⟩, ⟨_, rfl, rfl, rfl⟩⟩
  have c26 : Try.prog.cellsOf 26 = 2 := by kernel_rfl
  have c3 : Try.prog.cellsOf 3 = 1 := by kernel_rfl
  obtain ⟨hl, get⟩ := drep_fields hfs a
  rw [c26] at hl
  obtain ⟨_, e0⟩ := get 0 f0 p0
  obtain ⟨_, e1⟩ := get 1 f1 p1
  rw [q0, r0, c3] at e0
  rw [q1, r1, c3] at e1
  obtain ⟨x, e0⟩ := drep_i64 e0
  obtain ⟨y, e1⟩ := drep_i64 e1
  match xs, hl with
  | [y0, y1], _ =>
    simp at e0 e1
    exact ⟨x, y, by rw [e0, e1]⟩

set_option maxRecDepth 100000 in
theorem drep_act {H : Type} {h : AHeap} {xs : List AV} {d : DataW H} (a : DRep Try.prog h 60 xs d) : ∃ x : A7, xs = c7 x := by
  obtain ⟨fs, hfs, ⟨f0, p0, q0, r0⟩, ⟨f1, p1, q1, r1⟩, ⟨f2, p2, q2, r2⟩, ⟨f3, p3, q3, r3⟩, ⟨f4, p4, q4, r4⟩, ⟨f5, p5, q5, r5⟩, ⟨f6, p6, q6, r6⟩⟩ : ∃ fs, Try.prog.underlying 60 = some (.struct fs) ∧ (∃ f, fs[0]? = some f ∧ f.type = 3 ∧ f.offset = 0) ∧ (∃ f, fs[1]? = some f ∧ f.type = 3 ∧ f.offset = 1) ∧ (∃ f, fs[2]? = some f ∧ f.type = 3 ∧ f.offset = 2) ∧ (∃ f, fs[3]? = some f ∧ f.type = 3 ∧ f.offset = 3) ∧ (∃ f, fs[4]? = some f ∧ f.type = 9 ∧ f.offset = 4) ∧ (∃ f, fs[5]? = some f ∧ f.type = 9 ∧ f.offset = 5) ∧ (∃ f, fs[6]? = some f ∧ f.type = 9 ∧ f.offset = 6) :=
    ⟨_, Try.underlying60, ⟨_, rfl, rfl, rfl⟩, ⟨_, rfl, rfl, rfl⟩, ⟨_, rfl, rfl, rfl⟩, ⟨_, rfl, rfl, rfl⟩, ⟨_, rfl, rfl, rfl⟩, ⟨_, rfl, rfl, rfl⟩, ⟨_, rfl, rfl, rfl⟩⟩
  have c60 : Try.prog.cellsOf 60 = 7 := by kernel_rfl
  have c3 : Try.prog.cellsOf 3 = 1 := by kernel_rfl
  have c9 : Try.prog.cellsOf 9 = 1 := by kernel_rfl
  obtain ⟨hl, get⟩ := drep_fields hfs a
  rw [c60] at hl
  obtain ⟨_, e0⟩ := get 0 f0 p0
  obtain ⟨_, e1⟩ := get 1 f1 p1
  obtain ⟨_, e2⟩ := get 2 f2 p2
  obtain ⟨_, e3⟩ := get 3 f3 p3
  obtain ⟨_, e4⟩ := get 4 f4 p4
  obtain ⟨_, e5⟩ := get 5 f5 p5
  obtain ⟨_, e6⟩ := get 6 f6 p6
  rw [q0, r0, c3] at e0
  rw [q1, r1, c3] at e1
  rw [q2, r2, c3] at e2
  rw [q3, r3, c3] at e3
  rw [q4, r4, c9] at e4
  rw [q5, r5, c9] at e5
  rw [q6, r6, c9] at e6
  obtain ⟨x0, e0⟩ := drep_i64 e0
  obtain ⟨x1, e1⟩ := drep_i64 e1
  obtain ⟨x2, e2⟩ := drep_i64 e2
  obtain ⟨x3, e3⟩ := drep_i64 e3
  obtain ⟨x4, e4, _⟩ := drep_text e4
  obtain ⟨x5, e5, _⟩ := drep_text e5
  obtain ⟨x6, e6, _⟩ := drep_text e6
  match xs, hl with
  | [y0, y1, y2, y3, y4, y5, y6], _ =>
    simp at e0 e1 e2 e3 e4 e5 e6
    exact ⟨⟨x0, x1, x2, x3, x4, x5, x6⟩, by rw [e0, e1, e2, e3, e4, e5, e6]; rfl⟩

theorem drep_acts {H : Type} {h : AHeap} {xs : List AV} {d : DataW H} (a : DRep Try.prog h 53 xs d) : ∃ v, ∃ A : List A7, xs = [v] ∧ ARow h v A := by
  have u53 : Try.prog.underlying 53 = some (.slice 60) := Try.underlying53
  have c60 : Try.prog.cellsOf 60 = 7 := by kernel_rfl
  cases a with
  | bool ht => rw [u53] at ht; cases ht
  | int ht _ => rw [u53] at ht; cases ht
  | str ht _ => rw [u53] at ht; cases ht
  | nil ht => exact ⟨.nilslice, [], rfl, [], ⟨by simp, .inl ⟨rfl, rfl⟩⟩, fun i x hx => by simp at hx⟩
  | struct ht _ _ _ => rw [u53] at ht; cases ht
  | array ht _ _ _ => rw [u53] at ht; cases ht
  | @slice _ e v vs elems spare ht hl hr he =>
    rw [u53] at ht
    cases ht
    rw [c60] at hr he
    have each : ∀ i : Fin elems.length, ∃ x : A7, (vs.drop (i.val * 7)).take 7 = c7 x := fun i => drep_act (he i.val _ (List.getElem?_eq_getElem i.isLt))
    refine ⟨v, (List.finRange elems.length).map fun i => Classical.choose (each i), rfl, vs, by simpa using hr, fun i x hx => ?_⟩
    have hi : i < elems.length := by
      have := (List.getElem?_eq_some_iff.1 hx).1
      simpa using this
    have : x = Classical.choose (each ⟨i, hi⟩) := by
      have := (List.getElem?_eq_some_iff.1 hx).2
      simpa using this.symm
    rw [this]
    exact Classical.choose_spec (each ⟨i, hi⟩)

theorem vr_agg {β : Inj} {xs : List AV} {cs : Array Value} (h : VRL β xs (Value.agg cs).cells.toList) : VR β (.agg xs) (.agg cs) :=
  ⟨cs.toList, h, by simp⟩

end Go.Am

namespace Go.Proofs.Ytaolgkpabgmnkaa.inodePlays
open Go.ChangeShapes Go.WideShapes Go.ChangeAt Go.RowKit Go.Am

theorem own : ownKnob Try.prog.godebug = none := by kernel_rfl
theorem laidOut : laidOutB Try.prog = true := by kernel_rfl

set_option maxRecDepth 100000 in
theorem lifted (os : Os) (started : os.Started) (H : Type) (enc : TypeId × Value → H) :
    ReturnsInHanded {} Try.checked os 6 .any (Rows.inodePlaysSpec.pre6 enc Try.prog Try.f6 Rows.inodePlaysRow.domain false) (Rows.inodePlaysSpec.post enc Try.prog Try.f6 false true false false) := by
  refine returnsInHanded_of_change (C := Try.checked) own started (by kernel_rfl) Try.func6
    (ChangeSpec.witness6 (enc := enc) (C := Try.checked) false ⟨#[], #[.agg #[.int .i64 0, .int .i64 0], .slice none 0 0], []⟩ 8 (by kernel_rfl) (by kernel_rfl) (by kernel_rfl) (by kernel_rfl)) ?_
  intro W base args ds gs before hval0 hW hcnd _
  have hval : ∀ (j : Nat) t v, Try.f6.params[j]? = some t → args[j]? = some v → Value.okWide Try.prog W .any base t v := hval0
  have hW' := hW
  obtain ⟨p, q, hA0, hV, rfl, hfz, hnd⟩ := hW
  have hA : DataW.TrodAll enc Try.prog W 0 (fun _ => true) true Try.f6.params.toList args.toList ds p := hA0
  rw [Try.params6] at hA hval
  obtain ⟨rfl, rfl⟩ := trodVars_none hV
  have hA' := hA
  obtain ⟨v0, v1, d0, d1, p0, p1, rfl, rfl, rfl, h0, h1⟩ := trodAll_two hA
  obtain ⟨cs0, rfl, _⟩ := okWide_struct Try.underlying26 (hval 0 26 v0 rfl rfl)
  obtain ⟨a1, len1, cap1, rfl⟩ := okWide_slice Try.underlying53 (hval 1 53 v1 rfl rfl)
  simp only [List.append_nil] at hW'
  have hlt : ∀ x ∈ p0 ++ p1, x.block < W.heap.size := fun x hx => by simpa using hW'.lt x hx
  obtain ⟨β, h, xss, hs, _, _, hn, hf⟩ := adopt_all plain_plays (ts := [26, 53]) (fun t ht => by simp only [List.mem_cons, List.not_mem_nil, or_false] at ht ⊢; rcases ht with rfl | rfl <;> simp) hA' _ _ (start0 W (WR.start W))
  obtain ⟨x0, x1, rfl⟩ : ∃ x0 x1, xss = [x0, x1] := by
    match xss, hn with
    | [x0, x1], _ => exact ⟨x0, x1, rfl⟩
  obtain ⟨r0, _, e0⟩ := hf 0 26 _ d0 x0 rfl rfl rfl rfl
  obtain ⟨r1, _, e1⟩ := hf 1 53 _ d1 x1 rfl rfl rfl rfl
  obtain ⟨qi, qb, rfl⟩ := drep_quota e0
  obtain ⟨y1, A, rfl, hrow1⟩ := drep_acts e1
  have q0 := vr_agg r0
  have q1 := vr_cell r1 rfl
  obtain ⟨h', hrun⟩ := inodePlays_walk hs.wr.wf qi qb hrow1 (N := 2000) (by omega)
  have hent : EG (.enter 6) [.agg [.int .i64 qi, .int .i64 qb], y1] h = some (.bool true, h') := run_enter (n := 2000) rfl rfl (by rw [F6_eq]; exact hrun)
  refine (open_walk eg_ok hent hs.wr (VRL.cons q0 (VRL.cons q1 VRL.nil))).mono fun e W' ⟨he, hb⟩ => ?_
  subst he
  exact ⟨_, rfl, law_post hW' rfl hb (t := 4) rfl Try.underlying4 (fun sp hsp => by
    rw [Try.params6]
    exact trodAll_stays laidOut hb (by kernel_rfl) hA' hlt (fun x hx => hsp x hx)) (fun sp => rfl)⟩

theorem proved : Rows.InodePlaysSaid :=
  OpenClaim.holds_of_wide 6 Try.f6 rfl rfl rfl rfl rfl rfl rfl ⟨rfl, rfl, rfl, rfl, rfl⟩ rfl rfl rfl rfl rfl (by kernel_rfl) Try.func6 (by kernel_rfl)
    (of_decide_eq_true (by kernel_rfl)) (by unfold Func.isWrapper; first | (rw [if_pos (by decide +kernel)]; kernel_rfl) | (rw [if_neg (by decide +kernel)]; exact ⟨rfl, rfl⟩))
    (fun os started H enc _ => lifted os started H enc)

end Go.Proofs.Ytaolgkpabgmnkaa.inodePlays
