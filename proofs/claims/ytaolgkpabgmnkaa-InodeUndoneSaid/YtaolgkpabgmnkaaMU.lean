/-
  InodeUndone answers true in the abstract machine, whatever it is handed; so it answers true in the model.
-/
import Derived.Test.YtaolgkpabgmnkaaChecked
import Derived.Test.YtaolgkpabgmnkaaMI

set_option linter.unusedVariables false
set_option linter.unusedSimpArgs false
namespace Go.Am
open Go Go.Proofs Go.RowKit

theorem plain_undone : plainB Try.prog [5, 9, 42, 45] = true := by kernel_rfl

end Go.Am

namespace Go.Proofs.Ytaolgkpabgmnkaa.inodeUndone
open Go.ChangeShapes Go.WideShapes Go.ChangeAt Go.RowKit Go.Am

theorem own : ownKnob Try.prog.godebug = none := by kernel_rfl
theorem laidOut : laidOutB Try.prog = true := by kernel_rfl

set_option maxRecDepth 100000 in
theorem lifted (os : Os) (started : os.Started) (H : Type) (enc : TypeId × Value → H) :
    ReturnsInHanded {} Try.checked os 5 .any (Rows.inodeUndoneSpec.pre6 enc Try.prog Try.f5 Rows.inodeUndoneRow.domain false) (Rows.inodeUndoneSpec.post enc Try.prog Try.f5 false true false false) := by
  refine returnsInHanded_of_change (C := Try.checked) own started (by kernel_rfl) Try.func5
    (ChangeSpec.witness6 (enc := enc) (C := Try.checked) false ⟨#[], #[.slice none 0 0, .int .u8 0, .string ⟨#[]⟩], []⟩ 8 (by kernel_rfl) (by kernel_rfl) (by kernel_rfl) (by kernel_rfl)) ?_
  intro W base args ds gs before hval0 hW hcnd _
  have hval : ∀ (j : Nat) t v, Try.f5.params[j]? = some t → args[j]? = some v → Value.okWide Try.prog W .any base t v := hval0
  have hW' := hW
  obtain ⟨p, q, hA0, hV, rfl, hfz, hnd⟩ := hW
  have hA : DataW.TrodAll enc Try.prog W 0 (fun _ => true) true Try.f5.params.toList args.toList ds p := hA0
  rw [Try.params5] at hA hval
  obtain ⟨rfl, rfl⟩ := trodVars_none hV
  have hA' := hA
  obtain ⟨v0, v1, v2, d0, d1, d2, p0, p1, p2, rfl, rfl, rfl, h0, h1, h2⟩ := trodAll_three hA
  obtain ⟨a0, len0, cap0, rfl⟩ := okWide_slice Try.underlying42 (hval 0 42 v0 rfl rfl)
  obtain ⟨n1, rfl⟩ := okWide_int Try.underlying5 (hval 1 5 v1 rfl rfl)
  obtain ⟨s2, rfl⟩ := okWide_string Try.underlying9 (hval 2 9 v2 rfl rfl)
  simp only [List.append_nil] at hW'
  have hlt : ∀ x ∈ p0 ++ p1 ++ p2, x.block < W.heap.size := fun x hx => by simpa using hW'.lt x hx
  obtain ⟨β, h, xss, hs, _, _, hn, hf⟩ := adopt_all plain_undone (ts := [42, 5, 9]) (fun t ht => by simp only [List.mem_cons, List.not_mem_nil, or_false] at ht ⊢; rcases ht with rfl | rfl | rfl <;> simp) hA' _ _ (start0 W (WR.start W))
  obtain ⟨x0, x1, x2, rfl⟩ : ∃ x0 x1 x2, xss = [x0, x1, x2] := by
    match xss, hn with
    | [x0, x1, x2], _ => exact ⟨x0, x1, x2, rfl⟩
  obtain ⟨r0, _, e0⟩ := hf 0 42 _ d0 x0 rfl rfl rfl rfl
  obtain ⟨r1, _, e1⟩ := hf 1 5 _ d1 x1 rfl rfl rfl rfl
  obtain ⟨r2, _, e2⟩ := hf 2 9 _ d2 x2 rfl rfl rfl rfl
  obtain ⟨y0, A, rfl, hrow0⟩ := drep_fives e0
  obtain ⟨m1, rfl, hm1⟩ := drep_u8n e1
  obtain ⟨t2, rfl, _⟩ := drep_text e2
  have q0 := vr_cell r0 rfl
  have q1 := vr_cell r1 rfl
  have q2 := vr_cell r2 rfl
  obtain ⟨h', hrun⟩ := inodeUndone_walk hs.wr.wf hrow0 hm1 t2 (N := 2000) (by omega)
  have hent : EG (.enter 5) [y0, .int .u8 (m1 : Int), .str t2] h = some (.bool true, h') := run_enter (n := 2000) rfl rfl (by rw [F5_eq]; exact hrun)
  refine (open_walk eg_ok hent hs.wr (VRL.cons q0 (VRL.cons q1 (VRL.cons q2 VRL.nil)))).mono fun e W' ⟨he, hb⟩ => ?_
  subst he
  exact ⟨_, rfl, law_post hW' rfl hb (t := 4) rfl Try.underlying4 (fun sp hsp => by
    rw [Try.params5]
    exact trodAll_stays laidOut hb (by kernel_rfl) hA' hlt (fun x hx => hsp x hx)) (fun sp => rfl)⟩

theorem proved : Rows.InodeUndoneSaid :=
  OpenClaim.holds_of_wide 5 Try.f5 rfl rfl rfl rfl rfl rfl rfl ⟨rfl, rfl, rfl, rfl, rfl⟩ rfl rfl rfl rfl rfl (by kernel_rfl) Try.func5 (by kernel_rfl)
    (of_decide_eq_true (by kernel_rfl)) (by unfold Func.isWrapper; first | (rw [if_pos (by decide +kernel)]; kernel_rfl) | (rw [if_neg (by decide +kernel)]; exact ⟨rfl, rfl⟩))
    (fun os started H enc _ => lifted os started H enc)

end Go.Proofs.Ytaolgkpabgmnkaa.inodeUndone
