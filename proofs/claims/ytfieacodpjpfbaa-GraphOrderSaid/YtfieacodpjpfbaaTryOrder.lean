/-
  GraphOrder answers true in the abstract machine, whatever it is handed; so it answers true in the model.
-/
import Derived.Test.YtfieacodpjpfbaaG10
import Derived.Test.YtfieacodpjpfbaaTryLive
set_option linter.unusedVariables false
set_option linter.unusedSimpArgs false
namespace Go.Proofs.Ytfieacodpjpfbaa.graphOrder
open Go.ChangeShapes Go.WideShapes Go.ChangeAt Go.RowKit Go.Am

theorem own : ownKnob Try.prog.godebug = none := by kernel_rfl
theorem laidOut : laidOutB Try.prog = true := by kernel_rfl

set_option maxRecDepth 100000 in
theorem lifted (os : Os) (started : os.Started) (H : Type) (enc : TypeId × Value → H) :
    ReturnsInHanded {} Try.checked os 6 .any (Rows.graphOrderSpec.pre6 enc Try.prog Try.f6 Rows.graphOrderRow.domain false) (Rows.graphOrderSpec.post enc Try.prog Try.f6 false true false false) := by
  refine returnsInHanded_of_change (C := Try.checked) own started (by kernel_rfl) Try.func6
    (ChangeSpec.witness6 (enc := enc) (C := Try.checked) false ⟨#[], #[.slice none 0 0], []⟩ 8 (by kernel_rfl) (by kernel_rfl) (by kernel_rfl) (by kernel_rfl)) ?_
  intro W base args ds gs before hval0 hW hcnd _
  have hval : ∀ (j : Nat) t v, Try.f6.params[j]? = some t → args[j]? = some v → Value.okWide Try.prog W .any base t v := hval0
  have hW' := hW
  obtain ⟨p, q, hA0, hV, rfl, hfz, hnd⟩ := hW
  have hA : DataW.TrodAll enc Try.prog W 0 (fun _ => true) true Try.f6.params.toList args.toList ds p := hA0
  rw [Try.params6] at hA hval
  obtain ⟨rfl, rfl⟩ := trodVars_none hV
  have hA' := hA
  obtain ⟨v0, d0, rfl, rfl, h0⟩ := trodAll_one hA
  obtain ⟨a0, len0, cap0, rfl⟩ := okWide_slice Try.underlying22 (hval 0 22 v0 rfl rfl)
  simp only [List.append_nil] at hW'
  have hlt : ∀ x ∈ p, x.block < W.heap.size := fun x hx => by simpa using hW'.lt x hx
  obtain ⟨β, h, xss, hs, _, _, hn, hf⟩ := adopt_all plain_u16 (ts := [22]) (fun t ht => by first | simpa using ht | (simp at ht ⊢; exact .inl ht)) hA' _ _ (start0 W (WR.start W))
  obtain ⟨x0, rfl⟩ : ∃ x0, xss = [x0] := by
    match xss, hn with
    | [x0], _ => exact ⟨x0, rfl⟩
  obtain ⟨r0, _, e0⟩ := hf 0 22 _ d0 x0 rfl rfl rfl rfl
  obtain ⟨y0, al0, rfl, hrow0⟩ := drep_u16s e0
  have q0 := vr_cell r0 rfl
  obtain ⟨h', hrun⟩ := graphOrder_walk hs.wr.wf hrow0 (N := 2000) (Nat.le_refl _)
  have hent : EG (.enter 6) [y0] h = some (.bool true, h') := run_enter (n := 2000) rfl rfl (by rw [F6_eq]; exact hrun)
  refine (open_walk eg_ok hent hs.wr (VRL.cons q0 VRL.nil)).mono fun e W' ⟨he, hb⟩ => ?_
  subst he
  exact ⟨_, rfl, law_post hW' rfl hb (t := 4) rfl Try.underlying4 (fun sp hsp => by
    rw [Try.params6]
    exact trodAll_stays laidOut hb (by kernel_rfl) hA' hlt (fun x hx => hsp x hx)) (fun sp => rfl)⟩

theorem proved : Rows.GraphOrderSaid :=
  OpenClaim.holds_of_wide 6 Try.f6 rfl rfl rfl rfl rfl rfl rfl ⟨rfl, rfl, rfl, rfl, rfl⟩ rfl rfl rfl rfl rfl (by kernel_rfl) Try.func6 (by kernel_rfl)
    (of_decide_eq_true (by kernel_rfl)) (by unfold Func.isWrapper; first | (rw [if_pos (by decide +kernel)]; kernel_rfl) | (rw [if_neg (by decide +kernel)]; exact ⟨rfl, rfl⟩))
    (fun os started H enc _ => lifted os started H enc)

end Go.Proofs.Ytfieacodpjpfbaa.graphOrder
