/-
  InodeSound answers true in the abstract machine, whatever it is handed; so it answers true in the model.
-/
import Derived.Test.YtaolgkpabgmnkaaChecked
import Derived.Test.YtaolgkpabgmnkaaMJ

set_option linter.unusedVariables false
set_option linter.unusedSimpArgs false
namespace Go.Am
open Go Go.Proofs Go.RowKit

theorem plain_sound : plainB Try.prog [5, 42, 43, 45] = true := by kernel_rfl

theorem drep_two {H : Type} {h : AHeap} {xs : List AV} {d : DataW H} (a : DRep Try.prog h 43 xs d) : ∃ n0 n1 : Nat, xs = [.int .u8 (n0 : Int), .int .u8 (n1 : Int)] ∧ n0 ≤ 255 ∧ n1 ≤ 255 := by
  have u43 : Try.prog.underlying 43 = some (.array 2 5) := Try.underlying43
  have c43 : Try.prog.cellsOf 43 = 2 := by kernel_rfl
  have c5 : Try.prog.cellsOf 5 = 1 := by kernel_rfl
  cases a with
  | bool ht => rw [u43] at ht; cases ht
  | int ht _ => rw [u43] at ht; cases ht
  | str ht _ => rw [u43] at ht; cases ht
  | nil ht => rw [u43] at ht; cases ht
  | slice ht _ _ _ => rw [u43] at ht; cases ht
  | struct ht _ _ _ => rw [u43] at ht; cases ht
  | @array _ n e xs parts ht hl hn he =>
    rw [u43] at ht
    cases ht
    rw [c43] at hl
    rw [c5] at he
    match xs, hl with
    | [y0, y1], _ =>
      match parts, hn with
      | [p0, p1], _ =>
        obtain ⟨n0, e0, q0⟩ := drep_u8n (he 0 p0 rfl)
        obtain ⟨n1, e1, q1⟩ := drep_u8n (he 1 p1 rfl)
        simp at e0 e1
        exact ⟨n0, n1, by rw [e0, e1], q0, q1⟩

set_option maxRecDepth 100000 in
theorem okWide_two {W : World} {base : Nat} {v : Value} (h : Value.okWide Try.prog W .any base 43 v) : ∃ cs : Array Value, v = .agg cs := by
  simp only [Value.okWide, Try.underlying43] at h
  obtain ⟨cs, h1, _⟩ := h
  exact ⟨cs, h1⟩

theorem vr_agg {β : Inj} {xs : List AV} {cs : Array Value} (h : VRL β xs (Value.agg cs).cells.toList) : VR β (.agg xs) (.agg cs) :=
  ⟨cs.toList, h, by simp⟩

end Go.Am

namespace Go.Proofs.Ytaolgkpabgmnkaa.inodeSound
open Go.ChangeShapes Go.WideShapes Go.ChangeAt Go.RowKit Go.Am

theorem own : ownKnob Try.prog.godebug = none := by kernel_rfl
theorem laidOut : laidOutB Try.prog = true := by kernel_rfl

set_option maxRecDepth 100000 in
theorem lifted (os : Os) (started : os.Started) (H : Type) (enc : TypeId × Value → H) :
    ReturnsInHanded {} Try.checked os 4 .any (Rows.inodeSoundSpec.pre6 enc Try.prog Try.f4 Rows.inodeSoundRow.domain false) (Rows.inodeSoundSpec.post enc Try.prog Try.f4 false true false false) := by
  refine returnsInHanded_of_change (C := Try.checked) own started (by kernel_rfl) Try.func4
    (ChangeSpec.witness6 (enc := enc) (C := Try.checked) false ⟨#[], #[.slice none 0 0, .agg #[.int .u8 0, .int .u8 0]], []⟩ 8 (by kernel_rfl) (by kernel_rfl) (by kernel_rfl) (by kernel_rfl)) ?_
  intro W base args ds gs before hval0 hW hcnd _
  have hval : ∀ (j : Nat) t v, Try.f4.params[j]? = some t → args[j]? = some v → Value.okWide Try.prog W .any base t v := hval0
  have hW' := hW
  obtain ⟨p, q, hA0, hV, rfl, hfz, hnd⟩ := hW
  have hA : DataW.TrodAll enc Try.prog W 0 (fun _ => true) true Try.f4.params.toList args.toList ds p := hA0
  rw [Try.params4] at hA hval
  obtain ⟨rfl, rfl⟩ := trodVars_none hV
  have hA' := hA
  obtain ⟨v0, v1, d0, d1, p0, p1, rfl, rfl, rfl, h0, h1⟩ := trodAll_two hA
  obtain ⟨a0, len0, cap0, rfl⟩ := okWide_slice Try.underlying42 (hval 0 42 v0 rfl rfl)
  obtain ⟨cs1, rfl⟩ := okWide_two (hval 1 43 v1 rfl rfl)
  simp only [List.append_nil] at hW'
  have hlt : ∀ x ∈ p0 ++ p1, x.block < W.heap.size := fun x hx => by simpa using hW'.lt x hx
  obtain ⟨β, h, xss, hs, _, _, hn, hf⟩ := adopt_all plain_sound (ts := [42, 43]) (fun t ht => by simp only [List.mem_cons, List.not_mem_nil, or_false] at ht ⊢; rcases ht with rfl | rfl <;> simp) hA' _ _ (start0 W (WR.start W))
  obtain ⟨x0, x1, rfl⟩ : ∃ x0 x1, xss = [x0, x1] := by
    match xss, hn with
    | [x0, x1], _ => exact ⟨x0, x1, rfl⟩
  obtain ⟨r0, _, e0⟩ := hf 0 42 _ d0 x0 rfl rfl rfl rfl
  obtain ⟨r1, _, e1⟩ := hf 1 43 _ d1 x1 rfl rfl rfl rfl
  obtain ⟨y0, A, rfl, hrow0⟩ := drep_fives e0
  obtain ⟨n0, n1, rfl, hn0, hn1⟩ := drep_two e1
  have q0 := vr_cell r0 rfl
  have q1 := vr_agg r1
  obtain ⟨h', hrun⟩ := inodeSound_walk hs.wr.wf hrow0 hn0 hn1 (N := 2000) (by omega)
  have hent : EG (.enter 4) [y0, .agg [.int .u8 (n0 : Int), .int .u8 (n1 : Int)]] h = some (.bool true, h') := run_enter (n := 2000) rfl rfl (by rw [F4_eq]; exact hrun)
  refine (open_walk eg_ok hent hs.wr (VRL.cons q0 (VRL.cons q1 VRL.nil))).mono fun e W' ⟨he, hb⟩ => ?_
  subst he
  exact ⟨_, rfl, law_post hW' rfl hb (t := 4) rfl Try.underlying4 (fun sp hsp => by
    rw [Try.params4]
    exact trodAll_stays laidOut hb (by kernel_rfl) hA' hlt (fun x hx => hsp x hx)) (fun sp => rfl)⟩

theorem proved : Rows.InodeSoundSaid :=
  OpenClaim.holds_of_wide 4 Try.f4 rfl rfl rfl rfl rfl rfl rfl ⟨rfl, rfl, rfl, rfl, rfl⟩ rfl rfl rfl rfl rfl (by kernel_rfl) Try.func4 (by kernel_rfl)
    (of_decide_eq_true (by kernel_rfl)) (by unfold Func.isWrapper; first | (rw [if_pos (by decide +kernel)]; kernel_rfl) | (rw [if_neg (by decide +kernel)]; exact ⟨rfl, rfl⟩))
    (fun os started H enc _ => lifted os started H enc)

end Go.Proofs.Ytaolgkpabgmnkaa.inodeSound
