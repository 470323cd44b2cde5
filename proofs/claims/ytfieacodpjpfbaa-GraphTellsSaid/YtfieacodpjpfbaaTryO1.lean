/-
  The seat's environment for the open laws: works() is told by what it answers; calls come to the plain functions.
-/
import Derived.Test.YtfieacodpjpfbaaTryE1
import Derived.Test.YtfieacodpjpfbaaTryF1
import Derived.Test.YtfieacodpjpfbaaK2
set_option linter.unusedVariables false
set_option linter.unusedSimpArgs false
namespace Go.Am
open Go Go.Proofs Go.RowKit

def worksP (_ : Env) (args : List AV) (h : AHeap) : Option (AV × AHeap) :=
  match args with
  | [] => some (.bool true, h)
  | _ => none

theorem worksP_ok {P : Program} {f : Nat} (he : ∃ fn c, P.funcs[f]? = some fn ∧ fn.body = some c ∧ ¬ fn.name = "runtime.NumGoroutine")
    (hc : ∀ W, Calls P f #[] W fun e W' => e = .returned (.bool true) ∧ Below W.heap.size W W') : PrimOK P f worksP := by
  refine ⟨he, fun E hE args h r h' hp w0 β w vals hw hv => ?_⟩
  unfold worksP at hp
  split at hp
  · cases hp
    have := hv.nil_inv
    subst this
    refine callsIn_wide.2 ((hc w).mono ?_)
    rintro e w' ⟨rfl, hb⟩
    exact ⟨β, _, rfl, by simp [VR], hw.grown hb, Goes.refl _ _⟩
  · cases hp

noncomputable def primsO : Prims := fun f => match f with
  | 14 => some worksP
  | f => prims f

theorem primsO_ok : ∀ f p, primsO f = some p → PrimOK Try.prog f p := by
  intro f p h
  unfold primsO at h
  split at h
  · cases h
    exact worksP_ok ⟨Try.f14, _, Try.func14, rfl, by decide⟩ (closed_walk (env_ok 60) works_true)
  · exact prims_ok _ _ h

theorem primsO_lim : Prims.Lim primsO := by
  intro f p h
  unfold primsO prims at h
  split at h
  · cases h; exact primLim_const
  · split at h
    · cases h
      intro F E hF args h0 r he
      unfold closedP at he
      split at he
      · rename_i l
        cases hc : E (.fn 28) [l] h0 with
        | none => rw [hc] at he; cases he
        | some q =>
          obtain ⟨N, hN⟩ := hF _ _ _ _ hc
          refine ⟨N, fun m hm => ?_⟩
          unfold closedP
          simp only [hN m hm]
          rw [hc] at he
          exact he
      · cases he
    · cases h; exact primLim_const (q := cloneP fun _ _ _ => none)
    · cases h; exact primLim_const (q := sortedP [53, 54] fun _ _ _ => none)
    · cases h; exact primLim_const (q := keysP 53 fun _ _ _ => none)
    · cases h; exact primLim_const (q := keysP 54 fun _ _ _ => none)
    · cases h

/-- The environment. -/
noncomputable def EG : Env := EE tab fns primsO

theorem eg_ok : EnvOK Try.prog EG := EE_sound primsO_lim fun n => mkE_sound tab_ok (by decide) (fun f A h => fns_ok f A h) (fun f p h => .inl (primsO_ok f p h)) n

theorem run_fn {f n : Nat} {A : AFn} (hp : primsO f = none) (hA : fns.get f = some A) {args : List AV} {h : AHeap} {r : AV × AHeap} (he : fnK EG tab A f n args h = some r) : EG (.fn f) args h = some r :=
  EE_fn primsO_lim hp hA (fnK_some he)
theorem run_enter {f n : Nat} {A : AFn} (hp : primsO f = none) (hA : fns.get f = some A) {args : List AV} {h : AHeap} {r : AV × AHeap} (he : fnK EG tab A f n args h = some r) : EG (.enter f) args h = some r :=
  EE_enter primsO_lim hp hA (fnK_some he)
theorem run_prim {f : Nat} {p : Env → List AV → AHeap → Option (AV × AHeap)} (hp : primsO f = some p) {args : List AV} {h : AHeap} {r : AV × AHeap} (he : p EG args h = some r) : EG (.fn f) args h = some r :=
  EE_prim primsO_lim hp he
@[simp] theorem run14 (h : AHeap) : EG (.fn 14) [] h = some (.bool true, h) := run_prim (f := 14) rfl rfl
theorem run3 (n : Nat) {a0 a1 : AV} {h : AHeap} {r : AV × AHeap} (he : F3 EG n a0 a1 h = some r) : EG (.fn 3) [a0, a1] h = some r :=
  run_fn (n := n) rfl rfl (by rw [F3_eq]; exact he)
theorem run4 (n : Nat) {a0 a1 a2 : AV} {h : AHeap} {r : AV × AHeap} (he : F4 EG n a0 a1 a2 h = some r) : EG (.fn 4) [a0, a1, a2] h = some r :=
  run_fn (n := n) rfl rfl (by rw [F4_eq]; exact he)
theorem run5 (n : Nat) {a0 a1 : AV} {h : AHeap} {r : AV × AHeap} (he : F5 EG n a0 a1 h = some r) : EG (.fn 5) [a0, a1] h = some r :=
  run_fn (n := n) rfl rfl (by rw [F5_eq]; exact he)
theorem run6 (n : Nat) {a0 : AV} {h : AHeap} {r : AV × AHeap} (he : F6 EG n a0 h = some r) : EG (.fn 6) [a0] h = some r :=
  run_fn (n := n) rfl rfl (by rw [F6_eq]; exact he)
theorem run7 (n : Nat) {h : AHeap} {r : AV × AHeap} (he : F7 EG n h = some r) : EG (.fn 7) [] h = some r :=
  run_fn (n := n) rfl rfl (by rw [F7_eq]; exact he)
theorem run8 (n : Nat) {a0 a1 : AV} {h : AHeap} {r : AV × AHeap} (he : F8 EG n a0 a1 h = some r) : EG (.fn 8) [a0, a1] h = some r :=
  run_fn (n := n) rfl rfl (by rw [F8_eq]; exact he)
theorem run9 (n : Nat) {a0 a1 : AV} {h : AHeap} {r : AV × AHeap} (he : F9 EG n a0 a1 h = some r) : EG (.fn 9) [a0, a1] h = some r :=
  run_fn (n := n) rfl rfl (by rw [F9_eq]; exact he)
theorem run10 (n : Nat) {a0 a1 : AV} {h : AHeap} {r : AV × AHeap} (he : F10 EG n a0 a1 h = some r) : EG (.fn 10) [a0, a1] h = some r :=
  run_fn (n := n) rfl rfl (by rw [F10_eq]; exact he)
theorem run11 (n : Nat) {a0 : AV} {h : AHeap} {r : AV × AHeap} (he : F11 EG n a0 h = some r) : EG (.fn 11) [a0] h = some r :=
  run_fn (n := n) rfl rfl (by rw [F11_eq]; exact he)
theorem run13 (n : Nat) {a0 a1 : AV} {h : AHeap} {r : AV × AHeap} (he : F13 EG n a0 a1 h = some r) : EG (.fn 13) [a0, a1] h = some r :=
  run_fn (n := n) rfl rfl (by rw [F13_eq]; exact he)
theorem run15 (n : Nat) {a0 : AV} {h : AHeap} {r : AV × AHeap} (he : F15 EG n a0 h = some r) : EG (.fn 15) [a0] h = some r :=
  run_fn (n := n) rfl rfl (by rw [F15_eq]; exact he)
theorem run16 (n : Nat) {a0 : AV} {h : AHeap} {r : AV × AHeap} (he : F16 EG n a0 h = some r) : EG (.fn 16) [a0] h = some r :=
  run_fn (n := n) rfl rfl (by rw [F16_eq]; exact he)
theorem run17 (n : Nat) {a0 a1 : AV} {h : AHeap} {r : AV × AHeap} (he : F17 EG n a0 a1 h = some r) : EG (.fn 17) [a0, a1] h = some r :=
  run_fn (n := n) rfl rfl (by rw [F17_eq]; exact he)
theorem run18 (n : Nat) {a0 a1 : AV} {h : AHeap} {r : AV × AHeap} (he : F18 EG n a0 a1 h = some r) : EG (.fn 18) [a0, a1] h = some r :=
  run_fn (n := n) rfl rfl (by rw [F18_eq]; exact he)
theorem run19 (n : Nat) {a0 a1 : AV} {h : AHeap} {r : AV × AHeap} (he : F19 EG n a0 a1 h = some r) : EG (.fn 19) [a0, a1] h = some r :=
  run_fn (n := n) rfl rfl (by rw [F19_eq]; exact he)
theorem run20 (n : Nat) {a0 : AV} {h : AHeap} {r : AV × AHeap} (he : F20 EG n a0 h = some r) : EG (.fn 20) [a0] h = some r :=
  run_fn (n := n) rfl rfl (by rw [F20_eq]; exact he)
theorem run21 (n : Nat) {a0 : AV} {h : AHeap} {r : AV × AHeap} (he : F21 EG n a0 h = some r) : EG (.fn 21) [a0] h = some r :=
  run_fn (n := n) rfl rfl (by rw [F21_eq]; exact he)
theorem run22 (n : Nat) {a0 : AV} {h : AHeap} {r : AV × AHeap} (he : F22 EG n a0 h = some r) : EG (.fn 22) [a0] h = some r :=
  run_fn (n := n) rfl rfl (by rw [F22_eq]; exact he)
theorem run23 (n : Nat) {a0 a1 : AV} {h : AHeap} {r : AV × AHeap} (he : F23 EG n a0 a1 h = some r) : EG (.fn 23) [a0, a1] h = some r :=
  run_fn (n := n) rfl rfl (by rw [F23_eq]; exact he)
theorem run24 (n : Nat) {a0 a1 : AV} {h : AHeap} {r : AV × AHeap} (he : F24 EG n a0 a1 h = some r) : EG (.fn 24) [a0, a1] h = some r :=
  run_fn (n := n) rfl rfl (by rw [F24_eq]; exact he)
theorem run25 (n : Nat) {h : AHeap} {r : AV × AHeap} (he : F25 EG n h = some r) : EG (.fn 25) [] h = some r :=
  run_fn (n := n) rfl rfl (by rw [F25_eq]; exact he)
theorem run26 (n : Nat) {a0 a1 : AV} {h : AHeap} {r : AV × AHeap} (he : F26 EG n a0 a1 h = some r) : EG (.fn 26) [a0, a1] h = some r :=
  run_fn (n := n) rfl rfl (by rw [F26_eq]; exact he)
theorem run27 (n : Nat) {a0 a1 : AV} {h : AHeap} {r : AV × AHeap} (he : F27 EG n a0 a1 h = some r) : EG (.fn 27) [a0, a1] h = some r :=
  run_fn (n := n) rfl rfl (by rw [F27_eq]; exact he)
theorem run28 (n : Nat) {a0 : AV} {h : AHeap} {r : AV × AHeap} (he : F28 EG n a0 h = some r) : EG (.fn 28) [a0] h = some r :=
  run_fn (n := n) rfl rfl (by rw [F28_eq]; exact he)
theorem run29 (n : Nat) {a0 : AV} {h : AHeap} {r : AV × AHeap} (he : F29 EG n a0 h = some r) : EG (.fn 29) [a0] h = some r :=
  run_fn (n := n) rfl rfl (by rw [F29_eq]; exact he)
theorem run30 (n : Nat) {a0 a1 : AV} {h : AHeap} {r : AV × AHeap} (he : F30 EG n a0 a1 h = some r) : EG (.fn 30) [a0, a1] h = some r :=
  run_fn (n := n) rfl rfl (by rw [F30_eq]; exact he)
theorem run31 (n : Nat) {a0 a1 : AV} {h : AHeap} {r : AV × AHeap} (he : F31 EG n a0 a1 h = some r) : EG (.fn 31) [a0, a1] h = some r :=
  run_fn (n := n) rfl rfl (by rw [F31_eq]; exact he)
theorem run32 (n : Nat) {a0 a1 : AV} {h : AHeap} {r : AV × AHeap} (he : F32 EG n a0 a1 h = some r) : EG (.fn 32) [a0, a1] h = some r :=
  run_fn (n := n) rfl rfl (by rw [F32_eq]; exact he)
theorem run33 (n : Nat) {a0 a1 : AV} {h : AHeap} {r : AV × AHeap} (he : F33 EG n a0 a1 h = some r) : EG (.fn 33) [a0, a1] h = some r :=
  run_fn (n := n) rfl rfl (by rw [F33_eq]; exact he)
theorem run34 (n : Nat) {a0 : AV} {h : AHeap} {r : AV × AHeap} (he : F34 EG n a0 h = some r) : EG (.fn 34) [a0] h = some r :=
  run_fn (n := n) rfl rfl (by rw [F34_eq]; exact he)
theorem run35 (n : Nat) {a0 a1 : AV} {h : AHeap} {r : AV × AHeap} (he : F35 EG n a0 a1 h = some r) : EG (.fn 35) [a0, a1] h = some r :=
  run_fn (n := n) rfl rfl (by rw [F35_eq]; exact he)
theorem run37 (n : Nat) {a0 a1 a2 : AV} {h : AHeap} {r : AV × AHeap} (he : F37 EG n a0 a1 a2 h = some r) : EG (.fn 37) [a0, a1, a2] h = some r :=
  run_fn (n := n) rfl rfl (by rw [F37_eq]; exact he)
theorem run38 (n : Nat) {a0 a1 : AV} {h : AHeap} {r : AV × AHeap} (he : F38 EG n a0 a1 h = some r) : EG (.fn 38) [a0, a1] h = some r :=
  run_fn (n := n) rfl rfl (by rw [F38_eq]; exact he)
theorem run39 (n : Nat) {a0 a1 a2 : AV} {h : AHeap} {r : AV × AHeap} (he : F39 EG n a0 a1 a2 h = some r) : EG (.fn 39) [a0, a1, a2] h = some r :=
  run_fn (n := n) rfl rfl (by rw [F39_eq]; exact he)
theorem run40 (n : Nat) {a0 : AV} {h : AHeap} {r : AV × AHeap} (he : F40 EG n a0 h = some r) : EG (.fn 40) [a0] h = some r :=
  run_fn (n := n) rfl rfl (by rw [F40_eq]; exact he)
theorem run41 (n : Nat) {a0 a1 a2 : AV} {h : AHeap} {r : AV × AHeap} (he : F41 EG n a0 a1 a2 h = some r) : EG (.fn 41) [a0, a1, a2] h = some r :=
  run_fn (n := n) rfl rfl (by rw [F41_eq]; exact he)
theorem run42 (n : Nat) {a0 a1 a2 : AV} {h : AHeap} {r : AV × AHeap} (he : F42 EG n a0 a1 a2 h = some r) : EG (.fn 42) [a0, a1, a2] h = some r :=
  run_fn (n := n) rfl rfl (by rw [F42_eq]; exact he)
theorem run43 (n : Nat) {a0 a1 : AV} {h : AHeap} {r : AV × AHeap} (he : F43 EG n a0 a1 h = some r) : EG (.fn 43) [a0, a1] h = some r :=
  run_fn (n := n) rfl rfl (by rw [F43_eq]; exact he)
theorem run46 (n : Nat) {a0 a1 a2 a3 : AV} {h : AHeap} {r : AV × AHeap} (he : F46 EG n a0 a1 a2 a3 h = some r) : EG (.fn 46) [a0, a1, a2, a3] h = some r :=
  run_fn (n := n) rfl rfl (by rw [F46_eq]; exact he)
theorem run49 (n : Nat) {a0 a1 : AV} {h : AHeap} {r : AV × AHeap} (he : F49 EG n a0 a1 h = some r) : EG (.fn 49) [a0, a1] h = some r :=
  run_fn (n := n) rfl rfl (by rw [F49_eq]; exact he)
theorem run50 (n : Nat) {a0 a1 : AV} {h : AHeap} {r : AV × AHeap} (he : F50 EG n a0 a1 h = some r) : EG (.fn 50) [a0, a1] h = some r :=
  run_fn (n := n) rfl rfl (by rw [F50_eq]; exact he)

end Go.Am
