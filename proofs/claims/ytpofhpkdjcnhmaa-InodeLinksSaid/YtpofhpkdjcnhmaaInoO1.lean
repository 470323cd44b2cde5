/-
  The seat's environment for the open laws: works() is told by what it answers; calls come to the plain functions. Printed by wip/tools/runs.py.
-/
import Derived.Test.YtpofhpkdjcnhmaaInoP7
import Derived.Test.YtpofhpkdjcnhmaaInoF1
import Derived.Test.YtpofhpkdjcnhmaaK2
import Derived.Test.YtpofhpkdjcnhmaaO0
set_option linter.unusedVariables false
set_option linter.unusedSimpArgs false
namespace Go.Am
open Go Go.Proofs Go.RowKit

noncomputable def primsO : Prims := fun f => match f with
  | 15 => some worksP
  | f => prims f

theorem primsO_ok : ∀ f p, primsO f = some p → PrimOK Try.prog f p := by
  intro f p h
  unfold primsO at h
  split at h
  · cases h
    exact worksP_ok ⟨Try.f15, _, Try.func15, rfl, by decide⟩ (closed_walk (env_ok 60) works_true)
  · exact prims_ok _ _ h

theorem primsO_lim : Prims.Lim primsO := by
  intro f p h
  unfold primsO at h
  split at h
  · cases h; exact primLim_const
  · exact prims_lim _ _ h

/-- The environment. -/
noncomputable def EG : Env := EE tab fns primsO

theorem eg_ok : EnvOK Try.prog EG := EE_sound primsO_lim fun n => mkE_sound tab_ok (by decide) (fun f A h => fns_ok f A h) (fun f p h => .inl (primsO_ok f p h)) n

theorem run_fn {f n : Nat} {A : AFn} (hp : primsO f = none) (hA : fns.get f = some A) {args : List AV} {h : AHeap} {r : AV × AHeap} (he : fnK EG tab A f n args h = some r) : EG (.fn f) args h = some r :=
  EE_fn primsO_lim hp hA (fnK_some he)
theorem run_enter {f n : Nat} {A : AFn} (hp : primsO f = none) (hA : fns.get f = some A) {args : List AV} {h : AHeap} {r : AV × AHeap} (he : fnK EG tab A f n args h = some r) : EG (.enter f) args h = some r :=
  EE_enter primsO_lim hp hA (fnK_some he)
theorem run_prim {f : Nat} {p : Env → List AV → AHeap → Option (AV × AHeap)} (hp : primsO f = some p) {args : List AV} {h : AHeap} {r : AV × AHeap} (he : p EG args h = some r) : EG (.fn f) args h = some r :=
  EE_prim primsO_lim hp he
@[simp] theorem run15 (h : AHeap) : EG (.fn 15) [] h = some (.bool true, h) := run_prim (f := 15) rfl rfl
theorem run3 (n : Nat) {a0 a1 a2 : AV} {h : AHeap} {r : AV × AHeap} (he : F3 EG n a0 a1 a2 h = some r) : EG (.fn 3) [a0, a1, a2] h = some r :=
  run_fn (n := n) rfl rfl (by rw [F3_eq]; exact he)
theorem run4 (n : Nat) {a0 a1 : AV} {h : AHeap} {r : AV × AHeap} (he : F4 EG n a0 a1 h = some r) : EG (.fn 4) [a0, a1] h = some r :=
  run_fn (n := n) rfl rfl (by rw [F4_eq]; exact he)
theorem run5 (n : Nat) {a0 a1 a2 : AV} {h : AHeap} {r : AV × AHeap} (he : F5 EG n a0 a1 a2 h = some r) : EG (.fn 5) [a0, a1, a2] h = some r :=
  run_fn (n := n) rfl rfl (by rw [F5_eq]; exact he)
theorem run6 (n : Nat) {a0 a1 : AV} {h : AHeap} {r : AV × AHeap} (he : F6 EG n a0 a1 h = some r) : EG (.fn 6) [a0, a1] h = some r :=
  run_fn (n := n) rfl rfl (by rw [F6_eq]; exact he)
theorem run7 (n : Nat) {a0 : AV} {h : AHeap} {r : AV × AHeap} (he : F7 EG n a0 h = some r) : EG (.fn 7) [a0] h = some r :=
  run_fn (n := n) rfl rfl (by rw [F7_eq]; exact he)
theorem run8 (n : Nat) {a0 a1 a2 a3 a4 a5 : AV} {h : AHeap} {r : AV × AHeap} (he : F8 EG n a0 a1 a2 a3 a4 a5 h = some r) : EG (.fn 8) [a0, a1, a2, a3, a4, a5] h = some r :=
  run_fn (n := n) rfl rfl (by rw [F8_eq]; exact he)
theorem run9 (n : Nat) {a0 a1 a2 a3 : AV} {h : AHeap} {r : AV × AHeap} (he : F9 EG n a0 a1 a2 a3 h = some r) : EG (.fn 9) [a0, a1, a2, a3] h = some r :=
  run_fn (n := n) rfl rfl (by rw [F9_eq]; exact he)
theorem run10 (n : Nat) {a0 a1 a2 : AV} {h : AHeap} {r : AV × AHeap} (he : F10 EG n a0 a1 a2 h = some r) : EG (.fn 10) [a0, a1, a2] h = some r :=
  run_fn (n := n) rfl rfl (by rw [F10_eq]; exact he)
theorem run11 (n : Nat) {a0 : AV} {h : AHeap} {r : AV × AHeap} (he : F11 EG n a0 h = some r) : EG (.fn 11) [a0] h = some r :=
  run_fn (n := n) rfl rfl (by rw [F11_eq]; exact he)
theorem run12 (n : Nat) {a0 a1 : AV} {h : AHeap} {r : AV × AHeap} (he : F12 EG n a0 a1 h = some r) : EG (.fn 12) [a0, a1] h = some r :=
  run_fn (n := n) rfl rfl (by rw [F12_eq]; exact he)
theorem run13 (n : Nat) {a0 a1 a2 : AV} {h : AHeap} {r : AV × AHeap} (he : F13 EG n a0 a1 a2 h = some r) : EG (.fn 13) [a0, a1, a2] h = some r :=
  run_fn (n := n) rfl rfl (by rw [F13_eq]; exact he)
theorem run14 (n : Nat) {a0 a1 a2 : AV} {h : AHeap} {r : AV × AHeap} (he : F14 EG n a0 a1 a2 h = some r) : EG (.fn 14) [a0, a1, a2] h = some r :=
  run_fn (n := n) rfl rfl (by rw [F14_eq]; exact he)
theorem run16 (n : Nat) {a0 a1 : AV} {h : AHeap} {r : AV × AHeap} (he : F16 EG n a0 a1 h = some r) : EG (.fn 16) [a0, a1] h = some r :=
  run_fn (n := n) rfl rfl (by rw [F16_eq]; exact he)
theorem run17 (n : Nat) {a0 a1 : AV} {h : AHeap} {r : AV × AHeap} (he : F17 EG n a0 a1 h = some r) : EG (.fn 17) [a0, a1] h = some r :=
  run_fn (n := n) rfl rfl (by rw [F17_eq]; exact he)
theorem run18 (n : Nat) {a0 a1 : AV} {h : AHeap} {r : AV × AHeap} (he : F18 EG n a0 a1 h = some r) : EG (.fn 18) [a0, a1] h = some r :=
  run_fn (n := n) rfl rfl (by rw [F18_eq]; exact he)
theorem run19 (n : Nat) {a0 a1 a2 a3 a4 : AV} {h : AHeap} {r : AV × AHeap} (he : F19 EG n a0 a1 a2 a3 a4 h = some r) : EG (.fn 19) [a0, a1, a2, a3, a4] h = some r :=
  run_fn (n := n) rfl rfl (by rw [F19_eq]; exact he)
theorem run20 (n : Nat) {a0 : AV} {h : AHeap} {r : AV × AHeap} (he : F20 EG n a0 h = some r) : EG (.fn 20) [a0] h = some r :=
  run_fn (n := n) rfl rfl (by rw [F20_eq]; exact he)
theorem run21 (n : Nat) {a0 a1 : AV} {h : AHeap} {r : AV × AHeap} (he : F21 EG n a0 a1 h = some r) : EG (.fn 21) [a0, a1] h = some r :=
  run_fn (n := n) rfl rfl (by rw [F21_eq]; exact he)
theorem run22 (n : Nat) {a0 : AV} {h : AHeap} {r : AV × AHeap} (he : F22 EG n a0 h = some r) : EG (.fn 22) [a0] h = some r :=
  run_fn (n := n) rfl rfl (by rw [F22_eq]; exact he)
theorem run23 (n : Nat) {a0 a1 a2 : AV} {h : AHeap} {r : AV × AHeap} (he : F23 EG n a0 a1 a2 h = some r) : EG (.fn 23) [a0, a1, a2] h = some r :=
  run_fn (n := n) rfl rfl (by rw [F23_eq]; exact he)
theorem run25 (n : Nat) {a0 a1 : AV} {h : AHeap} {r : AV × AHeap} (he : F25 EG n a0 a1 h = some r) : EG (.fn 25) [a0, a1] h = some r :=
  run_fn (n := n) rfl rfl (by rw [F25_eq]; exact he)
theorem run26 (n : Nat) {a0 : AV} {h : AHeap} {r : AV × AHeap} (he : F26 EG n a0 h = some r) : EG (.fn 26) [a0] h = some r :=
  run_fn (n := n) rfl rfl (by rw [F26_eq]; exact he)
theorem run27 (n : Nat) {a0 : AV} {h : AHeap} {r : AV × AHeap} (he : F27 EG n a0 h = some r) : EG (.fn 27) [a0] h = some r :=
  run_fn (n := n) rfl rfl (by rw [F27_eq]; exact he)
theorem run28 (n : Nat) {a0 a1 : AV} {h : AHeap} {r : AV × AHeap} (he : F28 EG n a0 a1 h = some r) : EG (.fn 28) [a0, a1] h = some r :=
  run_fn (n := n) rfl rfl (by rw [F28_eq]; exact he)
theorem run29 (n : Nat) {a0 : AV} {h : AHeap} {r : AV × AHeap} (he : F29 EG n a0 h = some r) : EG (.fn 29) [a0] h = some r :=
  run_fn (n := n) rfl rfl (by rw [F29_eq]; exact he)
theorem run30 (n : Nat) {a0 a1 a2 : AV} {h : AHeap} {r : AV × AHeap} (he : F30 EG n a0 a1 a2 h = some r) : EG (.fn 30) [a0, a1, a2] h = some r :=
  run_fn (n := n) rfl rfl (by rw [F30_eq]; exact he)
theorem run31 (n : Nat) {a0 a1 : AV} {h : AHeap} {r : AV × AHeap} (he : F31 EG n a0 a1 h = some r) : EG (.fn 31) [a0, a1] h = some r :=
  run_fn (n := n) rfl rfl (by rw [F31_eq]; exact he)
theorem run32 (n : Nat) {a0 a1 a2 : AV} {h : AHeap} {r : AV × AHeap} (he : F32 EG n a0 a1 a2 h = some r) : EG (.fn 32) [a0, a1, a2] h = some r :=
  run_fn (n := n) rfl rfl (by rw [F32_eq]; exact he)
theorem run33 (n : Nat) {a0 a1 : AV} {h : AHeap} {r : AV × AHeap} (he : F33 EG n a0 a1 h = some r) : EG (.fn 33) [a0, a1] h = some r :=
  run_fn (n := n) rfl rfl (by rw [F33_eq]; exact he)
theorem run34 (n : Nat) {a0 a1 a2 : AV} {h : AHeap} {r : AV × AHeap} (he : F34 EG n a0 a1 a2 h = some r) : EG (.fn 34) [a0, a1, a2] h = some r :=
  run_fn (n := n) rfl rfl (by rw [F34_eq]; exact he)
theorem run35 (n : Nat) {a0 a1 : AV} {h : AHeap} {r : AV × AHeap} (he : F35 EG n a0 a1 h = some r) : EG (.fn 35) [a0, a1] h = some r :=
  run_fn (n := n) rfl rfl (by rw [F35_eq]; exact he)
theorem run36 (n : Nat) {a0 a1 a2 : AV} {h : AHeap} {r : AV × AHeap} (he : F36 EG n a0 a1 a2 h = some r) : EG (.fn 36) [a0, a1, a2] h = some r :=
  run_fn (n := n) rfl rfl (by rw [F36_eq]; exact he)
theorem run37 (n : Nat) {a0 a1 a2 : AV} {h : AHeap} {r : AV × AHeap} (he : F37 EG n a0 a1 a2 h = some r) : EG (.fn 37) [a0, a1, a2] h = some r :=
  run_fn (n := n) rfl rfl (by rw [F37_eq]; exact he)
theorem run40 (n : Nat) {a0 a1 a2 : AV} {h : AHeap} {r : AV × AHeap} (he : F40 EG n a0 a1 a2 h = some r) : EG (.fn 40) [a0, a1, a2] h = some r :=
  run_fn (n := n) rfl rfl (by rw [F40_eq]; exact he)
theorem run41 (n : Nat) {a0 a1 a2 a3 a4 a5 : AV} {h : AHeap} {r : AV × AHeap} (he : F41 EG n a0 a1 a2 a3 a4 a5 h = some r) : EG (.fn 41) [a0, a1, a2, a3, a4, a5] h = some r :=
  run_fn (n := n) rfl rfl (by rw [F41_eq]; exact he)
theorem run42 (n : Nat) {a0 a1 a2 a3 : AV} {h : AHeap} {r : AV × AHeap} (he : F42 EG n a0 a1 a2 a3 h = some r) : EG (.fn 42) [a0, a1, a2, a3] h = some r :=
  run_fn (n := n) rfl rfl (by rw [F42_eq]; exact he)
theorem run43 (n : Nat) {a0 a1 a2 : AV} {h : AHeap} {r : AV × AHeap} (he : F43 EG n a0 a1 a2 h = some r) : EG (.fn 43) [a0, a1, a2] h = some r :=
  run_fn (n := n) rfl rfl (by rw [F43_eq]; exact he)
theorem run44 (n : Nat) {a0 a1 a2 a3 a4 : AV} {h : AHeap} {r : AV × AHeap} (he : F44 EG n a0 a1 a2 a3 a4 h = some r) : EG (.fn 44) [a0, a1, a2, a3, a4] h = some r :=
  run_fn (n := n) rfl rfl (by rw [F44_eq]; exact he)
theorem run45 (n : Nat) {a0 a1 a2 : AV} {h : AHeap} {r : AV × AHeap} (he : F45 EG n a0 a1 a2 h = some r) : EG (.fn 45) [a0, a1, a2] h = some r :=
  run_fn (n := n) rfl rfl (by rw [F45_eq]; exact he)
theorem run46 (n : Nat) {a0 a1 a2 : AV} {h : AHeap} {r : AV × AHeap} (he : F46 EG n a0 a1 a2 h = some r) : EG (.fn 46) [a0, a1, a2] h = some r :=
  run_fn (n := n) rfl rfl (by rw [F46_eq]; exact he)
theorem run47 (n : Nat) {a0 a1 a2 : AV} {h : AHeap} {r : AV × AHeap} (he : F47 EG n a0 a1 a2 h = some r) : EG (.fn 47) [a0, a1, a2] h = some r :=
  run_fn (n := n) rfl rfl (by rw [F47_eq]; exact he)
theorem run48 (n : Nat) {a0 a1 a2 : AV} {h : AHeap} {r : AV × AHeap} (he : F48 EG n a0 a1 a2 h = some r) : EG (.fn 48) [a0, a1, a2] h = some r :=
  run_fn (n := n) rfl rfl (by rw [F48_eq]; exact he)
theorem run49 (n : Nat) {a0 a1 : AV} {h : AHeap} {r : AV × AHeap} (he : F49 EG n a0 a1 h = some r) : EG (.fn 49) [a0, a1] h = some r :=
  run_fn (n := n) rfl rfl (by rw [F49_eq]; exact he)
theorem run50 (n : Nat) {a0 a1 : AV} {h : AHeap} {r : AV × AHeap} (he : F50 EG n a0 a1 h = some r) : EG (.fn 50) [a0, a1] h = some r :=
  run_fn (n := n) rfl rfl (by rw [F50_eq]; exact he)
theorem run51 (n : Nat) {a0 a1 : AV} {h : AHeap} {r : AV × AHeap} (he : F51 EG n a0 a1 h = some r) : EG (.fn 51) [a0, a1] h = some r :=
  run_fn (n := n) rfl rfl (by rw [F51_eq]; exact he)
theorem run52 (n : Nat) {a0 a1 : AV} {h : AHeap} {r : AV × AHeap} (he : F52 EG n a0 a1 h = some r) : EG (.fn 52) [a0, a1] h = some r :=
  run_fn (n := n) rfl rfl (by rw [F52_eq]; exact he)
theorem run53 (n : Nat) {a0 : AV} {h : AHeap} {r : AV × AHeap} (he : F53 EG n a0 h = some r) : EG (.fn 53) [a0] h = some r :=
  run_fn (n := n) rfl rfl (by rw [F53_eq]; exact he)
theorem run54 (n : Nat) {a0 : AV} {h : AHeap} {r : AV × AHeap} (he : F54 EG n a0 h = some r) : EG (.fn 54) [a0] h = some r :=
  run_fn (n := n) rfl rfl (by rw [F54_eq]; exact he)
theorem run55 (n : Nat) {a0 : AV} {h : AHeap} {r : AV × AHeap} (he : F55 EG n a0 h = some r) : EG (.fn 55) [a0] h = some r :=
  run_fn (n := n) rfl rfl (by rw [F55_eq]; exact he)
theorem run57 (n : Nat) {a0 a1 : AV} {h : AHeap} {r : AV × AHeap} (he : F57 EG n a0 a1 h = some r) : EG (.fn 57) [a0, a1] h = some r :=
  run_fn (n := n) rfl rfl (by rw [F57_eq]; exact he)
theorem run58 (n : Nat) {a0 : AV} {h : AHeap} {r : AV × AHeap} (he : F58 EG n a0 h = some r) : EG (.fn 58) [a0] h = some r :=
  run_fn (n := n) rfl rfl (by rw [F58_eq]; exact he)
theorem run60 (n : Nat) {a0 a1 a2 : AV} {h : AHeap} {r : AV × AHeap} (he : F60 EG n a0 a1 a2 h = some r) : EG (.fn 60) [a0, a1, a2] h = some r :=
  run_fn (n := n) rfl rfl (by rw [F60_eq]; exact he)
theorem run61 (n : Nat) {a0 a1 a2 : AV} {h : AHeap} {r : AV × AHeap} (he : F61 EG n a0 a1 a2 h = some r) : EG (.fn 61) [a0, a1, a2] h = some r :=
  run_fn (n := n) rfl rfl (by rw [F61_eq]; exact he)
theorem run62 (n : Nat) {a0 a1 : AV} {h : AHeap} {r : AV × AHeap} (he : F62 EG n a0 a1 h = some r) : EG (.fn 62) [a0, a1] h = some r :=
  run_fn (n := n) rfl rfl (by rw [F62_eq]; exact he)
theorem run63 (n : Nat) {a0 a1 a2 : AV} {h : AHeap} {r : AV × AHeap} (he : F63 EG n a0 a1 a2 h = some r) : EG (.fn 63) [a0, a1, a2] h = some r :=
  run_fn (n := n) rfl rfl (by rw [F63_eq]; exact he)
theorem run67 (n : Nat) {a0 a1 a2 : AV} {h : AHeap} {r : AV × AHeap} (he : F67 EG n a0 a1 a2 h = some r) : EG (.fn 67) [a0, a1, a2] h = some r :=
  run_fn (n := n) rfl rfl (by rw [F67_eq]; exact he)
theorem run68 (n : Nat) {a0 a1 : AV} {h : AHeap} {r : AV × AHeap} (he : F68 EG n a0 a1 h = some r) : EG (.fn 68) [a0, a1] h = some r :=
  run_fn (n := n) rfl rfl (by rw [F68_eq]; exact he)
theorem run69 (n : Nat) {a0 a1 a2 : AV} {h : AHeap} {r : AV × AHeap} (he : F69 EG n a0 a1 a2 h = some r) : EG (.fn 69) [a0, a1, a2] h = some r :=
  run_fn (n := n) rfl rfl (by rw [F69_eq]; exact he)
theorem run70 (n : Nat) {a0 a1 a2 : AV} {h : AHeap} {r : AV × AHeap} (he : F70 EG n a0 a1 a2 h = some r) : EG (.fn 70) [a0, a1, a2] h = some r :=
  run_fn (n := n) rfl rfl (by rw [F70_eq]; exact he)
theorem run71 (n : Nat) {a0 a1 : AV} {h : AHeap} {r : AV × AHeap} (he : F71 EG n a0 a1 h = some r) : EG (.fn 71) [a0, a1] h = some r :=
  run_fn (n := n) rfl rfl (by rw [F71_eq]; exact he)
theorem run72 (n : Nat) {a0 a1 : AV} {h : AHeap} {r : AV × AHeap} (he : F72 EG n a0 a1 h = some r) : EG (.fn 72) [a0, a1] h = some r :=
  run_fn (n := n) rfl rfl (by rw [F72_eq]; exact he)
theorem run73 (n : Nat) {a0 a1 : AV} {h : AHeap} {r : AV × AHeap} (he : F73 EG n a0 a1 h = some r) : EG (.fn 73) [a0, a1] h = some r :=
  run_fn (n := n) rfl rfl (by rw [F73_eq]; exact he)
theorem run74 (n : Nat) {a0 : AV} {h : AHeap} {r : AV × AHeap} (he : F74 EG n a0 h = some r) : EG (.fn 74) [a0] h = some r :=
  run_fn (n := n) rfl rfl (by rw [F74_eq]; exact he)
theorem run75 (n : Nat) {a0 a1 : AV} {h : AHeap} {r : AV × AHeap} (he : F75 EG n a0 a1 h = some r) : EG (.fn 75) [a0, a1] h = some r :=
  run_fn (n := n) rfl rfl (by rw [F75_eq]; exact he)
theorem run76 (n : Nat) {a0 a1 : AV} {h : AHeap} {r : AV × AHeap} (he : F76 EG n a0 a1 h = some r) : EG (.fn 76) [a0, a1] h = some r :=
  run_fn (n := n) rfl rfl (by rw [F76_eq]; exact he)

end Go.Am
