/-
  The seat's library functions.
-/
import Derived.Test.YtpofhpkdjcnhmaaInoD1
import Derived.Test.YtpofhpkdjcnhmaaQ1
import Derived.Test.YtpofhpkdjcnhmaaM1
import Derived.Test.YtpofhpkdjcnhmaaP8
import Derived.Shelf.SlIter.Nil
import Derived.Shelf.SortM.Plain
import Derived.Shelf.SortM.SortNone
import Derived.Ground.GgzProg
import Derived.Ground.SlgmProg
import Derived.Test.YtpofhpkdjcnhmaaInoShelf
set_option linter.unusedVariables false
set_option linter.unusedSimpArgs false
namespace Go.Proofs
open Go.RowKit Go.Maps Go.Sort Go.Shelf

theorem Try.sorts38 (m : Nat) : AnyZ.SortsIn Try.prog Try.sorted38_ren Fence.wide m :=
  ⟨fun blk off cap ss W hH hblk hsz => callsIn_wide.2 (AnyM.slices_Sort_string Try.sort65 blk off cap ss W hH hblk hsz),
   fun p cap W => callsIn_wide.2 (AnyM.slices_Sort_string_none Try.sort65 p cap W)⟩
theorem Try.set59 : (Try.prog.info? (Try.any59_ren.t 116)).map (fun i => (i.zero, i.size)) = some (some (.agg (Array.replicate 256 (.bool false))), 256) := by kernel_rfl
end Go.Proofs

namespace Go.Am
open Go Go.Proofs Go.RowKit Go.Maps Go.Sort Go.Shelf

theorem keys39_ok : KeysHyp Try.prog 39 66 63 := ⟨⟨Try.f39, _, Try.func39, rfl, by decide⟩, fun mb W => AnyZ.keys_in Try.keys39 Fence.wide 5 trivial rfl mb W⟩

set_option maxHeartbeats 1000000 in
theorem sorted66_ok : SortedHyp Try.prog 38 66 9 := by
  refine ⟨Try.underlying9, fun b nn D0 R Bm W hBm hcell hown hmax hbytes => ?_, fun Bm W hBm hcell => ?_⟩
  · have hseq : SeqGives Fence.wide 2 Try.prog 66 #[.pointer (some ⟨Bm, 0, none⟩)] encStr (fun ss => ss.Perm (strKeys D0)) (Maps.size D0) W :=
      AnyZ.keys_gives (ρ := Try.keys39_ren) { Try.keys39 with } Fence.wide _ trivial rfl (by omega) Bm b nn D0 _ hBm hcell hown
    exact AnyZ.sorted_in Try.sorted38 Fence.wide 5 trivial trivial trivial trivial rfl (by omega) (Try.sorts38 _) (enters_of Try.func65 (by kernel_rfl) rfl) 66 #[.pointer (some ⟨Bm, 0, none⟩)] trivial (enters_of Try.func66 (by kernel_rfl) rfl) _ _ hmax hbytes _ hseq
  · have hseq : SeqGives Fence.wide 2 Try.prog 66 #[.pointer (some ⟨Bm, 0, none⟩)] encStr (fun ss : List (List UInt8) => ss = []) 0 W :=
      AnyZ.keys_gives_nil (ρ := Try.keys39_ren) { Try.keys39 with } Fence.wide _ trivial rfl Bm _ hBm hcell
    refine (AnyZ.sorted_in Try.sorted38 Fence.wide 5 trivial trivial trivial trivial rfl (by omega) (Try.sorts38 _) (enters_of Try.func65 (by kernel_rfl) rfl) 66 #[.pointer (some ⟨Bm, 0, none⟩)] trivial (enters_of Try.func66 (by kernel_rfl) rfl) _ 0 (Nat.zero_le _) (by omega) _ hseq).mono ?_
    rintro e w' ⟨v, ss, rfl, hS, _, hnil, hb⟩
    exact ⟨by rw [hnil.2 hS], hb⟩

noncomputable def prims : Prims := fun f =>
  match f with
  | 24 => some indexByteP
  | 38 => some (sortedP [66])
  | 39 => some (keysP 66)
  | 59 => some containsAnyP
  | _ => none

theorem prims_ok : ∀ f p, prims f = some p → PrimOK Try.prog f p := by
  intro f p h
  unfold prims at h
  split at h
  · cases h; exact indexByteP_ok ⟨Try.f24, _, Try.func24, rfl, by decide⟩ fun s c W => Any.strings_IndexByte Try.index24 s c W
  · cases h
    exact sortedP_ok ⟨Try.f38, _, Try.func38, rfl, by decide⟩ fun it hit => by
      simp only [List.mem_cons, List.not_mem_nil, or_false] at hit
      subst hit
      exact sorted66_ok
  · cases h; exact keysP_ok keys39_ok
  · cases h; exact containsAnyP_ok ⟨Try.f59, _, Try.func59, rfl, by decide⟩ fun s cs W h1 h2 h3 h4 => Any.strings_ContainsAny_laid Try.any59 Try.set59 s cs W h1 h2 h3 h4
  · cases h

theorem prims_lim : Prims.Lim prims := by
  intro f p h
  unfold prims at h
  split at h
  · cases h; exact primLim_const (q := indexByteP fun _ _ _ => none)
  · cases h; exact primLim_const (q := sortedP [66] fun _ _ _ => none)
  · cases h; exact primLim_const (q := keysP 66 fun _ _ _ => none)
  · cases h; exact primLim_const (q := containsAnyP fun _ _ _ => none)
  · cases h

theorem env_ok (n : Nat) : EnvOK Try.prog (mkE tab fns prims n) := mkE_sound tab_ok (by decide) (fun f A h => fns_ok f A h) (fun f p h => .inl (prims_ok f p h)) n
set_option maxRecDepth 100000 in
theorem works_true : answer (mkE tab fns prims 60 (.enter 15) [] ⟨.leaf, 0⟩) = some (.bool true) := by kernel_rfl
end Go.Am
