/-
  The seat's library functions.
-/
import Derived.Test.YtfieacodpjpfbaaP6
import Derived.Shelf.SlIter.Nil
import Derived.Shelf.SortM.Plain
import Derived.Shelf.SortM.SortNone
import Derived.Shelf.SlMaps.Clone
import Derived.Ground.GgzProg
import Derived.Ground.SlgmProg
import Derived.Ground.SlmcProg
import Derived.Test.YtfieacodpjpfbaaTryShelf
set_option linter.unusedVariables false
set_option linter.unusedSimpArgs false
namespace Go.Proofs
open Go.RowKit Go.Maps Go.Sort Go.Shelf


theorem Try.sorts44 (m : Nat) : AnyZ.SortsIn Try.prog Try.sorted44_ren Fence.wide m :=
  ⟨fun blk off cap ss W hH hblk hsz => callsIn_wide.2 (AnyM.slices_Sort_string Try.sort52 blk off cap ss W hH hblk hsz),
   fun p cap W => callsIn_wide.2 (AnyM.slices_Sort_string_none Try.sort52 p cap W)⟩
end Go.Proofs

namespace Go.Am
open Go Go.Proofs Go.RowKit Go.Maps Go.Sort Go.Shelf

theorem keys45_ok : KeysHyp Try.prog 45 53 46 := ⟨⟨Try.f45, _, Try.func45, rfl, by decide⟩, fun mb W => AnyZ.keys_in Try.keys45 Fence.wide 5 trivial rfl mb W⟩
theorem keys47_ok : KeysHyp Try.prog 47 54 48 := ⟨⟨Try.f47, _, Try.func47, rfl, by decide⟩, fun mb W => AnyZ.keys_in Try.keys47 Fence.wide 5 trivial rfl mb W⟩

theorem clone36_ok : CloneHyp Try.prog 36 := ⟨⟨Try.f36, _, Try.func36, rfl, by decide⟩, fun b es clock w hb => AnyW.maps_Clone Try.clone36 b es clock w hb, fun w => AnyW.maps_Clone_nil Try.clone36 w⟩

set_option maxHeartbeats 1000000 in
theorem sorted53_ok : SortedHyp Try.prog 44 53 9 := by
  refine ⟨Try.underlying9, fun b nn D0 R Bm W hBm hcell hown hmax hbytes => ?_, fun Bm W hBm hcell => ?_⟩
  · have hseq : SeqGives Fence.wide 2 Try.prog 53 #[.pointer (some ⟨Bm, 0, none⟩)] encStr (fun ss => ss.Perm (strKeys D0)) (Maps.size D0) W :=
      AnyZ.keys_gives (ρ := Try.keys45_ren) { Try.keys45 with } Fence.wide _ trivial rfl (by omega) Bm b nn D0 _ hBm hcell hown
    exact AnyZ.sorted_in Try.sorted44 Fence.wide 5 trivial trivial trivial trivial rfl (by omega) (Try.sorts44 _) (enters_of Try.func52 (by kernel_rfl) rfl) 53 #[.pointer (some ⟨Bm, 0, none⟩)] trivial (enters_of Try.func53 (by kernel_rfl) rfl) _ _ hmax hbytes _ hseq
  · have hseq : SeqGives Fence.wide 2 Try.prog 53 #[.pointer (some ⟨Bm, 0, none⟩)] encStr (fun ss : List (List UInt8) => ss = []) 0 W :=
      AnyZ.keys_gives_nil (ρ := Try.keys45_ren) { Try.keys45 with } Fence.wide _ trivial rfl Bm _ hBm hcell
    refine (AnyZ.sorted_in Try.sorted44 Fence.wide 5 trivial trivial trivial trivial rfl (by omega) (Try.sorts44 _) (enters_of Try.func52 (by kernel_rfl) rfl) 53 #[.pointer (some ⟨Bm, 0, none⟩)] trivial (enters_of Try.func53 (by kernel_rfl) rfl) _ 0 (Nat.zero_le _) (by omega) _ hseq).mono ?_
    rintro e w' ⟨v, ss, rfl, hS, _, hnil, hb⟩
    exact ⟨by rw [hnil.2 hS], hb⟩

set_option maxHeartbeats 1000000 in
theorem sorted54_ok : SortedHyp Try.prog 44 54 9 := by
  refine ⟨Try.underlying9, fun b nn D0 R Bm W hBm hcell hown hmax hbytes => ?_, fun Bm W hBm hcell => ?_⟩
  · have hseq : SeqGives Fence.wide 2 Try.prog 54 #[.pointer (some ⟨Bm, 0, none⟩)] encStr (fun ss => ss.Perm (strKeys D0)) (Maps.size D0) W :=
      AnyZ.keys_gives (ρ := Try.keys47_ren) { Try.keys47 with } Fence.wide _ trivial rfl (by omega) Bm b nn D0 _ hBm hcell hown
    exact AnyZ.sorted_in Try.sorted44 Fence.wide 5 trivial trivial trivial trivial rfl (by omega) (Try.sorts44 _) (enters_of Try.func52 (by kernel_rfl) rfl) 54 #[.pointer (some ⟨Bm, 0, none⟩)] trivial (enters_of Try.func54 (by kernel_rfl) rfl) _ _ hmax hbytes _ hseq
  · have hseq : SeqGives Fence.wide 2 Try.prog 54 #[.pointer (some ⟨Bm, 0, none⟩)] encStr (fun ss : List (List UInt8) => ss = []) 0 W :=
      AnyZ.keys_gives_nil (ρ := Try.keys47_ren) { Try.keys47 with } Fence.wide _ trivial rfl Bm _ hBm hcell
    refine (AnyZ.sorted_in Try.sorted44 Fence.wide 5 trivial trivial trivial trivial rfl (by omega) (Try.sorts44 _) (enters_of Try.func52 (by kernel_rfl) rfl) 54 #[.pointer (some ⟨Bm, 0, none⟩)] trivial (enters_of Try.func54 (by kernel_rfl) rfl) _ 0 (Nat.zero_le _) (by omega) _ hseq).mono ?_
    rintro e w' ⟨v, ss, rfl, hS, _, hnil, hb⟩
    exact ⟨by rw [hnil.2 hS], hb⟩

noncomputable def prims : Prims := fun f =>
  match f with
  | 12 => some (closedP 28)
  | 36 => some cloneP
  | 44 => some (sortedP [53, 54])
  | 45 => some (keysP 53)
  | 47 => some (keysP 54)
  | _ => none

theorem prims_ok : ∀ f p, prims f = some p → PrimOK Try.prog f p := by
  intro f p h
  unfold prims at h
  split at h
  · cases h; exact closed_ok
  · cases h; exact cloneP_ok clone36_ok
  · cases h
    exact sortedP_ok ⟨Try.f44, _, Try.func44, rfl, by decide⟩ fun it hit => by
      simp only [List.mem_cons, List.not_mem_nil, or_false] at hit
      rcases hit with rfl | rfl
      · exact sorted53_ok
      · exact sorted54_ok
  · cases h; exact keysP_ok keys45_ok
  · cases h; exact keysP_ok keys47_ok
  · cases h

theorem env_ok (n : Nat) : EnvOK Try.prog (mkE tab fns prims n) := mkE_sound tab_ok (by decide) (fun f A h => fns_ok f A h) (fun f p h => .inl (prims_ok f p h)) n
end Go.Am
