/-
  The seat's library functions.
-/
import Derived.Test.YtcjjleelhaphkaaGreatDoorZkD1
import Derived.Test.YtcjjleelhaphkaaGreatDoorQ1
import Derived.Test.YtcjjleelhaphkaaGreatDoorM1
import Derived.Test.YtcjjleelhaphkaaGreatDoorP9
import Derived.Shelf.SlIter.Nil
import Derived.Shelf.SortM.Plain
import Derived.Shelf.SortM.SortNone
import Derived.Ground.GgzProg
import Derived.Ground.SlgmProg
import Derived.Test.YtcjjleelhaphkaaGreatDoorZShelf
import Derived.Test.YtcjjleelhaphkaaGreatDoorCA2
set_option linter.unusedVariables false
set_option linter.unusedSimpArgs false
namespace Go.Proofs
open Go.RowKit Go.Maps Go.Sort Go.Shelf

theorem Tryz.sortsL (m : Nat) : AnyZ.SortsIn Tryz.prog Tryz.sortedL_ren Fence.wide m :=
  ⟨fun blk off cap ss W hH hblk hsz => callsIn_wide.2 (AnyM.slices_Sort_string Tryz.sortL blk off cap ss W hH hblk hsz),
   fun p cap W => callsIn_wide.2 (AnyM.slices_Sort_string_none Tryz.sortL p cap W)⟩
theorem Tryz.setL : (Tryz.prog.info? (Tryz.anyL_ren.t 116)).map (fun i => (i.zero, i.size)) = some (some (.agg (Array.replicate 256 (.bool false))), 256) := by kernel_rfl
theorem Tryz.extraL : Builder.Extra Tryz.prog Tryz.repeatL_ren := {
  sizeBuilder := by kernel_rfl
  liesBuilder := by kernel_rfl
  t5 := Tryz.underlying5
  a5 := Tryz.isAgg5
  z5 := Tryz.sizeOf5
  v5 := Tryz.zeroValue5
  infoByte := by kernel_rfl
  cellsByte := by kernel_rfl
  sizeByte := by kernel_rfl
  neB5 := by decide }
end Go.Proofs

namespace Go.Am
open Go Go.Proofs Go.RowKit Go.Maps Go.Sort Go.Shelf

theorem keysL_ok : KeysHyp Tryz.prog 121 164 141 := ⟨⟨Tryz.f121, _, Tryz.func121, rfl, by decide⟩, fun mb W => AnyZ.keys_in Tryz.keysL Fence.wide 5 trivial rfl mb W⟩

set_option maxHeartbeats 1000000 in
theorem sortedL_ok : SortedHyp Tryz.prog 93 164 9 := by
  refine ⟨Tryz.underlying9, fun b nn D0 R Bm W hBm hcell hown hmax hbytes => ?_, fun Bm W hBm hcell => ?_⟩
  · have hseq : SeqGives Fence.wide 2 Tryz.prog 164 #[.pointer (some ⟨Bm, 0, none⟩)] encStr (fun ss => ss.Perm (strKeys D0)) (Maps.size D0) W :=
      AnyZ.keys_gives (ρ := Tryz.keysL_ren) { Tryz.keysL with } Fence.wide _ trivial rfl (by omega) Bm b nn D0 _ hBm hcell hown
    exact AnyZ.sorted_in Tryz.sortedL Fence.wide 5 trivial trivial trivial trivial rfl (by omega) (Tryz.sortsL _) (enters_of Tryz.func140 (by kernel_rfl) rfl) 164 #[.pointer (some ⟨Bm, 0, none⟩)] trivial (enters_of Tryz.func164 (by kernel_rfl) rfl) _ _ hmax hbytes _ hseq
  · have hseq : SeqGives Fence.wide 2 Tryz.prog 164 #[.pointer (some ⟨Bm, 0, none⟩)] encStr (fun ss : List (List UInt8) => ss = []) 0 W :=
      AnyZ.keys_gives_nil (ρ := Tryz.keysL_ren) { Tryz.keysL with } Fence.wide _ trivial rfl Bm _ hBm hcell
    refine (AnyZ.sorted_in Tryz.sortedL Fence.wide 5 trivial trivial trivial trivial rfl (by omega) (Tryz.sortsL _) (enters_of Tryz.func140 (by kernel_rfl) rfl) 164 #[.pointer (some ⟨Bm, 0, none⟩)] trivial (enters_of Tryz.func164 (by kernel_rfl) rfl) _ 0 (Nat.zero_le _) (by omega) _ hseq).mono ?_
    rintro e w' ⟨v, ss, rfl, hS, _, hnil, hb⟩
    exact ⟨by rw [hnil.2 hS], hb⟩

noncomputable def prims : Prims := fun f =>
  match f with
  | 14 => some repeatP
  | 48 => some indexByteP
  | 93 => some (sortedP [164])
  | 121 => some (keysP 164)
  | 147 => some containsAnyP
  | 221 => some index1P
  | _ => none

theorem prims_ok : ∀ f p, prims f = some p → PrimOK Tryz.prog f p := by
  intro f p h
  unfold prims at h
  split at h
  · cases h; exact repeatP_ok ⟨Tryz.f14, _, Tryz.func14, rfl, by decide⟩ fun s c W h1 h2 => Any.strings_Repeat Tryz.repeatL Tryz.extraL s c W h1 h2
  · cases h; exact indexByteP_ok ⟨Tryz.f48, _, Tryz.func48, rfl, by decide⟩ fun s c W => Any.strings_IndexByte Tryz.indexByteL s c W
  · cases h
    exact sortedP_ok ⟨Tryz.f93, _, Tryz.func93, rfl, by decide⟩ fun it hit => by
      simp only [List.mem_cons, List.not_mem_nil, or_false] at hit
      subst hit
      exact sortedL_ok
  · cases h; exact keysP_ok keysL_ok
  · cases h; exact containsAnyP_ok ⟨Tryz.f147, _, Tryz.func147, rfl, by decide⟩ fun s cs W h1 h2 h3 h4 => Any.strings_ContainsAny_bytes Tryz.anyL Tryz.setL s cs W h3 h1 h2 h4
  · cases h; exact index1P_ok ⟨Tryz.f221, _, Tryz.func221, rfl, by decide⟩ fun s c W => Any.strings_Index_one Tryz.indexL s c W
  · cases h

theorem prims_lim : Prims.Lim prims := by
  intro f p h
  unfold prims at h
  split at h
  · cases h; exact primLim_const (q := repeatP fun _ _ _ => none)
  · cases h; exact primLim_const (q := indexByteP fun _ _ _ => none)
  · cases h; exact primLim_const (q := sortedP [164] fun _ _ _ => none)
  · cases h; exact primLim_const (q := keysP 164 fun _ _ _ => none)
  · cases h; exact primLim_const (q := containsAnyP fun _ _ _ => none)
  · cases h; exact primLim_const (q := index1P fun _ _ _ => none)
  · cases h

theorem env_ok (n : Nat) : EnvOK Tryz.prog (mkE tab fns prims n) := mkE_sound tab_ok (by decide) (fun f A h => fns_ok f A h) (fun f p h => .inl (prims_ok f p h)) n
end Go.Am
