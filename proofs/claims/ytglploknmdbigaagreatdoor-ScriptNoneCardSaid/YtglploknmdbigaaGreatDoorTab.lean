/- This seat's tables: functions without a body, and the two of the library that are taken as they are. -/
import Derived.Test.YtglploknmdbigaaGreatDoorSo
import Derived.Test.YtglploknmdbigaaGreatDoorShelf
import Derived.KernelRfl
namespace Go.Proofs
open Go.RowKit Go.Maps Go.Sort Go.Shelf
theorem Tryz.sortsI (m : Nat) : AnyZI.SortsIn Tryz.prog Tryz.sortedI_ren Fence.wide m :=
  ⟨fun blk off cap ss W hH hblk hsz => callsIn_wide.2 (AnyM.slices_Sort_int Tryz.sortI blk off cap ss W hH hblk hsz),
   fun p cap W => callsIn_wide.2 (AnyM.slices_Sort_int_none Tryz.sortI p cap W)⟩
theorem Tryz.sortsS (m : Nat) : AnyZ.SortsIn Tryz.prog Tryz.sortedS_ren Fence.wide m :=
  ⟨fun blk off cap ss W hH hblk hsz => callsIn_wide.2 (AnyM.slices_Sort_string Tryz.sortS blk off cap ss W hH hblk hsz),
   fun p cap W => callsIn_wide.2 (AnyM.slices_Sort_string_none Tryz.sortS p cap W)⟩
end Go.Proofs
namespace Go.Ev
open Go.Proofs Go.Shelf
set_option linter.unusedSectionVars false
variable [Sym]
def xTab : List (Nat × Ext) := [(227, (.aadd .i64)), (256, .compare), (284, .astore), (374, (.aload .u32)), (378, .astore), (467, (.aload .i64)), (468, (.aswap .u32)), (471, (.acas .i64)), (650, .count), (668, .nothing), (669, (.acas .i32)), (670, .nothing), (671, .marked), (673, .marked), (674, (.aadd .i32)), (729, .indexByte)]
theorem xTab_ok : ExtsAt Tryz.prog xTab :=
  .cons (.of (aadd_ok .i64) Tryz.func227 (by kernel_rfl) (by kernel_rfl) (by kernel_rfl) (by kernel_rfl)) <|
  .cons (.of compare_ok Tryz.func256 (by kernel_rfl) (by kernel_rfl) (by kernel_rfl) (by kernel_rfl)) <|
  .cons (.of astore_ok Tryz.func284 (by kernel_rfl) (by kernel_rfl) (by kernel_rfl) (by kernel_rfl)) <|
  .cons (.of (aload_ok .u32) Tryz.func374 (by kernel_rfl) (by kernel_rfl) (by kernel_rfl) (by kernel_rfl)) <|
  .cons (.of astore_ok Tryz.func378 (by kernel_rfl) (by kernel_rfl) (by kernel_rfl) (by kernel_rfl)) <|
  .cons (.of (aload_ok .i64) Tryz.func467 (by kernel_rfl) (by kernel_rfl) (by kernel_rfl) (by kernel_rfl)) <|
  .cons (.of (aswap_ok .u32) Tryz.func468 (by kernel_rfl) (by kernel_rfl) (by kernel_rfl) (by kernel_rfl)) <|
  .cons (.of (acas_ok .i64) Tryz.func471 (by kernel_rfl) (by kernel_rfl) (by kernel_rfl) (by kernel_rfl)) <|
  .cons (.of count_ok Tryz.func650 (by kernel_rfl) (by kernel_rfl) (by kernel_rfl) (by kernel_rfl)) <|
  .cons (.of (nothing_ok .disable) Tryz.func668 (by kernel_rfl) (by kernel_rfl) (by kernel_rfl) (by kernel_rfl)) <|
  .cons (.of (acas_ok .i32) Tryz.func669 (by kernel_rfl) (by kernel_rfl) (by kernel_rfl) (by kernel_rfl)) <|
  .cons (.of (nothing_ok .enable) Tryz.func670 (by kernel_rfl) (by kernel_rfl) (by kernel_rfl) (by kernel_rfl)) <|
  .cons (.of (marked_ok .acquire) Tryz.func671 (by kernel_rfl) (by kernel_rfl) (by kernel_rfl) (by kernel_rfl)) <|
  .cons (.of (marked_ok .releaseMerge) Tryz.func673 (by kernel_rfl) (by kernel_rfl) (by kernel_rfl) (by kernel_rfl)) <|
  .cons (.of (aadd_ok .i32) Tryz.func674 (by kernel_rfl) (by kernel_rfl) (by kernel_rfl) (by kernel_rfl)) <|
  .cons (.of indexByte_ok Tryz.func729 (by kernel_rfl) (by kernel_rfl) (by kernel_rfl) (by kernel_rfl)) <|
  .nil
noncomputable def cTab : List (Nat × Tab) := [(344, (Ev.keysT 458)), (343, (Ev.sortedT Ev.keyI (Ev.AV.int .i64) Ev.intLt 458)), (478, (Ev.keysT 570)), (477, (Ev.sortedT Ev.keyS Ev.AV.str Ev.strLt 570))]
theorem cTab_ok : TabsAt Tryz.prog cTab :=
  .cons (fun _ _ _ _ h => Ev.keysTI_ok (ρ := Tryz.keysI_ren) Tryz.keysI h) <|
  .cons (fun _ _ _ _ h => Ev.sortedI_ok (ρ := Tryz.sortedI_ren) (ρ' := Tryz.keysI_ren) Tryz.sortedI { Tryz.keysI with } Tryz.sortsI (enters_of Tryz.func457 (by kernel_rfl) rfl) h) <|
  .cons (fun _ _ _ _ h => Ev.keysT_ok (ρ := Tryz.keysS_ren) Tryz.keysS h) <|
  .cons (fun _ _ _ _ h => Ev.sortedS_ok (ρ := Tryz.sortedS_ren) (ρ' := Tryz.keysS_ren) Tryz.sortedS { Tryz.keysS with } Tryz.sortsS (enters_of Tryz.func569 (by kernel_rfl) rfl) h) <|
  .nil
theorem noCount : NoCount Tryz.prog := noCount_of (by kernel_rfl)
end Go.Ev
