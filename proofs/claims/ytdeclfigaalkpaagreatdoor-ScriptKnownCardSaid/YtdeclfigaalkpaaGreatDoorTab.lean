/- This seat's tables: functions without a body, and the two of the library that are taken as they are. -/
import Derived.Test.YtdeclfigaalkpaaGreatDoorSo
import Derived.Test.YtdeclfigaalkpaaGreatDoorShelf
import Derived.KernelRfl
namespace Go.Proofs
open Go.RowKit Go.Maps Go.Sort Go.Shelf
theorem Tryz.sortsI (m : Nat) : AnyZI.SortsIn Tryz.prog Tryz.sortedI_ren Fence.wide m :=
  ⟨fun blk off cap ss W hH hblk hsz => callsIn_wide.2 (AnyM.slices_Sort_int Tryz.sortI blk off cap ss W hH hblk hsz),
   fun p cap W => callsIn_wide.2 (AnyM.slices_Sort_int_none Tryz.sortI p cap W)⟩
theorem Tryz.sortsS (m : Nat) : AnyZ.SortsIn Tryz.prog Tryz.sortedS_ren Fence.wide m :=
  ⟨fun blk off cap ss W hH hblk hsz => callsIn_wide.2 (AnyM.slices_Sort_string Tryz.sortS blk off cap ss W hH hblk hsz),
   fun p cap W => callsIn_wide.2 (AnyM.slices_Sort_string_none Tryz.sortS p cap W)⟩
end Go.Proofs
namespace Go.Ev
open Go.Proofs Go.Shelf
def xTab : List (Nat × Ext) := [(203, .compare), (232, .astore), (353, (.aadd .i64)), (421, (.aload .u32)), (508, .astore), (575, (.aload .i64)), (576, (.aswap .u32)), (579, (.acas .i64)), (607, .count), (625, .nothing), (626, (.acas .i32)), (627, .nothing), (628, .marked), (630, .marked), (631, (.aadd .i32)), (717, .indexByte)]
theorem xTab_ok : ExtsAt Tryz.prog xTab :=
  .cons (.of compare_ok Tryz.func203 (by kernel_rfl) (by kernel_rfl) (by kernel_rfl) (by kernel_rfl)) <|
  .cons (.of astore_ok Tryz.func232 (by kernel_rfl) (by kernel_rfl) (by kernel_rfl) (by kernel_rfl)) <|
  .cons (.of (aadd_ok .i64) Tryz.func353 (by kernel_rfl) (by kernel_rfl) (by kernel_rfl) (by kernel_rfl)) <|
  .cons (.of (aload_ok .u32) Tryz.func421 (by kernel_rfl) (by kernel_rfl) (by kernel_rfl) (by kernel_rfl)) <|
  .cons (.of astore_ok Tryz.func508 (by kernel_rfl) (by kernel_rfl) (by kernel_rfl) (by kernel_rfl)) <|
  .cons (.of (aload_ok .i64) Tryz.func575 (by kernel_rfl) (by kernel_rfl) (by kernel_rfl) (by kernel_rfl)) <|
  .cons (.of (aswap_ok .u32) Tryz.func576 (by kernel_rfl) (by kernel_rfl) (by kernel_rfl) (by kernel_rfl)) <|
  .cons (.of (acas_ok .i64) Tryz.func579 (by kernel_rfl) (by kernel_rfl) (by kernel_rfl) (by kernel_rfl)) <|
  .cons (.of count_ok Tryz.func607 (by kernel_rfl) (by kernel_rfl) (by kernel_rfl) (by kernel_rfl)) <|
  .cons (.of (nothing_ok .disable) Tryz.func625 (by kernel_rfl) (by kernel_rfl) (by kernel_rfl) (by kernel_rfl)) <|
  .cons (.of (acas_ok .i32) Tryz.func626 (by kernel_rfl) (by kernel_rfl) (by kernel_rfl) (by kernel_rfl)) <|
  .cons (.of (nothing_ok .enable) Tryz.func627 (by kernel_rfl) (by kernel_rfl) (by kernel_rfl) (by kernel_rfl)) <|
  .cons (.of (marked_ok .acquire) Tryz.func628 (by kernel_rfl) (by kernel_rfl) (by kernel_rfl) (by kernel_rfl)) <|
  .cons (.of (marked_ok .releaseMerge) Tryz.func630 (by kernel_rfl) (by kernel_rfl) (by kernel_rfl) (by kernel_rfl)) <|
  .cons (.of (aadd_ok .i32) Tryz.func631 (by kernel_rfl) (by kernel_rfl) (by kernel_rfl) (by kernel_rfl)) <|
  .cons (.of indexByte_ok Tryz.func717 (by kernel_rfl) (by kernel_rfl) (by kernel_rfl) (by kernel_rfl)) <|
  .nil
noncomputable def cTab : List (Nat × Tab) := [(476, (Ev.keysT 567)), (475, (Ev.sortedT Ev.keyI (Ev.AV.int .i64) Ev.intLt 567)), (586, (Ev.keysT 663)), (585, (Ev.sortedT Ev.keyS Ev.AV.str Ev.strLt 663))]
theorem cTab_ok : TabsAt Tryz.prog cTab :=
  .cons (fun _ _ _ _ h => Ev.keysTI_ok (ρ := Tryz.keysI_ren) Tryz.keysI h) <|
  .cons (fun _ _ _ _ h => Ev.sortedI_ok (ρ := Tryz.sortedI_ren) (ρ' := Tryz.keysI_ren) Tryz.sortedI { Tryz.keysI with } Tryz.sortsI (enters_of Tryz.func566 (by kernel_rfl) rfl) h) <|
  .cons (fun _ _ _ _ h => Ev.keysT_ok (ρ := Tryz.keysS_ren) Tryz.keysS h) <|
  .cons (fun _ _ _ _ h => Ev.sortedS_ok (ρ := Tryz.sortedS_ren) (ρ' := Tryz.keysS_ren) Tryz.sortedS { Tryz.keysS with } Tryz.sortsS (enters_of Tryz.func662 (by kernel_rfl) rfl) h) <|
  .nil
theorem noCount : NoCount Tryz.prog := noCount_of (by kernel_rfl)
end Go.Ev
