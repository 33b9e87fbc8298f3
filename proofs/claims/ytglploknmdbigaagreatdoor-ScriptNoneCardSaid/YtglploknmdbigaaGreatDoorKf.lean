/- The row's tie, of its closed facts. -/
import Derived.Test.YtglploknmdbigaaGreatDoorKa
import Derived.Test.YtglploknmdbigaaGreatDoorKb
import Derived.Test.YtglploknmdbigaaGreatDoorKc
import Derived.Test.YtglploknmdbigaaGreatDoorKd
import Derived.Test.YtglploknmdbigaaGreatDoorKe
namespace Go.Proofs.YtglploknmdbigaaGreatDoor
open Go
theorem lawTie : Tryz.prog.laidByTextLater [("unicode/utf8.acceptRanges", Rows.laid_unicode_utf8_acceptRanges)] [.data] true :=
  Program.laidByTextLater_by_one 19 8 33 hw hw2 hroot hk hg hn hrun
theorem rowTie : Rows.scriptNoneRow.laidByTextAt .later Tryz.pinned [.data, .pinned] true :=
  OpenClaim.laidByTextAt_pinned rfl rfl lawTie rfl rfl rfl rfl (fun y hy _e => by
    simp only [Rows.scriptNoneRow, List.zip_cons_cons, List.zip_nil_right, List.mem_cons, List.mem_nil_iff, or_false] at hy
    rcases hy with rfl | rfl
    · cases _e
    · exact ⟨pinFirst, by kernel_rfl⟩) fitsAll
end Go.Proofs.YtglploknmdbigaaGreatDoor
