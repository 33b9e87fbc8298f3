/- Closed facts of this seat's program for the row's tie, part by part: each part is a text of its own, so that none needs much memory. -/
import Derived.Test.YtglploknmdbigaaGreatDoorRows
import Derived.LaidByTextLater
import Derived.LaidOnce
import Derived.KernelRfl
namespace Go.Proofs.YtglploknmdbigaaGreatDoor
open Go
set_option maxRecDepth 100000
theorem hw : Tryz.prog.worded (varsWordLater true) = true := by kernel_rfl
theorem hw2 : Tryz.prog.worded (varsWordLater !true) = false := by kernel_rfl
theorem hroot : Tryz.prog.worded rootWordLater = true := by kernel_rfl
end Go.Proofs.YtglploknmdbigaaGreatDoor
