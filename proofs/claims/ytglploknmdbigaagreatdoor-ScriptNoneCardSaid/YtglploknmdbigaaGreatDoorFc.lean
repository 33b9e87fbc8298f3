/- Closed facts of this seat's program, part by part. -/
import Derived.Test.YtglploknmdbigaaGreatDoorFb
import Derived.Test.YtglploknmdbigaaGreatDoorRows
namespace Go.Proofs.YtglploknmdbigaaGreatDoor
open Go Go.Ev
set_option maxRecDepth 1000000 in
theorem inPlace : Tryz.prog.inPlace 3 = Rows.scriptNoneRow.inPlace := by unfold Program.inPlace; rw [closure]; kernel_rfl
set_option maxRecDepth 1000000 in
theorem unfollowed : Tryz.prog.unfollowed 3 = true := by unfold Program.unfollowed; rw [closure]; kernel_rfl
theorem recurses : Tryz.prog.recurses 3 = true := by unfold Program.recurses; rw [unfollowed]; rfl
end Go.Proofs.YtglploknmdbigaaGreatDoor
