/- Closed facts of this seat's program, part by part. -/
import Derived.Test.YtglploknmdbigaaGreatDoorFb
import Derived.Test.YtglploknmdbigaaGreatDoorRows
namespace Go.Proofs.YtglploknmdbigaaGreatDoor
open Go Go.Ev
set_option maxRecDepth 1000000 in
theorem varsNamed : Tryz.prog.varsNamed 3 = Rows.scriptNoneRow.named := by unfold Program.varsNamed; rw [closure]; kernel_rfl
end Go.Proofs.YtglploknmdbigaaGreatDoor
