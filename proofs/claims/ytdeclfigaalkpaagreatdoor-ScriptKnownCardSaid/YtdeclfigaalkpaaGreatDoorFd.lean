/- Closed facts of this seat's program, part by part. -/
import Derived.Test.YtdeclfigaalkpaaGreatDoorFb
import Derived.Test.YtdeclfigaalkpaaGreatDoorRows
namespace Go.Proofs.YtdeclfigaalkpaaGreatDoor
open Go Go.Ev
set_option maxRecDepth 1000000 in
theorem varsNamed : Tryz.prog.varsNamed 3 = Rows.scriptKnownRow.named := by unfold Program.varsNamed; rw [closure]; kernel_rfl
end Go.Proofs.YtdeclfigaalkpaaGreatDoor
