/- Closed facts of this seat's program for the row's tie, part by part: each part is a text of its own, so that none needs much memory. -/
import Derived.Test.YtglploknmdbigaaGreatDoorRows
import Derived.LaidByTextLater
import Derived.LaidOnce
import Derived.KernelRfl
namespace Go.Proofs.YtglploknmdbigaaGreatDoor
open Go
set_option maxRecDepth 100000
theorem hk : ([("unicode/utf8.acceptRanges", Rows.laid_unicode_utf8_acceptRanges)] : List (String × DataW Unit)).map (fun x => Tryz.prog.kindOfLater x.1) = [LaidKind.data].map some := by kernel_rfl
theorem hg : (Tryz.prog.funcNamed "gosem.cut.vars").isSome = true := by kernel_rfl
end Go.Proofs.YtglploknmdbigaaGreatDoor
