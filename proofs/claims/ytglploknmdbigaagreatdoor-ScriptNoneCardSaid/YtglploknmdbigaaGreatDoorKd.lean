/- Closed facts of this seat's program for the row's tie, part by part: each part is a text of its own, so that none needs much memory. -/
import Derived.Test.YtglploknmdbigaaGreatDoorRows
import Derived.LaidByTextLater
import Derived.LaidOnce
import Derived.KernelRfl
namespace Go.Proofs.YtglploknmdbigaaGreatDoor
open Go
set_option maxRecDepth 100000
theorem hrun : ∀ os tape, doorLeaves Tryz.prog 19 8 33 [("unicode/utf8.acceptRanges", Rows.laid_unicode_utf8_acceptRanges)] os tape = some (([("unicode/utf8.acceptRanges", Rows.laid_unicode_utf8_acceptRanges)] : List (String × DataW Unit)).filter fun x => x.2.handleName?.isNone, (funcsListed [("unicode/utf8.acceptRanges", Rows.laid_unicode_utf8_acceptRanges)]).map (·.2.funcsOut)) := fun _ _ => by kernel_rfl
end Go.Proofs.YtglploknmdbigaaGreatDoor
