/- The kernel runs awake. -/
import Derived.Test.YtglploknmdbigaaGreatDoorAa
namespace Go.Ev
open Go.Proofs
set_option maxHeartbeats 0 in
set_option maxRecDepth 10000000 in
theorem ranAwake : (eval Tryz.prog (fun f => xTab.lookup f) (fun f => cTab.lookup f) 100000 (.call 5 [] ⟨.leaf, 0⟩ isTrue) : Option Unit) = some () := by kernel_rfl
theorem awakeOk : AwakeOk := fun w m => by
  letI : Sym := symNone
  exact callOk_mono (run_true (noCount_of (by kernel_rfl)) (fun _ h => drawsOk Tryz.keysI.mixed h) cTab_ok.ok xTab_ok.ok ranAwake w m (low_none w) rfl) fun _ _ ⟨h1, _, _, h2⟩ => ⟨h1, below_of_empty h2⟩
#print axioms awakeOk
end Go.Ev
