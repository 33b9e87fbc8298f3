/- A part of the evaluator for closed runs, and of its soundness. -/
import Derived.Test.YtdeclfigaalkpaaGreatDoorTab
namespace Go.Ev
open Go.Proofs
set_option maxHeartbeats 0 in
set_option maxRecDepth 10000000 in
theorem ran : (eval Tryz.prog (fun f => xTab.lookup f) (fun f => cTab.lookup f) 100000 (.call 3 [] ⟨.leaf, 0⟩ isTrue) : Option Unit) = some () := by kernel_rfl
theorem true_ (w : World) (m : Nat) : CallOk Tryz.prog m 3 #[] w fun u w' => u = .bool true ∧ ∃ π H, Post (fun _ => none) ⟨.leaf, 0⟩ w π H w' :=
  run_true (noCount_of (by kernel_rfl)) (fun _ h => drawsOk Tryz.keysI.mixed h) cTab_ok.ok xTab_ok.ok ran w m
#print axioms true_
end Go.Ev
