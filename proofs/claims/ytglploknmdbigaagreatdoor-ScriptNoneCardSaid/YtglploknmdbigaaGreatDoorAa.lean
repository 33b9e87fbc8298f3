/- What awake says: true, and nothing that was there is turned. -/
import Derived.Test.YtglploknmdbigaaGreatDoorTab
namespace Go.Ev
open Go.Proofs Go.RowKit
abbrev symNone : Sym := ⟨fun _ => .pointer none, fun _ => ⟨nofun, nofun⟩, fun _ _ => nofun, 0, fun _ => none, none⟩
theorem low_none (w : World) : @Low symNone w := @Low.mk symNone w (Nat.zero_le _) fun _ h => absurd h (Nat.not_lt_zero _)
theorem below_of_empty [Sym] {π : Pi} {n : Nat} {π0 : Pi} {H : Heap} {w w' : World} (hp : Post π0 ⟨.leaf, n⟩ w π H w') : Below w.heap.size w w' :=
  ⟨hp.os, hp.tape, hp.output, hp.size, fun k hk => hp.frame k hk fun ⟨_, _, _, h1, _, _⟩ => by simp [Heap.get, Tree.get] at h1⟩
/-- What is wanted of awake. -/
def AwakeOk : Prop := ∀ (w : World) (m : Nat), CallOk Tryz.prog m 5 #[] w fun u w' => u = .bool true ∧ Below w.heap.size w w'
theorem callOk_mono {P : Program} {n : Nat} {f : FuncId} {args : Array Value} {w : World} {K K' : Value → World → Prop} (h : CallOk P n f args w K) (hk : ∀ u w', K u w' → K' u w') : CallOk P n f args w K' := by
  rcases h with ⟨u, w', h1, h2⟩ | ⟨h1, h2⟩
  · exact .inl ⟨u, w', h1, hk u w' h2⟩
  · exact .inr ⟨h1, h2.mono fun e w' ⟨u, he, h3⟩ => ⟨u, he, hk u w' h3⟩⟩
end Go.Ev
