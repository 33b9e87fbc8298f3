/- ScriptNone's kernel runs: a list of n steps, none of them long; Long, Run and awake by their contracts. Printed by a small program. -/
import Derived.Test.YtglploknmdbigaaGreatDoorNa
namespace Go.Ev
open Go.Proofs
set_option linter.unusedSectionVars false
section
variable [Sym]
noncomputable def cTabN (n : Nat) : List (Nat × Tab) := (4, longT n) :: (5, trueT) :: (6, runT n) :: cTab
/-- The kernel runs ScriptNone at a list of 'n' steps. -/
def RanN (n c : Nat) : Prop := (eval Tryz.prog (fun f => xTab.lookup f) (fun f => (cTabN n).lookup f) 5000 (.call 3 [.sl 0 0 0 n (.ex c)] ⟨.leaf, 1⟩ isTrue) : Option Unit) = some ()
set_option maxHeartbeats 0 in
set_option maxRecDepth 10000000 in
theorem ranN0 (c : Nat) : RanN 0 c := by unfold RanN; kernel_rfl
set_option maxHeartbeats 0 in
set_option maxRecDepth 10000000 in
theorem ranN1 (c : Nat) : RanN 1 c := by unfold RanN; kernel_rfl
set_option maxHeartbeats 0 in
set_option maxRecDepth 10000000 in
theorem ranN2 (c : Nat) : RanN 2 c := by unfold RanN; kernel_rfl
set_option maxHeartbeats 0 in
set_option maxRecDepth 10000000 in
theorem ranN3 (c : Nat) : RanN 3 c := by unfold RanN; kernel_rfl
set_option maxHeartbeats 0 in
set_option maxRecDepth 10000000 in
theorem ranN4 (c : Nat) : RanN 4 c := by unfold RanN; kernel_rfl
set_option maxHeartbeats 0 in
set_option maxRecDepth 10000000 in
theorem ranN5 (c : Nat) : RanN 5 c := by unfold RanN; kernel_rfl
set_option maxHeartbeats 0 in
set_option maxRecDepth 10000000 in
theorem ranN6 (c : Nat) : RanN 6 c := by unfold RanN; kernel_rfl
set_option maxHeartbeats 0 in
set_option maxRecDepth 10000000 in
theorem ranN7 (c : Nat) : RanN 7 c := by unfold RanN; kernel_rfl
set_option maxHeartbeats 0 in
set_option maxRecDepth 10000000 in
theorem ranN8 (c : Nat) : RanN 8 c := by unfold RanN; kernel_rfl
set_option maxHeartbeats 0 in
set_option maxRecDepth 10000000 in
theorem ranN9 (c : Nat) : RanN 9 c := by unfold RanN; kernel_rfl
set_option maxHeartbeats 0 in
set_option maxRecDepth 10000000 in
theorem ranN10 (c : Nat) : RanN 10 c := by unfold RanN; kernel_rfl
set_option maxHeartbeats 0 in
set_option maxRecDepth 10000000 in
theorem ranN11 (c : Nat) : RanN 11 c := by unfold RanN; kernel_rfl
set_option maxHeartbeats 0 in
set_option maxRecDepth 10000000 in
theorem ranN12 (c : Nat) : RanN 12 c := by unfold RanN; kernel_rfl
set_option maxHeartbeats 0 in
set_option maxRecDepth 10000000 in
theorem ranN13 (c : Nat) : RanN 13 c := by unfold RanN; kernel_rfl
set_option maxHeartbeats 0 in
set_option maxRecDepth 10000000 in
theorem ranN14 (c : Nat) : RanN 14 c := by unfold RanN; kernel_rfl
set_option maxHeartbeats 0 in
set_option maxRecDepth 10000000 in
theorem ranN15 (c : Nat) : RanN 15 c := by unfold RanN; kernel_rfl
set_option maxHeartbeats 0 in
set_option maxRecDepth 10000000 in
theorem ranN16 (c : Nat) : RanN 16 c := by unfold RanN; kernel_rfl
set_option maxHeartbeats 0 in
set_option maxRecDepth 10000000 in
theorem ranN17 (c : Nat) : RanN 17 c := by unfold RanN; kernel_rfl
set_option maxHeartbeats 0 in
set_option maxRecDepth 10000000 in
theorem ranN18 (c : Nat) : RanN 18 c := by unfold RanN; kernel_rfl
set_option maxHeartbeats 0 in
set_option maxRecDepth 10000000 in
theorem ranN19 (c : Nat) : RanN 19 c := by unfold RanN; kernel_rfl
set_option maxHeartbeats 0 in
set_option maxRecDepth 10000000 in
theorem ranN20 (c : Nat) : RanN 20 c := by unfold RanN; kernel_rfl
set_option maxHeartbeats 0 in
set_option maxRecDepth 10000000 in
theorem ranN21 (c : Nat) : RanN 21 c := by unfold RanN; kernel_rfl
set_option maxHeartbeats 0 in
set_option maxRecDepth 10000000 in
theorem ranN22 (c : Nat) : RanN 22 c := by unfold RanN; kernel_rfl
set_option maxHeartbeats 0 in
set_option maxRecDepth 10000000 in
theorem ranN23 (c : Nat) : RanN 23 c := by unfold RanN; kernel_rfl
set_option maxHeartbeats 0 in
set_option maxRecDepth 10000000 in
theorem ranN24 (c : Nat) : RanN 24 c := by unfold RanN; kernel_rfl
set_option maxHeartbeats 0 in
set_option maxRecDepth 10000000 in
theorem ranN25 (c : Nat) : RanN 25 c := by unfold RanN; kernel_rfl
set_option maxHeartbeats 0 in
set_option maxRecDepth 10000000 in
theorem ranN26 (c : Nat) : RanN 26 c := by unfold RanN; kernel_rfl
set_option maxHeartbeats 0 in
set_option maxRecDepth 10000000 in
theorem ranN27 (c : Nat) : RanN 27 c := by unfold RanN; kernel_rfl
set_option maxHeartbeats 0 in
set_option maxRecDepth 10000000 in
theorem ranN28 (c : Nat) : RanN 28 c := by unfold RanN; kernel_rfl
set_option maxHeartbeats 0 in
set_option maxRecDepth 10000000 in
theorem ranN29 (c : Nat) : RanN 29 c := by unfold RanN; kernel_rfl
set_option maxHeartbeats 0 in
set_option maxRecDepth 10000000 in
theorem ranN30 (c : Nat) : RanN 30 c := by unfold RanN; kernel_rfl
theorem ranN : ∀ (n : Nat), n ≤ 30 → ∀ c, RanN n c
  | 0, _, c => ranN0 c
  | 1, _, c => ranN1 c
  | 2, _, c => ranN2 c
  | 3, _, c => ranN3 c
  | 4, _, c => ranN4 c
  | 5, _, c => ranN5 c
  | 6, _, c => ranN6 c
  | 7, _, c => ranN7 c
  | 8, _, c => ranN8 c
  | 9, _, c => ranN9 c
  | 10, _, c => ranN10 c
  | 11, _, c => ranN11 c
  | 12, _, c => ranN12 c
  | 13, _, c => ranN13 c
  | 14, _, c => ranN14 c
  | 15, _, c => ranN15 c
  | 16, _, c => ranN16 c
  | 17, _, c => ranN17 c
  | 18, _, c => ranN18 c
  | 19, _, c => ranN19 c
  | 20, _, c => ranN20 c
  | 21, _, c => ranN21 c
  | 22, _, c => ranN22 c
  | 23, _, c => ranN23 c
  | 24, _, c => ranN24 c
  | 25, _, c => ranN25 c
  | 26, _, c => ranN26 c
  | 27, _, c => ranN27 c
  | 28, _, c => ranN28 c
  | 29, _, c => ranN29 c
  | 30, _, c => ranN30 c
  | _ + 31, h, _ => absurd h (by omega)
end
end Go.Ev

namespace Go.Proofs
open Go.RowKit
set_option maxHeartbeats 1000000 in
theorem Tryz.run_empty (p q : Option Addr) (cap : Nat) (w : World) : Calls Tryz.prog 6 #[.pointer p, .slice q 0 cap] w fun e w' => e = .returned (.slice none 0 0) ∧ w' = w := by
  go_enter Tryz.func6, Tryz.ntmps6
  go_wp2
  go_loopw [5, 10] (fun v i wr => v = .slice none 0 0 ∧ i = .int .i64 0 ∧ wr = w)
    (fun _ _ _ => 0)
  case atStart => exact ⟨rfl, rfl, rfl⟩
  case round =>
    obtain ⟨rfl, rfl, rfl⟩ := hrel
    go_wp2
    go_ret
    exact ⟨rfl, rfl⟩
end Go.Proofs
namespace Go.Ev
open Go.Proofs Go.RowKit
set_option linter.unusedSectionVars false
section
variable [Sym]
/-- As run_true, at arguments and over a heap; what the run ends with is told. -/
theorem run_at {P : Program} {X : Nat → Option Ext} {C : Nat → Option Tab} {n f : Nat} (hN : NoCount P) (hD : ∀ ih : Ih Unit, IhAll P ih → DrawsOk P ih) (hC : TableOk P C) (hX : ExtsOk P X) {args : List AV} {H : Heap} {k : AV → Heap → Option Unit}
    (h : (eval P X C n : Ih Unit) (.call f args H k) = some ()) {π : Pi} {w : World} (m : Nat) (hr : Rel π H w) {us : List Value} (hc : concs π args = some us) :
    CallOk P m f us.toArray w fun u w' => ∃ v' H' π', k v' H' = some () ∧ conc π' v' = some u ∧ Post π H w π' H' w' := by
  obtain ⟨v', H', h1, h2⟩ := (eval_ok hN hD hC hX n).1.ops.call _ _ _ _ _ h
  rcases h2 _ w _ m hr hc with ⟨u, w', h3, π', h4, h5⟩ | ⟨h3, h4⟩
  · exact .inl ⟨u, w', h3, v', H', π', h1, h4, h5⟩
  · exact .inr ⟨h3, h4.mono fun e w' ⟨u, he, π', h5, h6⟩ => ⟨u, he, v', H', π', h1, h5, h6⟩⟩
theorem isTrue_inv {v : AV} {H : Heap} (h : isTrue v H = some ()) : v = .bool true := by
  cases v <;> try (cases h; done)
  rename_i b
  cases b
  · cases h
  · rfl
theorem cTabN_ok (hw : AwakeOk) {n b off : Nat} {X Y Z : Nat → Int} {S : Nat → StepCells} (hn : n ≤ 30) (ha : ArgAt n b off X Y Z S) (hl : longTo S n = false) : TabsAt Tryz.prog (cTabN n) :=
  .cons (longT_ok hn ha hl) <| .cons (trueT_ok hw) <| .cons (runT_ok hn ha) cTab_ok
theorem short_true (hw : AwakeOk) {n b off c m : Nat} {X Y Z : Nat → Int} {S : Nat → StepCells} (hn : n ≤ 30) (ha : ArgAt n b off X Y Z S) (hl : longTo S n = false) (hnc : n ≤ c) {w : World} (hlow : Low w) :
    CallOk Tryz.prog m 3 #[.slice (some ⟨b, off, none⟩) n c] w fun u w' => u = .bool true ∧ Below w.heap.size w w' := by
  have hr : Rel (fun r => if r = 0 then some ⟨b, off, 0⟩ else none) ⟨.leaf, 1⟩ w :=
    ⟨fun r hr => if_neg (by have : 1 ≤ r := hr; omega), fun r o l h _ => by simp [Heap.get, Tree.get] at h, fun r r' o o' l l' h => by simp [Heap.get, Tree.get] at h, fun r _ => by simp [Heap.get, Tree.get], hlow, fun r o l h => by simp [Heap.get, Tree.get] at h, fun l hl => by
      rw [ha.zero] at hl; cases hl; rfl⟩
  exact callOk_mono (run_at (noCount_of (by kernel_rfl)) (fun _ h => drawsOk Tryz.keysI.mixed h) (cTabN_ok hw hn ha hl).ok xTab_ok.ok (ranN n hn c) m hr (us := [.slice (some ⟨b, off, none⟩) n c]) (by simp [concs, conc, hnc]))
    fun _ _ ⟨_, _, _, h1, h2, h3⟩ => by
      obtain rfl := isTrue_inv h1
      exact ⟨conc_bool h2, below_of_empty h3⟩
end
/-- The nil list is not long. -/
def nilLongT : Tab := fun args H => match args with
  | [.nilsl, .int .i64 k] => match intEq k 30 with
    | true => some (.bool false, H)
    | false => none
  | _ => none
theorem nilLongT_ok [Sym] : TabAt Tryz.prog 4 nilLongT := by
  intro args H v H' hg π w us m hr hc
  unfold nilLongT at hg
  split at hg
  · rename_i k
    split at hg
    · rename_i hk
      cases hg
      have hk : k = 30 := by rw [intEq_eq] at hk; simpa using hk
      subst hk
      obtain ⟨u1, us1, h1, h2, rfl⟩ := concs_cons hc
      obtain ⟨u2, h3, rfl⟩ := concs_none1 h2
      cases h3
      cases h1
      refine .inr ⟨enters_of Tryz.func4 (by kernel_rfl) rfl _ w, callsIn_wide.2 ((Tryz.long_none none 0 w).mono fun e w' ⟨he, hw⟩ => ⟨_, he, π, rfl, by rw [hw]; exact Post.refl hr⟩)⟩
    · cases hg
  · cases hg
noncomputable def nilRunT : Tab := fun args H => match args with
  | [p, .nilsl] => match noFleetB p H with
    | true => some (.nilsl, H)
    | false => none
  | _ => none
theorem nilRunT_ok [Sym] : TabAt Tryz.prog 6 nilRunT := by
  intro args H v H' hg π w us m hr hc
  unfold nilRunT at hg
  split at hg
  · rename_i p
    split at hg
    · rename_i hk
      cases hg
      obtain ⟨u1, us1, h1, h2, rfl⟩ := concs_cons hc
      obtain ⟨u2, h3, rfl⟩ := concs_none1 h2
      cases h3
      obtain ⟨q, rfl, _⟩ := noFleet_of hk hr h1
      refine .inr ⟨enters_of Tryz.func6 (by kernel_rfl) rfl _ w, callsIn_wide.2 ((Tryz.run_empty q none 0 w).mono fun e w' ⟨he, hw⟩ => ⟨_, he, π, rfl, by rw [hw]; exact Post.refl hr⟩)⟩
    · cases hg
  · cases hg
noncomputable def cTab0 : List (Nat × Tab) := (4, nilLongT) :: (5, trueT) :: (6, nilRunT) :: cTab
set_option maxHeartbeats 0 in
set_option maxRecDepth 10000000 in
theorem ranNil : (eval Tryz.prog (fun f => xTab.lookup f) (fun f => cTab0.lookup f) 5000 (.call 3 [.nilsl] ⟨.leaf, 0⟩ isTrue) : Option Unit) = some () := by kernel_rfl
theorem nil_true (hw : AwakeOk) (w : World) (m : Nat) : CallOk Tryz.prog m 3 #[.slice none 0 0] w fun u w' => u = .bool true ∧ Below w.heap.size w w' := by
  letI : Sym := symNone
  exact callOk_mono (run_at (noCount_of (by kernel_rfl)) (fun _ h => drawsOk Tryz.keysI.mixed h) (TabsAt.ok (.cons nilLongT_ok <| .cons (trueT_ok hw) <| .cons nilRunT_ok cTab_ok)) xTab_ok.ok ranNil m (Rel.empty (low_none w) rfl) (us := [.slice none 0 0]) rfl)
    fun u w' ⟨v', H', π', h1, h2, h3⟩ => by
      obtain rfl := isTrue_inv h1
      exact ⟨conc_bool h2, below_of_empty h3⟩
end Go.Ev
