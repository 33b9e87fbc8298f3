/- Closed facts of a great program, at a small price: which functions a call can come to, by a table and a mask. -/
import Derived.JoinedOf
import GoSem.ClaimGoes
import Derived.KernelRfl
namespace Go.Ev
section
variable {P : Program}

/-- The functions that a function leads to, off a table. -/
noncomputable def nthT (l : List (List Nat)) (i : Nat) : List Nat := List.rec (motive := fun _ => Nat → List Nat) (fun _ => []) (fun x _ ih i => Nat.rec (motive := fun _ => List Nat) x (fun j _ => ih j) i) l i
theorem nthT_eq : ∀ (l : List (List Nat)) (i : Nat), nthT l i = (l[i]?).getD []
  | [], _ => rfl
  | x :: l, 0 => rfl
  | x :: l, i + 1 => by
    show nthT l i = _
    rw [nthT_eq l i]; simp

noncomputable def walkT (tab : List (List Nat)) (n : Nat) (todo : List Nat) (mask : Nat) (seen : List Nat) : List Nat :=
  Nat.rec (motive := fun _ => List Nat → Nat → List Nat → List Nat) (fun _ _ seen => seen.reverse)
    (fun _ ih todo mask seen => List.casesOn todo seen.reverse fun f todo => Bool.casesOn (Nat.testBit mask f) (ih (nthT tab f ++ todo) (Nat.lor mask (Nat.shiftLeft 1 f)) (f :: seen)) (ih todo mask seen)) n todo mask seen

theorem walkT_eq {tab : List (List Nat)} (ht : ∀ f, (P.funcs[f]?).elim [] P.leadsTo = nthT tab f) : ∀ (n : Nat) (todo : List Nat) (mask : Nat) (seen : List Nat), (∀ f, Nat.testBit mask f = seen.contains f) → P.closureVia n todo seen = walkT tab n todo mask seen
  | 0, todo, mask, seen, _ => by unfold Program.closureVia; rfl
  | n + 1, [], mask, seen, _ => by unfold Program.closureVia; rfl
  | n + 1, f :: todo, mask, seen, hm => by
    unfold Program.closureVia
    show _ = (Bool.casesOn (Nat.testBit mask f) (walkT tab n (nthT tab f ++ todo) (Nat.lor mask (Nat.shiftLeft 1 f)) (f :: seen)) (walkT tab n todo mask seen) : List Nat)
    rw [hm f]
    cases hc : seen.contains f with
    | true => exact walkT_eq ht n todo mask seen hm
    | false =>
      rw [ht f]
      refine walkT_eq ht n _ _ _ fun g => ?_
      show (mask ||| 1 <<< f).testBit g = _
      rw [Nat.testBit_or, hm g, Nat.one_shiftLeft, Nat.testBit_two_pow, List.contains_cons, Bool.or_comm]
      congr 1
      by_cases h : f = g
      · subst h; simp
      · have : ¬ g = f := fun e => h e.symm
        simp [h, this]

/-- A list, part by part. -/
theorem map_parts {α β : Type} {f : α → β} {l a b : List α} {x y : List β} (h : l = a ++ b) (h1 : a.map f = x) (h2 : b.map f = y) : l.map f = x ++ y := by rw [h, List.map_append, h1, h2]
theorem map_part {α β : Type} {f : α → β} {l : List α} {n : Nat} {x y : List β} (h1 : (l.take n).map f = x) (h2 : (l.drop n).map f = y) : l.map f = x ++ y := map_parts (List.take_append_drop n l).symm h1 h2
theorem all_part {α : Type} {f : α → Bool} {l : List α} {n : Nat} (h1 : (l.take n).all f = true) (h2 : (l.drop n).all f = true) : l.all f = true := by
  rw [← List.take_append_drop n l, List.all_append, h1, h2]; rfl

theorem leads_of {tab : List (List Nat)} (h : P.funcs.toList.map P.leadsTo = tab) (f : Nat) : (P.funcs[f]?).elim [] P.leadsTo = nthT tab f := by
  rw [nthT_eq, ← h, List.getElem?_map, Array.getElem?_toList]
  cases P.funcs[f]? <;> rfl
def lens (tab : List (List Nat)) : Nat := (tab.map fun l => l.length + 1).sum
theorem closure_of {tab L : List _} {f : Nat} (h : P.funcs.toList.map P.leadsTo = tab) (hL : walkT tab (1 + lens tab) [f] 0 [] = L) : P.closure f = L := by
  unfold Program.closure
  have e : (P.funcs.toList.map fun g => (P.leadsTo g).length + 1).sum = lens tab := by
    unfold lens; rw [← h, List.map_map]; rfl
  rw [e, walkT_eq (leads_of h) _ _ 0 [] (fun g => by simp), hL]

theorem and_mk {a b : Bool} (h1 : a = true) (h2 : b = true) : (a && b) = true := by rw [h1, h2]; rfl
theorem eq_beq {α : Type} [BEq α] [LawfulBEq α] {a b : α} (h : a = b) : (a == b) = true := by subst h; simp

theorem laidOut_of (h1 : (List.range P.types.size).all (rowFine P) = true) (h2 : (P.globals.all (fun g => decide (g.type < P.types.size))) = true) (h3 : P.funcs.all (fun f => f.params.all fun t => decide (t < P.types.size)) = true) : laidOutB P = true := by
  unfold laidOutB; rw [h1, h2, h3]; rfl
theorem funcs_all {f : Func → Bool} (h : P.funcs.toList.all f = true) : P.funcs.all f = true := by rw [← Array.all_toList]; exact h
theorem goes_of {f : Nat} (h : P.funcs.toList.all (fun fn => !Func.goes fn) = true) : P.goes f = false := by
  have h1 : ∀ fn ∈ P.funcs.toList, Func.goes fn = false := fun fn hf => by simpa using List.all_eq_true.1 h fn hf
  unfold Program.goes
  have a : ((P.closure f).any fun g => (P.funcs[g]?).any Func.goes) = false := by
    rw [List.any_eq_false]
    intro g _ hg
    cases e : P.funcs[g]? with
    | none => rw [e] at hg; cases hg
    | some fn =>
      rw [e] at hg
      have := h1 fn (Array.mem_toList_iff.2 (Array.mem_of_getElem? e))
      rw [Option.any_some, this] at hg; cases hg
  have b : P.funcs.any Func.goes = false := by
    rw [← Array.any_toList, List.any_eq_false]
    intro fn hf hg
    rw [h1 fn hf] at hg; cases hg
  rw [a, b]; simp
end
end Go.Ev
