/- The tables for a run of ScriptNone at a list of steps that is not long: Long, awake, Run. -/
import Derived.Test.YtglploknmdbigaaGreatDoorAa
import Derived.Test.YtglploknmdbigaaGreatDoorLa
namespace Go.Ev
open Go.Proofs Go.RowKit
set_option linter.unusedSectionVars false
section
variable [Sym]
/-- Always true, nothing turned. -/
def trueT : Tab := fun args H => match args with | [] => some (.bool true, H) | _ => none
theorem trueT_ok {P : Program} {f : Nat} (h : ∀ w m, CallOk P m f #[] w fun u w' => u = .bool true ∧ Below w.heap.size w w') : TabAt P f trueT := by
  intro args H v H' hg π w us n hr hc
  unfold trueT at hg
  split at hg
  · cases hg
    cases hc
    rcases h w n with ⟨u, w', h1, rfl, h3⟩ | ⟨h1, h2⟩
    · exact .inl ⟨_, w', h1, π, rfl, Post.below hr h3⟩
    · exact .inr ⟨h1, h2.mono fun e w' ⟨u, he, hu, hb⟩ => ⟨u, he, π, by rw [hu]; rfl, Post.below hr hb⟩⟩
  · cases hg

/-- Region 0: a list of 'n' steps that lies below the base. -/
structure ArgAt (n b off : Nat) (X Y Z : Nat → Int) (S : Nat → StepCells) : Prop where
  base : b < Sym.base
  zero : Sym.zero = some ⟨b, off, 0⟩
  cells : ∀ w, Low w → ∀ i, i < n → NineAt w b (off + i * 9) (X i) (Y i) (Z i) (S i)

/-- A list of 'n' steps that is not long. -/
def longT (n : Nat) : Tab := fun args H => match args with
  | [.sl 0 0 0 m (.ex _), .int .i64 k] => match Nat.beq m n && intEq k 30 with
    | true => some (.bool false, H)
    | false => none
  | _ => none
theorem conc_arg {π : Pi} {H : Heap} {w : World} (hr : Rel π H w) {n b off m c : Nat} {X Y Z : Nat → Int} {S : Nat → StepCells} (ha : ArgAt n b off X Y Z S) {u : Value} (h : conc π (.sl 0 0 0 m (.ex c)) = some u) : u = .slice (some ⟨b, off, none⟩) m c := by
  have h0 := hr.zero _ ha.zero
  unfold conc at h
  rw [h0] at h
  simp only at h
  split at h
  · cases h; rfl
  · cases h
theorem longT_ok {n b off : Nat} {X Y Z : Nat → Int} {S : Nat → StepCells} (hn : n ≤ 30) (ha : ArgAt n b off X Y Z S) (hl : longTo S n = false) : TabAt Tryz.prog 4 (longT n) := by
  intro args H v H' hg π w us m hr hc
  unfold longT at hg
  split at hg
  · rename_i m' c k
    split at hg
    · rename_i hb
      cases hg
      simp only [Bool.and_eq_true] at hb
      have hm := Nat.eq_of_beq_eq_true hb.1
      have hk : k = 30 := by have := hb.2; rw [intEq_eq] at this; simpa using this
      subst hm hk
      obtain ⟨u1, us1, h1, h2, rfl⟩ := concs_cons hc
      obtain ⟨u2, h3, rfl⟩ := concs_none1 h2
      cases h3
      have := conc_arg hr ha h1
      subst this
      have hcall := Tryz.long b off m' c S w (by omega) (Nat.lt_of_lt_of_le ha.base hr.low.size) fun i hi => (ha.cells w hr.low i hi).st
      rw [show min m' 31 = m' by omega, hl, show decide (30 < m') = false by simp; omega] at hcall
      exact .inr ⟨enters_of Tryz.func4 (by kernel_rfl) rfl _ w, callsIn_wide.2 (hcall.mono fun e w' ⟨he, hb⟩ => ⟨_, he, π, rfl, Post.below hr hb⟩)⟩
    · cases hg
  · cases hg

/-- Nobody made it. -/
noncomputable def noFleetB (p : AV) (H : Heap) : Bool := match p with
  | .nilptr => true
  | .ptr r o => match H.get r with
    | some (.cells cs) => match nthL cs (o + 1) with
      | some .nilsl => true
      | _ => false
    | _ => false
  | _ => false
theorem noFleet_of {p : AV} {H : Heap} (h : noFleetB p H = true) {π : Pi} {w : World} (hr : Rel π H w) {u : Value} (hu : conc π p = some u) : ∃ q, u = .pointer q ∧ NoFleet q w := by
  unfold noFleetB at h
  split at h
  · cases hu; exact ⟨none, rfl, .inl rfl⟩
  · rename_i r o
    split at h
    · rename_i cs hcs
      split at h
      · rename_i hn
        obtain ⟨l, hl, rfl⟩ := conc_ptr hu
        obtain ⟨x, h1, h2⟩ := hr.cell hcs hl (nthL_some hn)
        cases h2
        refine ⟨_, rfl, .inr ⟨l.block, l.shift + o, rfl, ?_, by rw [Nat.add_assoc]; exact h1⟩⟩
        obtain ⟨ob, h3, _⟩ := hr.obj r _ l hcs hl
        exact (Array.getElem?_eq_some_iff.1 h3).1
      · cases h
    · cases h
  · cases h
/-- As many refusals as there are steps. -/
noncomputable def runT (n : Nat) : Tab := fun args H => match args with
  | [p, .sl 0 0 0 m (.ex _)] => match Nat.beq m n && noFleetB p H with
    | true => match n with
      | 0 => some (.nilsl, H)
      | k + 1 => newH H (.cells (List.replicate (k + 1) (.int .i64 1))) fun r H' => some (.sl r 0 0 (k + 1) (.un 1), H')
    | false => none
  | _ => none
theorem concs_ones {π : Pi} : ∀ n, concs π (List.replicate n (.int .i64 1)) = some (ones n)
  | 0 => rfl
  | n + 1 => concs_mk rfl (concs_ones n)
theorem runT_ok {n b off : Nat} {X Y Z : Nat → Int} {S : Nat → StepCells} (hn : n ≤ 30) (ha : ArgAt n b off X Y Z S) : TabAt Tryz.prog 6 (runT n) := by
  intro args H v H' hg π w us m hr hc
  unfold runT at hg
  split at hg
  · rename_i p m' c
    split at hg
    · rename_i hb
      simp only [Bool.and_eq_true] at hb
      have hm := Nat.eq_of_beq_eq_true hb.1
      subst hm
      obtain ⟨u1, us1, h1, h2, rfl⟩ := concs_cons hc
      obtain ⟨u2, h3, rfl⟩ := concs_none1 h2
      have := conc_arg hr ha h3
      subst this
      obtain ⟨q, rfl, hq⟩ := noFleet_of hb.2 hr h1
      have hcall := Tryz.run_none q b off m' c X Y Z S w hq (by omega) (Nat.lt_of_lt_of_le ha.base hr.low.size) (ha.cells w hr.low)
      refine .inr ⟨enters_of Tryz.func6 (by kernel_rfl) rfl _ w, callsIn_wide.2 (hcall.mono fun e w' ⟨x, he, hown, hbel, hnil⟩ => ⟨_, he, ?_⟩)⟩
      cases m' with
      | zero =>
        cases hg
        have := hnil.2 rfl
        subst this
        exact ⟨π, rfl, Post.below hr hbel⟩
      | succ k =>
        obtain ⟨H1, h4, hN, hH⟩ := newH_inv (show newH H (.cells (List.replicate (k + 1) (.int .i64 1))) (fun r H' => some (AV.sl r 0 0 (k + 1) (.un 1), H')) = some (v, H') from hg)
        cases h4
        have := sorted_after (avs := List.replicate (k + 1) (.int .i64 1)) hr hbel (by simpa using hown) (fun e => absurd (hnil.1 e) (by omega)) (concs_ones _) (by simp [AV.flats, AV.flat]) hN hH
        simpa using this
    · cases hg
  · cases hg
end
end Go.Ev
