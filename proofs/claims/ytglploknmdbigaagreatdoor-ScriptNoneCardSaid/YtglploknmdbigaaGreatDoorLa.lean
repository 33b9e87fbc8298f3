/- Long: which steps are long. -/
import Derived.Test.YtglploknmdbigaaGreatDoorProg
import Derived.WalkKit
import Derived.WalkSpells
import Derived.OwnWalk
import Derived.Deep.Slices
import Derived.ChangeArms
namespace Go.Proofs
open Go.RowKit

/-- A step's cells, of which Long looks at four. -/
structure StepCells where
  pa : ByteArray
  to : ByteArray
  ke : Int
  mo : Int
  bp : Option Addr
  bl : Nat
  bc : Nat
  kp : Option Addr
  kl : Nat
  kc : Nat
def StepCells.long (s : StepCells) : Bool := decide (100 < s.pa.size) || (decide (100 < s.to.size) || (decide (1200 < s.bl) || decide (20 < s.kl)))
structure StepAt (w : World) (b o : Nat) (s : StepCells) : Prop where
  c3 : w.cell? ⟨b, o + 3, none⟩ = some (.string s.pa)
  c4 : w.cell? ⟨b, o + 4, none⟩ = some (.string s.to)
  c5 : w.cell? ⟨b, o + 5, none⟩ = some (.int .i64 s.ke)
  c6 : w.cell? ⟨b, o + 6, none⟩ = some (.int .i64 s.mo)
  c7 : w.cell? ⟨b, o + 7, none⟩ = some (.slice s.bp s.bl s.bc)
  c8 : w.cell? ⟨b, o + 8, none⟩ = some (.slice s.kp s.kl s.kc)

theorem dec_cast (a n : Nat) : decide ((a : Int) < (n : Int)) = decide (a < n) := by
  by_cases h : a < n
  · simp [h]
  · simp [h]

set_option maxHeartbeats 1000000 in
theorem Tryz.longEffect (ke mo : Int) (p : Option Addr) (n c : Nat) (w : World) : Calls Tryz.prog 10 #[.agg #[.int .i64 ke, .int .i64 mo, .slice p n c]] w fun e w' => e = .returned (.bool (decide (1200 < n))) ∧ w' = w.alloc (.cells #[.int .i64 ke, .int .i64 mo, .slice p n c] 46) := by
  go_enter Tryz.func10, Tryz.ntmps10
  go_wp2
  go_ret
  exact ⟨by rw [← dec_cast]; rfl, rfl⟩

def longTo (S : Nat → StepCells) : Nat → Bool
  | 0 => false
  | k + 1 => longTo S k || (S k).long
theorem longTo_true {S : Nat → StepCells} {k : Nat} (h : (S k).long = true) : ∀ n, k < n → longTo S n = true
  | 0, hn => by omega
  | n + 1, hn => by
    unfold longTo
    by_cases e : k = n
    · subst e; rw [h, Bool.or_true]
    · rw [longTo_true h n (by omega), Bool.true_or]
theorem long_hit {S : Nat → StepCells} {k len : Nat} (hk : k < len) (h30 : (k : Int) ≤ 30) (h : (S k).long = true) : (longTo S (min len 31) || decide (30 < len)) = true := by
  rw [longTo_true h _ (by omega), Bool.true_or]
theorem StepAt.below {w w' : World} {b o : Nat} {s : StepCells} (h : StepAt w b o s) (hb : Below w.heap.size w w') (hl : b < w.heap.size) : StepAt w' b o s :=
  ⟨(hb.cell (p := ⟨b, _, none⟩) hl).trans h.c3, (hb.cell (p := ⟨b, _, none⟩) hl).trans h.c4, (hb.cell (p := ⟨b, _, none⟩) hl).trans h.c5, (hb.cell (p := ⟨b, _, none⟩) hl).trans h.c6, (hb.cell (p := ⟨b, _, none⟩) hl).trans h.c7, (hb.cell (p := ⟨b, _, none⟩) hl).trans h.c8⟩

set_option maxHeartbeats 4000000 in
set_option maxRecDepth 100000 in
theorem Tryz.long (b off len cap : Nat) (S : Nat → StepCells) (w : World) (hlen : len ≤ 9223372036854775807) (hb : b < w.heap.size) (hc : ∀ i, i < len → StepAt w b (off + i * 9) (S i)) :
    Calls Tryz.prog 4 #[.slice (some ⟨b, off, none⟩) len cap, .int .i64 30] w fun e w' => e = .returned (.bool (longTo S (min len 31) || decide (30 < len))) ∧ Below w.heap.size w w' := by
  go_enter Tryz.func4, Tryz.ntmps4
  go_wp2
  go_loopw [5] (fun i wr => ∃ k : Nat, k ≤ len ∧ k ≤ 31 ∧ i = .int .i64 k ∧ longTo S k = false ∧ Below w.heap.size w wr)
    (fun i _ => 31 - (intOf i).toNat)
  case atStart => exact ⟨0, Nat.zero_le _, by omega, rfl, rfl, Below.refl _ w⟩
  case round =>
    obtain ⟨k, hk, hk2, rfl, hno, hbw⟩ := hrel
    have hcell : k < len → StepAt wr b (off + k * 9) (S k) := fun h => (hc k h).below hbw hb
    have h3 : k < len → wr.cell? ⟨b, off + k * 9 + 3, none⟩ = some (.string (S k).pa) := fun h => (hcell h).c3
    have h4 : k < len → wr.cell? ⟨b, off + k * 9 + 4, none⟩ = some (.string (S k).to) := fun h => (hcell h).c4
    have h5 : k < len → wr.cell? ⟨b, off + k * 9 + 5, none⟩ = some (.int .i64 (S k).ke) := fun h => (hcell h).c5
    have h6 : k < len → wr.cell? ⟨b, off + k * 9 + 5 + 1, none⟩ = some (.int .i64 (S k).mo) := fun h => (hcell h).c6
    have h7 : k < len → wr.cell? ⟨b, off + k * 9 + 5 + 2, none⟩ = some (.slice (S k).bp (S k).bl (S k).bc) := fun h => (hcell h).c7
    have hbr : b < wr.heap.size := Nat.lt_of_lt_of_le hb hbw.size
    have h8 : k < len → ∀ ob, (wr.alloc ob).cell? ⟨b, off + k * 9 + 8, none⟩ = some (.slice (S k).kp (S k).kl (S k).kc) := fun h ob => (((Below.refl _ wr).alloc (Nat.le_refl _) ob).cell (p := ⟨b, _, none⟩) hbr).trans (hcell h).c8
    go_wp2_with (go_at_call 10; refine (Tryz.longEffect _ _ _ _ _ _).mono ?_; rintro e w' ⟨rfl, rfl⟩)
    · go_ret
      exact ⟨by show Ending.returned (.bool true) = _; rw [long_hit (k := k) (by assumption) (by assumption) (by simp only [StepCells.long]; simp; omega)], hbw.alloc hbw.size _⟩
    · go_roundw
      case rel => exact ⟨k + 1, by omega, by omega, by go_num, by simp only [longTo, hno, StepCells.long]; simp; omega, hbw.alloc hbw.size _⟩
      case measure => simp [intOf]; omega
    · go_ret
      exact ⟨by show Ending.returned (.bool true) = _; rw [long_hit (k := k) (by assumption) (by assumption) (by simp only [StepCells.long]; simp; omega)], hbw.alloc hbw.size _⟩
    · go_ret
      exact ⟨by show Ending.returned (.bool true) = _; rw [long_hit (k := k) (by assumption) (by assumption) (by simp only [StepCells.long]; simp; omega)], hbw⟩
    · go_ret
      exact ⟨by show Ending.returned (.bool true) = _; rw [long_hit (k := k) (by assumption) (by assumption) (by simp only [StepCells.long]; simp; omega)], hbw⟩
    · go_ret
      have h31 : k = 31 := by omega
      subst h31
      exact ⟨by rw [show min len 31 = 31 by omega, hno]; simp; omega, hbw⟩
    · go_ret
      have hkl : k = len := by omega
      subst hkl
      exact ⟨by rw [show min k 31 = k by omega, hno]; simp; omega, hbw⟩
end Go.Proofs

namespace Go.Proofs
open Go.RowKit
set_option maxHeartbeats 1000000 in
theorem Tryz.long_none (p : Option Addr) (cap : Nat) (w : World) :
    Calls Tryz.prog 4 #[.slice p 0 cap, .int .i64 30] w fun e w' => e = .returned (.bool false) ∧ w' = w := by
  go_enter Tryz.func4, Tryz.ntmps4
  go_wp2
  go_loopw [5] (fun i wr => i = .int .i64 0 ∧ wr = w)
    (fun _ _ => 0)
  case atStart => exact ⟨rfl, rfl⟩
  case round =>
    obtain ⟨rfl, rfl⟩ := hrel
    go_wp2
    go_ret
    exact ⟨rfl, rfl⟩
end Go.Proofs

namespace Go.Proofs
open Go.RowKit

theorem Tryz.none_nil (w : World) : Calls Tryz.prog 37 #[.pointer none] w fun e w' => e = .returned (.bool true) ∧ w' = w := by
  go_enter Tryz.func37, Tryz.ntmps37
  go_wp2
  go_ret
  exact ⟨rfl, rfl⟩
theorem Tryz.none_zero (b o : Nat) (w : World) (h : w.cell? ⟨b, o + 1, none⟩ = some (.slice none 0 0)) : Calls Tryz.prog 37 #[.pointer (some ⟨b, o, none⟩)] w fun e w' => e = .returned (.bool true) ∧ w' = w := by
  go_enter Tryz.func37, Tryz.ntmps37
  go_wp2
  go_ret
  exact ⟨rfl, rfl⟩
/-- A fleet that nobody made. -/
def NoFleet (p : Option Addr) (w : World) : Prop := p = none ∨ ∃ b o, p = some ⟨b, o, none⟩ ∧ b < w.heap.size ∧ w.cell? ⟨b, o + 1, none⟩ = some (.slice none 0 0)
theorem NoFleet.below {p : Option Addr} {w w' : World} (h : NoFleet p w) (hb : Below w.heap.size w w') : NoFleet p w' := by
  rcases h with h | ⟨b, o, h1, h2, h3⟩
  · exact .inl h
  · exact .inr ⟨b, o, h1, Nat.lt_of_lt_of_le h2 hb.size, (hb.cell (p := ⟨b, _, none⟩) h2).trans h3⟩
theorem Tryz.none_of {p : Option Addr} {w : World} (h : NoFleet p w) : Calls Tryz.prog 37 #[.pointer p] w fun e w' => e = .returned (.bool true) ∧ w' = w := by
  rcases h with rfl | ⟨b, o, rfl, _, h⟩
  · exact Tryz.none_nil w
  · exact Tryz.none_zero b o w h
theorem Tryz.do_none (p : Option Addr) (c0 c1 c2 c3 c4 c5 c6 c7 c8 : Value) (w : World) (h : NoFleet p w) :
    Calls Tryz.prog 15 #[.pointer p, .agg #[c0, c1, c2, c3, c4, c5, c6, c7, c8]] w fun e w' => e = .returned (.int .i64 1) ∧ Below w.heap.size w w' := by
  go_enter Tryz.func15, Tryz.ntmps15
  have hb := (Below.refl w.heap.size w).alloc (Nat.le_refl _) (.cells #[c0, c1, c2, c3, c4, c5, c6, c7, c8] 49)
  have hn := h.below hb
  go_wp2_with (go_at_call 37; refine (Tryz.none_of hn).mono ?_; rintro e w' ⟨rfl, rfl⟩)
  go_ret
  exact ⟨rfl, hb⟩
end Go.Proofs

namespace Go.Proofs
open Go.RowKit
theorem Tryz.info39 : (Tryz.prog.info? 39).map (fun i => (i.zero, i.size, i.bytes)) = some (some (.int .i64 0), 1, 8) := by kernel_rfl
def ones (n : Nat) : List Value := List.replicate n (.int .i64 1)
/-- A step's nine cells. -/
structure NineAt (w : World) (b o : Nat) (x y z : Int) (s : StepCells) : Prop where
  c0 : w.cell? ⟨b, o, none⟩ = some (.int .i64 x)
  c1 : w.cell? ⟨b, o + 1, none⟩ = some (.int .i64 y)
  c2 : w.cell? ⟨b, o + 2, none⟩ = some (.int .i64 z)
  st : StepAt w b o s
theorem NineAt.below {w w' : World} {b o : Nat} {x y z : Int} {s : StepCells} (h : NineAt w b o x y z s) (hb : Below w.heap.size w w') (hl : b < w.heap.size) : NineAt w' b o x y z s :=
  ⟨(hb.cell (p := ⟨b, _, none⟩) hl).trans h.c0, (hb.cell (p := ⟨b, _, none⟩) hl).trans h.c1, (hb.cell (p := ⟨b, _, none⟩) hl).trans h.c2, h.st.below hb hl⟩
theorem ownsRow_below {w w' : World} {base : Nat} {e : TypeId} {size : Nat} {v : Value} {n : Nat} {xs : List Value} (h : w.ownsRow base e size v n xs) (hb : Below w.heap.size w w') : w'.ownsRow base e size v n xs := by
  obtain ⟨h1, h2 | ⟨g, cap, cur, h3, h4, h5, h6⟩⟩ := h
  · exact ⟨h1, .inl h2⟩
  · exact ⟨h1, .inr ⟨g, cap, cur, h3, h4, (hb.block g (Array.getElem?_eq_some_iff.1 h5).1).trans h5, h6⟩⟩
theorem own_ge {w : World} {base : Nat} {e : TypeId} {size : Nat} {v : Value} {n : Nat} {xs : List Value} (h : w.ownsRow base e size v n xs) : ∀ k, v.ownBlock = some k → base ≤ k := by
  obtain ⟨_, ⟨h2, _⟩ | ⟨g, cap, cur, h3, h4, _⟩⟩ := h
  · subst h2; intro k hk; cases hk
  · subst h3; intro k hk; cases hk; exact h4
set_option maxHeartbeats 4000000 in
set_option maxRecDepth 1000000 in
theorem Tryz.run_none (p : Option Addr) (b off len cap : Nat) (X Y Z : Nat → Int) (S : Nat → StepCells) (w : World) (hp : NoFleet p w) (hlen : len ≤ 1000) (hb : b < w.heap.size) (hc : ∀ i, i < len → NineAt w b (off + i * 9) (X i) (Y i) (Z i) (S i)) :
    Calls Tryz.prog 6 #[.pointer p, .slice (some ⟨b, off, none⟩) len cap] w fun e w' => ∃ v, e = .returned v ∧ w'.ownsRow w.heap.size 39 1 v len (ones len) ∧ Below w.heap.size w w' ∧ (v = .slice none 0 0 ↔ len = 0) := by
  obtain ⟨i0, hi, hz0, hz1, hz2⟩ := info_parts Tryz.info39
  go_enter Tryz.func6, Tryz.ntmps6
  go_wp2
  go_loopw [5, 10] (fun v i wr => ∃ k : Nat, k ≤ len ∧ i = .int .i64 k ∧ wr.ownsRow w.heap.size 39 1 v k (ones k) ∧ Below w.heap.size w wr ∧ (v = .slice none 0 0 ↔ k = 0))
    (fun _ i _ => len - (intOf i).toNat)
  case atStart => exact ⟨0, Nat.zero_le _, rfl, World.ownsRow_nil _ _ _ _, Below.refl _ _, by simp⟩
  case round =>
    obtain ⟨k, hk, rfl, hown, hnx, hnil⟩ := hrel
    have hcx : k < len → NineAt wr b (off + k * 9) (X k) (Y k) (Z k) (S k) := fun h => (hc k h).below hnx hb
    have x0 : k < len → wr.cell? ⟨b, off + k * 9, none⟩ = some (.int .i64 (X k)) := fun h => (hcx h).c0
    have x1 : k < len → wr.cell? ⟨b, off + k * 9 + 1, none⟩ = some (.int .i64 (Y k)) := fun h => (hcx h).c1
    have x2 : k < len → wr.cell? ⟨b, off + k * 9 + 2, none⟩ = some (.int .i64 (Z k)) := fun h => (hcx h).c2
    have x3 : k < len → wr.cell? ⟨b, off + k * 9 + 3, none⟩ = some (.string (S k).pa) := fun h => (hcx h).st.c3
    have x4 : k < len → wr.cell? ⟨b, off + k * 9 + 4, none⟩ = some (.string (S k).to) := fun h => (hcx h).st.c4
    have x5 : k < len → wr.cell? ⟨b, off + k * 9 + 5, none⟩ = some (.int .i64 (S k).ke) := fun h => (hcx h).st.c5
    have x6 : k < len → wr.cell? ⟨b, off + k * 9 + 6, none⟩ = some (.int .i64 (S k).mo) := fun h => (hcx h).st.c6
    have x7 : k < len → wr.cell? ⟨b, off + k * 9 + 7, none⟩ = some (.slice (S k).bp (S k).bl (S k).bc) := fun h => (hcx h).st.c7
    have x8 : k < len → wr.cell? ⟨b, off + k * 9 + 8, none⟩ = some (.slice (S k).kp (S k).kl (S k).kc) := fun h => (hcx h).st.c8
    clear hcx
    have hB : w.heap.size ≤ wr.heap.size := hnx.size
    go_wp2_with (first
      | (go_at_call 15; refine (Tryz.do_none p _ _ _ _ _ _ _ _ _ _ (hp.below (hnx.alloc hB _))).mono ?_; rintro e w1 ⟨rfl, hb1⟩)
      | (at_builtin; refine wpList_append_own _ rfl _ _ 37 rfl w.heap.size 39 i0 (.int .i64 0) 1 8 Tryz.underlying37 hi hz0 hz1 hz2 rfl (by decide) _ _ _ rfl (((ownsRow_below (hown.alloc _) hb1)).alloc _) ⟨w1.heap.size, 0, none⟩ 1 1 [.int .i64 1] rfl rfl ?c1 ?c2 ?c3 ?c4 ?c5 ?_))
    case c1 =>
      intro j u hj
      match j, hj with
      | 0, hj => simp at hj; subst hj; simp [Addr.add]
    case c2 => intro u hu; simp at hu; subst hu; rfl
    case c3 => unfold maxLen; omega
    case c4 => omega
    case c5 => have := hb1.size; simp at this ⊢; omega
    · intro v' w2 hown' hgrow hn'
      have hlt : k < len := by assumption
      have hbel := (hnx.alloc hB _).trans (hb1.mono (by simp; omega))
      have hs1 := hb1.size
      have hb2 : Below w.heap.size w w2 := (hbel.alloc (by simp at hs1; omega) _).grown hgrow (by simp at hs1 ⊢; omega) (own_ge hown)
      clear hgrow hown hbel hb1 x0 x1 x2 x3 x4 x5 x6 x7 x8
      go_wp2
      go_roundw
      case rel => exact ⟨k + 1, by omega, by simp, by simpa [ones, List.replicate_succ'] using hown', hb2, by simp [hn']⟩
      case measure => simp [intOf]; omega
    · have hge : ¬ k < len := by assumption
      have hkl : k = len := by omega
      subst hkl
      go_ret
      exact ⟨_, rfl, hown, hnx, hnil⟩
end Go.Proofs

namespace Go.Proofs
open Go.RowKit Go.ChangeShapes Go.WideShapes Go.Deep
section
variable {H : Type} {enc : TypeId × Value → H} {w : World} {base : Nat} {spare : Nat → Bool} {held : Bool}
theorem list_of_nine {α : Type} {l : List α} (h : l.length = 9) : ∃ a b c d e f g i j, l = [a, b, c, d, e, f, g, i, j] := by
  match l, h with
  | [a, b, c, d, e, f, g, i, j], _ => exact ⟨a, b, c, d, e, f, g, i, j, rfl⟩
theorem slice_value {P : Program} {t e : TypeId} {fuel : Nat} {v : Value} {x : DataW H × List MemPlace} (ht : P.underlying t = some (.slice e)) (h : DataW.trod enc P w base spare held fuel t [v] = some x) : ∃ p n c, v = .slice p n c := by
  rcases DataW.trod_slice ht h with ⟨h0, _⟩ | ⟨a, len, cap, _, _, _, _, h0, _⟩ <;> (cases h0; exact ⟨_, _, _, rfl⟩)
set_option maxRecDepth 100000 in
theorem Tryz.open_step {fuel : Nat} {cs : List Value} {x : DataW H × List MemPlace} (h : DataW.trod enc Tryz.prog w base spare held fuel 49 cs = some x) :
    ∃ (k n at' : Int) (S : StepCells), cs = [.int .i64 k, .int .i64 n, .int .i64 at', .string S.pa, .string S.to, .int .i64 S.ke, .int .i64 S.mo, .slice S.bp S.bl S.bc, .slice S.kp S.kl S.kc] := by
  obtain ⟨xs, n0, rfl, rfl, hl, hxl, hf⟩ := DataW.trod_struct (P := Tryz.prog) (t := 49) rfl h
  rw [show Tryz.prog.cellsOf 49 = 9 by kernel_rfl] at hl
  obtain ⟨a, b, c, d, e, f, g, i, j, rfl⟩ := list_of_nine hl
  have g0 : ∃ y, DataW.trod enc Tryz.prog w base spare held n0 3 [a] = some y := ⟨_, (hf 0 _ rfl).trans (List.getElem?_eq_getElem (by rw [hxl]; decide))⟩
  have g1 : ∃ y, DataW.trod enc Tryz.prog w base spare held n0 3 [b] = some y := ⟨_, (hf 1 _ rfl).trans (List.getElem?_eq_getElem (by rw [hxl]; decide))⟩
  have g2 : ∃ y, DataW.trod enc Tryz.prog w base spare held n0 3 [c] = some y := ⟨_, (hf 2 _ rfl).trans (List.getElem?_eq_getElem (by rw [hxl]; decide))⟩
  have g3 : ∃ y, DataW.trod enc Tryz.prog w base spare held n0 9 [d] = some y := ⟨_, (hf 3 _ rfl).trans (List.getElem?_eq_getElem (by rw [hxl]; decide))⟩
  have g4 : ∃ y, DataW.trod enc Tryz.prog w base spare held n0 9 [e] = some y := ⟨_, (hf 4 _ rfl).trans (List.getElem?_eq_getElem (by rw [hxl]; decide))⟩
  have g5 : ∃ y, DataW.trod enc Tryz.prog w base spare held n0 46 [f, g, i] = some y := ⟨_, (hf 5 _ rfl).trans (List.getElem?_eq_getElem (by rw [hxl]; decide))⟩
  have g6 : ∃ y, DataW.trod enc Tryz.prog w base spare held n0 47 [j] = some y := ⟨_, (hf 6 _ rfl).trans (List.getElem?_eq_getElem (by rw [hxl]; decide))⟩
  obtain ⟨_, g0⟩ := g0
  obtain ⟨_, g1⟩ := g1
  obtain ⟨_, g2⟩ := g2
  obtain ⟨_, g3⟩ := g3
  obtain ⟨_, g4⟩ := g4
  obtain ⟨_, g5⟩ := g5
  obtain ⟨_, g6⟩ := g6
  obtain ⟨k0, h0, _⟩ := DataW.trod_int (k := .i64) rfl g0
  obtain ⟨k1, h1, _⟩ := DataW.trod_int (k := .i64) rfl g1
  obtain ⟨k2, h2, _⟩ := DataW.trod_int (k := .i64) rfl g2
  obtain ⟨k3, h3, _⟩ := DataW.trod_string rfl g3
  obtain ⟨k4, h4, _⟩ := DataW.trod_string rfl g4
  obtain ⟨p6, n6, c6, h6⟩ := slice_value rfl g6
  obtain ⟨ys, n1, rfl, _, hl2, hyl, hf2⟩ := DataW.trod_struct (P := Tryz.prog) (t := 46) rfl g5
  have e0 : ∃ y, DataW.trod enc Tryz.prog w base spare held n1 3 [f] = some y := ⟨_, (hf2 0 _ rfl).trans (List.getElem?_eq_getElem (by rw [hyl]; decide))⟩
  have e1 : ∃ y, DataW.trod enc Tryz.prog w base spare held n1 3 [g] = some y := ⟨_, (hf2 1 _ rfl).trans (List.getElem?_eq_getElem (by rw [hyl]; decide))⟩
  have e2 : ∃ y, DataW.trod enc Tryz.prog w base spare held n1 44 [i] = some y := ⟨_, (hf2 2 _ rfl).trans (List.getElem?_eq_getElem (by rw [hyl]; decide))⟩
  obtain ⟨_, e0⟩ := e0
  obtain ⟨_, e1⟩ := e1
  obtain ⟨_, e2⟩ := e2
  obtain ⟨k5, h5, _⟩ := DataW.trod_int (k := .i64) rfl e0
  obtain ⟨k6, h7, _⟩ := DataW.trod_int (k := .i64) rfl e1
  obtain ⟨p7, n7, c7, h8⟩ := slice_value rfl e2
  cases h0; cases h1; cases h2; cases h3; cases h4; cases h5; cases h7
  subst h6 h8
  exact ⟨k0, k1, k2, ⟨k3, k4, k5, k6, p7, n7, c7, p6, n6, c6⟩, rfl⟩
end
end Go.Proofs
