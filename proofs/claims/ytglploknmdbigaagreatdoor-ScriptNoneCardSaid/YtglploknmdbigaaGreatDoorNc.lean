/- ScriptNone, whatever list it is handed. -/
import Derived.Test.YtglploknmdbigaaGreatDoorNb
import Derived.Test.YtglploknmdbigaaGreatDoorLa
namespace Go.Proofs
open Go.RowKit Go.ChangeShapes Go.WideShapes Go.Deep
theorem Tryz.awake_calls (ha : Ev.AwakeOk) (w : World) : Calls Tryz.prog 5 #[] w fun e w' => e = .returned (.bool true) ∧ Below w.heap.size w w' := by
  rcases ha w 0 with ⟨u, w', h1, _⟩ | ⟨_, h2⟩
  · rw [enters_of Tryz.func5 (by kernel_rfl) rfl #[] w] at h1
    cases h1
  · exact callsIn_wide.1 (h2.mono fun e w' ⟨u, he, hu, hb⟩ => ⟨by rw [he, hu], hb⟩)
theorem Tryz.none_calls {v : Value} {w : World} (h : Ev.CallOk Tryz.prog 0 3 #[v] w fun u w' => u = .bool true ∧ Below w.heap.size w w') : Calls Tryz.prog 3 #[v] w fun e w' => e = .returned (.bool true) ∧ Below w.heap.size w w' := by
  rcases h with ⟨u, w', h1, _⟩ | ⟨_, h2⟩
  · rw [enters_of Tryz.func3 (by kernel_rfl) rfl #[v] w] at h1
    cases h1
  · exact callsIn_wide.1 (h2.mono fun e w' ⟨u, he, hu, hb⟩ => ⟨by rw [he, hu], hb⟩)
set_option maxHeartbeats 1000000 in
theorem Tryz.none_long (ha : Ev.AwakeOk) (p : Option Addr) (len cap : Nat) (w : World) (hl : Calls Tryz.prog 4 #[.slice p len cap, .int .i64 30] w fun e w'' => e = .returned (.bool true) ∧ Below w.heap.size w w'') :
    Calls Tryz.prog 3 #[.slice p len cap] w fun e w' => e = .returned (.bool true) ∧ Below w.heap.size w w' := by
  go_enter Tryz.func3, Tryz.ntmps3
  go_wp2_with (first | (go_at_call 4; refine hl.mono ?_; rintro e w1 ⟨rfl, hb1⟩) | (go_at_call 5; refine (Tryz.awake_calls ha _).mono ?_; rintro e w2 ⟨rfl, hb2⟩))
  go_ret
  exact ⟨rfl, hb1.trans (hb2.mono hb1.size)⟩
/-- A list that lies in memory. -/
theorem Tryz.none_at (ha : Ev.AwakeOk) (b off len cap : Nat) (X Y Z : Nat → Int) (S : Nat → StepCells) (w : World) (hlc : len ≤ cap) (hlen : len ≤ 9223372036854775807) (hb : b < w.heap.size) (hc : ∀ i, i < len → NineAt w b (off + i * 9) (X i) (Y i) (Z i) (S i)) :
    Calls Tryz.prog 3 #[.slice (some ⟨b, off, none⟩) len cap] w fun e w' => e = .returned (.bool true) ∧ Below w.heap.size w w' := by
  have hlong := Tryz.long b off len cap S w hlen hb fun i hi => (hc i hi).st
  cases hL : longTo S (min len 31) || decide (30 < len) with
  | true =>
    rw [hL] at hlong
    exact Tryz.none_long ha _ _ _ w hlong
  | false =>
    simp only [Bool.or_eq_false_iff, decide_eq_false_iff_not] at hL
    have hn : len ≤ 30 := by omega
    rw [show min len 31 = len by omega] at hL
    letI : Ev.Sym := ⟨fun _ => .pointer none, fun _ => ⟨nofun, nofun⟩, fun _ _ => nofun, w.heap.size, fun k => w.heap[k]?, some ⟨b, off, 0⟩⟩
    refine Tryz.none_calls (Ev.short_true ha (X := X) (Y := Y) (Z := Z) hn ⟨hb, rfl, fun w' hw i hi => ?_⟩ hL.1 hlc ⟨Nat.le_refl _, fun _ _ => rfl⟩)
    have e : ∀ o, w'.cell? ⟨b, o, none⟩ = w.cell? ⟨b, o, none⟩ := fun o => World.cell?_of_block (hw.at_ b hb)
    have h := hc i hi
    exact ⟨(e _).trans h.c0, (e _).trans h.c1, (e _).trans h.c2, (e _).trans h.st.c3, (e _).trans h.st.c4, (e _).trans h.st.c5, (e _).trans h.st.c6, (e _).trans h.st.c7, (e _).trans h.st.c8⟩
section
variable {H : Type} {enc : TypeId × Value → H} {base : Nat} {spare : Nat → Bool} {held : Bool}
set_option maxRecDepth 100000 in
theorem Tryz.none_any (ha : Ev.AwakeOk) {w : World} {v : Value} {d : DataW H} {ps : List MemPlace} {b0 b1 : Nat} (hv : Value.okWide Tryz.prog w .any b1 22 v) (h : DataW.Trod enc Tryz.prog w b0 spare held 22 v d ps) :
    Calls Tryz.prog 3 #[v] w fun e w' => e = .returned (.bool true) ∧ Below w.heap.size w w' := by
  obtain ⟨fuel, h⟩ := h
  obtain ⟨a0, len0, cap0, rfl⟩ := okWide_slice Tryz.underlying22 hv
  rcases open_slice Tryz.underlying22 h with ⟨h0, _⟩ | ⟨a, len, cap, m, n, D, Pl, hcs, hbase, hl, hm, hmm, hx, hi⟩
  · have e : (Value.slice a0 len0 cap0).cells.toList = [.slice a0 len0 cap0] := rfl
    rw [e] at h0
    cases h0
    exact Tryz.none_calls (Ev.nil_true ha w 0)
  · have e : (Value.slice a0 len0 cap0).cells.toList = [.slice a0 len0 cap0] := rfl
    rw [e] at hcs
    cases hcs
    have hok : w.has Tryz.prog .any b1 a 49 cap0 := by
      simp only [Value.okWide, Tryz.underlying22, Cell.okWide, Cell.ok] at hv
      exact hv.2.2
    obtain ⟨_, hspot, row, cells, hsh, _⟩ := hok
    have hblk : a.block < w.heap.size := by
      unfold World.shape? at hsh
      split at hsh
      · exact (Array.getElem?_eq_some_iff.1 (by assumption)).1
      · cases hsh
    obtain ⟨b, off, sp⟩ := a
    simp only at hspot hblk
    subst hspot
    have cells : ∀ i, i < len0 → ∃ q : Int × Int × Int × StepCells, NineAt w b (off + i * 9) q.1 q.2.1 q.2.2.1 q.2.2.2 := fun i hil => by
      obtain ⟨cs', h1, h2⟩ := hi i (by subst hmm; split <;> omega)
      obtain ⟨k, n', at', S, rfl⟩ := Tryz.open_step h2
      rw [show Tryz.prog.cellsOf 49 = 9 by kernel_rfl] at h1
      obtain ⟨_, _, h3⟩ := World.cells?_some h1
      have e : ∀ j, ((⟨b, off, none⟩ : Addr).add (i * 9)).add j = ⟨b, off + i * 9 + j, none⟩ := fun j => by
        letI := Ev.symNone
        rw [Ev.add_at, Ev.add_at]
      have g : ∀ j, j < 9 → w.cell? ⟨b, off + i * 9 + j, none⟩ = [Value.int .i64 k, .int .i64 n', .int .i64 at', .string S.pa, .string S.to, .int .i64 S.ke, .int .i64 S.mo, .slice S.bp S.bl S.bc, .slice S.kp S.kl S.kc][j]? := fun j hj => by rw [← e j]; exact h3 j hj
      exact ⟨⟨k, n', at', S⟩, g 0 (by omega), g 1 (by omega), g 2 (by omega), g 3 (by omega), g 4 (by omega), g 5 (by omega), g 6 (by omega), g 7 (by omega), g 8 (by omega)⟩
    letI : Inhabited StepCells := ⟨⟨ByteArray.empty, ByteArray.empty, 0, 0, none, 0, 0, none, 0, 0⟩⟩
    obtain ⟨F, hF⟩ := choose_lt cells
    exact Tryz.none_at ha b off len0 cap0 (fun i => (F i).1) (fun i => (F i).2.1) (fun i => (F i).2.2.1) (fun i => (F i).2.2.2) w hl (by unfold maxLen at hm; omega) hblk hF
end
end Go.Proofs
