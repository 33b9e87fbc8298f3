/- Functions without a body. -/
import Derived.Test.YtglploknmdbigaaGreatDoorSj
import Derived.Lib.Bytealg
set_option linter.unusedSectionVars false
namespace Go.Ev
section
variable [Sym]
variable {P : Program} {R : Type}

/-- A stand-in does what the evaluator does. -/
def ExtSem (P : Program) (x : Ext) (e : Array Value → Sem Value) : Prop := ∀ (R : Type) args H (k : AV → Heap → Option R) r, extK x args H k = some r → ∃ v H', k v H' = some r ∧
  ∀ π w us, Rel π H w → concs π args = some us → ∃ u w', (e us.toArray).run P w = .ok u w' ∧ After π H w v H' u w'

theorem rowAt_inv {H : Heap} {p : AV} {k : Nat → Nat → List AV → IntKind → Int → Option R} {x : R} (h : rowAt H p k = some x) : ∃ r o cs j n, p = .ptr r o ∧ H.get r = some (.cells cs) ∧ cs[o]? = some (.int j n) ∧ k r o cs j n = some x := by
  obtain ⟨r, o, rfl, h1⟩ := ptrK_inv h
  obtain ⟨cs, h2, h3⟩ := rowK_inv h1
  rw [nthK_eq] at h3
  cases e : cs[o]? with
  | none => rw [e] at h3; cases h3
  | some u =>
    rw [e] at h3
    obtain ⟨j, n, rfl, h4⟩ := numK_inv h3
    exact ⟨r, o, cs, j, n, rfl, h2, e, h4⟩

theorem run_load_at {w : World} {a : Addr} {v : Value} (h : w.cell? a = some v) (m : Mode) : (load a m).run P w = .ok v w := by simp [load, Sem.run, h]
theorem run_store_at {w : World} {b o : Nat} {v : Value} (hv : one v) {arr : Array Value} {e : TypeId} {fz : Nat × Nat} (hb : w.heap[b]? = some (.cells arr e fz)) (ho : o < arr.size) (hf : ¬ (fz.1 ≤ o ∧ o < fz.2)) (m : Mode) :
    (store ⟨b, o, none⟩ v m).run P w = .ok () (w.setCell ⟨b, o, none⟩ v) := by
  have h1 : w.cell? ⟨b, o, none⟩ = some arr[o] := by rw [cell_of hb]; simp [ho]
  have h2 : w.frozen? ⟨b, o, none⟩ = false := by
    obtain ⟨lo, hi⟩ := fz
    simp only [World.frozen?, hb]
    simp only at hf
    simp; omega
  cases v <;> first
    | exact absurd rfl (hv.1 _)
    | exact absurd rfl (hv.2 _)
    | simp [store, Sem.run, h1, h2]

/-- One cell written. -/
theorem put1_inv {H : Heap} {r o : Nat} {cs : List AV} {v : AV} {k : Heap → Option R} {x : R} (h : put1 H r o cs v k = some x) (hq : H.get r = some (.cells cs)) (hf : v.flat = true) : ∃ H', k H' = some x ∧
    ∀ π w l u, Rel π H w → π r = some l → conc π v = some u → ∀ m, ∃ w', (store ⟨l.block, l.shift + o, none⟩ u m).run P w = .ok () w' ∧ Post π H w π H' w' := by
  unfold put1 at h
  rw [layK_eq] at h
  split at h
  · rename_i hlt
    obtain ⟨H', h1, hN, hH⟩ := putH_inv h
    refine ⟨H', h1, fun π w l u hr hl hc m => ?_⟩
    have hfl : AV.flats [v] = true := by simp [AV.flats, hf]
    obtain ⟨w', h2, h3⟩ := hr.write (P := P) hq hl (concs_one hc) hfl hlt hN hH
    refine ⟨w', ?_, h3⟩
    obtain ⟨arr, e, fz, vs, g1, g2, g3, g4, g5, g6, g7⟩ := hr.cells hq hl
    simp only [List.length_cons, List.length_nil] at hlt
    have e1 := run_store_one (P := P) (conc_flat hc hf) g1 (show l.shift + o < arr.size by omega) (g7 _ (by omega) (by omega))
    have e2 := run_store_at (P := P) (conc_flat hc hf) g1 (show l.shift + o < arr.size by omega) (g7 _ (by omega) (by omega)) m
    have e3 : (storeCells ⟨l.block, l.shift + o, none⟩ [u]).run P w = .ok () (w.setCell ⟨l.block, l.shift + o, none⟩ u) := by
      simp only [storeCells, add_at, Nat.add_zero, Sem.run_bind, e1, Result.andThen_ok, Sem.run_pure]
    rw [e3] at h2
    rw [e2]
    exact h2
  · cases h

theorem concs2 {π : Pi} {a b : AV} {us : List Value} (h : concs π [a, b] = some us) : ∃ u v, conc π a = some u ∧ conc π b = some v ∧ us = [u, v] := by
  obtain ⟨u, us1, h1, h2, rfl⟩ := concs_cons h
  obtain ⟨v, us2, h3, h4, rfl⟩ := concs_cons h2
  cases h4
  exact ⟨u, v, h1, h3, rfl⟩
theorem concs1 {π : Pi} {a : AV} {us : List Value} (h : concs π [a] = some us) : ∃ u, conc π a = some u ∧ us = [u] := by
  obtain ⟨u, us1, h1, h2, rfl⟩ := concs_cons h
  cases h2
  exact ⟨u, h1, rfl⟩

theorem aload_ok (j : IntKind) : ExtSem P (.aload j) (Extern.Atomic.loadT (.int j)) := by
  intro R args H k r h
  match args, h with
  | [p], h =>
    obtain ⟨q, o, cs, j', n, rfl, h1, h2, h3⟩ := rowAt_inv (show rowAt H p (fun _ _ _ j' n => Bool.casesOn (sameKind j j') none (k (.int j' n) H)) = some r from h)
    obtain ⟨hj, h4⟩ := bcase_none h3
    have hj := sameKind_eq hj
    subst hj
    refine ⟨_, _, h4, fun π w us hr hc => ?_⟩
    obtain ⟨u, hu, rfl⟩ := concs1 hc
    obtain ⟨l, hl, rfl⟩ := conc_ptr hu
    obtain ⟨c, h5, h6⟩ := hr.cell h1 hl h2
    have h6 := conc_int h6
    subst h6
    refine ⟨.int j n, w, ?_, π, rfl, Post.refl hr⟩
    show (do Extern.Atomic.read (.int j) (← asAddr (.pointer (some ⟨l.block, l.shift + o, none⟩))) : Sem Value).run P w = _
    simp [asAddr, Extern.Atomic.read, run_load_at h5]
  | [], h => cases h
  | _ :: _ :: _, h => cases h

theorem astore_ok : ExtSem P .astore Extern.Atomic.storeT := by
  intro R args H k r h
  match args, h with
  | [p, v], h =>
    obtain ⟨q, o, cs, j', n, rfl, h1, h2, h3⟩ := rowAt_inv (show rowAt H p (fun r o cs _ _ => numK v fun _ _ => put1 H r o cs v fun H' => k (.tup []) H') = some r from h)
    obtain ⟨jv, nv, rfl, h4⟩ := numK_inv h3
    obtain ⟨H', h5, h6⟩ := put1_inv (P := P) h4 h1 rfl
    refine ⟨_, _, h5, fun π w us hr hc => ?_⟩
    obtain ⟨u, v, hu, hv, rfl⟩ := concs2 hc
    obtain ⟨l, hl, rfl⟩ := conc_ptr hu
    obtain ⟨w', h7, h8⟩ := h6 π w l v hr hl hv .atomic
    refine ⟨.tuple #[], w', ?_, π, conc_mk_tup rfl, h8⟩
    show (do store (← asAddr (.pointer (some ⟨l.block, l.shift + o, none⟩))) v .atomic; pure Extern.Atomic.none_ : Sem Value).run P w = _
    simp [asAddr, h7, Extern.Atomic.none_]
  | [], h => cases h
  | [_], h => cases h
  | _ :: _ :: _ :: _, h => cases h

theorem aswap_ok (j : IntKind) : ExtSem P (.aswap j) (Extern.Atomic.swapT (.int j)) := by
  intro R args H k r h
  match args, h with
  | [p, v], h =>
    obtain ⟨q, o, cs, j', n, rfl, h1, h2, h3⟩ := rowAt_inv (show rowAt H p (fun r o cs j' n => Bool.casesOn (sameKind j j') none (numK v fun _ _ => put1 H r o cs v fun H' => k (.int j' n) H')) = some r from h)
    obtain ⟨hj, g3⟩ := bcase_none h3; clear h3; have h3 := g3; clear g3
    have hj := sameKind_eq hj
    subst hj
    obtain ⟨jv, nv, rfl, h4⟩ := numK_inv h3
    obtain ⟨H', h5, h6⟩ := put1_inv (P := P) h4 h1 rfl
    refine ⟨_, _, h5, fun π w us hr hc => ?_⟩
    obtain ⟨u, v, hu, hv, rfl⟩ := concs2 hc
    obtain ⟨l, hl, rfl⟩ := conc_ptr hu
    obtain ⟨c, h9, h10⟩ := hr.cell h1 hl h2
    have h10 := conc_int h10
    subst h10
    obtain ⟨w', h7, h8⟩ := h6 π w l v hr hl hv .atomic
    refine ⟨.int j n, w', ?_, π, rfl, h8⟩
    show (do
      let a ← asAddr (.pointer (some ⟨l.block, l.shift + o, none⟩))
      let old ← Extern.Atomic.read (.int j) a
      store a v .atomic
      pure old : Sem Value).run P w = _
    simp [asAddr, Extern.Atomic.read, run_load_at h9, h7]
  | [], h => cases h
  | [_], h => cases h
  | _ :: _ :: _ :: _, h => cases h

theorem aadd_ok (j : IntKind) : ExtSem P (.aadd j) (Extern.Atomic.update (Op.intArith .add) j true) := by
  intro R args H k r h
  match args, h with
  | [p, y], h =>
    obtain ⟨q, o, cs, j', n, rfl, h1, h2, h3⟩ := rowAt_inv (show rowAt H p (fun r o cs j' n => Bool.casesOn (sameKind j j') none (numK y fun _ m => nAdd j n m fun v => put1 H r o cs v fun H' => k v H')) = some r from h)
    obtain ⟨hj, g3⟩ := bcase_none h3; clear h3; have h3 := g3; clear g3
    have hj := sameKind_eq hj
    subst hj
    obtain ⟨jv, m, rfl, h4⟩ := numK_inv h3
    replace h4 : retI j (wrapF j (n + m)) (fun v => put1 H q o cs v fun H' => k v H') = some r := h4
    rw [retI_eq, wrapF_eq] at h4
    obtain ⟨H', h5, h6⟩ := put1_inv (P := P) h4 h1 rfl
    refine ⟨_, _, h5, fun π w us hr hc => ?_⟩
    obtain ⟨u, v, hu, hv, rfl⟩ := concs2 hc
    obtain ⟨l, hl, rfl⟩ := conc_ptr hu
    have hv := conc_int hv
    subst hv
    obtain ⟨c, h9, h10⟩ := hr.cell h1 hl h2
    have h10 := conc_int h10
    subst h10
    obtain ⟨w', h7, h8⟩ := h6 π w l _ hr hl rfl .atomic
    refine ⟨.int j (j.wrap (n + m)), w', ?_, π, rfl, h8⟩
    show (do
      let a ← asAddr (.pointer (some ⟨l.block, l.shift + o, none⟩))
      let old ← Extern.Atomic.read (.int j) a
      let new ← Op.intArith .add j (← asInt old) (← asInt (.int jv m))
      store a new .atomic
      pure (if true then new else old) : Sem Value).run P w = _
    simp [asAddr, Extern.Atomic.read, run_load_at h9, asInt, asIntOf, Op.intArith, h7]
  | [], h => cases h
  | [_], h => cases h
  | _ :: _ :: _ :: _, h => cases h


theorem acas_ok (j : IntKind) : ExtSem P (.acas j) (Extern.Atomic.casT (.int j)) := by
  intro R args H k r h
  match args, h with
  | [p, old, v], h =>
    obtain ⟨q, o, cs, j', n, rfl, h1, h2, h3⟩ := rowAt_inv (show rowAt H p (fun r o cs j' n => Bool.casesOn (sameKind j j') none (numK old fun _ m => numK v fun _ _ => Bool.casesOn (intEq n m) (k (.bool false) H) (put1 H r o cs v fun H' => k (.bool true) H'))) = some r from h)
    obtain ⟨hj, g3⟩ := bcase_none h3; clear h3; have h3 := g3; clear g3
    have hj := sameKind_eq hj
    subst hj
    obtain ⟨jo, m, rfl, g4⟩ := numK_inv h3; clear h3
    obtain ⟨jv, nv, rfl, h4⟩ := numK_inv g4; clear g4
    rw [intEq_eq] at h4
    have pre : ∀ π w us, Rel π H w → concs π [.ptr q o, .int jo m, .int jv nv] = some us → ∃ l, π q = some l ∧ us = [.pointer (some ⟨l.block, l.shift + o, none⟩), .int jo m, .int jv nv] ∧
        (Extern.Atomic.touchesFrozen ⟨l.block, l.shift + o, none⟩).run P w = .ok false w ∧ w.cell? ⟨l.block, l.shift + o, none⟩ = some (.int j n) := by
      intro π w us hr hc
      obtain ⟨u, us1, hu, hc1, rfl⟩ := concs_cons hc
      obtain ⟨u1, us2, hu1, hc2, rfl⟩ := concs_cons hc1
      obtain ⟨u2, hu2, rfl⟩ := concs1 hc2
      obtain ⟨l, hl, rfl⟩ := conc_ptr hu
      rw [conc_int hu1, conc_int hu2]
      obtain ⟨arr, e, fz, vs, g1, g2, g3, g4, g5, g6, g7⟩ := hr.cells h1 hl
      obtain ⟨c, h9, h10⟩ := hr.cell h1 hl h2
      rw [conc_int h10] at h9
      refine ⟨l, hl, rfl, ?_, h9⟩
      have hlt := (List.getElem?_eq_some_iff.1 h2).1
      have hfr : w.frozen? ⟨l.block, l.shift + o, none⟩ = false := by
        obtain ⟨lo, hi⟩ := fz
        simp only [World.frozen?, g1]
        have g7' := g7 (l.shift + o) (by omega) (by omega)
        simp only at g7'
        simp; omega
      simp [Extern.Atomic.touchesFrozen, viewAt, shape_of g1, hfr]
    have body : ∀ (l : Loc) w, (Extern.Atomic.touchesFrozen ⟨l.block, l.shift + o, none⟩).run P w = .ok false w → w.cell? ⟨l.block, l.shift + o, none⟩ = some (.int j n) →
        (Extern.Atomic.casT (.int j) #[.pointer (some ⟨l.block, l.shift + o, none⟩), .int jo m, .int jv nv]).run P w = ((if n == m then store ⟨l.block, l.shift + o, none⟩ (.int jv nv) .atomic else pure () : Sem Unit).run P w).andThen fun _ w' => .ok (.bool (n == m)) w' := by
      intro l w ht hcell
      show (do
        let a ← asAddr (.pointer (some ⟨l.block, l.shift + o, none⟩))
        if ← Extern.Atomic.touchesFrozen a then unsupported (.unsafePointer "a write to bytes that a string shares")
        let eq ← match Extern.Atomic.T.int j, ← Extern.Atomic.read (.int j) a, (Value.int jo m) with
          | _, .int _ x, .int _ y => pure (x == y)
          | .ptr, .pointer x, .pointer y => samePointer x y
          | .int _, .pointer (some _), .int _ 0 | .int _, .int _ 0, .pointer (some _) => pure false
          | .int _, .pointer (some _), _ | .int _, _, .pointer (some _) => unsupported .addressObserved
          | _, _, _ => stuck "atomic.CompareAndSwap: old is no T"
        if eq then store a (.int jv nv) .atomic
        pure (.bool eq) : Sem Value).run P w = _
      by_cases e : n = m
      · subst e
        simp [asAddr, ht, Extern.Atomic.read, hcell]
      · simp [asAddr, ht, Extern.Atomic.read, hcell, e]
    rcases bcase_true h4 with ⟨hb, h5⟩ | ⟨hb, h5⟩
    · refine ⟨_, _, h5, fun π w us hr hc => ?_⟩
      obtain ⟨l, hl, rfl, g1, g2⟩ := pre π w us hr hc
      refine ⟨.bool false, w, ?_, π, rfl, Post.refl hr⟩
      show (Extern.Atomic.casT (.int j) #[.pointer (some ⟨l.block, l.shift + o, none⟩), .int jo m, .int jv nv]).run P w = _
      rw [body l w g1 g2, hb]
      rfl
    · obtain ⟨H', h6, h7⟩ := put1_inv (P := P) h5 h1 rfl
      refine ⟨_, _, h6, fun π w us hr hc => ?_⟩
      obtain ⟨l, hl, rfl, g1, g2⟩ := pre π w us hr hc
      obtain ⟨w', h8, h9⟩ := h7 π w l _ hr hl rfl .atomic
      refine ⟨.bool true, w', ?_, π, rfl, h9⟩
      show (Extern.Atomic.casT (.int j) #[.pointer (some ⟨l.block, l.shift + o, none⟩), .int jo m, .int jv nv]).run P w = _
      rw [body l w g1 g2, hb]
      simp only [if_true, h8, Result.andThen_ok]
  | [], h => cases h
  | [_], h => cases h
  | [_, _], h => cases h
  | _ :: _ :: _ :: _ :: _, h => cases h

theorem nothing_ok (m : Mark) : ExtSem P .nothing (fun _ => do mark m; pure Extern.Race.none_) := by
  intro R args H k r h
  have h : k (.tup []) H = some r := by
    cases args <;> exact h
  exact ⟨_, _, h, fun π w us hr _ => ⟨.tuple #[], w, rfl, π, conc_mk_tup rfl, Post.refl hr⟩⟩
theorem marked_ok (m : Addr → Mark) : ExtSem P .marked (Extern.Race.marked m) := by
  intro R args H k r h
  match args, h with
  | p :: l, h =>
    obtain ⟨q, o, rfl, h1⟩ := ptrK_inv (show ptrK p (fun _ _ => k (.tup []) H) = some r from h)
    refine ⟨_, _, h1, fun π w us hr hc => ?_⟩
    obtain ⟨u, us1, hu, _, rfl⟩ := concs_cons hc
    obtain ⟨L, _, rfl⟩ := conc_ptr hu
    refine ⟨.tuple #[], w, ?_, π, conc_mk_tup rfl, Post.refl hr⟩
    simp [Extern.Race.marked, Extern.Race.at_, mark, Sem.run, Extern.Race.none_]
  | [], h => cases h

end
end Go.Ev

set_option linter.unusedSectionVars false
namespace Go.Ev
section
variable [Sym]
variable {P : Program} {R : Type}

theorem run_loadBytes {w : World} {B O : Nat} : ∀ (s : List Nat) (i : Nat) (acc : ByteArray), (∀ (j b : Nat), s[j]? = some b → w.cell? ⟨B, O + i + j, none⟩ = some (.int .u8 (b : Int))) → (Extern.Bytes.loadBytes ⟨B, O + i, none⟩ s.length acc).run P w = .ok (acc ++ bytesV s) w
  | [], i, acc, _ => by
    have : acc ++ bytesV [] = acc := by apply ByteArray.ext; simp [bytesV]
    rw [this]; rfl
  | b :: s, i, acc, h => by
    have h0 := h 0 b (by simp)
    have ih := run_loadBytes s (i + 1) (acc.push (UInt8.ofNat b)) (fun j b' hb => by
      have := h (j + 1) b' (by simpa using hb)
      rw [show O + (i + 1) + j = O + i + (j + 1) by omega]; exact this)
    have e : acc.push (UInt8.ofNat b) ++ bytesV s = acc ++ bytesV (b :: s) := by apply ByteArray.ext; simp [bytesV]
    rw [e] at ih
    show (do
      match ← load ⟨B, O + i, none⟩ with
      | .int .u8 b => Extern.Bytes.loadBytes ((⟨B, O + i, none⟩ : Addr).add 1) s.length (acc.push b.toNat.toUInt8)
      | _ => stuck "loadBytes: a byte expected" : Sem ByteArray).run P w = _
    have hl := run_load_at (P := P) h0 .plain
    simp only [Nat.add_zero] at hl
    simp only [Sem.run_bind, hl, Result.andThen_ok, add_at, Int.toNat_natCast]
    exact ih

theorem listBytes_inv {H : Heap} {v : AV} {k : List Nat → Option R} {x : R} (h : listBytes H v k = some x) : ∃ s, k s = some x ∧ ∀ π w, Rel π H w → ∀ u, conc π v = some u → small s = true ∧ (Extern.Bytes.bytesOf u).run P w = .ok (bytesV s) w := by
  have slice : ∀ {v : AV}, sliceBytes v H k = some x → ∃ s, k s = some x ∧ ∀ π w, Rel π H w → ∀ u, conc π v = some u → small s = true ∧ (Extern.Bytes.bytesOf u).run P w = .ok (bytesV s) w := by
    intro v h
    cases v <;> try (cases h; done)
    case nilsl =>
      refine ⟨[], h, fun π w _ u hu => ⟨rfl, ?_⟩⟩
      cases hu
      have : bytesV [] = ByteArray.empty := by apply ByteArray.ext; simp [bytesV]
      rw [this]; rfl
    case sl q o a n c =>
      cases n with
      | zero =>
        refine ⟨[], h, fun π w _ u hu => ⟨rfl, ?_⟩⟩
        obtain ⟨l, off, cap, _, rfl, _⟩ := conc_sl hu
        have : bytesV [] = ByteArray.empty := by apply ByteArray.ext; simp [bytesV]
        rw [this]; rfl
      | succ n =>
        replace h : rowK H q (fun cs => slotsK cs o (n + 1) fun l => bytesK l k) = some x := h
        obtain ⟨cs, hq, h⟩ := rowK_inv h
        rw [slotsK_eq] at h
        split at h
        · rename_i hlt
          obtain ⟨s, hs, h, e⟩ := bytesK_inv h
          refine ⟨s, h, fun π w hr u hu => ⟨hs, ?_⟩⟩
          obtain ⟨l, off, cap, hl, rfl, hc, hoff⟩ := conc_sl hu
          have := hoff (by omega)
          subst this
          have hlen : s.length = n + 1 := by
            have := congrArg List.length e
            simp at this
            omega
          have := run_loadBytes (P := P) (w := w) (B := l.block) (O := l.shift + off) s 0 ByteArray.empty (fun j b hb => by
            have hj := (List.getElem?_eq_some_iff.1 hb).1
            have hcs : cs[off + j]? = some (.int .u8 (Int.ofNat b)) := by
              have h1 : ((cs.drop off).take (n + 1))[j]? = some (.int .u8 (Int.ofNat b)) := by rw [e]; simp [hb]
              rw [List.getElem?_take, if_pos (by omega), List.getElem?_drop] at h1
              exact h1
            obtain ⟨u, h2, h3⟩ := hr.cell hq hl hcs
            rw [conc_int h3] at h2
            rw [Nat.add_zero, Nat.add_assoc]
            exact h2)
          rw [hlen] at this
          have e0 : ByteArray.empty ++ bytesV s = bytesV s := by apply ByteArray.ext; simp
          rw [e0] at this
          exact this
        · cases h
  cases v
  case str s =>
    refine ⟨s, h, fun π w _ u hu => ?_⟩
    obtain ⟨hs, rfl⟩ := conc_str hu
    exact ⟨hs, rfl⟩
  all_goals exact slice h

end
end Go.Ev

set_option linter.unusedSectionVars false
namespace Go.Ev
section
variable [Sym]
variable {P : Program} {R : Type}

theorem data_bytesV (s : List Nat) : (bytesV s).data.toList = s.map UInt8.ofNat := by simp [bytesV]
theorem byte_conc {π : Pi} {v : AV} {u : Value} {m : Nat} (hv : v = .int .u8 (m : Int)) (hu : conc π v = some u) (w : World) : (Extern.Bytes.asByte u).run P w = .ok (UInt8.ofNat m) w := by
  subst hv
  rw [conc_int hu]
  rfl

theorem findB_eq {c : Nat} (hc : c < 256) : ∀ (l : List Nat) (k : Int → Option R), small l = true → findB c l k = k (Lib.indexByte (l.map UInt8.ofNat) (UInt8.ofNat c)) := by
  have key : ∀ (l : List Nat) (i : Nat) (k : Int → Option R), small l = true → (List.rec (motive := fun _ => Nat → Option R) (fun _ => k (-1)) (fun b _ ih i => Bool.casesOn (Nat.beq b c) (ih (Nat.succ i)) (k (Int.ofNat i))) l i : Option R) =
      k (if Lib.indexByte (l.map UInt8.ofNat) (UInt8.ofNat c) == -1 then -1 else Lib.indexByte (l.map UInt8.ofNat) (UInt8.ofNat c) + i) := by
    intro l
    induction l with
    | nil => intro i k _; rfl
    | cons b l ih =>
      intro i k hs
      obtain ⟨h1, h2⟩ := small_cons hs
      show (Bool.casesOn (Nat.beq b c) (List.rec (motive := fun _ => Nat → Option R) (fun _ => k (-1)) (fun b _ ih i => Bool.casesOn (Nat.beq b c) (ih (Nat.succ i)) (k (Int.ofNat i))) l (i + 1)) (k (Int.ofNat i)) : Option R) = _
      rw [ih (i + 1) k h2]
      simp only [List.map_cons, Lib.indexByte, u8_beq h1 hc]
      have hge := Lib.indexByte_ge (l.map UInt8.ofNat) (UInt8.ofNat c)
      cases hb : Nat.beq b c with
      | true => simp
      | false =>
        simp only [Bool.false_eq_true, if_false]
        by_cases e : Lib.indexByte (l.map UInt8.ofNat) (UInt8.ofNat c) = -1
        · simp [e]
        · have e' : (Lib.indexByte (l.map UInt8.ofNat) (UInt8.ofNat c) == -1) = false := by simp [e]
          have e2 : ((Lib.indexByte (l.map UInt8.ofNat) (UInt8.ofNat c) + 1) == -1) = false := by simp; omega
          simp only [e', Bool.false_eq_true, if_false, e2]
          congr 1
          push_cast
          omega
  intro l k hs
  have h := key l 0 k hs
  show (List.rec (motive := fun _ => Nat → Option R) (fun _ => k (-1)) (fun b _ ih i => Bool.casesOn (Nat.beq b c) (ih (Nat.succ i)) (k (Int.ofNat i))) l 0 : Option R) = _
  rw [h]
  by_cases e : Lib.indexByte (l.map UInt8.ofNat) (UInt8.ofNat c) = -1
  · simp [e]
  · have e' : (Lib.indexByte (l.map UInt8.ofNat) (UInt8.ofNat c) == -1) = false := by simp [e]
    simp [e']

theorem findB_some {c : Nat} {l : List Nat} {k : Int → Option R} {r : R} (h : findB c l k = some r) : ∃ i, k i = some r := by
  have key : ∀ (l : List Nat) (i : Nat), (List.rec (motive := fun _ => Nat → Option R) (fun _ => k (-1)) (fun b _ ih i => Bool.casesOn (Nat.beq b c) (ih (Nat.succ i)) (k (Int.ofNat i))) l i : Option R) = some r → ∃ i, k i = some r := by
    intro l
    induction l with
    | nil => intro i h; exact ⟨_, h⟩
    | cons b l ih =>
      intro i h
      rcases bcase_true (show (Bool.casesOn (Nat.beq b c) (List.rec (motive := fun _ => Nat → Option R) (fun _ => k (-1)) (fun b _ ih i => Bool.casesOn (Nat.beq b c) (ih (Nat.succ i)) (k (Int.ofNat i))) l (i + 1)) (k (Int.ofNat i)) : Option R) = some r from h) with ⟨_, h⟩ | ⟨_, h⟩
      · exact ih _ h
      · exact ⟨_, h⟩
  exact key l 0 h

/-- The bytes that a look went over were small: what was compared is not. -/
theorem indexByte_ok : ExtSem P .indexByte Extern.BytealgIndexByte.indexByte := by
  intro R args H k r h
  match args, h with
  | [a, b], h =>
    obtain ⟨s, h1, h2⟩ := listBytes_inv (P := P) (show listBytes H a (fun s => byteK b fun c => findB c s fun i => k (.int .i64 i) H) = some r from h)
    obtain ⟨m, hb, hm, h3⟩ := byteK_inv h1
    by_cases hs : small s = true
    · rw [findB_eq hm s _ hs] at h3
      refine ⟨_, _, h3, fun π w us hr hc => ?_⟩
      obtain ⟨u, v, hu, hv, rfl⟩ := concs2 hc
      obtain ⟨_, hrun⟩ := h2 π w hr u hu
      refine ⟨.int .i64 (Lib.indexByte (s.map UInt8.ofNat) (UInt8.ofNat m)), w, ?_, π, rfl, Post.refl hr⟩
      have hfi := Lib.firstIdx_eq (bytesV s) (UInt8.ofNat m)
      rw [data_bytesV] at hfi
      show (do
        let b ← Extern.Bytes.bytesOf u
        let c ← Extern.Bytes.asByte v
        match (List.range b.size).find? fun i => b[i]! == c with
        | some i => pure (goInt i)
        | none => pure (goInt (-1)) : Sem Value).run P w = _
      simp only [Sem.run_bind, hrun, Result.andThen_ok, byte_conc hb hv]
      rw [← hfi]
      unfold firstIdx
      cases (List.range (bytesV s).size).find? fun i => (bytesV s)[i]! == UInt8.ofNat m <;> rfl
    · obtain ⟨i, h4⟩ := findB_some h3
      refine ⟨_, _, h4, fun π w us hr hc => ?_⟩
      obtain ⟨u, v, hu, hv, rfl⟩ := concs2 hc
      exact absurd (h2 π w hr u hu).1 hs
  | [], h => cases h
  | [_], h => cases h
  | _ :: _ :: _ :: _, h => cases h


theorem countB_eq {c : Nat} : ∀ (l : List Nat) (k : Nat → Option R), countB c l k = k (l.filter fun b => Nat.beq b c).length := by
  have key : ∀ (l : List Nat) (n : Nat) (k : Nat → Option R), (List.rec (motive := fun _ => Nat → Option R) (fun n => k n) (fun b _ ih n => Bool.casesOn (Nat.beq b c) (ih n) (ih (Nat.succ n))) l n : Option R) = k (n + (l.filter fun b => Nat.beq b c).length) := by
    intro l
    induction l with
    | nil => intro n k; rfl
    | cons b l ih =>
      intro n k
      show (Bool.casesOn (Nat.beq b c) (List.rec (motive := fun _ => Nat → Option R) (fun n => k n) (fun b _ ih n => Bool.casesOn (Nat.beq b c) (ih n) (ih (Nat.succ n))) l n) (List.rec (motive := fun _ => Nat → Option R) (fun n => k n) (fun b _ ih n => Bool.casesOn (Nat.beq b c) (ih n) (ih (Nat.succ n))) l (n + 1)) : Option R) = _
      rw [ih, ih, List.filter_cons]
      cases Nat.beq b c
      · rfl
      · simp only [if_true, List.length_cons]; congr 1; omega
  intro l k
  have := key l 0 k
  rw [Nat.zero_add] at this
  exact this
theorem count_small {c : Nat} (hc : c < 256) : ∀ l : List Nat, small l = true → (l.filter fun b => Nat.beq b c).length = Lib.countByte (l.map UInt8.ofNat) (UInt8.ofNat c)
  | [], _ => rfl
  | b :: l, hs => by
    obtain ⟨h1, h2⟩ := small_cons hs
    have ih := count_small hc l h2
    unfold Lib.countByte at ih ⊢
    rw [List.filter_cons, List.map_cons, List.count_cons, u8_beq h1 hc]
    cases Nat.beq b c
    · simpa using ih
    · simpa using ih

theorem count_ok : ExtSem P .count Extern.BytealgCount.count := by
  intro R args H k r h
  match args, h with
  | [a, b], h =>
    obtain ⟨s, h1, h2⟩ := listBytes_inv (P := P) (show listBytes H a (fun s => byteK b fun c => countB c s fun n => k (.int .i64 (Int.ofNat n)) H) = some r from h)
    obtain ⟨m, hb, hm, h3⟩ := byteK_inv h1
    rw [countB_eq] at h3
    refine ⟨_, _, h3, fun π w us hr hc => ?_⟩
    obtain ⟨u, v, hu, hv, rfl⟩ := concs2 hc
    obtain ⟨hs, hrun⟩ := h2 π w hr u hu
    refine ⟨.int .i64 (Int.ofNat (s.filter fun b => Nat.beq b m).length), w, ?_, π, rfl, Post.refl hr⟩
    show (do
      let b ← Extern.Bytes.bytesOf u
      let c ← Extern.Bytes.asByte v
      pure (goInt (b.foldl (fun n x => if x == c then n + 1 else n) (0 : Nat))) : Sem Value).run P w = _
    simp only [Sem.run_bind, hrun, Result.andThen_ok, byte_conc hb hv, Sem.run_pure]
    rw [Lib.foldl_data, Lib.count_foldl, data_bytesV, count_small hm s hs]
    simp [goInt]
  | [], h => cases h
  | [_], h => cases h
  | _ :: _ :: _ :: _, h => cases h

theorem compare_eq : ∀ {a b : List Nat}, small a = true → small b = true → Lib.compareBytes (a.map UInt8.ofNat) (b.map UInt8.ofNat) = if strEq a b then 0 else if strLt a b then -1 else 1
  | [], [], _, _ => rfl
  | [], _ :: _, _, _ => rfl
  | _ :: _, [], _, _ => rfl
  | x :: a, y :: b, ha, hb => by
    obtain ⟨h1, h2⟩ := small_cons ha
    obtain ⟨h3, h4⟩ := small_cons hb
    have ih := compare_eq h2 h4
    have l1 := u8_lt h1 h3
    have l2 := u8_lt h3 h1
    show (if UInt8.ofNat x < UInt8.ofNat y then -1 else if UInt8.ofNat y < UInt8.ofNat x then 1 else Lib.compareBytes (a.map UInt8.ofNat) (b.map UInt8.ofNat)) = if (Bool.casesOn (Nat.beq x y) false (strEq a b) : Bool) then 0 else if (Bool.casesOn (Nat.beq x y) (Nat.blt x y) (strLt a b) : Bool) then -1 else 1
    by_cases e : x = y
    · subst e
      have hb : Nat.beq x x = true := Nat.beq_refl x
      have hirr : ¬ UInt8.ofNat x < UInt8.ofNat x := UInt8.lt_irrefl _
      rw [if_neg hirr, if_neg hirr, hb, ih]
    · have hb : Nat.beq x y = false := by cases h : Nat.beq x y with
        | false => rfl
        | true => exact absurd (Nat.eq_of_beq_eq_true h) e
      rw [hb]
      by_cases hlt : x < y
      · have : Nat.blt x y = true := by rw [Nat.blt_eq]; exact hlt
        rw [this] at l1
        rw [if_pos (by simpa using l1)]
        simp [this]
      · have hf : Nat.blt x y = false := by cases h : Nat.blt x y with
          | false => rfl
          | true => rw [Nat.blt_eq] at h; exact absurd h hlt
        have ht : Nat.blt y x = true := by rw [Nat.blt_eq]; omega
        rw [hf] at l1
        rw [ht] at l2
        rw [if_neg (by simpa using l1), if_pos (by simpa using l2)]
        simp [hf]

theorem compare_ok : ExtSem P .compare Extern.BytealgCompare.compare := by
  intro R args H k r h
  match args, h with
  | [a, b], h =>
    obtain ⟨s, h1, h2⟩ := listBytes_inv (P := P) (show listBytes H a (fun a => listBytes H b fun b => Bool.casesOn (strEq a b) (Bool.casesOn (strLt a b) (k (.int .i64 1) H) (k (.int .i64 (-1)) H)) (k (.int .i64 0) H)) = some r from h)
    obtain ⟨s', h3, h4⟩ := listBytes_inv (P := P) h1
    have h5 : k (.int .i64 (if strEq s s' then 0 else if strLt s s' then -1 else 1)) H = some r := by
      rcases bcase_true h3 with ⟨he, h5⟩ | ⟨he, h5⟩
      · rcases bcase_true h5 with ⟨hl, h6⟩ | ⟨hl, h6⟩
        · rw [he, hl]; exact h6
        · rw [he, hl]; exact h6
      · rw [he]; exact h5
    refine ⟨_, _, h5, fun π w us hr hc => ?_⟩
    obtain ⟨u, v, hu, hv, rfl⟩ := concs2 hc
    obtain ⟨hs, hrun⟩ := h2 π w hr u hu
    obtain ⟨hs', hrun'⟩ := h4 π w hr v hv
    refine ⟨_, w, ?_, π, rfl, Post.refl hr⟩
    show (do pure (goInt (Extern.BytealgCompare.cmp (← Extern.Bytes.bytesOf u) (← Extern.Bytes.bytesOf v))) : Sem Value).run P w = _
    simp only [Sem.run_bind, hrun, hrun', Result.andThen_ok, Sem.run_pure]
    rw [Lib.cmp_eq, data_bytesV, data_bytesV, compare_eq hs hs']
    rfl
  | [], h => cases h
  | [_], h => cases h
  | _ :: _ :: _ :: _, h => cases h

/-- A stand-in's law makes the call's. -/
theorem ext_call {f : FuncId} {fn : Func} {x : Ext} {e : Array Value → Sem Value} (hs : ExtSem P x e) (hf : P.funcs[f]? = some fn) (hname : (fn.name == "runtime.NumGoroutine") = false) (hb : fn.body.isNone = true) (hn : Extern.findNext fn = none) (he : Extern.find fn = some e)
    {args : List AV} {H : Heap} {k : AV → Heap → Option R} {r : R} (h : extK x args H k = some r) : CallJ P f args H k r := by
  obtain ⟨v, H', h1, h2⟩ := hs R args H k r h
  refine ⟨v, H', h1, fun π w us n hr hc => .inl ?_⟩
  obtain ⟨u, w', h3, h4⟩ := h2 π w us hr hc
  refine ⟨u, w', ?_, h4⟩
  rw [run_callFunc_extern hf hname hb hn he, h3]
  rfl

end
end Go.Ev
