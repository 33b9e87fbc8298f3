/- The quiet operations: slices of slices. -/
import Derived.Test.YtglploknmdbigaaGreatDoorSd
set_option linter.unusedSectionVars false
namespace Go.Ev
section
variable [Sym]
variable {P : Program} {R : Type}

/-- A slice, in full. -/
theorem conc_sl2 {π : Pi} {r o a n : Nat} {c : SCap} {u : Value} (h : conc π (.sl r o a n c) = some u) : ∃ L, π r = some L ∧ match c with
    | .ex c => n ≤ c ∧ u = .slice (some ⟨L.block, L.shift + o, none⟩) n c
    | .un e => (0 < e ∧ o + n * e ≤ L.cap) ∧ u = .slice (some ⟨L.block, L.shift + (if (L.cap - o) / e = 0 then a else o), none⟩) n ((L.cap - o) / e)
    | .z e => n = 0 ∧ u = .slice (some ⟨L.block, L.shift + (if (L.cap - o) / e = 0 then a else o), none⟩) 0 0 := by
  unfold conc at h
  split at h
  · rename_i L hL
    refine ⟨L, hL, ?_⟩
    cases c <;> simp only at h ⊢ <;> split at h <;> first | (cases h; done) | (rename_i hc; exact ⟨hc, (Option.some.inj h).symm⟩)
  · cases h
theorem conc_mk_ex {π : Pi} {r o a n c : Nat} {L : Loc} (hL : π r = some L) (hn : n ≤ c) : conc π (.sl r o a n (.ex c)) = some (.slice (some ⟨L.block, L.shift + o, none⟩) n c) := by
  unfold conc; rw [hL]; simp only [if_pos hn]
theorem conc_mk_un {π : Pi} {r o a n e : Nat} {L : Loc} (hL : π r = some L) (he : 0 < e) (hn : o + n * e ≤ L.cap) : conc π (.sl r o a n (.un e)) = some (.slice (some ⟨L.block, L.shift + (if (L.cap - o) / e = 0 then a else o), none⟩) n ((L.cap - o) / e)) := by
  unfold conc; rw [hL]; simp only [if_pos (And.intro he hn)]
theorem conc_mk_z {π : Pi} {r o a e : Nat} {L : Loc} (hL : π r = some L) : conc π (.sl r o a 0 (.z e)) = some (.slice (some ⟨L.block, L.shift + (if (L.cap - o) / e = 0 then a else o), none⟩) 0 0) := by
  unfold conc; rw [hL]; simp only [if_true]

theorem slOut_eq (r o a n : Nat) (c : SCap) (k : AV → Option R) : slOut r o a n c k = k (.sl r o a n c) := by unfold slOut; rw [natK_eq, natK_eq, natK_eq]
theorem slEx_eq (r o n c : Nat) (k : AV → Option R) : slEx r o n c k = k (.sl r o o n (.ex c)) := by unfold slEx; rw [natK_eq, slOut_eq]

theorem capK_inv {H : Heap} {r o a n : Nat} {c : SCap} {k : Nat → Option R} {x : R} (h : capK H r o n c k = some x) : ∃ m, k m = some x ∧
    ∀ π w, Rel π H w → ∀ p n' cap, conc π (.sl r o a n c) = some (.slice p n' cap) → m ≤ cap := by
  cases c with
  | ex c =>
    refine ⟨c, h, fun π w _ p n' cap hc => ?_⟩
    obtain ⟨L, _, _, h2⟩ := conc_sl2 hc
    cases h2; exact Nat.le_refl _
  | z e => exact ⟨0, h, fun _ _ _ _ _ _ _ => Nat.zero_le _⟩
  | un e =>
    replace h : getT H.t r (fun x => match x with
      | .cells cs => minus cs o fun m => Nat.casesOn e none fun _ => natK (Nat.max n (Nat.div m e)) k
      | _ => none) = some x := h
    rw [getT_eq] at h
    cases hg : H.t.get r with
    | none => rw [hg] at h; cases h
    | some ob =>
      rw [hg] at h
      cases ob <;> try (cases h; done)
      rename_i cs
      replace h : minus cs o (fun m => Nat.casesOn e none fun _ => natK (Nat.max n (Nat.div m e)) k) = some x := h
      unfold minus at h
      rw [lenK_eq, natK_eq] at h
      cases e with
      | zero => cases h
      | succ e =>
        replace h : natK (Nat.max n (Nat.div (Nat.sub cs.length o) (e + 1))) k = some x := h
        rw [natK_eq] at h
        refine ⟨_, h, fun π w hr p n' cap hc => ?_⟩
        obtain ⟨L, hL, ⟨_, h1⟩, h2⟩ := conc_sl2 hc
        cases h2
        obtain ⟨arr, et, fz, vs, _, _, _, _, h5, _, _⟩ := hr.cells (show H.get r = some (.cells cs) from hg) hL
        refine Nat.max_le.2 ⟨?_, ?_⟩
        · rw [Nat.le_div_iff_mul_le (by omega)]; omega
        · exact Nat.div_le_div_right (by show cs.length - o ≤ _; omega)

theorem sliceTwo_inv {esz r o alt len : Nat} {c : SCap} {l h : Nat} {k : AV → Option R} {x : R} (hk : sliceTwo esz r o alt len c l h k = some x) : ∃ v, k v = some x ∧
    ∀ π p n cap, conc π (.sl r o alt len c) = some (.slice p n cap) → l ≤ h → h ≤ cap → conc π v = some (.slice (if cap = l then p else p.map (·.add (l * esz))) (h - l) (cap - l)) := by
  cases c with
  | ex c =>
    rcases bcase_true (show (Bool.casesOn (Nat.beq c l) (slEx r (Nat.add o (Nat.mul l esz)) (Nat.sub h l) (Nat.sub c l) k) (slEx r o (Nat.sub h l) 0 k) : Option R) = some x from hk) with ⟨hb, hk⟩ | ⟨hb, hk⟩
    · rw [slEx_eq] at hk
      refine ⟨_, hk, fun π p n cap hc h1 h2 => ?_⟩
      obtain ⟨L, hL, h3, h4⟩ := conc_sl2 hc
      cases h4
      have hne : ¬ c = l := Nat.ne_of_beq_eq_false hb
      rw [if_neg hne, conc_mk_ex hL (show Nat.sub h l ≤ Nat.sub c l by show h - l ≤ c - l; omega)]
      simp only [Option.map_some, add_at]
      congr 4
      show L.shift + (o + l * esz) = _; omega
    · rw [slEx_eq] at hk
      have hb := Nat.eq_of_beq_eq_true hb
      subst hb
      refine ⟨_, hk, fun π p n cap hc h1 h2 => ?_⟩
      obtain ⟨L, hL, h3, h4⟩ := conc_sl2 hc
      cases h4
      rw [if_pos rfl, conc_mk_ex hL (show Nat.sub h c ≤ 0 by show h - c ≤ 0; omega)]
      congr 2; omega
  | z e =>
    cases h with
    | zero =>
      refine ⟨_, hk, fun π p n cap hc h1 h2 => ?_⟩
      obtain ⟨L, hL, h3, h4⟩ := conc_sl2 hc
      cases h4
      have : l = 0 := by omega
      subst this
      rw [if_pos rfl, conc_mk_z hL]
    | succ h => cases hk
  | un e =>
    obtain ⟨he, hk⟩ := bcase_none (show (Bool.casesOn (Nat.beq e esz) none (slOut r (Nat.add o (Nat.mul l esz)) (Nat.casesOn l alt fun _ => o) (Nat.sub h l) (.un e) k) : Option R) = some x from hk)
    have he := Nat.eq_of_beq_eq_true he
    subst he
    rw [slOut_eq] at hk
    refine ⟨_, hk, fun π p n cap hc h1 h2 => ?_⟩
    obtain ⟨L, hL, ⟨h3, h5⟩, h4⟩ := conc_sl2 hc
    have hcap : cap = (L.cap - o) / e := by cases h4; rfl
    have hp : p = some ⟨L.block, L.shift + (if (L.cap - o) / e = 0 then alt else o), none⟩ := by cases h4; rfl
    have hle : h * e ≤ L.cap - o := by rw [← Nat.le_div_iff_mul_le h3]; omega
    have hle2 : l * e ≤ h * e := Nat.mul_le_mul_right e h1
    have hsum : (h - l) * e = h * e - l * e := Nat.sub_mul h l e
    have hdiv : (L.cap - (o + l * e)) / e = (L.cap - o) / e - l := by
      rw [← Nat.sub_sub, Nat.mul_comm l e, Nat.sub_mul_div]
    rw [show Nat.add o (Nat.mul l e) = o + l * e from rfl, show Nat.sub h l = h - l from rfl, conc_mk_un hL h3 (by omega), hdiv, hcap, hp]
    by_cases e1 : (L.cap - o) / e = l
    · rw [e1, if_pos (by omega), if_pos rfl]
      cases l with
      | zero => rw [if_pos rfl]; rfl
      | succ l => rw [if_neg (by omega)]
    · rw [if_neg (by omega), if_neg e1, if_neg (by omega)]
      simp only [Option.map_some, add_at]
      congr 4; omega

theorem sliceThree_inv {esz r o alt len : Nat} {c : SCap} {l h m : Nat} {k : AV → Option R} {x : R} (hk : sliceThree esz r o alt c l h m k = some x) : ∃ v, k v = some x ∧
    ∀ π p n cap, conc π (.sl r o alt len c) = some (.slice p n cap) → l ≤ h → h ≤ m → m ≤ cap → conc π v = some (.slice (if m = l then p else p.map (·.add (l * esz))) (h - l) (m - l)) := by
  rcases bcase_true hk with ⟨hb, hk⟩ | ⟨hb, hk⟩
  · rw [slEx_eq] at hk
    refine ⟨_, hk, fun π p n cap hc h1 h2 h3 => ?_⟩
    have hne : ¬ m = l := Nat.ne_of_beq_eq_false hb
    obtain ⟨L, off, cap', hL, he, _, hoff⟩ := conc_sl hc
    cases he
    have := hoff (by omega)
    subst this
    rw [if_neg hne, conc_mk_ex hL (show Nat.sub h l ≤ Nat.sub m l by show h - l ≤ m - l; omega)]
    simp only [Option.map_some, add_at]
    congr 4
    show L.shift + (off + l * esz) = _; omega
  · have hb := Nat.eq_of_beq_eq_true hb
    subst hb
    cases c with
    | ex c =>
      replace hk : slEx r o 0 0 k = some x := hk
      rw [slEx_eq] at hk
      refine ⟨_, hk, fun π p n cap hc h1 h2 h3 => ?_⟩
      obtain ⟨L, hL, _, h4⟩ := conc_sl2 hc
      cases h4
      rw [if_pos rfl, conc_mk_ex hL (Nat.le_refl 0)]
      congr 2 <;> omega
    | z e =>
      refine ⟨_, hk, fun π p n cap hc h1 h2 h3 => ?_⟩
      obtain ⟨L, hL, _, h4⟩ := conc_sl2 hc
      cases h4
      rw [if_pos rfl, conc_mk_z hL]
      congr 2 <;> omega
    | un e =>
      obtain ⟨he, hk⟩ := bcase_none (show (Bool.casesOn (Nat.beq e esz) none (Nat.casesOn m (k (.sl r o alt 0 (.z e))) fun _ => k (.sl r o o 0 (.z e))) : Option R) = some x from hk)
      cases m with
      | zero =>
        refine ⟨_, hk, fun π p n cap hc h1 h2 h3 => ?_⟩
        obtain ⟨L, hL, _, h4⟩ := conc_sl2 hc
        cases h4
        rw [if_pos rfl, conc_mk_z hL]
        congr 2; omega
      | succ m =>
        refine ⟨_, hk, fun π p n cap hc h1 h2 h3 => ?_⟩
        obtain ⟨L, hL, _, h4⟩ := conc_sl2 hc
        cases h4
        rw [if_pos rfl, conc_mk_z hL]
        congr 2
        · have hz : ¬ (L.cap - o) / e = 0 := by omega
          rw [if_neg hz, if_neg hz]
        · omega
        · omega

theorem nilBounds {l : Option Nat} {h : Nat} {k : AV → Option R} {x : R} (hk : (Nat.casesOn (l.getD 0) (Nat.casesOn h (k .nilsl) fun _ => none) fun _ => none : Option R) = some x) : l.getD 0 = 0 ∧ h = 0 ∧ k .nilsl = some x := by
  cases e : l.getD 0 with
  | succ _ => rw [e] at hk; cases hk
  | zero => rw [e] at hk; cases h with
    | succ _ => cases hk
    | zero => exact ⟨rfl, rfl, hk⟩

theorem qSlice2_sound {o : Oper} {ty e : TypeId} {esz : Nat} {x : Operand} {lo hi : Option Operand} (ho : o.op = .slice ty x lo hi none) (hu : P.underlying ty = some (.slice e)) (hsz : sizeT P e = some esz) : QSound P o (qSlice2 esz x lo hi : Q R) := by
  intro t H k r h
  obtain ⟨v, h1, h2⟩ := opK_inv (x := x) h
  obtain ⟨l, g1, h3⟩ := optIdx_inv' h1; clear h1
  obtain ⟨hh, h1, h4⟩ := optIdx_inv' g1; clear g1
  cases v <;> try (cases h1; done)
  case nilsl =>
    obtain ⟨e1, e2, h1⟩ := nilBounds h1
    refine ⟨_, h1, fun π w a _ ha => ⟨_, rfl, ?_⟩⟩
    have hx : a.eval x = .slice none 0 0 := (Option.some.inj (h2 π a (ha x (by simp [ho, Op.operands])))).symm
    have h3 := h3 π a (fun y hy => ha y (by simp [ho, Op.operands, hy]))
    have h4 := h4 π a (fun y hy => ha y (by simp [ho, Op.operands, hy]))
    have hbd := run_bounds2 (P := P) (sl := true) (len := 0) (cap := 0) h3 h4 (by omega) (.inr (by omega)) w
    simp [execOp, ho, Instr.sliceAt, Instr.slice, run_underlying hu, hx, hbd, run_size hsz, e1, e2]
  case sl q off al n c =>
    replace h1 : natK (l.getD 0) (fun l => natK (hh.getD n) fun h => Bool.casesOn (leB l h) none (Bool.casesOn (leB h n)
      (capK H q off n c fun m => Bool.casesOn (leB h m) none (sliceTwo esz q off al n c l h k)) (sliceTwo esz q off al n c l h k))) = some r := h1
    rw [natK_eq, natK_eq] at h1
    obtain ⟨hb, h1⟩ := bcase_none h1
    rw [leB_le] at hb
    have key : ∃ v, k v = some r ∧ ∀ π w, Rel π H w → ∀ p n' cap, conc π (.sl q off al n c) = some (.slice p n' cap) → hh.getD n ≤ cap ∧ conc π v = some (.slice (if cap = l.getD 0 then p else p.map (·.add (l.getD 0 * esz))) (hh.getD n - l.getD 0) (cap - l.getD 0)) := by
      rcases bcase_true h1 with ⟨_, h1⟩ | ⟨hb2, h1⟩
      · obtain ⟨m, h1, h5⟩ := capK_inv (a := al) h1
        obtain ⟨hb2, h1⟩ := bcase_none h1
        rw [leB_le] at hb2
        obtain ⟨v, h6, h7⟩ := sliceTwo_inv h1
        refine ⟨v, h6, fun π w hr p n' cap hc => ?_⟩
        have := h5 π w hr p n' cap hc
        exact ⟨by omega, h7 π p n' cap hc hb (by omega)⟩
      · rw [leB_le] at hb2
        obtain ⟨v, h6, h7⟩ := sliceTwo_inv h1
        refine ⟨v, h6, fun π w hr p n' cap hc => ?_⟩
        obtain ⟨L, off', cap', _, he, hle, _⟩ := conc_sl hc
        cases he
        exact ⟨by omega, h7 π _ _ _ hc hb (by omega)⟩
    obtain ⟨v, h6, h7⟩ := key
    refine ⟨v, h6, fun π w a hr ha => ?_⟩
    have hv := h2 π a (ha x (by simp [ho, Op.operands]))
    obtain ⟨L, off', cap', _, hx, hle, _⟩ := conc_sl hv
    rw [hx] at hv
    obtain ⟨h8, h9⟩ := h7 π w hr _ _ _ hv
    have h3 := h3 π a (fun y hy => ha y (by simp [ho, Op.operands, hy]))
    have h4 := h4 π a (fun y hy => ha y (by simp [ho, Op.operands, hy]))
    have hbd := run_bounds2 (P := P) (sl := true) (len := n) (cap := cap') h3 h4 hb (.inr h8) w
    refine ⟨_, h9, ?_⟩
    simp only [execOp, ho, Instr.sliceAt, Instr.slice, run_underlying hu, hx, hbd, run_size hsz, Sem.run_bind, Result.andThen_ok, Option.map_none, Sem.run_pure]

theorem qSlice3_sound {o : Oper} {ty e : TypeId} {esz : Nat} {x hi mx : Operand} {lo : Option Operand} (ho : o.op = .slice ty x lo (some hi) (some mx)) (hu : P.underlying ty = some (.slice e)) (hsz : sizeT P e = some esz) : QSound P o (qSlice3 esz x lo hi mx : Q R) := by
  intro t H k r h
  obtain ⟨v, h1, h2⟩ := opK_inv (x := x) h
  obtain ⟨l, g1, h3⟩ := optIdx_inv' h1; clear h1
  obtain ⟨vh, h1, h4⟩ := opK_inv (x := hi) g1; clear g1
  obtain ⟨jh, hh, rfl, g1⟩ := idxK_inv h1; clear h1
  obtain ⟨vm, h1, h5⟩ := opK_inv (x := mx) g1; clear g1
  obtain ⟨jm, m, rfl, g1⟩ := idxK_inv h1; clear h1
  have h1 := g1; clear g1
  cases v <;> try (cases h1; done)
  case nilsl =>
    replace h1 : (Nat.casesOn (l.getD 0) (Nat.casesOn hh ((fun _ : AV => Nat.casesOn m (k .nilsl) fun _ => none) .nilsl) fun _ => none) fun _ => none : Option R) = some r := h1
    obtain ⟨e1, e2, h1⟩ := nilBounds (k := fun _ : AV => Nat.casesOn m (k .nilsl) fun _ => none) h1
    cases m with
    | succ _ => cases h1
    | zero =>
      refine ⟨_, h1, fun π w a _ ha => ⟨_, rfl, ?_⟩⟩
      have hx : a.eval x = .slice none 0 0 := (Option.some.inj (h2 π a (ha x (by simp [ho, Op.operands])))).symm
      have h3 := h3 π a (fun y hy => ha y (by simp [ho, Op.operands, hy]))
      have h4 := conc_int (h4 π a (ha hi (by simp [ho, Op.operands])))
      have h5 := conc_int (h5 π a (ha mx (by simp [ho, Op.operands])))
      have hbd := run_bounds3 (P := P) (sl := true) (len := 0) (cap := 0) h3 h4 h5 (by omega) (by omega) (by omega) w
      simp [execOp, ho, Instr.sliceAt, Instr.slice, run_underlying hu, hx, hbd, run_size hsz, e1, e2]
  case sl q off al n c =>
    replace h1 : natK (l.getD 0) (fun l => Bool.casesOn (leB l hh && leB hh m) none (Bool.casesOn (leB m n)
      (capK H q off n c fun b => Bool.casesOn (leB m b) none (sliceThree esz q off al c l hh m k)) (sliceThree esz q off al c l hh m k))) = some r := h1
    rw [natK_eq] at h1
    obtain ⟨hb, h1⟩ := bcase_none h1
    rw [Bool.and_eq_true, leB_le, leB_le] at hb
    have key : ∃ v, k v = some r ∧ ∀ π w, Rel π H w → ∀ p n' cap, conc π (.sl q off al n c) = some (.slice p n' cap) → m ≤ cap ∧ conc π v = some (.slice (if m = l.getD 0 then p else p.map (·.add (l.getD 0 * esz))) (hh - l.getD 0) (m - l.getD 0)) := by
      rcases bcase_true h1 with ⟨_, h1⟩ | ⟨hb2, h1⟩
      · obtain ⟨mm, h1, h5⟩ := capK_inv (a := al) h1
        obtain ⟨hb2, h1⟩ := bcase_none h1
        rw [leB_le] at hb2
        obtain ⟨v, h6, h7⟩ := sliceThree_inv (len := n) h1
        refine ⟨v, h6, fun π w hr p n' cap hc => ?_⟩
        have := h5 π w hr p n' cap hc
        exact ⟨by omega, h7 π p n' cap hc hb.1 hb.2 (by omega)⟩
      · rw [leB_le] at hb2
        obtain ⟨v, h6, h7⟩ := sliceThree_inv (len := n) h1
        refine ⟨v, h6, fun π w hr p n' cap hc => ?_⟩
        obtain ⟨L, off', cap', _, he, hle, _⟩ := conc_sl hc
        cases he
        exact ⟨by omega, h7 π _ _ _ hc hb.1 hb.2 (by omega)⟩
    obtain ⟨v, h6, h7⟩ := key
    refine ⟨v, h6, fun π w a hr ha => ?_⟩
    have hv := h2 π a (ha x (by simp [ho, Op.operands]))
    obtain ⟨L, off', cap', _, hx, hle, _⟩ := conc_sl hv
    rw [hx] at hv
    obtain ⟨h8, h9⟩ := h7 π w hr _ _ _ hv
    have h3 := h3 π a (fun y hy => ha y (by simp [ho, Op.operands, hy]))
    have h4 := conc_int (h4 π a (ha hi (by simp [ho, Op.operands])))
    have h5 := conc_int (h5 π a (ha mx (by simp [ho, Op.operands])))
    have hbd := run_bounds3 (P := P) (sl := true) (len := n) (cap := cap') h3 h4 h5 hb.1 hb.2 h8 w
    refine ⟨_, h9, ?_⟩
    simp only [execOp, ho, Instr.sliceAt, Instr.slice, run_underlying hu, hx, hbd, run_size hsz, Sem.run_bind, Result.andThen_ok, Option.map_some, Sem.run_pure]

end
end Go.Ev

set_option linter.unusedSectionVars false
namespace Go.Ev
section
variable [Sym]
variable {P : Program} {R : Type}

theorem qSliceArr_sound {o : Oper} {ty e : TypeId} {n esz : Nat} {x : Operand} {lo hi mx : Option Operand} (ho : o.op = .slice ty x lo hi mx) (hm : mx = none ∨ ∃ h, hi = some h) (hu : P.underlying ty = some (.array n e)) (hsz : sizeT P e = some esz) : QSound P o (qSliceArr n esz x lo hi mx : Q R) := by
  intro t H k r h
  obtain ⟨v, h1, h2⟩ := opK_inv (x := x) h
  obtain ⟨q, off, rfl, g1⟩ := ptrK_inv h1; clear h1
  obtain ⟨l, h1, h3⟩ := optIdx_inv' g1; clear g1
  obtain ⟨hh, g1, h4⟩ := optIdx_inv' h1; clear h1
  obtain ⟨m, h1, h5⟩ := optIdx_inv' g1; clear g1
  rw [natK_eq, natK_eq, natK_eq] at h1
  obtain ⟨hb, h1⟩ := bcase_none h1
  rw [Bool.and_eq_true, Bool.and_eq_true, leB_le, leB_le, leB_le] at hb
  obtain ⟨⟨b1, b2⟩, b3⟩ := hb
  have key : ∃ v, k v = some r ∧ ∀ π L, π q = some L → conc π v = some (.slice (some (if m.getD n = l.getD 0 then ⟨L.block, L.shift + off, none⟩ else (⟨L.block, L.shift + off, none⟩ : Addr).add (l.getD 0 * esz))) (hh.getD n - l.getD 0) (m.getD n - l.getD 0)) := by
    rcases bcase_true h1 with ⟨hb, h1⟩ | ⟨hb, h1⟩
    · rw [slEx_eq] at h1
      refine ⟨_, h1, fun π L hL => ?_⟩
      rw [if_neg (Nat.ne_of_beq_eq_false hb), conc_mk_ex hL (show Nat.sub (hh.getD n) (l.getD 0) ≤ Nat.sub (m.getD n) (l.getD 0) by show hh.getD n - l.getD 0 ≤ m.getD n - l.getD 0; omega), add_at]
      congr 4
      show L.shift + (off + l.getD 0 * esz) = _; omega
    · rw [slEx_eq] at h1
      have hb := Nat.eq_of_beq_eq_true hb
      refine ⟨_, h1, fun π L hL => ?_⟩
      rw [if_pos hb, conc_mk_ex hL (Nat.le_refl 0)]
      congr 2 <;> omega
  obtain ⟨v, h6, h7⟩ := key
  refine ⟨v, h6, fun π w a hr ha => ?_⟩
  obtain ⟨L, hL, hx⟩ := conc_ptr (h2 π a (ha x (by simp [ho, Op.operands])))
  refine ⟨_, h7 π L hL, ?_⟩
  have h3 := h3 π a (fun y hy => ha y (by simp [ho, Op.operands, hy]))
  have h4 := h4 π a (fun y hy => ha y (by simp [ho, Op.operands, hy]))
  have h5 := h5 π a (fun y hy => ha y (by simp [ho, Op.operands, hy]))
  have hbd : (Instr.sliceBounds false n n (lo.map a.eval) (hi.map a.eval) (mx.map a.eval)).run P w = .ok (l.getD 0, hh.getD n, m.getD n) w := by
    cases mx with
    | none =>
      cases m with
      | some _ => simp [BoundAt] at h5
      | none => exact run_bounds2 h3 h4 b1 (.inr (by omega)) w
    | some mx =>
      rcases hm with hm | ⟨hi', rfl⟩
      · cases hm
      · cases m with
        | none => simp [BoundAt] at h5
        | some m =>
          cases hh with
          | none => simp [BoundAt] at h4
          | some hh =>
            obtain ⟨j, e1⟩ := h4
            obtain ⟨j', e2⟩ := h5
            exact run_bounds3 h3 e1 e2 b1 b2 b3 w
  simp only [execOp, ho, Instr.sliceAt, run_underlying hu, hx, Instr.sureAddr, hbd, run_size hsz, Sem.run_bind, Result.andThen_ok, Sem.run_pure]

theorem qSlice_sound {o : Oper} {ty : TypeId} {x : Operand} {lo hi mx : Option Operand} (ho : o.op = .slice ty x lo hi mx) : QSound P o (qSlice P ty x lo hi mx : Q R) := by
  unfold qSlice
  split
  · split
    · exact qSliceStr_sound ho (underQ_some (by assumption))
    · exact qNone_sound o
  · split
    · split
      · exact qSlice2_sound ho (underQ_some (by assumption)) (by assumption)
      · exact qSlice3_sound ho (underQ_some (by assumption)) (by assumption)
      · exact qNone_sound o
    · exact qNone_sound o
  · split
    · exact qNone_sound o
    · exact qNone_sound o
    · rename_i mx1 hi1 _ _ _ esz h1 h2
      refine qSliceArr_sound ho ?_ (underQ_some (by assumption)) (by assumption)
      cases mx1 with
      | none => exact .inl rfl
      | some m => cases hi1 with
        | some h => exact .inr ⟨h, rfl⟩
        | none => exact (h2 m rfl rfl).elim
  · exact qNone_sound o

/-! ### keys -/
def CkOk (P : Program) (d : Nat) (t : TypeId) (f : CkF R) : Prop := ∀ x k r, f x k = some r → k = some r ∧ ∀ π u, conc π x = some u → ∀ em D w, d ≤ D → (Instr.checkKey em D t u).run P w = .ok () w

theorem ckNone_ok (d : Nat) (t : TypeId) : CkOk P d t (ckNone : CkF R) := fun _ _ _ h => by cases h
theorem ckAny_ok {d : Nat} {t : TypeId} (h : (∃ k, P.underlying t = some (.int k)) ∨ P.underlying t = some .string) : CkOk P (d + 1) t (ckAny : CkF R) := by
  intro x k r hk
  refine ⟨hk, fun π u hu em D w hD => ?_⟩
  obtain ⟨D, rfl⟩ : ∃ D', D = D' + 1 := ⟨D - 1, by omega⟩
  rcases h with ⟨j, h⟩ | h
  · cases u <;> simp [Instr.checkKey, run_underlying h]
  · cases u <;> simp [Instr.checkKey, run_underlying h]

theorem ckFs_ok {d : Nat} : ∀ (fs : List Field) (E : Field → CkF R), (∀ f ∈ fs, CkOk P d f.type (E f)) → ∀ xs k r,
    ckFs ((fs.filter fun f => f.name != "_").map (fun f => partK P f.type f.offset), (fs.filter fun f => f.name != "_").map E) () xs k = some r → k = some r ∧
    ∀ π us, concs π xs = some us → AV.flats xs = true → ∀ f ∈ fs, f.name ≠ "_" → ∀ em D w, d ≤ D → ∃ u, (part f.type us.toArray f.offset).run P w = .ok u w ∧ (Instr.checkKey em D f.type u).run P w = .ok () w
  | [], E, _, xs, k, r, h => ⟨h, fun _ _ _ _ _ hf => by simp at hf⟩
  | f :: fs, E, hE, xs, k, r, h => by
    by_cases hn : f.name = "_"
    · have e : ((f :: fs).filter fun f => f.name != "_") = fs.filter fun f => f.name != "_" := by simp [hn]
      rw [e] at h
      obtain ⟨h1, h2⟩ := ckFs_ok fs E (fun g hg => hE g (by simp [hg])) xs k r h
      refine ⟨h1, fun π us a1 a2 g hg hgn em D w hD => ?_⟩
      rcases List.mem_cons.1 hg with rfl | hg
      · exact absurd hn hgn
      · exact h2 π us a1 a2 g hg hgn em D w hD
    · have e : ((f :: fs).filter fun f => f.name != "_") = f :: fs.filter fun f => f.name != "_" := by simp [hn]
      rw [e, List.map_cons, List.map_cons] at h
      have h : partK P f.type f.offset xs (fun a => E f a (ckFs ((fs.filter fun f => f.name != "_").map (fun f => partK P f.type f.offset), (fs.filter fun f => f.name != "_").map E) () xs k)) = some r := h
      obtain ⟨x, h1, p1⟩ := partK_ok f.type f.offset _ _ _ h
      obtain ⟨h2, p2⟩ := hE f (by simp) _ _ _ h1
      obtain ⟨h3, p3⟩ := ckFs_ok fs E (fun g hg => hE g (by simp [hg])) xs k r h2
      refine ⟨h3, fun π us a1 a2 g hg hgn em D w hD => ?_⟩
      rcases List.mem_cons.1 hg with rfl | hg
      · obtain ⟨u, c1, r1⟩ := p1 π us a1 a2
        exact ⟨u, r1 w, p2 π u c1 em D w hD⟩
      · exact p3 π us a1 a2 g hg hgn em D w hD

theorem run_checkStruct {em : Bool} {D : Nat} {t : TypeId} {fs : Array Field} {us : Array Value} (hu : P.underlying t = some (.struct fs)) (w : World)
    (h : ∀ f ∈ fs.toList, f.name ≠ "_" → ∃ u, (part f.type us f.offset).run P w = .ok u w ∧ (Instr.checkKey em D f.type u).run P w = .ok () w) : (Instr.checkKey em (D + 1) t (.agg us)).run P w = .ok () w := by
  simp only [Instr.checkKey, Sem.run_bind, run_underlying hu, Result.andThen_ok]
  rw [← Array.forIn_toList]
  generalize fs.toList = l at h
  clear hu
  induction l with
  | nil => simp
  | cons f l ih =>
    have ih := ih (fun g hg => h g (by simp [hg]))
    simp only [List.forIn_cons, Sem.run_bind, Sem.run_ite]
    by_cases hn : f.name = "_"
    · rw [if_neg (by simp [hn])]
      simp only [Sem.run_pure, Result.andThen_ok]
      exact ih
    · rw [if_pos hn]
      obtain ⟨u, h1, h2⟩ := h f (by simp) hn
      simp only [h1, h2, Result.andThen_ok, Sem.run_pure]
      exact ih

theorem ckT_ok : ∀ (d : Nat) (t : TypeId), CkOk P d t (ckT P d t : CkF R)
  | 0, t => ckNone_ok 0 t
  | d + 1, t => by
    unfold ckT
    split
    · exact ckAny_ok (.inl ⟨_, underQ_some (by assumption)⟩)
    · exact ckAny_ok (.inr (underQ_some (by assumption)))
    · rename_i fs hu
      have hu := underQ_some hu
      intro x k r h
      obtain ⟨xs, rfl, g⟩ := aggK_inv h; clear h
      obtain ⟨h1, h2⟩ := ckFs_ok (P := P) (d := d) fs.toList (fun f => ckT P d f.type) (fun f _ => ckT_ok d f.type) xs k r g
      refine ⟨h1, fun π u hu' em D w hD => ?_⟩
      obtain ⟨us, c1, c2, rfl⟩ := conc_agg hu'
      obtain ⟨D, rfl⟩ : ∃ D', D = D' + 1 := ⟨D - 1, by omega⟩
      exact run_checkStruct hu w (fun f hf hn => h2 π us c1 c2 f hf hn em D w (by omega))
    · exact ckNone_ok _ _

/-! ### a map's row looked for -/
noncomputable def findFrom (e : EqF R) (key : AV) (k : Option (Nat × AV) → Option R) (es : List (AV × AV × Nat)) (i : Nat) : Option R :=
  List.rec (motive := fun _ => Nat → Option R) (fun _ => k none) (fun x _ ih i => e key x.1 fun r => Bool.casesOn r (ih (Nat.succ i)) (k (some (i, x.2.1)))) es i
/-- What was found. 'i': from where the rows are counted. -/
def FoundAt (π : Pi) (es : List (AV × AV × Nat)) (i : Nat) (res : Option (Nat × AV)) (res' : Option (Nat × Value)) : Prop := match res, res' with
  | none, none => True
  | some (n, v), some (m, u) => n = m ∧ conc π v = some u ∧ i ≤ n ∧ ∃ x, es[n - i]? = some x ∧ x.2.1 = v
  | _, _ => False
theorem findFrom_inv {d : Nat} {t : TypeId} {e : EqF R} (he : EqOk P d t e) (hd : d ≤ 10000) {key : AV} {k : Option (Nat × AV) → Option R} {r : R} : ∀ {es : List (AV × AV × Nat)} {i : Nat}, findFrom e key k es i = some r →
    ∃ res, k res = some r ∧ ∀ π kv ms, conc π key = some kv → ConcEs π es ms → ∀ w, ∃ res', (Instr.findAsking t kv ms i).run P w = .ok res' w ∧ FoundAt π es i res res'
  | [], i, h => ⟨none, h, fun π kv ms _ hes w => by
      cases ms with
      | nil => exact ⟨none, rfl, trivial⟩
      | cons _ _ => exact hes.elim⟩
  | x :: es, i, h => by
    obtain ⟨b, h1, h2⟩ := he _ _ _ _ (show e key x.1 (fun r => Bool.casesOn r (findFrom e key k es (i + 1)) (k (some (i, x.2.1)))) = some r from h)
    rcases bcase_true h1 with ⟨rfl, h1⟩ | ⟨rfl, h1⟩
    · obtain ⟨res, h3, h4⟩ := findFrom_inv he hd h1
      refine ⟨res, h3, fun π kv ms hk hes w => ?_⟩
      cases ms with
      | nil => exact hes.elim
      | cons m ms =>
        obtain ⟨⟨c1, c2, c3⟩, hes⟩ := hes
        obtain ⟨res', h5, h6⟩ := h4 π kv ms hk hes w
        refine ⟨res', ?_, ?_⟩
        · have := h2 π kv m.key hk c1 10000 w hd
          simp only [Instr.findAsking, Op.equal, Op.maxDepth, Sem.run_bind, this, Result.andThen_ok, Bool.false_eq_true, if_false]
          exact h5
        · cases res with
          | none => cases res' <;> exact h6
          | some p => cases res' with
            | none => exact h6
            | some q =>
              obtain ⟨g1, g2, g3, y, g4, g5⟩ := h6
              refine ⟨g1, g2, by omega, y, ?_, g5⟩
              have : p.1 - i = (p.1 - (i + 1)) + 1 := by omega
              rw [this, List.getElem?_cons_succ]; exact g4
    · refine ⟨_, h1, fun π kv ms hk hes w => ?_⟩
      cases ms with
      | nil => exact hes.elim
      | cons m ms =>
        obtain ⟨⟨c1, c2, c3⟩, hes⟩ := hes
        refine ⟨some (i, m.val), ?_, rfl, c2, Nat.le_refl _, x, by simp, rfl⟩
        have := h2 π kv m.key hk c1 10000 w hd
        simp only [Instr.findAsking, Op.equal, Op.maxDepth, Sem.run_bind, this, Result.andThen_ok, if_true, Sem.run_pure]

theorem sameNow_run {t : TypeId} {kind : TypeDesc} (hu : P.underlying t = some kind) {a b : Value} {r : Bool} (h : Instr.sameNow kind a b = some r) (w : World) : (Op.equal t a b).run P w = .ok r w := by
  unfold Instr.sameNow at h
  split at h
  · split at h
    · rename_i e; subst e; cases h
      simp only [Op.equal, Op.maxDepth]; exact run_equalIn_int w 9999 t _ _ _ _ hu
    · cases h
  · cases h
    simp only [Op.equal, Op.maxDepth]; rw [run_equalIn_string w 9999 t _ _ hu, beq_toListBytes]
  · cases h
    simp only [Op.equal, Op.maxDepth]; exact run_equalIn_bool' w 9999 t _ _ hu
  · cases h
theorem findNow_ask {t : TypeId} {kind : TypeDesc} (hu : P.underlying t = some kind) {kv : Value} (w : World) : ∀ {ms : List MapEntry} {i : Nat} {q : Option (Nat × Value)}, Instr.findNow kind kv ms i = some q → (Instr.findAsking t kv ms i).run P w = .ok q w
  | [], i, q, h => by cases h; rfl
  | m :: ms, i, q, h => by
    unfold Instr.findNow at h
    split at h
    · rename_i hs; cases h
      simp only [Instr.findAsking, Sem.run_bind, sameNow_run hu hs, Result.andThen_ok, if_true, Sem.run_pure]
    · rename_i hs
      simp only [Instr.findAsking, Sem.run_bind, sameNow_run hu hs, Result.andThen_ok, Bool.false_eq_true, if_false]
      exact findNow_ask hu w h
    · cases h
theorem run_findKey_ask {t : TypeId} {kind : TypeDesc} (hu : P.underlying t = some kind) {kv : Value} {w : World} {ms : List MapEntry} {q : Option (Nat × Value)} (h : (Instr.findAsking t kv ms).run P w = .ok q w) : (Instr.findKey t kv ms).run P w = .ok q w := by
  simp only [Instr.findKey, Sem.run_bind, run_underlying hu, Result.andThen_ok]
  cases e : Instr.findNow kind kv ms 0 with
  | none => exact h
  | some q' =>
    rw [findNow_ask hu w e] at h
    cases h; rfl

/-- A type that stands in the table. -/
theorem ckT_under {d : Nat} {t : TypeId} {x : AV} {k : Option R} {r : R} (h : ckT P d t x k = some r) : ∃ kind, P.underlying t = some kind := by
  cases d with
  | zero => cases h
  | succ d =>
    cases hu : underQ P t with
    | none => unfold ckT at h; rw [hu] at h; cases h
    | some kind => exact ⟨kind, underQ_some hu⟩

/-- A key looked for in a map. -/
theorem find_inv {t : TypeId} {key : AV} {es : List (AV × AV × Nat)} {k : Option (Nat × AV) → Option R} {r : R} (h : ckT P 10 t key (findK (eqT P 10 t) key es k) = some r) :
    ∃ res, k res = some r ∧ ∀ π kv ms, conc π key = some kv → ConcEs π es ms → ∀ w, (∀ em, (Instr.checkKey em 10000 t kv).run P w = .ok () w) ∧ ∃ res', (Instr.findKey t kv ms).run P w = .ok res' w ∧ FoundAt π es 0 res res' := by
  obtain ⟨kind, hu⟩ := ckT_under h
  obtain ⟨h1, h2⟩ := ckT_ok 10 t _ _ _ h
  obtain ⟨res, h3, h4⟩ := findFrom_inv (eqT_ok (R := R) 10 t) (by decide) (show findFrom (eqT P 10 t) key k es 0 = some r from h1)
  refine ⟨res, h3, fun π kv ms hk hes w => ⟨fun em => h2 π kv hk em 10000 w (by decide), ?_⟩⟩
  obtain ⟨res', h5, h6⟩ := h4 π kv ms hk hes w
  exact ⟨res', run_findKey_ask hu h5, h6⟩

theorem qLookupT_sound {o : Oper} {ty : TypeId} {x i : Operand} {ok : Bool} (ho : o.op = .lookup ty x i ok) : QSound P o (qLookupT P ty x i ok : Q R) := by
  unfold qLookupT
  split
  · rename_i kt e hu
    split
    · rename_i z hz
      obtain ⟨zu, hz1, hz2⟩ := run_zero hz
      intro t H k r h
      obtain ⟨v, h1, h2⟩ := opK_inv (x := x) h
      obtain ⟨u, g1, h3⟩ := opK_inv (x := i) h1; clear h1
      obtain ⟨es, h1, h4⟩ := mapRows_inv g1; clear g1
      obtain ⟨res, g1, h5⟩ := find_inv h1; clear h1
      have key : ∃ v, k v = some r ∧ ∀ π res', FoundAt π es 0 res res' → conc π v = some (if ok then .tuple #[((res'.map (·.2)).getD zu), .bool res'.isSome] else (res'.map (·.2)).getD zu) := by
        cases res with
        | none =>
          cases ok with
          | false => exact ⟨z, g1, fun π res' hf => by cases res' with
              | none => exact hz2 π
              | some _ => exact hf.elim⟩
          | true => exact ⟨_, g1, fun π res' hf => by cases res' with
              | none => exact conc_mk_tup (concs_mk (hz2 π) (concs_one rfl))
              | some _ => exact hf.elim⟩
        | some p =>
          cases ok with
          | false => exact ⟨_, g1, fun π res' hf => by cases res' with
              | none => exact hf.elim
              | some _ => exact hf.2.1⟩
          | true => exact ⟨_, g1, fun π res' hf => by cases res' with
              | none => exact hf.elim
              | some _ => exact conc_mk_tup (concs_mk hf.2.1 (concs_one rfl))⟩
      obtain ⟨v, h6, h7⟩ := key
      refine ⟨v, h6, fun π w a hr ha => ?_⟩
      have hk := h3 π a (ha i (by simp [ho, Op.operands]))
      rcases h4 π w hr _ (h2 π a (ha x (by simp [ho, Op.operands]))) with ⟨hx, rfl⟩ | ⟨b, ms, cl, hx, hb, hes⟩
      · obtain ⟨g1, res', g2, g3⟩ := h5 π _ [] hk trivial w
        refine ⟨_, h7 π res' g3, ?_⟩
        simp only [execOp, ho, Instr.lookup, Sem.run_bind, run_under (underQ_some hu), Result.andThen_ok, hx, Sem.run_pure, g1]
        rw [g2]
        cases res' <;> cases ok <;> simp [hz1]
      · obtain ⟨g1, res', g2, g3⟩ := h5 π _ ms.toList hk hes w
        refine ⟨_, h7 π res' g3, ?_⟩
        have hg := run_getObj_of (P := P) hb (by simp)
        simp only [execOp, ho, Instr.lookup, Sem.run_bind, run_under (underQ_some hu), Result.andThen_ok, hx, hg, Sem.run_pure, g1, g2]
        cases res' <;> cases ok <;> simp [hz1]
    · exact qNone_sound o
  · exact qNone_sound o

/-! ### a step's row -/
theorem itK_inv {v : AV} {H : Heap} {k : Nat → AObj → Option R} {x : R} (h : itK v H k = some x) : ∃ r o, v = .ptr r 0 ∧ H.get r = some o ∧ k r o = some x := by
  obtain ⟨r, o, rfl, h⟩ := ptrK_inv h
  cases o with
  | succ _ => cases h
  | zero =>
    replace h : getH H r (fun x => k r x) = some x := h
    rw [getH_eq] at h
    cases e : H.get r with
    | none => rw [e] at h; cases h
    | some ob => rw [e] at h; exact ⟨r, ob, rfl, e, h⟩

theorem lastK_eq (l : List Nat) (k : Nat → Option R) : lastK l k = l.getLast?.bind k := by
  have : ∀ (l : List Nat) (o : Option Nat), (List.rec (motive := fun _ => Option Nat → Option R) (fun o => Option.casesOn o none k) (fun x _ ih _ => ih (some x)) l o : Option R) = (match l.getLast? with | some x => some x | none => o).bind k := by
    intro l
    induction l with
    | nil => intro o; cases o <;> rfl
    | cons x l ih =>
      intro o
      show (List.rec (motive := fun _ => Option Nat → Option R) (fun o => Option.casesOn o none k) (fun x _ ih _ => ih (some x)) l (some x) : Option R) = _
      rw [ih, List.getLast?_cons]
      cases l.getLast? <;> rfl
  have h := this l none
  show (List.rec (motive := fun _ => Option Nat → Option R) (fun o => Option.casesOn o none k) (fun x _ ih _ => ih (some x)) l none : Option R) = _
  rw [h]
  cases l.getLast? <;> rfl

theorem stampK_inv {s : Nat} : ∀ {es : List (AV × AV × Nat)} {k : AV → AV → Option R} {r : R}, stampK s es k = some r → ∃ a b, k a b = some r ∧ ∀ π ms, ConcEs π es ms → ∃ m, ms.find? (fun m => m.born == s) = some m ∧ conc π a = some m.key ∧ conc π b = some m.val
  | [], k, r, h => by cases h
  | x :: es, k, r, h => by
    rcases bcase_true (show (Bool.casesOn (Nat.beq x.2.2 s) (stampK s es k) (k x.1 x.2.1) : Option R) = some r from h) with ⟨hb, h⟩ | ⟨hb, h⟩
    · obtain ⟨a, b, h1, h2⟩ := stampK_inv h
      refine ⟨a, b, h1, fun π ms hm => ?_⟩
      cases ms with
      | nil => exact hm.elim
      | cons m ms =>
        obtain ⟨⟨c1, c2, c3⟩, hm⟩ := hm
        obtain ⟨m', h3, h4⟩ := h2 π ms hm
        refine ⟨m', ?_, h4⟩
        have hne : (m.born == s) = false := by rw [natBeq, ← c3]; exact hb
        rw [List.find?_cons, hne]
        exact h3
    · refine ⟨_, _, h, fun π ms hm => ?_⟩
      cases ms with
      | nil => exact hm.elim
      | cons m ms =>
        obtain ⟨⟨c1, c2, c3⟩, hm⟩ := hm
        refine ⟨m, ?_, c1, c2⟩
        have he : (m.born == s) = true := by rw [natBeq, ← c3]; exact hb
        rw [List.find?_cons, he]

theorem qEntry_sound {o : Oper} {x : Operand} (ho : o.op = .entry x) : QSound P o (qEntry x : Q R) := by
  intro t H k r h
  obtain ⟨v, h1, h2⟩ := opK_inv (x := x) h
  obtain ⟨q, ob, rfl, hq, g1⟩ := itK_inv h1; clear h1
  cases ob <;> try (cases g1; done)
  rename_i m since seen stepped
  cases m <;> try (cases g1; done)
  rename_i m
  replace g1 : mapObjK H m (fun es clock => Bool.casesOn (Nat.beq clock stepped) none (lastK seen fun s => stampK s es fun a b => k (.tup [a, b]))) = some r := g1
  obtain ⟨es, clock, hm, h1⟩ := mapObjK_inv g1; clear g1
  obtain ⟨hc, g1⟩ := bcase_none h1; clear h1
  have hc := Nat.eq_of_beq_eq_true hc
  rw [lastK_eq] at g1
  cases hs : seen.getLast? with
  | none => rw [hs] at g1; cases g1
  | some s =>
    rw [hs] at g1
    obtain ⟨a, b, h1, h3⟩ := stampK_inv (show stampK s es (fun a b => k (.tup [a, b])) = some r from g1)
    refine ⟨_, h1, fun π w act hr ha => ?_⟩
    obtain ⟨l, hl, hx⟩ := conc_ptr (h2 π act (ha x (by simp [ho, Op.operands])))
    obtain ⟨ob, h4, h5⟩ := hr.obj q _ l hq hl
    cases ob <;> simp only [ORel] at h5
    rename_i m' since' seen' last'
    obtain ⟨h6, rfl, rfl, rfl, h7⟩ := h5
    cases m' <;> simp only at h7
    rename_i b'
    obtain ⟨lm, h8, h9⟩ := h7
    obtain ⟨ms, h10, h11⟩ := hr.map hm h8
    obtain ⟨e, h12, h13, h14⟩ := h3 π _ h11
    refine ⟨_, conc_mk_tup (concs_mk h13 (concs_one h14)), ?_⟩
    have hg := run_getObj_of (P := P) h4 (by simp)
    rw [h9] at h10
    have hg2 := run_getObj_of (P := P) h10 (by simp)
    have hl0 : l.shift + 0 = 0 := by omega
    have hf : ms.find? (fun m => m.born == s) = some e := by rw [← Array.find?_toList]; exact h12
    simp only [execOp, ho, Instr.entry, hx, hl0, Sem.run_bind, hg, Result.andThen_ok, List.back?_toArray, hs, hg2, hc]
    simp [hf]

/-! ### all -/
theorem quietF_sound {o : Oper} {f : Q R} (h : quietF P o.op = some f) : QSound P o f := by
  unfold quietF at h
  split at h
  · rename_i x ho; cases h; exact qMove_sound (.inl ho)
  · rename_i x ho; cases h; exact qMove_sound (.inr ho)
  · rename_i ho; cases h; exact qPick_sound ho
  · rename_i ho; cases h; exact qBuildT_sound ho
  · rename_i ho; cases h; exact qLoad_sound ho
  · rename_i ho; cases h; exact qNilCheck_sound ho
  · rename_i ho; cases h; exact qBin_sound ho
  · rename_i ho; cases h; exact qUn_sound ho
  · rename_i ho
    split at h
    · cases h
    · cases h; exact qConv_sound ho
  · rename_i ho; cases h; exact qIfaceT_sound ho
  · rename_i ho; cases h; exact qFuncT_sound ho
  · rename_i ho; cases h; exact qSlice_sound ho
  · rename_i ho; cases h; exact qFieldAddr_sound ho
  · rename_i ho; cases h; exact qField_sound ho
  · rename_i ho; cases h; exact qIndexAddr_sound ho
  · rename_i ho; cases h; exact qIndex_sound ho
  · rename_i ho; cases h; exact qLookupT_sound ho
  · rename_i ho; cases h; exact qEntry_sound ho
  · rename_i ho; cases h; exact qExtract_sound ho
  · rename_i ho
    split at h
    · cases h; exact qBuiltin_sound ho rfl
    · cases h; exact qBuiltin_sound ho rfl
    · cases h; exact qBuiltin_sound ho rfl
    · cases h; exact qBuiltin_sound ho rfl
    · cases h
  · cases h

end
end Go.Ev
