/- The small words, told plainly. -/
import Derived.Test.YtglploknmdbigaaGreatDoorEa
namespace Go.Ev
section
variable {R : Type} {α β : Type}

theorem natK_eq (n : Nat) (k : Nat → Option R) : natK n k = k n := by cases n <;> rfl
theorem intK_eq (n : Int) (k : Int → Option R) : intK n k = k n := by cases n <;> simp only [intK, natK_eq]

theorem nthK_eq (l : List α) (i : Nat) (k : α → Option R) : nthK l i k = l[i]?.bind k := by
  induction l generalizing i with
  | nil => rfl
  | cons x xs ih => cases i with
    | zero => rfl
    | succ j => exact ih j

theorem updK_eq (l : List α) (i : Nat) (v : α) (k : List α → Option R) : updK l i v k = if i < l.length then k (l.set i v) else none := by
  induction l generalizing i k with
  | nil => rfl
  | cons x xs ih => cases i with
    | zero => show k (v :: xs) = _; simp
    | succ j =>
      have := ih j (fun t => k (x :: t))
      show updK xs j v (fun t => k (x :: t)) = _
      rw [this]
      simp

theorem dropK_eq (n : Nat) (l : List α) (k : List α → Option R) : dropK n l k = if n ≤ l.length then k (l.drop n) else none := by
  induction n generalizing l with
  | zero => show k l = _; simp
  | succ n ih => cases l with
    | nil => rfl
    | cons x xs =>
      show dropK n xs k = _
      rw [ih]
      simp

theorem takeK_eq (n : Nat) (l : List α) (k : List α → Option R) : takeK n l k = if n ≤ l.length then k (l.take n) else none := by
  induction n generalizing l k with
  | zero => show k [] = _; simp
  | succ n ih => cases l with
    | nil => rfl
    | cons x xs =>
      show takeK n xs (fun t => k (x :: t)) = _
      rw [ih]
      simp

theorem appK_eq (l m : List α) (k : List α → Option R) : appK l m k = k (l ++ m) := by
  induction l generalizing k with
  | nil => rfl
  | cons x xs ih => exact ih (fun t => k (x :: t))

theorem mapK_map (g : α → β) (l : List α) (k : List β → Option R) : mapK (fun x k => k (g x)) l k = k (l.map g) := by
  induction l generalizing k with
  | nil => rfl
  | cons x xs ih => exact ih (fun t => k (g x :: t))

theorem lenK_from (l : List α) (k : Nat → Option R) (n : Nat) :
    List.rec (motive := fun _ => Nat → Option R) (fun n => k n) (fun _ _ ih n => ih (Nat.succ n)) l n = k (n + l.length) := by
  induction l generalizing n with
  | nil => rfl
  | cons x xs ih =>
    have := ih (n + 1)
    simp only [List.length_cons]
    rw [show n + (xs.length + 1) = n + 1 + xs.length by omega]
    exact this
theorem lenK_eq (l : List α) (k : Nat → Option R) : lenK l k = k l.length := by
  unfold lenK; rw [lenK_from]; simp

theorem overK_eq (ns cs : List α) (k : List α → Option R) : overK ns cs k = if ns.length ≤ cs.length then k (ns ++ cs.drop ns.length) else none := by
  induction ns generalizing cs k with
  | nil => simp [overK]
  | cons x xs ih => cases cs with
    | nil => rfl
    | cons c cs =>
      show overK xs cs (fun t => k (x :: t)) = _
      rw [ih]
      simp

/-- 'ns' laid over 'cs' from 'off' on. -/
def laid (off : Nat) (cs ns : List α) : List α := cs.take off ++ ns ++ cs.drop (off + ns.length)

theorem layK_eq (off : Nat) (cs ns : List α) (k : List α → Option R) : layK off cs ns k = if off + ns.length ≤ cs.length then k (laid off cs ns) else none := by
  unfold laid
  induction off generalizing cs k with
  | zero => show overK ns cs k = _; rw [overK_eq]; simp
  | succ n ih => cases cs with
    | nil => simp [layK]
    | cons c cs =>
      show layK n cs ns (fun t => k (c :: t)) = _
      rw [ih]
      have e : n + 1 + ns.length = (n + ns.length) + 1 := by omega
      simp only [e, List.length_cons, List.take_succ_cons, List.drop_succ_cons, List.cons_append, Nat.add_le_add_iff_right]

theorem laid_length (off : Nat) (cs ns : List α) (h : off + ns.length ≤ cs.length) : (laid off cs ns).length = cs.length := by
  simp [laid]; omega

theorem slotsK_eq (cs : List α) (off n : Nat) (k : List α → Option R) : slotsK cs off n k = if off + n ≤ cs.length then k ((cs.drop off).take n) else none := by
  unfold slotsK
  rw [dropK_eq]
  by_cases h : off ≤ cs.length
  · rw [if_pos h, takeK_eq, List.length_drop]
    by_cases h2 : off + n ≤ cs.length
    · rw [if_pos (by omega), if_pos h2]
    · rw [if_neg (by omega), if_neg h2]
  · rw [if_neg h, if_neg (by omega)]

/-! ### the frame -/
def look (t : Env) (i : Nat) : Option AV := t[i / 8]?.bind fun c => c[i % 8]?

theorem getE_eq (t : Env) (i : Nat) (k : AV → Option R) : getE t i k = (look t i).bind k := by
  unfold getE look
  rw [nthK_eq]
  show (t[i / 8]?).bind _ = _
  cases h : t[i / 8]? with
  | none => rfl
  | some c => show nthK c (i % 8) k = _; rw [nthK_eq]; rfl

theorem setE_inv {t : Env} {i : Nat} {v : AV} {k : Env → Option R} {r : R} (h : setE t i v k = some r) :
    ∃ t', k t' = some r ∧ (∃ u, look t i = some u) ∧ ∀ j, look t' j = if j = i then some v else look t j := by
  unfold setE at h
  rw [nthK_eq] at h
  change (t[i / 8]?).bind _ = some r at h
  cases hc : t[i / 8]? with
  | none => rw [hc] at h; simp at h
  | some c =>
    rw [hc] at h
    change updK c (i % 8) v _ = some r at h
    rw [updK_eq] at h
    by_cases h1 : i % 8 < c.length
    · rw [if_pos h1] at h
      change updK t (i / 8) _ _ = some r at h
      rw [updK_eq] at h
      by_cases h2 : i / 8 < t.length
      · rw [if_pos h2] at h
        refine ⟨_, h, ⟨c[i % 8], by simp [look, hc, h1]⟩, fun j => ?_⟩
        unfold look
        rw [List.getElem?_set]
        by_cases e : i / 8 = j / 8
        · rw [if_pos e, if_pos (e ▸ h2)]
          simp only [Option.bind_some]
          rw [List.getElem?_set]
          by_cases e2 : i % 8 = j % 8
          · have : j = i := by omega
            subst this
            simp [h1]
          · rw [if_neg e2, if_neg (by omega), ← e, hc]; rfl
        · rw [if_neg e, if_neg (by omega)]
      · rw [if_neg h2] at h; cases h
    · rw [if_neg h1] at h; cases h

theorem putE_inv {t : Env} {d : Option Nat} {v : AV} {k : Env → Option R} {r : R} (h : putE t d v k = some r) :
    ∃ t', k t' = some r ∧ (∀ i, d = some i → ∃ u, look t i = some u) ∧ ∀ j, look t' j = if d = some j then some v else look t j := by
  cases d with
  | none => exact ⟨t, h, by simp, by simp⟩
  | some i =>
    obtain ⟨t', h1, h2, h3⟩ := setE_inv (show setE t i v k = some r from h)
    refine ⟨t', h1, ?_, fun j => ?_⟩
    · intro j hj; cases hj; exact h2
    · rw [h3 j]
      by_cases e : j = i
      · subst e; simp
      · rw [if_neg e, if_neg (by simp; exact fun h => e h.symm)]

/-! ### the heap -/
theorem Tree.get_node (o : Option AObj) (l r : Tree) (n : Nat) : (Tree.node o l r).get n = if n = 0 then o else if n % 2 = 1 then l.get (n / 2) else r.get (n / 2 - 1) := rfl

theorem getT_eq (t : Tree) (n : Nat) (k : AObj → Option R) : getT t n k = (t.get n).bind k := by
  induction t generalizing n with
  | leaf => rfl
  | node o l r ihl ihr =>
    rw [Tree.get_node]
    cases n with
    | zero => cases o <;> rfl
    | succ m =>
      show (Bool.casesOn (Nat.beq (Nat.mod m 2) 0) (getT r (Nat.div m 2) k) (getT l (Nat.div m 2) k) : Option R) = _
      rw [ihl, ihr, if_neg (by omega)]
      by_cases h : m % 2 = 0
      · have e : Nat.beq (Nat.mod m 2) 0 = true := by rw [Nat.beq_eq]; exact h
        rw [e, if_pos (by omega)]
        show (l.get (m / 2)).bind k = _
        rw [show (m + 1) / 2 = m / 2 by omega]
      · have e : Nat.beq (Nat.mod m 2) 0 = false := by
          cases hb : Nat.beq (Nat.mod m 2) 0 with
          | false => rfl
          | true => rw [Nat.beq_eq] at hb; exact absurd hb h
        rw [e, if_neg (by omega)]
        show (r.get (m / 2)).bind k = _
        rw [show (m + 1) / 2 - 1 = m / 2 by omega]

theorem growT_inv {x : Option AObj} {f : Nat} : ∀ {n : Nat} {k : Tree → Option R} {r : R}, growT f n x k = some r →
    ∃ t', k t' = some r ∧ ∀ m, t'.get m = if m = n then x else none := by
  induction f with
  | zero => intro n k r h; cases h
  | succ f ih =>
    intro n k r h
    cases n with
    | zero =>
      refine ⟨_, h, fun m => ?_⟩
      rw [Tree.get_node]
      by_cases e : m = 0
      · simp [e]
      · rw [if_neg e, if_neg e]; split <;> rfl
    | succ q =>
      change (Bool.casesOn (Nat.beq (Nat.mod q 2) 0) (growT f (Nat.div q 2) x fun t => k (.node none .leaf t)) (growT f (Nat.div q 2) x fun t => k (.node none t .leaf)) : Option R) = some r at h
      cases hb : Nat.beq (Nat.mod q 2) 0 with
      | true =>
        rw [hb] at h
        have hq : q % 2 = 0 := by rw [Nat.beq_eq] at hb; exact hb
        obtain ⟨t', h1, h2⟩ := ih h
        refine ⟨_, h1, fun m => ?_⟩
        rw [Tree.get_node]
        by_cases e0 : m = 0
        · rw [if_pos e0, if_neg (by omega)]
        · rw [if_neg e0]
          by_cases e1 : m % 2 = 1
          · rw [if_pos e1, h2]
            by_cases e2 : m = q + 1
            · rw [if_pos e2, if_pos (by show m / 2 = q / 2; omega)]
            · rw [if_neg e2, if_neg (by show ¬ m / 2 = q / 2; omega)]
          · rw [if_neg e1, if_neg (by omega)]; rfl
      | false =>
        rw [hb] at h
        have hq : q % 2 = 1 := by
          have : ¬ q % 2 = 0 := fun e => by
            have : Nat.beq (Nat.mod q 2) 0 = true := by rw [Nat.beq_eq]; exact e
            rw [hb] at this; cases this
          omega
        obtain ⟨t', h1, h2⟩ := ih h
        refine ⟨_, h1, fun m => ?_⟩
        rw [Tree.get_node]
        by_cases e0 : m = 0
        · rw [if_pos e0, if_neg (by omega)]
        · rw [if_neg e0]
          by_cases e1 : m % 2 = 1
          · rw [if_pos e1, if_neg (by omega)]; rfl
          · rw [if_neg e1, h2]
            by_cases e2 : m = q + 1
            · rw [if_pos e2, if_pos (by show m / 2 - 1 = q / 2; omega)]
            · rw [if_neg e2, if_neg (by show ¬ m / 2 - 1 = q / 2; omega)]

theorem putT_inv {x : Option AObj} {t : Tree} : ∀ {n : Nat} {k : Tree → Option R} {r : R}, putT t n x k = some r →
    ∃ t', k t' = some r ∧ ∀ m, t'.get m = if m = n then x else t.get m := by
  induction t with
  | leaf =>
    intro n k r h
    obtain ⟨t', h1, h2⟩ := growT_inv (show growT 40 n x k = some r from h)
    exact ⟨t', h1, h2⟩
  | node o l rt ihl ihr =>
    intro n k r h
    cases n with
    | zero =>
      refine ⟨_, h, fun m => ?_⟩
      rw [Tree.get_node, Tree.get_node]
      by_cases e : m = 0
      · simp [e]
      · rw [if_neg e, if_neg e, if_neg e]
    | succ q =>
      change (Bool.casesOn (Nat.beq (Nat.mod q 2) 0) (putT rt (Nat.div q 2) x fun t => k (.node o l t)) (putT l (Nat.div q 2) x fun t => k (.node o t rt)) : Option R) = some r at h
      cases hb : Nat.beq (Nat.mod q 2) 0 with
      | true =>
        rw [hb] at h
        have hq : q % 2 = 0 := by rw [Nat.beq_eq] at hb; exact hb
        obtain ⟨t', h1, h2⟩ := ihl h
        refine ⟨_, h1, fun m => ?_⟩
        rw [Tree.get_node, Tree.get_node]
        by_cases e0 : m = 0
        · rw [if_pos e0, if_pos e0, if_neg (by omega)]
        · rw [if_neg e0, if_neg e0]
          by_cases e1 : m % 2 = 1
          · rw [if_pos e1, if_pos e1, h2]
            by_cases e2 : m = q + 1
            · rw [if_pos e2, if_pos (by show m / 2 = q / 2; omega)]
            · rw [if_neg e2, if_neg (by show ¬ m / 2 = q / 2; omega)]
          · rw [if_neg e1, if_neg e1, if_neg (by omega)]
      | false =>
        rw [hb] at h
        have hq : q % 2 = 1 := by
          have : ¬ q % 2 = 0 := fun e => by
            have : Nat.beq (Nat.mod q 2) 0 = true := by rw [Nat.beq_eq]; exact e
            rw [hb] at this; cases this
          omega
        obtain ⟨t', h1, h2⟩ := ihr h
        refine ⟨_, h1, fun m => ?_⟩
        rw [Tree.get_node, Tree.get_node]
        by_cases e0 : m = 0
        · rw [if_pos e0, if_pos e0, if_neg (by omega)]
        · rw [if_neg e0, if_neg e0]
          by_cases e1 : m % 2 = 1
          · rw [if_pos e1, if_pos e1, if_neg (by omega)]
          · rw [if_neg e1, if_neg e1, h2]
            by_cases e2 : m = q + 1
            · rw [if_pos e2, if_pos (by show m / 2 - 1 = q / 2; omega)]
            · rw [if_neg e2, if_neg (by show ¬ m / 2 - 1 = q / 2; omega)]

theorem getH_eq (H : Heap) (r : Nat) (k : AObj → Option R) : getH H r k = (H.get r).bind k := getT_eq H.t r k

theorem putH_inv {H : Heap} {r : Nat} {o : AObj} {k : Heap → Option R} {x : R} (h : putH H r o k = some x) :
    ∃ H', k H' = some x ∧ H'.next = H.next ∧ ∀ m, H'.get m = if m = r then some o else H.get m := by
  obtain ⟨t', h1, h2⟩ := putT_inv (show putT H.t r (some o) (fun t => k ⟨t, H.next⟩) = some x from h)
  exact ⟨⟨t', H.next⟩, h1, rfl, h2⟩
theorem delH_inv {H : Heap} {r : Nat} {k : Heap → Option R} {x : R} (h : delH H r k = some x) :
    ∃ H', k H' = some x ∧ H'.next = H.next ∧ ∀ m, H'.get m = if m = r then none else H.get m := by
  obtain ⟨t', h1, h2⟩ := putT_inv (show putT H.t r none (fun t => k ⟨t, H.next⟩) = some x from h)
  exact ⟨⟨t', H.next⟩, h1, rfl, h2⟩
theorem newH_inv {H : Heap} {o : AObj} {k : Nat → Heap → Option R} {x : R} (h : newH H o k = some x) :
    ∃ H', k H.next H' = some x ∧ H'.next = H.next + 1 ∧ ∀ m, H'.get m = if m = H.next then some o else H.get m := by
  unfold newH at h
  rw [natK_eq] at h
  obtain ⟨t', h1, h2⟩ := putT_inv h
  exact ⟨⟨t', H.next + 1⟩, h1, rfl, h2⟩

/-! ### what a value is -/
theorem boolK_inv {v : AV} {k : Bool → Option R} {x : R} (h : boolK v k = some x) : ∃ b, v = .bool b ∧ k b = some x := by
  cases v <;> simp only [boolK] at h <;> first | exact ⟨_, rfl, h⟩ | cases h
theorem ptrK_inv {v : AV} {k : Nat → Nat → Option R} {x : R} (h : ptrK v k = some x) : ∃ r o, v = .ptr r o ∧ k r o = some x := by
  cases v <;> simp only [ptrK] at h <;> first | exact ⟨_, _, rfl, h⟩ | cases h
theorem strK_inv {v : AV} {k : List Nat → Option R} {x : R} (h : strK v k = some x) : ∃ s, v = .str s ∧ k s = some x := by
  cases v <;> simp only [strK] at h <;> first | exact ⟨_, rfl, h⟩ | cases h
theorem aggK_inv {v : AV} {k : List AV → Option R} {x : R} (h : aggK v k = some x) : ∃ s, v = .agg s ∧ k s = some x := by
  cases v <;> simp only [aggK] at h <;> first | exact ⟨_, rfl, h⟩ | cases h
theorem tupK_inv {v : AV} {k : List AV → Option R} {x : R} (h : tupK v k = some x) : ∃ s, v = .tup s ∧ k s = some x := by
  cases v <;> simp only [tupK] at h <;> first | exact ⟨_, rfl, h⟩ | cases h
theorem numK_inv {v : AV} {k : IntKind → Int → Option R} {x : R} (h : numK v k = some x) : ∃ j n, v = .int j n ∧ k j n = some x := by
  cases v <;> simp only [numK] at h <;> first | exact ⟨_, _, rfl, h⟩ | cases h
theorem ofNatK_inv {n : Int} {k : Nat → Option R} {x : R} (h : ofNatK n k = some x) : ∃ m : Nat, n = (m : Int) ∧ k m = some x := by
  cases n with
  | ofNat m => exact ⟨m, rfl, h⟩
  | negSucc m => cases h
theorem idxK_inv {v : AV} {k : Nat → Option R} {x : R} (h : idxK v k = some x) : ∃ j, ∃ m : Nat, v = .int j (m : Int) ∧ k m = some x := by
  obtain ⟨j, n, rfl, h⟩ := numK_inv h
  obtain ⟨m, rfl, h⟩ := ofNatK_inv h
  exact ⟨j, m, rfl, h⟩
theorem cellsK_inv {v : AV} {k : List AV → Option R} {x : R} (h : cellsK v k = some x) : k v.cells = some x ∧ (∀ l, v ≠ .tup l) := by
  cases v <;> simp only [cellsK] at h <;> first | exact ⟨h, by simp⟩ | cases h
theorem rowK_inv {H : Heap} {r : Nat} {k : List AV → Option R} {x : R} (h : rowK H r k = some x) : ∃ cs, H.get r = some (.cells cs) ∧ k cs = some x := by
  unfold rowK at h
  rw [getH_eq] at h
  cases ho : H.get r with
  | none => rw [ho] at h; cases h
  | some o =>
    rw [ho] at h
    cases o <;> simp only [Option.bind_some] at h <;> first | exact ⟨_, rfl, h⟩ | cases h
theorem mapObjK_inv {H : Heap} {r : Nat} {k : List (AV × AV × Nat) → Nat → Option R} {x : R} (h : mapObjK H r k = some x) : ∃ es c, H.get r = some (.map es c) ∧ k es c = some x := by
  unfold mapObjK at h
  rw [getH_eq] at h
  cases ho : H.get r with
  | none => rw [ho] at h; cases h
  | some o =>
    rw [ho] at h
    cases o <;> simp only [Option.bind_some] at h <;> first | exact ⟨_, _, rfl, h⟩ | cases h

theorem bcase_true {b : Bool} {x y : Option R} {r : R} (h : (Bool.casesOn b x y : Option R) = some r) : (b = false ∧ x = some r) ∨ (b = true ∧ y = some r) := by
  cases b
  · exact .inl ⟨rfl, h⟩
  · exact .inr ⟨rfl, h⟩
theorem bcase_none {b : Bool} {y : Option R} {r : R} (h : (Bool.casesOn b none y : Option R) = some r) : b = true ∧ y = some r := by
  cases b
  · cases h
  · exact ⟨rfl, h⟩
theorem sameKind_eq {j k : IntKind} (h : sameKind j k = true) : j = k := by cases j <;> cases k <;> first | rfl | (exact absurd h (by decide))
theorem notB_eq (b : Bool) : notB b = !b := by cases b <;> rfl
theorem intEq_eq (x y : Int) : intEq x y = (x == y) := by
  cases x with
  | ofNat a => cases y with
    | ofNat b =>
      show Nat.beq a b = _
      rw [Bool.eq_iff_iff]; simp [Nat.beq_eq]; omega
    | negSucc b => rfl
  | negSucc a => cases y with
    | ofNat b => rfl
    | negSucc b =>
      show Nat.beq a b = _
      rw [Bool.eq_iff_iff]; simp [Nat.beq_eq]
theorem intLt_eq (x y : Int) : intLt x y = decide (x < y) := by
  cases x with
  | ofNat a => cases y with
    | ofNat b =>
      show Nat.blt a b = _
      rw [Bool.eq_iff_iff]; simp [Nat.blt_eq]
    | negSucc b => show false = _; rw [eq_comm, decide_eq_false_iff_not]; simp only [Int.ofNat_eq_natCast]; omega
  | negSucc a => cases y with
    | ofNat b => show true = _; rw [eq_comm, decide_eq_true_iff]; simp only [Int.ofNat_eq_natCast]; omega
    | negSucc b =>
      show Nat.blt b a = _
      rw [Bool.eq_iff_iff]; simp [Nat.blt_eq]; omega
theorem retB_eq (b : Bool) (k : AV → Option R) : retB b k = k (.bool b) := by cases b <;> rfl
theorem retI_eq (kd : IntKind) (n : Int) (k : AV → Option R) : retI kd n k = k (.int kd n) := intK_eq n _
end
end Go.Ev

set_option linter.unusedSectionVars false
namespace Go.Ev

structure Loc where
  block : Nat
  shift : Nat
  cap : Nat

abbrev Pi := Nat → Option Loc

def bytesV (s : List Nat) : ByteArray := ⟨(s.map UInt8.ofNat).toArray⟩
def small (s : List Nat) : Bool := s.all fun n => Nat.blt n 256

/-- What the values stand for that are not looked at: one cell each. -/
class Sym where
  val : Nat → Value
  one_ : ∀ i, (∀ l, val i ≠ .agg l) ∧ (∀ l, val i ≠ .tuple l)
  notb : ∀ i b, val i ≠ .bool b
  /-- The blocks below 'base' are none of the evaluator's: they stay as they are. -/
  base : Nat
  mem : Nat → Option Obj
  /-- Where region 0 lies, if that is known. -/
  zero : Option Loc
variable [Sym]

mutual
def conc (π : Pi) : AV → Option Value
  | .bool b => some (.bool b)
  | .int k n => some (.int k n)
  | .str s => if small s then some (.string (bytesV s)) else none
  | .nilptr => some (.pointer none)
  | .ptr r o => match π r with
    | some l => some (.pointer (some ⟨l.block, l.shift + o, none⟩))
    | none => none
  | .nilsl => some (.slice none 0 0)
  | .sl r o a n c => match π r with
    | some l => match c with
      | .ex c => if n ≤ c then some (.slice (some ⟨l.block, l.shift + o, none⟩) n c) else none
      | .un e => if 0 < e ∧ o + n * e ≤ l.cap then some (.slice (some ⟨l.block, l.shift + (if (l.cap - o) / e = 0 then a else o), none⟩) n ((l.cap - o) / e)) else none
      | .z e => if n = 0 then some (.slice (some ⟨l.block, l.shift + (if (l.cap - o) / e = 0 then a else o), none⟩) 0 0) else none
    | none => none
  | .nilmap => some (.map none)
  | .map r => match π r with
    | some l => some (.map (some l.block))
    | none => none
  | .nilfn => some .nilFunc
  | .fn f a b => match concs π a, concs π b with
    | some x, some y => some (.func (.func f) ⟨x⟩ ⟨y⟩)
    | _, _ => none
  | .yld r => match π r with
    | some l => some (.func (.yield l.block) #[] #[])
    | none => none
  | .nilif => some .nilIface
  | .iface t v => match conc π v with
    | some u => some (.iface t u)
    | none => none
  | .agg l => if AV.flats l then (match concs π l with | some x => some (.agg ⟨x⟩) | none => none) else none
  | .tup l => match concs π l with
    | some x => some (.tuple ⟨x⟩)
    | none => none
  | .sym i => some (Sym.val i)
def concs (π : Pi) : List AV → Option (List Value)
  | [] => some []
  | v :: l => match conc π v, concs π l with
    | some u, some us => some (u :: us)
    | _, _ => none
end

def Pi.le (π π' : Pi) : Prop := ∀ r l, π r = some l → π' r = some l
theorem Pi.le.refl (π : Pi) : π.le π := fun _ _ h => h
theorem Pi.le.trans {a b c : Pi} (h : a.le b) (k : b.le c) : a.le c := fun r l e => k r l (h r l e)

theorem concs_cons {π : Pi} {v : AV} {l : List AV} {us : List Value} (h : concs π (v :: l) = some us) : ∃ u us', conc π v = some u ∧ concs π l = some us' ∧ us = u :: us' := by
  unfold concs at h
  split at h
  · rename_i u us' h1 h2; cases h; exact ⟨u, us', h1, h2, rfl⟩
  · cases h
theorem concs_mk {π : Pi} {v : AV} {l : List AV} {u : Value} {us : List Value} (h1 : conc π v = some u) (h2 : concs π l = some us) : concs π (v :: l) = some (u :: us) := by
  unfold concs; rw [h1, h2]

theorem conc_mono_both {π π' : Pi} (h : π.le π') : ∀ n : Nat, (∀ v u, SizeOf.sizeOf v ≤ n → conc π v = some u → conc π' v = some u) ∧ (∀ l us, SizeOf.sizeOf l ≤ n → concs π l = some us → concs π' l = some us) := by
  intro n
  induction n with
  | zero =>
    constructor
    · intro v u hs; cases v <;> simp at hs
    · intro l us hs; cases l <;> simp at hs
  | succ n ih =>
    constructor
    · intro v u hs hv
      cases v with
      | bool b => exact hv
      | int k m => exact hv
      | str s => exact hv
      | nilptr => exact hv
      | nilsl => exact hv
      | nilmap => exact hv
      | nilfn => exact hv
      | nilif => exact hv
      | sym i => exact hv
      | ptr r o =>
        unfold conc at hv ⊢
        cases e : π r with
        | none => rw [e] at hv; cases hv
        | some l => rw [e] at hv; rw [h r l e]; exact hv
      | sl r o a m c =>
        unfold conc at hv ⊢
        cases e : π r with
        | none => rw [e] at hv; cases hv
        | some l => rw [e] at hv; rw [h r l e]; exact hv
      | map r =>
        unfold conc at hv ⊢
        cases e : π r with
        | none => rw [e] at hv; cases hv
        | some l => rw [e] at hv; rw [h r l e]; exact hv
      | yld r =>
        unfold conc at hv ⊢
        cases e : π r with
        | none => rw [e] at hv; cases hv
        | some l => rw [e] at hv; rw [h r l e]; exact hv
      | fn f a b =>
        simp only [AV.fn.sizeOf_spec] at hs
        unfold conc at hv ⊢
        cases e1 : concs π a with
        | none => rw [e1] at hv; cases hv
        | some x => cases e2 : concs π b with
          | none => rw [e1, e2] at hv; cases hv
          | some y =>
            rw [e1, e2] at hv
            rw [ih.2 a x (by omega) e1, ih.2 b y (by omega) e2]
            exact hv
      | iface t w =>
        simp only [AV.iface.sizeOf_spec] at hs
        unfold conc at hv ⊢
        cases e1 : conc π w with
        | none => rw [e1] at hv; cases hv
        | some x => rw [e1] at hv; rw [ih.1 w x (by omega) e1]; exact hv
      | agg l =>
        simp only [AV.agg.sizeOf_spec] at hs
        unfold conc at hv ⊢
        cases e1 : concs π l with
        | none => rw [e1] at hv; split at hv <;> cases hv
        | some x => rw [e1] at hv; rw [ih.2 l x (by omega) e1]; exact hv
      | tup l =>
        simp only [AV.tup.sizeOf_spec] at hs
        unfold conc at hv ⊢
        cases e1 : concs π l with
        | none => rw [e1] at hv; cases hv
        | some x => rw [e1] at hv; rw [ih.2 l x (by omega) e1]; exact hv
    · intro l us hs hl
      cases l with
      | nil => exact hl
      | cons v l =>
        simp only [List.cons.sizeOf_spec] at hs
        obtain ⟨u, us', h1, h2, rfl⟩ := concs_cons hl
        exact concs_mk (ih.1 v u (by omega) h1) (ih.2 l us' (by omega) h2)

theorem conc_mono {π π' : Pi} (h : π.le π') {v : AV} {u : Value} (hv : conc π v = some u) : conc π' v = some u := (conc_mono_both h (SizeOf.sizeOf v)).1 v u (Nat.le_refl _) hv
theorem concs_mono {π π' : Pi} (h : π.le π') {l : List AV} {us : List Value} (hl : concs π l = some us) : concs π' l = some us := (conc_mono_both h (SizeOf.sizeOf l)).2 l us (Nat.le_refl _) hl

theorem concs_length {π : Pi} : ∀ {l : List AV} {us : List Value}, concs π l = some us → us.length = l.length
  | [], us, h => by cases h; rfl
  | v :: l, us, h => by
    obtain ⟨u, us', _, h2, rfl⟩ := concs_cons h
    simp [concs_length h2]

theorem concs_get {π : Pi} : ∀ {l : List AV} {us : List Value}, concs π l = some us → ∀ {i : Nat} {v : AV}, l[i]? = some v → ∃ u, us[i]? = some u ∧ conc π v = some u
  | [], _, _, i, v, hv => by simp at hv
  | x :: l, us, h, i, v, hv => by
    obtain ⟨u, us', h1, h2, rfl⟩ := concs_cons h
    cases i with
    | zero => simp at hv; subst hv; exact ⟨u, rfl, h1⟩
    | succ i => simp at hv; simpa using concs_get h2 hv

theorem concs_append {π : Pi} : ∀ {l m : List AV} {us vs : List Value}, concs π l = some us → concs π m = some vs → concs π (l ++ m) = some (us ++ vs)
  | [], m, us, vs, h1, h2 => by cases h1; exact h2
  | x :: l, m, us, vs, h1, h2 => by
    obtain ⟨u, us', h3, h4, rfl⟩ := concs_cons h1
    exact concs_mk h3 (concs_append h4 h2)

theorem concs_take {π : Pi} : ∀ {l : List AV} {us : List Value} (n : Nat), concs π l = some us → concs π (l.take n) = some (us.take n)
  | l, us, 0, _ => by simp [concs]
  | [], us, n + 1, h => by cases h; simp [concs]
  | x :: l, us, n + 1, h => by
    obtain ⟨u, us', h1, h2, rfl⟩ := concs_cons h
    simp only [List.take_succ_cons]
    exact concs_mk h1 (concs_take n h2)
theorem concs_drop {π : Pi} : ∀ {l : List AV} {us : List Value} (n : Nat), concs π l = some us → concs π (l.drop n) = some (us.drop n)
  | l, us, 0, h => by simpa using h
  | [], us, n + 1, h => by cases h; simp [concs]
  | x :: l, us, n + 1, h => by
    obtain ⟨u, us', h1, h2, rfl⟩ := concs_cons h
    simp only [List.drop_succ_cons]
    exact concs_drop n h2
theorem concs_one {π : Pi} {v : AV} {u : Value} (h : conc π v = some u) : concs π [v] = some [u] := concs_mk h rfl
theorem concs_laid {π : Pi} {off : Nat} {cs ns : List AV} {us vs : List Value} (h1 : concs π cs = some us) (h2 : concs π ns = some vs) : concs π (laid off cs ns) = some (laid off us vs) := by
  unfold laid
  rw [← concs_length h2]
  exact concs_append (concs_append (concs_take _ h1) h2) (concs_drop _ h1)

/-! ### flat values -/
theorem flats_iff {l : List AV} : AV.flats l = true ↔ ∀ v ∈ l, v.flat = true := by simp [AV.flats]
theorem flats_append {l m : List AV} (h1 : AV.flats l = true) (h2 : AV.flats m = true) : AV.flats (l ++ m) = true := by
  rw [flats_iff] at *; intro v hv; rcases List.mem_append.1 hv with h | h
  · exact h1 v h
  · exact h2 v h
theorem flats_take {l : List AV} (n : Nat) (h : AV.flats l = true) : AV.flats (l.take n) = true := by rw [flats_iff] at *; exact fun v hv => h v (List.mem_of_mem_take hv)
theorem flats_drop {l : List AV} (n : Nat) (h : AV.flats l = true) : AV.flats (l.drop n) = true := by rw [flats_iff] at *; exact fun v hv => h v (List.mem_of_mem_drop hv)
theorem flats_laid {off : Nat} {cs ns : List AV} (h1 : AV.flats cs = true) (h2 : AV.flats ns = true) : AV.flats (laid off cs ns) = true := flats_append (flats_append (flats_take _ h1) h2) (flats_drop _ h1)

/-- A value of one cell. -/
def one (v : Value) : Prop := (∀ l, v ≠ .agg l) ∧ (∀ l, v ≠ .tuple l)
theorem conc_flat {π : Pi} {v : AV} {u : Value} (h : conc π v = some u) (hf : v.flat = true) : one u := by
  cases v <;> simp only [AV.flat, Bool.false_eq_true] at hf <;> unfold conc at h
  case bool => cases h; exact ⟨by simp, by simp⟩
  case int => cases h; exact ⟨by simp, by simp⟩
  case str => split at h <;> cases h; exact ⟨by simp, by simp⟩
  case nilptr => cases h; exact ⟨by simp, by simp⟩
  case nilsl => cases h; exact ⟨by simp, by simp⟩
  case nilmap => cases h; exact ⟨by simp, by simp⟩
  case nilfn => cases h; exact ⟨by simp, by simp⟩
  case nilif => cases h; exact ⟨by simp, by simp⟩
  case sym => cases h; exact Sym.one_ _
  case ptr => split at h <;> cases h; exact ⟨by simp, by simp⟩
  case map => split at h <;> cases h; exact ⟨by simp, by simp⟩
  case yld => split at h <;> cases h; exact ⟨by simp, by simp⟩
  case iface => split at h <;> cases h; exact ⟨by simp, by simp⟩
  case fn => split at h <;> cases h; exact ⟨by simp, by simp⟩
  case sl =>
    split at h
    · split at h <;> split at h <;> cases h <;> exact ⟨by simp, by simp⟩
    · cases h
theorem concs_flat {π : Pi} : ∀ {l : List AV} {us : List Value}, concs π l = some us → AV.flats l = true → ∀ u ∈ us, one u
  | [], us, h, _, u, hu => by cases h; simp at hu
  | v :: l, us, h, hf, u, hu => by
    obtain ⟨x, xs, h1, h2, rfl⟩ := concs_cons h
    have hf' : v.flat = true ∧ AV.flats l = true := by rw [flats_iff] at hf; exact ⟨hf v (by simp), by rw [flats_iff]; exact fun u hu => hf u (by simp [hu])⟩
    rcases List.mem_cons.1 hu with rfl | hu
    · exact conc_flat h1 hf'.1
    · exact concs_flat h2 hf'.2 u hu

/-- The cells of a value are the cells of what it stands for. -/
theorem conc_cells {π : Pi} {v : AV} {u : Value} (h : conc π v = some u) (ht : ∀ l, v ≠ .tup l) : concs π v.cells = some u.cells.toList ∧ AV.flats v.cells = true := by
  cases v
  case agg l =>
    unfold conc at h
    split at h
    · rename_i hf
      split at h
      · rename_i x hx; cases h; exact ⟨hx, hf⟩
      · cases h
    · cases h
  case tup l => exact absurd rfl (ht l)
  all_goals
    have hone := conc_flat h rfl
    refine ⟨?_, by simp [AV.cells, AV.flats, AV.flat]⟩
    have : u.cells.toList = [u] := by cases u <;> first | rfl | exact absurd rfl (hone.1 _)
    rw [this]
    exact concs_one h

/-! ### constants -/
theorem bytesV_back (s : ByteArray) : small (s.data.toList.map UInt8.toNat) = true ∧ bytesV (s.data.toList.map UInt8.toNat) = s := by
  constructor
  · simp only [small, List.all_map, List.all_eq_true, Function.comp]
    intro x _
    simp only [Nat.blt_eq]
    exact x.toNat_lt
  · unfold bytesV
    rw [List.map_map]
    have : (UInt8.ofNat ∘ UInt8.toNat) = id := by funext x; simp
    rw [this, List.map_id]

theorem mapO_concs {π : Pi} {f : Value → Option AV} (hf : ∀ v a, f v = some a → conc π a = some v) : ∀ {l : List Value} {as : List AV}, mapO f l = some as → concs π as = some l
  | [], as, h => by cases h; rfl
  | v :: l, as, h => by
    unfold mapO at h
    split at h
    · cases h
    · rename_i x hx
      split at h
      · cases h
      · rename_i xs hxs; cases h
        exact concs_mk (hf v x hx) (mapO_concs hf hxs)

theorem absN_conc {π : Pi} : ∀ (d : Nat) (v : Value) (a : AV), absN d v = some a → conc π a = some v
  | 0, v, a, h => by cases h
  | d + 1, v, a, h => by
    unfold absN at h
    split at h
    case h_1 => cases h; rfl
    case h_2 => cases h; rfl
    case h_3 s => cases h; unfold conc; rw [if_pos (bytesV_back s).1, (bytesV_back s).2]
    case h_4 => cases h; rfl
    case h_5 => cases h; rfl
    case h_6 => cases h; rfl
    case h_7 => cases h; rfl
    case h_8 => cases h; rfl
    case h_9 t v =>
      cases e : absN d v with
      | none => rw [e] at h; cases h
      | some x => rw [e] at h; cases h; unfold conc; rw [absN_conc d v x e]
    case h_10 l =>
      split at h
      · rename_i vs hvs
        split at h
        · rename_i hf; cases h
          unfold conc
          rw [if_pos hf, mapO_concs (absN_conc d) hvs]
        · cases h
      · cases h
    case h_11 l =>
      cases e : mapO (absN d) l.toList with
      | none => rw [e] at h; cases h
      | some x => rw [e] at h; cases h; unfold conc; rw [mapO_concs (absN_conc d) e]
    case h_12 => cases h
theorem absV_conc {π : Pi} {v : Value} {a : AV} (h : absV v = some a) : conc π a = some v := absN_conc 6 v a h

/-! ### frames, objects, heaps -/
def EnvRel (π : Pi) (t : Env) (tmps : Array Value) : Prop := ∀ i v, look t i = some v → ∃ u, tmps[i]? = some u ∧ conc π v = some u
theorem EnvRel.mono {π π' : Pi} {t : Env} {tmps : Array Value} (h : EnvRel π t tmps) (hp : π.le π') : EnvRel π' t tmps := fun i v hv => let ⟨u, h1, h2⟩ := h i v hv; ⟨u, h1, conc_mono hp h2⟩

def concE (π : Pi) (e : AV × AV × Nat) (m : MapEntry) : Prop := conc π e.1 = some m.key ∧ conc π e.2.1 = some m.val ∧ e.2.2 = m.born
def ConcEs (π : Pi) : List (AV × AV × Nat) → List MapEntry → Prop
  | [], [] => True
  | e :: es, m :: ms => concE π e m ∧ ConcEs π es ms
  | [], _ :: _ => False
  | _ :: _, [] => False
theorem ConcEs.mono {π π' : Pi} (hp : π.le π') : ∀ {es : List (AV × AV × Nat)} {ms : List MapEntry}, ConcEs π es ms → ConcEs π' es ms
  | [], [], _ => trivial
  | _ :: _, _ :: _, h => ⟨⟨conc_mono hp h.1.1, conc_mono hp h.1.2.1, h.1.2.2⟩, h.2.mono hp⟩
  | [], _ :: _, h => h.elim
  | _ :: _, [], h => h.elim

/-- None of 'n' cells from 'lo' on is frozen. -/
def unf (fz : Nat × Nat) (lo n : Nat) : Prop := ∀ i, lo ≤ i → i < lo + n → ¬ (fz.1 ≤ i ∧ i < fz.2)

def ORel (π : Pi) (o : AObj) (l : Loc) (ob : Obj) : Prop :=
  match o, ob with
  | .cells cs, .cells arr _ fz => ∃ vs, concs π cs = some vs ∧ AV.flats cs = true ∧ l.shift + l.cap ≤ arr.size ∧ cs.length ≤ l.cap ∧ (∀ i, i < cs.length → arr[l.shift + i]? = vs[i]?) ∧ unf fz l.shift l.cap
  | .map es c, .map ms c' => ConcEs π es ms.toList ∧ c = c'
  | .loop st pend t ps as bd df, .loop r => r.state = st ∧ r.pending = pend ∧ EnvRel π t r.tmps ∧ r.params = ps.toArray ∧ r.assign = as ∧ r.body = bd ∧ ∃ ld, π df = some ld ∧ r.defers = ld.block
  | .dfr b, .deferred c => c = if b then some [] else none
  | .strit s p, .stringIter s' p' => l.shift = 0 ∧ small s = true ∧ s' = bytesV s ∧ p = p'
  | .mapit m since seen last, .mapIter m' since' seen' last' => l.shift = 0 ∧ since = since' ∧ seen' = seen.toArray ∧ last = last' ∧ (match m, m' with | none, none => True | some r, some b => ∃ lm, π r = some lm ∧ lm.block = b | _, _ => False)
  | .keys m, .cells arr _ _ => l.shift = 0 ∧ arr.size = l.cap ∧ (match m with | none => arr[0]? = some (.map none) | some r => ∃ lm, π r = some lm ∧ arr[0]? = some (.map (some lm.block)))
  | _, _ => False

theorem ORel.mono {π π' : Pi} (hp : π.le π') {o : AObj} {l : Loc} {ob : Obj} (h : ORel π o l ob) : ORel π' o l ob := by
  cases o <;> cases ob <;> simp only [ORel] at h ⊢
  case cells.cells => obtain ⟨vs, h1, h2⟩ := h; exact ⟨vs, concs_mono hp h1, h2⟩
  case map.map => exact ⟨h.1.mono hp, h.2⟩
  case loop.loop => obtain ⟨h1, h2, h3, h4, h5, h6, ld, h7, h8⟩ := h; exact ⟨h1, h2, h3.mono hp, h4, h5, h6, ld, hp _ _ h7, h8⟩
  case dfr.deferred => exact h
  case strit.stringIter => exact h
  case mapit.mapIter m since seen last m' since' seen' last' =>
    refine ⟨h.1, h.2.1, h.2.2.1, h.2.2.2.1, ?_⟩
    have := h.2.2.2.2
    cases m <;> cases m' <;> first | exact this | (obtain ⟨lm, h1, h2⟩ := this; exact ⟨lm, hp _ _ h1, h2⟩)
  case keys.cells m arr _ _ =>
    refine ⟨h.1, h.2.1, ?_⟩
    have := h.2.2
    cases m with
    | none => exact this
    | some r => obtain ⟨lm, h1, h2⟩ := this; exact ⟨lm, hp _ _ h1, h2⟩

/-- What lies below 'Sym.base'. -/
structure Low (w : World) : Prop where
  size : Sym.base ≤ w.heap.size
  at_ : ∀ b, b < Sym.base → w.heap[b]? = Sym.mem b
theorem Low.mono {w w' : World} (h : Low w) (hs : w.heap.size ≤ w'.heap.size) (ha : ∀ b, b < Sym.base → w'.heap[b]? = w.heap[b]?) : Low w' := ⟨Nat.le_trans h.size hs, fun b hb => (ha b hb).trans (h.at_ b hb)⟩
structure Rel (π : Pi) (H : Heap) (w : World) : Prop where
  dom : ∀ r, H.next ≤ r → π r = none
  obj : ∀ r o l, H.get r = some o → π r = some l → ∃ ob, w.heap[l.block]? = some ob ∧ ORel π o l ob
  inj : ∀ r r' o o' l l', H.get r = some o → H.get r' = some o' → π r = some l → π r' = some l' → l.block = l'.block → r = r'
  top : ∀ r, H.next ≤ r → H.get r = none
  low : Low w
  high : ∀ r o l, H.get r = some o → π r = some l → Sym.base ≤ l.block
  zero : ∀ l, Sym.zero = some l → π 0 = some l

def own (π : Pi) (H : Heap) (b : Nat) : Prop := ∃ r o l, H.get r = some o ∧ π r = some l ∧ l.block = b
theorem Rel.own_lt {π : Pi} {H : Heap} {w : World} (h : Rel π H w) {b : Nat} (hb : own π H b) : b < w.heap.size := by
  obtain ⟨r, o, l, h1, h2, rfl⟩ := hb
  obtain ⟨ob, h3, _⟩ := h.obj r o l h1 h2
  exact (Array.getElem?_eq_some_iff.1 h3).1

/-- From 'π, H, w' one comes to 'π', H', w''. -/
structure Post (π : Pi) (H : Heap) (w : World) (π' : Pi) (H' : Heap) (w' : World) : Prop where
  ext : π.le π'
  rel : Rel π' H' w'
  next : H.next ≤ H'.next
  os : w'.os = w.os
  tape : w'.tape = w.tape
  output : w'.output = w.output
  size : w.heap.size ≤ w'.heap.size
  frame : ∀ b, b < w.heap.size → ¬ own π H b → w'.heap[b]? = w.heap[b]?
  owns : ∀ b, own π' H' b → own π H b ∨ w.heap.size ≤ b
  keep : ∀ r, r < H.next → π r = none → π' r = none ∧ H'.get r = H.get r

theorem Post.refl {π : Pi} {H : Heap} {w : World} (h : Rel π H w) : Post π H w π H w :=
  ⟨Pi.le.refl _, h, Nat.le_refl _, rfl, rfl, rfl, Nat.le_refl _, fun _ _ _ => rfl, fun _ h => .inl h, fun _ _ h => ⟨h, rfl⟩⟩
theorem Post.trans {π π' π'' : Pi} {H H' H'' : Heap} {w w' w'' : World} (a : Post π H w π' H' w') (b : Post π' H' w' π'' H'' w'') : Post π H w π'' H'' w'' := {
  ext := a.ext.trans b.ext
  rel := b.rel
  next := Nat.le_trans a.next b.next
  os := b.os.trans a.os
  tape := b.tape.trans a.tape
  output := b.output.trans a.output
  size := Nat.le_trans a.size b.size
  frame := fun k hk ho => by
    rw [b.frame k (Nat.lt_of_lt_of_le hk a.size) (fun h => (a.owns k h).elim ho (fun h => absurd hk (Nat.not_lt.2 h)))]
    exact a.frame k hk ho
  owns := fun k hk => (b.owns k hk).elim (a.owns k) (fun h => .inr (Nat.le_trans a.size h))
  keep := fun r hr h => by
    obtain ⟨h1, h2⟩ := a.keep r hr h
    obtain ⟨h3, h4⟩ := b.keep r (Nat.lt_of_lt_of_le hr a.next) h1
    exact ⟨h3, h4.trans h2⟩ }
/-- A draw turns nothing. -/
theorem Rel.drawn {π : Pi} {H : Heap} {w : World} (h : Rel π H w) (n : Nat) : Rel π H { w with drawn := n } := ⟨h.dom, h.obj, h.inj, h.top, ⟨h.low.size, h.low.at_⟩, h.high, h.zero⟩
theorem Post.drawn {π : Pi} {H : Heap} {w : World} (h : Rel π H w) (n : Nat) : Post π H w π H { w with drawn := n } :=
  ⟨Pi.le.refl _, h.drawn n, Nat.le_refl _, rfl, rfl, rfl, Nat.le_refl _, fun _ _ _ => rfl, fun _ h => .inl h, fun _ _ h => ⟨h, rfl⟩⟩

/-- Block b turned into another object, nothing else. -/
structure Turned (w w' : World) (b : Nat) (ob : Obj) : Prop where
  os : w'.os = w.os
  tape : w'.tape = w.tape
  output : w'.output = w.output
  size : w'.heap.size = w.heap.size
  at_ : w'.heap[b]? = some ob
  other : ∀ k, k ≠ b → w'.heap[k]? = w.heap[k]?

/-- A region written. -/
theorem Post.turned {π : Pi} {H H' : Heap} {w w' : World} {r : Nat} {o o' : AObj} {l : Loc} {ob : Obj} (h : Rel π H w) (ho : H.get r = some o) (hl : π r = some l)
    (hn : H'.next = H.next) (hH : ∀ m, H'.get m = if m = r then some o' else H.get m) (ht : Turned w w' l.block ob) (hr : ORel π o' l ob) : Post π H w π H' w' := by
  have hget : ∀ r' o'', H'.get r' = some o'' → ∃ x, H.get r' = some x := fun r' o'' h1 => by
    rw [hH] at h1
    by_cases e : r' = r
    · subst e; exact ⟨o, ho⟩
    · rw [if_neg e] at h1; exact ⟨o'', h1⟩
  refine ⟨Pi.le.refl _, ⟨fun q hq => h.dom q (hn ▸ hq), ?_, ?_, fun q hq => by
    rw [hH]
    have h0 := h.top q (hn ▸ hq)
    by_cases e : q = r
    · subst e; rw [h0] at ho; cases ho
    · rw [if_neg e]; exact h0, h.low.mono (Nat.le_of_eq ht.size.symm) fun b hb => ht.other b fun e => by
      have := h.high r o l ho hl
      omega, fun q x lq h1 h2 => by
    obtain ⟨x', hx⟩ := hget q x h1
    exact h.high q x' lq hx h2, h.zero⟩, Nat.le_of_eq hn.symm, ht.os, ht.tape, ht.output, Nat.le_of_eq ht.size.symm, ?_, ?_, ?_⟩
  · intro q x lq h1 h2
    rw [hH] at h1
    by_cases e : q = r
    · subst e
      rw [if_pos rfl] at h1; cases h1
      rw [hl] at h2; cases h2
      exact ⟨ob, ht.at_, hr⟩
    · rw [if_neg e] at h1
      obtain ⟨ob', h3, h4⟩ := h.obj q x lq h1 h2
      refine ⟨ob', ?_, h4⟩
      rw [ht.other _ (fun e2 => e (h.inj q r x o lq l h1 ho h2 hl e2))]
      exact h3
  · intro a b x y la lb h1 h2 h3 h4 h5
    obtain ⟨x', hx⟩ := hget a x h1
    obtain ⟨y', hy⟩ := hget b y h2
    exact h.inj a b x' y' la lb hx hy h3 h4 h5
  · intro b hb ho'
    exact ht.other b (fun e => ho' ⟨r, o, l, ho, hl, e.symm⟩)
  · rintro b ⟨q, x, lq, h1, h2, h3⟩
    obtain ⟨x', hx⟩ := hget q x h1
    exact .inl ⟨q, x', lq, hx, h2, h3⟩
  · intro q hq hπ
    refine ⟨hπ, ?_⟩
    rw [hH, if_neg (fun e => by subst e; rw [hl] at hπ; cases hπ)]

/-- A region more. 'r': a number that stands for nothing yet. -/
theorem Post.fresh {π : Pi} {H H' : Heap} {w w' : World} {r : Nat} {o' : AObj} {l : Loc} {ob : Obj} (h : Rel π H w) (hπ : π r = none) (hn : H.next ≤ H'.next) (hlt : r < H'.next) (hge : H.next ≤ r ∨ H.get r = some o')
    (hH : ∀ m, H'.get m = if m = r then some o' else H.get m) (hb : l.block = w.heap.size)
    (at_ : w'.heap[w.heap.size]? = some ob) (other : ∀ k, k < w.heap.size → w'.heap[k]? = w.heap[k]?)
    (hr : ORel (fun q => if q = r then some l else π q) o' l ob) : Rel (fun q => if q = r then some l else π q) H' w' ∧ π.le (fun q => if q = r then some l else π q) := by
  have hle : π.le (fun q => if q = r then some l else π q) := fun q lq hq => by
    by_cases e : q = r
    · subst e; rw [hπ] at hq; cases hq
    · simp only [if_neg e]; exact hq
  refine ⟨⟨fun q hq => ?_, ?_, ?_, fun q hq => by
    rw [hH, if_neg (fun e => by subst e; exact absurd hlt (Nat.not_lt.2 hq))]
    exact h.top q (Nat.le_trans hn hq), h.low.mono (by have := (Array.getElem?_eq_some_iff.1 at_).1; omega) fun b hb => other b (Nat.lt_of_lt_of_le hb h.low.size), fun q x lq h1 h2 => by
    by_cases e : q = r
    · subst e
      simp only [if_true] at h2; cases h2
      have := h.low.size
      omega
    · rw [hH, if_neg e] at h1
      simp only [if_neg e] at h2
      exact h.high q x lq h1 h2, fun l hl => hle _ _ (h.zero l hl)⟩, hle⟩
  · by_cases e : q = r
    · subst e; exact absurd hlt (Nat.not_lt.2 hq)
    · simp only [if_neg e]; exact h.dom q (Nat.le_trans hn hq)
  · intro q x lq h1 h2
    rw [hH] at h1
    by_cases e : q = r
    · subst e
      rw [if_pos rfl] at h1; cases h1
      simp only [if_true] at h2; cases h2
      exact ⟨ob, by rw [hb]; exact at_, hr⟩
    · rw [if_neg e] at h1
      simp only [if_neg e] at h2
      obtain ⟨ob', h3, h4⟩ := h.obj q x lq h1 h2
      refine ⟨ob', ?_, h4.mono hle⟩
      rw [other _ (Array.getElem?_eq_some_iff.1 h3).1]; exact h3
  · intro a b x y la lb h1 h2 h3 h4 h5
    rw [hH] at h1 h2
    by_cases ea : a = r
    · by_cases eb : b = r
      · rw [ea, eb]
      · simp only [if_neg eb] at h2 h4
        simp only [if_pos ea] at h3; cases h3
        obtain ⟨ob', h6, _⟩ := h.obj b y lb h2 h4
        have := (Array.getElem?_eq_some_iff.1 h6).1
        omega
    · simp only [if_neg ea] at h1 h3
      by_cases eb : b = r
      · simp only [if_pos eb] at h4; cases h4
        obtain ⟨ob', h6, _⟩ := h.obj a x la h1 h3
        have := (Array.getElem?_eq_some_iff.1 h6).1
        omega
      · simp only [if_neg eb] at h2 h4
        exact h.inj a b x y la lb h1 h2 h3 h4 h5

end Go.Ev
