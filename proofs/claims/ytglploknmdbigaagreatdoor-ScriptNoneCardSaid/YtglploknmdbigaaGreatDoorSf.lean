/- What is laid and what is written: the machine's side. -/
import Derived.Test.YtglploknmdbigaaGreatDoorSe
import Derived.Laws.IdiomCopy
set_option linter.unusedSectionVars false
namespace Go.Ev
section
variable [Sym]
variable {P : Program} {R : Type}

mutual
theorem AV.beq_eq : ∀ (a b : AV), AV.beq a b = true → a = b
  | .bool a, b, h => by cases b <;> simp [AV.beq] at h; subst h; rfl
  | .int j a, b, h => by
    cases b <;> simp [AV.beq] at h
    obtain ⟨h1, h2⟩ := h
    rw [intEq_eq] at h2
    simp at h2
    rw [sameKind_eq h1, h2]
  | .str a, b, h => by cases b <;> simp [AV.beq] at h; rw [strEq_eq] at h; simp at h; subst h; rfl
  | .nilptr, b, h => by cases b <;> simp [AV.beq] at h; rfl
  | .ptr r o, b, h => by cases b <;> simp [AV.beq] at h; obtain ⟨rfl, rfl⟩ := h; rfl
  | .nilsl, b, h => by cases b <;> simp [AV.beq] at h; rfl
  | .sl r o a n c, b, h => by
    cases b <;> simp [AV.beq] at h
    rename_i r' o' a' n' c'
    obtain ⟨⟨⟨⟨rfl, rfl⟩, rfl⟩, rfl⟩, h⟩ := h
    cases c <;> cases c' <;> simp at h <;> subst h <;> rfl
  | .nilmap, b, h => by cases b <;> simp [AV.beq] at h; rfl
  | .map r, b, h => by cases b <;> simp [AV.beq] at h; subst h; rfl
  | .nilfn, b, h => by cases b <;> simp [AV.beq] at h; rfl
  | .fn f a c, b, h => by
    cases b <;> simp [AV.beq] at h
    obtain ⟨⟨rfl, h1⟩, h2⟩ := h
    rw [AV.beqs_eq _ _ h1, AV.beqs_eq _ _ h2]
  | .yld r, b, h => by cases b <;> simp [AV.beq] at h; subst h; rfl
  | .nilif, b, h => by cases b <;> simp [AV.beq] at h; rfl
  | .iface t v, b, h => by
    cases b <;> simp [AV.beq] at h
    obtain ⟨rfl, h1⟩ := h
    rw [AV.beq_eq _ _ h1]
  | .agg a, b, h => by cases b <;> simp [AV.beq] at h; rw [AV.beqs_eq _ _ h]
  | .tup a, b, h => by cases b <;> simp [AV.beq] at h; rw [AV.beqs_eq _ _ h]
  | .sym i, b, h => by cases b <;> simp [AV.beq] at h; subst h; rfl
theorem AV.beqs_eq : ∀ (a b : List AV), AV.beqs a b = true → a = b
  | [], b, h => by cases b <;> simp [AV.beqs] at h; rfl
  | x :: a, b, h => by
    cases b <;> simp [AV.beqs] at h
    obtain ⟨h1, h2⟩ := h
    rw [AV.beq_eq _ _ h1, AV.beqs_eq _ _ h2]
end

/-! ### cells written -/
theorem run_store_one {v : Value} (hv : one v) {w : World} {b o : Nat} {arr : Array Value} {e : TypeId} {fz : Nat × Nat} (hb : w.heap[b]? = some (.cells arr e fz)) (ho : o < arr.size) (hf : ¬ (fz.1 ≤ o ∧ o < fz.2)) :
    (store ⟨b, o, none⟩ v).run P w = .ok () (w.setCell ⟨b, o, none⟩ v) := by
  have h1 : w.cell? ⟨b, o, none⟩ = some arr[o] := by rw [cell_of hb]; simp [ho]
  have h2 : w.frozen? ⟨b, o, none⟩ = false := by
    obtain ⟨lo, hi⟩ := fz
    simp only [World.frozen?, hb]
    simp only at hf
    simp; omega
  cases v <;> first
    | exact absurd rfl (hv.1 _)
    | exact absurd rfl (hv.2 _)
    | simp [store, Sem.run, h1, h2]
theorem setCell_turned {w : World} {b o : Nat} {v : Value} {arr : Array Value} {e : TypeId} {fz : Nat × Nat} (hb : w.heap[b]? = some (.cells arr e fz)) : Turned w (w.setCell ⟨b, o, none⟩ v) b (.cells (arr.setIfInBounds o v) e fz) := {
  os := rfl
  tape := rfl
  output := rfl
  size := by simp [World.setCell]
  at_ := by simp [World.setCell, Array.getElem?_modify, hb]
  other := fun k hk => by
    simp only [World.setCell, Array.getElem?_modify]
    rw [if_neg (fun h => hk h.symm)] }
theorem Turned.trans {w w' w'' : World} {b : Nat} {ob ob' : Obj} (h : Turned w w' b ob) (k : Turned w' w'' b ob') : Turned w w'' b ob' :=
  ⟨k.os.trans h.os, k.tape.trans h.tape, k.output.trans h.output, k.size.trans h.size, k.at_, fun x hx => (k.other x hx).trans (h.other x hx)⟩
theorem Turned.refl {w : World} {b : Nat} {ob : Obj} (h : w.heap[b]? = some ob) : Turned w w b ob := ⟨rfl, rfl, rfl, rfl, h, fun _ _ => rfl⟩

theorem run_store_list {b o : Nat} {e : TypeId} {fz : Nat × Nat} : ∀ (vs : List Value) (i : Nat) (arr : Array Value) (w : World), (∀ v ∈ vs, one v) → w.heap[b]? = some (.cells arr e fz) → o + i + vs.length ≤ arr.size → unf fz (o + i) vs.length →
    ∃ arr' w', (storeCells ⟨b, o, none⟩ vs i).run P w = .ok () w' ∧ Turned w w' b (.cells arr' e fz) ∧ arr'.size = arr.size ∧ ∀ k, arr'[k]? = if k < o + i then arr[k]? else if k < o + i + vs.length then vs[k - (o + i)]? else arr[k]?
  | [], i, arr, w, _, hb, _, _ => ⟨arr, w, rfl, .refl hb, rfl, fun k => by
      by_cases c : k < o + i
      · rw [if_pos c]
      · rw [if_neg c, if_neg (by simp; omega)]⟩
  | v :: vs, i, arr, w, hv, hb, hl, hf => by
    simp only [List.length_cons] at hl
    have h1 := run_store_one (P := P) (hv v (by simp)) hb (show o + i < arr.size by omega) (hf _ (Nat.le_refl _) (by simp))
    have h2 := setCell_turned (o := o + i) (v := v) hb
    obtain ⟨arr', w', h3, h4, h5, h6⟩ := run_store_list (o := o) vs (i + 1) _ _ (fun u hu => hv u (by simp [hu])) h2.at_ (by simp; omega) (fun j h1 h2 => hf j (by omega) (by simp only [List.length_cons]; omega))
    refine ⟨arr', w', ?_, h2.trans h4, by simpa using h5, fun k => ?_⟩
    · simp only [storeCells, add_at, Sem.run_bind, h1, Result.andThen_ok]
      exact h3
    · rw [h6]
      simp only [List.length_cons, Array.getElem?_setIfInBounds]
      by_cases c1 : k < o + i
      · rw [if_pos (by omega), if_pos c1, if_neg (by omega)]
      · rw [if_neg c1]
        by_cases c2 : k = o + i
        · subst c2
          rw [if_pos (by omega), if_pos rfl, if_pos (by omega), if_pos (by omega)]
          simp
        · rw [if_neg (by omega)]
          by_cases c3 : k < o + i + (vs.length + 1)
          · rw [if_pos (by omega), if_pos (by omega)]
            have : k - (o + i) = (k - (o + (i + 1))) + 1 := by omega
            rw [this, List.getElem?_cons_succ]
          · rw [if_neg (by omega), if_neg (by omega), if_neg (by omega)]

/-- Cells laid over a region's. -/
theorem Rel.write {π : Pi} {H H' : Heap} {w : World} (hr : Rel π H w) {r o : Nat} {cs ns : List AV} {l : Loc} {us : List Value} (hq : H.get r = some (.cells cs)) (hl : π r = some l) (hn : concs π ns = some us) (hf : AV.flats ns = true) (hlt : o + ns.length ≤ cs.length)
    (hN : H'.next = H.next) (hH : ∀ m, H'.get m = if m = r then some (.cells (laid o cs ns)) else H.get m) : ∃ w', (storeCells ⟨l.block, l.shift + o, none⟩ us).run P w = .ok () w' ∧ Post π H w π H' w' := by
  obtain ⟨arr, e, fz, vs, h1, h2, h3, h4, h5, h6, h7⟩ := hr.cells hq hl
  have hlen := concs_length hn
  have hlen2 := concs_length h2
  obtain ⟨arr', w', g1, g2, g3, g4⟩ := run_store_list (P := P) (b := l.block) (o := l.shift + o) us 0 arr w (concs_flat hn hf) h1 (by omega) (fun j g1 g2 => h7 j (by omega) (by omega))
  refine ⟨w', g1, Post.turned hr hq hl hN hH g2 ⟨laid o vs us, concs_laid h2 hn, flats_laid h3 hf, by omega, by rw [laid_length _ _ _ hlt]; exact h5, fun i hi => ?_, h7⟩⟩
  rw [laid_length _ _ _ hlt] at hi
  rw [g4]
  have hx := h6 i hi
  unfold laid
  by_cases c1 : i < o
  · rw [if_pos (by omega), hx, List.append_assoc, List.getElem?_append_left (by simp; omega), List.getElem?_take, if_pos c1]
  · rw [if_neg (by omega)]
    by_cases c2 : i < o + us.length
    · rw [if_pos (by omega), List.append_assoc, List.getElem?_append_right (by simp; omega), List.getElem?_append_left (by simp; omega)]
      congr 1; simp; omega
    · rw [if_neg (by omega), hx, List.getElem?_append_right (by simp; omega), List.getElem?_drop]
      congr 1; simp; omega

/-! ### what lays a block -/
def ASound (P : Program) (o : Oper) (f : A R) : Prop := ∀ t k r, f t k = some r → ∃ ob g, k ob g = some r ∧
  ∀ π w (a : Act), (∀ x ∈ o.op.operands, EnvAt π t a x) → ∃ obj l u, l.block = w.heap.size ∧ (execOp a.eval o).run P w = .ok (.value u) (w.alloc obj) ∧ ORel π ob l obj ∧ ∀ q π', π' q = some l → conc π' (g q) = some u

theorem aNone_sound (o : Oper) : ASound P o (aNone : A R) := fun _ _ _ h => by cases h
/-- A fresh row of cells. -/
theorem ORel.fresh {π : Pi} {cs : List AV} {us : List Value} {n : Nat} {e : TypeId} (hc : concs π cs = some us) (hf : AV.flats cs = true) : ORel π (.cells cs) ⟨n, 0, us.length⟩ (.cells us.toArray e) := by
  refine ⟨us, hc, hf, by simp, by simp [concs_length hc], fun i _ => by simp, fun i _ _ h => absurd h.2 (Nat.not_lt_zero _)⟩

theorem aAlloc_sound {o : Oper} {ty : TypeId} {z : AV} (ho : o.op = .alloc ty) (hz : zeroT P ty = some z) (hf : AV.flats z.cells = true) : ASound P o (aAlloc z.cells : A R) := by
  intro t k r h
  obtain ⟨zu, hz1, hz2⟩ := run_zero hz
  refine ⟨_, _, h, fun π w a _ => ?_⟩
  have hc := conc_cells' (hz2 π) hf
  refine ⟨_, ⟨w.heap.size, 0, zu.cells.toList.length⟩, .pointer (some ⟨w.heap.size, 0, none⟩), rfl, ?_, ORel.fresh (e := ty) hc hf, fun q π' hq => ?_⟩
  · simp [execOp, ho, Instr.alloc, hz1, newVar, newRow]
  · exact conc_mk_ptr hq
theorem aBox_sound {o : Oper} {ty : TypeId} {x : Operand} (ho : o.op = .box ty x) : ASound P o (aBox x : A R) := by
  intro t k r h
  obtain ⟨v, h1, h2⟩ := opK_inv (x := x) h
  obtain ⟨h1, h3⟩ := cellsK_inv h1
  refine ⟨_, _, h1, fun π w a ha => ?_⟩
  obtain ⟨hc, hf⟩ := conc_cells (h2 π a (ha x (by simp [ho, Op.operands]))) h3
  refine ⟨_, ⟨w.heap.size, 0, _⟩, .pointer (some ⟨w.heap.size, 0, none⟩), rfl, ?_, ORel.fresh (e := ty) hc hf, fun q π' hq => ?_⟩
  · simp [execOp, ho, Instr.box, newVar, newRow]
  · exact conc_mk_ptr hq

theorem repl_length (z : List AV) : ∀ n, (repl n z).length = n * z.length
  | 0 => by simp [repl]
  | n + 1 => by simp [repl, repl_length z n, Nat.succ_mul, Nat.add_comm]
theorem flats_repl {z : List AV} (h : AV.flats z = true) : ∀ n, AV.flats (repl n z) = true
  | 0 => rfl
  | n + 1 => flats_append h (flats_repl h n)
/-- Zeroes, again and again. -/
theorem concs_repl {π : Pi} {z : List AV} {zs : Array Value} (hz : concs π z = some zs.toList) : ∀ n, concs π (repl n z) = some (((Array.range (n * zs.size)).map fun i => zs[i % zs.size]!).toList) := by
  have key : ∀ n s, concs π (repl n z) = some ((List.range' (s * zs.size) (n * zs.size)).map fun i => zs[i % zs.size]!) := by
    intro n
    induction n with
    | zero => intro s; simp [repl, concs]
    | succ n ih =>
      intro s
      have h := concs_append hz (ih (s + 1))
      simp only [repl]
      rw [h]
      congr 1
      rw [Nat.succ_mul n, Nat.add_comm (n * zs.size), ← List.range'_append_1, List.map_append, Nat.succ_mul s]
      congr 1
      apply List.ext_getElem?
      intro i
      simp only [List.getElem?_map]
      by_cases hi : i < zs.size
      · rw [List.getElem?_range' hi]
        simp only [Option.map_some, Nat.one_mul]
        have : (s * zs.size + i) % zs.size = i := by
          rw [Nat.add_comm, Nat.add_mul_mod_self_right, Nat.mod_eq_of_lt hi]
        rw [this]
        simp [hi]
      · rw [List.getElem?_eq_none (by simp; omega), List.getElem?_eq_none (by simp; omega)]
        rfl
  intro n
  have := key n 0
  rw [this]
  simp [Array.toList_map, Array.toList_range, List.range_eq_range']

end
end Go.Ev

set_option linter.unusedSectionVars false
namespace Go.Ev
section
variable [Sym]
variable {P : Program} {R : Type}

theorem mapO_map {α β : Type} (f : α → β) : ∀ l : List α, mapO (fun x => some (f x)) l = some (l.map f)
  | [] => rfl
  | x :: l => by simp [mapO, mapO_map f l]

theorem aSlice_sound {o : Oper} {ty e : TypeId} {n m : Nat} {z : AV} {ps : Array (Nat × Operand)} (ho : o.op = .buildSlice ty n ps) (hu : P.underlying ty = some (.slice e)) (hm : sizeT P e = some (m + 1)) (hz : zeroT P e = some z)
    (hn : n * (m + 1) ≤ 10000) (hl : z.cells.length = m + 1) (hf : AV.flats z.cells = true) : ASound P o (aSlice n (ps.toList.map fun p => (p.1 * (m + 1), m + 1, p.2)) (repl n z.cells) : A R) := by
  intro t k r h
  obtain ⟨zu, hz1, hz2⟩ := run_zero hz
  obtain ⟨cs', h1, h2⟩ := partsK_inv (place := fun i => some (i * (m + 1), m + 1)) (parts := ps.toList) (mapO_map (fun p : Nat × Operand => (p.1 * (m + 1), m + 1, p.2)) ps.toList) h
  refine ⟨_, _, h1, fun π w a ha => ?_⟩
  have hc := conc_cells' (hz2 π) hf
  have hsz : zu.cells.size = m + 1 := by rw [← hl, ← concs_length hc]; simp
  obtain ⟨us', h3, h4, h5⟩ := h2 π a _ (concs_repl hc n) (flats_repl hf n) (fun p hp => ha p.2 (by simp only [ho, Op.operands]; simp; exact ⟨p.1, by simpa using hp⟩))
  refine ⟨_, ⟨w.heap.size, 0, _⟩, .slice (some ⟨w.heap.size, 0, none⟩) n n, rfl, ?_, ORel.fresh (e := e) h3 h4, fun q π' hq => ?_⟩
  · have hno : ¬ (n * (m + 1) > 2 ^ 24) := by omega
    simp only [execOp, ho, Instr.buildSlice, Sem.run_bind, run_underlying hu, Result.andThen_ok, run_size hm, if_neg hno]
    rw [hsz] at h5
    simp only [Array.toArray_toList] at h5
    by_cases h0 : n * (m + 1) = 0
    · have e0 : ((Array.range (n * (m + 1))).map fun x => (#[] : Array Value)[x % (#[] : Array Value).size]!) = ((Array.range (n * (m + 1))).map fun i => zu.cells[i % (m + 1)]!) := by rw [h0]; simp
      rw [if_pos h0]
      simp only [Sem.run_bind, Sem.run_pure, Result.andThen_ok]
      rw [e0, Array.toList_map, h5]
      simp [newRow]
    · rw [if_neg h0]
      simp only [Sem.run_bind, hz1, Sem.run_pure, Result.andThen_ok, hsz]
      rw [Array.toList_map, h5]
      simp [newRow]
  · show conc π' (.sl q 0 0 n (.ex n)) = _
    rw [conc_mk_ex hq (Nat.le_refl n)]

theorem allocF_sound {o : Oper} {f : A R} (h : allocF P o.op = some f) : ASound P o f := by
  unfold allocF at h
  split at h
  · rename_i t ho
    split at h
    · rename_i z hz
      split at h
      · rename_i hf; cases h; exact aAlloc_sound ho hz hf
      · cases h; exact aNone_sound o
    · cases h; exact aNone_sound o
  · rename_i ho; cases h; exact aBox_sound ho
  · rename_i t n ps ho
    split at h
    · rename_i e hu
      split at h
      · rename_i m z hm hz
        split at h
        · rename_i hc
          cases h
          simp only [Bool.and_eq_true, decide_eq_true_eq, beq_iff_eq] at hc
          exact aSlice_sound ho (underQ_some hu) hm hz hc.1.1 hc.1.2 hc.2
        · cases h; exact aNone_sound o
      · cases h; exact aNone_sound o
    · cases h; exact aNone_sound o
  · cases h

/-! ### what writes -/
/-- What an operation leaves behind. -/
def outV : Next → Option Value
  | .value u => some u
  | .skip => some undef
  | _ => none
def WSound (P : Program) (o : Oper) (f : W R) : Prop := ∀ t H k r, f t H k = some r → ∃ v H', k v H' = some r ∧
  ∀ π w (a : Act), Rel π H w → (∀ x ∈ o.op.operands, EnvAt π t a x) → ∃ π' w' nx u, (execOp a.eval o).run P w = .ok nx w' ∧ outV nx = some u ∧ conc π' v = some u ∧ Post π H w π' H' w'
theorem wNone_sound (o : Oper) : WSound P o (wNone : W R) := fun _ _ _ _ h => by cases h
theorem conc_undef (π : Pi) : conc π .undef = some undef := rfl

theorem alloc_lt {w : World} {ob : Obj} {k : Nat} (h : k < w.heap.size) : (w.alloc ob).heap[k]? = w.heap[k]? := by
  show (w.heap.push ob)[k]? = _
  rw [Array.getElem?_push, if_neg (by omega)]
theorem alloc_at {w : World} {ob : Obj} : (w.alloc ob).heap[w.heap.size]? = some ob := by
  show (w.heap.push ob)[w.heap.size]? = _
  rw [Array.getElem?_push, if_pos rfl]
theorem alloc_size {w : World} {ob : Obj} : (w.alloc ob).heap.size = w.heap.size + 1 := by
  show (w.heap.push ob).size = _
  rw [Array.size_push]
/-- A region more, at the heap's end. -/
theorem Post.newRegion {π : Pi} {H H' : Heap} {w : World} {r : Nat} {o' : AObj} {l : Loc} {ob : Obj} {n : Nat} (h : Rel π H w) (hr : r = H.next) (hn : H'.next = H.next + 1)
    (hH : ∀ m, H'.get m = if m = r then some o' else H.get m) (hb : l.block = w.heap.size) (hrel : ORel π o' l ob) :
    ∃ π', π' r = some l ∧ Post π H w π' H' (({ w with drawn := n } : World).alloc ob) := by
  subst hr
  have hπ : π H.next = none := h.dom _ (Nat.le_refl _)
  have hle : π.le (fun q => if q = H.next then some l else π q) := fun q lq hq => by
    by_cases e : q = H.next
    · subst e; rw [hπ] at hq; cases hq
    · simp only [if_neg e]; exact hq
  obtain ⟨h1, _⟩ := Post.fresh (w' := w.alloc ob) h hπ (show H.next ≤ H'.next by omega) (show H.next < H'.next by omega) (.inl (Nat.le_refl _)) hH hb alloc_at (fun k hk => alloc_lt hk) (hrel.mono hle)
  refine ⟨_, by simp, ⟨hle, h1.drawn n, by omega, rfl, rfl, rfl, (by show w.heap.size ≤ (w.alloc ob).heap.size; rw [alloc_size]; omega), ?_, ?_, ?_⟩⟩
  · intro k hk _
    exact alloc_lt hk
  · rintro k ⟨q, x, lq, e1, e2, e3⟩
    by_cases e : q = H.next
    · simp only [if_pos e] at e2; cases e2
      right; omega
    · rw [hH, if_neg e] at e1
      simp only [if_neg e] at e2
      exact .inl ⟨q, x, lq, e1, e2, e3⟩
  · intro q hq hπq
    have e : q ≠ H.next := by omega
    simp only [if_neg e]
    exact ⟨hπq, by rw [hH, if_neg e]⟩

theorem Post.newRegion0 {π : Pi} {H H' : Heap} {w : World} {r : Nat} {o' : AObj} {l : Loc} {ob : Obj} (h : Rel π H w) (hr : r = H.next) (hn : H'.next = H.next + 1)
    (hH : ∀ m, H'.get m = if m = r then some o' else H.get m) (hb : l.block = w.heap.size) (hrel : ORel π o' l ob) :
    ∃ π', π' r = some l ∧ Post π H w π' H' (w.alloc ob) := Post.newRegion (n := w.drawn) h hr hn hH hb hrel
theorem ORel.fresh' {π : Pi} {cs : List AV} {us : Array Value} {n : Nat} {e : TypeId} (hc : concs π cs = some us.toList) (hf : AV.flats cs = true) : ORel π (.cells cs) ⟨n, 0, us.size⟩ (.cells us e) :=
  ⟨us.toList, hc, hf, by simp, by simpa using Nat.le_of_eq (concs_length hc).symm, fun i _ => by simp, fun i _ _ h => absurd h.2 (Nat.not_lt_zero _)⟩

theorem wStore_sound {o : Oper} {ty : TypeId} {p x : Operand} {n : Nat} (ho : o.op = .store ty p x) (hn : sizeT P ty = some n) : WSound P o (wStore n p x : W R) := by
  intro t H k r h
  obtain ⟨v, h1, h2⟩ := opK_inv (x := p) h
  obtain ⟨u, g1, h3⟩ := opK_inv (x := x) h1; clear h1
  obtain ⟨q, off, rfl, h1⟩ := ptrK_inv g1; clear g1
  obtain ⟨g1, h4⟩ := cellsK_inv h1; clear h1
  rw [lenK_eq] at g1
  obtain ⟨hb, h1⟩ := bcase_none g1; clear g1
  have hb := Nat.eq_of_beq_eq_true hb
  obtain ⟨cs, hq, g1⟩ := rowK_inv h1; clear h1
  rw [layK_eq] at g1
  split at g1
  · rename_i hlt
    obtain ⟨H', h1, hN, hH⟩ := putH_inv g1
    refine ⟨_, _, h1, fun π w a hr ha => ?_⟩
    obtain ⟨l, hl, hp⟩ := conc_ptr (h2 π a (ha p (by simp [ho, Op.operands])))
    obtain ⟨hc, hf⟩ := conc_cells (h3 π a (ha x (by simp [ho, Op.operands]))) h4
    obtain ⟨w', h5, h6⟩ := hr.write (P := P) hq hl hc hf hlt hN hH
    refine ⟨π, w', .skip, undef, ?_, rfl, conc_undef π, h6⟩
    have hsz : (a.eval x).cells.size = n := by rw [← hb, ← concs_length hc]; simp
    simp only [execOp, ho, Instr.storeAt, hp, Instr.sureAddr, storeVar, Sem.run_bind, Sem.run_pure, Result.andThen_ok, run_size hn]
    rw [if_neg (by simp [hsz])]
    simp only [Result.andThen_ok, h5]
  · cases g1

theorem wMakeMap_sound {o : Oper} {ty : TypeId} (ho : o.op = .makeMap ty none) : WSound P o (wMakeMap : W R) := by
  intro t H k r h
  obtain ⟨H', h1, hN, hH⟩ := newH_inv h
  refine ⟨_, _, h1, fun π w a hr ha => ?_⟩
  obtain ⟨π', h2, h3⟩ := Post.newRegion0 (l := ⟨w.heap.size, 0, 0⟩) (ob := .map #[] 0) hr rfl hN hH rfl (show ORel π (.map [] 0) _ _ from ⟨trivial, rfl⟩)
  refine ⟨π', _, .value (.map (some w.heap.size)), _, ?_, rfl, by unfold conc; rw [h2], h3⟩
  simp [execOp, ho, Instr.makeMap]
theorem wMakeMapHint_sound {o : Oper} {ty e f : TypeId} {x : Operand} (ho : o.op = .makeMap ty (some x)) (hu : P.underlying ty = some (.map e f)) : WSound P o (wMakeMapHint x : W R) := by
  intro t H k r h
  obtain ⟨v, h1, h2⟩ := opK_inv (x := x) h
  obtain ⟨j, n, rfl, g1⟩ := numK_inv h1; clear h1
  obtain ⟨H', h1, hN, hH⟩ := newH_inv g1
  refine ⟨_, _, h1, fun π w a hr ha => ?_⟩
  have hx := conc_int (h2 π a (ha x (by simp [ho, Op.operands])))
  obtain ⟨π', h2, h3⟩ := Post.newRegion0 (l := ⟨w.heap.size, 0, 0⟩) (ob := .map #[] 0) hr rfl hN hH rfl (show ORel π (.map [] 0) _ _ from ⟨trivial, rfl⟩)
  refine ⟨π', _, .value (.map (some w.heap.size)), _, ?_, rfl, by unfold conc; rw [h2], h3⟩
  simp [execOp, ho, Instr.makeMap, run_underlying hu, hx, asInt, asIntOf]

theorem replK_eq (n : Nat) (z : List AV) (k : List AV → Option R) : replK n z k = k (repl n z) := by
  have key : ∀ n (l : List AV), (Nat.rec (motive := fun _ => List AV → Option R) (fun l => k l) (fun _ ih l => appK z l ih) n l : Option R) = k (repl n z ++ l) := by
    intro n
    induction n with
    | zero => intro l; rfl
    | succ n ih =>
      intro l
      show appK z l (fun l => (Nat.rec (motive := fun _ => List AV → Option R) (fun l => k l) (fun _ ih l => appK z l ih) n l : Option R)) = _
      rw [appK_eq, ih]
      have e : ∀ m, z ++ repl m z = repl m z ++ z := by
        intro m
        induction m with
        | zero => simp [repl]
        | succ m ihm => simp only [repl, List.append_assoc]; rw [← ihm]
      simp only [repl]
      rw [e n, List.append_assoc]
  have := key n []
  rw [List.append_nil] at this
  exact this

theorem run_newObj' (o : Obj) (w : World) : (newObj o).run P w = .ok w.heap.size (w.alloc o) := rfl
theorem run_askRoom (n : Nat) (w : World) : (askRoom n).run P w = .ok () w := by unfold askRoom; split <;> rfl
theorem wMakeSlice_sound {o : Oper} {ty e : TypeId} {x y : Operand} {m b : Nat} {z : AV} (ho : o.op = .makeSlice ty x y) (hu : P.underlying ty = some (.slice e)) (hm : sizeT P e = some (m + 1)) (hb : bytesT P e = some b) (hz : zeroT P e = some z)
    (hb2 : b ≤ 100000) (hl : z.cells.length = m + 1) (hf : AV.flats z.cells = true) : WSound P o (wMakeSlice z.cells x y : W R) := by
  intro t H k r h
  obtain ⟨zu, hz1, hz2⟩ := run_zero hz
  obtain ⟨v, h1, h2⟩ := opK_inv (x := x) h
  obtain ⟨j, n, rfl, g1⟩ := idxK_inv h1; clear h1
  obtain ⟨v, h1, h3⟩ := opK_inv (x := y) g1; clear g1
  obtain ⟨j', c, rfl, g1⟩ := idxK_inv h1; clear h1
  obtain ⟨hbc, h1⟩ := bcase_none g1; clear g1
  rw [Bool.and_eq_true, leB_le, leB_le] at hbc
  rw [replK_eq] at h1
  obtain ⟨H', g1, hN, hH⟩ := newH_inv h1; clear h1
  refine ⟨_, _, g1, fun π w a hr ha => ?_⟩
  have hx := conc_int (h2 π a (ha x (by simp [ho, Op.operands])))
  have hy := conc_int (h3 π a (ha y (by simp [ho, Op.operands])))
  have hc := conc_cells' (hz2 π) hf
  have hsz : zu.cells.size = m + 1 := by rw [← hl, ← concs_length hc]; simp
  have hcs := concs_repl hc c
  obtain ⟨π', h4, h5⟩ := Post.newRegion0 (l := ⟨w.heap.size, 0, _⟩) hr rfl hN hH rfl (ORel.fresh' (n := w.heap.size) (e := e) hcs (flats_repl hf c))
  refine ⟨π', _, .value (.slice (some ⟨w.heap.size, 0 + 0, none⟩) n c), _, ?_, rfl, conc_mk_ex h4 hbc.1, h5⟩
  have w1 : IntKind.i64.wrap (n : Int) = (n : Int) := by rw [IntKind.wrap_i64]; omega
  have w2 : IntKind.i64.wrap (c : Int) = (c : Int) := by rw [IntKind.wrap_i64]; omega
  unfold bytesT at hb
  cases hi : infoQ P e with
  | none => rw [hi] at hb; cases hb
  | some i =>
    rw [hi] at hb
    have hbi : i.bytes = b := by cases hb; rfl
    have hbig : ¬ ((b : Int) * (c : Int) > 2 ^ 48) := by
      have h1 : b * c ≤ 100000000000 := Nat.le_trans (Nat.mul_le_mul hb2 hbc.2) (by decide)
      have h2 : ((b * c : Nat) : Int) = (b : Int) * (c : Int) := Int.natCast_mul b c
      omega
    have hti : ∀ w, (typeInfo e).run P w = .ok i w := fun w => run_info (infoQ_some hi) w
    simp only [execOp, ho, Instr.makeSlice, Sem.run_bind, run_underlying hu, Result.andThen_ok, hx, hy, asInt, asIntOf, Sem.run_pure, hti, w1, w2, hbi]
    rw [if_neg (by rw [decide_eq_false (show ¬ (c : Int) < 0 by omega), decide_eq_false hbig, decide_eq_false (show ¬ (n : Int) < 0 by omega), decide_eq_false (show ¬ (n : Int) > (c : Int) by omega)]; decide)]
    simp only [Sem.run_bind, Result.andThen_ok, run_askRoom, run_size hm, Int.toNat_natCast]
    by_cases h0 : c * (m + 1) = 0
    · have e0 : ((Array.range (c * (m + 1))).map fun x => (#[] : Array Value)[x % (#[] : Array Value).size]!) = ((Array.range (c * (m + 1))).map fun i => zu.cells[i % (m + 1)]!) := by rw [h0]; simp
      rw [if_pos h0]
      simp only [Sem.run_bind, Sem.run_pure, Result.andThen_ok]
      rw [e0]
      simp only [newRow, Sem.run_bind, run_newObj', Result.andThen_ok, Sem.run_pure, hsz]
    · rw [if_neg h0]
      simp only [hz1, newRow, Sem.run_bind, run_newObj', Result.andThen_ok, Sem.run_pure, hsz]
end
end Go.Ev

set_option linter.unusedSectionVars false
namespace Go.Ev
section
variable [Sym]
variable {P : Program} {R : Type}

theorem freeze_alloc {w : World} {C : Array Value} {e : TypeId} (n : Nat) : (w.alloc (.cells C e)).freeze ⟨w.heap.size, n, none⟩ 1 = w.alloc (.cells C e (n, n + 1)) := by
  have hh : ((w.heap.push (.cells C e)).modify w.heap.size fun o => match o with
      | .cells c elem (lo, hi) => .cells c elem (if lo == hi then (n, n + 1) else (min lo n, max hi (n + 1)))
      | o => o) = w.heap.push (.cells C e (n, n + 1)) := by
    apply Array.ext
    · simp
    · intro i h1 h2
      simp only [Array.getElem_modify, Array.getElem_push]
      simp only [Array.size_push] at h2
      by_cases c : i < w.heap.size
      · rw [if_neg (by omega)]; simp [c]
      · have : i = w.heap.size := by omega
        subst this
        simp
  have e0 : (w.alloc (.cells C e)).freeze ⟨w.heap.size, n, none⟩ 1 = { (w.alloc (.cells C e)) with heap := (w.heap.push (.cells C e)).modify w.heap.size fun o => match o with
      | .cells c elem (lo, hi) => .cells c elem (if lo == hi then (n, n + 1) else (min lo n, max hi (n + 1)))
      | o => o } := rfl
  rw [e0, hh]
  rfl

theorem mapU8 (s : List Nat) (k : List AV → Option R) : mapK (fun b k => k (AV.int .u8 (Int.ofNat b))) s k = k (s.map fun b => AV.int .u8 (Int.ofNat b)) := mapK_map (fun b => AV.int .u8 (Int.ofNat b)) s k
theorem flats_bytes (s : List Nat) : AV.flats (s.map fun b => AV.int .u8 (Int.ofNat b)) = true := by
  rw [flats_iff]; intro v hv; obtain ⟨b, _, rfl⟩ := List.mem_map.1 hv; rfl
/-- A text's bytes as cells. -/
theorem cells_bytes {s : List Nat} (hs : small s = true) : (bytesV s).data.map (fun b => Value.int .u8 (b.toNat : Int)) = ((s.map Int.ofNat).map (Value.int .u8)).toArray := by
  unfold bytesV
  simp only [List.map_toArray, List.map_map]
  congr 1
  apply List.map_congr_left
  intro b hb
  have : b < 256 := by
    unfold small at hs; rw [List.all_eq_true] at hs; have := hs b hb; rwa [Nat.blt_eq] at this
  simp [UInt8.toNat_ofNat']
  omega

theorem wStr_sound {o : Oper} {s d e : TypeId} {x : Operand} (ho : o.op = .convert s d x) (hs : P.underlying s = some .string) (hd : P.underlying d = some (.slice e)) (he : P.underlying e = some (.int .u8)) : WSound P o (wStr x : W R) := by
  intro t H k r h
  obtain ⟨v, h1, h2⟩ := opK_inv (x := x) h
  obtain ⟨s, rfl, g1⟩ := strK_inv h1; clear h1
  rw [mapU8, lenK_eq] at g1
  obtain ⟨H', h1, hN, hH⟩ := newH_inv g1
  refine ⟨_, _, h1, fun π w a hr ha => ?_⟩
  obtain ⟨hsm, hx⟩ := conc_str (h2 π a (ha x (by simp [ho, Op.operands])))
  have hsz := bytesV_size s
  let q : Question := .appendCap s.length 0 e
  let cap := q.cut (w.tape w.drawn q)
  have hcap : s.length ≤ cap := Nat.le_add_right _ _
  let C : Array Value := (bytesV s).data.map (fun b => Value.int .u8 (b.toNat : Int)) ++ Array.replicate (cap - s.length) (Value.int .u8 0)
  have hC : C.size = cap := by
    have : (bytesV s).data.size = s.length := hsz
    simp [C, this]; omega
  have hrel : ORel π (.cells (s.map fun b => AV.int .u8 (Int.ofNat b))) ⟨w.heap.size, 0, cap⟩ (.cells C e (cap, cap + 1)) := by
    refine ⟨_, concs_bytes s, flats_bytes s, by simp [hC], by simp [hcap], fun i hi => ?_, fun i _ g h => by simp only at g h; omega⟩
    simp at hi
    show C[0 + i]? = _
    simp only [C, cells_bytes hsm, Nat.zero_add]
    rw [Array.getElem?_append_left (by simp; exact hi)]
    simp
  obtain ⟨π', h4, h5⟩ := Post.newRegion (n := w.drawn + 1) hr rfl hN hH rfl hrel
  have hcc : conc π' (.sl H.next 0 0 s.length (.un 1)) = some (.slice (some ⟨w.heap.size, 0, none⟩) s.length cap) := by
    rw [conc_mk_un h4 (by decide) (by simpa using hcap)]
    simp
  refine ⟨π', _, .value (.slice (some ⟨w.heap.size, 0, none⟩) s.length cap), _, ?_, rfl, hcc, h5⟩
  have hq : q.forced = false := rfl
  have hch : (choose q).run P w = .ok cap { w with drawn := w.drawn + 1 } := by rw [run_choose, hq]; rfl
  have hfz := freeze_alloc (w := { w with drawn := w.drawn + 1 }) (C := C) (e := e) cap
  have hsh : (({ w with drawn := w.drawn + 1 } : World).alloc (.cells C e)).shape? w.heap.size = some (e, C.size) := shape_of (fz := (0, 0)) alloc_at
  simp only [execOp, ho, convert, hx, Sem.run_bind, run_underlying hs, run_underlying hd, run_underlying he, Result.andThen_ok, Conv.stringToBytes, hsz, show (choose (.appendCap s.length 0 e)).run P w = _ from hch, newRow, run_newObj', Sem.run_pure, markStringish]
  rw [show ((shape w.heap.size).run P (({ w with drawn := w.drawn + 1 } : World).alloc (.cells C e))) = .ok (some (e, C.size)) (({ w with drawn := w.drawn + 1 } : World).alloc (.cells C e)) by rw [run_shape, hsh]]
  simp only [Result.andThen_ok, run_freeze, hC]
  rw [hfz]

/-! ### ranges -/
theorem wRangeStr_sound {o : Oper} {ty : TypeId} {x : Operand} (ho : o.op = .range ty x) (hu : P.underlying ty = some .string) : WSound P o (wRangeStr x : W R) := by
  intro t H k r h
  obtain ⟨v, h1, h2⟩ := opK_inv (x := x) h
  obtain ⟨s, rfl, g1⟩ := strK_inv h1; clear h1
  obtain ⟨H', h1, hN, hH⟩ := newH_inv g1
  refine ⟨_, _, h1, fun π w a hr ha => ?_⟩
  obtain ⟨hsm, hx⟩ := conc_str (h2 π a (ha x (by simp [ho, Op.operands])))
  obtain ⟨π', h4, h5⟩ := Post.newRegion0 (l := ⟨w.heap.size, 0, 0⟩) (ob := .stringIter (bytesV s) 0) hr rfl hN hH rfl (show ORel π (.strit s 0) _ _ from ⟨rfl, hsm, rfl, rfl⟩)
  refine ⟨π', _, .value (.pointer (some ⟨w.heap.size, 0 + 0, none⟩)), _, ?_, rfl, conc_mk_ptr h4, h5⟩
  simp only [execOp, ho, Instr.range, hx, Sem.run_bind, run_underlying hu, Result.andThen_ok, Sem.run_pure, run_newObj']

theorem wRangeMap_sound {o : Oper} {ty e f : TypeId} {x : Operand} (ho : o.op = .range ty x) (hu : P.underlying ty = some (.map e f)) : WSound P o (wRangeMap x : W R) := by
  intro t H k r h
  obtain ⟨v, h1, h2⟩ := opK_inv (x := x) h
  cases v <;> try (cases h1; done)
  case nilmap =>
    obtain ⟨H', g1, hN, hH⟩ := newH_inv (show newH H (.mapit none 0 [] 0) (fun r H' => k (.ptr r 0) H') = some r from h1)
    refine ⟨_, _, g1, fun π w a hr ha => ?_⟩
    have hx : a.eval x = .map none := (Option.some.inj (h2 π a (ha x (by simp [ho, Op.operands])))).symm
    obtain ⟨π', h4, h5⟩ := Post.newRegion0 (l := ⟨w.heap.size, 0, 0⟩) (ob := .mapIter none 0 #[] 0) hr rfl hN hH rfl (show ORel π (.mapit none 0 [] 0) _ _ from ⟨rfl, rfl, rfl, rfl, trivial⟩)
    refine ⟨π', _, .value (.pointer (some ⟨w.heap.size, 0 + 0, none⟩)), _, ?_, rfl, conc_mk_ptr h4, h5⟩
    simp only [execOp, ho, Instr.range, hx, Sem.run_bind, run_underlying hu, Result.andThen_ok, Sem.run_pure, run_newObj']
  case map m =>
    obtain ⟨es, c, hm, g1⟩ := mapObjK_inv (show mapObjK H m (fun _ c => newH H (.mapit (some m) c [] c) fun r H' => k (.ptr r 0) H') = some r from h1)
    obtain ⟨H', g2, hN, hH⟩ := newH_inv g1
    refine ⟨_, _, g2, fun π w a hr ha => ?_⟩
    obtain ⟨l, hl, hx⟩ := conc_map (h2 π a (ha x (by simp [ho, Op.operands])))
    obtain ⟨ms, hb, _⟩ := hr.map hm hl
    obtain ⟨π', h4, h5⟩ := Post.newRegion0 (l := ⟨w.heap.size, 0, 0⟩) (ob := .mapIter (some l.block) c #[] c) hr rfl hN hH rfl (show ORel π (.mapit (some m) c [] c) _ _ from ⟨rfl, rfl, rfl, rfl, l, hl, rfl⟩)
    refine ⟨π', _, .value (.pointer (some ⟨w.heap.size, 0 + 0, none⟩)), _, ?_, rfl, conc_mk_ptr h4, h5⟩
    have hg := run_getObj_of (P := P) hb (by simp)
    simp only [execOp, ho, Instr.range, hx, Sem.run_bind, run_underlying hu, Result.andThen_ok, Sem.run_pure, run_newObj', hg]

theorem wRange_sound {o : Oper} {ty : TypeId} {x : Operand} (ho : o.op = .range ty x) : WSound P o (wRange P ty x : W R) := by
  unfold wRange
  split
  · exact wRangeStr_sound ho (underQ_some (by assumption))
  · exact wRangeMap_sound ho (underQ_some (by assumption))
  · exact wNone_sound o

/-- An object that is no row, written. -/
theorem setObj_turned {w : World} {b : Nat} {ob ob' : Obj} (hb : w.heap[b]? = some ob) (hm : ∀ a e f, ob ≠ .cells a e f) : ∃ w', (setObj b ob').run P w = .ok () w' ∧ Turned w w' b ob' := by
  have hlt := (Array.getElem?_eq_some_iff.1 hb).1
  refine ⟨{ w with heap := w.heap.setIfInBounds b ob' }, ?_, ⟨rfl, rfl, rfl, by simp, by simp [hlt], fun k hk => by simp [Ne.symm hk]⟩⟩
  cases ob <;> first | exact absurd rfl (hm _ _ _) | simp [setObj, Sem.run, hb]

theorem conc_over (π : Pi) : conc π over = some (.tuple #[.bool false]) := conc_mk_tup (concs_one rfl)
theorem decode_ascii {s : List Nat} {p b : Nat} (hb : s[p]? = some b) (h : b < 128) : Utf8.decode (bytesV s) p = (b, 1) := by
  have hlt := (List.getElem?_eq_some_iff.1 hb).1
  have hg : ((bytesV s).get! (p + 0)).toNat = b := by
    show (((s.map UInt8.ofNat).toArray)[p + 0]!).toNat = b
    simp [hlt]
    rw [(List.getElem?_eq_some_iff.1 hb).2]
    omega
  unfold Utf8.decode
  simp only [hg]
  rw [if_pos h]

theorem wNextStr_sound {o : Oper} {x : Operand} (ho : o.op = .next x true) : WSound P o (wNextStr x : W R) := by
  intro t H k r h
  obtain ⟨v, h1, h2⟩ := opK_inv (x := x) h
  obtain ⟨q, ob, rfl, hq, g1⟩ := itK_inv h1; clear h1
  cases ob <;> try (cases g1; done)
  rename_i s p
  replace g1 : lenK s (fun n => Bool.casesOn (Nat.blt p n) (k over H) (nthK s p fun b => Bool.casesOn (Nat.blt b 128) none (natK (Nat.succ p) fun p' => putH H q (.strit s p') fun H' => k (.tup [.bool true, .int .i64 (Int.ofNat p), .int .i32 (Int.ofNat b)]) H'))) = some r := g1
  rw [lenK_eq] at g1
  rcases bcase_true g1 with ⟨hp, g1⟩ | ⟨hp, g1⟩
  · have hp' : ¬ p < s.length := fun h => by rw [← Nat.blt_eq, hp] at h; cases h
    refine ⟨_, _, g1, fun π w a hr ha => ?_⟩
    obtain ⟨l, hl, hx⟩ := conc_ptr (h2 π a (ha x (by simp [ho, Op.operands])))
    obtain ⟨ob, h4, h5⟩ := hr.obj q _ l hq hl
    cases ob <;> simp only [ORel] at h5
    obtain ⟨h6, hs, rfl, rfl⟩ := h5
    have hg := run_getObj_of (P := P) h4 (by simp)
    have hl0 : l.shift + 0 = 0 := by omega
    refine ⟨π, w, .value (.tuple #[.bool false]), _, ?_, rfl, conc_over π, Post.refl hr⟩
    simp only [execOp, ho, Instr.next, hx, hl0, Sem.run_bind, hg, Result.andThen_ok, bytesV_size, if_neg hp', Sem.run_pure]
  · rw [Nat.blt_eq] at hp
    rw [nthK_eq] at g1
    cases eb : s[p]? with
    | none => rw [eb] at g1; cases g1
    | some b =>
      rw [eb] at g1
      obtain ⟨hb, g2⟩ := bcase_none (show (Bool.casesOn (Nat.blt b 128) none (natK (Nat.succ p) fun p' => putH H q (.strit s p') fun H' => k (.tup [.bool true, .int .i64 (Int.ofNat p), .int .i32 (Int.ofNat b)]) H') : Option R) = some r from g1)
      rw [Nat.blt_eq] at hb
      rw [natK_eq] at g2
      obtain ⟨H', h1, hN, hH⟩ := putH_inv g2
      refine ⟨_, _, h1, fun π w a hr ha => ?_⟩
      obtain ⟨l, hl, hx⟩ := conc_ptr (h2 π a (ha x (by simp [ho, Op.operands])))
      obtain ⟨ob, h4, h5⟩ := hr.obj q _ l hq hl
      cases ob <;> simp only [ORel] at h5
      obtain ⟨h6, hs, rfl, rfl⟩ := h5
      have hg := run_getObj_of (P := P) h4 (by simp)
      have hl0 : l.shift + 0 = 0 := by omega
      obtain ⟨w', h7, h8⟩ := setObj_turned (P := P) (ob' := .stringIter (bytesV s) (p + 1)) h4 (by simp)
      refine ⟨π, w', .value (.tuple #[.bool true, goInt p, .int .i32 b]), _, ?_, rfl, ?_, Post.turned hr hq hl hN hH h8 ⟨h6, hs, rfl, rfl⟩⟩
      · simp only [execOp, ho, Instr.next, hx, hl0, Sem.run_bind, hg, Result.andThen_ok, bytesV_size, if_pos hp, decode_ascii eb hb, h7, Sem.run_pure]
      · exact conc_mk_tup (concs_mk rfl (concs_mk rfl (concs_one rfl)))

end
end Go.Ev
