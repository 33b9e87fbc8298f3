/- What the machine's operations come to, and the quiet ones. -/
import Derived.Test.YtglploknmdbigaaGreatDoorSa
import Derived.Test.YtglploknmdbigaaGreatDoorEb
import Derived.Laws.Sem
import Derived.Laws.Cells
import Derived.Laws.StructEq
import Derived.Laws.BitsAllLaws
import Derived.Laws.Bits64
import Derived.Laws.BitsLemmas
set_option linter.unusedSectionVars false
namespace Go.Ev
section
variable [Sym]
variable {P : Program} {R : Type}

theorem nthL_eq {α : Type} (l : List α) (i : Nat) : nthL l i = l[i]? := by
  induction l generalizing i with
  | nil => rfl
  | cons x xs ih => cases i with
    | zero => rfl
    | succ j => exact ih j

theorem infoQ_some {t : TypeId} {i : TypeInfo} (h : infoQ P t = some i) : P.info? t = some i := by
  unfold infoQ at h
  rw [nthL_eq, Array.getElem?_toList] at h
  have hlt := (Array.getElem?_eq_some_iff.1 h).1
  show Tables.info? P.toTables t = some i
  unfold Tables.info?
  rw [if_pos hlt]
  exact h
theorem underQ_some {t : TypeId} {d : TypeDesc} (h : underQ P t = some d) : P.underlying t = some d := by
  unfold underQ at h
  split at h
  · rename_i i hi
    have hi' := infoQ_some hi
    unfold Program.underlying
    split at h
    · rename_i n u hd
      split at h
      · rename_i j hj
        have hj' := infoQ_some hj
        obtain ⟨desc, i2, i3, i4, i5, i6, i7, i8, i9, i10⟩ := i
        simp only at hd
        subst hd
        rw [hi']
        simp only [hj', Option.map_some]
        exact h
      · cases h
    · rename_i hd
      rw [hi']
      obtain ⟨desc, i2, i3, i4, i5, i6, i7, i8, i9, i10⟩ := i
      cases desc <;> first | exact h | exact absurd rfl (hd _ _)
  · cases h

theorem run_info {t : TypeId} {i : TypeInfo} (h : P.info? t = some i) (w : World) : (typeInfo t).run P w = .ok i w := by simp [typeInfo, h]
theorem run_under {t : TypeId} {d : TypeDesc} (h : P.underlying t = some d) (w : World) : (underlying t).run P w = .ok d w := by simp [underlying, h]
theorem run_size {t : TypeId} {n : Nat} (h : sizeT P t = some n) (w : World) : (sizeOf t).run P w = .ok n w := by
  unfold sizeT at h
  split at h
  · rename_i i hi; cases h; simp [Go.sizeOf, run_info (infoQ_some hi)]
  · cases h
theorem run_isAgg {t : TypeId} {b : Bool} (h : isAggT P t = some b) (w : World) : (isAgg t).run P w = .ok b w := by
  unfold isAggT at h
  split at h
  · rename_i hu; cases h; simp [isAgg, run_under (underQ_some hu)]
  · rename_i hu; cases h; simp [isAgg, run_under (underQ_some hu)]
  · rename_i d hu1 hu2 hu; cases h
    simp only [isAgg, Sem.run_bind, run_under (underQ_some hu), Result.andThen_ok]
    cases d <;> first | rfl | exact absurd rfl (hu1 _) | exact absurd rfl (hu2 _ _)
  · cases h
theorem run_zero {t : TypeId} {z : AV} (h : zeroT P t = some z) : ∃ u, (∀ w, (zeroValue t).run P w = .ok u w) ∧ ∀ π, conc π z = some u := by
  unfold zeroT at h
  split at h
  · rename_i i hi
    split at h
    · rename_i u hu
      exact ⟨u, fun w => by simp [zeroValue, run_info (infoQ_some hi), hu], fun π => absV_conc h⟩
    · cases h
  · cases h

/-! ### operands -/
def EnvAt (π : Pi) (t : Env) (a : Act) (x : Operand) : Prop := ∀ i v, x = .tmp i → look t i = some v → ∃ u, a.tmps[i]? = some u ∧ conc π v = some u
theorem EnvRel.at_ {π : Pi} {t : Env} {a : Act} (h : EnvRel π t a.tmps) (x : Operand) : EnvAt π t a x := fun i v _ hv => h i v hv

theorem opK_inv {x : Operand} {t : Env} {k : AV → Option R} {r : R} (h : opK x t k = some r) :
    ∃ v, k v = some r ∧ ∀ π (a : Act), EnvAt π t a x → conc π v = some (a.eval x) := by
  cases x with
  | tmp i =>
    change getE t i k = some r at h
    rw [getE_eq] at h
    cases e : look t i with
    | none => rw [e] at h; cases h
    | some v =>
      rw [e] at h
      refine ⟨v, h, fun π a ha => ?_⟩
      obtain ⟨u, h1, h2⟩ := ha i v rfl e
      rw [h2]
      simp [Act.eval, h1]
  | const c =>
    change (Option.casesOn (absV c) none k : Option R) = some r at h
    cases e : absV c with
    | none => rw [e] at h; cases h
    | some v => rw [e] at h; exact ⟨v, h, fun π a _ => absV_conc e⟩
  | global g => cases h
  | func f => exact ⟨_, h, fun π a _ => rfl⟩

theorem opsK_inv : ∀ {l : List Operand} {t : Env} {k : List AV → Option R} {r : R}, opsK l t k = some r →
    ∃ vs, k vs = some r ∧ ∀ π (a : Act), (∀ x ∈ l, EnvAt π t a x) → concs π vs = some (l.map a.eval)
  | [], t, k, r, h => ⟨[], h, fun _ _ _ => rfl⟩
  | x :: l, t, k, r, h => by
    obtain ⟨v, h1, h2⟩ := opK_inv (show opK x t (fun v => opsK l t fun vs => k (v :: vs)) = some r from h)
    obtain ⟨vs, h3, h4⟩ := opsK_inv h1
    exact ⟨v :: vs, h3, fun π a ha => concs_mk (h2 π a (ha x (by simp))) (h4 π a fun y hy => ha y (by simp [hy]))⟩

theorem optIdx_inv {x : Option Operand} {t : Env} {k : Option Nat → Option R} {r : R} (h : optIdx x t k = some r) :
    ∃ n : Option Nat, k n = some r ∧ ∀ π (a : Act), (∀ y, x = some y → EnvAt π t a y) → (match x, n with
      | none, none => True
      | some y, some m => ∃ j, a.eval y = .int j (m : Int)
      | _, _ => False) := by
  cases x with
  | none => exact ⟨none, h, fun _ _ _ => trivial⟩
  | some y =>
    obtain ⟨v, h1, h2⟩ := opK_inv (show opK y t (fun v => idxK v fun n => k (some n)) = some r from h)
    obtain ⟨j, m, rfl, h3⟩ := idxK_inv h1
    refine ⟨some m, h3, fun π a ha => ⟨j, ?_⟩⟩
    exact (Option.some.inj (h2 π a (ha y rfl))).symm

/-! ### what a quiet operation owes -/
def QSound (P : Program) (o : Oper) (f : Q R) : Prop := ∀ t H k r, f t H k = some r → ∃ v, k v = some r ∧
  ∀ π w (a : Act), Rel π H w → (∀ x ∈ o.op.operands, EnvAt π t a x) → ∃ u, conc π v = some u ∧ (execOp a.eval o).run P w = .ok (.value u) w

theorem qNone_sound (o : Oper) : QSound P o (qNone : Q R) := fun _ _ _ _ h => by cases h

theorem qMove_sound {o : Oper} {x : Operand} (ho : o.op = .move x ∨ o.op = .assign x) : QSound P o (qMove x : Q R) := by
  intro t H k r h
  obtain ⟨v, h1, h2⟩ := opK_inv h
  refine ⟨v, h1, fun π w a _ ha => ⟨a.eval x, h2 π a (ha x ?_), ?_⟩⟩
  · rcases ho with ho | ho <;> simp [ho, Op.operands]
  · rcases ho with ho | ho <;> simp [execOp, ho]

theorem qPick_sound {o : Oper} {c x y : Operand} (ho : o.op = .pick c x y) : QSound P o (qPick c x y : Q R) := by
  intro t H k r h
  obtain ⟨v, h1, h2⟩ := opK_inv (x := c) h
  obtain ⟨b, rfl, h1⟩ := boolK_inv h1
  have hc : ∀ π a, EnvAt π t a c → a.eval c = .bool b := fun π a h => (Option.some.inj (h2 π a h)).symm
  rcases bcase_true h1 with ⟨rfl, h3⟩ | ⟨rfl, h3⟩
  · obtain ⟨v, h4, h5⟩ := opK_inv h3
    refine ⟨v, h4, fun π w a _ ha => ⟨_, h5 π a (ha y (by simp [ho, Op.operands])), ?_⟩⟩
    simp [execOp, ho, hc π a (ha c (by simp [ho, Op.operands])), asBool]
  · obtain ⟨v, h4, h5⟩ := opK_inv h3
    refine ⟨v, h4, fun π w a _ ha => ⟨_, h5 π a (ha x (by simp [ho, Op.operands])), ?_⟩⟩
    simp [execOp, ho, hc π a (ha c (by simp [ho, Op.operands])), asBool]

/-! ### memory that is read -/
theorem conc_ptr {π : Pi} {r o : Nat} {u : Value} (h : conc π (.ptr r o) = some u) : ∃ l, π r = some l ∧ u = .pointer (some ⟨l.block, l.shift + o, none⟩) := by
  unfold conc at h
  split at h
  · rename_i l hl; cases h; exact ⟨l, hl, rfl⟩
  · cases h

/-- A region's cells, in memory. -/
theorem Rel.cells {π : Pi} {H : Heap} {w : World} (h : Rel π H w) {r : Nat} {cs : List AV} {l : Loc} (hr : H.get r = some (.cells cs)) (hl : π r = some l) :
    ∃ arr e fz vs, w.heap[l.block]? = some (.cells arr e fz) ∧ concs π cs = some vs ∧ AV.flats cs = true ∧ l.shift + l.cap ≤ arr.size ∧ cs.length ≤ l.cap ∧ (∀ i, i < cs.length → arr[l.shift + i]? = vs[i]?) ∧ unf fz l.shift l.cap := by
  obtain ⟨ob, h1, h2⟩ := h.obj r _ l hr hl
  cases ob <;> simp only [ORel] at h2
  rename_i arr e fz
  obtain ⟨vs, h3⟩ := h2
  exact ⟨arr, e, fz, vs, h1, h3⟩

theorem cell_of {w : World} {b off : Nat} {arr : Array Value} {e : TypeId} {fz : Nat × Nat} (h : w.heap[b]? = some (.cells arr e fz)) : w.cell? ⟨b, off, none⟩ = arr[off]? := by
  simp [World.cell?, h]
theorem add_at (b off n : Nat) : (⟨b, off, none⟩ : Addr).add n = ⟨b, off + n, none⟩ := by
  unfold Addr.add
  split
  · rename_i h; subst h; rfl
  · rfl

theorem Rel.cell {π : Pi} {H : Heap} {w : World} (h : Rel π H w) {r i : Nat} {cs : List AV} {l : Loc} {v : AV} (hr : H.get r = some (.cells cs)) (hl : π r = some l) (hv : cs[i]? = some v) :
    ∃ u, w.cell? ⟨l.block, l.shift + i, none⟩ = some u ∧ conc π v = some u := by
  obtain ⟨arr, e, fz, vs, h1, h2, _, _, _, h6, _⟩ := h.cells hr hl
  obtain ⟨u, h7, h8⟩ := concs_get h2 hv
  refine ⟨u, ?_, h8⟩
  rw [cell_of h1, h6 i (List.getElem?_eq_some_iff.1 hv).1, h7]

theorem Rel.slots {π : Pi} {H : Heap} {w : World} (h : Rel π H w) {r off n : Nat} {cs : List AV} {l : Loc} (hr : H.get r = some (.cells cs)) (hl : π r = some l) (hn : off + n ≤ cs.length) :
    ∃ us, concs π ((cs.drop off).take n) = some us ∧ AV.flats ((cs.drop off).take n) = true ∧ us.length = n ∧ (loadCells ⟨l.block, l.shift + off, none⟩ n).run P w = .ok us.toArray w := by
  obtain ⟨arr, e, fz, vs, h1, h2, h3, _, _, h6, _⟩ := h.cells hr hl
  have hlen := concs_length h2
  have hd := concs_take n (concs_drop off h2)
  refine ⟨_, hd, flats_take _ (flats_drop _ h3), by simp; omega, ?_⟩
  have hl' : ((vs.drop off).take n).length = n := by simp; omega
  have := run_loadCells_list (P := P) w ⟨l.block, l.shift + off, none⟩ ((vs.drop off).take n) (fun j u hu => by
    rw [add_at, cell_of h1]
    rw [List.getElem?_take] at hu
    split at hu
    · rename_i hj
      rw [List.getElem?_drop] at hu
      rw [Nat.add_assoc, h6 (off + j) (by omega)]
      exact hu
    · cases hu)
  rw [hl'] at this
  exact this

theorem qLoad1_sound {o : Oper} {ty : TypeId} {x : Operand} (ho : o.op = .load ty x) (hA : isAggT P ty = some false) : QSound P o (qLoad1 x : Q R) := by
  intro t H k r h
  obtain ⟨v, h1, h2⟩ := opK_inv (x := x) h
  obtain ⟨q, off, rfl, h1⟩ := ptrK_inv h1
  obtain ⟨cs, hq, h1⟩ := rowK_inv h1
  rw [nthK_eq] at h1
  cases e : cs[off]? with
  | none => rw [e] at h1; cases h1
  | some v =>
    rw [e] at h1
    refine ⟨v, h1, fun π w a hr ha => ?_⟩
    obtain ⟨l, hl, hx⟩ := conc_ptr (h2 π a (ha x (by simp [ho, Op.operands])))
    obtain ⟨u, h3, h4⟩ := hr.cell hq hl e
    refine ⟨u, h4, ?_⟩
    simp [execOp, ho, Instr.loadAt, Instr.sureAddr, hx, loadVar, run_isAgg hA, h3]

theorem qLoadN_sound {o : Oper} {ty : TypeId} {n : Nat} {x : Operand} (ho : o.op = .load ty x) (hA : isAggT P ty = some true) (hn : sizeT P ty = some n) : QSound P o (qLoadN n x : Q R) := by
  intro t H k r h
  obtain ⟨v, h1, h2⟩ := opK_inv (x := x) h
  obtain ⟨q, off, rfl, h1⟩ := ptrK_inv h1
  obtain ⟨cs, hq, h1⟩ := rowK_inv h1
  rw [slotsK_eq] at h1
  split at h1
  · rename_i hlt
    refine ⟨_, h1, fun π w a hr ha => ?_⟩
    obtain ⟨l, hl, hx⟩ := conc_ptr (h2 π a (ha x (by simp [ho, Op.operands])))
    obtain ⟨us, h3, h4, h5, h6⟩ := hr.slots (P := P) hq hl hlt
    refine ⟨.agg us.toArray, by unfold conc; rw [if_pos h4, h3], ?_⟩
    simp [execOp, ho, Instr.loadAt, Instr.sureAddr, hx, loadVar, run_isAgg hA, run_size hn, h6]
  · cases h1

theorem qLoad_sound {o : Oper} {ty : TypeId} {x : Operand} (ho : o.op = .load ty x) : QSound P o (qLoad P ty x : Q R) := by
  unfold qLoad
  split
  · rename_i h1 h2; exact qLoadN_sound ho h1 h2
  · rename_i h1; exact qLoad1_sound ho h1
  · exact qNone_sound o

theorem qNilCheck_sound {o : Oper} {x : Operand} (ho : o.op = .nilCheck x) : QSound P o (qNilCheck x : Q R) := by
  intro t H k r h
  obtain ⟨v, h1, h2⟩ := opK_inv (x := x) h
  have hk : k v = some r := by cases v <;> first | exact h1 | cases h1
  refine ⟨v, hk, fun π w a _ ha => ?_⟩
  have hv := h2 π a (ha x (by simp [ho, Op.operands]))
  refine ⟨_, hv, ?_⟩
  simp only [execOp, ho]
  cases v <;> first
    | (cases h1; done)
    | (unfold conc at hv
       repeat' split at hv
       all_goals first
         | (cases hv; done)
         | (have hv' := Option.some.inj hv; rw [← hv']; rfl))

end
end Go.Ev

set_option linter.unusedSectionVars false
namespace Go.Ev
section
variable [Sym]
variable {P : Program} {R : Type}

theorem conc_int {π : Pi} {j : IntKind} {n : Int} {u : Value} (h : conc π (.int j n) = some u) : u = .int j n := (Option.some.inj h).symm
theorem conc_bool {π : Pi} {b : Bool} {u : Value} (h : conc π (.bool b) = some u) : u = .bool b := (Option.some.inj h).symm
theorem conc_str {π : Pi} {s : List Nat} {u : Value} (h : conc π (.str s) = some u) : small s = true ∧ u = .string (bytesV s) := by
  unfold conc at h
  split at h
  · rename_i hs; cases h; exact ⟨hs, rfl⟩
  · cases h
theorem conc_agg {π : Pi} {l : List AV} {u : Value} (h : conc π (.agg l) = some u) : ∃ us, concs π l = some us ∧ AV.flats l = true ∧ u = .agg us.toArray := by
  unfold conc at h
  split at h
  · rename_i hf
    split at h
    · rename_i x hx; cases h; exact ⟨x, hx, hf, rfl⟩
    · cases h
  · cases h
theorem conc_tup {π : Pi} {l : List AV} {u : Value} (h : conc π (.tup l) = some u) : ∃ us, concs π l = some us ∧ u = .tuple us.toArray := by
  unfold conc at h
  split at h
  · rename_i x hx; cases h; exact ⟨x, hx, rfl⟩
  · cases h
theorem conc_mk_agg {π : Pi} {l : List AV} {us : List Value} (h : concs π l = some us) (hf : AV.flats l = true) : conc π (.agg l) = some (.agg us.toArray) := by
  unfold conc; rw [if_pos hf, h]
theorem conc_mk_tup {π : Pi} {l : List AV} {us : List Value} (h : concs π l = some us) : conc π (.tup l) = some (.tuple us.toArray) := by
  unfold conc; rw [h]
theorem conc_mk_str {π : Pi} {s : List Nat} (h : small s = true) : conc π (.str s) = some (.string (bytesV s)) := by
  unfold conc; rw [if_pos h]
theorem conc_mk_ptr {π : Pi} {r o : Nat} {l : Loc} (h : π r = some l) : conc π (.ptr r o) = some (.pointer (some ⟨l.block, l.shift + o, none⟩)) := by
  unfold conc; rw [h]

/-! ### places -/
theorem field_get {fs : Array Field} {i : Nat} {f : Field} (h : fs.toList[i]? = some f) : fs[i]? = some f := by rw [← Array.getElem?_toList]; exact h

theorem qFieldAddr_sound {o : Oper} {ty : TypeId} {x : Operand} {i : Nat} (ho : o.op = .fieldAddr ty x i) : QSound P o (qFieldAddrT P ty x i : Q R) := by
  unfold qFieldAddrT
  split
  · rename_i fs hu
    split
    · rename_i f hf
      split
      · rename_i m hs
        intro t H k r h
        obtain ⟨v, h1, h2⟩ := opK_inv (x := x) h
        obtain ⟨q, off, rfl, g1⟩ := ptrK_inv h1; clear h1; have h1 := g1; clear g1
        rw [natK_eq] at h1
        refine ⟨_, h1, fun π w a _ ha => ?_⟩
        obtain ⟨l, hl, hx⟩ := conc_ptr (h2 π a (ha x (by simp [ho, Op.operands])))
        refine ⟨_, conc_mk_ptr hl, ?_⟩
        simp [execOp, ho, Instr.fieldAt, run_under (underQ_some hu), field_get hf, hx, Instr.sureAddr, fieldPlace, run_size hs, add_at]
        rw [Nat.add_assoc]
      · exact qNone_sound o
    · exact qNone_sound o
  · exact qNone_sound o

/-- A part of an aggregate's cells. -/
def PartOk (P : Program) (t : TypeId) (off : Nat) (p : List AV → (AV → Option R) → Option R) : Prop := ∀ cs k r, p cs k = some r → ∃ v, k v = some r ∧
  ∀ π us, concs π cs = some us → AV.flats cs = true → ∃ u, conc π v = some u ∧ ∀ w, (part t us.toArray off).run P w = .ok u w

theorem partK_ok (t : TypeId) (off : Nat) : PartOk (R := R) P t off (partK P t off) := by
  unfold partK
  split
  · rename_i n hA hn
    intro cs k r h
    unfold partAgg at h
    rw [slotsK_eq] at h
    split at h
    · rename_i hlt
      refine ⟨_, h, fun π us hc hf => ⟨_, conc_mk_agg (concs_take n (concs_drop off hc)) (flats_take _ (flats_drop _ hf)), fun w => ?_⟩⟩
      simp only [part, Sem.run_bind, run_isAgg hA, Result.andThen_ok, if_true, Sem.run_pure, run_size hn]
      simp only [List.extract_toArray, List.extract_eq_take_drop]
      congr 5; omega
    · cases h
  · rename_i hA
    intro cs k r h
    unfold partOne at h
    rw [nthK_eq] at h
    cases e : cs[off]? with
    | none => rw [e] at h; cases h
    | some v =>
      rw [e] at h
      refine ⟨v, h, fun π us hc _ => ?_⟩
      obtain ⟨u, h1, h2⟩ := concs_get hc e
      refine ⟨u, h2, fun w => ?_⟩
      simp [part, run_isAgg hA, h1]
  · intro cs k r h; cases h

theorem qField_sound {o : Oper} {ty : TypeId} {x : Operand} {i : Nat} (ho : o.op = .field ty x i) : QSound P o (qFieldT P ty x i : Q R) := by
  unfold qFieldT
  split
  · rename_i fs hu
    split
    · rename_i f hf
      intro t H k r h
      obtain ⟨v, h1, h2⟩ := opK_inv (x := x) h
      obtain ⟨cs, rfl, g1⟩ := aggK_inv h1; clear h1; have h1 := g1; clear g1
      obtain ⟨v, h3, h4⟩ := partK_ok f.type f.offset _ _ _ h1
      refine ⟨v, h3, fun π w a _ ha => ?_⟩
      obtain ⟨us, h5, h6, h7⟩ := conc_agg (h2 π a (ha x (by simp [ho, Op.operands])))
      obtain ⟨u, h8, h9⟩ := h4 π us h5 h6
      refine ⟨u, h8, ?_⟩
      simp [execOp, ho, Instr.field, run_under (underQ_some hu), field_get hf, h7, asAgg, h9]
    · exact qNone_sound o
  · exact qNone_sound o

theorem qIndexAddrArr_sound {o : Oper} {ty e : TypeId} {len n : Nat} {x i : Operand} (ho : o.op = .indexAddr ty x i) (hu : underQ P ty = some (.array len e)) (hn : sizeT P e = some n) : QSound P o (qIndexAddrArr len n x i : Q R) := by
  intro t H k r h
  obtain ⟨v, h1, h2⟩ := opK_inv (x := x) h
  obtain ⟨u, h1, h3⟩ := opK_inv (x := i) h1
  obtain ⟨q, off, rfl, g1⟩ := ptrK_inv h1; clear h1; have h1 := g1; clear g1
  obtain ⟨j, m, rfl, g1⟩ := idxK_inv h1; clear h1; have h1 := g1; clear g1
  obtain ⟨hlt, h1⟩ := bcase_none h1
  rw [Nat.blt_eq] at hlt
  rw [natK_eq] at h1
  refine ⟨_, h1, fun π w a _ ha => ?_⟩
  obtain ⟨l, hl, hx⟩ := conc_ptr (h2 π a (ha x (by simp [ho, Op.operands])))
  have hi := conc_int (h3 π a (ha i (by simp [ho, Op.operands])))
  refine ⟨_, conc_mk_ptr hl, ?_⟩
  simp [execOp, ho, Instr.indexAt, hi, asIntOf, run_under (underQ_some hu), hx, Instr.sureAddr, run_size hn, add_at, hlt]
  rw [Nat.add_assoc]

theorem conc_sl {π : Pi} {r o a n : Nat} {c : SCap} {u : Value} (h : conc π (.sl r o a n c) = some u) : ∃ l off cap, π r = some l ∧ u = .slice (some ⟨l.block, l.shift + off, none⟩) n cap ∧ n ≤ cap ∧ (0 < cap → off = o) := by
  unfold conc at h
  split at h
  · rename_i l hl
    split at h
    · split at h
      · rename_i hc; cases h; exact ⟨l, o, _, hl, rfl, hc, fun _ => rfl⟩
      · cases h
    · rename_i e
      split at h
      · rename_i hc; cases h
        refine ⟨l, _, _, hl, rfl, ?_, fun hp => by rw [if_neg (by omega)]⟩
        rw [Nat.le_div_iff_mul_le hc.1]; omega
      · cases h
    · split at h
      · rename_i hn; cases h; subst hn; exact ⟨l, _, 0, hl, rfl, Nat.le_refl _, fun h => absurd h (by omega)⟩
      · cases h
  · cases h

theorem slK_inv {v : AV} {k : Nat → Nat → Nat → Nat → SCap → Option R} {x : R} (h : slK v k = some x) : ∃ r o a n c, v = .sl r o a n c ∧ k r o a n c = some x := by
  cases v <;> simp only [slK] at h <;> first | exact ⟨_, _, _, _, _, rfl, h⟩ | cases h

theorem qIndexAddrSl_sound {o : Oper} {ty e : TypeId} {n : Nat} {x i : Operand} (ho : o.op = .indexAddr ty x i) (hu : underQ P ty = some (.slice e)) (hn : sizeT P e = some n) : QSound P o (qIndexAddrSl n x i : Q R) := by
  intro t H k r h
  obtain ⟨v, h1, h2⟩ := opK_inv (x := x) h
  obtain ⟨u, h1, h3⟩ := opK_inv (x := i) h1
  obtain ⟨q, off, al, len, c, rfl, g1⟩ := slK_inv h1; clear h1; have h1 := g1; clear g1
  obtain ⟨j, m, rfl, g1⟩ := idxK_inv h1; clear h1; have h1 := g1; clear g1
  obtain ⟨hlt, h1⟩ := bcase_none h1
  rw [Nat.blt_eq] at hlt
  rw [natK_eq] at h1
  refine ⟨_, h1, fun π w a _ ha => ?_⟩
  obtain ⟨l, off', cap, hl, hx, hcap, hoff⟩ := conc_sl (h2 π a (ha x (by simp [ho, Op.operands])))
  have e := hoff (by omega)
  subst e
  have hi := conc_int (h3 π a (ha i (by simp [ho, Op.operands])))
  refine ⟨_, conc_mk_ptr hl, ?_⟩
  simp [execOp, ho, Instr.indexAt, hi, asIntOf, run_under (underQ_some hu), hx, run_size hn, add_at, hlt]
  rw [Nat.add_assoc]

theorem qIndexAddr_sound {o : Oper} {ty : TypeId} {x i : Operand} (ho : o.op = .indexAddr ty x i) : QSound P o (qIndexAddr P ty x i : Q R) := by
  unfold qIndexAddr
  split
  · split
    · exact qIndexAddrArr_sound ho (by assumption) (by assumption)
    · exact qNone_sound o
  · split
    · exact qIndexAddrSl_sound ho (by assumption) (by assumption)
    · exact qNone_sound o
  · exact qNone_sound o

theorem small_get {s : List Nat} {j b : Nat} (h : small s = true) (hb : s[j]? = some b) : b < 256 := by
  unfold small at h
  rw [List.all_eq_true] at h
  have := h b (List.mem_of_getElem? hb)
  rwa [Nat.blt_eq] at this

theorem qIndexStr_sound {o : Oper} {ty : TypeId} {x i : Operand} (ho : o.op = .index ty x i) (hu : underQ P ty = some .string) : QSound P o (qIndexStr x i : Q R) := by
  intro t H k r h
  obtain ⟨v, h1, h2⟩ := opK_inv (x := x) h
  obtain ⟨u, h1, h3⟩ := opK_inv (x := i) h1
  obtain ⟨s, rfl, g1⟩ := strK_inv h1; clear h1; have h1 := g1; clear g1
  obtain ⟨j, m, rfl, g1⟩ := idxK_inv h1; clear h1; have h1 := g1; clear g1
  rw [nthK_eq] at h1
  cases e : s[m]? with
  | none => rw [e] at h1; cases h1
  | some b =>
    rw [e] at h1
    refine ⟨_, h1, fun π w a _ ha => ?_⟩
    obtain ⟨hs, hx⟩ := conc_str (h2 π a (ha x (by simp [ho, Op.operands])))
    have hi := conc_int (h3 π a (ha i (by simp [ho, Op.operands])))
    refine ⟨_, rfl, ?_⟩
    have hb := small_get hs e
    have hget : (bytesV s)[m]? = some (UInt8.ofNat b) := by
      show (if h : m < (bytesV s).size then some ((bytesV s)[m]) else none) = _
      have hlt := (List.getElem?_eq_some_iff.1 e).1
      have hsz : (bytesV s).size = s.length := by simp [bytesV, ByteArray.size]
      rw [dif_pos (by omega)]
      congr 1
      show ((s.map UInt8.ofNat).toArray)[m]'(by simpa using hlt) = _
      simp only [List.getElem_toArray, List.getElem_map]
      rw [(List.getElem?_eq_some_iff.1 e).2]
    have hn : (UInt8.ofNat b).toNat = b := by simp [UInt8.toNat_ofNat']; omega
    simp [execOp, ho, Instr.index, hi, asIntOf, run_under (underQ_some hu), hx, hget, hn]

theorem qIndexArr_sound {o : Oper} {ty e : TypeId} {len n : Nat} {b : Bool} {x i : Operand} (ho : o.op = .index ty x i) (hu : underQ P ty = some (.array len e)) (hn : sizeT P e = some n) (hA : isAggT P e = some b) : QSound P o (qIndexArr len n b x i : Q R) := by
  intro t H k r h
  obtain ⟨v, h1, h2⟩ := opK_inv (x := x) h
  obtain ⟨u, h1, h3⟩ := opK_inv (x := i) h1
  obtain ⟨cs, rfl, g1⟩ := aggK_inv h1; clear h1; have h1 := g1; clear g1
  obtain ⟨j, m, rfl, g1⟩ := idxK_inv h1; clear h1; have h1 := g1; clear g1
  obtain ⟨hlt, h1⟩ := bcase_none h1
  rw [Nat.blt_eq] at hlt
  have hp : partK P e (m * n) cs k = some r := by
    unfold partK
    rcases bcase_true h1 with ⟨rfl, h4⟩ | ⟨rfl, h4⟩
    · rw [hA]; exact h4
    · rw [hA, hn]; exact h4
  obtain ⟨v, h4, h5⟩ := partK_ok e (m * n) _ _ _ hp
  refine ⟨v, h4, fun π w a _ ha => ?_⟩
  obtain ⟨us, h6, h7, h8⟩ := conc_agg (h2 π a (ha x (by simp [ho, Op.operands])))
  have hi := conc_int (h3 π a (ha i (by simp [ho, Op.operands])))
  obtain ⟨u, h9, h10⟩ := h5 π us h6 h7
  refine ⟨u, h9, ?_⟩
  simp [execOp, ho, Instr.index, hi, asIntOf, run_under (underQ_some hu), h8, run_size hn, hlt, h10]

theorem qIndex_sound {o : Oper} {ty : TypeId} {x i : Operand} (ho : o.op = .index ty x i) : QSound P o (qIndex P ty x i : Q R) := by
  unfold qIndex
  split
  · exact qIndexStr_sound ho (by assumption)
  · split
    · exact qIndexArr_sound ho (by assumption) (by assumption) (by assumption)
    · exact qNone_sound o
  · exact qNone_sound o

/-! ### numbers -/
theorem wrapU_eq (b : Nat) (hb : 0 < b) (n : Int) : wrapU b n = n % (b : Int) := by
  cases n with
  | ofNat m => rfl
  | negSucc m =>
    have h := Nat.mod_lt m hb
    show (((b - (m % b + 1)) : Nat) : Int) = _
    rw [Int.negSucc_emod _ (by omega)]
    omega
theorem wrap63_eq (n : Int) : wrap63 n = IntKind.i64.wrap n := by
  cases n with
  | ofNat m =>
    show (Bool.casesOn (Nat.blt m 9223372036854775808) (IntKind.i64.wrap (Int.ofNat m)) (Int.ofNat m) : Int) = _
    cases hb : Nat.blt m 9223372036854775808 with
    | false => rfl
    | true =>
      rw [Nat.blt_eq] at hb
      show Int.ofNat m = _
      rw [IntKind.wrap_i64, Int.ofNat_eq_natCast]
      omega
  | negSucc m =>
    show (Bool.casesOn (Nat.blt m 9223372036854775808) (IntKind.i64.wrap (Int.negSucc m)) (Int.negSucc m) : Int) = _
    cases hb : Nat.blt m 9223372036854775808 with
    | false => rfl
    | true =>
      rw [Nat.blt_eq] at hb
      show Int.negSucc m = _
      rw [IntKind.wrap_i64, Int.negSucc_eq]
      omega
theorem wrapF_eq (k : IntKind) (n : Int) : wrapF k n = k.wrap n := by
  cases k
  · rfl
  · rfl
  · rfl
  · exact wrap63_eq n
  · rw [IntKind.wrap_u8]; exact wrapU_eq 256 (by decide) n
  · rw [IntKind.wrap_u16]; exact wrapU_eq 65536 (by decide) n
  · rw [IntKind.wrap_u32]; exact wrapU_eq 4294967296 (by decide) n
  · rw [IntKind.wrap_u64]; exact wrapU_eq 18446744073709551616 (by decide) n

abbrev NumF (R : Type) := IntKind → Int → Int → (AV → Option R) → Option R
/-- What an operation of two numbers owes. -/
def NumOk (P : Program) (op : BinOp) (f : NumF R) : Prop := ∀ j m n k r, f j m n k = some r → ∃ v u, k v = some r ∧ (∀ π, conc π v = some u) ∧ ∀ ty w, (binOp op ty (.int j m) (.int j n)).run P w = .ok u w

theorem retI_ok {op : BinOp} {f : NumF R} (g : IntKind → Int → Int → Int) (hf : ∀ j m n k, f j m n k = retI j (g j m n) k) (h : ∀ j m n ty w, (binOp op ty (.int j m) (.int j n)).run P w = .ok (.int j (g j m n)) w) : NumOk P op f :=
  fun j m n k r hr => by rw [hf, retI_eq] at hr; exact ⟨_, _, hr, fun _ => rfl, h j m n⟩
theorem retB_ok {op : BinOp} {f : NumF R} (g : Int → Int → Bool) (hf : ∀ j m n k, f j m n k = retB (g m n) k) (h : ∀ j m n ty w, (binOp op ty (.int j m) (.int j n)).run P w = .ok (.bool (g m n)) w) : NumOk P op f :=
  fun j m n k r hr => by rw [hf, retB_eq] at hr; exact ⟨_, _, hr, fun _ => rfl, h j m n⟩

theorem nNone_ok (op : BinOp) : NumOk P op (nNone : NumF R) := fun _ _ _ _ _ h => by cases h

theorem numOp_ok (op : BinOp) : NumOk P op (numOp op : NumF R) := by
  cases op
  case add => exact retI_ok (fun j m n => j.wrap (m + n)) (fun j m n k => by show retI j (wrapF j (m + n)) k = _; rw [wrapF_eq]) (fun j m n ty w => by simp [binOp, Op.intArith])
  case sub => exact retI_ok (fun j m n => j.wrap (m - n)) (fun j m n k => by show retI j (wrapF j (m - n)) k = _; rw [wrapF_eq]) (fun j m n ty w => by simp [binOp, Op.intArith])
  case mul => exact retI_ok (fun j m n => j.wrap (m * n)) (fun j m n k => by show retI j (wrapF j (m * n)) k = _; rw [wrapF_eq]) (fun j m n ty w => by simp [binOp, Op.intArith])
  case quo =>
    intro j m n k r h
    rcases bcase_true (show (Bool.casesOn (intEq n 0) (retI j (wrapF j (m.tdiv n)) k) none : Option R) = some r from h) with ⟨h0, h1⟩ | ⟨_, h1⟩
    · rw [intEq_eq] at h0
      rw [wrapF_eq, retI_eq] at h1
      have hn : n ≠ 0 := by intro e; subst e; simp at h0
      exact ⟨_, _, h1, fun _ => rfl, fun ty w => by simp [binOp, Op.intDiv, hn]⟩
    · cases h1
  case rem =>
    intro j m n k r h
    rcases bcase_true (show (Bool.casesOn (intEq n 0) (retI j (m.tmod n) k) none : Option R) = some r from h) with ⟨h0, h1⟩ | ⟨_, h1⟩
    · rw [intEq_eq] at h0
      rw [retI_eq] at h1
      have hn : n ≠ 0 := by intro e; subst e; simp at h0
      exact ⟨_, _, h1, fun _ => rfl, fun ty w => by simp [binOp, Op.intDiv, hn]⟩
    · cases h1
  case and => exact retI_ok andG (fun j m n k => rfl) (fun j m n ty w => by simp [binOp, Op.intBits, andG])
  case or => exact retI_ok orG (fun j m n k => rfl) (fun j m n ty w => by simp [binOp, Op.intBits, orG])
  case xor => exact retI_ok xorG (fun j m n k => rfl) (fun j m n ty w => by simp [binOp, Op.intBits, xorG])
  case shl => exact nNone_ok _
  case shr => exact nNone_ok _
  case andNot => exact nNone_ok _
  case eql => exact retB_ok (fun m n => m == n) (fun j m n k => by show retB (intEq m n) k = _; rw [intEq_eq]) (fun j m n ty w => by simp [binOp, Op.intCmp])
  case neq => exact retB_ok (fun m n => m != n) (fun j m n k => by show retB (notB (intEq m n)) k = _; rw [intEq_eq, notB_eq]; rfl) (fun j m n ty w => by simp [binOp, Op.intCmp])
  case lss => exact retB_ok (fun m n => decide (m < n)) (fun j m n k => by show retB (intLt m n) k = _; rw [intLt_eq]) (fun j m n ty w => by simp [binOp, Op.intCmp])
  case leq => exact retB_ok (fun m n => decide (m ≤ n)) (fun j m n k => by show retB (notB (intLt n m)) k = _; rw [intLt_eq, notB_eq, ← decide_not]; simp) (fun j m n ty w => by simp [binOp, Op.intCmp])
  case gtr => exact retB_ok (fun m n => decide (m > n)) (fun j m n k => by show retB (intLt n m) k = _; rw [intLt_eq]) (fun j m n ty w => by simp [binOp, Op.intCmp])
  case geq => exact retB_ok (fun m n => decide (m ≥ n)) (fun j m n k => by show retB (notB (intLt m n)) k = _; rw [intLt_eq, notB_eq, ← decide_not]; simp) (fun j m n ty w => by simp [binOp, Op.intCmp])

end
end Go.Ev
