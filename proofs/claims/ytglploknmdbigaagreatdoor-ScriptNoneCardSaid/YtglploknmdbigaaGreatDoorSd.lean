/- The quiet operations: conversions, parts, lengths, aggregates. -/
import Derived.Test.YtglploknmdbigaaGreatDoorSc
set_option linter.unusedSectionVars false
namespace Go.Ev
section
variable [Sym]
variable {P : Program} {R : Type}

theorem qConvInt_sound {o : Oper} {s d : TypeId} {j : IntKind} {x : Operand} (ho : o.op = .convert s d x) (hs : ∃ e, P.underlying s = some e) (hd : P.underlying d = some (.int j)) : QSound P o (qConvInt j x : Q R) := by
  obtain ⟨e, hs⟩ := hs
  intro t H k r h
  obtain ⟨v, h1, h2⟩ := opK_inv (x := x) h
  obtain ⟨i, n, rfl, g1⟩ := numK_inv h1; clear h1; have h1 := g1; clear g1
  rw [wrapF_eq, retI_eq] at h1
  refine ⟨_, h1, fun π w a _ ha => ⟨_, rfl, ?_⟩⟩
  have hx := conc_int (h2 π a (ha x (by simp [ho, Op.operands])))
  simp [execOp, ho, hx, convert, run_underlying hs, run_underlying hd, Conv.intToInt]

theorem qIsStr_sound {o : Oper} {s d : TypeId} {x : Operand} (ho : o.op = .convert s d x) (hs : P.underlying s = some .string) (hd : P.underlying d = some .string) : QSound P o (qIsStr x : Q R) := by
  intro t H k r h
  obtain ⟨v, h1, h2⟩ := opK_inv (x := x) h
  obtain ⟨n, rfl, g1⟩ := strK_inv h1; clear h1; have h1 := g1; clear g1
  refine ⟨_, h1, fun π w a _ ha => ?_⟩
  obtain ⟨hn, hx⟩ := conc_str (h2 π a (ha x (by simp [ho, Op.operands])))
  refine ⟨_, conc_mk_str hn, ?_⟩
  simp [execOp, ho, hx, convert, run_underlying hs, run_underlying hd]

theorem run_shape (r : Nat) (w : World) : (shape r).run P w = .ok (w.shape? r) w := rfl
theorem shape_of {w : World} {r : Nat} {arr : Array Value} {e : TypeId} {fz : Nat × Nat} (h : w.heap[r]? = some (.cells arr e fz)) : w.shape? r = some (e, arr.size) := by
  simp [World.shape?, h]
theorem qConvPtr_sound {o : Oper} {s d e : TypeId} {m : Nat} {x : Operand} (ho : o.op = .convert s d x) (hs : P.underlying s = some (.pointer e)) (hd : P.underlying d = some .unsafePointer) (hm : sizeT P e = some (m + 1)) : QSound P o (qConvPtr x : Q R) := by
  intro t H k r h
  obtain ⟨v, h1, h2⟩ := opK_inv (x := x) h
  obtain ⟨q, off, rfl, g1⟩ := ptrK_inv h1; clear h1; have h1 := g1; clear g1
  obtain ⟨cs, hq, g1⟩ := rowK_inv h1; clear h1; have h1 := g1; clear g1
  rw [nthK_eq] at h1
  cases ec : cs[off]? with
  | none => rw [ec] at h1; cases h1
  | some c =>
    rw [ec] at h1
    refine ⟨_, h1, fun π w a hr ha => ?_⟩
    have hc := h2 π a (ha x (by simp [ho, Op.operands]))
    obtain ⟨l, hl, hx⟩ := conc_ptr hc
    refine ⟨_, hc, ?_⟩
    obtain ⟨arr, et, fz, vs, g1, _, _, g4, g5, _, _⟩ := hr.cells hq hl
    have hlt := (List.getElem?_eq_some_iff.1 ec).1
    have hno : ¬ (arr.size ≤ l.shift + off) := by omega
    simp [execOp, ho, hx, convert, run_underlying hs, run_underlying hd, Conv.unsafePointer, Conv.seenAt, viewAt, cellsIn, shape_of g1, run_size hm, hno]

/-- A byte as a value. -/
theorem byteK_inv {v : AV} {k : Nat → Option R} {r : R} (h : byteK v k = some r) : ∃ m : Nat, v = .int .u8 (m : Int) ∧ m < 256 ∧ k m = some r := by
  obtain ⟨j, n, rfl, g1⟩ := numK_inv h; clear h; have h := g1; clear g1
  obtain ⟨m, rfl, g1⟩ := ofNatK_inv h; clear h; have h := g1; clear g1
  obtain ⟨hj, g1⟩ := bcase_none h; clear h; have h := g1; clear g1
  obtain ⟨hm, g1⟩ := bcase_none h; clear h; have h := g1; clear g1
  rw [Nat.blt_eq] at hm
  have : j = .u8 := by cases j <;> first | rfl | exact absurd hj (by decide)
  exact ⟨m, by rw [this], hm, h⟩
theorem bytesK_inv : ∀ {l : List AV} {k : List Nat → Option R} {r : R}, bytesK l k = some r → ∃ s, small s = true ∧ k s = some r ∧ l = s.map fun n => .int .u8 (Int.ofNat n)
  | [], k, r, h => ⟨[], rfl, h, rfl⟩
  | v :: l, k, r, h => by
    obtain ⟨m, rfl, hm, h⟩ := byteK_inv (show byteK v (fun y => bytesK l fun t => k (y :: t)) = some r from h)
    obtain ⟨s, hs, g, rfl⟩ := bytesK_inv h
    refine ⟨m :: s, ?_, g, rfl⟩
    simp only [small, List.all_cons, Bool.and_eq_true, Nat.blt_eq]
    exact ⟨hm, hs⟩
theorem concs_bytes {π : Pi} : ∀ s : List Nat, concs π (s.map fun n => .int .u8 (Int.ofNat n)) = some ((s.map Int.ofNat).map (Value.int .u8))
  | [] => rfl
  | _ :: s => concs_mk rfl (concs_bytes s)
theorem foldl_push : ∀ (s : List Nat) (b : ByteArray), (s.map Int.ofNat).foldl (fun r n => r.push (UInt8.ofNat n.toNat)) b = b ++ bytesV s
  | [], b => by
    show b = b ++ bytesV []
    apply ByteArray.ext; simp [bytesV]
  | n :: s, b => by
    simp only [List.map_cons, List.foldl_cons]
    rw [foldl_push s]
    apply ByteArray.ext; simp [bytesV]

/-- The bytes of a slice of bytes: what the machine makes of it. -/
theorem sliceBytes_inv {v : AV} {H : Heap} {k : List Nat → Option R} {r : R} (h : sliceBytes v H k = some r) : ∃ s, small s = true ∧ k s = some r ∧
    ∀ π w, Rel π H w → ∀ u, conc π v = some u → (∃ c, u = .slice none s.length c ∧ s = []) ∨ ∃ a c, u = .slice (some a) s.length c ∧ (loadCells a s.length).run P w = .ok ((s.map Int.ofNat).map (Value.int .u8)).toArray w := by
  cases v <;> try (cases h; done)
  case nilsl => exact ⟨[], rfl, h, fun π w _ u hu => .inl ⟨0, by cases hu; rfl, rfl⟩⟩
  case sl q o a n c =>
    cases n with
    | zero =>
      refine ⟨[], rfl, h, fun π w _ u hu => .inr ?_⟩
      obtain ⟨l, off, cap, _, rfl, _⟩ := conc_sl hu
      exact ⟨_, _, rfl, by simp [loadCells, loadCellsFrom]⟩
    | succ n =>
      replace h : rowK H q (fun cs => slotsK cs o (n + 1) fun l => bytesK l k) = some r := h
      obtain ⟨cs, hq, g1⟩ := rowK_inv h; clear h; have h := g1; clear g1
      rw [slotsK_eq] at h
      split at h
      · rename_i hlt
        obtain ⟨s, hs, h, e⟩ := bytesK_inv h
        refine ⟨s, hs, h, fun π w hr u hu => .inr ?_⟩
        obtain ⟨l, off, cap, hl, rfl, hc, hoff⟩ := conc_sl hu
        have := hoff (by omega)
        subst this
        obtain ⟨us, g1, g2, g3, g4⟩ := hr.slots (P := P) hq hl hlt
        rw [e, concs_bytes] at g1
        cases g1
        have hlen : s.length = n + 1 := by simpa using g3
        rw [hlen]
        exact ⟨_, _, rfl, g4⟩
      · cases h

theorem qConvStr_sound {o : Oper} {s d e : TypeId} {x : Operand} (ho : o.op = .convert s d x) (hs : P.underlying s = some (.slice e)) (hd : P.underlying d = some .string) (he : P.underlying e = some (.int .u8)) : QSound P o (qConvStr x : Q R) := by
  intro t H k r h
  obtain ⟨v, h1, h2⟩ := opK_inv (x := x) h
  obtain ⟨b, hb, h3, h4⟩ := sliceBytes_inv (P := P) h1
  refine ⟨_, h3, fun π w a hr ha => ⟨_, conc_mk_str hb, ?_⟩⟩
  rcases h4 π w hr _ (h2 π a (ha x (by simp [ho, Op.operands]))) with ⟨c, hx, rfl⟩ | ⟨ad, c, hx, hl⟩
  · simp [execOp, ho, hx, convert, run_underlying hs, run_underlying hd, run_underlying he, Conv.bytesToString]
    rfl
  · have := run_bytesToString (P := P) w ad b.length c (b.map Int.ofNat) hl
    rw [foldl_push] at this
    have e0 : ByteArray.empty ++ bytesV b = bytesV b := by apply ByteArray.ext; simp
    rw [e0] at this
    simp [execOp, ho, hx, convert, run_underlying hs, run_underlying hd, run_underlying he, this]

theorem qConv_sound {o : Oper} {s d : TypeId} {x : Operand} (ho : o.op = .convert s d x) : QSound P o (qConv P s d x : Q R) := by
  unfold qConv
  split
  · exact qConvInt_sound ho ⟨_, underQ_some (by assumption)⟩ (underQ_some (by assumption))
  · exact qIsStr_sound ho (underQ_some (by assumption)) (underQ_some (by assumption))
  · split
    · exact qConvPtr_sound ho (underQ_some (by assumption)) (underQ_some (by assumption)) (by assumption)
    · exact qNone_sound o
  · split
    · exact qConvStr_sound ho (underQ_some (by assumption)) (underQ_some (by assumption)) (underQ_some (by assumption))
    · exact qNone_sound o
  · exact qNone_sound o

/-! ### interfaces, functions, tuples -/
theorem conc_mk_iface {π : Pi} {t : TypeId} {v : AV} {u : Value} (h : conc π v = some u) : conc π (.iface t v) = some (.iface t u) := by unfold conc; rw [h]
theorem qIfaceT_sound {o : Oper} {ty : TypeId} {x : Operand} (ho : o.op = .makeInterface ty x) : QSound P o (qIfaceT P ty x : Q R) := by
  unfold qIfaceT
  split
  · exact qNone_sound o
  · rename_i dd h0 hu
    intro t H k r h
    obtain ⟨v, h1, h2⟩ := opK_inv (x := x) h
    refine ⟨_, h1, fun π w a _ ha => ⟨_, conc_mk_iface (h2 π a (ha x (by simp [ho, Op.operands]))), ?_⟩⟩
    simp only [execOp, ho, Instr.makeInterface, Sem.run_bind, run_under (underQ_some hu), Result.andThen_ok]
    cases dd <;> first | rfl | exact absurd rfl (h0 _)
  · exact qNone_sound o

theorem conc_mk_fn {π : Pi} {f : Nat} {a b : List AV} {x y : List Value} (h1 : concs π a = some x) (h2 : concs π b = some y) : conc π (.fn f a b) = some (.func (.func f) ⟨x⟩ ⟨y⟩) := by unfold conc; rw [h1, h2]
theorem map_mk {α β : Type} (f : α → β) (l : Array α) : l.map f = ⟨l.toList.map f⟩ := by
  cases l; simp
theorem qFuncT_sound {o : Oper} {fn : Fn} {p q : Array Operand} (ho : o.op = .makeFunc fn p q) : QSound P o (qFuncT fn p q : Q R) := by
  unfold qFuncT
  split
  · intro t H k r h
    obtain ⟨u, h1, h2⟩ := opsK_inv h
    obtain ⟨v, h3, h4⟩ := opsK_inv h1
    refine ⟨_, h3, fun π w a _ ha => ⟨_, conc_mk_fn (h2 π a fun y hy => ha y (by simp [ho, Op.operands]; left; simpa using hy)) (h4 π a fun y hy => ha y (by simp [ho, Op.operands]; right; simpa using hy)), ?_⟩⟩
    simp [execOp, ho, Instr.makeFunc, map_mk]
  · exact qNone_sound o

theorem qExtract_sound {o : Oper} {x : Operand} {i : Nat} (ho : o.op = .extract x i) : QSound P o (qExtract x i : Q R) := by
  intro t H k r h
  obtain ⟨v, h1, h2⟩ := opK_inv (x := x) h
  obtain ⟨l, rfl, g1⟩ := tupK_inv h1; clear h1; have h1 := g1; clear g1
  rw [nthK_eq] at h1
  cases e : l[i]? with
  | none => rw [e] at h1; cases h1
  | some c =>
    rw [e] at h1
    refine ⟨_, h1, fun π w a hr ha => ?_⟩
    obtain ⟨us, h3, hx⟩ := conc_tup (h2 π a (ha x (by simp [ho, Op.operands])))
    obtain ⟨u, h4, h5⟩ := concs_get h3 e
    refine ⟨u, h5, ?_⟩
    simp [execOp, ho, hx, Instr.extract, h4]

/-! ### aggregates -/
theorem fill_cells (off : Nat) : ∀ (u : List Value) (j : Nat) (cs : List Value), off + j + u.length ≤ cs.length →
    ((u.zipIdx j).foldl (fun (cs : Array Value) (p : Value × Nat) => cs.setIfInBounds (off + p.2) p.1) cs.toArray) = (laid (off + j) cs u).toArray
  | [], j, cs, h => by simp [laid]
  | c :: u, j, cs, h => by
    simp only [List.length_cons] at h
    simp only [List.zipIdx_cons, List.foldl_cons, List.setIfInBounds_toArray]
    rw [fill_cells off u (j + 1) (cs.set (off + j) c) (by simp; omega)]
    congr 1
    unfold laid
    apply List.ext_getElem?
    intro i
    simp only [List.getElem?_append, List.length_append, List.length_take, List.length_set, List.getElem?_take, List.getElem?_drop, List.getElem?_set, List.length_cons]
    have e1 : min (off + (j + 1)) cs.length = off + j + 1 := by omega
    have e2 : min (off + j) cs.length = off + j := by omega
    rw [e1, e2]
    by_cases hi : i < off + j
    · rw [if_pos (by omega), if_pos (by omega), if_pos (by omega), if_neg (by omega), if_pos (by omega), if_pos (by omega), if_pos (by omega)]
    · by_cases hi2 : i = off + j
      · subst hi2
        simp
        rw [if_pos (by omega)]
        rw [if_pos (by omega)]
      · by_cases hi3 : i < off + j + 1 + u.length
        · rw [if_pos (by omega), if_neg (by omega), if_pos (by omega), if_neg (by omega)]
          have : i - (off + j) = (i - (off + j + 1)) + 1 := by omega
          rw [this, List.getElem?_cons_succ]
        · rw [if_neg (by omega), if_neg (by omega), if_neg (by omega)]
          congr 1; omega

end
end Go.Ev

set_option linter.unusedSectionVars false
namespace Go.Ev
section
variable [Sym]
variable {P : Program} {R : Type}

theorem conc_cells' {π : Pi} {v : AV} {u : Value} (h : conc π v = some u) (hf : AV.flats v.cells = true) : concs π v.cells = some u.cells.toList :=
  (conc_cells h fun l e => by subst e; simp [AV.cells, AV.flats, AV.flat] at hf).1

/-- Parts laid over cells: what the machine's 'fill' makes of it. -/
theorem partsK_inv {place : Nat → Option (Nat × Nat)} : ∀ {parts : List (Nat × Operand)} {l : List (Nat × Nat × Operand)}, mapO (fun p => (place p.1).map fun q => (q.1, q.2, p.2)) parts = some l →
    ∀ {t : Env} {cs : List AV} {k : List AV → Option R} {r : R}, partsK l t cs k = some r → ∃ cs', k cs' = some r ∧
      ∀ π (a : Act) us, concs π cs = some us → AV.flats cs = true → (∀ p ∈ parts, EnvAt π t a p.2) → ∃ us', concs π cs' = some us' ∧ AV.flats cs' = true ∧
        Instr.fill place us.toArray (parts.map fun p => (p.1, a.eval p.2)) = some us'.toArray
  | [], l, hl, t, cs, k, r, h => by
    cases hl
    exact ⟨cs, h, fun π a us hc hf _ => ⟨us, hc, hf, rfl⟩⟩
  | p :: parts, l, hl, t, cs, k, r, h => by
    unfold mapO at hl
    split at hl
    · cases hl
    · rename_i x hx
      split at hl
      · cases hl
      · rename_i xs hxs
        cases hl
        cases hp : place p.1 with
        | none => rw [hp] at hx; cases hx
        | some q =>
          rw [hp] at hx
          cases hx
          obtain ⟨v, h1, h2⟩ := opK_inv (x := p.2) (show opK p.2 t (fun v => cellsK v fun u => lenK u fun n => Bool.casesOn (Nat.beq n q.2) none (layK q.1 cs u fun cs' => partsK xs t cs' k)) = some r from h)
          obtain ⟨h1, h3⟩ := cellsK_inv h1
          rw [lenK_eq] at h1
          obtain ⟨h4, g1⟩ := bcase_none h1; clear h1; have h1 := g1; clear g1
          have h4 := Nat.eq_of_beq_eq_true h4
          rw [layK_eq] at h1
          split at h1
          · rename_i hlt
            obtain ⟨cs', h5, h6⟩ := partsK_inv hxs h1
            refine ⟨cs', h5, fun π a us hc hf ha => ?_⟩
            have hv := h2 π a (ha p (by simp))
            obtain ⟨g1, g2⟩ := conc_cells hv h3
            obtain ⟨us', g3, g4, g5⟩ := h6 π a _ (concs_laid hc g1) (flats_laid hf g2) (fun p' hp' => ha p' (by simp [hp']))
            refine ⟨us', g3, g4, ?_⟩
            have hl1 := concs_length hc
            have hl2 := concs_length g1
            have hsz : (a.eval p.2).cells.size = v.cells.length := by rw [← hl2]; simp
            simp only [List.map_cons, Instr.fill, hp]
            rw [if_neg (by simp; omega)]
            have := fill_cells q.1 (a.eval p.2).cells.toList 0 us (by simp; omega)
            rw [← Array.foldl_toList, Array.toList_zipIdx]
            rw [this]
            exact g5
          · cases h1

theorem run_mapM {α β : Type} (g : α → Sem β) (w : World) : ∀ (l : List α) (m : List β), (∀ i (h : i < l.length), ∃ b, m[i]? = some b ∧ (g l[i]).run P w = .ok b w) → l.length = m.length → (l.mapM g).run P w = .ok m w
  | [], [], _, _ => rfl
  | a :: l, b :: m, h, hl => by
    obtain ⟨b', h1, h2⟩ := h 0 (by simp)
    simp at h1 h2
    subst h1
    have ih := run_mapM g w l m (fun i hi => by
      obtain ⟨b, h3, h4⟩ := h (i + 1) (by simp; omega)
      exact ⟨b, by simpa using h3, by simpa using h4⟩) (by simpa using hl)
    simp [List.mapM_cons, h2, ih]
  | [], _ :: _, _, hl => by simp at hl
  | _ :: _, [], _, hl => by simp at hl

noncomputable def placesOf (P : Program) (fs : List Field) : List (Nat × Nat) := fs.map fun f => (f.offset, (sizeT P f.type).getD 0)
theorem run_placesOf {fs : Array Field} (h : fs.toList.all (fun f => (sizeT P f.type).isSome) = true) (w : World) : (fs.mapM fun (f : Field) => do pure (f.offset, ← Go.sizeOf f.type) : Sem (Array (Nat × Nat))).run P w = .ok (placesOf P fs.toList).toArray w := by
  rw [Array.mapM_eq_mapM_toList]
  have := run_mapM (P := P) (fun f : Field => do pure (f.offset, ← Go.sizeOf f.type)) w fs.toList (placesOf P fs.toList) (fun i hi => by
    rw [List.all_eq_true] at h
    have hs := h fs.toList[i] (List.getElem_mem hi)
    obtain ⟨n, hn⟩ := Option.isSome_iff_exists.1 hs
    refine ⟨(fs.toList[i].offset, n), ?_, ?_⟩
    · simp only [placesOf, List.getElem?_map, List.getElem?_eq_getElem hi, Option.map_some, hn, Option.getD_some]
    · have := run_size hn w
      simp only [Sem.run_bind, this]
      rfl) (by simp [placesOf])
  rw [Sem.run_map, this]
  rfl

theorem mapO_congr {α β : Type} {f g : α → Option β} (h : ∀ x y, f x = some y → g x = some y) : ∀ {l : List α} {m : List β}, mapO f l = some m → mapO g l = some m
  | [], m, hm => hm
  | a :: l, m, hm => by
    unfold mapO at hm ⊢
    split at hm
    · cases hm
    · rename_i x hx
      rw [h a x hx]
      split at hm
      · cases hm
      · rename_i xs hxs
        cases hm
        rw [mapO_congr h hxs]

theorem qBuildT_sound {o : Oper} {ty : TypeId} {ps : Array (Nat × Operand)} (ho : o.op = .build ty ps) : QSound P o (qBuildT P ty ps.toList : Q R) := by
  unfold qBuildT
  split
  · rename_i l z hs hl hz
    split
    · rename_i hf
      obtain ⟨u, hu1, hu2⟩ := run_zero hz
      unfold structOk at hs
      have key : ∃ place : Nat → Option (Nat × Nat), (∀ (p : Nat × Operand) q, placeF P ty p.1 p.2 = some q → ((place p.1).map fun q => (q.1, q.2, p.2)) = some q) ∧
          ∀ w vs us', Instr.fill place u.cells vs = some us' → (Instr.build ty vs.toArray).run P w = .ok (.agg us') w := by
        split at hs
        · rename_i fs hu
          refine ⟨fun i => (placesOf P fs.toList)[i]?, fun p q hp => ?_, fun w vs us' hfl => ?_⟩
          · unfold placeF at hp
            rw [hu] at hp
            simp only at hp
            split at hp
            · rename_i f hf'
              split at hp
              · rename_i n hn
                cases hp
                simp only [placesOf, List.getElem?_map, hf', Option.map_some, hn, Option.getD_some]
              · cases hp
            · cases hp
          · simp only [Instr.build, Sem.run_bind, hu1, Result.andThen_ok, run_under (underQ_some hu), run_placesOf hs]
            have e : (fun x : Nat => (placesOf P fs.toList).toArray[x]?) = fun i : Nat => (placesOf P fs.toList)[i]? := by funext i; simp
            rw [e, hfl]
            rfl
        · rename_i n e hu
          obtain ⟨m, hm⟩ := Option.isSome_iff_exists.1 hs
          refine ⟨fun i => some (i * m, m), fun p q hp => ?_, fun w vs us' hfl => ?_⟩
          · unfold placeF at hp
            rw [hu] at hp
            simp only [hm] at hp
            cases hp
            rfl
          · simp only [Instr.build, Sem.run_bind, hu1, Result.andThen_ok, run_under (underQ_some hu), run_size hm]
            rw [hfl]
            rfl
        · cases hs
      obtain ⟨place, hp1, hp2⟩ := key
      intro t H k r h
      obtain ⟨cs', h1, h2⟩ := partsK_inv (mapO_congr (g := fun p => (place p.1).map fun q => (q.1, q.2, p.2)) hp1 hl) h
      refine ⟨_, h1, fun π w a _ ha => ?_⟩
      obtain ⟨us', h3, h4, h5⟩ := h2 π a u.cells.toList (conc_cells' (hu2 π) hf) hf (fun p hp => ha p.2 (by simp only [ho, Op.operands]; simp; exact ⟨p.1, by simpa using hp⟩))
      refine ⟨_, conc_mk_agg h3 h4, ?_⟩
      have := hp2 w _ _ h5
      simp only [execOp, ho, Sem.run_bind]
      rw [map_mk, this]
      rfl
    · exact qNone_sound o
  · exact qNone_sound o

end
end Go.Ev

set_option linter.unusedSectionVars false
namespace Go.Ev
section
variable [Sym]
variable {P : Program} {R : Type}

/-! ### lengths -/
theorem ConcEs.length {π : Pi} : ∀ {es : List (AV × AV × Nat)} {ms : List MapEntry}, ConcEs π es ms → ms.length = es.length
  | [], [], _ => rfl
  | _ :: _, _ :: _, h => by simp [h.2.length]
  | [], _ :: _, h => h.elim
  | _ :: _, [], h => h.elim

theorem conc_map {π : Pi} {r : Nat} {u : Value} (h : conc π (.map r) = some u) : ∃ l, π r = some l ∧ u = .map (some l.block) := by
  unfold conc at h; split at h
  · rename_i l hl; cases h; exact ⟨l, hl, rfl⟩
  · cases h
theorem Rel.map {π : Pi} {H : Heap} {w : World} (h : Rel π H w) {r : Nat} {es : List (AV × AV × Nat)} {c : Nat} {l : Loc} (hr : H.get r = some (.map es c)) (hl : π r = some l) :
    ∃ ms, w.heap[l.block]? = some (.map ms c) ∧ ConcEs π es ms.toList := by
  obtain ⟨ob, h1, h2⟩ := h.obj r _ l hr hl
  cases ob <;> simp only [ORel] at h2
  obtain ⟨h2, rfl⟩ := h2
  exact ⟨_, h1, h2⟩
theorem mapRows_inv {v : AV} {H : Heap} {k : List (AV × AV × Nat) → Option R} {x : R} (h : mapRows v H k = some x) : ∃ es, k es = some x ∧ ∀ π w, Rel π H w → ∀ u, conc π v = some u →
    (u = .map none ∧ es = []) ∨ ∃ b ms c, u = .map (some b) ∧ w.heap[b]? = some (.map ms c) ∧ ConcEs π es ms.toList := by
  cases v <;> try (cases h; done)
  case nilmap => exact ⟨[], h, fun π w _ u hu => .inl ⟨by cases hu; rfl, rfl⟩⟩
  case map r =>
    obtain ⟨es, c, hr, h⟩ := mapObjK_inv (show mapObjK H r (fun es _ => k es) = some x from h)
    refine ⟨es, h, fun π w hrel u hu => .inr ?_⟩
    obtain ⟨l, hl, rfl⟩ := conc_map hu
    obtain ⟨ms, h1, h2⟩ := hrel.map hr hl
    exact ⟨_, ms, c, rfl, h1, h2⟩
theorem run_getObj_of {w : World} {r : Nat} {o : Obj} (h : w.heap[r]? = some o) (hm : ∀ a e f, o ≠ .cells a e f) : (getObj r).run P w = .ok o w := by
  cases o <;> first | exact absurd rfl (hm _ _ _) | simp [getObj, Sem.run, h]

theorem qLenStr_sound {o : Oper} {c : Call} {t : TypeId} {x : Operand} {ts : List TypeId} (ho : o.op = .call c) (hc : c.callee = .builtin .len) (ha : c.args.toList = [x]) (ht : c.argTypes.toList = t :: ts) (hu : P.underlying t = some .string) : QSound P o (qLenStr x : Q R) := by
  have ha' : c.args = #[x] := by rw [← ha]
  have ht' : c.argTypes[0]? = some t := by rw [← Array.getElem?_toList, ht]; rfl
  intro e H k r h
  obtain ⟨v, h1, h2⟩ := opK_inv (x := x) h
  obtain ⟨s, rfl, g1⟩ := strK_inv h1; clear h1; have h1 := g1; clear g1
  rw [lenK_eq] at h1
  refine ⟨_, h1, fun π w a _ hao => ⟨_, rfl, ?_⟩⟩
  obtain ⟨hs, hx⟩ := conc_str (h2 π a (hao x (by simp [ho, Op.operands, Call.operands, hc, ha'])))
  simp [execOp, ho, resolve, hc, ha', invoke, builtin, Builtin.len_, ht', hx, run_underlying hu, bytesV_size, goInt]

theorem qLenSl_sound {o : Oper} {c : Call} {t e : TypeId} {x : Operand} {ts : List TypeId} (ho : o.op = .call c) (hc : c.callee = .builtin .len) (ha : c.args.toList = [x]) (ht : c.argTypes.toList = t :: ts) (hu : P.underlying t = some (.slice e)) : QSound P o (qLenSl x : Q R) := by
  have ha' : c.args = #[x] := by rw [← ha]
  have ht' : c.argTypes[0]? = some t := by rw [← Array.getElem?_toList, ht]; rfl
  intro e H k r h
  obtain ⟨v, h1, h2⟩ := opK_inv (x := x) h
  cases v <;> try (cases h1; done)
  case nilsl =>
    refine ⟨_, h1, fun π w a _ hao => ⟨_, rfl, ?_⟩⟩
    have hx : a.eval x = .slice none 0 0 := (Option.some.inj (h2 π a (hao x (by simp [ho, Op.operands, Call.operands, hc, ha'])))).symm
    simp [execOp, ho, resolve, hc, ha', invoke, builtin, Builtin.len_, ht', hx, run_underlying hu, goInt]
  case sl =>
    refine ⟨_, h1, fun π w a _ hao => ⟨_, rfl, ?_⟩⟩
    obtain ⟨l, off, cap, _, hx, _⟩ := conc_sl (h2 π a (hao x (by simp [ho, Op.operands, Call.operands, hc, ha'])))
    simp [execOp, ho, resolve, hc, ha', invoke, builtin, Builtin.len_, ht', hx, run_underlying hu, goInt]

theorem qLenMap_sound {o : Oper} {c : Call} {t e f : TypeId} {x : Operand} {ts : List TypeId} (ho : o.op = .call c) (hc : c.callee = .builtin .len) (ha : c.args.toList = [x]) (ht : c.argTypes.toList = t :: ts) (hu : P.underlying t = some (.map e f)) : QSound P o (qLenMap x : Q R) := by
  have ha' : c.args = #[x] := by rw [← ha]
  have ht' : c.argTypes[0]? = some t := by rw [← Array.getElem?_toList, ht]; rfl
  intro e H k r h
  obtain ⟨v, h1, h2⟩ := opK_inv (x := x) h
  obtain ⟨es, h1, h3⟩ := mapRows_inv h1
  rw [lenK_eq] at h1
  refine ⟨_, h1, fun π w a hr hao => ⟨_, rfl, ?_⟩⟩
  rcases h3 π w hr _ (h2 π a (hao x (by simp [ho, Op.operands, Call.operands, hc, ha']))) with ⟨hx, rfl⟩ | ⟨b, ms, cl, hx, hb, hes⟩
  · simp [execOp, ho, resolve, hc, ha', invoke, builtin, Builtin.len_, ht', hx, run_underlying hu, goInt]
  · have hl := hes.length
    have hg := run_getObj_of (P := P) hb (by simp)
    simp [execOp, ho, resolve, hc, ha', invoke, builtin, Builtin.len_, ht', hx, run_underlying hu, goInt, hg]
    simp at hl; omega

theorem qLenArr_sound {o : Oper} {c : Call} {t e : TypeId} {n : Nat} {x : Operand} {ts : List TypeId} (ho : o.op = .call c) (hc : c.callee = .builtin .len) (ha : c.args.toList = [x]) (ht : c.argTypes.toList = t :: ts) (hu : P.underlying t = some (.array n e)) : QSound P o (qLenArr n x : Q R) := by
  have ha' : c.args = #[x] := by rw [← ha]
  have ht' : c.argTypes[0]? = some t := by rw [← Array.getElem?_toList, ht]; rfl
  intro e H k r h
  obtain ⟨v, h1, h2⟩ := opK_inv (x := x) h
  refine ⟨_, h1, fun π w a _ hao => ⟨_, rfl, ?_⟩⟩
  simp [execOp, ho, resolve, hc, ha', invoke, builtin, Builtin.len_, ht', run_underlying hu, goInt]

theorem qCapSl_sound {o : Oper} {c : Call} {t e : TypeId} {x : Operand} {ts : List TypeId} (ho : o.op = .call c) (hc : c.callee = .builtin .cap) (ha : c.args.toList = [x]) (ht : c.argTypes.toList = t :: ts) (hu : P.underlying t = some (.slice e)) : QSound P o (qCapSl x : Q R) := by
  have ha' : c.args = #[x] := by rw [← ha]
  have ht' : c.argTypes[0]? = some t := by rw [← Array.getElem?_toList, ht]; rfl
  intro e H k r h
  obtain ⟨v, h1, h2⟩ := opK_inv (x := x) h
  cases v <;> try (cases h1; done)
  case nilsl =>
    refine ⟨_, h1, fun π w a _ hao => ⟨_, rfl, ?_⟩⟩
    have hx : a.eval x = .slice none 0 0 := (Option.some.inj (h2 π a (hao x (by simp [ho, Op.operands, Call.operands, hc, ha'])))).symm
    simp [execOp, ho, resolve, hc, ha', invoke, builtin, Builtin.cap_, ht', hx, run_underlying hu, goInt]
  case sl q off al n cc =>
    cases cc <;> try (cases h1; done)
    case ex m =>
      refine ⟨_, h1, fun π w a _ hao => ⟨_, rfl, ?_⟩⟩
      have hv := h2 π a (hao x (by simp [ho, Op.operands, Call.operands, hc, ha']))
      unfold conc at hv
      split at hv
      · simp only at hv
        split at hv
        · have hx := (Option.some.inj hv).symm
          simp [execOp, ho, resolve, hc, ha', invoke, builtin, Builtin.cap_, ht', hx, run_underlying hu, goInt]
        · cases hv
      · cases hv
    case z m =>
      refine ⟨_, h1, fun π w a _ hao => ⟨_, rfl, ?_⟩⟩
      have hv := h2 π a (hao x (by simp [ho, Op.operands, Call.operands, hc, ha']))
      unfold conc at hv
      split at hv
      · simp only at hv
        split at hv
        · have hx := (Option.some.inj hv).symm
          simp [execOp, ho, resolve, hc, ha', invoke, builtin, Builtin.cap_, ht', hx, run_underlying hu, goInt]
        · cases hv
      · cases hv

theorem qMax_sound {o : Oper} {c : Call} {x y : Operand} (ho : o.op = .call c) (hc : c.callee = .builtin .max) (ha : c.args.toList = [x, y]) : QSound P o (qMax x y : Q R) := by
  have ha' : c.args = #[x, y] := by rw [← ha]
  intro e H k r h
  obtain ⟨v, h1, h2⟩ := opK_inv (x := x) h
  obtain ⟨u, g1, h3⟩ := opK_inv (x := y) h1; clear h1; have h1 := g1; clear g1
  obtain ⟨j, m, rfl, g1⟩ := numK_inv h1; clear h1; have h1 := g1; clear g1
  obtain ⟨j', n, rfl, g1⟩ := numK_inv h1; clear h1; have h1 := g1; clear g1
  rw [intLt_eq] at h1
  rcases bcase_true h1 with ⟨hb, h4⟩ | ⟨hb, h4⟩
  all_goals
    refine ⟨_, h4, fun π w a _ hao => ⟨_, rfl, ?_⟩⟩
    have hx := conc_int (h2 π a (hao x (by simp [ho, Op.operands, Call.operands, hc, ha'])))
    have hy := conc_int (h3 π a (hao y (by simp [ho, Op.operands, Call.operands, hc, ha'])))
    simp at hb
    simp [execOp, ho, resolve, hc, ha', invoke, builtin, Builtin.max_, Builtin.max2, hx, hy]
    omega

theorem qMin_sound {o : Oper} {c : Call} {x y : Operand} (ho : o.op = .call c) (hc : c.callee = .builtin .min) (ha : c.args.toList = [x, y]) : QSound P o (qMin x y : Q R) := by
  have ha' : c.args = #[x, y] := by rw [← ha]
  intro e H k r h
  obtain ⟨v, h1, h2⟩ := opK_inv (x := x) h
  obtain ⟨u, g1, h3⟩ := opK_inv (x := y) h1; clear h1; have h1 := g1; clear g1
  obtain ⟨j, m, rfl, g1⟩ := numK_inv h1; clear h1; have h1 := g1; clear g1
  obtain ⟨j', n, rfl, g1⟩ := numK_inv h1; clear h1; have h1 := g1; clear g1
  rw [intLt_eq] at h1
  rcases bcase_true h1 with ⟨hb, h4⟩ | ⟨hb, h4⟩
  all_goals
    refine ⟨_, h4, fun π w a _ hao => ⟨_, rfl, ?_⟩⟩
    have hx := conc_int (h2 π a (hao x (by simp [ho, Op.operands, Call.operands, hc, ha'])))
    have hy := conc_int (h3 π a (hao y (by simp [ho, Op.operands, Call.operands, hc, ha'])))
    simp at hb
    simp [execOp, ho, resolve, hc, ha', invoke, builtin, Builtin.min_, Builtin.min2, hx, hy]
    omega

theorem qBuiltin_sound {o : Oper} {c : Call} {b : Builtin} (ho : o.op = .call c) (hc : c.callee = .builtin b) : QSound P o (qBuiltin P b c.args.toList c.argTypes.toList : Q R) := by
  unfold qBuiltin
  split
  · rename_i x t ts ha ht
    unfold qLen
    split
    · exact qLenStr_sound ho hc ha ht (underQ_some (by assumption))
    · exact qLenSl_sound ho hc ha ht (underQ_some (by assumption))
    · exact qLenMap_sound ho hc ha ht (underQ_some (by assumption))
    · exact qLenArr_sound ho hc ha ht (underQ_some (by assumption))
    · exact qNone_sound o
  · rename_i x t ts ha ht
    unfold qCap
    split
    · exact qCapSl_sound ho hc ha ht (underQ_some (by assumption))
    · exact qNone_sound o
  · rename_i x y _ ha; exact qMax_sound ho hc ha
  · rename_i x y _ ha; exact qMin_sound ho hc ha
  · exact qNone_sound o

/-! ### bounds -/
theorem run_bound {j : IntKind} {i y : Nat} {code : BoundsCode} (h : i ≤ y) (w : World) : (Instr.sliceBound (.int j (i : Int)) y code).run P w = .ok i w := by
  have : (0 : Int) ≤ (i : Int) ∧ (i : Int) ≤ (y : Int) := by omega
  simp [Instr.sliceBound, asIntOf, this]
/-- What an optional bound stands for. -/
def BoundAt (a : Act) (x : Option Operand) (n : Option Nat) : Prop := match x, n with
  | none, none => True
  | some y, some m => ∃ j, a.eval y = .int j (m : Int)
  | _, _ => False
theorem optIdx_inv' {x : Option Operand} {t : Env} {k : Option Nat → Option R} {r : R} (h : optIdx x t k = some r) : ∃ n : Option Nat, k n = some r ∧ ∀ π (a : Act), (∀ y, x = some y → EnvAt π t a y) → BoundAt a x n := by
  obtain ⟨n, h1, h2⟩ := optIdx_inv h
  refine ⟨n, h1, fun π a ha => ?_⟩
  have := h2 π a ha
  cases x <;> cases n <;> exact this
theorem run_bounds2 {a : Act} {sl : Bool} {len cap : Nat} {lo hi : Option Operand} {l h : Option Nat} (hl : BoundAt a lo l) (hh : BoundAt a hi h) (h1 : l.getD 0 ≤ h.getD len) (h2 : h = none ∨ h.getD len ≤ cap) (w : World) :
    (Instr.sliceBounds sl len cap (lo.map a.eval) (hi.map a.eval) none).run P w = .ok (l.getD 0, h.getD len, cap) w := by
  cases lo <;> cases l <;> simp only [BoundAt] at hl <;> cases hi <;> cases h <;> simp only [BoundAt] at hh
  · simp [Instr.sliceBounds]
  · obtain ⟨j, e⟩ := hh
    simp at h2
    simp [Instr.sliceBounds, e, run_bound h2]
  · obtain ⟨j, e⟩ := hl
    simp at h1
    simp [Instr.sliceBounds, e, run_bound h1]
  · obtain ⟨j, e⟩ := hl
    obtain ⟨j', e'⟩ := hh
    simp at h1 h2
    simp [Instr.sliceBounds, e, e', run_bound h1, run_bound h2]
theorem run_bounds3 {a : Act} {sl : Bool} {len cap : Nat} {lo : Option Operand} {hi mx : Value} {l : Option Nat} {h m : Nat} {j j' : IntKind} (hl : BoundAt a lo l) (hh : hi = .int j (h : Int)) (hm : mx = .int j' (m : Int)) (h1 : l.getD 0 ≤ h) (h2 : h ≤ m) (h3 : m ≤ cap) (w : World) :
    (Instr.sliceBounds sl len cap (lo.map a.eval) (some hi) (some mx)).run P w = .ok (l.getD 0, h, m) w := by
  subst hh hm
  cases lo <;> cases l <;> simp only [BoundAt] at hl
  · simp [Instr.sliceBounds, run_bound h2, run_bound h3]
  · obtain ⟨j, e⟩ := hl
    simp at h1
    simp [Instr.sliceBounds, e, run_bound h1, run_bound h2, run_bound h3]

theorem leB_le {a b : Nat} : leB a b = true ↔ a ≤ b := by unfold leB; exact iff_of_eq Nat.ble_eq

theorem qSliceStr_sound {o : Oper} {ty : TypeId} {x : Operand} {lo hi : Option Operand} (ho : o.op = .slice ty x lo hi none) (hu : P.underlying ty = some .string) : QSound P o (qSliceStr x lo hi : Q R) := by
  intro t H k r h
  obtain ⟨v, h1, h2⟩ := opK_inv (x := x) h
  obtain ⟨s, rfl, g1⟩ := strK_inv h1; clear h1; have h1 := g1; clear g1
  obtain ⟨l, g1, h3⟩ := optIdx_inv' h1; clear h1; have h1 := g1; clear g1
  obtain ⟨hh, g1, h4⟩ := optIdx_inv' h1; clear h1; have h1 := g1; clear g1
  rw [lenK_eq, natK_eq, natK_eq] at h1
  obtain ⟨hb, g1⟩ := bcase_none h1; clear h1; have h1 := g1; clear g1
  rw [Bool.and_eq_true, leB_le, leB_le] at hb
  rw [slotsK_eq] at h1
  split at h1
  · rename_i hlt
    refine ⟨_, h1, fun π w a _ ha => ?_⟩
    obtain ⟨hs, hx⟩ := conc_str (h2 π a (ha x (by simp [ho, Op.operands])))
    have h3 := h3 π a (fun y hy => ha y (by simp [ho, Op.operands, hy]))
    have h4 := h4 π a (fun y hy => ha y (by simp [ho, Op.operands, hy]))
    refine ⟨_, conc_mk_str ?_, ?_⟩
    · unfold small at hs ⊢
      rw [List.all_eq_true] at hs ⊢
      exact fun y hy => hs y (List.mem_of_mem_drop (List.mem_of_mem_take hy))
    · have hsz := bytesV_size s
      have hbd := run_bounds2 (P := P) (sl := false) (len := s.length) (cap := s.length) h3 h4 hb.1 (.inr hb.2) w
      simp [execOp, ho, Instr.sliceAt, Instr.slice, run_underlying hu, hx, hsz, hbd]
      apply ByteArray.ext
      simp only [ByteArray.data_extract, bytesV, List.extract_toArray, List.extract_eq_take_drop, List.map_take, List.map_drop]
  · cases h1

end
end Go.Ev
