/- What writes: maps. -/
import Derived.Test.YtglploknmdbigaaGreatDoorSf
set_option linter.unusedSectionVars false
namespace Go.Ev
section
variable [Sym]
variable {P : Program} {R : Type}

theorem ConcEs.append {π : Pi} : ∀ {es fs : List (AV × AV × Nat)} {ms ns : List MapEntry}, ConcEs π es ms → ConcEs π fs ns → ConcEs π (es ++ fs) (ms ++ ns)
  | [], _, [], _, _, h => h
  | _ :: _, _, _ :: _, _, h1, h2 => ⟨h1.1, h1.2.append h2⟩
  | [], _, _ :: _, _, h, _ => h.elim
  | _ :: _, _, [], _, h, _ => h.elim

theorem setRow_inv {key v : AV} : ∀ {es : List (AV × AV × Nat)} {i : Nat} {k : List (AV × AV × Nat) → Option R} {r : R}, setRow es i key v k = some r →
    ∃ es', k es' = some r ∧ ∀ π kv u ms, conc π key = some kv → conc π v = some u → ConcEs π es ms → ∃ m, ms[i]? = some m ∧ m.key = kv ∧ ConcEs π es' (ms.modify i fun m => { m with key := kv, val := u })
  | [], i, k, r, h => by cases h
  | x :: es, 0, k, r, h => by
    obtain ⟨hb, h⟩ := bcase_none (show (Bool.casesOn (AV.beq x.1 key) none (k ((key, v, x.2.2) :: es)) : Option R) = some r from h)
    have hb := AV.beq_eq _ _ hb
    refine ⟨_, h, fun π kv u ms hk hv hm => ?_⟩
    cases ms with
    | nil => exact hm.elim
    | cons m ms =>
      obtain ⟨⟨c1, c2, c3⟩, hm⟩ := hm
      rw [hb, hk] at c1
      refine ⟨m, rfl, (Option.some.inj c1).symm, ?_⟩
      simp only [List.modify_zero_cons]
      exact ⟨⟨hk, hv, c3⟩, hm⟩
  | x :: es, i + 1, k, r, h => by
    obtain ⟨es', h1, h2⟩ := setRow_inv (show setRow es i key v (fun t => k (x :: t)) = some r from h)
    refine ⟨_, h1, fun π kv u ms hk hv hm => ?_⟩
    cases ms with
    | nil => exact hm.elim
    | cons m ms =>
      obtain ⟨m', h3, h4, h5⟩ := h2 π kv u ms hk hv hm.2
      refine ⟨m', by simpa using h3, h4, ?_⟩
      simp only [List.modify_succ_cons]
      exact ⟨hm.1, h5⟩
theorem dropRow_inv : ∀ {es : List (AV × AV × Nat)} {i : Nat} {k : List (AV × AV × Nat) → Option R} {r : R}, dropRow es i k = some r →
    ∃ es', k es' = some r ∧ ∀ π ms, ConcEs π es ms → ConcEs π es' (ms.eraseIdx i)
  | [], i, k, r, h => by cases h
  | x :: es, 0, k, r, h => ⟨es, h, fun π ms hm => by
      cases ms with
      | nil => exact hm.elim
      | cons m ms => exact hm.2⟩
  | x :: es, i + 1, k, r, h => by
    obtain ⟨es', h1, h2⟩ := dropRow_inv (show dropRow es i (fun t => k (x :: t)) = some r from h)
    refine ⟨_, h1, fun π ms hm => ?_⟩
    cases ms with
    | nil => exact hm.elim
    | cons m ms => exact ⟨hm.1, h2 π ms hm.2⟩

/-- The key that stays is the key, whatever is drawn. -/
theorem run_keyStays (v : Value) (w : World) : ∃ n, (Instr.keyThatStays v v).run P w = .ok v { w with drawn := n } := by
  unfold Instr.keyThatStays
  split
  · exact ⟨w.drawn, rfl⟩
  · simp only [Sem.run_bind, run_choose]
    split
    · exact ⟨w.drawn, by simp⟩
    · exact ⟨w.drawn + 1, by simp⟩

theorem wUpdate_sound {o : Oper} {ty kt e : TypeId} {m x v : Operand} (ho : o.op = .mapUpdate ty m x v ∨ o.op = .insert ty m x v) (hu : P.underlying ty = some (.map kt e)) : WSound P o (wUpdate (ckT P 10 kt) (eqT P 10 kt) m x v : W R) := by
  have hops : m ∈ o.op.operands ∧ x ∈ o.op.operands ∧ v ∈ o.op.operands := by
    rcases ho with ho | ho <;> simp [ho, Op.operands]
  intro t H k r h
  obtain ⟨vm, h1, h2⟩ := opK_inv (x := m) h
  obtain ⟨key, g1, h3⟩ := opK_inv (x := x) h1; clear h1
  obtain ⟨vv, h1, h4⟩ := opK_inv (x := v) g1; clear g1
  cases vm <;> try (cases h1; done)
  rename_i q
  obtain ⟨es, c, hq, g1⟩ := mapObjK_inv (show mapObjK H q (fun es c => ckT P 10 kt key <| findK (eqT P 10 kt) key es fun u => Option.casesOn u (appK es [(key, vv, c)] fun es' => natK (Nat.succ c) fun c' => putH H q (.map es' c') fun H' => k .undef H')
      fun u => setRow es u.1 key vv fun es' => putH H q (.map es' c) fun H' => k .undef H') = some r from h1)
  obtain ⟨res, g2, h5⟩ := find_inv g1; clear g1
  have hrun : ∀ (a : Act) w, (execOp a.eval o).run P w = ((Instr.mapUpdate ty (a.eval m) (a.eval x) (a.eval v)).run P w).andThen fun _ w' => .ok .skip w' := by
    intro a w
    rcases ho with ho | ho <;> simp [execOp, ho]
  cases res with
  | none =>
    replace g2 : appK es [(key, vv, c)] (fun es' => natK (Nat.succ c) fun c' => putH H q (.map es' c') fun H' => k .undef H') = some r := g2
    rw [appK_eq, natK_eq] at g2
    obtain ⟨H', g3, hN, hH⟩ := putH_inv g2
    refine ⟨_, _, g3, fun π w a hr ha => ?_⟩
    obtain ⟨l, hl, hm⟩ := conc_map (h2 π a (ha m hops.1))
    have hk := h3 π a (ha x hops.2.1)
    have hv := h4 π a (ha v hops.2.2)
    obtain ⟨ms, hb, hes⟩ := hr.map hq hl
    obtain ⟨e1, res', e2, e3⟩ := h5 π _ ms.toList hk hes w
    cases res' with
    | some _ => exact e3.elim
    | none =>
      have hg := run_getObj_of (P := P) hb (by simp)
      obtain ⟨w', e4, e5⟩ := setObj_turned (P := P) (ob' := .map (ms.push { key := a.eval x, val := a.eval v, born := c }) (c + 1)) hb (by simp)
      refine ⟨π, w', .skip, _, ?_, rfl, conc_undef π, Post.turned hr hq hl hN hH e5 ⟨?_, rfl⟩⟩
      · rw [hrun]
        simp only [Instr.mapUpdate, Sem.run_bind, run_underlying hu, Result.andThen_ok, hm, hg, e1, e2, e4]
      · rw [Array.toList_push]
        exact hes.append ⟨⟨hk, hv, rfl⟩, trivial⟩
  | some p =>
    replace g2 : setRow es p.1 key vv (fun es' => putH H q (.map es' c) fun H' => k .undef H') = some r := g2
    obtain ⟨es', g3, h6⟩ := setRow_inv g2; clear g2
    obtain ⟨H', g2, hN, hH⟩ := putH_inv g3
    refine ⟨_, _, g2, fun π w a hr ha => ?_⟩
    obtain ⟨l, hl, hm⟩ := conc_map (h2 π a (ha m hops.1))
    have hk := h3 π a (ha x hops.2.1)
    have hv := h4 π a (ha v hops.2.2)
    obtain ⟨ms, hb, hes⟩ := hr.map hq hl
    obtain ⟨e1, res', e2, e3⟩ := h5 π _ ms.toList hk hes w
    cases res' with
    | none => exact e3.elim
    | some p' =>
      obtain ⟨e4, _⟩ := e3
      obtain ⟨mm, e5, e6, e7⟩ := h6 π _ _ ms.toList hk hv hes
      have hg := run_getObj_of (P := P) hb (by simp)
      obtain ⟨n, e8⟩ := run_keyStays (P := P) (a.eval x) w
      obtain ⟨w', e9, e10⟩ := setObj_turned (P := P) (w := { w with drawn := n }) (ob' := .map (ms.modify p.1 fun m => { m with key := a.eval x, val := a.eval v }) c) hb (by simp)
      refine ⟨π, w', .skip, _, ?_, rfl, conc_undef π, (Post.drawn hr n).trans (Post.turned (hr.drawn n) hq hl hN hH e10 ⟨?_, rfl⟩)⟩
      · have hget : ((ms[p'.1]?).map (·.key)).getD (a.eval x) = a.eval x := by
          rw [← e4, ← Array.getElem?_toList, e5]; exact e6
        rw [hrun]
        simp only [Instr.mapUpdate, Sem.run_bind, run_underlying hu, Result.andThen_ok, hm, hg, e1, e2, hget, e8]
        rw [← e4, e9]
        rfl
      · rw [Array.toList_modify]; exact e7

theorem wDelete_sound {o : Oper} {c : Call} {ty kt e : TypeId} {ts : List TypeId} {m x : Operand} (ho : o.op = .call c) (hc : c.callee = .builtin .delete) (ha : c.args.toList = [m, x]) (ht : c.argTypes.toList = ty :: ts) (hu : P.underlying ty = some (.map kt e)) : WSound P o (wDelete (ckT P 10 kt) (eqT P 10 kt) m x : W R) := by
  have ha' : c.args = #[m, x] := by rw [← ha]
  have ht' : c.argTypes[0]? = some ty := by rw [← Array.getElem?_toList, ht]; rfl
  have hops : m ∈ o.op.operands ∧ x ∈ o.op.operands := by simp [ho, Op.operands, Call.operands, hc, ha']
  intro t H k r h
  obtain ⟨vm, h1, h2⟩ := opK_inv (x := m) h
  obtain ⟨key, g1, h3⟩ := opK_inv (x := x) h1; clear h1
  cases vm <;> try (cases g1; done)
  case nilmap =>
    replace g1 : ckT P 10 kt key (k (.tup []) H) = some r := g1
    obtain ⟨h4, h5⟩ := ckT_ok 10 kt _ _ _ g1
    refine ⟨_, _, h4, fun π w a hr hao => ?_⟩
    have hx : a.eval m = .map none := (Option.some.inj (h2 π a (hao m hops.1))).symm
    have hk := h3 π a (hao x hops.2)
    refine ⟨π, w, .value (.tuple #[]), _, ?_, rfl, conc_mk_tup rfl, Post.refl hr⟩
    simp [execOp, ho, resolve, hc, ha', invoke, builtin, Builtin.delete_, ht', hx, run_underlying hu, h5 π _ hk true 10000 w (by decide)]
  case map q =>
    obtain ⟨es, cl, hq, g2⟩ := mapObjK_inv (show mapObjK H q (fun es c => ckT P 10 kt key <| findK (eqT P 10 kt) key es fun u => Option.casesOn u (k (.tup []) H) fun u => dropRow es u.1 fun es' => putH H q (.map es' c) fun H' => k (.tup []) H') = some r from g1)
    obtain ⟨res, g3, h5⟩ := find_inv g2; clear g2
    cases res with
    | none =>
      refine ⟨_, _, g3, fun π w a hr hao => ?_⟩
      obtain ⟨l, hl, hm⟩ := conc_map (h2 π a (hao m hops.1))
      have hk := h3 π a (hao x hops.2)
      obtain ⟨ms, hb, hes⟩ := hr.map hq hl
      obtain ⟨e1, res', e2, e3⟩ := h5 π _ ms.toList hk hes w
      cases res' with
      | some _ => exact e3.elim
      | none =>
        have hg := run_getObj_of (P := P) hb (by simp)
        obtain ⟨w', e4, e5⟩ := setObj_turned (P := P) (ob' := .map ms cl) hb (by simp)
        have hp : Post π H w π H w' := Post.turned (o' := .map es cl) hr hq hl rfl (fun n => by by_cases e : n = q <;> simp [e, hq]) e5 ⟨hes, rfl⟩
        refine ⟨π, w', .value (.tuple #[]), _, ?_, rfl, conc_mk_tup rfl, hp⟩
        simp [execOp, ho, resolve, hc, ha', invoke, builtin, Builtin.delete_, ht', hm, run_underlying hu, hg, e1, e2, e4]
    | some p =>
      replace g3 : dropRow es p.1 (fun es' => putH H q (.map es' cl) fun H' => k (.tup []) H') = some r := g3
      obtain ⟨es', g2, h6⟩ := dropRow_inv g3; clear g3
      obtain ⟨H', g3, hN, hH⟩ := putH_inv g2
      refine ⟨_, _, g3, fun π w a hr hao => ?_⟩
      obtain ⟨l, hl, hm⟩ := conc_map (h2 π a (hao m hops.1))
      have hk := h3 π a (hao x hops.2)
      obtain ⟨ms, hb, hes⟩ := hr.map hq hl
      obtain ⟨e1, res', e2, e3⟩ := h5 π _ ms.toList hk hes w
      cases res' with
      | none => exact e3.elim
      | some p' =>
        obtain ⟨e4, _⟩ := e3
        have hg := run_getObj_of (P := P) hb (by simp)
        obtain ⟨w', e5, e6⟩ := setObj_turned (P := P) (ob' := .map (ms.eraseIdxIfInBounds p'.1) cl) hb (by simp)
        refine ⟨π, w', .value (.tuple #[]), _, ?_, rfl, conc_mk_tup rfl, Post.turned hr hq hl hN hH e6 ⟨?_, rfl⟩⟩
        · simp [execOp, ho, resolve, hc, ha', invoke, builtin, Builtin.delete_, ht', hm, run_underlying hu, hg, e1, e2, e5]
        · have : (ms.eraseIdxIfInBounds p'.1).toList = ms.toList.eraseIdx p.1 := by rw [e4]; simp
          rw [this]; exact h6 π _ hes

/-! ### a step over a map -/
theorem hasN_eq (l : List Nat) (n : Nat) : hasN l n = l.contains n := by
  induction l with
  | nil => rfl
  | cons x l ih =>
    show (Bool.casesOn (Nat.beq x n) (hasN l n) true : Bool) = _
    rw [ih, List.contains_cons]
    have e : (n == x) = Nat.beq x n := by
      rw [← natBeq]; exact BEq.comm
    rw [e]
    cases Nat.beq x n <;> rfl
theorem leftK_inv (seen : List Nat) : ∀ {es : List (AV × AV × Nat)} {k : List (AV × AV × Nat) → Option R} {r : R}, leftK seen es k = some r →
    ∃ l, k l = some r ∧ ∀ π ms, ConcEs π es ms → ConcEs π l (ms.filter fun m => !seen.contains m.born)
  | [], k, r, h => ⟨[], h, fun π ms hm => by
      cases ms with
      | nil => trivial
      | cons _ _ => exact hm.elim⟩
  | x :: es, k, r, h => by
    rcases bcase_true (show (Bool.casesOn (hasN seen x.2.2) (leftK seen es fun t => k (x :: t)) (leftK seen es k) : Option R) = some r from h) with ⟨hb, h⟩ | ⟨hb, h⟩
    all_goals
      obtain ⟨l, h1, h2⟩ := leftK_inv seen h
      rw [hasN_eq] at hb
      refine ⟨_, h1, fun π ms hm => ?_⟩
      cases ms with
      | nil => exact hm.elim
      | cons m ms =>
        obtain ⟨⟨c1, c2, c3⟩, hm⟩ := hm
        rw [c3] at hb
        rw [List.filter_cons, hb]
        first | exact ⟨⟨c1, c2, c3⟩, h2 π ms hm⟩ | exact h2 π ms hm
theorem rowLt_spec {n : Nat} {π : Pi} : ∀ {es : List (AV × AV × Nat)} {ms : List MapEntry}, rowLt n es = true → ConcEs π es ms → (ms.all fun m => decide (m.born ≥ n)) = false
  | [], _, h, _ => by cases h
  | x :: es, [], _, hm => hm.elim
  | x :: es, m :: ms, h, hm => by
    have h : (Bool.casesOn (Nat.blt x.2.2 n) (rowLt n es) true : Bool) = true := h
    obtain ⟨⟨c1, c2, c3⟩, hm⟩ := hm
    rw [List.all_cons]
    cases hb : Nat.blt x.2.2 n with
    | true =>
      rw [Nat.blt_eq, c3] at hb
      rw [decide_eq_false (by omega)]; rfl
    | false =>
      rw [hb] at h
      rw [rowLt_spec h hm, Bool.and_false]

theorem run_choose_one {n : Nat} (h : n = 1) (w : World) : (choose (.mapNext n)).run P w = .ok 0 w := by
  subst h
  rw [run_choose]; rfl

theorem wNextMap_sound {o : Oper} {x : Operand} (ho : o.op = .next x false) : WSound P o (wNextMap x : W R) := by
  intro t H k r h
  obtain ⟨v, h1, h2⟩ := opK_inv (x := x) h
  obtain ⟨q, ob, rfl, hq, g1⟩ := itK_inv h1; clear h1
  cases ob <;> try (cases g1; done)
  rename_i mm since seen last
  cases mm with
  | none =>
    refine ⟨_, _, g1, fun π w a hr ha => ?_⟩
    obtain ⟨l, hl, hx⟩ := conc_ptr (h2 π a (ha x (by simp [ho, Op.operands])))
    obtain ⟨ob, h4, h5⟩ := hr.obj q _ l hq hl
    cases ob <;> simp only [ORel] at h5
    rename_i m' since' seen' last'
    obtain ⟨h6, rfl, rfl, rfl, h7⟩ := h5
    cases m' <;> simp only at h7
    have hg := run_getObj_of (P := P) h4 (by simp)
    have hl0 : l.shift + 0 = 0 := by omega
    refine ⟨π, w, .value (.tuple #[.bool false]), _, ?_, rfl, conc_over π, Post.refl hr⟩
    simp only [execOp, ho, Instr.next, hx, hl0, Sem.run_bind, hg, Result.andThen_ok, Sem.run_pure]
  | some m =>
    obtain ⟨es, c, hm, g2⟩ := mapObjK_inv (show mapObjK H m (fun es c => List.casesOn es (k over H) fun _ _ => Bool.casesOn (rowLt last es) none (leftK seen es fun l => nextRow m since c q seen H l k)) = some r from g1)
    clear g1
    -- what the machine sees
    have pre : ∀ π w (a : Act), Rel π H w → (∀ x ∈ o.op.operands, EnvAt π t a x) → ∃ l lm ms, π q = some l ∧ a.eval x = .pointer (some ⟨l.block, 0, none⟩) ∧ l.shift = 0 ∧ w.heap[l.block]? = some (.mapIter (some lm.block) since seen.toArray last) ∧ π m = some lm ∧ w.heap[lm.block]? = some (.map ms c) ∧ ConcEs π es ms.toList := by
      intro π w a hr ha
      obtain ⟨l, hl, hx⟩ := conc_ptr (h2 π a (ha x (by simp [ho, Op.operands])))
      obtain ⟨ob, h4, h5⟩ := hr.obj q _ l hq hl
      cases ob <;> simp only [ORel] at h5
      rename_i m' since' seen' last'
      obtain ⟨h6, rfl, rfl, rfl, h7⟩ := h5
      cases m' <;> simp only at h7
      obtain ⟨lm, h8, h9⟩ := h7
      obtain ⟨ms, h10, h11⟩ := hr.map hm h8
      subst h9
      exact ⟨l, lm, ms, hl, by rw [hx]; simp [h6], h6, h4, h8, h10, h11⟩
    cases es with
    | nil =>
      refine ⟨_, _, g2, fun π w a hr ha => ?_⟩
      obtain ⟨l, lm, ms, hl, hx, h6, h4, h8, h10, h11⟩ := pre π w a hr ha
      have hms : ms = #[] := by
        cases e : ms.toList with
        | nil => simpa using e
        | cons _ _ => rw [e] at h11; exact h11.elim
      subst hms
      have hg := run_getObj_of (P := P) h4 (by simp)
      have hg2 := run_getObj_of (P := P) h10 (by simp)
      refine ⟨π, w, .value (.tuple #[.bool false]), _, ?_, rfl, conc_over π, Post.refl hr⟩
      simp [execOp, ho, Instr.next, hx, hg, hg2, Question.forced]
    | cons e0 es0 =>
      obtain ⟨hlt, g1⟩ := bcase_none (show (Bool.casesOn (rowLt last (e0 :: es0)) none (leftK seen (e0 :: es0) fun l => nextRow m since c q seen H l k) : Option R) = some r from g2)
      clear g2
      obtain ⟨left, g2, h12⟩ := leftK_inv seen g1
      clear g1
      have noHalt : ∀ π (ms : Array MapEntry), ConcEs π (e0 :: es0) ms.toList → (!seen.toArray.isEmpty && !ms.isEmpty && ms.all fun x => decide (x.born ≥ last)) = false := by
        intro π ms hms
        have := rowLt_spec hlt hms
        rw [← Array.all_toList, this, Bool.and_false]
      have filt : ∀ (ms : Array MapEntry), (ms.filter fun e => !seen.toArray.contains e.born).toList = ms.toList.filter fun m => !seen.contains m.born := by
        intro ms; simp
      cases left with
      | nil =>
        refine ⟨_, _, g2, fun π w a hr ha => ?_⟩
        obtain ⟨l, lm, ms, hl, hx, h6, h4, h8, h10, h11⟩ := pre π w a hr ha
        have hleft := h12 π _ h11
        have hnil : (ms.filter fun e => !seen.toArray.contains e.born) = #[] := by
          have := filt ms
          cases e : ms.toList.filter (fun m => !seen.contains m.born) with
          | nil => rw [e] at this; simpa using this
          | cons _ _ => rw [e] at hleft; exact hleft.elim
        have hg := run_getObj_of (P := P) h4 (by simp)
        have hg2 := run_getObj_of (P := P) h10 (by simp)
        refine ⟨π, w, .value (.tuple #[.bool false]), _, ?_, rfl, conc_over π, Post.refl hr⟩
        have hch := run_choose_one (P := P) (n := 1) rfl w
        simp only [execOp, ho, Instr.next, hx, Sem.run_bind, hg, Result.andThen_ok, hg2, noHalt π ms h11, Bool.false_eq_true, if_false, hnil, Sem.run_pure]
        simp [hch]
      | cons e1 left =>
        cases left with
        | cons _ _ => cases g2
        | nil =>
          obtain ⟨ka, va, s⟩ := e1
          obtain ⟨hs, g1⟩ := bcase_none (show (Bool.casesOn (Nat.blt s since) none (appK seen [s] fun seen' => putH H q (.mapit (some m) since seen' c) fun H' => k (.tup [.bool true, ka, va]) H') : Option R) = some r from g2)
          clear g2
          rw [Nat.blt_eq] at hs
          rw [appK_eq] at g1
          obtain ⟨H', g2, hN, hH⟩ := putH_inv g1
          refine ⟨_, _, g2, fun π w a hr ha => ?_⟩
          obtain ⟨l, lm, ms, hl, hx, h6, h4, h8, h10, h11⟩ := pre π w a hr ha
          have hleft := h12 π _ h11
          have hone : ∃ e, (ms.filter fun e => !seen.toArray.contains e.born) = #[e] ∧ conc π ka = some e.key ∧ conc π va = some e.val ∧ s = e.born := by
            have := filt ms
            cases ee : ms.toList.filter (fun m => !seen.contains m.born) with
            | nil => rw [ee] at hleft; exact hleft.elim
            | cons e rest =>
              rw [ee] at hleft this
              cases rest with
              | cons _ _ => exact hleft.2.elim
              | nil => exact ⟨e, by rw [← Array.toList_inj]; exact this, hleft.1.1, hleft.1.2.1, hleft.1.2.2⟩
          obtain ⟨e, h13, h14, h15, h16⟩ := hone
          have hg := run_getObj_of (P := P) h4 (by simp)
          have hg2 := run_getObj_of (P := P) h10 (by simp)
          obtain ⟨w', h17, h18⟩ := setObj_turned (P := P) (ob' := .mapIter (some lm.block) since (seen.toArray.push e.born) c) h4 (by simp)
          refine ⟨π, w', .value (.tuple #[.bool true, e.key, e.val]), _, ?_, rfl, conc_mk_tup (concs_mk rfl (concs_mk h14 (concs_one h15))), Post.turned hr hq hl hN hH h18 ⟨h6, rfl, by simp [h16], rfl, lm, h8, rfl⟩⟩
          have hch := run_choose_one (P := P) (n := 1) rfl w
          have hs1 : e.born < since := by omega
          have hs2 : ¬ since ≤ e.born := by omega
          simp only [execOp, ho, Instr.next, hx, Sem.run_bind, hg, Result.andThen_ok, hg2, noHalt π ms h11, Bool.false_eq_true, if_false, h13, Sem.run_pure]
          rw [show seen.toArray.push e.born = (seen ++ [e.born]).toArray by simp] at h17
          simp [hs1, hs2, hch, h17]

end
end Go.Ev

set_option linter.unusedSectionVars false
namespace Go.Ev
section
variable [Sym]
variable {P : Program} {R : Type}

theorem lenV_inv {x : AV} {k : Nat → Option R} {r : R} (h : lenV x k = some r) : ∃ n, k n = some r ∧ ∀ π u, conc π x = some u → (∀ w, (Builtin.lenOf u).run P w = .ok n w) ∧ (∀ p n' c, u = .slice p n' c → n' = n) := by
  cases x <;> try (cases h; done)
  case str s =>
    rw [show lenV (AV.str s) k = lenK s k from rfl, lenK_eq] at h
    refine ⟨_, h, fun π u hu => ?_⟩
    obtain ⟨_, rfl⟩ := conc_str hu
    exact ⟨fun w => by simp [Builtin.lenOf, bytesV_size], fun p n' c e => by cases e⟩
  case nilsl =>
    refine ⟨0, h, fun π u hu => ?_⟩
    cases hu
    exact ⟨fun w => rfl, fun p n' c e => by cases e; rfl⟩
  case sl q o a n c =>
    refine ⟨n, h, fun π u hu => ?_⟩
    obtain ⟨l, off, cap, _, rfl, _⟩ := conc_sl hu
    exact ⟨fun w => rfl, fun p n' c e => by cases e; rfl⟩

theorem firstK_inv {esz n : Nat} {x : AV} {H : Heap} {k : List AV → Option R} {r : R} (h : firstK esz n x H k = some r) : ∃ cs, k cs = some r ∧ cs.length = n * esz ∧ (∀ q o a len c, x = .sl q o a len c → n = 0 ∨ ∃ cs0, H.get q = some (.cells cs0) ∧ cs = (cs0.drop o).take (n * esz) ∧ o + n * esz ≤ cs0.length) ∧
    ∀ π w, Rel π H w → ∀ u, conc π x = some u → (∀ p n' c, u = .slice p n' c → n ≤ n') → ∃ us, concs π cs = some us ∧ AV.flats cs = true ∧ (Builtin.firstCells esz n u).run P w = .ok us.toArray w := by
  cases x <;> try (cases h; done)
  case str s =>
    obtain ⟨hb, g⟩ := bcase_none (show (Bool.casesOn (Nat.beq esz 1) none (takeK n s fun s' => mapK (fun b k => k (AV.int .u8 (Int.ofNat b))) s' k) : Option R) = some r from h); clear h
    have hb := Nat.eq_of_beq_eq_true hb
    rw [takeK_eq] at g
    subst hb
    split at g
    · rename_i hlt
      rw [mapU8] at g
      refine ⟨_, g, by simp; omega, (fun _ _ _ _ _ h => by cases h), fun π w _ u hu _ => ?_⟩
      obtain ⟨hs, rfl⟩ := conc_str hu
      refine ⟨_, concs_bytes _, flats_bytes _, ?_⟩
      have hs' : small (s.take n) = true := by
        unfold small at hs ⊢; rw [List.all_eq_true] at hs ⊢; exact fun y hy => hs y (List.mem_of_mem_take hy)
      have he : (bytesV s).extract 0 n = bytesV (s.take n) := by
        apply ByteArray.ext
        simp only [ByteArray.data_extract, bytesV, List.extract_toArray, List.extract_eq_take_drop, List.map_take, List.drop_zero, Nat.sub_zero]
      simp only [Builtin.firstCells, Sem.run_pure, he, cells_bytes hs']
    · cases g
  case nilsl =>
    cases n with
    | succ _ => cases h
    | zero =>
      refine ⟨[], h, by simp, fun _ _ _ _ _ _ => .inl rfl, fun π w _ u hu _ => ⟨[], rfl, rfl, ?_⟩⟩
      cases hu
      rfl
  case sl q o a len c =>
    cases n with
    | zero =>
      refine ⟨[], h, by simp, fun _ _ _ _ _ _ => .inl rfl, fun π w _ u hu _ => ⟨[], rfl, rfl, ?_⟩⟩
      obtain ⟨l, off, cap, _, rfl, _⟩ := conc_sl hu
      simp [Builtin.firstCells, loadCells, loadCellsFrom]
    | succ n =>
      obtain ⟨cs, hq, h⟩ := rowK_inv (show rowK H q (fun cs => slotsK cs o (Nat.mul (n + 1) esz) k) = some r from h)
      rw [slotsK_eq] at h
      split at h
      · rename_i hlt
        have hlt : o + (n + 1) * esz ≤ cs.length := hlt
        refine ⟨_, h, ?_, (fun _ _ _ _ _ h => by cases h; exact .inr ⟨cs, hq, rfl, hlt⟩), fun π w hr u hu hn => ?_⟩
        · show ((cs.drop o).take ((n + 1) * esz)).length = _
          simp; omega
        · obtain ⟨l, off, cap, hl, rfl, hc, hoff⟩ := conc_sl hu
          have := hn _ _ _ rfl
          have := hoff (by omega)
          subst this
          obtain ⟨us, g1, g2, g3, g4⟩ := hr.slots (P := P) hq hl hlt
          exact ⟨us, g1, g2, g4⟩
      · cases h


/-! ### regions that go, and come -/
theorem Post.killed {π : Pi} {H H' : Heap} {w : World} {r : Nat} {l : Loc} (h : Rel π H w) (hl : π r = some l) (hn : H'.next = H.next) (hH : ∀ m, H'.get m = if m = r then none else H.get m) : Post π H w π H' w := by
  have sub : ∀ q x, H'.get q = some x → H.get q = some x ∧ q ≠ r := fun q x hx => by
    rw [hH] at hx
    by_cases e : q = r
    · rw [if_pos e] at hx; cases hx
    · rw [if_neg e] at hx; exact ⟨hx, e⟩
  refine ⟨Pi.le.refl _, ⟨fun q hq => h.dom q (hn ▸ hq), fun q x lq h1 h2 => h.obj q x lq (sub q x h1).1 h2, fun a b x y la lb h1 h2 => h.inj a b x y la lb (sub a x h1).1 (sub b y h2).1, fun q hq => by
    rw [hH]
    by_cases e : q = r
    · rw [if_pos e]
    · rw [if_neg e]; exact h.top q (hn ▸ hq), h.low, fun q x lq h1 h2 => h.high q x lq (sub q x h1).1 h2, h.zero⟩, Nat.le_of_eq hn.symm, rfl, rfl, rfl, Nat.le_refl _, fun _ _ _ => rfl, ?_, ?_⟩
  · rintro b ⟨q, x, lq, h1, h2, h3⟩
    exact .inl ⟨q, x, lq, (sub q x h1).1, h2, h3⟩
  · intro q hq hπ
    refine ⟨hπ, ?_⟩
    rw [hH, if_neg (fun e => by subst e; rw [hl] at hπ; cases hπ)]

/-- A region whose block is now another region's. -/
theorem Post.moved {π : Pi} {H H' : Heap} {w w' : World} {r : Nat} {o o' : AObj} {l l' : Loc} {ob : Obj} (h : Rel π H w) (ho : H.get r = some o) (hl : π r = some l) (hn : H'.next = H.next + 1)
    (hH : ∀ m, H'.get m = if m = H.next then some o' else if m = r then none else H.get m) (ht : Turned w w' l.block ob) (hb : l'.block = l.block) (hrel : ORel π o' l' ob) : ∃ π', π' H.next = some l' ∧ Post π H w π' H' w' := by
  have hπ : π H.next = none := h.dom _ (Nat.le_refl _)
  have hrn : r ≠ H.next := fun e => by rw [e, hπ] at hl; cases hl
  have hle : π.le (fun q => if q = H.next then some l' else π q) := fun q lq hq => by
    by_cases e : q = H.next
    · subst e; rw [hπ] at hq; cases hq
    · simp only [if_neg e]; exact hq
  have sub : ∀ q x, q ≠ H.next → H'.get q = some x → H.get q = some x ∧ q ≠ r := fun q x hne hx => by
    rw [hH, if_neg hne] at hx
    by_cases e : q = r
    · rw [if_pos e] at hx; cases hx
    · rw [if_neg e] at hx; exact ⟨hx, e⟩
  refine ⟨_, by simp, ⟨hle, ⟨?_, ?_, ?_, fun q hq => by
    rw [hH, if_neg (show ¬ q = H.next by omega)]
    by_cases e : q = r
    · rw [if_pos e]
    · rw [if_neg e]; exact h.top q (by omega), h.low.mono (Nat.le_of_eq ht.size.symm) fun b hb => ht.other b fun e => by
      have := h.high r o l ho hl
      omega, fun q x lq h1 h2 => by
    by_cases e : q = H.next
    · simp only [if_pos e] at h2; cases h2
      rw [hb]
      exact h.high r o l ho hl
    · simp only [if_neg e] at h2
      exact h.high q x lq (sub q x e h1).1 h2, fun l hl => hle _ _ (h.zero l hl)⟩, by omega, ht.os, ht.tape, ht.output, Nat.le_of_eq ht.size.symm, ?_, ?_, ?_⟩⟩
  · intro q hq
    have e : q ≠ H.next := by omega
    simp only [if_neg e]
    exact h.dom q (by omega)
  · intro q x lq h1 h2
    by_cases e : q = H.next
    · rw [hH, if_pos e] at h1; cases h1
      simp only [if_pos e] at h2; cases h2
      exact ⟨ob, by rw [hb]; exact ht.at_, hrel.mono hle⟩
    · obtain ⟨g1, g2⟩ := sub q x e h1
      simp only [if_neg e] at h2
      obtain ⟨ob', h3, h4⟩ := h.obj q x lq g1 h2
      refine ⟨ob', ?_, h4.mono hle⟩
      rw [ht.other _ (fun e2 => g2 (h.inj q r x o lq l g1 ho h2 hl e2))]
      exact h3
  · intro a b x y la lb h1 h2 h3 h4 h5
    by_cases ea : a = H.next
    · by_cases eb : b = H.next
      · rw [ea, eb]
      · obtain ⟨g1, g2⟩ := sub b y eb h2
        simp only [if_pos ea] at h3; cases h3
        simp only [if_neg eb] at h4
        exact absurd (h.inj b r y o lb l g1 ho h4 hl (by rw [← h5, hb])) g2
    · obtain ⟨g1, g2⟩ := sub a x ea h1
      simp only [if_neg ea] at h3
      by_cases eb : b = H.next
      · simp only [if_pos eb] at h4; cases h4
        exact absurd (h.inj a r x o la l g1 ho h3 hl (by rw [h5, hb])) g2
      · obtain ⟨g3, g4⟩ := sub b y eb h2
        simp only [if_neg eb] at h4
        exact h.inj a b x y la lb g1 g3 h3 h4 h5
  · intro b hb' ho'
    exact ht.other b (fun e => ho' ⟨r, o, l, ho, hl, e.symm⟩)
  · rintro b ⟨q, x, lq, h1, h2, h3⟩
    by_cases e : q = H.next
    · simp only [if_pos e] at h2; cases h2
      exact .inl ⟨r, o, l, ho, hl, by rw [← h3, hb]⟩
    · obtain ⟨g1, g2⟩ := sub q x e h1
      simp only [if_neg e] at h2
      exact .inl ⟨q, x, lq, g1, h2, h3⟩
  · intro q hq hπq
    have e : q ≠ H.next := by omega
    simp only [if_neg e]
    refine ⟨hπq, ?_⟩
    rw [hH, if_neg e, if_neg (fun e => by subst e; rw [hl] at hπq; cases hπq)]

/-! ### append -/
theorem growBy_le (n : Nat) : ∀ rounds c, c ≤ 2 * n + 768 → Builtin.growBy n rounds c ≤ 2 * n + 768
  | 0, c, h => h
  | r + 1, c, h => by
    unfold Builtin.growBy
    split
    · exact h
    · exact growBy_le n r _ (by omega)
theorem nextslicecap_le {n c : Nat} (h : c < n) : Builtin.nextslicecap n c ≤ 2 * n + 768 := by
  unfold Builtin.nextslicecap
  split
  · omega
  · split
    · omega
    · exact growBy_le n 4 c (by omega)

/-- What the machine's append comes to: in its place, or in another. -/
def AppendRuns (P : Program) (s : Sem Value) (w : World) (base : Option Addr) (n m cap size : Nat) (us : List Value) (e : TypeId) (zu : Value) : Prop :=
  (n + m ≤ cap → ∀ w', (match base with | some a => (storeCells (a.add (n * size)) us).run P w | none => .ok () w) = .ok () w' → s.run P w = .ok (.slice base (n + m) cap) w') ∧
  (¬ n + m ≤ cap → ∀ old : List Value, (Builtin.firstCells size n (.slice base n cap)).run P { w with drawn := w.drawn + 1 } = .ok old.toArray { w with drawn := w.drawn + 1 } →
    ∃ nc, n + m ≤ nc ∧ s.run P w = .ok (.slice (some ⟨w.heap.size, 0, none⟩) (n + m) nc) (({ w with drawn := w.drawn + 1 } : World).alloc (.cells (old.toArray ++ us.toArray ++ Builtin.zeroCells zu.cells (nc - (n + m))) e)))

theorem run_append_x {a b e ty : TypeId} {d : TypeDesc} {size by_ n m cap : Nat} {base : Option Addr} {x zu : Value} {us : List Value} {w : World} (hu : P.underlying a = some (.slice e)) (hd : P.underlying b = some d) (hno : ∀ k, d ≠ .int k) (hsz : sizeT P e = some size) (hby : bytesT P e = some by_)
    (hz : ∀ w, (zeroValue e).run P w = .ok zu w) (hb : by_ ≤ 100000) (hm : n + m ≤ 100000000) (hlen : ∀ w, (Builtin.lenOf x).run P w = .ok m w) (hfirst : ∀ k, (Builtin.firstCells size m x).run P { w with drawn := k } = .ok us.toArray { w with drawn := k }) :
    AppendRuns P (Builtin.append_ #[a, b] ty #[.slice base n cap, x]) w base n m cap size us e zu := by
  unfold bytesT at hby
  cases hi : infoQ P e with
  | none => rw [hi] at hby; cases hby
  | some i =>
    rw [hi] at hby
    have hbi : i.bytes = by_ := by cases hby; rfl
    have hti : ∀ w, (typeInfo e).run P w = .ok i w := fun w => run_info (infoQ_some hi) w
    have e1 : (#[a, b] : Array TypeId)[0]? = some a := rfl
    have e2 : (#[a, b] : Array TypeId)[1]? = some b := rfl
    have e3 : (#[Value.slice base n cap, x] : Array Value)[0]? = some (.slice base n cap) := rfl
    have e4 : (#[Value.slice base n cap, x] : Array Value)[1]? = some x := rfl
    cases d <;> first | exact absurd rfl (hno _) | skip
    all_goals
      refine ⟨fun hle w' hst => ?_, fun hgt old hold => ?_⟩
      · have hf : (Builtin.firstCells size m x).run P w = .ok us.toArray w := hfirst w.drawn
        unfold Builtin.append_
        simp only [e1, e2, e3, e4, Sem.run_bind, run_underlying hu, run_underlying hd, Result.andThen_ok, run_size hsz, Sem.run_pure, Bool.false_eq_true, if_false, hlen, hle, if_true, Bool.not_false, hf]
        cases base with
        | none => cases hst; rfl
        | some ad => simp only [Sem.run_bind, hst, Result.andThen_ok, Sem.run_pure]
      · let q : Question := .appendCap (n + m) cap e
        have hq : (choose (.appendCap (n + m) cap e)).run P w = .ok (q.cut (w.tape w.drawn q)) { w with drawn := w.drawn + 1 } := by rw [run_choose]; rfl
        have hnc : n + m ≤ q.cut (w.tape w.drawn q) := Nat.le_add_right _ _
        have hmax : IntKind.i64.max = 9223372036854775807 := by decide
        have c1 : ¬ (((n + m : Nat) : Int) > IntKind.i64.max ∧ (False ∨ by_ = 0)) := by rw [hmax]; omega
        have hns := nextslicecap_le (show cap < n + m by omega)
        have c2 : ¬ (Builtin.nextslicecap (n + m) cap * by_ > 2 ^ 48) := by
          have h1 : Builtin.nextslicecap (n + m) cap * by_ ≤ 200000768 * 100000 := Nat.mul_le_mul (by omega) hb
          have h2 : 200000768 * 100000 < 2 ^ 48 := by decide
          omega
        have hf := hfirst (w.drawn + 1)
        refine ⟨_, hnc, ?_⟩
        unfold Builtin.append_
        simp only [e1, e2, e3, e4, Sem.run_bind, run_underlying hu, run_underlying hd, Result.andThen_ok, run_size hsz, Sem.run_pure, Bool.false_eq_true, if_false, hlen, hgt, if_true, Bool.not_false, hti, hbi, if_neg c1, if_neg c2, hq, run_askRoom, hold, hf, hz, newRow, run_newObj']

theorem run_append_z {a b e ty : TypeId} {kd j : IntKind} {size by_ n m cap : Nat} {base : Option Addr} {zu : Value} {us : List Value} {w : World} (hu : P.underlying a = some (.slice e)) (hd : P.underlying b = some (.int kd)) (hsz : sizeT P e = some size) (hby : bytesT P e = some by_)
    (hz : ∀ w, (zeroValue e).run P w = .ok zu w) (hb : by_ ≤ 100000) (hm : n + m ≤ 100000000) (hm0 : ¬ m * size = 0) (hus : us.toArray = Builtin.zeroCells zu.cells m) :
    AppendRuns P (Builtin.append_ #[a, b] ty #[.slice base n cap, .int j (m : Int)]) w base n m cap size us e zu := by
  unfold bytesT at hby
  cases hi : infoQ P e with
  | none => rw [hi] at hby; cases hby
  | some i =>
    rw [hi] at hby
    have hbi : i.bytes = by_ := by cases hby; rfl
    have hti : ∀ w, (typeInfo e).run P w = .ok i w := fun w => run_info (infoQ_some hi) w
    have e1 : (#[a, b] : Array TypeId)[0]? = some a := rfl
    have e2 : (#[a, b] : Array TypeId)[1]? = some b := rfl
    have e3 : (#[Value.slice base n cap, .int j (m : Int)] : Array Value)[0]? = some (.slice base n cap) := rfl
    have e4 : (#[Value.slice base n cap, .int j (m : Int)] : Array Value)[1]? = some (.int j (m : Int)) := rfl
    have w1 : IntKind.i64.wrap (m : Int) = (m : Int) := by rw [IntKind.wrap_i64]; omega
    have w2 : ¬ (m : Int) < 0 := by omega
    have w3 : ¬ ((m : Int) * (by_ : Int) > 2 ^ 48) := by
      have h1 : m * by_ ≤ 100000000 * 100000 := Nat.mul_le_mul (by omega) hb
      have h2 : ((m * by_ : Nat) : Int) = (m : Int) * (by_ : Int) := Int.natCast_mul m by_
      have h3 : 100000000 * 100000 < 2 ^ 48 := by decide
      omega
    refine ⟨fun hle w' hst => ?_, fun hgt old hold => ?_⟩
    · unfold Builtin.append_
      simp only [e1, e2, e3, e4, Sem.run_bind, run_underlying hu, run_underlying hd, Result.andThen_ok, run_size hsz, Sem.run_pure, if_true, asInt, asIntOf, w1, if_neg w2, hti, hbi, if_neg w3, Int.toNat_natCast, hle, Bool.not_true, Bool.false_eq_true, if_false, if_neg hm0, hz]
      rw [← hus]
      cases base with
      | none => cases hst; rfl
      | some ad => simp only [Sem.run_bind, hst, Result.andThen_ok, Sem.run_pure]
    · let q : Question := .appendCap (n + m) cap e
      have hq : (choose (.appendCap (n + m) cap e)).run P w = .ok (q.cut (w.tape w.drawn q)) { w with drawn := w.drawn + 1 } := by rw [run_choose]; rfl
      have hnc : n + m ≤ q.cut (w.tape w.drawn q) := Nat.le_add_right _ _
      have hmax : IntKind.i64.max = 9223372036854775807 := by decide
      have c1 : ¬ (((n + m : Nat) : Int) > IntKind.i64.max ∧ (True ∨ by_ = 0)) := by rw [hmax]; omega
      have hns := nextslicecap_le (show cap < n + m by omega)
      have c2 : ¬ (Builtin.nextslicecap (n + m) cap * by_ > 2 ^ 48) := by
        have h1 : Builtin.nextslicecap (n + m) cap * by_ ≤ 200000768 * 100000 := Nat.mul_le_mul (by omega) hb
        have h2 : 200000768 * 100000 < 2 ^ 48 := by decide
        omega
      refine ⟨_, hnc, ?_⟩
      unfold Builtin.append_
      simp only [e1, e2, e3, e4, Sem.run_bind, run_underlying hu, run_underlying hd, Result.andThen_ok, run_size hsz, Sem.run_pure, if_true, asInt, asIntOf, w1, if_neg w2, hti, hbi, if_neg w3, Int.toNat_natCast, hgt, Bool.not_true, Bool.false_eq_true, if_false, if_neg hm0, hz, if_neg c1, if_neg c2, hq, run_askRoom, hold, newRow, run_newObj']
      rw [← hus]

theorem capK_un {H : Heap} {r o n e : Nat} {k : Nat → Option R} {x : R} (h : capK H r o n (.un e) k = some x) : ∃ cs, H.get r = some (.cells cs) := by
  replace h : getT H.t r (fun x => match x with
    | .cells cs => minus cs o fun m => Nat.casesOn e none fun _ => natK (Nat.max n (Nat.div m e)) k
    | _ => none) = some x := h
  rw [getT_eq] at h
  cases hg : H.t.get r with
  | none => rw [hg] at h; cases h
  | some ob =>
    rw [hg] at h
    cases ob <;> first | exact ⟨_, hg⟩ | cases h

/-- The value of an append, and the heap after it. -/
theorem appendK_inv {esz m : Nat} {s : AV} {new : List AV} {H : Heap} {k : AV → Heap → Option R} {r : R} (h : appendK esz s m new H k = some r) (hesz : 0 < esz) (hm : 0 < m) (hnew : new.length = m * esz) : ∃ v H', k v H' = some r ∧
    ∀ π w, Rel π H w → ∀ us zu (e : TypeId) (sem : Sem Value) base n cap, conc π s = some (.slice base n cap) → concs π new = some us → AV.flats new = true → zu.cells.size = esz → AppendRuns P sem w base n m cap esz us e zu →
      ∃ π' w' u, sem.run P w = .ok u w' ∧ conc π' v = some u ∧ Post π H w π' H' w' := by
  -- another place
  have other : ∀ {π : Pi} {H0 H' : Heap} {w : World} {us olds zu e} {sem : Sem Value} {base n cap} {old : List AV}, Rel π H0 w → H'.next = H0.next + 1 → (∀ q, H'.get q = if q = H0.next then some (.cells (old ++ new)) else H0.get q) →
      old.length = n * esz → concs π old = some olds → AV.flats old = true → concs π new = some us → AV.flats new = true → zu.cells.size = esz → AppendRuns P sem w base n m cap esz us e zu → ¬ n + m ≤ cap →
      (Builtin.firstCells esz n (.slice base n cap)).run P { w with drawn := w.drawn + 1 } = .ok olds.toArray { w with drawn := w.drawn + 1 } →
      ∃ π' w' u, sem.run P w = .ok u w' ∧ conc π' (.sl H0.next 0 0 (n + m) (.un esz)) = some u ∧ Post π H0 w π' H' w' := by
    intro π H0 H' w us olds zu e sem base n cap old hr hN hH hlen ho hof hn hnf hz hrun hgt hfc
    obtain ⟨nc, h1, h2⟩ := hrun.2 hgt olds hfc
    have l1 := concs_length ho
    have l2 := concs_length hn
    have hsum : (n + m) * esz = n * esz + m * esz := Nat.add_mul n m esz
    have hge : (n + m) * esz ≤ nc * esz := Nat.mul_le_mul_right esz h1
    have hrest : (nc - (n + m)) * esz = nc * esz - (n + m) * esz := Nat.sub_mul nc (n + m) esz
    have hrel : ORel π (.cells (old ++ new)) ⟨w.heap.size, 0, nc * esz⟩ (.cells (olds.toArray ++ us.toArray ++ Builtin.zeroCells zu.cells (nc - (n + m))) e) := by
      refine ⟨olds ++ us, concs_append ho hn, flats_append hof hnf, ?_, ?_, fun i hi => ?_, fun i _ _ h => absurd h.2 (Nat.not_lt_zero _)⟩
      · simp [Builtin.zeroCells, hz]; omega
      · simp; omega
      · simp only [List.length_append] at hi
        rw [Array.getElem?_append_left (by simp; omega)]
        simp
    obtain ⟨π', h3, h4⟩ := Post.newRegion (n := w.drawn + 1) hr rfl hN hH rfl hrel
    refine ⟨π', _, _, h2, ?_, h4⟩
    rw [conc_mk_un h3 hesz (by simp only; omega)]
    simp only [Nat.sub_zero, Nat.mul_div_cancel _ hesz, ite_self, Nat.add_zero]
  cases s <;> try (cases h; done)
  case nilsl =>
    obtain ⟨H', h1, hN, hH⟩ := newH_inv (show newH H (.cells new) (fun r H' => k (.sl r 0 0 m (.un esz)) H') = some r from h)
    refine ⟨_, _, h1, fun π w hr us zu e sem base n cap hs hn hnf hz hrun => ?_⟩
    cases hs
    have := other (old := []) (olds := []) hr hN (by simpa using hH) (by simp) rfl rfl hn hnf hz hrun (by omega) rfl
    simpa using this
  case sl q o al len c =>
    let F : Nat → Option R := fun cap => natK (Nat.add len m) fun n' => Bool.casesOn (leB n' cap)
      (firstK esz len (.sl q o al len c) H fun old => appK old new fun cs => grownK c esz q n' cs H k)
      (rowK H q fun cs => layK (Nat.add o (Nat.mul len esz)) cs new fun cs' => putH H q (.cells cs') fun H' => k (.sl q o al n' c) H')
    replace h : capK H q o len c F = some r := h
    have split : ∀ cap', F cap' = some r → (¬ len + m ≤ cap' ∧ firstK esz len (.sl q o al len c) H (fun old => appK old new fun cs => grownK c esz q (len + m) cs H k) = some r) ∨ (len + m ≤ cap' ∧ (rowK H q fun cs => layK (Nat.add o (Nat.mul len esz)) cs new fun cs' => putH H q (.cells cs') fun H' => k (.sl q o al (len + m) c) H') = some r) := by
      intro cap' h1
      simp only [F] at h1
      rw [natK_eq] at h1
      rcases bcase_true h1 with ⟨hb, h1⟩ | ⟨hb, h1⟩
      · left
        refine ⟨fun hle => ?_, h1⟩
        rw [← leB_le] at hle
        rw [show leB (Nat.add len m) cap' = leB (len + m) cap' from rfl, hle] at hb
        cases hb
      · right
        rw [leB_le] at hb
        exact ⟨hb, h1⟩
    have inplace : ∀ cap', len + m ≤ cap' → (rowK H q fun cs => layK (Nat.add o (Nat.mul len esz)) cs new fun cs' => putH H q (.cells cs') fun H' => k (.sl q o al (len + m) c) H') = some r →
        (∀ π w, Rel π H w → ∀ p n' cap, conc π (.sl q o al len c) = some (.slice p n' cap) → cap' ≤ cap) → ∃ v H', k v H' = some r ∧
        ∀ π w, Rel π H w → ∀ us zu (e : TypeId) (sem : Sem Value) base n cap, conc π (.sl q o al len c) = some (.slice base n cap) → concs π new = some us → AV.flats new = true → zu.cells.size = esz → AppendRuns P sem w base n m cap esz us e zu →
        ∃ π' w' u, sem.run P w = .ok u w' ∧ conc π' v = some u ∧ Post π H w π' H' w' := by
      intro cap' hb h1 hcap
      obtain ⟨cs, hq, h2⟩ := rowK_inv h1
      rw [layK_eq] at h2
      split at h2
      · rename_i hlt
        obtain ⟨H', h3, hN, hH⟩ := putH_inv h2
        refine ⟨_, _, h3, fun π w hr us zu e sem base n cap hs hn hnf hz hrun => ?_⟩
        have hle := hcap π w hr _ _ _ hs
        obtain ⟨L, off, cap2, hL, he, hlc, hoff⟩ := conc_sl hs
        cases he
        have := hoff (by omega)
        subst this
        obtain ⟨w', h4, h5⟩ := hr.write (P := P) hq hL hn hnf hlt hN hH
        refine ⟨π, w', _, hrun.1 (by omega) w' ?_, ?_, h5⟩
        · simp only [add_at, Nat.add_assoc]; exact h4
        · obtain ⟨L', hL', hcc⟩ := conc_sl2 hs
          rw [hL] at hL'; cases hL'
          cases c with
          | ex c =>
            obtain ⟨_, hcc⟩ := hcc
            have e1 : cap = c := (Value.slice.inj hcc).2.2
            subst e1
            exact conc_mk_ex hL (by omega)
          | z e0 =>
            obtain ⟨_, hcc⟩ := hcc
            have e1 : cap = 0 := by exact (Value.slice.inj hcc).2.2
            omega
          | un e0 =>
            obtain ⟨⟨g1, g2⟩, hcc⟩ := hcc
            have e1 : cap = (L.cap - off) / e0 := by exact (Value.slice.inj hcc).2.2
            have e2 : (len + m) * e0 ≤ L.cap - off := by rw [← Nat.le_div_iff_mul_le g1]; omega
            rw [conc_mk_un hL g1 (by omega), if_neg (by omega), e1]
      · cases h2
    cases c with
    | ex c =>
      rcases split c h with ⟨hgt, h1⟩ | ⟨hle, h1⟩
      · obtain ⟨old, h2, hol, hos, hof⟩ := firstK_inv (P := P) h1
        rw [appK_eq] at h2
        obtain ⟨H', h3, hN, hH⟩ := newH_inv (show newH H (.cells (old ++ new)) (fun r H' => k (.sl r 0 0 (len + m) (.un esz)) H') = some r from h2)
        refine ⟨_, _, h3, fun π w hr us zu e sem base n cap hs hn hnf hz hrun => ?_⟩
        obtain ⟨L, off, cap2, hL, he, hlc, hoff⟩ := conc_sl hs
        cases he
        obtain ⟨L', hL', _, hcc⟩ := conc_sl2 hs
        have e1 : cap = c := by exact (Value.slice.inj hcc).2.2
        obtain ⟨olds, g1, g2, g3⟩ := hof π { w with drawn := w.drawn + 1 } (hr.drawn _) _ hs (fun p n' c h => by cases h; exact Nat.le_refl _)
        exact other hr hN hH hol g1 g2 hn hnf hz hrun (by omega) g3
      · refine inplace c hle h1 (fun π w _ p n' cap hs => ?_)
        obtain ⟨L', hL', _, hcc⟩ := conc_sl2 hs
        rw [(Value.slice.inj hcc).2.2]; exact Nat.le_refl _
    | z e0 =>
      rcases split 0 h with ⟨hgt, h1⟩ | ⟨hle, h1⟩
      · obtain ⟨old, h2, hol, hos, hof⟩ := firstK_inv (P := P) h1
        rw [appK_eq] at h2
        obtain ⟨H', h3, hN, hH⟩ := newH_inv (show newH H (.cells (old ++ new)) (fun r H' => k (.sl r 0 0 (len + m) (.un esz)) H') = some r from h2)
        refine ⟨_, _, h3, fun π w hr us zu e sem base n cap hs hn hnf hz hrun => ?_⟩
        obtain ⟨L, off, cap2, hL, he, hlc, hoff⟩ := conc_sl hs
        cases he
        obtain ⟨L', hL', _, hcc⟩ := conc_sl2 hs
        have e1 : cap = 0 := by exact (Value.slice.inj hcc).2.2
        obtain ⟨olds, g1, g2, g3⟩ := hof π { w with drawn := w.drawn + 1 } (hr.drawn _) _ hs (fun p n' c h => by cases h; exact Nat.le_refl _)
        exact other hr hN hH hol g1 g2 hn hnf hz hrun (by omega) g3
      · omega
    | un e0 =>
      obtain ⟨cap', h1, hcap⟩ := capK_inv (a := al) h
      rcases split cap' h1 with ⟨hgt, h1⟩ | ⟨hle, h1⟩
      · obtain ⟨old, h2, hol, hos, hof⟩ := firstK_inv (P := P) h1
        rw [appK_eq] at h2
        obtain ⟨he0, h2⟩ := bcase_none (show (Bool.casesOn (Nat.beq e0 esz) none (delH H q fun H' => newSl H' (len + m) esz (old ++ new) k) : Option R) = some r from h2)
        have he0 := Nat.eq_of_beq_eq_true he0
        subst he0
        obtain ⟨H1, h3, hN1, hH1⟩ := delH_inv h2
        obtain ⟨H', h4, hN, hH⟩ := newH_inv (show newH H1 (.cells (old ++ new)) (fun r H' => k (.sl r 0 0 (len + m) (.un e0)) H') = some r from h3)
        refine ⟨_, _, h4, fun π w hr us zu e sem base n cap hs hn hnf hz hrun => ?_⟩
        obtain ⟨L, hL, ⟨hc1, hc2⟩, hcc⟩ := conc_sl2 hs
        have e1 : cap = (L.cap - o) / e0 := by exact (Value.slice.inj hcc).2.2
        have e2 : n = len := by exact (Value.slice.inj hcc).2.1
        subst e2
        have hb : base = some ⟨L.block, L.shift + (if (L.cap - o) / e0 = 0 then al else o), none⟩ := by exact (Value.slice.inj hcc).1
        obtain ⟨olds, g1, g2, g3⟩ := hof π { w with drawn := w.drawn + 1 } (hr.drawn _) _ hs (fun p n' c h => by cases h; exact Nat.le_refl _)
        by_cases hle : n + m ≤ cap
        · have hcap0 : ¬ (L.cap - o) / e0 = 0 := by omega
          rw [if_neg hcap0] at hb
          obtain ⟨cs, hq⟩ := capK_un h
          obtain ⟨arr, et, fz, vs, a1, a2, a3, a4, a5, a6, a7⟩ := hr.cells hq hL
          have l1 := concs_length hn
          have l2 := concs_length g1
          have hsum : (n + m) * e0 = n * e0 + m * e0 := Nat.add_mul n m e0
          have hroom : (n + m) * e0 ≤ L.cap - o := by rw [← Nat.le_div_iff_mul_le hc1]; omega
          obtain ⟨arr', w', b1, b2, b3, b4⟩ := run_store_list (P := P) (b := L.block) (o := L.shift + o + n * e0) us 0 arr w (concs_flat hn hnf) a1 (by omega) (fun j g1 g2 => a7 j (by omega) (by omega))
          have hH' : ∀ x, H'.get x = if x = H.next then some (.cells (old ++ new)) else if x = q then none else H.get x := fun x => by rw [hH, hN1, hH1]
          have hrel : ORel π (.cells (old ++ new)) ⟨L.block, L.shift + o, L.cap - o⟩ (.cells arr' et fz) := by
            refine ⟨olds ++ us, concs_append g1 hn, flats_append g2 hnf, by simp only; omega, by simp only [List.length_append]; omega, fun i hi => ?_, fun j g1 g2 => a7 j (by simp only at g1; omega) (by simp only at g2; omega)⟩
            simp only [List.length_append] at hi
            show arr'[L.shift + o + i]? = _
            rw [b4]
            by_cases c1 : i < n * e0
            · rw [if_pos (by omega), List.getElem?_append_left (by omega)]
              rcases hos q o al n _ rfl with h0 | ⟨cs0, d1, d2, d3⟩
              · rw [h0] at c1; simp at c1
              · rw [hq] at d1; cases d1
                have hol2 := concs_take (n * e0) (concs_drop o a2)
                rw [← d2, g1] at hol2
                have := Option.some.inj hol2
                rw [this, List.getElem?_take, if_pos c1, List.getElem?_drop]
                have := a6 (o + i) (by omega)
                rw [← this, Nat.add_assoc]
            · rw [if_neg (by omega), if_pos (by omega), List.getElem?_append_right (by omega)]
              congr 1; omega
          obtain ⟨π', k1, k2⟩ := Post.moved (l' := ⟨L.block, L.shift + o, L.cap - o⟩) hr hq hL (by omega) hH' b2 rfl hrel
          refine ⟨π', w', _, hrun.1 hle w' ?_, ?_, k2⟩
          · rw [hb]; simp only [add_at]; exact b1
          · rw [hN1, conc_mk_un k1 hc1 (by simp only; omega), hb, e1]
            simp
        · have hk := Post.killed hr hL hN1 hH1
          obtain ⟨π', w', u, k1, k2, k3⟩ := other hk.rel hN hH hol g1 g2 hn hnf hz hrun hle g3
          exact ⟨π', w', u, k1, k2, hk.trans k3⟩
      · exact inplace cap' hle h1 hcap

end
end Go.Ev
