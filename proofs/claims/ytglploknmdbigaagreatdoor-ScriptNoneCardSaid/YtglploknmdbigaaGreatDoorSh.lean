/- What writes: all. -/
import Derived.Test.YtglploknmdbigaaGreatDoorSg
import Derived.Test.YtglploknmdbigaaGreatDoorEc
set_option linter.unusedSectionVars false
namespace Go.Ev
section
variable [Sym]
variable {P : Program} {R : Type}

theorem sizeOk_le {n m : Nat} (h : sizeOk n m = true) : n + m ≤ 100000000 := by unfold sizeOk at h; rw [leB_le] at h; exact h
theorem arr2 {α : Type} {l : Array α} {a b : α} (h : l.toList = [a, b]) : l = #[a, b] := by rw [← h]
theorem arr1 {α : Type} {l : Array α} {a : α} (h : l.toList = [a]) : l = #[a] := by rw [← h]

/-- A slice's length. -/
theorem lenS_inv {s : AV} {k : Nat → Option R} {r : R} (h : lenS s k = some r) : ∃ n, k n = some r ∧ ∀ π u, conc π s = some u → ∃ base cap, u = .slice base n cap ∧ n ≤ cap := by
  cases s <;> try (cases h; done)
  case nilsl => exact ⟨0, h, fun π u hu => by cases hu; exact ⟨_, _, rfl, Nat.le_refl _⟩⟩
  case sl q o a n c => exact ⟨n, h, fun π u hu => by obtain ⟨l, off, cap, _, rfl, hle, _⟩ := conc_sl hu; exact ⟨_, _, rfl, hle⟩⟩

theorem runs_zero {sem : Sem Value} {w : World} {base : Option Addr} {n cap size : Nat} {e : TypeId} {zu : Value} (h : AppendRuns P sem w base n 0 cap size [] e zu) (hle : n ≤ cap) : sem.run P w = .ok (.slice base n cap) w :=
  h.1 (by omega) w (by cases base <;> rfl)
theorem first_zero {x : Value} {size m : Nat} (h : ∀ w, (Builtin.lenOf x).run P w = .ok m w) (w : World) : (Builtin.firstCells size 0 x).run P w = .ok #[] w := by
  cases x <;> first
    | (have := h w; simp [Builtin.lenOf, stuck] at this; done)
    | skip
  case string s =>
    simp [Builtin.firstCells]
  case slice a n c => cases a <;> simp [Builtin.firstCells, loadCells, loadCellsFrom]

theorem wAppend_sound {o : Oper} {c : Call} {a b e : TypeId} {d : TypeDesc} {n by_ : Nat} {z : AV} {s x : Operand} (ho : o.op = .call c) (hc : c.callee = .builtin .append) (ha : c.args.toList = [s, x]) (ht : c.argTypes.toList = [a, b])
    (hu : P.underlying a = some (.slice e)) (hd : P.underlying b = some d) (hno : ∀ k, d ≠ .int k) (hsz : sizeT P e = some (n + 1)) (hby : bytesT P e = some by_) (hz : zeroT P e = some z) (hb : by_ ≤ 100000) (hl : z.cells.length = n + 1) (hf : AV.flats z.cells = true) : WSound P o (wAppend (n + 1) s x : W R) := by
  have hops : s ∈ o.op.operands ∧ x ∈ o.op.operands := by simp [ho, Op.operands, Call.operands, hc, arr2 ha]
  obtain ⟨zu, hz1, hz2⟩ := run_zero hz
  have hzs : zu.cells.size = n + 1 := by rw [← hl, ← concs_length (conc_cells' (hz2 fun _ => none) hf)]; simp
  intro t H k r h
  obtain ⟨sv, h1, h2⟩ := opK_inv (x := s) h
  obtain ⟨xv, g1, h3⟩ := opK_inv (x := x) h1; clear h1
  obtain ⟨m, h1, hm⟩ := lenV_inv (P := P) g1; clear g1
  obtain ⟨len, g1, hn⟩ := lenS_inv h1; clear h1
  obtain ⟨hso, g2⟩ := bcase_none g1; clear g1
  have hso := sizeOk_le hso
  have hexec : ∀ (act : Act) w, (execOp act.eval o).run P w = ((Builtin.append_ #[a, b] o.type #[act.eval s, act.eval x]).run P w).andThen fun v w' => .ok (.value v) w' := by
    intro act w
    simp [execOp, ho, resolve, hc, arr2 ha, arr2 ht, invoke, builtin]
  cases m with
  | zero =>
    replace g2 : k sv H = some r := g2
    refine ⟨_, _, g2, fun π w act hr hao => ?_⟩
    have hs := h2 π act (hao s hops.1)
    have hx := h3 π act (hao x hops.2)
    obtain ⟨base, cap, he, hle⟩ := hn π _ hs
    have hlen := (hm π _ hx).1
    have hrun := run_append_x (P := P) (ty := o.type) (n := len) (m := 0) (cap := cap) (base := base) (x := act.eval x) (us := []) (w := w) hu hd hno hsz hby hz1 hb (by omega) hlen (fun k => first_zero hlen _)
    refine ⟨π, w, .value (act.eval s), _, ?_, rfl, hs, Post.refl hr⟩
    rw [hexec, he, runs_zero hrun hle]
    rfl
  | succ m =>
    replace g2 : firstK (n + 1) (m + 1) xv H (fun new => appendK (n + 1) sv (m + 1) new H k) = some r := g2
    obtain ⟨new, g1, hnl, _, hnf⟩ := firstK_inv (P := P) g2; clear g2
    obtain ⟨v, H', g2, hv⟩ := appendK_inv (P := P) g1 (by omega) (by omega) hnl
    refine ⟨v, H', g2, fun π w act hr hao => ?_⟩
    have hs := h2 π act (hao s hops.1)
    have hx := h3 π act (hao x hops.2)
    obtain ⟨base, cap, he, hle⟩ := hn π _ hs
    obtain ⟨hlen, hlen2⟩ := hm π _ hx
    obtain ⟨us, e1, e2, e3⟩ := hnf π w hr _ hx (fun p n' c h => Nat.le_of_eq (hlen2 p n' c h).symm)
    have hrun := run_append_x (P := P) (ty := o.type) (n := len) (m := m + 1) (cap := cap) (base := base) (x := act.eval x) (us := us) (w := w) hu hd hno hsz hby hz1 hb (by omega) hlen (fun k => by
      obtain ⟨us', e4, e5, e6⟩ := hnf π { w with drawn := k } (hr.drawn k) _ hx (fun p n' c h => Nat.le_of_eq (hlen2 p n' c h).symm)
      rw [e1] at e4; cases e4; exact e6)
    rw [he] at hs
    obtain ⟨π', w', u, k1, k2, k3⟩ := hv π w hr us zu e _ base len cap hs e1 e2 hzs hrun
    refine ⟨π', w', .value u, u, ?_, rfl, k2, k3⟩
    rw [hexec, he, k1]
    rfl

theorem run_append_z0 {a b e ty : TypeId} {kd j : IntKind} {size n cap by_ : Nat} {base : Option Addr} {w : World} (hu : P.underlying a = some (.slice e)) (hd : P.underlying b = some (.int kd)) (hsz : sizeT P e = some size) (hby : bytesT P e = some by_) (hle : n ≤ cap) :
    (Builtin.append_ #[a, b] ty #[.slice base n cap, .int j ((0 : Nat) : Int)]).run P w = .ok (.slice base n cap) w := by
  unfold bytesT at hby
  cases hi : infoQ P e with
  | none => rw [hi] at hby; cases hby
  | some i =>
    have hti : ∀ w, (typeInfo e).run P w = .ok i w := fun w => run_info (infoQ_some hi) w
    have e1 : (#[a, b] : Array TypeId)[0]? = some a := rfl
    have e2 : (#[a, b] : Array TypeId)[1]? = some b := rfl
    have e3 : (#[Value.slice base n cap, .int j ((0 : Nat) : Int)] : Array Value)[0]? = some (.slice base n cap) := rfl
    have e4 : (#[Value.slice base n cap, .int j ((0 : Nat) : Int)] : Array Value)[1]? = some (.int j ((0 : Nat) : Int)) := rfl
    have w1 : IntKind.i64.wrap ((0 : Nat) : Int) = ((0 : Nat) : Int) := by decide
    have w2 : ¬ ((0 : Nat) : Int) < 0 := by omega
    have w3 : ¬ (((0 : Nat) : Int) * (i.bytes : Int) > 2 ^ 48) := by simp
    have w4 : n + 0 ≤ cap := hle
    have w5 : (0 * size = 0) = True := by simp
    unfold Builtin.append_
    simp only [e1, e2, e3, e4, Sem.run_bind, run_underlying hu, run_underlying hd, Result.andThen_ok, run_size hsz, Sem.run_pure, if_true, asInt, asIntOf, w1, if_neg w2, hti, if_neg w3, Int.toNat_natCast, w4, Bool.not_true, Bool.false_eq_true, if_false, w5]
    cases base with
    | none => rfl
    | some ad => rfl

theorem wAppendZ_sound {o : Oper} {c : Call} {a b e : TypeId} {kd : IntKind} {n by_ : Nat} {z : AV} {s x : Operand} (ho : o.op = .call c) (hc : c.callee = .builtin .append) (ha : c.args.toList = [s, x]) (ht : c.argTypes.toList = [a, b])
    (hu : P.underlying a = some (.slice e)) (hd : P.underlying b = some (.int kd)) (hsz : sizeT P e = some (n + 1)) (hby : bytesT P e = some by_) (hz : zeroT P e = some z) (hb : by_ ≤ 100000) (hl : z.cells.length = n + 1) (hf : AV.flats z.cells = true) : WSound P o (wAppendZ (n + 1) z.cells s x : W R) := by
  have hops : s ∈ o.op.operands ∧ x ∈ o.op.operands := by simp [ho, Op.operands, Call.operands, hc, arr2 ha]
  obtain ⟨zu, hz1, hz2⟩ := run_zero hz
  have hzc : ∀ π, concs π z.cells = some zu.cells.toList := fun π => conc_cells' (hz2 π) hf
  have hzs : zu.cells.size = n + 1 := by rw [← hl, ← concs_length (hzc fun _ => none)]; simp
  intro t H k r h
  obtain ⟨sv, h1, h2⟩ := opK_inv (x := s) h
  obtain ⟨xv, g1, h3⟩ := opK_inv (x := x) h1; clear h1
  obtain ⟨j, m, rfl, h1⟩ := idxK_inv g1; clear g1
  obtain ⟨len, g1, hn⟩ := lenS_inv h1; clear h1
  obtain ⟨hso, g2⟩ := bcase_none g1; clear g1
  have hso := sizeOk_le hso
  have hexec : ∀ (act : Act) w, (execOp act.eval o).run P w = ((Builtin.append_ #[a, b] o.type #[act.eval s, act.eval x]).run P w).andThen fun v w' => .ok (.value v) w' := by
    intro act w
    simp [execOp, ho, resolve, hc, arr2 ha, arr2 ht, invoke, builtin]
  cases m with
  | zero =>
    replace g2 : k sv H = some r := g2
    refine ⟨_, _, g2, fun π w act hr hao => ?_⟩
    have hs := h2 π act (hao s hops.1)
    have hx := conc_int (h3 π act (hao x hops.2))
    obtain ⟨base, cap, he, hle⟩ := hn π _ hs
    refine ⟨π, w, .value (act.eval s), _, ?_, rfl, hs, Post.refl hr⟩
    rw [hexec, he, hx, run_append_z0 hu hd hsz hby hle]
    rfl
  | succ m =>
    replace g2 : replK (m + 1) z.cells (fun new => appendK (n + 1) sv (m + 1) new H k) = some r := g2
    rw [replK_eq] at g2
    obtain ⟨v, H', g3, hv⟩ := appendK_inv (P := P) g2 (by omega) (by omega) (by rw [repl_length, hl])
    refine ⟨v, H', g3, fun π w act hr hao => ?_⟩
    have hs := h2 π act (hao s hops.1)
    have hx := conc_int (h3 π act (hao x hops.2))
    obtain ⟨base, cap, he, hle⟩ := hn π _ hs
    have e1 := concs_repl (hzc π) (m + 1)
    have hrun := run_append_z (P := P) (ty := o.type) (j := j) (n := len) (m := m + 1) (cap := cap) (base := base) (us := ((Array.range ((m + 1) * zu.cells.size)).map fun i => zu.cells[i % zu.cells.size]!).toList) (w := w) hu hd hsz hby hz1 hb (by omega) (by rw [Nat.mul_eq_zero]; omega) (by unfold Builtin.zeroCells; rw [Array.toArray_toList])
    rw [he] at hs
    obtain ⟨π', w', u, k1, k2, k3⟩ := hv π w hr _ zu e _ base len cap hs e1 (flats_repl hf _) hzs hrun
    refine ⟨π', w', .value u, u, ?_, rfl, k2, k3⟩
    rw [hexec, he, hx, k1]
    rfl

theorem wAppendT_sound {o : Oper} {c : Call} {s x : Operand} (ho : o.op = .call c) (hc : c.callee = .builtin .append) (ha : c.args.toList = [s, x]) : WSound P o (wAppendT P c.argTypes.toList s x : W R) := by
  unfold wAppendT
  split
  · rename_i a b ht
    split
    · rename_i e d hu hd
      split
      · rename_i n bs z h1 h2 h3
        split
        · rename_i hcond
          simp only [Bool.and_eq_true, decide_eq_true_eq, beq_iff_eq] at hcond
          split
          · exact wAppendZ_sound ho hc ha ht (underQ_some hu) (underQ_some hd) h1 h2 h3 hcond.1.1 hcond.1.2 hcond.2
          · rename_i hno
            exact wAppend_sound ho hc ha ht (underQ_some hu) (underQ_some hd) (fun k e => hno k e) h1 h2 h3 hcond.1.1 hcond.1.2 hcond.2
        · exact wNone_sound o
      · exact wNone_sound o
    · exact wNone_sound o
  · exact wNone_sound o

theorem wCopyT_sound {o : Oper} {c : Call} {d s : Operand} (ho : o.op = .call c) (hc : c.callee = .builtin .copy) (ha : c.args.toList = [d, s]) : WSound P o (wCopyT P c.argTypes.toList d s : W R) := by
  unfold wCopyT
  split
  · rename_i a ts ht
    split
    · rename_i e hu
      split
      · rename_i n hn
        have ht' : c.argTypes[0]? = some a := by rw [← Array.getElem?_toList, ht]; rfl
        have hops : d ∈ o.op.operands ∧ s ∈ o.op.operands := by simp [ho, Op.operands, Call.operands, hc, arr2 ha]
        intro t H k r h
        obtain ⟨dv, h1, h2⟩ := opK_inv (x := d) h
        obtain ⟨sv, g1, h3⟩ := opK_inv (x := s) h1; clear h1
        obtain ⟨m, h1, hm⟩ := lenV_inv (P := P) g1; clear g1
        obtain ⟨len, g1, hd⟩ := lenS_inv h1; clear h1
        rw [natK_eq] at g1
        have hexec : ∀ (act : Act) w base cap, act.eval d = .slice base len cap → (∀ w, (Builtin.lenOf (act.eval s)).run P w = .ok m w) → (execOp act.eval o).run P w = ((Builtin.firstCells n (Nat.min m len) (act.eval s)).run P w).andThen fun cells w' =>
            ((match base with | some ad => storeCells ad cells.toList | none => pure ()).run P w').andThen fun _ w'' => .ok (.value (goInt (Nat.min m len))) w'' := by
          intro act w base cap he hl
          simp only [execOp, ho, resolve, hc, arr2 ha, invoke, builtin, Sem.run_pure, Sem.run_bind, Result.andThen_ok]
          simp only [Builtin.copy_, ht', List.map_toArray, List.map_cons, List.map_nil, List.getElem?_toArray, List.getElem?_cons_zero, List.getElem?_cons_succ, Sem.run_bind, run_under (underQ_some hu), Result.andThen_ok, he, hl, run_size hn]
          cases (Builtin.firstCells n (Nat.min m len) (act.eval s)).run P w with
          | halt _ _ => rfl
          | ok cells w' =>
            simp only [Result.andThen_ok]
            cases base with
            | none => rfl
            | some ad =>
              simp only [Sem.run_bind]
              cases (storeCells ad cells.toList).run P w' <;> rfl
        cases hc0 : Nat.min m len with
        | zero =>
          rw [hc0] at g1
          replace g1 : k (.int .i64 0) H = some r := g1
          refine ⟨_, _, g1, fun π w act hr hao => ?_⟩
          obtain ⟨base, cap, he, hle⟩ := hd π _ (h2 π act (hao d hops.1))
          obtain ⟨hl, _⟩ := hm π _ (h3 π act (hao s hops.2))
          refine ⟨π, w, .value (goInt 0), _, ?_, rfl, rfl, Post.refl hr⟩
          rw [hexec act w base cap he hl, hc0, first_zero hl]
          cases base <;> rfl
        | succ cnt =>
          rw [hc0] at g1
          replace g1 : firstK n (cnt + 1) sv H (fun new => slK dv fun r o _ _ _ => rowK H r fun cs => layK o cs new fun cs' => putH H r (.cells cs') fun H' => k (.int .i64 (Int.ofNat (cnt + 1))) H') = some r := g1
          obtain ⟨new, g2, hnl, _, hnf⟩ := firstK_inv (P := P) g1; clear g1
          obtain ⟨q, off, al, len', cc, rfl, g1⟩ := slK_inv g2; clear g2
          obtain ⟨cs, hq, g2⟩ := rowK_inv g1; clear g1
          rw [layK_eq] at g2
          split at g2
          · rename_i hlt
            obtain ⟨H', g3, hN, hH⟩ := putH_inv g2
            refine ⟨_, _, g3, fun π w act hr hao => ?_⟩
            have hdv := h2 π act (hao d hops.1)
            obtain ⟨base, cap, he, hle⟩ := hd π _ hdv
            obtain ⟨hl, hl2⟩ := hm π _ (h3 π act (hao s hops.2))
            have hmin : cnt + 1 ≤ m ∧ cnt + 1 ≤ len := by
              have h1 := Nat.min_le_left m len
              have h2 := Nat.min_le_right m len
              have h3 : min m len = cnt + 1 := hc0
              omega
            obtain ⟨us, e1, e2, e3⟩ := hnf π w hr _ (h3 π act (hao s hops.2)) (fun p n' c h => by rw [hl2 p n' c h]; exact hmin.1)
            obtain ⟨L, off', cap', hL, he', hlc, hoff⟩ := conc_sl hdv
            rw [he] at he'
            have hb := (Value.slice.inj he').1
            have hcap := (Value.slice.inj he').2.2
            have := hoff (by omega)
            subst this
            obtain ⟨w', e4, e5⟩ := hr.write (P := P) hq hL e1 e2 hlt hN hH
            refine ⟨π, w', .value (goInt (cnt + 1 : Nat)), _, ?_, rfl, rfl, e5⟩
            rw [hexec act w base cap he hl, hc0, e3, hb]
            simp only [Result.andThen_ok, e4]
          · cases g2
      · exact wNone_sound o
    · exact wNone_sound o
  · exact wNone_sound o


theorem wClearMap_sound {o : Oper} {c : Call} {a e f : TypeId} {ts : List TypeId} {x : Operand} (ho : o.op = .call c) (hc : c.callee = .builtin .clear) (ha : c.args.toList = [x]) (ht : c.argTypes.toList = a :: ts) (hu : P.underlying a = some (.map e f)) : WSound P o (wClearMap x : W R) := by
  have ht' : c.argTypes[0]? = some a := by rw [← Array.getElem?_toList, ht]; rfl
  have hops : x ∈ o.op.operands := by simp [ho, Op.operands, Call.operands, hc, arr1 ha]
  intro t H k r h
  obtain ⟨v, h1, h2⟩ := opK_inv (x := x) h
  cases v <;> try (cases h1; done)
  case nilmap =>
    refine ⟨_, _, h1, fun π w act hr hao => ?_⟩
    have hx : act.eval x = .map none := (Option.some.inj (h2 π act (hao x hops))).symm
    refine ⟨π, w, .value (.tuple #[]), _, ?_, rfl, conc_mk_tup rfl, Post.refl hr⟩
    simp [execOp, ho, resolve, hc, arr1 ha, invoke, builtin, Builtin.clear_, ht', hx, run_underlying hu]
  case map q =>
    obtain ⟨es, cl, hq, g1⟩ := mapObjK_inv (show mapObjK H q (fun _ c => putH H q (.map [] c) fun H' => k (.tup []) H') = some r from h1)
    obtain ⟨H', g2, hN, hH⟩ := putH_inv g1
    refine ⟨_, _, g2, fun π w act hr hao => ?_⟩
    obtain ⟨l, hl, hx⟩ := conc_map (h2 π act (hao x hops))
    obtain ⟨ms, hb, hes⟩ := hr.map hq hl
    have hg := run_getObj_of (P := P) hb (by simp)
    obtain ⟨w', e4, e5⟩ := setObj_turned (P := P) (ob' := .map #[] cl) hb (by simp)
    refine ⟨π, w', .value (.tuple #[]), _, ?_, rfl, conc_mk_tup rfl, Post.turned hr hq hl hN hH e5 ⟨trivial, rfl⟩⟩
    simp [execOp, ho, resolve, hc, arr1 ha, invoke, builtin, Builtin.clear_, ht', hx, run_underlying hu, hg, e4]

theorem wClear_sound {o : Oper} {c : Call} {a e : TypeId} {ts : List TypeId} {z : AV} {x : Operand} (ho : o.op = .call c) (hc : c.callee = .builtin .clear) (ha : c.args.toList = [x]) (ht : c.argTypes.toList = a :: ts) (hu : P.underlying a = some (.slice e)) (hz : zeroT P e = some z) (hf : AV.flats z.cells = true) : WSound P o (wClear z.cells x : W R) := by
  have ht' : c.argTypes[0]? = some a := by rw [← Array.getElem?_toList, ht]; rfl
  have hops : x ∈ o.op.operands := by simp [ho, Op.operands, Call.operands, hc, arr1 ha]
  obtain ⟨zu, hz1, hz2⟩ := run_zero hz
  have hzc : ∀ π, concs π z.cells = some zu.cells.toList := fun π => conc_cells' (hz2 π) hf
  intro t H k r h
  obtain ⟨v, h1, h2⟩ := opK_inv (x := x) h
  cases v <;> try (cases h1; done)
  case nilsl =>
    refine ⟨_, _, h1, fun π w act hr hao => ?_⟩
    have hx : act.eval x = .slice none 0 0 := (Option.some.inj (h2 π act (hao x hops))).symm
    refine ⟨π, w, .value (.tuple #[]), _, ?_, rfl, conc_mk_tup rfl, Post.refl hr⟩
    simp [execOp, ho, resolve, hc, arr1 ha, invoke, builtin, Builtin.clear_, ht', hx, run_underlying hu]
  case sl q off al n cc =>
    cases n with
    | zero =>
      refine ⟨_, _, h1, fun π w act hr hao => ?_⟩
      obtain ⟨L, off', cap, hL, hx, _⟩ := conc_sl (h2 π act (hao x hops))
      refine ⟨π, w, .value (.tuple #[]), _, ?_, rfl, conc_mk_tup rfl, Post.refl hr⟩
      simp [execOp, ho, resolve, hc, arr1 ha, invoke, builtin, Builtin.clear_, ht', hx, run_underlying hu]
    | succ n =>
      replace h1 : replK (n + 1) z.cells (fun new => rowK H q fun cs => layK off cs new fun cs' => putH H q (.cells cs') fun H' => k (.tup []) H') = some r := h1
      rw [replK_eq] at h1
      obtain ⟨cs, hq, g2⟩ := rowK_inv h1; clear h1
      rw [layK_eq] at g2
      split at g2
      · rename_i hlt
        obtain ⟨H', g3, hN, hH⟩ := putH_inv g2
        refine ⟨_, _, g3, fun π w act hr hao => ?_⟩
        obtain ⟨L, off', cap, hL, hx, hle, hoff⟩ := conc_sl (h2 π act (hao x hops))
        have := hoff (by omega)
        subst this
        obtain ⟨w', e4, e5⟩ := hr.write (P := P) hq hL (concs_repl (hzc π) (n + 1)) (flats_repl hf _) hlt hN hH
        refine ⟨π, w', .value (.tuple #[]), _, ?_, rfl, conc_mk_tup rfl, e5⟩
        have e4' : (storeCells ⟨L.block, L.shift + off', none⟩ (Builtin.zeroCells zu.cells (n + 1)).toList).run P w = .ok () w' := e4
        simp only [execOp, ho, resolve, hc, arr1 ha, invoke, builtin, Sem.run_pure, Sem.run_bind, Result.andThen_ok]
        simp only [Builtin.clear_, ht', List.map_toArray, List.map_cons, List.map_nil, List.getElem?_toArray, List.getElem?_cons_zero, Sem.run_bind, run_underlying hu, Result.andThen_ok, hx, hz1, e4', Sem.run_pure]
      · cases g2

theorem wClearT_sound {o : Oper} {c : Call} {x : Operand} (ho : o.op = .call c) (hc : c.callee = .builtin .clear) (ha : c.args.toList = [x]) : WSound P o (wClearT P c.argTypes.toList x : W R) := by
  unfold wClearT
  split
  · rename_i a ts ht
    split
    · split
      · split
        · exact wClear_sound ho hc ha ht (underQ_some (by assumption)) (by assumption) (by assumption)
        · exact wNone_sound o
      · exact wNone_sound o
    · exact wClearMap_sound ho hc ha ht (underQ_some (by assumption))
    · exact wNone_sound o
  · exact wNone_sound o

theorem writeF_sound {o : Oper} {f : W R} (h : writeF P o.op = some f) : WSound P o f := by
  unfold writeF at h
  split at h
  · rename_i ho
    split at h
    · cases h; exact wStore_sound ho (by assumption)
    · cases h; exact wNone_sound o
  · rename_i ho
    split at h
    · split at h
      · cases h; exact wStr_sound ho (underQ_some (by assumption)) (underQ_some (by assumption)) (underQ_some (by assumption))
      · cases h; exact wNone_sound o
    · cases h
  · rename_i t r ho
    split at h
    · cases h; exact wMakeMap_sound ho
    · split at h
      · cases h; exact wMakeMapHint_sound ho (underQ_some (by assumption))
      · cases h; exact wNone_sound o
  · rename_i ho
    cases h
    unfold wMakeSliceT
    split
    · split
      · split
        · rename_i hcond
          simp only [Bool.and_eq_true, decide_eq_true_eq, beq_iff_eq] at hcond
          exact wMakeSlice_sound ho (underQ_some (by assumption)) (by assumption) (by assumption) (by assumption) hcond.1.1 hcond.1.2 hcond.2
        · exact wNone_sound o
      · exact wNone_sound o
    · exact wNone_sound o
  · rename_i ho
    cases h
    unfold wUpdateT
    split
    · exact wUpdate_sound (.inl ho) (underQ_some (by assumption))
    · exact wNone_sound o
  · rename_i ho
    cases h
    unfold wUpdateT
    split
    · exact wUpdate_sound (.inr ho) (underQ_some (by assumption))
    · exact wNone_sound o
  · rename_i ho; cases h; exact wRange_sound ho
  · rename_i s ho
    cases h
    cases s
    · exact wNextMap_sound ho
    · exact wNextStr_sound ho
  · rename_i b args tys ho
    split at h
    · rename_i hargs; cases h; exact wAppendT_sound ho rfl hargs
    · rename_i hargs; cases h; exact wCopyT_sound ho rfl hargs
    · rename_i hargs; cases h; exact wClearT_sound ho rfl hargs
    · rename_i hargs
      split at h
      · rename_i ht
        cases h
        unfold wDeleteT
        split
        · exact wDelete_sound ho rfl hargs ht (underQ_some (by assumption))
        · exact wNone_sound o
      · cases h; exact wNone_sound o
    · cases h
  · cases h

end
end Go.Ev

set_option linter.unusedSectionVars false
namespace Go.Ev
section
variable [Sym]
variable {P : Program} {R : Type}

/-- What an operation calls. -/
def GoalAt (P : Program) (o : Oper) (π : Pi) (w : World) (a : Act) (g : Goal) : Prop := match g with
  | .fn f args => ∃ us, concs π args = some us ∧ (execOp a.eval o).run P w = (callFunc f us.toArray).run P w
  | .round l args => ∃ us L, concs π args = some us ∧ π l = some L ∧ (execOp a.eval o).run P w = (Instr.yield L.block us.toArray).run P w
def CSound (P : Program) (o : Oper) (f : Cl R) : Prop := ∀ t k r, f t k = some r → ∃ g, k g = some r ∧ ∀ π w (a : Act), (∀ x ∈ o.op.operands, EnvAt π t a x) → GoalAt P o π w a g

theorem conc_fn {π : Pi} {f : Nat} {a b : List AV} {u : Value} (h : conc π (.fn f a b) = some u) : ∃ x y, concs π a = some x ∧ concs π b = some y ∧ u = .func (.func f) ⟨x⟩ ⟨y⟩ := by
  unfold conc at h
  split at h
  · rename_i x y h1 h2; exact ⟨x, y, h1, h2, (Option.some.inj h).symm⟩
  · cases h
theorem conc_yld {π : Pi} {r : Nat} {u : Value} (h : conc π (.yld r) = some u) : ∃ L, π r = some L ∧ u = .func (.yield L.block) #[] #[] := by
  unfold conc at h
  split at h
  · rename_i l hl; exact ⟨l, hl, (Option.some.inj h).symm⟩
  · cases h

theorem fnK_inv {v : AV} {vs : List AV} {k : Goal → Option R} {r : R} (h : fnK v vs k = some r) : ∃ g, k g = some r ∧ ∀ π u us, conc π v = some u → concs π vs = some us →
    ∃ d : Deferred, Deferred.ofValue u us.toArray = pure d ∧ match g with
      | .fn f args => ∃ first cap, d = ⟨.fn (.func f) cap, first⟩ ∧ concs π args = some (first ++ cap).toList
      | .round l args => ∃ L, π l = some L ∧ concs π args = some us ∧ d = ⟨.fn (.yield L.block) #[], #[] ++ us.toArray⟩ := by
  cases v <;> try (cases h; done)
  case fn f a b =>
    replace h : appK vs b (fun l => appK a l fun l' => k (.fn f l')) = some r := h
    rw [appK_eq, appK_eq] at h
    refine ⟨_, h, fun π u us hu hus => ?_⟩
    obtain ⟨x, y, h1, h2, rfl⟩ := conc_fn hu
    refine ⟨_, rfl, _, _, rfl, ?_⟩
    rw [concs_append h1 (concs_append hus h2)]
    simp
  case yld l =>
    refine ⟨_, h, fun π u us hu hus => ?_⟩
    obtain ⟨L, h1, rfl⟩ := conc_yld hu
    exact ⟨_, rfl, L, h1, hus, rfl⟩

theorem cValue_sound {o : Oper} {c : Call} {f : Operand} (ho : o.op = .call c) (hc : c.callee = .value f) : CSound P o (cValue f c.args.toList : Cl R) := by
  intro t k r h
  obtain ⟨v, h1, h2⟩ := opK_inv (x := f) h
  obtain ⟨vs, h3, h4⟩ := opsK_inv h1
  obtain ⟨g, h5, h6⟩ := fnK_inv h3
  refine ⟨g, h5, fun π w a ha => ?_⟩
  have hf := h2 π a (ha f (by simp [ho, Op.operands, Call.operands, hc]))
  have hargs := h4 π a (fun y hy => ha y (by simp [ho, Op.operands, Call.operands, hc]; right; simpa using hy))
  obtain ⟨d, h7, h8⟩ := h6 π _ _ hf hargs
  have hrun : (execOp a.eval o).run P w = (invoke d.target d.args).run P w := by
    have e : c.args.map a.eval = (c.args.toList.map a.eval).toArray := map_mk _ _
    simp only [execOp, ho, resolve, hc, e, h7, Sem.run_bind, Sem.run_pure, Result.andThen_ok]
  cases g with
  | fn g args =>
    obtain ⟨first, cap, rfl, h9⟩ := h8
    exact ⟨_, h9, by rw [hrun, Array.toArray_toList]; rfl⟩
  | round l args =>
    obtain ⟨L, h9, h10, rfl⟩ := h8
    exact ⟨_, L, h10, h9, by rw [hrun]; simp [invoke]⟩

theorem methodT_run {t : TypeId} {name : String} {f : FuncId} (h : methodT P t name = some f) (v : Value) (w : World) : (method (P.types.size + Made.depth) t v name).run P w = .ok (f, v) w := by
  unfold methodT at h
  split at h
  · rename_i i hi
    have hti := run_info (infoQ_some hi) w
    have hpos : 0 < P.types.size := by
      unfold infoQ at hi
      rw [nthL_eq] at hi
      have := (List.getElem?_eq_some_iff.1 hi).1
      simp at this; omega
    obtain ⟨n, hn⟩ : ∃ n, P.types.size + Made.depth = n + 1 := ⟨P.types.size + Made.depth - 1, by omega⟩
    rw [hn]
    split at h
    · rename_i m hm
      split at h
      · rename_i hp
        have hp' : m.path.toList = [] := by simpa using hp
        unfold method
        simp only [Sem.run_bind, hti, Result.andThen_ok, hm, hp', follow, Sem.run_pure]
        split at h
        · rename_i f' e hmf hu
          cases h
          simp only [hmf, Sem.run_bind, receiverAt, run_under (underQ_some hu), Result.andThen_ok, Place.get, Sem.run_pure]
        · cases h
        · rename_i f' d hnp hmf hu
          cases h
          simp only [hmf, Sem.run_bind, receiverAt, run_under (underQ_some hu), Result.andThen_ok]
          cases d <;> first | exact absurd rfl (hnp _ _) | rfl | skip
          all_goals exact absurd rfl (hnp _)
        · cases h
      · cases h
    · cases h
  · cases h

theorem cInvoke_sound {o : Oper} {c : Call} {x : Operand} {name : String} (ho : o.op = .call c) (hc : c.callee = .invoke x name) : CSound P o (cInvoke P x name c.args.toList : Cl R) := by
  intro t k r h
  obtain ⟨v, h1, h2⟩ := opK_inv (x := x) h
  obtain ⟨vs, h3, h4⟩ := opsK_inv h1
  cases v <;> try (cases h3; done)
  rename_i ty u
  replace h3 : (Option.casesOn (methodT P ty name) none fun f => k (Goal.fn f (u :: vs)) : Option R) = some r := h3
  cases hm : methodT P ty name with
  | none => rw [hm] at h3; cases h3
  | some f =>
    rw [hm] at h3
    refine ⟨_, h3, fun π w a ha => ?_⟩
    have hx := h2 π a (ha x (by simp [ho, Op.operands, Call.operands, hc]))
    have hargs := h4 π a (fun y hy => ha y (by simp [ho, Op.operands, Call.operands, hc]; right; simpa using hy))
    have hxx : ∃ uv, conc π u = some uv ∧ a.eval x = .iface ty uv := by
      unfold conc at hx
      split at hx
      · rename_i uv hu; exact ⟨uv, hu, (Option.some.inj hx).symm⟩
      · cases hx
    obtain ⟨uv, hu, hx⟩ := hxx
    refine ⟨_, concs_mk hu hargs, ?_⟩
    have e : c.args.map a.eval = (c.args.toList.map a.eval).toArray := map_mk _ _
    have hmr := methodT_run hm uv
    simp only [execOp, ho, resolve, hc, e, hx, Sem.run_bind, Sem.run_pure, Result.andThen_ok, invoke]
    simp [callMethod, hmr]
    rw [List.take_of_length_le (by simp)]

theorem callF_sound {o : Oper} {f : Cl R} (h : callF P o.op = some f) : CSound P o f := by
  unfold callF at h
  split at h
  · rename_i ho; cases h; exact cValue_sound ho rfl
  · rename_i ho; cases h; exact cInvoke_sound ho rfl
  · cases h

/-! ### what a call owes -/
/-- A call as an operation makes it: a function without a body runs at once, another's frame is entered. -/
def CallOk (P : Program) (n : Nat) (f : FuncId) (args : Array Value) (w : World) (K : Value → World → Prop) : Prop :=
  (∃ u w', (callFunc f args).run P w = .ok (.value u) w' ∧ K u w') ∨
  ((callFunc f args).run P w = .ok (.enter f args) w ∧ CallsIn Fence.wide n P f args w fun e w' => ∃ u, e = .returned u ∧ K u w')
def After (π : Pi) (H : Heap) (w : World) (v : AV) (H' : Heap) (u : Value) (w' : World) : Prop := ∃ π', conc π' v = some u ∧ Post π H w π' H' w'

def CallJ (P : Program) (f : Nat) (args : List AV) (H : Heap) (k : AV → Heap → Option R) (r : R) : Prop := ∃ v H', k v H' = some r ∧
  ∀ π w us n, Rel π H w → concs π args = some us → CallOk P n f us.toArray w (After π H w v H')
def RoundJ (P : Program) (l : Nat) (args : List AV) (H : Heap) (k : AV → Heap → Option R) (r : R) : Prop := ∃ v H', k v H' = some r ∧
  ∀ π w us L n, Rel π H w → concs π args = some us → π l = some L → ∃ fn tmps as bd, (Instr.yield L.block us.toArray).run P w = .ok (.round L.block fn tmps as bd) w ∧
    RoundIn Fence.wide n P L.block fn tmps as bd w fun e w' => ∃ u, e = .returned u ∧ After π H w v H' u w'

/-- In a round of a range over a function, or in none. -/
def FOk (F : Fence) (π : Pi) (ro : Option Nat) : Prop := match ro with
  | none => F = Fence.wide
  | some l => ∃ L, π l = some L ∧ F = Fence.wide.inRound L.block
theorem FOk.mono {F : Fence} {π π' : Pi} {ro : Option Nat} (h : FOk F π ro) (hp : π.le π') : FOk F π' ro := by
  cases ro with
  | none => exact h
  | some l => obtain ⟨L, h1, h2⟩ := h; exact ⟨L, hp _ _ h1, h2⟩
theorem FOk.fn {F : Fence} {π : Pi} {ro : Option Nat} (h : FOk F π ro) (f : FuncId) : F.fn f := by
  cases ro with
  | none => cases h; trivial
  | some l => obtain ⟨L, _, rfl⟩ := h; trivial
theorem FOk.depth {F : Fence} {π : Pi} {ro : Option Nat} (h : FOk F π ro) : F.depth = none := by
  cases ro with
  | none => cases h; rfl
  | some l => obtain ⟨L, _, rfl⟩ := h; rfl
theorem FOk.calls {F : Fence} {π : Pi} {ro : Option Nat} (h : FOk F π ro) {n : Nat} {f : FuncId} {args : Array Value} {w : World} {K : Ending → World → Prop} (hc : CallsIn Fence.wide n P f args w K) : CallsIn F n P f args w K := by
  cases ro with
  | none => cases h; exact hc
  | some l => obtain ⟨L, _, rfl⟩ := h; exact hc
theorem FOk.rounds {F : Fence} {π : Pi} {ro : Option Nat} (h : FOk F π ro) {n l f : Nat} {tmps : Array Value} {as bd : Code} {w : World} {K : Ending → World → Prop} (hc : RoundIn Fence.wide n P l f tmps as bd w K) : RoundIn F n P l f tmps as bd w K := by
  cases ro with
  | none => cases h; exact hc
  | some l => obtain ⟨L, _, rfl⟩ := h; exact hc

/-- An operation that is no deferral, where it stands. -/
theorem wp_of_exec {F : Fence} {n : Nat} {o : Oper} {a : Act} {w w' : World} {π : Pi} {ro : Option Nat} {nx : Next} {u : Value} {next : Act → World → Prop} {Q : Exit → Act → World → Prop} (hF : FOk F π ro) (hd : ∀ c, o.op ≠ .defer c)
    (hx : (execOp a.eval o).run P w = .ok nx w') (hu : outV nx = some u) (hk : next (a.put o.dst u) w') : o.wpIn F n P a w next Q := by
  refine ⟨fun f _ => hF.fn f, ?_⟩
  rw [Oper.semAt_eq _ _ _ hd, hx]
  cases nx <;> simp only [outV] at hu <;> cases hu <;> exact hk
theorem wp_of_goal {F : Fence} {n : Nat} {o : Oper} {a : Act} {w : World} {π : Pi} {H : Heap} {ro : Option Nat} {g : Goal} {next : Act → World → Prop} {Q : Exit → Act → World → Prop} (hF : FOk F π ro) (hd : ∀ c, o.op ≠ .defer c)
    (hr : Rel π H w) (hg : GoalAt P o π w a g) {v : AV} {H' : Heap} (hk : ∀ u w', After π H w v H' u w' → next (a.put o.dst u) w')
    (hj : match g with
      | .fn f args => ∀ π w us n, Rel π H w → concs π args = some us → CallOk P n f us.toArray w (After π H w v H')
      | .round l args => ∀ π w us L n, Rel π H w → concs π args = some us → π l = some L → ∃ fn tmps as bd, (Instr.yield L.block us.toArray).run P w = .ok (.round L.block fn tmps as bd) w ∧
          RoundIn Fence.wide n P L.block fn tmps as bd w fun e w' => ∃ u, e = .returned u ∧ After π H w v H' u w') : o.wpIn F n P a w next Q := by
  have hdep : F.depth.isSome = true → 1 ≤ n := fun h => by rw [hF.depth] at h; cases h
  refine ⟨fun f _ => hF.fn f, ?_⟩
  rw [Oper.semAt_eq _ _ _ hd]
  cases g with
  | fn f args =>
    obtain ⟨us, h1, h2⟩ := hg
    rw [h2]
    rcases hj π w us (n - 1) hr h1 with ⟨u, w', h3, h4⟩ | ⟨h3, h4⟩
    · rw [h3]; exact hk u w' h4
    · rw [h3]
      refine ⟨hdep, (hF.calls h4).mono fun e w' he => ?_⟩
      obtain ⟨u, rfl, h5⟩ := he
      exact hk u w' h5
  | round l args =>
    obtain ⟨us, L, h1, h2, h3⟩ := hg
    obtain ⟨fn, tmps, as, bd, h4, h5⟩ := hj π w us L (n - 1) hr h1 h2
    rw [h3, h4]
    refine ⟨hdep, (hF.rounds h5).mono fun e w' he => ?_⟩
    obtain ⟨u, rfl, h6⟩ := he
    exact hk u w' h6

end
end Go.Ev
