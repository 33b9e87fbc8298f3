/- The quiet operations: texts, shifts, equality. -/
import Derived.Test.YtglploknmdbigaaGreatDoorSb
import Derived.Laws.BytesString
set_option linter.unusedSectionVars false
namespace Go.Ev
section
variable [Sym]
variable {P : Program} {R : Type}

/-! ### texts -/
theorem natBeq (a b : Nat) : (a == b) = Nat.beq a b := by
  cases h : Nat.beq a b with
  | true => simp [Nat.eq_of_beq_eq_true h]
  | false => simp [Nat.ne_of_beq_eq_false h]
theorem strEq_eq : ∀ x y : List Nat, strEq x y = (x == y)
  | [], [] => rfl
  | [], _ :: _ => rfl
  | _ :: _, [] => rfl
  | a :: x, b :: y => by
    show (Bool.casesOn (Nat.beq a b) false (strEq x y) : Bool) = _
    rw [strEq_eq x y, List.cons_beq_cons]
    have e := natBeq a b
    rw [e]
    cases Nat.beq a b <;> rfl

theorem small_cons {a : Nat} {x : List Nat} (h : small (a :: x) = true) : a < 256 ∧ small x = true := by
  simp only [small, List.all_cons, Bool.and_eq_true, Nat.blt_eq] at h
  exact h
theorem toList_bytesV (s : List Nat) : (bytesV s).toList = s.map UInt8.ofNat := by rw [ByteArray.toList_eq]; simp [bytesV]
theorem u8_beq {a b : Nat} (ha : a < 256) (hb : b < 256) : (UInt8.ofNat a == UInt8.ofNat b) = Nat.beq a b := by
  by_cases e : a = b
  · subst e; simp
  · have : Nat.beq a b = false := by cases h : Nat.beq a b with
      | false => rfl
      | true => exact absurd (Nat.eq_of_beq_eq_true h) e
    rw [this, beq_eq_false_iff_ne]
    intro h
    have := congrArg UInt8.toNat h
    simp [UInt8.toNat_ofNat'] at this
    omega
theorem u8_lt {a b : Nat} (ha : a < 256) (hb : b < 256) : decide (UInt8.ofNat a < UInt8.ofNat b) = Nat.blt a b := by
  rw [Bool.eq_iff_iff, decide_eq_true_eq, Nat.blt_eq, UInt8.lt_iff_toNat_lt]
  simp [UInt8.toNat_ofNat']
  rw [Nat.mod_eq_of_lt ha, Nat.mod_eq_of_lt hb]
theorem map_beq : ∀ {x y : List Nat}, small x = true → small y = true → (x.map UInt8.ofNat == y.map UInt8.ofNat) = (x == y)
  | [], [], _, _ => rfl
  | [], _ :: _, _, _ => rfl
  | _ :: _, [], _, _ => rfl
  | a :: x, b :: y, hx, hy => by
    obtain ⟨h1, h2⟩ := small_cons hx
    obtain ⟨h3, h4⟩ := small_cons hy
    rw [List.map_cons, List.map_cons, List.cons_beq_cons, List.cons_beq_cons, map_beq h2 h4, u8_beq h1 h3]
    have e := natBeq a b
    rw [e]
theorem strLt_eq : ∀ {x y : List Nat}, small x = true → small y = true → Op.bytesLess (x.map UInt8.ofNat) (y.map UInt8.ofNat) = strLt x y
  | [], [], _, _ => rfl
  | [], _ :: _, _, _ => rfl
  | _ :: _, [], _, _ => rfl
  | a :: x, b :: y, hx, hy => by
    obtain ⟨h1, h2⟩ := small_cons hx
    obtain ⟨h3, h4⟩ := small_cons hy
    show (decide (UInt8.ofNat a < UInt8.ofNat b) || (UInt8.ofNat a == UInt8.ofNat b && Op.bytesLess (x.map UInt8.ofNat) (y.map UInt8.ofNat))) = (Bool.casesOn (Nat.beq a b) (Nat.blt a b) (strLt x y) : Bool)
    rw [u8_lt h1 h3, u8_beq h1 h3, strLt_eq h2 h4]
    cases e : Nat.beq a b with
    | false => simp
    | true =>
      have := Nat.eq_of_beq_eq_true e
      subst this
      have : Nat.blt a a = false := by cases h : Nat.blt a a with
        | false => rfl
        | true => rw [Nat.blt_eq] at h; omega
      simp [this]
theorem strLt_swap : ∀ x y : List Nat, strLt y x = !(strLt x y || strEq x y)
  | [], [] => rfl
  | [], _ :: _ => rfl
  | _ :: _, [] => rfl
  | a :: x, b :: y => by
    show (Bool.casesOn (Nat.beq b a) (Nat.blt b a) (strLt y x) : Bool) = !((Bool.casesOn (Nat.beq a b) (Nat.blt a b) (strLt x y) : Bool) || (Bool.casesOn (Nat.beq a b) false (strEq x y) : Bool))
    by_cases e : a = b
    · subst e
      have : Nat.beq a a = true := Nat.beq_refl a
      rw [this]
      exact strLt_swap x y
    · have h1 : Nat.beq a b = false := by cases h : Nat.beq a b with
        | false => rfl
        | true => exact absurd (Nat.eq_of_beq_eq_true h) e
      have h2 : Nat.beq b a = false := by cases h : Nat.beq b a with
        | false => rfl
        | true => exact absurd (Nat.eq_of_beq_eq_true h).symm e
      rw [h1, h2]
      show Nat.blt b a = !(Nat.blt a b || false)
      rw [Bool.or_false, Bool.eq_iff_iff, Bool.not_eq_true', Nat.blt_eq, Bool.eq_false_iff, Ne, Nat.blt_eq]
      omega

abbrev StrF (R : Type) := List Nat → List Nat → (AV → Option R) → Option R
def StrOk (P : Program) (op : BinOp) (f : StrF R) : Prop := ∀ m n k r, f m n k = some r → ∃ v, k v = some r ∧
  (small m = true → small n = true → ∃ u, (∀ π, conc π v = some u) ∧ ∀ ty w, (binOp op ty (.string (bytesV m)) (.string (bytesV n))).run P w = .ok u w)
theorem sNone_ok (op : BinOp) : StrOk P op (sNone : StrF R) := fun _ _ _ _ h => by cases h
theorem sB_ok {op : BinOp} {f : StrF R} (g : List Nat → List Nat → Bool) (hf : ∀ m n k, f m n k = retB (g m n) k)
    (h : ∀ m n, small m = true → small n = true → ∀ ty w, (binOp op ty (.string (bytesV m)) (.string (bytesV n))).run P w = .ok (.bool (g m n)) w) : StrOk P op f :=
  fun m n k r hr => by rw [hf, retB_eq] at hr; exact ⟨_, hr, fun h1 h2 => ⟨_, fun _ => rfl, h m n h1 h2⟩⟩
theorem small_append {x y : List Nat} (h1 : small x = true) (h2 : small y = true) : small (x ++ y) = true := by
  simp only [small, List.all_append, Bool.and_eq_true]; exact ⟨h1, h2⟩
theorem bytesV_append (x y : List Nat) : bytesV x ++ bytesV y = bytesV (x ++ y) := by
  apply ByteArray.ext
  simp [bytesV]
theorem bytesV_size (s : List Nat) : (bytesV s).size = s.length := by simp [bytesV, ByteArray.size]

theorem strOp_ok (op : BinOp) : StrOk P op (strOp op : StrF R) := by
  cases op
  case add =>
    intro m n k r h
    change sAdd m n k = some r at h
    unfold sAdd at h
    rw [lenK_eq, lenK_eq] at h
    obtain ⟨hlt, g1⟩ := bcase_none h; clear h; have h := g1; clear g1
    rw [Nat.blt_eq] at hlt
    rw [appK_eq] at h
    refine ⟨_, h, fun h1 h2 => ⟨_, fun π => conc_mk_str (small_append h1 h2), fun ty w => ?_⟩⟩
    have hmax : ¬ ((((bytesV m).size + (bytesV n).size : Nat) : Int) > IntKind.i64.max) := by
      rw [bytesV_size, bytesV_size]
      have : IntKind.i64.max = 9223372036854775807 := by decide
      rw [this]
      have : m.length + n.length < 1000000000 := hlt
      omega
    simp only [binOp, Op.stringOp]
    rw [if_neg hmax, bytesV_append]
    rfl
  case sub => exact sNone_ok _
  case mul => exact sNone_ok _
  case quo => exact sNone_ok _
  case rem => exact sNone_ok _
  case and => exact sNone_ok _
  case or => exact sNone_ok _
  case xor => exact sNone_ok _
  case shl => exact sNone_ok _
  case shr => exact sNone_ok _
  case andNot => exact sNone_ok _
  case eql => exact sB_ok strEq (fun m n k => rfl) (fun m n h1 h2 ty w => by simp only [binOp, Op.stringOp, Sem.run_pure, toList_bytesV, map_beq h1 h2, strEq_eq])
  case neq => exact sB_ok (fun m n => !strEq m n) (fun m n k => by show retB (notB (strEq m n)) k = _; rw [notB_eq]) (fun m n h1 h2 ty w => by simp only [binOp, Op.stringOp, Sem.run_pure, toList_bytesV, map_beq h1 h2, strEq_eq])
  case lss => exact sB_ok strLt (fun m n k => rfl) (fun m n h1 h2 ty w => by simp only [binOp, Op.stringOp, Sem.run_pure, toList_bytesV, strLt_eq h1 h2])
  case leq => exact sB_ok (fun m n => !strLt n m) (fun m n k => by show retB (notB (strLt n m)) k = _; rw [notB_eq]) (fun m n h1 h2 ty w => by simp only [binOp, Op.stringOp, Sem.run_pure, toList_bytesV, strLt_eq h1 h2, map_beq h1 h2, strLt_swap m n, strEq_eq, Bool.not_not])
  case gtr => exact sB_ok (fun m n => strLt n m) (fun m n k => rfl) (fun m n h1 h2 ty w => by simp only [binOp, Op.stringOp, Sem.run_pure, toList_bytesV, strLt_eq h1 h2, map_beq h1 h2, strLt_swap m n, strEq_eq])
  case geq => exact sB_ok (fun m n => !strLt m n) (fun m n k => by show retB (notB (strLt m n)) k = _; rw [notB_eq]) (fun m n h1 h2 ty w => by simp only [binOp, Op.stringOp, Sem.run_pure, toList_bytesV, strLt_eq h1 h2])

/-! ### operations of two -/
theorem guard_int (op : BinOp) (ty : TypeId) (x y : Operand) (j j' : IntKind) (m n : Int) (w : World) : (eqGuard op ty x y (.int j m) (.int j' n)).run P w = .ok () w := by
  unfold eqGuard; split <;> rfl
theorem guard_str (op : BinOp) (ty : TypeId) (x y : Operand) (m n : ByteArray) (w : World) : (eqGuard op ty x y (.string m) (.string n)).run P w = .ok () w := by
  unfold eqGuard; split <;> rfl

theorem qNumStr_sound {o : Oper} {op : BinOp} {ty : TypeId} {x y : Operand} {f : NumF R} {g : StrF R} (ho : ∃ b, o.op = .binOp op ty x y b) (hf : NumOk P op f) (hg : StrOk P op g) : QSound P o (qNumStr f g x y : Q R) := by
  obtain ⟨b, ho⟩ := ho
  intro t H k r h
  obtain ⟨v, h1, h2⟩ := opK_inv (x := x) h
  obtain ⟨u, g1, h3⟩ := opK_inv (x := y) h1; clear h1; have h1 := g1; clear g1
  cases v <;> first | (cases h1; done) | skip
  case int j m =>
    replace h1 : numK u (fun j' n => Bool.casesOn (sameKind j j') none (f j m n k)) = some r := h1
    obtain ⟨j', n, rfl, g1⟩ := numK_inv h1; clear h1; have h1 := g1; clear g1
    obtain ⟨hj, g1⟩ := bcase_none h1; clear h1; have h1 := g1; clear g1
    have hj := sameKind_eq hj
    subst hj
    obtain ⟨v, u, h4, h5, h6⟩ := hf _ _ _ _ _ h1
    refine ⟨v, h4, fun π w a _ ha => ⟨u, h5 π, ?_⟩⟩
    have hx := conc_int (h2 π a (ha x (by simp [ho, Op.operands])))
    have hy := conc_int (h3 π a (ha y (by simp [ho, Op.operands])))
    simp [execOp, ho, hx, hy, guard_int, h6]
  case str m =>
    replace h1 : strK u (fun n => g m n k) = some r := h1
    obtain ⟨n, rfl, g1⟩ := strK_inv h1; clear h1; have h1 := g1; clear g1
    obtain ⟨v, h4, h5⟩ := hg _ _ _ _ h1
    refine ⟨v, h4, fun π w a _ ha => ?_⟩
    obtain ⟨hm, hx⟩ := conc_str (h2 π a (ha x (by simp [ho, Op.operands])))
    obtain ⟨hn, hy⟩ := conc_str (h3 π a (ha y (by simp [ho, Op.operands])))
    obtain ⟨u, h6, h7⟩ := h5 hm hn
    refine ⟨u, h6 π, ?_⟩
    simp [execOp, ho, hx, hy, guard_str, h7]

/-! shifts -/
def ShOk (P : Program) (op : BinOp) (f : NumF R) : Prop := ∀ j m n k r, f j m n k = some r → ∃ v u, k v = some r ∧ (∀ π, conc π v = some u) ∧ ∀ j' ty w, (binOp op ty (.int j m) (.int j' n)).run P w = .ok u w
theorem shlK_ok : ShOk P .shl (shlK : NumF R) := by
  intro j m n k r h
  obtain ⟨i, rfl, g1⟩ := ofNatK_inv h; clear h; have h := g1; clear g1
  rw [wrapF_eq, retI_eq] at h
  refine ⟨_, _, h, fun _ => rfl, fun j' ty w => ?_⟩
  have hn : ¬ ((i : Int) < 0) := by omega
  have e : (2 : Int) ^ (min i j.bits) = ((2 ^ (min i j.bits) : Nat) : Int) := by simp
  simp only [binOp, Op.shift, if_neg hn, Int.toNat_natCast, Sem.run_pure, e]
  rfl
theorem shrK_ok : ShOk P .shr (shrK : NumF R) := by
  intro j m n k r h
  obtain ⟨i, rfl, g1⟩ := ofNatK_inv h; clear h; have h := g1; clear g1
  rw [retI_eq] at h
  refine ⟨_, _, h, fun _ => rfl, fun j' ty w => ?_⟩
  have hn : ¬ ((i : Int) < 0) := by omega
  have e : (2 : Int) ^ (min i j.bits) = ((2 ^ (min i j.bits) : Nat) : Int) := by simp
  simp only [binOp, Op.shift, if_neg hn, Int.toNat_natCast, Sem.run_pure, e]
  rfl
theorem qShift_sound {o : Oper} {op : BinOp} {ty : TypeId} {x y : Operand} {f : NumF R} (ho : ∃ b, o.op = .binOp op ty x y b) (hf : ShOk P op f) : QSound P o (qShift f x y : Q R) := by
  obtain ⟨b, ho⟩ := ho
  intro t H k r h
  obtain ⟨v, h1, h2⟩ := opK_inv (x := x) h
  obtain ⟨u, g1, h3⟩ := opK_inv (x := y) h1; clear h1; have h1 := g1; clear g1
  obtain ⟨j, m, rfl, g1⟩ := numK_inv h1; clear h1; have h1 := g1; clear g1
  obtain ⟨j', n, rfl, g1⟩ := numK_inv h1; clear h1; have h1 := g1; clear g1
  obtain ⟨v, u, h4, h5, h6⟩ := hf _ _ _ _ _ h1
  refine ⟨v, h4, fun π w a _ ha => ⟨u, h5 π, ?_⟩⟩
  have hx := conc_int (h2 π a (ha x (by simp [ho, Op.operands])))
  have hy := conc_int (h3 π a (ha y (by simp [ho, Op.operands])))
  simp [execOp, ho, hx, hy, guard_int, h6]

/-! ### equality -/
/-- Two values held against each other: as the machine does, from so deep on. -/
def EqOk (P : Program) (d : Nat) (t : TypeId) (e : EqF R) : Prop := ∀ x y k r, e x y k = some r → ∃ b, k b = some r ∧
  ∀ π u v, conc π x = some u → conc π y = some v → ∀ D w, d ≤ D → (Op.equalIn D t u v).run P w = .ok b w
theorem eqNone_ok (d : Nat) (t : TypeId) : EqOk P d t (eqNone : EqF R) := fun _ _ _ _ h => by cases h
theorem boolB_eq (b : Bool) (k : Bool → Option R) : boolB b k = k b := by cases b <;> rfl

theorem eqBool_ok {d : Nat} {t : TypeId} (h : P.underlying t = some .bool) : EqOk P (d + 1) t (eqBool : EqF R) := by
  intro x y k r hr
  obtain ⟨a, rfl, g1⟩ := boolK_inv hr; clear hr; have hr := g1; clear g1
  obtain ⟨b, rfl, g1⟩ := boolK_inv hr; clear hr; have hr := g1; clear g1
  rw [boolB_eq] at hr
  refine ⟨_, hr, fun π u v hu hv D w hD => ?_⟩
  rw [conc_bool hu, conc_bool hv]
  obtain ⟨D, rfl⟩ : ∃ D', D = D' + 1 := ⟨D - 1, by omega⟩
  rw [run_equalIn_bool' w D t a b h]
  cases a <;> cases b <;> rfl
theorem eqInt_ok {d : Nat} {t : TypeId} {j : IntKind} (h : P.underlying t = some (.int j)) : EqOk P (d + 1) t (eqInt : EqF R) := by
  intro x y k r hr
  obtain ⟨i, a, rfl, g1⟩ := numK_inv hr; clear hr; have hr := g1; clear g1
  obtain ⟨i', b, rfl, g1⟩ := numK_inv hr; clear hr; have hr := g1; clear g1
  obtain ⟨hi, g1⟩ := bcase_none hr; clear hr; have hr := g1; clear g1
  have hi := sameKind_eq hi
  subst hi
  rw [boolB_eq, intEq_eq] at hr
  refine ⟨_, hr, fun π u v hu hv D w hD => ?_⟩
  rw [conc_int hu, conc_int hv]
  obtain ⟨D, rfl⟩ : ∃ D', D = D' + 1 := ⟨D - 1, by omega⟩
  rw [run_equalIn_int w D t i j a b h]
theorem eqStr_ok {d : Nat} {t : TypeId} (h : P.underlying t = some .string) : EqOk P (d + 1) t (eqStr : EqF R) := by
  intro x y k r hr
  obtain ⟨a, rfl, g1⟩ := strK_inv hr; clear hr; have hr := g1; clear g1
  obtain ⟨b, rfl, g1⟩ := strK_inv hr; clear hr; have hr := g1; clear g1
  rw [boolB_eq, strEq_eq] at hr
  refine ⟨_, hr, fun π u v hu hv D w hD => ?_⟩
  obtain ⟨ha, rfl⟩ := conc_str hu
  obtain ⟨hb, rfl⟩ := conc_str hv
  obtain ⟨D, rfl⟩ : ∃ D', D = D' + 1 := ⟨D - 1, by omega⟩
  rw [run_equalIn_string w D t _ _ h, toList_bytesV, toList_bytesV, map_beq ha hb]

theorem eqNil_inv {n q : AV → Bool} {x y : AV} {k : Bool → Option R} {r : R} (h : eqNil n q x y k = some r) :
    (n x = true ∧ n y = true ∧ k true = some r) ∨ (n x = true ∧ q y = true ∧ k false = some r) ∨ (q x = true ∧ n y = true ∧ k false = some r) := by
  rcases bcase_true h with ⟨h1, h⟩ | ⟨h1, h⟩
  · obtain ⟨h2, g1⟩ := bcase_none h; clear h; have h := g1; clear g1
    obtain ⟨h3, g1⟩ := bcase_none h; clear h; have h := g1; clear g1
    exact .inr (.inr ⟨h3, h2, h⟩)
  · rcases bcase_true h with ⟨h2, h⟩ | ⟨h2, h⟩
    · obtain ⟨h3, g1⟩ := bcase_none h; clear h; have h := g1; clear g1
      exact .inr (.inl ⟨h1, h3, h⟩)
    · exact .inl ⟨h1, h2, h⟩

theorem eqNil_ok {d : Nat} {t : TypeId} {n q : AV → Bool} (hnn : ∀ π x y u v, n x = true → n y = true → conc π x = some u → conc π y = some v → ∀ D w, (Op.equalIn (D + 1) t u v).run P w = .ok true w)
    (hnq : ∀ π x y u v, n x = true → q y = true → conc π x = some u → conc π y = some v → ∀ D w, (Op.equalIn (D + 1) t u v).run P w = .ok false w)
    (hqn : ∀ π x y u v, q x = true → n y = true → conc π x = some u → conc π y = some v → ∀ D w, (Op.equalIn (D + 1) t u v).run P w = .ok false w) : EqOk P (d + 1) t (eqNil n q : EqF R) := by
  intro x y k r h
  rcases eqNil_inv h with ⟨h1, h2, h⟩ | ⟨h1, h2, h⟩ | ⟨h1, h2, h⟩
  · refine ⟨_, h, fun π u v hu hv D w hD => ?_⟩
    obtain ⟨D, rfl⟩ : ∃ D', D = D' + 1 := ⟨D - 1, by omega⟩
    exact hnn π x y u v h1 h2 hu hv D w
  · refine ⟨_, h, fun π u v hu hv D w hD => ?_⟩
    obtain ⟨D, rfl⟩ : ∃ D', D = D' + 1 := ⟨D - 1, by omega⟩
    exact hnq π x y u v h1 h2 hu hv D w
  · refine ⟨_, h, fun π u v hu hv D w hD => ?_⟩
    obtain ⟨D, rfl⟩ : ∃ D', D = D' + 1 := ⟨D - 1, by omega⟩
    exact hqn π x y u v h1 h2 hu hv D w

theorem nPtr_inv {π : Pi} {x : AV} {u : Value} (h : nPtr x = true) (hu : conc π x = some u) : u = .pointer none := by cases x <;> simp [nPtr] at h; cases hu; rfl
theorem rPtr_inv {π : Pi} {x : AV} {u : Value} (h : rPtr x = true) (hu : conc π x = some u) : ∃ a, u = .pointer (some a) := by cases x <;> simp [rPtr] at h; obtain ⟨l, _, rfl⟩ := conc_ptr hu; exact ⟨_, rfl⟩
theorem nSl_inv {π : Pi} {x : AV} {u : Value} (h : nSl x = true) (hu : conc π x = some u) : u = .slice none 0 0 := by cases x <;> simp [nSl] at h; cases hu; rfl
theorem rSl_inv {π : Pi} {x : AV} {u : Value} (h : rSl x = true) (hu : conc π x = some u) : ∃ a n c, u = .slice (some a) n c := by cases x <;> simp [rSl] at h; obtain ⟨l, _, _, _, rfl, _⟩ := conc_sl hu; exact ⟨_, _, _, rfl⟩
theorem nMap_inv {π : Pi} {x : AV} {u : Value} (h : nMap x = true) (hu : conc π x = some u) : u = .map none := by cases x <;> simp [nMap] at h; cases hu; rfl
theorem rMap_inv {π : Pi} {x : AV} {u : Value} (h : rMap x = true) (hu : conc π x = some u) : ∃ a, u = .map (some a) := by
  cases x <;> simp [rMap] at h; unfold conc at hu; split at hu <;> cases hu; exact ⟨_, rfl⟩
theorem nFn_inv {π : Pi} {x : AV} {u : Value} (h : nFn x = true) (hu : conc π x = some u) : u = .nilFunc := by cases x <;> simp [nFn] at h; cases hu; rfl
theorem rFn_inv {π : Pi} {x : AV} {u : Value} (h : rFn x = true) (hu : conc π x = some u) : ∃ a b c, u = .func a b c := by
  cases x <;> simp [rFn] at h <;> unfold conc at hu <;> split at hu <;> cases hu <;> exact ⟨_, _, _, rfl⟩
theorem nIf_inv {π : Pi} {x : AV} {u : Value} (h : nIf x = true) (hu : conc π x = some u) : u = .nilIface := by cases x <;> simp [nIf] at h; cases hu; rfl
theorem rIf_inv {π : Pi} {x : AV} {u : Value} (h : rIf x = true) (hu : conc π x = some u) : ∃ t a, u = .iface t a := by
  cases x <;> simp [rIf] at h; unfold conc at hu; split at hu <;> cases hu; exact ⟨_, _, rfl⟩

theorem eqPtr_ok {d : Nat} {t e : TypeId} (h : P.underlying t = some (.pointer e)) : EqOk P (d + 1) t (eqNil nPtr rPtr : EqF R) :=
  eqNil_ok (fun π x y u v h1 h2 hu hv D w => by rw [nPtr_inv h1 hu, nPtr_inv h2 hv]; simp [Op.equalIn, run_underlying h])
    (fun π x y u v h1 h2 hu hv D w => by obtain ⟨a, rfl⟩ := rPtr_inv h2 hv; rw [nPtr_inv h1 hu]; simp [Op.equalIn, run_underlying h])
    (fun π x y u v h1 h2 hu hv D w => by obtain ⟨a, rfl⟩ := rPtr_inv h1 hu; rw [nPtr_inv h2 hv]; simp [Op.equalIn, run_underlying h])
theorem eqSl_ok {d : Nat} {t e : TypeId} (h : P.underlying t = some (.slice e)) : EqOk P (d + 1) t (eqNil nSl rSl : EqF R) :=
  eqNil_ok (fun π x y u v h1 h2 hu hv D w => by rw [nSl_inv h1 hu, nSl_inv h2 hv]; simp [Op.equalIn, run_underlying h])
    (fun π x y u v h1 h2 hu hv D w => by obtain ⟨a, n, c, rfl⟩ := rSl_inv h2 hv; rw [nSl_inv h1 hu]; simp [Op.equalIn, run_underlying h])
    (fun π x y u v h1 h2 hu hv D w => by obtain ⟨a, n, c, rfl⟩ := rSl_inv h1 hu; rw [nSl_inv h2 hv]; simp [Op.equalIn, run_underlying h])
theorem eqMap_ok {d : Nat} {t e f : TypeId} (h : P.underlying t = some (.map e f)) : EqOk P (d + 1) t (eqNil nMap rMap : EqF R) :=
  eqNil_ok (fun π x y u v h1 h2 hu hv D w => by rw [nMap_inv h1 hu, nMap_inv h2 hv]; simp [Op.equalIn, run_underlying h])
    (fun π x y u v h1 h2 hu hv D w => by obtain ⟨a, rfl⟩ := rMap_inv h2 hv; rw [nMap_inv h1 hu]; simp [Op.equalIn, run_underlying h])
    (fun π x y u v h1 h2 hu hv D w => by obtain ⟨a, rfl⟩ := rMap_inv h1 hu; rw [nMap_inv h2 hv]; simp [Op.equalIn, run_underlying h])
theorem eqFn_ok {d : Nat} {t : TypeId} {a b c} (h : P.underlying t = some (.func a b c)) : EqOk P (d + 1) t (eqNil nFn rFn : EqF R) :=
  eqNil_ok (fun π x y u v h1 h2 hu hv D w => by rw [nFn_inv h1 hu, nFn_inv h2 hv]; simp [Op.equalIn, run_underlying h])
    (fun π x y u v h1 h2 hu hv D w => by obtain ⟨a, n, c, rfl⟩ := rFn_inv h2 hv; rw [nFn_inv h1 hu]; simp [Op.equalIn, run_underlying h])
    (fun π x y u v h1 h2 hu hv D w => by obtain ⟨a, n, c, rfl⟩ := rFn_inv h1 hu; rw [nFn_inv h2 hv]; simp [Op.equalIn, run_underlying h])
theorem eqIf_ok {d : Nat} {t : TypeId} {ms} (h : P.underlying t = some (.interface ms)) : EqOk P (d + 1) t (eqNil nIf rIf : EqF R) :=
  eqNil_ok (fun π x y u v h1 h2 hu hv D w => by rw [nIf_inv h1 hu, nIf_inv h2 hv]; simp [Op.equalIn, run_underlying h])
    (fun π x y u v h1 h2 hu hv D w => by obtain ⟨a, n, rfl⟩ := rIf_inv h2 hv; rw [nIf_inv h1 hu]; simp [Op.equalIn, run_underlying h])
    (fun π x y u v h1 h2 hu hv D w => by obtain ⟨a, n, rfl⟩ := rIf_inv h1 hu; rw [nIf_inv h2 hv]; simp [Op.equalIn, run_underlying h])

theorem eqFs_ok {d : Nat} : ∀ (fs : List Field) (E : Field → EqF R), (∀ f ∈ fs, EqOk P d f.type (E f)) → ∀ xs ys k r,
    eqFs ((fs.filter fun f => f.name != "_").map (fun f => partK P f.type f.offset), (fs.filter fun f => f.name != "_").map E) () xs ys k = some r → ∃ b, k b = some r ∧
    ∀ π us vs, concs π xs = some us → AV.flats xs = true → concs π ys = some vs → AV.flats ys = true → ∀ D w, d ≤ D → (Op.eqFields D us.toArray vs.toArray fs).run P w = .ok b w
  | [], E, _, xs, ys, k, r, h => ⟨true, h, fun _ _ _ _ _ _ _ _ _ _ => rfl⟩
  | f :: fs, E, hE, xs, ys, k, r, h => by
    by_cases hn : f.name = "_"
    · have e : ((f :: fs).filter fun f => f.name != "_") = fs.filter fun f => f.name != "_" := by simp [hn]
      rw [e] at h
      obtain ⟨b, h1, h2⟩ := eqFs_ok fs E (fun g hg => hE g (by simp [hg])) xs ys k r h
      refine ⟨b, h1, fun π us vs a1 a2 a3 a4 D w hD => ?_⟩
      simp only [Op.eqFields, hn, ne_eq, not_true, if_false]
      exact h2 π us vs a1 a2 a3 a4 D w hD
    · have e : ((f :: fs).filter fun f => f.name != "_") = f :: fs.filter fun f => f.name != "_" := by simp [hn]
      rw [e, List.map_cons, List.map_cons] at h
      have h : partK P f.type f.offset xs (fun a => partK P f.type f.offset ys fun b => E f a b fun r => Bool.casesOn r (k false) (eqFs ((fs.filter fun f => f.name != "_").map (fun f => partK P f.type f.offset), (fs.filter fun f => f.name != "_").map E) () xs ys k)) = some r := h
      obtain ⟨x, h1, p1⟩ := partK_ok f.type f.offset _ _ _ h
      obtain ⟨y, h2, p2⟩ := partK_ok f.type f.offset _ _ _ h1
      obtain ⟨b, h3, p3⟩ := hE f (by simp) _ _ _ _ h2
      rcases bcase_true h3 with ⟨rfl, h4⟩ | ⟨rfl, h4⟩
      · refine ⟨false, h4, fun π us vs a1 a2 a3 a4 D w hD => ?_⟩
        obtain ⟨u, c1, r1⟩ := p1 π us a1 a2
        obtain ⟨v, c2, r2⟩ := p2 π vs a3 a4
        simp only [Op.eqFields, ne_eq, hn, not_false_iff, if_true, Sem.run_bind, r1, r2, Result.andThen_ok, p3 π u v c1 c2 D w hD, Bool.not_false, Sem.run_pure]
      · obtain ⟨b, h5, p5⟩ := eqFs_ok fs E (fun g hg => hE g (by simp [hg])) xs ys k r h4
        refine ⟨b, h5, fun π us vs a1 a2 a3 a4 D w hD => ?_⟩
        obtain ⟨u, c1, r1⟩ := p1 π us a1 a2
        obtain ⟨v, c2, r2⟩ := p2 π vs a3 a4
        simp only [Op.eqFields, ne_eq, hn, not_false_iff, if_true, Sem.run_bind, r1, r2, Result.andThen_ok, p3 π u v c1 c2 D w hD, Bool.not_true, Bool.false_eq_true, if_false]
        exact p5 π us vs a1 a2 a3 a4 D w hD

theorem eqT_ok : ∀ (d : Nat) (t : TypeId), EqOk P d t (eqT P d t : EqF R)
  | 0, t => eqNone_ok 0 t
  | d + 1, t => by
    unfold eqT
    split
    · exact eqBool_ok (underQ_some (by assumption))
    · exact eqInt_ok (underQ_some (by assumption))
    · exact eqStr_ok (underQ_some (by assumption))
    · exact eqPtr_ok (underQ_some (by assumption))
    · exact eqSl_ok (underQ_some (by assumption))
    · exact eqMap_ok (underQ_some (by assumption))
    · exact eqFn_ok (underQ_some (by assumption))
    · exact eqIf_ok (underQ_some (by assumption))
    · rename_i fs hu
      have hu := underQ_some hu
      have hfs : P.fieldsOf t = fs := by simp [Program.fieldsOf, hu]
      split
      · exact eqNone_ok _ _
      · rename_i hs
        intro x y k r h
        obtain ⟨xs, rfl, g1⟩ := aggK_inv h; clear h; have h := g1; clear g1
        obtain ⟨ys, rfl, g1⟩ := aggK_inv h; clear h; have h := g1; clear g1
        obtain ⟨b, h1, h2⟩ := eqFs_ok (P := P) (d := d) fs.toList (fun f => eqT P d f.type) (fun f _ => eqT_ok d f.type) xs ys k r h
        refine ⟨b, h1, fun π u v hu' hv D w hD => ?_⟩
        obtain ⟨us, c1, c2, rfl⟩ := conc_agg hu'
        obtain ⟨vs, c3, c4, rfl⟩ := conc_agg hv
        obtain ⟨D, rfl⟩ : ∃ D', D = D' + 1 := ⟨D - 1, by omega⟩
        rw [run_equalIn_struct w D t _ _ (by rw [hfs]; exact hu) (by simpa using hs), hfs]
        exact h2 π us vs c1 c2 c3 c4 D w (by omega)
    · exact eqNone_ok _ _

end
end Go.Ev

set_option linter.unusedSectionVars false
namespace Go.Ev
section
variable [Sym]
variable {P : Program} {R : Type}

/-! equality as an operation -/
/-- Neither a number nor a text. -/
def odd (x : AV) : Prop := (∀ j n, x ≠ .int j n) ∧ (∀ s, x ≠ .str s) ∧ ∀ i, x ≠ .sym i
theorem binEq {π : Pi} {x : AV} {u v : Value} {ty : TypeId} (hx : odd x) (hu : conc π x = some u) (w : World) :
    (binOp .eql ty u v).run P w = ((Op.equalIn 10000 ty u v).run P w).andThen (fun b w' => .ok (.bool b) w') ∧
    (binOp .neq ty u v).run P w = ((Op.equalIn 10000 ty u v).run P w).andThen (fun b w' => .ok (.bool (!b)) w') := by
  have key : (∀ j n, u ≠ .int j n) ∧ (∀ s, u ≠ .string s) ∧ (∀ k b, u ≠ .float k b) ∧ (∀ k a b, u ≠ .complex k a b) := by
    cases x <;> unfold conc at hu <;> (repeat' split at hu) <;> first
      | (cases hu; done)
      | exact absurd rfl (hx.1 _ _)
      | exact absurd rfl (hx.2.1 _)
      | exact absurd rfl (hx.2.2 _)
      | (cases hu; exact ⟨by simp, by simp, by simp, by simp⟩)
  obtain ⟨h1, h2, h3, h4⟩ := key
  have e1 : binOp .eql ty u v = (do pure (.bool (← Op.equal ty u v))) := by
    unfold binOp
    split <;> first
      | rfl
      | (rename_i h _; exact absurd rfl (h1 _ _))
      | skip
    all_goals first
      | exact absurd rfl (h1 _ _)
      | exact absurd rfl (h2 _)
      | exact absurd rfl (h3 _ _)
      | exact absurd rfl (h4 _ _ _)
      | simp_all
  have e2 : binOp .neq ty u v = (do pure (.bool (!(← Op.equal ty u v)))) := by
    unfold binOp
    split <;> first
      | rfl
      | exact absurd rfl (h1 _ _)
      | exact absurd rfl (h2 _)
      | exact absurd rfl (h3 _ _)
      | exact absurd rfl (h4 _ _ _)
      | simp_all
  rw [e1, e2]
  constructor <;> simp [Op.equal, Op.maxDepth]

/-- What the guard of an equality owes. -/
def GuardOk (P : Program) (op : BinOp) (ty : TypeId) (x y : Operand) (e : EqF R) : Prop := ∀ a b k r, e a b k = some r → ∀ π u v, conc π a = some u → conc π b = some v → ∀ w, (eqGuard op ty x y u v).run P w = .ok () w

theorem qEq_sound {o : Oper} {ty : TypeId} {x y : Operand} {nt : Bool} {d : Nat} {e : EqF R} (ho : ∃ b, o.op = .binOp (if nt then .neq else .eql) ty x y b) (he : EqOk P d ty e) (hd : d ≤ 10000)
    (hodd : ∀ a b k r, e a b k = some r → odd a) (hg : GuardOk P (if nt then .neq else .eql) ty x y e) : QSound P o (qEq e nt x y : Q R) := by
  obtain ⟨b, ho⟩ := ho
  intro t H k r h
  obtain ⟨v, h1, h2⟩ := opK_inv (x := x) h
  obtain ⟨u, g1, h3⟩ := opK_inv (x := y) h1; clear h1; have h1 := g1; clear g1
  obtain ⟨c, h4, h5⟩ := he _ _ _ _ h1
  cases nt with
  | false =>
    rw [show (Bool.casesOn false (retB c k) (retB (notB c) k) : Option R) = retB c k from rfl, retB_eq] at h4
    refine ⟨_, h4, fun π w a _ ha => ⟨_, rfl, ?_⟩⟩
    have hx := h2 π a (ha x (by simp [ho, Op.operands]))
    have hy := h3 π a (ha y (by simp [ho, Op.operands]))
    have hb := (binEq (P := P) (ty := ty) (v := a.eval y) (hodd _ _ _ _ h1) hx w).1
    rw [h5 π _ _ hx hy 10000 w hd] at hb
    have hgg : (eqGuard .eql ty x y (a.eval x) (a.eval y)).run P w = .ok () w := hg _ _ _ _ h1 π _ _ hx hy w
    simp only [execOp, ho, Sem.run_bind, Bool.false_eq_true, if_false, hgg, Result.andThen_ok, hb]
    rfl
  | true =>
    rw [show (Bool.casesOn true (retB c k) (retB (notB c) k) : Option R) = retB (notB c) k from rfl, retB_eq, notB_eq] at h4
    refine ⟨_, h4, fun π w a _ ha => ⟨_, rfl, ?_⟩⟩
    have hx := h2 π a (ha x (by simp [ho, Op.operands]))
    have hy := h3 π a (ha y (by simp [ho, Op.operands]))
    have hb := (binEq (P := P) (ty := ty) (v := a.eval y) (hodd _ _ _ _ h1) hx w).2
    rw [h5 π _ _ hx hy 10000 w hd] at hb
    have hgg : (eqGuard .neq ty x y (a.eval x) (a.eval y)).run P w = .ok () w := hg _ _ _ _ h1 π _ _ hx hy w
    simp only [execOp, ho, Sem.run_bind, if_true, hgg, Result.andThen_ok, hb]
    rfl

theorem guard_bool (op : BinOp) (ty : TypeId) (x y : Operand) (m : Bool) (v : Value) (w : World) : (eqGuard op ty x y (.bool m) v).run P w = .ok () w := by
  unfold eqGuard; split <;> rfl
theorem guard_ptr (op : BinOp) (ty : TypeId) (x y : Operand) (m) (v : Value) (w : World) : (eqGuard op ty x y (.pointer m) v).run P w = .ok () w := by
  unfold eqGuard; split <;> rfl
theorem guard_sl (op : BinOp) (ty : TypeId) (x y : Operand) (a b c) (v : Value) (w : World) : (eqGuard op ty x y (.slice a b c) v).run P w = .ok () w := by
  unfold eqGuard; split <;> rfl
theorem guard_map (op : BinOp) (ty : TypeId) (x y : Operand) (a) (v : Value) (w : World) : (eqGuard op ty x y (.map a) v).run P w = .ok () w := by
  unfold eqGuard; split <;> rfl
theorem guard_nilfn (op : BinOp) (ty : TypeId) (x y : Operand) (v : Value) (w : World) : (eqGuard op ty x y .nilFunc v).run P w = .ok () w := by
  unfold eqGuard; split <;> rfl
theorem guard_fn (op : BinOp) (ty : TypeId) (x y : Operand) (a b c) (v : Value) (w : World) : (eqGuard op ty x y (.func a b c) v).run P w = .ok () w := by
  unfold eqGuard; split <;> rfl
theorem guard_if (op : BinOp) (ty : TypeId) (x y : Operand) (a b) (v : Value) (w : World) : (eqGuard op ty x y (.iface a b) v).run P w = .ok () w := by
  unfold eqGuard; split <;> rfl
theorem guard_if2 (op : BinOp) (ty : TypeId) (x y : Operand) (a b) (w : World) : (eqGuard op ty x y .nilIface (.iface a b)).run P w = .ok () w := by
  unfold eqGuard; split <;> rfl
theorem guard_if3 (op : BinOp) (ty : TypeId) (x y : Operand) (hc : (isConstNil x || isConstNil y) = true) (w : World) : (eqGuard op ty x y .nilIface .nilIface).run P w = .ok () w := by
  have key : (∃ v, x = .const v) ∨ ∃ v, y = .const v := by
    rw [Bool.or_eq_true] at hc
    rcases hc with h | h
    · left; unfold isConstNil at h; split at h <;> first | exact ⟨_, rfl⟩ | cases h
    · right; unfold isConstNil at h; split at h <;> first | exact ⟨_, rfl⟩ | cases h
  rcases key with ⟨v, rfl⟩ | ⟨v, rfl⟩
  · cases op <;> rfl
  · cases x <;> cases op <;> rfl

theorem odd_of {x : AV} (n q : AV → Bool) (hn : ∀ x, n x = true → odd x) (hq : ∀ x, q x = true → odd x) {y : AV} {k : Bool → Option R} {r : R} (h : eqNil n q x y k = some r) : odd x := by
  rcases eqNil_inv h with ⟨h1, _, _⟩ | ⟨h1, _, _⟩ | ⟨h1, _, _⟩
  · exact hn x h1
  · exact hn x h1
  · exact hq x h1

theorem qEqNil_sound {o : Oper} {ty : TypeId} {x y : Operand} {nt : Bool} {n q : AV → Bool} (ho : ∃ b, o.op = .binOp (if nt then .neq else .eql) ty x y b) (he : EqOk P 10 ty (eqNil n q : EqF R))
    (hn : ∀ x, n x = true → odd x) (hq : ∀ x, q x = true → odd x)
    (gn : ∀ op v w π a u, n a = true → conc π a = some u → (eqGuard op ty x y u v).run P w = .ok () w) (gq : ∀ op v w π a u, q a = true → conc π a = some u → (eqGuard op ty x y u v).run P w = .ok () w) : QSound P o (qEq (eqNil n q) nt x y : Q R) := by
  refine qEq_sound ho he (by decide) (fun a b k r h => odd_of n q hn hq h) ?_
  intro a b k r h π u v hu hv w
  rcases eqNil_inv h with ⟨h1, _, _⟩ | ⟨h1, _, _⟩ | ⟨h1, _, _⟩
  · exact gn _ v w π a u h1 hu
  · exact gn _ v w π a u h1 hu
  · exact gq _ v w π a u h1 hu

theorem eqT_bool {t : TypeId} (h : underQ P t = some .bool) : (eqT P 10 t : EqF R) = eqBool := by unfold eqT; rw [h]
theorem qEqT_sound {o : Oper} {ty : TypeId} {x y : Operand} {nt : Bool} (ho : ∃ b, o.op = .binOp (if nt then .neq else .eql) ty x y b) : QSound P o (qEqT P ty nt x y : Q R) := by
  unfold qEqT
  split
  · exact qNumStr_sound ho (numOp_ok _) (strOp_ok _)
  · exact qNumStr_sound ho (numOp_ok _) (strOp_ok _)
  · rename_i ms hu
    split
    · rename_i hc
      refine qEq_sound ho (eqIf_ok (d := 0) (underQ_some hu)) (by decide) (fun a b k r h => odd_of nIf rIf (fun x h => by cases x <;> simp [nIf] at h; exact ⟨by simp, by simp, by simp⟩) (fun x h => by cases x <;> simp [rIf] at h; exact ⟨by simp, by simp, by simp⟩) h) ?_
      intro a b k r h π u v hu hv w
      rcases eqNil_inv h with ⟨h1, h2, _⟩ | ⟨h1, h2, _⟩ | ⟨h1, h2, _⟩
      · rw [nIf_inv h1 hu, nIf_inv h2 hv]; exact guard_if3 _ ty x y hc w
      · obtain ⟨_, _, rfl⟩ := rIf_inv h2 hv; rw [nIf_inv h1 hu]; exact guard_if2 _ ty x y _ _ w
      · obtain ⟨_, _, rfl⟩ := rIf_inv h1 hu; exact guard_if _ ty x y _ _ _ w
    · exact qNone_sound o
  · rename_i fs hu
    split
    · exact qNone_sound o
    · rename_i hg
      have hag : ∀ a b (k : Bool → Option R) r, eqT P 10 ty a b k = some r → ∃ xs ys, a = .agg xs ∧ b = .agg ys := by
        intro a b k r h
        unfold eqT at h
        rw [hu] at h
        simp only at h
        split at h
        · cases h
        · obtain ⟨xs, rfl, g1⟩ := aggK_inv h; clear h; have h := g1; clear g1
          obtain ⟨ys, rfl, g1⟩ := aggK_inv h; clear h; have h := g1; clear g1
          exact ⟨xs, ys, rfl, rfl⟩
      refine qEq_sound ho (eqT_ok 10 ty) (by decide) (fun a b k r h => ?_) ?_
      · obtain ⟨xs, ys, rfl, rfl⟩ := hag a b k r h; exact ⟨by simp, by simp, by simp⟩
      · intro a b k r h π u v hu' hv w
        obtain ⟨xs, ys, rfl, rfl⟩ := hag a b k r h
        obtain ⟨us, _, _, rfl⟩ := conc_agg hu'
        obtain ⟨vs, _, _, rfl⟩ := conc_agg hv
        exact run_eqGuard_agg w _ ty x y _ _ (by simpa using hg)
  · rename_i h1 h2 h3 h4
    cases hu : underQ P ty with
    | none =>
      have e : (eqT P 10 ty : EqF R) = eqNone := by unfold eqT; rw [hu]
      rw [e]
      intro t H k r h
      obtain ⟨v, h1, _⟩ := opK_inv (x := x) h
      obtain ⟨u, g1, _⟩ := opK_inv (x := y) h1; clear h1; have h1 := g1; clear g1
      cases h1
    | some dd =>
      have hno : (eqT P 10 ty : EqF R) = eqNone → QSound P o (qEq (eqT P 10 ty) nt x y : Q R) := fun e => by
        rw [e]
        intro t H k r h
        obtain ⟨v, h1, _⟩ := opK_inv (x := x) h
        obtain ⟨u, g1, _⟩ := opK_inv (x := y) h1; clear h1; have h1 := g1; clear g1
        cases h1
      cases dd
      case bool =>
        have e : (eqT P 10 ty : EqF R) = eqBool := by unfold eqT; rw [hu]
        rw [e]
        refine qEq_sound ho (eqBool_ok (d := 0) (underQ_some hu)) (by decide) (fun a b k r h => ?_) ?_
        · obtain ⟨_, rfl, h⟩ := boolK_inv h; exact ⟨by simp, by simp, by simp⟩
        · intro a b k r h π u v hu' hv w
          obtain ⟨_, rfl, g1⟩ := boolK_inv h; clear h; have h := g1; clear g1
          rw [conc_bool hu']; exact guard_bool _ ty x y _ _ w
      case int => exact absurd hu (h1 _)
      case string => exact absurd hu h2
      case interface => exact absurd hu (h3 _)
      case struct => exact absurd hu (h4 _)
      case pointer =>
        have e : (eqT P 10 ty : EqF R) = eqNil nPtr rPtr := by unfold eqT; rw [hu]
        rw [e]
        exact qEqNil_sound ho (eqPtr_ok (d := 9) (underQ_some hu)) (fun x h => by cases x <;> simp [nPtr] at h; exact ⟨by simp, by simp, by simp⟩) (fun x h => by cases x <;> simp [rPtr] at h; exact ⟨by simp, by simp, by simp⟩)
          (fun op v w π a u h hc => by rw [nPtr_inv h hc]; exact guard_ptr _ ty x y _ _ w) (fun op v w π a u h hc => by obtain ⟨_, rfl⟩ := rPtr_inv h hc; exact guard_ptr _ ty x y _ _ w)
      case slice =>
        have e : (eqT P 10 ty : EqF R) = eqNil nSl rSl := by unfold eqT; rw [hu]
        rw [e]
        exact qEqNil_sound ho (eqSl_ok (d := 9) (underQ_some hu)) (fun x h => by cases x <;> simp [nSl] at h; exact ⟨by simp, by simp, by simp⟩) (fun x h => by cases x <;> simp [rSl] at h; exact ⟨by simp, by simp, by simp⟩)
          (fun op v w π a u h hc => by rw [nSl_inv h hc]; exact guard_sl _ ty x y _ _ _ _ w) (fun op v w π a u h hc => by obtain ⟨_, _, _, rfl⟩ := rSl_inv h hc; exact guard_sl _ ty x y _ _ _ _ w)
      case map =>
        have e : (eqT P 10 ty : EqF R) = eqNil nMap rMap := by unfold eqT; rw [hu]
        rw [e]
        exact qEqNil_sound ho (eqMap_ok (d := 9) (underQ_some hu)) (fun x h => by cases x <;> simp [nMap] at h; exact ⟨by simp, by simp, by simp⟩) (fun x h => by cases x <;> simp [rMap] at h; exact ⟨by simp, by simp, by simp⟩)
          (fun op v w π a u h hc => by rw [nMap_inv h hc]; exact guard_map _ ty x y _ _ w) (fun op v w π a u h hc => by obtain ⟨_, rfl⟩ := rMap_inv h hc; exact guard_map _ ty x y _ _ w)
      case func =>
        have e : (eqT P 10 ty : EqF R) = eqNil nFn rFn := by unfold eqT; rw [hu]
        rw [e]
        exact qEqNil_sound ho (eqFn_ok (d := 9) (underQ_some hu)) (fun x h => by cases x <;> simp [nFn] at h; exact ⟨by simp, by simp, by simp⟩) (fun x h => by cases x <;> simp [rFn] at h <;> exact ⟨by simp, by simp, by simp⟩)
          (fun op v w π a u h hc => by rw [nFn_inv h hc]; exact guard_nilfn _ ty x y _ w) (fun op v w π a u h hc => by obtain ⟨_, _, _, rfl⟩ := rFn_inv h hc; exact guard_fn _ ty x y _ _ _ _ w)
      all_goals exact hno (by unfold eqT; rw [hu])

theorem qBin_sound {o : Oper} {op : BinOp} {ty : TypeId} {x y : Operand} {b : TypeId} (ho : o.op = .binOp op ty x y b) : QSound P o (qBin P op ty x y : Q R) := by
  cases op <;> unfold qBin
  case shl => exact qShift_sound ⟨b, ho⟩ shlK_ok
  case shr => exact qShift_sound ⟨b, ho⟩ shrK_ok
  case eql => exact qEqT_sound (nt := false) ⟨b, ho⟩
  case neq => exact qEqT_sound (nt := true) ⟨b, ho⟩
  all_goals exact qNumStr_sound ⟨b, ho⟩ (numOp_ok _) (strOp_ok _)

/-! ### of one -/
theorem qUn_sound {o : Oper} {op : UnOp} {ty : TypeId} {x : Operand} (ho : o.op = .unOp op ty x) : QSound P o (qUn op x : Q R) := by
  cases op
  case neg =>
    intro t H k r h
    obtain ⟨v, h1, h2⟩ := opK_inv (x := x) h
    obtain ⟨j, n, rfl, g1⟩ := numK_inv h1; clear h1; have h1 := g1; clear g1
    replace h1 : retI j (wrapF j (0 - n)) k = some r := h1
    rw [wrapF_eq, retI_eq] at h1
    refine ⟨_, h1, fun π w a _ ha => ⟨_, rfl, ?_⟩⟩
    have hx := conc_int (h2 π a (ha x (by simp [ho, Op.operands])))
    simp [execOp, ho, hx, Op.unary, Op.intArith]
  case xor =>
    intro t H k r h
    obtain ⟨v, h1, h2⟩ := opK_inv (x := x) h
    obtain ⟨j, n, rfl, g1⟩ := numK_inv h1; clear h1; have h1 := g1; clear g1
    replace h1 : retI j (xorG j (Bool.casesOn j.signed j.max (-1)) n) k = some r := h1
    rw [retI_eq] at h1
    refine ⟨_, h1, fun π w a _ ha => ⟨_, rfl, ?_⟩⟩
    have hx := conc_int (h2 π a (ha x (by simp [ho, Op.operands])))
    have e : (Bool.casesOn j.signed j.max (-1) : Int) = if j.signed then -1 else j.max := by cases j.signed <;> rfl
    rw [e]
    simp [execOp, ho, hx, Op.unary, Op.intBits, xorG]
  case not =>
    intro t H k r h
    obtain ⟨v, h1, h2⟩ := opK_inv (x := x) h
    obtain ⟨b, rfl, g1⟩ := boolK_inv h1; clear h1; have h1 := g1; clear g1
    rw [retB_eq, notB_eq] at h1
    refine ⟨_, h1, fun π w a _ ha => ⟨_, rfl, ?_⟩⟩
    have hx := conc_bool (h2 π a (ha x (by simp [ho, Op.operands])))
    simp [execOp, ho, hx, Op.unary]
  case plus => exact qNone_sound o

end
end Go.Ev
