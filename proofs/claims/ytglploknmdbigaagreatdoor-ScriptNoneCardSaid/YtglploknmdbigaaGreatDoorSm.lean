/- Regions that draw their order: any order comes to the same. -/
import Derived.Test.YtglploknmdbigaaGreatDoorSl
set_option linter.unusedSectionVars false
namespace Go.Ev
section
variable [Sym]
variable {P : Program} {R : Type}

theorem wanted_at {π : Pi} {a : Act} {ops : Array Oper} {o : Oper} {j g : Nat} {want : Bool} {v : AV} (hg : o.guard = some (j, want)) (hj : guardT ops.toList j = some g) (he : ∃ u, a.tmps[g]? = some u ∧ conc π v = some u) :
    Region.wanted o (yielded ops a.tmps) = wantB want v := by
  unfold guardT at hj
  split at hj
  · rename_i o' ho'
    have ho' := nthL_some ho'
    rw [Array.getElem?_toList] at ho'
    obtain ⟨u, h1, h2⟩ := he
    unfold Region.wanted
    rw [hg]
    simp only [yielded_of ho' hj h1]
    cases v
    case bool b =>
      cases h2
      cases b <;> cases want <;> rfl
    all_goals
      have hnb : ∀ b, u ≠ .bool b := by
        intro b hb
        subst hb
        unfold conc at h2
        repeat' split at h2
        all_goals first
          | (cases h2; done)
          | exact Sym.notb _ _ (Option.some.inj h2)
      rw [boolOf_none hnb]
      rfl
  · cases hj

/-- A region, laid out. -/
structure Laid (P : Program) (ro : Option Nat) (ops : Array Oper) (b louds : List Nat) (base : Nat) (T : Nat → Env) (HH : Nat → Heap) (V : Nat → AV) (I : Nat → SI) : Prop where
  bok : BOk ops.toList b
  len : ∀ i, ops.toList.length ≤ i → ∀ j, bitAt b i j = false
  dst : ∀ i o d, ops.toList[i]? = some o → o.dst = some d → (∀ j p, ops.toList[j]? = some p → p.dst = some d → j = i) ∧ ∀ j p, ops.toList[j]? = some p → d ∈ p.looksAt ops → j ≠ i ∧ ordered b i j = true
  ord : ∀ (m m' x y : Nat), m < m' → louds[m]? = some x → louds[m']? = some y → x < y ∧ bitAt b y x = true
  lt : ∀ i, i ∈ louds → i < ops.toList.length
  put : ∀ i o, ops.toList[i]? = some o → PutOk (T i) o.dst (V i) (T (i + 1))
  step : ∀ i o, ops.toList[i]? = some o → StepOk P ro ops.toList base i o (T i) (HH i) (HH (i + 1)) (V i) (I i)
  loud : ∀ i o, ops.toList[i]? = some o → (I i = .loud → i ∈ louds) ∧ (i ∈ louds → I i = .loud ∨ I i = .off)

/-- A quiet operation, at each level at which it may come up. -/
def QuietOk (P : Program) (ops : Array Oper) (b louds : List Nat) (T : Nat → Env) (HH : Nat → Heap) (V : Nat → AV) (I : Nat → SI) : Prop :=
  ∀ i o j, ops.toList[i]? = some o → I i = .quiet → j ≤ louds.length → mayAt ⟨louds, b⟩ i j = true → QAt P o (T i) (HH ((louds ++ [ops.toList.length])[j]?.getD ops.toList.length)) (V i)

section laid
variable {ro : Option Nat} {ops : Array Oper} {b louds : List Nat} {base : Nat} {T : Nat → Env} {HH : Nat → Heap} {V : Nat → AV} {I : Nat → SI}

/-- Blocks that the text lays from operation 'x' on. -/
def futFrom (I : Nat → SI) (base N x : Nat) (r : Nat) : Option AObj := if base + x ≤ r ∧ r < base + N then (match I (r - base) with | .alloc ob _ => some ob | _ => none) else none
theorem futFrom_ge {N x r : Nat} {o : AObj} (h : futFrom I base N x r = some o) : base + x ≤ r ∧ r < base + N ∧ ∃ g, I (r - base) = .alloc o g := by
  unfold futFrom at h
  split at h
  · rename_i hc
    split at h
    · rename_i ob g hi; cases h; exact ⟨hc.1, hc.2, g, hi⟩
    · cases h
  · cases h
theorem futFrom_of {N x i : Nat} {o : AObj} {g : Nat → AV} (h1 : x ≤ i) (h2 : i < N) (h : I i = .alloc o g) : futFrom I base N x (base + i) = some o := by
  unfold futFrom
  rw [if_pos ⟨by omega, by omega⟩, show base + i - base = i by omega, h]
theorem futFrom_succ {N x r : Nat} (h : ∀ ob g, I x ≠ .alloc ob g) : futFrom I base N x r = futFrom I base N (x + 1) r := by
  unfold futFrom
  by_cases e : r = base + x
  · subst e
    rw [if_neg (show ¬ (base + (x + 1) ≤ base + x ∧ base + x < base + N) by omega)]
    split
    · rw [show base + x - base = x by omega]
      split
      · rename_i ob g hi; exact absurd hi (h ob g)
      · rfl
    · rfl
  · by_cases c : base + x ≤ r ∧ r < base + N
    · rw [if_pos c, if_pos (by omega)]
    · rw [if_neg c, if_neg (by omega)]
theorem futFrom_alloc {N x r : Nat} {ob : AObj} {g : Nat → AV} (hx : x < N) (h : I x = .alloc ob g) : futFrom I base N x r = if r = base + x then some ob else futFrom I base N (x + 1) r := by
  by_cases e : r = base + x
  · subst e; rw [if_pos rfl, futFrom_of (Nat.le_refl _) hx h]
  · rw [if_neg e]
    unfold futFrom
    by_cases c : base + x ≤ r ∧ r < base + N
    · rw [if_pos c, if_pos (by omega)]
    · rw [if_neg c, if_neg (by omega)]

theorem get_lt {α : Type} {l : List α} {i : Nat} (h : i < l.length) : ∃ x, l[i]? = some x := ⟨l[i], List.getElem?_eq_getElem h⟩

/-- From 'x' to 'y' nothing loud. -/
theorem Laid.shift (L : Laid P ro ops b louds base T HH V I) {x : Nat} : ∀ (n : Nat), x + n ≤ ops.toList.length → (∀ i, x ≤ i → i < x + n → i ∉ louds) →
    (∀ r, (futFrom I base ops.toList.length x r).or ((HH x).get r) = (futFrom I base ops.toList.length (x + n) r).or ((HH (x + n)).get r)) ∧ (HH (x + n)).next = (HH x).next ∧
      ∀ r o, futFrom I base ops.toList.length (x + n) r = some o → (HH x).get r = none → (HH (x + n)).get r = none
  | 0, _, _ => ⟨fun _ => rfl, rfl, fun _ _ _ h => h⟩
  | n + 1, hle, hno => by
    obtain ⟨h1, h2, h3⟩ := L.shift n (by omega) (fun i hi hi' => hno i hi (by omega))
    obtain ⟨o, ho⟩ := get_lt (show x + n < ops.toList.length by omega)
    have hs := L.step (x + n) o ho
    have hl := L.loud (x + n) o ho
    rw [show x + (n + 1) = x + n + 1 by omega]
    have same : HH (x + n + 1) = HH (x + n) → (∀ ob g, I (x + n) ≠ .alloc ob g) → (∀ r, (futFrom I base ops.toList.length x r).or ((HH x).get r) = (futFrom I base ops.toList.length (x + n + 1) r).or ((HH (x + n + 1)).get r)) ∧ (HH (x + n + 1)).next = (HH x).next ∧
        ∀ r o, futFrom I base ops.toList.length (x + n + 1) r = some o → (HH x).get r = none → (HH (x + n + 1)).get r = none := fun e hn =>
      ⟨fun r => by rw [h1, futFrom_succ hn, e], by rw [e, h2], fun r o hr h0 => by rw [e]; exact h3 r o (by rw [futFrom_succ hn]; exact hr) h0⟩
    cases hI : I (x + n) with
    | off => rw [hI] at hs; exact same hs.2.2 (fun ob g h => by rw [hI] at h; cases h)
    | quiet => rw [hI] at hs; exact same hs.2.2.1 (fun ob g h => by rw [hI] at h; cases h)
    | loud => exact absurd (hl.1 hI) (hno _ (by omega) (by omega))
    | alloc ob g =>
      rw [hI] at hs
      obtain ⟨_, _, _, _, hn, hget⟩ := hs
      refine ⟨fun r => ?_, by rw [hn, h2], fun r o' hr h0 => ?_⟩
      · rw [h1, futFrom_alloc (by omega) hI, hget]
        by_cases e : r = base + (x + n)
        · rw [if_pos e, if_pos e]
          cases hf : futFrom I base ops.toList.length (x + n + 1) r with
          | none => rfl
          | some o' => have := (futFrom_ge hf).1; omega
        · rw [if_neg e, if_neg e]
      · have hge := (futFrom_ge hr).1
        rw [hget, if_neg (by omega)]
        refine h3 r o' ?_ h0
        rw [futFrom_alloc (by omega) hI, if_neg (by omega)]
        exact hr

/-- What a temporary holds in the order of the text. -/
theorem Laid.look (L : Laid P ro ops b louds base T HH V I) {d : Nat} {v : AV} : ∀ i, i ≤ ops.toList.length → look (T i) d = some v →
    (∃ k o, k < i ∧ ops.toList[k]? = some o ∧ o.dst = some d ∧ v = V k) ∨ ((∀ k o, k < i → ops.toList[k]? = some o → o.dst ≠ some d) ∧ Go.Ev.look (T 0) d = some v)
  | 0, _, h => .inr ⟨fun k o hk => by omega, h⟩
  | i + 1, hi, h => by
    obtain ⟨o, ho⟩ := get_lt (show i < ops.toList.length by omega)
    have hp := L.put i o ho
    rw [hp.is] at h
    by_cases e : o.dst = some d
    · rw [if_pos e] at h; cases h
      exact .inl ⟨i, o, by omega, ho, e, rfl⟩
    · rw [if_neg e] at h
      rcases L.look i (by omega) h with ⟨k, o', h1, h2⟩ | ⟨h1, h2⟩
      · exact .inl ⟨k, o', by omega, h2⟩
      · refine .inr ⟨fun k o' hk hko => ?_, h2⟩
        by_cases e2 : k = i
        · subst e2; rw [ho] at hko; cases hko; exact e
        · exact h1 k o' (by omega) hko
theorem Laid.range (L : Laid P ro ops b louds base T HH V I) {d : Nat} : ∀ i, i ≤ ops.toList.length → (Go.Ev.look (T i) d).isSome = true → (Go.Ev.look (T 0) d).isSome = true
  | 0, _, h => h
  | i + 1, hi, h => by
    obtain ⟨o, ho⟩ := get_lt (show i < ops.toList.length by omega)
    have hp := L.put i o ho
    rw [hp.is] at h
    by_cases e : o.dst = some d
    · obtain ⟨u, hu⟩ := hp.had d e
      exact L.range i (by omega) (by rw [hu]; rfl)
    · rw [if_neg e] at h
      exact L.range i (by omega) h

/-! ### where the machine stands -/
def Lst (listed : Array Bool) (i : Nat) : Prop := listed.getD i false = true
def posOf (louds : List Nat) (N j : Nat) : Nat := (louds ++ [N])[j]?.getD N

structure InvT (ops : Array Oper) (T : Nat → Env) (V : Nat → AV) (a0 : Act) (listed : Array Bool) (π : Pi) (a : Act) : Prop where
  size : a.tmps.size = a0.tmps.size
  defers : a.defers = a0.defers
  done : ∀ k o d, ops.toList[k]? = some o → o.dst = some d → Lst listed k → ∃ u, a.tmps[d]? = some u ∧ conc π (V k) = some u
  left : ∀ d, (∀ k o, ops.toList[k]? = some o → o.dst = some d → ¬ Lst listed k) → a.tmps[d]? = a0.tmps[d]?
structure InvH (ops : Array Oper) (louds : List Nat) (base : Nat) (HH : Nat → Heap) (I : Nat → SI) (π0 : Pi) (H0 : Heap) (w0 : World) (listed : Array Bool) (π : Pi) (w : World) (j : Nat) (U : Heap) : Prop where
  le : j ≤ louds.length
  lev : ∀ m x, louds[m]? = some x → (Lst listed x ↔ m < j)
  over : Over (futFrom I base ops.toList.length (posOf louds ops.toList.length j)) (HH (posOf louds ops.toList.length j)) U
  post : Post π0 H0 w0 π U w
  next : base + ops.toList.length ≤ U.next
  none_ : ∀ r o, futFrom I base ops.toList.length (posOf louds ops.toList.length j) r = some o → (HH (posOf louds ops.toList.length j)).get r = none
  wait : ∀ i ob g, I i = .alloc ob g → i < ops.toList.length → ¬ Lst listed i → π (base + i) = none ∧ U.get (base + i) = some ob
structure Inv (ops : Array Oper) (louds : List Nat) (base : Nat) (T : Nat → Env) (HH : Nat → Heap) (V : Nat → AV) (I : Nat → SI) (π0 : Pi) (H0 : Heap) (a0 : Act) (w0 : World) (listed : Array Bool) (π : Pi) (a : Act) (w : World) : Prop where
  size : listed.size = ops.toList.length
  closed : Closed ops.toList (Lst listed)
  tmps : InvT ops T V a0 listed π a
  heap : ∃ j U, InvH ops louds base HH I π0 H0 w0 listed π w j U

theorem Lst_set {listed : Array Bool} {i k : Nat} (hi : i < listed.size) : Lst (listed.setIfInBounds i true) k ↔ k = i ∨ Lst listed k := by
  unfold Lst
  by_cases e : k = i
  · subst e
    simp [Array.getD_eq_getD_getElem?, hi]
  · rw [getD_set_ne false (fun h => e h.symm)]
    exact ⟨.inr, fun h => h.elim (fun h => absurd h e) id⟩

/-- What an operation that may come up reads. -/
theorem reads {π0 π : Pi} {a0 a : Act} {listed : Array Bool} (L : Laid P ro ops b louds base T HH V I) (h0 : EnvRel π0 (T 0) a0.tmps) (hle : π0.le π) (hT : InvT ops T V a0 listed π a) (hc : Closed ops.toList (Lst listed)) {i : Nat} {o : Oper} (ho : ops.toList[i]? = some o)
    (hun : ¬ Lst listed i) (hr : ∀ e ∈ o.after.toList, bindsAny e = true → Lst listed e.on) : ∀ d v, d ∈ o.looksAt ops → look (T i) d = some v → ∃ u, a.tmps[d]? = some u ∧ conc π v = some u := by
  intro d v hd hv
  have hi := (List.getElem?_eq_some_iff.1 ho).1
  have bits : ∀ k, bitAt b i k = true → Lst listed k := bits_in L.bok L.len hc i (fun o' ho' => by rw [ho] at ho'; cases ho'; exact hr)
  rcases L.look i (by omega) hv with ⟨k, o', h1, h2, h3, rfl⟩ | ⟨h1, h2⟩
  · obtain ⟨_, h4⟩ := L.dst k o' d h2 h3
    obtain ⟨_, h5⟩ := h4 i o ho hd
    unfold ordered at h5
    rw [if_pos (by simpa using h1)] at h5
    exact hT.done k o' d h2 h3 (bits k h5)
  · obtain ⟨u, h3, h4⟩ := h0 d v h2
    refine ⟨u, ?_, conc_mono hle h4⟩
    rw [hT.left d ?_]
    · exact h3
    · intro k o' hk hd' hl
      obtain ⟨_, h5⟩ := L.dst k o' d hk hd'
      obtain ⟨h6, h7⟩ := h5 i o ho hd
      have hge : ¬ k < i := fun h => h1 k o' h hk hd'
      have : bitAt b k i = true := by
        unfold ordered at h7
        rw [if_neg (by simpa using hge)] at h7
        exact h7
      exact hun (bits_in L.bok L.len hc k (fun o'' ho'' e he hb => hc k o'' ho'' hl e he hb) i this)

theorem InvT.step {π0 π π' : Pi} {a0 a : Act} {listed : Array Bool} (L : Laid P ro ops b louds base T HH V I) (h0 : EnvRel π0 (T 0) a0.tmps) (hT : InvT ops T V a0 listed π a) (hle : π.le π') {i : Nat} {o : Oper} (ho : ops.toList[i]? = some o) (hs : i < listed.size) {u : Value} (hu : conc π' (V i) = some u) :
    InvT ops T V a0 (listed.setIfInBounds i true) π' (a.put o.dst u) := by
  have hi := (List.getElem?_eq_some_iff.1 ho).1
  have inr : ∀ d, o.dst = some d → d < a.tmps.size := fun d hd => by
    obtain ⟨x, hx⟩ := (L.put i o ho).had d hd
    have h1 := L.range i (by omega) (by rw [hx]; rfl)
    obtain ⟨y, hy⟩ := Option.isSome_iff_exists.1 h1
    obtain ⟨z, hz, _⟩ := h0 d y hy
    rw [hT.size]
    exact (Array.getElem?_eq_some_iff.1 hz).1
  refine ⟨?_, ?_, ?_, ?_⟩
  · rw [← hT.size]
    cases o.dst <;> simp [Act.put]
  · rw [← hT.defers]
    cases o.dst <;> rfl
  · intro k o' d hk hd hl
    rw [Lst_set hs] at hl
    by_cases e : k = i
    · subst e
      rw [ho] at hk; cases hk
      refine ⟨u, ?_, hu⟩
      rw [hd]
      simp [Act.put, inr d hd]
    · obtain ⟨u', h1, h2⟩ := hT.done k o' d hk hd (hl.elim (fun h => absurd h e) id)
      refine ⟨u', ?_, conc_mono hle h2⟩
      cases hod : o.dst with
      | none => exact h1
      | some d' =>
        have : d' ≠ d := fun e2 => by
          subst e2
          exact e ((L.dst i o d' ho hod).1 k o' hk hd)
        simp only [Act.put]
        rw [Array.getElem?_setIfInBounds, if_neg this]
        exact h1
  · intro d hd
    cases hod : o.dst with
    | none => exact hT.left d fun k o' hk hd' hl => hd k o' hk hd' ((Lst_set hs).2 (.inr hl))
    | some d' =>
      have : d' ≠ d := fun e2 => by
        subst e2
        exact hd i o ho hod ((Lst_set hs).2 (.inl rfl))
      simp only [Act.put]
      rw [Array.getElem?_setIfInBounds, if_neg this]
      exact hT.left d fun k o' hk hd' hl => hd k o' hk hd' ((Lst_set hs).2 (.inr hl))

theorem posOf_lt {N j x : Nat} (h : louds[j]? = some x) : posOf louds N j = x := by
  unfold posOf
  rw [List.getElem?_append_left (List.getElem?_eq_some_iff.1 h).1, h]; rfl
theorem posOf_end {N : Nat} : posOf louds N louds.length = N := by
  unfold posOf; simp

/-- From one loud operation to the next. -/
theorem Laid.gap (L : Laid P ro ops b louds base T HH V I) {j x : Nat} (h : louds[j]? = some x) : x + 1 ≤ posOf louds ops.toList.length (j + 1) ∧ posOf louds ops.toList.length (j + 1) ≤ ops.toList.length ∧ ∀ i, x + 1 ≤ i → i < posOf louds ops.toList.length (j + 1) → i ∉ louds := by
  have hj := (List.getElem?_eq_some_iff.1 h).1
  have hx := L.lt x (List.mem_of_getElem? h)
  by_cases hl : j + 1 < louds.length
  · obtain ⟨y, hy⟩ := get_lt hl
    rw [posOf_lt hy]
    have hxy := (L.ord j (j + 1) x y (by omega) h hy).1
    refine ⟨hxy, Nat.le_of_lt (L.lt y (List.mem_of_getElem? hy)), fun i h1 h2 hi => ?_⟩
    obtain ⟨m, hm⟩ := List.mem_iff_getElem?.1 hi
    rcases Nat.lt_trichotomy m j with h3 | h3 | h3
    · have := (L.ord m j i x h3 hm h).1; omega
    · subst h3; rw [h] at hm; cases hm; omega
    · rcases Nat.lt_or_ge (j + 1) m with h4 | h4
      · have := (L.ord (j + 1) m y i h4 hy hm).1; omega
      · have : m = j + 1 := by omega
        subst this; rw [hy] at hm; cases hm; omega
  · have e : j + 1 = louds.length := by omega
    rw [e, posOf_end]
    refine ⟨hx, Nat.le_refl _, fun i h1 _ hi => ?_⟩
    obtain ⟨m, hm⟩ := List.mem_iff_getElem?.1 hi
    have hm' := (List.getElem?_eq_some_iff.1 hm).1
    rcases Nat.lt_or_ge m j with h3 | h3
    · have := (L.ord m j i x h3 hm h).1; omega
    · have : m = j := by omega
      subst this; rw [h] at hm; cases hm; omega
theorem Laid.gap0 (L : Laid P ro ops b louds base T HH V I) : posOf louds ops.toList.length 0 ≤ ops.toList.length ∧ ∀ i, i < posOf louds ops.toList.length 0 → i ∉ louds := by
  cases hl : louds with
  | nil => exact ⟨by simp [posOf], fun i _ h => by simp at h⟩
  | cons x l =>
    have h0 : louds[0]? = some x := by rw [hl]; rfl
    rw [← hl, posOf_lt h0]
    refine ⟨Nat.le_of_lt (L.lt x (List.mem_of_getElem? h0)), fun i h1 hi => ?_⟩
    obtain ⟨m, hm⟩ := List.mem_iff_getElem?.1 hi
    cases m with
    | zero => rw [h0] at hm; cases hm; omega
    | succ m => have := (L.ord 0 (m + 1) x i (by omega) h0 hm).1; omega

end laid
end
end Go.Ev

set_option linter.unusedSectionVars false
namespace Go.Ev
section
variable [Sym]
variable {P : Program} {R : Type} {ro : Option Nat} {ops : Array Oper} {b louds : List Nat} {base : Nat} {T : Nat → Env} {HH : Nat → Heap} {V : Nat → AV} {I : Nat → SI}

theorem mayAt_of {p : Plan} {i j : Nat} (h1 : ∀ m l, p.louds[m]? = some l → m < j → bitAt p.b l i = false) (h2 : ∀ m l, p.louds[m]? = some l → j ≤ m → bitAt p.b i l = false) : mayAt p i j = true := by
  unfold mayAt
  have : ∀ (l : List Nat) (n : Nat), (∀ m x, l[m]? = some x → p.louds[n + m]? = some x) → allI (fun m l => if Nat.blt m j then !bitAt p.b l i else !bitAt p.b i l) l n = true := by
    intro l
    induction l with
    | nil => intro n _; rfl
    | cons x l ih =>
      intro n h
      have hx := h 0 x rfl
      rw [Nat.add_zero] at hx
      simp only [allI, Bool.and_eq_true]
      refine ⟨?_, ih (n + 1) fun m y hm => by have := h (m + 1) y (by simpa using hm); rw [show n + 1 + m = n + (m + 1) by omega]; exact this⟩
      by_cases hn : n < j
      · rw [if_pos (by simpa using hn), h1 n x hx hn]; rfl
      · rw [if_neg (by simpa using hn), h2 n x hx (by omega)]; rfl
  exact this p.louds 0 fun m x hm => by rw [Nat.zero_add]; exact hm

theorem Closed.set {l : List Oper} {listed : Array Bool} {i : Nat} {o : Oper} (h : Closed l (Lst listed)) (hs : i < listed.size) (ho : l[i]? = some o) (hr : ∀ e ∈ o.after.toList, bindsAny e = true → Lst listed e.on) : Closed l (Lst (listed.setIfInBounds i true)) := by
  intro k o' hk hl e he hb
  rw [Lst_set hs] at hl ⊢
  right
  rcases hl with rfl | hl
  · rw [ho] at hk; cases hk; exact hr e he hb
  · exact h k o' hk hl e he hb

theorem InvH.rel {π0 π : Pi} {H0 U : Heap} {w0 w : World} {listed : Array Bool} {j : Nat} (h : InvH ops louds base HH I π0 H0 w0 listed π w j U) : Rel π (HH (posOf louds ops.toList.length j)) w :=
  h.post.rel.sub h.over.next.symm fun r o hr => by
    rw [h.over.get]
    cases e : futFrom I base ops.toList.length (posOf louds ops.toList.length j) r with
    | none => exact hr
    | some x => rw [h.none_ r x e] at hr; cases hr

/-- The loud ones come one after another. -/
theorem Laid.level (L : Laid P ro ops b louds base T HH V I) {π0 π : Pi} {H0 U : Heap} {w0 w : World} {listed : Array Bool} {j i : Nat} {o : Oper} (h : InvH ops louds base HH I π0 H0 w0 listed π w j U) (hc : Closed ops.toList (Lst listed))
    (ho : ops.toList[i]? = some o) (hun : ¬ Lst listed i) (hr : ∀ e ∈ o.after.toList, bindsAny e = true → Lst listed e.on) (hi : i ∈ louds) : louds[j]? = some i := by
  obtain ⟨m, hm⟩ := List.mem_iff_getElem?.1 hi
  have hm' := (List.getElem?_eq_some_iff.1 hm).1
  have h1 : ¬ m < j := fun hlt => hun ((h.lev m i hm).2 hlt)
  have h2 : ¬ j < m := fun hlt => by
    obtain ⟨x, hx⟩ := get_lt (show j < louds.length by omega)
    have := (L.ord j m x i hlt hx hm).2
    have hl := bits_in L.bok L.len hc i (fun o' ho' => by rw [ho] at ho'; cases ho'; exact hr) x this
    exact absurd ((h.lev j x hx).1 hl) (Nat.lt_irrefl j)
  have : m = j := by omega
  subst this; exact hm

theorem Lst_of_not {listed : Array Bool} {i k : Nat} (hs : i < listed.size) (h : ¬ Lst (listed.setIfInBounds i true) k) : k ≠ i ∧ ¬ Lst listed k :=
  ⟨fun e => h ((Lst_set hs).2 (.inl e)), fun e => h ((Lst_set hs).2 (.inr e))⟩

/-- What is not loud leaves the level. -/
theorem lev_same {listed : Array Bool} {i j : Nat} (hs : i < listed.size) (hi : i ∉ louds) (h : ∀ m x, louds[m]? = some x → (Lst listed x ↔ m < j)) : ∀ m x, louds[m]? = some x → (Lst (listed.setIfInBounds i true) x ↔ m < j) := by
  intro m x hm
  rw [Lst_set hs, ← h m x hm]
  exact ⟨fun h => h.elim (fun e => absurd (e ▸ List.mem_of_getElem? hm) hi) id, .inr⟩
theorem Laid.lev_next (L : Laid P ro ops b louds base T HH V I) {listed : Array Bool} {i j : Nat} (hs : i < listed.size) (hj : louds[j]? = some i) (h : ∀ m x, louds[m]? = some x → (Lst listed x ↔ m < j)) : ∀ m x, louds[m]? = some x → (Lst (listed.setIfInBounds i true) x ↔ m < j + 1) := by
  intro m x hm
  rw [Lst_set hs, h m x hm]
  constructor
  · rintro (rfl | hlt)
    · rcases Nat.lt_trichotomy m j with h3 | h3 | h3
      · omega
      · omega
      · have := (L.ord j m x x h3 hj hm).1; omega
    · omega
  · intro hlt
    by_cases e : m = j
    · subst e; rw [hj] at hm; cases hm; exact .inl rfl
    · exact .inr (by omega)

/-- Over the gap to the next loud one. -/
theorem Laid.over_next (L : Laid P ro ops b louds base T HH V I) {i j : Nat} {U : Heap} (hj : louds[j]? = some i) (hU : Over (futFrom I base ops.toList.length (i + 1)) (HH (i + 1)) U) (hno : ∀ r o, futFrom I base ops.toList.length (i + 1) r = some o → (HH (i + 1)).get r = none) :
    Over (futFrom I base ops.toList.length (posOf louds ops.toList.length (j + 1))) (HH (posOf louds ops.toList.length (j + 1))) U ∧ ∀ r o, futFrom I base ops.toList.length (posOf louds ops.toList.length (j + 1)) r = some o → (HH (posOf louds ops.toList.length (j + 1))).get r = none := by
  obtain ⟨h1, h2, h3⟩ := L.gap hj
  generalize posOf louds ops.toList.length (j + 1) = y at *
  obtain ⟨n, rfl⟩ : ∃ n, y = i + 1 + n := ⟨y - (i + 1), by omega⟩
  obtain ⟨g1, g2, g3⟩ := L.shift (x := i + 1) n h2 (fun k hk hk' => h3 k hk hk')
  refine ⟨⟨by rw [hU.next, g2], fun r => by rw [hU.get, g1]⟩, fun r o hr => g3 r o hr ?_⟩
  have hge := futFrom_ge hr
  obtain ⟨hge1, hge2, g, hg⟩ := hge
  refine hno r o ?_
  have := futFrom_of (base := base) (N := ops.toList.length) (x := i + 1) (i := r - base) (by omega) (by omega) hg
  rw [show base + (r - base) = r by omega] at this
  exact this

theorem wpOp_ok {F : Fence} {n : Nat} {Q : Exit → Act → World → Prop} {π0 π : Pi} {H0 : Heap} {a0 a : Act} {w0 w : World} {listed : Array Bool} {i : Nat} {K : Act → World → Prop} (L : Laid P ro ops b louds base T HH V I) (hq : QuietOk P ops b louds T HH V I) (hF : FOk F π0 ro) (hb : base = H0.next)
    (h0 : EnvRel π0 (T 0) a0.tmps) (hinv : Inv ops louds base T HH V I π0 H0 a0 w0 listed π a w) (hi : i ∈ Region.ready .any ops listed) (hK : ∀ π' a' w', Inv ops louds base T HH V I π0 H0 a0 w0 (listed.setIfInBounds i true) π' a' w' → K a' w') : wpOpIn F n P ops Q i K a w := by
  obtain ⟨hun0, o, ho0, hr0⟩ := mem_ready.1 hi
  have ho : ops.toList[i]? = some o := by rw [Array.getElem?_toList]; exact ho0
  have hs : i < listed.size := by
    rcases Nat.lt_or_ge i listed.size with h | h
    · exact h
    · rw [Array.getD_eq_getD_getElem?, Array.getElem?_eq_none h] at hun0; cases hun0
  have hun : ¬ Lst listed i := by
    unfold Lst
    rw [Array.getD_eq_getD_getElem?] at hun0 ⊢
    rw [Array.getElem?_eq_getElem hs] at hun0 ⊢
    simp only [Option.getD_some] at hun0 ⊢
    rw [hun0]; simp
  have hr : ∀ e ∈ o.after.toList, bindsAny e = true → Lst listed e.on := fun e he hbi => hr0 e (by simpa using he) (by rw [bindsAny_eq]; exact hbi)
  have hiN := (List.getElem?_eq_some_iff.1 ho).1
  obtain ⟨j, U, hH⟩ := hinv.heap
  have rd := reads L h0 hH.post.ext hinv.tmps hinv.closed ho hun hr
  have opnd : ∀ x ∈ o.op.operands, EnvAt π (T i) a x := by
    intro x hx d v hxd hv
    refine rd d v ?_ hv
    unfold Oper.looksAt
    exact List.mem_append_left _ (List.mem_filterMap.2 ⟨x, by simpa using hx, by rw [hxd]⟩)
  have guardV : ∀ {q want g v}, o.guard = some (q, want) → guardT ops.toList q = some g → look (T i) g = some v → Region.wanted o (yielded ops a.tmps) = wantB want v := by
    intro q want g v h1 h2 h3
    refine wanted_at h1 h2 (rd g v ?_ h3)
    unfold Oper.looksAt
    refine List.mem_append_right _ ?_
    rw [h1]
    unfold guardT at h2
    split at h2
    · rename_i o' ho'
      have ho' := nthL_some ho'
      rw [Array.getElem?_toList] at ho'
      simp [ho', h2]
    · cases h2
  have onW : On ops.toList o (T i) → Region.wanted o (yielded ops a.tmps) = true := by
    rintro (h1 | ⟨q, want, g, v, h1, h2, h3, h4⟩)
    · unfold Region.wanted; rw [h1]
    · rw [guardV h1 h2 h3, h4]
  have clo := hinv.closed.set hs ho hr
  have mk : ∀ π' w' u j' U', π.le π' → conc π' (V i) = some u → InvH ops louds base HH I π0 H0 w0 (listed.setIfInBounds i true) π' w' j' U' → K (a.put o.dst u) w' := fun π' w' u j' U' hle hu h => hK π' _ w' ⟨by rw [Array.size_setIfInBounds]; exact hinv.size, clo, hinv.tmps.step L h0 hle ho hs hu, j', U', h⟩
  unfold wpOpIn
  rw [ho0]
  simp only
  have hst := L.step i o ho
  have hlo := L.loud i o ho
  cases hI : I i with
  | off =>
    rw [hI] at hst
    obtain ⟨⟨q, want, g, v, h1, h2, h3, h4⟩, hv, hHH⟩ := hst
    rw [guardV h1 h2 h3, h4]
    refine ⟨fun f _ => hF.fn f, ?_⟩
    have hu : conc π (V i) = some undef := by rw [hv]; exact conc_undef π
    by_cases hil : i ∈ louds
    · have hj := L.level hH hinv.closed ho hun hr hil
      have hpos := posOf_lt (N := ops.toList.length) hj
      have hna : ∀ ob g, I i ≠ .alloc ob g := fun ob g h => by rw [hI] at h; cases h
      have hov := hH.over
      have hnn := hH.none_
      rw [hpos] at hov hnn
      obtain ⟨g1, g2⟩ := L.over_next (U := U) hj ⟨by rw [hov.next, hHH], fun r => by rw [hov.get, futFrom_succ hna, hHH]⟩ (fun r o h => by rw [hHH]; exact hnn r o (by rw [futFrom_succ hna]; exact h))
      exact mk π w undef (j + 1) U (Pi.le.refl _) hu ⟨(List.getElem?_eq_some_iff.1 hj).1, L.lev_next hs hj hH.lev, g1, hH.post, hH.next, g2, fun k ob g h5 h6 h7 => hH.wait k ob g h5 h6 (Lst_of_not hs h7).2⟩
    · exact mk π w undef j U (Pi.le.refl _) hu ⟨hH.le, lev_same hs hil hH.lev, hH.over, hH.post, hH.next, hH.none_, fun k ob g h5 h6 h7 => hH.wait k ob g h5 h6 (Lst_of_not hs h7).2⟩
  | quiet =>
    rw [hI] at hst
    obtain ⟨hon, hnd, _, _⟩ := hst
    rw [onW hon]
    have hil : i ∉ louds := fun h => by rcases hlo.2 h with h | h <;> (rw [hI] at h; cases h)
    have hmay : mayAt ⟨louds, b⟩ i j = true := mayAt_of (fun m l hm hlt => by
        cases e : bitAt b l i with
        | false => rfl
        | true => exact absurd (bits_in L.bok L.len hinv.closed l (fun o' ho' e he hbi => hinv.closed l o' ho' ((hH.lev m l hm).2 hlt) e he hbi) i e) hun)
      (fun m l hm hge => by
        cases e : bitAt b i l with
        | false => rfl
        | true => exact absurd ((hH.lev m l hm).1 (bits_in L.bok L.len hinv.closed i (fun o' ho' => by rw [ho] at ho'; cases ho'; exact hr) l e)) (by omega))
    obtain ⟨u, h1, h2⟩ := hq i o j ho hI hH.le hmay π w a hH.rel opnd
    exact wp_of_exec (hF.mono hH.post.ext) hnd h2 rfl (mk π w u j U (Pi.le.refl _) h1 ⟨hH.le, lev_same hs hil hH.lev, hH.over, hH.post, hH.next, hH.none_, fun k ob g h5 h6 h7 => hH.wait k ob g h5 h6 (Lst_of_not hs h7).2⟩)
  | alloc ob g =>
    rw [hI] at hst
    obtain ⟨hon, hnd, hA, hv, _, _⟩ := hst
    rw [onW hon]
    have hil : i ∉ louds := fun h => by rcases hlo.2 h with h | h <;> (rw [hI] at h; cases h)
    obtain ⟨obj, l, u, h1, h2, h3, h4⟩ := hA π w a opnd
    obtain ⟨h5, h6⟩ := hH.wait i ob g hI hiN hun
    obtain ⟨π1, h7, h8, h9, h10⟩ := hH.post.laid h5 (by omega) (by have := hH.next; omega) h6 h1 h3
    refine wp_of_exec (hF.mono hH.post.ext) hnd h2 rfl (mk π1 _ u j U h7 (by rw [hv]; exact h4 _ _ h8) ⟨hH.le, lev_same hs hil hH.lev, hH.over, h10, hH.next, hH.none_, fun k ob' g' e1 e2 e3 => ?_⟩)
    obtain ⟨e4, e5⟩ := Lst_of_not hs e3
    rw [h9 _ (by omega)]
    exact hH.wait k ob' g' e1 e2 e5
  | loud =>
    rw [hI] at hst
    obtain ⟨hon, hL⟩ := hst
    rw [onW hon]
    have hil := hlo.1 hI
    have hj := L.level hH hinv.closed ho hun hr hil
    have hpos := posOf_lt (N := ops.toList.length) hj
    have hna : ∀ ob g, I i ≠ .alloc ob g := fun ob g h => by rw [hI] at h; cases h
    have hov := hH.over
    have hnn := hH.none_
    have hrel := hH.rel
    rw [hpos] at hov hnn hrel
    refine hL F n π w a K Q (hF.mono hH.post.ext) hrel opnd fun u w' ⟨π1, hu, hp⟩ => ?_
    obtain ⟨U', hU'⟩ := Over.ex (futFrom I base ops.toList.length i) (HH (i + 1)) (base + ops.toList.length) (fun r hr => by
      cases e : futFrom I base ops.toList.length i r with
      | none => rfl
      | some x => have := (futFrom_ge e).2.1; omega)
    obtain ⟨h1, h2⟩ := Post.framed hov hU' hH.post.rel hp (fun r x hx => ⟨by rw [← hov.next]; have := (futFrom_ge hx).2.1; have := hH.next; omega, hnn r x hx⟩)
    obtain ⟨g1, g2⟩ := L.over_next (U := U') hj ⟨hU'.next, fun r => by rw [hU'.get, futFrom_succ hna]⟩ (fun r x h => h2 r x (by rw [futFrom_succ hna]; exact h))
    refine mk π1 w' u (j + 1) U' hp.ext hu ⟨(List.getElem?_eq_some_iff.1 hj).1, L.lev_next hs hj hH.lev, g1, hH.post.trans h1, Nat.le_trans hH.next h1.next, g2, fun k ob g e1 e2 e3 => ?_⟩
    obtain ⟨e4, e5⟩ := Lst_of_not hs e3
    obtain ⟨e6, e7⟩ := hH.wait k ob g e1 e2 e5
    obtain ⟨e8, e9⟩ := h1.keep (base + k) (by have := hH.next; omega) e6
    exact ⟨e8, by rw [e9, e7]⟩

/-! ### all of them -/
def unl (l : List Bool) : Nat := (l.filter (!·)).length
theorem unl_set : ∀ {l : List Bool} {i : Nat}, l[i]? = some false → unl (l.set i true) + 1 = unl l
  | [], i, h => by simp at h
  | x :: l, 0, h => by simp at h; subst h; simp [unl]
  | x :: l, i + 1, h => by
    simp at h
    have := unl_set h
    cases x <;> simp [unl] at this ⊢ <;> omega

theorem all_listed {listed : Array Bool} (hb : BOk ops.toList b) (hsz : listed.size = ops.toList.length) (h : Region.ready .any ops listed = []) : ∀ i, i < ops.toList.length → Lst listed i := by
  intro i
  induction i using Nat.strongRecOn with
  | _ i ih =>
    intro hi
    obtain ⟨o, ho⟩ := get_lt hi
    have ho' : ops[i]? = some o := by rw [← Array.getElem?_toList]; exact ho
    cases e : listed.getD i false with
    | true => exact e
    | false =>
      have : i ∈ Region.ready .any ops listed := mem_ready.2 ⟨by
        rw [Array.getD_eq_getD_getElem?] at e ⊢
        rw [Array.getElem?_eq_getElem (by omega)] at e ⊢
        exact e, o, ho', fun d hd hbi => by
          rw [bindsAny_eq] at hbi
          have hlt := (hb i o ho).1 d (by simpa using hd) hbi
          exact ih d.on hlt (by omega)⟩
      rw [h] at this; cases this

theorem draw_end {Q : Exit → Act → World → Prop} {π0 π : Pi} {H0 : Heap} {a0 a : Act} {w0 w : World} {listed : Array Bool} (L : Laid P ro ops b louds base T HH V I)
    (h0 : EnvRel π0 (T 0) a0.tmps) (hinv : Inv ops louds base T HH V I π0 H0 a0 w0 listed π a w) (hall : ∀ i, i < ops.toList.length → Lst listed i)
    (hfin : ∀ π' a' w', EnvRel π' (T ops.toList.length) a'.tmps → a'.defers = a0.defers → Post π0 H0 w0 π' (HH ops.toList.length) w' → Q .normal a' w') : Q .normal a w := by
  obtain ⟨j, U, hH⟩ := hinv.heap
  have hj : j = louds.length := by
    have h1 : ¬ j < louds.length := fun hlt => by
      obtain ⟨x, hx⟩ := get_lt hlt
      exact absurd ((hH.lev j x hx).1 (hall x (L.lt x (List.mem_of_getElem? hx)))) (Nat.lt_irrefl j)
    have := hH.le
    omega
  have hov := hH.over
  rw [hj, posOf_end] at hov
  have hsame : ∀ r, (HH ops.toList.length).get r = U.get r := fun r => by
    rw [hov.get]
    cases e : futFrom I base ops.toList.length ops.toList.length r with
    | none => rfl
    | some x => have := futFrom_ge e; omega
  refine hfin π a w (fun d v hv => ?_) hinv.tmps.defers (hH.post.same rfl (fun _ => rfl) hov.next.symm hsame)
  rcases L.look _ (Nat.le_refl _) hv with ⟨k, o, h1, h2, h3, rfl⟩ | ⟨h1, h2⟩
  · exact hinv.tmps.done k o d h2 h3 (hall k h1)
  · obtain ⟨u, h3, h4⟩ := h0 d v h2
    refine ⟨u, ?_, conc_mono hH.post.ext h4⟩
    rw [hinv.tmps.left d fun k o hk hd _ => h1 k o (List.getElem?_eq_some_iff.1 hk).1 hk hd]
    exact h3

theorem draw_any {F : Fence} {n : Nat} {Q : Exit → Act → World → Prop} {π0 : Pi} {H0 : Heap} {a0 : Act} {w0 : World} (L : Laid P ro ops b louds base T HH V I) (hq : QuietOk P ops b louds T HH V I) (hF : FOk F π0 ro) (hb : base = H0.next)
    (h0 : EnvRel π0 (T 0) a0.tmps) (hfin : ∀ π' a' w', EnvRel π' (T ops.toList.length) a'.tmps → a'.defers = a0.defers → Post π0 H0 w0 π' (HH ops.toList.length) w' → Q .normal a' w') :
    ∀ (fuel : Nat) (listed : Array Bool) (π : Pi) (a : Act) (w : World), Inv ops louds base T HH V I π0 H0 a0 w0 listed π a w → unl listed.toList ≤ fuel → wpAnyIn F n P .any ops Q fuel listed a w := by
  intro fuel
  induction fuel with
  | zero =>
    intro listed π a w hinv hle
    have hall : ∀ i, i < ops.toList.length → Lst listed i := by
      intro i hi
      unfold Lst
      rw [Array.getD_eq_getD_getElem?]
      have hs : i < listed.size := by rw [hinv.size]; exact hi
      rw [Array.getElem?_eq_getElem hs]
      cases e : listed[i] with
      | true => rfl
      | false =>
        have := unl_set (l := listed.toList) (i := i) (by rw [Array.getElem?_toList, Array.getElem?_eq_getElem hs, e])
        omega
    refine ⟨?_, draw_end L h0 hinv hall hfin⟩
    cases hr : Region.ready .any ops listed with
    | nil => rfl
    | cons i l =>
      exfalso
      have hi : i ∈ Region.ready .any ops listed := by rw [hr]; simp
      obtain ⟨hun, o, ho, _⟩ := mem_ready.1 hi
      have hi' : i < ops.toList.length := by simpa using (Array.getElem?_eq_some_iff.1 ho).1
      have hs : i < listed.size := by rw [hinv.size]; exact hi'
      have := hall i hi'
      unfold Lst at this
      rw [Array.getD_eq_getD_getElem?, Array.getElem?_eq_getElem hs] at this hun
      rw [show listed[i] = true from this] at hun; cases hun
  | succ fuel ih =>
    intro listed π a w hinv hle
    refine ⟨fun hr => draw_end L h0 hinv (all_listed L.bok hinv.size hr) hfin, fun i hi => ?_⟩
    refine wpOp_ok L hq hF hb h0 hinv hi fun π' a' w' h => ih _ π' a' w' h ?_
    obtain ⟨hun, o, ho, _⟩ := mem_ready.1 hi
    have hi' : i < ops.toList.length := by simpa using (Array.getElem?_eq_some_iff.1 ho).1
    have hs : i < listed.size := by rw [hinv.size]; exact hi'
    rw [Array.getD_eq_getD_getElem?, Array.getElem?_eq_getElem hs] at hun
    have := unl_set (l := listed.toList) (i := i) (by rw [Array.getElem?_toList, Array.getElem?_eq_getElem hs]; exact congrArg some hun)
    rw [Array.toList_setIfInBounds]
    omega

end
end Go.Ev

set_option linter.unusedSectionVars false
namespace Go.Ev
section
variable [Sym]
variable {P : Program} {R : Type}

theorem revK_eq {α : Type} (l m : List α) (k : List α → Option R) : revK l m k = k (l.reverse ++ m) := by
  induction l generalizing m with
  | nil => rfl
  | cons x l ih =>
    show revK l (x :: m) k = _
    rw [ih]; simp

theorem levelsOf_mem {p : Plan} {i j : Nat} (hne : p.louds ≠ []) (hj : j ≤ p.louds.length) (hm : mayAt p i j = true) : j ∈ levelsOf p i := by
  unfold levelsOf
  cases h : p.louds with
  | nil => exact absurd h hne
  | cons x l =>
    simp only
    rw [← h, List.mem_filter, List.mem_range]
    exact ⟨by omega, hm⟩

theorem drawsOk (hm : P.follows .mixedOrders = true) {ih : Ih R} (hih : IhAll P ih) : DrawsOk P ih := by
  intro id ops ro t d H k r h
  unfold regionC at h
  simp only at h
  split at h
  · rename_i p hp
    obtain ⟨hpl, hlouds⟩ := planOf_ok hp
    replace h : natK H.next (fun base => natK (Nat.add base ops.toList.length) fun nx => runD (drawC P p ops.toList ops.toList 0) ih base t ⟨H.t, nx⟩ [] [] (drawEnd d k)) = some r := h
    rw [natK_eq, natK_eq] at h
    obtain ⟨T, HH, V, I, Hs', rs', e1, e2, e3, e4, _, e6, e7⟩ := drawC_inv hih.ops (ro := ro) _ _ _ _ _ _ _ _ h (fun x hx => by simp at hx)
    rw [Nat.zero_add] at e3
    simp only [List.reverse_nil, List.nil_append] at e4
    have hend : k (T ops.toList.length) d (HH ops.toList.length) = some r ∧ ∀ x ∈ rs', ∀ j ∈ x.lv, ∃ H', (Hs'.reverse ++ [HH ops.toList.length])[j]? = some H' ∧ ∀ o, QSound P o x.f → QAt P o x.t H' x.v := by
      cases hrs : rs' with
      | nil =>
        rw [hrs] at e3
        exact ⟨e3, fun x hx => by simp at hx⟩
      | cons x l =>
        rw [hrs] at e3
        replace e3 : revK Hs' [HH ops.toList.length] (fun Hs' => checkAll Hs' (x :: l) (k (T ops.toList.length) d (HH ops.toList.length))) = some r := e3
        rw [revK_eq] at e3
        exact checkAll_inv (fun y hy => e6 y (by rw [hrs]; exact hy)) e3
    obtain ⟨hk, hchk⟩ := hend
    refine ⟨_, _, _, hk, fun F n π w a Q hF hat hQ => ?_⟩
    have L : Laid P ro ops p.b p.louds H.next T HH V I := by
      refine ⟨hpl.bok, hpl.len, hpl.dst, hpl.ord, hpl.lt, fun i o ho => ?_, fun i o ho => ?_, fun i o ho => ?_⟩
      · have := (e7.step i o ho).1; rw [Nat.zero_add] at this; exact this
      · have := (e7.step i o ho).2.1; rw [Nat.zero_add] at this; exact this
      · have h1 := (e7.step i o ho).2.2
        rw [Nat.zero_add] at h1
        exact ⟨fun hI => (hpl.loud i o ho).2 (h1.1 hI), fun hi => h1.2.1 ((hpl.loud i o ho).1 hi)⟩
    have h00 : ∀ r, H.next ≤ r → (HH 0).get r = none := fun r hr => by rw [e2]; exact hat.rel.top r hr
    have hq : QuietOk P ops p.b p.louds T HH V I := by
      intro i o j ho hI hj hmay
      have hi := (List.getElem?_eq_some_iff.1 ho).1
      by_cases hne : p.louds = []
      · -- nothing loud: the heap only grows
        rw [hne] at hj ⊢
        simp only [List.length_nil, Nat.le_zero] at hj
        subst hj
        simp only [List.nil_append, List.getElem?_cons_zero, Option.getD_some]
        have hno : ∀ q : Nat, q ∉ p.louds := fun q => by rw [hne]; simp
        have hst := L.step i o ho
        rw [hI] at hst
        obtain ⟨_, _, _, hqa⟩ := hst
        intro π' w' a' hr' ha'
        refine hqa π' w' a' (hr'.sub ?_ fun r' x hx => ?_) ha'
        · have := (L.shift (x := i) (ops.toList.length - i) (by omega) (fun q _ _ => hno q)).2.1
          rw [show i + (ops.toList.length - i) = ops.toList.length by omega] at this
          exact this.symm
        · have h1 := (L.shift (x := i) (ops.toList.length - i) (by omega) (fun q _ _ => hno q)).1 r'
          rw [show i + (ops.toList.length - i) = ops.toList.length by omega] at h1
          have h2 : futFrom I H.next ops.toList.length i r' = none := by
            cases e : futFrom I H.next ops.toList.length i r' with
            | none => rfl
            | some y =>
              have h3 := (L.shift (x := 0) i (by omega) (fun q _ _ => hno q)).2.2 r' y (by rw [Nat.zero_add]; exact e) (h00 r' (by have := (futFrom_ge e).1; omega))
              rw [Nat.zero_add] at h3
              rw [h3] at hx; cases hx
          have h4 : futFrom I H.next ops.toList.length ops.toList.length r' = none := by
            cases e : futFrom I H.next ops.toList.length ops.toList.length r' with
            | none => rfl
            | some y => have := futFrom_ge e; omega
          rw [h2, h4] at h1
          simp only [Option.none_or] at h1
          rw [← h1]; exact hx
      · have hmem := levelsOf_mem hne hj hmay
        have h1 := (e7.step i o ho).2.2.2.2
        rw [Nat.zero_add] at h1
        obtain ⟨f, h2, h3⟩ := h1 hI (fun h => by rw [h] at hmem; simp at hmem)
        obtain ⟨H', h4, h5⟩ := hchk _ h3 j hmem
        have : HH ((p.louds ++ [ops.toList.length])[j]?.getD ops.toList.length) = H' := by
          rw [e4, ← hlouds] at h4
          have h6 : (List.map HH (p.louds ++ [ops.toList.length]))[j]? = some H' := by rw [List.map_append]; exact h4
          rw [List.getElem?_map] at h6
          cases e : (p.louds ++ [ops.toList.length])[j]? with
          | none => rw [e] at h6; cases h6
          | some y => rw [e] at h6; simpa using h6
        rw [this]
        exact h5 o h2
    refine wpIn_region_any hm ?_
    have henv : EnvRel π (T 0) a.tmps := by rw [e1]; exact hat.env
    refine draw_any (π0 := π) (H0 := H) (w0 := w) (a0 := a) L hq hF rfl henv (fun π' a' w' h1 h2 h3 => hQ π' a' w' ⟨h3.rel, h1, by rw [h2]; exact hat.defs.mono h3.ext⟩ h3) _ _ π _ _ ?_ ?_
    · -- before the first
      have hsz : (Array.replicate ops.size false).size = ops.toList.length := by simp
      have hun : ∀ i, ¬ Lst (Array.replicate ops.size false) i := by
        intro i
        unfold Lst
        rw [Array.getD_eq_getD_getElem?, Array.getElem?_replicate]
        split <;> simp
      obtain ⟨g1, g2⟩ := L.gap0
      obtain ⟨f1, f2, f3⟩ := L.shift (x := 0) (posOf p.louds ops.toList.length 0) (by omega) (fun q _ hq => g2 q (by omega))
      simp only [Nat.zero_add] at f1 f2 f3
      obtain ⟨U, hU⟩ := Over.ex (futFrom I H.next ops.toList.length (posOf p.louds ops.toList.length 0)) (HH (posOf p.louds ops.toList.length 0)) (H.next + ops.toList.length) (fun r hr => by
        cases e : futFrom I H.next ops.toList.length (posOf p.louds ops.toList.length 0) r with
        | none => rfl
        | some x => have := (futFrom_ge e).2.1; omega)
      have hn0 : (HH 0).next = H.next + ops.toList.length := by rw [e2]; rfl
      have hget : ∀ r, U.get r = (futFrom I H.next ops.toList.length 0 r).or (H.get r) := fun r => by rw [hU.get, ← f1, e2]; rfl
      have hUn : U.next = H.next + ops.toList.length := by rw [hU.next, f2, hn0]
      have low : ∀ r, r < H.next → U.get r = H.get r := fun r hr => by
        rw [hget]
        cases e : futFrom I H.next ops.toList.length 0 r with
        | none => rfl
        | some x => have := (futFrom_ge e).1; omega
      have old : ∀ r o l, U.get r = some o → π r = some l → H.get r = some o := fun r o l h1 h2 => by
        rcases Nat.lt_or_ge r H.next with h3 | h3
        · rw [← low r h3]; exact h1
        · rw [hat.rel.dom r h3] at h2; cases h2
      refine ⟨hsz, fun i o _ hl => absurd hl (hun i), ⟨rfl, rfl, fun k o d _ _ hl => absurd hl (hun k), fun _ _ => rfl⟩, 0, U, Nat.zero_le _, fun m x _ => ⟨fun hl => absurd hl (hun x), fun hl => by omega⟩, hU, ⟨Pi.le.refl _, ⟨fun r hr => hat.rel.dom r (by omega), fun r o l h1 h2 => hat.rel.obj r o l (old r o l h1 h2) h2, fun a b x y la lb h1 h2 h3 h4 => hat.rel.inj a b x y la lb (old a x la h1 h3) (old b y lb h2 h4) h3 h4, fun r hr => ?_, ⟨hat.rel.low.size, hat.rel.low.at_⟩, fun r o l h1 h2 => hat.rel.high r o l (old r o l h1 h2) h2, hat.rel.zero⟩, by omega, rfl, rfl, rfl, Nat.le_refl _, fun _ _ _ => rfl, fun b hb => ?_, fun r hr hπ => ⟨hπ, low r hr⟩⟩, by omega, fun r o hr => f3 r o hr (h00 r (by have := (futFrom_ge hr).1; omega)), fun i ob g hI hi _ => ⟨hat.rel.dom _ (by omega), by rw [hget, futFrom_of (Nat.zero_le _) hi hI]; rfl⟩⟩
      · rw [hget, hat.rel.top r (by omega)]
        cases e : futFrom I H.next ops.toList.length 0 r with
        | none => rfl
        | some x => have := (futFrom_ge e).2.1; omega
      · obtain ⟨q, x, lq, h1, h2, h3⟩ := hb
        exact .inl ⟨q, x, lq, old q x lq h1 h2, h2, h3⟩
    · rw [Array.toList_replicate]
      unfold unl
      exact Nat.le_trans (List.length_filter_le _ _) (by simp)
  · cases h

end
end Go.Ev
