/- Heaps laid over one another; what a step on one part leaves of the whole. -/
import Derived.Test.YtglploknmdbigaaGreatDoorSj
set_option linter.unusedSectionVars false
namespace Go.Ev
section
variable [Sym]
variable {P : Program} {R : Type}

theorem Tree.set_ex : ∀ (n : Nat) (t : Tree) (x : Option AObj), ∃ t' : Tree, ∀ m, t'.get m = if m = n then x else t.get m := by
  intro n
  induction n using Nat.strongRecOn with
  | _ n ih =>
    intro t x
    have leaf : ∀ m, Tree.leaf.get m = none := fun m => rfl
    have node : ∀ (o : Option AObj) (l r : Tree) (m : Nat), (Tree.node o l r).get m = if m = 0 then o else if m % 2 = 1 then l.get (m / 2) else r.get (m / 2 - 1) := fun o l r m => rfl
    obtain ⟨o, l, r, hsp⟩ : ∃ (o : Option AObj) (l r : Tree), ∀ m, t.get m = if m = 0 then o else if m % 2 = 1 then l.get (m / 2) else r.get (m / 2 - 1) := by
      cases t with
      | leaf => exact ⟨none, .leaf, .leaf, fun m => by simp [leaf]⟩
      | node o l r => exact ⟨o, l, r, fun m => rfl⟩
    by_cases h0 : n = 0
    · refine ⟨.node x l r, fun m => ?_⟩
      rw [node, hsp]
      by_cases e : m = 0
      · simp [e, h0]
      · simp [e, h0]
    · by_cases h1 : n % 2 = 1
      · obtain ⟨l', hl⟩ := ih (n / 2) (by omega) l x
        refine ⟨.node o l' r, fun m => ?_⟩
        rw [node, hsp]
        by_cases e : m = 0
        · rw [if_pos e, if_pos e, if_neg (by omega)]
        · rw [if_neg e, if_neg e]
          by_cases e1 : m % 2 = 1
          · rw [if_pos e1, if_pos e1, hl]
            by_cases e2 : m = n
            · rw [if_pos e2, if_pos (by omega)]
            · rw [if_neg e2, if_neg (by omega)]
          · rw [if_neg e1, if_neg e1, if_neg (fun e2 => e1 (by omega))]
      · obtain ⟨r', hr⟩ := ih (n / 2 - 1) (by omega) r x
        refine ⟨.node o l r', fun m => ?_⟩
        rw [node, hsp]
        by_cases e : m = 0
        · rw [if_pos e, if_pos e, if_neg (by omega)]
        · rw [if_neg e, if_neg e]
          by_cases e1 : m % 2 = 1
          · rw [if_pos e1, if_pos e1, if_neg (fun e2 => h1 (by omega))]
          · rw [if_neg e1, if_neg e1, hr]
            by_cases e2 : m = n
            · rw [if_pos e2, if_pos (by omega)]
            · rw [if_neg e2, if_neg (by omega)]

/-- What 'f' says, laid over a heap. -/
structure Over (f : Nat → Option AObj) (H U : Heap) : Prop where
  next : U.next = H.next
  get : ∀ r, U.get r = (f r).or (H.get r)
theorem Over.ex (f : Nat → Option AObj) (H : Heap) : ∀ n, (∀ r, n ≤ r → f r = none) → ∃ U, Over f H U := by
  intro n
  induction n generalizing f with
  | zero => exact fun h => ⟨H, rfl, fun r => by rw [h r (Nat.zero_le _)]; rfl⟩
  | succ n ih =>
    intro h
    obtain ⟨U, h1, h2⟩ := ih (fun r => if r = n then none else f r) (fun r hr => by
      by_cases e : r = n
      · simp [e]
      · simp only [if_neg e]; exact h r (by omega))
    cases hf : f n with
    | none =>
      refine ⟨U, h1, fun r => ?_⟩
      rw [h2]
      by_cases e : r = n
      · subst e; simp [hf]
      · simp [e]
    | some o =>
      obtain ⟨t, ht⟩ := Tree.set_ex n U.t (some o)
      refine ⟨⟨t, U.next⟩, h1, fun r => ?_⟩
      show t.get r = _
      rw [ht]
      by_cases e : r = n
      · subst e; simp [hf]
      · rw [if_neg e]
        have := h2 r
        simp only [if_neg e] at this
        exact this

theorem Rel.sub {π : Pi} {H U : Heap} {w : World} (h : Rel π U w) (hn : H.next = U.next) (hs : ∀ r o, H.get r = some o → U.get r = some o) : Rel π H w :=
  ⟨fun r hr => h.dom r (hn ▸ hr), fun r o l h1 h2 => h.obj r o l (hs r o h1) h2, fun a b x y la lb h1 h2 => h.inj a b x y la lb (hs a x h1) (hs b y h2), fun r hr => by
    cases e : H.get r with
    | none => rfl
    | some o => rw [← hs r o e, h.top r (hn ▸ hr)], h.low, fun r o l h1 h2 => h.high r o l (hs r o h1) h2, h.zero⟩
theorem Rel.same {π : Pi} {H U : Heap} {w : World} (h : Rel π U w) (hn : H.next = U.next) (hs : ∀ r, H.get r = U.get r) : Rel π H w := h.sub hn fun r o h1 => by rw [← hs]; exact h1
theorem own.same {π : Pi} {H U : Heap} (hs : ∀ r, H.get r = U.get r) {b : Nat} (h : own π H b) : own π U b := by
  obtain ⟨r, o, l, h1, h2⟩ := h
  exact ⟨r, o, l, by rw [← hs]; exact h1, h2⟩
theorem Post.same {π π' : Pi} {H H' U U' : Heap} {w w' : World} (h : Post π U w π' U' w') (hn : H.next = U.next) (hs : ∀ r, H.get r = U.get r) (hn' : H'.next = U'.next) (hs' : ∀ r, H'.get r = U'.get r) : Post π H w π' H' w' :=
  ⟨h.ext, h.rel.same hn' hs', by rw [hn, hn']; exact h.next, h.os, h.tape, h.output, h.size, fun b hb ho => h.frame b hb fun hx => ho (hx.same fun r => (hs r).symm), fun b hb => (h.owns b (hb.same hs')).imp (fun hx => hx.same fun r => (hs r).symm) id, fun r hr hp => by
    obtain ⟨h1, h2⟩ := h.keep r (hn ▸ hr) hp
    exact ⟨h1, by rw [hs, hs', h2]⟩⟩

/-- A step on 'H' leaves what lies over it. -/
theorem Post.framed {π π' : Pi} {f : Nat → Option AObj} {H H' U U' : Heap} {w w' : World} (hU : Over f H U) (hU' : Over f H' U') (hr : Rel π U w) (hp : Post π H w π' H' w')
    (hno : ∀ r o, f r = some o → r < H.next ∧ H.get r = none) : Post π U w π' U' w' ∧ ∀ r o, f r = some o → H'.get r = none := by
  have nown : ∀ r o l, f r = some o → π r = some l → ¬ own π H l.block := by
    rintro r o l h1 h2 ⟨q, x, lq, h3, h4, h5⟩
    have hq : f q = none := by
      cases e : f q with
      | none => rfl
      | some y => rw [(hno q y e).2] at h3; cases h3
    have e := hr.inj q r x o lq l (by rw [hU.get, hq]; exact h3) (by rw [hU.get, h1]; rfl) h4 h2 h5
    subst e
    rw [hq] at h1; cases h1
  have back : ∀ r o l', f r = some o → π' r = some l' → π r = some l' := by
    intro r o l' h1 h2
    cases e : π r with
    | none => rw [(hp.keep r (hno r o h1).1 e).1] at h2; cases h2
    | some l => rw [hp.ext r l e] at h2; exact h2
  have lt : ∀ r o l, f r = some o → π r = some l → l.block < w.heap.size := fun r o l h1 h2 => by
    obtain ⟨ob, h3, _⟩ := hr.obj r o l (by rw [hU.get, h1]; rfl) h2
    exact (Array.getElem?_eq_some_iff.1 h3).1
  have nown' : ∀ r o l, f r = some o → π r = some l → ¬ own π' H' l.block := fun r o l h1 h2 h3 => (hp.owns _ h3).elim (nown r o l h1 h2) fun h4 => absurd (lt r o l h1 h2) (Nat.not_lt.2 h4)
  have gone : ∀ r o, f r = some o → H'.get r = none := by
    intro r o h1
    cases e : H'.get r with
    | none => rfl
    | some x =>
      cases e2 : π r with
      | none => rw [(hp.keep r (hno r o h1).1 e2).2, (hno r o h1).2] at e; cases e
      | some l => exact absurd ⟨r, x, l, e, hp.ext r l e2, rfl⟩ (nown' r o l h1 e2)
  refine ⟨⟨hp.ext, ⟨fun r h => hp.rel.dom r (hU'.next ▸ h), ?_, ?_, ?_, hp.rel.low, fun r x l h1 h2 => by
    rw [hU'.get] at h1
    cases e : f r with
    | none => rw [e] at h1; exact hp.rel.high r x l h1 h2
    | some o =>
      exact hr.high r o l (by rw [hU.get, e]; rfl) (back r _ l e h2), hp.rel.zero⟩, by rw [hU.next, hU'.next]; exact hp.next, hp.os, hp.tape, hp.output, hp.size, ?_, ?_, ?_⟩, gone⟩
  · intro r x l h1 h2
    rw [hU'.get] at h1
    cases e : f r with
    | none => rw [e] at h1; exact hp.rel.obj r x l h1 h2
    | some o =>
      rw [e] at h1; cases h1
      have h3 := back r _ l e h2
      obtain ⟨ob, h4, h5⟩ := hr.obj r _ l (by rw [hU.get, e]; rfl) h3
      refine ⟨ob, ?_, h5.mono hp.ext⟩
      rw [hp.frame _ (lt r _ l e h3) (nown r _ l e h3)]
      exact h4
  · intro a b x y la lb h1 h2 h3 h4 h5
    rw [hU'.get] at h1 h2
    cases ea : f a with
    | some oa =>
      have h3' := back a _ la ea h3
      cases eb : f b with
      | some ob =>
        exact hr.inj a b oa ob la lb (by rw [hU.get, ea]; rfl) (by rw [hU.get, eb]; rfl) h3' (back b _ lb eb h4) h5
      | none =>
        rw [eb] at h2
        exact absurd ⟨b, y, lb, h2, h4, h5.symm⟩ (nown' a _ la ea h3')
    | none =>
      rw [ea] at h1
      cases eb : f b with
      | some ob => exact absurd ⟨a, x, la, h1, h3, h5⟩ (nown' b _ lb eb (back b _ lb eb h4))
      | none => rw [eb] at h2; exact hp.rel.inj a b x y la lb h1 h2 h3 h4 h5
  · intro r h
    rw [hU'.next] at h
    rw [hU'.get]
    cases e : f r with
    | none => exact hp.rel.top r h
    | some o => exact absurd (Nat.lt_of_lt_of_le (hno r o e).1 hp.next) (Nat.not_lt.2 h)
  · intro b hb ho
    refine hp.frame b hb fun ⟨r, x, l, h1, h2, h3⟩ => ho ⟨r, x, l, ?_, h2, h3⟩
    rw [hU.get]
    cases e : f r with
    | none => exact h1
    | some o => rw [(hno r o e).2] at h1; cases h1
  · rintro b ⟨r, x, l, h1, h2, h3⟩
    rw [hU'.get] at h1
    cases e : f r with
    | none =>
      rw [e] at h1
      refine (hp.owns b ⟨r, x, l, h1, h2, h3⟩).imp (fun ⟨q, y, lq, g1, g2, g3⟩ => ⟨q, y, lq, ?_, g2, g3⟩) id
      rw [hU.get]
      cases e2 : f q with
      | none => exact g1
      | some o => rw [(hno q o e2).2] at g1; cases g1
    | some o =>
      rw [e] at h1; cases h1
      exact .inl ⟨r, _, l, by rw [hU.get, e]; rfl, back r _ l e h2, h3⟩
  · intro r h h0
    obtain ⟨h1, h2⟩ := hp.keep r (hU.next ▸ h) h0
    exact ⟨h1, by rw [hU.get, hU'.get, h2]⟩

/-- A block laid for what stands in the heap already. -/
theorem Post.laid {π0 π : Pi} {H0 U : Heap} {w0 w : World} {r : Nat} {o : AObj} {l : Loc} {ob : Obj} (hp : Post π0 H0 w0 π U w) (hπ : π r = none) (hge : H0.next ≤ r) (hlt : r < U.next) (hg : U.get r = some o) (hb : l.block = w.heap.size) (hrel : ORel π o l ob) :
    ∃ π', π.le π' ∧ π' r = some l ∧ (∀ q, q ≠ r → π' q = π q) ∧ Post π0 H0 w0 π' U (w.alloc ob) := by
  have hle : π.le (fun q => if q = r then some l else π q) := fun q lq hq => by
    by_cases e : q = r
    · subst e; rw [hπ] at hq; cases hq
    · simp only [if_neg e]; exact hq
  obtain ⟨h1, _⟩ := Post.fresh (H' := U) (w' := w.alloc ob) hp.rel hπ (Nat.le_refl _) hlt (.inr hg) (fun m => by
    by_cases e : m = r
    · rw [if_pos e, e, hg]
    · rw [if_neg e]) hb alloc_at (fun k hk => alloc_lt hk) (hrel.mono hle)
  refine ⟨_, hle, by simp, fun q hq => by simp [hq], ⟨hp.ext.trans hle, h1, hp.next, hp.os, hp.tape, hp.output, by rw [alloc_size]; exact Nat.le_succ_of_le hp.size, ?_, ?_, ?_⟩⟩
  · intro b h2 h3
    rw [alloc_lt (Nat.lt_of_lt_of_le h2 hp.size)]
    exact hp.frame b h2 h3
  · rintro b ⟨q, x, lq, g1, g2, g3⟩
    by_cases e : q = r
    · simp only [if_pos e] at g2; cases g2
      right; rw [← g3, hb]; exact hp.size
    · simp only [if_neg e] at g2
      exact hp.owns b ⟨q, x, lq, g1, g2, g3⟩
  · intro q h2 h3
    have e : q ≠ r := by omega
    simp only [if_neg e]
    exact hp.keep q h2 h3

end
end Go.Ev

set_option linter.unusedSectionVars false
namespace Go.Ev
section
variable [Sym]
variable {P : Program} {R : Type}

theorem allI_spec {α : Type} {f : Nat → α → Bool} : ∀ {l : List α} {n : Nat}, allI f l n = true → ∀ k x, l[k]? = some x → f (n + k) x = true
  | [], _, _, k, x, hx => by simp at hx
  | y :: l, n, h, k, x, hx => by
    simp only [allI, Bool.and_eq_true] at h
    cases k with
    | zero => simp at hx; subst hx; exact h.1
    | succ k =>
      simp at hx
      have := allI_spec h.2 k x hx
      rw [show n + 1 + k = n + (k + 1) by omega] at this
      exact this
theorem memN_iff {n : Nat} : ∀ {l : List Nat}, memN n l = true ↔ n ∈ l
  | [] => by simp [memN]
  | x :: l => by
    simp only [memN, Bool.or_eq_true, memN_iff, List.mem_cons]
    constructor
    · rintro (h | h)
      · exact .inl (Nat.eq_of_beq_eq_true h).symm
      · exact .inr h
    · rintro (h | h)
      · exact .inl (by subst h; exact Nat.beq_refl n)
      · exact .inr h

theorem bindsAny_eq (e : Edge) : Region.binds .any e = bindsAny e := by
  unfold Region.binds bindsAny
  cases e.ground <;> rfl

theorem edgeBits_inv {acc : List Nat} {i : Nat} : ∀ {es : List Edge} {m : Nat}, edgeBits acc i es = some m →
    (∀ e ∈ es, bindsAny e = true → e.on < i) ∧ ∀ j, m.testBit j = true → ∃ e ∈ es, bindsAny e = true ∧ (e.on = j ∨ ∃ x, acc[i - 1 - e.on]? = some x ∧ x.testBit j = true)
  | [], m, h => by
    cases h
    exact ⟨fun e he => by simp at he, fun j hj => by simp at hj⟩
  | e :: es, m, h => by
    unfold edgeBits at h
    split at h
    · cases h
    · rename_i m' hm'
      obtain ⟨h1, h2⟩ := edgeBits_inv hm'
      split at h
      · rename_i hb
        cases h
        refine ⟨fun e' he' hb' => ?_, fun j hj => ?_⟩
        · rcases List.mem_cons.1 he' with rfl | he'
          · rw [hb] at hb'; cases hb'
          · exact h1 e' he' hb'
        · obtain ⟨e', he', h3⟩ := h2 j hj
          exact ⟨e', List.mem_cons_of_mem _ he', h3⟩
      · rename_i hb
        split at h
        · rename_i x hlt hx
          cases h
          rw [nthL_eq] at hx
          have hlt : e.on < i := by simpa using hlt
          refine ⟨fun e' he' hb' => ?_, fun j hj => ?_⟩
          · rcases List.mem_cons.1 he' with rfl | he'
            · exact hlt
            · exact h1 e' he' hb'
          · have hj : ((m' ||| (1 <<< e.on)) ||| x).testBit j = true := hj
            rw [Nat.testBit_or, Nat.testBit_or, Bool.or_eq_true, Bool.or_eq_true] at hj
            rcases hj with (hj | hj) | hj
            · obtain ⟨e', he', h3⟩ := h2 j hj
              exact ⟨e', List.mem_cons_of_mem _ he', h3⟩
            · refine ⟨e, by simp, hb, .inl ?_⟩
              rw [Nat.one_shiftLeft, Nat.testBit_two_pow] at hj
              simpa using hj
            · exact ⟨e, by simp, hb, .inr ⟨x, hx, hj⟩⟩
        · cases h

/-- What the bits say of who stands ahead. -/
def BOk (l : List Oper) (b : List Nat) : Prop := ∀ i o, l[i]? = some o → (∀ e ∈ o.after.toList, bindsAny e = true → e.on < i) ∧
  ∀ j, bitAt b i j = true → ∃ e ∈ o.after.toList, bindsAny e = true ∧ (e.on = j ∨ bitAt b e.on j = true)

theorem bitAt_of {b : List Nat} {i j m : Nat} (h : b[i]? = some m) : bitAt b i j = m.testBit j := by
  unfold bitAt; rw [nthL_eq, h]
theorem befs_inv : ∀ {l : List Oper} {acc : List Nat} {i : Nat} {b : List Nat}, acc.length = i → befs l acc i = some b →
    b.length = i + l.length ∧ (∀ k, k < i → b[k]? = acc[i - 1 - k]?) ∧ ∀ k o, l[k]? = some o → (∀ e ∈ o.after.toList, bindsAny e = true → e.on < i + k) ∧
      ∀ j, bitAt b (i + k) j = true → ∃ e ∈ o.after.toList, bindsAny e = true ∧ (e.on = j ∨ bitAt b e.on j = true)
  | [], acc, i, b, hl, h => by
    cases h
    refine ⟨by simp [hl], fun k hk => ?_, fun k o ho => by simp at ho⟩
    rw [List.getElem?_reverse (by omega), hl]
  | o :: l, acc, i, b, hl, h => by
    unfold befs at h
    split at h
    · cases h
    · rename_i m hm
      obtain ⟨h1, h2, h3⟩ := befs_inv (by simp [hl]) h
      obtain ⟨h4, h5⟩ := edgeBits_inv hm
      have hi : b[i]? = some m := by
        have := h2 i (by omega)
        simpa using this
      have hlow : ∀ k, k < i → b[k]? = acc[i - 1 - k]? := fun k hk => by
        have := h2 k (by omega)
        rw [show i + 1 - 1 - k = (i - 1 - k) + 1 by omega] at this
        simpa using this
      refine ⟨by simp [h1]; omega, hlow, fun k o' ho' => ?_⟩
      cases k with
      | zero =>
        simp at ho'; subst ho'
        refine ⟨h4, fun j hj => ?_⟩
        rw [Nat.add_zero, bitAt_of hi] at hj
        obtain ⟨e, he, hb, h6⟩ := h5 j hj
        refine ⟨e, he, hb, h6.imp id fun ⟨x, hx, hxj⟩ => ?_⟩
        rw [bitAt_of (by rw [hlow _ (h4 e he hb)]; exact hx)]
        exact hxj
      | succ k =>
        simp at ho'
        have := h3 k o' ho'
        rw [show i + 1 + k = i + (k + 1) by omega] at this
        exact this

theorem loudIdx_mem : ∀ {l : List Oper} {n i : Nat}, i ∈ loudIdx (R := R) P l n ↔ ∃ k o, i = n + k ∧ l[k]? = some o ∧ kindC (opC (R := R) P o.op) = 2
  | [], n, i => by simp [loudIdx]
  | o :: l, n, i => by
    have ih := loudIdx_mem (l := l) (n := n + 1) (i := i)
    unfold loudIdx
    constructor
    · intro h
      split at h
      · rename_i hk
        rcases List.mem_cons.1 h with rfl | h
        · exact ⟨0, o, by simp, by simp, Nat.eq_of_beq_eq_true hk⟩
        · obtain ⟨k, o', h1, h2, h3⟩ := ih.1 h
          exact ⟨k + 1, o', by omega, by simpa using h2, h3⟩
      · obtain ⟨k, o', h1, h2, h3⟩ := ih.1 h
        exact ⟨k + 1, o', by omega, by simpa using h2, h3⟩
    · rintro ⟨k, o', h1, h2, h3⟩
      cases k with
      | zero =>
        simp at h2; subst h2
        rw [h3]
        simp [h1]
      | succ k =>
        have := ih.2 ⟨k, o', by omega, by simpa using h2, h3⟩
        split
        · exact List.mem_cons_of_mem _ this
        · exact this

theorem louds2_spec {b : List Nat} : ∀ {l : List Nat}, louds2 b l = true → ∀ (m m' x y : Nat), m < m' → l[m]? = some x → l[m']? = some y → x < y ∧ bitAt b y x = true
  | [], _, m, m', x, y, _, hx, _ => by simp at hx
  | i :: l, h, m, m', x, y, hlt, hx, hy => by
    simp only [louds2, Bool.and_eq_true, List.all_eq_true] at h
    cases m' with
    | zero => omega
    | succ m' =>
      simp at hy
      cases m with
      | zero =>
        simp at hx; subst hx
        have := h.1 y (List.mem_of_getElem? hy)
        exact ⟨by simpa using this.1, this.2⟩
      | succ m =>
        simp at hx
        exact louds2_spec h.2 m m' x y (by omega) hx hy

/-- What a plan says. -/
structure PlanOk (P : Program) (R : Type) (ops : Array Oper) (b louds : List Nat) : Prop where
  bok : BOk ops.toList b
  len : ∀ i, ops.toList.length ≤ i → ∀ j, bitAt b i j = false
  loud : ∀ i o, ops.toList[i]? = some o → (i ∈ louds ↔ kindC (opC (R := R) P o.op) = 2)
  lt : ∀ i, i ∈ louds → i < ops.toList.length
  dst : ∀ i o d, ops.toList[i]? = some o → o.dst = some d → (∀ j p, ops.toList[j]? = some p → p.dst = some d → j = i) ∧ ∀ j p, ops.toList[j]? = some p → d ∈ p.looksAt ops → j ≠ i ∧ ordered b i j = true
  ord : ∀ (m m' x y : Nat), m < m' → louds[m]? = some x → louds[m']? = some y → x < y ∧ bitAt b y x = true

theorem planOf_ok {ops : Array Oper} {p : Plan} (h : planOf (R := R) P ops = some p) : PlanOk P R ops p.b p.louds ∧ p.louds = loudIdx (R := R) P ops.toList 0 := by
  unfold planOf at h
  split at h
  · cases h
  · rename_i b hb
    split at h
    split at h
    · rename_i hall
      cases h
      simp only [Bool.and_eq_true] at hall
      obtain ⟨⟨_, hd⟩, ho⟩ := hall
      obtain ⟨hlen, _, h3⟩ := befs_inv (acc := []) rfl hb
      refine ⟨⟨fun i o hi => by have := h3 i o hi; simpa using this, fun i hi j => ?_, fun i o hi => ?_, fun i hi => ?_, fun i o d hi hod => ?_, louds2_spec ho⟩, rfl⟩
      · unfold bitAt
        rw [nthL_eq, List.getElem?_eq_none (by rw [hlen]; simpa using hi)]
      · rw [loudIdx_mem]
        constructor
        · rintro ⟨k, o', h1, h2, h3⟩
          rw [Nat.zero_add] at h1; subst h1
          rw [hi] at h2; cases h2; exact h3
        · exact fun hk => ⟨i, o, by simp, hi, hk⟩
      · obtain ⟨k, o', h1, h2, h3⟩ := loudIdx_mem.1 hi
        rw [Nat.zero_add] at h1; subst h1
        exact (List.getElem?_eq_some_iff.1 h2).1
      · have h4 := allI_spec hd i o hi
        rw [hod, Nat.zero_add] at h4
        simp only [dstOk, Bool.and_eq_true] at h4
        refine ⟨fun j q hj hq => ?_, fun j q hj hq => ?_⟩
        · have h5 := allI_spec h4.1 j q hj
          rw [Nat.zero_add] at h5
          by_cases e : i = j
          · exact e.symm
          · have e' : Nat.beq i j = false := by
              cases e2 : Nat.beq i j with
              | false => rfl
              | true => exact absurd (Nat.eq_of_beq_eq_true e2) e
            rw [e', hq] at h5
            simp at h5
        · have h5 := allI_spec h4.2 j (q.looksAt ops) (by simp only [List.getElem?_map, hj]; rfl)
          rw [Nat.zero_add, memN_iff.2 hq] at h5
          simp only [Bool.not_true, Bool.false_or, Bool.and_eq_true, Bool.not_eq_true'] at h5
          exact ⟨fun e => by subst e; simp at h5, h5.2⟩
    · cases h

/-! ### what is listed -/
def Closed (l : List Oper) (S : Nat → Prop) : Prop := ∀ i o, l[i]? = some o → S i → ∀ e ∈ o.after.toList, bindsAny e = true → S e.on
theorem bits_in {l : List Oper} {b : List Nat} {S : Nat → Prop} (hb : BOk l b) (hlen : ∀ i, l.length ≤ i → ∀ j, bitAt b i j = false) (hS : Closed l S) : ∀ i, (∀ o, l[i]? = some o → ∀ e ∈ o.after.toList, bindsAny e = true → S e.on) → ∀ j, bitAt b i j = true → S j := by
  intro i
  induction i using Nat.strongRecOn with
  | _ i ih =>
    intro hr j hj
    by_cases hi : i < l.length
    · have ho : l[i]? = some l[i] := List.getElem?_eq_getElem hi
      obtain ⟨h1, h2⟩ := hb i _ ho
      obtain ⟨e, he, hbi, h3⟩ := h2 j hj
      have hSe := hr _ ho e he hbi
      rcases h3 with rfl | h3
      · exact hSe
      · exact ih e.on (h1 e he hbi) (fun o ho' => hS e.on o ho' hSe) j h3
    · rw [hlen i (by omega) j] at hj; cases hj

end
end Go.Ev

set_option linter.unusedSectionVars false
namespace Go.Ev
section
variable [Sym]
variable {P : Program} {R : Type}

def On (all : List Oper) (o : Oper) (t : Env) : Prop := o.guard = none ∨ ∃ j want g v, o.guard = some (j, want) ∧ guardT all j = some g ∧ look t g = some v ∧ wantB want v = true
def Off (all : List Oper) (o : Oper) (t : Env) : Prop := ∃ j want g v, o.guard = some (j, want) ∧ guardT all j = some g ∧ look t g = some v ∧ wantB want v = false
def QAt (P : Program) (o : Oper) (t : Env) (H : Heap) (v : AV) : Prop := ∀ π w (a : Act), Rel π H w → (∀ x ∈ o.op.operands, EnvAt π t a x) → ∃ u, conc π v = some u ∧ (execOp a.eval o).run P w = .ok (.value u) w
def AAt (P : Program) (o : Oper) (t : Env) (ob : AObj) (g : Nat → AV) : Prop := ∀ π w (a : Act), (∀ x ∈ o.op.operands, EnvAt π t a x) →
  ∃ obj l u, l.block = w.heap.size ∧ (execOp a.eval o).run P w = .ok (.value u) (w.alloc obj) ∧ ORel π ob l obj ∧ ∀ q π', π' q = some l → conc π' (g q) = some u
def LAt (P : Program) (ro : Option Nat) (o : Oper) (t : Env) (H : Heap) (v : AV) (H' : Heap) : Prop := ∀ F n π w (a : Act) next Q, FOk F π ro → Rel π H w → (∀ x ∈ o.op.operands, EnvAt π t a x) →
  (∀ u w', After π H w v H' u w' → next (a.put o.dst u) w') → o.wpIn F n P a w next Q
structure PutOk (t : Env) (dst : Option Nat) (v : AV) (t' : Env) : Prop where
  had : ∀ i, dst = some i → ∃ u, look t i = some u
  is : ∀ j, look t' j = if dst = some j then some v else look t j

/-- What came of an operation. -/
inductive SI where
  | off
  | quiet
  | alloc (ob : AObj) (g : Nat → AV)
  | loud

def StepOk (P : Program) (ro : Option Nat) (all : List Oper) (base i : Nat) (o : Oper) (t : Env) (H H' : Heap) (v : AV) : SI → Prop
  | .off => Off all o t ∧ v = .undef ∧ H' = H
  | .quiet => On all o t ∧ (∀ c, o.op ≠ .defer c) ∧ H' = H ∧ QAt P o t H v
  | .alloc ob g => On all o t ∧ (∀ c, o.op ≠ .defer c) ∧ AAt P o t ob g ∧ v = g (base + i) ∧ H'.next = H.next ∧ ∀ m, H'.get m = if m = base + i then some ob else H.get m
  | .loud => On all o t ∧ LAt P ro o t H v H'

theorem QSound.at_ {o : Oper} {f : Q R} (hs : QSound P o f) {t : Env} {H : Heap} {k : AV → Option R} {r : R} (h : f t H k = some r) : ∃ v, k v = some r ∧ QAt P o t H v := hs t H k r h

def GoodRec (P : Program) (x : Rec R) : Prop := ∃ o, QSound P o x.f

theorem opC_nodefer {o : Oper} {x : OpC R} (hx : opC (R := R) P o.op = x) (hd : ∀ f, x ≠ .defer f) (hb : x ≠ .bad) : ∀ c, o.op ≠ .defer c := by
  intro c hc
  rw [hc] at hx
  simp only [opC, quietF, allocF, writeF, callF] at hx
  split at hx
  · exact hd _ hx.symm
  · exact hb hx.symm
theorem opC_quiet {o : Oper} {f : Q R} (hop : opC P o.op = .quiet f) : QSound P o f := by
  unfold opC at hop
  split at hop
  · rename_i g hg; cases hop; exact quietF_sound hg
  · split at hop
    · cases hop
    · split at hop
      · cases hop
      · split at hop
        · cases hop
        · split at hop <;> cases hop
theorem opC_alloc {o : Oper} {f : A R} (hop : opC P o.op = .alloc f) : ASound P o f := by
  unfold opC at hop
  split at hop
  · cases hop
  · split at hop
    · rename_i g hg; cases hop; exact allocF_sound hg
    · split at hop
      · cases hop
      · split at hop
        · cases hop
        · split at hop <;> cases hop
theorem opC_write {o : Oper} {f : W R} (hop : opC P o.op = .write f) : WSound P o f := by
  unfold opC at hop
  split at hop
  · cases hop
  · split at hop
    · cases hop
    · split at hop
      · rename_i g hg; cases hop; exact writeF_sound hg
      · split at hop
        · cases hop
        · split at hop <;> cases hop
theorem opC_call {o : Oper} {f : Cl R} (hop : opC P o.op = .call f) : CSound P o f := by
  unfold opC at hop
  split at hop
  · cases hop
  · split at hop
    · cases hop
    · split at hop
      · cases hop
      · split at hop
        · rename_i g hg; cases hop; exact callF_sound hg
        · split at hop <;> cases hop

/-- What a run of the rest of a region says. -/
structure Ran (P : Program) (R : Type) (ro : Option Nat) (p : Plan) (all l : List Oper) (base i : Nat) (T : Nat → Env) (HH : Nat → Heap) (V : Nat → AV) (I : Nat → SI) (rs : List (Rec R)) : Prop where
  step : ∀ j o, l[j]? = some o → PutOk (T (i + j)) o.dst (V (i + j)) (T (i + j + 1)) ∧ StepOk P ro all base (i + j) o (T (i + j)) (HH (i + j)) (HH (i + j + 1)) (V (i + j)) (I (i + j)) ∧
    (I (i + j) = .loud → kindC (opC (R := R) P o.op) = 2) ∧ (kindC (opC (R := R) P o.op) = 2 → I (i + j) = .loud ∨ I (i + j) = .off) ∧
    (I (i + j) = .quiet → levelsOf p (i + j) ≠ [] → ∃ f, QSound P o f ∧ (⟨levelsOf p (i + j), f, T (i + j), V (i + j)⟩ : Rec R) ∈ rs)

def RanAll (P : Program) (ro : Option Nat) (p : Plan) (all l : List Oper) (base i : Nat) (t : Env) (H : Heap) (Hs : List Heap) (rs : List (Rec R)) (k : Env → Heap → List Heap → List (Rec R) → Option R) (r : R) : Prop :=
  ∃ (T : Nat → Env) (HH : Nat → Heap) (V : Nat → AV) (I : Nat → SI) (Hs' : List Heap) (rs' : List (Rec R)),
      T i = t ∧ HH i = H ∧ k (T (i + l.length)) (HH (i + l.length)) Hs' rs' = some r ∧ Hs'.reverse = Hs.reverse ++ (loudIdx (R := R) P l i).map HH ∧ (∀ x ∈ rs, x ∈ rs') ∧ (∀ x ∈ rs', GoodRec P x) ∧ Ran P R ro p all l base i T HH V I rs'

theorem drawC_inv {ih : Ih R} (hih : IhOk P ih) {ro : Option Nat} {p : Plan} {all : List Oper} {base : Nat} : ∀ (l : List Oper) (i : Nat) (t : Env) (H : Heap) (Hs : List Heap) (rs : List (Rec R)) (k : Env → Heap → List Heap → List (Rec R) → Option R) (r : R),
    runD (drawC P p all l i) ih base t H Hs rs k = some r → (∀ x ∈ rs, GoodRec P x) → RanAll P ro p all l base i t H Hs rs k r := by
  intro l
  induction l with
  | nil =>
    intro i t H Hs rs k r h hg
    exact ⟨fun _ => t, fun _ => H, fun _ => .undef, fun _ => .off, Hs, rs, rfl, rfl, h, by simp [loudIdx], fun _ h => h, hg, ⟨fun j o ho => by simp at ho⟩⟩
  | cons o rest ihl =>
    intro i t H Hs rs k r h hg
    -- one operation, then the rest
    have tail : ∀ (t1 : Env) (H1 : Heap) (Hs1 : List Heap) (rs1 : List (Rec R)) (v : AV) (si : SI), runD (drawC P p all rest (i + 1)) ih base t1 H1 Hs1 rs1 k = some r →
        Hs1.reverse = Hs.reverse ++ (if Nat.beq (kindC (opC (R := R) P o.op)) 2 then [H] else []) → (∀ x ∈ rs, x ∈ rs1) → (∀ x ∈ rs1, GoodRec P x) → PutOk t o.dst v t1 → StepOk P ro all base i o t H H1 v si →
        (si = .loud → kindC (opC (R := R) P o.op) = 2) → (kindC (opC (R := R) P o.op) = 2 → si = .loud ∨ si = .off) →
        (si = .quiet → levelsOf p i ≠ [] → ∃ f, QSound P o f ∧ (⟨levelsOf p i, f, t, v⟩ : Rec R) ∈ rs1) →
        RanAll P ro p all (o :: rest) base i t H Hs rs k r := by
      intro t1 H1 Hs1 rs1 v si h1 hHs hrs hg1 hput hstep hk1 hk2 hq
      obtain ⟨T, HH, V, I, Hs', rs', e1, e2, e3, e4, e5, e6, e7⟩ := ihl (i + 1) t1 H1 Hs1 rs1 k r h1 hg1
      have hne : ∀ j, ¬ (i + 1 + j = i) := fun j => by omega
      have hne0 : ¬ (i + 1 = i) := by omega
      refine ⟨fun j => if j = i then t else T j, fun j => if j = i then H else HH j, fun j => if j = i then v else V j, fun j => if j = i then si else I j, Hs', rs', by simp, by simp, ?_, ?_, fun x hx => e5 x (hrs x hx), e6, ⟨fun j o' ho' => ?_⟩⟩
      · simp only [List.length_cons]
        rw [show i + (rest.length + 1) = i + 1 + rest.length by omega]
        simp only [hne, if_false]
        exact e3
      · have hmap : (loudIdx (R := R) P rest (i + 1)).map (fun j => if j = i then H else HH j) = (loudIdx (R := R) P rest (i + 1)).map HH := by
          refine List.map_congr_left fun j hj => ?_
          obtain ⟨m, _, h2, _⟩ := loudIdx_mem.1 hj
          rw [if_neg (by omega)]
        rw [e4, hHs, show loudIdx (R := R) P (o :: rest) i = if Nat.beq (kindC (opC (R := R) P o.op)) 2 then i :: loudIdx (R := R) P rest (i + 1) else loudIdx (R := R) P rest (i + 1) from rfl]
        cases hb : Nat.beq (kindC (opC (R := R) P o.op)) 2 with
        | true => simp [hmap]
        | false => simp [hmap]
      · cases j with
        | zero =>
          simp at ho'; subst ho'
          simp only [Nat.add_zero, if_true, hne0, if_false, e1, e2]
          refine ⟨hput, hstep, hk1, hk2, fun h2 h3 => ?_⟩
          obtain ⟨f, h4, h5⟩ := hq h2 h3
          exact ⟨f, h4, e5 _ h5⟩
        | succ j =>
          simp at ho'
          have := e7.step j o' ho'
          rw [show i + (j + 1) = i + 1 + j by omega]
          simp only [hne, if_false, show ¬ (i + 1 + j + 1 = i) by omega]
          exact this
    -- what is wanted
    have yes : On all o t → runD (mkD p i (opC P o.op) o.dst (drawC P p all rest (i + 1))) ih base t H Hs rs k = some r → RanAll P ro p all (o :: rest) base i t H Hs rs k r := fun hon h => by
      cases hop : opC (R := R) P o.op with
      | quiet f =>
        have hnd := opC_nodefer hop (by simp) (by simp)
        have hs := opC_quiet hop
        rw [hop] at h
        obtain ⟨v, h1, h2⟩ := hs.at_ (show f t H (fun v => putE t o.dst v fun t' => (List.casesOn (levelsOf p i) (runD (drawC P p all rest (i + 1)) ih base t' H Hs rs k) fun _ _ => runD (drawC P p all rest (i + 1)) ih base t' H Hs (⟨levelsOf p i, f, t, v⟩ :: rs) k : Option R)) = some r from h)
        obtain ⟨t1, h3, h4, h5⟩ := putE_inv h1
        have hkind : ¬ kindC (opC (R := R) P o.op) = 2 := by rw [hop]; simp [kindC]
        have hb : Nat.beq (kindC (opC (R := R) P o.op)) 2 = false := by rw [hop]; rfl
        cases hl : levelsOf p i with
        | nil =>
          rw [hl] at h3
          exact tail t1 H Hs rs v .quiet h3 (by simp [hb]) (fun _ h => h) hg ⟨h4, h5⟩ ⟨hon, hnd, rfl, h2⟩ (by simp) (fun h => absurd h hkind) (fun _ h => absurd hl h)
        | cons x y =>
          rw [hl] at h3
          refine tail t1 H Hs _ v .quiet h3 (by simp [hb]) (fun _ h => List.mem_cons_of_mem _ h) (fun z hz => ?_) ⟨h4, h5⟩ ⟨hon, hnd, rfl, h2⟩ (by simp) (fun h => absurd h hkind) (fun _ _ => ⟨f, hs, by rw [hl]; simp⟩)
          rcases List.mem_cons.1 hz with rfl | hz
          · exact ⟨o, hs⟩
          · exact hg z hz
      | alloc f =>
        have hnd := opC_nodefer hop (by simp) (by simp)
        have hs := opC_alloc hop
        rw [hop] at h
        obtain ⟨ob, g, h1, h2⟩ := hs t _ r (show f t (fun o' g => natK (Nat.add base i) fun r => putH H r o' fun H' => putE t o.dst (g r) fun t' => runD (drawC P p all rest (i + 1)) ih base t' H' Hs rs k) = some r from h)
        rw [natK_eq] at h1
        obtain ⟨H1, h3, hN, hH⟩ := putH_inv h1
        obtain ⟨t1, h4, h5, h6⟩ := putE_inv h3
        have hkind : ¬ kindC (opC (R := R) P o.op) = 2 := by rw [hop]; simp [kindC]
        have hb : Nat.beq (kindC (opC (R := R) P o.op)) 2 = false := by rw [hop]; rfl
        exact tail t1 H1 Hs rs _ (.alloc ob g) h4 (by simp [hb]) (fun _ h => h) hg ⟨h5, h6⟩ ⟨hon, hnd, h2, rfl, hN, hH⟩ (by simp) (fun h => absurd h hkind) (by simp)
      | write f =>
        have hnd := opC_nodefer hop (by simp) (by simp)
        have hs := opC_write hop
        have hb : kindC (opC (R := R) P o.op) = 2 := by rw [hop]; rfl
        rw [hop] at h
        obtain ⟨v, H1, h1, h2⟩ := hs t H _ r (show f t H (fun v H' => putE t o.dst v fun t' => runD (drawC P p all rest (i + 1)) ih base t' H' (H :: Hs) rs k) = some r from h)
        obtain ⟨t1, h3, h4, h5⟩ := putE_inv h1
        refine tail t1 H1 (H :: Hs) rs v .loud h3 (by simp [hb]) (fun _ h => h) hg ⟨h4, h5⟩ ⟨hon, ?_⟩ (fun _ => hb) (fun _ => .inl rfl) (by simp)
        intro F n π w a next Q hF hr ha hk
        obtain ⟨π1, w1, nx, u, h8, h9, h10, h11⟩ := h2 π w a hr ha
        exact wp_of_exec hF hnd h8 h9 (hk u w1 ⟨π1, h10, h11⟩)
      | call f =>
        have hnd := opC_nodefer hop (by simp) (by simp)
        have hs := opC_call hop
        have hb : kindC (opC (R := R) P o.op) = 2 := by rw [hop]; rfl
        rw [hop] at h
        obtain ⟨g, h1, h2⟩ := hs t _ r (show f t (fun g => goK ih g H fun v H' => putE t o.dst v fun t' => runD (drawC P p all rest (i + 1)) ih base t' H' (H :: Hs) rs k) = some r from h)
        cases g with
        | fn fi args =>
          obtain ⟨v, H1, h3, h4⟩ := hih.call _ _ _ _ _ (show ih (.call fi args H fun v H' => putE t o.dst v fun t' => runD (drawC P p all rest (i + 1)) ih base t' H' (H :: Hs) rs k) = some r from h1)
          obtain ⟨t1, h5, h6, h7⟩ := putE_inv h3
          refine tail t1 H1 (H :: Hs) rs v .loud h5 (by simp [hb]) (fun _ h => h) hg ⟨h6, h7⟩ ⟨hon, ?_⟩ (fun _ => hb) (fun _ => .inl rfl) (by simp)
          intro F n π w a next Q hF hr ha hk
          exact wp_of_goal (H := H) (H' := H1) (v := v) hF hnd hr (h2 π w a ha) hk h4
        | round l' args =>
          obtain ⟨v, H1, h3, h4⟩ := hih.round _ _ _ _ _ (show ih (.round l' args H fun v H' => putE t o.dst v fun t' => runD (drawC P p all rest (i + 1)) ih base t' H' (H :: Hs) rs k) = some r from h1)
          obtain ⟨t1, h5, h6, h7⟩ := putE_inv h3
          refine tail t1 H1 (H :: Hs) rs v .loud h5 (by simp [hb]) (fun _ h => h) hg ⟨h6, h7⟩ ⟨hon, ?_⟩ (fun _ => hb) (fun _ => .inl rfl) (by simp)
          intro F n π w a next Q hF hr ha hk
          exact wp_of_goal (H := H) (H' := H1) (v := v) hF hnd hr (h2 π w a ha) hk h4
      | defer f => rw [hop] at h; cases h
      | bad => rw [hop] at h; cases h
    unfold drawC at h
    cases hgd : o.guard with
    | none =>
      rw [hgd] at h
      exact yes (.inl hgd) h
    | some q =>
      obtain ⟨j, want⟩ := q
      rw [hgd] at h
      simp only at h
      split at h
      · rename_i g hj
        have h : getE t g (fun v => Bool.casesOn (wantB want v) (putE t o.dst .undef fun t' => runD (drawC P p all rest (i + 1)) ih base t' H (Bool.casesOn (Nat.beq (kindC (opC (R := R) P o.op)) 2) Hs (H :: Hs)) rs k)
          (runD (mkD p i (opC P o.op) o.dst (drawC P p all rest (i + 1))) ih base t H Hs rs k)) = some r := h
        rw [getE_eq] at h
        cases hv : look t g with
        | none => rw [hv] at h; cases h
        | some v =>
          rw [hv] at h
          rcases bcase_true (show (Bool.casesOn (wantB want v) (putE t o.dst .undef fun t' => runD (drawC P p all rest (i + 1)) ih base t' H (Bool.casesOn (Nat.beq (kindC (opC (R := R) P o.op)) 2) Hs (H :: Hs)) rs k)
            (runD (mkD p i (opC P o.op) o.dst (drawC P p all rest (i + 1))) ih base t H Hs rs k) : Option R) = some r from h) with ⟨hb, h⟩ | ⟨hb, h⟩
          · obtain ⟨t1, h1, h2, h3⟩ := putE_inv h
            refine tail t1 H _ rs .undef .off h1 ?_ (fun _ h => h) hg ⟨h2, h3⟩ ⟨⟨j, want, g, v, hgd, hj, hv, hb⟩, rfl, rfl⟩ (by simp) (fun _ => .inr rfl) (by simp)
            cases Nat.beq (kindC (opC (R := R) P o.op)) 2 <;> simp
          · exact yes (.inr ⟨j, want, g, v, hgd, hj, hv, hb⟩) h
      · cases h

/-! ### the check at other levels -/
theorem checkLv_inv {x : Rec R} {Hs : List Heap} (hx : GoodRec P x) : ∀ {lv : List Nat} {k : Option R} {r : R}, checkLv x.f x.t x.v Hs lv k = some r → k = some r ∧ ∀ j ∈ lv, ∃ H, Hs[j]? = some H ∧ ∀ o, QSound P o x.f → QAt P o x.t H x.v
  | [], k, r, h => ⟨h, fun j hj => by simp at hj⟩
  | j :: lv, k, r, h => by
    replace h : nthK Hs j (fun H => x.f x.t H fun u => Bool.casesOn (AV.beq u x.v) none (checkLv x.f x.t x.v Hs lv k)) = some r := h
    rw [nthK_eq] at h
    cases hH : Hs[j]? with
    | none => rw [hH] at h; cases h
    | some H =>
      rw [hH] at h
      replace h : x.f x.t H (fun u => Bool.casesOn (AV.beq u x.v) none (checkLv x.f x.t x.v Hs lv k)) = some r := h
      obtain ⟨o0, h0⟩ := hx
      obtain ⟨v0, h1, _⟩ := h0 _ _ _ _ h
      obtain ⟨_, h2⟩ := bcase_none h1
      obtain ⟨h3, h4⟩ := checkLv_inv ⟨o0, h0⟩ h2
      refine ⟨h3, fun j' hj' => ?_⟩
      rcases List.mem_cons.1 hj' with rfl | hj'
      · refine ⟨H, hH, fun o ho => ?_⟩
        obtain ⟨v, h5, h6⟩ := ho.at_ h
        obtain ⟨h7, _⟩ := bcase_none h5
        rw [AV.beq_eq _ _ h7] at h6
        exact h6
      · exact h4 j' hj'
theorem checkAll_inv {Hs : List Heap} : ∀ {rs : List (Rec R)} {k : Option R} {r : R}, (∀ x ∈ rs, GoodRec P x) → checkAll Hs rs k = some r → k = some r ∧ ∀ x ∈ rs, ∀ j ∈ x.lv, ∃ H, Hs[j]? = some H ∧ ∀ o, QSound P o x.f → QAt P o x.t H x.v
  | [], k, r, _, h => ⟨h, fun x hx => by simp at hx⟩
  | x :: rs, k, r, hg, h => by
    replace h : checkLv x.f x.t x.v Hs x.lv (checkAll Hs rs k) = some r := h
    obtain ⟨h1, h2⟩ := checkLv_inv (hg x (by simp)) h
    obtain ⟨h3, h4⟩ := checkAll_inv (fun y hy => hg y (List.mem_cons_of_mem _ hy)) h1
    refine ⟨h3, fun y hy => ?_⟩
    rcases List.mem_cons.1 hy with rfl | hy
    · exact h2
    · exact h4 y hy

end
end Go.Ev
