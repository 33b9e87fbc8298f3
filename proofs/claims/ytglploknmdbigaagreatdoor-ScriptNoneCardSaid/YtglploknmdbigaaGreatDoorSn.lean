/- maps.Keys, slices.Sorted: by the library's contracts. -/
import Derived.Test.YtglploknmdbigaaGreatDoorSm
import Derived.Test.YtglploknmdbigaaGreatDoorEc
import Derived.Shelf.SlIter.Nil
import Derived.Shelf.SlIterI.Nil
set_option linter.unusedSectionVars false
namespace Go.Ev
open Go.Proofs Go.Maps Go.Sort Go.Shelf Go.RowKit
section
variable [Sym]
variable {P : Program} {ρ ρ' : Ren}

theorem Post.below {π : Pi} {H : Heap} {w w' : World} (h : Rel π H w) (hb : Below w.heap.size w w') : Post π H w π H w' :=
  ⟨Pi.le.refl _, ⟨h.dom, fun r o l h1 h2 => by
    obtain ⟨ob, h3, h4⟩ := h.obj r o l h1 h2
    exact ⟨ob, by rw [hb.block _ (Array.getElem?_eq_some_iff.1 h3).1]; exact h3, h4⟩, h.inj, h.top, h.low.mono hb.size fun b h1 => hb.block b (Nat.lt_of_lt_of_le h1 h.low.size), h.high, h.zero⟩, Nat.le_refl _, hb.os, hb.tape, hb.output, hb.size, fun b h1 _ => hb.block b h1, fun b h1 => .inl h1, fun _ _ h1 => ⟨h1, rfl⟩⟩

/-- A region more, somewhere behind. -/
theorem Post.behind {π : Pi} {H H' : Heap} {w w' : World} {o' : AObj} {l : Loc} {ob : Obj} (h : Rel π H w) (hb : Below w.heap.size w w') (hn : H'.next = H.next + 1)
    (hH : ∀ m, H'.get m = if m = H.next then some o' else H.get m) (hl : w.heap.size ≤ l.block) (hat : w'.heap[l.block]? = some ob) (hrel : ORel π o' l ob) : ∃ π', π' H.next = some l ∧ Post π H w π' H' w' := by
  have hp := Post.below h hb
  have hπ : π H.next = none := h.dom _ (Nat.le_refl _)
  have hle : π.le (fun q => if q = H.next then some l else π q) := fun q lq hq => by
    by_cases e : q = H.next
    · subst e; rw [hπ] at hq; cases hq
    · simp only [if_neg e]; exact hq
  have lt : ∀ q x lq, H.get q = some x → π q = some lq → lq.block < w.heap.size := fun q x lq h1 h2 => by
    obtain ⟨ob, h3, _⟩ := h.obj q x lq h1 h2
    exact (Array.getElem?_eq_some_iff.1 h3).1
  refine ⟨_, by simp, ⟨hle, ⟨fun q hq => ?_, ?_, ?_, fun q hq => ?_, hp.rel.low, fun q x lq h1 h2 => by
    by_cases e : q = H.next
    · simp only [if_pos e] at h2; cases h2
      have := h.low.size
      omega
    · rw [hH, if_neg e] at h1
      simp only [if_neg e] at h2
      exact h.high q x lq h1 h2, fun l hl => hle _ _ (h.zero l hl)⟩, by omega, hb.os, hb.tape, hb.output, hb.size, fun b h1 _ => hb.block b h1, ?_, fun q hq h1 => ?_⟩⟩
  · have e : q ≠ H.next := by omega
    simp only [if_neg e]
    exact h.dom q (by omega)
  · intro q x lq h1 h2
    rw [hH] at h1
    by_cases e : q = H.next
    · rw [if_pos e] at h1; cases h1
      simp only [if_pos e] at h2; cases h2
      exact ⟨ob, hat, hrel.mono hle⟩
    · rw [if_neg e] at h1
      simp only [if_neg e] at h2
      obtain ⟨ob', h3, h4⟩ := hp.rel.obj q x lq h1 h2
      exact ⟨ob', h3, h4.mono hle⟩
  · intro a b x y la lb h1 h2 h3 h4 h5
    rw [hH] at h1 h2
    by_cases ea : a = H.next
    · by_cases eb : b = H.next
      · rw [ea, eb]
      · rw [if_neg eb] at h2
        simp only [if_pos ea] at h3; cases h3
        simp only [if_neg eb] at h4
        have := lt b y lb h2 h4
        omega
    · rw [if_neg ea] at h1
      simp only [if_neg ea] at h3
      by_cases eb : b = H.next
      · simp only [if_pos eb] at h4; cases h4
        have := lt a x la h1 h3
        omega
      · rw [if_neg eb] at h2
        simp only [if_neg eb] at h4
        exact h.inj a b x y la lb h1 h2 h3 h4 h5
  · rw [hH, if_neg (by omega)]
    exact h.top q (by omega)
  · rintro b ⟨q, x, lq, h1, h2, h3⟩
    rw [hH] at h1
    by_cases e : q = H.next
    · simp only [if_pos e] at h2; cases h2
      right; omega
    · rw [if_neg e] at h1
      simp only [if_neg e] at h2
      exact .inl ⟨q, x, lq, h1, h2, h3⟩
  · have e : q ≠ H.next := by omega
    simp only [if_neg e]
    exact ⟨h1, by rw [hH, if_neg e]⟩

theorem concs_none1 {π : Pi} {v : AV} {us : List Value} (h : concs π [v] = some us) : ∃ u, conc π v = some u ∧ us = [u] := by
  obtain ⟨u, us', h1, h2, rfl⟩ := concs_cons h
  cases h2
  exact ⟨u, h1, rfl⟩

/-- What a contract gives, as the evaluator wants it. -/
theorem CallOk.of_in {f : FuncId} {args : Array Value} {w : World} {K : Value → World → Prop} (n : Nat) (e : (callFunc f args).run P w = .ok (.enter f args) w) (m : Nat) (h : CallsIn Fence.wide m P f args w fun e w' => ∃ u, e = .returned u ∧ K u w') : CallOk P n f args w K :=
  .inr ⟨e, callsIn_wide.2 (callsIn_wide.1 h)⟩

def MapAt (π : Pi) (mo mb : Option Nat) : Prop := match mo with | none => mb = none | some r => ∃ lm, π r = some lm ∧ mb = some lm.block
def mapArg (mo : Option Nat) : AV := match mo with | none => .nilmap | some m => .map m

theorem keysBox {π : Pi} {H H1 : Heap} {w : World} {g : Nat} {mo : Option Nat} {mb : Option Nat} {ty : TypeId} (h : Rel π H w) (hN : H1.next = H.next + 1) (hH : ∀ m, H1.get m = if m = H.next then some (.keys mo) else H.get m)
    (hm : MapAt π mo mb) :
    After π H w (.fn g [] [.ptr H.next 0]) H1 (.func (.func g) #[] #[.pointer (some ⟨w.heap.size, 0, none⟩)]) (w.alloc (.cells #[.map mb] ty)) := by
  obtain ⟨π1, h1, h2⟩ := Post.newRegion0 (l := ⟨w.heap.size, 0, 1⟩) (ob := .cells #[.map mb] ty) h rfl hN hH rfl (by
    refine ⟨rfl, rfl, ?_⟩
    cases mo with
    | none => rw [show mb = none from hm]; rfl
    | some r => obtain ⟨lm, h3, h4⟩ := hm; exact ⟨lm, h3, by rw [h4]; rfl⟩)
  refine ⟨π1, ?_, h2⟩
  simp [conc, concs, h1]

theorem keysT_inv {g : Nat} {args : List AV} {H H' : Heap} {v : AV} (h : keysT g args H = some (v, H')) : ∃ mo, args = [mapArg mo] ∧ v = .fn g [] [.ptr H.next 0] ∧ H'.next = H.next + 1 ∧ ∀ m, H'.get m = if m = H.next then some (.keys mo) else H.get m := by
  unfold keysT at h
  split at h
  · obtain ⟨H1, h1, hN, hH⟩ := newH_inv h
    cases h1
    exact ⟨none, rfl, rfl, hN, hH⟩
  · rename_i m
    obtain ⟨H1, h1, hN, hH⟩ := newH_inv h
    cases h1
    exact ⟨some m, rfl, rfl, hN, hH⟩
  · cases h

theorem keys_args {π : Pi} {mo : Option Nat} {us : List Value} (h : concs π [mapArg mo] = some us) : ∃ mb, us = [.map mb] ∧ MapAt π mo mb := by
  obtain ⟨u, h1, rfl⟩ := concs_none1 h
  cases mo with
  | none => cases h1; exact ⟨none, rfl, rfl⟩
  | some m =>
    simp only [mapArg] at h1
    unfold conc at h1
    split at h1
    · rename_i l hl; cases h1; exact ⟨_, rfl, l, hl, rfl⟩
    · cases h1

theorem keysT_ok (L : SlLaysZ.n7 P ρ) {args : List AV} {H H' : Heap} {v : AV} (h : keysT (ρ.f 10) args H = some (v, H')) : ∀ π w us n, Rel π H w → concs π args = some us → CallOk P n (ρ.f 7) us.toArray w (After π H w v H') := by
  intro π w us n hr hc
  obtain ⟨mo, rfl, rfl, hN, hH⟩ := keysT_inv h
  obtain ⟨mb, rfl, hm⟩ := keys_args hc
  refine .of_in n (L.f7.enters rfl _ w) 6 ((AnyZ.keys_in L Fence.wide 6 trivial rfl mb w).mono fun e w' h => ?_)
  obtain ⟨rfl, rfl⟩ := h
  exact ⟨_, rfl, keysBox hr hN hH hm⟩
theorem keysTI_ok (L : SlLaysZI.n7 P ρ) {args : List AV} {H H' : Heap} {v : AV} (h : keysT (ρ.f 10) args H = some (v, H')) : ∀ π w us n, Rel π H w → concs π args = some us → CallOk P n (ρ.f 7) us.toArray w (After π H w v H') := by
  intro π w us n hr hc
  obtain ⟨mo, rfl, rfl, hN, hH⟩ := keysT_inv h
  obtain ⟨mb, rfl, hm⟩ := keys_args hc
  refine .of_in n (L.f7.enters rfl _ w) 6 ((AnyZI.keys_in L Fence.wide 6 trivial rfl mb w).mono fun e w' h => ?_)
  obtain ⟨rfl, rfl⟩ := h
  exact ⟨_, rfl, keysBox hr hN hH hm⟩

/-! ### the order -/
section order
variable {α : Type} {lt : α → α → Bool}
theorem insL_perm (x : α) : ∀ l : List α, (insL lt x l).Perm (x :: l)
  | [] => .refl _
  | y :: l => by
    unfold insL
    cases lt x y with
    | true => exact .refl _
    | false => exact ((insL_perm x l).cons y).trans (.swap x y l)
theorem sortL_perm : ∀ l : List α, (sortL lt l).Perm l
  | [] => .refl _
  | x :: l => (insL_perm x _).trans ((sortL_perm l).cons x)
theorem risesL_pair : ∀ {l : List α}, risesL lt l = true → l.Pairwise (fun a b => lt a b = true)
  | [], _ => .nil
  | x :: l, h => by
    simp only [risesL, Bool.and_eq_true, List.all_eq_true] at h
    exact .cons h.1 (risesL_pair h.2)
theorem freshN_nodup : ∀ {l : List Nat}, freshN l = true → l.Nodup
  | [], _ => .nil
  | x :: l, h => by
    simp only [freshN, Bool.and_eq_true, Bool.not_eq_true'] at h
    refine List.nodup_cons.2 ⟨fun hx => ?_, freshN_nodup h.2⟩
    rw [memN_iff.2 hx] at h
    cases h.1
end order

/-- What a call of slices.Sorted finds. -/
theorem sortedT_inv {α : Type} {key : (AV × AV × Nat) → Option α} {mk : α → AV} {lt : α → α → Bool} {g : Nat} {args : List AV} {H H' : Heap} {v : AV} (h : sortedT key mk lt g args H = some (v, H')) :
    ∃ r mo, args = [.fn g [] [.ptr r 0]] ∧ H.get r = some (.keys mo) ∧ match mo with
      | none => v = .nilsl ∧ H' = H
      | some m => ∃ es c ks, H.get m = some (.map es c) ∧ mapO key es = some ks ∧ bornOk es c = true ∧ sortedRows mk lt ks H = some (v, H') := by
  unfold sortedT at h
  split at h
  · rename_i f r o
    split at h
    · rename_i hb
      simp only [Bool.and_eq_true] at hb
      have hf := Nat.eq_of_beq_eq_true hb.1
      have ho := Nat.eq_of_beq_eq_true hb.2
      subst hf ho
      rw [getH_eq] at h
      cases hr : H.get r with
      | none => rw [hr] at h; cases h
      | some x =>
        rw [hr] at h
        cases x <;> try (cases h; done)
        rename_i mo
        refine ⟨r, mo, rfl, hr, ?_⟩
        cases mo with
        | none => cases h; exact ⟨rfl, rfl⟩
        | some m =>
          obtain ⟨es, c, hm, h1⟩ := mapObjK_inv (show mapObjK H m (fun es c => match mapO key es, bornOk es c with | some ks, true => sortedRows mk lt ks H | _, _ => none) = some (v, H') from h)
          split at h1
          · rename_i ks hk hbn
            exact ⟨es, c, ks, hm, hk, hbn, h1⟩
          · cases h1
    · cases h
  · cases h

theorem sortedRows_inv {α : Type} {mk : α → AV} {lt : α → α → Bool} {ks : List α} {H H' : Heap} {v : AV} (h : sortedRows mk lt ks H = some (v, H')) : (ks = [] ∧ v = .nilsl ∧ H' = H) ∨
    (ks ≠ [] ∧ (sortL lt ks).length < 100000 ∧ risesL lt (sortL lt ks) = true ∧ v = .sl H.next 0 0 (sortL lt ks).length (.un 1) ∧ H'.next = H.next + 1 ∧ ∀ m, H'.get m = if m = H.next then some (.cells ((sortL lt ks).map mk)) else H.get m) := by
  unfold sortedRows at h
  split at h
  · cases h; exact .inl ⟨rfl, rfl, rfl⟩
  · rename_i hne
    simp only at h
    split at h
    · rename_i hb
      simp only [Bool.and_eq_true] at hb
      obtain ⟨H1, h1, hN, hH⟩ := newH_inv h
      cases h1
      exact .inr ⟨fun e => hne (by rw [e]), by simpa using hb.1, hb.2, rfl, hN, hH⟩
    · cases h

theorem mapO_get {α β : Type} {f : α → Option β} : ∀ {l : List α} {ks : List β}, mapO f l = some ks → ks.length = l.length ∧ ∀ (i : Nat) x, l[i]? = some x → ∃ k, ks[i]? = some k ∧ f x = some k
  | [], ks, h => by cases h; exact ⟨rfl, fun i x hx => by simp at hx⟩
  | x :: l, ks, h => by
    unfold mapO at h
    split at h
    · cases h
    · rename_i k hk
      split at h
      · cases h
      · rename_i ks' hks
        cases h
        obtain ⟨h1, h2⟩ := mapO_get hks
        refine ⟨by simp [h1], fun i y hy => ?_⟩
        cases i with
        | zero => simp at hy; subst hy; exact ⟨k, rfl, hk⟩
        | succ i => simp at hy; simpa using h2 i y hy

/-- The map's entries, their keys as 'conv' has them. -/
theorem ents_keys {α β : Type} {π : Pi} {key : (AV × AV × Nat) → Option α} {conv : α → β} {enc : β → Value} (hk : ∀ e k u, key e = some k → conc π e.1 = some u → u = enc (conv k)) : ∀ {es : List (AV × AV × Nat)} {ms : List MapEntry} {ks : List α}, ConcEs π es ms → mapO key es = some ks →
    ms.map (·.key) = ks.map (fun k => enc (conv k)) ∧ ms.map (·.born) = es.map (·.2.2)
  | [], [], ks, _, h => by cases h; exact ⟨rfl, rfl⟩
  | e :: es, m :: ms, ks, hc, h => by
    unfold mapO at h
    split at h
    · cases h
    · rename_i k hke
      split at h
      · cases h
      · rename_i ks' hks
        cases h
        obtain ⟨h1, h2⟩ := ents_keys hk hc.2 hks
        have hc1 : concE π e m := hc.1
        refine ⟨?_, ?_⟩
        · rw [List.map_cons, List.map_cons, h1, hk e k m.key hke hc1.1]
        · rw [List.map_cons, List.map_cons, h2, hc1.2.2]
  | [], _ :: _, _, h, _ => h.elim
  | _ :: _, [], _, h, _ => h.elim

end
end Go.Ev

set_option linter.unusedSectionVars false
namespace Go.Ev
open Go.Proofs Go.Maps Go.Sort Go.Shelf Go.RowKit
section
variable [Sym]
variable {P : Program} {ρ ρ' : Ren}

theorem sorted_after {π : Pi} {H H' : Heap} {w w' : World} {v : Value} {xs : List Value} {avs : List AV} {e : TypeId} (hr : Rel π H w) (hb : Below w.heap.size w w') (hrow : w'.ownsRow w.heap.size e 1 v avs.length xs) (hne : v ≠ .slice none 0 0) (hxs : concs π avs = some xs) (hf : AV.flats avs = true)
    (hN : H'.next = H.next + 1) (hH : ∀ m, H'.get m = if m = H.next then some (.cells avs) else H.get m) : After π H w (.sl H.next 0 0 avs.length (.un 1)) H' v w' := by
  obtain ⟨hlen, h | ⟨g, cap, cur, rfl, hge, hg, hn, _, hsz, htake⟩⟩ := hrow
  · exact absurd h.1 hne
  · simp only [Nat.mul_one] at hlen hsz htake
    obtain ⟨π1, h1, h2⟩ := Post.behind (l := ⟨g, 0, cap⟩) hr hb hN hH hge hg (by
      refine ⟨xs, hxs, hf, by simp [hsz], hn, fun i hi => ?_, fun i _ _ h => absurd h.2 (Nat.not_lt_zero _)⟩
      rw [Nat.zero_add, ← htake, ← Array.getElem?_toList, List.getElem?_take_of_lt hi])
    refine ⟨π1, ?_, h2⟩
    unfold conc
    rw [h1]
    simp [hn]

theorem keysAt {π : Pi} {H : Heap} {w : World} {r : Nat} {mo : Option Nat} {g : Nat} {us : List Value} (hr : Rel π H w) (hget : H.get r = some (.keys mo)) (hc : concs π [.fn g [] [.ptr r 0]] = some us) :
    ∃ Bm mb, us = [.func (.func g) #[] #[.pointer (some ⟨Bm, 0, none⟩)]] ∧ Bm < w.heap.size ∧ w.cell? ⟨Bm, 0, none⟩ = some (.map mb) ∧ MapAt π mo mb := by
  obtain ⟨u, h1, rfl⟩ := concs_none1 hc
  obtain ⟨x, y, h2, h3, rfl⟩ := conc_fn h1
  cases h2
  obtain ⟨p, h4, rfl⟩ := concs_none1 h3
  unfold conc at h4
  split at h4
  · rename_i l hl
    cases h4
    obtain ⟨ob, h5, h6⟩ := hr.obj r _ l hget hl
    cases ob <;> simp only [ORel] at h6
    rename_i arr ty fz
    obtain ⟨h7, h8, h9⟩ := h6
    have hlt := (Array.getElem?_eq_some_iff.1 h5).1
    cases mo with
    | none => exact ⟨l.block, none, by rw [h7], hlt, by simp [World.cell?, h5, h9], rfl⟩
    | some m =>
      obtain ⟨lm, h10, h11⟩ := h9
      exact ⟨l.block, some lm.block, by rw [h7], hlt, by simp [World.cell?, h5, h11], lm, h10, rfl⟩
  · cases h4

def convS (s : List Nat) : List UInt8 := s.map UInt8.ofNat
theorem keyS_of {e : AV × AV × Nat} {s : List Nat} (h : keyS e = some s) : e.1 = .str s ∧ small s = true ∧ s.length < 100000 := by
  unfold keyS at h
  split at h
  · rename_i s' hs
    split at h
    · rename_i hb
      cases h
      simp only [Bool.and_eq_true] at hb
      exact ⟨hs, hb.1, by simpa using hb.2⟩
    · cases h
  · cases h
theorem conc_strS {π : Pi} {s : List Nat} (h : small s = true) : conc π (.str s) = some (encStr (convS s)) := by
  unfold conc
  rw [if_pos h]
  rfl
theorem keyS_conc {π : Pi} {e : AV × AV × Nat} {s : List Nat} {u : Value} (h : keyS e = some s) (hu : conc π e.1 = some u) : u = encStr (convS s) := by
  obtain ⟨h1, h2, _⟩ := keyS_of h
  rw [h1, conc_strS h2] at hu
  exact (Option.some.inj hu).symm

theorem bornOk_of {es : List (AV × AV × Nat)} {c : Nat} (h : bornOk es c = true) : (∀ x ∈ es.map (·.2.2), x < c) ∧ (es.map (·.2.2)).Nodup := by
  simp only [bornOk, Bool.and_eq_true, List.all_eq_true] at h
  refine ⟨fun x hx => ?_, freshN_nodup h.2⟩
  obtain ⟨e, he, rfl⟩ := List.mem_map.1 hx
  simpa using h.1 e he

theorem lt_of_less : ∀ {x y : List UInt8}, Op.bytesLess x y = true → x < y
  | [], [], h => by simp [Op.bytesLess] at h
  | [], _ :: _, _ => List.nil_lt_cons _ _
  | _ :: _, [], h => by simp [Op.bytesLess] at h
  | a :: x, b :: y, h => by
    simp only [Op.bytesLess, Bool.or_eq_true, Bool.and_eq_true, decide_eq_true_eq, beq_iff_eq] at h
    rw [List.cons_lt_cons_iff]
    rcases h with h | ⟨h1, h2⟩
    · exact .inl h
    · exact .inr ⟨h1, lt_of_less h2⟩
theorem convS_lt {x y : List Nat} (hx : small x = true) (hy : small y = true) (h : strLt x y = true) : convS x < convS y := lt_of_less (by unfold convS; rw [strLt_eq hx hy]; exact h)

theorem keysS_all {es : List (AV × AV × Nat)} {ks : List (List Nat)} (h : mapO keyS es = some ks) : ∀ s ∈ ks, small s = true ∧ s.length < 100000 := by
  intro s hs
  obtain ⟨i, hi⟩ := List.mem_iff_getElem?.1 hs
  obtain ⟨h1, h2⟩ := mapO_get h
  have hlt := (List.getElem?_eq_some_iff.1 hi).1
  obtain ⟨k, h3, h4⟩ := h2 i es[i] (List.getElem?_eq_getElem (by omega))
  rw [hi] at h3; cases h3
  exact (keyS_of h4).2

/-- The map, as the contracts have it. -/
theorem ownS {π : Pi} {H : Heap} {w : World} {m : Nat} {lm : Loc} {es : List (AV × AV × Nat)} {c : Nat} {ks : List (List Nat)} {k : TypeId} (hk : P.underlying k = some .string) (hr : Rel π H w) (hget : H.get m = some (.map es c)) (hm : π m = some lm) (hks : mapO keyS es = some ks) (hb : bornOk es c = true)
    (hlen : ks.length < 100000) (hnd : (ks.map convS).Nodup) : ∃ D0 : DataW Unit, w.ownsMap P k (fun _ => some (.nil, [])) lm.block es.length D0 ∧ (strKeys D0).Perm (ks.map convS) ∧ Maps.size D0 = ks.length := by
  obtain ⟨ob, h1, h2⟩ := hr.obj m _ lm hget hm
  cases ob <;> simp only [ORel] at h2
  rename_i ms clock
  obtain ⟨h2, h2c⟩ := h2
  subst h2c
  obtain ⟨h3, h4⟩ := ents_keys (enc := encStr) (conv := convS) (fun e k u h hu => keyS_conc h hu) h2 hks
  obtain ⟨h5, h6⟩ := bornOk_of hb
  have hall := keysS_all hks
  have hl1 : ms.toList.length = ks.length := by simpa using congrArg List.length h3
  have hl2 : ms.toList.length = es.length := by simpa using congrArg List.length h4
  have rdx : ∀ x ∈ ms.toList, ∃ s ∈ ks, x.key = encStr (convS s) ∧ WideElems.rd P k (fun _ => some ((.nil : DataW Unit), ([] : List MemPlace))) x = some (.string (convS s), .nil) := by
    intro x hx
    have : x.key ∈ ms.toList.map (·.key) := List.mem_map.2 ⟨x, hx, rfl⟩
    rw [h3] at this
    obtain ⟨s, hs, hse⟩ := List.mem_map.1 this
    refine ⟨s, hs, hse.symm, ?_⟩
    have hsz : (⟨(convS s).toArray⟩ : ByteArray).size ≤ maxLen := by
      show (convS s).toArray.size ≤ maxLen
      have := (hall s hs).2
      simp only [List.size_toArray, convS, List.length_map, maxLen]
      omega
    have := WideElems.rd_mk (R := fun _ => some ((.nil : DataW Unit), ([] : List MemPlace))) (val := x.val) (born := x.born) (WideMaps.keyOf_string_mk hk hsz) rfl
    have hx' : x = ⟨.string ⟨(convS s).toArray⟩, x.val, x.born⟩ := by
      cases x; simp only at hse; rw [← hse]
    rw [hx']
    rw [this]
  have rgm : ms.toList.map (fun x => strOf (WideElems.rg P k (fun _ => some ((.nil : DataW Unit), ([] : List MemPlace))) x).1) = ks.map convS := by
    have e1 : ms.toList.map (fun x => encStr (strOf (WideElems.rg P k (fun _ => some ((.nil : DataW Unit), ([] : List MemPlace))) x).1)) = ms.toList.map (·.key) := by
      refine List.map_congr_left fun x hx => ?_
      obtain ⟨s, _, h7, h8⟩ := rdx x hx
      rw [WideElems.rg_of h8, h7]; rfl
    rw [h3] at e1
    have inj : ∀ {a b : List (List UInt8)}, a.map encStr = b.map encStr → a = b := by
      intro a
      induction a with
      | nil => intro b h; cases b with
        | nil => rfl
        | cons _ _ => simp at h
      | cons x a ih => intro b h; cases b with
        | nil => simp at h
        | cons y b =>
          simp only [List.map_cons, List.cons.injEq] at h
          rw [encStr_inj h.1, ih h.2]
    refine inj ?_
    rw [List.map_map, List.map_map]
    exact e1
  refine ⟨_, ⟨ms, c, h1, ⟨?_, ⟨fun x hx => ?_, ?_, ?_⟩, fun x hx => ?_⟩, ?_, rfl⟩, ?_, ?_⟩
  · have : ms.size = ms.toList.length := by simp
    rw [this, hl1]; unfold maxLen; omega
  · exact h5 _ (by rw [← h4]; exact List.mem_map.2 ⟨x, hx, rfl⟩)
  · rw [h4]; exact h6
  · rw [h3]
    have : ks.map (fun k => encStr (convS k)) = (ks.map convS).map encStr := by rw [List.map_map]; rfl
    rw [this]
    exact List.pairwise_map.2 (List.Pairwise.imp (fun {a b} hne h => hne (encStr_inj h)) hnd)
  · obtain ⟨s, _, _, h8⟩ := rdx x hx
    exact ⟨_, h8⟩
  · have : ms.size = ms.toList.length := by simp
    rw [this, hl2]; exact Nat.le_refl _
  · show ((List.foldr DataW.insert [] _).map fun p => strOf p.1).Perm _
    refine ((WideShapes.sorted_perm _).map _).trans ?_
    rw [List.map_map]
    exact .of_eq rgm
  · show (List.foldr DataW.insert [] _).length = _
    rw [(WideShapes.sorted_perm _).length_eq, List.length_map, hl1]

theorem sort_unique {ss : List (List UInt8)} {ks : List (List Nat)} (h : ss.Perm (ks.map convS)) (hall : ∀ s ∈ ks, small s = true) (hp : risesL strLt (sortL strLt ks) = true) : ss.mergeSort (fun x y => decide (x ≤ y)) = (sortL strLt ks).map convS := by
  have tr : ∀ a b c : List UInt8, decide (a ≤ b) = true → decide (b ≤ c) = true → decide (a ≤ c) = true := fun a b c h1 h2 => by simp only [decide_eq_true_eq] at *; exact List.le_trans h1 h2
  have to : ∀ a b : List UInt8, (decide (a ≤ b) || decide (b ≤ a)) = true := fun a b => by simp only [Bool.or_eq_true, decide_eq_true_eq]; exact List.le_total a b
  refine List.Perm.eq_of_pairwise (le := fun a b : List UInt8 => decide (a ≤ b) = true) (fun a b _ _ h1 h2 => ?_) (List.pairwise_mergeSort tr to ss) ?_ ((List.mergeSort_perm ss _).trans (h.trans ((sortL_perm ks).map convS).symm))
  · simp only [decide_eq_true_eq] at h1 h2
    exact List.le_antisymm h1 h2
  · refine List.pairwise_map.2 ((risesL_pair hp).imp_of_mem fun {a b} ha hb hlt => ?_)
    rw [decide_eq_true_eq]
    exact List.le_of_lt (convS_lt (hall a ((sortL_perm ks).mem_iff.1 ha)) (hall b ((sortL_perm ks).mem_iff.1 hb)) hlt)

theorem nodupS {ks : List (List Nat)} (hall : ∀ s ∈ ks, small s = true) (hp : risesL strLt (sortL strLt ks) = true) : (ks.map convS).Nodup := by
  refine (((sortL_perm (lt := strLt) ks).map convS).nodup_iff).1 (List.pairwise_map.2 ((risesL_pair hp).imp_of_mem fun {a b} ha hb hlt e => ?_))
  have := convS_lt (hall a ((sortL_perm ks).mem_iff.1 ha)) (hall b ((sortL_perm ks).mem_iff.1 hb)) hlt
  rw [e] at this
  exact List.lt_irrefl _ this

theorem concs_strs {π : Pi} : ∀ {l : List (List Nat)}, (∀ s ∈ l, small s = true) → concs π (l.map AV.str) = some ((l.map convS).map encStr)
  | [], _ => rfl
  | s :: l, h => concs_mk (conc_strS (h s (by simp))) (concs_strs fun x hx => h x (List.mem_cons_of_mem _ hx))
theorem flats_map {α : Type} {f : α → AV} (hf : ∀ x, (f x).flat = true) (l : List α) : AV.flats (l.map f) = true := by
  rw [flats_iff]
  intro v hv
  obtain ⟨x, _, rfl⟩ := List.mem_map.1 hv
  exact hf x

theorem sortedS_ok (L6 : SlLaysZ.n6 P ρ) (L10 : SlLaysZ.n10 P ρ') (hsort : ∀ m, AnyZ.SortsIn P ρ Fence.wide m) (e9 : ∀ args w, (callFunc (ρ.f 9) args).run P w = .ok (.enter (ρ.f 9) args) w)
    {args : List AV} {H H' : Heap} {v : AV} (h : sortedT keyS AV.str strLt (ρ'.f 10) args H = some (v, H')) : ∀ π w us n, Rel π H w → concs π args = some us → CallOk P n (ρ.f 6) us.toArray w (After π H w v H') := by
  intro π w us n hr hc
  obtain ⟨r, mo, rfl, hget, hrest⟩ := sortedT_inv h
  obtain ⟨Bm, mb, rfl, hBm, hcell, hmo⟩ := keysAt hr hget hc
  have eg := L10.f10.enters rfl
  cases mo with
  | none =>
    obtain ⟨rfl, rfl⟩ := hrest
    obtain rfl : mb = none := hmo
    have hseq := AnyZ.keys_gives_nil (ρ := ρ') L10 Fence.wide 5 trivial rfl Bm w hBm hcell
    refine .of_in n (L6.f6.enters rfl _ w) 8 ((AnyZ.sorted_in L6 Fence.wide 8 trivial trivial trivial trivial rfl (by omega) (hsort _) e9 (ρ'.f 10) _ trivial eg _ 0 (by omega) (by omega) w hseq).mono fun e w' h => ?_)
    obtain ⟨v, ss, rfl, hss, _, hnil, hb⟩ := h
    have hss : ss = [] := hss
    exact ⟨v, rfl, π, by rw [hnil.2 hss]; rfl, Post.below hr hb⟩
  | some m =>
    obtain ⟨es, c, ks, hm, hks, hbn, hrows⟩ := hrest
    obtain ⟨lm, hlm, rfl⟩ := hmo
    have hall := keysS_all hks
    have hall' : ∀ s ∈ ks, small s = true := fun s hs => (hall s hs).1
    have hshape : ks.length < 100000 ∧ (ks.map convS).Nodup := by
      rcases sortedRows_inv hrows with ⟨rfl, _⟩ | ⟨_, h1, h2, _⟩
      · exact ⟨by simp, by simp⟩
      · rw [(sortL_perm ks).length_eq] at h1
        exact ⟨h1, nodupS hall' h2⟩
    obtain ⟨D0, hown, hperm, hsize⟩ := ownS L10.t26 hr hm hlm hks hbn hshape.1 hshape.2
    have hseq := AnyZ.keys_gives (ρ := ρ') L10 Fence.wide 5 trivial rfl (by omega) Bm lm.block es.length D0 w hBm hcell hown
    refine .of_in n (L6.f6.enters rfl _ w) 8 ((AnyZ.sorted_in L6 Fence.wide 8 trivial trivial trivial trivial rfl (by omega) (hsort _) e9 (ρ'.f 10) _ trivial eg _ _ (by rw [hsize]; unfold maxLen; omega) (by rw [hsize]; omega) w hseq).mono fun e w' h => ?_)
    obtain ⟨v', ss, rfl, hss, hrow, hnil, hb⟩ := h
    have hss : ss.Perm (ks.map convS) := hss.trans hperm
    refine ⟨v', rfl, ?_⟩
    rcases sortedRows_inv hrows with ⟨rfl, rfl, rfl⟩ | ⟨h0, h1, h2, rfl, hN, hH⟩
    · have : ss = [] := by simpa using hss
      exact ⟨π, by rw [hnil.2 this]; rfl, Post.below hr hb⟩
    · rw [sort_unique hss hall' h2, show ss.length = ((sortL strLt ks).map AV.str).length by rw [hss.length_eq]; simp [(sortL_perm ks).length_eq]] at hrow
      have hne : v' ≠ .slice none 0 0 := fun e => h0 (by
        have := hnil.1 e
        rw [this] at hss
        simpa using hss.symm)
      have := sorted_after hr hb hrow hne (concs_strs fun s hs => hall' s ((sortL_perm ks).mem_iff.1 hs)) (flats_map (fun _ => rfl) _) hN hH
      rw [List.length_map] at this
      exact this

end
end Go.Ev
