/- slices.Sorted over maps.Keys, at ints. -/
import Derived.Test.YtglploknmdbigaaGreatDoorSn
import Derived.Test.YtglploknmdbigaaGreatDoorSk
import Derived.Shelf.SortM.Plain
import Derived.Shelf.SortM.SortNone
set_option linter.unusedSectionVars false
namespace Go.Ev
open Go.Proofs Go.Maps Go.Sort Go.Shelf Go.RowKit
section
variable [Sym]
variable {P : Program} {ρ ρ' : Ren}

def rangeI (n : Int) : Prop := -9223372036854775808 ≤ n ∧ n ≤ 9223372036854775807
theorem keyI_of {e : AV × AV × Nat} {n : Int} (h : keyI e = some n) : e.1 = .int .i64 n ∧ rangeI n := by
  unfold keyI at h
  split at h
  · rename_i m hs
    split at h
    · rename_i hb
      cases h
      simp only [Bool.and_eq_true, decide_eq_true_eq] at hb
      exact ⟨hs, hb⟩
    · cases h
  · cases h
theorem keyI_conc {π : Pi} {e : AV × AV × Nat} {n : Int} {u : Value} (h : keyI e = some n) (hu : conc π e.1 = some u) : u = encZ n := by
  rw [(keyI_of h).1] at hu
  cases hu; rfl
theorem keysI_all {es : List (AV × AV × Nat)} {ks : List Int} (h : mapO keyI es = some ks) : ∀ s ∈ ks, rangeI s := by
  intro s hs
  obtain ⟨i, hi⟩ := List.mem_iff_getElem?.1 hs
  obtain ⟨h1, h2⟩ := mapO_get h
  have hlt := (List.getElem?_eq_some_iff.1 hi).1
  obtain ⟨k, h3, h4⟩ := h2 i es[i] (List.getElem?_eq_getElem (by omega))
  rw [hi] at h3; cases h3
  exact (keyI_of h4).2

theorem ownI {π : Pi} {H : Heap} {w : World} {m : Nat} {lm : Loc} {es : List (AV × AV × Nat)} {c : Nat} {ks : List Int} {k : TypeId} (hk : P.underlying k = some (.int .i64)) (hr : Rel π H w) (hget : H.get m = some (.map es c)) (hm : π m = some lm) (hks : mapO keyI es = some ks) (hb : bornOk es c = true)
    (hlen : ks.length < 100000) (hnd : ks.Nodup) : ∃ D0 : DataW Unit, w.ownsMap P k (fun _ => some (.nil, [])) lm.block es.length D0 ∧ (intKeys D0).Perm ks ∧ Maps.size D0 = ks.length := by
  obtain ⟨ob, h1, h2⟩ := hr.obj m _ lm hget hm
  cases ob <;> simp only [ORel] at h2
  rename_i ms clock
  obtain ⟨h2, h2c⟩ := h2
  subst h2c
  obtain ⟨h3, h4⟩ := ents_keys (enc := encZ) (conv := id) (fun e k u h hu => keyI_conc h hu) h2 hks
  obtain ⟨h5, h6⟩ := bornOk_of hb
  have hall := keysI_all hks
  have hl1 : ms.toList.length = ks.length := by simpa using congrArg List.length h3
  have hl2 : ms.toList.length = es.length := by simpa using congrArg List.length h4
  have rdx : ∀ x ∈ ms.toList, ∃ s ∈ ks, x.key = encZ s ∧ WideElems.rd P k (fun _ => some ((.nil : DataW Unit), ([] : List MemPlace))) x = some (.int .i64 s, .nil) := by
    intro x hx
    have : x.key ∈ ms.toList.map (·.key) := List.mem_map.2 ⟨x, hx, rfl⟩
    rw [h3] at this
    obtain ⟨s, hs, hse⟩ := List.mem_map.1 this
    refine ⟨s, hs, hse.symm, ?_⟩
    have hwf : (Lit.int .i64 s).wf = true := by
      have := hall s hs
      simp only [Lit.wf, Bool.and_eq_true, decide_eq_true_eq]
      exact this
    have := WideElems.rd_mk (R := fun _ => some ((.nil : DataW Unit), ([] : List MemPlace))) (val := x.val) (born := x.born) (keyOf_int_mk hk hwf) rfl
    have hx' : x = ⟨.int .i64 s, x.val, x.born⟩ := by
      cases x; simp only [id] at hse; rw [← hse]
    rw [hx']
    rw [this]
  have rgm : ms.toList.map (fun x => Go.intOf (WideElems.rg P k (fun _ => some ((.nil : DataW Unit), ([] : List MemPlace))) x).1) = ks := by
    have e1 : ms.toList.map (fun x => encZ (Go.intOf (WideElems.rg P k (fun _ => some ((.nil : DataW Unit), ([] : List MemPlace))) x).1)) = ms.toList.map (·.key) := by
      refine List.map_congr_left fun x hx => ?_
      obtain ⟨s, _, h7, h8⟩ := rdx x hx
      rw [WideElems.rg_of h8, h7]; rfl
    rw [h3] at e1
    have inj : ∀ {a b : List Int}, a.map encZ = b.map encZ → a = b := by
      intro a
      induction a with
      | nil => intro b h; cases b with
        | nil => rfl
        | cons _ _ => simp at h
      | cons x a ih => intro b h; cases b with
        | nil => simp at h
        | cons y b =>
          simp only [List.map_cons, List.cons.injEq] at h
          rw [encZ_inj h.1, ih h.2]
    refine inj ?_
    rw [List.map_map]
    exact e1
  refine ⟨_, ⟨ms, c, h1, ⟨?_, ⟨fun x hx => ?_, ?_, ?_⟩, fun x hx => ?_⟩, ?_, rfl⟩, ?_, ?_⟩
  · have : ms.size = ms.toList.length := by simp
    rw [this, hl1]; unfold maxLen; omega
  · exact h5 _ (by rw [← h4]; exact List.mem_map.2 ⟨x, hx, rfl⟩)
  · rw [h4]; exact h6
  · rw [h3]
    exact List.pairwise_map.2 (List.Pairwise.imp (fun {a b} hne h => hne (encZ_inj h)) hnd)
  · obtain ⟨s, _, _, h8⟩ := rdx x hx
    exact ⟨_, h8⟩
  · have : ms.size = ms.toList.length := by simp
    rw [this, hl2]; exact Nat.le_refl _
  · show ((List.foldr DataW.insert [] _).map fun p => Go.intOf p.1).Perm _
    refine ((WideShapes.sorted_perm _).map _).trans ?_
    rw [List.map_map]
    exact .of_eq rgm
  · show (List.foldr DataW.insert [] _).length = _
    rw [(WideShapes.sorted_perm _).length_eq, List.length_map, hl1]

theorem intLt_iff {x y : Int} : intLt x y = true → x < y := by
  intro h
  rw [intLt_eq] at h
  simpa using h

theorem sort_uniqueI {ss ks : List Int} (h : ss.Perm ks) (hp : risesL intLt (sortL intLt ks) = true) : ss.mergeSort (fun x y => decide (x ≤ y)) = sortL intLt ks := by
  have tr : ∀ a b c : Int, decide (a ≤ b) = true → decide (b ≤ c) = true → decide (a ≤ c) = true := fun a b c h1 h2 => by simp only [decide_eq_true_eq] at *; exact Int.le_trans h1 h2
  have to : ∀ a b : Int, (decide (a ≤ b) || decide (b ≤ a)) = true := fun a b => by simp only [Bool.or_eq_true, decide_eq_true_eq]; exact Int.le_total a b
  refine List.Perm.eq_of_pairwise (le := fun a b : Int => decide (a ≤ b) = true) (fun a b _ _ h1 h2 => ?_) (List.pairwise_mergeSort tr to ss) ?_ ((List.mergeSort_perm ss _).trans (h.trans (sortL_perm ks).symm))
  · simp only [decide_eq_true_eq] at h1 h2
    exact Int.le_antisymm h1 h2
  · refine (risesL_pair hp).imp fun {a b} hlt => ?_
    rw [decide_eq_true_eq]
    exact Int.le_of_lt (intLt_iff hlt)
theorem nodupI {ks : List Int} (hp : risesL intLt (sortL intLt ks) = true) : ks.Nodup := by
  refine ((sortL_perm (lt := intLt) ks).nodup_iff).1 ((risesL_pair hp).imp fun {a b} hlt e => ?_)
  have := intLt_iff hlt
  omega
theorem concs_ints {π : Pi} : ∀ {l : List Int}, concs π (l.map (AV.int .i64)) = some (l.map encZ)
  | [] => rfl
  | _ :: l => concs_mk rfl (concs_ints (l := l))

theorem sortedI_ok (L6 : SlLaysZI.n6 P ρ) (L10 : SlLaysZI.n10 P ρ') (hsort : ∀ m, AnyZI.SortsIn P ρ Fence.wide m) (e9 : ∀ args w, (callFunc (ρ.f 9) args).run P w = .ok (.enter (ρ.f 9) args) w)
    {args : List AV} {H H' : Heap} {v : AV} (h : sortedT keyI (AV.int .i64) intLt (ρ'.f 10) args H = some (v, H')) : ∀ π w us n, Rel π H w → concs π args = some us → CallOk P n (ρ.f 6) us.toArray w (After π H w v H') := by
  intro π w us n hr hc
  obtain ⟨r, mo, rfl, hget, hrest⟩ := sortedT_inv h
  obtain ⟨Bm, mb, rfl, hBm, hcell, hmo⟩ := keysAt hr hget hc
  have eg := L10.f10.enters rfl
  cases mo with
  | none =>
    obtain ⟨rfl, rfl⟩ := hrest
    obtain rfl : mb = none := hmo
    have hseq := AnyZI.keys_gives_nil (ρ := ρ') L10 Fence.wide 5 trivial rfl Bm w hBm hcell
    refine .of_in n (L6.f6.enters rfl _ w) 8 ((AnyZI.sorted_in L6 Fence.wide 8 trivial trivial trivial trivial rfl (by omega) (hsort _) e9 (ρ'.f 10) _ trivial eg _ 0 (by omega) (by omega) w hseq).mono fun e w' h => ?_)
    obtain ⟨v, ss, rfl, hss, _, hnil, hb⟩ := h
    have hss : ss = [] := hss
    exact ⟨v, rfl, π, by rw [hnil.2 hss]; rfl, Post.below hr hb⟩
  | some m =>
    obtain ⟨es, c, ks, hm, hks, hbn, hrows⟩ := hrest
    obtain ⟨lm, hlm, rfl⟩ := hmo
    have hshape : ks.length < 100000 ∧ ks.Nodup := by
      rcases sortedRows_inv hrows with ⟨rfl, _⟩ | ⟨_, h1, h2, _⟩
      · exact ⟨by simp, by simp⟩
      · rw [(sortL_perm ks).length_eq] at h1
        exact ⟨h1, nodupI h2⟩
    obtain ⟨D0, hown, hperm, hsize⟩ := ownI L10.t26 hr hm hlm hks hbn hshape.1 hshape.2
    have hseq := AnyZI.keys_gives (ρ := ρ') L10 Fence.wide 5 trivial rfl (by omega) Bm lm.block es.length D0 w hBm hcell hown
    refine .of_in n (L6.f6.enters rfl _ w) 8 ((AnyZI.sorted_in L6 Fence.wide 8 trivial trivial trivial trivial rfl (by omega) (hsort _) e9 (ρ'.f 10) _ trivial eg _ _ (by rw [hsize]; unfold maxLen; omega) (by rw [hsize]; omega) w hseq).mono fun e w' h => ?_)
    obtain ⟨v', ss, rfl, hss, hrow, hnil, hb⟩ := h
    have hss : ss.Perm ks := hss.trans hperm
    refine ⟨v', rfl, ?_⟩
    rcases sortedRows_inv hrows with ⟨rfl, rfl, rfl⟩ | ⟨h0, h1, h2, rfl, hN, hH⟩
    · have : ss = [] := by simpa using hss
      exact ⟨π, by rw [hnil.2 this]; rfl, Post.below hr hb⟩
    · rw [sort_uniqueI hss h2, show ss.length = ((sortL intLt ks).map (AV.int .i64)).length by rw [hss.length_eq]; simp [(sortL_perm ks).length_eq]] at hrow
      have hne : v' ≠ .slice none 0 0 := fun e => h0 (by
        have := hnil.1 e
        rw [this] at hss
        simpa using hss.symm)
      have := sorted_after hr hb hrow hne concs_ints (flats_map (fun _ => rfl) _) hN hH
      rw [List.length_map] at this
      exact this

end
end Go.Ev

set_option linter.unusedSectionVars false
namespace Go.Ev
open Go.Proofs Go.Maps Go.Sort Go.Shelf Go.RowKit
section
variable [Sym]
variable {P : Program}

def noCountB (P : Program) : Bool := P.funcs.toList.all fun fn => !(fn.name == "runtime.NumGoroutine")
theorem noCount_of {P : Program} (h : noCountB P = true) : NoCount P := fun f fn hf => by
  simp only [noCountB, List.all_eq_true] at h
  have := h fn (Array.mem_toList_iff.2 (Array.mem_of_getElem? hf))
  simpa using this

theorem lookup_mem {β : Type} : ∀ {l : List (Nat × β)} {f : Nat} {x : β}, l.lookup f = some x → (f, x) ∈ l
  | [], _, _, h => by cases h
  | (g, y) :: l, f, x, h => by
    unfold List.lookup at h
    split at h
    · rename_i hb
      cases h
      have : f = g := by simpa using hb
      subst this; simp
    · exact List.mem_cons_of_mem _ (lookup_mem h)

def ExtAt (P : Program) (f : Nat) (x : Ext) : Prop := ∀ (R : Type) args H (k : AV → Heap → Option R) r, extK x args H k = some r → CallJ P f args H k r
theorem ExtAt.of {f : FuncId} {fn : Func} {x : Ext} {e : Array Value → Sem Value} (hs : ExtSem P x e) (hf : P.funcs[f]? = some fn) (hname : (fn.name == "runtime.NumGoroutine") = false) (hb : fn.body.isNone = true) (hn : Extern.findNext fn = none) (he : Extern.find fn = some e) : ExtAt P f x :=
  fun _ _ _ _ _ h => ext_call hs hf hname hb hn he h
def ExtsAt (P : Program) (l : List (Nat × Ext)) : Prop := ∀ p ∈ l, ExtAt P p.1 p.2
theorem ExtsAt.nil : ExtsAt P [] := fun _ h => by cases h
theorem ExtsAt.cons {f : Nat} {x : Ext} {l : List (Nat × Ext)} (h : ExtAt P f x) (hl : ExtsAt P l) : ExtsAt P ((f, x) :: l) := fun p hp => by
  rcases List.mem_cons.1 hp with rfl | hp
  · exact h
  · exact hl p hp
theorem ExtsAt.ok {l : List (Nat × Ext)} (h : ExtsAt P l) : ExtsOk P (fun f => l.lookup f) := fun f x hx => h (f, x) (lookup_mem hx)

abbrev Tab := List AV → Heap → Option (AV × Heap)
def TabAt (P : Program) (f : Nat) (g : Tab) : Prop := ∀ args H v H', g args H = some (v, H') → ∀ π w us n, Rel π H w → concs π args = some us → CallOk P n f us.toArray w (After π H w v H')
def TabsAt (P : Program) (l : List (Nat × Tab)) : Prop := ∀ p ∈ l, TabAt P p.1 p.2
theorem TabsAt.nil : TabsAt P [] := fun _ h => by cases h
theorem TabsAt.cons {f : Nat} {x : Tab} {l : List (Nat × Tab)} (h : TabAt P f x) (hl : TabsAt P l) : TabsAt P ((f, x) :: l) := fun p hp => by
  rcases List.mem_cons.1 hp with rfl | hp
  · exact h
  · exact hl p hp
theorem TabsAt.ok {l : List (Nat × Tab)} (h : TabsAt P l) : TableOk P (fun f => l.lookup f) := fun f x hx => h (f, x) (lookup_mem hx)
end
end Go.Ev
