/- Regions in the order of the text. -/
import Derived.Test.YtglploknmdbigaaGreatDoorSh
import Derived.TacticsIn
import Derived.RangeFuncLeaves
set_option linter.unusedSectionVars false
namespace Go.Ev
section
variable [Sym]
variable {P : Program} {R : Type}

def DefRel (π : Pi) : List ADef → List Deferred → Prop
  | [], [] => True
  | .collected r :: ds, d :: es => (∃ L, π r = some L ∧ d = ⟨.collected L.block, #[]⟩) ∧ DefRel π ds es
  | .call f args :: ds, d :: es => (∃ first cap, d = ⟨.fn (.func f) cap, first⟩ ∧ concs π args = some (first ++ cap).toList) ∧ DefRel π ds es
  | [], _ :: _ => False
  | _ :: _, [] => False
theorem DefRel.mono {π π' : Pi} (hp : π.le π') : ∀ {ds : List ADef} {es : List Deferred}, DefRel π ds es → DefRel π' ds es
  | [], [], _ => trivial
  | .collected r :: ds, d :: es, h => by
    obtain ⟨⟨L, h1, h2⟩, h3⟩ := h
    exact ⟨⟨L, hp _ _ h1, h2⟩, h3.mono hp⟩
  | .call f args :: ds, d :: es, h => by
    obtain ⟨⟨first, cap, h1, h2⟩, h3⟩ := h
    exact ⟨⟨first, cap, h1, concs_mono hp h2⟩, h3.mono hp⟩
  | [], _ :: _, h => h.elim
  | _ :: _, [], h => by cases ‹ADef› <;> exact h.elim

/-- Where an activation stands. -/
structure At (π : Pi) (t : Env) (d : List ADef) (H : Heap) (a : Act) (w : World) : Prop where
  rel : Rel π H w
  env : EnvRel π t a.tmps
  defs : DefRel π d a.defers

theorem EnvRel.put {π : Pi} {t t' : Env} {a : Act} {dst : Option Nat} {v : AV} {u : Value} (h : EnvRel π t a.tmps) (hl : ∀ i, dst = some i → ∃ u, look t i = some u) (ht : ∀ j, look t' j = if dst = some j then some v else look t j) (hu : conc π v = some u) : EnvRel π t' (a.put dst u).tmps := by
  intro i x hx
  rw [ht] at hx
  cases dst with
  | none => simp at hx; exact h i x hx
  | some j =>
    simp only [Act.put]
    by_cases e : j = i
    · subst e
      simp at hx
      subst hx
      obtain ⟨y, hy⟩ := hl j rfl
      obtain ⟨z, hz, _⟩ := h j y hy
      have hlt := (Array.getElem?_eq_some_iff.1 hz).1
      exact ⟨u, by simp [hlt], hu⟩
    · rw [if_neg (by simp; exact e)] at hx
      obtain ⟨z, hz, hc⟩ := h i x hx
      exact ⟨z, by rw [Array.getElem?_setIfInBounds, if_neg e]; exact hz, hc⟩
theorem At.put {π : Pi} {t t' : Env} {d : List ADef} {H : Heap} {a : Act} {w : World} {dst : Option Nat} {v : AV} {u : Value} (h : At π t d H a w) (hl : ∀ i, dst = some i → ∃ u, look t i = some u) (ht : ∀ j, look t' j = if dst = some j then some v else look t j) (hu : conc π v = some u) : At π t' d H (a.put dst u) w :=
  ⟨h.rel, h.env.put hl ht hu, by cases dst <;> exact h.defs⟩
theorem At.post {π π' : Pi} {t : Env} {d : List ADef} {H H' : Heap} {a : Act} {w w' : World} (h : At π t d H a w) (hp : Post π H w π' H' w') : At π' t d H' a w' := ⟨hp.rel, h.env.mono hp.ext, h.defs.mono hp.ext⟩

/-- What the jobs of the rest owe. -/
structure IhOk (P : Program) (ih : Ih R) : Prop where
  call : ∀ f args H k r, ih (.call f args H k) = some r → CallJ P f args H k r
  round : ∀ l args H k r, ih (.round l args H k) = some r → RoundJ P l args H k r

/-- Operations and what they come to. -/
def OpsOk (P : Program) (ops : Array Oper) (ih : Ih R) (c : OpsC R) (l : List Oper) : Prop := ∀ ro t d H k r, runO c ih ro t d H k = some r → ∃ t' d' H', k t' d' H' = some r ∧
  ∀ F n π w a Q, FOk F π ro → At π t d H a w → (∀ π' a' w', At π' t' d' H' a' w' → Post π H w π' H' w' → Q .normal a' w') → wpListIn F n P ops Q l a w

theorem oNone_ok {ops : Array Oper} {ih : Ih R} {l : List Oper} : OpsOk P ops ih ⟨oNone⟩ l := fun _ _ _ _ _ _ h => by cases h

theorem mkO_ok {ops : Array Oper} {ih : Ih R} {o : Oper} {rest : OpsC R} {l : List Oper} (hih : IhOk P ih) (hrest : OpsOk P ops ih rest l) :
    ∀ ro t d H k r, runO (mkO (opC P o.op) o.dst rest) ih ro t d H k = some r → ∃ t' d' H', k t' d' H' = some r ∧
      ∀ F n π w a Q, FOk F π ro → At π t d H a w → (∀ π' a' w', At π' t' d' H' a' w' → Post π H w π' H' w' → Q .normal a' w') → o.wpIn F n P a w (wpListIn F n P ops Q l) Q := by
  intro ro t d H k r h
  -- what follows an operation
  have tail : ∀ {t1 : Env} {d1 : List ADef} {H1 : Heap}, runO rest ih ro t1 d1 H1 k = some r → ∃ t' d' H', k t' d' H' = some r ∧ ∀ F n π π1 w w1 a1 Q, FOk F π ro → At π1 t1 d1 H1 a1 w1 → Post π H w π1 H1 w1 →
      (∀ π' a' w', At π' t' d' H' a' w' → Post π H w π' H' w' → Q .normal a' w') → wpListIn F n P ops Q l a1 w1 := by
    intro t1 d1 H1 h1
    obtain ⟨t', d', H', h2, h3⟩ := hrest ro t1 d1 H1 k r h1
    refine ⟨t', d', H', h2, fun F n π π1 w w1 a1 Q hF hat hp hQ => h3 F n π1 w1 a1 Q (hF.mono hp.ext) hat fun π' a' w' h4 h5 => hQ π' a' w' h4 (hp.trans h5)⟩
  have nodefer : ∀ {x}, opC (R := R) P o.op = x → (∀ f, x ≠ .defer f) → x ≠ .bad → ∀ c, o.op ≠ .defer c := by
    intro x hx hd hb c hc
    rw [hc] at hx
    simp only [opC, quietF, allocF, writeF, callF] at hx
    split at hx
    · exact hd _ hx.symm
    · exact hb hx.symm
  cases hop : opC (R := R) P o.op with
  | quiet f =>
    have hnd := nodefer hop (by simp) (by simp)
    rw [hop] at h
    have hs : QSound P o f := by
      unfold opC at hop
      split at hop
      · rename_i g hg; cases hop; exact quietF_sound hg
      · split at hop
        · cases hop
        · split at hop
          · cases hop
          · split at hop
            · cases hop
            · split at hop <;> cases hop
    obtain ⟨v, h1, h2⟩ := hs t H _ r (show f t H (fun v => putE t o.dst v fun t' => runO rest ih ro t' d H k) = some r from h)
    obtain ⟨t1, h3, h4, h5⟩ := putE_inv h1
    obtain ⟨t', d', H', h6, h7⟩ := tail h3
    refine ⟨t', d', H', h6, fun F n π w a Q hF hat hQ => ?_⟩
    obtain ⟨u, h8, h9⟩ := h2 π w a hat.rel (fun x _ => hat.env.at_ x)
    exact wp_of_exec hF hnd h9 rfl (h7 F n π π w w _ Q hF (hat.put h4 h5 h8) (Post.refl hat.rel) hQ)
  | alloc f =>
    have hnd := nodefer hop (by simp) (by simp)
    rw [hop] at h
    have hs : ASound P o f := by
      unfold opC at hop
      split at hop
      · cases hop
      · split at hop
        · rename_i g hg; cases hop; exact allocF_sound hg
        · split at hop
          · cases hop
          · split at hop
            · cases hop
            · split at hop <;> cases hop
    obtain ⟨ob, g, h1, h2⟩ := hs t _ r (show f t (fun o' g => newH H o' fun r H' => putE t o.dst (g r) fun t' => runO rest ih ro t' d H' k) = some r from h)
    obtain ⟨H1, h3, hN, hH⟩ := newH_inv h1
    obtain ⟨t1, h4, h5, h6⟩ := putE_inv h3
    obtain ⟨t', d', H', h7, h8⟩ := tail h4
    refine ⟨t', d', H', h7, fun F n π w a Q hF hat hQ => ?_⟩
    obtain ⟨obj, L, u, h9, h10, h11, h12⟩ := h2 π w a (fun x _ => hat.env.at_ x)
    obtain ⟨π1, h13, h14⟩ := Post.newRegion0 hat.rel rfl hN hH h9 h11
    exact wp_of_exec hF hnd h10 rfl (h8 F n π π1 w _ _ Q hF ((hat.post h14).put h5 h6 (h12 _ _ h13)) h14 hQ)
  | write f =>
    have hnd := nodefer hop (by simp) (by simp)
    rw [hop] at h
    have hs : WSound P o f := by
      unfold opC at hop
      split at hop
      · cases hop
      · split at hop
        · cases hop
        · split at hop
          · rename_i g hg; cases hop; exact writeF_sound hg
          · split at hop
            · cases hop
            · split at hop <;> cases hop
    obtain ⟨v, H1, h1, h2⟩ := hs t H _ r (show f t H (fun v H' => putE t o.dst v fun t' => runO rest ih ro t' d H' k) = some r from h)
    obtain ⟨t1, h3, h4, h5⟩ := putE_inv h1
    obtain ⟨t', d', H', h6, h7⟩ := tail h3
    refine ⟨t', d', H', h6, fun F n π w a Q hF hat hQ => ?_⟩
    obtain ⟨π1, w1, nx, u, h8, h9, h10, h11⟩ := h2 π w a hat.rel (fun x _ => hat.env.at_ x)
    exact wp_of_exec hF hnd h8 h9 (h7 F n π π1 w w1 _ Q hF ((hat.post h11).put h4 h5 h10) h11 hQ)
  | call f =>
    have hnd := nodefer hop (by simp) (by simp)
    rw [hop] at h
    have hs : CSound P o f := by
      unfold opC at hop
      split at hop
      · cases hop
      · split at hop
        · cases hop
        · split at hop
          · cases hop
          · split at hop
            · rename_i g hg; cases hop; exact callF_sound hg
            · split at hop <;> cases hop
    obtain ⟨g, h1, h2⟩ := hs t _ r (show f t (fun g => goK ih g H fun v H' => putE t o.dst v fun t' => runO rest ih ro t' d H' k) = some r from h)
    cases g with
    | fn fi args =>
      obtain ⟨v, H1, h3, h4⟩ := hih.call _ _ _ _ _ (show ih (.call fi args H fun v H' => putE t o.dst v fun t' => runO rest ih ro t' d H' k) = some r from h1)
      obtain ⟨t1, h5, h6, h7⟩ := putE_inv h3
      obtain ⟨t', d', H', h8, h9⟩ := tail h5
      refine ⟨t', d', H', h8, fun F n π w a Q hF hat hQ => ?_⟩
      exact wp_of_goal (H := H) (H' := H1) (v := v) hF hnd hat.rel (h2 π w a fun x _ => hat.env.at_ x)
        (fun u w' ⟨π1, h10, h11⟩ => h9 F n π π1 w w' _ Q hF ((hat.post h11).put h6 h7 h10) h11 hQ) h4
    | round l' args =>
      obtain ⟨v, H1, h3, h4⟩ := hih.round _ _ _ _ _ (show ih (.round l' args H fun v H' => putE t o.dst v fun t' => runO rest ih ro t' d H' k) = some r from h1)
      obtain ⟨t1, h5, h6, h7⟩ := putE_inv h3
      obtain ⟨t', d', H', h8, h9⟩ := tail h5
      refine ⟨t', d', H', h8, fun F n π w a Q hF hat hQ => ?_⟩
      exact wp_of_goal (H := H) (H' := H1) (v := v) hF hnd hat.rel (h2 π w a fun x _ => hat.env.at_ x)
        (fun u w' ⟨π1, h10, h11⟩ => h9 F n π π1 w w' _ Q hF ((hat.post h11).put h6 h7 h10) h11 hQ) h4
  | defer f =>
    rw [hop] at h
    have hs : ∃ c x, o.op = .defer c ∧ c.callee = .value x ∧ f = cValue x c.args.toList := by
      unfold opC at hop
      split at hop
      · cases hop
      · split at hop
        · cases hop
        · split at hop
          · cases hop
          · split at hop
            · cases hop
            · split at hop
              · rename_i ho; cases hop; exact ⟨_, _, ho, rfl, rfl⟩
              · cases hop
    obtain ⟨c, x, ho, hc, rfl⟩ := hs
    cases ro with
    | some _ => cases h
    | none =>
      obtain ⟨v, h1, h2⟩ := opK_inv (x := x) (show opK x t (fun v => opsK c.args.toList t fun vs => fnK v vs fun g => pushK g d fun d' => putE t o.dst .undef fun t' => runO rest ih none t' d' H k) = some r from h)
      obtain ⟨vs, h3, h4⟩ := opsK_inv h1
      obtain ⟨g, h5, h6⟩ := fnK_inv h3
      cases g with
      | round _ _ => cases h5
      | fn fi args =>
        obtain ⟨t1, h7, h8, h9⟩ := putE_inv (show putE t o.dst .undef (fun t' => runO rest ih none t' (.call fi args :: d) H k) = some r from h5)
        obtain ⟨t', d', H', h10, h11⟩ := tail h7
        refine ⟨t', d', H', h10, fun F n π w a Q hF hat hQ => ?_⟩
        obtain ⟨dd, h12, first, cap, h13, h14⟩ := h6 π _ _ (h2 π a (hat.env.at_ x)) (h4 π a fun y _ => hat.env.at_ y)
        have hFr : F = Fence.wide := hF
        subst hFr
        refine ⟨fun f _ => trivial, ?_⟩
        have e : c.args.map a.eval = (c.args.toList.map a.eval).toArray := map_mk _ _
        have hex : (o.semAt Fence.wide.round a.eval).run P w = .ok (.defer dd) w := by
          show (execOp a.eval o).run P w = _
          simp only [execOp, ho, resolve, hc, e, h12, Sem.run_bind, Sem.run_pure, Result.andThen_ok]
        rw [hex]
        have hat' : At π t (.call fi args :: d) H { a with defers := dd :: a.defers } w := ⟨hat.rel, hat.env, ⟨first, cap, h13, h14⟩, hat.defs⟩
        exact h11 Fence.wide n π π w w _ Q hF (hat'.put h8 h9 rfl) (Post.refl hat.rel) hQ
  | bad => rw [hop] at h; cases h

theorem nthL_some {α : Type} {l : List α} {i : Nat} {x : α} (h : nthL l i = some x) : l[i]? = some x := by rw [nthL_eq] at h; exact h

def boolOf (u : Value) : Option Bool := match u with | .bool b => some b | _ => none
theorem yielded_of {ops : Array Oper} {tmps : Array Value} {j g : Nat} {o : Oper} {u : Value} (ho : ops[j]? = some o) (hd : o.dst = some g) (hu : tmps[g]? = some u) : yielded ops tmps j = boolOf u := by
  unfold yielded boolOf
  rw [ho]
  simp only [Option.bind_some, hd, hu]
  cases u <;> rfl
theorem boolOf_none {u : Value} (h : ∀ b, u ≠ .bool b) : boolOf u = none := by cases u <;> first | rfl | exact absurd rfl (h _)
/-- A guard, held against what stands in the frame. -/
theorem wanted_of {π : Pi} {t : Env} {a : Act} {ops : Array Oper} {o : Oper} {j g : Nat} {want : Bool} {v : AV} (hg : o.guard = some (j, want)) (hj : guardT ops.toList j = some g) (he : EnvRel π t a.tmps) (hv : look t g = some v) :
    Region.wanted o (yielded ops a.tmps) = wantB want v := by
  unfold guardT at hj
  split at hj
  · rename_i o' ho'
    have ho' := nthL_some ho'
    rw [Array.getElem?_toList] at ho'
    obtain ⟨u, h1, h2⟩ := he g v hv
    unfold Region.wanted
    rw [hg]
    simp only [yielded_of ho' hj h1]
    cases v
    case bool b =>
      cases h2
      cases b <;> cases want <;> rfl
    all_goals
      have hnb : ∀ b, u ≠ .bool b := by
        intro b hb
        subst hb
        unfold conc at h2
        repeat' split at h2
        all_goals first
          | (cases h2; done)
          | exact Sym.notb _ _ (Option.some.inj h2)
      rw [boolOf_none hnb]
      rfl
  · cases hj

theorem opsC_ok {ops : Array Oper} {ih : Ih R} (hih : IhOk P ih) : ∀ l : List Oper, OpsOk P ops ih (opsC P ops.toList l) l
  | [] => fun ro t d H k r h => ⟨t, d, H, h, fun F n π w a Q _ hat hQ => hQ π a w hat (Post.refl hat.rel)⟩
  | o :: rest => by
    have hrest := opsC_ok (ops := ops) hih rest
    intro ro t d H k r h
    unfold opsC at h
    cases hg : o.guard with
    | none =>
      rw [hg] at h
      obtain ⟨t', d', H', h1, h2⟩ := mkO_ok hih hrest ro t d H k r h
      refine ⟨t', d', H', h1, fun F n π w a Q hF hat hQ => ?_⟩
      simp only [wpListIn, Region.wanted, hg, if_true]
      exact h2 F n π w a Q hF hat hQ
    | some p =>
      obtain ⟨j, want⟩ := p
      rw [hg] at h
      simp only at h
      split at h
      · rename_i g hj
        have h : getE t g (fun v => Bool.casesOn (wantB want v) (putE t o.dst .undef fun t' => runO (opsC P ops.toList rest) ih ro t' d H k) (runO (mkO (opC P o.op) o.dst (opsC P ops.toList rest)) ih ro t d H k)) = some r := h
        rw [getE_eq] at h
        cases hv : look t g with
        | none => rw [hv] at h; cases h
        | some v =>
          rw [hv] at h
          rcases bcase_true (show (Bool.casesOn (wantB want v) (putE t o.dst .undef fun t' => runO (opsC P ops.toList rest) ih ro t' d H k) (runO (mkO (opC P o.op) o.dst (opsC P ops.toList rest)) ih ro t d H k) : Option R) = some r from h) with ⟨hb, h⟩ | ⟨hb, h⟩
          · obtain ⟨t1, h1, h2, h3⟩ := putE_inv h
            obtain ⟨t', d', H', h4, h5⟩ := hrest ro t1 d H k r h1
            refine ⟨t', d', H', h4, fun F n π w a Q hF hat hQ => ?_⟩
            have hw := wanted_of hg hj hat.env hv
            simp only [wpListIn, hw, hb, Bool.false_eq_true, if_false]
            exact ⟨fun f _ => hF.fn f, h5 F n π w _ Q hF (hat.put h2 h3 rfl) hQ⟩
          · obtain ⟨t', d', H', h1, h2⟩ := mkO_ok hih hrest ro t d H k r h
            refine ⟨t', d', H', h1, fun F n π w a Q hF hat hQ => ?_⟩
            have hw := wanted_of hg hj hat.env hv
            simp only [wpListIn, hw, hb, if_true]
            exact h2 F n π w a Q hF hat hQ
      · cases h

end
end Go.Ev

set_option linter.unusedSectionVars false
namespace Go.Ev
section
variable [Sym]
variable {F : Fence} {n : Nat} {P : Program} {Q : Exit → Act → World → Prop} {a : Act} {w : World} {b : Frame} {k : List Item} {cs : List Frame}

/-- Within a loop, at a round's start. -/
def LoopsIn (F : Fence) (n : Nat) (P : Program) (c : Code) (Q : Exit → Act → World → Prop) (a : Act) (w : World) : Prop :=
  ∀ (b : Frame) (k : List Item) (cs : List Frame), b.roundOf = F.round → F.fn b.fn → F.room (cs.length + 1 + n) →
    ∃ e a' w', Q e a' w' ∧ ArrivesIn (Machine.fenced P F) P (lone (b.atR a (.code c :: .inLoop c :: k)) cs w) b k cs e a' w'
theorem LoopsIn.loop {c : Code} (h : LoopsIn F n P c Q a w) : (Code.loop c).wpIn F n P Q a w := by
  intro b k cs hro hb hr
  obtain ⟨e, a', w', hq, harr⟩ := h b k cs hro hb hr
  exact ⟨e, a', w', hq, .of_steps (.one (fenced_calm hb hr rfl) stepR_loop) harr⟩
theorem LoopsIn.round {c : Code} (h : c.wpIn F n P (Exit.then (LoopsIn F n P c Q) Q) a w) : LoopsIn F n P c Q a w := by
  intro b k cs hro hb hr
  obtain ⟨e, a₁, w₁, hq, harr⟩ := h b (.inLoop c :: k) cs hro hb hr
  cases e with
  | normal =>
    obtain ⟨e₂, a₂, w₂, hq₂, harr₂⟩ := hq b k cs hro hb hr
    exact ⟨e₂, a₂, w₂, hq₂, .of_steps (StepsIn.trans harr (.one (fenced_calm hb hr rfl) stepR_inLoop)) harr₂⟩
  | exit id => exact ⟨_, a₁, w₁, hq, .pass (x := .inLoop c) rfl (fun _ _ => .inl (by simp)) harr⟩
  | goto l => exact ⟨_, a₁, w₁, hq, .pass (x := .inLoop c) rfl (fun _ _ => .inl (by simp)) harr⟩
  | ret => exact ⟨_, a₁, w₁, hq, .pass (x := .inLoop c) rfl (fun _ _ => .inl (by simp)) harr⟩
  | panic ch => exact ⟨_, a₁, w₁, hq, .pass (x := .inLoop c) rfl (fun _ _ => .inl (by simp)) harr⟩
  | outgrown => exact ⟨_, a₁, w₁, hq, .pass (x := .inLoop c) rfl (fun _ _ => .inl (by simp)) harr⟩

theorem stepR_scope {c : Code} : step P (lone (b.atR a (.code (.scope c) :: k)) cs w) = .next (lone (b.atR a (.code c :: .inScope c :: k)) cs w) :=
  step_lone_go (by simp [stepG, stepG.exec, Frame.atR])
theorem stepR_inScope {c : Code} : step P (lone (b.atR a (.inScope c :: k)) cs w) = .next (lone (b.atR a k) cs w) :=
  step_lone_go (by simp [stepG, stepG.exec, Frame.atR])

/-- Within a scope, 'rest' ahead. -/
def ScopesIn (F : Fence) (n : Nat) (P : Program) (c rest : Code) (Q : Exit → Act → World → Prop) (a : Act) (w : World) : Prop :=
  ∀ (b : Frame) (k : List Item) (cs : List Frame), b.roundOf = F.round → F.fn b.fn → F.room (cs.length + 1 + n) →
    ∃ e a' w', Q e a' w' ∧ ArrivesIn (Machine.fenced P F) P (lone (b.atR a (.code rest :: .inScope c :: k)) cs w) b k cs e a' w'
def Exit.inScope (c : Code) (J : Code → Act → World → Prop) (Q : Exit → Act → World → Prop) : Exit → Act → World → Prop
  | .goto l, a, w => match findLabel c l with | some rest => J rest a w | none => Q (.goto l) a w
  | e, a, w => Q e a w
theorem ScopesIn.scope {c : Code} (h : ScopesIn F n P c c Q a w) : (Code.scope c).wpIn F n P Q a w := by
  intro b k cs hro hb hr
  obtain ⟨e, a', w', hq, harr⟩ := h b k cs hro hb hr
  exact ⟨e, a', w', hq, .of_steps (.one (fenced_calm hb hr rfl) stepR_scope) harr⟩
theorem ScopesIn.pass {c rest : Code} (h : rest.wpIn F n P (Exit.inScope c (fun rest' => ScopesIn F n P c rest' Q) Q) a w) : ScopesIn F n P c rest Q a w := by
  intro b k cs hro hb hr
  obtain ⟨e, a₁, w₁, hq, harr⟩ := h b (.inScope c :: k) cs hro hb hr
  cases e with
  | normal => exact ⟨.normal, a₁, w₁, hq, StepsIn.trans harr (.one (fenced_calm hb hr rfl) stepR_inScope)⟩
  | exit id =>
    have hx : exitTo id (.inScope c :: k) = exitTo id k := by simp [exitTo]
    exact ⟨_, a₁, w₁, hq, fun k' hk => harr.1 k' (by rw [hx]; exact hk), fun hr' hk => harr.2 hr' (by rw [hx]; exact hk)⟩
  | goto l =>
    cases hf : findLabel c l with
    | some rest' =>
      have hg : gotoIn l (.inScope c :: k) = some (.code rest' :: .inScope c :: k) := by simp [gotoIn, hf]
      have hq' : ScopesIn F n P c rest' Q a₁ w₁ := by
        simp only [Exit.inScope, hf] at hq; exact hq
      obtain ⟨e₂, a₂, w₂, hq₂, harr₂⟩ := hq' b k cs hro hb hr
      exact ⟨e₂, a₂, w₂, hq₂, .of_steps (harr.1 _ hg) harr₂⟩
    | none =>
      have hg : gotoIn l (.inScope c :: k) = gotoIn l k := by simp [gotoIn, hf]
      have hq' : Q (.goto l) a₁ w₁ := by simp only [Exit.inScope, hf] at hq; exact hq
      exact ⟨_, a₁, w₁, hq', fun k' hk => harr.1 k' (by rw [hg]; exact hk), fun hr' hk => harr.2 hr' (by rw [hg]; exact hk)⟩
  | ret => exact ⟨_, a₁, w₁, hq, harr⟩
  | panic ch => exact ⟨_, a₁, w₁, hq, harr⟩
  | outgrown => exact ⟨_, a₁, w₁, hq, harr⟩

end
end Go.Ev

set_option linter.unusedSectionVars false
namespace Go.Ev
section
variable [Sym]
variable {P : Program} {R : Type}

def toX : AExit → Exit
  | .normal => .normal
  | .exit id => .exit id
  | .goto l => .goto l
  | .ret => .ret

/-- What a walk of code owes: 'W' says how it is walked. -/
def Walks (ro : Option Nat) (t : Env) (d : List ADef) (H : Heap) (k : KX R) (r : R) (W : Fence → Nat → (Exit → Act → World → Prop) → Act → World → Prop) : Prop := ∃ e t' d' H', k e t' d' H' = some r ∧
  ∀ F n π w a Q, FOk F π ro → At π t d H a w → (∀ π' a' w', At π' t' d' H' a' w' → Post π H w π' H' w' → Q (toX e) a' w') → W F n Q a w
/-- What the jobs of the rest owe. -/
structure IhAll (P : Program) (ih : Ih R) : Prop where
  ops : IhOk P ih
  loop : ∀ ro c t d H k r, ih (.loop ro c t d H k) = some r → Walks ro t d H k r fun F n Q a w => LoopsIn F n P c Q a w
  scope : ∀ ro c rest t d H k r, ih (.scope ro c rest t d H k) = some r → Walks ro t d H k r fun F n Q a w => ScopesIn F n P c rest Q a w

def CodeOk (P : Program) (ih : Ih R) (x : CodeC R) (c : Code) : Prop := ∀ ro t d H k r, runC x ih ro t d H k = some r → Walks ro t d H k r fun F n Q a w => c.wpIn F n P Q a w
/-- What is owed for the regions that draw. -/
def DrawsOk (P : Program) (ih : Ih R) : Prop := ∀ id ops ro t d H k r, runO (regionC P ops true) ih ro t d H k = some r → ∃ t' d' H', k t' d' H' = some r ∧
  ∀ F n π w a Q, FOk F π ro → At π t d H a w → (∀ π' a' w', At π' t' d' H' a' w' → Post π H w π' H' w' → Q .normal a' w') → (Code.region id ops true).wpIn F n P Q a w

theorem xSeq_ok {ih : Ih R} {x y : CodeC R} {c e : Code} (hx : CodeOk P ih x c) (hy : CodeOk P ih y e) : CodeOk P ih ⟨xSeq x y⟩ (.seq c e) := by
  intro ro t d H k r h
  obtain ⟨e1, t1, d1, H1, h1, h2⟩ := hx ro t d H _ r (show runC x ih ro t d H (seqK ih ro y k) = some r from h)
  cases e1
  case normal =>
    obtain ⟨e2, t2, d2, H2, h3, h4⟩ := hy ro t1 d1 H1 k r h1
    refine ⟨e2, t2, d2, H2, h3, fun F n π w a Q hF hat hQ => wpIn_seq ?_⟩
    refine h2 F n π w a _ hF hat fun π' a' w' hat' hp => ?_
    exact h4 F n π' w' a' Q (hF.mono hp.ext) hat' fun π'' a'' w'' hat'' hp' => hQ π'' a'' w'' hat'' (hp.trans hp')
  case exit id =>
    refine ⟨.exit id, t1, d1, H1, h1, fun F n π w a Q hF hat hQ => wpIn_seq ?_⟩
    exact h2 F n π w a _ hF hat hQ
  case goto l =>
    refine ⟨.goto l, t1, d1, H1, h1, fun F n π w a Q hF hat hQ => wpIn_seq ?_⟩
    exact h2 F n π w a _ hF hat hQ
  case ret =>
    refine ⟨.ret, t1, d1, H1, h1, fun F n π w a Q hF hat hQ => wpIn_seq ?_⟩
    exact h2 F n π w a _ hF hat hQ

theorem xCond_ok {ih : Ih R} {x y : CodeC R} {o : Operand} {c e : Code} (hx : CodeOk P ih x c) (hy : CodeOk P ih y e) : CodeOk P ih ⟨xCond o x y⟩ (.cond o c e) := by
  intro ro t d H k r h
  obtain ⟨v, h1, h2⟩ := opK_inv (x := o) (show opK o t (fun v => boolK v fun b => Bool.casesOn b (runC y ih ro t d H k) (runC x ih ro t d H k)) = some r from h)
  obtain ⟨b, rfl, h3⟩ := boolK_inv h1
  have hc : ∀ {π : Pi} {a : Act} {w : World}, At π t d H a w → a.eval o = .bool b := fun hat => conc_bool (h2 _ _ (hat.env.at_ o))
  rcases bcase_true h3 with ⟨rfl, h4⟩ | ⟨rfl, h4⟩
  · obtain ⟨e2, t2, d2, H2, h5, h6⟩ := hy ro t d H k r h4
    exact ⟨e2, t2, d2, H2, h5, fun F n π w a Q hF hat hQ => wpIn_cond_false (hc hat) (h6 F n π w a Q hF hat hQ)⟩
  · obtain ⟨e2, t2, d2, H2, h5, h6⟩ := hx ro t d H k r h4
    exact ⟨e2, t2, d2, H2, h5, fun F n π w a Q hF hat hQ => wpIn_cond_true (hc hat) (h6 F n π w a Q hF hat hQ)⟩

theorem xBlock_ok {ih : Ih R} {x : CodeC R} {id : Nat} {c : Code} (hx : CodeOk P ih x c) : CodeOk P ih ⟨xBlock id x⟩ (.block id c) := by
  intro ro t d H k r h
  obtain ⟨e1, t1, d1, H1, h1, h2⟩ := hx ro t d H _ r (show runC x ih ro t d H (blockK id k) = some r from h)
  cases e1
  case exit i =>
    rcases bcase_true (show (Bool.casesOn (Nat.beq i id) (k (.exit i) t1 d1 H1) (k .normal t1 d1 H1) : Option R) = some r from h1) with ⟨hb, h3⟩ | ⟨hb, h3⟩
    · refine ⟨.exit i, t1, d1, H1, h3, fun F n π w a Q hF hat hQ => wpIn_block (h2 F n π w a _ hF hat fun π' a' w' hat' hp => ?_)⟩
      show (if i = id then Q .normal a' w' else Q (.exit i) a' w')
      rw [if_neg (Nat.ne_of_beq_eq_false hb)]
      exact hQ π' a' w' hat' hp
    · refine ⟨.normal, t1, d1, H1, h3, fun F n π w a Q hF hat hQ => wpIn_block (h2 F n π w a _ hF hat fun π' a' w' hat' hp => ?_)⟩
      show (if i = id then Q .normal a' w' else Q (.exit i) a' w')
      rw [if_pos (Nat.eq_of_beq_eq_true hb)]
      exact hQ π' a' w' hat' hp
  case normal => exact ⟨.normal, t1, d1, H1, h1, fun F n π w a Q hF hat hQ => wpIn_block (h2 F n π w a _ hF hat hQ)⟩
  case goto l => exact ⟨.goto l, t1, d1, H1, h1, fun F n π w a Q hF hat hQ => wpIn_block (h2 F n π w a _ hF hat hQ)⟩
  case ret => exact ⟨.ret, t1, d1, H1, h1, fun F n π w a Q hF hat hQ => wpIn_block (h2 F n π w a _ hF hat hQ)⟩

/-! ### the jobs of a loop, of a scope -/
theorem loopStep_ok {ih : Ih R} {x : CodeC R} {c : Code} (hih : IhAll P ih) (hx : CodeOk P ih x c) {ro t d H k r} (h : runC x ih ro t d H (loopK ih ro c k) = some r) : Walks ro t d H k r fun F n Q a w => LoopsIn F n P c Q a w := by
  obtain ⟨e1, t1, d1, H1, h1, h2⟩ := hx ro t d H _ r h
  cases e1
  case normal =>
    obtain ⟨e2, t2, d2, H2, h3, h4⟩ := hih.loop ro c t1 d1 H1 k r h1
    refine ⟨e2, t2, d2, H2, h3, fun F n π w a Q hF hat hQ => LoopsIn.round (h2 F n π w a _ hF hat fun π' a' w' hat' hp => ?_)⟩
    exact h4 F n π' w' a' Q (hF.mono hp.ext) hat' fun π'' a'' w'' hat'' hp' => hQ π'' a'' w'' hat'' (hp.trans hp')
  case exit id => exact ⟨.exit id, t1, d1, H1, h1, fun F n π w a Q hF hat hQ => LoopsIn.round (h2 F n π w a _ hF hat hQ)⟩
  case goto l => exact ⟨.goto l, t1, d1, H1, h1, fun F n π w a Q hF hat hQ => LoopsIn.round (h2 F n π w a _ hF hat hQ)⟩
  case ret => exact ⟨.ret, t1, d1, H1, h1, fun F n π w a Q hF hat hQ => LoopsIn.round (h2 F n π w a _ hF hat hQ)⟩

theorem scopeStep_ok {ih : Ih R} {x : CodeC R} {c rest : Code} (hih : IhAll P ih) (hx : CodeOk P ih x rest) {ro t d H k r} (h : runC x ih ro t d H (scopeK ih ro c k) = some r) : Walks ro t d H k r fun F n Q a w => ScopesIn F n P c rest Q a w := by
  obtain ⟨e1, t1, d1, H1, h1, h2⟩ := hx ro t d H _ r h
  cases e1
  case goto l =>
    replace h1 : (Option.casesOn (findLabel c l) (k (.goto l) t1 d1 H1) fun rest => ih (.scope ro c rest t1 d1 H1 k) : Option R) = some r := h1
    cases hf : findLabel c l with
    | none =>
      rw [hf] at h1
      refine ⟨.goto l, t1, d1, H1, h1, fun F n π w a Q hF hat hQ => ScopesIn.pass (h2 F n π w a _ hF hat fun π' a' w' hat' hp => ?_)⟩
      show (match findLabel c l with | some rest => ScopesIn F n P c rest Q a' w' | none => Q (.goto l) a' w')
      rw [hf]
      exact hQ π' a' w' hat' hp
    | some rest' =>
      rw [hf] at h1
      obtain ⟨e2, t2, d2, H2, h3, h4⟩ := hih.scope ro c rest' t1 d1 H1 k r h1
      refine ⟨e2, t2, d2, H2, h3, fun F n π w a Q hF hat hQ => ScopesIn.pass (h2 F n π w a _ hF hat fun π' a' w' hat' hp => ?_)⟩
      show (match findLabel c l with | some rest => ScopesIn F n P c rest Q a' w' | none => Q (.goto l) a' w')
      rw [hf]
      exact h4 F n π' w' a' Q (hF.mono hp.ext) hat' fun π'' a'' w'' hat'' hp' => hQ π'' a'' w'' hat'' (hp.trans hp')
  case normal => exact ⟨.normal, t1, d1, H1, h1, fun F n π w a Q hF hat hQ => ScopesIn.pass (h2 F n π w a _ hF hat hQ)⟩
  case exit id => exact ⟨.exit id, t1, d1, H1, h1, fun F n π w a Q hF hat hQ => ScopesIn.pass (h2 F n π w a _ hF hat hQ)⟩
  case ret => exact ⟨.ret, t1, d1, H1, h1, fun F n π w a Q hF hat hQ => ScopesIn.pass (h2 F n π w a _ hF hat hQ)⟩

/-! ### a range over a function -/
theorem conc_mk_yld {π : Pi} {r : Nat} {L : Loc} (h : π r = some L) : conc π (.yld r) = some (.func (.yield L.block) #[] #[]) := by unfold conc; rw [h]

theorem hasBody_enter {g : Nat} (h : hasBody P g = true) (hN : ∀ (f : Nat) fn, P.funcs[f]? = some fn → (fn.name == "runtime.NumGoroutine") = false) (args : Array Value) (w : World) : (callFunc g args).run P w = .ok (.enter g args) w := by
  unfold hasBody at h
  split at h
  · rename_i fn hfn
    have hf := nthL_some hfn
    rw [Array.getElem?_toList] at hf
    have hb : fn.body.isNone = false := by cases e : fn.body <;> rw [e] at h <;> first | rfl | cases h
    simp only [callFunc, Sem.run_bind, run_program, Result.andThen_ok, hf, hN g fn hf, hb, Bool.false_eq_true, if_false, Sem.run_pure]
  · cases h

/-- The jump that is left. -/
def PendGoal (P : Program) (F : Fence) (n : Nat) (Q : Exit → Act → World → Prop) (a : Act) (w : World) (pend : Option Code) : Prop := match pend with
  | none => Q .normal a w
  | some c => c.wpIn F n P Q a w
/-- The record laid, the function called, what is left behind. -/
theorem rangeRun_ok {ih : Ih R} (hih : IhAll P ih) (hN : ∀ (f : Nat) fn, P.funcs[f]? = some fn → (fn.name == "runtime.NumGoroutine") = false) {first cap : List AV} {g : Nat} {ps : List Nat} {assign body : Code} {t : Env} {d : List ADef} {df : Nat} {H : Heap} {k : KX R} {r : R}
    (hb : hasBody P g = true) (h : rangeRun first cap g ps assign body ih t d df H k = some r) : ∃ e t' d' H', k e t' d' H' = some r ∧
    ∀ F n π w (a : Act) Q (ro : Option Nat) fv fc fn, FOk F π ro → At π t d H a w → concs π first = some fv → concs π cap = some fc → (∃ L, π df = some L) → (∀ π' a' w', At π' t' d' H' a' w' → Post π H w π' H' w' → Q (toX e) a' w') →
      ∀ L, π df = some L → ∃ l w₁, (newObj (.loop { state := .ready, pending := none, fn, tmps := a.tmps, params := ps.toArray, assign, body, defers := L.block })).run P w = .ok l w₁ ∧
        CallsIn F (n - 1) P g (fv ++ [Value.func (.yield l) #[] #[]] ++ fc).toArray w₁ (rangePost F n P l Q a) := by
  obtain ⟨H2, h1, hN2, hH2⟩ := newH_inv (show newH H (.loop .ready none t ps assign body df) (fun l H2 => appK [AV.yld l] cap fun a => appK first a fun args => ih (.call g args H2 (rangeEnd l t d k))) = some r from h)
  rw [appK_eq, appK_eq] at h1
  obtain ⟨v, H3, h2, h3⟩ := hih.ops.call _ _ _ _ _ h1
  replace h2 : getH H3 H.next (fun o => match o with
    | .loop st pend lt ps as bd df => Bool.casesOn (isBusy st) (putH H3 H.next (.loop .exhausted pend lt ps as bd df) (pendK pend t d k)) none
    | _ => none) = some r := h2
  rw [getH_eq] at h2
  cases hq : H3.get H.next with
  | none => rw [hq] at h2; cases h2
  | some ob =>
    rw [hq] at h2
    cases ob <;> try (cases h2; done)
    rename_i st pend lt ps' as bd df'
    rcases bcase_true (show (Bool.casesOn (isBusy st) (putH H3 H.next (.loop .exhausted pend lt ps' as bd df') (pendK pend t d k)) none : Option R) = some r from h2) with ⟨hbusy, h4⟩ | ⟨_, h4⟩
    · obtain ⟨H4, h5, hN4, hH4⟩ := putH_inv h4
      have hend : ∃ e, k e t d H4 = some r ∧ ∀ (F : Fence) n Q a' w₄, Q (toX e) a' w₄ → PendGoal P F n Q a' w₄ pend := by
        clear hq h2 h4
        cases pend with
        | none => exact ⟨.normal, h5, fun F n Q a' w₄ hq => hq⟩
        | some c =>
          cases c <;> try (cases h5; done)
          · exact ⟨_, h5, fun F n Q a' w₄ hq => wpIn_exit hq⟩
          · exact ⟨_, h5, fun F n Q a' w₄ hq => wpIn_goto hq⟩
          · exact ⟨_, h5, fun F n Q a' w₄ hq => wpIn_ret hq⟩
      obtain ⟨e, h6, h7⟩ := hend
      refine ⟨e, t, d, H4, h6, fun F n π w a Q ro fv fc fn hF hat hfv hfc _ hQ L hL => ?_⟩
      obtain ⟨π1, hl1, hp1⟩ := Post.newRegion0 (l := ⟨w.heap.size, 0, 0⟩) (ob := .loop { state := .ready, pending := none, fn, tmps := a.tmps, params := ps.toArray, assign, body, defers := L.block }) hat.rel rfl hN2 hH2 rfl
        (show ORel π (.loop .ready none t ps assign body df) _ _ from ⟨rfl, rfl, hat.env, rfl, rfl, rfl, L, hL, rfl⟩)
      refine ⟨w.heap.size, _, rfl, ?_⟩
      have hargs : concs π1 (first ++ ([AV.yld H.next] ++ cap)) = some (fv ++ ([Value.func (.yield w.heap.size) #[] #[]] ++ fc)) := concs_append (concs_mono hp1.ext hfv) (concs_append (concs_one (conc_mk_yld hl1)) (concs_mono hp1.ext hfc))
      rw [List.append_assoc]
      rcases h3 π1 _ _ (n - 1) hp1.rel hargs with ⟨u, w', h8, _⟩ | ⟨_, h8⟩
      · rw [hasBody_enter hb hN] at h8; cases h8
      · refine (hF.calls h8).mono fun ee w' he => ?_
        obtain ⟨u, rfl, π2, _, hp2⟩ := he
        obtain ⟨ob, h9, h10⟩ := hp2.rel.obj H.next _ ⟨w.heap.size, 0, 0⟩ hq (hp2.ext _ _ hl1)
        cases ob <;> simp only [ORel] at h10
        rename_i lr
        obtain ⟨e1, e2, e3, e4, e5, e6, ld, e7, e8⟩ := h10
        obtain ⟨w₄, k1, k2⟩ := setObj_turned (P := P) (ob' := .loop { lr with state := .exhausted }) h9 (by simp)
        have hp3 : Post π2 H3 w' π2 H4 w₄ := Post.turned hp2.rel hq (hp2.ext _ _ hl1) hN4 hH4 k2 ⟨rfl, e2, e3, e4, e5, e6, ld, e7, e8⟩
        refine ⟨pend, w₄, ?_, ?_⟩
        · have hg := run_getObj_of (P := P) h9 (by simp)
          have hbz : (lr.state == LoopState.busy) = false := by
            rw [e1]; cases st <;> first | rfl | cases hbusy
          simp only [Instr.endLoop, Instr.getLoop, Sem.run_bind, hg, Result.andThen_ok, Sem.run_pure, hbz, Bool.false_eq_true, if_false, k1]
          rw [e2]
        · exact h7 F n Q a w₄ (hQ π2 a w₄ ((hat.post (hp1.trans (hp2.trans hp3)))) (hp1.trans (hp2.trans hp3)))
    · cases h4

end
end Go.Ev
