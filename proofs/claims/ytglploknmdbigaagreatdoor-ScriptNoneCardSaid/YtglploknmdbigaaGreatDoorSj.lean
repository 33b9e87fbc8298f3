/- Code, all of it; a round. -/
import Derived.Test.YtglploknmdbigaaGreatDoorSi
set_option linter.unusedSectionVars false
namespace Go.Ev
section
variable [Sym]
variable {P : Program} {R : Type}

/-- No function counts goroutines. -/
def NoCount (P : Program) : Prop := ∀ (f : Nat) fn, P.funcs[f]? = some fn → (fn.name == "runtime.NumGoroutine") = false

theorem xRange_ok {ih : Ih R} (hih : IhAll P ih) (hN : NoCount P) {f : Operand} {ps : Array Nat} {assign body : Code} : CodeOk P ih ⟨xRange P f ps.toList assign body⟩ (.rangeFunc f ps assign body) := by
  intro ro t d H k r h
  obtain ⟨v, h1, h2⟩ := opK_inv (x := f) h
  cases v <;> try (cases h1; done)
  rename_i g first cap
  obtain ⟨hb, h3⟩ := bcase_none (show (Bool.casesOn (hasBody P g) none (Option.casesOn ro (newH H (.dfr true) fun r H1 => rangeRun first cap g ps.toList assign body ih t (.collected r :: d) r H1 k)
      fun l0 => getH H l0 fun o => match o with | .loop _ _ _ _ _ _ df => rangeRun first cap g ps.toList assign body ih t d df H k | _ => none) : Option R) = some r from h1)
  clear h1
  -- the one call
  have call : ∀ {π : Pi} {a : Act} {w : World} {t : Env} {l : Nat}, EnvRel π t a.tmps → conc π (.fn g first cap) = some (a.eval f) → ∃ fv fc, concs π first = some fv ∧ concs π cap = some fc ∧
      ∃ dd : Deferred, (resolve a.eval (rangeCall f l) 0).run P w = .ok dd w ∧ (invoke dd.target dd.args).run P w = .ok (.enter g (fv ++ [Value.func (.yield l) #[] #[]] ++ fc).toArray) w := by
    intro π a w t l henv hc
    obtain ⟨fv, fc, e1, e2, e3⟩ := conc_fn hc
    refine ⟨fv, fc, e1, e2, ⟨.fn (.func g) ⟨fc⟩, ⟨fv⟩ ++ #[Value.func (.yield l) #[] #[]]⟩, ?_, ?_⟩
    · simp only [resolve, e3]
      simp [Deferred.ofValue, Act.eval]
    · simp only [invoke]
      rw [hasBody_enter hb hN]
      simp
  cases ro with
  | none =>
    obtain ⟨H1, h4, hN1, hH1⟩ := newH_inv (show newH H (.dfr true) (fun r H1 => rangeRun first cap g ps.toList assign body ih t (.collected r :: d) r H1 k) = some r from h3)
    obtain ⟨e, t', d', H', h5, h6⟩ := rangeRun_ok hih hN hb h4
    refine ⟨e, t', d', H', h5, fun F n π w a Q hF hat hQ => wpIn_rangeFunc fun fn _ => ?_⟩
    have hFw : F = Fence.wide := hF
    subst hFw
    obtain ⟨π1, hl1, hp1⟩ := Post.newRegion0 (l := ⟨w.heap.size, 0, 0⟩) (ob := .deferred (some [])) hat.rel rfl hN1 hH1 rfl (show ORel π (.dfr true) _ _ from rfl)
    have hat1 : At π1 t (.collected H.next :: d) H1 { a with defers := ⟨.collected w.heap.size, #[]⟩ :: a.defers } (w.alloc (.deferred (some []))) :=
      ⟨hp1.rel, hat.env.mono hp1.ext, ⟨_, hl1, rfl⟩, hat.defs.mono hp1.ext⟩
    have hcc := conc_mono hp1.ext (h2 π a (hat.env.at_ f))
    obtain ⟨fv, fc, c1, c2, _⟩ := call (w := w) (l := 0) hat1.env hcc
    obtain ⟨l, w₁, k1, k2⟩ := h6 Fence.wide n π1 _ _ Q none fv fc fn rfl hat1 c1 c2 ⟨_, hl1⟩ (fun π' a' w' hat' hp' => hQ π' a' w' hat' (hp1.trans hp')) _ hl1
    obtain ⟨fv', fc', c1', c2', dd, k3, k4⟩ := call (w := w₁) (l := l) hat1.env hcc
    rw [c1] at c1'; cases c1'
    rw [c2] at c2'; cases c2'
    refine ⟨l, [⟨.collected w.heap.size, #[]⟩], w₁, dd, w₁, g, _, w₁, ?_, k3, fun _ _ => trivial, k4, (fun h => by cases h), k2⟩
    rw [Array.toArray_toList] at k1
    simp only [Instr.enterLoop, Fence.wide_round, Sem.run_bind, run_newObj', Result.andThen_ok, Sem.run_pure]
    rw [run_newObj'] at k1
    injection k1 with kl kw
    subst kl kw
    rfl
  | some l0 =>
    replace h3 : getH H l0 (fun o => match o with | .loop _ _ _ _ _ _ df => rangeRun first cap g ps.toList assign body ih t d df H k | _ => none) = some r := h3
    rw [getH_eq] at h3
    cases hq : H.get l0 with
    | none => rw [hq] at h3; cases h3
    | some ob =>
      rw [hq] at h3
      cases ob <;> try (cases h3; done)
      rename_i st pend lt ps' as bd df
      obtain ⟨e, t', d', H', h5, h6⟩ := rangeRun_ok hih hN hb (show rangeRun first cap g ps.toList assign body ih t d df H k = some r from h3)
      refine ⟨e, t', d', H', h5, fun F n π w a Q hF hat hQ => wpIn_rangeFunc fun fn hfn => ?_⟩
      obtain ⟨L0, hL0, hFr⟩ := hF
      obtain ⟨ob, g1, g2⟩ := hat.rel.obj l0 _ L0 hq hL0
      cases ob <;> simp only [ORel] at g2
      rename_i lr
      obtain ⟨e1, e2, e3, e4, e5, e6, ld, e7, e8⟩ := g2
      have hcc := h2 π a (hat.env.at_ f)
      obtain ⟨fv, fc, c1, c2, _⟩ := call (w := w) (l := 0) hat.env hcc
      have hF' : FOk F π (some l0) := ⟨L0, hL0, hFr⟩
      obtain ⟨l, w₁, k1, k2⟩ := h6 F n π w a Q (some l0) fv fc fn hF' hat c1 c2 ⟨ld, e7⟩ hQ ld e7
      obtain ⟨fv', fc', c1', c2', dd, k3, k4⟩ := call (w := w₁) (l := l) hat.env hcc
      rw [c1] at c1'; cases c1'
      rw [c2] at c2'; cases c2'
      refine ⟨l, [], w₁, dd, w₁, g, _, w₁, ?_, k3, fun f' _ => hF'.fn f', k4, (fun h => by rw [hF'.depth] at h; cases h), k2⟩
      subst hFr
      have hg := run_getObj_of (P := P) g1 (by simp)
      rw [Array.toArray_toList] at k1
      simp only [Instr.enterLoop, Fence.inRound_round, Instr.getLoop, Sem.run_bind, hg, Result.andThen_ok, Sem.run_pure, e8]
      rw [k1]
      rfl

theorem codeC_ok {ih : Ih R} (hih : IhAll P ih) (hN : NoCount P) (hD : DrawsOk P ih) : ∀ c : Code, CodeOk P ih (codeC P c) c
  | .skip => fun ro t d H k r h => ⟨.normal, t, d, H, h, fun F n π w a Q _ hat hQ => wpIn_skip (hQ π a w hat (Post.refl hat.rel))⟩
  | .label _ => fun ro t d H k r h => ⟨.normal, t, d, H, h, fun F n π w a Q _ hat hQ => wpIn_label (hQ π a w hat (Post.refl hat.rel))⟩
  | .exit id => fun ro t d H k r h => ⟨.exit id, t, d, H, h, fun F n π w a Q _ hat hQ => wpIn_exit (hQ π a w hat (Post.refl hat.rel))⟩
  | .goto l => fun ro t d H k r h => ⟨.goto l, t, d, H, h, fun F n π w a Q _ hat hQ => wpIn_goto (hQ π a w hat (Post.refl hat.rel))⟩
  | .ret => fun ro t d H k r h => ⟨.ret, t, d, H, h, fun F n π w a Q _ hat hQ => wpIn_ret (hQ π a w hat (Post.refl hat.rel))⟩
  | .refuse _ => fun ro t d H k r h => by cases h
  | .region id ops true => fun ro t d H k r h => by
    obtain ⟨t', d', H', h1, h2⟩ := hD id ops ro t d H _ r (show runO (regionC P ops true) ih ro t d H (fun t' d' H' => k .normal t' d' H') = some r from h)
    exact ⟨.normal, t', d', H', h1, h2⟩
  | .region id ops false => fun ro t d H k r h => by
    obtain ⟨t', d', H', h1, h2⟩ := opsC_ok (ops := ops) hih.ops ops.toList ro t d H _ r (show runO (opsC P ops.toList ops.toList) ih ro t d H (fun t' d' H' => k .normal t' d' H') = some r from h)
    exact ⟨.normal, t', d', H', h1, fun F n π w a Q hF hat hQ => wpIn_region_list (h2 F n π w a Q hF hat hQ)⟩
  | .seq x y => xSeq_ok (codeC_ok hih hN hD x) (codeC_ok hih hN hD y)
  | .cond _ x y => xCond_ok (codeC_ok hih hN hD x) (codeC_ok hih hN hD y)
  | .block _ c => xBlock_ok (codeC_ok hih hN hD c)
  | .loop c => fun ro t d H k r h => by
    obtain ⟨e, t', d', H', h1, h2⟩ := hih.loop ro c t d H k r h
    exact ⟨e, t', d', H', h1, fun F n π w a Q hF hat hQ => (h2 F n π w a Q hF hat hQ).loop⟩
  | .scope c => fun ro t d H k r h => by
    obtain ⟨e, t', d', H', h1, h2⟩ := hih.scope ro c c t d H k r h
    exact ⟨e, t', d', H', h1, fun F n π w a Q hF hat hQ => (h2 F n π w a Q hF hat hQ).scope⟩
  | .rangeFunc f ps a b => xRange_ok hih hN

end
end Go.Ev

set_option linter.unusedSectionVars false
namespace Go.Ev
section
variable [Sym]
variable {P : Program} {R : Type}

theorem argsAt_inv : ∀ {ps : List Nat} {vs : List AV} {t : Env} {k : Env → Option R} {r : R}, argsAt ps vs t k = some r → ∃ t', k t' = some r ∧ vs.length = ps.length ∧
    ∀ π (tmps : Array Value) us, EnvRel π t tmps → concs π vs = some us → EnvRel π t' ((ps.zip us).foldl (fun (tmps : Array Value) (p : Nat × Value) => tmps.setIfInBounds p.1 p.2) tmps)
  | [], [], t, k, r, h => ⟨t, h, rfl, fun π tmps us he hc => by cases hc; exact he⟩
  | [], _ :: _, t, k, r, h => by cases h
  | _ :: _, [], t, k, r, h => by cases h
  | p :: ps, v :: vs, t, k, r, h => by
    obtain ⟨t1, h1, ⟨u0, h2⟩, h3⟩ := setE_inv (show setE t p v (fun t' => argsAt ps vs t' k) = some r from h)
    obtain ⟨t', h4, h5, h6⟩ := argsAt_inv h1
    refine ⟨t', h4, by simp [h5], fun π tmps us he hc => ?_⟩
    obtain ⟨u, us', c1, c2, rfl⟩ := concs_cons hc
    have he1 : EnvRel π t1 (({ tmps := tmps, defers := [] } : Act).put (some p) u).tmps := EnvRel.put (a := { tmps := tmps, defers := [] }) he (fun i hi => by cases hi; exact ⟨u0, h2⟩) (fun j => by
      rw [h3]
      by_cases e : j = p
      · subst e; simp
      · rw [if_neg e, if_neg (by simp; exact fun h => e h.symm)]) c1
    exact h6 π _ us' he1 c2

theorem loop_of {π : Pi} {H : Heap} {w : World} (hr : Rel π H w) {l : Nat} {L : Loc} {st : LoopState} {pend : Option Code} {lt : Env} {ps : List Nat} {as bd : Code} {df : Nat} (hq : H.get l = some (.loop st pend lt ps as bd df)) (hL : π l = some L) :
    ∃ lr : Loop, w.heap[L.block]? = some (.loop lr) ∧ lr.state = st ∧ lr.pending = pend ∧ EnvRel π lt lr.tmps ∧ lr.params = ps.toArray ∧ lr.assign = as ∧ lr.body = bd ∧ ∃ ld, π df = some ld ∧ lr.defers = ld.block := by
  obtain ⟨ob, h1, h2⟩ := hr.obj l _ L hq hL
  cases ob <;> simp only [ORel] at h2
  exact ⟨_, h1, h2⟩

theorem roundEnd_inv {l : Nat} {k : AV → Heap → Option R} {e : AExit} {t : Env} {d : List ADef} {H : Heap} {r : R} (h : roundEnd l k e t d H = some r) : ∃ v H', k v H' = some r ∧
    ∀ π w L, Rel π H w → π l = some L → ∃ w', (Instr.endRound L.block (codeOf e)).run P w = .ok (.bool (codeOf e).isNone) w' ∧ conc π v = some (.bool (codeOf e).isNone) ∧ Post π H w π H' w' := by
  replace h : getH H l (fun o => match o with
    | .loop _ _ lt ps as bd df => Bool.casesOn (isNormal e) (putH H l (.loop .done (codeOf e) lt ps as bd df) fun H' => k (.bool false) H') (putH H l (.loop .ready none lt ps as bd df) fun H' => k (.bool true) H')
    | _ => none) = some r := h
  rw [getH_eq] at h
  cases hq : H.get l with
  | none => rw [hq] at h; cases h
  | some ob =>
    rw [hq] at h
    cases ob <;> try (cases h; done)
    rename_i st pend lt ps as bd df
    rcases bcase_true (show (Bool.casesOn (isNormal e) (putH H l (.loop .done (codeOf e) lt ps as bd df) fun H' => k (.bool false) H') (putH H l (.loop .ready none lt ps as bd df) fun H' => k (.bool true) H') : Option R) = some r from h) with ⟨hn, h1⟩ | ⟨hn, h1⟩
    all_goals
      obtain ⟨H', h2, hN, hH⟩ := putH_inv h1
      refine ⟨_, H', h2, fun π w L hr hL => ?_⟩
      obtain ⟨lr, g1, g2, g3, g4, g5, g6, g7, ld, g8, g9⟩ := loop_of hr hq hL
      obtain ⟨w', k1, k2⟩ := setObj_turned (P := P) (ob' := .loop { lr with state := if (codeOf e).isNone then .ready else .done, pending := codeOf e }) g1 (by simp)
      have hg := run_getObj_of (P := P) g1 (by simp)
      have hcode : (codeOf e).isNone = isNormal e := by cases e <;> rfl
      refine ⟨w', ?_, ?_, Post.turned hr hq hL hN hH k2 ?_⟩
      · simp only [Instr.endRound, Instr.getLoop, Sem.run_bind, hg, Result.andThen_ok, Sem.run_pure, k1]
      · rw [hcode, hn]; rfl
      · refine ⟨?_, ?_, g4, g5, g6, g7, ld, g8, g9⟩
        · simp only [hcode, hn]; rfl
        · first | rfl | (cases e <;> first | rfl | cases hn)

theorem roundStep_ok {ih : Ih R} (hih : IhAll P ih) (hN : NoCount P) (hD : DrawsOk P ih) {X : Nat → Option Ext} {C : Nat → Option (List AV → Heap → Option (AV × Heap))} {l : Nat} {args : List AV} {H : Heap} {k : AV → Heap → Option R} {r : R} (h : stepJ P X C ih (.round l args H k) = some r) : RoundJ P l args H k r := by
  replace h : getH H l (fun o => match o with
    | .loop _ _ lt ps as bd _ => argsAt ps args lt fun t => runC (codeC P as) ih (some l) t [] H (roundBody P ih l bd k)
    | _ => none) = some r := h
  rw [getH_eq] at h
  cases hq : H.get l with
  | none => rw [hq] at h; cases h
  | some ob =>
    rw [hq] at h
    cases ob <;> try (cases h; done)
    rename_i st pend lt ps as bd df
    obtain ⟨t, h1, h2, h3⟩ := argsAt_inv (show argsAt ps args lt (fun t => runC (codeC P as) ih (some l) t [] H (roundBody P ih l bd k)) = some r from h)
    clear h
    obtain ⟨e1, t1, d1, H1, h4, h5⟩ := codeC_ok hih hN hD as _ _ _ _ _ _ h1
    clear h1
    cases e1 <;> try (cases h4; done)
    replace h4 : getH H1 l (fun o => match o with
      | .loop st pend lt ps as bd' df => Bool.casesOn (isReady st) none (putH H1 l (.loop .busy pend lt ps as bd' df) fun H' => runC (codeC P bd) ih (some l) t1 d1 H' (roundEnd l k))
      | _ => none) = some r := h4
    rw [getH_eq] at h4
    cases hq1 : H1.get l with
    | none => rw [hq1] at h4; cases h4
    | some ob1 =>
      rw [hq1] at h4
      cases ob1 <;> try (cases h4; done)
      rename_i st1 pend1 lt1 ps1 as1 bd1 df1
      obtain ⟨hrd, h6⟩ := bcase_none (show (Bool.casesOn (isReady st1) none (putH H1 l (.loop .busy pend1 lt1 ps1 as1 bd1 df1) fun H' => runC (codeC P bd) ih (some l) t1 d1 H' (roundEnd l k)) : Option R) = some r from h4)
      clear h4
      obtain ⟨H2, h7, hN2, hH2⟩ := putH_inv h6
      clear h6
      obtain ⟨e2, t2, d2, H3, h8, h9⟩ := codeC_ok hih hN hD bd _ _ _ _ _ _ h7
      clear h7
      obtain ⟨v, H', h10, h11⟩ := roundEnd_inv (P := P) h8
      clear h8
      refine ⟨v, H', h10, fun π w us L n hr hc hL => ?_⟩
      obtain ⟨lr, g1, g2, g3, g4, g5, g6, g7, ld, g8, g9⟩ := loop_of hr hq hL
      have hg := run_getObj_of (P := P) g1 (by simp)
      have hus := concs_length hc
      have henv := h3 π lr.tmps us g4 hc
      refine ⟨lr.fn, _, as, bd, ?_, roundIn_of_wpIn (F := Fence.wide) trivial (tmps := (ps.zip us).foldl (fun (tmps : Array Value) (p : Nat × Value) => tmps.setIfInBounds p.1 p.2) lr.tmps) ?_⟩
      · simp only [Instr.yield, Instr.getLoop, Sem.run_bind, hg, Result.andThen_ok, Sem.run_pure, g6, g7, g5]
        rw [← Array.foldl_toList]
        simp
        omega
      · refine h5 (Fence.wide.inRound L.block) n π w { tmps := _, defers := [] } _ ⟨L, hL, rfl⟩ ⟨hr, henv, trivial⟩ fun π1 a1 w1 hat1 hp1 => ?_
        have hL1 := hp1.ext _ _ hL
        obtain ⟨lr1, a1', a2, a3, a4, a5, a6, a7, ld1, a8, a9⟩ := loop_of hat1.rel hq1 hL1
        obtain ⟨w2, k1, k2⟩ := setObj_turned (P := P) (ob' := .loop { lr1 with state := .busy }) a1' (by simp)
        have hg1 := run_getObj_of (P := P) a1' (by simp)
        have hp2 : Post π1 H1 w1 π1 H2 w2 := Post.turned hat1.rel hq1 hL1 hN2 hH2 k2 ⟨rfl, a3, a4, a5, a6, a7, ld1, a8, a9⟩
        refine ⟨w2, ?_, ?_⟩
        · have hst : lr1.state = .ready := by rw [a2]; cases st1 <;> first | rfl | cases hrd
          simp only [Instr.beginRound, Instr.getLoop, Sem.run_bind, hg1, Result.andThen_ok, Sem.run_pure, k1, hst]
        · refine h9 (Fence.wide.inRound L.block) n π1 w2 a1 _ ⟨L, hL1, rfl⟩ (hat1.post hp2) fun π3 a3 w3 hat3 hp3 => ?_
          obtain ⟨w4, b1, b2, b3⟩ := h11 π3 w3 L hat3.rel (hp3.ext _ _ hL1)
          have hfin : ∃ u, (Ending.returned (Value.bool (codeOf e2).isNone)) = .returned u ∧ After π H w v H' u w4 := ⟨_, rfl, π3, b2, hp1.trans (hp2.trans (hp3.trans b3))⟩
          cases e2 <;> exact ⟨_, w4, b1, hfin⟩

end
end Go.Ev

set_option linter.unusedSectionVars false
namespace Go.Ev
section
variable [Sym]
variable {P : Program} {R : Type}

def resSem (tmps : Array Value) : ResultVar → Sem Value
  | .tmp t => pure (tmps.getD t undef)
  | .cell a t => do loadVar t (← asAddr (tmps.getD a undef))

theorem resK_inv {q : ResultVar} {t : Env} {H : Heap} {k : AV → Option R} {r : R} (h : resK P q t H k = some r) : ∃ v, k v = some r ∧ ∀ π w tmps, Rel π H w → EnvRel π t tmps → ∃ u, conc π v = some u ∧ (resSem tmps q).run P w = .ok u w := by
  cases q with
  | tmp i =>
    replace h : getE t i k = some r := h
    rw [getE_eq] at h
    cases hv : look t i with
    | none => rw [hv] at h; cases h
    | some v =>
      rw [hv] at h
      refine ⟨v, h, fun π w tmps _ he => ?_⟩
      obtain ⟨u, h1, h2⟩ := he i v hv
      refine ⟨u, h2, ?_⟩
      simp [resSem, h1]
  | cell a ty =>
    let o : Oper := { (default : Oper) with op := .load ty (.tmp a) }
    obtain ⟨v, h1, h2⟩ := qLoad_sound (P := P) (o := o) (ty := ty) (x := .tmp a) rfl t H k r h
    refine ⟨v, h1, fun π w tmps hr he => ?_⟩
    obtain ⟨u, h3, h4⟩ := h2 π w { tmps := tmps, defers := [] } hr (fun x _ => EnvRel.at_ (a := { tmps := tmps, defers := [] }) he x)
    refine ⟨u, h3, ?_⟩
    have e : (Act.eval { tmps := tmps, defers := [] } (.tmp a)) = tmps.getD a undef := by simp [Act.eval]
    simp only [execOp, o, Instr.loadAt, e, Sem.run_bind] at h4
    simp only [resSem, Sem.run_bind]
    cases hx : tmps.getD a undef <;> rw [hx] at h4 <;> try (simp [Instr.sureAddr, stuck] at h4; done)
    rename_i p
    cases p with
    | none => simp [Instr.sureAddr, stuck] at h4
    | some ad =>
      simp only [Instr.sureAddr, Sem.run_pure, Result.andThen_ok] at h4
      simp only [asAddr, Sem.run_pure, Result.andThen_ok]
      cases hl : (loadVar ty ad).run P w with
      | halt _ _ => rw [hl] at h4; cases h4
      | ok v' w' => rw [hl] at h4; cases h4; rfl

theorem ressK_inv : ∀ {l : List ResultVar} {t : Env} {H : Heap} {k : List AV → Option R} {r : R}, ressK P l t H k = some r → ∃ vs, k vs = some r ∧ ∀ π w tmps, Rel π H w → EnvRel π t tmps → ∃ us, concs π vs = some us ∧ (l.mapM (resSem tmps)).run P w = .ok us w
  | [], t, H, k, r, h => ⟨[], h, fun _ _ _ _ _ => ⟨[], rfl, rfl⟩⟩
  | q :: l, t, H, k, r, h => by
    obtain ⟨v, h1, h2⟩ := resK_inv (show resK P q t H (fun v => ressK P l t H fun vs => k (v :: vs)) = some r from h)
    obtain ⟨vs, h3, h4⟩ := ressK_inv h1
    refine ⟨v :: vs, h3, fun π w tmps hr he => ?_⟩
    obtain ⟨u, h5, h6⟩ := h2 π w tmps hr he
    obtain ⟨us, h7, h8⟩ := h4 π w tmps hr he
    exact ⟨u :: us, concs_mk h5 h7, by simp [List.mapM_cons, h6, h8]⟩

theorem resultK_inv {fn : Func} {t : Env} {H : Heap} {k : AV → Option R} {r : R} (h : resultK P fn.results.toList t H k = some r) : ∃ v, k v = some r ∧ ∀ π w tmps, Rel π H w → EnvRel π t tmps → ∃ u, conc π v = some u ∧ (results fn tmps).run P w = .ok u w := by
  obtain ⟨vs, h1, h2⟩ := ressK_inv (show ressK P fn.results.toList t H (fun vs => match vs with | [v] => k v | vs => k (.tup vs)) = some r from h)
  have run : ∀ {tmps : Array Value} {w : World} {us : List Value}, (fn.results.toList.mapM (resSem tmps)).run P w = .ok us w → (results fn tmps).run P w = .ok (if h : us.toArray.size = 1 then us.toArray[0] else .tuple us.toArray) w := by
    intro tmps w us hm
    have e : (results fn tmps) = (do
        let vs ← fn.results.mapM (resSem tmps)
        pure (if h : vs.size = 1 then vs[0] else .tuple vs)) := by
      unfold results
      congr 1
    rw [e, Array.mapM_eq_mapM_toList]
    simp only [Sem.run_bind, Sem.run_map, hm, Result.andThen_ok, Sem.run_pure]
  match vs, h1, h2 with
  | [v], h1, h2 =>
    refine ⟨v, h1, fun π w tmps hr he => ?_⟩
    obtain ⟨us, h3, h4⟩ := h2 π w tmps hr he
    obtain ⟨u, us', h5, h6, rfl⟩ := concs_cons h3
    cases h6
    exact ⟨u, h5, by rw [run h4]; rfl⟩
  | [], h1, h2 =>
    refine ⟨_, h1, fun π w tmps hr he => ?_⟩
    obtain ⟨us, h3, h4⟩ := h2 π w tmps hr he
    cases h3
    exact ⟨_, conc_mk_tup rfl, by rw [run h4]; rfl⟩
  | v :: v' :: vs, h1, h2 =>
    refine ⟨_, h1, fun π w tmps hr he => ?_⟩
    obtain ⟨us, h3, h4⟩ := h2 π w tmps hr he
    refine ⟨_, conc_mk_tup h3, ?_⟩
    rw [run h4]
    have := concs_length h3
    rw [dif_neg (by simp [this])]

/-! ### a frame's start -/
theorem look_envN (n i : Nat) (v : AV) (h : look (envN n) i = some v) : v = .undef ∧ i < n := by
  have hu : ∀ m j, (undefs m)[j]? = if j < m then some AV.undef else none := by
    intro m
    induction m with
    | zero => intro j; show ([] : List AV)[j]? = _; simp
    | succ m ih =>
      intro j
      show (AV.undef :: undefs m)[j]? = _
      cases j with
      | zero => simp
      | succ j => rw [List.getElem?_cons_succ, ih]; simp
  have hr : ∀ q j, (Nat.rec (motive := fun _ => Env) [undefs (Nat.mod n 8)] (fun _ l => undefs 8 :: l) q : Env)[j]? = if j < q then some (undefs 8) else if j = q then some (undefs (n % 8)) else none := by
    intro q
    induction q with
    | zero => intro j; show [undefs (n % 8)][j]? = _; cases j <;> simp
    | succ q ih =>
      intro j
      show (undefs 8 :: (Nat.rec (motive := fun _ => Env) [undefs (Nat.mod n 8)] (fun _ l => undefs 8 :: l) q : Env))[j]? = _
      cases j with
      | zero => simp
      | succ j => rw [List.getElem?_cons_succ, ih]; simp
  have hrow := hr (n / 8) (i / 8)
  unfold look at h
  rw [show (envN n)[i / 8]? = _ from hrow] at h
  split at h
  · rename_i hlt
    simp only [Option.bind_some, hu] at h
    split at h
    · cases h; exact ⟨rfl, by omega⟩
    · cases h
  · split at h
    · rename_i _ heq
      simp only [Option.bind_some, hu] at h
      split at h
      · cases h; exact ⟨rfl, by omega⟩
      · cases h
    · cases h

theorem argsE_inv : ∀ {vs : List AV} {t : Env} {i : Nat} {k : Env → Option R} {r : R}, argsE vs t i k = some r → ∃ t', k t' = some r ∧ ∀ j v, look t' j = some v → (i ≤ j ∧ vs[j - i]? = some v) ∨ ((j < i ∨ i + vs.length ≤ j) ∧ look t j = some v)
  | [], t, i, k, r, h => ⟨t, h, fun j v hv => .inr ⟨by simp; omega, hv⟩⟩
  | v0 :: vs, t, i, k, r, h => by
    obtain ⟨t1, h1, _, h3⟩ := setE_inv (show setE t i v0 (fun t' => argsE vs t' (i + 1) k) = some r from h)
    obtain ⟨t', h4, h5⟩ := argsE_inv h1
    refine ⟨t', h4, fun j v hv => ?_⟩
    rcases h5 j v hv with ⟨g1, g2⟩ | ⟨g1, g2⟩
    · left
      refine ⟨by omega, ?_⟩
      have : j - i = (j - (i + 1)) + 1 := by omega
      rw [this, List.getElem?_cons_succ]; exact g2
    · rw [h3] at g2
      by_cases e : j = i
      · subst e
        rw [if_pos rfl] at g2
        left
        exact ⟨Nat.le_refl _, by simpa using g2⟩
      · rw [if_neg e] at g2
        right
        refine ⟨?_, g2⟩
        simp only [List.length_cons]
        omega

/-- A frame at its start. -/
theorem start_env {args : List AV} {n : Nat} {k : Env → Option R} {r : R} (h : argsE args (envN n) 0 k = some r) : ∃ t, k t = some r ∧ ∀ π us, concs π args = some us → EnvRel π t (us.toArray ++ Array.replicate (n - us.toArray.size) undef) := by
  obtain ⟨t, h1, h2⟩ := argsE_inv h
  refine ⟨t, h1, fun π us hc i v hv => ?_⟩
  have hlen := concs_length hc
  rcases h2 i v hv with ⟨_, g⟩ | ⟨g1, g2⟩
  · obtain ⟨u, h3, h4⟩ := concs_get hc g
    refine ⟨u, ?_, h4⟩
    have hlt := (List.getElem?_eq_some_iff.1 h3).1
    rw [Array.getElem?_append_left (by simp; omega)]
    simpa using h3
  · obtain ⟨rfl, hlt⟩ := look_envN n i v g2
    refine ⟨undef, ?_, rfl⟩
    rw [Array.getElem?_append_right (by simp; omega), Array.getElem?_replicate, if_pos (by simp; omega)]

/-! ### a frame's end -/
/-- What the job of a deferred call owes. -/
def DcallJ (P : Program) (f : Nat) (args : List AV) (H : Heap) (k : Heap → Option R) (r : R) : Prop := ∃ H', k H' = some r ∧
  ∀ π w us n, Rel π H w → concs π args = some us → (callFunc f us.toArray).run P w = .ok (.enter f us.toArray) w ∧
    CallsDIn Fence.wide n P f us.toArray .returning w fun e u' w' => u' = .returning ∧ (∃ v, e = .returned v) ∧ ∃ π', Post π H w π' H' w'

theorem leaveK_ok {ih : Ih R} (hd : ∀ f args H k r, ih (.dcall f args H k) = some r → DcallJ P f args H k r) : ∀ {ds : List ADef} {H : Heap} {k : Heap → Option R} {r : R}, leaveK ih ds H k = some r → ∃ H', k H' = some r ∧
    ∀ π w es fn tmps n K, Rel π H w → DefRel π ds es → (∀ π' w', Post π H w π' H' w' → LeavesIn Fence.wide n P fn tmps K [] .returning w') → LeavesInM Fence.wide n P fn tmps K es .returning w
  | [], H, k, r, h => ⟨H, h, fun π w es fn tmps n K hr hds hK => by
      cases es with
      | nil => exact hK π w (Post.refl hr)
      | cons _ _ => exact hds.elim⟩
  | .collected q :: ds, H, k, r, h => by
    replace h : getH H q (fun o => match o with
        | .dfr b => Bool.casesOn b none (putH H q (.dfr false) fun H' => leaveK ih ds H' k)
        | _ => none) = some r := h
    rw [getH_eq] at h
    cases hq : H.get q with
    | none => rw [hq] at h; cases h
    | some ob =>
      rw [hq] at h
      cases ob <;> try (cases h; done)
      rename_i b
      obtain ⟨rfl, h1⟩ := bcase_none (show (Bool.casesOn b none (putH H q (.dfr false) fun H' => leaveK ih ds H' k) : Option R) = some r from h)
      obtain ⟨H1, h2, hN, hH⟩ := putH_inv h1
      obtain ⟨H', h3, h4⟩ := leaveK_ok hd h2
      refine ⟨H', h3, fun π w es fn tmps n K hr hds hK => ?_⟩
      cases es with
      | nil => exact hds.elim
      | cons d es =>
        obtain ⟨⟨L, hL, rfl⟩, hds⟩ := hds
        obtain ⟨ob, g1, g2⟩ := hr.obj q _ L hq hL
        cases ob <;> simp only [ORel] at g2
        subst g2
        have hg := run_getObj_of (P := P) g1 (by simp)
        obtain ⟨w', k1, k2⟩ := setObj_turned (P := P) (ob' := .deferred none) g1 (by simp)
        have hp : Post π H w π H1 w' := Post.turned hr hq hL hN hH k2 rfl
        refine ⟨by simp, .inl ⟨L.block, w', rfl, ?_, h4 π w' es fn tmps n K hp.rel hds fun π' w'' hp' => hK π' w'' (hp.trans hp')⟩⟩
        simp only [Instr.takeDeferred, Sem.run_bind, hg, Result.andThen_ok, if_true, k1, Sem.run_pure]
  | .call f args :: ds, H, k, r, h => by
    obtain ⟨H1, h1, h2⟩ := hd _ _ _ _ _ (show ih (.dcall f args H fun H' => leaveK ih ds H' k) = some r from h)
    obtain ⟨H', h3, h4⟩ := leaveK_ok hd h1
    refine ⟨H', h3, fun π w es fn tmps n K hr hds hK => ?_⟩
    cases es with
    | nil => exact hds.elim
    | cons d es =>
      obtain ⟨⟨first, cap, rfl, hc⟩, hds⟩ := hds
      obtain ⟨g1, g2, g3⟩ := h2 π w _ (n - 1) hr hc
      rw [Array.toArray_toList] at g1
      refine ⟨by simp, .inr ⟨fun h => (by cases h), .func f, cap, f, first ++ cap, rfl, g1, fun _ _ => trivial, ?_⟩⟩
      rw [Array.toArray_toList] at g3
      refine ⟨g2, fun c cs hm hroom => ?_⟩
      obtain ⟨e, u', w', fr, ⟨rfl, ⟨v, rfl⟩, π', hp⟩, rest⟩ := g3 c cs hm hroom
      exact ⟨.returned v, .returning, w', fr, h4 π' w' es fn tmps n K hp.rel (hds.mono hp.ext) fun π'' w'' hp' => hK π'' w'' (hp.trans hp'), rest⟩

/-! ### a function's job -/
theorem fBody_ok {ih : Ih R} (hih : IhAll P ih) (hd : ∀ f args H k r, ih (.dcall f args H k) = some r → DcallJ P f args H k r) (hN : NoCount P) (hD : DrawsOk P ih) {f : Nat} {fn : Func} {c : Code} (hf : P.funcs[f]? = some fn) (hb : fn.body = some c)
    {args : List AV} {H : Heap} {k : AV → Heap → Option R} {r : R} (h : fBody P fn.ntmps (codeC P c) fn.results.toList ih args H k = some r) : CallJ P f args H k r := by
  obtain ⟨t, h1, h2⟩ := start_env h
  clear h
  obtain ⟨e1, t1, d1, H1, h3, h4⟩ := codeC_ok hih hN hD c _ _ _ _ _ _ h1
  clear h1
  have fin : (e1 = .normal ∨ e1 = .ret) ∧ leaveK ih d1 H1 (fun H'' => resultK P fn.results.toList t1 H'' fun v => k v H'') = some r := by
    cases e1 <;> first | exact ⟨.inl rfl, h3⟩ | exact ⟨.inr rfl, h3⟩ | cases h3
  obtain ⟨he, h5⟩ := fin
  obtain ⟨H2, h6, h7⟩ := leaveK_ok hd h5
  obtain ⟨v, h8, h9⟩ := resultK_inv h6
  refine ⟨v, H2, h8, fun π w us n hr hc => .inr ⟨?_, ?_⟩⟩
  · have hbody : hasBody P f = true := by
      unfold hasBody
      rw [nthL_eq, Array.getElem?_toList, hf]
      simp [hb]
    exact hasBody_enter hbody hN _ _
  · refine callsIn_of_wp_marks hf hb trivial ?_
    refine h4 Fence.wide n π w _ _ rfl ⟨hr, h2 π us hc, trivial⟩ fun π1 a1 w1 hat hp => ?_
    have hleave : LeavesInM Fence.wide n P fn a1.tmps (fun e w' => ∃ u, e = .returned u ∧ After π H w v H2 u w') a1.defers .returning w1 := by
      refine h7 π1 w1 _ _ _ _ _ hat.rel hat.defs fun π2 w2 hp2 => ?_
      obtain ⟨u, h10, h11⟩ := h9 π2 w2 a1.tmps hp2.rel (hat.env.mono hp2.ext)
      exact ⟨u, h11, u, rfl, π2, h10, hp.trans hp2⟩
    rcases he with rfl | rfl <;> exact hleave

theorem fdBody_ok {ih : Ih R} (hih : IhAll P ih) (hN : NoCount P) (hD : DrawsOk P ih) {f : Nat} {fn : Func} {c : Code} (hf : P.funcs[f]? = some fn) (hb : fn.body = some c)
    {args : List AV} {H : Heap} {k : Heap → Option R} {r : R} (h : fdBody P fn.ntmps (codeC P c) fn.results.toList ih args H k = some r) : DcallJ P f args H k r := by
  obtain ⟨t, h1, h2⟩ := start_env h
  clear h
  obtain ⟨e1, t1, d1, H1, h3, h4⟩ := codeC_ok hih hN hD c _ _ _ _ _ _ h1
  clear h1
  cases d1 with
  | cons _ _ => cases h3
  | nil =>
    have fin : (e1 = .normal ∨ e1 = .ret) ∧ resultK P fn.results.toList t1 H1 (fun _ => k H1) = some r := by
      cases e1 <;> first | exact ⟨.inl rfl, h3⟩ | exact ⟨.inr rfl, h3⟩ | cases h3
    obtain ⟨he, h5⟩ := fin
    obtain ⟨v, h8, h9⟩ := resultK_inv h5
    refine ⟨H1, h8, fun π w us n hr hc => ⟨?_, ?_⟩⟩
    · have hbody : hasBody P f = true := by
        unfold hasBody
        rw [nthL_eq, Array.getElem?_toList, hf]
        simp [hb]
      exact hasBody_enter hbody hN _ _
    · have hw := callsDIn_of_wp (F := Fence.wide) (n := n) (u := .returning) (w := w) (args := us.toArray) (R := fun e w' => (∃ v, e = .returned v) ∧ ∃ π', Post π H w π' H1 w') hf hb trivial (by
        refine h4 Fence.wide n π w _ _ rfl ⟨hr, h2 π us hc, trivial⟩ fun π1 a1 w1 hat hp => ?_
        have hde : a1.defers = [] := by
          have := hat.defs
          cases e : a1.defers with
          | nil => rfl
          | cons _ _ => rw [e] at this; exact this.elim
        obtain ⟨u, h10, h11⟩ := h9 π1 w1 a1.tmps hat.rel hat.env
        rcases he with rfl | rfl <;> exact ⟨hde, u, h11, ⟨u, rfl⟩, π1, hp⟩)
      refine ⟨hw.1, fun c cs hm hroom => ?_⟩
      obtain ⟨e, u', w', fr, ⟨g1, g2⟩, rest⟩ := hw.2 c cs hm hroom
      exact ⟨e, u', w', fr, ⟨g1, g2⟩, rest⟩

end
end Go.Ev

set_option linter.unusedSectionVars false
namespace Go.Ev
section
variable [Sym]
variable {P : Program} {R : Type} {X : Nat → Option Ext} {C : Nat → Option (List AV → Heap → Option (AV × Heap))}

/-- What a contract of the table owes. -/
def TableOk (P : Program) (C : Nat → Option (List AV → Heap → Option (AV × Heap))) : Prop := ∀ f g, C f = some g → ∀ args H v H', g args H = some (v, H') → ∀ π w us n, Rel π H w → concs π args = some us → CallOk P n f us.toArray w (After π H w v H')
/-- What a function without a body owes. -/
def ExtsOk (P : Program) (X : Nat → Option Ext) : Prop := ∀ f x, X f = some x → ∀ (R : Type) args H (k : AV → Heap → Option R) r, extK x args H k = some r → CallJ P f args H k r

theorem fn_call_ok {ih : Ih R} (hih : IhAll P ih) (hd : ∀ f args H k r, ih (.dcall f args H k) = some r → DcallJ P f args H k r) (hN : NoCount P) (hD : DrawsOk P ih) (hC : TableOk P C) (hX : ExtsOk P X) {f : Nat} {args : List AV} {H : Heap} {k : AV → Heap → Option R} {r : R}
    (h : (fnC P X C f).call ih args H k = some r) : CallJ P f args H k r := by
  unfold fnC at h
  split at h
  · rename_i g hg
    replace h : (Option.casesOn (g args H) none fun p => k p.1 p.2 : Option R) = some r := h
    cases e : g args H with
    | none => rw [e] at h; cases h
    | some p =>
      rw [e] at h
      exact ⟨p.1, p.2, h, fun π w us n hr hc => hC f g hg args H p.1 p.2 e π w us n hr hc⟩
  · split at h
    · rename_i x hx
      exact hX f x hx R args H k r h
    · split at h
      · rename_i fn hfn
        have hf := nthL_some hfn
        rw [Array.getElem?_toList] at hf
        split at h
        · rename_i c hb
          exact fBody_ok hih hd hN hD hf hb h
        · cases h
      · cases h
theorem fn_dcall_ok {ih : Ih R} (hih : IhAll P ih) (hN : NoCount P) (hD : DrawsOk P ih) {f : Nat} {args : List AV} {H : Heap} {k : Heap → Option R} {r : R}
    (h : (fnC P X C f).dcall ih args H k = some r) : DcallJ P f args H k r := by
  unfold fnC at h
  split at h
  · cases h
  · split at h
    · cases h
    · split at h
      · rename_i fn hfn
        have hf := nthL_some hfn
        rw [Array.getElem?_toList] at hf
        split at h
        · rename_i c hb
          exact fdBody_ok hih hN hD hf hb h
        · cases h
      · cases h

theorem eval_ok (hN : NoCount P) (hD : ∀ ih : Ih R, IhAll P ih → DrawsOk P ih) (hC : TableOk P C) (hX : ExtsOk P X) : ∀ n, IhAll P (eval P X C n : Ih R) ∧ ∀ f args H k r, (eval P X C n : Ih R) (.dcall f args H k) = some r → DcallJ P f args H k r
  | 0 => ⟨⟨⟨fun _ _ _ _ _ h => (by cases h), fun _ _ _ _ _ h => (by cases h)⟩, fun _ _ _ _ _ _ _ h => (by cases h), fun _ _ _ _ _ _ _ _ h => (by cases h)⟩, fun _ _ _ _ _ h => (by cases h)⟩
  | n + 1 => by
    obtain ⟨hih, hd⟩ := eval_ok hN hD hC hX n
    have hDr := hD _ hih
    refine ⟨⟨⟨fun f args H k r h => ?_, fun l args H k r h => ?_⟩, fun ro c t d H k r h => ?_, fun ro c rest t d H k r h => ?_⟩, fun f args H k r h => ?_⟩
    · exact fn_call_ok hih hd hN hDr hC hX (show (fnC P X C f).call (eval P X C n) args H k = some r from h)
    · exact roundStep_ok hih hN hDr (X := X) (C := C) (show stepJ P X C (eval P X C n) (.round l args H k) = some r from h)
    · exact loopStep_ok hih (codeC_ok hih hN hDr c) (show runC (codeC P c) (eval P X C n) ro t d H (loopK (eval P X C n) ro c k) = some r from h)
    · exact scopeStep_ok hih (codeC_ok hih hN hDr rest) (show runC (codeC P rest) (eval P X C n) ro t d H (scopeK (eval P X C n) ro c k) = some r from h)
    · exact fn_dcall_ok hih hN hDr (show (fnC P X C f).dcall (eval P X C n) args H k = some r from h)

/-! ### a closed run -/
theorem Rel.empty {w : World} (hl : Low w) (hz : Sym.zero = none) : Rel (fun _ => none) ⟨.leaf, 0⟩ w := ⟨fun _ _ => rfl, fun r o l h _ => by simp [Heap.get, Tree.get] at h, fun r r' o o' l l' h => by simp [Heap.get, Tree.get] at h, fun r _ => by simp [Heap.get, Tree.get], hl, fun r o l h => (by simp [Heap.get, Tree.get] at h), fun l hl => (by rw [hz] at hl; cases hl)⟩
def isTrue (v : AV) (_ : Heap) : Option Unit := match v with | .bool true => some () | _ => none
/-- A run that the evaluator ends with 'true' ends so on the machine, whatever the tape. -/
theorem run_true {n f : Nat} (hN : NoCount P) (hD : ∀ ih : Ih Unit, IhAll P ih → DrawsOk P ih) (hC : TableOk P C) (hX : ExtsOk P X)
    (h : (eval P X C n : Ih Unit) (.call f [] ⟨.leaf, 0⟩ isTrue) = some ()) (w : World) (m : Nat) (hl : Low w) (hz : Sym.zero = none) : CallOk P m f #[] w fun u w' => u = .bool true ∧ ∃ π H, Post (fun _ => none) ⟨.leaf, 0⟩ w π H w' := by
  obtain ⟨v', H', h1, h2⟩ := (eval_ok hN hD hC hX n).1.ops.call _ _ _ _ _ h
  have hv : v' = .bool true := by
    cases v' <;> try (cases h1; done)
    rename_i b
    cases b
    · cases h1
    · rfl
  subst hv
  have key : ∀ u w', After (fun _ => none) ⟨.leaf, 0⟩ w (.bool true) H' u w' → u = .bool true ∧ ∃ π H, Post (fun _ => none) ⟨.leaf, 0⟩ w π H w' := fun u w' ⟨π, h3, h4⟩ => ⟨conc_bool h3, π, H', h4⟩
  rcases h2 _ w [] m (Rel.empty hl hz) rfl with ⟨u, w', h3, h4⟩ | ⟨h3, h4⟩
  · exact .inl ⟨u, w', h3, key u w' h4⟩
  · exact .inr ⟨h3, h4.mono fun e w' ⟨u, he, h5⟩ => ⟨u, he, key u w' h5⟩⟩

end
end Go.Ev
