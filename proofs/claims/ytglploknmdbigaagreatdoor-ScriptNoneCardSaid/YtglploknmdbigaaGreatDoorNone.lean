/- Of a fleet that is nil, or that nobody made, no round is done, none is enough, and it is not settled: for the given program the law ScriptNone answers true at every list of steps, in whatever memory it is called and whatever the order of evaluation, and leaves the list as it was; no condition. -/
import Derived.Test.YtglploknmdbigaaGreatDoorFf
import Derived.Test.YtglploknmdbigaaGreatDoorNd
import Derived.Test.YtglploknmdbigaaGreatDoorKf
import Derived.Test.YtglploknmdbigaaGreatDoorCards
import Derived.Stop.Joined
import Derived.SevenTiedAt
namespace Go.Proofs.YtglploknmdbigaaGreatDoor
open Go.ChangeShapes Go.WideShapes Go.ChangeAt Go.WideMaps Go.WideElems Go.RowKit Go.Ev

theorem named3 : Tryz.prog.funcNamed "tributary/tributarylaw31.ScriptNone" = some 3 := by kernel_rfl
theorem goesBy : Rows.scriptNoneRow.goesBy Tryz.prog = false := by
  show ((Tryz.prog.funcNamed "tributary/tributarylaw31.ScriptNone").any Tryz.prog.goes || false) = false
  rw [named3, Option.any_some, goes]; rfl
set_option maxRecDepth 1000000 in
theorem byText : Rows.scriptNoneRow.wfByText (OpenSpec.ofChange Rows.scriptNoneSpec) = true := by kernel_rfl
theorem isMain : Tryz.prog.mainIs = some (true, "6e78be5ba88c8bbffa7fc78927115442c43411638ae16b87def713daf0625b80".toList) := by kernel_rfl
theorem noLooks : false = Tryz.prog.looks [] := by kernel_rfl
theorem noStand : Tryz.prog.wantsStandIn 22 = false := by kernel_rfl
theorem wrap3 : Tryz.f3.isWrapper Tryz.prog Rows.scriptNoneRow.wrapper Rows.scriptNoneRow.mainSum := by
  unfold Func.isWrapper; first | (rw [if_pos (by decide +kernel)]; kernel_rfl) | (rw [if_neg (by decide +kernel)]; exact ⟨rfl, rfl⟩)
theorem inst3 : Tryz.f3.isInstance Tryz.prog Rows.scriptNoneRow.origin Rows.scriptNoneRow.targs := of_decide_eq_true (by kernel_rfl)

theorem none_holds : Rows.ScriptNoneSaid :=
  OpenClaim.holds_of_wide 3 Tryz.f3 rfl rfl rfl rfl rfl rfl rfl ⟨rfl, rfl, rfl, rfl, rfl⟩ rfl rfl rfl rfl rfl named3 Tryz.func3 joined inst3 wrap3
    (fun os started H enc _ => lifted os started H enc)

theorem card_holds : Rows.ScriptNoneCardSaid :=
  Claim7.holds_tied_plain_at .later [] [.data, .pinned] true (true, "6e78be5ba88c8bbffa7fc78927115442c43411638ae16b87def713daf0625b80") false
    none_holds (fun _ h => by cases h) byText (fun _ h => by cases h) rowTie rfl ⟨rfl, rfl⟩ isMain rfl
    (fun f fn hf hfn => by
      obtain rfl : f = 3 := Option.some.inj (named3.symm.trans hf) |>.symm
      obtain rfl : fn = Tryz.f3 := (Option.some.inj (Tryz.func3.symm.trans hfn)).symm
      exact ⟨noLooks, fun j t ht => by
        rw [Tryz.params3] at ht
        have ht' : t = 22 := by
          rcases j with _ | j
          · simpa using ht.symm
          · simp at ht
        subst ht'
        exact noStand⟩)
    goesBy.symm
#print axioms card_holds
end Go.Proofs.YtglploknmdbigaaGreatDoor
