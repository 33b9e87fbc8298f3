/- The examples of the chapter on scripts are answered as it says, for the given program: the law ScriptKnown takes nothing and returns true, in whatever memory it is called and whatever the order of evaluation; no condition. -/
import Derived.Test.YtdeclfigaalkpaaGreatDoorFf
import Derived.Test.YtdeclfigaalkpaaGreatDoorWalk
import Derived.Test.YtdeclfigaalkpaaGreatDoorCards
import Derived.Test.YtdeclfigaalkpaaGreatDoorKf
import Derived.Stop.Joined
import Derived.SevenTiedAt
namespace Go.Proofs.YtdeclfigaalkpaaGreatDoor
open Go.ChangeShapes Go.WideShapes Go.ChangeAt Go.WideMaps Go.WideElems Go.RowKit Go.Ev

theorem named3 : Tryz.prog.funcNamed "tributary/tributarylaw31.ScriptKnown" = some 3 := by kernel_rfl
theorem goesBy : Rows.scriptKnownRow.goesBy Tryz.prog = false := by
  show ((Tryz.prog.funcNamed "tributary/tributarylaw31.ScriptKnown").any Tryz.prog.goes || false) = false
  rw [named3, Option.any_some, goes]; rfl
set_option maxRecDepth 1000000 in
theorem byText : Rows.scriptKnownRow.wfByText (OpenSpec.ofChange Rows.scriptKnownSpec) = true := by kernel_rfl
theorem isMain : Tryz.prog.mainIs = some (true, "3ff8ca02909ab9f4ed494ac5e74d4081b79a2bd33b51254ec355614588bfc9e4".toList) := by kernel_rfl
theorem noLooks : false = Tryz.prog.looks [] := by kernel_rfl
theorem wrap3 : Tryz.f3.isWrapper Tryz.prog Rows.scriptKnownRow.wrapper Rows.scriptKnownRow.mainSum := by
  unfold Func.isWrapper; first | (rw [if_pos (by decide +kernel)]; kernel_rfl) | (rw [if_neg (by decide +kernel)]; exact ⟨rfl, rfl⟩)
theorem inst3 : Tryz.f3.isInstance Tryz.prog Rows.scriptKnownRow.origin Rows.scriptKnownRow.targs := of_decide_eq_true (by kernel_rfl)

theorem known_holds : Rows.ScriptKnownSaid :=
  OpenClaim.holds_of_wide 3 Tryz.f3 rfl rfl rfl rfl rfl rfl rfl ⟨rfl, rfl, rfl, rfl, rfl⟩ rfl rfl rfl rfl rfl named3 Tryz.func3 joined inst3 wrap3
    (fun os started H enc _ => lifted os started H enc)

theorem card_holds : Rows.ScriptKnownCardSaid :=
  Claim7.holds_tied_plain_at .later [] [.data, .pinned] true (true, "3ff8ca02909ab9f4ed494ac5e74d4081b79a2bd33b51254ec355614588bfc9e4") false
    known_holds (fun _ h => by cases h) byText (fun _ h => by cases h) rowTie rfl ⟨rfl, rfl⟩ isMain rfl
    (fun f fn hf hfn => by
      obtain rfl : f = 3 := Option.some.inj (named3.symm.trans hf) |>.symm
      obtain rfl : fn = Tryz.f3 := (Option.some.inj (Tryz.func3.symm.trans hfn)).symm
      exact ⟨noLooks, fun j t ht => by
        rw [Tryz.params3] at ht
        simp at ht⟩)
    goesBy.symm
end Go.Proofs.YtdeclfigaalkpaaGreatDoor
