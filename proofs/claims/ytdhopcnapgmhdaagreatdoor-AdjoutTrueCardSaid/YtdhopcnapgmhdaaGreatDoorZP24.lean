/-
  AdjoutTrue returns true at every row of steps and leaves its argument as it was: the tied card.
-/
import Derived.Test.YtdhopcnapgmhdaaGreatDoorZP23
import Derived.Test.YtdhopcnapgmhdaaGreatDoorZP24a
set_option linter.unusedSimpArgs false
set_option linter.unusedVariables false
set_option linter.unusedSectionVars false
namespace Go.Proofs.YtdhopcnapgmhdaaGreatDoor
open Go
set_option maxRecDepth 100000
theorem adjoutTrue_said : Rows.AdjoutTrueSaid :=
  OpenClaim.holds_of_wide 5 Tryz.f5 rfl rfl rfl rfl rfl rfl rfl ⟨rfl, rfl, rfl, rfl, rfl⟩ rfl rfl rfl rfl rfl (by kernel_rfl) Tryz.func5 closed5
    (of_decide_eq_true (by kernel_rfl)) (by unfold Func.isWrapper; first | (rw [if_pos (by decide +kernel)]; kernel_rfl) | (rw [if_neg (by decide +kernel)]; exact ⟨rfl, rfl⟩))
    (fun os started H enc _ => lifted5 os started H enc)
theorem adjoutTrue_holds : Rows.AdjoutTrueCardSaid :=
  Claim7.holds_tied_plain_at .later [] [.data, .data, .data, .data, .sentinel, .sentinel, .pinned] true (true, "0b3b27e3d9306acf5dbbd99b6e23e4ff6a185f43c055dd3748dc0c3c5fc77ad3") true
    adjoutTrue_said (fun _ h => by cases h) (by kernel_rfl) (fun _ h => by cases h) adjoutTrue_row_tie rfl ⟨rfl, rfl⟩ (by kernel_rfl) rfl
    (fun f fn hf hfn => by
      obtain rfl : f = 5 := Option.some.inj ((show Tryz.prog.funcNamed "herald/heraldlaw29.AdjoutTrue" = some 5 by kernel_rfl).symm.trans hf) |>.symm
      obtain rfl : fn = Tryz.f5 := (Option.some.inj (Tryz.func5.symm.trans hfn)).symm
      exact ⟨by kernel_rfl, fun j t ht => by
        rw [par5] at ht
        have hm : t ∈ [69] := by simpa using Array.mem_of_getElem? ht
        have hall : ([69].all fun u => !Tryz.prog.wantsStandIn u) = true := by kernel_rfl
        exact (show Tryz.prog.wantsStandIn t = false by simpa using List.all_eq_true.1 hall t hm)⟩)
    (by kernel_rfl)
#print axioms adjoutTrue_holds
end Go.Proofs.YtdhopcnapgmhdaaGreatDoor
