/- The row's statement of the law FeederNobody: every call returns true and its argument reads as before. -/
import Derived.Test.YtkoiiafighfibaaGreatDoorRunA
import Derived.Test.YtkoiiafighfibaaGreatDoorFacts
namespace Go.Proofs.YtkoiiafighfibaaGreatDoor
open Go.ChangeShapes Go.WideShapes Go.ChangeAt Go.RowKit Go.Ev

theorem funcIs : Tryz.prog.funcNamed "tailrace/tailracelaw23.FeederNobody" = some 3 := by kernel_rfl
theorem instIs : Tryz.f3.isInstance Tryz.prog Rows.feederNobodyRow.origin Rows.feederNobodyRow.targs := of_decide_eq_true (by kernel_rfl)
theorem wrapIs : Tryz.f3.isWrapper Tryz.prog Rows.feederNobodyRow.wrapper Rows.feederNobodyRow.mainSum := by
  unfold Func.isWrapper; first | (rw [if_pos (by decide +kernel)]; kernel_rfl) | (rw [if_neg (by decide +kernel)]; exact ⟨rfl, rfl⟩)

theorem said : Rows.FeederNobodySaid :=
  OpenClaim.holds_of_wide 3 Tryz.f3 rfl rfl rfl rfl rfl rfl rfl ⟨rfl, rfl, rfl, rfl, rfl⟩ rfl rfl rfl rfl rfl funcIs Tryz.func3 closed
    instIs wrapIs (fun os started H enc _ => lifted os started H enc)

end Go.Proofs.YtkoiiafighfibaaGreatDoor
