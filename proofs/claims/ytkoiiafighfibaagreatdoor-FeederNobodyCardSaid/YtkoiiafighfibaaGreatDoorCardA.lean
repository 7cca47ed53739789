/- The law FeederNobody: the tied card: every call returns true and leaves its argument as it was, the listed variables tied to the text. -/
import Derived.Test.YtkoiiafighfibaaGreatDoorSaidA
import Derived.Test.YtkoiiafighfibaaGreatDoorNoGo
namespace Go.Proofs.YtkoiiafighfibaaGreatDoor
open Go.ChangeShapes Go.WideShapes Go.ChangeAt Go.RowKit Go.Ev

theorem looksOn : true = Tryz.pinned.checked.prog.looks [] := by kernel_rfl
theorem noStandIn : Tryz.prog.wantsStandIn 44 = false := by kernel_rfl
theorem plain (f : FuncId) (fn : Func) (hf : Tryz.pinned.checked.prog.funcNamed "tailrace/tailracelaw23.FeederNobody" = some f) (hfn : Tryz.pinned.checked.prog.funcs[f]? = some fn) :
    true = Tryz.pinned.checked.prog.looks [] ∧ ∀ (j : Nat) t, fn.params[j]? = some t → Tryz.pinned.checked.prog.wantsStandIn t = false := by
  obtain rfl : f = 3 := Option.some.inj (funcIs.symm.trans hf) |>.symm
  obtain rfl : fn = Tryz.f3 := (Option.some.inj (Tryz.func3.symm.trans hfn)).symm
  refine ⟨looksOn, fun j t ht => ?_⟩
  rw [Tryz.params3] at ht
  obtain rfl : t = 44 := by simpa using Array.mem_of_getElem? ht
  exact noStandIn

theorem byText : Rows.feederNobodyRow.wfByText (OpenSpec.ofChange Rows.feederNobodySpec) = true := by kernel_rfl
theorem mainOf : Tryz.pinned.checked.prog.mainIs = some (true, "6c745331d313960a0db00701511cf19ddcb147a044419bc919f09237b1ee83e3".toList) := by kernel_rfl
theorem card : Rows.FeederNobodyCardSaid :=
  Claim7.holds_tied_plain_at .later [] _ _ _ _ said (fun _ h => by cases h) byText (fun _ h => by cases h) feederNobody_row_tie rfl ⟨rfl, rfl⟩ mainOf rfl plain goes
#print axioms card
end Go.Proofs.YtkoiiafighfibaaGreatDoor
