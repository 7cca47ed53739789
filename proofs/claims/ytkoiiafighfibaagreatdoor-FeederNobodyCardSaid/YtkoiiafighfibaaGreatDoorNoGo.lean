/- No function of the translation starts a goroutine. -/
import Derived.Test.YtkoiiafighfibaaGreatDoorCards
import Derived.KernelRfl
namespace Go.Proofs.YtkoiiafighfibaaGreatDoor
set_option maxRecDepth 100000
theorem noGo : Tryz.prog.funcs.toList.all (fun fn => !fn.goes) = true := by kernel_rfl
theorem goesNone {P : Program} (h : P.funcs.toList.all (fun fn => !fn.goes) = true) (f : FuncId) : P.goes f = false := by
  have hall : ∀ g : Nat, (P.funcs[g]?).any Func.goes = false := by
    intro g
    cases hg : P.funcs[g]? with
    | none => rfl
    | some fn =>
      have := List.all_eq_true.1 h fn (by rw [Array.mem_toList_iff]; exact Array.mem_of_getElem? hg)
      simpa using this
  have hany : P.funcs.any Func.goes = false := by
    rw [← Array.any_toList, List.any_eq_false]
    intro fn hfn
    have := List.all_eq_true.1 h fn hfn
    simpa using this
  unfold Program.goes
  rw [hany, Bool.and_false, Bool.or_false, List.any_eq_false]
  intro g _
  simp [hall g]
theorem goes : false = Rows.feederNobodyRow.goesBy Tryz.pinned.checked.prog := by
  have h : Tryz.pinned.checked.prog.goes = fun _ => false := funext fun f => goesNone (P := Tryz.prog) noGo f
  unfold OpenClaim.goesBy Program.goesAt Program.goesFrom
  rw [h]
  have hs : Rows.feederNobodyRow.start = .entering := rfl
  rw [hs]
  cases Tryz.pinned.checked.prog.funcNamed Rows.feederNobodyRow.func <;> rfl
end Go.Proofs.YtkoiiafighfibaaGreatDoor
