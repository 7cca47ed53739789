/- The law FeederNobody, run by the evaluator, and what the run gives for every argument and world. -/
import Derived.Test.YtkoiiafighfibaaGreatDoorEvU
import Derived.Test.YtkoiiafighfibaaGreatDoorCards
import Derived.Test.YtkoiiafighfibaaGreatDoorTie
import Derived.ProofKit
import Derived.OpenShut
import Derived.LaidMore
import Derived.Lay
import Derived.SevenTiedAt
import Derived.Stop.Joined
namespace Go.Ev
open Go.RowKit

theorem cell_oneCell {P : Program} {w : World} {r : Reach} {base : Nat} {t : TypeId} {v : Value} (h : Cell.okWide P w r base t v) : v.oneCell' = true := by
  cases v <;> first | rfl | (exfalso; revert h; unfold Cell.okWide; split <;> first | (intro h; simp_all; done) | (unfold Cell.ok; split <;> simp_all))

theorem vrs_any {σ : Sg} : ∀ {xs : List Value}, (∀ x ∈ xs, x.oneCell' = true) → VRs σ (List.replicate xs.length .any) xs
  | [], _ => VRs.nil
  | x :: xs, h => VRs.cons (by simp only [VR]; exact h x (by simp)) (vrs_any fun y hy => h y (by simp [hy]))

/-- An argument of a struct type, whatever it holds. -/
theorem vr_any {P : Program} {σ : Sg} {w : World} {base n : Nat} {t : TypeId} {fs : Array Field} {v : Value} (ht : P.underlying t = some (.struct fs)) (hn : P.cellsOf t = n)
    (h : Value.okWide P w .any base t v) : VR σ (.agg (List.replicate n .any)) v := by
  unfold Value.okWide at h
  rw [ht] at h
  obtain ⟨cs, rfl, hs, ts, _, _, hall⟩ := h
  simp only [VR]
  refine ⟨?_, cs.toList, ?_, by simp⟩
  · rw [allScal_iff]; intro a ha; rw [List.eq_of_mem_replicate ha]; rfl
  · have : n = cs.toList.length := by rw [← hn, ← hs]; simp
    rw [this]
    refine vrs_any fun x hx => ?_
    obtain ⟨i, hi, rfl⟩ := List.getElem_of_mem hx
    obtain ⟨u, _, hu⟩ := hall i cs[i] (by simp)
    exact cell_oneCell hu

/-- WHAT A RUN THAT SAYS TRUE GIVES. -/
theorem says_below {P : Program} {lf n f : Nat} {args : List AV} (hmix : P.follows .mixedOrders = true) (hr : saysTrue (runF (tblG P lf) n f args hp0) = true)
    {w : World} {cargs : List Value} (hargs : VRs (fun _ => none) args cargs) :
    Calls P f cargs.toArray w fun e w' => e = .returned (.bool true) ∧ Below w.heap.size w w' :=
  (says hmix hr hargs).mono fun _ _ h => ⟨h.1, h.2.1, h.2.2.1, h.2.2.2.1, h.2.2.2.2.1, h.2.2.2.2.2⟩
end Go.Ev

namespace Go.Proofs.YtkoiiafighfibaaGreatDoor
open Go.ChangeShapes Go.WideShapes Go.ChangeAt Go.RowKit Go.Ev

theorem own : ownKnob Tryz.prog.godebug = none := by kernel_rfl
theorem laidOut : laidOutB Tryz.prog = true := by kernel_rfl
theorem mix : Tryz.prog.follows .mixedOrders = true := by kernel_rfl
theorem cells44 : Tryz.prog.cellsOf 44 = 41 := by kernel_rfl
set_option maxRecDepth 100000 in
theorem run3 : saysTrue (runF (tblG Tryz.prog 8) 12 3 [.agg (List.replicate 41 .any)] hp0) = true := by kernel_rfl

set_option maxRecDepth 100000 in
theorem lifted (os : Os) (started : os.Started) (H : Type) (enc : TypeId × Value → H) :
    ReturnsInHanded {} Tryz.checked os 3 .any (fun w args => (Rows.feederNobodySpec.pre enc Tryz.prog Tryz.f3 Rows.feederNobodyRow.domain false w args ∧ laidMetH Tryz.prog Rows.feederNobodyRow.laid w) ∧ sizedMet enc Tryz.prog Tryz.f3 (OpenSpec.ofChange Rows.feederNobodySpec) false w args)
      (Rows.feederNobodySpec.post enc Tryz.prog Tryz.f3 false true false false) := by
  refine returnsInHanded_of_change_and (C := Tryz.checked) (X := fun w _ => laidMetH Tryz.prog Rows.feederNobodyRow.laid w) (fun _ _ _ hh h => h.of_heap hh) own started (by kernel_rfl) Tryz.func3
    (ChangeSpec.witness_shaped (enc := enc) (C := Tryz.checked) (os := os) (X := fun w _ => laidMetH Tryz.prog Rows.feederNobodyRow.laid w) false (World.laidAll Tryz.prog os Rows.feederNobodyRow.laid) #[((Tryz.prog.info? 44).bind (·.zero)).getD default] 8 (World.laidAll_os _ _ _)
      (World.shaped_of_ZipB (by kernel_rfl) (by kernel_rfl)) (by kernel_rfl) (by kernel_rfl) (by kernel_rfl)
      (by rw [MakeChecks.laidMetH_plain _ _ _ (by kernel_rfl)]; exact laidMet_laidAll _ (by kernel_rfl) (by kernel_rfl))) ?_
  intro W base args ds gs before hval0 hW hc _ hL _
  have hval : ∀ (j : Nat) t v, Tryz.f3.params[j]? = some t → args[j]? = some v → Value.okWide Tryz.prog W .any base t v := hval0
  have hW' := hW
  obtain ⟨p, q, hA0, hV, rfl, _, _⟩ := hW
  have hA : DataW.TrodAll enc Tryz.prog W 0 (fun _ => true) true Tryz.f3.params.toList args.toList ds p := hA0
  rw [Tryz.params3] at hA hval
  obtain ⟨v0, d0, rfl, rfl, h0⟩ := trodAll_one hA
  obtain ⟨rfl, rfl⟩ := trodVars_none hV
  have hv : VR (fun _ => none) (.agg (List.replicate 41 .any)) v0 := vr_any Tryz.underlying44 cells44 (hval 0 44 v0 rfl rfl)
  simp only [List.append_nil] at hW'
  have hlt : ∀ x ∈ p, x.block < W.heap.size := fun x hx => by simpa using hW'.lt x hx
  refine (says_below (f := 3) mix run3 (w := W) (VRs.cons hv VRs.nil)).mono fun e W' ⟨he, hb⟩ => ?_
  subst he
  refine ⟨_, rfl, [d0], [], p, [], p, [], hW', trodAll_mk1 (shut_bool Tryz.underlying4 _), ?_, rfl, hb.frame _, fun h => by cases h⟩
  exact trodAll_mk1 (Below.trod laidOut (by kernel_rfl) (of_decide_eq_true (by kernel_rfl)) h0 hb hlt)

end Go.Proofs.YtkoiiafighfibaaGreatDoor
