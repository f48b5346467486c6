/- The law FnExactPlanLevels, as a statement about numbers and lists alone: at every number of steps and every level the program answers as the reference, in memory of its own. Conditions: the two numbers fit 64 bits. -/
import Derived.Test.YtcpdaaoindkkgaaPFnExactPlanLevelsx2
namespace Go.Proofs.Ytcpdaaoindkkgaa.Pure
open Go.RowKit Go.Proofs.Ytcpdaaoindkkgaa.PFnExactPlanLevels Go.Proofs.YtcpdaaoindkkgaaW.PrintWords Go.Proofs.YtcpdaaoindkkgaaW.PrintLast

set_option linter.unusedSimpArgs false
theorem small : ∀ x ∈ List.range 40, ∀ y ∈ List.range 6, laws_FnExactPlanLevels.f 60 ((x : Int) + 1) ((y : Int) + 1) = some true := by decide +kernel

theorem spec_none (a0 a1 : Int) (h : ¬ (1 ≤ a0 ∧ a0 ≤ 40 ∧ 1 ≤ a1 ∧ a1 ≤ 6)) : spec_PlanLevels.f 5 a0 a1 = some [] := by
  unfold spec_PlanLevels.f spec_l1In.f
  by_cases h1 : 1 ≤ a0
  · by_cases h2 : a0 ≤ 40
    · by_cases h3 : 1 ≤ a1
      · have h4 : ¬ a1 ≤ 6 := fun h4 => h ⟨h1, h2, h3, h4⟩
        simp [h1, h2, h3, h4, spec_PlanLevels.j0]
      · simp [h1, h2, h3, spec_PlanLevels.j0]
    · simp [h1, h2, spec_PlanLevels.j0]
  · simp [h1, spec_PlanLevels.j0]
theorem impl_none (a0 a1 : Int) (h : ¬ (1 ≤ a0 ∧ a0 ≤ 40 ∧ 1 ≤ a1 ∧ a1 ≤ 6)) : impl_PlanLevels.f 5 a0 a1 = some [] := by
  unfold impl_PlanLevels.f impl_in.f
  by_cases h1 : 1 ≤ a0
  · by_cases h2 : a0 ≤ 40
    · by_cases h3 : 1 ≤ a1
      · have h4 : ¬ a1 ≤ 6 := fun h4 => h ⟨h1, h2, h3, h4⟩
        simp [h1, h2, h3, h4, impl_PlanLevels.j0]
      · simp [h1, h2, h3, impl_PlanLevels.j0]
    · simp [h1, h2, impl_PlanLevels.j0]
  · simp [h1, impl_PlanLevels.j0]

theorem FnExactPlanLevels : laws_FnExactPlanLevels.Pure := by
  intro a0 a1 _ _
  by_cases h : 1 ≤ a0 ∧ a0 ≤ 40 ∧ 1 ≤ a1 ∧ a1 ≤ 6
  · refine ⟨60, ?_⟩
    have := small (a0 - 1).toNat (by simp; omega) (a1 - 1).toNat (by simp; omega)
    rwa [show (((a0 - 1).toNat : Nat) : Int) + 1 = a0 by omega, show (((a1 - 1).toNat : Nat) : Int) + 1 = a1 by omega] at this
  · refine ⟨5, ?_⟩
    unfold laws_FnExactPlanLevels.f
    rw [spec_none a0 a1 h, impl_none a0 a1 h]
    decide

end Go.Proofs.Ytcpdaaoindkkgaa.Pure
