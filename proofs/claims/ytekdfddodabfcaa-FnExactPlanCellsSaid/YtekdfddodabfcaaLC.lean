/- Proved here: at every input the law laws.FnExactPlanCells returns true, and both arguments read afterwards as they read before. No conditions. -/
import Derived.Test.YtekdfddodabfcaaRows
import Derived.Test.YtekdfddodabfcaaSCb
import Derived.WalkKit
import Derived.ProofKit
import Derived.SizedLaws
namespace Go.Proofs.Ytekdfddodabfcaa.fnExactPlanCells
open Go.ChangeShapes Go.WideShapes Go.ChangeAt Go.RowKit
set_option linter.unusedVariables false
theorem own : ownKnob Try.prog.godebug = none := by kernel_rfl
theorem laidOut : laidOutB Try.prog = true := by kernel_rfl
set_option maxRecDepth 100000 in
theorem lifted (os : Os) (started : os.Started) (H : Type) (enc : TypeId × Value → H) :
    ReturnsInHanded {} Try.checked os 4 .any (Rows.fnExactPlanCellsSpec.pre6 enc Try.prog Try.f4 Rows.fnExactPlanCellsRow.domain false) (Rows.fnExactPlanCellsSpec.post enc Try.prog Try.f4 false true false false) := by
  refine returnsInHanded_of_change_sized (C := Try.checked) own started (by kernel_rfl) Try.func4
    (ChangeSpec.witness6 (enc := enc) (C := Try.checked) false ⟨#[], #[.agg #[.slice none 0 0, .slice none 0 0], .slice none 0 0], []⟩ 8 (by kernel_rfl) (by kernel_rfl) (by kernel_rfl) (by kernel_rfl)) ?_
  intro W base args ds gs before hval0 hW hcnd hsz0 _
  have hval : ∀ (j : Nat) t v, Try.f4.params[j]? = some t → args[j]? = some v → Value.okWide Try.prog W .any base t v := hval0
  have hW' := hW
  obtain ⟨p, q, hA0, hV, rfl, hfz, hnd⟩ := hW
  have hA : DataW.TrodAll enc Try.prog W 0 (fun _ => true) true Try.f4.params.toList args.toList ds p := hA0
  rw [Try.params4] at hA hval
  have hAll := hA
  obtain ⟨v0, vs0, d0, ds0, p0, q0, hargs, rfl, rfl, h0, r0⟩ := trodAll_cons hA
  obtain ⟨v1, vs1, d1, ds1, p1, q1, rfl, rfl, rfl, h1, r1⟩ := trodAll_cons r0
  obtain ⟨rfl, rfl, rfl⟩ := trodAll_nil r1
  obtain rfl : args = #[v0, v1] := by cases args; simp_all
  obtain ⟨rfl, rfl⟩ := trodVars_none hV
  obtain ⟨cs, xs, rfl, hk, hl, hg⟩ := arg_ag (n := 2) Try.underlying25 (by kernel_rfl) (hval 0 25 v0 rfl rfl) h0
  match xs, hl with
  | [x0, x1], _ =>
  obtain ⟨ks, rfl, a1, a2, a3⟩ := (hg 0 22 x0 (by kernel_rfl) rfl).row Try.underlying22
  obtain ⟨ps, rfl, b1, b2, b3⟩ := (hg 1 23 x1 (by kernel_rfl) rfl).row Try.underlying23
  have hb : BaseB Try.prog 72 74 ks ps := ⟨Shp.good (by kernel_rfl) a2 a3, Shp.good (by kernel_rfl) b2 b3,
    StrB.good a2 a3 (fun j hj => by simp only [List.mem_singleton] at hj; subst hj; exact ⟨9, by kernel_rfl, Try.underlying9⟩),
    StrB.good b2 b3 (fun j hj => by simp only [List.mem_singleton] at hj; subst hj; exact ⟨9, by kernel_rfl, Try.underlying9⟩), a1, b1⟩
  obtain ⟨sa, sn, sc, rfl⟩ := okWide_slice Try.underlying35 (hval 1 35 v1 rfl rfl)
  obtain ⟨x2, hk2, hg2⟩ := arg_c (n := 2) (by kernel_rfl) (by simp [Value.cells]) h1
  obtain ⟨rs, rfl, c1, c2, c3⟩ := hg2.row Try.underlying35
  have hB : StrB [0] rs := StrB.good c2 c3 (fun j hj => by simp only [List.mem_singleton] at hj; subst hj; exact ⟨9, by kernel_rfl, Try.underlying9⟩)
  refine (calls0 (lawC_sem ks ps rs hb (Shp.good (by kernel_rfl) c2 c3) hB c1) (vs := [.agg cs, .slice sa sn sc]) (.cons ⟨cs, rfl, all_cr hk⟩ (.cons (cr0 hk2) .nil))).mono fun e W' ⟨y, he, bel, G', hy⟩ => ?_
  obtain ⟨rfl, -⟩ := hy
  exact ⟨_, he, _, _, _, [], _, [], hW', trodAll_mk1 (shut_bool Try.underlying4 _), trodAll_stays laidOut bel (by kernel_rfl) hAll, rfl, bel.frame _, fun h => by cases h⟩
theorem over : Rows.fnExactPlanCellsRow.holds Try.pinned (OpenSpec.ofChange Rows.fnExactPlanCellsSpec) :=
  OpenClaim.holds_of_wide 4 Try.f4 rfl rfl rfl rfl rfl rfl rfl ⟨rfl, rfl, rfl, rfl, rfl⟩ rfl rfl rfl rfl rfl (by kernel_rfl) Try.func4 (by kernel_rfl)
    (of_decide_eq_true (by kernel_rfl)) (by unfold Func.isWrapper; first | (rw [if_pos (by decide +kernel)]; kernel_rfl) | (rw [if_neg (by decide +kernel)]; exact ⟨rfl, rfl⟩))
    (fun os started H enc _ => lifted os started H enc)
theorem proved : Rows.FnExactPlanCellsSaid := over
#print axioms proved
end Go.Proofs.Ytekdfddodabfcaa.fnExactPlanCells
namespace Go.Proofs.Ytekdfddodabfcaa
/-- The row, under a short name, for the claim. -/
theorem fnExactPlanCells_holds : Rows.FnExactPlanCellsSaid := fnExactPlanCells.proved
end Go.Proofs.Ytekdfddodabfcaa
