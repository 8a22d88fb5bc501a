/-
  The statement TopBudget, out of the law's contract.
-/
import Derived.Test.YtodobkbnmjgkdaaGreatPd23
set_option linter.unusedVariables false
namespace Go.Proofs.YtodobkbnmjgkdaaGreat.RTopBudget
open Go.ChangeShapes Go.WideShapes Go.ChangeAt Go.RowKit Go.Proofs

set_option maxRecDepth 100000 in
theorem lifted (os : Os) (started : os.Started) (H : Type) (enc : TypeId × Value → H) :
    ReturnsInHanded {} Tryz.checked os 6 .any (Rows.topBudgetSpec.pre6 enc Tryz.prog Tryz.f6 Rows.topBudgetRow.domain false) (Rows.topBudgetSpec.post enc Tryz.prog Tryz.f6 false true false false) := by
  refine returnsInHanded_of_change (C := Tryz.checked) HL.own started (by kernel_rfl) Tryz.func6
    (ChangeSpec.witness6 (enc := enc) (C := Tryz.checked) false ⟨#[], #[.int .i64 0, .int .i64 0, .slice none 0 0, .slice none 0 0], []⟩ 8 (by kernel_rfl) (by kernel_rfl) (by kernel_rfl) (by kernel_rfl)) ?_
  intro W base args ds gs before hval0 hW _ _
  have hval : ∀ (j : Nat) t v, Tryz.f6.params[j]? = some t → args[j]? = some v → Value.okWide Tryz.prog W .any base t v := hval0
  have hW' := hW
  obtain ⟨p, q, hA0, hV, rfl, hfz, fS⟩ := hW
  have hA : DataW.TrodAll enc Tryz.prog W 0 (fun _ => true) true Tryz.f6.params.toList args.toList ds p := hA0
  rw [Tryz.params6] at hA hval
  obtain ⟨v0, vs0, d0, ds0, p0, q0, hargs, rfl, rfl, h0, r0⟩ := trodAll_cons hA
  obtain ⟨v1, vs1, d1, ds1, p1, q1, rfl, rfl, rfl, h1, r1⟩ := trodAll_cons r0
  obtain ⟨v2, vs2, d2, ds2, p2, q2, rfl, rfl, rfl, h2, r2⟩ := trodAll_cons r1
  obtain ⟨v3, vs3, d3, ds3, p3, q3, rfl, rfl, rfl, h3, r3⟩ := trodAll_cons r2
  obtain ⟨rfl, rfl, rfl⟩ := trodAll_nil r3
  obtain rfl : args = #[v0, v1, v2, v3] := by cases args; simp_all
  obtain ⟨x0, rfl, rfl, rfl, w0⟩ := open_int Tryz.underlying3 (hval 0 3 v0 rfl rfl) h0
  obtain ⟨x1, rfl, rfl, rfl, w1⟩ := open_int Tryz.underlying3 (hval 1 3 v1 rfl rfl) h1
  obtain ⟨s2, l2, rfl, o2⟩ := HL.aGV (n := 5) (k := 6) Tryz.underlying75 (by kernel_rfl) (by kernel_rfl) (by decide) (hval 2 75 v2 rfl rfl) h2
  obtain ⟨s3, l3, rfl, o3⟩ := HL.aGV (n := 5) (k := 11) Tryz.underlying76 (by kernel_rfl) (by kernel_rfl) (by decide) (hval 3 76 v3 rfl rfl) h3
  clear hA hA0 hval0 hval
  refine (HL.aGI (by kernel_rfl) (HL.aBr (R := fun v _ => v = .bool true) (fun _ => rfl) (HL.aEC w0) (HL.aEC w1) (HL.aHy.rdF o2 _) (HL.aHy.rdF o3 _))).mono fun e W' ⟨v, he, ⟨_, hv⟩, hB⟩ => ?_
  subst hv
  obtain ⟨rfl, rfl⟩ := trodVars_none hV
  exact ⟨_, he, HL.aGx HL.laidOut hW' rfl (by kernel_rfl) (by kernel_rfl) Tryz.underlying4 rfl hB⟩

theorem proved : Rows.TopBudgetSaid :=
  OpenClaim.holds_of_wide 6 Tryz.f6 rfl rfl rfl rfl rfl rfl rfl ⟨rfl, rfl, rfl, rfl, rfl⟩ rfl rfl rfl rfl rfl (by kernel_rfl) Tryz.func6 (by kernel_rfl)
    (of_decide_eq_true (by kernel_rfl)) (by unfold Func.isWrapper; first | (rw [if_pos (by decide +kernel)]; kernel_rfl) | (rw [if_neg (by decide +kernel)]; exact ⟨rfl, rfl⟩))
    (fun os started H enc _ => lifted os started H enc)

end Go.Proofs.YtodobkbnmjgkdaaGreat.RTopBudget
