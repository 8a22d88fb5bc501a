/-
  The statement FibDrops, out of the law's contract.
-/
import Derived.Test.YtbkicgfgpmekeaaGreatXf
import Derived.Test.YtbkicgfgpmekeaaGreatHlR
set_option linter.unusedVariables false
namespace Go.Proofs.YtbkicgfgpmekeaaGreat.RFibDrops
open Go.ChangeShapes Go.WideShapes Go.ChangeAt Go.RowKit Go.Proofs

set_option maxRecDepth 100000 in
theorem lifted (os : Os) (started : os.Started) (H : Type) (enc : TypeId × Value → H) :
    ReturnsInHanded {} Tryz.checked os 6 .any (Rows.fibDropsSpec.pre6 enc Tryz.prog Tryz.f6 Rows.fibDropsRow.domain false) (Rows.fibDropsSpec.post enc Tryz.prog Tryz.f6 false true false false) := by
  refine returnsInHanded_of_change (C := Tryz.checked) HL.own started (by kernel_rfl) Tryz.func6
    (ChangeSpec.witness6 (enc := enc) (C := Tryz.checked) false ⟨#[], #[.slice none 0 0, .int .i64 0], []⟩ 8 (by kernel_rfl) (by kernel_rfl) (by kernel_rfl) (by kernel_rfl)) ?_
  intro W base args ds gs before hval0 hW _ _
  have hval : ∀ (j : Nat) t v, Tryz.f6.params[j]? = some t → args[j]? = some v → Value.okWide Tryz.prog W .any base t v := hval0
  have hW' := hW
  obtain ⟨p, q, hA0, hV, rfl, hfz, hnd⟩ := hW
  have hA : DataW.TrodAll enc Tryz.prog W 0 (fun _ => true) true Tryz.f6.params.toList args.toList ds p := hA0
  rw [Tryz.params6] at hA hval
  obtain ⟨v0, vs0, d0, ds0, p0, q0, hargs, rfl, rfl, h0, r0⟩ := trodAll_cons hA
  obtain ⟨v1, vs1, d1, ds1, p1, q1, rfl, rfl, rfl, h1, r1⟩ := trodAll_cons r0
  obtain ⟨rfl, rfl, rfl⟩ := trodAll_nil r1
  obtain rfl : args = #[v0, v1] := by cases args; simp_all
  obtain ⟨s0, l0, rfl, o0⟩ := HL.open_F (n := 5) (k := 4) Tryz.underlying37 (by kernel_rfl) (by kernel_rfl) (by decide) (hval 0 37 v0 rfl rfl) h0
  obtain ⟨x1, rfl, rfl, rfl, w1⟩ := open_int Tryz.underlying3 (hval 1 3 v1 rfl rfl) h1
  clear hA hA0 hval0 hval
  refine (HL.law_calls (by kernel_rfl) (HL.lw_drops (R := fun v _ => v = .bool true) (fun _ => rfl) (HL.OldF.rdF o0 _) (HL.int_wf w1))).mono fun e W' ⟨v, he, ⟨_, hv⟩, hB⟩ => ?_
  subst hv
  obtain ⟨rfl, rfl⟩ := trodVars_none hV
  exact ⟨_, he, HL.post_true HL.laidOut hW' rfl (by kernel_rfl) (by kernel_rfl) Tryz.underlying4 rfl hB⟩

theorem proved : Rows.FibDropsSaid :=
  OpenClaim.holds_of_wide 6 Tryz.f6 rfl rfl rfl rfl rfl rfl rfl ⟨rfl, rfl, rfl, rfl, rfl⟩ rfl rfl rfl rfl rfl (by kernel_rfl) Tryz.func6 (by kernel_rfl)
    (of_decide_eq_true (by kernel_rfl)) (by unfold Func.isWrapper; first | (rw [if_pos (by decide +kernel)]; kernel_rfl) | (rw [if_neg (by decide +kernel)]; exact ⟨rfl, rfl⟩))
    (fun os started H enc _ => lifted os started H enc)

end Go.Proofs.YtbkicgfgpmekeaaGreat.RFibDrops
