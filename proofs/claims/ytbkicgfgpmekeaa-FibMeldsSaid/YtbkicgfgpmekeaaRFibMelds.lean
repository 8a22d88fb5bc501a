/-
  The statement FibMelds, out of the law's contract.
-/
import Derived.Test.YtbkicgfgpmekeaaXf
import Derived.Test.YtbkicgfgpmekeaaHlR
import Derived.Test.YtbkicgfgpmekeaaHlV
set_option linter.unusedVariables false
namespace Go.Proofs.Ytbkicgfgpmekeaa.RFibMelds
open Go.ChangeShapes Go.WideShapes Go.ChangeAt Go.RowKit Go.Proofs

set_option maxRecDepth 100000 in
theorem lifted (os : Os) (started : os.Started) (H : Type) (enc : TypeId × Value → H) :
    ReturnsInHanded {} Try.checked os 4 .any (Rows.fibMeldsSpec.pre6 enc Try.prog Try.f4 Rows.fibMeldsRow.domain false) (Rows.fibMeldsSpec.post enc Try.prog Try.f4 false true false false) := by
  refine returnsInHanded_of_change (C := Try.checked) HL.own started (by kernel_rfl) Try.func4
    (ChangeSpec.witness6 (enc := enc) (C := Try.checked) false ⟨#[], #[.slice none 0 0, .slice none 0 0], []⟩ 8 (by kernel_rfl) (by kernel_rfl) (by kernel_rfl) (by kernel_rfl)) ?_
  intro W base args ds gs before hval0 hW _ _
  have hval : ∀ (j : Nat) t v, Try.f4.params[j]? = some t → args[j]? = some v → Value.okWide Try.prog W .any base t v := hval0
  have hW' := hW
  obtain ⟨p, q, hA0, hV, rfl, hfz, hnd⟩ := hW
  have hA : DataW.TrodAll enc Try.prog W 0 (fun _ => true) true Try.f4.params.toList args.toList ds p := hA0
  rw [Try.params4] at hA hval
  obtain ⟨v0, vs0, d0, ds0, p0, q0, hargs, rfl, rfl, h0, r0⟩ := trodAll_cons hA
  obtain ⟨v1, vs1, d1, ds1, p1, q1, rfl, rfl, rfl, h1, r1⟩ := trodAll_cons r0
  obtain ⟨rfl, rfl, rfl⟩ := trodAll_nil r1
  obtain rfl : args = #[v0, v1] := by cases args; simp_all
  obtain ⟨s0, l0, rfl, o0⟩ := HL.open_R Try.underlying49 Try.underlying22 Try.underlying2 (by kernel_rfl) (by kernel_rfl) (hval 0 49 v0 rfl rfl) h0
  obtain ⟨s1, l1, rfl, o1⟩ := HL.open_B Try.underlying50 Try.underlying4 (by kernel_rfl) (hval 1 50 v1 rfl rfl) h1
  clear hA hA0 hval0 hval
  refine (HL.law_calls (by kernel_rfl) (HL.lw_melds (R := fun v _ => v = .bool true) (fun _ => rfl) (HL.OldV.rdV o0.1 _) (HL.rows_rd o0.2 _) (HL.OldV.rdV o1.1 _) o1.2)).mono fun e W' ⟨v, he, ⟨_, hv⟩, hB⟩ => ?_
  subst hv
  obtain ⟨rfl, rfl⟩ := trodVars_none hV
  exact ⟨_, he, HL.post_true HL.laidOut hW' rfl (by kernel_rfl) (by kernel_rfl) Try.underlying4 rfl hB⟩

theorem proved : Rows.FibMeldsSaid :=
  OpenClaim.holds_of_wide 4 Try.f4 rfl rfl rfl rfl rfl rfl rfl ⟨rfl, rfl, rfl, rfl, rfl⟩ rfl rfl rfl rfl rfl (by kernel_rfl) Try.func4 (by kernel_rfl)
    (of_decide_eq_true (by kernel_rfl)) (by unfold Func.isWrapper; first | (rw [if_pos (by decide +kernel)]; kernel_rfl) | (rw [if_neg (by decide +kernel)]; exact ⟨rfl, rfl⟩))
    (fun os started H enc _ => lifted os started H enc)

end Go.Proofs.Ytbkicgfgpmekeaa.RFibMelds
