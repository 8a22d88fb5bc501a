/-
  ItD: the closed sentence on items.
-/
import Derived.Test.YtoeijcmpkfjbfaaItC
set_option linter.unusedVariables false
set_option linter.unusedSimpArgs false
set_option maxRecDepth 100000
namespace Go.Proofs.Ytoeijcmpkfjbfaa.HL
open Go.RowKit (Below)
open Go.Proofs

section
variable {w0 : World} {M F : Mem} {R : Value → Mem → Prop}

theorem it_numbers (hR : ∀ M, R (.bool true) M) : C PP w0 Id.thicketlaw7_ItemNumbers #[] R M := by
  apply thicketlaw7_ItemNumbers.go
  unfold thicketlaw7_ItemNumbers.T
  simp only [W.b62_2, W.b62_3, W.b62_4, W.b62_5, ob_v, shA_v, shCons_v, shI_v, shNil_v]
  refine bsl_e (cells := (([0, 0, -9223372036854775808, 0, 9223372036854775807, 5, 0, -1, 0, 0, 3, 3] : List Int).map fun n => Value.int .i64 n).toArray) Try.underlying59 W.e62 (by decide) (by kernel_rfl) fun b hb hw => ?_
  rw [shS_v]
  have f1 := (Fit.nil (w0 := w0) (Mem.le_refl M)).new hb hw (cs := (([0, 0, -9223372036854775808, 0, 9223372036854775807, 5, 0, -1, 0, 0, 3, 3] : List Int).map fun n => Value.int .i64 n)) (e := 62)
  have r1 : RdF w0 _ 2 ⟨some ⟨b, 0, none⟩, 6, 6⟩ [0, 0, -9223372036854775808, 0, 9223372036854775807, 5, 0, -1, 0, 0, 3, 3] := ⟨rfl, Nat.le_refl _, (by show 6 ≤ 9223372036854775807; decide), fun j x hx => ⟨_, rfl, fun M' hM => by
    rw [add_eq, rd_own ((f1.own List.mem_cons_self).le hM)]; exact ints_get _ _ _ hx⟩, by decide⟩
  refine lit_ok [0, 1, 2, 3, 4, 5, 6, 7, 8] (by decide) (by kernel_rfl) rfl (by decide) fun M2 s2 l2 r2 => ?_
  refine bsl_e (cells := (([5, -1, -9223372036854775808, 0, 3, 3] : List Int).map fun n => Value.int .i64 n).toArray) Try.underlying38 W.e2 (by decide) (by kernel_rfl) fun b3 hb3 hw3 => ?_
  rw [shS_v]
  have o3 : Own w0 (M2.set b3 (.row (([5, -1, -9223372036854775808, 0, 3, 3] : List Int).map fun n => Value.int .i64 n) 2)) b3 (([5, -1, -9223372036854775808, 0, 3, 3] : List Int).map fun n => Value.int .i64 n) 2 := Own.new hw3
  have l3 : Mem.le M2 (M2.set b3 (.row (([5, -1, -9223372036854775808, 0, 3, 3] : List Int).map fun n => Value.int .i64 n) 2)) := Mem.le_set _ hb3
  have r3 : RdI w0 _ .i64 ⟨some ⟨b3, 0, none⟩, 6, 6⟩ [5, -1, -9223372036854775808, 0, 3, 3] := RdI.own o3 rfl (Nat.le_refl _) (ints_get _) (by decide) (by decide)
  refine it_plays (R := fun v58 M59 => shB v58 fun b60 => bs b60 ((std PP w0).call Id.thicketlaw7_known #[] (fun v61 M62 => shB v61 fun b63 => R (.bool b63) M62) M59) (R (.bool false) M59)) (fun M' => ?_) ((r1.le l2).le l3) (r2.le l3) r3
  rw [shB_v, bs_true]
  refine known7_ok fun M'' _ => ?_
  rw [shB_v]
  exact hR _

end
end Go.Proofs.Ytoeijcmpkfjbfaa.HL
