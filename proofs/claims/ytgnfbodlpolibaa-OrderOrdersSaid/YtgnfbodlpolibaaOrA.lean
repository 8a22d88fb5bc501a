/-
  OrA: sums that stop at the ends.
-/
import Derived.Test.YtgnfbodlpolibaaGenAll
import Derived.Test.YtgnfbodlpolibaaBkA
import Derived.Test.YtgnfbodlpolibaaOrM
set_option linter.unusedVariables false
set_option linter.unusedSimpArgs false
set_option maxRecDepth 100000
namespace Go.Proofs.Ytgnfbodlpolibaa.HL
open Go.RowKit (Below)
open Go.Proofs

section
variable {w0 : World} {M F : Mem} {R : Value → Mem → Prop}

theorem rdv_ptr {t : TypeId} {ad : Addr} : (std PP w0).rdv t (.pointer (some ad)) M = (std PP w0).ld t ad M := rfl

theorem order_Add_ok {a b : Int} (ha : In64 a) (hb : In64 b) (h : R (.int .i64 (addc a b)) M) : C PP w0 Id.order_Add #[.int .i64 a, .int .i64 b] R M := by
  apply order_Add.go
  unfold order_Add.T
  unfold In64 at ha hb
  unfold addc at h
  by_cases h1 : b > 0
  · have e : w64 (9223372036854775807 - b) = 9223372036854775807 - b := w64_in (by omega)
    rw [e, bs_decide, if_pos h1, bs_decide]
    split
    · rw [if_pos (by omega)] at h; exact h
    · rw [if_neg (by omega), if_neg (by omega)] at h
      rw [bs_decide, if_neg (by omega), w64_in (by omega)]; exact h
  · rw [bs_decide, if_neg h1]
    by_cases h2 : b < 0
    · have e : w64 ((-9223372036854775808) - b) = (-9223372036854775808) - b := w64_in (by omega)
      rw [e, bs_decide, if_pos h2, bs_decide]
      split
      · rw [if_neg (by omega), if_pos (by omega)] at h; exact h
      · rw [if_neg (by omega), if_neg (by omega)] at h
        rw [w64_in (by omega)]; exact h
    · rw [bs_decide, if_neg h2]
      rw [if_neg (by omega), if_neg (by omega)] at h
      rw [w64_in (by omega)]; exact h

end
end Go.Proofs.Ytgnfbodlpolibaa.HL
