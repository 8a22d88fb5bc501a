/-
  OrM: small numbers and their order, in plain Lean.
-/
import Derived.Test.YtgnfbodlpolibaaHlS
set_option linter.unusedVariables false
set_option linter.unusedSimpArgs false
namespace Go.Proofs.Ytgnfbodlpolibaa.HL

/-- A sum that stops at the bounds. -/
def addc (a b : Int) : Int := if 9223372036854775807 < a + b then 9223372036854775807 else if a + b < -9223372036854775808 then -9223372036854775808 else a + b
theorem addc_in {a b : Int} : In64 (addc a b) := by
  unfold In64 addc; split
  · omega
  · split <;> omega

/-- How entries stand to one another. -/
def cmpI (a0 a1 b0 b1 : Int) : Int := if a0 < b0 then -1 else if b0 < a0 then 1 else if a1 < b1 then -1 else if b1 < a1 then 1 else 0

end Go.Proofs.Ytgnfbodlpolibaa.HL
