/-
  ClkD: the closed sentence on clocks.
-/
import Derived.Test.YtkibecgakkhljaaClkC
set_option linter.unusedVariables false
set_option linter.unusedSimpArgs false
set_option maxRecDepth 100000
namespace Go.Proofs.Ytkibecgakkhljaa.HL
open Go.RowKit (Below)
open Go.Proofs

section
variable {P : Program} {w0 : World} {M M0 : Mem}

theorem bsl_e {t e : TypeId} {z : Value} {sz n : Nat} {parts : List (Nat × Value)} {cells : Array Value} (ht : P.underlying t = some (.slice e)) (he : ElemOk P e z sz)
    (h24 : n * sz ≤ 16777216) (hc : Instr.fill (fun k => some (k * sz, sz)) ((Array.range (n * sz)).map (z.cells[· % z.cells.size]!)) parts = some cells) {K : Value → Mem → Prop}
    (h : ∀ b, M b = none → w0.heap.size ≤ b → K (.slice (some ⟨b, 0, none⟩) n n) (M.set b (.row cells.toList e))) : (std P w0).bsl t n parts K M := by
  obtain ⟨i, hi, hz, rfl, _⟩ := he
  exact bsl_ok ht hi hz h24 hc h

theorem ints_get (l : List Int) (j : Nat) (x : Int) (h : l[j]? = some x) : (l.map fun n => Value.int .i64 n)[0 + j]? = some (.int .i64 x) := by
  rw [Nat.zero_add, List.getElem?_map, h]; rfl

theorem clk_numbers {R : Value → Mem → Prop} (hR : ∀ M, R (.bool true) M) : C PP w0 Id.thicketlaw20_ClockNumbers #[] R M := by
  apply thicketlaw20_ClockNumbers.go
  unfold thicketlaw20_ClockNumbers.T
  refine bsl_e (cells := (([0, 1, -1, -9223372036854775808, 1099511627776, 9223372036854775807, 9223372036854775807, 5] : List Int).map fun n => Value.int .i64 n).toArray) Try.underlying23 W.e2 (by decide) (by kernel_rfl) fun b h0 h1 => ?_
  simp only [go_sem]
  refine bsl_e (cells := (([0, 1, 9223372036854775807, -9223372036854775808, -1] : List Int).map fun n => Value.int .i64 n).toArray) Try.underlying23 W.e2 (by decide) (by kernel_rfl) fun b' h0' h1' => ?_
  simp only [go_sem]
  have o1 : Own w0 (M.set b (.row (([0, 1, -1, -9223372036854775808, 1099511627776, 9223372036854775807, 9223372036854775807, 5] : List Int).map fun n => Value.int .i64 n) 2)) b (([0, 1, -1, -9223372036854775808, 1099511627776, 9223372036854775807, 9223372036854775807, 5] : List Int).map fun n => Value.int .i64 n) 2 := Own.new h1
  have o1' := o1.set (o := .row (([0, 1, 9223372036854775807, -9223372036854775808, -1] : List Int).map fun n => Value.int .i64 n) 2) (o1.fresh h0')
  have o2 : Own w0 _ b' (([0, 1, 9223372036854775807, -9223372036854775808, -1] : List Int).map fun n => Value.int .i64 n) 2 := Own.new (M := M.set b (.row (([0, 1, -1, -9223372036854775808, 1099511627776, 9223372036854775807, 9223372036854775807, 5] : List Int).map fun n => Value.int .i64 n) 2)) h1'
  refine clk_plays (R := fun v7 M8 => shB v7 fun b9 => bs b9 ((std PP w0).call Id.thicketlaw20_known #[] (fun v10 M11 => shB v10 fun b12 => R (.bool b12) M11) M8) (R (.bool false) M8)) (fun M' => ?_)
    (RdI.own o1' rfl (Nat.le_refl _) (ints_get _) (by decide)) (RdI.own o2 rfl (Nat.le_refl _) (ints_get _) (by decide))
  simp only [shB_v]
  rw [bs_true]
  refine clk_known fun M'' => ?_
  simp only [go_sem]
  exact hR M''

end
end Go.Proofs.Ytkibecgakkhljaa.HL
