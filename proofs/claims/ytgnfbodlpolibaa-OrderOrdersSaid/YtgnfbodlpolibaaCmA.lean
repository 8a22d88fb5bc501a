/-
  CmA: entries that are compared.
-/
import Derived.Test.YtgnfbodlpolibaaOrA
import Derived.Test.YtgnfbodlpolibaaHlQ
set_option linter.unusedVariables false
set_option linter.unusedSimpArgs false
set_option maxRecDepth 100000
namespace Go.Proofs.Ytgnfbodlpolibaa.HL
open Go.RowKit (Below)
open Go.Proofs

section
variable {w0 : World} {M F : Mem} {R : Value → Mem → Prop}

theorem isNaN_ok {x : Int} (h : R (.bool false) M) : C PP w0 Id.cmp_isNaN_int64 #[.int .i64 x] R M := by
  apply cmp_isNaN_int64.go
  unfold cmp_isNaN_int64.T
  rw [bne_self_eq_false]; exact h
theorem cmp64_ok {x y : Int} (h : R (.int .i64 (if x < y then -1 else if y < x then 1 else 0)) M) : C PP w0 Id.cmp_Compare_int64 #[.int .i64 x, .int .i64 y] R M := by
  apply cmp_Compare_int64.go
  unfold cmp_Compare_int64.T
  refine isNaN_ok ?_
  simp only [go_sem]
  refine isNaN_ok ?_
  simp only [go_sem, bs_false, bs_decide]
  split
  · rename_i h1; rw [if_pos h1] at h; exact h
  · rename_i h1
    rw [if_neg h1] at h
    split
    · rename_i h2; rw [if_pos (by omega)] at h; exact h
    · rename_i h2; rw [if_neg (by omega)] at h; exact h
theorem or2_ok {s : SV} {x y : Int} (hs : RdI w0 M .i64 s [x, y]) (h : R (.int .i64 (if x = 0 then y else x)) M) : C PP w0 Id.cmp_Or_int #[SV.v s] R M := by
  apply cmp_Or_int.go
  intro pts H
  unfold cmp_Or_int.T
  have hl := hs.len
  simp only [List.length_cons, List.length_nil] at hl
  refine ⟨3, ?_⟩
  rw [H.L1]
  unfold cmp_Or_int.L1.T
  rw [bs_decide, if_pos (by omega)]
  refine rdx W.c3 hs (Mem.le_refl _) 0 (by rfl) rfl ?_
  rw [bs_bne]
  split
  · rename_i h0
    rw [if_pos h0] at h
    rw [show w64 ((0 : Int) + 1) = 1 from rfl, H.L1]
    unfold cmp_Or_int.L1.T
    rw [bs_decide, if_pos (by omega)]
    refine rdx W.c3 hs (Mem.le_refl _) 1 (by rfl) rfl ?_
    rw [bs_bne]
    split
    · rename_i h1
      rw [show w64 ((1 : Int) + 1) = 2 from rfl, H.L1]
      unfold cmp_Or_int.L1.T
      rw [bs_decide, if_neg (by omega)]
      rw [h1] at h; exact h
    · exact h
  · rename_i h0
    rw [if_neg h0] at h; exact h

theorem Compare_ok {a0 a1 b0 b1 : Int} (h : ∀ M', Mem.le M M' → R (.int .i64 (cmpI a0 a1 b0 b1)) M') : C PP w0 Id.order_Compare #[.agg #[.int .i64 a0, .int .i64 a1], .agg #[.int .i64 b0, .int .i64 b1]] R M := by
  apply order_Compare.go
  unfold order_Compare.T
  intro x1 hx1 hw1
  intro x2 hx2 hw2
  have f1 := ((Fit.nil (w0 := w0) (Mem.le_refl M)).new hx1 hw1 (cs := [.int .i64 a0, .int .i64 a1]) (e := 40)).new hx2 hw2 (cs := [.int .i64 b0, .int .i64 b1]) (e := 40)
  have o2 := f1.own List.mem_cons_self
  have o1 := f1.own (List.mem_cons_of_mem _ List.mem_cons_self)
  have e1 := rd_own (o := 0) o1
  have e2 := rd_own (o := 0) o2
  have e3 := rd_own (o := 1) o1
  have e4 := rd_own (o := 1) o2
  have hle := f1.fr
  generalize (M.set x1 (.row [.int .i64 a0, .int .i64 a1] 40)).set x2 (.row [.int .i64 b0, .int .i64 b1] 40) = M1 at e1 e2 e3 e4 hle ⊢
  have e1' : rd w0 M1 ⟨x1, 0, none⟩ = some (.int .i64 a0) := e1
  have e2' : rd w0 M1 ⟨x2, 0, none⟩ = some (.int .i64 b0) := e2
  have e3' : rd w0 M1 ⟨x1, 1, none⟩ = some (.int .i64 a1) := e3
  have e4' : rd w0 M1 ⟨x2, 1, none⟩ = some (.int .i64 b1) := e4
  simp only [go_sem, add_eq, Nat.zero_add, e1', e2', e3', e4']
  refine cmp64_ok ?_
  simp only [go_sem, e3', e4']
  refine ⟨trivial, trivial, ?_⟩
  refine cmp64_ok ?_
  simp only [go_sem]
  have i1 : In64 (if a0 < b0 then (-1 : Int) else if b0 < a0 then 1 else 0) := by unfold In64; split <;> (try split) <;> omega
  have i2 : In64 (if a1 < b1 then (-1 : Int) else if b1 < a1 then 1 else 0) := by unfold In64; split <;> (try split) <;> omega
  refine lit_ok [_, _] (n := 2) (by decide) (by kernel_rfl) rfl (wf_all (fun x hx => by
    simp only [List.mem_cons, List.not_mem_nil, or_false] at hx
    rcases hx with rfl | rfl
    · exact i1
    · exact i2)) fun M2 s l2 r2 => ?_
  refine or2_ok r2 ?_
  simp only [go_sem]
  have hh := h M2 (Mem.le_trans hle l2)
  have : cmpI a0 a1 b0 b1 = (if (if a0 < b0 then (-1 : Int) else if b0 < a0 then 1 else 0) = 0 then (if a1 < b1 then (-1 : Int) else if b1 < a1 then 1 else 0) else (if a0 < b0 then (-1 : Int) else if b0 < a0 then 1 else 0)) := by
    unfold cmpI
    by_cases h1 : a0 < b0
    · simp only [if_pos h1]; rw [if_neg (by decide)]
    · by_cases h2 : b0 < a0
      · simp only [if_neg h1, if_pos h2]; rw [if_neg (by decide)]
      · simp only [if_neg h1, if_neg h2]; rw [if_pos trivial]
  rw [← this]; exact hh

theorem eqE {X Y : Operand} (a b c d : Int) : (std PP w0).bq .eql 40 X Y (.agg #[.int .i64 a, .int .i64 b]) (.agg #[.int .i64 c, .int .i64 d]) = some (.bool (a == c && b == d)) := by
  have := eql_struct (w0 := w0) (X := X) (Y := Y) (es := [a == c, b == d]) (xs := #[.int .i64 a, .int .i64 b]) (ys := #[.int .i64 c, .int .i64 d]) Try.underlying40 (by kernel_rfl) (by kernel_rfl)
    ⟨by decide, ⟨.int .i64 a, .int .i64 c, by kernel_rfl, by kernel_rfl, equal_int Try.underlying2 a c⟩, by decide, ⟨.int .i64 b, .int .i64 d, by kernel_rfl, by kernel_rfl, equal_int Try.underlying2 b d⟩, trivial⟩
  simpa [List.all] using this
theorem neE {X Y : Operand} (a b c d : Int) : (std PP w0).bq .neq 40 X Y (.agg #[.int .i64 a, .int .i64 b]) (.agg #[.int .i64 c, .int .i64 d]) = some (.bool (!(a == c && b == d))) := by
  have := neq_struct (w0 := w0) (X := X) (Y := Y) (es := [a == c, b == d]) (xs := #[.int .i64 a, .int .i64 b]) (ys := #[.int .i64 c, .int .i64 d]) Try.underlying40 (by kernel_rfl) (by kernel_rfl)
    ⟨by decide, ⟨.int .i64 a, .int .i64 c, by kernel_rfl, by kernel_rfl, equal_int Try.underlying2 a c⟩, by decide, ⟨.int .i64 b, .int .i64 d, by kernel_rfl, by kernel_rfl, equal_int Try.underlying2 b d⟩, trivial⟩
  simpa [List.all] using this

end
end Go.Proofs.Ytgnfbodlpolibaa.HL
