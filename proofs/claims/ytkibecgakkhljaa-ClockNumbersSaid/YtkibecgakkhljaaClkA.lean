/-
  ClkA: sums that do not go round, and the clock's functions: what each call does.
-/
import Derived.Test.YtkibecgakkhljaaGenW
import Derived.Test.YtkibecgakkhljaaGen0
import Derived.Test.YtkibecgakkhljaaGen1
import Derived.Test.YtkibecgakkhljaaGen2
import Derived.Test.YtkibecgakkhljaaGen3
import Derived.Test.YtkibecgakkhljaaGen4
set_option linter.unusedVariables false
set_option linter.unusedSimpArgs false
namespace Go.Proofs.Ytkibecgakkhljaa.HL
open Go.RowKit (Below)

def In64 (n : Int) : Prop := -9223372036854775808 ≤ n ∧ n ≤ 9223372036854775807
/-- A sum that stops at the bounds. -/
def addc (a b : Int) : Int := if 9223372036854775807 < a + b then 9223372036854775807 else if a + b < -9223372036854775808 then -9223372036854775808 else a + b
theorem addc_in {a b : Int} : In64 (addc a b) := by
  unfold In64 addc; split
  · omega
  · split <;> omega

section
variable {w0 : World} {M : Mem} {R : Value → Mem → Prop}

theorem order_Add_ok {a b : Int} (ha : In64 a) (hb : In64 b) (h : R (.int .i64 (addc a b)) M) : C PP w0 Id.order_Add #[.int .i64 a, .int .i64 b] R M := by
  apply order_Add.go
  unfold order_Add.T
  unfold In64 at ha hb
  unfold addc at h
  by_cases h1 : b > 0
  · have e : w64 (9223372036854775807 - b) = 9223372036854775807 - b := w64_in (by omega)
    rw [e, bs_decide, if_pos h1, bs_decide]
    split
    · rw [if_pos (by omega)] at h; exact h
    · rw [if_neg (by omega), if_neg (by omega)] at h
      rw [bs_decide, if_neg (by omega), w64_in (by omega)]; exact h
  · rw [bs_decide, if_neg h1]
    by_cases h2 : b < 0
    · have e : w64 ((-9223372036854775808) - b) = (-9223372036854775808) - b := w64_in (by omega)
      rw [e, bs_decide, if_pos h2, bs_decide]
      split
      · rw [if_neg (by omega), if_pos (by omega)] at h; exact h
      · rw [if_neg (by omega), if_neg (by omega)] at h
        rw [w64_in (by omega)]; exact h
    · rw [bs_decide, if_neg h2]
      rw [if_neg (by omega), if_neg (by omega)] at h
      rw [w64_in (by omega)]; exact h

theorem ref1_Add_ok {a b : Int} (ha : In64 a) (hb : In64 b) (h : R (.int .i64 (addc a b)) M) : C PP w0 Id.thicketref1_Add #[.int .i64 a, .int .i64 b] R M := by
  apply thicketref1_Add.go
  intro pts H
  unfold thicketref1_Add.T
  unfold In64 at ha hb
  unfold addc at h
  by_cases h1 : a > 0
  · have e : w64 (9223372036854775807 - a) = 9223372036854775807 - a := w64_in (by omega)
    rw [e, bs_decide, if_pos h1, bs_decide]
    split
    · rw [if_pos (by omega)] at h; exact h
    · rw [H.J1]
      unfold thicketref1_Add.J1.T
      rw [if_neg (by omega), if_neg (by omega)] at h
      rw [bs_decide, if_neg (by omega), w64_in (by omega)]; exact h
  · rw [bs_decide, if_neg h1, H.J1]
    unfold thicketref1_Add.J1.T
    by_cases h2 : a < 0
    · have e : w64 ((-9223372036854775808) - a) = (-9223372036854775808) - a := w64_in (by omega)
      rw [e, bs_decide, if_pos h2, bs_decide]
      split
      · rw [if_neg (by omega), if_pos (by omega)] at h; exact h
      · rw [if_neg (by omega), if_neg (by omega)] at h
        rw [w64_in (by omega)]; exact h
    · rw [bs_decide, if_neg h2]
      rw [if_neg (by omega), if_neg (by omega)] at h
      rw [w64_in (by omega)]; exact h

/-- A clock that stands at a time. -/
def Clk (w0 : World) (M : Mem) (b : Nat) (t : Int) : Prop := ∃ e, Own w0 M b [.int .i64 t] e

theorem Clock_New_ok (h : ∀ b M', M b = none → Clk w0 M' b 0 → (∀ x o, M x = some o → M' x = some o) → R (.pointer (some ⟨b, 0, none⟩)) M') : C PP w0 Id.clock_New #[] R M := by
  apply clock_New.go
  unfold clock_New.T
  simp only [go_sem]
  intro b h0 h1
  exact h b _ h0 ⟨_, Own.new h1⟩ (Mem.le_set _ h0)

theorem Clock_Now_ok {b : Nat} {t : Int} (hc : Clk w0 M b t) (h : R (.int .i64 t) M) : C PP w0 Id.clock_Clock_Now #[.pointer (some ⟨b, 0, none⟩)] R M := by
  obtain ⟨e, hc⟩ := hc
  apply clock_Clock_Now.go
  unfold clock_Clock_Now.T
  simp only [go_sem, rd_own hc, List.getElem?_cons_zero]
  exact h

theorem Clock_Due_ok {b : Nat} {t x : Int} (hc : Clk w0 M b t) (h : R (.bool (decide (x ≤ t))) M) : C PP w0 Id.clock_Clock_Due #[.pointer (some ⟨b, 0, none⟩), .int .i64 x] R M := by
  obtain ⟨e, hc⟩ := hc
  apply clock_Clock_Due.go
  unfold clock_Clock_Due.T
  simp only [go_sem, rd_own hc, List.getElem?_cons_zero]
  exact h

theorem Clock_Left_ok {b : Nat} {t x : Int} (ht : 0 ≤ t) (hx : In64 x) (hc : Clk w0 M b t) (h : R (.int .i64 (if x ≤ t then 0 else x - t)) M) : C PP w0 Id.clock_Clock_Left #[.pointer (some ⟨b, 0, none⟩), .int .i64 x] R M := by
  apply clock_Clock_Left.go
  unfold clock_Clock_Left.T
  refine Clock_Due_ok hc ?_
  obtain ⟨e, hc⟩ := hc
  unfold In64 at hx
  simp only [go_sem, rd_own hc, List.getElem?_cons_zero, bs_decide]
  split
  · rename_i h1; rw [if_pos h1] at h; exact h
  · rename_i h1; rw [if_neg h1] at h; rw [w64_in (by omega)]; exact h

theorem Clock_Go_ok {b : Nat} {t x : Int} (ht : In64 t) (hx : In64 x) (hc : Clk w0 M b t) (h1 : x < 0 → R (.int .i64 1) M)
    (h2 : 0 ≤ x → ∀ M', Clk w0 M' b (addc t x) → (∀ y o, y ≠ b → M y = some o → M' y = some o) → R (.int .i64 0) M') : C PP w0 Id.clock_Clock_Go #[.pointer (some ⟨b, 0, none⟩), .int .i64 x] R M := by
  obtain ⟨e, hc⟩ := hc
  apply clock_Clock_Go.go
  unfold clock_Clock_Go.T
  simp only [go_sem, rd_own hc, List.getElem?_cons_zero, bs_decide]
  split
  · rename_i hh; exact h1 hh
  · rename_i hh
    refine order_Add_ok ht hx ?_
    simp only [go_sem]
    refine st_one W.c2 hc (by simp) rfl rfl ?_
    exact h2 (by omega) _ ⟨e, hc.upd⟩ (fun y o hy ho => by rw [Mem.set_ne _ _ hy]; exact ho)

end
end Go.Proofs.Ytkibecgakkhljaa.HL
