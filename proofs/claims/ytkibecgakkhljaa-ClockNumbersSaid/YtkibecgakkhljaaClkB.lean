/-
  ClkB: the laws on clocks, over what the clock's functions do.
-/
import Derived.Test.YtkibecgakkhljaaClkA
set_option linter.unusedVariables false
set_option linter.unusedSimpArgs false
namespace Go.Proofs.Ytkibecgakkhljaa.HL
open Go.RowKit (Below)

theorem i64_succ {i : Nat} (h : i < 4611686018427387904) : w64 ((i : Int) + 1) = ((i + 1 : Nat) : Int) := by
  rw [w64_in (by omega)]; omega

section
variable {w0 : World} {M M0 : Mem}

theorem le_off {M' : Mem} {b : Nat} (hl : Mem.le M0 M) (hb : M0 b = none) (h : ∀ y o, y ≠ b → M y = some o → M' y = some o) : Mem.le M0 M' := fun y o hy =>
  h y o (fun e => by subst e; rw [hb] at hy; cases hy) (hl y o hy)

theorem clk_known {R : Value → Mem → Prop} (h : ∀ M', R (.bool true) M') : C PP w0 Id.thicketlaw20_known #[] R M := by
  apply thicketlaw20_known.go
  unfold thicketlaw20_known.T
  refine Clock_New_ok fun b M1 hb hc hk => ?_
  simp only [go_sem, Option.isNone_some, Bool.not_false]
  refine Clock_Go_ok (by unfold In64; omega) (by unfold In64; omega) hc (fun h => absurd h (by decide)) fun _ M2 hc _ => ?_
  simp only [go_sem, beq_self_eq_true, show addc 0 5 = 5 from rfl] at hc ⊢
  refine Clock_Due_ok hc ?_
  simp only [go_sem, show decide ((5 : Int) ≤ 5) = true from rfl]
  refine Clock_Due_ok hc ?_
  simp only [go_sem, show decide ((6 : Int) ≤ 5) = false from rfl, Bool.not_false]
  refine Clock_Left_ok (by omega) (by unfold In64; omega) hc ?_
  simp only [go_sem, show (if (7 : Int) ≤ 5 then (0 : Int) else 7 - 5) = 2 from rfl, beq_self_eq_true]
  refine Clock_Go_ok (by unfold In64; omega) (by unfold In64; omega) hc (fun _ => ?_) (fun h => absurd h (by decide))
  simp only [go_sem, beq_self_eq_true]
  refine Clock_Now_ok hc ?_
  simp only [go_sem, beq_self_eq_true]
  exact h _

theorem clk_inner {R : Value → Mem → Prop} {pts : Pts} (H : thicketlaw20_ClockPlays.Is (std PP w0) pts R) {steps at_ : SV} {la : List Int} (ha : RdI w0 M0 .i64 at_ la) {b : Nat} {now i : Int} {k : Nat} (hn : In64 now) (h0 : 0 ≤ now)
    (hnext : ∀ M, Mem.le M0 M → Clk w0 M b now → thicketlaw20_ClockPlays.L2 pts k steps at_ (some ⟨b, 0, none⟩) now (w64 (i + 1)) M) :
    ∀ (k' : Nat) (j : Nat) (M : Mem), j ≤ 10 → 10 < j + k' → Mem.le M0 M → Clk w0 M b now → thicketlaw20_ClockPlays.L5 pts k k' steps at_ (some ⟨b, 0, none⟩) now i j M := by
  intro k'
  induction k' with
  | zero => intro j M h1 h2; omega
  | succ k' ih =>
    intro j M h1 h2 hle hc
    rw [H.L5]
    unfold thicketlaw20_ClockPlays.L5.T
    have hend : (std PP w0).call Id.clock_Clock_Now #[.pointer (some ⟨b, 0, none⟩)] (fun v28 M29 => shI .i64 v28 fun n30 => bs ((n30 != now)) (R (.bool false) M29)
        (thicketlaw20_ClockPlays.L2 pts k steps at_ (some ⟨b, 0, none⟩) now (w64 (i + 1)) M29)) M := by
      refine Clock_Now_ok hc ?_
      simp only [go_sem, bne_self_eq_false]
      exact hnext M hle hc
    simp only [bs_decide]
    split
    · rename_i hj1
      split
      · rename_i hj2
        rw [H.J6]
        unfold thicketlaw20_ClockPlays.J6.T
        rw [ha.len] at hj1
        have hj : j < la.length := by omega
        obtain ⟨a, ea, hrd'⟩ := ha.at hj
        have hrd := hrd' M hle
        have hin := ha.in64 hj
        have hbd : 0 ≤ (j : Int) ∧ (j : Int) < ((at_.n : Nat) : Int) := by rw [ha.len]; omega
        have key : ∀ left, left = (if la[j] ≤ now then 0 else la[j] - now) → thicketlaw20_ClockPlays.J7 pts k k' steps at_ (some ⟨b, 0, none⟩) now i j left M := by
          intro left hl
          rw [H.J7]
          unfold thicketlaw20_ClockPlays.J7.T
          simp only [go_sem, ea, Int.toNat_natCast, Nat.mul_one, hrd]
          refine ⟨hbd, hbd, ?_⟩
          refine Clock_Due_ok hc ?_
          simp only [go_sem, ea, Int.toNat_natCast, Nat.mul_one, hrd, beq_self_eq_true, Bool.not_true]
          refine ⟨hbd, trivial, ?_⟩
          refine Clock_Left_ok h0 hin hc ?_
          simp only [go_sem, hl, bne_self_eq_false]
          have := i64_succ (i := j) (by omega)
          rw [this]
          exact ih (j + 1) M (by omega) (by omega) hle hc
        simp only [go_sem, ea, Int.toNat_natCast, Nat.mul_one, hrd, bs_decide]
        refine ⟨hbd, ?_⟩
        split
        · rename_i hgt
          refine ⟨hbd, ?_⟩
          refine key _ ?_
          unfold In64 at hn
          rw [w64_in (by omega), if_neg (by omega)]
        · rename_i hgt
          exact key _ (by rw [if_pos (by omega)])
      · exact hend
    · exact hend

theorem clk_outer {R : Value → Mem → Prop} {pts : Pts} (H : thicketlaw20_ClockPlays.Is (std PP w0) pts R) (hR : ∀ M, R (.bool true) M) {steps at_ : SV} {ls la : List Int} (hs : RdI w0 M0 .i64 steps ls) (ha : RdI w0 M0 .i64 at_ la) {b : Nat} (hb : M0 b = none) :
    ∀ (k : Nat) (i : Nat) (now : Int) (M : Mem), i ≤ 40 → 40 < i + k → Mem.le M0 M → In64 now → 0 ≤ now → Clk w0 M b now → thicketlaw20_ClockPlays.L2 pts k steps at_ (some ⟨b, 0, none⟩) now i M := by
  intro k
  induction k with
  | zero => intro i now M h1 h2; omega
  | succ k ih =>
    intro i now M h1 h2 hle hn h0 hc
    rw [H.L2]
    unfold thicketlaw20_ClockPlays.L2.T
    have hend : thicketlaw20_ClockPlays.J1 pts (some ⟨b, 0, none⟩) M := by
      rw [H.J1]
      unfold thicketlaw20_ClockPlays.J1.T
      simp only [go_sem, Option.isNone_some, Bool.not_false]
      refine clk_known fun M' => ?_
      simp only [go_sem]
      exact hR M'
    simp only [bs_decide]
    split
    · rename_i hi1
      split
      · rename_i hi2
        rw [H.J3]
        unfold thicketlaw20_ClockPlays.J3.T
        rw [hs.len] at hi1
        have hi : i < ls.length := by omega
        obtain ⟨a, ea, hrd⟩ := hs.at hi
        have hin := hs.in64 hi
        have hbd : 0 ≤ (i : Int) ∧ (i : Int) < ((steps.n : Nat) : Int) := by rw [hs.len]; omega
        have key : ∀ now' M', Mem.le M0 M' → In64 now' → 0 ≤ now' → Clk w0 M' b now' → thicketlaw20_ClockPlays.J4 pts k steps at_ (some ⟨b, 0, none⟩) now' i M' := by
          intro now' M' hle' h1' h0' hc'
          rw [H.J4]
          unfold thicketlaw20_ClockPlays.J4.T
          refine ⟨11, ?_⟩
          refine clk_inner H ha h1' h0' (fun M hle hM => ?_) 11 0 M' (by omega) (by omega) hle' hc'
          rw [i64_succ (by omega)]
          exact ih (i + 1) now' M (by omega) (by omega) hle h1' h0' hM
        simp only [go_sem, ea, Int.toNat_natCast, Nat.mul_one, hrd M hle, Option.isNone_some]
        refine ⟨hbd, ?_⟩
        refine Clock_Go_ok hn hin hc (fun hneg => ?_) (fun hpos M' hc' hoff => ?_)
        · simp only [go_sem, ea, Int.toNat_natCast, Nat.mul_one, hrd M hle, bs_decide, if_pos hneg, bne_self_eq_false]
          exact ⟨hbd, key _ _ hle hn h0 hc⟩
        · simp only [go_sem, ea, Int.toNat_natCast, Nat.mul_one, hrd M' (le_off hle hb hoff), bs_decide, if_neg (Int.not_lt.2 hpos), bne_self_eq_false]
          refine ⟨hbd, hbd, ?_⟩
          refine ref1_Add_ok hn hin ?_
          simp only [go_sem]
          refine key _ _ (le_off hle hb hoff) addc_in ?_ hc'
          unfold addc; split
          · omega
          · split <;> omega
      · exact hend
    · exact hend

theorem clk_plays {R : Value → Mem → Prop} (hR : ∀ M, R (.bool true) M) {steps at_ : SV} {ls la : List Int} (hs : RdI w0 M .i64 steps ls) (ha : RdI w0 M .i64 at_ la) :
    C PP w0 Id.thicketlaw20_ClockPlays #[SV.v steps, SV.v at_] R M := by
  apply thicketlaw20_ClockPlays.go
  intro pts H
  unfold thicketlaw20_ClockPlays.T
  refine Clock_New_ok fun b M1 hb hc hk => ?_
  simp only [go_sem]
  exact ⟨41, clk_outer H hR hs ha hb 41 0 0 M1 (by omega) (by omega) hk (by unfold In64; omega) (by omega) hc⟩

end
end Go.Proofs.Ytkibecgakkhljaa.HL
