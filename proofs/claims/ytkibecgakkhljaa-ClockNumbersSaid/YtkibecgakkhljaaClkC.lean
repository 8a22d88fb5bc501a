/-
  ClkC: clocks stay.
-/
import Derived.Test.YtkibecgakkhljaaClkB
set_option linter.unusedVariables false
set_option linter.unusedSimpArgs false
namespace Go.Proofs.Ytkibecgakkhljaa.HL
open Go.RowKit (Below)

theorem int_wf {n : Int} (h : (Lit.int .i64 n).wf = true) : In64 n := by
  simp only [Lit.wf, Bool.and_eq_true, decide_eq_true_eq] at h
  unfold In64
  simpa [IntKind.min, IntKind.max, IntKind.signed, IntKind.bits] using h

theorem addc_ge {t x : Int} (ht : In64 t) (hx : 0 ≤ x) : t ≤ addc t x := by
  unfold In64 at ht
  unfold addc; split
  · omega
  · split <;> omega

section
variable {w0 : World} {M M0 : Mem}

theorem stays_end {R : Value → Mem → Prop} {pts : Pts} (H : thicketlaw20_ClockStays.Is (std PP w0) pts R) (hR : ∀ M, R (.bool true) M) {at_ : Int} (ha : In64 at_) {b : Nat} {now : Int} {M : Mem} (hn : In64 now) (h0 : 0 ≤ now) (hc : Clk w0 M b now) :
    thicketlaw20_ClockStays.J1 pts at_ (some ⟨b, 0, none⟩) M := by
  rw [H.J1]
  unfold thicketlaw20_ClockStays.J1.T
  simp only [go_sem, Option.isNone_some, Bool.not_false]
  have hm : In64 9223372036854775807 := by unfold In64; omega
  have e1 : addc now 9223372036854775807 = 9223372036854775807 := by
    unfold addc; split
    · rfl
    · split <;> omega
  refine Clock_Go_ok hn hm hc (fun h => absurd h (by decide)) fun _ M1 hc _ => ?_
  rw [e1] at hc
  simp only [go_sem, beq_self_eq_true]
  refine Clock_Now_ok hc ?_
  simp only [go_sem, beq_self_eq_true]
  refine Clock_Go_ok hm (by unfold In64; omega) hc (fun h => absurd h (by decide)) fun _ M2 hc _ => ?_
  rw [show addc 9223372036854775807 1 = 9223372036854775807 from rfl] at hc
  simp only [go_sem, beq_self_eq_true]
  refine Clock_Now_ok hc ?_
  simp only [go_sem, beq_self_eq_true]
  refine Clock_Due_ok hc ?_
  unfold In64 at ha
  simp only [go_sem, decide_eq_true ha.2]
  refine clk_known fun M' => ?_
  simp only [go_sem]
  exact hR M'

theorem stays_loop {R : Value → Mem → Prop} {pts : Pts} (H : thicketlaw20_ClockStays.Is (std PP w0) pts R) (hR : ∀ M, R (.bool true) M) {steps : SV} {ls : List Int} (hs : RdI w0 M0 .i64 steps ls) {at_ : Int} (ha : In64 at_) {b : Nat} (hb : M0 b = none) :
    ∀ (k : Nat) (i : Nat) (now last : Int) (due : Bool) (M : Mem), i ≤ 30 → 30 < i + k → Mem.le M0 M → In64 now → 0 ≤ now → last ≤ now → (due = true → at_ ≤ now) → Clk w0 M b now →
    thicketlaw20_ClockStays.L2 pts k steps at_ (some ⟨b, 0, none⟩) due last i M := by
  intro k
  induction k with
  | zero => intro i now last due M h1 h2; omega
  | succ k ih =>
    intro i now last due M h1 h2 hle hn h0 hl hd hc
    rw [H.L2]
    unfold thicketlaw20_ClockStays.L2.T
    have hend := stays_end H hR ha hn h0 hc
    simp only [bs_decide]
    split
    · rename_i hi1
      split
      · rename_i hi2
        rw [H.J3]
        unfold thicketlaw20_ClockStays.J3.T
        rw [hs.len] at hi1
        have hi : i < ls.length := by omega
        obtain ⟨a, ea, hrd⟩ := hs.at hi
        have hin := hs.in64 hi
        have hbd : 0 ≤ (i : Int) ∧ (i : Int) < ((steps.n : Nat) : Int) := by rw [hs.len]; omega
        have four : ∀ now' M', Mem.le M0 M' → In64 now' → 0 ≤ now' → Clk w0 M' b now' → thicketlaw20_ClockStays.J4 pts k steps at_ (some ⟨b, 0, none⟩) i M' := by
          intro now' M' hle' h1' h0' hc'
          rw [H.J4]
          unfold thicketlaw20_ClockStays.J4.T
          refine Clock_Now_ok hc' ?_
          simp only [go_sem]
          refine Clock_Due_ok hc' ?_
          simp only [go_sem]
          rw [i64_succ (by omega)]
          exact ih (i + 1) now' now' _ M' (by omega) (by omega) hle' h1' h0' (Int.le_refl _) (fun h => of_decide_eq_true h) hc'
        have hsame : ∀ now', (decide (at_ ≤ now') == ((if at_ ≤ now' then (0 : Int) else at_ - now') == 0)) = true := by
          intro now'
          by_cases hh : at_ ≤ now'
          · simp [hh]
          · simp [hh]; omega
        have rest : ∀ now' M', Mem.le M0 M' → now ≤ now' → In64 now' → Clk w0 M' b now' → (std PP w0).call Id.clock_Clock_Now #[.pointer (some ⟨b, 0, none⟩)] (fun v33 M34 => shI .i64 v33 fun n35 => bs (decide (n35 < last)) (R (.bool false) M34) (bs due ((std PP w0).call Id.clock_Clock_Due #[.pointer (some ⟨b, 0, none⟩), .int .i64 at_] (fun v36 M37 => shB v36 fun b38 => bs (!b38) (R (.bool false) M37) ((std PP w0).call Id.clock_Clock_Due #[.pointer (some ⟨b, 0, none⟩), .int .i64 at_] (fun v39 M40 => shB v39 fun b41 => (std PP w0).call Id.clock_Clock_Left #[.pointer (some ⟨b, 0, none⟩), .int .i64 at_] (fun v42 M43 => shI .i64 v42 fun n44 => ob ((std PP w0).bq .neq 4 (.tmp 44) (.tmp 48) (.bool b41) (.bool ((n44 == 0)))) fun v45 => shB v45 fun b46 => bs b46 (R (.bool false) M43) (thicketlaw20_ClockStays.J4 pts k steps at_ (some ⟨b, 0, none⟩) i M43)) M40) M37)) M34) ((std PP w0).call Id.clock_Clock_Due #[.pointer (some ⟨b, 0, none⟩), .int .i64 at_] (fun v47 M48 => shB v47 fun b49 => (std PP w0).call Id.clock_Clock_Left #[.pointer (some ⟨b, 0, none⟩), .int .i64 at_] (fun v50 M51 => shI .i64 v50 fun n52 => ob ((std PP w0).bq .neq 4 (.tmp 44) (.tmp 48) (.bool b49) (.bool ((n52 == 0)))) fun v53 => shB v53 fun b54 => bs b54 (R (.bool false) M51) (thicketlaw20_ClockStays.J4 pts k steps at_ (some ⟨b, 0, none⟩) i M51)) M48) M34))) M' := by
          intro now' M' hl' hle hn' hc'
          refine Clock_Now_ok hc' ?_
          simp only [go_sem, bs_decide]
          rw [if_neg (by omega)]
          have tail : (std PP w0).call Id.clock_Clock_Due #[.pointer (some ⟨b, 0, none⟩), .int .i64 at_] (fun v47 M48 => shB v47 fun b49 => (std PP w0).call Id.clock_Clock_Left #[.pointer (some ⟨b, 0, none⟩), .int .i64 at_] (fun v50 M51 => shI .i64 v50 fun n52 => ob ((std PP w0).bq .neq 4 (.tmp 44) (.tmp 48) (.bool b49) (.bool ((n52 == 0)))) fun v53 => shB v53 fun b54 => bs b54 (R (.bool false) M51) (thicketlaw20_ClockStays.J4 pts k steps at_ (some ⟨b, 0, none⟩) i M51)) M48) M' := by
            refine Clock_Due_ok hc' ?_
            simp only [go_sem]
            refine Clock_Left_ok (by omega) ha hc' ?_
            simp only [go_sem, hsame, Bool.not_true]
            exact four now' M' hl' hn' (by omega) hc'
          cases due with
          | true =>
            have hdue : at_ ≤ now' := Int.le_trans (hd rfl) hle
            rw [bs_true]
            refine Clock_Due_ok hc' ?_
            simp only [go_sem, decide_eq_true hdue, Bool.not_true]
            exact tail
          | false =>
            rw [bs_false]
            exact tail
        simp only [go_sem, ea, Int.toNat_natCast, Nat.mul_one, hrd M hle, Option.isNone_some]
        refine ⟨hbd, ?_⟩
        refine Clock_Go_ok hn hin hc (fun hneg => ?_) (fun hpos M' hc' hoff => ?_)
        · simp only [shI_v]
          exact rest now M hle (Int.le_refl _) hn hc
        · simp only [shI_v]
          exact rest _ M' (le_off hle hb hoff) (addc_ge hn hpos) addc_in hc'
      · exact hend
    · exact hend

theorem clk_stays {R : Value → Mem → Prop} (hR : ∀ M, R (.bool true) M) {steps : SV} {ls : List Int} (hs : RdI w0 M .i64 steps ls) {at_ : Int} (ha : In64 at_) :
    C PP w0 Id.thicketlaw20_ClockStays #[SV.v steps, .int .i64 at_] R M := by
  apply thicketlaw20_ClockStays.go
  intro pts H
  unfold thicketlaw20_ClockStays.T
  refine Clock_New_ok fun b M1 hb hc hk => ?_
  simp only [go_sem]
  exact ⟨31, stays_loop H hR hs ha hb 31 0 0 0 false M1 (by omega) (by omega) hk (by unfold In64; omega) (by omega) (by omega) (fun h => by cases h) hc⟩

end
end Go.Proofs.Ytkibecgakkhljaa.HL
