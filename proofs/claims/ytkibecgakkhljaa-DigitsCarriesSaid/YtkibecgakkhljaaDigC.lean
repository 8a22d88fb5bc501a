/-
  DigC: the laws on digits, over what their functions do.
-/
import Derived.Test.YtkibecgakkhljaaDigB
set_option linter.unusedVariables false
set_option linter.unusedSimpArgs false
set_option maxRecDepth 100000
namespace Go.Proofs.Ytkibecgakkhljaa.HL
open Go.RowKit (Below)
open Go.Proofs
open Dig

section
variable {w0 : World} {M M0 F : Mem}

theorem num_wf (n : Nat) : ∀ x ∈ num n, (Lit.int .i64 x).wf = true := wf_all fun x hx => by
  have := (num_good n).mem x hx
  unfold In64; omega
theorem num_val {n : Nat} (h : n ≤ 10000) : valO (num n) = (n : Int) := by
  unfold valO
  rw [(num_good n).reg h, if_pos rfl, (num_good n).2.2]

theorem known14_ok {R : Value → Mem → Prop} (h : ∀ M', R (.bool true) M') : C PP w0 Id.thicketlaw14_known #[] R M := by
  apply thicketlaw14_known.go
  intro pts H
  unfold thicketlaw14_known.T
  refine New_ok fun M1 b l1 hc => ?_
  simp only [go_sem, Option.isNone_some, bs_false]
  have key : ∀ (k i : Nat) (c : Int) (M : Mem), i ≤ 3 → 3 < i + k → Ctr w0 (fun _ => none) M b (num i) c → c = (if i = 3 then 1 else 0) → thicketlaw14_known.L1 pts k (some ⟨b, 0, none⟩) (i : Int) M := by
    intro k
    induction k with
    | zero => intro i c M h1 h2; omega
    | succ k ih =>
      intro i c M h1 h2 hc hcc
      rw [H.L1]
      unfold thicketlaw14_known.L1.T
      rw [bs_decide]
      split
      · refine Inc14_ok hc (by have := (num_good i).len (by omega); omega) (num_good i).mem (by omega) (by omega) fun M' hc' => ?_
        simp only [go_sem, Bool.not_true, bs_false]
        rw [w64_in (by omega)]
        refine ih (i + 1) _ M' (by omega) (by omega) hc' ?_
        have : i = 0 ∨ i = 1 ∨ i = 2 := by omega
        rcases this with rfl | rfl | rfl
        · subst hcc; decide
        · subst hcc; decide
        · subst hcc; decide
      · have : i = 3 := by omega
        subst this
        rw [if_pos rfl] at hcc
        subst hcc
        refine lit_ok [0, 1] (by decide) (by kernel_rfl) rfl (by decide) fun M2 s2 l2 r2 => ?_
        refine digValue_ok r2 ?_
        simp only [go_sem]
        refine All_ok (hc.le l2) (num_wf 3) (by decide) fun M3 s3 l3 r3 => ?_
        simp only [go_sem]
        refine lit_ok [1, 1] (by decide) (by kernel_rfl) rfl (by decide) fun M4 s4 l4 r4 => ?_
        refine Same_ok (r3.le l4) r4 ?_
        rw [show decide (num 3 = [1, 1]) = true from by decide]
        simp only [go_sem, bs_true]
        have hc4 := ((hc.le l2).le l3).le l4
        refine CValue_ok hc4 (num_wf 3) (by decide) ?_
        rw [num_val (by omega)]
        simp only [go_sem, bs_beq]
        rw [if_pos (by rfl)]
        refine Carries_ok hc4 ?_
        simp only [go_sem, bs_beq]
        rw [if_pos (by trivial)]
        refine lit_ok [2, 1, 2] (by decide) (by kernel_rfl) rfl (by decide) fun M5 s5 l5 r5 => ?_
        refine digRegular_ok r5 ?_
        rw [show regL [2, 1, 2] = false from by decide]
        simp only [go_sem, Bool.not_false, bs_true]
        rw [if_pos (by decide)]
        rw [show regL [0, 1] = true from by decide]
        exact h _
  exact ⟨4, key 4 0 0 M1 (by omega) (by omega) hc rfl⟩

theorem pow_sh {n : Nat} (h1 : 1 ≤ n) (h : n ≤ 40) : w64 ((n : Int) - 1) = ((n - 1 : Nat) : Int) ∧ u64 ((n - 1 : Nat) : Int) = ((n - 1 : Nat) : Int) ∧ min (((n - 1 : Nat) : Int)).toNat 64 = n - 1 := by
  refine ⟨by rw [w64_in (by omega)]; omega, by unfold u64 IntKind.wrap; simp [IntKind.bits, IntKind.signed]; omega, ?_⟩
  rw [Int.toNat_natCast, Nat.min_eq_left (by omega)]

theorem fdiv_ne {i : Int} {n : Nat} (h : ((2 ^ n : Nat) : Int) ≤ i) : ¬ Int.fdiv i (2 ^ n) = 0 := by
  have e : (2 : Int) ^ n = ((2 ^ n : Nat) : Int) := by simp
  have hp : 0 < 2 ^ n := Nat.pow_pos (by decide)
  rw [e, Int.fdiv_eq_ediv_of_nonneg _ (by omega)]
  intro h0
  have h1 := Int.emod_lt_of_pos i (show (0 : Int) < ((2 ^ n : Nat) : Int) by omega)
  have h2 := Int.mul_ediv_add_emod i ((2 ^ n : Nat) : Int)
  rw [h0, Int.mul_zero] at h2
  omega

theorem dig_carries {R : Value → Mem → Prop} (hR : ∀ M, R (.bool true) M) {n : Int} (hn : In64 n) : C PP w0 Id.thicketlaw14_DigitsCarries #[.int .i64 n] R M := by
  apply thicketlaw14_DigitsCarries.go
  intro pts H
  unfold thicketlaw14_DigitsCarries.T
  refine New_ok fun M1 b l1 hc => ?_
  simp only [go_sem, Option.isNone_some, bs_false]
  refine Within_ok hn (by omega) (by omega) (by omega) (by omega) fun kk h1 h2 => ?_
  simp only [go_sem]
  have key : ∀ (k i : Nat) (c : Int) (M : Mem), (i : Int) ≤ kk → kk < i + k → Ctr w0 (fun _ => none) M b (num i) c → 0 ≤ c → c ≤ i → thicketlaw14_DigitsCarries.L1 pts k (some ⟨b, 0, none⟩) kk ((i + 1 : Nat) : Int) M := by
    intro k
    induction k with
    | zero => intro i c M h1 h2; omega
    | succ k ih =>
      intro i c M h3 h4 hc hc0 hc1
      rw [H.L1]
      unfold thicketlaw14_DigitsCarries.L1.T
      rw [bs_decide]
      split
      · refine Carries_ok hc ?_
        simp only [go_sem]
        refine Inc14_ok hc (by have := (num_good i).len (by omega); omega) (num_good i).mem (by omega) (by omega) fun M2 hc2 => ?_
        change Ctr w0 (fun _ => none) M2 b (num (i + 1)) (c + carD (num i)) at hc2
        have hcar : carD (num i) ≤ 1 ∧ 0 ≤ carD (num i) := by unfold carD; split <;> omega
        generalize carD (num i) = j at hc2 hcar
        simp only [go_sem]
        have hg := num_good (i + 1)
        have h14 := hg.len (by omega)
        refine All_ok hc2 (num_wf (i + 1)) (by omega) fun M3 s3 l3 r3 => ?_
        have hc3 := hc2.le l3
        simp only [go_sem, Bool.not_true, bs_false, bs_decide]
        rw [if_neg (by omega), if_neg (by omega)]
        refine Carries_ok hc3 ?_
        simp only [go_sem, bs_bne]
        rw [w64_in (by omega), if_pos (by trivial)]
        refine CValue_ok hc3 (num_wf (i + 1)) (by omega) ?_
        rw [num_val (by omega)]
        simp only [go_sem, bs_bne]
        rw [if_pos (by trivial)]
        refine digRegular_ok r3 ?_
        rw [hg.reg (by omega)]
        simp only [go_sem, Bool.not_true, bs_false, bs_beq]
        have hlen := r3.len
        have hne := List.length_pos_iff.2 (hg.pos (by omega))
        obtain ⟨e1, e2, e3⟩ := pow_sh (n := s3.n) (by omega) (by omega)
        have hge := val_ge _ (fun x hx => (hg.mem x hx).1) hg.1 (hg.pos (by omega))
        rw [hg.2.2, ← hlen] at hge
        rw [if_neg (by omega), if_neg (by omega), e1, e2, e3, if_neg (fdiv_ne hge)]
        refine ⟨by omega, ?_⟩
        rw [w64_in (by omega)]
        exact ih (i + 1) _ M3 (by omega) (by omega) hc3 (by omega) (by omega)
      · refine known14_ok fun M' => ?_
        simp only [go_sem]
        exact hR _
  exact ⟨kk.toNat + 1, key _ 0 0 M1 (by omega) (by omega) hc (by omega) (by omega)⟩

theorem dig_tells {R : Value → Mem → Prop} (hR : ∀ M, R (.bool true) M) {s x : SV} {l m : List Int} (hs : RdI w0 M .i64 s l) (hx : RdI w0 M .i64 x m) : C PP w0 Id.thicketlaw14_DigitsTells #[SV.v s, SV.v x] R M := by
  apply thicketlaw14_DigitsTells.go
  intro pts H
  unfold thicketlaw14_DigitsTells.T
  have two : ∀ (s : SV) (l : List Int) (y : SV) (near : List Int) (M : Mem), RdI w0 M .i64 s l → RdI w0 M .i64 y near → thicketlaw14_DigitsTells.J2 pts s y M := by
    intro s l y near M hs hy
    rw [H.J2]
    unfold thicketlaw14_DigitsTells.J2.T
    refine tells_ok hs ?_
    simp only [go_sem, bs_true]
    refine tells_ok hy ?_
    simp only [go_sem, bs_true]
    refine known14_ok fun M' => ?_
    simp only [go_sem]
    exact hR _
  have key : ∀ (s : SV) (l : List Int), RdI w0 M .i64 s l → ∀ (k i : Nat) (y : SV) (near : List Int) (M' : Mem), 45 < i + k → i ≤ 45 → Mem.le M M' → Sl w0 M M' y (near.map (Value.int .i64)) → near.length = i → (∀ n ∈ near, 0 ≤ n ∧ n ≤ 2) →
      thicketlaw14_DigitsTells.L3 pts k s x y (i : Int) M' := by
    intro s l hs k
    induction k with
    | zero => intro i y near M' h1 h2; omega
    | succ k ih =>
      intro i y near M' h1 h2 hle hy hl hw
      have hr := hy.rdI (wf_all fun z hz => by have := hw z hz; unfold In64; omega) (by omega)
      rw [H.L3]
      unfold thicketlaw14_DigitsTells.L3.T
      simp only [bs_decide]
      split
      · split
        · rw [H.J4]
          unfold thicketlaw14_DigitsTells.J4.T
          have hxl := hx.len
          have hi : i < m.length := by omega
          have e1 := List.getElem?_eq_getElem hi
          have hb := hx.in64 hi
          generalize m[i] = u at e1 hb
          refine rdx W.c3 hx hle i rfl e1 ?_
          refine Within_ok hb (by omega) (by omega) (by omega) (by omega) fun v h3 h4 => ?_
          simp only [go_sem]
          refine bsl_ints (k := .i64) (l := [v]) hle Try.underlying34 W.e3 (n := 1) (by decide) (by kernel_rfl) rfl fun M1 o h5 h6 h7 => ?_
          simp only [go_sem]
          refine app_new Try.underlying34 W.e3 h5 (hy.le h6) h7 (by simp; omega) fun M2 o2 h8 h9 => ?_
          simp only [go_sem]
          rw [w64_in (by omega)]
          refine ih (i + 1) o2 (near ++ [v]) M2 (by omega) (by omega) h8 h9 (by simp; omega) ?_
          intro n hn
          rcases List.mem_append.1 hn with hn | hn
          · exact hw n hn
          · simp at hn; omega
        · exact two s l y near M' (hs.le hle) hr
      · exact two s l y near M' (hs.le hle) hr
  have main : ∀ (s : SV) (l : List Int), RdI w0 M .i64 s l → thicketlaw14_DigitsTells.J1 pts s x M := by
    intro s l hs
    rw [H.J1]
    unfold thicketlaw14_DigitsTells.J1.T
    exact ⟨46, key s l hs 46 0 ⟨none, 0, 0⟩ [] M (by omega) (by omega) (Mem.le_refl _) Sl.nil rfl (by simp)⟩
  rw [bs_decide]
  split
  · have hc := hs.cap
    refine ⟨⟨by omega, by omega, by omega⟩, ?_⟩
    have ht := (hs.sub (i := 0) 0 rfl (by omega)).take (i := 50) (by simp; omega) (fun _ => rfl) (c := s.c - 0) (by omega)
    exact main _ _ ht
  · exact main s l hs

theorem mks_ints {n : Nat} (hn : n ≤ 1000000) {K : Value → Mem → Prop} (h : ∀ M' s', Mem.le M M' → Sl w0 M M' s' ((List.replicate n (0 : Int)).map (Value.int .i64)) → K s'.v M') : (std PP w0).mks 34 (.int .i64 (n : Int)) (.int .i64 (n : Int)) K M := by
  obtain ⟨i, hi, hz, h1, h2, h3, h4⟩ := W.e3
  refine mks_ok Try.underlying34 hi hz (by rw [h1]; exact h2) (Nat.le_refl _) ?_ (by omega) fun b hb0 hw0 => ?_
  · exact Nat.le_trans (Nat.mul_le_mul h4 hn) (by decide)
  · refine h _ ⟨some ⟨b, 0, none⟩, n, n⟩ (Mem.le_set _ hb0) (.inr ⟨b, [], 3, by simp, hb0, ?_⟩)
    rw [zeros_one (by rfl), List.append_nil, List.map_replicate]
    exact Own.new hw0

theorem dig_numbers {R : Value → Mem → Prop} (hR : ∀ M, R (.bool true) M) : C PP w0 Id.thicketlaw14_DigitsNumbers #[] R M := by
  apply thicketlaw14_DigitsNumbers.go
  intro pts H
  unfold thicketlaw14_DigitsNumbers.T
  refine New_ok fun M1 b l1 hc => ?_
  simp only [go_sem, Option.isNone_some, bs_false]
  have two : ∀ (k : Nat) (a : Int) (M : Mem), -1 ≤ a → a ≤ 4 → 4 - a < k → thicketlaw14_DigitsNumbers.L2 pts k a M := by
    intro k
    induction k with
    | zero => intro a M h1 h2 h3; omega
    | succ k ih =>
      intro a M h1 h2 h3
      rw [H.L2]
      unfold thicketlaw14_DigitsNumbers.L2.T
      rw [bs_decide]
      split
      · have three : ∀ (k' : Nat) (b : Int) (M : Mem), -1 ≤ b → b ≤ 4 → 4 - b < k' → thicketlaw14_DigitsNumbers.L3 pts k k' a b M := by
          intro k'
          induction k' with
          | zero => intro b M h1 h2 h3; omega
          | succ k' ih' =>
            intro b M h4 h5 h6
            rw [H.L3]
            unfold thicketlaw14_DigitsNumbers.L3.T
            rw [bs_decide]
            split
            · have four : ∀ (k'' : Nat) (d : Int) (M : Mem), -1 ≤ d → d ≤ 4 → 4 - d < k'' → thicketlaw14_DigitsNumbers.L4 pts k k' k'' a b d M := by
                intro k''
                induction k'' with
                | zero => intro d M h1 h2 h3; omega
                | succ k'' ih'' =>
                  intro d M h7 h8 h9
                  rw [H.L4]
                  unfold thicketlaw14_DigitsNumbers.L4.T
                  rw [bs_decide]
                  split
                  · refine lit_ok [a, b, d] (n := 3) (by decide) (by kernel_rfl) rfl (wf_all (by simp [In64]; omega)) fun M2 s2 l2 r2 => ?_
                    refine tells_ok r2 ?_
                    simp only [go_sem, Bool.not_true, bs_false]
                    refine lit_ok [2, a, b, d, 2] (n := 5) (by decide) (by kernel_rfl) rfl (wf_all (by simp [In64]; omega)) fun M3 s3 l3 r3 => ?_
                    refine tells_ok r3 ?_
                    simp only [go_sem, Bool.not_true, bs_false]
                    refine lit_ok [a, 2, b, 0, d, 1] (n := 6) (by decide) (by kernel_rfl) rfl (wf_all (by simp [In64]; omega)) fun M4 s4 l4 r4 => ?_
                    refine tells_ok r4 ?_
                    simp only [go_sem, Bool.not_true, bs_false]
                    rw [w64_in (by omega)]
                    exact ih'' (d + 1) _ (by omega) (by omega) (by omega)
                  · rw [w64_in (by omega)]
                    exact ih' (b + 1) _ (by omega) (by omega) (by omega)
              exact ⟨6, four 6 (-1) M (by omega) (by omega) (by omega)⟩
            · rw [w64_in (by omega)]
              exact ih (a + 1) _ (by omega) (by omega) (by omega)
        exact ⟨6, three 6 (-1) M (by omega) (by omega) (by omega)⟩
      · refine mks_ints (n := 40) (by omega) fun M2 s2 l2 hs2 => ?_
        simp only [go_sem]
        refine stx W.c3 hs2 l2 39 (by rfl) (by simp) rfl rfl fun M3 l3 hs3 => ?_
        rw [← List.map_set] at hs3
        refine tells_ok (s := ⟨none, 0, 0⟩) RdI.nil ?_
        simp only [go_sem, bs_true]
        refine tells_ok (hs3.rdI (by decide) (by simp)) ?_
        simp only [go_sem, bs_true]
        refine bsl_ints (k := .i64) (l := [1]) l3 Try.underlying34 W.e3 (n := 1) (by decide) (by kernel_rfl) rfl fun M4 o l4 l5 h7 => ?_
        simp only [go_sem]
        refine app_new Try.underlying34 W.e3 l4 (hs3.le l5) h7 (by simp) fun M5 o2 l6 h9 => ?_
        simp only [go_sem]
        refine tells_ok (h9.rdI (by decide) (by simp)) ?_
        simp only [go_sem, bs_true]
        refine lit_ok [1, 0] (by decide) (by kernel_rfl) rfl (by decide) fun M6 s6 l7 r6 => ?_
        refine tells_ok r6 ?_
        simp only [go_sem, bs_true]
        refine known14_ok fun M' => ?_
        simp only [go_sem]
        exact hR _
  have one : ∀ (k i : Nat) (c : Int) (s : SV) (F M : Mem), i ≤ 4999 → 4999 < i + k → Ctr w0 F M b (num i) c → RdI w0 F .i64 s (num i) → 0 ≤ c → c ≤ i → thicketlaw14_DigitsNumbers.L1 pts k (some ⟨b, 0, none⟩) s c ((i + 1 : Nat) : Int) M := by
    intro k
    induction k with
    | zero => intro i c s F M h1 h2; omega
    | succ k ih =>
      intro i c s F M h1 h2 hc hs hc0 hc1
      rw [H.L1]
      unfold thicketlaw14_DigitsNumbers.L1.T
      rw [bs_decide]
      split
      · have hg := num_good i
        have hg1 := num_good (i + 1)
        have h14 := hg.len (by omega)
        have h14' := hg1.len (by omega)
        have hFM : Mem.le F M := by obtain ⟨_, _, _, h, _⟩ := hc; exact h
        refine refInc14_ok (hs.le hFM) (by omega) hg.mem fun M2 s2 l2 hs2 => ?_
        change Sl w0 M M2 s2 ((num (i + 1)).map (Value.int .i64)) at hs2
        simp only [go_sem]
        obtain ⟨F', hc', hr'⟩ := hc.keep l2 hs2 (num_wf (i + 1)) (by omega)
        refine Inc14_ok hc' (by omega) hg.mem (by omega) (by omega) fun M3 hc3 => ?_
        change Ctr w0 F' M3 b (num (i + 1)) (c + carD (num i)) at hc3
        have hcar : carD (num i) ≤ 1 ∧ 0 ≤ carD (num i) := by unfold carD; split <;> omega
        generalize carD (num i) = j at hc3 hcar
        simp only [go_sem, Bool.not_true, bs_false, bs_bne]
        rw [if_pos (by trivial)]
        have hFM3 : Mem.le F' M3 := by obtain ⟨_, _, _, h, _⟩ := hc3; exact h
        refine All_ok hc3 (num_wf (i + 1)) (by omega) fun M4 s4 l4 r4 => ?_
        simp only [go_sem]
        have hr4 := (hr'.le hFM3).le l4
        refine Same_ok r4 hr4 ?_
        simp only [go_sem, decide_true, Bool.not_true, bs_false]
        have hc4 := hc3.le l4
        refine CValue_ok hc4 (num_wf (i + 1)) (by omega) ?_
        rw [num_val (by omega)]
        simp only [go_sem, bs_bne]
        rw [if_pos (by trivial)]
        refine Carries_ok hc4 ?_
        simp only [go_sem, bs_bne]
        rw [w64_in (by omega), if_pos (by trivial)]
        refine refRegular_ok hr4 ?_
        rw [hg1.reg (by omega)]
        simp only [go_sem, Bool.not_true, bs_false]
        rw [w64_in (by omega)]
        exact ih (i + 1) _ s2 F' M4 (by omega) (by omega) hc4 hr' (by omega) (by omega)
      · exact ⟨6, two 6 (-1) M (by omega) (by omega) (by omega)⟩
  exact ⟨5000, one 5000 0 0 ⟨none, 0, 0⟩ _ M1 (by omega) (by omega) hc RdI.nil (by omega) (by omega)⟩

end
end Go.Proofs.Ytkibecgakkhljaa.HL
