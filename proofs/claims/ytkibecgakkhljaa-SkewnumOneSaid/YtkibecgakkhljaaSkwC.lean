/-
  SkwC: the laws on skew numbers, over what their functions do.
-/
import Derived.Test.YtkibecgakkhljaaSkwB
set_option linter.unusedVariables false
set_option linter.unusedSimpArgs false
set_option maxRecDepth 100000
namespace Go.Proofs.Ytkibecgakkhljaa.HL
open Go.RowKit (Below)
open Go.Proofs
open Skw

section
variable {w0 : World} {M M0 : Mem}

theorem numL_len {s : SV} {n : Int} (hs : RdI w0 M .i64 s (numL n)) (h : numL n = []) : s.n = 0 := by rw [hs.len, h]; rfl

theorem skw_numbers {R : Value → Mem → Prop} (hR : ∀ M, R (.bool true) M) : C PP w0 Id.thicketlaw10_SkewnumNumbers #[] R M := by
  apply thicketlaw10_SkewnumNumbers.go
  intro pts H
  unfold thicketlaw10_SkewnumNumbers.T
  have three : ∀ (k i : Nat) (s : SV) (vs : List Value) (M : Mem), vs.length < i + k → i ≤ vs.length → Cells w0 M s.a vs → s.n = vs.length → vs.length ≤ 100 → (∀ v ∈ vs, ∃ s l, v = SV.v s ∧ RdI w0 M .i64 s l) → (∀ M', Mem.le M M' → Cells w0 M' s.a vs) →
      thicketlaw10_SkewnumNumbers.L3 pts k s ((s.n : Nat) : Int) (i : Int) M := by
    intro k
    induction k with
    | zero => intro i s vs M h1 h2; omega
    | succ k ih =>
      intro i s vs M h1 h2 hc hn h100 hv hcc
      rw [H.L3]
      unfold thicketlaw10_SkewnumNumbers.L3.T
      simp only [bs_decide, go_sem, bs_not]
      split
      · have hi : i < vs.length := by omega
        obtain ⟨sx, lx, ex, rx⟩ := hv vs[i] (List.getElem_mem hi)
        refine rdv hc hn i rfl (List.getElem?_eq_getElem hi) ?_
        rw [ex]
        simp only [go_sem]
        refine same_ok rx fun M1 l1 => ?_
        simp only [go_sem, bs_true]
        rw [i64_next hi (by omega)]
        exact ih (i + 1) s vs M1 (by omega) (by omega) (hcc M1 l1) hn h100 (fun v hv' => by
          obtain ⟨s, l, e, r⟩ := hv v hv'
          exact ⟨s, l, e, r.le l1⟩) (fun M' l2 => hcc M' (Mem.le_trans l1 l2))
      · refine Of_ok fun M1 s1 l1 r1 => ?_
        have e1 := numL_len r1 rfl
        simp only [go_sem, bs_beq, e1]
        rw [if_pos (by rfl)]
        refine Of_ok fun M2 s2 l2 r2 => ?_
        have e2 := numL_len r2 rfl
        simp only [go_sem, bs_beq, e2]
        rw [if_pos (by rfl)]
        refine Of_ok fun M3 s3 l3 r3 => ?_
        have e3 : s3.n ≠ 0 := fun h0 => by
          have := numL_right 268435456 (by omega) (by omega)
          rw [r3.len] at h0
          rw [List.eq_nil_of_length_eq_zero h0] at this
          have := this.2
          simp [sumW] at this
        simp only [go_sem, bs_decide]
        rw [if_pos (by omega)]
        refine known10_ok fun M4 l4 => ?_
        simp only [go_sem]
        exact hR _
  have two : ∀ (k n : Nat) (kk : Int) (s : SV) (M : Mem), kk = (n : Int) - 1 → n ≤ 1999 → n < k → RdI w0 M .i64 s (numL n) → thicketlaw10_SkewnumNumbers.L2 pts k s kk M := by
    intro k
    induction k with
    | zero => intro n kk s M _ _ h1; omega
    | succ k ih =>
      intro n kk s M hkk h1 h2 hs
      rw [H.L2]
      unfold thicketlaw10_SkewnumNumbers.L2.T
      rw [bs_decide]
      split
      · refine Dec_ok hs fun M1 s1 l1 r1 => ?_
        rw [dec_of n (by omega) (by omega)] at r1
        simp only [go_sem]
        refine Value_ok r1 ?_
        simp only [ofO]
        rw [numL_val _ (by omega) (by omega)]
        simp only [go_sem, bs_bne]
        rw [if_pos (by omega), w64_in (by omega)]
        refine ih (n - 1) (kk - 1) s1 M1 (by omega) (by omega) (by omega) ?_
        rw [show ((n - 1 : Nat) : Int) = (n : Int) - 1 from by omega]; exact r1
      · refine lit_ok [-1] (by decide) (by kernel_rfl) rfl (by decide) fun M1 s1 l1 r1 => ?_
        refine lit_ok [29] (by decide) (by kernel_rfl) rfl (by decide) fun M2 s2 l2 r2 => ?_
        refine lit_ok [28] (by decide) (by kernel_rfl) rfl (by decide) fun M3 s3 l3 r3 => ?_
        refine lit_ok [28, 28] (by decide) (by kernel_rfl) rfl (by decide) fun M4 s4 l4 r4 => ?_
        refine lit_ok [0, 0, 0] (by decide) (by kernel_rfl) rfl (by decide) fun M5 s5 l5 r5 => ?_
        refine lit_ok [0, 1, 1] (by decide) (by kernel_rfl) rfl (by decide) fun M6 s6 l6 r6 => ?_
        refine lit_ok [2, 1] (by decide) (by kernel_rfl) rfl (by decide) fun M7 s7 l7 r7 => ?_
        refine lit_ok [0, 0, 0, 1] (by decide) (by kernel_rfl) rfl (by decide) fun M8 s8 l8 r8 => ?_
        refine lit_ok [3, 3, 4] (by decide) (by kernel_rfl) rfl (by decide) fun M9 s9 l9 r9 => ?_
        refine bsl_sl (M0 := M9) (cells := #[SV.v s1, SV.v s2, SV.v s3, SV.v s4, SV.v s5, SV.v s6, SV.v s7, SV.v s8, SV.v s9]) (Mem.le_refl _) Try.underlying40 W.e34 (n := 9) (by decide) (by kernel_rfl) rfl fun M' s' h1 h2 h3 => ?_
        simp only [go_sem]
        refine ⟨10, three 10 0 s' _ M' (by simp) (by simp) h3.cells (by rw [h3.len]) (by simp) ?_ (fun M'' h4 => (h3.le h4).cells)⟩
        have k8 := Mem.le_trans l9 h1
        have k7 := Mem.le_trans l8 k8
        have k6 := Mem.le_trans l7 k7
        have k5 := Mem.le_trans l6 k6
        have k4 := Mem.le_trans l5 k5
        have k3 := Mem.le_trans l4 k4
        have k2 := Mem.le_trans l3 k3
        have k1 := Mem.le_trans l2 k2
        intro v hv
        simp only [List.mem_cons, List.not_mem_nil, or_false] at hv
        rcases hv with rfl | rfl | rfl | rfl | rfl | rfl | rfl | rfl | rfl
        · exact ⟨_, _, rfl, r1.le k1⟩
        · exact ⟨_, _, rfl, r2.le k2⟩
        · exact ⟨_, _, rfl, r3.le k3⟩
        · exact ⟨_, _, rfl, r4.le k4⟩
        · exact ⟨_, _, rfl, r5.le k5⟩
        · exact ⟨_, _, rfl, r6.le k6⟩
        · exact ⟨_, _, rfl, r7.le k7⟩
        · exact ⟨_, _, rfl, r8.le k8⟩
        · exact ⟨_, _, rfl, r9.le h1⟩
  have one : ∀ (k n : Nat) (s : SV) (M : Mem), n ≤ 1999 → 1999 < n + k → RdI w0 M .i64 s (numL n) → thicketlaw10_SkewnumNumbers.L1 pts k s ((n + 1 : Nat) : Int) M := by
    intro k
    induction k with
    | zero => intro n s M h1 h2; omega
    | succ k ih =>
      intro n s M h1 h2 hs
      rw [H.L1]
      unfold thicketlaw10_SkewnumNumbers.L1.T
      rw [bs_decide]
      split
      · refine Inc_ok hs fun M1 s1 l1 r1 => ?_
        rw [inc_of n (by omega) (by omega)] at r1
        simp only [ofO] at r1
        rw [show ((n + 1 : Nat) : Int) = (n : Int) + 1 from by omega]
        simp only [go_sem]
        refine refOf_ok fun M2 s2 l2 r2 => ?_
        simp only [go_sem]
        refine Same_ok (r1.le l2) r2 ?_
        simp only [go_sem, decide_true, Bool.not_true, bs_false]
        refine Value_ok (r1.le l2) ?_
        rw [numL_val _ (by omega) (by omega)]
        simp only [go_sem, bs_bne]
        rw [if_pos (by trivial)]
        refine Of_ok fun M3 s3 l3 r3 => ?_
        simp only [go_sem]
        refine Same_ok r3 ((r1.le l2).le l3) ?_
        simp only [go_sem, decide_true, Bool.not_true, bs_false]
        refine same_ok ((r1.le l2).le l3) fun M4 l4 => ?_
        simp only [go_sem, Bool.not_true, bs_false]
        rw [w64_in (by omega)]
        have := ih (n + 1) s1 M4 (by omega) (by omega) (((r1.le l2).le l3).le l4)
        exact this
      · exact ⟨2000, two 2000 1999 1998 s M rfl (by omega) (by omega) (by rw [show n = 1999 from by omega] at hs; exact hs)⟩
  exact ⟨2000, one 2000 0 ⟨none, 0, 0⟩ M (by omega) (by omega) RdI.nil⟩

theorem inc_shape {l m : List Int} (h : incL l = some m) : m = 0 :: l ∨ ∃ x r, l = x :: x :: r ∧ m = (x + 1) :: r := by
  unfold incL at h
  split at h
  · match l, h with
    | [], h => cases h; exact .inl rfl
    | [x], h => cases h; exact .inl rfl
    | x :: y :: r, h =>
      simp only at h
      split at h
      · rename_i hxy
        subst hxy
        split at h
        · cases h
        · cases h; exact .inr ⟨x, r, rfl, rfl⟩
      · cases h; exact .inl rfl
  · cases h

theorem skw_one {R : Value → Mem → Prop} (hR : ∀ M, R (.bool true) M) {n : Int} (hn : In64 n) : C PP w0 Id.thicketlaw10_SkewnumOne #[.int .i64 n] R M := by
  apply thicketlaw10_SkewnumOne.go
  intro pts H
  unfold thicketlaw10_SkewnumOne.T
  refine Within_ok hn (by omega) (by omega) (by omega) (by omega) fun x hx1 hx2 => ?_
  simp only [go_sem]
  refine Of_ok fun M1 sa l1 ra => ?_
  simp only [go_sem]
  refine Inc_ok ra fun M2 sb l2 rb => ?_
  have hinc := inc_of x (by omega) (by omega)
  rw [hinc] at rb
  simp only [ofO] at rb
  simp only [go_sem]
  have ra2 := ra.le l2
  refine Dec_ok ra2 fun M3 sc l3 rc => ?_
  rw [dec_of x hx1 (by omega)] at rc
  simp only [ofO] at rc
  have ra3 := ra2.le l3
  have rb3 := rb.le l3
  simp only [go_sem]
  refine Right_ok ra3 ?_
  simp only [go_sem, numL_rightB, Bool.not_true, bs_false]
  refine Value_ok ra3 ?_
  rw [numL_val _ (by omega) (by omega)]
  simp only [go_sem, bs_bne]
  rw [if_pos (by trivial)]
  refine Value_ok rb3 ?_
  rw [numL_val _ (by omega) (by omega)]
  simp only [go_sem, bs_bne]
  rw [w64_in (by omega), if_pos (by trivial)]
  refine Value_ok rc ?_
  rw [numL_val _ (by omega) (by omega)]
  simp only [go_sem, bs_bne]
  rw [w64_in (by omega), if_pos (by trivial)]
  refine Dec_ok rb3 fun M4 s4 l4 r4 => ?_
  rw [dec_of (x + 1) (by omega) (by omega)] at r4
  simp only [ofO, show x + 1 - 1 = x from by omega] at r4
  simp only [go_sem]
  refine Same_ok r4 (ra3.le l4) ?_
  simp only [go_sem, decide_true, Bool.not_true, bs_false]
  refine Inc_ok (rc.le l4) fun M5 s5 l5 r5 => ?_
  rw [inc_of (x - 1) (by omega) (by omega)] at r5
  simp only [ofO, show x - 1 + 1 = x from by omega] at r5
  simp only [go_sem]
  have ra5 := (ra3.le l4).le l5
  have rb5 := (rb3.le l4).le l5
  refine Same_ok r5 ra5 ?_
  simp only [go_sem, decide_true, Bool.not_true, bs_false]
  have h30 := right_len (numL_rightB x)
  have h30' := right_len (numL_rightB (x + 1))
  have hla := ra5.len
  have hlb := rb5.len
  obtain ⟨d, hd1, hd2, hd3, hd⟩ : ∃ d : Int, d = ((sa.n : Nat) : Int) - sb.n ∧ -1 ≤ d ∧ d ≤ 1 ∧ ∀ i : Nat, i + 2 < sa.n → ∃ v, (numL x)[i + 2]? = some v ∧ (numL (x + 1))[((i : Int) + 2 - d).toNat]? = some v := by
    refine ⟨_, rfl, ?_⟩
    rcases inc_shape hinc with e | ⟨y, r, e1, e2⟩
    · rw [hla, hlb, e]
      simp only [List.length_cons]
      refine ⟨by omega, by omega, fun i hi => ⟨_, List.getElem?_eq_getElem hi, ?_⟩⟩
      rw [show (i : Int) + 2 - (((numL x).length : Int) - ((numL x).length + 1 : Nat)) = ((i + 2 + 1 : Nat) : Int) from by omega, Int.toNat_natCast, List.getElem?_cons_succ]
      exact List.getElem?_eq_getElem hi
    · rw [hla, hlb, e1, e2]
      simp only [List.length_cons]
      refine ⟨by omega, by omega, fun i hi => ⟨_, List.getElem?_eq_getElem (by simpa using hi), ?_⟩⟩
      rw [show (i : Int) + 2 - (((r.length + 1 + 1 : Nat) : Int) - (r.length + 1 : Nat)) = ((i + 1 : Nat) : Int) from by omega, Int.toNat_natCast]
      simp only [List.getElem?_cons_succ, List.getElem_cons_succ]
      exact List.getElem?_eq_getElem (by omega)
  rw [H.J1]
  unfold thicketlaw10_SkewnumOne.J1.T
  rw [w64_in (by omega), ← hd1]
  simp only [bs_decide]
  rw [if_neg (by omega), if_neg (by omega), H.J2]
  unfold thicketlaw10_SkewnumOne.J2.T
  have hend : ∀ M, (std PP w0).call Id.thicketlaw10_known #[] (fun v38 M39 => shB v38 fun b40 => R (.bool b40) M39) M := fun M => by
    refine known10_ok fun M' _ => ?_
    simp only [go_sem]
    exact hR _
  have key : ∀ (k i : Nat), 30 < i + k → i ≤ 30 → thicketlaw10_SkewnumOne.L3 pts k sa sb d (i : Int) M5 := by
    intro k
    induction k with
    | zero => intro i h1 h2; omega
    | succ k ih =>
      intro i h1 h2
      rw [H.L3]
      unfold thicketlaw10_SkewnumOne.L3.T
      rw [w64_in (n := (i : Int) + 2) (by omega), w64_in (n := (i : Int) + 2 - d) (by omega)]
      simp only [bs_decide]
      split
      · split
        · rw [H.J4]
          unfold thicketlaw10_SkewnumOne.J4.T
          rw [w64_in (n := (i : Int) + 2) (by omega), w64_in (n := (i : Int) + 2 - d) (by omega), w64_in (n := (i : Int) + 1) (by omega)]
          simp only [bs_decide]
          have hnext : thicketlaw10_SkewnumOne.L3 pts k sa sb d ((i : Int) + 1) M5 := ih (i + 1) (by omega) (by omega)
          rw [if_pos (by omega)]
          obtain ⟨v, e1, e2⟩ := hd i (by omega)
          refine rdx W.c3 ra5 (Mem.le_refl _) (i + 2) (by omega) e1 ?_
          refine rdx W.c3 rb5 (Mem.le_refl _) _ (by omega) e2 ?_
          rw [bs_bne, if_pos rfl]
          exact hnext
        · exact hend _
      · exact hend _
  exact ⟨31, key 31 0 (by omega) (by omega)⟩

theorem join_num {x y : Int} (hx0 : 0 ≤ x) (hx1 : x ≤ 1048576) (hy0 : 0 ≤ y) (hy1 : y ≤ 1048576) : joinL (numL x) (numL y) = numL (x + y) := by
  unfold joinL
  rw [if_pos ⟨numL_rightB x, numL_rightB y⟩, (numL_right x hx0 (by omega)).2, (numL_right y hy0 (by omega)).2]

theorem skw_tells {R : Value → Mem → Prop} (hR : ∀ M, R (.bool true) M) {s : SV} {l : List Int} (hs : RdI w0 M .i64 s l) {n m : Int} (hn : In64 n) (hm : In64 m) : C PP w0 Id.thicketlaw10_SkewnumTells #[SV.v s, .int .i64 n, .int .i64 m] R M := by
  apply thicketlaw10_SkewnumTells.go
  intro pts H
  unfold thicketlaw10_SkewnumTells.T
  have hend : ∀ M, (std PP w0).call Id.thicketlaw10_known #[] (fun v38 M39 => shB v38 fun b40 => R (.bool b40) M39) M := fun M => by
    refine known10_ok fun M' _ => ?_
    simp only [go_sem]
    exact hR _
  have main : ∀ (s : SV) (l : List Int), RdI w0 M .i64 s l → thicketlaw10_SkewnumTells.J1 pts s n m M := by
    intro s l hs
    rw [H.J1]
    unfold thicketlaw10_SkewnumTells.J1.T
    refine Within_ok hn (by omega) (by omega) (by omega) (by omega) fun x hx0 hx1 => ?_
    simp only [go_sem]
    refine Within_ok hm (by omega) (by omega) (by omega) (by omega) fun y hy0 hy1 => ?_
    simp only [go_sem]
    refine refOf_ok fun M1 sa l1 ra => ?_
    simp only [go_sem]
    refine refOf_ok fun M2 sb l2 rb => ?_
    simp only [go_sem]
    refine same_ok ((hs.le l1).le l2) fun M3 l3 => ?_
    simp only [go_sem, Bool.not_true, bs_false]
    refine same_ok ((ra.le l2).le l3) fun M4 l4 => ?_
    simp only [go_sem, Bool.not_true, bs_false]
    refine Of_ok fun M5 s5 l5 r5 => ?_
    simp only [go_sem]
    refine refOf_ok fun M6 s6 l6 r6 => ?_
    simp only [go_sem]
    refine Same_ok (r5.le l6) r6 ?_
    simp only [go_sem, decide_true, Bool.not_true, bs_false]
    have ra6 := ((((ra.le l2).le l3).le l4).le l5).le l6
    have rb6 := (((rb.le l3).le l4).le l5).le l6
    have hs6 := (((((hs.le l1).le l2).le l3).le l4).le l5).le l6
    refine Joined_ok ra6 rb6 fun M7 s7 l7 r7 => ?_
    rw [join_num hx0 hx1 hy0 hy1] at r7
    simp only [go_sem]
    rw [w64_in (by omega)]
    refine refOf_ok fun M8 s8 l8 r8 => ?_
    simp only [go_sem]
    refine Same_ok (r7.le l8) r8 ?_
    simp only [go_sem, decide_true, Bool.not_true, bs_false]
    have ra8 := (ra6.le l7).le l8
    have hs8 := (hs6.le l7).le l8
    rw [H.J2]
    unfold thicketlaw10_SkewnumTells.J2.T
    refine refRight_ok hs8 ?_
    simp only [go_sem, bs_not]
    rw [bs_b]
    refine ⟨fun hr => hend _, fun hr => ?_⟩
    refine Joined_ok hs8 ra8 fun M9 s9 l9 r9 => ?_
    simp only [go_sem]
    refine Joined_ok (ra8.le l9) (hs8.le l9) fun M10 s10 l10 r10 => ?_
    have e1 : s9.n = 0 := by rw [r9.len, joinL, if_neg (by simp [hr])]; rfl
    have e2 : s10.n = 0 := by rw [r10.len, joinL, if_neg (by simp [hr])]; rfl
    simp only [go_sem, bs_beq, e1, e2]
    rw [if_pos (by decide)]
    exact hend _
  rw [bs_decide]
  split
  · have hc := hs.cap
    refine ⟨⟨by omega, by omega, by omega⟩, ?_⟩
    have ht := (hs.sub (i := 0) 0 rfl (by omega)).take (i := 40) (by simp; omega) (fun _ => rfl) (c := s.c - 0) (by omega)
    exact main _ _ ht
  · exact main s l hs

theorem skw_joins {R : Value → Mem → Prop} (hR : ∀ M, R (.bool true) M) {n m : Int} (hn : In64 n) (hm : In64 m) : C PP w0 Id.thicketlaw10_SkewnumJoins #[.int .i64 n, .int .i64 m] R M := by
  apply thicketlaw10_SkewnumJoins.go
  intro pts H
  unfold thicketlaw10_SkewnumJoins.T
  refine Within_ok hn (by omega) (by omega) (by omega) (by omega) fun x hx0 hx1 => ?_
  simp only [go_sem]
  refine Within_ok hm (by omega) (by omega) (by omega) (by omega) fun y hy0 hy1 => ?_
  simp only [go_sem]
  refine Of_ok fun M1 sa l1 ra => ?_
  simp only [go_sem]
  refine Of_ok fun M2 sb l2 rb => ?_
  simp only [go_sem]
  refine Joined_ok (ra.le l2) rb fun M3 sc l3 rc => ?_
  rw [join_num hx0 hx1 hy0 (by omega)] at rc
  simp only [go_sem]
  refine Joined_ok (rb.le l3) ((ra.le l2).le l3) fun M4 sd l4 rd => ?_
  rw [join_num hy0 (by omega) hx0 hx1, Int.add_comm] at rd
  simp only [go_sem]
  obtain ⟨yn, rfl⟩ : ∃ yn : Nat, y = (yn : Int) := ⟨y.toNat, by omega⟩
  have key : ∀ (k i : Nat) (s : SV) (M : Mem), i ≤ yn → yn < i + k → RdI w0 M .i64 sc (numL (x + yn)) → RdI w0 M .i64 sd (numL (x + yn)) → RdI w0 M .i64 s (numL (x + i)) → thicketlaw10_SkewnumJoins.L1 pts k x yn sc sd s (i : Int) M := by
    intro k
    induction k with
    | zero => intro i s M h1 h2; omega
    | succ k ih =>
      intro i s M h1 h2 hc hd hs
      rw [H.L1]
      unfold thicketlaw10_SkewnumJoins.L1.T
      rw [bs_decide]
      split
      · refine Inc_ok hs fun M5 s5 l5 r5 => ?_
        rw [inc_of (x + i) (by omega) (by omega)] at r5
        simp only [ofO] at r5
        simp only [go_sem]
        rw [w64_in (by omega)]
        refine ih (i + 1) s5 M5 (by omega) (by omega) (hc.le l5) (hd.le l5) ?_
        rw [show x + ((i + 1 : Nat) : Int) = x + i + 1 from by omega]; exact r5
      · have : i = yn := by omega
        subst this
        refine Same_ok hc hd ?_
        simp only [go_sem, decide_true, bs_true]
        refine Same_ok hc hs ?_
        simp only [go_sem, decide_true, bs_true]
        refine Value_ok hc ?_
        rw [numL_val _ (by omega) (by omega)]
        simp only [go_sem, bs_beq]
        rw [w64_in (by omega), if_pos (by trivial)]
        refine known10_ok fun M' _ => ?_
        simp only [go_sem]
        exact hR _
  refine ⟨yn + 1, key (yn + 1) 0 sa M4 (by omega) (by omega) (rc.le l4) rd ?_⟩
  have := ((ra.le l2).le l3).le l4
  rw [show x + ((0 : Nat) : Int) = x from by omega]; exact this

end
end Go.Proofs.Ytkibecgakkhljaa.HL
