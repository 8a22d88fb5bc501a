/-
  OrC: numbers and entries: the document's own answers, the first least one, rows in order.
-/
import Derived.Test.YtgnfbodlpolibaaOrB
import Derived.Test.YtgnfbodlpolibaaMdC
set_option linter.unusedVariables false
set_option linter.unusedSimpArgs false
set_option maxRecDepth 100000
namespace Go.Proofs.Ytgnfbodlpolibaa.HL
open Go.RowKit (Below)
open Go.Proofs

/-- Where the first least one of the first n stands. -/
def lstI (l : List Ent) : Nat → Nat
  | 0 => 0
  | n + 1 => match l[n]?, l[lstI l n]? with
    | some x, some y => if Lt x y then n else lstI l n
    | _, _ => lstI l n
theorem lstI_le (l : List Ent) : ∀ n, lstI l n ≤ n
  | 0 => Nat.le_refl _
  | n + 1 => by
    unfold lstI
    have := lstI_le l n
    split
    · split <;> omega
    · omega
theorem lstI_lt {l : List Ent} (h : 0 < l.length) : ∀ n, n ≤ l.length → lstI l n < l.length
  | 0, _ => h
  | n + 1, hn => by
    unfold lstI
    have := lstI_lt h n (by omega)
    split
    · split <;> omega
    · omega
theorem lstI_succ {l : List Ent} {n : Nat} {x y : Ent} (hx : l[n]? = some x) (hy : l[lstI l n]? = some y) : lstI l (n + 1) = if Lt x y then n else lstI l n := by
  rw [lstI, hx, hy]
theorem lstI_one (l : List Ent) : lstI l 1 = 0 := by
  rw [lstI]
  split
  · split <;> rfl
  · rfl
def SortedI (l : List Ent) : Prop := ∀ (i : Nat) x y, l[i]? = some x → l[i + 1]? = some y → ¬ Lt y x
theorem Srt.sortedI {l : List Ent} (h : Srt l) : SortedI l := fun i x y hx hy => by
  obtain ⟨h1, rfl⟩ := List.getElem?_eq_some_iff.1 hx
  obtain ⟨h2, rfl⟩ := List.getElem?_eq_some_iff.1 hy
  exact List.pairwise_iff_getElem.1 h i (i + 1) h1 h2 (by omega)
theorem cmpI_eq (a b : Ent) : cmpI a.1 a.2 b.1 b.2 = if Lt a b then -1 else if Lt b a then 1 else 0 := by
  by_cases h1 : Lt a b
  · rw [if_pos h1]
    unfold Lt at h1
    unfold cmpI
    repeat' split
    all_goals omega
  · rw [if_neg h1]
    by_cases h2 : Lt b a
    · rw [if_pos h2]
      unfold Lt at h1 h2
      unfold cmpI
      repeat' split
      all_goals omega
    · rw [if_neg h2]
      unfold Lt at h1 h2
      unfold cmpI
      repeat' split
      all_goals omega

section
variable {w0 : World} {M M0 F : Mem} {R : Value → Mem → Prop}

theorem rAdd_ok {a b : Int} (ha : In64 a) (hb : In64 b) (h : R (.int .i64 (addc a b)) M) : C PP w0 Id.thicketref1_Add #[.int .i64 a, .int .i64 b] R M := by
  apply thicketref1_Add.go
  intro pts H
  unfold thicketref1_Add.T
  unfold In64 at ha hb
  unfold addc at h
  have hj : (a < 0 ∨ ¬ (9223372036854775807 < a + b)) → thicketref1_Add.J1 pts a b M := by
    intro hc
    rw [H.J1]
    unfold thicketref1_Add.J1.T
    rw [bs_decide]
    split
    · rw [w64_in (n := (-9223372036854775808) - a) (by omega), bs_decide]
      split
      · rw [if_neg (by omega), if_pos (by omega)] at h; exact h
      · rw [if_neg (by omega), if_neg (by omega)] at h
        rw [w64_in (by omega)]; exact h
    · rw [if_neg (by omega), if_neg (by omega)] at h
      rw [w64_in (by omega)]; exact h
  rw [bs_decide]
  split
  · rw [w64_in (by omega), bs_decide]
    split
    · rw [if_pos (by omega)] at h; exact h
    · exact hj (.inr (by omega))
  · by_cases h0 : a < 0
    · exact hj (.inl h0)
    · exact hj (.inr (by omega))
theorem rBits_ok {n : Int} (hn : In64 n) (h : R (.int .i64 (bl n.toNat : Int)) M) : C PP w0 Id.thicketref1_Bits #[.int .i64 n] R M := by
  apply thicketref1_Bits.go
  intro pts H
  unfold thicketref1_Bits.T
  have key : ∀ (k : Nat) (m j : Nat), bl m < k → (m : Int) ≤ 9223372036854775807 → bl m + j = bl n.toNat → thicketref1_Bits.L1 pts k (m : Int) (j : Int) M := by
    intro k
    induction k with
    | zero => intro m j h1; omega
    | succ k ih =>
      intro m j h1 h2 h3
      rw [H.L1]
      unfold thicketref1_Bits.L1.T
      have h64 : bl n.toNat ≤ 64 := bl_le (by unfold In64 at hn; omega)
      rw [bs_decide]
      split
      · rename_i hp
        have hb := bl_half (n := m) (by omega)
        refine ⟨rfl, by omega, ?_⟩
        rw [show Int.tdiv (m : Int) 2 = ((m / 2 : Nat) : Int) from rfl, w64_in (n := ((m / 2 : Nat) : Int)) (by omega), w64_in (by omega)]
        exact ih (m / 2) (j + 1) (by omega) (by omega) (by omega)
      · have : m = 0 := by omega
        subst this
        rw [show bl 0 = 0 from rfl] at h3
        rw [show j = bl n.toNat from by omega]; exact h
  by_cases h0 : 0 ≤ n
  · refine ⟨bl n.toNat + 1, ?_⟩
    have := key (bl n.toNat + 1) n.toNat 0 (by omega) (by unfold In64 at hn; omega) (by omega)
    rwa [show ((n.toNat : Nat) : Int) = n from by omega] at this
  · refine ⟨1, ?_⟩
    rw [H.L1]
    unfold thicketref1_Bits.L1.T
    rw [bs_decide, if_neg (by omega)]
    rw [show n.toNat = 0 from by omega] at h
    exact h
theorem rLimit_ok {a b n : Int} (ha : In64 a) (hb : In64 b) (hn : In64 n) (h : R (.int .i64 (limI a b (bl n.toNat))) M) : C PP w0 Id.thicketref1_Limit #[.int .i64 a, .int .i64 b, .int .i64 n] R M := by
  apply thicketref1_Limit.go
  intro pts H
  unfold thicketref1_Limit.T
  refine rBits_ok hn ?_
  rw [shI_v]
  have h64 : bl n.toNat ≤ 64 := bl_le (by unfold In64 at hn; omega)
  generalize bl n.toNat = m at h h64
  have key : ∀ (k : Nat) (x : Int), In64 x → k ≤ 64 → (R (.int .i64 (limI x b k)) M) → thicketref1_Limit.L1 pts (k + 1) b x (k : Int) M := by
    intro k
    induction k with
    | zero =>
      intro x hx _ hR
      rw [H.L1]
      unfold thicketref1_Limit.L1.T
      rw [bs_decide, if_neg (by omega)]; exact hR
    | succ k ih =>
      intro x hx hk hR
      rw [H.L1]
      unfold thicketref1_Limit.L1.T
      rw [bs_decide, if_pos (by omega)]
      refine rAdd_ok hx hb ?_
      rw [shI_v, w64_in (by omega), show ((k + 1 : Nat) : Int) - 1 = (k : Int) from by omega]
      exact ih (addc x b) addc_in (by omega) hR
  exact ⟨m + 1, key m a ha h64 h⟩

theorem ldEb {b : Nat} {x y : Int} (h : Own w0 F b [.int .i64 x, .int .i64 y] 40) (hl : Mem.le F M) : (std PP w0).ld 40 ⟨b, 0, none⟩ M = some (.agg #[.int .i64 x, .int .i64 y]) :=
  ld_agg (cs := [.int .i64 x, .int .i64 y]) W.g40 (fun j v hj => by rw [add_eq, rd_own (h.le hl), Nat.zero_add]; exact hj)
theorem rCompare_ok {a b : Ent} (h : ∀ M', Mem.le M M' → R (.int .i64 (cmpI a.1 a.2 b.1 b.2)) M') : C PP w0 Id.thicketref1_Compare #[.agg #[.int .i64 a.1, .int .i64 a.2], .agg #[.int .i64 b.1, .int .i64 b.2]] R M := by
  apply thicketref1_Compare.go
  unfold thicketref1_Compare.T
  refine two_box fun x1 x2 M1 l1 e1 e2 r1 r2 r3 r4 o1 o2 => ?_
  rw [e1]
  simp only [go_sem]
  rw [e2]
  simp only [go_sem]
  refine rBefore_ok fun M2 l2 => ?_
  rw [shB_v, bs_decide]
  split
  · rename_i hlt
    have := h M2 (Mem.le_trans l1 l2)
    rw [cmpI_eq, if_pos hlt] at this; exact this
  · rename_i hlt
    rw [ldEb o2 l2]
    simp only [go_sem]
    rw [ldEb o1 l2]
    simp only [go_sem]
    refine rBefore_ok fun M3 l3 => ?_
    have := h M3 (Mem.le_trans l1 (Mem.le_trans l2 l3))
    rw [cmpI_eq, if_neg hlt] at this
    rw [shB_v, bs_decide]
    split
    · rename_i h2; rw [if_pos h2] at this; exact this
    · rename_i h2; rw [if_neg h2] at this; exact this

theorem LeastE_ok {s : SV} {l : List Ent} (hs : RdE w0 M s l) (hb : l.length ≤ 1000000) (h : ∀ M', Mem.le M M' → R (.tuple #[.int .i64 (lstI l l.length : Int), .bool (decide (0 < l.length))]) M') : C PP w0 Id.order_Least #[SV.v s] R M := by
  apply order_Least.go
  intro pts H
  unfold order_Least.T
  have hn := hs.len
  have key : ∀ (k i : Nat) (M' : Mem), i ≤ l.length → l.length < i + k → Mem.le M M' → order_Least.L1 pts k s ((lstI l i : Nat) : Int) s ((s.n : Nat) : Int) (i : Int) M' := by
    intro k
    induction k with
    | zero => intro i M' h1 h2; omega
    | succ k ih =>
      intro i M' hi hk hl
      rw [H.L1]
      unfold order_Least.L1.T
      rw [bs_decide]
      split
      · have hlt : i < l.length := by omega
        have hq : lstI l i < l.length := lstI_lt (by omega) i hi
        have ex := List.getElem?_eq_getElem hlt
        have ey := List.getElem?_eq_getElem hq
        generalize l[i] = x at ex
        generalize l[lstI l i] = y at ey
        refine rdE hs hl i rfl ex ?_
        refine boxE (Holds.self (P := emp) ⟨[], rfl, Fit.nil (Mem.le_refl _)⟩) x.1 x.2 fun b F1 M2 l2 hH hbx => ?_
        have e1 := (hbx _ hH.fr).2.2
        rw [e1]
        simp only [go_sem]
        have lm := Mem.le_trans hl (Mem.le_trans l2 hH.fr)
        refine rdE hs lm _ rfl ey ?_
        refine Before_ok fun M3 l3 => ?_
        have hsu := lstI_succ ex ey
        rw [shB_v, i64_succ (by omega), bs_decide]
        have hle := Mem.le_trans lm l3
        split
        · rename_i hc
          rw [if_pos hc] at hsu
          have := ih (i + 1) M3 (by omega) (by omega) hle
          rw [hsu] at this; exact this
        · rename_i hc
          rw [if_neg hc] at hsu
          have := ih (i + 1) M3 (by omega) (by omega) hle
          rw [hsu] at this; exact this
      · have hi' : i = l.length := by omega
        subst hi'
        have := h M' hl
        rw [show decide (((s.n : Nat) : Int) > 0) = decide (0 < l.length) from by rw [decide_eq_decide]; omega]
        exact this
  exact ⟨l.length + 1, key (l.length + 1) 0 M (by omega) (by omega) (Mem.le_refl _)⟩
theorem rLeast_ok {s : SV} {l : List Ent} (hs : RdE w0 M s l) (hb : l.length ≤ 1000000) (h : ∀ M', Mem.le M M' → R (.tuple #[.int .i64 (lstI l l.length : Int), .bool (decide (0 < l.length))]) M') : C PP w0 Id.thicketref1_Least #[SV.v s] R M := by
  apply thicketref1_Least.go
  intro pts H
  unfold thicketref1_Least.T
  have hn := hs.len
  have key : ∀ (k i : Nat) (M' : Mem), 0 < i → (i ≤ l.length ∨ i = 1 ∧ l.length = 0) → l.length < i + k → 0 < k → Mem.le M M' → thicketref1_Least.L1 pts k s ((lstI l i : Nat) : Int) (i : Int) M' := by
    intro k
    induction k with
    | zero => intro i M' h1 h2 h3 h4; omega
    | succ k ih =>
      intro i M' h0 hi hk _ hl
      rw [H.L1]
      unfold thicketref1_Least.L1.T
      rw [bs_decide]
      split
      · have hlt : i < l.length := by omega
        have hq : lstI l i < l.length := lstI_lt (by omega) i (by omega)
        have ex := List.getElem?_eq_getElem hlt
        have ey := List.getElem?_eq_getElem hq
        generalize l[i] = x at ex
        generalize l[lstI l i] = y at ey
        refine rdE hs hl i rfl ex ?_
        refine rdE hs hl _ rfl ey ?_
        refine rBefore_ok fun M3 l3 => ?_
        have hsu := lstI_succ ex ey
        rw [shB_v, i64_succ (by omega), bs_decide]
        have hle := Mem.le_trans hl l3
        split
        · rename_i hc
          rw [if_pos hc] at hsu
          have := ih (i + 1) M3 (by omega) (.inl (by omega)) (by omega) (by omega) hle
          rw [hsu] at this; exact this
        · rename_i hc
          rw [if_neg hc] at hsu
          have := ih (i + 1) M3 (by omega) (.inl (by omega)) (by omega) (by omega) hle
          rw [hsu] at this; exact this
      · have := h M' hl
        rw [show decide (((s.n : Nat) : Int) > 0) = decide (0 < l.length) from by rw [decide_eq_decide]; omega]
        have e : lstI l i = lstI l l.length := by
          rcases hi with hi | ⟨rfl, hz⟩
          · rw [show i = l.length from by omega]
          · rw [lstI_one, hz]; rfl
        rw [e]; exact this
  have := key (l.length + 1) 1 M (by omega) (by omega) (by omega) (by omega) (Mem.le_refl _)
  rw [lstI_one] at this
  exact ⟨_, this⟩

theorem SortedE_ok {s : SV} {l : List Ent} (hs : RdE w0 M s l) (hb : l.length ≤ 1000000) (h1 : SortedI l → ∀ M', Mem.le M M' → R (.bool true) M') (h0 : ¬ SortedI l → ∀ M', Mem.le M M' → R (.bool false) M') : C PP w0 Id.order_Sorted #[SV.v s] R M := by
  apply order_Sorted.go
  unfold order_Sorted.T
  apply slices_IsSortedFuncapi_Entry_api_Entry.go _ s (Id.order_Compare, #[])
  intro pts H
  unfold slices_IsSortedFuncapi_Entry_api_Entry.T
  have hn := hs.len
  have key : ∀ (k i : Nat) (M' : Mem), (i = 0 ∨ i < l.length) → i < k → (∀ (j : Nat) x y, i ≤ j → l[j]? = some x → l[j + 1]? = some y → ¬ Lt y x) → Mem.le M M' → slices_IsSortedFuncapi_Entry_api_Entry.L1 pts k s (Id.order_Compare, #[]) (i : Int) M' := by
    intro k
    induction k with
    | zero => intro i M' h1 h2; omega
    | succ k ih =>
      intro i M' hi hk hinv hl
      rw [H.L1]
      unfold slices_IsSortedFuncapi_Entry_api_Entry.L1.T
      rw [bs_decide]
      split
      · have hlt : i < l.length := by omega
        have hlt2 : i - 1 < l.length := by omega
        have ex := List.getElem?_eq_getElem hlt
        have ey := List.getElem?_eq_getElem hlt2
        generalize l[i] = x at ex
        generalize l[i - 1] = y at ey
        refine rdE hs hl i rfl ex ?_
        refine rdE hs hl (i - 1) (by rw [w64_in (by omega)]; omega) ey ?_
        show C PP w0 Id.order_Compare #[.agg #[.int .i64 x.1, .int .i64 x.2], .agg #[.int .i64 y.1, .int .i64 y.2]] _ _
        refine Compare_ok fun M3 l3 => ?_
        have hle := Mem.le_trans hl l3
        rw [shI_v, bs_decide]
        simp only [cmpI_lt]
        split
        · rename_i hc
          refine h0 (fun hS => hS (i - 1) y x ey (by rw [show i - 1 + 1 = i from by omega]; exact ex) hc) M3 hle
        · rename_i hc
          have := ih (i - 1) M3 (by omega) (by omega) (fun j p q hj hp hq => by
            by_cases hji : j = i - 1
            · subst hji
              rw [ey] at hp; cases hp
              rw [show i - 1 + 1 = i from by omega, ex] at hq; cases hq
              exact hc
            · exact hinv j p q (by omega) hp hq) hle
          rw [w64_in (by omega)]
          rw [show ((i : Int) - 1) = ((i - 1 : Nat) : Int) from by omega]
          exact this
      · have hi0 : i = 0 := by omega
        subst hi0
        exact h1 (fun j x y hx hy => hinv j x y (by omega) hx hy) M' hl
  by_cases h9 : l.length = 0
  · refine ⟨1, ?_⟩
    rw [H.L1]
    unfold slices_IsSortedFuncapi_Entry_api_Entry.L1.T
    rw [w64_in (by omega), bs_decide, if_neg (by omega)]
    exact h1 (fun j x y hx hy => by have := (List.getElem?_eq_some_iff.1 hx).1; omega) M (Mem.le_refl _)
  · refine ⟨l.length, ?_⟩
    rw [w64_in (by omega), show (((s.n : Nat) : Int) - 1) = ((l.length - 1 : Nat) : Int) from by omega]
    exact key l.length (l.length - 1) M (by omega) (by omega) (fun j x y hj hx hy => by have := (List.getElem?_eq_some_iff.1 hy).1; omega) (Mem.le_refl _)
theorem rSorted_ok {s : SV} {l : List Ent} (hs : RdE w0 M s l) (hb : l.length ≤ 1000000) (h1 : SortedI l → ∀ M', Mem.le M M' → R (.bool true) M') (h0 : ¬ SortedI l → ∀ M', Mem.le M M' → R (.bool false) M') : C PP w0 Id.thicketref1_Sorted #[SV.v s] R M := by
  apply thicketref1_Sorted.go
  intro pts H
  unfold thicketref1_Sorted.T
  have hn := hs.len
  have key : ∀ (k i : Nat) (M' : Mem), 0 < i → l.length < i + k → 0 < k → (∀ (j : Nat) x y, j + 1 < i → l[j]? = some x → l[j + 1]? = some y → ¬ Lt y x) → Mem.le M M' → thicketref1_Sorted.L1 pts k s (i : Int) M' := by
    intro k
    induction k with
    | zero => intro i M' h1 h2 h3; omega
    | succ k ih =>
      intro i M' hi hk _ hinv hl
      rw [H.L1]
      unfold thicketref1_Sorted.L1.T
      rw [bs_decide]
      split
      · have hlt : i < l.length := by omega
        have hlt2 : i - 1 < l.length := by omega
        have ex := List.getElem?_eq_getElem hlt
        have ey := List.getElem?_eq_getElem hlt2
        generalize l[i] = x at ex
        generalize l[i - 1] = y at ey
        refine rdE hs hl i rfl ex ?_
        refine rdE hs hl (i - 1) (by rw [w64_in (by omega)]; omega) ey ?_
        refine rBefore_ok fun M3 l3 => ?_
        have hle := Mem.le_trans hl l3
        rw [shB_v, bs_decide]
        split
        · rename_i hc
          refine h0 (fun hS => hS (i - 1) y x ey (by rw [show i - 1 + 1 = i from by omega]; exact ex) hc) M3 hle
        · rename_i hc
          rw [i64_succ (by omega)]
          exact ih (i + 1) M3 (by omega) (by omega) (by omega) (fun j p q hj hp hq => by
            by_cases hji : j = i - 1
            · subst hji
              rw [ey] at hp; cases hp
              rw [show i - 1 + 1 = i from by omega, ex] at hq; cases hq
              exact hc
            · exact hinv j p q (by omega) hp hq) hle
      · exact h1 (fun j x y hx hy => by
          have := (List.getElem?_eq_some_iff.1 hy).1
          exact hinv j x y (by omega) hx hy) M' hl
  exact ⟨l.length + 1, key (l.length + 1) 1 M (by omega) (by omega) (by omega) (fun j x y hj => by omega) (Mem.le_refl _)⟩

/-- The two answer alike. -/
theorem same_ok {a b : Ent} {n x y : Int} (hn : In64 n) (hx : In64 x) (hy : In64 y) (h : ∀ M', Mem.le M M' → R (.bool true) M') :
    C PP w0 Id.thicketlaw1_same #[.agg #[.int .i64 a.1, .int .i64 a.2], .agg #[.int .i64 b.1, .int .i64 b.2], .int .i64 n, .int .i64 x, .int .i64 y] R M := by
  apply thicketlaw1_same.go
  unfold thicketlaw1_same.T
  refine two_box fun x1 x2 M1 l1 e1 e2 r1 r2 r3 r4 o1 o2 => ?_
  rw [e1, e2]
  simp only [go_sem]
  refine Before_ok fun M2 l2 => ?_
  rw [shB_v]
  refine ⟨ldEb o1 l2, ldEb o2 l2, ?_⟩
  refine rBefore_ok fun M3 l3 => ?_
  have l13 := Mem.le_trans l2 l3
  simp only [go_sem, eql_bool Try.underlying4, beq_self_eq_true]
  rw [bs_true, ldEb o1 l13, ldEb o2 l13]
  simp only [go_sem]
  refine Compare_ok fun M4 l4 => ?_
  have l14 := Mem.le_trans l13 l4
  rw [shI_v]
  refine ⟨ldEb o1 l14, ldEb o2 l14, ?_⟩
  refine rCompare_ok fun M5 l5 => ?_
  rw [shI_v, beq_self_eq_true, bs_true]
  refine Bits_ok hn ?_
  rw [shI_v]
  refine rBits_ok hn ?_
  rw [shI_v, beq_self_eq_true, bs_true]
  refine order_Add_ok hx hy ?_
  rw [shI_v]
  refine rAdd_ok hx hy ?_
  rw [shI_v, beq_self_eq_true, bs_true]
  refine Limit_ok hx hy hn ?_
  rw [shI_v]
  refine rLimit_ok hx hy hn ?_
  rw [shI_v, beq_self_eq_true]
  exact h M5 (Mem.le_trans l1 (Mem.le_trans l14 l5))

end
end Go.Proofs.Ytgnfbodlpolibaa.HL
