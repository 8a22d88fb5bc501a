/-
  OrH: numbers and entries: the laws on what is before what.
-/
import Derived.Test.YtgnfbodlpolibaaOrG
set_option linter.unusedVariables false
set_option linter.unusedSimpArgs false
set_option maxRecDepth 100000
namespace Go.Proofs.Ytgnfbodlpolibaa.HL
open Go.RowKit (Below)
open Go.Proofs

/-- How often one stands among the first. -/
def cntI (l : List Ent) (x : Ent) : Nat → Int
  | 0 => 0
  | k + 1 => cntI l x k + (if l[k]? = some x then 1 else 0)
theorem cntI_eq (l : List Ent) (x : Ent) : ∀ k, cntI l x k = (((l.take k).countP fun y => decide (y = x)) : Nat)
  | 0 => by simp [cntI]
  | k + 1 => by
    rw [cntI, cntI_eq l x k, List.take_add_one, List.countP_append]
    cases h : l[k]? with
    | none => simp
    | some y =>
      by_cases hy : y = x
      · subst hy; simp
      · simp [hy]
theorem cntI_perm {l m : List Ent} (h : l.Perm m) (x : Ent) : cntI l x l.length = cntI m x m.length := by
  rw [cntI_eq, cntI_eq, List.take_length, List.take_length, h.countP_eq]
theorem cntI_rng (l : List Ent) (x : Ent) : ∀ k, 0 ≤ cntI l x k ∧ cntI l x k ≤ k
  | 0 => ⟨Int.le_refl _, Int.le_refl _⟩
  | k + 1 => by
    have := cntI_rng l x k
    rw [cntI]
    split <;> omega

section
variable {w0 : World} {F M : Mem} {R : Value → Mem → Prop}

theorem bef_step {a b : Ent} {x1 x2 : Nat} (h1 : Own w0 F x1 [.int .i64 a.1, .int .i64 a.2] 40) (h2 : Own w0 F x2 [.int .i64 b.1, .int .i64 b.2] 40) (hl : Mem.le F M) {K : Bool → Mem → Prop} (hK : ∀ M', Mem.le F M' → K (decide (Lt a b)) M') :
    ob ((std PP w0).ld 40 ⟨x1, 0, none⟩ M) fun v7 => shA v7 fun l8 => shCons l8 fun u9 r10 => shI .i64 u9 fun n11 => shCons r10 fun u12 r13 => shI .i64 u12 fun n14 => shNil r13 (ob ((std PP w0).ld 40 ⟨x2, 0, none⟩ M) fun v15 => shA v15 fun l16 => shCons l16 fun u17 r18 => shI .i64 u17 fun n19 => shCons r18 fun u20 r21 => shI .i64 u20 fun n22 => shNil r21
      ((std PP w0).call Id.order_Before #[.agg #[.int .i64 n11, .int .i64 n14], .agg #[.int .i64 n19, .int .i64 n22]] (fun v23 M24 => shB v23 fun b25 => K b25 M24) M)) := by
  rw [ldEb h1 hl]
  simp only [ob_v, shA_v, shCons_v, shI_v, shNil_v]
  rw [ldEb h2 hl]
  simp only [ob_v, shA_v, shCons_v, shI_v, shNil_v]
  refine Before_ok fun M1 l1 => ?_
  rw [shB_v]
  exact hK M1 (Mem.le_trans hl l1)
theorem ne_step {X Y : Operand} {a b : Ent} {x1 x2 : Nat} (h1 : Own w0 F x1 [.int .i64 a.1, .int .i64 a.2] 40) (h2 : Own w0 F x2 [.int .i64 b.1, .int .i64 b.2] 40) (hl : Mem.le F M) {K : Bool → Prop} (hK : K (!decide (a = b))) :
    ob ((std PP w0).ld 40 ⟨x1, 0, none⟩ M) fun v7 => shA v7 fun l8 => shCons l8 fun u9 r10 => shI .i64 u9 fun n11 => shCons r10 fun u12 r13 => shI .i64 u12 fun n14 => shNil r13 (ob ((std PP w0).ld 40 ⟨x2, 0, none⟩ M) fun v15 => shA v15 fun l16 => shCons l16 fun u17 r18 => shI .i64 u17 fun n19 => shCons r18 fun u20 r21 => shI .i64 u20 fun n22 => shNil r21
      (ob ((std PP w0).bq .neq 40 X Y (.agg #[.int .i64 n11, .int .i64 n14]) (.agg #[.int .i64 n19, .int .i64 n22])) fun v80 => shB v80 fun b81 => K b81)) := by
  rw [ldEb h1 hl]
  simp only [ob_v, shA_v, shCons_v, shI_v, shNil_v]
  rw [ldEb h2 hl]
  simp only [ob_v, shA_v, shCons_v, shI_v, shNil_v, neE]
  rw [shB_v, eq_ent]
  exact hK

theorem OrderOrders_ok (hR : ∀ M', R (.bool true) M') {a0 a1 b0 b1 c0 c1 : Int} {s : SV} {l : List Ent} (hs : RdE w0 M s l) :
    C PP w0 Id.thicketlaw1_OrderOrders #[.agg #[.int .i64 a0, .int .i64 a1], .agg #[.int .i64 b0, .int .i64 b1], .agg #[.int .i64 c0, .int .i64 c1], SV.v s] R M := by
  apply thicketlaw1_OrderOrders.go
  intro pts H
  unfold thicketlaw1_OrderOrders.T
  intro x1 hx1 hw1
  intro x2 hx2 hw2
  intro x3 hx3 hw3
  have f1 := (((Fit.nil (w0 := w0) (Mem.le_refl M)).new hx1 hw1 (cs := [.int .i64 a0, .int .i64 a1]) (e := 40)).new hx2 hw2 (cs := [.int .i64 b0, .int .i64 b1]) (e := 40)).new hx3 hw3 (cs := [.int .i64 c0, .int .i64 c1]) (e := 40)
  have o3 := f1.own List.mem_cons_self
  have o2 := f1.own (List.mem_cons_of_mem _ List.mem_cons_self)
  have o1 := f1.own (List.mem_cons_of_mem _ (List.mem_cons_of_mem _ List.mem_cons_self))
  have hle := f1.fr
  generalize ((M.set x1 (.row [.int .i64 a0, .int .i64 a1] 40)).set x2 (.row [.int .i64 b0, .int .i64 b1] 40)).set x3 (.row [.int .i64 c0, .int .i64 c1] 40) = M1 at o1 o2 o3 hle ⊢
  clear f1
  obtain ⟨a, ea⟩ : ∃ a : Ent, a = (a0, a1) := ⟨_, rfl⟩
  obtain ⟨b, eb⟩ : ∃ b : Ent, b = (b0, b1) := ⟨_, rfl⟩
  obtain ⟨c, ec⟩ : ∃ c : Ent, c = (c0, c1) := ⟨_, rfl⟩
  replace o1 : Own w0 M1 x1 [.int .i64 a.1, .int .i64 a.2] 40 := by rw [ea]; exact o1
  replace o2 : Own w0 M1 x2 [.int .i64 b.1, .int .i64 b.2] 40 := by rw [eb]; exact o2
  replace o3 : Own w0 M1 x3 [.int .i64 c.1, .int .i64 c.2] 40 := by rw [ec]; exact o3
  clear ea eb ec
  -- what is sorted
  have keyJ1 : ∀ M', Mem.le M1 M' → thicketlaw1_OrderOrders.J1 pts s M' := by
    intro M' l1
    rw [H.J1]
    unfold thicketlaw1_OrderOrders.J1.T
    refine entries_ok (most := 20) (hs.le (Mem.le_trans hle l1)) (by decide) (Holds.self (P := emp) ⟨[], rfl, Fit.nil (Mem.le_refl M')⟩) fun M2 s2 z l2 h2 hz => ?_
    rw [shS_sv]
    refine Sort_ok h2 h2.rdE (by omega) fun M3 s3 y l3 h3 hy hp => ?_
    have hpl := hp.length_eq
    have n2 := h3.right.lenE
    have n3 := h3.lenE
    rw [shS_sv, bs_bne, if_pos (by omega)]
    refine SortedE_ok h3.rdE (by omega) (fun _ M4 l4 => ?_) fun hn => absurd hy.sortedI hn
    rw [shB_v, Bool.not_true, bs_false, H.J2]
    unfold thicketlaw1_OrderOrders.J2.T
    have r2 := h3.right.rdE.le l4
    have r3 := h3.rdE.le l4
    clear h3 h2
    have key3 : ∀ (k i : Nat), i ≤ z.length → z.length < i + k → thicketlaw1_OrderOrders.L3 pts k s2 s3 (i : Int) M4 := by
      intro k
      induction k with
      | zero => intro i h1 h2; omega
      | succ k ih =>
        intro i hi hk
        rw [H.L3]
        unfold thicketlaw1_OrderOrders.L3.T
        rw [bs_decide]
        split
        · have hlt : i < z.length := by omega
          have ex := List.getElem?_eq_getElem hlt
          generalize z[i] = x at ex
          have key4 : ∀ (k' j : Nat), j ≤ z.length → z.length < j + k' → thicketlaw1_OrderOrders.L4 pts k k' s2 s3 (i : Int) (cntI z x j - cntI y x j) (j : Int) M4 := by
            intro k'
            induction k' with
            | zero => intro j h1 h2; omega
            | succ k' ih2 =>
              intro j hj hk'
              have c1 := cntI_rng z x j
              have c2 := cntI_rng y x j
              rw [H.L4]
              unfold thicketlaw1_OrderOrders.L4.T
              rw [bs_decide]
              split
              · have hjz : j < z.length := by omega
                have hjy : j < y.length := by omega
                have ep := List.getElem?_eq_getElem hjz
                have eq := List.getElem?_eq_getElem hjy
                generalize z[j] = p at ep
                generalize y[j] = q at eq
                have keyJ5 : thicketlaw1_OrderOrders.J5 pts k k' s2 s3 (i : Int) (cntI z x (j + 1) - cntI y x j) (j : Int) M4 := by
                  have c3 := cntI_rng z x (j + 1)
                  rw [H.J5]
                  unfold thicketlaw1_OrderOrders.J5.T
                  refine rdE r3 (Mem.le_refl _) j rfl eq ?_
                  refine rdE r2 (Mem.le_refl _) i rfl ex ?_
                  rw [eqE, ob_v, shB_v, eq_ent, bs_decide, i64_succ (by omega)]
                  have := ih2 (j + 1) (by omega) (by omega)
                  rw [show cntI y x (j + 1) = cntI y x j + (if y[j]? = some x then 1 else 0) from rfl, eq] at this
                  split
                  · rename_i hq
                    subst hq
                    rw [if_pos rfl] at this
                    rw [w64_in (by omega), show cntI z q (j + 1) - cntI y q j - 1 = cntI z q (j + 1) - (cntI y q j + 1) from by omega]; exact this
                  · rename_i hq
                    rw [if_neg (by intro e; cases e; exact hq rfl), Int.add_zero] at this; exact this
                refine rdE r2 (Mem.le_refl _) j rfl ep ?_
                refine rdE r2 (Mem.le_refl _) i rfl ex ?_
                rw [eqE, ob_v, shB_v, eq_ent, bs_decide]
                rw [show cntI z x (j + 1) = cntI z x j + (if z[j]? = some x then 1 else 0) from rfl, ep] at keyJ5
                split
                · rename_i hq
                  subst hq
                  rw [if_pos rfl] at keyJ5
                  rw [w64_in (by omega), show cntI z p j - cntI y p j + 1 = cntI z p j + 1 - cntI y p j from by omega]; exact keyJ5
                · rename_i hq
                  rw [if_neg (by intro e; cases e; exact hq rfl), Int.add_zero] at keyJ5; exact keyJ5
              · have hjl : j = z.length := by omega
                subst hjl
                have he := cntI_perm hp x
                rw [hpl] at he
                rw [bs_bne, if_pos (by omega), i64_succ (by omega)]
                exact ih (i + 1) (by omega) (by omega)
          exact ⟨z.length + 1, key4 (z.length + 1) 0 (by omega) (by omega)⟩
        · refine known1_ok fun M5 l5 => ?_
          rw [shB_v]; exact hR _
    exact ⟨z.length + 1, key3 (z.length + 1) 0 (by omega) (by omega)⟩
  refine bef_step o1 o1 (Mem.le_refl _) fun M2 l2 => ?_
  rw [bs_decide, if_neg Lt.irr]
  refine bef_step o1 o2 l2 fun M3 l3 => ?_
  rw [bs_decide]
  split
  · rename_i hab
    refine bef_step o2 o1 l3 fun M4 l4 => ?_
    rw [bs_decide, if_neg hab.asym]
    refine ne_step o1 o2 l4 ?_
    rw [bs_not, bs_decide, if_neg (fun e => by subst e; exact Lt.irr hab)]
    refine bef_step o1 o2 l4 fun M5 l5 => ?_
    rw [bs_not, bs_decide, if_pos hab]
    refine bef_step o1 o2 l5 fun M6 l6 => ?_
    rw [bs_decide, if_pos hab]
    refine bef_step o2 o3 l6 fun M7 l7 => ?_
    rw [bs_decide]
    split
    · rename_i hbc
      refine bef_step o1 o3 l7 fun M8 l8 => ?_
      rw [bs_not, bs_decide, if_pos (hab.tr hbc)]
      exact keyJ1 _ l8
    · exact keyJ1 _ l7
  · rename_i hab
    refine ne_step o1 o2 l3 ?_
    rw [bs_not, bs_decide]
    split
    · refine bef_step o1 o2 l3 fun M5 l5 => ?_
      rw [bs_decide, if_neg hab]
      exact keyJ1 _ l5
    · rename_i hne
      refine bef_step o1 o2 l3 fun M4 l4 => ?_
      rw [bs_not, bs_decide, if_neg hab]
      refine bef_step o2 o1 l4 fun M5 l5 => ?_
      rw [bs_not, bs_decide, if_pos (by
        apply Classical.byContradiction
        intro hn
        exact hne (Lt.tot hab hn))]
      refine bef_step o1 o2 l5 fun M6 l6 => ?_
      rw [bs_decide, if_neg hab]
      exact keyJ1 _ l6

theorem w64_rng (n : Int) : In64 (w64 n) := by
  unfold In64 w64 IntKind.wrap
  simp [IntKind.bits, IntKind.signed]
  split <;> omega

theorem OrderNumbers_ok (hR : ∀ M', R (.bool true) M') : C PP w0 Id.thicketlaw1_OrderNumbers #[] R M := by
  apply thicketlaw1_OrderNumbers.go
  intro pts H
  unfold thicketlaw1_OrderNumbers.T
  have key3 : ∀ (k i : Nat) (s : SV) (l : List Ent) (M' : Mem), l.length ≤ 6 → i ≤ l.length + 1 → l.length + 1 < i + k → RdE w0 M' s l → thicketlaw1_OrderNumbers.L3 pts k s (i : Int) M' := by
    intro k
    induction k with
    | zero => intro i s l M' h1 h2 h3; omega
    | succ k ih =>
      intro i s l M' hl hi hk hs
      have hn := hs.len
      have hc := hs.cap
      rw [H.L3]
      unfold thicketlaw1_OrderNumbers.L3.T
      rw [bs_decide]
      split
      · have hil : i ≤ l.length := by omega
        refine ⟨⟨by omega, by omega, by omega⟩, ?_⟩
        have hc1 := hs.cut (lo := 0) (hi := i) (by omega) hil
        refine list_ok (s := s.cut 0 i) hc1 (by rw [List.length_drop, List.length_take]; omega) fun M2 l2 => ?_
        rw [shB_v, Bool.not_true, bs_false]
        refine ⟨⟨by omega, by omega, by omega⟩, ?_⟩
        have hc2 := (hs.le l2).cut (lo := i) (hi := l.length) hil (Nat.le_refl _)
        rw [← hn] at hc2
        refine list_ok (s := s.cut i s.n) hc2 (by rw [List.length_drop, List.length_take]; omega) fun M3 l3 => ?_
        rw [shB_v, Bool.not_true, bs_false, i64_succ (by omega)]
        exact ih (i + 1) s l M3 hl (by omega) (by omega) ((hs.le l2).le l3)
      · refine known1_ok fun M5 l5 => ?_
        rw [shB_v]; exact hR _
  have key : ∀ (k i : Nat) (M' : Mem), i ≤ 64 → 64 < i + k → thicketlaw1_OrderNumbers.L1 pts k (i : Int) M' := by
    intro k
    induction k with
    | zero => intro i M' h1 h2; omega
    | succ k ih =>
      intro i M' hi hk
      rw [H.L1]
      unfold thicketlaw1_OrderNumbers.L1.T
      rw [bs_decide]
      split
      · have hu : 0 ≤ u64 (i : Int) := by unfold u64 IntKind.wrap; simp [IntKind.bits, IntKind.signed]; omega
        refine ⟨hu, hu, hu, ?_⟩
        have g0 := w64_rng (1 * 2 ^ (min (u64 (i : Int)).toNat (IntKind.bits .i64)))
        generalize w64 (1 * 2 ^ (min (u64 (i : Int)).toNat (IntKind.bits .i64))) = p at g0 ⊢
        have g1 := w64_rng (p - 1)
        generalize w64 (p - 1) = q at g1 ⊢
        have g2 := w64_rng (0 - p)
        generalize w64 (0 - p) = r at g2 ⊢
        have g4 : ∀ x ∈ [p, q, r, 5], In64 x := fun x hx => by
          simp only [List.mem_cons, List.not_mem_nil, or_false] at hx
          rcases hx with rfl | rfl | rfl | rfl
          · exact g0
          · exact g1
          · exact g2
          · unfold In64; omega
        refine bsl_ints (k := .i64) (l := [p, q, r, 5]) (Mem.le_refl _) Try.underlying47 W.e2 (n := 4) (by decide) (by kernel_rfl) rfl fun M2 s2 l2 _ h2 => ?_
        simp only [go_sem]
        have r2 := h2.rdI (wf_all g4) (by show 4 ≤ 9223372036854775807; decide)
        have n2 : s2.n = 4 := r2.len
        have key2 : ∀ (k' j : Nat) (M3 : Mem), j ≤ 4 → 4 < j + k' → Mem.le M2 M3 → thicketlaw1_OrderNumbers.L2 pts k k' (i : Int) s2 ((s2.n : Nat) : Int) (j : Int) M3 := by
          intro k'
          induction k' with
          | zero => intro j M3 h1 h2; omega
          | succ k' ih2 =>
            intro j M3 hj hk' l3
            rw [H.L2]
            unfold thicketlaw1_OrderNumbers.L2.T
            rw [bs_decide]
            split
            · have hjl : j < ([p, q, r, 5] : List Int).length := by show j < 4; omega
              have ey := List.getElem?_eq_getElem hjl
              have hy := g4 _ (List.getElem_mem hjl)
              generalize ([p, q, r, 5] : List Int)[j] = y at ey hy
              refine rdx W.c2 r2 l3 j rfl ey ?_
              have g6 : ∀ x ∈ [0, 1, -1, 9223372036854775807, -9223372036854775808, y], In64 x := fun x hx => by
                simp only [List.mem_cons, List.not_mem_nil, or_false] at hx
                rcases hx with rfl | rfl | rfl | rfl | rfl | rfl
                · unfold In64; omega
                · unfold In64; omega
                · unfold In64; omega
                · unfold In64; omega
                · unfold In64; omega
                · exact hy
              refine bsl_ints (k := .i64) (l := [0, 1, -1, 9223372036854775807, -9223372036854775808, y]) (Mem.le_refl _) Try.underlying47 W.e2 (n := 6) (by decide) (by kernel_rfl) rfl fun M4 s4 l4 _ h4 => ?_
              simp only [go_sem]
              have r4 := h4.rdI (wf_all g6) (by show 6 ≤ 9223372036854775807; decide)
              have n4 : s4.n = 6 := r4.len
              have key4 : ∀ (k'' e : Nat) (M5 : Mem), e ≤ 6 → 6 < e + k'' → Mem.le M4 M5 → thicketlaw1_OrderNumbers.L4 pts k k' k'' (i : Int) y s2 ((s2.n : Nat) : Int) (j : Int) s4 ((s4.n : Nat) : Int) (e : Int) M5 := by
                intro k''
                induction k'' with
                | zero => intro e M5 h1 h2; omega
                | succ k'' ih4 =>
                  intro e M5 he hk'' l5
                  rw [H.L4]
                  unfold thicketlaw1_OrderNumbers.L4.T
                  rw [bs_decide]
                  split
                  · have hel : e < ([0, 1, -1, 9223372036854775807, -9223372036854775808, y] : List Int).length := by show e < 6; omega
                    have ew := List.getElem?_eq_getElem hel
                    have hw := g6 _ (List.getElem_mem hel)
                    generalize ([0, 1, -1, 9223372036854775807, -9223372036854775808, y] : List Int)[e] = w at ew hw
                    refine rdx W.c2 r4 l5 e rfl ew ?_
                    simp only [go_sem]
                    refine same_ok (a := (y, w)) (b := (w, y)) hy hy hw fun M6 l6 => ?_
                    rw [shB_v, Bool.not_true, bs_false]
                    refine same_ok (a := (y, 1)) (b := (y, w)) hw hw hy fun M7 l7 => ?_
                    rw [shB_v, Bool.not_true, bs_false, i64_succ (by omega)]
                    exact ih4 (e + 1) M7 (by omega) (by omega) (Mem.le_trans l5 (Mem.le_trans l6 l7))
                  · rw [i64_succ (by omega)]
                    exact ih2 (j + 1) M5 (by omega) (by omega) (Mem.le_trans l3 (Mem.le_trans l4 l5))
              exact ⟨7, key4 7 0 M4 (by omega) (by omega) (Mem.le_refl _)⟩
            · rw [i64_succ (by omega)]
              exact ih (i + 1) M3 (by omega) (by omega)
        exact ⟨5, key2 5 0 M2 (by omega) (by omega) (Mem.le_refl _)⟩
      · simp only [go_sem]
        refine bsl_e (n := 6) (cells := (esV [(3, 1), (3, 0), (-1, 9), (3, 0), (-9223372036854775808, 0), (9223372036854775807, 0)]).toArray) Try.underlying36 W.e40 (by decide) (by kernel_rfl) fun b hb hw => ?_
        simp only [go_sem]
        have l1 : Mem.le M' (M'.set b (.row (esV [(3, 1), (3, 0), (-1, 9), (3, 0), (-9223372036854775808, 0), (9223372036854775807, 0)]).toArray.toList 40)) := Mem.le_set _ hb
        have h2 := Holds.newSlk (Holds.self (P := emp) ⟨[], rfl, Fit.nil (w0 := w0) (Mem.le_refl M')⟩) l1 (SlK.new (n := 6) (k := 2) hb (Own.new hw) rfl)
        exact ⟨8, key3 8 0 _ [(3, 1), (3, 0), (-1, 9), (3, 0), (-9223372036854775808, 0), (9223372036854775807, 0)] _ (by decide) (by omega) (by show 6 + 1 < 0 + 8; omega) (Holds.rdE h2)⟩
  exact ⟨65, key 65 0 M (by omega) (by omega)⟩

end
end Go.Proofs.Ytgnfbodlpolibaa.HL
