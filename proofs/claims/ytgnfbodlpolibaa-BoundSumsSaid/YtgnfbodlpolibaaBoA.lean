/-
  BoA: the limits of steps, and the laws on them.
-/
import Derived.Test.YtgnfbodlpolibaaOrB
import Derived.Test.YtgnfbodlpolibaaHlK
set_option linter.unusedVariables false
set_option linter.unusedSimpArgs false
set_option maxRecDepth 100000
namespace Go.Proofs.Ytgnfbodlpolibaa.HL
open Go.RowKit (Below)
open Go.Proofs

def dgI (n : Int) : Int := 500 + 400 * (bl (n.toNat + 1) : Int)
def rightK (k : Int) : Prop := 1 ≤ k ∧ k ≤ 5
def worstK (k : Int) : Prop := 1 ≤ k ∧ k ≤ 3
instance (k : Int) : Decidable (rightK k) := by unfold rightK; infer_instance
instance (k : Int) : Decidable (worstK k) := by unfold worstK; infer_instance
def ofW (k op n : Int) : Int := if op = 2 then (if k = 3 then 500 else dgI n) else if op = 3 then (if k = 1 then 500 else dgI n) else if op = 4 ∨ op = 5 ∨ op = 6 ∨ op = 7 then dgI n else 500
def ofI (k op n : Int) : Int := if rightK k ∧ op = 9 then 500 + 400 * n else if worstK k then ofW k op n else 500
def shI' (k op n : Int) : Int := if worstK k ∨ ¬ rightK k then ofI k op n else if op = 4 ∨ op = 6 then dgI n else if (op = 2 ∨ op = 5 ∨ op = 7) ∧ k = 5 then dgI n else ofI k op n

theorem dgI_bound {n : Int} (h1 : n ≤ 1000000) : 500 ≤ dgI n ∧ dgI n ≤ 12900 := by
  unfold dgI
  have : bl (n.toNat + 1) ≤ 31 := bl_le (by omega)
  omega
theorem dgI_mono {m n : Int} (h : m ≤ n) : dgI m ≤ dgI n := by
  unfold dgI
  have : bl (m.toNat + 1) ≤ bl (n.toNat + 1) := bl_mono (by omega)
  omega
theorem ofW_bound {k op n : Int} (h1 : n ≤ 1000000) : 500 ≤ ofW k op n ∧ ofW k op n ≤ dgI n := by
  have := dgI_bound h1
  unfold ofW
  split
  · split <;> omega
  · split
    · split <;> omega
    · split <;> omega
theorem ofI_bound {k op n : Int} (h0 : 0 ≤ n) (h1 : n ≤ 1000000) : 500 ≤ ofI k op n ∧ ofI k op n ≤ 400000500 := by
  have := dgI_bound h1
  have := ofW_bound (k := k) (op := op) h1
  unfold ofI
  split
  · omega
  · split <;> omega
theorem sh_bound {k op n : Int} (h0 : 0 ≤ n) (h1 : n ≤ 1000000) : 500 ≤ shI' k op n ∧ shI' k op n ≤ 400000500 := by
  have := dgI_bound h1
  have := ofI_bound (k := k) (op := op) h0 h1
  unfold shI'
  split
  · omega
  · split
    · omega
    · split <;> omega
theorem ofI_mono {k op m n : Int} (h : m ≤ n) : ofI k op m ≤ ofI k op n := by
  have := dgI_mono h
  unfold ofI ofW
  split
  · omega
  · split
    · split
      · split <;> omega
      · split
        · split <;> omega
        · split <;> omega
    · omega
theorem sh_mono {k op m n : Int} (h : m ≤ n) : shI' k op m ≤ shI' k op n := by
  have := dgI_mono h
  have := ofI_mono (k := k) (op := op) h
  unfold shI'
  split
  · omega
  · split
    · omega
    · split <;> omega

section
variable {w0 : World} {M M0 F : Mem} {R : Value → Mem → Prop}

theorem Worst_ok {k : Int} (h : R (.bool (decide (worstK k))) M) : C PP w0 Id.kind_Worst #[.int .i64 k] R M := by
  apply kind_Worst.go
  unfold kind_Worst.T
  rw [bs_decide]
  split
  · rw [show decide (worstK k) = decide (k ≤ 3) from by rw [decide_eq_decide]; unfold worstK; omega] at h; exact h
  · rw [decide_eq_false (by unfold worstK; omega)] at h; exact h
theorem Right_ok {k : Int} (h : R (.bool (decide (rightK k))) M) : C PP w0 Id.kind_Right #[.int .i64 k] R M := by
  apply kind_Right.go
  unfold kind_Right.T
  rw [bs_decide]
  split
  · rw [show decide (rightK k) = decide (k ≤ 5) from by rw [decide_eq_decide]; unfold rightK; omega] at h; exact h
  · rw [decide_eq_false (by unfold rightK; omega)] at h; exact h

theorem lim_small {a b : Int} {n : Nat} (ha : 0 ≤ a) (hb : 0 ≤ b) (ha1 : a ≤ 1000000) (hb1 : b ≤ 1000000) (hn : n ≤ 100) : limI a b n = a + b * n := by
  refine limI_small hb n a ha ?_
  have : b * (n : Int) ≤ 1000000 * 100 := Int.mul_le_mul hb1 (by omega) (by omega) (by omega)
  omega

theorem digits_ok {n : Int} (h0 : 0 ≤ n) (h1 : n ≤ 1000000) (h : R (.int .i64 (dgI n)) M) : C PP w0 Id.bound_digits #[.int .i64 n] R M := by
  apply bound_digits.go
  unfold bound_digits.T
  have e : (if n > 0 then n else 0) = n := by split <;> omega
  rw [e, bs_decide, if_pos (by omega), w64_in (by omega)]
  refine Limit_ok (by unfold In64; omega) (by unfold In64; omega) (by unfold In64; omega) ?_
  rw [shI_v, lim_small (by omega) (by omega) (by omega) (by omega) (bl_le (Nat.lt_of_lt_of_le (show (n + 1).toNat < 2 ^ 31 by omega) (Nat.pow_le_pow_right (by decide) (by decide)))), show (n + 1).toNat = n.toNat + 1 from by omega]
  exact h

theorem each_ok {n : Int} (h0 : 0 ≤ n) (h1 : n ≤ 1000000) (h : R (.int .i64 (500 + 400 * n)) M) : C PP w0 Id.bound_each #[.int .i64 n] R M := by
  apply bound_each.go
  unfold bound_each.T
  have e : (if n > 0 then n else 0) = n := by split <;> omega
  rw [e, bs_decide, if_neg (by omega), w64_in (n := 400 * n) (by omega), w64_in (by omega)]
  exact h

theorem Of_ok {k op n : Int} (h0 : 0 ≤ n) (h1 : n ≤ 1000000) (h : R (.int .i64 (ofI k op n)) M) : C PP w0 Id.bound_Of #[.int .i64 k, .int .i64 op, .int .i64 n] R M := by
  apply bound_Of.go
  intro pts H
  unfold bound_Of.T
  have hdg : ∀ v, v = dgI n → R (.int .i64 v) M → (std PP w0).call Id.bound_digits #[.int .i64 n] (fun v13 M14 => shI .i64 v13 fun n15 => R (.int .i64 n15) M14) M := fun v e hv => by
    refine digits_ok h0 h1 ?_
    rw [shI_v, ← e]; exact hv
  have hJ : worstK k → ¬ (rightK k ∧ op = 9) → bound_Of.J1 pts k op n M := by
    intro hw hne
    unfold ofI at h
    rw [if_neg hne, if_pos hw] at h
    rw [H.J1]
    unfold bound_Of.J1.T
    unfold ofW at h
    simp only [bs_beq]
    by_cases e2 : op = 2
    · rw [if_pos e2] at h ⊢
      split
      · rename_i e; rw [if_pos e] at h; exact h
      · rename_i e; rw [if_neg e] at h; exact hdg _ rfl h
    · rw [if_neg e2] at h ⊢
      by_cases e3 : op = 3
      · rw [if_pos e3] at h ⊢
        split
        · rename_i e; rw [if_pos e] at h; exact h
        · rename_i e; rw [if_neg e] at h; exact hdg _ rfl h
      · rw [if_neg e3] at h ⊢
        by_cases e4 : op = 4
        · rw [if_pos (.inl e4)] at h
          rw [if_pos e4, if_pos e4]; exact hdg _ rfl h
        · rw [if_neg e4]
          by_cases e5 : op = 5
          · rw [if_pos (.inr (.inl e5))] at h
            rw [if_pos e5, if_pos e5]; exact hdg _ rfl h
          · rw [if_neg e5]
            by_cases e6 : op = 6
            · rw [if_pos (.inr (.inr (.inl e6)))] at h
              rw [if_pos e6, if_pos e6]; exact hdg _ rfl h
            · rw [if_neg e6]
              by_cases e7 : op = 7
              · rw [if_pos (.inr (.inr (.inr e7)))] at h
                rw [if_pos e7]; exact hdg _ rfl h
              · rw [if_neg (by omega)] at h
                rw [if_neg e7]; exact h
  have hW : ¬ (rightK k ∧ op = 9) → (std PP w0).call Id.kind_Worst #[.int .i64 k] (fun v7 M8 => shB v7 fun b9 => bs (!b9) (R (.int .i64 500) M8) (bound_Of.J1 pts k op n M8)) M := by
    intro hne
    refine Worst_ok ?_
    rw [shB_v, bs_not, bs_decide]
    split
    · rename_i hw; exact hJ hw hne
    · rename_i hw
      unfold ofI at h
      rw [if_neg hne, if_neg hw] at h
      exact h
  refine Right_ok ?_
  rw [shB_v, bs_decide]
  split
  · rename_i hr
    rw [bs_beq]
    split
    · rename_i h9
      unfold ofI at h
      rw [if_pos ⟨hr, h9⟩] at h
      refine each_ok h0 h1 ?_
      rw [shI_v]; exact h
    · rename_i h9
      exact hW (fun hh => h9 hh.2)
  · rename_i hr
    exact hW (fun hh => hr hh.1)

theorem Shared_ok {k op n : Int} (h0 : 0 ≤ n) (h1 : n ≤ 1000000) (h : R (.int .i64 (shI' k op n)) M) : C PP w0 Id.bound_Shared #[.int .i64 k, .int .i64 op, .int .i64 n] R M := by
  apply bound_Shared.go
  intro pts H
  unfold bound_Shared.T
  have hdg : R (.int .i64 (dgI n)) M → (std PP w0).call Id.bound_digits #[.int .i64 n] (fun v13 M14 => shI .i64 v13 fun n15 => R (.int .i64 n15) M14) M := fun hv => by
    refine digits_ok h0 h1 ?_
    rw [shI_v]; exact hv
  have hof : R (.int .i64 (ofI k op n)) M → (std PP w0).call Id.bound_Of #[.int .i64 k, .int .i64 op, .int .i64 n] (fun v13 M14 => shI .i64 v13 fun n15 => R (.int .i64 n15) M14) M := fun hv => by
    refine Of_ok h0 h1 ?_
    rw [shI_v]; exact hv
  refine Worst_ok ?_
  unfold shI' at h
  rw [shB_v, bs_decide]
  split
  · rename_i hw
    rw [if_pos (.inl hw)] at h
    exact hof h
  · rename_i hw
    refine Right_ok ?_
    rw [shB_v, bs_not, bs_decide]
    split
    · rename_i hr
      rw [if_neg (fun hh => hh.elim hw (fun h => h hr))] at h
      rw [H.J1]
      unfold bound_Shared.J1.T
      have two : ∀ b : Bool, b = decide (op = 4 ∨ op = 6) → bound_Shared.J2 pts k op n op b M := by
        intro b hb
        rw [H.J2]
        unfold bound_Shared.J2.T
        rw [hb, bs_decide]
        split
        · rename_i e
          rw [if_pos e] at h; exact hdg h
        · rename_i e
          rw [if_neg e] at h
          simp only [bs_beq]
          have five : (op = 2 ∨ op = 5 ∨ op = 7) → (if k = 5 then (std PP w0).call Id.bound_digits #[.int .i64 n] (fun v13 M14 => shI .i64 v13 fun n15 => R (.int .i64 n15) M14) M else (std PP w0).call Id.bound_Of #[.int .i64 k, .int .i64 op, .int .i64 n] (fun v13 M14 => shI .i64 v13 fun n15 => R (.int .i64 n15) M14) M) := by
            intro ho
            split
            · rename_i h5
              rw [if_pos ⟨ho, h5⟩] at h; exact hdg h
            · rename_i h5
              rw [if_neg (fun hh => h5 hh.2)] at h; exact hof h
          by_cases e2 : op = 2
          · rw [if_pos e2, if_pos e2]; exact five (.inl e2)
          · rw [if_neg e2]
            by_cases e5 : op = 5
            · rw [if_pos e5, if_pos e5]; exact five (.inr (.inl e5))
            · rw [if_neg e5]
              by_cases e7 : op = 7
              · rw [if_pos e7]; exact five (.inr (.inr e7))
              · rw [if_neg e7]
                rw [if_neg (by omega)] at h
                exact hof h
      rw [bs_beq]
      split
      · rename_i e
        exact two _ (by rw [e]; rfl)
      · rename_i e
        refine two _ ?_
        rw [show (op == 6) = decide (op = 6) from by rw [Bool.eq_iff_iff]; simp, decide_eq_decide]
        omega
    · rename_i hr
      rw [if_pos (.inr hr)] at h
      exact hof h

theorem Budget_ok {k n : Int} (hk : worstK k) (h1 : 1 ≤ n) (h2 : n ≤ 4096) (h : R (.tuple #[.int .i64 (2000 + 1600 * (bl (n.toNat + 1) : Int)), .bool true]) M) : C PP w0 Id.bound_Budget #[.int .i64 k, .int .i64 n] R M := by
  apply bound_Budget.go
  unfold bound_Budget.T
  refine Worst_ok ?_
  rw [shB_v, bs_not, bs_decide, if_pos hk, bs_decide, if_neg (by omega), bs_decide, if_neg (by omega), w64_in (by omega)]
  refine Limit_ok (by unfold In64; omega) (by unfold In64; omega) (by unfold In64; omega) ?_
  rw [shI_v, lim_small (by omega) (by omega) (by omega) (by omega) (bl_le (Nat.lt_of_lt_of_le (show (n + 1).toNat < 2 ^ 31 by omega) (Nat.pow_le_pow_right (by decide) (by decide)))), show (n + 1).toNat = n.toNat + 1 from by omega]
  exact h
theorem Budget_no {k n : Int} (hk : ¬ worstK k) (h : R (.tuple #[.int .i64 0, .bool false]) M) : C PP w0 Id.bound_Budget #[.int .i64 k, .int .i64 n] R M := by
  apply bound_Budget.go
  unfold bound_Budget.T
  refine Worst_ok ?_
  rw [shB_v, bs_not, bs_decide, if_neg hk]
  exact h

abbrev Us := Int × Int × Int
def flatU (l : List Us) : List Int := l.flatMap fun p => [p.1, p.2.1, p.2.2]
theorem flatU_len (l : List Us) : (flatU l).length = l.length * 3 := by
  induction l with
  | nil => rfl
  | cons p l ih => simp only [flatU, List.flatMap_cons, List.length_append, List.length_cons, List.length_nil] at ih ⊢; omega
theorem flatU_get {l : List Us} {i : Nat} {p : Us} (h : l[i]? = some p) : ∀ f x, [p.1, p.2.1, p.2.2][f]? = some x → (flatU l)[i * 3 + f]? = some x := by
  induction l generalizing i with
  | nil => simp at h
  | cons q l ih =>
    intro f x hf
    cases i with
    | zero =>
      simp at h; subst h
      match f, hf with
      | 0, hf => simpa [flatU] using hf
      | 1, hf => simpa [flatU] using hf
      | 2, hf => simpa [flatU] using hf
      | f + 3, hf => simp at hf
    | succ i =>
      have := ih (i := i) (by simpa using h) f x hf
      rw [show (i + 1) * 3 + f = (i * 3 + f) + 1 + 1 + 1 from by omega]
      simpa [flatU] using this
theorem flatU_app (l m : List Us) : flatU (l ++ m) = flatU l ++ flatU m := by simp [flatU]
def okU (p : Us) : Prop := 1 ≤ p.1 ∧ p.1 ≤ 5 ∧ 1 ≤ p.2.1 ∧ p.2.1 ≤ 9 ∧ 0 ≤ p.2.2 ∧ p.2.2 ≤ 5000
theorem flatU_wf {l : List Us} (h : ∀ p ∈ l, okU p) : ∀ x ∈ flatU l, (Lit.int .i64 x).wf = true := wf_all fun x hx => by
  obtain ⟨p, hp, hx⟩ := List.mem_flatMap.1 hx
  have := h p hp
  unfold okU at this
  unfold In64
  simp at hx
  omega
def sumU : List Us → Int
  | [] => 0
  | p :: l => shI' p.1 p.2.1 p.2.2 + sumU l
theorem sumU_app (l m : List Us) : sumU (l ++ m) = sumU l + sumU m := by
  induction l with
  | nil => simp [sumU]
  | cons p l ih => simp only [List.cons_append, sumU, ih]; omega
theorem sumU_bound {l : List Us} (h : ∀ p ∈ l, okU p) : (l.length : Int) * 500 ≤ sumU l ∧ sumU l ≤ (l.length : Int) * 400000500 := by
  induction l with
  | nil => simp [sumU]
  | cons p l ih =>
    have h1 := h p List.mem_cons_self
    unfold okU at h1
    have h2 := sh_bound (k := p.1) (op := p.2.1) (n := p.2.2) (by omega) (by omega)
    have h3 := ih (fun q hq => h q (List.mem_cons_of_mem _ hq))
    simp only [sumU, List.length_cons]; omega

theorem Sum_ok {s : SV} {l : List Us} (hs : RdF w0 M 3 s (flatU l)) (hm : l.length ≤ 1000) (hok : ∀ p ∈ l, okU p) (h : ∀ M', Mem.le M M' → R (.int .i64 (sumU l)) M') : C PP w0 Id.bound_Sum #[SV.v s] R M := by
  apply bound_Sum.go
  intro pts H
  unfold bound_Sum.T
  have hn : s.n = l.length := by have := hs.len; rw [flatU_len] at this; omega
  have key : ∀ (k i : Nat) (M' : Mem), l.length < i + k → i ≤ l.length → Mem.le M M' → bound_Sum.L1 pts k (sumU (l.take i)) s ((s.n : Nat) : Int) (i : Int) M' := by
    intro k
    induction k with
    | zero => intro i M' h1 h2; omega
    | succ k ih =>
      intro i M' h1 h2 hle
      rw [H.L1]
      unfold bound_Sum.L1.T
      rw [bs_decide]
      split
      · have hi : i < l.length := by omega
        have ep := List.getElem?_eq_getElem hi
        have hp := hok _ (List.getElem_mem hi)
        generalize l[i] = p at ep hp
        refine rdfA (cs := [p.1, p.2.1, p.2.2]) W.g34 hs hle i rfl (by omega) (by simp) (flatU_get ep) ?_
        simp only [List.map_cons, List.map_nil, shA_v, shCons_v, shI_v, shNil_v]
        intro b hb hw
        have f1 := (Fit.nil (w0 := w0) (Mem.le_refl M')).new hb hw (cs := [.int .i64 0, .int .i64 0, .int .i64 0]) (e := 34)
        refine st_agg (vs := [.int .i64 p.1, .int .i64 p.2.1, .int .i64 p.2.2]) W.g34 (f1.own List.mem_cons_self) (by simp) (by intro v hv; simp only [List.mem_cons, List.not_mem_nil, or_false] at hv; rcases hv with rfl | rfl | rfl <;> rfl) ?_
        have f2 := f1.upd (cs' := over [.int .i64 0, .int .i64 0, .int .i64 0] 0 [.int .i64 p.1, .int .i64 p.2.1, .int .i64 p.2.2]) (e' := 34)
        have o2 := f2.own List.mem_cons_self
        have r0 : rd w0 _ ⟨b, 0, none⟩ = some (.int .i64 p.1) := rd_own (o := 0) o2
        have r1 : rd w0 _ ⟨b, 1, none⟩ = some (.int .i64 p.2.1) := rd_own (o := 1) o2
        have r2 : rd w0 _ ⟨b, 2, none⟩ = some (.int .i64 p.2.2) := rd_own (o := 2) o2
        have hle2 := Mem.le_trans hle f2.fr
        simp only [go_sem, add_eq, Nat.zero_add, r0, r1, r2]
        unfold okU at hp
        refine Shared_ok (by omega) (by omega) ?_
        simp only [go_sem]
        have b1 := sumU_bound (l := l.take i) (fun q hq => hok q (List.mem_of_mem_take hq))
        have b2 := sh_bound (k := p.1) (op := p.2.1) (n := p.2.2) (by omega) (by omega)
        have hti : (l.take i).length = i := by simp; omega
        rw [hti] at b1
        refine order_Add_ok (by unfold In64; omega) (by unfold In64; omega) ?_
        have e1 : addc (sumU (l.take i)) (shI' p.1 p.2.1 p.2.2) = sumU (l.take (i + 1)) := by
          rw [List.take_add_one, ep, sumU_app]
          unfold addc
          rw [if_neg (by omega), if_neg (by omega)]
          simp [sumU]
        rw [shI_v, e1, w64_in (by omega)]
        exact ih (i + 1) _ (by omega) (by omega) hle2
      · have : i = l.length := by omega
        subst this
        rw [List.take_length]
        exact h M' hle
  exact ⟨l.length + 1, key _ 0 M (by omega) (by omega) (Mem.le_refl _)⟩

theorem known19_ok (h : ∀ M', Mem.le M M' → R (.bool true) M') : C PP w0 Id.thicketlaw19_known #[] R M := by
  apply thicketlaw19_known.go
  unfold thicketlaw19_known.T
  refine Budget_no (by decide) ?_
  simp only [go_sem]
  refine Budget_ok (by decide) (by omega) (by omega) ?_
  simp only [go_sem]
  refine Of_ok (by omega) (by omega) ?_
  simp only [go_sem, bs_beq]
  rw [if_pos (by decide)]
  simp only [Bool.not_false, bs_true]
  rw [if_pos (by decide)]
  refine Sum_ok (s := ⟨none, 0, 0⟩) (l := []) ⟨rfl, Nat.le_refl _, by decide, fun j x hx => by simp [flatU] at hx, by decide⟩ (by decide) (by simp) fun M2 l2 => ?_
  simp only [go_sem]
  exact h _ l2

theorem bo_rises (hR : ∀ M, R (.bool true) M) {k op n more : Int} (hk : In64 k) (hop : In64 op) (hn : In64 n) (hm : In64 more) : C PP w0 Id.thicketlaw19_BoundRises #[.int .i64 k, .int .i64 op, .int .i64 n, .int .i64 more] R M := by
  apply thicketlaw19_BoundRises.go
  intro pts H
  unfold thicketlaw19_BoundRises.T
  refine Within_ok hn (by omega) (by omega) (by omega) (by omega) fun a ha0 ha1 => ?_
  rw [shI_v, w64_in (by omega)]
  refine Within_ok hm (by omega) (by omega) (by omega) (by omega) fun b hb0 hb1 => ?_
  rw [shI_v]
  refine Of_ok ha0 (by omega) ?_
  rw [shI_v]
  refine Of_ok (by omega) (by omega) ?_
  have h1 := ofI_mono (k := k) (op := op) (show a ≤ b by omega)
  have h2 := sh_mono (k := k) (op := op) (show a ≤ b by omega)
  have h3 := ofI_bound (k := k) (op := op) ha0 (show a ≤ 1000000 by omega)
  rw [shI_v, bs_decide, if_neg (by omega)]
  refine Shared_ok ha0 (by omega) ?_
  rw [shI_v]
  refine Shared_ok (by omega) (by omega) ?_
  rw [shI_v, bs_decide, if_neg (by omega)]
  refine Of_ok ha0 (by omega) ?_
  rw [shI_v, bs_decide, if_neg (by omega), H.J1]
  unfold thicketlaw19_BoundRises.J1.T
  refine Within_ok hk (by omega) (by omega) (by omega) (by omega) fun c hc0 hc1 => ?_
  rw [shI_v]
  refine Budget_ok ⟨hc0, hc1⟩ (by omega) hb1 ?_
  simp only [shT_v, shCons_v, shI_v, shB_v, shNil_v, bs_true]
  have hend : ∀ M, (std PP w0).call Id.thicketlaw19_known #[] (fun v38 M39 => shB v38 fun b40 => R (.bool b40) M39) M := fun M => by
    refine known19_ok fun M' _ => ?_
    rw [shB_v]
    exact hR _
  rw [bs_beq]
  split
  · exact hend _
  · rename_i h9
    refine Of_ok ha0 (by omega) ?_
    have h4 : ofI c op a ≤ 2000 + 1600 * (bl (b.toNat + 1) : Int) := by
      have h5 := dgI_mono (show a ≤ b by omega)
      have h6 := ofW_bound (k := c) (op := op) (n := a) (by omega)
      unfold ofI
      rw [if_neg (fun hh => h9 hh.2)]
      unfold dgI at h5 h6
      split <;> omega
    rw [shI_v, bs_decide, if_pos h4]
    exact hend _

end
end Go.Proofs.Ytgnfbodlpolibaa.HL
