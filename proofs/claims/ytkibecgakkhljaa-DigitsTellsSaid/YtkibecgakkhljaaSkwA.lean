/-
  SkwA: skew numbers: what each function does with the rows that it is given.
-/
import Derived.Test.YtkibecgakkhljaaGenW
import Derived.Test.YtkibecgakkhljaaGen0
import Derived.Test.YtkibecgakkhljaaGen1
import Derived.Test.YtkibecgakkhljaaGen2
import Derived.Test.YtkibecgakkhljaaGen3
import Derived.Test.YtkibecgakkhljaaGen4
import Derived.Test.YtkibecgakkhljaaHlI
import Derived.Test.YtkibecgakkhljaaSkwM
set_option linter.unusedVariables false
set_option linter.unusedSimpArgs false
set_option maxRecDepth 100000
namespace Go.Proofs.Ytkibecgakkhljaa.HL
open Go.RowKit (Below)
open Go.Proofs
open Skw

theorem okAt_iff {l : List Int} {i : Nat} {x y : Int} (hx : l[i]? = some x) (hy : l[i - 1]? = some y) : okAt l i = true ↔ 0 ≤ x ∧ x ≤ 28 ∧ (i = 0 ∨ (y ≤ x ∧ (i = 1 ∨ y ≠ x))) := by
  unfold okAt
  rw [hx]
  cases i with
  | zero => simp
  | succ j =>
    rw [Nat.add_sub_cancel] at hy
    simp only [hy, Bool.and_eq_true, decide_eq_true_eq, Bool.or_eq_true]
    omega
theorem rightB_false {l : List Int} {i : Nat} (hi : i < l.length) (h : ¬ okAt l i = true) : rightB l = false := by
  unfold rightB
  rw [← Bool.not_eq_true, List.all_eq_true]
  exact fun hh => h (hh i (List.mem_range.2 hi))
theorem rightB_true {l : List Int} (h : ∀ i < l.length, okAt l i = true) : rightB l = true := by
  unfold rightB
  rw [List.all_eq_true]
  exact fun i hi => h i (List.mem_range.1 hi)
theorem okAt_of {l : List Int} (h : rightB l = true) {i : Nat} (hi : i < l.length) : okAt l i = true := by
  unfold rightB at h
  rw [List.all_eq_true] at h
  exact h i (List.mem_range.2 hi)

theorem strict_len : ∀ (r : List Int) (y : Int), y ≤ 28 → strict y r → (r.length : Int) ≤ 28 - y
  | [], y, h, _ => by simp only [List.length_nil]; omega
  | z :: r, y, h, hs => by
    have := strict_len r z hs.2.1 hs.2.2
    have h1 := hs.1
    simp only [List.length_cons]; omega
theorem right_len {l : List Int} (h : rightB l = true) : l.length ≤ 30 := by
  have h := (rightB_iff l).1 h
  match l, h with
  | [], _ => simp
  | [x], _ => simp
  | x :: y :: r, h => have := strict_len r y h.2.2.1 h.2.2.2; have h1 := h.1; have h2 := h.2.1; simp only [List.length_cons]; omega
theorem sumW_take {l : List Int} (h : rightB l = true) (i : Nat) : 0 ≤ sumW (l.take i) ∧ sumW (l.take i) ≤ (i : Int) * 536870911 := by
  have hb : ∀ x ∈ l.take i, 0 ≤ x ∧ x ≤ 28 := fun x hx => rightP_nonneg ((rightB_iff l).1 h) x (List.mem_of_mem_take hx)
  refine ⟨sumW_nonneg hb, ?_⟩
  have : ∀ m : List Int, (∀ x ∈ m, 0 ≤ x ∧ x ≤ 28) → sumW m ≤ (m.length : Int) * 536870911 := by
    intro m
    induction m with
    | nil => intro _; simp [sumW]
    | cons x m ih =>
      intro hm
      rw [sumW_cons]
      have h1 := hm x List.mem_cons_self
      have := wt_le h1.1 h1.2
      have := ih (fun z hz => hm z (List.mem_cons_of_mem _ hz))
      simp only [List.length_cons]; omega
  have h2 := this _ hb
  have : ((l.take i).length : Int) ≤ i := by simp; omega
  omega
theorem sumW_next {l : List Int} {i : Nat} {x : Int} (hx : l[i]? = some x) : sumW (l.take (i + 1)) = sumW (l.take i) + wt x := by
  rw [List.take_add_one, hx, sumW_append]
  simp [sumW]
theorem pw {k : Int} (h0 : 0 ≤ k) (h1 : k ≤ 28) : w64 (k + 1) = k + 1 ∧ u64 (k + 1) = k + 1 ∧ w64 (1 * 2 ^ (min (k + 1).toNat (IntKind.bits .i64))) = wt k + 1 ∧ 1 ≤ wt k ∧ wt k ≤ 536870911 := by
  have e1 := wt_pos h0
  have e2 := wt_le h0 h1
  refine ⟨w64_in (by omega), by unfold u64 IntKind.wrap; simp [IntKind.bits, IntKind.signed]; omega, ?_, e1, e2⟩
  rw [show IntKind.bits .i64 = 64 from rfl, Nat.min_eq_left (by omega)]
  unfold wt at e1 e2 ⊢
  rw [w64_in (by omega)]; omega

section
variable {w0 : World} {M M0 : Mem}

theorem weight_ok {R : Value → Mem → Prop} {k : Int} (h0 : 0 ≤ k) (h1 : k ≤ 28) (h : R (.int .i64 (wt k)) M) : C PP w0 Id.skewnum_weight #[.int .i64 k] R M := by
  apply skewnum_weight.go
  unfold skewnum_weight.T
  obtain ⟨e1, e2, e3, e4, e5⟩ := pw h0 h1
  rw [e1, e3, w64_in (by omega)]
  refine ⟨by omega, ?_⟩
  rw [show wt k + 1 - 1 = wt k from by omega]; exact h

theorem Right_ok {R : Value → Mem → Prop} {s : SV} {l : List Int} (hs : RdI w0 M .i64 s l) (h : R (.bool (rightB l)) M) : C PP w0 Id.skewnum_Right #[SV.v s] R M := by
  apply skewnum_Right.go
  intro pts H
  unfold skewnum_Right.T
  have hm := hs.max
  have hlen := hs.len
  have key : ∀ (k i : Nat), i ≤ l.length → l.length < i + k → (∀ j < i, okAt l j = true) → skewnum_Right.L1 pts k s s ((s.n : Nat) : Int) (i : Int) M := by
    intro k
    induction k with
    | zero => intro i h1 h2; omega
    | succ k ih =>
      intro i h1 h2 hok
      rw [H.L1]
      unfold skewnum_Right.L1.T
      rw [bs_decide]
      split
      · rename_i hi
        have hi' : i < l.length := by omega
        have hx := List.getElem?_eq_getElem hi'
        have hy := List.getElem?_eq_getElem (show i - 1 < l.length by omega)
        generalize l[i] = x at hx
        generalize l[i - 1] = y at hy
        have hF : ¬ okAt l i = true → R (.bool false) M := fun hh => by rw [rightB_false hi' hh] at h; exact h
        have hN : okAt l i = true → skewnum_Right.L1 pts k s s ((s.n : Nat) : Int) (w64 ((i : Int) + 1)) M := fun hh => by
          rw [i64_next hi' hm]
          refine ih (i + 1) (by omega) (by omega) fun j hj => ?_
          rcases Nat.lt_succ_iff_lt_or_eq.1 hj with hj | rfl
          · exact hok j hj
          · exact hh
        rw [okAt_iff hx hy] at hF hN
        refine rdx W.c3 hs (Mem.le_refl _) i rfl hx ?_
        simp only [bs_decide, bs_beq]
        split
        · exact hF (by omega)
        · split
          · exact hF (by omega)
          · split
            · refine rdx W.c3 hs (Mem.le_refl _) (i - 1) (i64_pred (by omega) (by omega)) hy ?_
              split
              · exact hF (by omega)
              · split
                · refine rdx W.c3 hs (Mem.le_refl _) (i - 1) (i64_pred (by omega) (by omega)) hy ?_
                  split
                  · exact hF (by omega)
                  · exact hN (by omega)
                · exact hN (by omega)
            · split
              · omega
              · exact hN (by omega)
      · have : i = l.length := by omega
        subst this
        rw [rightB_true hok] at h; exact h
  exact ⟨l.length + 1, key _ 0 (by omega) (by omega) (fun j hj => by omega)⟩

theorem refRight_ok {R : Value → Mem → Prop} {s : SV} {l : List Int} (hs : RdI w0 M .i64 s l) (h : R (.bool (rightB l)) M) : C PP w0 Id.thicketref10_Right #[SV.v s] R M := by
  apply thicketref10_Right.go
  intro pts H
  unfold thicketref10_Right.T
  have hm := hs.max
  have hlen := hs.len
  have key : ∀ (k i : Nat), i ≤ l.length → l.length < i + k → (∀ j < i, okAt l j = true) → thicketref10_Right.L1 pts k s (i : Int) M := by
    intro k
    induction k with
    | zero => intro i h1 h2; omega
    | succ k ih =>
      intro i h1 h2 hok
      rw [H.L1]
      unfold thicketref10_Right.L1.T
      rw [bs_decide]
      split
      · rename_i hi
        have hi' : i < l.length := by omega
        have hx := List.getElem?_eq_getElem hi'
        have hy := List.getElem?_eq_getElem (show i - 1 < l.length by omega)
        generalize l[i] = x at hx
        generalize l[i - 1] = y at hy
        have hF : ¬ okAt l i = true → R (.bool false) M := fun hh => by rw [rightB_false hi' hh] at h; exact h
        have hN : okAt l i = true → thicketref10_Right.L1 pts k s (w64 ((i : Int) + 1)) M := fun hh => by
          rw [i64_next hi' hm]
          refine ih (i + 1) (by omega) (by omega) fun j hj => ?_
          rcases Nat.lt_succ_iff_lt_or_eq.1 hj with hj | rfl
          · exact hok j hj
          · exact hh
        rw [okAt_iff hx hy] at hF hN
        refine rdx W.c3 hs (Mem.le_refl _) i rfl hx ?_
        simp only [bs_decide, bs_beq]
        split
        · exact hF (by omega)
        · refine rdx W.c3 hs (Mem.le_refl _) i rfl hx ?_
          split
          · exact hF (by omega)
          · split
            · refine rdx W.c3 hs (Mem.le_refl _) i rfl hx ?_
              refine rdx W.c3 hs (Mem.le_refl _) (i - 1) (i64_pred (by omega) (by omega)) hy ?_
              split
              · exact hF (by omega)
              · refine rdx W.c3 hs (Mem.le_refl _) i rfl hx ?_
                refine rdx W.c3 hs (Mem.le_refl _) (i - 1) (i64_pred (by omega) (by omega)) hy ?_
                split
                · split
                  · exact hF (by omega)
                  · exact hN (by omega)
                · exact hN (by omega)
            · exact hN (by omega)
      · have : i = l.length := by omega
        subst this
        rw [rightB_true hok] at h; exact h
  exact ⟨l.length + 1, key _ 0 (by omega) (by omega) (fun j hj => by omega)⟩

theorem Value_ok {R : Value → Mem → Prop} {s : SV} {l : List Int} (hs : RdI w0 M .i64 s l) (h : R (.int .i64 (valL l)) M) : C PP w0 Id.skewnum_Value #[SV.v s] R M := by
  apply skewnum_Value.go
  intro pts H
  unfold skewnum_Value.T
  refine Right_ok hs ?_
  simp only [go_sem, bs_not]
  rw [bs_b]
  unfold valL at h
  refine ⟨fun hr => ?_, fun hr => by simp only [hr, Bool.false_eq_true, if_false] at h; exact h⟩
  rw [hr, if_pos rfl] at h
  have hm := hs.max
  have hlen := hs.len
  have h30 := right_len hr
  have key : ∀ (k i : Nat), i ≤ l.length → l.length < i + k → skewnum_Value.L1 pts k (sumW (l.take i)) s ((s.n : Nat) : Int) (i : Int) M := by
    intro k
    induction k with
    | zero => intro i h1 h2; omega
    | succ k ih =>
      intro i h1 h2
      rw [H.L1]
      unfold skewnum_Value.L1.T
      rw [bs_decide]
      split
      · rename_i hi
        have hi' : i < l.length := by omega
        have hx := List.getElem?_eq_getElem hi'
        have hb := rightP_nonneg ((rightB_iff l).1 hr) l[i] (List.getElem_mem hi')
        generalize l[i] = x at hx hb
        refine rdx W.c3 hs (Mem.le_refl _) i rfl hx ?_
        refine weight_ok hb.1 hb.2 ?_
        have e := sumW_take hr i
        have e2 := pw hb.1 hb.2
        simp only [go_sem]
        rw [i64_next hi' hm, w64_in (by omega), ← sumW_next hx]
        exact ih (i + 1) (by omega) (by omega)
      · have : i = l.length := by omega
        subst this
        rw [List.take_length]; exact h
  exact ⟨l.length + 1, key _ 0 (by omega) (by omega)⟩

theorem refValue_ok {R : Value → Mem → Prop} {s : SV} {l : List Int} (hs : RdI w0 M .i64 s l) (h : R (.int .i64 (valL l)) M) : C PP w0 Id.thicketref10_Value #[SV.v s] R M := by
  apply thicketref10_Value.go
  intro pts H
  unfold thicketref10_Value.T
  refine refRight_ok hs ?_
  simp only [go_sem, bs_not]
  rw [bs_b]
  unfold valL at h
  refine ⟨fun hr => ?_, fun hr => by simp only [hr, Bool.false_eq_true, if_false] at h; exact h⟩
  rw [hr, if_pos rfl] at h
  have hm := hs.max
  have hlen := hs.len
  have h30 := right_len hr
  have key : ∀ (k i : Nat), i ≤ l.length → l.length < i + k → thicketref10_Value.L1 pts k s (sumW (l.take i)) (i : Int) M := by
    intro k
    induction k with
    | zero => intro i h1 h2; omega
    | succ k ih =>
      intro i h1 h2
      rw [H.L1]
      unfold thicketref10_Value.L1.T
      rw [bs_decide]
      split
      · rename_i hi
        have hi' : i < l.length := by omega
        have hx := List.getElem?_eq_getElem hi'
        have hb := rightP_nonneg ((rightB_iff l).1 hr) l[i] (List.getElem_mem hi')
        generalize l[i] = x at hx hb
        refine rdx W.c3 hs (Mem.le_refl _) i rfl hx ?_
        have e := sumW_take hr i
        obtain ⟨e1, e2, e3, e4, e5⟩ := pw hb.1 hb.2
        rw [e1, e2, e3, i64_next hi' hm]
        refine ⟨by omega, ?_⟩
        have e6 : w64 (w64 (sumW (l.take i) + (wt x + 1)) - 1) = sumW (l.take (i + 1)) := by
          rw [sumW_next hx, w64_in (n := sumW (l.take i) + (wt x + 1)) (by omega), w64_in (by omega)]; omega
        rw [e6]
        exact ih (i + 1) (by omega) (by omega)
      · have : i = l.length := by omega
        subst this
        rw [List.take_length]; exact h
  exact ⟨l.length + 1, key _ 0 (by omega) (by omega)⟩

/-! What is put together anew: a row in front, and what lies behind a place. -/
theorem bsl_ints {Mb : Mem} {k : IntKind} {t e : TypeId} {z : Value} {n : Nat} {parts : List (Nat × Value)} {l : List Int} (hle : Mem.le Mb M) (ht : PP.underlying t = some (.slice e)) (he : ElemOk PP e z 1)
    (h24 : n ≤ 16777216) (hc : Instr.fill (fun k => some (k * 1, 1)) ((Array.range (n * 1)).map (z.cells[· % z.cells.size]!)) parts = some (l.map (Value.int k)).toArray) (hn : l.length = n) {K : Value → Mem → Prop}
    (h : ∀ M' s', Mem.le Mb M' → Mem.le M M' → Sl w0 Mb M' s' (l.map (Value.int k)) → K s'.v M') : (std PP w0).bsl t n parts K M :=
  bsl_sl hle ht he h24 hc (by simp [hn]) h

theorem cat_ok {R : SV → Mem → Prop} {f x : SV} {a m : List Int} {M1 : Mem} (hf : Sl w0 M0 M f (a.map (Value.int .i64))) (hx : RdI w0 M1 .i64 x m) (h1 : Mem.le M1 M) (h0 : Mem.le M0 M) (hb : a.length + m.length ≤ 1000) (hw : ∀ n ∈ a, (Lit.int .i64 n).wf = true)
    (h : ∀ M' s', Mem.le M0 M' → RdI w0 M' .i64 s' (a ++ m) → R s' M') : (std PP w0).app #[34, 34] 34 [f.v, x.v] (fun v M' => shS v fun s' => R s' M') M := by
  refine app_rd (M0 := M1) Try.underlying34 W.e3 h0 hf hx h1 (by omega) fun M' s' h2 h3 => ?_
  simp only [go_sem]
  refine h M' s' h2 (h3.rdI ?_ ?_)
  · intro n hn
    rcases List.mem_append.1 hn with hn | hn
    · exact hw n hn
    · exact hx.wf n hn
  · rw [List.length_append]; omega

theorem wf_all {l : List Int} (h : ∀ x ∈ l, In64 x) : ∀ n ∈ l, (Lit.int .i64 n).wf = true := fun n hn => wf64 (h n hn)

def ofO : Option (List Int) → List Int
  | some l => l
  | none => []

theorem Inc_ok {R : Value → Mem → Prop} {s : SV} {l : List Int} (hs : RdI w0 M .i64 s l) (h : ∀ M' s', Mem.le M M' → RdI w0 M' .i64 s' (ofO (incL l)) → R s'.v M') : C PP w0 Id.skewnum_Inc #[SV.v s] R M := by
  apply skewnum_Inc.go
  unfold skewnum_Inc.T
  refine Right_ok hs ?_
  simp only [go_sem, bs_not]
  rw [bs_b]
  refine ⟨fun hr => ?_, fun hr => h M ⟨none, 0, 0⟩ (Mem.le_refl _) (by simp only [incL, hr, Bool.false_eq_true, if_false, ofO]; exact RdI.nil)⟩
  have hlen := hs.len
  have hcap := hs.cap
  have h30 := right_len hr
  have hmem := rightP_nonneg ((rightB_iff l).1 hr)
  have hz : incL l = some (0 :: l) → (std PP w0).bsl 34 1 [(0, .int .i64 0)] (fun v28 M29 => shS v28 fun s30 => (std PP w0).app #[34, 34] 34 [SV.v s30, SV.v s] (fun v31 M32 => shS v31 fun s33 => R (SV.v s33) M32) M29) M := by
    intro he
    rw [he] at h
    refine bsl_ints (k := .i64) (l := [0]) (Mem.le_refl _) Try.underlying34 W.e3 (by decide) (by kernel_rfl) rfl fun M1 f h1 _ h2 => ?_
    simp only [go_sem]
    exact cat_ok (M0 := M) (R := fun s M' => R s.v M') h2 hs h1 h1 (by simp; omega) (by decide) h
  match l, hr, h, hs, hlen, h30, hmem, hz with
  | [], hr, h, hs, hlen, h30, hmem, hz =>
    have : ¬ (((s.n : Nat) : Int) > 1) := by simp at hlen; omega
    simp only [bs_decide, if_neg this]
    exact hz (by simp [incL, hr])
  | [x], hr, h, hs, hlen, h30, hmem, hz =>
    have : ¬ (((s.n : Nat) : Int) > 1) := by simp at hlen; omega
    simp only [bs_decide, if_neg this]
    exact hz (by simp [incL, hr])
  | x :: y :: r, hr, h, hs, hlen, h30, hmem, hz =>
    have hgt : ((s.n : Nat) : Int) > 1 := by simp at hlen; omega
    have h0 : (x :: y :: r)[0]? = some x := rfl
    have h1 : (x :: y :: r)[1]? = some y := rfl
    have hxb := hmem x (by simp)
    simp only [bs_decide, bs_beq, if_pos hgt]
    refine rdy hs (Mem.le_refl _) 0 (by rfl) h0 ?_
    refine rdy hs (Mem.le_refl _) 1 (by rfl) h1 ?_
    by_cases hxy : x = y
    · subst hxy
      rw [if_pos rfl]
      refine rdy hs (Mem.le_refl _) 0 (by rfl) h0 ?_
      by_cases h28 : x = 28
      · rw [if_pos h28]
        refine h M ⟨none, 0, 0⟩ (Mem.le_refl _) ?_
        subst h28
        simp only [incL, hr, if_true, ofO]
        exact RdI.nil
      · rw [if_neg h28]
        refine rdy hs (Mem.le_refl _) 0 (by rfl) h0 ?_
        refine rdy hs (Mem.le_refl _) 1 (by rfl) h1 ?_
        rw [if_pos rfl]
        refine rdy hs (Mem.le_refl _) 0 (by rfl) h0 ?_
        refine ⟨⟨by omega, by omega, by omega⟩, ?_⟩
        have he : ofO (incL (x :: x :: r)) = [x + 1] ++ (x :: x :: r).drop 2 := by simp [incL, hr, ofO, h28]
        rw [he] at h
        rw [w64_in (by omega)]
        refine bsl_ints (k := .i64) (l := [x + 1]) (Mem.le_refl _) Try.underlying34 W.e3 (n := 1) (by decide) (by kernel_rfl) rfl fun M1 f h1 _ h2 => ?_
        simp only [go_sem]
        have hcat := cat_ok (M0 := M) (R := fun s M' => R s.v M') h2 (hs.sub (i := 2) 2 rfl (by omega)) h1 h1 (by simp at h30 ⊢; omega) (wf_all (by simp [In64]; omega)) h
        exact hcat
    · rw [if_neg hxy]
      refine rdy hs (Mem.le_refl _) 0 (by rfl) h0 ?_
      refine rdy hs (Mem.le_refl _) 1 (by rfl) h1 ?_
      rw [if_neg hxy]
      exact hz (by simp [incL, hr, hxy])

theorem refInc_ok {R : Value → Mem → Prop} {s : SV} {l : List Int} (hs : RdI w0 M .i64 s l) (h : ∀ M' s' b, Mem.le M M' → RdI w0 M' .i64 s' (ofO (incL l)) → R (.tuple #[s'.v, .bool b]) M') : C PP w0 Id.thicketref10_Inc #[SV.v s] R M := by
  apply thicketref10_Inc.go
  unfold thicketref10_Inc.T
  refine refRight_ok hs ?_
  simp only [go_sem, bs_not]
  rw [bs_b]
  refine ⟨fun hr => ?_, fun hr => h M ⟨none, 0, 0⟩ _ (Mem.le_refl _) (by simp only [incL, hr, Bool.false_eq_true, if_false, ofO]; exact RdI.nil)⟩
  have hlen := hs.len
  have hcap := hs.cap
  have h30 := right_len hr
  have hmem := rightP_nonneg ((rightB_iff l).1 hr)
  have hz : incL l = some (0 :: l) → (std PP w0).bsl 34 1 [(0, .int .i64 0)] (fun v28 M29 => shS v28 fun s30 => (std PP w0).app #[34, 34] 34 [SV.v s30, SV.v s] (fun v31 M32 => shS v31 fun s33 => R (.tuple #[SV.v s33, .bool true]) M32) M29) M := by
    intro he
    rw [he] at h
    refine bsl_ints (k := .i64) (l := [0]) (Mem.le_refl _) Try.underlying34 W.e3 (by decide) (by kernel_rfl) rfl fun M1 f h1 _ h2 => ?_
    simp only [go_sem]
    exact cat_ok (M0 := M) (R := fun s M' => R (.tuple #[s.v, .bool true]) M') h2 hs h1 h1 (by simp; omega) (by decide) (fun M' s' h1 h2 => h M' s' true h1 h2)
  match l, hr, h, hs, hlen, h30, hmem, hz with
  | [], hr, h, hs, hlen, h30, hmem, hz =>
    have : ¬ (((s.n : Nat) : Int) > 1) := by simp at hlen; omega
    simp only [bs_decide, if_neg this]
    exact hz (by simp [incL, hr])
  | [x], hr, h, hs, hlen, h30, hmem, hz =>
    have : ¬ (((s.n : Nat) : Int) > 1) := by simp at hlen; omega
    simp only [bs_decide, if_neg this]
    exact hz (by simp [incL, hr])
  | x :: y :: r, hr, h, hs, hlen, h30, hmem, hz =>
    have hgt : ((s.n : Nat) : Int) > 1 := by simp at hlen; omega
    have h0 : (x :: y :: r)[0]? = some x := rfl
    have h1 : (x :: y :: r)[1]? = some y := rfl
    have hxb := hmem x (by simp)
    simp only [bs_decide, bs_beq, if_pos hgt]
    refine rdy hs (Mem.le_refl _) 0 (by rfl) h0 ?_
    refine rdy hs (Mem.le_refl _) 1 (by rfl) h1 ?_
    by_cases hxy : x = y
    · subst hxy
      rw [if_pos rfl]
      refine rdy hs (Mem.le_refl _) 0 (by rfl) h0 ?_
      by_cases h28 : x = 28
      · rw [if_pos h28]
        refine h M ⟨none, 0, 0⟩ _ (Mem.le_refl _) ?_
        subst h28
        simp only [incL, hr, if_true, ofO]
        exact RdI.nil
      · rw [if_neg h28]
        refine rdy hs (Mem.le_refl _) 0 (by rfl) h0 ?_
        refine ⟨⟨by omega, by omega, by omega⟩, ?_⟩
        have he : ofO (incL (x :: x :: r)) = [x + 1] ++ (x :: x :: r).drop 2 := by simp [incL, hr, ofO, h28]
        rw [he] at h
        rw [w64_in (by omega)]
        refine bsl_ints (k := .i64) (l := [x + 1]) (Mem.le_refl _) Try.underlying34 W.e3 (n := 1) (by decide) (by kernel_rfl) rfl fun M1 f h1 _ h2 => ?_
        simp only [go_sem]
        have hcat := cat_ok (M0 := M) (R := fun s M' => R (.tuple #[s.v, .bool true]) M') h2 (hs.sub (i := 2) 2 rfl (by omega)) h1 h1 (by simp at h30 ⊢; omega) (wf_all (by simp [In64]; omega)) (fun M' s' h1 h2 => h M' s' true h1 h2)
        exact hcat
    · rw [if_neg hxy]
      exact hz (by simp [incL, hr, hxy])

theorem Clone_ok {R : Value → Mem → Prop} {s : SV} {l : List Int} (hs : RdI w0 M .i64 s l) (hb : l.length ≤ 100000000000) (h : ∀ M' s', Mem.le M M' → RdI w0 M' .i64 s' l → R s'.v M') : C PP w0 Id.slices_Clone_int_int #[SV.v s] R M := by
  apply slices_Clone_int_int.go
  unfold slices_Clone_int_int.T
  simp only [go_sem]
  rw [bs_b]
  refine ⟨fun hn => ?_, fun hn => ?_⟩
  · have h0 := hs.none (by simpa using hn)
    have : l = [] := List.eq_nil_of_length_eq_zero (by rw [← hs.len]; exact h0)
    subst this
    exact h M ⟨none, 0, 0⟩ (Mem.le_refl _) RdI.nil
  · refine bsl_ints (k := .i64) (l := []) (Mem.le_refl _) Try.underlying34 W.e3 (by decide) (by kernel_rfl) rfl fun M1 f h1 _ h2 => ?_
    simp only [go_sem]
    refine app_rd (M0 := M) Try.underlying34 W.e3 h1 h2 hs h1 (by simp; omega) fun M' s' h3 h4 => ?_
    simp only [go_sem]
    exact h M' s' h3 (h4.rdI hs.wf (by simp; omega))

theorem Dec_ok {R : Value → Mem → Prop} {s : SV} {l : List Int} (hs : RdI w0 M .i64 s l) (h : ∀ M' s', Mem.le M M' → RdI w0 M' .i64 s' (ofO (decL l)) → R s'.v M') : C PP w0 Id.skewnum_Dec #[SV.v s] R M := by
  apply skewnum_Dec.go
  intro pts H
  unfold skewnum_Dec.T
  refine Right_ok hs ?_
  simp only [go_sem, bs_not]
  rw [bs_b]
  refine ⟨fun hr => ?_, fun hr => h M ⟨none, 0, 0⟩ (Mem.le_refl _) (by simp only [decL, hr, Bool.false_eq_true, if_false, ofO]; exact RdI.nil)⟩
  have hlen := hs.len
  have hcap := hs.cap
  have h30 := right_len hr
  have hmem := rightP_nonneg ((rightB_iff l).1 hr)
  match l, hr, h, hs, hlen, h30, hmem with
  | [], hr, h, hs, hlen, h30, hmem =>
    simp at hlen
    simp only [bs_beq]
    rw [if_pos (by omega)]
    exact h M ⟨none, 0, 0⟩ (Mem.le_refl _) (by simp only [decL, hr, if_true, ofO]; exact RdI.nil)
  | x :: r, hr, h, hs, hlen, h30, hmem =>
    simp at hlen
    simp only [bs_beq]
    rw [if_neg (by omega)]
    have h0 : (x :: r)[0]? = some x := rfl
    have hxb := hmem x (by simp)
    refine rdy hs (Mem.le_refl _) 0 (by rfl) h0 ?_
    by_cases hx : x = 0
    · rw [if_pos hx]
      have he : ofO (decL (x :: r)) = (x :: r).drop 1 := by simp only [decL, hr, if_pos hx, if_true, ofO, List.drop]
      rw [he] at h
      refine ⟨⟨by omega, by omega, by omega⟩, ?_⟩
      have hd := hs.sub (i := 1) 1 rfl (by omega)
      have hcl := Clone_ok (R := fun v7 M8 => shS v7 fun s9 => R (SV.v s9) M8) hd (by simp at h30 ⊢; omega) (fun M' s' h1 h2 => by simp only [go_sem]; exact h M' s' h1 h2)
      exact hcl
    · rw [if_neg hx, H.J1]
      unfold skewnum_Dec.J1.T
      simp only [go_sem]
      refine rdy hs (Mem.le_refl _) 0 (by rfl) h0 ?_
      refine rdy hs (Mem.le_refl _) 0 (by rfl) h0 ?_
      refine ⟨⟨by omega, by omega, by omega⟩, ?_⟩
      have he : ofO (decL (x :: r)) = [x - 1, x - 1] ++ (x :: r).drop 1 := by simp only [decL, hr, if_neg hx, if_true, ofO, List.drop, List.cons_append, List.nil_append]
      rw [he] at h
      rw [w64_in (by omega)]
      refine bsl_ints (k := .i64) (l := [x - 1, x - 1]) (Mem.le_refl _) Try.underlying34 W.e3 (n := 2) (by decide) (by kernel_rfl) rfl fun M1 f h1 _ h2 => ?_
      simp only [go_sem]
      have hcat := cat_ok (M0 := M) (R := fun s M' => R s.v M') h2 (hs.sub (i := 1) 1 rfl (by omega)) h1 h1 (by simp at h30 ⊢; omega) (wf_all (by simp [In64]; omega)) h
      exact hcat

theorem refDec_ok {R : Value → Mem → Prop} {s : SV} {l : List Int} (hs : RdI w0 M .i64 s l) (h : ∀ M' s' b, Mem.le M M' → RdI w0 M' .i64 s' (ofO (decL l)) → R (.tuple #[s'.v, .bool b]) M') : C PP w0 Id.thicketref10_Dec #[SV.v s] R M := by
  apply thicketref10_Dec.go
  intro pts H
  unfold thicketref10_Dec.T
  refine refRight_ok hs ?_
  simp only [go_sem, bs_not]
  rw [bs_b]
  refine ⟨fun hr => ?_, fun hr => h M ⟨none, 0, 0⟩ _ (Mem.le_refl _) (by simp only [decL, hr, Bool.false_eq_true, if_false, ofO]; exact RdI.nil)⟩
  have hlen := hs.len
  have hcap := hs.cap
  have h30 := right_len hr
  have hmem := rightP_nonneg ((rightB_iff l).1 hr)
  match l, hr, h, hs, hlen, h30, hmem with
  | [], hr, h, hs, hlen, h30, hmem =>
    simp at hlen
    simp only [bs_beq]
    rw [if_pos (by omega)]
    exact h M ⟨none, 0, 0⟩ _ (Mem.le_refl _) (by simp only [decL, hr, if_true, ofO]; exact RdI.nil)
  | x :: r, hr, h, hs, hlen, h30, hmem =>
    simp at hlen
    simp only [bs_beq]
    rw [if_neg (by omega), H.J1]
    unfold thicketref10_Dec.J1.T
    simp only [go_sem]
    have h0 : (x :: r)[0]? = some x := rfl
    have hxb := hmem x (by simp)
    refine rdy hs (Mem.le_refl _) 0 (by rfl) h0 ?_
    simp only [bs_beq]
    by_cases hx : x = 0
    · rw [if_pos hx]
      have he : ofO (decL (x :: r)) = [] ++ (x :: r).drop 1 := by simp only [decL, hr, if_pos hx, if_true, ofO, List.drop, List.nil_append]
      rw [he] at h
      refine bsl_ints (k := .i64) (l := []) (Mem.le_refl _) Try.underlying34 W.e3 (by decide) (by kernel_rfl) rfl fun M1 f h1 _ h2 => ?_
      simp only [go_sem]
      refine ⟨⟨by omega, by omega, by omega⟩, ?_⟩
      have hcat := cat_ok (M0 := M) (R := fun s M' => R (.tuple #[s.v, .bool true]) M') h2 (hs.sub (i := 1) 1 rfl (by omega)) h1 h1 (by simp at h30 ⊢; omega) (by simp) (fun M' s' h1 h2 => h M' s' true h1 h2)
      exact hcat
    · rw [if_neg hx]
      refine rdy hs (Mem.le_refl _) 0 (by rfl) h0 ?_
      refine rdy hs (Mem.le_refl _) 0 (by rfl) h0 ?_
      refine ⟨⟨by omega, by omega, by omega⟩, ?_⟩
      have he : ofO (decL (x :: r)) = [x - 1, x - 1] ++ (x :: r).drop 1 := by simp only [decL, hr, if_neg hx, if_true, ofO, List.drop, List.cons_append, List.nil_append]
      rw [he] at h
      rw [w64_in (by omega)]
      refine bsl_ints (k := .i64) (l := [x - 1, x - 1]) (Mem.le_refl _) Try.underlying34 W.e3 (n := 2) (by decide) (by kernel_rfl) rfl fun M1 f h1 _ h2 => ?_
      simp only [go_sem]
      have hcat := cat_ok (M0 := M) (R := fun s M' => R (.tuple #[s.v, .bool true]) M') h2 (hs.sub (i := 1) 1 rfl (by omega)) h1 h1 (by simp at h30 ⊢; omega) (wf_all (by simp [In64]; omega)) (fun M' s' h1 h2 => h M' s' true h1 h2)
      exact hcat

end
end Go.Proofs.Ytkibecgakkhljaa.HL
