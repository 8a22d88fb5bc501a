/-
  DigA: digits whose carries wait: what each function does with the rows that it is given.
-/
import Derived.Test.YtkibecgakkhljaaSkwB
import Derived.Test.YtkibecgakkhljaaDigM
set_option linter.unusedVariables false
set_option linter.unusedSimpArgs false
set_option maxRecDepth 100000
namespace Go.Proofs.Ytkibecgakkhljaa.HL
open Go.RowKit (Below)
open Go.Proofs
open Dig

section
variable {w0 : World} {M M0 : Mem}

theorem Index_ok {R : Value → Mem → Prop} {s : SV} {l : List Int} {v : Int} (hs : RdI w0 M .i64 s l) (h1 : ∀ i : Nat, l[i]? = some v → (∀ j < i, l[j]? ≠ some v) → R (.int .i64 (i : Int)) M) (h2 : (∀ x ∈ l, x ≠ v) → R (.int .i64 (-1)) M) :
    C PP w0 Id.slices_Index_int_int #[SV.v s, .int .i64 v] R M := by
  apply slices_Index_int_int.go
  intro pts H
  unfold slices_Index_int_int.T
  have hl := hs.len
  have hm := hs.max
  have key : ∀ (k i : Nat), i ≤ l.length → l.length < i + k → (∀ j < i, l[j]? ≠ some v) → slices_Index_int_int.L1 pts k s v ((s.n : Nat) : Int) (i : Int) M := by
    intro k
    induction k with
    | zero => intro i h1 h2; omega
    | succ k ih =>
      intro i h3 h4 hok
      rw [H.L1]
      unfold slices_Index_int_int.L1.T
      rw [bs_decide]
      split
      · have hi : i < l.length := by omega
        have e1 := List.getElem?_eq_getElem hi
        generalize l[i] = u at e1
        refine rdx W.c3 hs (Mem.le_refl _) i rfl e1 ?_
        rw [bs_beq]
        split
        · rename_i huv
          subst huv
          exact h1 i e1 hok
        · rename_i huv
          rw [i64_next hi hm]
          refine ih (i + 1) (by omega) (by omega) fun j hj => ?_
          rcases Nat.lt_succ_iff_lt_or_eq.1 hj with hj | rfl
          · exact hok j hj
          · rw [e1]; exact fun e => huv (Option.some.inj e).symm
      · refine h2 fun x hx e => ?_
        obtain ⟨j, hj, rfl⟩ := List.getElem_of_mem hx
        exact hok j (by omega) (by rw [List.getElem?_eq_getElem hj, e])
  exact ⟨l.length + 1, key _ 0 (by omega) (by omega) (fun j hj => by omega)⟩

theorem digRegular_ok {R : Value → Mem → Prop} {s : SV} {l : List Int} (hs : RdI w0 M .i64 s l) (h : R (.bool (regL l)) M) : C PP w0 Id.digits_Regular #[SV.v s] R M := by
  apply digits_Regular.go
  intro pts H
  unfold digits_Regular.T
  have hl := hs.len
  have hm := hs.max
  have key : ∀ (k i : Nat) (o : Bool), i ≤ l.length → l.length < i + k → R (.bool (scan o (l.drop i))) M → digits_Regular.L2 pts k o s ((s.n : Nat) : Int) (i : Int) M := by
    intro k
    induction k with
    | zero => intro i o h1 h2; omega
    | succ k ih =>
      intro i o h1 h2 hr
      rw [H.L2]
      unfold digits_Regular.L2.T
      simp only [bs_decide, bs_beq]
      split
      · have hi : i < l.length := by omega
        have e1 := List.getElem?_eq_getElem hi
        rw [List.drop_eq_getElem_cons hi] at hr
        generalize l[i] = x at e1 hr
        refine rdx W.c3 hs (Mem.le_refl _) i rfl e1 ?_
        rw [scan] at hr
        have hn := i64_next hi hm
        split
        · rw [if_pos (by omega)] at hr; exact hr
        · split
          · rw [if_pos (by omega)] at hr; exact hr
          · rw [if_neg (by omega)] at hr
            split
            · rename_i hx
              rw [if_pos hx] at hr
              cases o with
              | true => rw [bs_true]; exact hr
              | false =>
                rw [bs_false, H.J3]
                unfold digits_Regular.J3.T
                rw [bs_beq, if_pos hx, hn]
                exact ih (i + 1) true (by omega) (by omega) hr
            · rename_i hx
              rw [if_neg hx] at hr
              rw [H.J3]
              unfold digits_Regular.J3.T
              rw [bs_beq, if_neg hx, hn]
              cases o with
              | true => rw [bs_true]; exact ih (i + 1) _ (by omega) (by omega) (by simpa using hr)
              | false => rw [bs_false]; exact ih (i + 1) _ (by omega) (by omega) (by simpa using hr)
      · rw [List.drop_eq_nil_of_le (by omega)] at hr
        exact hr
  have hj : lz l = true → l.length ≤ 40 → digits_Regular.J1 pts s M := by
    intro h1 h2
    rw [H.J1]
    unfold digits_Regular.J1.T
    refine ⟨l.length + 1, key _ 0 false (by omega) (by omega) ?_⟩
    rw [regL, h1, decide_eq_true h2] at h
    simpa using h
  simp only [bs_decide, bs_beq]
  split
  · rw [regL, decide_eq_false (by omega)] at h; exact h
  · split
    · have hp : l.length - 1 < l.length := by omega
      have e1 := List.getElem?_eq_getElem hp
      generalize l[l.length - 1] = x at e1
      refine rdx W.c3 hs (Mem.le_refl _) (l.length - 1) (by rw [w64_in (by omega)]; omega) e1 ?_
      split
      · rename_i hx
        rw [regL, lz_last l x e1, show decide (x ≠ 0) = false from decide_eq_false (by simpa using hx)] at h
        simpa using h
      · rename_i hx
        exact hj (by rw [lz_last l x e1]; simpa using hx) (by omega)
    · have : l = [] := List.eq_nil_of_length_eq_zero (by omega)
      subst this
      exact hj rfl (by simp)

theorem refRegular_ok {R : Value → Mem → Prop} {s : SV} {l : List Int} (hs : RdI w0 M .i64 s l) (h : R (.bool (regL l)) M) : C PP w0 Id.thicketref14_Regular #[SV.v s] R M := by
  apply thicketref14_Regular.go
  intro pts H
  unfold thicketref14_Regular.T
  have hl := hs.len
  have hm := hs.max
  have key : ∀ (k i : Nat) (o : Bool), i ≤ l.length → l.length < i + k → R (.bool (scan o (l.drop i))) M → thicketref14_Regular.L2 pts k s (!o) (i : Int) M := by
    intro k
    induction k with
    | zero => intro i o h1 h2; omega
    | succ k ih =>
      intro i o h1 h2 hr
      rw [H.L2]
      unfold thicketref14_Regular.L2.T
      simp only [bs_decide, bs_beq]
      split
      · have hi : i < l.length := by omega
        have e1 := List.getElem?_eq_getElem hi
        rw [List.drop_eq_getElem_cons hi] at hr
        generalize l[i] = x at e1 hr
        refine rdx W.c3 hs (Mem.le_refl _) i rfl e1 ?_
        rw [scan] at hr
        have hn := i64_next hi hm
        rw [hn]
        split
        · rw [if_pos (by omega)] at hr; exact hr
        · refine rdx W.c3 hs (Mem.le_refl _) i rfl e1 ?_
          split
          · rw [if_pos (by omega)] at hr; exact hr
          · rw [if_neg (by omega)] at hr
            refine rdx W.c3 hs (Mem.le_refl _) i rfl e1 ?_
            split
            · rename_i hx
              rw [if_neg (by omega), hx] at hr
              exact ih (i + 1) false (by omega) (by omega) (by simpa using hr)
            · refine rdx W.c3 hs (Mem.le_refl _) i rfl e1 ?_
              split
              · rename_i hx
                rw [if_pos hx] at hr
                rw [Bool.not_not]
                cases o with
                | true => rw [bs_true]; exact hr
                | false =>
                  rw [bs_false]
                  refine rdx W.c3 hs (Mem.le_refl _) i rfl e1 ?_
                  rw [if_pos hx]
                  exact ih (i + 1) true (by omega) (by omega) hr
              · rename_i h0 hx
                rw [if_neg hx] at hr
                refine rdx W.c3 hs (Mem.le_refl _) i rfl e1 ?_
                rw [if_neg hx]
                refine ih (i + 1) o (by omega) (by omega) ?_
                have : (x != 0) = true := by simpa using h0
                rw [this, Bool.and_true] at hr
                exact hr
      · rw [List.drop_eq_nil_of_le (by omega)] at hr
        exact hr
  have hj : lz l = true → l.length ≤ 40 → thicketref14_Regular.J1 pts s M := by
    intro h1 h2
    rw [H.J1]
    unfold thicketref14_Regular.J1.T
    refine ⟨l.length + 1, key _ 0 false (by omega) (by omega) ?_⟩
    rw [regL, h1, decide_eq_true h2] at h
    simpa using h
  simp only [bs_decide, bs_beq]
  split
  · rw [regL, decide_eq_false (by omega)] at h; exact h
  · split
    · have hp : l.length - 1 < l.length := by omega
      have e1 := List.getElem?_eq_getElem hp
      generalize l[l.length - 1] = x at e1
      refine rdx W.c3 hs (Mem.le_refl _) (l.length - 1) (by rw [w64_in (by omega)]; omega) e1 ?_
      split
      · rename_i hx
        rw [regL, lz_last l x e1, show decide (x ≠ 0) = false from decide_eq_false (by simpa using hx)] at h
        simpa using h
      · rename_i hx
        exact hj (by rw [lz_last l x e1]; simpa using hx) (by omega)
    · have : l = [] := List.eq_nil_of_length_eq_zero (by omega)
      subst this
      exact hj rfl (by simp)

theorem reg_facts {l : List Int} (h : regL l = true) : l.length ≤ 40 ∧ (∀ x ∈ l, 0 ≤ x ∧ x ≤ 2) := by
  simp only [regL, Bool.and_eq_true, decide_eq_true_eq] at h
  exact ⟨h.1.1, scan_mem l _ h.2⟩
theorem val_small {m : List Int} (h : ∀ x ∈ m, 0 ≤ x ∧ x ≤ 2) (hl : m.length ≤ 40) : 0 ≤ valD m ∧ valD m ≤ 2199023255550 := by
  have h1 := val_bounds m h
  have : 2 ^ m.length ≤ 2 ^ 40 := Nat.pow_le_pow_right (by decide) hl
  omega

def valO (l : List Int) : Int := if regL l = true then valD l else 0

theorem digValue_ok {R : Value → Mem → Prop} {s : SV} {l : List Int} (hs : RdI w0 M .i64 s l) (h : R (.tuple #[.int .i64 (valO l), .bool (regL l)]) M) : C PP w0 Id.digits_Value #[SV.v s] R M := by
  apply digits_Value.go
  intro pts H
  unfold digits_Value.T
  refine digRegular_ok hs ?_
  simp only [go_sem, bs_not]
  rw [bs_b]
  unfold valO at h
  refine ⟨fun hr => ?_, fun hr => by rw [hr] at h; exact h⟩
  rw [hr, if_pos rfl] at h
  obtain ⟨h40, hd⟩ := reg_facts hr
  have hl := hs.len
  have key : ∀ (k i : Nat), i ≤ l.length → l.length < i + k → digits_Value.L1 pts k (valD (l.take i)) s ((s.n : Nat) : Int) (i : Int) M := by
    intro k
    induction k with
    | zero => intro i h1 h2; omega
    | succ k ih =>
      intro i h1 h2
      rw [H.L1]
      unfold digits_Value.L1.T
      rw [bs_decide]
      split
      · have hi : i < l.length := by omega
        have e1 := List.getElem?_eq_getElem hi
        have hb := hd _ (List.getElem_mem hi)
        generalize l[i] = x at e1 hb
        refine rdx W.c3 hs (Mem.le_refl _) i rfl e1 ?_
        have b1 := val_small (m := l.take i) (fun z hz => hd z (List.mem_of_mem_take hz)) (by simp; omega)
        have b2 := val_small (m := l.take (i + 1)) (fun z hz => hd z (List.mem_of_mem_take hz)) (by simp; omega)
        have e2 := val_take l i x e1
        have e3 : (2 : Int) ^ (min (i : Int).toNat (IntKind.bits .i64)) = ((2 ^ i : Nat) : Int) := by
          rw [show IntKind.bits .i64 = 64 from rfl, Int.toNat_natCast, Nat.min_eq_left (by omega)]; simp
        rw [e3, w64_in (n := x * ((2 ^ i : Nat) : Int)) (by omega), w64_in (by omega), ← e2, i64_next hi (by omega)]
        exact ⟨by omega, ih (i + 1) (by omega) (by omega)⟩
      · have : i = l.length := by omega
        subst this
        rw [List.take_length]; exact h
  exact ⟨l.length + 1, key _ 0 (by omega) (by omega)⟩

theorem refValue14_ok {R : Value → Mem → Prop} {s : SV} {l : List Int} (hs : RdI w0 M .i64 s l) (h : R (.tuple #[.int .i64 (valO l), .bool (regL l)]) M) : C PP w0 Id.thicketref14_Value #[SV.v s] R M := by
  apply thicketref14_Value.go
  intro pts H
  unfold thicketref14_Value.T
  refine refRegular_ok hs ?_
  simp only [go_sem, bs_not]
  rw [bs_b]
  unfold valO at h
  refine ⟨fun hr => ?_, fun hr => by rw [hr] at h; exact h⟩
  rw [hr, if_pos rfl] at h
  obtain ⟨h40, hd⟩ := reg_facts hr
  have hl := hs.len
  have key : ∀ (k i : Nat) (ii : Int), ii = (i : Int) - 1 → i ≤ l.length → i < k → thicketref14_Value.L1 pts k s (valD (l.drop i)) ii M := by
    intro k
    induction k with
    | zero => intro i ii _ h1 h2; omega
    | succ k ih =>
      intro i ii hii h1 h2
      rw [H.L1]
      unfold thicketref14_Value.L1.T
      rw [bs_decide]
      split
      · obtain ⟨j, rfl⟩ : ∃ j, i = j + 1 := ⟨i - 1, by omega⟩
        have hi : j < l.length := by omega
        have e1 := List.getElem?_eq_getElem hi
        have hb := hd _ (List.getElem_mem hi)
        generalize l[j] = x at e1 hb
        refine rdx W.c3 hs (Mem.le_refl _) j (by omega) e1 ?_
        have b1 := val_small (m := l.drop (j + 1)) (fun z hz => hd z (List.mem_of_mem_drop hz)) (by simp; omega)
        have e2 := val_drop e1
        rw [w64_in (n := 2 * valD (l.drop (j + 1))) (by omega), w64_in (n := 2 * valD (l.drop (j + 1)) + x) (by omega), w64_in (by omega), show 2 * valD (l.drop (j + 1)) + x = valD (l.drop j) from by omega]
        exact ih j _ (by omega) (by omega) (by omega)
      · have : i = 0 := by omega
        subst this
        exact h
  refine ⟨l.length + 1, ?_⟩
  have := key (l.length + 1) l.length (w64 (((s.n : Nat) : Int) - 1)) (by rw [w64_in (by omega)]; omega) (by omega) (by omega)
  rw [List.drop_length] at this
  exact this

theorem tells_ok {R : Value → Mem → Prop} {s : SV} {l : List Int} (hs : RdI w0 M .i64 s l) (h : R (.bool true) M) : C PP w0 Id.thicketlaw14_tells #[SV.v s] R M := by
  apply thicketlaw14_tells.go
  unfold thicketlaw14_tells.T
  refine digValue_ok hs ?_
  simp only [go_sem]
  refine refValue14_ok hs ?_
  simp only [go_sem]
  refine digRegular_ok hs ?_
  simp only [go_sem]
  refine refRegular_ok hs ?_
  simp only [go_sem, beq_self_eq_true, bs_true]
  exact h

/-! The list behind one more. -/
theorem set_end {l : List Int} {i : Nat} (h : i + 1 = l.length) : ((l.set i 0) ++ [0]).set (i + 1) (0 + 1) = l.take i ++ 0 :: bump (l.drop (i + 1)) := by
  rw [List.drop_eq_nil_of_le (by omega)]
  apply List.ext_getElem?
  intro j
  rw [List.getElem?_set, List.getElem?_append, List.getElem?_append, List.getElem?_set]
  simp only [List.length_append, List.length_set, List.length_take, List.length_cons, List.length_nil, bump]
  rcases Nat.lt_trichotomy j i with h1 | h1 | h1
  · rw [if_neg (by omega), if_pos (by omega), if_neg (by omega), if_pos (by omega), List.getElem?_take_of_lt (by omega)]
  · subst h1
    rw [if_neg (by omega), if_pos (by omega), if_pos rfl, if_pos (by omega), if_neg (by omega), show j - min j l.length = 0 from by omega]; rfl
  · rw [if_neg (show ¬ j < min i l.length from by omega)]
    by_cases h2 : i + 1 = j
    · subst h2
      rw [if_pos rfl, if_pos (by omega), show i + 1 - min i l.length = 1 from by omega]; rfl
    · rw [if_neg h2, if_neg (by omega)]
      rw [List.getElem?_eq_none (by simp; omega), List.getElem?_eq_none (by simp; omega)]
theorem set_mid {l : List Int} {i : Nat} {y : Int} (h : l[i + 1]? = some y) : (l.set i 0).set (i + 1) (y + 1) = l.take i ++ 0 :: bump (l.drop (i + 1)) := by
  have hi := (List.getElem?_eq_some_iff.1 h).1
  have e : l.drop (i + 1) = y :: l.drop (i + 2) := by
    rw [List.drop_eq_getElem_cons hi]
    rw [List.getElem?_eq_getElem hi] at h
    rw [Option.some.inj h]
  rw [e, bump]
  apply List.ext_getElem?
  intro j
  rw [List.getElem?_set, List.getElem?_append, List.getElem?_set]
  simp only [List.length_set, List.length_take]
  rcases Nat.lt_trichotomy j i with h1 | h1 | h1
  · rw [if_neg (by omega), if_neg (by omega), if_pos (by omega), List.getElem?_take_of_lt (by omega)]
  · subst h1
    rw [if_neg (by omega), if_pos rfl, if_pos (by omega), if_neg (by omega), show j - min j l.length = 0 from by omega]; rfl
  · rw [if_neg (show ¬ j < min i l.length from by omega)]
    by_cases h2 : i + 1 = j
    · subst h2
      rw [if_pos rfl, if_pos (by omega), show i + 1 - min i l.length = 1 from by omega]; rfl
    · rw [if_neg h2, if_neg (by omega)]
      obtain ⟨d, rfl⟩ : ∃ d, j = i + 2 + d := ⟨j - (i + 2), by omega⟩
      rw [show i + 2 + d - min i l.length = d + 1 + 1 from by omega]
      simp only [List.getElem?_cons_succ, List.getElem?_drop]

theorem bump_set {l : List Int} {x : Int} (h : l[0]? = some x) : l.set 0 (x + 1) = bump l := by
  cases l with
  | nil => simp at h
  | cons y r => simp at h; subst h; rfl

theorem wf_set {l : List Int} {i : Nat} {v : Int} (h : ∀ n ∈ l, (Lit.int .i64 n).wf = true) (hv : In64 v) : ∀ n ∈ l.set i v, (Lit.int .i64 n).wf = true := fun n hn => by
  rcases List.mem_or_eq_of_mem_set hn with hn | rfl
  · exact h n hn
  · exact wf64 hv
theorem wf_app {l m : List Int} (h : ∀ n ∈ l, (Lit.int .i64 n).wf = true) (hm : ∀ n ∈ m, (Lit.int .i64 n).wf = true) : ∀ n ∈ l ++ m, (Lit.int .i64 n).wf = true := fun n hn => by
  rcases List.mem_append.1 hn with hn | hn
  · exact h n hn
  · exact hm n hn

theorem refInc14_ok {R : Value → Mem → Prop} {s : SV} {l : List Int} (hs : RdI w0 M .i64 s l) (hl : l.length ≤ 30) (hd : ∀ x ∈ l, 0 ≤ x ∧ x ≤ 2)
    (h : ∀ M' s', Mem.le M M' → Sl w0 M M' s' ((incD l).map (Value.int .i64)) → R (.tuple #[s'.v, .int .i64 (carD l), .bool true]) M') : C PP w0 Id.thicketref14_Inc #[SV.v s] R M := by
  apply thicketref14_Inc.go
  intro pts H
  unfold thicketref14_Inc.T
  have fin : ∀ (m : List Int) (c : Int) (M' : Mem) (s' : SV), m = (fixD l).1 → c = carD l → m.length ≤ 100 → (∀ n ∈ m, -10 ≤ n ∧ n ≤ 10) → Mem.le M M' → Sl w0 M M' s' (m.map (Value.int .i64)) → thicketref14_Inc.J1 pts s' c M' := by
    intro m c M' s' hm hc h100 hw hle hsl
    rw [H.J1]
    unfold thicketref14_Inc.J1.T
    have hlen := hsl.len
    simp only [List.length_map] at hlen
    have hww : ∀ n ∈ m, (Lit.int .i64 n).wf = true := wf_all fun x hx => by have := hw x hx; unfold In64; omega
    unfold incD at h
    rw [← hm] at h
    subst hc
    rw [bs_beq]
    split
    · have : m = [] := List.eq_nil_of_length_eq_zero (by omega)
      subst this
      refine bsl_ints (k := .i64) (l := [1]) hle Try.underlying34 W.e3 (n := 1) (by decide) (by kernel_rfl) rfl fun M1 o h3 h4 h5 => ?_
      simp only [go_sem]
      exact h M1 o h3 h5
    · have hp : 0 < m.length := by omega
      have e1 := List.getElem?_eq_getElem hp
      have hb := hw _ (List.getElem_mem hp)
      generalize m[0] = x at e1 hb
      refine rdx W.c3 (hsl.rdI hww (by omega)) (Mem.le_refl _) 0 (by rfl) e1 ?_
      refine stx W.c3 hsl hle 0 (by rfl) (by simpa using hp) rfl rfl fun M1 h3 h4 => ?_
      rw [w64_in (by omega), ← List.map_set, bump_set e1] at h4
      exact h M1 s' h3 h4
  refine bsl_ints (k := .i64) (l := []) (Mem.le_refl _) Try.underlying34 W.e3 (by decide) (by kernel_rfl) rfl fun M1 f h1 _ h2 => ?_
  simp only [go_sem]
  refine app_rd (M0 := M) Try.underlying34 W.e3 h1 h2 hs h1 (by simp; omega) fun M2 s2 h3 h4 => ?_
  simp only [go_sem]
  rw [List.nil_append] at h4
  have hlen := h4.len
  simp only [List.length_map] at hlen
  have hd' : ∀ n ∈ l, -10 ≤ n ∧ n ≤ 10 := fun n hn => by have := hd n hn; omega
  have key : ∀ (k i : Nat), i ≤ l.length → l.length < i + k → (∀ j < i, l[j]? ≠ some 2) → thicketref14_Inc.L2 pts k s2 0 (i : Int) M2 := by
    intro k
    induction k with
    | zero => intro i h1 h2; omega
    | succ k ih =>
      intro i h5 h6 hok
      rw [H.L2]
      unfold thicketref14_Inc.L2.T
      simp only [bs_decide, bs_beq, bs_bne]
      split
      · have hi : i < l.length := by omega
        have e1 := List.getElem?_eq_getElem hi
        generalize l[i] = x at e1
        refine rdx W.c3 (h4.rdI hs.wf (by omega)) (Mem.le_refl _) i rfl e1 ?_
        rw [i64_next hi (by omega)]
        split
        · rename_i hx
          subst hx
          have hfix := fix_at l i e1 hok
          have hc : carD l = 1 := by unfold carD; rw [hfix]; rfl
          have step : ∀ (m : List Int) (y : Int) (M' : Mem) (s' : SV), m[i + 1]? = some y → y ≤ 2 → 0 ≤ y → (m.set i 0).set (i + 1) (y + 1) = l.take i ++ 0 :: bump (l.drop (i + 1)) → m.length ≤ 100 → (∀ n ∈ m, -5 ≤ n ∧ n ≤ 5) → Mem.le M M' → Sl w0 M M' s' (m.map (Value.int .i64)) →
              thicketref14_Inc.J3 pts k s' (i : Int) M' := by
            intro m y M' s' hy hy2 hy0 hm h100 hw hle hsl
            rw [H.J3]
            unfold thicketref14_Inc.J3.T
            have hi1 := (List.getElem?_eq_some_iff.1 hy).1
            refine stx W.c3 hsl hle i rfl (by simp; omega) rfl rfl fun M3 h7 h8 => ?_
            rw [← List.map_set] at h8
            have hw0 : ∀ n ∈ m.set i 0, -5 ≤ n ∧ n ≤ 5 := fun n hn => by
              rcases List.mem_or_eq_of_mem_set hn with hn | rfl
              · exact hw n hn
              · omega
            have hr3 := h8.rdI (wf_all fun x hx => by have := hw0 x hx; unfold In64; omega) (by simp; omega)
            rw [w64_in (n := (i : Int) + 1) (by omega)]
            refine rdx W.c3 hr3 (Mem.le_refl _) (i + 1) (by omega) (x := y) (by rw [List.getElem?_set, if_neg (by omega)]; exact hy) ?_
            refine stx W.c3 h8 h7 (i + 1) (by omega) (by simp; omega) rfl rfl fun M4 h9 h10 => ?_
            rw [← List.map_set, w64_in (by omega)] at h10
            refine fin _ 1 M4 s' ?_ hc.symm (by simp; omega) ?_ h9 h10
            · rw [hfix, hm]
            · intro n hn
              rcases List.mem_or_eq_of_mem_set hn with hn | rfl
              · have := hw0 n hn; omega
              · omega
          have hd5 : ∀ n ∈ l, -5 ≤ n ∧ n ≤ 5 := fun n hn => by have := hd n hn; omega
          split
          · rename_i hend
            rw [if_neg (by omega)]
            refine bsl_ints (k := .i64) (l := [0]) h3 Try.underlying34 W.e3 (n := 1) (by decide) (by kernel_rfl) rfl fun M3 o h7 h8 h9 => ?_
            simp only [go_sem]
            refine app_new Try.underlying34 W.e3 h7 (h4.le h8) h9 (by simp; omega) fun M4 o2 h10 h11 => ?_
            simp only [go_sem]
            refine step (l ++ [0]) 0 M4 o2 (by rw [List.getElem?_append_right (by omega), show i + 1 - l.length = 0 from by omega]; rfl) (by omega) (by omega) ?_ (by simp; omega) ?_ h10 h11
            · rw [List.set_append_left _ _ hi]; exact set_end (by omega)
            · intro n hn
              rcases List.mem_append.1 hn with hn | hn
              · exact hd5 n hn
              · simp at hn; omega
          · rename_i hend
            have hi1 : i + 1 < l.length := by omega
            have hy := List.getElem?_eq_getElem hi1
            have hb := hd _ (List.getElem_mem hi1)
            generalize l[i + 1] = y at hy hb
            exact step l y M2 s2 hy hb.2 hb.1 (set_mid hy) (by omega) hd5 h3 h4
        · rename_i hx
          refine ih (i + 1) (by omega) (by omega) fun j hj => ?_
          rcases Nat.lt_succ_iff_lt_or_eq.1 hj with hj | rfl
          · exact hok j hj
          · rw [e1]; exact fun e => hx (Option.some.inj e)
      · have hfix := fix_none l fun x hx e => by
          obtain ⟨j, hj, rfl⟩ := List.getElem_of_mem hx
          exact hok j (by omega) (by rw [List.getElem?_eq_getElem hj, e])
        exact fin l 0 M2 s2 (by rw [hfix]) (by unfold carD; rw [hfix]; rfl) (by omega) hd' h3 h4
  exact ⟨l.length + 1, key _ 0 (by omega) (by omega) (fun j hj => by omega)⟩

end
end Go.Proofs.Ytkibecgakkhljaa.HL
