/-
  SkwB: skew numbers: the number of a value, two that are joined, what two ways answer alike.
-/
import Derived.Test.YtkibecgakkhljaaSkwA
set_option linter.unusedVariables false
set_option linter.unusedSimpArgs false
set_option maxRecDepth 100000
namespace Go.Proofs.Ytkibecgakkhljaa.HL
open Go.RowKit (Below)
open Go.Proofs
open Skw

section
variable {w0 : World} {M M0 : Mem}

theorem Reverse_ok {R : Value → Mem → Prop} {s : SV} {l : List Int} (hl : Mem.le M0 M) (hs : Sl w0 M0 M s (l.map (Value.int .i64))) (hw : ∀ n ∈ l, (Lit.int .i64 n).wf = true) (hm : l.length ≤ 9223372036854775807)
    (h : ∀ M', Mem.le M0 M' → Sl w0 M0 M' s (l.reverse.map (Value.int .i64)) → R (.tuple #[]) M') : C PP w0 Id.slices_Reverse_int_int #[SV.v s] R M := by
  apply slices_Reverse_int_int.go
  intro pts H
  unfold slices_Reverse_int_int.T
  have hlen : s.n = l.length := by have := hs.len; simpa using this
  have key : ∀ (k i : Nat) (m : List Int) (M : Mem) (jj : Int), jj = (l.length : Int) - 1 - i → i ≤ l.length → l.length < i + k → Mem.le M0 M → Sl w0 M0 M s (m.map (Value.int .i64)) → m.length = l.length → (∀ n ∈ m, (Lit.int .i64 n).wf = true) →
      (∀ t, t < l.length → m[t]? = if t < i ∨ l.length ≤ t + i then l[l.length - 1 - t]? else l[t]?) → slices_Reverse_int_int.L1 pts k s (i : Int) jj M := by
    intro k
    induction k with
    | zero => intro i m M jj _ h1 h2; omega
    | succ k ih =>
      intro i m M jj hjj h1 h2 hle hsm hml hmw hm'
      rw [H.L1]
      unfold slices_Reverse_int_int.L1.T
      simp only [bs_decide]
      split
      · rename_i hij
        have hrd := hsm.rdI hmw (by omega)
        have hi : i < m.length := by omega
        have hj : l.length - 1 - i < m.length := by omega
        have hxi := List.getElem?_eq_getElem hi
        have hxj := List.getElem?_eq_getElem hj
        have hwi := hmw _ (List.getElem_mem hi)
        have hwj := hmw _ (List.getElem_mem hj)
        generalize m[i] = x at hxi hwi
        generalize m[l.length - 1 - i] = y at hxj hwj
        refine rdx W.c3 hrd (Mem.le_refl _) (l.length - 1 - i) (by omega) hxj ?_
        refine rdx W.c3 hrd (Mem.le_refl _) i rfl hxi ?_
        refine stx W.c3 hsm hle i rfl (by simpa using hi) rfl rfl fun M1 hle1 hs1 => ?_
        refine stx W.c3 hs1 hle1 (l.length - 1 - i) (by omega) (by simpa using hj) rfl rfl fun M2 hle2 hs2 => ?_
        rw [← List.map_set, ← List.map_set] at hs2
        rw [i64_next hi (by omega)]
        refine ih (i + 1) ((m.set i y).set (l.length - 1 - i) x) M2 _ (by rw [hjj, w64_in (by omega)]; omega) (by omega) (by omega) hle2 hs2 (by simp [hml]) ?_ ?_
        · intro n hn
          rcases List.mem_or_eq_of_mem_set hn with hn | rfl
          · rcases List.mem_or_eq_of_mem_set hn with hn | rfl
            · exact hmw n hn
            · exact hwj
          · exact hwi
        · intro t ht
          have e1 := hm' i (by omega)
          have e2 := hm' (l.length - 1 - i) (by omega)
          rw [if_neg (by omega), hxi] at e1
          rw [if_neg (by omega), hxj] at e2
          rw [List.getElem?_set, List.length_set, List.getElem?_set]
          by_cases h3 : l.length - 1 - i = t
          · rw [if_pos h3, if_pos hj, if_pos (by omega), show l.length - 1 - t = i from by omega, ← e1]
          · rw [if_neg h3]
            by_cases h4 : i = t
            · rw [if_pos h4, if_pos hi, if_pos (by omega), ← h4, ← e2]
            · rw [if_neg h4, hm' t ht]
              by_cases h5 : t < i ∨ l.length ≤ t + i
              · rw [if_pos h5, if_pos (by omega)]
              · rw [if_neg h5, if_neg (by omega)]
      · rename_i hij
        have : m = l.reverse := by
          apply List.ext_getElem?
          intro t
          by_cases ht : t < l.length
          · rw [hm' t ht, List.getElem?_reverse ht]
            split
            · rfl
            · rw [show l.length - 1 - t = t from by omega]
          · rw [List.getElem?_eq_none (by omega), List.getElem?_eq_none (by simp; omega)]
        subst this
        exact h M hle hsm
  refine ⟨l.length + 1, ?_⟩
  refine key (l.length + 1) 0 l M _ ?_ (by omega) (by omega) hl hs rfl hw (fun t ht => by rw [if_neg (by omega)])
  rw [hlen, w64_in (by omega)]; omega

def g : Nat → Nat → List Int
  | 0, _ => []
  | k + 1, n => greedy k n
theorem g_lt (j : Nat) {n : Nat} (h : n < wn j) : greedy j n = g j n := by
  cases j with
  | zero => exact greedy_lt0 h
  | succ k => exact greedy_lt k h

theorem Of_ok {R : Value → Mem → Prop} {n : Int} (h : ∀ M' s', Mem.le M M' → RdI w0 M' .i64 s' (numL n) → R s'.v M') : C PP w0 Id.skewnum_Of #[.int .i64 n] R M := by
  apply skewnum_Of.go
  intro pts H
  unfold skewnum_Of.T
  simp only [bs_decide]
  have hnil : ¬ (1 ≤ n ∧ n ≤ 268435456) → R (.slice none 0 0) M := fun hh => h M ⟨none, 0, 0⟩ (Mem.le_refl _) (by unfold numL; rw [if_neg hh]; exact RdI.nil)
  split
  · exact hnil (by omega)
  split
  · exact hnil (by omega)
  obtain ⟨N, rfl⟩ : ∃ N : Nat, n = (N : Int) := ⟨n.toNat, by omega⟩
  have hof : numL (N : Int) = (greedy 28 N).reverse := by unfold numL; rw [if_pos (by omega), Int.toNat_natCast]
  rw [hof] at h
  have hel := (greedy_right 28 N (Nat.le_refl _) (by rw [wn28]; omega)).2.1
  rw [H.J1]
  unfold skewnum_Of.J1.T
  have outer : ∀ (f j n : Nat) (kk : Int) (out : SV) (acc : List Int) (M' : Mem), kk = (j : Int) - 1 → j ≤ 29 → j < f → Mem.le M M' → Sl w0 M M' out (acc.map (Value.int .i64)) → acc.length + n ≤ 268435456 → acc ++ g j n = greedy 28 N →
      skewnum_Of.L2 pts f (n : Int) out kk M' := by
    intro f
    induction f with
    | zero => intro j n kk out acc M' _ _ h1; omega
    | succ f ih =>
      intro j n kk out acc M' hkk h29 hjf hle hs hb hG
      rw [H.L2]
      unfold skewnum_Of.L2.T
      rw [bs_decide]
      cases j with
      | zero =>
        rw [if_neg (by omega)]
        rw [g, List.append_nil] at hG
        have hw : ∀ n ∈ acc, (Lit.int .i64 n).wf = true := wf_all fun x hx => by rw [hG] at hx; have := hel x hx; unfold In64; omega
        refine Reverse_ok hle hs hw (by omega) fun M2 hle2 hs2 => ?_
        rw [hG] at hs2
        refine h M2 out hle2 (hs2.rdI ?_ ?_)
        · intro n hn; rw [← hG] at hn; exact hw n (List.mem_reverse.1 hn)
        · rw [List.length_reverse, ← hG]; omega
      | succ k =>
        rw [if_pos (by omega)]
        have hkk' : kk = (k : Int) := by omega
        subst hkk'
        have inner : ∀ (f' n : Nat) (out : SV) (acc : List Int) (M' : Mem), n < f' → Mem.le M M' → Sl w0 M M' out (acc.map (Value.int .i64)) → acc.length + n ≤ 268435456 → acc ++ greedy k n = greedy 28 N →
            skewnum_Of.L3 pts f f' (n : Int) out (k : Int) M' := by
          intro f'
          induction f' with
          | zero => intro n out acc M' h1; omega
          | succ f' ih' =>
            intro n out acc M' h1 hle hs hb hG
            rw [H.L3]
            unfold skewnum_Of.L3.T
            have hp := wn_pos k
            refine weight_ok (by omega) (by omega) ?_
            rw [wt_wn]
            simp only [go_sem, bs_decide]
            split
            · rename_i hge
              have hge' : wn k ≤ n := by omega
              refine bsl_ints (k := .i64) (l := [(k : Int)]) hle Try.underlying34 W.e3 (n := 1) (by decide) (by kernel_rfl) rfl fun M1 o h3 h4 h5 => ?_
              simp only [go_sem]
              refine app_new Try.underlying34 W.e3 h3 (hs.le h4) h5 (by simp; omega) fun M2 o2 h6 h7 => ?_
              simp only [go_sem]
              refine weight_ok (by omega) (by omega) ?_
              rw [wt_wn]
              simp only [go_sem]
              rw [w64_in (by omega), show (n : Int) - (wn k : Int) = ((n - wn k : Nat) : Int) from by omega]
              refine ih' (n - wn k) o2 (acc ++ [(k : Int)]) M2 (by omega) h6 h7 (by simp; omega) ?_
              rw [greedy_ge k hge'] at hG
              simpa using hG
            · rename_i hlt
              have hlt' : n < wn k := by omega
              exact ih k n _ out acc M' (by rw [w64_in (by omega)]) (by omega) (by omega) hle hs hb (by rw [← g_lt k hlt']; exact hG)
        exact ⟨n + 1, inner (n + 1) n out acc M' (by omega) hle hs hb hG⟩
  exact ⟨30, outer 30 29 N 28 ⟨none, 0, 0⟩ [] M rfl (by omega) (by omega) (Mem.le_refl _) Sl.nil (by simp; omega) rfl⟩

theorem refOf_ok {R : Value → Mem → Prop} {n : Int} (h : ∀ M' s', Mem.le M M' → RdI w0 M' .i64 s' (numL n) → R s'.v M') : C PP w0 Id.thicketref10_Of #[.int .i64 n] R M := by
  apply thicketref10_Of.go
  intro pts H
  unfold thicketref10_Of.T
  simp only [bs_decide]
  have hnil : ¬ (1 ≤ n ∧ n ≤ 268435456) → R (.slice none 0 0) M := fun hh => h M ⟨none, 0, 0⟩ (Mem.le_refl _) (by unfold numL; rw [if_neg hh]; exact RdI.nil)
  split
  · exact hnil (by omega)
  split
  · exact hnil (by omega)
  obtain ⟨N, rfl⟩ : ∃ N : Nat, n = (N : Int) := ⟨n.toNat, by omega⟩
  have hof : numL (N : Int) = (greedy 28 N).reverse := by unfold numL; rw [if_pos (by omega), Int.toNat_natCast]
  rw [hof] at h
  have hel := (greedy_right 28 N (Nat.le_refl _) (by rw [wn28]; omega)).2.1
  rw [H.J1]
  unfold thicketref10_Of.J1.T
  have outer : ∀ (f j n : Nat) (kk : Int) (out : SV) (acc : List Int) (M' : Mem), kk = (j : Int) - 1 → j ≤ 29 → j < f → Mem.le M M' → Sl w0 M M' out (acc.map (Value.int .i64)) → acc.length + n ≤ 268435456 → acc.reverse ++ g j n = greedy 28 N →
      thicketref10_Of.L2 pts f (n : Int) out kk M' := by
    intro f
    induction f with
    | zero => intro j n kk out acc M' _ _ h1; omega
    | succ f ih =>
      intro j n kk out acc M' hkk h29 hjf hle hs hb hG
      rw [H.L2]
      unfold thicketref10_Of.L2.T
      rw [bs_decide]
      cases j with
      | zero =>
        rw [if_neg (by omega)]
        rw [g, List.append_nil] at hG
        have hG' : acc = (greedy 28 N).reverse := by rw [← hG, List.reverse_reverse]
        rw [← hG'] at h
        exact h M' out hle (hs.rdI (wf_all fun x hx => by rw [hG'] at hx; have := hel x (List.mem_reverse.1 hx); unfold In64; omega) (by omega))
      | succ k =>
        rw [if_pos (by omega)]
        have hkk' : kk = (k : Int) := by omega
        subst hkk'
        have inner : ∀ (f' n : Nat) (out : SV) (acc : List Int) (M' : Mem), n < f' → Mem.le M M' → Sl w0 M M' out (acc.map (Value.int .i64)) → acc.length + n ≤ 268435456 → acc.reverse ++ greedy k n = greedy 28 N →
            thicketref10_Of.L3 pts f f' (n : Int) out (k : Int) M' := by
          intro f'
          induction f' with
          | zero => intro n out acc M' h1; omega
          | succ f' ih' =>
            intro n out acc M' h1 hle hs hb hG
            rw [H.L3]
            unfold thicketref10_Of.L3.T
            have hp := wn_pos k
            obtain ⟨e1, e2, e3, e4, e5⟩ := pw (k := (k : Int)) (by omega) (by omega)
            rw [e1, e2, e3, w64_in (n := wt (k : Int) + 1 - 1) (by omega), show wt (k : Int) + 1 - 1 = wt (k : Int) from by omega, wt_wn]
            simp only [bs_decide]
            refine ⟨by omega, ?_⟩
            split
            · rename_i hge
              have hge' : wn k ≤ n := by omega
              refine bsl_ints (k := .i64) (l := [(k : Int)]) hle Try.underlying34 W.e3 (n := 1) (by decide) (by kernel_rfl) rfl fun M1 o h3 h4 h5 => ?_
              simp only [go_sem]
              refine app_new Try.underlying34 W.e3 h3 h5 (hs.le h4) (by simp; omega) fun M2 o2 h6 h7 => ?_
              simp only [go_sem]
              refine ⟨by omega, ?_⟩
              rw [w64_in (by omega), show (n : Int) - (wn k : Int) = ((n - wn k : Nat) : Int) from by omega]
              refine ih' (n - wn k) o2 ([(k : Int)] ++ acc) M2 (by omega) h6 h7 (by simp; omega) ?_
              rw [greedy_ge k hge'] at hG
              simpa using hG
            · rename_i hlt
              have hlt' : n < wn k := by omega
              exact ih k n _ out acc M' (by rw [w64_in (by omega)]) (by omega) (by omega) hle hs hb (by rw [← g_lt k hlt']; exact hG)
        exact ⟨n + 1, inner (n + 1) n out acc M' (by omega) hle hs hb hG⟩
  exact ⟨30, outer 30 29 N 28 ⟨none, 0, 0⟩ [] M rfl (by omega) (by omega) (Mem.le_refl _) Sl.nil (by simp; omega) rfl⟩

theorem Same_ok {R : Value → Mem → Prop} {s x : SV} {l m : List Int} (hs : RdI w0 M .i64 s l) (hx : RdI w0 M .i64 x m) (h : R (.bool (decide (l = m))) M) : C PP w0 Id.thicketbook_Same_int #[SV.v s, SV.v x] R M := by
  apply thicketbook_Same_int.go
  intro pts H
  unfold thicketbook_Same_int.T
  have hl := hs.len
  have hlx := hx.len
  have hm := hs.max
  rw [bs_bne]
  split
  · rename_i he
    have key : ∀ (k i : Nat), i ≤ l.length → l.length < i + k → (∀ j < i, l[j]? = m[j]?) → thicketbook_Same_int.L1 pts k s x (i : Int) M := by
      intro k
      induction k with
      | zero => intro i h1 h2; omega
      | succ k ih =>
        intro i h1 h2 hok
        rw [H.L1]
        unfold thicketbook_Same_int.L1.T
        rw [bs_decide]
        split
        · have hi : i < l.length := by omega
          have e1 := List.getElem?_eq_getElem hi
          have e2 := List.getElem?_eq_getElem (show i < m.length by omega)
          generalize l[i] = u at e1
          generalize m[i] = v at e2
          refine rdx W.c3 hs (Mem.le_refl _) i rfl e1 ?_
          refine rdx W.c3 hx (Mem.le_refl _) i rfl e2 ?_
          rw [bs_bne]
          split
          · rename_i huv
            subst huv
            rw [i64_next hi hm]
            refine ih (i + 1) (by omega) (by omega) fun j hj => ?_
            rcases Nat.lt_succ_iff_lt_or_eq.1 hj with hj | rfl
            · exact hok j hj
            · rw [e1, e2]
          · rename_i huv
            have : ¬ l = m := fun hh => by subst hh; rw [e1] at e2; exact huv (Option.some.inj e2)
            rw [decide_eq_false this] at h; exact h
        · have : l = m := by
            apply List.ext_getElem?
            intro j
            by_cases hj : j < l.length
            · exact hok j (by omega)
            · rw [List.getElem?_eq_none (by omega), List.getElem?_eq_none (by omega)]
          rw [decide_eq_true this] at h; exact h
    exact ⟨l.length + 1, key _ 0 (by omega) (by omega) (fun j hj => by omega)⟩
  · rename_i he
    have : ¬ l = m := fun hh => by subst hh; omega
    rw [decide_eq_false this] at h; exact h

theorem Within_ok {R : Value → Mem → Prop} {n lo hi : Int} (hn : In64 n) (h1 : -4611686018427387904 ≤ lo) (h2 : lo ≤ hi) (h3 : hi ≤ 1152921504606846976) (h4 : hi - lo ≤ 1152921504606846976) (h : ∀ x, lo ≤ x → x ≤ hi → R (.int .i64 x) M) : C PP w0 Id.thicketbook_Within #[.int .i64 n, .int .i64 lo, .int .i64 hi] R M := by
  apply thicketbook_Within.go
  intro pts H
  unfold thicketbook_Within.T
  have hj : thicketbook_Within.J1 pts n lo hi M := by
    rw [H.J1]
    unfold thicketbook_Within.J1.T
    rw [w64_in (n := hi - lo) (by omega), w64_in (n := hi - lo + 1) (by omega)]
    refine ⟨rfl, by omega, ?_⟩
    have a1 : Int.tmod n (hi - lo + 1) < hi - lo + 1 := Int.tmod_lt_of_pos n (by omega)
    have a2 : -(hi - lo + 1) < Int.tmod n (hi - lo + 1) := by
      have := Int.tmod_lt_of_pos (-n) (show 0 < hi - lo + 1 by omega)
      rw [Int.neg_tmod] at this; omega
    generalize Int.tmod n (hi - lo + 1) = r at a1 a2
    rw [bs_decide]
    split
    · rw [w64_in (n := r + hi) (by omega), w64_in (n := r + hi - lo) (by omega), w64_in (n := r + hi - lo + 1) (by omega), w64_in (by omega)]
      exact h _ (by omega) (by omega)
    · rw [w64_in (by omega)]
      exact h _ (by omega) (by omega)
  simp only [bs_decide]
  split
  · split
    · exact h n (by omega) (by omega)
    · exact hj
  · exact hj

def joinL (l m : List Int) : List Int := if rightB l = true ∧ rightB m = true then numL (sumW l + sumW m) else []
theorem sumW_le {l : List Int} (h : rightB l = true) : 0 ≤ sumW l ∧ sumW l ≤ 16106127330 := by
  have h1 := right_len h
  have := sumW_take h l.length
  rw [List.take_length] at this
  omega
theorem Joined_ok {R : Value → Mem → Prop} {s x : SV} {l m : List Int} (hs : RdI w0 M .i64 s l) (hx : RdI w0 M .i64 x m) (h : ∀ M' s', Mem.le M M' → RdI w0 M' .i64 s' (joinL l m) → R s'.v M') : C PP w0 Id.skewnum_Joined #[SV.v s, SV.v x] R M := by
  apply skewnum_Joined.go
  intro pts H
  unfold skewnum_Joined.T
  refine Right_ok hs ?_
  simp only [go_sem, bs_not]
  unfold joinL at h
  rw [bs_b]
  refine ⟨fun h1 => ?_, fun h1 => ?_⟩
  · refine Right_ok hx ?_
    simp only [go_sem, bs_not]
    rw [bs_b]
    refine ⟨fun h2 => ?_, fun h2 => ?_⟩
    · rw [H.J1]
      unfold skewnum_Joined.J1.T
      refine Value_ok hs ?_
      simp only [go_sem]
      refine Value_ok hx ?_
      simp only [go_sem]
      have a1 := sumW_le h1
      have a2 := sumW_le h2
      rw [if_pos ⟨h1, h2⟩] at h
      rw [valL, valL, if_pos h1, if_pos h2, w64_in (by omega)]
      refine Of_ok fun M' s' h3 h4 => ?_
      simp only [go_sem]
      exact h M' s' h3 h4
    · rw [if_neg (by simp [h2])] at h
      exact h M ⟨none, 0, 0⟩ (Mem.le_refl _) RdI.nil
  · rw [if_neg (by simp [h1])] at h
    exact h M ⟨none, 0, 0⟩ (Mem.le_refl _) RdI.nil

/-- A row that is written down. -/
theorem lit_ok {R : SV → Mem → Prop} {n : Nat} {parts : List (Nat × Value)} (l : List Int) (h24 : n ≤ 16777216) (hc : Instr.fill (fun k => some (k * 1, 1)) ((Array.range (n * 1)).map ((Value.int .i64 0).cells[· % (Value.int .i64 0).cells.size]!)) parts = some (l.map (Value.int .i64)).toArray) (hn : l.length = n) (hw : ∀ n ∈ l, (Lit.int .i64 n).wf = true)
    (h : ∀ M' s', Mem.le M M' → RdI w0 M' .i64 s' l → R s' M') : (std PP w0).bsl 34 n parts (fun v M' => shS v fun s' => R s' M') M := by
  refine bsl_ints (Mem.le_refl _) Try.underlying34 W.e3 h24 hc hn fun M' s' h1 h2 h3 => ?_
  simp only [go_sem]
  exact h M' s' h1 (h3.rdI hw (by omega))

theorem same_ok {R : Value → Mem → Prop} {s : SV} {l : List Int} (hs : RdI w0 M .i64 s l) (h : ∀ M', Mem.le M M' → R (.bool true) M') : C PP w0 Id.thicketlaw10_same #[SV.v s] R M := by
  apply thicketlaw10_same.go
  unfold thicketlaw10_same.T
  refine refInc_ok hs fun M1 s1 b1 l1 r1 => ?_
  simp only [go_sem]
  refine refDec_ok (hs.le l1) fun M2 s2 b2 l2 r2 => ?_
  simp only [go_sem]
  have l12 := Mem.le_trans l1 l2
  refine Right_ok (hs.le l12) ?_
  simp only [go_sem]
  refine refRight_ok (hs.le l12) ?_
  simp only [go_sem, beq_self_eq_true, bs_true]
  refine Value_ok (hs.le l12) ?_
  simp only [go_sem]
  refine refValue_ok (hs.le l12) ?_
  simp only [go_sem, beq_self_eq_true, bs_true]
  refine Inc_ok (hs.le l12) fun M3 s3 l3 r3 => ?_
  simp only [go_sem]
  refine Same_ok r3 (r1.le (Mem.le_trans l2 l3)) ?_
  simp only [go_sem, decide_true, bs_true]
  refine Dec_ok (hs.le (Mem.le_trans l12 l3)) fun M4 s4 l4 r4 => ?_
  simp only [go_sem]
  refine Same_ok r4 (r2.le (Mem.le_trans l3 l4)) ?_
  simp only [go_sem, decide_true]
  exact h _ (Mem.le_trans l12 (Mem.le_trans l3 l4))

theorem known10_ok {R : Value → Mem → Prop} (h : ∀ M', Mem.le M M' → R (.bool true) M') : C PP w0 Id.thicketlaw10_known #[] R M := by
  apply thicketlaw10_known.go
  unfold thicketlaw10_known.T
  refine Of_ok fun M1 s1 l1 r1 => ?_
  simp only [go_sem]
  refine lit_ok [0, 0, 1] (by decide) (by kernel_rfl) rfl (by decide) fun M2 s2 l2 r2 => ?_
  refine Same_ok (r1.le l2) r2 ?_
  rw [show decide (numL 5 = [0, 0, 1]) = true from by decide]
  simp only [go_sem, bs_true]
  refine lit_ok [0, 0] (by decide) (by kernel_rfl) rfl (by decide) fun M3 s3 l3 r3 => ?_
  refine Inc_ok r3 fun M4 s4 l4 r4 => ?_
  simp only [go_sem]
  refine lit_ok [1] (by decide) (by kernel_rfl) rfl (by decide) fun M5 s5 l5 r5 => ?_
  refine Same_ok (r4.le l5) r5 ?_
  rw [show decide (ofO (incL [0, 0]) = [1]) = true from by decide]
  simp only [go_sem, bs_true]
  refine lit_ok [1] (by decide) (by kernel_rfl) rfl (by decide) fun M6 s6 l6 r6 => ?_
  refine Dec_ok r6 fun M7 s7 l7 r7 => ?_
  simp only [go_sem]
  refine lit_ok [0, 0] (by decide) (by kernel_rfl) rfl (by decide) fun M8 s8 l8 r8 => ?_
  refine Same_ok (r7.le l8) r8 ?_
  rw [show decide (ofO (decL [1]) = [0, 0]) = true from by decide]
  simp only [go_sem, bs_true]
  refine lit_ok [1, 0] (by decide) (by kernel_rfl) rfl (by decide) fun M9 s9 l9 r9 => ?_
  refine Value_ok r9 ?_
  rw [show valL [1, 0] = -1 from by decide]
  simp only [go_sem, beq_self_eq_true, bs_true]
  refine Right_ok (s := ⟨none, 0, 0⟩) RdI.nil ?_
  simp only [go_sem]
  exact h _ (Mem.le_trans l1 (Mem.le_trans l2 (Mem.le_trans l3 (Mem.le_trans l4 (Mem.le_trans l5 (Mem.le_trans l6 (Mem.le_trans l7 (Mem.le_trans l8 l9))))))))

end
end Go.Proofs.Ytkibecgakkhljaa.HL
