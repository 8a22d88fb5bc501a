/-
  OrF: rows of entries: two parts in order are put into one; all are put in order.
-/
import Derived.Test.YtgnfbodlpolibaaOrE
set_option linter.unusedVariables false
set_option linter.unusedSimpArgs false
set_option maxRecDepth 100000
namespace Go.Proofs.Ytgnfbodlpolibaa.HL
open Go.RowKit (Below)
open Go.Proofs

section
variable {w0 : World}

set_option maxHeartbeats 4000000 in
theorem symMerge_ok : ∀ (n : Nat) {F M : Mem} {R : Value → Mem → Prop} {s : SV} {Q : Asn} (A X Y B : List Ent) {a m b : Int}, X.length + Y.length ≤ n → X ≠ [] → Y ≠ [] → Srt X → Srt Y → (A ++ (X ++ (Y ++ B))).length ≤ 1000000 → Holds w0 F M (star (Es s (A ++ (X ++ (Y ++ B)))) Q) →
    a = (A.length : Int) → m = ((A.length + X.length : Nat) : Int) → b = ((A.length + X.length + Y.length : Nat) : Int) → (∀ M' Z, Srt Z → Z.Perm (X ++ Y) → Holds w0 F M' (star (Es s (A ++ (Z ++ B))) Q) → R (.tuple #[]) M') →
    C PP w0 Id.slices_symMergeCmpFuncapi_Entry #[SV.v s, .int .i64 a, .int .i64 m, .int .i64 b, .func (.func Id.order_Compare) #[] #[]] R M := by
  intro n
  induction n with
  | zero =>
    intro F M R s Q A X Y B a m b hn hX
    have := List.length_pos_iff.2 hX
    omega
  | succ n ih =>
    intro F M R s Q A X Y B a m b hn hX hY sX sY hb h ea em eb hR
    have pX := List.length_pos_iff.2 hX
    have pY := List.length_pos_iff.2 hY
    have hb2 := hb
    simp only [List.length_append] at hb2
    apply slices_symMergeCmpFuncapi_Entry.go _ s a m b CmpF
    intro pts H
    unfold slices_symMergeCmpFuncapi_Entry.T
    subst ea em eb
    rw [w64_in (n := ((A.length + X.length : Nat) : Int) - (A.length : Int)) (by omega), bs_beq]
    split
    · have hX1 : X.length = 1 := by omega
      match X, hX1 with
      | [x], _ =>
        exact symOne_ok A Y B H sY hb h fun M' Z h1 h2 h3 => hR M' Z h1 h2 h3
    · rw [w64_in (n := ((A.length + X.length + Y.length : Nat) : Int) - ((A.length + X.length : Nat) : Int)) (by omega), bs_beq]
      split
      · have hY1 : Y.length = 1 := by omega
        match Y, hY1 with
        | [y], _ =>
          exact symLast_ok A X B H sX hb h fun M' Z h1 h2 h3 => hR M' Z h1 (h2.trans (List.perm_append_comm (l₁ := [y]))) h3
      · refine ⟨by decide, ?_⟩
        rw [half_in (by omega)]
        have hX2 : 2 ≤ X.length := by omega
        have hY2 : 2 ≤ Y.length := by omega
        obtain ⟨mid, hmid⟩ : ∃ mid, mid = (A.length + (A.length + X.length + Y.length)) / 2 := ⟨_, rfl⟩
        rw [← hmid]
        have e1 : w64 ((mid : Int) + ((A.length + X.length : Nat) : Int)) = ((mid + (A.length + X.length) : Nat) : Int) := by rw [w64_in (by omega)]; omega
        rw [e1]
        -- once the place is found
        have keyJ3 : ∀ (lo hi : Nat), lo ≤ hi → (lo = A.length ∧ hi = A.length + X.length ∧ A.length + X.length ≤ mid ∨ lo + (A.length + X.length + Y.length) = mid + (A.length + X.length) ∧ hi = mid ∧ mid < A.length + X.length) →
            slices_symMergeCmpFuncapi_Entry.J3 pts s (A.length : Int) ((A.length + X.length : Nat) : Int) ((A.length + X.length + Y.length : Nat) : Int) CmpF (mid : Int) ((mid + (A.length + X.length) : Nat) : Int) (lo : Int) (hi : Int) M := by
          intro lo hi hlh hc
          rw [H.J3]
          unfold slices_symMergeCmpFuncapi_Entry.J3.T
          rw [w64_in (n := ((mid + (A.length + X.length) : Nat) : Int) - 1) (by omega)]
          have key : ∀ (k st r : Nat) (M' : Mem), lo ≤ st → st ≤ r → r ≤ hi → r < st + k → (st = lo ∨ ∃ x y, X[st - 1 - A.length]? = some x ∧ Y[mid - st]? = some y ∧ ¬ Lt y x) → (r = hi ∨ ∃ x y, X[r - A.length]? = some x ∧ Y[mid - 1 - r]? = some y ∧ r < mid ∧ Lt y x) →
              Holds w0 F M' (star (Es s (A ++ (X ++ (Y ++ B)))) Q) → slices_symMergeCmpFuncapi_Entry.L6 pts k s (A.length : Int) ((A.length + X.length : Nat) : Int) ((A.length + X.length + Y.length : Nat) : Int) CmpF (mid : Int) ((mid + (A.length + X.length) : Nat) : Int) (st : Int) (r : Int) (((mid + (A.length + X.length) : Nat) : Int) - 1) M' := by
            intro k
            induction k with
            | zero => intro st r M' h1 h2 h3 h4; omega
            | succ k ih2 =>
              intro st r M' h1 h2 h3 h4 hlo hhi hH
              rw [H.L6]
              unfold slices_symMergeCmpFuncapi_Entry.L6.T
              rw [bs_decide]
              split
              · refine ⟨by decide, ?_⟩
                rw [half_in (by omega)]
                obtain ⟨c, hcc⟩ : ∃ c, c = (st + r) / 2 := ⟨_, rfl⟩
                rw [← hcc]
                have hcX : c - A.length < X.length := by omega
                have hcY : mid - 1 - c < Y.length := by omega
                have ex := List.getElem?_eq_getElem hcX
                have ey := List.getElem?_eq_getElem hcY
                generalize X[c - A.length] = x at ex
                generalize Y[mid - 1 - c] = y at ey
                refine rdE hH.rdE (Mem.le_refl _) (mid + (A.length + X.length) - 1 - c) (by rw [w64_in (by omega)]; omega) (x := y) (by
                  rw [List.getElem?_append_right (by omega), List.getElem?_append_right (by omega), List.getElem?_append_left (by omega), ← ey]; congr 1; omega) ?_
                refine rdE hH.rdE (Mem.le_refl _) c rfl (x := x) (by
                  rw [List.getElem?_append_right (by omega), List.getElem?_append_left (by omega)]; exact ex) ?_
                show C PP w0 Id.order_Compare #[.agg #[.int .i64 y.1, .int .i64 y.2], .agg #[.int .i64 x.1, .int .i64 x.2]] _ _
                refine Compare_ok fun M3 l3 => ?_
                rw [shI_v, bs_not, bs_decide]
                simp only [cmpI_lt]
                split
                · rename_i hlt
                  exact ih2 st c M3 h1 (by omega) (by omega) (by omega) hlo (.inr ⟨x, y, ex, ey, by omega, hlt⟩) (hH.le l3)
                · rename_i hlt
                  rw [i64_succ (by omega)]
                  exact ih2 (c + 1) r M3 (by omega) (by omega) h3 (by omega) (.inr ⟨x, y, by rw [show c + 1 - 1 - A.length = c - A.length from by omega]; exact ex, by rw [show mid - (c + 1) = mid - 1 - c from by omega]; exact ey, hlt⟩) hhi (hH.le l3)
              · have hsr : st = r := by omega
                subst hsr
                have e2 : w64 (((mid + (A.length + X.length) : Nat) : Int) - (st : Int)) = ((mid + (A.length + X.length) - st : Nat) : Int) := by rw [w64_in (by omega)]; omega
                rw [e2]
                -- the four pieces
                have hXe : X = X.take (st - A.length) ++ X.drop (st - A.length) := (List.take_append_drop _ _).symm
                have hYe : Y = Y.take (mid - st) ++ Y.drop (mid - st) := (List.take_append_drop _ _).symm
                have lX1 : (X.take (st - A.length)).length = st - A.length := by rw [List.length_take]; omega
                have lX2 : (X.drop (st - A.length)).length = A.length + X.length - st := by rw [List.length_drop]; omega
                have lY1 : (Y.take (mid - st)).length = mid - st := by rw [List.length_take]; omega
                have lY2 : (Y.drop (mid - st)).length = Y.length - (mid - st) := List.length_drop
                have c1 : ∀ x ∈ X.take (st - A.length), ∀ y ∈ Y.drop (mid - st), ¬ Lt y x := by
                  intro x hx y hy
                  obtain ⟨i, hi, hxi⟩ := mem_take_get hx
                  obtain ⟨j, hj, hyj⟩ := mem_drop_get hy
                  have hjl := (List.getElem?_eq_some_iff.1 hyj).1
                  rcases hlo with hlo | ⟨p, q, hp, hq, hpq⟩
                  · omega
                  · have q1 := srt_get sX hxi hp (by omega)
                    have q2 := srt_get sY hq hyj hj
                    exact nLt.tr (nLt.tr q1 hpq) q2
                have c2 : ∀ x ∈ X.drop (st - A.length), ∀ y ∈ Y.take (mid - st), ¬ Lt x y := by
                  intro x hx y hy
                  obtain ⟨i, hi, hxi⟩ := mem_drop_get hx
                  obtain ⟨j, hj, hyj⟩ := mem_take_get hy
                  have hil := (List.getElem?_eq_some_iff.1 hxi).1
                  rcases hhi with hhi | ⟨p, q, hp, hq, hr, hpq⟩
                  · omega
                  · have q1 := srt_get sX hp hxi hi
                    have q2 := srt_get sY hyj hq (by omega)
                    exact nLt.tr (nLt.tr q2 hpq.asym) q1
                generalize X.take (st - A.length) = X1 at hXe lX1 c1
                generalize X.drop (st - A.length) = X2 at hXe lX2 c2
                generalize Y.take (mid - st) = Y1 at hYe lY1 c2
                generalize Y.drop (mid - st) = Y2 at hYe lY2 c1
                have sX' := sX
                have sY' := sY
                rw [hXe] at sX'
                rw [hYe] at sY'
                have sX1 : Srt X1 := sX'.sub (List.sublist_append_left _ _)
                have sX2 : Srt X2 := sX'.sub (List.sublist_append_right _ _)
                have sY1 : Srt Y1 := sY'.sub (List.sublist_append_left _ _)
                have sY2 : Srt Y2 := sY'.sub (List.sublist_append_right _ _)
                have keyJ8 : ∀ (Z1 : List Ent) (M4 : Mem), Srt Z1 → Z1.Perm (X1 ++ Y1) → Holds w0 F M4 (star (Es s (A ++ (Z1 ++ (X2 ++ (Y2 ++ B))))) Q) →
                    slices_symMergeCmpFuncapi_Entry.J8 pts s ((A.length + X.length + Y.length : Nat) : Int) CmpF (mid : Int) ((mid + (A.length + X.length) - st : Nat) : Int) M4 := by
                  intro Z1 M4 hZ hp h9
                  have hzl := hp.length_eq
                  rw [List.length_append] at hzl
                  have fin : ∀ (Z2 : List Ent) (M5 : Mem), Srt Z2 → Z2.Perm (X2 ++ Y2) → Holds w0 F M5 (star (Es s (A ++ (Z1 ++ (Z2 ++ B)))) Q) → R (.tuple #[]) M5 := by
                    intro Z2 M5 hZ2 hp2 h10
                    obtain ⟨f1, f2⟩ := srt_four sX' sY' c1 c2 hZ hZ2 hp hp2
                    refine hR M5 (Z1 ++ Z2) f1 (by rw [hXe, hYe]; exact f2) ?_
                    rw [List.append_assoc Z1]; exact h10
                  have h9' : X2 = [] ∨ Y2 = [] → R (.tuple #[]) M4 := fun hc => by
                    refine fin (X2 ++ Y2) M4 ?_ (List.Perm.refl _) (by rw [List.append_assoc X2]; exact h9)
                    rcases hc with rfl | rfl
                    · exact sY2
                    · rw [List.append_nil]; exact sX2
                  rw [H.J8]
                  unfold slices_symMergeCmpFuncapi_Entry.J8.T
                  rw [bs_decide]
                  split
                  · rw [bs_decide]
                    split
                    · refine ih (A ++ Z1) X2 Y2 B (by omega) (List.length_pos_iff.1 (by omega)) (List.length_pos_iff.1 (by omega)) sX2 sY2 (by simp only [List.length_append]; omega) (by rw [List.append_assoc A]; exact h9) (by rw [List.length_append]; omega) (by rw [List.length_append]; omega) (by rw [List.length_append]; omega) fun M5 Z2 g1 g2 g3 => ?_
                      exact fin Z2 M5 g1 g2 (by rw [List.append_assoc A] at g3; exact g3)
                    · exact h9' (.inr (List.length_eq_zero_iff.1 (by omega)))
                  · exact h9' (.inl (List.length_eq_zero_iff.1 (by omega)))
                have keyJ7 : ∀ (M4 : Mem), Holds w0 F M4 (star (Es s (A ++ (X1 ++ (Y1 ++ (X2 ++ (Y2 ++ B)))))) Q) →
                    slices_symMergeCmpFuncapi_Entry.J7 pts s (A.length : Int) ((A.length + X.length + Y.length : Nat) : Int) CmpF (mid : Int) (st : Int) ((mid + (A.length + X.length) - st : Nat) : Int) M4 := by
                  intro M4 h9
                  have h9' : X1 = [] ∨ Y1 = [] → slices_symMergeCmpFuncapi_Entry.J8 pts s ((A.length + X.length + Y.length : Nat) : Int) CmpF (mid : Int) ((mid + (A.length + X.length) - st : Nat) : Int) M4 := fun hc => by
                    refine keyJ8 (X1 ++ Y1) M4 ?_ (List.Perm.refl _) (by rw [List.append_assoc X1]; exact h9)
                    rcases hc with rfl | rfl
                    · exact sY1
                    · rw [List.append_nil]; exact sX1
                  rw [H.J7]
                  unfold slices_symMergeCmpFuncapi_Entry.J7.T
                  rw [bs_decide]
                  split
                  · rw [bs_decide]
                    split
                    · refine ih A X1 Y1 (X2 ++ (Y2 ++ B)) (by omega) (List.length_pos_iff.1 (by omega)) (List.length_pos_iff.1 (by omega)) sX1 sY1 (by simp only [List.length_append]; omega) h9 rfl (by omega) (by omega) fun M5 Z1 g1 g2 g3 => ?_
                      exact keyJ8 Z1 M5 g1 g2 g3
                    · exact h9' (.inr (List.length_eq_zero_iff.1 (by omega)))
                  · exact h9' (.inl (List.length_eq_zero_iff.1 (by omega)))
                have el : A ++ (X ++ (Y ++ B)) = (A ++ X1) ++ (X2 ++ (Y1 ++ (Y2 ++ B))) := by
                  conv => lhs; rw [hXe, hYe]
                  simp
                rw [el] at hH
                rw [bs_decide]
                split
                · rw [bs_decide]
                  split
                  · refine rotate_ok (f := CmpF) (A ++ X1) X2 Y1 (Y2 ++ B) (List.length_pos_iff.1 (by omega)) (List.length_pos_iff.1 (by omega)) (by simp only [List.length_append]; omega) hH (by rw [List.length_append]; omega) (by rw [List.length_append]; omega) (by rw [List.length_append]; omega) fun M4 h9 => ?_
                    exact keyJ7 M4 (by rw [List.append_assoc A] at h9; exact h9)
                  · have hy : Y1 = [] := List.length_eq_zero_iff.1 (by omega)
                    subst hy
                    exact keyJ7 M' (by rw [List.append_assoc A, List.nil_append] at hH; exact hH)
                · have hx : X2 = [] := List.length_eq_zero_iff.1 (by omega)
                  subst hx
                  exact keyJ7 M' (by rw [List.append_assoc A, List.nil_append] at hH; rw [List.nil_append]; exact hH)
          exact ⟨hi + 1 - lo, key (hi + 1 - lo) lo hi M (by omega) hlh (by omega) (by omega) (.inl rfl) (.inl rfl) h⟩
        rw [bs_decide]
        split
        · have e3 : w64 (((mid + (A.length + X.length) : Nat) : Int) - ((A.length + X.length + Y.length : Nat) : Int)) = ((mid + (A.length + X.length) - (A.length + X.length + Y.length) : Nat) : Int) := by rw [w64_in (by omega)]; omega
          rw [e3]
          exact keyJ3 _ mid (by omega) (.inr ⟨by omega, rfl, by omega⟩)
        · exact keyJ3 A.length (A.length + X.length) (by omega) (.inl ⟨rfl, rfl, by omega⟩)

/-- All are put in order. -/
theorem Sort_ok {F M : Mem} {R : Value → Mem → Prop} {s : SV} {l : List Ent} {Q : Asn} (hQ : Holds w0 F M Q) (hs : RdE w0 M s l) (hb : l.length ≤ 39) (h : ∀ M' s' z, Mem.le M M' → Holds w0 F M' (star (Es s' z) Q) → Srt z → z.Perm l → R (SV.v s') M') : C PP w0 Id.order_Sort #[SV.v s] R M := by
  apply order_Sort.go
  unfold order_Sort.T
  refine CloneE_ok hQ.self hs (by omega) fun M1 s1 h1 => ?_
  rw [shS_sv]
  apply slices_SortStableFuncapi_Entry_api_Entry.go _ s1 CmpF
  unfold slices_SortStableFuncapi_Entry_api_Entry.T
  apply slices_stableCmpFuncapi_Entry.go _ s1 _ CmpF
  intro pts H
  unfold slices_stableCmpFuncapi_Entry.T
  have hn := h1.lenE
  have fin : ∀ (z : List Ent) (M2 : Mem), Srt z → z.Perm l → Holds w0 M M2 (star (Es s1 z) emp) → R (SV.v s1) M2 := fun z M2 hz hp h2 => by
    obtain ⟨g1, g2⟩ := hQ.unself h2
    exact h M2 s1 z g1 g2 hz hp
  have e20 : w64 (20 + 20) = 40 := w64_in (by omega)
  have e22 : w64 (2 * 20) = 40 := w64_in (by omega)
  by_cases hc : l.length < 20
  · refine ⟨1, ?_⟩
    rw [H.L1]
    unfold slices_stableCmpFuncapi_Entry.L1.T
    rw [bs_decide, if_neg (by omega)]
    refine insSort_ok [] l [] (by simp; omega) (by rw [List.nil_append, List.append_nil]; exact h1) rfl (by rw [hn]; simp) fun M2 z hz hp h2 => ?_
    refine ⟨1, ?_⟩
    rw [H.L2]
    unfold slices_stableCmpFuncapi_Entry.L2.T
    rw [bs_decide, if_neg (by omega)]
    rw [List.nil_append, List.append_nil] at h2
    exact fin z M2 hz hp h2
  · have hl : l = l.take 20 ++ l.drop 20 := (List.take_append_drop _ _).symm
    have l1 : (l.take 20).length = 20 := by rw [List.length_take]; omega
    have l2 : (l.drop 20).length = l.length - 20 := List.length_drop
    generalize l.take 20 = X at hl l1
    generalize l.drop 20 = Y at hl l2
    refine ⟨2, ?_⟩
    rw [H.L1]
    unfold slices_stableCmpFuncapi_Entry.L1.T
    rw [bs_decide, if_pos (by omega)]
    refine insSort_ok [] X Y (by simp; omega) (by rw [List.nil_append, ← hl]; exact h1) rfl (by rw [l1]; rfl) fun M2 zx hzx hpx h2 => ?_
    have lx := hpx.length_eq
    rw [e20, H.L1]
    unfold slices_stableCmpFuncapi_Entry.L1.T
    rw [bs_decide, if_neg (by omega)]
    refine insSort_ok zx Y [] (by simp; omega) (by rw [List.append_nil]; exact h2) (by omega) (by omega) fun M3 zy hzy hpy h3 => ?_
    have ly := hpy.length_eq
    rw [List.append_nil] at h3
    refine ⟨2, ?_⟩
    rw [H.L2]
    unfold slices_stableCmpFuncapi_Entry.L2.T
    rw [bs_decide]
    split
    · refine ⟨1, ?_⟩
      rw [e22, H.L3]
      unfold slices_stableCmpFuncapi_Entry.L3.T
      rw [bs_decide, if_neg (by omega), bs_decide, if_pos (by rw [w64_in (by omega)]; omega)]
      refine symMerge_ok (zx.length + zy.length) [] zx zy [] (Nat.le_refl _) (List.length_pos_iff.1 (by omega)) (List.length_pos_iff.1 (by omega)) hzx hzy (by simp; omega) (by rw [List.nil_append, List.append_nil]; exact h3) rfl (by rw [w64_in (by omega)]; simp; omega) (by simp; omega) fun M4 z hz hp h4 => ?_
      rw [show w64 (20 * 2) = 40 from w64_in (by omega), H.L2]
      unfold slices_stableCmpFuncapi_Entry.L2.T
      rw [bs_decide, if_neg (by omega)]
      rw [List.nil_append, List.append_nil] at h4
      exact fin z M4 hz (hp.trans (by rw [hl]; exact hpx.append hpy)) h4
    · have : zy = [] := List.length_eq_zero_iff.1 (by omega)
      subst this
      rw [List.append_nil] at h3
      have hY : Y = [] := List.length_eq_zero_iff.1 (by simp at ly; omega)
      subst hY
      rw [List.append_nil] at hl
      exact fin zx M3 hzx (hl ▸ hpx) h3

theorem list_ok {M : Mem} {R : Value → Mem → Prop} {s : SV} {l : List Ent} (hs : RdE w0 M s l) (hb : l.length ≤ 39) (h : ∀ M', Mem.le M M' → R (.bool true) M') : C PP w0 Id.thicketlaw1_list #[SV.v s] R M := by
  apply thicketlaw1_list.go
  unfold thicketlaw1_list.T
  refine LeastE_ok hs (by omega) fun M1 l1 => ?_
  simp only [go_sem]
  refine rLeast_ok (hs.le l1) (by omega) fun M2 l2 => ?_
  simp only [go_sem, eql_bool Try.underlying4, beq_self_eq_true, bs_true]
  have l12 := Mem.le_trans l1 l2
  have keyS : ∀ M3, Mem.le M M3 → C PP w0 Id.order_Sort #[SV.v s] (fun v29 M30 => shS v29 fun s31 => C PP w0 Id.thicketref1_Sort #[SV.v s] (fun v32 M33 => shS v32 fun s34 => C PP w0 Id.thicketbook_Sameapi_Entry #[SV.v s31, SV.v s34] (fun v35 M36 => shB v35 fun b37 => R (.bool b37) M36) M33) M30) M3 := by
    intro M3 l3
    refine Sort_ok (Holds.self (P := emp) ⟨[], rfl, Fit.nil (w0 := w0) (Mem.le_refl M3)⟩) (hs.le l3) hb fun M4 s4 z l4 h4 hz hp => ?_
    rw [shS_sv]
    refine rSort_ok h4 ((hs.le l3).le l4) (by omega) fun M5 s5 z5 l5 h5 hz5 hp5 => ?_
    rw [shS_sv]
    have hzz : z5 = z := Srt.eq hz5 hz (hp5.trans hp.symm)
    subst hzz
    have hzl := hp.length_eq
    refine SameE_ok h5.right.rdE h5.rdE (by omega) ?_
    rw [shB_v, decide_eq_true rfl]
    exact h M5 (Mem.le_trans l3 (Mem.le_trans l4 l5))
  by_cases hS : SortedI l
  · refine SortedE_ok (hs.le l12) (by omega) (fun _ M3 l3 => ?_) fun hn => absurd hS hn
    rw [shB_v]
    refine rSorted_ok ((hs.le l12).le l3) (by omega) (fun _ M4 l4 => ?_) fun hn => absurd hS hn
    simp only [eql_bool Try.underlying4, go_sem, beq_self_eq_true, bs_true]
    exact keyS M4 (Mem.le_trans l12 (Mem.le_trans l3 l4))
  · refine SortedE_ok (hs.le l12) (by omega) (fun hn => absurd hn hS) fun _ M3 l3 => ?_
    rw [shB_v]
    refine rSorted_ok ((hs.le l12).le l3) (by omega) (fun hn => absurd hn hS) fun _ M4 l4 => ?_
    simp only [eql_bool Try.underlying4, go_sem, beq_self_eq_true, bs_true]
    exact keyS M4 (Mem.le_trans l12 (Mem.le_trans l3 l4))

end
end Go.Proofs.Ytgnfbodlpolibaa.HL
