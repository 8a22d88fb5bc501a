/-
  OrE: rows of entries: two parts that are put into one; all put in order.
-/
import Derived.Test.YtgnfbodlpolibaaOrD
set_option linter.unusedVariables false
set_option linter.unusedSimpArgs false
set_option maxRecDepth 100000
namespace Go.Proofs.Ytgnfbodlpolibaa.HL
open Go.RowKit (Below)
open Go.Proofs

theorem half_in {i j : Nat} (h : i + j < 4611686018427387904) : w64 (Int.fdiv (u64 (w64 ((i : Int) + (j : Int)))) (2 ^ (min (1 : Int).toNat (IntKind.bits .u64)))) = (((i + j) / 2 : Nat) : Int) := by
  rw [w64_in (n := (i : Int) + (j : Int)) (by omega)]
  have e1 : u64 ((i : Int) + (j : Int)) = (i : Int) + (j : Int) := by unfold u64 IntKind.wrap; simp [IntKind.bits, IntKind.signed]; omega
  have e2 : ((2 : Int) ^ (min (1 : Int).toNat (IntKind.bits .u64))) = 2 := by decide
  rw [e1, e2, Int.fdiv_eq_ediv_of_nonneg _ (by decide), w64_in (by omega)]
  omega
theorem srt_get {l : List Ent} (h : Srt l) {i j : Nat} {x y : Ent} (hx : l[i]? = some x) (hy : l[j]? = some y) (hij : i ≤ j) : ¬ Lt y x := by
  obtain ⟨h1, rfl⟩ := List.getElem?_eq_some_iff.1 hx
  obtain ⟨h2, rfl⟩ := List.getElem?_eq_some_iff.1 hy
  rcases Nat.lt_or_eq_of_le hij with h3 | rfl
  · exact List.pairwise_iff_getElem.1 h i j h1 h2 h3
  · exact Lt.irr
theorem mem_take_get {l : List Ent} {n : Nat} {x : Ent} (h : x ∈ l.take n) : ∃ i, i < n ∧ l[i]? = some x := by
  obtain ⟨i, hi⟩ := List.getElem?_of_mem h
  have hn : i < n := by
    have := (List.getElem?_eq_some_iff.1 hi).1
    rw [List.length_take] at this; omega
  exact ⟨i, hn, by rw [List.getElem?_take_of_lt hn] at hi; exact hi⟩
theorem mem_drop_get {l : List Ent} {n : Nat} {x : Ent} (h : x ∈ l.drop n) : ∃ i, n ≤ i ∧ l[i]? = some x := by
  obtain ⟨i, hi⟩ := List.getElem?_of_mem h
  rw [List.getElem?_drop] at hi
  exact ⟨n + i, by omega, hi⟩

/-- Two parts in order, cut so that what is before is before: the halves. -/
theorem srt_four {X1 X2 Y1 Y2 Z1 Z2 : List Ent} (hX : Srt (X1 ++ X2)) (hY : Srt (Y1 ++ Y2)) (c1 : ∀ x ∈ X1, ∀ y ∈ Y2, ¬ Lt y x) (c2 : ∀ x ∈ X2, ∀ y ∈ Y1, ¬ Lt x y) (h1 : Srt Z1) (h2 : Srt Z2) (p1 : Z1.Perm (X1 ++ Y1)) (p2 : Z2.Perm (X2 ++ Y2)) :
    Srt (Z1 ++ Z2) ∧ (Z1 ++ Z2).Perm ((X1 ++ X2) ++ (Y1 ++ Y2)) := by
  refine ⟨List.pairwise_append.2 ⟨h1, h2, fun a ha b hb => ?_⟩, ?_⟩
  · have ha' := p1.mem_iff.1 ha
    have hb' := p2.mem_iff.1 hb
    rcases List.mem_append.1 ha' with ha' | ha' <;> rcases List.mem_append.1 hb' with hb' | hb'
    · exact (List.pairwise_append.1 hX).2.2 a ha' b hb'
    · exact c1 a ha' b hb'
    · exact c2 b hb' a ha'
    · exact (List.pairwise_append.1 hY).2.2 a ha' b hb'
  · refine (p1.append p2).trans ?_
    have e1 : (X1 ++ Y1) ++ (X2 ++ Y2) = X1 ++ ((Y1 ++ X2) ++ Y2) := by simp
    have e2 : (X1 ++ X2) ++ (Y1 ++ Y2) = X1 ++ ((X2 ++ Y1) ++ Y2) := by simp
    rw [e1, e2]
    exact ((List.perm_append_comm).append_right Y2).append_left X1

section
variable {w0 : World}

abbrev CmpF : FuncId × Array Value := (Id.order_Compare, #[])

/-- One in front of a part in order. -/
theorem symOne_ok {F M : Mem} {R : Value → Mem → Prop} {s : SV} {Q : Asn} (A Y B : List Ent) {x : Ent} {pts : Pts} (H : slices_symMergeCmpFuncapi_Entry.Is (std PP w0) pts R) (hsr : Srt Y) (hb : (A ++ (x :: (Y ++ B))).length ≤ 1000000) (h : Holds w0 F M (star (Es s (A ++ (x :: (Y ++ B)))) Q))
    (hR : ∀ M' Z, Srt Z → Z.Perm (x :: Y) → Holds w0 F M' (star (Es s (A ++ (Z ++ B))) Q) → R (.tuple #[]) M') : ∃ k, slices_symMergeCmpFuncapi_Entry.L1 pts k s (A.length : Int) CmpF ((A.length + 1 : Nat) : Int) ((A.length + 1 + Y.length : Nat) : Int) M := by
  simp only [List.length_append, List.length_cons] at hb
  -- forward it goes
  have key4 : ∀ (k : Nat) (Y1 Y2 Y3 : List Ent) (M' : Mem), Y2.length < k → Y = Y1 ++ (Y2 ++ Y3) → (∀ y ∈ Y1, Lt y x) → (∀ y ∈ Y2, Lt y x) → (∀ y ∈ Y3, ¬ Lt y x) → Holds w0 F M' (star (Es s (A ++ (Y1 ++ x :: (Y2 ++ (Y3 ++ B))))) Q) →
      slices_symMergeCmpFuncapi_Entry.L4 pts k s ((A.length + 1 + Y1.length + Y2.length : Nat) : Int) ((A.length + Y1.length : Nat) : Int) M' := by
    intro k
    induction k with
    | zero => intro Y1 Y2 Y3 M' h1; omega
    | succ k ih =>
      intro Y1 Y2 Y3 M' hk hY h1 h2 h3 hH
      have hl := congrArg List.length hY
      simp only [List.length_append] at hl
      rw [H.L4]
      unfold slices_symMergeCmpFuncapi_Entry.L4.T
      rw [w64_in (n := ((A.length + 1 + Y1.length + Y2.length : Nat) : Int) - 1) (by omega), bs_decide]
      split
      · match Y2, hY, hk, h2, hH, hl with
        | [], _, _, _, _, _ => simp at *; omega
        | y :: Y2, hY, hk, h2, hH, hl =>
          simp only [List.length_cons] at hk hl
          have el : A ++ (Y1 ++ x :: (y :: Y2 ++ (Y3 ++ B))) = (A ++ Y1) ++ x :: ([] ++ y :: (Y2 ++ (Y3 ++ B))) := by simp
          rw [el] at hH
          have e0 : ((A.length + Y1.length : Nat) : Int) = (((A ++ Y1).length : Nat) : Int) := by rw [List.length_append]
          have e1 : w64 (((A.length + Y1.length : Nat) : Int) + 1) = (((A ++ Y1).length + 1 + ([] : List Ent).length : Nat) : Int) := by
            rw [w64_in (by omega), List.length_append, List.length_nil]; omega
          refine swapE hH (l' := (A ++ Y1) ++ y :: ([] ++ x :: (Y2 ++ (Y3 ++ B)))) _ _ e0 e1 swp_get1 swp_get2 swp_fw fun M4 h4 => ?_
          rw [e1]
          have := ih (Y1 ++ [y]) Y2 Y3 M4 (by omega) (by rw [hY]; simp) (fun z hz => by
            rcases List.mem_append.1 hz with hz | hz
            · exact h1 z hz
            · rw [List.mem_singleton.1 hz]; exact h2 y List.mem_cons_self) (fun z hz => h2 z (List.mem_cons_of_mem _ hz)) h3 (by
            rw [show A ++ ((Y1 ++ [y]) ++ x :: (Y2 ++ (Y3 ++ B))) = (A ++ Y1) ++ y :: ([] ++ x :: (Y2 ++ (Y3 ++ B))) from by simp]; exact h4)
          rw [show A.length + 1 + (Y1 ++ [y]).length + Y2.length = A.length + 1 + Y1.length + (y :: Y2).length from by simp only [List.length_append, List.length_cons, List.length_nil]; omega,
            show A.length + (Y1 ++ [y]).length = (A ++ Y1).length + 1 + ([] : List Ent).length from by simp only [List.length_append, List.length_cons, List.length_nil]; omega] at this
          exact this
      · have hY2 : Y2 = [] := List.length_eq_zero_iff.1 (by omega)
        subst hY2
        rw [List.nil_append] at hY hH
        refine hR M' (Y1 ++ x :: Y3) (srt_mid (hY ▸ hsr) h3 (fun y hy => (h1 y hy).asym)) (by rw [hY]; exact List.perm_middle) ?_
        rw [show A ++ ((Y1 ++ x :: Y3) ++ B) = A ++ (Y1 ++ x :: (Y3 ++ B)) from by simp]; exact hH
  -- its place
  have key1 : ∀ (k i j : Nat) (M' : Mem), i ≤ j → j ≤ Y.length → j < i + k → (∀ q y, q < i → Y[q]? = some y → Lt y x) → (∀ q y, j ≤ q → Y[q]? = some y → ¬ Lt y x) → Holds w0 F M' (star (Es s (A ++ (x :: (Y ++ B)))) Q) →
      slices_symMergeCmpFuncapi_Entry.L1 pts k s (A.length : Int) CmpF ((A.length + 1 + i : Nat) : Int) ((A.length + 1 + j : Nat) : Int) M' := by
    intro k
    induction k with
    | zero => intro i j M' h1 h2 h3; omega
    | succ k ih =>
      intro i j M' hij hj hk hlo hhi hH
      rw [H.L1]
      unfold slices_symMergeCmpFuncapi_Entry.L1.T
      rw [bs_decide]
      split
      · refine ⟨by decide, ?_⟩
        rw [half_in (by omega)]
        have hq : (A.length + 1 + i + (A.length + 1 + j)) / 2 = A.length + 1 + (i + j) / 2 := by omega
        rw [hq]
        have hlt : (i + j) / 2 < Y.length := by omega
        have ey := List.getElem?_eq_getElem hlt
        generalize Y[(i + j) / 2] = y at ey
        refine rdE hH.rdE (Mem.le_refl _) (A.length + 1 + (i + j) / 2) rfl (x := y) (by
          rw [List.getElem?_append_right (by omega), show A.length + 1 + (i + j) / 2 - A.length = (i + j) / 2 + 1 from by omega, List.getElem?_cons_succ, List.getElem?_append_left hlt]; exact ey) ?_
        refine rdE hH.rdE (Mem.le_refl _) A.length rfl (x := x) (by simp) ?_
        show C PP w0 Id.order_Compare #[.agg #[.int .i64 y.1, .int .i64 y.2], .agg #[.int .i64 x.1, .int .i64 x.2]] _ _
        refine Compare_ok fun M3 l3 => ?_
        rw [shI_v, bs_decide]
        simp only [cmpI_lt]
        split
        · rename_i hc
          rw [i64_succ (by omega)]
          exact ih ((i + j) / 2 + 1) j M3 (by omega) hj (by omega) (fun q z hq hz => nLt.lt (srt_get hsr hz ey (by omega)) hc) hhi (hH.le l3)
        · rename_i hc
          exact ih i ((i + j) / 2) M3 (by omega) (by omega) (by omega) hlo (fun q z hq hz => nLt.tr hc (srt_get hsr ey hz hq)) (hH.le l3)
      · have hij' : i = j := by omega
        subst hij'
        refine ⟨i + 1, ?_⟩
        have hYe : Y = Y.take i ++ Y.drop i := (List.take_append_drop _ _).symm
        have hlt : (Y.take i).length = i := by rw [List.length_take]; omega
        have := key4 (i + 1) [] (Y.take i) (Y.drop i) M' (by omega) (by rw [List.nil_append]; exact hYe) (fun y hy => by cases hy) (fun y hy => by
          obtain ⟨q, hq, hz⟩ := mem_take_get hy
          exact hlo q y hq hz) (fun y hy => by
          obtain ⟨q, hq, hz⟩ := mem_drop_get hy
          exact hhi q y hq hz) (by
          rw [show A ++ ([] ++ x :: (Y.take i ++ (Y.drop i ++ B))) = A ++ (x :: (Y ++ B)) from by rw [List.nil_append, ← List.append_assoc (Y.take i), List.take_append_drop]]; exact hH)
        rw [hlt] at this
        exact this
  exact ⟨Y.length + 1, key1 (Y.length + 1) 0 Y.length M (by omega) (by omega) (by omega) (fun q y hq => by omega) (fun q y hq hy => by have := (List.getElem?_eq_some_iff.1 hy).1; omega) h⟩

/-- One behind a part in order. -/
theorem symLast_ok {F M : Mem} {R : Value → Mem → Prop} {s : SV} {Q : Asn} (A X B : List Ent) {y : Ent} {pts : Pts} (H : slices_symMergeCmpFuncapi_Entry.Is (std PP w0) pts R) (hsr : Srt X) (hb : (A ++ (X ++ (y :: B))).length ≤ 1000000) (h : Holds w0 F M (star (Es s (A ++ (X ++ (y :: B)))) Q))
    (hR : ∀ M' Z, Srt Z → Z.Perm (y :: X) → Holds w0 F M' (star (Es s (A ++ (Z ++ B))) Q) → R (.tuple #[]) M') : ∃ k, slices_symMergeCmpFuncapi_Entry.L2 pts k s ((A.length + X.length : Nat) : Int) CmpF (A.length : Int) ((A.length + X.length : Nat) : Int) M := by
  simp only [List.length_append, List.length_cons] at hb
  -- back it goes
  have key5 : ∀ (k : Nat) (X1 X2 X3 : List Ent) (M' : Mem), X2.length < k → X = X1 ++ (X2 ++ X3) → (∀ x ∈ X1, ¬ Lt y x) → (∀ x ∈ X2, Lt y x) → (∀ x ∈ X3, Lt y x) → Holds w0 F M' (star (Es s (A ++ (X1 ++ (X2 ++ y :: (X3 ++ B))))) Q) →
      slices_symMergeCmpFuncapi_Entry.L5 pts k s ((A.length + X1.length : Nat) : Int) ((A.length + X1.length + X2.length : Nat) : Int) M' := by
    intro k
    induction k with
    | zero => intro X1 X2 X3 M' h1; omega
    | succ k ih =>
      intro X1 X2 X3 M' hk hX h1 h2 h3 hH
      have hl := congrArg List.length hX
      simp only [List.length_append] at hl
      rw [H.L5]
      unfold slices_symMergeCmpFuncapi_Entry.L5.T
      rw [bs_decide]
      split
      · rcases List.eq_nil_or_concat X2 with rfl | ⟨X2', x, hPe⟩
        · simp at *
        · rw [List.concat_eq_append] at hPe
          subst hPe
          simp only [List.length_append, List.length_cons, List.length_nil] at hk hl
          have el : A ++ (X1 ++ ((X2' ++ [x]) ++ y :: (X3 ++ B))) = (A ++ (X1 ++ X2')) ++ x :: ([] ++ y :: (X3 ++ B)) := by simp
          rw [el] at hH
          have e0 : ((A.length + X1.length + (X2' ++ [x]).length : Nat) : Int) = (((A ++ (X1 ++ X2')).length + 1 + ([] : List Ent).length : Nat) : Int) := by simp only [List.length_append, List.length_cons, List.length_nil]; omega
          have e1 : w64 (((A.length + X1.length + (X2' ++ [x]).length : Nat) : Int) - 1) = (((A ++ (X1 ++ X2')).length : Nat) : Int) := by
            rw [w64_in (by simp only [List.length_append, List.length_cons, List.length_nil]; omega)]; simp only [List.length_append, List.length_cons, List.length_nil]; omega
          refine swapE hH (l' := (A ++ (X1 ++ X2')) ++ y :: ([] ++ x :: (X3 ++ B))) _ _ e0 e1 swp_get2 swp_get1 swp_bw fun M4 h4 => ?_
          rw [e1]
          have := ih X1 X2' (x :: X3) M4 (by omega) (by rw [hX]; simp) h1 (fun z hz => h2 z (List.mem_append_left _ hz)) (fun z hz => by
            rcases List.mem_cons.1 hz with rfl | hz
            · exact h2 z (List.mem_append_right _ (List.mem_singleton.2 rfl))
            · exact h3 z hz) (by
            rw [show A ++ (X1 ++ (X2' ++ y :: (x :: X3 ++ B))) = (A ++ (X1 ++ X2')) ++ y :: ([] ++ x :: (X3 ++ B)) from by simp]; exact h4)
          rw [show A.length + X1.length + X2'.length = (A ++ (X1 ++ X2')).length from by simp only [List.length_append]; omega] at this
          exact this
      · have hX2 : X2 = [] := List.length_eq_zero_iff.1 (by omega)
        subst hX2
        rw [List.nil_append] at hX hH
        refine hR M' (X1 ++ y :: X3) (srt_mid (hX ▸ hsr) (fun x hx => (h3 x hx).asym) h1) (by rw [hX]; exact List.perm_middle) ?_
        rw [show A ++ ((X1 ++ y :: X3) ++ B) = A ++ (X1 ++ y :: (X3 ++ B)) from by simp]; exact hH
  have key2 : ∀ (k i j : Nat) (M' : Mem), i ≤ j → j ≤ X.length → j < i + k → (∀ q x, q < i → X[q]? = some x → ¬ Lt y x) → (∀ q x, j ≤ q → X[q]? = some x → Lt y x) → Holds w0 F M' (star (Es s (A ++ (X ++ (y :: B)))) Q) →
      slices_symMergeCmpFuncapi_Entry.L2 pts k s ((A.length + X.length : Nat) : Int) CmpF ((A.length + i : Nat) : Int) ((A.length + j : Nat) : Int) M' := by
    intro k
    induction k with
    | zero => intro i j M' h1 h2 h3; omega
    | succ k ih =>
      intro i j M' hij hj hk hlo hhi hH
      rw [H.L2]
      unfold slices_symMergeCmpFuncapi_Entry.L2.T
      rw [bs_decide]
      split
      · refine ⟨by decide, ?_⟩
        rw [half_in (by omega)]
        have hq : (A.length + i + (A.length + j)) / 2 = A.length + (i + j) / 2 := by omega
        rw [hq]
        have hlt : (i + j) / 2 < X.length := by omega
        have ex := List.getElem?_eq_getElem hlt
        generalize X[(i + j) / 2] = x at ex
        refine rdE hH.rdE (Mem.le_refl _) (A.length + X.length) rfl (x := y) (by
          rw [List.getElem?_append_right (by omega), List.getElem?_append_right (by omega), show A.length + X.length - A.length - X.length = 0 from by omega]; rfl) ?_
        refine rdE hH.rdE (Mem.le_refl _) (A.length + (i + j) / 2) rfl (x := x) (by
          rw [List.getElem?_append_right (by omega), show A.length + (i + j) / 2 - A.length = (i + j) / 2 from by omega, List.getElem?_append_left hlt]; exact ex) ?_
        show C PP w0 Id.order_Compare #[.agg #[.int .i64 y.1, .int .i64 y.2], .agg #[.int .i64 x.1, .int .i64 x.2]] _ _
        refine Compare_ok fun M3 l3 => ?_
        rw [shI_v, bs_not, bs_decide]
        simp only [cmpI_lt]
        split
        · rename_i hc
          exact ih i ((i + j) / 2) M3 (by omega) (by omega) (by omega) hlo (fun q z hq hz => by
            have := srt_get hsr ex hz hq
            apply Classical.byContradiction
            intro hn
            exact nLt.tr this hn hc) (hH.le l3)
        · rename_i hc
          rw [i64_succ (by omega)]
          exact ih ((i + j) / 2 + 1) j M3 (by omega) hj (by omega) (fun q z hq hz => nLt.tr (srt_get hsr hz ex (by omega)) hc) hhi (hH.le l3)
      · have hij' : i = j := by omega
        subst hij'
        have hXe : X = X.take i ++ X.drop i := (List.take_append_drop _ _).symm
        have hlt : (X.take i).length = i := by rw [List.length_take]; omega
        have hlt2 : (X.drop i).length = X.length - i := List.length_drop
        refine ⟨X.length + 1, ?_⟩
        have := key5 (X.length + 1) (X.take i) (X.drop i) [] M' (by omega) (by rw [List.append_nil]; exact hXe) (fun x hx => by
          obtain ⟨q, hq, hz⟩ := mem_take_get hx
          exact hlo q x hq hz) (fun x hx => by
          obtain ⟨q, hq, hz⟩ := mem_drop_get hx
          exact hhi q x hq hz) (fun x hx => by cases hx) (by
          rw [show A ++ (X.take i ++ (X.drop i ++ y :: ([] ++ B))) = A ++ (X ++ (y :: B)) from by rw [List.nil_append, ← List.append_assoc (X.take i), List.take_append_drop]]; exact hH)
        rw [hlt, hlt2, show A.length + i + (X.length - i) = A.length + X.length from by omega] at this
        exact this
  exact ⟨X.length + 1, key2 (X.length + 1) 0 X.length M (by omega) (by omega) (by omega) (fun q x hq => by omega) (fun q x hq hx => by have := (List.getElem?_eq_some_iff.1 hx).1; omega) h⟩

end
end Go.Proofs.Ytgnfbodlpolibaa.HL
