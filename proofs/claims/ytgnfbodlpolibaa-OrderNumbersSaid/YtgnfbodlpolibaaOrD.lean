/-
  OrD: rows of entries: parts that change places, parts put in order one by one.
-/
import Derived.Test.YtgnfbodlpolibaaOrC
set_option linter.unusedVariables false
set_option linter.unusedSimpArgs false
set_option maxRecDepth 100000
namespace Go.Proofs.Ytgnfbodlpolibaa.HL
open Go.RowKit (Below)
open Go.Proofs

theorem swp_get1 {P S T : List Ent} {x y : Ent} : (P ++ x :: (S ++ y :: T))[P.length]? = some x := by simp
theorem swp_get2 {P S T : List Ent} {x y : Ent} : (P ++ x :: (S ++ y :: T))[P.length + 1 + S.length]? = some y := by
  rw [List.getElem?_append_right (by omega), show P.length + 1 + S.length - P.length = S.length + 1 from by omega, List.getElem?_cons_succ]
  simp
theorem swp_fw {P S T : List Ent} {x y : Ent} : ((P ++ x :: (S ++ y :: T)).set P.length y).set (P.length + 1 + S.length) x = P ++ y :: (S ++ x :: T) := by
  rw [List.set_append_right _ _ (Nat.le_refl _), Nat.sub_self, List.set_cons_zero, List.set_append_right _ _ (by omega), show P.length + 1 + S.length - P.length = S.length + 1 from by omega, List.set_cons_succ,
    List.set_append_right _ _ (Nat.le_refl _), Nat.sub_self, List.set_cons_zero]
theorem swp_bw {P S T : List Ent} {x y : Ent} : ((P ++ x :: (S ++ y :: T)).set (P.length + 1 + S.length) x).set P.length y = P ++ y :: (S ++ x :: T) := by
  rw [List.set_comm _ _ (by omega)]
  exact swp_fw
theorem srt_mid {P S : List Ent} {x : Ent} (h : Srt (P ++ S)) (h1 : ∀ y ∈ S, ¬ Lt y x) (h2 : ∀ y ∈ P, ¬ Lt x y) : Srt (P ++ x :: S) := by
  obtain ⟨q1, q2, q3⟩ := List.pairwise_append.1 h
  refine List.pairwise_append.2 ⟨q1, List.pairwise_cons.2 ⟨h1, q2⟩, fun a ha b hb => ?_⟩
  rcases List.mem_cons.1 hb with rfl | hb
  · exact h2 a ha
  · exact q3 a ha b hb

section
variable {w0 : World} {M M0 F : Mem} {R : Value → Mem → Prop}

theorem swapE {s : SV} {l l' : List Ent} {Q : Asn} (h : Holds w0 F M (star (Es s l) Q)) {i1 i2 : Int} (p q : Nat) (e1 : i1 = (p : Int)) (e2 : i2 = (q : Int)) {x y : Ent} (hp : l[p]? = some x) (hq : l[q]? = some y) (hl : (l.set p y).set q x = l') {K : Mem → Prop} (hK : ∀ M', Holds w0 F M' (star (Es s l') Q) → K M') :
    nc s.a fun a2 => (0 ≤ i2 ∧ i2 < ((s.n : Nat) : Int)) ∧ ob ((std PP w0).ld 40 (a2.add (i2.toNat * 2)) M) fun v3 => shA v3 fun l4 => shCons l4 fun u5 r6 => shI .i64 u5 fun n7 => shCons r6 fun u8 r9 => shI .i64 u8 fun n10 => shNil r9
      (nc s.a fun a11 => (0 ≤ i1 ∧ i1 < ((s.n : Nat) : Int)) ∧ ob ((std PP w0).ld 40 (a11.add (i1.toNat * 2)) M) fun v12 => shA v12 fun l13 => shCons l13 fun u14 r15 => shI .i64 u14 fun n16 => shCons r15 fun u17 r18 => shI .i64 u17 fun n19 => shNil r18
        (nc s.a fun a20 => (0 ≤ i1 ∧ i1 < ((s.n : Nat) : Int)) ∧ (std PP w0).st 40 (a20.add (i1.toNat * 2)) (.agg #[.int .i64 n7, .int .i64 n10]) (fun M21 =>
          nc s.a fun a22 => (0 ≤ i2 ∧ i2 < ((s.n : Nat) : Int)) ∧ (std PP w0).st 40 (a22.add (i2.toNat * 2)) (.agg #[.int .i64 n16, .int .i64 n19]) (fun M23 => K M23) M21) M)) := by
  subst hl
  refine rdE h.rdE (Mem.le_refl _) q e2 hq ?_
  refine rdE h.rdE (Mem.le_refl _) p e1 hp ?_
  have hpl := (List.getElem?_eq_some_iff.1 hp).1
  have hql := (List.getElem?_eq_some_iff.1 hq).1
  refine stE h p e1 hpl fun M1 h1 => ?_
  refine stE h1 q e2 (by simpa using hql) fun M2 h2 => ?_
  exact hK M2 h2

theorem swapRange_ok {s : SV} {Q : Asn} {f : FuncId × Array Value} (A U C V B : List Ent) {a b n : Int} (hUV : U.length = V.length) (hb : (A ++ (U ++ (C ++ (V ++ B)))).length ≤ 1000000) (h : Holds w0 F M (star (Es s (A ++ (U ++ (C ++ (V ++ B))))) Q))
    (ea : a = (A.length : Int)) (eb : b = ((A.length + U.length + C.length : Nat) : Int)) (en : n = (U.length : Int)) (hR : ∀ M', Holds w0 F M' (star (Es s (A ++ (V ++ (C ++ (U ++ B))))) Q) → R (.tuple #[]) M') :
    Go.Proofs.Ytgnfbodlpolibaa.HL.C PP w0 Id.slices_swapRangeCmpFuncapi_Entry #[SV.v s, .int .i64 a, .int .i64 b, .int .i64 n, .func (.func f.1) #[] f.2] R M := by
  apply slices_swapRangeCmpFuncapi_Entry.go
  intro pts H
  unfold slices_swapRangeCmpFuncapi_Entry.T
  subst ea eb en
  simp only [List.length_append] at hb
  have key : ∀ (k : Nat) (U1 U2 V1 V2 : List Ent) (M' : Mem), U = U1 ++ U2 → V = V1 ++ V2 → U1.length = V1.length → U2.length < k → Holds w0 F M' (star (Es s (A ++ (V1 ++ (U2 ++ (C ++ (U1 ++ (V2 ++ B))))))) Q) →
      slices_swapRangeCmpFuncapi_Entry.L1 pts k s (A.length : Int) ((A.length + U.length + C.length : Nat) : Int) (U.length : Int) (U1.length : Int) M' := by
    intro k
    induction k with
    | zero => intro U1 U2 V1 V2 M' h1 h2 h3 h4; omega
    | succ k ih =>
      intro U1 U2 V1 V2 M' hU hV h1 hk hH
      have eU := congrArg List.length hU
      have eV := congrArg List.length hV
      rw [List.length_append] at eU eV
      rw [H.L1]
      unfold slices_swapRangeCmpFuncapi_Entry.L1.T
      rw [bs_decide]
      split
      · match U2, V2, hU, hV, hk, hH, eU, eV with
        | [], _, _, _, _, _, eU, eV => simp at eU; omega
        | x :: U2, [], _, _, _, _, eU, eV => simp at eU eV; omega
        | x :: U2, y :: V2, hU, hV, hk, hH, eU, eV =>
          simp only [List.length_cons] at eU eV hk
          have el : A ++ (V1 ++ (x :: U2 ++ (C ++ (U1 ++ (y :: V2 ++ B))))) = (A ++ V1) ++ x :: ((U2 ++ (C ++ U1)) ++ y :: (V2 ++ B)) := by simp
          rw [el] at hH
          refine swapE hH (l' := (A ++ V1) ++ y :: ((U2 ++ (C ++ U1)) ++ x :: (V2 ++ B))) (A ++ V1).length ((A ++ V1).length + 1 + (U2 ++ (C ++ U1)).length) (by rw [w64_in (by omega), List.length_append]; omega)
            (by rw [w64_in (by omega)]; simp only [List.length_append]; omega) swp_get1 swp_get2 swp_fw fun M2 h2 => ?_
          rw [i64_succ (by omega)]
          have := ih (U1 ++ [x]) U2 (V1 ++ [y]) V2 M2 (by rw [hU]; simp) (by rw [hV]; simp) (by simp [h1]) (by omega) (by
            have e2 : A ++ ((V1 ++ [y]) ++ (U2 ++ (C ++ ((U1 ++ [x]) ++ (V2 ++ B))))) = (A ++ V1) ++ y :: ((U2 ++ (C ++ U1)) ++ x :: (V2 ++ B)) := by simp
            rw [e2]; exact h2)
          rw [List.length_append, List.length_singleton] at this; exact this
      · have hU2 : U2 = [] := List.length_eq_zero_iff.1 (by omega)
        have hV2 : V2 = [] := List.length_eq_zero_iff.1 (by omega)
        subst hU2 hV2
        rw [List.append_nil] at hU hV
        subst hU hV
        exact hR M' hH
  exact ⟨U.length + 1, key (U.length + 1) [] U [] V M rfl rfl rfl (by omega) h⟩

theorem rotate_ok {s : SV} {Q : Asn} {f : FuncId × Array Value} (A X Y B : List Ent) {a m b : Int} (hX : X ≠ []) (hY : Y ≠ []) (hb : (A ++ (X ++ (Y ++ B))).length ≤ 1000000) (h : Holds w0 F M (star (Es s (A ++ (X ++ (Y ++ B)))) Q))
    (ea : a = (A.length : Int)) (em : m = ((A.length + X.length : Nat) : Int)) (eb : b = ((A.length + X.length + Y.length : Nat) : Int)) (hR : ∀ M', Holds w0 F M' (star (Es s (A ++ (Y ++ (X ++ B)))) Q) → R (.tuple #[]) M') :
    Go.Proofs.Ytgnfbodlpolibaa.HL.C PP w0 Id.slices_rotateCmpFuncapi_Entry #[SV.v s, .int .i64 a, .int .i64 m, .int .i64 b, .func (.func f.1) #[] f.2] R M := by
  apply slices_rotateCmpFuncapi_Entry.go
  intro pts H
  unfold slices_rotateCmpFuncapi_Entry.T
  simp only [List.length_append] at hb
  have key : ∀ (k : Nat) (A' U V B' : List Ent) (M' : Mem), U ≠ [] → V ≠ [] → U.length + V.length < k → A'.length + U.length = A.length + X.length → (A' ++ (U ++ (V ++ B'))).length ≤ 1000000 → A' ++ (V ++ (U ++ B')) = A ++ (Y ++ (X ++ B)) → Holds w0 F M' (star (Es s (A' ++ (U ++ (V ++ B')))) Q) →
      slices_rotateCmpFuncapi_Entry.L1 pts k s m f (U.length : Int) (V.length : Int) M' := by
    intro k
    induction k with
    | zero => intro A' U V B' M' h1 h2 h3; omega
    | succ k ih =>
      intro A' U V B' M' hU hV hk hm hb' hf hH
      have pU := List.length_pos_iff.2 hU
      have pV := List.length_pos_iff.2 hV
      have hb2 := hb'
      simp only [List.length_append] at hb2
      rw [H.L1]
      unfold slices_rotateCmpFuncapi_Entry.L1.T
      rw [bs_bne]
      split
      · refine swapRange_ok (f := f) A' U [] V B' (by omega) hb' hH (by rw [em, w64_in (by omega)]; omega) (by rw [em]; simp; omega) rfl fun M2 h2 => ?_
        rw [List.nil_append, hf] at h2
        exact hR M2 h2
      · rw [bs_decide]
        split
        · have hUU : U = U.take V.length ++ U.drop V.length := (List.take_append_drop _ _).symm
          have l1 : (U.take V.length).length = V.length := by rw [List.length_take]; omega
          have l2 : (U.drop V.length).length = U.length - V.length := List.length_drop
          generalize U.take V.length = U1 at hUU l1
          generalize U.drop V.length = U2 at hUU l2
          subst hUU
          rw [List.append_assoc] at hH hb'
          rw [List.length_append] at *
          refine swapRange_ok (f := f) A' U1 U2 V B' l1 (by simp only [List.length_append]; omega) hH (by rw [em, w64_in (by omega)]; omega) (by rw [em]; omega) (by omega) fun M2 h2 => ?_
          have hlen : ((A' ++ V) ++ (U2 ++ (U1 ++ B'))).length ≤ 1000000 := by simp only [List.length_append]; omega
          have := ih (A' ++ V) U2 U1 B' M2 (List.length_pos_iff.1 (by omega)) (List.length_pos_iff.1 (by omega)) (by omega) (by rw [List.length_append]; omega) hlen (by rw [← hf]; simp) (by rw [List.append_assoc]; exact h2)
          rw [w64_in (by omega)]
          rw [show ((U1.length + U2.length : Nat) : Int) - (V.length : Int) = ((U2.length : Nat) : Int) from by omega, ← l1]
          exact this
        · have hVV : V = V.take (V.length - U.length) ++ V.drop (V.length - U.length) := (List.take_append_drop _ _).symm
          have l1 : (V.take (V.length - U.length)).length = V.length - U.length := by rw [List.length_take]; omega
          have l2 : (V.drop (V.length - U.length)).length = U.length := by rw [List.length_drop]; omega
          generalize V.take (V.length - U.length) = V1 at hVV l1
          generalize V.drop (V.length - U.length) = V2 at hVV l2
          subst hVV
          rw [List.append_assoc] at hH hb'
          rw [List.length_append] at *
          refine swapRange_ok (f := f) A' U V1 V2 B' (by omega) (by simp only [List.length_append]; omega) hH (by rw [em, w64_in (by omega)]; omega) (by rw [em, w64_in (n := _ + _) (by omega), w64_in (by omega)]; omega) rfl fun M2 h2 => ?_
          have hlen : (A' ++ (V2 ++ (V1 ++ (U ++ B')))).length ≤ 1000000 := by simp only [List.length_append]; omega
          have := ih A' V2 V1 (U ++ B') M2 (List.length_pos_iff.1 (by omega)) (List.length_pos_iff.1 (by omega)) (by omega) (by omega) hlen (by rw [← hf]; simp) h2
          rw [w64_in (by omega)]
          rw [show ((V1.length + V2.length : Nat) : Int) - (U.length : Int) = ((V1.length : Nat) : Int) from by omega]
          rw [l2] at this
          exact this
  have pX := List.length_pos_iff.2 hX
  have pY := List.length_pos_iff.2 hY
  refine ⟨X.length + Y.length + 1, ?_⟩
  have := key (X.length + Y.length + 1) A X Y B M hX hY (by omega) rfl (by simp only [List.length_append]; omega) rfl h
  rw [ea, eb, w64_in (by omega), w64_in (by omega)]
  rw [show m - (A.length : Int) = (X.length : Int) from by omega, show ((A.length + X.length + Y.length : Nat) : Int) - m = (Y.length : Int) from by omega]
  exact this

/-- A part is put in order, one by one. -/
theorem insSort_ok {s : SV} {Q : Asn} (A X B : List Ent) {a b : Int} (hb : (A ++ (X ++ B)).length ≤ 1000000) (h : Holds w0 F M (star (Es s (A ++ (X ++ B))) Q)) (ea : a = (A.length : Int)) (eb : b = ((A.length + X.length : Nat) : Int))
    (hR : ∀ M' Z, Srt Z → Z.Perm X → Holds w0 F M' (star (Es s (A ++ (Z ++ B))) Q) → R (.tuple #[]) M') : Go.Proofs.Ytgnfbodlpolibaa.HL.C PP w0 Id.slices_insertionSortCmpFuncapi_Entry #[SV.v s, .int .i64 a, .int .i64 b, .func (.func Id.order_Compare) #[] #[]] R M := by
  apply slices_insertionSortCmpFuncapi_Entry.go _ s a b (Id.order_Compare, #[])
  intro pts H
  unfold slices_insertionSortCmpFuncapi_Entry.T
  simp only [List.length_append] at hb
  subst ea eb
  have key : ∀ (k : Nat) (Z1 X2 : List Ent) (M' : Mem), X2.length < k → Srt Z1 → (Z1 ++ X2).Perm X → Holds w0 F M' (star (Es s (A ++ (Z1 ++ (X2 ++ B)))) Q) →
      slices_insertionSortCmpFuncapi_Entry.L1 pts k s (A.length : Int) ((A.length + X.length : Nat) : Int) (Id.order_Compare, #[]) ((A.length + Z1.length : Nat) : Int) M' := by
    intro k
    induction k with
    | zero => intro Z1 X2 M' h1; omega
    | succ k ih =>
      intro Z1 X2 M' hk hsr hp hH
      have hlen := hp.length_eq
      rw [List.length_append] at hlen
      rw [H.L1]
      unfold slices_insertionSortCmpFuncapi_Entry.L1.T
      rw [bs_decide]
      split
      · match X2, hk, hp, hH, hlen with
        | [], _, _, _, hlen => simp at hlen; omega
        | x :: X2, hk, hp, hH, hlen =>
          simp only [List.length_cons] at hk hlen
          have key2 : ∀ (k' : Nat) (P S : List Ent) (M2 : Mem), P.length < k' → Z1 = P ++ S → (∀ y ∈ S, Lt x y) → Holds w0 F M2 (star (Es s (A ++ (P ++ x :: (S ++ (X2 ++ B))))) Q) →
              slices_insertionSortCmpFuncapi_Entry.L2 pts k k' s (A.length : Int) ((A.length + X.length : Nat) : Int) (Id.order_Compare, #[]) ((A.length + Z1.length : Nat) : Int) ((A.length + P.length : Nat) : Int) M2 := by
            intro k'
            induction k' with
            | zero => intro P S M2 h1; omega
            | succ k' ih2 =>
              intro P S M2 hk' hZ hS h2
              have hzl := congrArg List.length hZ
              rw [List.length_append] at hzl
              have fin : (∀ y ∈ P, ¬ Lt x y) → ∀ M3, Holds w0 F M3 (star (Es s (A ++ (P ++ x :: (S ++ (X2 ++ B))))) Q) → slices_insertionSortCmpFuncapi_Entry.L1 pts k s (A.length : Int) ((A.length + X.length : Nat) : Int) (Id.order_Compare, #[]) (w64 (((A.length + Z1.length : Nat) : Int) + 1)) M3 := by
                intro hP M3 h3
                rw [i64_succ (by omega)]
                have := ih (P ++ x :: S) X2 M3 (by omega) (srt_mid (hZ ▸ hsr) (fun y hy => (hS y hy).asym) hP) (by
                  refine List.Perm.trans ?_ hp
                  rw [hZ, List.append_assoc, List.append_assoc, List.cons_append]
                  exact (List.perm_middle.symm).append_left P) (by
                  rw [show A ++ ((P ++ x :: S) ++ (X2 ++ B)) = A ++ (P ++ x :: (S ++ (X2 ++ B))) from by simp]; exact h3)
                rw [show A.length + (P ++ x :: S).length = A.length + Z1.length + 1 from by rw [List.length_append, List.length_cons]; omega] at this
                exact this
              rw [H.L2]
              unfold slices_insertionSortCmpFuncapi_Entry.L2.T
              rw [bs_decide]
              split
              · rcases List.eq_nil_or_concat P with rfl | ⟨P', y, hPe⟩
                · simp at *
                · rw [List.concat_eq_append] at hPe
                  subst hPe
                  rw [List.length_append, List.length_singleton] at hk' hzl
                  have el : A ++ ((P' ++ [y]) ++ x :: (S ++ (X2 ++ B))) = (A ++ P') ++ y :: ([] ++ x :: (S ++ (X2 ++ B))) := by simp
                  have e0 : ((A.length + (P' ++ [y]).length : Nat) : Int) = (((A ++ P').length + 1 + ([] : List Ent).length : Nat) : Int) := by simp only [List.length_append, List.length_singleton, List.length_nil]; omega
                  have e1 : w64 (((A.length + (P' ++ [y]).length : Nat) : Int) - 1) = (((A ++ P').length : Nat) : Int) := by
                    rw [w64_in (by simp only [List.length_append, List.length_singleton]; omega)]; simp only [List.length_append, List.length_singleton]; omega
                  have h2' := h2
                  rw [el] at h2'
                  refine rdE h2'.rdE (Mem.le_refl _) _ e0 swp_get2 ?_
                  refine rdE h2'.rdE (Mem.le_refl _) _ e1 swp_get1 ?_
                  show Go.Proofs.Ytgnfbodlpolibaa.HL.C PP w0 Id.order_Compare #[.agg #[.int .i64 x.1, .int .i64 x.2], .agg #[.int .i64 y.1, .int .i64 y.2]] _ _
                  refine Compare_ok fun M3 l3 => ?_
                  rw [shI_v, bs_decide]
                  simp only [cmpI_lt]
                  split
                  · rename_i hlt
                    rw [H.J3]
                    unfold slices_insertionSortCmpFuncapi_Entry.J3.T
                    refine swapE (h2'.le l3) (l' := (A ++ P') ++ x :: ([] ++ y :: (S ++ (X2 ++ B)))) _ _ e0 e1 swp_get2 swp_get1 swp_bw fun M4 h4 => ?_
                    rw [e1]
                    have := ih2 P' (y :: S) M4 (by omega) (by rw [hZ]; simp) (fun z hz => ?_) (by
                      rw [show A ++ (P' ++ x :: (y :: S ++ (X2 ++ B))) = (A ++ P') ++ x :: ([] ++ y :: (S ++ (X2 ++ B))) from by simp]; exact h4)
                    · rw [List.length_append]; exact this
                    · rcases List.mem_cons.1 hz with rfl | hz
                      · exact hlt
                      · exact hS z hz
                  · rename_i hlt
                    refine fin (fun z hz => ?_) M3 (h2.le l3)
                    rcases List.mem_append.1 hz with hz | hz
                    · have : ¬ Lt y z := by
                        rw [hZ] at hsr
                        have q := (List.pairwise_append.1 (List.pairwise_append.1 hsr).1).2.2 z hz y (List.mem_singleton.2 rfl)
                        exact q
                      exact nLt.tr this hlt
                    · rw [List.mem_singleton.1 hz]; exact hlt
              · have hP : P = [] := List.length_eq_zero_iff.1 (by omega)
                subst hP
                exact fin (fun y hy => by cases hy) M2 h2
          exact ⟨Z1.length + 1, key2 (Z1.length + 1) Z1 [] M' (by omega) (by simp) (fun y hy => by cases hy) hH⟩
      · have hX2 : X2 = [] := List.length_eq_zero_iff.1 (by omega)
        subst hX2
        rw [List.append_nil] at hp
        exact hR M' Z1 hsr hp hH
  cases X with
  | nil =>
    refine ⟨1, ?_⟩
    rw [H.L1]
    unfold slices_insertionSortCmpFuncapi_Entry.L1.T
    rw [i64_succ (by omega), bs_decide, if_neg (by simp only [List.length_nil]; omega)]
    exact hR M [] Srt.nil (List.Perm.refl _) h
  | cons x X =>
    have := key (X.length + 1) [x] X M (by omega) (List.pairwise_singleton _ _) (List.Perm.refl _) h
    rw [i64_succ (by simp at hb; omega)]
    exact ⟨X.length + 1, this⟩

end
end Go.Proofs.Ytgnfbodlpolibaa.HL
