/-
  Put together of many texts: HlA HlB HlC HlD HlE HlF HlH HlI HlS HlK HlX PoM OrM EnM HlL HlG GenId GenW Gen0 Gen1 Gen2 Gen3 Gen4 Gen5 Gen6 Gen7 Gen8 Gen9 Gen10 Gen11 Gen12 BkA OrA HlQ CmA EnA EnB MdA MdB EnC JuM MdS MpA JuA JuB JuC JuD JuE JuF JuG JuH DrM JuI BlM BiA BuA OrD OrE OrF JuJ FlA LmB JuK JuL JuN PoA PoB PoC DrA DrB DrC DrD DrL JuP JuQ JuR JuS JuT JuU HlR.
-/
import Derived.Test.YtedofpnjmnkedaaP18
set_option linter.unusedVariables false
set_option linter.unusedSimpArgs false
set_option maxRecDepth 100000
namespace Go.Proofs.Ytedofpnjmnkedaa.HL
open Go.RowKit (Below)
open Go.Proofs
theorem swp_get1 {P S T : List Ent} {x y : Ent} : (P ++ x :: (S ++ y :: T))[P.length]? = some x := by simp
theorem swp_get2 {P S T : List Ent} {x y : Ent} : (P ++ x :: (S ++ y :: T))[P.length + 1 + S.length]? = some y := by
  rw [List.getElem?_append_right (by omega), show P.length + 1 + S.length - P.length = S.length + 1 from by omega, List.getElem?_cons_succ]
  simp
theorem swp_fw {P S T : List Ent} {x y : Ent} : ((P ++ x :: (S ++ y :: T)).set P.length y).set (P.length + 1 + S.length) x = P ++ y :: (S ++ x :: T) := by
  rw [List.set_append_right _ _ (Nat.le_refl _), Nat.sub_self, List.set_cons_zero, List.set_append_right _ _ (by omega), show P.length + 1 + S.length - P.length = S.length + 1 from by omega, List.set_cons_succ,
    List.set_append_right _ _ (Nat.le_refl _), Nat.sub_self, List.set_cons_zero]
theorem swp_bw {P S T : List Ent} {x y : Ent} : ((P ++ x :: (S ++ y :: T)).set (P.length + 1 + S.length) x).set P.length y = P ++ y :: (S ++ x :: T) := by
  rw [List.set_comm _ _ (by omega)]
  exact swp_fw
theorem srt_mid {P S : List Ent} {x : Ent} (h : Srt (P ++ S)) (h1 : ∀ y ∈ S, ¬ Lt y x) (h2 : ∀ y ∈ P, ¬ Lt x y) : Srt (P ++ x :: S) := by
  obtain ⟨q1, q2, q3⟩ := List.pairwise_append.1 h
  refine List.pairwise_append.2 ⟨q1, List.pairwise_cons.2 ⟨h1, q2⟩, fun a ha b hb => ?_⟩
  rcases List.mem_cons.1 hb with rfl | hb
  · exact h2 a ha
  · exact q3 a ha b hb
section
variable {w0 : World} {M M0 F : Mem} {R : VP}
theorem swapE {s : SV} {l l' : List Ent} {Q : Asn} (h : Holds w0 F M (star (Es s l) Q)) {i1 i2 : Int} (p q : Nat) (e1 : i1 = (p : Int)) (e2 : i2 = (q : Int)) {x y : Ent} (hp : l[p]? = some x) (hq : l[q]? = some y) (hl : (l.set p y).set q x = l') {K : Mem → Prop} (hK : ∀ M', Holds w0 F M' (star (Es s l') Q) → K M') :
    nc s.a fun a2 => (0 ≤ i2 ∧ i2 < ((s.n : Nat) : Int)) ∧ ob ((std PP w0).ld 64 (a2.add (i2.toNat * 2)) M) fun v3 => shA v3 fun l4 => shCons l4 fun u5 r6 => shI .i64 u5 fun n7 => shCons r6 fun u8 r9 => shI .i64 u8 fun n10 => shNil r9
      (nc s.a fun a11 => (0 ≤ i1 ∧ i1 < ((s.n : Nat) : Int)) ∧ ob ((std PP w0).ld 64 (a11.add (i1.toNat * 2)) M) fun v12 => shA v12 fun l13 => shCons l13 fun u14 r15 => shI .i64 u14 fun n16 => shCons r15 fun u17 r18 => shI .i64 u17 fun n19 => shNil r18
        (nc s.a fun a20 => (0 ≤ i1 ∧ i1 < ((s.n : Nat) : Int)) ∧ (std PP w0).st 64 (a20.add (i1.toNat * 2)) (.agg #[.int .i64 n7, .int .i64 n10]) (fun M21 =>
          nc s.a fun a22 => (0 ≤ i2 ∧ i2 < ((s.n : Nat) : Int)) ∧ (std PP w0).st 64 (a22.add (i2.toNat * 2)) (.agg #[.int .i64 n16, .int .i64 n19]) (fun M23 => K M23) M21) M)) := by
  subst hl
  refine rdE h.rdE (Mem.le_refl _) q e2 hq ?_
  refine rdE h.rdE (Mem.le_refl _) p e1 hp ?_
  have hpl := (List.getElem?_eq_some_iff.1 hp).1
  have hql := (List.getElem?_eq_some_iff.1 hq).1
  refine stE h p e1 hpl fun M1 h1 => ?_
  refine stE h1 q e2 (by simpa using hql) fun M2 h2 => ?_
  exact hK M2 h2
theorem swapRange_ok {s : SV} {Q : Asn} {f : FuncId × Array Value} (A U C V B : List Ent) {a b n : Int} (hUV : U.length = V.length) (hb : (A ++ (U ++ (C ++ (V ++ B)))).length ≤ 1000000) (h : Holds w0 F M (star (Es s (A ++ (U ++ (C ++ (V ++ B))))) Q))
    (ea : a = (A.length : Int)) (eb : b = ((A.length + U.length + C.length : Nat) : Int)) (en : n = (U.length : Int)) (hR : ∀ M', Holds w0 F M' (star (Es s (A ++ (V ++ (C ++ (U ++ B))))) Q) → R (.tuple #[]) M') :
    Go.Proofs.Ytedofpnjmnkedaa.HL.C PP w0 Id.swC #[SV.v s, .int .i64 a, .int .i64 b, .int .i64 n, .func (.func f.1) #[] f.2] R M := by
  apply swC.go
  intro pts H
  unfold swC.T
  subst ea eb en
  simp only [List.length_append] at hb
  have key : ∀ (k : Nat) (U1 U2 V1 V2 : List Ent) (M' : Mem), U = U1 ++ U2 → V = V1 ++ V2 → U1.length = V1.length → U2.length < k → Holds w0 F M' (star (Es s (A ++ (V1 ++ (U2 ++ (C ++ (U1 ++ (V2 ++ B))))))) Q) →
      swC.L1 pts k s (A.length : Int) ((A.length + U.length + C.length : Nat) : Int) (U.length : Int) (U1.length : Int) M' := by
    intro k
    induction k with
    | zero => intro U1 U2 V1 V2 M' h1 h2 h3 h4; omega
    | succ k ih =>
      intro U1 U2 V1 V2 M' hU hV h1 hk hH
      have eU := congrArg List.length hU
      have eV := congrArg List.length hV
      rw [List.length_append] at eU eV
      rw [H.L1]
      unfold swC.L1.T
      rw [bs_decide]
      split
      · match U2, V2, hU, hV, hk, hH, eU, eV with
        | [], _, _, _, _, _, eU, eV => simp at eU; omega
        | x :: U2, [], _, _, _, _, eU, eV => simp at eU eV; omega
        | x :: U2, y :: V2, hU, hV, hk, hH, eU, eV =>
          simp only [List.length_cons] at eU eV hk
          have el : A ++ (V1 ++ (x :: U2 ++ (C ++ (U1 ++ (y :: V2 ++ B))))) = (A ++ V1) ++ x :: ((U2 ++ (C ++ U1)) ++ y :: (V2 ++ B)) := by simp
          rw [el] at hH
          refine swapE hH (l' := (A ++ V1) ++ y :: ((U2 ++ (C ++ U1)) ++ x :: (V2 ++ B))) (A ++ V1).length ((A ++ V1).length + 1 + (U2 ++ (C ++ U1)).length) (by rw [w64_in (by omega), List.length_append]; omega)
            (by rw [w64_in (by omega)]; simp only [List.length_append]; omega) swp_get1 swp_get2 swp_fw fun M2 h2 => ?_
          rw [i64_succ (by omega)]
          have := ih (U1 ++ [x]) U2 (V1 ++ [y]) V2 M2 (by rw [hU]; simp) (by rw [hV]; simp) (by simp [h1]) (by omega) (by
            have e2 : A ++ ((V1 ++ [y]) ++ (U2 ++ (C ++ ((U1 ++ [x]) ++ (V2 ++ B))))) = (A ++ V1) ++ y :: ((U2 ++ (C ++ U1)) ++ x :: (V2 ++ B)) := by simp
            rw [e2]; exact h2)
          rw [List.length_append, List.length_singleton] at this; exact this
      · have hU2 : U2 = [] := List.length_eq_zero_iff.1 (by omega)
        have hV2 : V2 = [] := List.length_eq_zero_iff.1 (by omega)
        subst hU2 hV2
        rw [List.append_nil] at hU hV
        subst hU hV
        exact hR M' hH
  exact ⟨U.length + 1, key (U.length + 1) [] U [] V M rfl rfl rfl (by omega) h⟩
theorem rotate_ok {s : SV} {Q : Asn} {f : FuncId × Array Value} (A X Y B : List Ent) {a m b : Int} (hX : X ≠ []) (hY : Y ≠ []) (hb : (A ++ (X ++ (Y ++ B))).length ≤ 1000000) (h : Holds w0 F M (star (Es s (A ++ (X ++ (Y ++ B)))) Q))
    (ea : a = (A.length : Int)) (em : m = ((A.length + X.length : Nat) : Int)) (eb : b = ((A.length + X.length + Y.length : Nat) : Int)) (hR : ∀ M', Holds w0 F M' (star (Es s (A ++ (Y ++ (X ++ B)))) Q) → R (.tuple #[]) M') :
    Go.Proofs.Ytedofpnjmnkedaa.HL.C PP w0 Id.roC #[SV.v s, .int .i64 a, .int .i64 m, .int .i64 b, .func (.func f.1) #[] f.2] R M := by
  apply roC.go
  intro pts H
  unfold roC.T
  simp only [List.length_append] at hb
  have key : ∀ (k : Nat) (A' U V B' : List Ent) (M' : Mem), U ≠ [] → V ≠ [] → U.length + V.length < k → A'.length + U.length = A.length + X.length → (A' ++ (U ++ (V ++ B'))).length ≤ 1000000 → A' ++ (V ++ (U ++ B')) = A ++ (Y ++ (X ++ B)) → Holds w0 F M' (star (Es s (A' ++ (U ++ (V ++ B')))) Q) →
      roC.L1 pts k s m f (U.length : Int) (V.length : Int) M' := by
    intro k
    induction k with
    | zero => intro A' U V B' M' h1 h2 h3; omega
    | succ k ih =>
      intro A' U V B' M' hU hV hk hm hb' hf hH
      have pU := List.length_pos_iff.2 hU
      have pV := List.length_pos_iff.2 hV
      have hb2 := hb'
      simp only [List.length_append] at hb2
      rw [H.L1]
      unfold roC.L1.T
      rw [bs_bne]
      split
      · refine swapRange_ok (f := f) A' U [] V B' (by omega) hb' hH (by rw [em, w64_in (by omega)]; omega) (by rw [em]; simp; omega) rfl fun M2 h2 => ?_
        rw [List.nil_append, hf] at h2
        exact hR M2 h2
      · rw [bs_decide]
        split
        · have hUU : U = U.take V.length ++ U.drop V.length := (List.take_append_drop _ _).symm
          have l1 : (U.take V.length).length = V.length := by rw [List.length_take]; omega
          have l2 : (U.drop V.length).length = U.length - V.length := List.length_drop
          generalize U.take V.length = U1 at hUU l1
          generalize U.drop V.length = U2 at hUU l2
          subst hUU
          rw [List.append_assoc] at hH hb'
          rw [List.length_append] at *
          refine swapRange_ok (f := f) A' U1 U2 V B' l1 (by simp only [List.length_append]; omega) hH (by rw [em, w64_in (by omega)]; omega) (by rw [em]; omega) (by omega) fun M2 h2 => ?_
          have hlen : ((A' ++ V) ++ (U2 ++ (U1 ++ B'))).length ≤ 1000000 := by simp only [List.length_append]; omega
          have := ih (A' ++ V) U2 U1 B' M2 (List.length_pos_iff.1 (by omega)) (List.length_pos_iff.1 (by omega)) (by omega) (by rw [List.length_append]; omega) hlen (by rw [← hf]; simp) (by rw [List.append_assoc]; exact h2)
          rw [w64_in (by omega)]
          rw [show ((U1.length + U2.length : Nat) : Int) - (V.length : Int) = ((U2.length : Nat) : Int) from by omega, ← l1]
          exact this
        · have hVV : V = V.take (V.length - U.length) ++ V.drop (V.length - U.length) := (List.take_append_drop _ _).symm
          have l1 : (V.take (V.length - U.length)).length = V.length - U.length := by rw [List.length_take]; omega
          have l2 : (V.drop (V.length - U.length)).length = U.length := by rw [List.length_drop]; omega
          generalize V.take (V.length - U.length) = V1 at hVV l1
          generalize V.drop (V.length - U.length) = V2 at hVV l2
          subst hVV
          rw [List.append_assoc] at hH hb'
          rw [List.length_append] at *
          refine swapRange_ok (f := f) A' U V1 V2 B' (by omega) (by simp only [List.length_append]; omega) hH (by rw [em, w64_in (by omega)]; omega) (by rw [em, w64_in (n := _ + _) (by omega), w64_in (by omega)]; omega) rfl fun M2 h2 => ?_
          have hlen : (A' ++ (V2 ++ (V1 ++ (U ++ B')))).length ≤ 1000000 := by simp only [List.length_append]; omega
          have := ih A' V2 V1 (U ++ B') M2 (List.length_pos_iff.1 (by omega)) (List.length_pos_iff.1 (by omega)) (by omega) (by omega) hlen (by rw [← hf]; simp) h2
          rw [w64_in (by omega)]
          rw [show ((V1.length + V2.length : Nat) : Int) - (U.length : Int) = ((V1.length : Nat) : Int) from by omega]
          rw [l2] at this
          exact this
  have pX := List.length_pos_iff.2 hX
  have pY := List.length_pos_iff.2 hY
  refine ⟨X.length + Y.length + 1, ?_⟩
  have := key (X.length + Y.length + 1) A X Y B M hX hY (by omega) rfl (by simp only [List.length_append]; omega) rfl h
  rw [ea, eb, w64_in (by omega), w64_in (by omega)]
  rw [show m - (A.length : Int) = (X.length : Int) from by omega, show ((A.length + X.length + Y.length : Nat) : Int) - m = (Y.length : Int) from by omega]
  exact this
theorem insSort_ok {s : SV} {Q : Asn} (A X B : List Ent) {a b : Int} (hb : (A ++ (X ++ B)).length ≤ 1000000) (h : Holds w0 F M (star (Es s (A ++ (X ++ B))) Q)) (ea : a = (A.length : Int)) (eb : b = ((A.length + X.length : Nat) : Int))
    (hR : ∀ M' Z, Srt Z → Z.Perm X → Holds w0 F M' (star (Es s (A ++ (Z ++ B))) Q) → R (.tuple #[]) M') : Go.Proofs.Ytedofpnjmnkedaa.HL.C PP w0 Id.iSC #[SV.v s, .int .i64 a, .int .i64 b, .func (.func Id.order_Compare) #[] #[]] R M := by
  apply iSC.go _ s a b (Id.order_Compare, #[])
  intro pts H
  unfold iSC.T
  simp only [List.length_append] at hb
  subst ea eb
  have key : ∀ (k : Nat) (Z1 X2 : List Ent) (M' : Mem), X2.length < k → Srt Z1 → (Z1 ++ X2).Perm X → Holds w0 F M' (star (Es s (A ++ (Z1 ++ (X2 ++ B)))) Q) →
      iSC.L1 pts k s (A.length : Int) ((A.length + X.length : Nat) : Int) (Id.order_Compare, #[]) ((A.length + Z1.length : Nat) : Int) M' := by
    intro k
    induction k with
    | zero => intro Z1 X2 M' h1; omega
    | succ k ih =>
      intro Z1 X2 M' hk hsr hp hH
      have hlen := hp.length_eq
      rw [List.length_append] at hlen
      rw [H.L1]
      unfold iSC.L1.T
      rw [bs_decide]
      split
      · match X2, hk, hp, hH, hlen with
        | [], _, _, _, hlen => simp at hlen; omega
        | x :: X2, hk, hp, hH, hlen =>
          simp only [List.length_cons] at hk hlen
          have key2 : ∀ (k' : Nat) (P S : List Ent) (M2 : Mem), P.length < k' → Z1 = P ++ S → (∀ y ∈ S, Lt x y) → Holds w0 F M2 (star (Es s (A ++ (P ++ x :: (S ++ (X2 ++ B))))) Q) →
              iSC.L2 pts k k' s (A.length : Int) ((A.length + X.length : Nat) : Int) (Id.order_Compare, #[]) ((A.length + Z1.length : Nat) : Int) ((A.length + P.length : Nat) : Int) M2 := by
            intro k'
            induction k' with
            | zero => intro P S M2 h1; omega
            | succ k' ih2 =>
              intro P S M2 hk' hZ hS h2
              have hzl := congrArg List.length hZ
              rw [List.length_append] at hzl
              have fin : (∀ y ∈ P, ¬ Lt x y) → ∀ M3, Holds w0 F M3 (star (Es s (A ++ (P ++ x :: (S ++ (X2 ++ B))))) Q) → iSC.L1 pts k s (A.length : Int) ((A.length + X.length : Nat) : Int) (Id.order_Compare, #[]) (w64 (((A.length + Z1.length : Nat) : Int) + 1)) M3 := by
                intro hP M3 h3
                rw [i64_succ (by omega)]
                have := ih (P ++ x :: S) X2 M3 (by omega) (srt_mid (hZ ▸ hsr) (fun y hy => (hS y hy).asym) hP) (by
                  refine List.Perm.trans ?_ hp
                  rw [hZ, List.append_assoc, List.append_assoc, List.cons_append]
                  exact (List.perm_middle.symm).append_left P) (by
                  rw [show A ++ ((P ++ x :: S) ++ (X2 ++ B)) = A ++ (P ++ x :: (S ++ (X2 ++ B))) from by simp]; exact h3)
                rw [show A.length + (P ++ x :: S).length = A.length + Z1.length + 1 from by rw [List.length_append, List.length_cons]; omega] at this
                exact this
              rw [H.L2]
              unfold iSC.L2.T
              rw [bs_decide]
              split
              · rcases List.eq_nil_or_concat P with rfl | ⟨P', y, hPe⟩
                · simp at *
                · rw [List.concat_eq_append] at hPe
                  subst hPe
                  rw [List.length_append, List.length_singleton] at hk' hzl
                  have el : A ++ ((P' ++ [y]) ++ x :: (S ++ (X2 ++ B))) = (A ++ P') ++ y :: ([] ++ x :: (S ++ (X2 ++ B))) := by simp
                  have e0 : ((A.length + (P' ++ [y]).length : Nat) : Int) = (((A ++ P').length + 1 + ([] : List Ent).length : Nat) : Int) := by simp only [List.length_append, List.length_singleton, List.length_nil]; omega
                  have e1 : w64 (((A.length + (P' ++ [y]).length : Nat) : Int) - 1) = (((A ++ P').length : Nat) : Int) := by
                    rw [w64_in (by simp only [List.length_append, List.length_singleton]; omega)]; simp only [List.length_append, List.length_singleton]; omega
                  have h2' := h2
                  rw [el] at h2'
                  refine rdE h2'.rdE (Mem.le_refl _) _ e0 swp_get2 ?_
                  refine rdE h2'.rdE (Mem.le_refl _) _ e1 swp_get1 ?_
                  show Go.Proofs.Ytedofpnjmnkedaa.HL.C PP w0 Id.order_Compare #[.agg #[.int .i64 x.1, .int .i64 x.2], .agg #[.int .i64 y.1, .int .i64 y.2]] _ _
                  refine Compare_ok fun M3 l3 => ?_
                  rw [shI_v, bs_decide]
                  simp only [cmpI_lt]
                  split
                  · rename_i hlt
                    rw [H.J3]
                    unfold iSC.J3.T
                    refine swapE (h2'.le l3) (l' := (A ++ P') ++ x :: ([] ++ y :: (S ++ (X2 ++ B)))) _ _ e0 e1 swp_get2 swp_get1 swp_bw fun M4 h4 => ?_
                    rw [e1]
                    have := ih2 P' (y :: S) M4 (by omega) (by rw [hZ]; simp) (fun z hz => ?_) (by
                      rw [show A ++ (P' ++ x :: (y :: S ++ (X2 ++ B))) = (A ++ P') ++ x :: ([] ++ y :: (S ++ (X2 ++ B))) from by simp]; exact h4)
                    · rw [List.length_append]; exact this
                    · rcases List.mem_cons.1 hz with rfl | hz
                      · exact hlt
                      · exact hS z hz
                  · rename_i hlt
                    refine fin (fun z hz => ?_) M3 (h2.le l3)
                    rcases List.mem_append.1 hz with hz | hz
                    · have : ¬ Lt y z := by
                        rw [hZ] at hsr
                        have q := (List.pairwise_append.1 (List.pairwise_append.1 hsr).1).2.2 z hz y (List.mem_singleton.2 rfl)
                        exact q
                      exact nLt.tr this hlt
                    · rw [List.mem_singleton.1 hz]; exact hlt
              · have hP : P = [] := List.length_eq_zero_iff.1 (by omega)
                subst hP
                exact fin (fun y hy => by cases hy) M2 h2
          exact ⟨Z1.length + 1, key2 (Z1.length + 1) Z1 [] M' (by omega) (by simp) (fun y hy => by cases hy) hH⟩
      · have hX2 : X2 = [] := List.length_eq_zero_iff.1 (by omega)
        subst hX2
        rw [List.append_nil] at hp
        exact hR M' Z1 hsr hp hH
  cases X with
  | nil =>
    refine ⟨1, ?_⟩
    rw [H.L1]
    unfold iSC.L1.T
    rw [i64_succ (by omega), bs_decide, if_neg (by simp only [List.length_nil]; omega)]
    exact hR M [] Srt.nil (List.Perm.refl _) h
  | cons x X =>
    have := key (X.length + 1) [x] X M (by omega) (List.pairwise_singleton _ _) (List.Perm.refl _) h
    rw [i64_succ (by simp at hb; omega)]
    exact ⟨X.length + 1, this⟩
end
end Go.Proofs.Ytedofpnjmnkedaa.HL
namespace Go.Proofs.Ytedofpnjmnkedaa.HL
open Go.RowKit (Below)
open Go.Proofs
theorem half_in {i j : Nat} (h : i + j < 4611686018427387904) : w64 (Int.fdiv (u64 (w64 ((i : Int) + (j : Int)))) (2 ^ (min (1 : Int).toNat (IntKind.bits .u64)))) = (((i + j) / 2 : Nat) : Int) := by
  rw [w64_in (n := (i : Int) + (j : Int)) (by omega)]
  have e1 : u64 ((i : Int) + (j : Int)) = (i : Int) + (j : Int) := by unfold u64 IntKind.wrap; simp [IntKind.bits, IntKind.signed]; omega
  have e2 : ((2 : Int) ^ (min (1 : Int).toNat (IntKind.bits .u64))) = 2 := by decide
  rw [e1, e2, Int.fdiv_eq_ediv_of_nonneg _ (by decide), w64_in (by omega)]
  omega
theorem srt_get {l : List Ent} (h : Srt l) {i j : Nat} {x y : Ent} (hx : l[i]? = some x) (hy : l[j]? = some y) (hij : i ≤ j) : ¬ Lt y x := by
  obtain ⟨h1, rfl⟩ := List.getElem?_eq_some_iff.1 hx
  obtain ⟨h2, rfl⟩ := List.getElem?_eq_some_iff.1 hy
  rcases Nat.lt_or_eq_of_le hij with h3 | rfl
  · exact List.pairwise_iff_getElem.1 h i j h1 h2 h3
  · exact Lt.irr
theorem mem_take_get {l : List Ent} {n : Nat} {x : Ent} (h : x ∈ l.take n) : ∃ i, i < n ∧ l[i]? = some x := by
  obtain ⟨i, hi⟩ := List.getElem?_of_mem h
  have hn : i < n := by
    have := (List.getElem?_eq_some_iff.1 hi).1
    rw [List.length_take] at this; omega
  exact ⟨i, hn, by rw [List.getElem?_take_of_lt hn] at hi; exact hi⟩
theorem mem_drop_get {l : List Ent} {n : Nat} {x : Ent} (h : x ∈ l.drop n) : ∃ i, n ≤ i ∧ l[i]? = some x := by
  obtain ⟨i, hi⟩ := List.getElem?_of_mem h
  rw [List.getElem?_drop] at hi
  exact ⟨n + i, by omega, hi⟩
theorem srt_four {X1 X2 Y1 Y2 Z1 Z2 : List Ent} (hX : Srt (X1 ++ X2)) (hY : Srt (Y1 ++ Y2)) (c1 : ∀ x ∈ X1, ∀ y ∈ Y2, ¬ Lt y x) (c2 : ∀ x ∈ X2, ∀ y ∈ Y1, ¬ Lt x y) (h1 : Srt Z1) (h2 : Srt Z2) (p1 : Z1.Perm (X1 ++ Y1)) (p2 : Z2.Perm (X2 ++ Y2)) :
    Srt (Z1 ++ Z2) ∧ (Z1 ++ Z2).Perm ((X1 ++ X2) ++ (Y1 ++ Y2)) := by
  refine ⟨List.pairwise_append.2 ⟨h1, h2, fun a ha b hb => ?_⟩, ?_⟩
  · have ha' := p1.mem_iff.1 ha
    have hb' := p2.mem_iff.1 hb
    rcases List.mem_append.1 ha' with ha' | ha' <;> rcases List.mem_append.1 hb' with hb' | hb'
    · exact (List.pairwise_append.1 hX).2.2 a ha' b hb'
    · exact c1 a ha' b hb'
    · exact c2 b hb' a ha'
    · exact (List.pairwise_append.1 hY).2.2 a ha' b hb'
  · refine (p1.append p2).trans ?_
    have e1 : (X1 ++ Y1) ++ (X2 ++ Y2) = X1 ++ ((Y1 ++ X2) ++ Y2) := by simp
    have e2 : (X1 ++ X2) ++ (Y1 ++ Y2) = X1 ++ ((X2 ++ Y1) ++ Y2) := by simp
    rw [e1, e2]
    exact ((List.perm_append_comm).append_right Y2).append_left X1
section
variable {w0 : World}
abbrev CmpF : FuncId × Array Value := (Id.order_Compare, #[])
theorem symOne_ok {F M : Mem} {R : VP} {s : SV} {Q : Asn} (A Y B : List Ent) {x : Ent} {pts : Pts} (H : sMC.Is (std PP w0) pts R) (hsr : Srt Y) (hb : (A ++ (x :: (Y ++ B))).length ≤ 1000000) (h : Holds w0 F M (star (Es s (A ++ (x :: (Y ++ B)))) Q))
    (hR : ∀ M' Z, Srt Z → Z.Perm (x :: Y) → Holds w0 F M' (star (Es s (A ++ (Z ++ B))) Q) → R (.tuple #[]) M') : ∃ k, sMC.L1 pts k s (A.length : Int) CmpF ((A.length + 1 : Nat) : Int) ((A.length + 1 + Y.length : Nat) : Int) M := by
  simp only [List.length_append, List.length_cons] at hb
  have key4 : ∀ (k : Nat) (Y1 Y2 Y3 : List Ent) (M' : Mem), Y2.length < k → Y = Y1 ++ (Y2 ++ Y3) → (∀ y ∈ Y1, Lt y x) → (∀ y ∈ Y2, Lt y x) → (∀ y ∈ Y3, ¬ Lt y x) → Holds w0 F M' (star (Es s (A ++ (Y1 ++ x :: (Y2 ++ (Y3 ++ B))))) Q) →
      sMC.L4 pts k s ((A.length + 1 + Y1.length + Y2.length : Nat) : Int) ((A.length + Y1.length : Nat) : Int) M' := by
    intro k
    induction k with
    | zero => intro Y1 Y2 Y3 M' h1; omega
    | succ k ih =>
      intro Y1 Y2 Y3 M' hk hY h1 h2 h3 hH
      have hl := congrArg List.length hY
      simp only [List.length_append] at hl
      rw [H.L4]
      unfold sMC.L4.T
      rw [w64_in (n := ((A.length + 1 + Y1.length + Y2.length : Nat) : Int) - 1) (by omega), bs_decide]
      split
      · match Y2, hY, hk, h2, hH, hl with
        | [], _, _, _, _, _ => simp at *; omega
        | y :: Y2, hY, hk, h2, hH, hl =>
          simp only [List.length_cons] at hk hl
          have el : A ++ (Y1 ++ x :: (y :: Y2 ++ (Y3 ++ B))) = (A ++ Y1) ++ x :: ([] ++ y :: (Y2 ++ (Y3 ++ B))) := by simp
          rw [el] at hH
          have e0 : ((A.length + Y1.length : Nat) : Int) = (((A ++ Y1).length : Nat) : Int) := by rw [List.length_append]
          have e1 : w64 (((A.length + Y1.length : Nat) : Int) + 1) = (((A ++ Y1).length + 1 + ([] : List Ent).length : Nat) : Int) := by
            rw [w64_in (by omega), List.length_append, List.length_nil]; omega
          refine swapE hH (l' := (A ++ Y1) ++ y :: ([] ++ x :: (Y2 ++ (Y3 ++ B)))) _ _ e0 e1 swp_get1 swp_get2 swp_fw fun M4 h4 => ?_
          rw [e1]
          have := ih (Y1 ++ [y]) Y2 Y3 M4 (by omega) (by rw [hY]; simp) (fun z hz => by
            rcases List.mem_append.1 hz with hz | hz
            · exact h1 z hz
            · rw [List.mem_singleton.1 hz]; exact h2 y List.mem_cons_self) (fun z hz => h2 z (List.mem_cons_of_mem _ hz)) h3 (by
            rw [show A ++ ((Y1 ++ [y]) ++ x :: (Y2 ++ (Y3 ++ B))) = (A ++ Y1) ++ y :: ([] ++ x :: (Y2 ++ (Y3 ++ B))) from by simp]; exact h4)
          rw [show A.length + 1 + (Y1 ++ [y]).length + Y2.length = A.length + 1 + Y1.length + (y :: Y2).length from by simp only [List.length_append, List.length_cons, List.length_nil]; omega,
            show A.length + (Y1 ++ [y]).length = (A ++ Y1).length + 1 + ([] : List Ent).length from by simp only [List.length_append, List.length_cons, List.length_nil]; omega] at this
          exact this
      · have hY2 : Y2 = [] := List.length_eq_zero_iff.1 (by omega)
        subst hY2
        rw [List.nil_append] at hY hH
        refine hR M' (Y1 ++ x :: Y3) (srt_mid (hY ▸ hsr) h3 (fun y hy => (h1 y hy).asym)) (by rw [hY]; exact List.perm_middle) ?_
        rw [show A ++ ((Y1 ++ x :: Y3) ++ B) = A ++ (Y1 ++ x :: (Y3 ++ B)) from by simp]; exact hH
  have key1 : ∀ (k i j : Nat) (M' : Mem), i ≤ j → j ≤ Y.length → j < i + k → (∀ q y, q < i → Y[q]? = some y → Lt y x) → (∀ q y, j ≤ q → Y[q]? = some y → ¬ Lt y x) → Holds w0 F M' (star (Es s (A ++ (x :: (Y ++ B)))) Q) →
      sMC.L1 pts k s (A.length : Int) CmpF ((A.length + 1 + i : Nat) : Int) ((A.length + 1 + j : Nat) : Int) M' := by
    intro k
    induction k with
    | zero => intro i j M' h1 h2 h3; omega
    | succ k ih =>
      intro i j M' hij hj hk hlo hhi hH
      rw [H.L1]
      unfold sMC.L1.T
      rw [bs_decide]
      split
      · refine ⟨by decide, ?_⟩
        rw [half_in (by omega)]
        have hq : (A.length + 1 + i + (A.length + 1 + j)) / 2 = A.length + 1 + (i + j) / 2 := by omega
        rw [hq]
        have hlt : (i + j) / 2 < Y.length := by omega
        have ey := List.getElem?_eq_getElem hlt
        generalize Y[(i + j) / 2] = y at ey
        refine rdE hH.rdE (Mem.le_refl _) (A.length + 1 + (i + j) / 2) rfl (x := y) (by
          rw [List.getElem?_append_right (by omega), show A.length + 1 + (i + j) / 2 - A.length = (i + j) / 2 + 1 from by omega, List.getElem?_cons_succ, List.getElem?_append_left hlt]; exact ey) ?_
        refine rdE hH.rdE (Mem.le_refl _) A.length rfl (x := x) (by simp) ?_
        show C PP w0 Id.order_Compare #[.agg #[.int .i64 y.1, .int .i64 y.2], .agg #[.int .i64 x.1, .int .i64 x.2]] _ _
        refine Compare_ok fun M3 l3 => ?_
        rw [shI_v, bs_decide]
        simp only [cmpI_lt]
        split
        · rename_i hc
          rw [i64_succ (by omega)]
          exact ih ((i + j) / 2 + 1) j M3 (by omega) hj (by omega) (fun q z hq hz => nLt.lt (srt_get hsr hz ey (by omega)) hc) hhi (hH.le l3)
        · rename_i hc
          exact ih i ((i + j) / 2) M3 (by omega) (by omega) (by omega) hlo (fun q z hq hz => nLt.tr hc (srt_get hsr ey hz hq)) (hH.le l3)
      · have hij' : i = j := by omega
        subst hij'
        refine ⟨i + 1, ?_⟩
        have hYe : Y = Y.take i ++ Y.drop i := (List.take_append_drop _ _).symm
        have hlt : (Y.take i).length = i := by rw [List.length_take]; omega
        have := key4 (i + 1) [] (Y.take i) (Y.drop i) M' (by omega) (by rw [List.nil_append]; exact hYe) (fun y hy => by cases hy) (fun y hy => by
          obtain ⟨q, hq, hz⟩ := mem_take_get hy
          exact hlo q y hq hz) (fun y hy => by
          obtain ⟨q, hq, hz⟩ := mem_drop_get hy
          exact hhi q y hq hz) (by
          rw [show A ++ ([] ++ x :: (Y.take i ++ (Y.drop i ++ B))) = A ++ (x :: (Y ++ B)) from by rw [List.nil_append, ← List.append_assoc (Y.take i), List.take_append_drop]]; exact hH)
        rw [hlt] at this
        exact this
  exact ⟨Y.length + 1, key1 (Y.length + 1) 0 Y.length M (by omega) (by omega) (by omega) (fun q y hq => by omega) (fun q y hq hy => by have := (List.getElem?_eq_some_iff.1 hy).1; omega) h⟩
theorem symLast_ok {F M : Mem} {R : VP} {s : SV} {Q : Asn} (A X B : List Ent) {y : Ent} {pts : Pts} (H : sMC.Is (std PP w0) pts R) (hsr : Srt X) (hb : (A ++ (X ++ (y :: B))).length ≤ 1000000) (h : Holds w0 F M (star (Es s (A ++ (X ++ (y :: B)))) Q))
    (hR : ∀ M' Z, Srt Z → Z.Perm (y :: X) → Holds w0 F M' (star (Es s (A ++ (Z ++ B))) Q) → R (.tuple #[]) M') : ∃ k, sMC.L2 pts k s ((A.length + X.length : Nat) : Int) CmpF (A.length : Int) ((A.length + X.length : Nat) : Int) M := by
  simp only [List.length_append, List.length_cons] at hb
  have key5 : ∀ (k : Nat) (X1 X2 X3 : List Ent) (M' : Mem), X2.length < k → X = X1 ++ (X2 ++ X3) → (∀ x ∈ X1, ¬ Lt y x) → (∀ x ∈ X2, Lt y x) → (∀ x ∈ X3, Lt y x) → Holds w0 F M' (star (Es s (A ++ (X1 ++ (X2 ++ y :: (X3 ++ B))))) Q) →
      sMC.L5 pts k s ((A.length + X1.length : Nat) : Int) ((A.length + X1.length + X2.length : Nat) : Int) M' := by
    intro k
    induction k with
    | zero => intro X1 X2 X3 M' h1; omega
    | succ k ih =>
      intro X1 X2 X3 M' hk hX h1 h2 h3 hH
      have hl := congrArg List.length hX
      simp only [List.length_append] at hl
      rw [H.L5]
      unfold sMC.L5.T
      rw [bs_decide]
      split
      · rcases List.eq_nil_or_concat X2 with rfl | ⟨X2', x, hPe⟩
        · simp at *
        · rw [List.concat_eq_append] at hPe
          subst hPe
          simp only [List.length_append, List.length_cons, List.length_nil] at hk hl
          have el : A ++ (X1 ++ ((X2' ++ [x]) ++ y :: (X3 ++ B))) = (A ++ (X1 ++ X2')) ++ x :: ([] ++ y :: (X3 ++ B)) := by simp
          rw [el] at hH
          have e0 : ((A.length + X1.length + (X2' ++ [x]).length : Nat) : Int) = (((A ++ (X1 ++ X2')).length + 1 + ([] : List Ent).length : Nat) : Int) := by simp only [List.length_append, List.length_cons, List.length_nil]; omega
          have e1 : w64 (((A.length + X1.length + (X2' ++ [x]).length : Nat) : Int) - 1) = (((A ++ (X1 ++ X2')).length : Nat) : Int) := by
            rw [w64_in (by simp only [List.length_append, List.length_cons, List.length_nil]; omega)]; simp only [List.length_append, List.length_cons, List.length_nil]; omega
          refine swapE hH (l' := (A ++ (X1 ++ X2')) ++ y :: ([] ++ x :: (X3 ++ B))) _ _ e0 e1 swp_get2 swp_get1 swp_bw fun M4 h4 => ?_
          rw [e1]
          have := ih X1 X2' (x :: X3) M4 (by omega) (by rw [hX]; simp) h1 (fun z hz => h2 z (List.mem_append_left _ hz)) (fun z hz => by
            rcases List.mem_cons.1 hz with rfl | hz
            · exact h2 z (List.mem_append_right _ (List.mem_singleton.2 rfl))
            · exact h3 z hz) (by
            rw [show A ++ (X1 ++ (X2' ++ y :: (x :: X3 ++ B))) = (A ++ (X1 ++ X2')) ++ y :: ([] ++ x :: (X3 ++ B)) from by simp]; exact h4)
          rw [show A.length + X1.length + X2'.length = (A ++ (X1 ++ X2')).length from by simp only [List.length_append]; omega] at this
          exact this
      · have hX2 : X2 = [] := List.length_eq_zero_iff.1 (by omega)
        subst hX2
        rw [List.nil_append] at hX hH
        refine hR M' (X1 ++ y :: X3) (srt_mid (hX ▸ hsr) (fun x hx => (h3 x hx).asym) h1) (by rw [hX]; exact List.perm_middle) ?_
        rw [show A ++ ((X1 ++ y :: X3) ++ B) = A ++ (X1 ++ y :: (X3 ++ B)) from by simp]; exact hH
  have key2 : ∀ (k i j : Nat) (M' : Mem), i ≤ j → j ≤ X.length → j < i + k → (∀ q x, q < i → X[q]? = some x → ¬ Lt y x) → (∀ q x, j ≤ q → X[q]? = some x → Lt y x) → Holds w0 F M' (star (Es s (A ++ (X ++ (y :: B)))) Q) →
      sMC.L2 pts k s ((A.length + X.length : Nat) : Int) CmpF ((A.length + i : Nat) : Int) ((A.length + j : Nat) : Int) M' := by
    intro k
    induction k with
    | zero => intro i j M' h1 h2 h3; omega
    | succ k ih =>
      intro i j M' hij hj hk hlo hhi hH
      rw [H.L2]
      unfold sMC.L2.T
      rw [bs_decide]
      split
      · refine ⟨by decide, ?_⟩
        rw [half_in (by omega)]
        have hq : (A.length + i + (A.length + j)) / 2 = A.length + (i + j) / 2 := by omega
        rw [hq]
        have hlt : (i + j) / 2 < X.length := by omega
        have ex := List.getElem?_eq_getElem hlt
        generalize X[(i + j) / 2] = x at ex
        refine rdE hH.rdE (Mem.le_refl _) (A.length + X.length) rfl (x := y) (by
          rw [List.getElem?_append_right (by omega), List.getElem?_append_right (by omega), show A.length + X.length - A.length - X.length = 0 from by omega]; rfl) ?_
        refine rdE hH.rdE (Mem.le_refl _) (A.length + (i + j) / 2) rfl (x := x) (by
          rw [List.getElem?_append_right (by omega), show A.length + (i + j) / 2 - A.length = (i + j) / 2 from by omega, List.getElem?_append_left hlt]; exact ex) ?_
        show C PP w0 Id.order_Compare #[.agg #[.int .i64 y.1, .int .i64 y.2], .agg #[.int .i64 x.1, .int .i64 x.2]] _ _
        refine Compare_ok fun M3 l3 => ?_
        rw [shI_v, bs_not, bs_decide]
        simp only [cmpI_lt]
        split
        · rename_i hc
          exact ih i ((i + j) / 2) M3 (by omega) (by omega) (by omega) hlo (fun q z hq hz => by
            have := srt_get hsr ex hz hq
            apply Classical.byContradiction
            intro hn
            exact nLt.tr this hn hc) (hH.le l3)
        · rename_i hc
          rw [i64_succ (by omega)]
          exact ih ((i + j) / 2 + 1) j M3 (by omega) hj (by omega) (fun q z hq hz => nLt.tr (srt_get hsr hz ex (by omega)) hc) hhi (hH.le l3)
      · have hij' : i = j := by omega
        subst hij'
        have hXe : X = X.take i ++ X.drop i := (List.take_append_drop _ _).symm
        have hlt : (X.take i).length = i := by rw [List.length_take]; omega
        have hlt2 : (X.drop i).length = X.length - i := List.length_drop
        refine ⟨X.length + 1, ?_⟩
        have := key5 (X.length + 1) (X.take i) (X.drop i) [] M' (by omega) (by rw [List.append_nil]; exact hXe) (fun x hx => by
          obtain ⟨q, hq, hz⟩ := mem_take_get hx
          exact hlo q x hq hz) (fun x hx => by
          obtain ⟨q, hq, hz⟩ := mem_drop_get hx
          exact hhi q x hq hz) (fun x hx => by cases hx) (by
          rw [show A ++ (X.take i ++ (X.drop i ++ y :: ([] ++ B))) = A ++ (X ++ (y :: B)) from by rw [List.nil_append, ← List.append_assoc (X.take i), List.take_append_drop]]; exact hH)
        rw [hlt, hlt2, show A.length + i + (X.length - i) = A.length + X.length from by omega] at this
        exact this
  exact ⟨X.length + 1, key2 (X.length + 1) 0 X.length M (by omega) (by omega) (by omega) (fun q x hq => by omega) (fun q x hq hx => by have := (List.getElem?_eq_some_iff.1 hx).1; omega) h⟩
end
end Go.Proofs.Ytedofpnjmnkedaa.HL
namespace Go.Proofs.Ytedofpnjmnkedaa.HL
open Go.RowKit (Below)
open Go.Proofs
section
variable {w0 : World}
set_option maxHeartbeats 4000000 in
theorem symMerge_ok : ∀ (n : Nat) {F M : Mem} {R : VP} {s : SV} {Q : Asn} (A X Y B : List Ent) {a m b : Int}, X.length + Y.length ≤ n → X ≠ [] → Y ≠ [] → Srt X → Srt Y → (A ++ (X ++ (Y ++ B))).length ≤ 1000000 → Holds w0 F M (star (Es s (A ++ (X ++ (Y ++ B)))) Q) →
    a = (A.length : Int) → m = ((A.length + X.length : Nat) : Int) → b = ((A.length + X.length + Y.length : Nat) : Int) → (∀ M' Z, Srt Z → Z.Perm (X ++ Y) → Holds w0 F M' (star (Es s (A ++ (Z ++ B))) Q) → R (.tuple #[]) M') →
    C PP w0 Id.sMC #[SV.v s, .int .i64 a, .int .i64 m, .int .i64 b, .func (.func Id.order_Compare) #[] #[]] R M := by
  intro n
  induction n with
  | zero =>
    intro F M R s Q A X Y B a m b hn hX
    have := List.length_pos_iff.2 hX
    omega
  | succ n ih =>
    intro F M R s Q A X Y B a m b hn hX hY sX sY hb h ea em eb hR
    have pX := List.length_pos_iff.2 hX
    have pY := List.length_pos_iff.2 hY
    have hb2 := hb
    simp only [List.length_append] at hb2
    apply sMC.go _ s a m b CmpF
    intro pts H
    unfold sMC.T
    subst ea em eb
    rw [w64_in (n := ((A.length + X.length : Nat) : Int) - (A.length : Int)) (by omega), bs_beq]
    split
    · have hX1 : X.length = 1 := by omega
      match X, hX1 with
      | [x], _ =>
        exact symOne_ok A Y B H sY hb h fun M' Z h1 h2 h3 => hR M' Z h1 h2 h3
    · rw [w64_in (n := ((A.length + X.length + Y.length : Nat) : Int) - ((A.length + X.length : Nat) : Int)) (by omega), bs_beq]
      split
      · have hY1 : Y.length = 1 := by omega
        match Y, hY1 with
        | [y], _ =>
          exact symLast_ok A X B H sX hb h fun M' Z h1 h2 h3 => hR M' Z h1 (h2.trans (List.perm_append_comm (l₁ := [y]))) h3
      · refine ⟨by decide, ?_⟩
        rw [half_in (by omega)]
        have hX2 : 2 ≤ X.length := by omega
        have hY2 : 2 ≤ Y.length := by omega
        obtain ⟨mid, hmid⟩ : ∃ mid, mid = (A.length + (A.length + X.length + Y.length)) / 2 := ⟨_, rfl⟩
        rw [← hmid]
        have e1 : w64 ((mid : Int) + ((A.length + X.length : Nat) : Int)) = ((mid + (A.length + X.length) : Nat) : Int) := by rw [w64_in (by omega)]; omega
        rw [e1]
        have keyJ3 : ∀ (lo hi : Nat), lo ≤ hi → (lo = A.length ∧ hi = A.length + X.length ∧ A.length + X.length ≤ mid ∨ lo + (A.length + X.length + Y.length) = mid + (A.length + X.length) ∧ hi = mid ∧ mid < A.length + X.length) →
            sMC.J3 pts s (A.length : Int) ((A.length + X.length : Nat) : Int) ((A.length + X.length + Y.length : Nat) : Int) CmpF (mid : Int) ((mid + (A.length + X.length) : Nat) : Int) (lo : Int) (hi : Int) M := by
          intro lo hi hlh hc
          rw [H.J3]
          unfold sMC.J3.T
          rw [w64_in (n := ((mid + (A.length + X.length) : Nat) : Int) - 1) (by omega)]
          have key : ∀ (k st r : Nat) (M' : Mem), lo ≤ st → st ≤ r → r ≤ hi → r < st + k → (st = lo ∨ ∃ x y, X[st - 1 - A.length]? = some x ∧ Y[mid - st]? = some y ∧ ¬ Lt y x) → (r = hi ∨ ∃ x y, X[r - A.length]? = some x ∧ Y[mid - 1 - r]? = some y ∧ r < mid ∧ Lt y x) →
              Holds w0 F M' (star (Es s (A ++ (X ++ (Y ++ B)))) Q) → sMC.L6 pts k s (A.length : Int) ((A.length + X.length : Nat) : Int) ((A.length + X.length + Y.length : Nat) : Int) CmpF (mid : Int) ((mid + (A.length + X.length) : Nat) : Int) (st : Int) (r : Int) (((mid + (A.length + X.length) : Nat) : Int) - 1) M' := by
            intro k
            induction k with
            | zero => intro st r M' h1 h2 h3 h4; omega
            | succ k ih2 =>
              intro st r M' h1 h2 h3 h4 hlo hhi hH
              rw [H.L6]
              unfold sMC.L6.T
              rw [bs_decide]
              split
              · refine ⟨by decide, ?_⟩
                rw [half_in (by omega)]
                obtain ⟨c, hcc⟩ : ∃ c, c = (st + r) / 2 := ⟨_, rfl⟩
                rw [← hcc]
                have hcX : c - A.length < X.length := by omega
                have hcY : mid - 1 - c < Y.length := by omega
                have ex := List.getElem?_eq_getElem hcX
                have ey := List.getElem?_eq_getElem hcY
                generalize X[c - A.length] = x at ex
                generalize Y[mid - 1 - c] = y at ey
                refine rdE hH.rdE (Mem.le_refl _) (mid + (A.length + X.length) - 1 - c) (by rw [w64_in (by omega)]; omega) (x := y) (by
                  rw [List.getElem?_append_right (by omega), List.getElem?_append_right (by omega), List.getElem?_append_left (by omega), ← ey]; congr 1; omega) ?_
                refine rdE hH.rdE (Mem.le_refl _) c rfl (x := x) (by
                  rw [List.getElem?_append_right (by omega), List.getElem?_append_left (by omega)]; exact ex) ?_
                show C PP w0 Id.order_Compare #[.agg #[.int .i64 y.1, .int .i64 y.2], .agg #[.int .i64 x.1, .int .i64 x.2]] _ _
                refine Compare_ok fun M3 l3 => ?_
                rw [shI_v, bs_not, bs_decide]
                simp only [cmpI_lt]
                split
                · rename_i hlt
                  exact ih2 st c M3 h1 (by omega) (by omega) (by omega) hlo (.inr ⟨x, y, ex, ey, by omega, hlt⟩) (hH.le l3)
                · rename_i hlt
                  rw [i64_succ (by omega)]
                  exact ih2 (c + 1) r M3 (by omega) (by omega) h3 (by omega) (.inr ⟨x, y, by rw [show c + 1 - 1 - A.length = c - A.length from by omega]; exact ex, by rw [show mid - (c + 1) = mid - 1 - c from by omega]; exact ey, hlt⟩) hhi (hH.le l3)
              · have hsr : st = r := by omega
                subst hsr
                have e2 : w64 (((mid + (A.length + X.length) : Nat) : Int) - (st : Int)) = ((mid + (A.length + X.length) - st : Nat) : Int) := by rw [w64_in (by omega)]; omega
                rw [e2]
                have hXe : X = X.take (st - A.length) ++ X.drop (st - A.length) := (List.take_append_drop _ _).symm
                have hYe : Y = Y.take (mid - st) ++ Y.drop (mid - st) := (List.take_append_drop _ _).symm
                have lX1 : (X.take (st - A.length)).length = st - A.length := by rw [List.length_take]; omega
                have lX2 : (X.drop (st - A.length)).length = A.length + X.length - st := by rw [List.length_drop]; omega
                have lY1 : (Y.take (mid - st)).length = mid - st := by rw [List.length_take]; omega
                have lY2 : (Y.drop (mid - st)).length = Y.length - (mid - st) := List.length_drop
                have c1 : ∀ x ∈ X.take (st - A.length), ∀ y ∈ Y.drop (mid - st), ¬ Lt y x := by
                  intro x hx y hy
                  obtain ⟨i, hi, hxi⟩ := mem_take_get hx
                  obtain ⟨j, hj, hyj⟩ := mem_drop_get hy
                  have hjl := (List.getElem?_eq_some_iff.1 hyj).1
                  rcases hlo with hlo | ⟨p, q, hp, hq, hpq⟩
                  · omega
                  · have q1 := srt_get sX hxi hp (by omega)
                    have q2 := srt_get sY hq hyj hj
                    exact nLt.tr (nLt.tr q1 hpq) q2
                have c2 : ∀ x ∈ X.drop (st - A.length), ∀ y ∈ Y.take (mid - st), ¬ Lt x y := by
                  intro x hx y hy
                  obtain ⟨i, hi, hxi⟩ := mem_drop_get hx
                  obtain ⟨j, hj, hyj⟩ := mem_take_get hy
                  have hil := (List.getElem?_eq_some_iff.1 hxi).1
                  rcases hhi with hhi | ⟨p, q, hp, hq, hr, hpq⟩
                  · omega
                  · have q1 := srt_get sX hp hxi hi
                    have q2 := srt_get sY hyj hq (by omega)
                    exact nLt.tr (nLt.tr q2 hpq.asym) q1
                generalize X.take (st - A.length) = X1 at hXe lX1 c1
                generalize X.drop (st - A.length) = X2 at hXe lX2 c2
                generalize Y.take (mid - st) = Y1 at hYe lY1 c2
                generalize Y.drop (mid - st) = Y2 at hYe lY2 c1
                have sX' := sX
                have sY' := sY
                rw [hXe] at sX'
                rw [hYe] at sY'
                have sX1 : Srt X1 := sX'.sub (List.sublist_append_left _ _)
                have sX2 : Srt X2 := sX'.sub (List.sublist_append_right _ _)
                have sY1 : Srt Y1 := sY'.sub (List.sublist_append_left _ _)
                have sY2 : Srt Y2 := sY'.sub (List.sublist_append_right _ _)
                have keyJ8 : ∀ (Z1 : List Ent) (M4 : Mem), Srt Z1 → Z1.Perm (X1 ++ Y1) → Holds w0 F M4 (star (Es s (A ++ (Z1 ++ (X2 ++ (Y2 ++ B))))) Q) →
                    sMC.J8 pts s ((A.length + X.length + Y.length : Nat) : Int) CmpF (mid : Int) ((mid + (A.length + X.length) - st : Nat) : Int) M4 := by
                  intro Z1 M4 hZ hp h9
                  have hzl := hp.length_eq
                  rw [List.length_append] at hzl
                  have fin : ∀ (Z2 : List Ent) (M5 : Mem), Srt Z2 → Z2.Perm (X2 ++ Y2) → Holds w0 F M5 (star (Es s (A ++ (Z1 ++ (Z2 ++ B)))) Q) → R (.tuple #[]) M5 := by
                    intro Z2 M5 hZ2 hp2 h10
                    obtain ⟨f1, f2⟩ := srt_four sX' sY' c1 c2 hZ hZ2 hp hp2
                    refine hR M5 (Z1 ++ Z2) f1 (by rw [hXe, hYe]; exact f2) ?_
                    rw [List.append_assoc Z1]; exact h10
                  have h9' : X2 = [] ∨ Y2 = [] → R (.tuple #[]) M4 := fun hc => by
                    refine fin (X2 ++ Y2) M4 ?_ (List.Perm.refl _) (by rw [List.append_assoc X2]; exact h9)
                    rcases hc with rfl | rfl
                    · exact sY2
                    · rw [List.append_nil]; exact sX2
                  rw [H.J8]
                  unfold sMC.J8.T
                  rw [bs_decide]
                  split
                  · rw [bs_decide]
                    split
                    · refine ih (A ++ Z1) X2 Y2 B (by omega) (List.length_pos_iff.1 (by omega)) (List.length_pos_iff.1 (by omega)) sX2 sY2 (by simp only [List.length_append]; omega) (by rw [List.append_assoc A]; exact h9) (by rw [List.length_append]; omega) (by rw [List.length_append]; omega) (by rw [List.length_append]; omega) fun M5 Z2 g1 g2 g3 => ?_
                      exact fin Z2 M5 g1 g2 (by rw [List.append_assoc A] at g3; exact g3)
                    · exact h9' (.inr (List.length_eq_zero_iff.1 (by omega)))
                  · exact h9' (.inl (List.length_eq_zero_iff.1 (by omega)))
                have keyJ7 : ∀ (M4 : Mem), Holds w0 F M4 (star (Es s (A ++ (X1 ++ (Y1 ++ (X2 ++ (Y2 ++ B)))))) Q) →
                    sMC.J7 pts s (A.length : Int) ((A.length + X.length + Y.length : Nat) : Int) CmpF (mid : Int) (st : Int) ((mid + (A.length + X.length) - st : Nat) : Int) M4 := by
                  intro M4 h9
                  have h9' : X1 = [] ∨ Y1 = [] → sMC.J8 pts s ((A.length + X.length + Y.length : Nat) : Int) CmpF (mid : Int) ((mid + (A.length + X.length) - st : Nat) : Int) M4 := fun hc => by
                    refine keyJ8 (X1 ++ Y1) M4 ?_ (List.Perm.refl _) (by rw [List.append_assoc X1]; exact h9)
                    rcases hc with rfl | rfl
                    · exact sY1
                    · rw [List.append_nil]; exact sX1
                  rw [H.J7]
                  unfold sMC.J7.T
                  rw [bs_decide]
                  split
                  · rw [bs_decide]
                    split
                    · refine ih A X1 Y1 (X2 ++ (Y2 ++ B)) (by omega) (List.length_pos_iff.1 (by omega)) (List.length_pos_iff.1 (by omega)) sX1 sY1 (by simp only [List.length_append]; omega) h9 rfl (by omega) (by omega) fun M5 Z1 g1 g2 g3 => ?_
                      exact keyJ8 Z1 M5 g1 g2 g3
                    · exact h9' (.inr (List.length_eq_zero_iff.1 (by omega)))
                  · exact h9' (.inl (List.length_eq_zero_iff.1 (by omega)))
                have el : A ++ (X ++ (Y ++ B)) = (A ++ X1) ++ (X2 ++ (Y1 ++ (Y2 ++ B))) := by
                  conv => lhs; rw [hXe, hYe]
                  simp
                rw [el] at hH
                rw [bs_decide]
                split
                · rw [bs_decide]
                  split
                  · refine rotate_ok (f := CmpF) (A ++ X1) X2 Y1 (Y2 ++ B) (List.length_pos_iff.1 (by omega)) (List.length_pos_iff.1 (by omega)) (by simp only [List.length_append]; omega) hH (by rw [List.length_append]; omega) (by rw [List.length_append]; omega) (by rw [List.length_append]; omega) fun M4 h9 => ?_
                    exact keyJ7 M4 (by rw [List.append_assoc A] at h9; exact h9)
                  · have hy : Y1 = [] := List.length_eq_zero_iff.1 (by omega)
                    subst hy
                    exact keyJ7 M' (by rw [List.append_assoc A, List.nil_append] at hH; exact hH)
                · have hx : X2 = [] := List.length_eq_zero_iff.1 (by omega)
                  subst hx
                  exact keyJ7 M' (by rw [List.append_assoc A, List.nil_append] at hH; rw [List.nil_append]; exact hH)
          exact ⟨hi + 1 - lo, key (hi + 1 - lo) lo hi M (by omega) hlh (by omega) (by omega) (.inl rfl) (.inl rfl) h⟩
        rw [bs_decide]
        split
        · have e3 : w64 (((mid + (A.length + X.length) : Nat) : Int) - ((A.length + X.length + Y.length : Nat) : Int)) = ((mid + (A.length + X.length) - (A.length + X.length + Y.length) : Nat) : Int) := by rw [w64_in (by omega)]; omega
          rw [e3]
          exact keyJ3 _ mid (by omega) (.inr ⟨by omega, rfl, by omega⟩)
        · exact keyJ3 A.length (A.length + X.length) (by omega) (.inl ⟨rfl, rfl, by omega⟩)
theorem Sort_ok {F M : Mem} {R : VP} {s : SV} {l : List Ent} {Q : Asn} (hQ : Holds w0 F M Q) (hs : RdE w0 M s l) (hb : l.length ≤ 39) (h : ∀ M' s' z, Mem.le M M' → Holds w0 F M' (star (Es s' z) Q) → Srt z → z.Perm l → R (SV.v s') M') : C PP w0 Id.order_Sort #[SV.v s] R M := by
  apply order_Sort.go
  unfold order_Sort.T
  refine CloneE_ok hQ.self hs (by omega) fun M1 s1 h1 => ?_
  rw [shS_sv]
  apply sl_SortStableFuncaE_aE.go _ s1 CmpF
  unfold sl_SortStableFuncaE_aE.T
  apply stC.go _ s1 _ CmpF
  intro pts H
  unfold stC.T
  have hn := h1.lenE
  have fin : ∀ (z : List Ent) (M2 : Mem), Srt z → z.Perm l → Holds w0 M M2 (star (Es s1 z) emp) → R (SV.v s1) M2 := fun z M2 hz hp h2 => by
    obtain ⟨g1, g2⟩ := hQ.unself h2
    exact h M2 s1 z g1 g2 hz hp
  have e20 : w64 (20 + 20) = 40 := w64_in (by omega)
  have e22 : w64 (2 * 20) = 40 := w64_in (by omega)
  by_cases hc : l.length < 20
  · refine ⟨1, ?_⟩
    rw [H.L1]
    unfold stC.L1.T
    rw [bs_decide, if_neg (by omega)]
    refine insSort_ok [] l [] (by simp; omega) (by rw [List.nil_append, List.append_nil]; exact h1) rfl (by rw [hn]; simp) fun M2 z hz hp h2 => ?_
    refine ⟨1, ?_⟩
    rw [H.L2]
    unfold stC.L2.T
    rw [bs_decide, if_neg (by omega)]
    rw [List.nil_append, List.append_nil] at h2
    exact fin z M2 hz hp h2
  · have hl : l = l.take 20 ++ l.drop 20 := (List.take_append_drop _ _).symm
    have l1 : (l.take 20).length = 20 := by rw [List.length_take]; omega
    have l2 : (l.drop 20).length = l.length - 20 := List.length_drop
    generalize l.take 20 = X at hl l1
    generalize l.drop 20 = Y at hl l2
    refine ⟨2, ?_⟩
    rw [H.L1]
    unfold stC.L1.T
    rw [bs_decide, if_pos (by omega)]
    refine insSort_ok [] X Y (by simp; omega) (by rw [List.nil_append, ← hl]; exact h1) rfl (by rw [l1]; rfl) fun M2 zx hzx hpx h2 => ?_
    have lx := hpx.length_eq
    rw [e20, H.L1]
    unfold stC.L1.T
    rw [bs_decide, if_neg (by omega)]
    refine insSort_ok zx Y [] (by simp; omega) (by rw [List.append_nil]; exact h2) (by omega) (by omega) fun M3 zy hzy hpy h3 => ?_
    have ly := hpy.length_eq
    rw [List.append_nil] at h3
    refine ⟨2, ?_⟩
    rw [H.L2]
    unfold stC.L2.T
    rw [bs_decide]
    split
    · refine ⟨1, ?_⟩
      rw [e22, H.L3]
      unfold stC.L3.T
      rw [bs_decide, if_neg (by omega), bs_decide, if_pos (by rw [w64_in (by omega)]; omega)]
      refine symMerge_ok (zx.length + zy.length) [] zx zy [] (Nat.le_refl _) (List.length_pos_iff.1 (by omega)) (List.length_pos_iff.1 (by omega)) hzx hzy (by simp; omega) (by rw [List.nil_append, List.append_nil]; exact h3) rfl (by rw [w64_in (by omega)]; simp; omega) (by simp; omega) fun M4 z hz hp h4 => ?_
      rw [show w64 (20 * 2) = 40 from w64_in (by omega), H.L2]
      unfold stC.L2.T
      rw [bs_decide, if_neg (by omega)]
      rw [List.nil_append, List.append_nil] at h4
      exact fin z M4 hz (hp.trans (by rw [hl]; exact hpx.append hpy)) h4
    · have : zy = [] := List.length_eq_zero_iff.1 (by omega)
      subst this
      rw [List.append_nil] at h3
      have hY : Y = [] := List.length_eq_zero_iff.1 (by simp at ly; omega)
      subst hY
      rw [List.append_nil] at hl
      exact fin zx M3 hzx (hl ▸ hpx) h3
end
end Go.Proofs.Ytedofpnjmnkedaa.HL
namespace Go.Proofs.Ytedofpnjmnkedaa.HL
open Go.RowKit (Below)
open Go.Proofs
theorem whyA_in {jobs bud : Int} {st : St} {e : Evt} : (whyA jobs bud st e).1 = 0 ∨ (whyA jobs bud st e).1 = 2 ∨ (whyA jobs bud st e).1 = 3 ∨ (whyA jobs bud st e).1 = 4 := by
  cases h : stepA jobs st e.c e.r with
  | none => rw [whyA_none h]; simp
  | some x =>
    obtain ⟨st', r⟩ := x
    rw [whyA_some h]
    split
    · simp
    · split
      · simp
      · split
        · simp
        · simp
theorem ckA_cons0 {jobs bud i : Int} {st : St} {e : Evt} {es : List Evt} (h : (whyA jobs bud st e).1 = 0) : ckA jobs bud i st (e :: es) = ckA jobs bud (i + 1) (whyA jobs bud st e).2 es := by
  rw [ckA]
  cases hw : whyA jobs bud st e with
  | mk w s =>
    rw [hw] at h
    simp only at h
    subst h
    rfl
theorem ckA_cons1 {jobs bud i : Int} {st : St} {e : Evt} {es : List Evt} (h : (whyA jobs bud st e).1 ≠ 0) : ckA jobs bud i st (e :: es) = (i, (whyA jobs bud st e).1, st) := by
  rw [ckA]
  cases hw : whyA jobs bud st e with
  | mk w s =>
    rw [hw] at h
    simp only at h
    split
    · rename_i heq
      simp only [Prod.mk.injEq] at heq
      exact absurd heq.1 h
    · rename_i heq
      simp only [Prod.mk.injEq] at heq
      rw [heq.1]
theorem ckA_end {jobs bud : Int} : ∀ (es : List Evt) (i : Int) (st : St), ((ckA jobs bud i st es).1 = -1 ∧ (ckA jobs bud i st es).2.1 = 0) ∨
    ∃ k : Nat, k < es.length ∧ (ckA jobs bud i st es).1 = i + (k : Int) ∧ ((ckA jobs bud i st es).2.1 = 2 ∨ (ckA jobs bud i st es).2.1 = 3 ∨ (ckA jobs bud i st es).2.1 = 4) ∧ ckA jobs bud i st (es.take k) = (-1, 0, (ckA jobs bud i st es).2.2)
  | [], i, st => .inl ⟨rfl, rfl⟩
  | e :: es, i, st => by
    by_cases h : (whyA jobs bud st e).1 = 0
    · rw [ckA_cons0 h]
      rcases ckA_end es (i + 1) (whyA jobs bud st e).2 with hh | ⟨k, h1, h2, h3, h4⟩
      · exact .inl hh
      · refine .inr ⟨k + 1, by simp; omega, by rw [h2]; omega, h3, ?_⟩
        rw [List.take_succ_cons, ckA_cons0 h]; exact h4
    · rw [ckA_cons1 h]
      refine .inr ⟨0, by simp, by simp, ?_, rfl⟩
      rcases whyA_in (jobs := jobs) (bud := bud) (st := st) (e := e) with hh | hh
      · exact absurd hh h
      · exact hh
def CkB (k jobs : Int) (l : List Evt) : Int × Int × List Ent :=
  if worstK k ∧ 1 ≤ jobs ∧ jobs ≤ 4096 then ((ckA jobs (2000 + 1600 * (bl (jobs.toNat + 1) : Int)) 0 ⟨0, []⟩ l).1, (ckA jobs (2000 + 1600 * (bl (jobs.toNat + 1) : Int)) 0 ⟨0, []⟩ l).2.1, allE (ckA jobs (2000 + 1600 * (bl (jobs.toNat + 1) : Int)) 0 ⟨0, []⟩ l).2.2.l)
  else (0, 1, [])
def firedL (l : List Evt) : List Int := (l.filter fun e => decide (e.c.kind = 5 ∧ e.r.why = 0)).map fun e => e.r.time
section
variable {w0 : World} {F M : Mem} {R : VP} {p cb s0 s1 rj rr : Nat} {most bud now : Int} {L : List JM} {Q : Asn}
theorem Budget_no2 {k n : Int} (hk : ¬ (worstK k ∧ 1 ≤ n ∧ n ≤ 4096)) (h : R (.tuple #[.int .i64 0, .bool false]) M) : C PP w0 Id.bound_Budget #[.int .i64 k, .int .i64 n] R M := by
  by_cases hw : worstK k
  · apply bound_Budget.go
    unfold bound_Budget.T
    refine Worst_ok ?_
    rw [shB_v, bs_not, bs_decide, if_pos hw, bs_decide]
    split
    · exact h
    · rename_i h1
      rw [bs_decide, if_pos (by
        have : ¬ (1 ≤ n ∧ n ≤ 4096) := fun hh => hk ⟨hw, hh⟩
        omega)]
      exact h
  · exact Budget_no hw h
theorem rdEv {s : SV} {l : List Evt} {M0 : Mem} (h : RdF w0 M0 14 s (evI l)) (hl : Mem.le M0 M) {i : Int} (j : Nat) (e : i = (j : Int)) {x : Evt} (hx : l[j]? = some x) {K : Value → Prop} (hK : K x.v) :
    nc s.a fun a => (0 ≤ i ∧ i < ((s.n : Nat) : Int)) ∧ ob ((std PP w0).ld tEv (a.add (i.toNat * 14)) M) fun v => K v := by
  have hn : s.n = l.length := by have := h.len; rw [evI_len] at this; omega
  exact rdfA (cs := x.ints) W.g34 h hl j e (by rw [hn]; exact (List.getElem?_eq_some_iff.1 hx).1) (by show 0 < 14; decide) (evI_get hx) hK
theorem RdF.evn {s : SV} {l : List Evt} {M0 : Mem} (h : RdF w0 M0 14 s (evI l)) : s.n = l.length := by have := h.len; rw [evI_len] at this; omega
theorem RdF.evt {s : SV} {l : List Evt} {M0 : Mem} (h : RdF w0 M0 14 s (evI l)) {j : Nat} {x : Evt} (hx : l[j]? = some x) : In64 x.c.time ∧ In64 x.now ∧ In64 x.steps ∧ In64 x.r.time := by
  have g : ∀ f y, x.ints[f]? = some y → In64 y := fun f y hy => int_wf (h.wf _ (List.mem_of_getElem? (evI_get hx f y hy)))
  exact ⟨g 4 _ rfl, g 12 _ rfl, g 13 _ rfl, g 9 _ rfl⟩
theorem RdF.sub0 {M0 : Mem} {k : Nat} {s : SV} {l : List Int} (h : RdF w0 M0 k s l) {i : Nat} (hi : i ≤ s.n) : RdF w0 M0 k ⟨if s.c = 0 then s.a else s.a.map (·.add 0), i, s.c⟩ (l.take (i * k)) := by
  have hll : i * k ≤ l.length := by rw [h.len]; exact Nat.mul_le_mul_right k hi
  refine ⟨?_, Nat.le_trans hi h.cap, Nat.le_trans hi h.max, fun j x hx => ?_, fun n hn => h.wf n (List.mem_of_mem_take hn)⟩
  · rw [List.length_take]; simp only; omega
  · have hx2 : l[j]? = some x := by
      rw [List.getElem?_take] at hx
      split at hx
      · exact hx
      · cases hx
    obtain ⟨a, ha, hr⟩ := h.cell j x hx2
    refine ⟨a, ?_, hr⟩
    simp only [ha]
    split
    · rfl
    · simp [Addr.add]
theorem boxEv {e : Evt} {b : Nat} {M : Mem} {cs : List Value} (o : Own w0 M b cs tEv) (hc : cs = [.int .i64 e.c.kind, .int .i64 e.c.queue, .int .i64 e.c.at_, .int .i64 e.c.gen, .int .i64 e.c.time, .int .i64 e.c.data, .int .i64 e.r.why, .int .i64 e.r.at_, .int .i64 e.r.gen, .int .i64 e.r.time, .int .i64 e.r.data, .int .i64 e.r.n, .int .i64 e.now, .int .i64 e.steps]) : (std PP w0).ld tEv ⟨b, 0, none⟩ M = some e.v := by
  subst hc
  exact ld_agg (cs := [.int .i64 e.c.kind, .int .i64 e.c.queue, .int .i64 e.c.at_, .int .i64 e.c.gen, .int .i64 e.c.time, .int .i64 e.c.data, .int .i64 e.r.why, .int .i64 e.r.at_, .int .i64 e.r.gen, .int .i64 e.r.time, .int .i64 e.r.data, .int .i64 e.r.n, .int .i64 e.now, .int .i64 e.steps]) W.g34 (fun j v hj => by rw [add_eq, rd_own o, Nat.zero_add]; exact hj)
theorem JCheck_ok {k jobs : Int} {s : SV} {l : List Evt} (hs : RdF w0 M 14 s (evI l)) (hl : l.length ≤ 900) (hR : ∀ M', Mem.le M M' → R (.tuple #[.int .i64 (CkB k jobs l).1, .int .i64 (CkB k jobs l).2.1]) M') :
    C PP w0 Id.judge_Check #[.int .i64 k, .int .i64 jobs, SV.v s] R M := by
  apply judge_Check.go
  intro pts H
  unfold judge_Check.T
  by_cases hk : worstK k ∧ 1 ≤ jobs ∧ jobs ≤ 4096
  · unfold CkB at hR
    rw [if_pos hk] at hR
    refine Budget_ok hk.1 hk.2.1 hk.2.2 ?_
    simp only [shT_v, shCons_v, shI_v, shB_v, shNil_v, Bool.not_true, bs_false]
    generalize (2000 + 1600 * (bl (jobs.toNat + 1) : Int)) = bud at hR ⊢
    refine fresh_ok (Holds.emp0 (w0 := w0) (M := M)) fun M1 p cb s0 s1 rj rr g => ?_
    rw [shP_v]
    have hn := hs.evn
    have key : ∀ (n i : Nat) (now : Int) (L : List JM) (M' : Mem), i ≤ l.length → l.length < i + n → L.length ≤ i → In64 now → ckA jobs bud 0 ⟨0, []⟩ l = ckA jobs bud (i : Int) ⟨now, jobsOf L⟩ (l.drop i) →
        PlainM w0 M M' p cb s0 s1 rj rr jobs bud now L (qE 0 (jobsOf L)) (qE 1 (jobsOf L)) emp → judge_Check.L1 pts n (some ⟨p, 0, none⟩) s ((s.n : Nat) : Int) (i : Int) M' := by
      intro n
      induction n with
      | zero => intro i now L M' h1 h2; omega
      | succ n ih =>
        intro i now L M' h1 h2 h3 hnow hck g
        rw [H.L1]
        unfold judge_Check.L1.T
        rw [bs_decide]
        split
        · have hlt : i < l.length := by omega
          have ee := List.getElem?_eq_getElem hlt
          have hdr : l.drop i = l[i] :: l.drop (i + 1) := List.drop_eq_getElem_cons hlt
          rw [hdr] at hck
          generalize l[i] = e at ee hck
          have het := (hs.evt ee).1
          refine rdEv hs g.h.fr i rfl ee ?_
          unfold Evt.v
          simp only [shA_v, shCons_v, shI_v, shNil_v]
          intro b hb0 hbw
          have g2 := g.new hb0 hbw [.int .i64 0, .int .i64 0, .int .i64 0, .int .i64 0, .int .i64 0, .int .i64 0, .int .i64 0, .int .i64 0, .int .i64 0, .int .i64 0, .int .i64 0, .int .i64 0, .int .i64 0, .int .i64 0] tEv
          generalize M'.set b _ = M2 at g2 ⊢
          refine st_agg (vs := [.int .i64 e.c.kind, .int .i64 e.c.queue, .int .i64 e.c.at_, .int .i64 e.c.gen, .int .i64 e.c.time, .int .i64 e.c.data, .int .i64 e.r.why, .int .i64 e.r.at_, .int .i64 e.r.gen, .int .i64 e.r.time, .int .i64 e.r.data, .int .i64 e.r.n, .int .i64 e.now, .int .i64 e.steps]) W.g34 g2.own (by simp) (by intro v hv; simp only [List.mem_cons, List.not_mem_nil, or_false] at hv; rcases hv with rfl | rfl | rfl | rfl | rfl | rfl | rfl | rfl | rfl | rfl | rfl | rfl | rfl | rfl <;> rfl) ?_
          have g3 := g2.upd (cs' := over [.int .i64 0, .int .i64 0, .int .i64 0, .int .i64 0, .int .i64 0, .int .i64 0, .int .i64 0, .int .i64 0, .int .i64 0, .int .i64 0, .int .i64 0, .int .i64 0, .int .i64 0, .int .i64 0] 0 [.int .i64 e.c.kind, .int .i64 e.c.queue, .int .i64 e.c.at_, .int .i64 e.c.gen, .int .i64 e.c.time, .int .i64 e.c.data, .int .i64 e.r.why, .int .i64 e.r.at_, .int .i64 e.r.gen, .int .i64 e.r.time, .int .i64 e.r.data, .int .i64 e.r.n, .int .i64 e.now, .int .i64 e.steps]) (e' := tEv)
          generalize M2.set b _ = M3 at g3 ⊢
          have hld : (std PP w0).ld tEv ⟨b, 0, none⟩ M3 = some e.v := boxEv g3.own rfl
          rw [hld, ob_v]
          unfold Evt.v
          simp only [shA_v, shCons_v, shI_v, shNil_v]
          refine Jcheck_ok (e := e) g3 (by omega) hnow het fun M4 now' L' hl' hnow' heq g4 => ?_
          rw [shI_v, bs_bne]
          split
          · rename_i hw
            rw [i64_succ (by omega)]
            refine ih (i + 1) now' L' M4 (by omega) (by omega) (by omega) hnow' ?_ g4.drop
            rw [hck, ckA_cons0 hw, heq hw]; rfl
          · rename_i hw
            rw [hck, ckA_cons1 hw] at hR
            exact hR M4 g4.h.fr
        · have hii : i = l.length := by omega
          rw [hii, List.drop_length] at hck
          rw [hck] at hR
          exact hR M' g.h.fr
    exact ⟨_, key (l.length + 1) 0 0 [] M1 (by omega) (by omega) (Nat.le_refl _) (by unfold In64; omega) rfl g⟩
  · unfold CkB at hR
    rw [if_neg hk] at hR
    refine Budget_no2 hk ?_
    simp only [shT_v, shCons_v, shI_v, shB_v, shNil_v, Bool.not_false, bs_true]
    exact hR M (Mem.le_refl _)
theorem Jleft_ok (h : PlainM w0 F M p cb s0 s1 rj rr most bud now L (qE 0 (jobsOf L)) (qE 1 (jobsOf L)) Q) (hL : L.length ≤ 1000) (h39 : (allE (jobsOf L)).length ≤ 39)
    (hR : ∀ M' s', Holds w0 F M' (star (Es s' (allE (jobsOf L))) emp) → R (SV.v s') M') : C PP w0 Id.jP_left #[.pointer (some ⟨p, 0, none⟩)] R M := by
  apply jP_left.go
  unfold jP_left.T
  have e3 : rd w0 M ⟨p, 3, none⟩ = some (.pointer (some ⟨s0, 0, none⟩)) := rd_own (o := 3) h.h.own1
  have e4 : rd w0 M ⟨p, 4, none⟩ = some (.pointer (some ⟨s1, 0, none⟩)) := rd_own (o := 4) h.h.own1
  have hla := allE_len h.ok.inv
  simp only [nc_v, ld_one W.c81, add_eq, Nat.zero_add, Nat.add_zero, Nat.mul_one, Nat.reduceAdd, Nat.reduceMul, Int.toNat_one, Int.toNat_zero, e3, e4, ob_v, shP_v]
  refine ⟨⟨by decide, by decide⟩, ⟨by decide, by decide⟩, ?_⟩
  obtain ⟨F0, hS0, hb0⟩ := h.setqX (.inl rfl)
  have c0 : (if (0 : Int) = 0 then qE 0 (jobsOf L) else qE 1 (jobsOf L)) = qE 0 (jobsOf L) := if_pos rfl
  rw [c0] at hS0
  refine mAllE_ok hS0 (by omega) fun M1 x hx => ?_
  rw [shS_sv]
  have g1 := hb0 M1 _ _ hx
  rw [if_pos rfl, if_pos rfl] at g1
  have e4' : rd w0 M1 ⟨p, 4, none⟩ = some (.pointer (some ⟨s1, 0, none⟩)) := rd_own (o := 4) g1.h.own1
  refine ⟨e4', ?_⟩
  obtain ⟨F1, hS1, hb1⟩ := g1.setqX (.inr rfl)
  have c1 : (if (1 : Int) = 0 then qE 0 (jobsOf L) else qE 1 (jobsOf L)) = qE 1 (jobsOf L) := if_neg (by decide)
  rw [c1] at hS1
  refine mAllE_ok hS1 (by omega) fun M2 y hy => ?_
  rw [shS_sv]
  have g2 := hb1 M2 _ _ hy
  rw [if_neg (by decide), if_neg (by decide)] at g2
  have ry := g2.h.ju6.rdE
  refine appE g2.swap.h.ju6 ry (by omega) fun M3 z hz => ?_
  rw [shS_sv]
  have hp : (allE (jobsOf L)).Perm (qE 0 (jobsOf L) ++ qE 1 (jobsOf L)) := by
    unfold allE qE
    exact (sortE_perm _).trans ((inE_both 0 h.ok.inv).trans ((sortE_perm _).symm.append (sortE_perm _).symm))
  have hz0 : Holds w0 F M3 emp := by
    obtain ⟨r, _, h2⟩ := hz
    exact ⟨[], rfl, Fit.nil h2.fr⟩
  refine Sort_ok hz0 hz.rdE (by rw [List.length_append]; omega) fun M4 s' w _ hw hsr hpw => ?_
  have : w = allE (jobsOf L) := (sortE_eq hsr (hpw.trans (hp.symm.trans (sortE_perm _)))).symm
  rw [shS_sv]
  rw [this] at hw
  exact hR M4 s' hw
theorem JOpen_ok {k jobs : Int} {s : SV} {l : List Evt} (hs : RdF w0 M 14 s (evI l)) (hl : l.length ≤ 900) (h39 : (CkB k jobs l).2.2.length ≤ 39) (hR : ∀ M' s', Mem.le M M' → RdE w0 M' s' (CkB k jobs l).2.2 → R (SV.v s') M') :
    C PP w0 Id.judge_Open #[.int .i64 k, .int .i64 jobs, SV.v s] R M := by
  apply judge_Open.go
  intro pts H
  unfold judge_Open.T
  refine JCheck_ok hs hl fun M1 l1 => ?_
  simp only [shT_v, shCons_v, shI_v, shNil_v]
  have hs1 := hs.le l1
  by_cases hk : worstK k ∧ 1 ≤ jobs ∧ jobs ≤ 4096
  · have hC : CkB k jobs l = ((ckA jobs (2000 + 1600 * (bl (jobs.toNat + 1) : Int)) 0 ⟨0, []⟩ l).1, (ckA jobs (2000 + 1600 * (bl (jobs.toNat + 1) : Int)) 0 ⟨0, []⟩ l).2.1, allE (ckA jobs (2000 + 1600 * (bl (jobs.toNat + 1) : Int)) 0 ⟨0, []⟩ l).2.2.l) := if_pos hk
    have key : ∀ (s2 : SV) (l2 : List Evt), RdF w0 M1 14 s2 (evI l2) → l2.length ≤ 900 → ckA jobs (2000 + 1600 * (bl (jobs.toNat + 1) : Int)) 0 ⟨0, []⟩ l2 = (-1, 0, (ckA jobs (2000 + 1600 * (bl (jobs.toNat + 1) : Int)) 0 ⟨0, []⟩ l).2.2) → judge_Open.J1 pts k jobs s2 M1 := by
      intro s2 l2 hs2 hl2 hall
      rw [H.J1]
      unfold judge_Open.J1.T
      refine Budget_ok hk.1 hk.2.1 hk.2.2 ?_
      simp only [shT_v, shCons_v, shI_v, shB_v, shNil_v]
      rw [hC] at hR h39
      generalize (2000 + 1600 * (bl (jobs.toNat + 1) : Int)) = bud at hR h39 hall ⊢
      generalize (ckA jobs bud 0 ⟨0, []⟩ l) = res at hR h39 hall
      refine fresh_ok (Holds.emp0 (w0 := w0) (M := M1)) fun M2 p cb s0 s1 rj rr g => ?_
      rw [shP_v]
      have hn := hs2.evn
      have key : ∀ (n i : Nat) (now : Int) (L : List JM) (M' : Mem), i ≤ l2.length → l2.length < i + n → L.length ≤ i → In64 now → ckA jobs bud (i : Int) ⟨now, jobsOf L⟩ (l2.drop i) = (-1, 0, res.2.2) →
          PlainM w0 M1 M' p cb s0 s1 rj rr jobs bud now L (qE 0 (jobsOf L)) (qE 1 (jobsOf L)) emp → judge_Open.L2 pts n (some ⟨p, 0, none⟩) s2 ((s2.n : Nat) : Int) (i : Int) M' := by
        intro n
        induction n with
        | zero => intro i now L M' h1 h2; omega
        | succ n ih =>
          intro i now L M' h1 h2 h3 hnow hck g
          rw [H.L2]
          unfold judge_Open.L2.T
          rw [bs_decide]
          split
          · have hlt : i < l2.length := by omega
            have ee := List.getElem?_eq_getElem hlt
            have hdr : l2.drop i = l2[i] :: l2.drop (i + 1) := List.drop_eq_getElem_cons hlt
            rw [hdr] at hck
            generalize l2[i] = e at ee hck
            have het := (hs2.evt ee).1
            refine rdEv hs2 g.h.fr i rfl ee ?_
            unfold Evt.v
            simp only [shA_v, shCons_v, shI_v, shNil_v]
            intro b hb0 hbw
            have g2 := g.new hb0 hbw [.int .i64 0, .int .i64 0, .int .i64 0, .int .i64 0, .int .i64 0, .int .i64 0, .int .i64 0, .int .i64 0, .int .i64 0, .int .i64 0, .int .i64 0, .int .i64 0, .int .i64 0, .int .i64 0] tEv
            generalize M'.set b _ = M2 at g2 ⊢
            refine st_agg (vs := [.int .i64 e.c.kind, .int .i64 e.c.queue, .int .i64 e.c.at_, .int .i64 e.c.gen, .int .i64 e.c.time, .int .i64 e.c.data, .int .i64 e.r.why, .int .i64 e.r.at_, .int .i64 e.r.gen, .int .i64 e.r.time, .int .i64 e.r.data, .int .i64 e.r.n, .int .i64 e.now, .int .i64 e.steps]) W.g34 g2.own (by simp) (by intro v hv; simp only [List.mem_cons, List.not_mem_nil, or_false] at hv; rcases hv with rfl | rfl | rfl | rfl | rfl | rfl | rfl | rfl | rfl | rfl | rfl | rfl | rfl | rfl <;> rfl) ?_
            have g3 := g2.upd (cs' := over [.int .i64 0, .int .i64 0, .int .i64 0, .int .i64 0, .int .i64 0, .int .i64 0, .int .i64 0, .int .i64 0, .int .i64 0, .int .i64 0, .int .i64 0, .int .i64 0, .int .i64 0, .int .i64 0] 0 [.int .i64 e.c.kind, .int .i64 e.c.queue, .int .i64 e.c.at_, .int .i64 e.c.gen, .int .i64 e.c.time, .int .i64 e.c.data, .int .i64 e.r.why, .int .i64 e.r.at_, .int .i64 e.r.gen, .int .i64 e.r.time, .int .i64 e.r.data, .int .i64 e.r.n, .int .i64 e.now, .int .i64 e.steps]) (e' := tEv)
            generalize M2.set b _ = M3 at g3 ⊢
            have hld : (std PP w0).ld tEv ⟨b, 0, none⟩ M3 = some e.v := boxEv g3.own rfl
            rw [hld, ob_v]
            unfold Evt.v
            simp only [shA_v, shCons_v, shI_v, shNil_v]
            refine Jcheck_ok (e := e) g3 (by omega) hnow het fun M4 now' L' hl' hnow' heq g4 => ?_
            have hw : (whyA jobs bud ⟨now, jobsOf L⟩ e).1 = 0 := by
              apply Classical.byContradiction
              intro hne
              rw [ckA_cons1 hne] at hck
              simp only [Prod.mk.injEq] at hck
              exact hne hck.2.1
            rw [ckA_cons0 hw, heq hw] at hck
            rw [shI_v]
            rw [i64_succ (by omega)]
            exact ih (i + 1) now' L' M4 (by omega) (by omega) (by omega) hnow' hck g4.drop
          · have hii : i = l2.length := by omega
            rw [hii, List.drop_length] at hck
            simp only [ckA, Prod.mk.injEq, true_and] at hck
            have hre : res.2.2.l = jobsOf L := by rw [← hck]
            simp only at hR h39
            rw [hre] at hR h39
            refine Jleft_ok g (by omega) h39 fun M3 s' h3 => ?_
            rw [shS_sv]
            exact hR M3 s' (Mem.le_trans l1 h3.fr) h3.rdE
      exact ⟨_, key (l2.length + 1) 0 0 [] M2 (by omega) (by omega) (Nat.le_refl _) (by unfold In64; omega) hall g⟩
    rw [hC]
    simp only
    rw [bs_beq, if_neg (by rcases ckA_end (jobs := jobs) (bud := 2000 + 1600 * (bl (jobs.toNat + 1) : Int)) l 0 ⟨0, []⟩ with hh | ⟨_, _, _, hh, _⟩ <;> omega), bs_bne]
    rcases ckA_end (jobs := jobs) (bud := 2000 + 1600 * (bl (jobs.toNat + 1) : Int)) l 0 ⟨0, []⟩ with hh | ⟨i, hi, hi2, hh, ha⟩
    · rw [if_pos hh.2]
      exact key s l hs1 hl (Prod.ext hh.1 (Prod.ext hh.2 rfl))
    · rw [if_neg (by omega), hi2]
      have hn := hs.evn
      have hcap := hs.cap
      refine ⟨⟨by omega, by omega, by omega⟩, ?_⟩
      simp only [Int.toNat_zero, Nat.zero_mul, Nat.sub_zero, Int.zero_add, Int.toNat_natCast]
      refine key _ (l.take i) ?_ (by rw [List.length_take]; omega) ha
      rw [evI_take l i (by omega)]
      exact hs1.sub0 (by omega)
  · have hC : CkB k jobs l = (0, 1, []) := if_neg hk
    rw [hC] at hR ⊢
    simp only
    rw [show ((1 : Int) == 1) = true from rfl, bs_true]
    exact hR M1 ⟨none, 0, 0⟩ l1 RdE.nil
theorem JFired_ok {s : SV} {l : List Evt} (hs : RdF w0 M 14 s (evI l)) (hl : l.length ≤ 900) (hR : ∀ M' s', Mem.le M M' → Sl w0 M M' s' ((firedL l).map (Value.int .i64)) → R (SV.v s') M') :
    C PP w0 Id.judge_Fired #[SV.v s] R M := by
  apply judge_Fired.go
  intro pts H
  unfold judge_Fired.T
  have hn := hs.evn
  have key : ∀ (n i : Nat) (o : SV) (M' : Mem), i ≤ l.length → l.length < i + n → Mem.le M M' → Sl w0 M M' o ((firedL (l.take i)).map (Value.int .i64)) → judge_Fired.L1 pts n o s ((s.n : Nat) : Int) (i : Int) M' := by
    intro n
    induction n with
    | zero => intro i o M' h1 h2; omega
    | succ n ih =>
      intro i o M' h1 h2 hle ho
      rw [H.L1]
      unfold judge_Fired.L1.T
      rw [bs_decide]
      split
      · have hlt : i < l.length := by omega
        have ee := List.getElem?_eq_getElem hlt
        have htk : l.take (i + 1) = l.take i ++ [l[i]] := by rw [List.take_add_one, ee]; rfl
        generalize l[i] = e at ee htk
        have hft : firedL (l.take (i + 1)) = firedL (l.take i) ++ (if e.c.kind = 5 ∧ e.r.why = 0 then [e.r.time] else []) := by
          rw [htk]
          unfold firedL
          rw [List.filter_append, List.map_append]
          congr 1
          by_cases hc : e.c.kind = 5 ∧ e.r.why = 0
          · rw [if_pos hc, List.filter_cons_of_pos (by simpa using hc)]; rfl
          · rw [if_neg hc, List.filter_cons_of_neg (by simpa using hc)]; rfl
        refine rdEv hs hle i rfl ee ?_
        unfold Evt.v
        simp only [shA_v, shCons_v, shI_v, shNil_v]
        intro b hb0 hbw
        have l2 : Mem.le M' (M'.set b (.row [.int .i64 0, .int .i64 0, .int .i64 0, .int .i64 0, .int .i64 0, .int .i64 0, .int .i64 0, .int .i64 0, .int .i64 0, .int .i64 0, .int .i64 0, .int .i64 0, .int .i64 0, .int .i64 0] tEv)) := Mem.le_set _ hb0
        have g2 := Holds.new (Holds.emp0 (w0 := w0) (M := M')) hb0 hbw [.int .i64 0, .int .i64 0, .int .i64 0, .int .i64 0, .int .i64 0, .int .i64 0, .int .i64 0, .int .i64 0, .int .i64 0, .int .i64 0, .int .i64 0, .int .i64 0, .int .i64 0, .int .i64 0] tEv
        generalize M'.set b _ = M2 at g2 ⊢
        refine st_agg (vs := [.int .i64 e.c.kind, .int .i64 e.c.queue, .int .i64 e.c.at_, .int .i64 e.c.gen, .int .i64 e.c.time, .int .i64 e.c.data, .int .i64 e.r.why, .int .i64 e.r.at_, .int .i64 e.r.gen, .int .i64 e.r.time, .int .i64 e.r.data, .int .i64 e.r.n, .int .i64 e.now, .int .i64 e.steps]) W.g34 g2.own1 (by simp) (by intro v hv; simp only [List.mem_cons, List.not_mem_nil, or_false] at hv; rcases hv with rfl | rfl | rfl | rfl | rfl | rfl | rfl | rfl | rfl | rfl | rfl | rfl | rfl | rfl <;> rfl) ?_
        have g3 := g2.upd1 (cs' := over [.int .i64 0, .int .i64 0, .int .i64 0, .int .i64 0, .int .i64 0, .int .i64 0, .int .i64 0, .int .i64 0, .int .i64 0, .int .i64 0, .int .i64 0, .int .i64 0, .int .i64 0, .int .i64 0] 0 [.int .i64 e.c.kind, .int .i64 e.c.queue, .int .i64 e.c.at_, .int .i64 e.c.gen, .int .i64 e.c.time, .int .i64 e.c.data, .int .i64 e.r.why, .int .i64 e.r.at_, .int .i64 e.r.gen, .int .i64 e.r.time, .int .i64 e.r.data, .int .i64 e.r.n, .int .i64 e.now, .int .i64 e.steps]) (e' := tEv)
        generalize M2.set b _ = M3 at g3 ⊢
        have o3 : Own w0 M3 b [.int .i64 e.c.kind, .int .i64 e.c.queue, .int .i64 e.c.at_, .int .i64 e.c.gen, .int .i64 e.c.time, .int .i64 e.c.data, .int .i64 e.r.why, .int .i64 e.r.at_, .int .i64 e.r.gen, .int .i64 e.r.time, .int .i64 e.r.data, .int .i64 e.r.n, .int .i64 e.now, .int .i64 e.steps] tEv := g3.own1
        have l3 := g3.fr
        have e0 : rd w0 M3 ⟨b, 0, none⟩ = some (.int .i64 e.c.kind) := rd_own (o := 0) o3
        have e6 : rd w0 M3 ⟨b, 6, none⟩ = some (.int .i64 e.r.why) := rd_own (o := 6) o3
        have e9 : rd w0 M3 ⟨b, 9, none⟩ = some (.int .i64 e.r.time) := rd_own (o := 9) o3
        have hsame : ¬ (e.c.kind = 5 ∧ e.r.why = 0) → judge_Fired.L1 pts n o s ((s.n : Nat) : Int) (w64 ((i : Int) + 1)) M3 := by
          intro hc
          rw [if_neg hc, List.append_nil] at hft
          rw [i64_succ (by omega)]
          refine ih (i + 1) o M3 (by omega) (by omega) (Mem.le_trans hle l3) ?_
          rw [hft]; exact ho.le l3
        simp only [ld_one W.c3, ld_one W.c2, ld_one W.c30, add_eq, Nat.zero_add, Nat.reduceAdd, e0, e6, e9, ob_v, shI_v]
        rw [bs_beq]
        split
        · rename_i h5
          rw [bs_beq]
          split
          · rename_i hw
            rw [if_pos ⟨h5, hw⟩] at hft
            refine bsl_e (n := 1) (cells := #[.int .i64 e.r.time]) Try.underlying66 W.e2 (by decide) (by kernel_rfl) fun b4 hb4 hbw4 => ?_
            have l4 : Mem.le M3 (M3.set b4 (.row (#[Value.int .i64 e.r.time] : Array Value).toList 2)) := Mem.le_set _ hb4
            have hx : RdI w0 (M3.set b4 (.row (#[Value.int .i64 e.r.time] : Array Value).toList 2)) .i64 ⟨some ⟨b4, 0, none⟩, 1, 1⟩ [e.r.time] := RdI.own (o := 0) (Own.new hbw4) rfl (Nat.le_refl _) (fun j x hj => by
              rw [Nat.zero_add]
              match j, hj with
              | 0, hj => simp at hj; subst hj; rfl) (fun n hn => by simp at hn; subst hn; exact wf64 (hs.evt ee).2.2.2) (by simp)
            generalize M3.set b4 _ = M4 at l4 hx ⊢
            rw [shS_v]
            refine app_rd (x := ⟨some ⟨b4, 0, none⟩, 1, 1⟩) (m := [e.r.time]) Try.underlying66 W.e2 (Mem.le_trans hle (Mem.le_trans l3 l4)) ((ho.le l3).le l4) hx (Mem.le_refl _) ?_ fun M5 o5 l5 h5 => ?_
            · have : (firedL (l.take i)).length ≤ l.length := by
                unfold firedL
                rw [List.length_map]
                exact Nat.le_trans (List.length_filter_le _ _) (by rw [List.length_take]; omega)
              simp; omega
            · rw [shS_sv, i64_succ (by omega)]
              refine ih (i + 1) o5 M5 (by omega) (by omega) l5 ?_
              rw [hft]; exact h5
          · rename_i hw
            exact hsame fun hh => hw hh.2
        · rename_i h5
          exact hsame fun hh => h5 hh.1
      · have hii : i = l.length := by omega
        subst hii
        rw [List.take_length] at ho
        exact hR M' o hle ho
  exact ⟨_, key (l.length + 1) 0 ⟨none, 0, 0⟩ M (by omega) (by omega) (Mem.le_refl _) Sl.nil⟩
end
end Go.Proofs.Ytedofpnjmnkedaa.HL
namespace Go.Proofs.Ytedofpnjmnkedaa.HL
open Go.RowKit (Below)
section
variable {α : Type} {c : α → List Value} {k : Nat}
theorem flat_len (hc : ∀ x, (c x).length = k) : ∀ l : List α, (l.flatMap c).length = l.length * k
  | [] => by simp
  | x :: l => by rw [List.flatMap_cons, List.length_append, hc, flat_len hc l, List.length_cons, Nat.succ_mul]; omega
theorem flat_at (hc : ∀ x, (c x).length = k) : ∀ {l : List α} {i : Nat} {x : α} {f : Nat} {v : Value}, l[i]? = some x → (c x)[f]? = some v → (l.flatMap c)[i * k + f]? = some v
  | [], i, x, f, v, h, _ => by simp at h
  | y :: l, 0, x, f, v, h, hf => by
    simp at h; subst h
    have hlt := (List.getElem?_eq_some_iff.1 hf).1
    rw [List.flatMap_cons, Nat.zero_mul, Nat.zero_add, List.getElem?_append_left hlt]; exact hf
  | y :: l, i + 1, x, f, v, h, hf => by
    rw [List.flatMap_cons, List.getElem?_append_right (by rw [hc, Nat.succ_mul]; omega), hc, show (i + 1) * k + f - k = i * k + f from by rw [Nat.succ_mul]; omega]
    exact flat_at hc (by simpa using h) hf
theorem flat_set (hc : ∀ x, (c x).length = k) : ∀ {l : List α} {i : Nat} {x x' : α} {f : Nat} {v : Value}, l[i]? = some x → f < k → (c x).set f v = c x' → (l.flatMap c).set (i * k + f) v = (l.set i x').flatMap c
  | [], i, x, x', f, v, h, _, _ => by simp at h
  | y :: l, 0, x, x', f, v, h, hk, hf => by
    simp at h; subst h
    rw [List.flatMap_cons, Nat.zero_mul, Nat.zero_add, List.set_append_left _ _ (by rw [hc]; exact hk), hf, List.set_cons_zero, List.flatMap_cons]
  | y :: l, i + 1, x, x', f, v, h, hk, hf => by
    rw [List.flatMap_cons, List.set_append_right _ _ (by rw [hc, Nat.succ_mul]; omega), hc, show (i + 1) * k + f - k = i * k + f from by rw [Nat.succ_mul]; omega, List.set_cons_succ, List.flatMap_cons]
    rw [flat_set hc (by simpa using h) hk hf]
theorem flat_one (hc : ∀ x, ∀ v ∈ c x, onecell v = true) (l : List α) : ∀ v ∈ l.flatMap c, onecell v = true := fun v hv => by
  obtain ⟨x, _, hx⟩ := List.mem_flatMap.1 hv
  exact hc x v hx
end
section
variable {w0 : World} {F M : Mem} {α : Type} {c : α → List Value} {k : Nat}
theorem Holds.nR (hc : ∀ x, (c x).length = k) (hk : 0 < k) {s : SV} {l : List α} {Q : Asn} (h : Holds w0 F M (star (SlKA k s (l.flatMap c)) Q)) : s.n = l.length := by
  obtain ⟨F', h1, _⟩ := h.slk
  have := h1.len
  rw [flat_len hc] at this
  exact Nat.eq_of_mul_eq_mul_right hk this.symm
theorem Holds.capR (hc : ∀ x, (c x).length = k) (hk : 0 < k) {s : SV} {l : List α} {Q : Asn} (h : Holds w0 F M (star (SlKA k s (l.flatMap c)) Q)) : l.length ≤ s.c := by
  obtain ⟨F', h1, _⟩ := h.slk
  rw [← h.nR hc hk]; exact h1.cap hk
theorem Holds.adR (hc : ∀ x, (c x).length = k) (hk : 0 < k) {s : SV} {l : List α} {Q : Asn} (h : Holds w0 F M (star (SlKA k s (l.flatMap c)) Q)) {i : Nat} {x : α} (hx : l[i]? = some x) :
    ∃ blk, s.a = some ⟨blk, 0, none⟩ ∧ s.n = l.length ∧ i < s.n ∧ ∀ f v, (c x)[f]? = some v → rd w0 M ⟨blk, i * k + f, none⟩ = some v := by
  have hn := h.nR hc hk
  have hi := (List.getElem?_eq_some_iff.1 hx).1
  obtain ⟨b, rest, e, ha, h1, h2, h3⟩ := SlKA.row h (by omega)
  refine ⟨b, ha, hn, by omega, fun f v hf => ?_⟩
  have h4 := flat_at hc hx hf
  rw [rd_own h3.own1, List.getElem?_append_left (List.getElem?_eq_some_iff.1 h4).1]
  exact h4
theorem Holds.stR {P : Program} (hc : ∀ x, (c x).length = k) (hk : 0 < k) {t : TypeId} (ht : cell1 P t = true) {s : SV} {l : List α} {Q : Asn} (h : Holds w0 F M (star (SlKA k s (l.flatMap c)) Q)) {i : Nat} {x x' : α} (hx : l[i]? = some x) {f : Nat} (hf : f < k) {v : Value} (hv : onecell v = true) (hcv : v.cells = #[v]) (he : (c x).set f v = c x')
    {blk : Nat} (ha : s.a = some ⟨blk, 0, none⟩) {K : Mem → Prop} (hK : ∀ M', Holds w0 F M' (star (SlKA k s ((l.set i x').flatMap c)) Q) → K M') : (std P w0).st t ⟨blk, i * k + f, none⟩ v (fun M' => K M') M := by
  have hn := h.nR hc hk
  have hi := (List.getElem?_eq_some_iff.1 hx).1
  have := stK (P := P) ht h (i := (i : Int)) i rfl (by omega) hf hv hcv (K := K) fun M' h' => hK M' (by rw [flat_set hc hx hf he] at h'; exact h')
  rw [ha] at this
  simp only [nc_v, Int.toNat_natCast, add_eq, Nat.zero_add] at this
  exact this.2
end
end Go.Proofs.Ytedofpnjmnkedaa.HL
namespace Go.Proofs.Ytedofpnjmnkedaa.HL
open Go.RowKit (Below)
open Go.Proofs
section
variable {w0 : World} {M M0 F : Mem} {R : VP}
theorem rAdd_ok {a b : Int} (ha : In64 a) (hb : In64 b) (h : R (.int .i64 (addc a b)) M) : C PP w0 Id.r1_Add #[.int .i64 a, .int .i64 b] R M := by
  apply r1_Add.go
  intro pts H
  unfold r1_Add.T
  unfold In64 at ha hb
  unfold addc at h
  have hj : (a < 0 ∨ ¬ (9223372036854775807 < a + b)) → r1_Add.J1 pts a b M := by
    intro hc
    rw [H.J1]
    unfold r1_Add.J1.T
    rw [bs_decide]
    split
    · rw [w64_in (n := (-9223372036854775808) - a) (by omega), bs_decide]
      split
      · rw [if_neg (by omega), if_pos (by omega)] at h; exact h
      · rw [if_neg (by omega), if_neg (by omega)] at h
        rw [w64_in (by omega)]; exact h
    · rw [if_neg (by omega), if_neg (by omega)] at h
      rw [w64_in (by omega)]; exact h
  rw [bs_decide]
  split
  · rw [w64_in (by omega), bs_decide]
    split
    · rw [if_pos (by omega)] at h; exact h
    · exact hj (.inr (by omega))
  · by_cases h0 : a < 0
    · exact hj (.inl h0)
    · exact hj (.inr (by omega))
theorem rBits_ok {n : Int} (hn : In64 n) (h : R (.int .i64 (bl n.toNat : Int)) M) : C PP w0 Id.r1_Bits #[.int .i64 n] R M := by
  apply r1_Bits.go
  intro pts H
  unfold r1_Bits.T
  have key : ∀ (k : Nat) (m j : Nat), bl m < k → (m : Int) ≤ 9223372036854775807 → bl m + j = bl n.toNat → r1_Bits.L1 pts k (m : Int) (j : Int) M := by
    intro k
    induction k with
    | zero => intro m j h1; omega
    | succ k ih =>
      intro m j h1 h2 h3
      rw [H.L1]
      unfold r1_Bits.L1.T
      have h64 : bl n.toNat ≤ 64 := bl_le (by unfold In64 at hn; omega)
      rw [bs_decide]
      split
      · rename_i hp
        have hb := bl_half (n := m) (by omega)
        refine ⟨rfl, by omega, ?_⟩
        rw [show Int.tdiv (m : Int) 2 = ((m / 2 : Nat) : Int) from rfl, w64_in (n := ((m / 2 : Nat) : Int)) (by omega), w64_in (by omega)]
        exact ih (m / 2) (j + 1) (by omega) (by omega) (by omega)
      · have : m = 0 := by omega
        subst this
        rw [show bl 0 = 0 from rfl] at h3
        rw [show j = bl n.toNat from by omega]; exact h
  by_cases h0 : 0 ≤ n
  · refine ⟨bl n.toNat + 1, ?_⟩
    have := key (bl n.toNat + 1) n.toNat 0 (by omega) (by unfold In64 at hn; omega) (by omega)
    rwa [show ((n.toNat : Nat) : Int) = n from by omega] at this
  · refine ⟨1, ?_⟩
    rw [H.L1]
    unfold r1_Bits.L1.T
    rw [bs_decide, if_neg (by omega)]
    rw [show n.toNat = 0 from by omega] at h
    exact h
theorem rLimit_ok {a b n : Int} (ha : In64 a) (hb : In64 b) (hn : In64 n) (h : R (.int .i64 (limI a b (bl n.toNat))) M) : C PP w0 Id.r1_Limit #[.int .i64 a, .int .i64 b, .int .i64 n] R M := by
  apply r1_Limit.go
  intro pts H
  unfold r1_Limit.T
  refine rBits_ok hn ?_
  rw [shI_v]
  have h64 : bl n.toNat ≤ 64 := bl_le (by unfold In64 at hn; omega)
  generalize bl n.toNat = m at h h64
  have key : ∀ (k : Nat) (x : Int), In64 x → k ≤ 64 → (R (.int .i64 (limI x b k)) M) → r1_Limit.L1 pts (k + 1) b x (k : Int) M := by
    intro k
    induction k with
    | zero =>
      intro x hx _ hR
      rw [H.L1]
      unfold r1_Limit.L1.T
      rw [bs_decide, if_neg (by omega)]; exact hR
    | succ k ih =>
      intro x hx hk hR
      rw [H.L1]
      unfold r1_Limit.L1.T
      rw [bs_decide, if_pos (by omega)]
      refine rAdd_ok hx hb ?_
      rw [shI_v, w64_in (by omega), show ((k + 1 : Nat) : Int) - 1 = (k : Int) from by omega]
      exact ih (addc x b) addc_in (by omega) hR
  exact ⟨m + 1, key m a ha h64 h⟩
end
end Go.Proofs.Ytedofpnjmnkedaa.HL
namespace Go.Proofs.Ytedofpnjmnkedaa.HL
open Go.RowKit (Below)
open Go.Proofs
abbrev tB : TypeId := 94
def jbC (x : JobA × Nat) : List Value := [.int .i64 x.1.at_, .int .i64 x.1.gen, .int .i64 x.1.queue, .int .i64 x.1.data, .int .i64 x.1.key, .int .i64 (x.2 : Int), .bool x.1.inn]
def jbV (l : List JobA) : List Value := l.zipIdx.flatMap jbC
theorem jbC_len (x : JobA × Nat) : (jbC x).length = 7 := rfl
theorem jbC_one (x : JobA × Nat) : ∀ v ∈ jbC x, onecell v = true := by
  intro v hv
  simp only [jbC, List.mem_cons, List.not_mem_nil, or_false] at hv
  rcases hv with rfl | rfl | rfl | rfl | rfl | rfl | rfl <;> rfl
theorem zip_get {l : List JobA} {i : Nat} {j : JobA} (h : l[i]? = some j) : l.zipIdx[i]? = some (j, i) := by
  rw [List.getElem?_zipIdx, h]; simp
theorem zip_set (l : List JobA) (i : Nat) (j : JobA) : (l.set i j).zipIdx = l.zipIdx.set i (j, i) := by
  refine List.ext_getElem? fun a => ?_
  rw [List.getElem?_zipIdx, List.getElem?_set, List.getElem?_set, List.getElem?_zipIdx, List.length_zipIdx]
  by_cases h : i = a
  · subst h
    simp only [if_true]
    split <;> simp
  · simp only [h, if_false]
theorem jbV_app (l : List JobA) (j : JobA) : jbV (l ++ [j]) = jbV l ++ jbC (j, l.length) := by
  unfold jbV
  rw [List.zipIdx_append, List.flatMap_append]
  simp
theorem jbV_len (l : List JobA) : (jbV l).length = l.length * 7 := by
  unfold jbV
  rw [flat_len jbC_len, List.length_zipIdx]
theorem jbV_one (l : List JobA) : ∀ v ∈ jbV l, onecell v = true := flat_one jbC_one _
def BookA (b : Nat) (jobs : Int) (st : St) : Asn := fun r => ∃ s, star (row1 b [.int .i64 jobs, .int .i64 st.now, SV.v s] tB) (SlKA 7 s (jbV st.l)) r
def pq (q : Int) (j : JobA) : Bool := if q < 0 then true else ofQ q j
def leftB (q : Int) (l : List JobA) : List Ent := sortE (inE (pq q) 0 l)
theorem leftB_neg {q : Int} (h : q < 0) (l : List JobA) : leftB q l = allE l := by
  unfold leftB allE
  have : pq q = fun _ => true := funext fun j => by unfold pq; rw [if_pos h]
  rw [this]
theorem leftB_pos {q : Int} (h : 0 ≤ q) (l : List JobA) : leftB q l = qE q l := by
  unfold leftB qE
  have : pq q = ofQ q := funext fun j => by unfold pq; rw [if_neg (by omega)]
  rw [this]
section
variable {w0 : World} {F M : Mem} {R : VP} {b : Nat} {jobs : Int} {st : St} {Q : Asn}
theorem BookA.open_ (h : Holds w0 F M (star (BookA b jobs st) Q)) : ∃ s, Holds w0 F M (star (row1 b [.int .i64 jobs, .int .i64 st.now, SV.v s] tB) (star (SlKA 7 s (jbV st.l)) Q)) := by
  obtain ⟨r, ⟨r1, r2, rfl, ⟨s, r3, r4, rfl, h1, h2⟩, h3⟩, h4⟩ := h
  exact ⟨s, _, ⟨r3, r4 ++ r2, by simp, h1, r4, r2, rfl, h2, h3⟩, h4⟩
theorem BookA.close {s : SV} (h : Holds w0 F M (star (row1 b [.int .i64 jobs, .int .i64 st.now, SV.v s] tB) (star (SlKA 7 s (jbV st.l)) Q))) : Holds w0 F M (star (BookA b jobs st) Q) := by
  obtain ⟨r, ⟨r3, r4, rfl, h1, r5, r6, rfl, h2, h3⟩, h4⟩ := h
  exact ⟨_, ⟨r3 ++ r5, r6, by simp, ⟨s, r3, r5, rfl, h1, h2⟩, h3⟩, h4⟩
theorem BookA.job {s : SV} (h : Holds w0 F M (star (row1 b [.int .i64 jobs, .int .i64 st.now, SV.v s] tB) (star (SlKA 7 s (jbV st.l)) Q))) {i : Nat} {j : JobA} (hj : st.l[i]? = some j) :
    ∃ blk, s.a = some ⟨blk, 0, none⟩ ∧ s.n = st.l.length ∧ i < s.n ∧ ∀ f v, (jbC (j, i))[f]? = some v → rd w0 M ⟨blk, i * 7 + f, none⟩ = some v := by
  have := Holds.adR jbC_len (by decide) h.right (zip_get hj)
  rw [List.length_zipIdx] at this
  exact this
theorem BookA.n {s : SV} (h : Holds w0 F M (star (row1 b [.int .i64 jobs, .int .i64 st.now, SV.v s] tB) (star (SlKA 7 s (jbV st.l)) Q))) : s.n = st.l.length := by
  have := Holds.nR jbC_len (by decide) h.right
  rw [List.length_zipIdx] at this
  exact this
theorem Bfind_ok {a g : Int} (h : Holds w0 F M (star (BookA b jobs st) Q)) (hL : st.l.length ≤ 1000)
    (h0 : findA st.l a g = none → ∀ M', Mem.le M M' → R (.tuple #[.int .i64 (-1), .int .i64 22]) M')
    (h1 : ∀ i j, findA st.l a g = some i → st.l[i]? = some j → j.inn = false → ∀ M', Mem.le M M' → R (.tuple #[.int .i64 (-1), .int .i64 23]) M')
    (h2 : ∀ i j, findA st.l a g = some i → st.l[i]? = some j → j.inn = true → ∀ M', Mem.le M M' → R (.tuple #[.int .i64 (i : Int), .int .i64 0]) M') :
    C PP w0 Id.bB_find #[.pointer (some ⟨b, 0, none⟩), .agg #[.int .i64 a, .int .i64 g]] R M := by
  apply bB_find.go
  intro pts H
  unfold bB_find.T
  intro b1 hb0 hbw
  have l1 : Mem.le M (M.set b1 (.row [.int .i64 a, .int .i64 g] 25)) := Mem.le_set _ hb0
  have o1 : Own w0 (M.set b1 (.row [.int .i64 a, .int .i64 g] 25)) b1 [.int .i64 a, .int .i64 g] 25 := Own.new hbw
  generalize M.set b1 _ = M1 at l1 o1 ⊢
  obtain ⟨s, hs⟩ := BookA.open_ (h.le l1)
  have hn := BookA.n hs
  have e2 : rd w0 M1 ⟨b, 2, none⟩ = some (SV.v s) := rd_own (o := 2) hs.own1
  have ldr : (std PP w0).ld 25 ⟨b1, 0, none⟩ M1 = some (.agg #[.int .i64 a, .int .i64 g]) := ld_agg (cs := [.int .i64 a, .int .i64 g]) W.g25 (fun j v hj => by rw [add_eq, rd_own o1, Nat.zero_add]; exact hj)
  have key : ∀ (n i : Nat), i ≤ st.l.length → st.l.length < i + n → (∀ k, k < i → ∀ j, st.l[k]? = some j → ¬ (j.at_ = a ∧ j.gen = g)) → bB_find.L1 pts n (some ⟨b, 0, none⟩) ⟨b1, 0, none⟩ (i : Int) M1 := by
    intro n
    induction n with
    | zero => intro i h1 h2; omega
    | succ n ih =>
      intro i hi1 hi2 hno
      rw [H.L1]
      unfold bB_find.L1.T
      simp only [nc_v, ld_one W.c92, add_eq, Nat.zero_add, e2, ob_v, shS_sv]
      rw [bs_decide]
      split
      · have hlt : i < st.l.length := by omega
        have hj := List.getElem?_eq_getElem hlt
        generalize st.l[i] = j at hj
        obtain ⟨blk, hsa, _, hin, hrd⟩ := BookA.job hs hj
        have lda : (std PP w0).ld 25 ⟨blk, i * 7, none⟩ M1 = some (.agg #[.int .i64 j.at_, .int .i64 j.gen]) := ld_agg (cs := [.int .i64 j.at_, .int .i64 j.gen]) W.g25 (fun f v hf => by
          rw [add_eq]
          match f, hf with
          | 0, hf => exact hrd 0 _ hf
          | 1, hf => exact hrd 1 _ hf)
        have e6 : rd w0 M1 ⟨blk, i * 7 + 6, none⟩ = some (.bool j.inn) := hrd 6 _ rfl
        simp only [hsa, nc_v, Int.toNat_natCast, add_eq, Nat.zero_add, lda, ldr, ld_one W.c4, e6, ob_v, shA_v, shCons_v, shI_v, shNil_v]
        refine ⟨⟨by omega, by omega⟩, ?_⟩
        have hq : (std PP w0).bq .eql 25 (.tmp 23) (.tmp 24) (.agg #[.int .i64 j.at_, .int .i64 j.gen]) (.agg #[.int .i64 a, .int .i64 g]) = some (.bool (j.at_ == a && j.gen == g)) := by
          have := eql_struct (P := PP) (w0 := w0) (X := .tmp 23) (Y := .tmp 24) (es := [j.at_ == a, j.gen == g]) (xs := #[.int .i64 j.at_, .int .i64 j.gen]) (ys := #[.int .i64 a, .int .i64 g]) Try.underlying25 (by kernel_rfl) (by kernel_rfl)
            ⟨by decide, ⟨.int .i64 j.at_, .int .i64 a, by kernel_rfl, by kernel_rfl, equal_int Try.underlying3 j.at_ a⟩, by decide, ⟨.int .i64 j.gen, .int .i64 g, by kernel_rfl, by kernel_rfl, equal_int Try.underlying3 j.gen g⟩, trivial⟩
          rw [show ([j.at_ == a, j.gen == g] : List Bool).all id = (j.at_ == a && j.gen == g) from by simp [List.all]] at this
          exact this
        rw [hq]
        simp only [ob_v, shB_v]
        rw [bs_b]
        refine ⟨fun he => ?_, fun he => ?_⟩
        · simp only [Bool.and_eq_true, beq_iff_eq] at he
          have hf : findA st.l a g = some i := by
            unfold findA
            refine List.findIdx?_eq_some_iff_getElem.2 ⟨hlt, ?_, fun k hk => ?_⟩
            · have : st.l[i] = j := by rw [List.getElem?_eq_getElem hlt] at hj; exact Option.some.inj hj
              rw [this]; simp [he.1, he.2]
            · have hkl : k < st.l.length := by omega
              have := hno k hk _ (List.getElem?_eq_getElem hkl)
              simpa using this
          refine ⟨⟨by omega, by omega⟩, ?_⟩
          rw [bs_not, bs_b]
          exact ⟨fun hh => h2 i j hf hj hh M1 l1, fun hh => h1 i j hf hj hh M1 l1⟩
        · rw [i64_succ (by omega)]
          refine ih (i + 1) (by omega) (by omega) fun k hk y hy => ?_
          by_cases hki : k = i
          · subst hki
            rw [hj] at hy; cases hy
            intro hh
            simp [hh.1, hh.2] at he
          · exact hno k (by omega) y hy
      · have hii : i = st.l.length := by omega
        refine h0 ?_ M1 l1
        unfold findA
        refine List.findIdx?_eq_none_iff.2 fun j hj => ?_
        obtain ⟨k, hk⟩ := List.getElem?_of_mem hj
        have := hno k (by have := (List.getElem?_eq_some_iff.1 hk).1; omega) j hk
        simpa using this
  exact ⟨_, key (st.l.length + 1) 0 (by omega) (by omega) (fun k hk => by omega)⟩
theorem Bleft_ok {q : Int} (h : Holds w0 F M (star (BookA b jobs st) Q)) (hL : st.l.length ≤ 1000)
    (hR : ∀ M' s', Holds w0 F M' (star (Es s' (leftB q st.l)) (star (BookA b jobs st) Q)) → R (SV.v s') M') :
    C PP w0 Id.bB_left #[.pointer (some ⟨b, 0, none⟩), .int .i64 q] R M := by
  apply bB_left.go
  intro pts H
  unfold bB_left.T
  have key : ∀ (n i : Nat) (o : SV) (M' : Mem), i ≤ st.l.length → st.l.length < i + n → Holds w0 F M' (star (Es o (inE (pq q) 0 (st.l.take i))) (star (BookA b jobs st) Q)) →
      bB_left.L1 pts n (some ⟨b, 0, none⟩) q o (i : Int) M' := by
    intro n
    induction n with
    | zero => intro i o M' h1 h2; omega
    | succ n ih =>
      intro i o M' hi1 hi2 hH
      rw [H.L1]
      unfold bB_left.L1.T
      obtain ⟨s, hs⟩ := BookA.open_ hH.right
      have hn := BookA.n hs
      have e2 : rd w0 M' ⟨b, 2, none⟩ = some (SV.v s) := rd_own (o := 2) hs.own1
      simp only [nc_v, ld_one W.c92, add_eq, Nat.zero_add, e2, ob_v, shS_sv]
      have hll : (inE (pq q) 0 (st.l.take i)).length ≤ 1000 := Nat.le_trans (inE_len _ _ _) (by rw [List.length_take]; omega)
      rw [bs_decide]
      split
      · have hlt : i < st.l.length := by omega
        have hj := List.getElem?_eq_getElem hlt
        have htk : st.l.take (i + 1) = st.l.take i ++ [st.l[i]] := by rw [List.take_add_one, hj]; rfl
        generalize st.l[i] = j at hj htk
        have hstep : inE (pq q) 0 (st.l.take (i + 1)) = inE (pq q) 0 (st.l.take i) ++ (if (j.inn && pq q j) = true then [(j.key, (i : Int))] else []) := by
          rw [htk, inE_app, inE, inE, show (0 + (st.l.take i).length) = i from by rw [List.length_take]; omega]
        obtain ⟨blk, hsa, _, hin, hrd⟩ := BookA.job hs hj
        have e6 : rd w0 M' ⟨blk, i * 7 + 6, none⟩ = some (.bool j.inn) := hrd 6 _ rfl
        have eq : rd w0 M' ⟨blk, i * 7 + 2, none⟩ = some (.int .i64 j.queue) := hrd 2 _ rfl
        have lde : (std PP w0).ld 64 ⟨blk, i * 7 + 4, none⟩ M' = some (.agg #[.int .i64 j.key, .int .i64 (i : Int)]) := ld_agg (cs := [.int .i64 j.key, .int .i64 (i : Int)]) W.g64 (fun f v hf => by
          rw [add_eq]
          match f, hf with
          | 0, hf => exact hrd 4 _ hf
          | 1, hf => exact hrd 5 _ hf)
        have hput : (j.inn && pq q j) = true → (std PP w0).bsl 59 1 [(0, .agg #[.int .i64 j.key, .int .i64 (i : Int)])] (fun v23 M24 => shS v23 fun s25 => (std PP w0).app #[59, 59] 59 [SV.v o, SV.v s25] (fun v26 M27 => shS v26 fun s28 => bB_left.L1 pts n (some ⟨b, 0, none⟩) q s28 (w64 ((i : Int) + 1)) M27) M24) M' := by
          intro hc
          refine newE hH j.key (i : Int) fun M2 x l2 hx => ?_
          rw [shS_sv]
          refine appE hx.rot hx.rdE (by simp; omega) fun M3 o3 h3 => ?_
          rw [shS_sv, i64_succ (by omega)]
          refine ih (i + 1) o3 M3 (by omega) (by omega) ?_
          rw [hstep, if_pos hc]
          obtain ⟨F', k1, _, k2⟩ := h3.last
          exact k2 _ _ k1.right
        have hskip : ¬ (j.inn && pq q j) = true → bB_left.L1 pts n (some ⟨b, 0, none⟩) q o (w64 ((i : Int) + 1)) M' := by
          intro hc
          rw [i64_succ (by omega)]
          refine ih (i + 1) o M' (by omega) (by omega) ?_
          rw [hstep, if_neg hc, List.append_nil]; exact hH
        simp only [hsa, nc_v, Int.toNat_natCast, add_eq, Nat.zero_add, ld_one W.c4, ld_one W.c3, e6, eq, lde, ob_v, shA_v, shCons_v, shI_v, shB_v, shNil_v]
        have hbd : 0 ≤ (i : Int) ∧ (i : Int) < ((s.n : Nat) : Int) := ⟨by omega, by omega⟩
        refine ⟨hbd, ?_⟩
        rw [bs_b]
        refine ⟨fun hin => ?_, fun hin => hskip (by simp [hin])⟩
        rw [bs_decide]
        split
        · rename_i hq
          refine ⟨hbd, hput (by simp [hin, pq, hq])⟩
        · rename_i hq
          refine ⟨hbd, ?_⟩
          rw [bs_beq]
          split
          · rename_i hqq
            exact ⟨hbd, hput (by simp [hin, pq, hq, ofQ, hqq])⟩
          · rename_i hqq
            exact hskip (by simp [hin, pq, hq, ofQ, hqq])
      · have hii : i = st.l.length := by omega
        rw [hii, List.take_length] at hH hll
        refine rSort_ok hH.right hH.rdE (by omega) fun M2 s2 z l2 hz hsr hp => ?_
        rw [shS_sv]
        have : z = leftB q st.l := (sortE_eq hsr hp).symm
        subst this
        exact hR M2 s2 hz
  exact ⟨_, key (st.l.length + 1) 0 ⟨none, 0, 0⟩ M (by omega) (by omega) h.nilSlk⟩
end
end Go.Proofs.Ytedofpnjmnkedaa.HL
namespace Go.Proofs.Ytedofpnjmnkedaa.HL
open Go.RowKit (Below)
open Go.Proofs
section
variable {w0 : World} {F M : Mem} {R : VP}
theorem eqRepU {X Y : Operand} (a0 a1 a2 a3 a4 a5 b0 b1 b2 b3 b4 b5 : Int) : (std PP w0).bq .eql tRep X Y (.agg #[.int .i64 a0, .int .i64 a1, .int .i64 a2, .int .i64 a3, .int .i64 a4, .int .i64 a5]) (.agg #[.int .i64 b0, .int .i64 b1, .int .i64 b2, .int .i64 b3, .int .i64 b4, .int .i64 b5]) = some (.bool (decide ((⟨a0, a1, a2, a3, a4, a5⟩ : Rep) = ⟨b0, b1, b2, b3, b4, b5⟩))) := eqRep ⟨a0, a1, a2, a3, a4, a5⟩ ⟨b0, b1, b2, b3, b4, b5⟩
theorem neRepU {X Y : Operand} (a0 a1 a2 a3 a4 a5 b0 b1 b2 b3 b4 b5 : Int) : (std PP w0).bq .neq tRep X Y (.agg #[.int .i64 a0, .int .i64 a1, .int .i64 a2, .int .i64 a3, .int .i64 a4, .int .i64 a5]) (.agg #[.int .i64 b0, .int .i64 b1, .int .i64 b2, .int .i64 b3, .int .i64 b4, .int .i64 b5]) = some (.bool (!decide ((⟨a0, a1, a2, a3, a4, a5⟩ : Rep) = ⟨b0, b1, b2, b3, b4, b5⟩))) := neRep ⟨a0, a1, a2, a3, a4, a5⟩ ⟨b0, b1, b2, b3, b4, b5⟩
theorem bR0 (x : Int) : (std PP w0).bld tRep [(0, .int .i64 x)] = some (.agg #[.int .i64 x, .int .i64 0, .int .i64 0, .int .i64 0, .int .i64 0, .int .i64 0]) := by kernel_rfl
theorem bR2 (x : Int) : (std PP w0).bld tRep [(2, .int .i64 x)] = some (.agg #[.int .i64 0, .int .i64 0, .int .i64 0, .int .i64 x, .int .i64 0, .int .i64 0]) := by kernel_rfl
theorem bR4 (x : Int) : (std PP w0).bld tRep [(4, .int .i64 x)] = some (.agg #[.int .i64 0, .int .i64 0, .int .i64 0, .int .i64 0, .int .i64 0, .int .i64 x]) := by kernel_rfl
theorem bR23 (x y : Int) : (std PP w0).bld tRep [(2, .int .i64 x), (3, .int .i64 y)] = some (.agg #[.int .i64 0, .int .i64 0, .int .i64 0, .int .i64 x, .int .i64 y, .int .i64 0]) := by kernel_rfl
theorem bR123 (a g x y : Int) : (std PP w0).bld tRep [(1, .agg #[.int .i64 a, .int .i64 g]), (2, .int .i64 x), (3, .int .i64 y)] = some (.agg #[.int .i64 0, .int .i64 a, .int .i64 g, .int .i64 x, .int .i64 y, .int .i64 0]) := by kernel_rfl
theorem bE01 (x y : Int) : (std PP w0).bld 64 [(0, .int .i64 x), (1, .int .i64 y)] = some (.agg #[.int .i64 x, .int .i64 y]) := by kernel_rfl
theorem bJob (a g q d x y : Int) (i : Bool) : (std PP w0).bld 120 [(0, .agg #[.int .i64 a, .int .i64 g]), (1, .int .i64 q), (2, .int .i64 d), (3, .agg #[.int .i64 x, .int .i64 y]), (4, .bool i)] = some (.agg #[.int .i64 a, .int .i64 g, .int .i64 q, .int .i64 d, .int .i64 x, .int .i64 y, .bool i]) := by kernel_rfl
theorem appK {P : Program} {t ty e : TypeId} {z : Value} {k : Nat} (ht : P.underlying t = some (.slice e)) (he : ElemOk P e z k) {s x : SV} {l news : List Value} {Q : Asn} (h : Holds w0 F M (star (SlKA k s l) Q)) (hn : news.length = x.n * k) (hcn : Cells w0 M x.a news) (hnn : x.a = none → x.n = 0) (hone : ∀ v ∈ news, onecell v = true) (hk : 0 < k) (hb : s.n + x.n ≤ 137438953472)
    {K : VP} (hK : ∀ M' s', Holds w0 F M' (star (SlKA k s' (l ++ news)) Q) → K s'.v M') : (std P w0).app #[t, t] ty [SV.v s, SV.v x] K M := by
  obtain ⟨F', h1, h2, h3⟩ := Holds.slk h
  exact app_slk ht he h2 h1 hn hcn hnn hone hk hb fun M' s' l1 l2 _ => hK M' s' (h3 M' s' _ l2 l1)
theorem slkCells {k : Nat} {s : SV} {l : List Value} {Q : Asn} (h : Holds w0 F M (star (SlKA k s l) Q)) : Cells w0 M s.a l ∧ l.length = s.n * k ∧ (s.a = none → s.n = 0) := by
  obtain ⟨F', h1, _⟩ := Holds.slk h
  exact ⟨h1.cells, h1.len, fun hh => (h1.none hh).1⟩
theorem newB0 {P : Asn} (h : Holds w0 F M P) {K : VP} (hK : ∀ M' s', Mem.le M M' → Holds w0 F M' (star (SlKA 7 s' []) P) → K s'.v M') : (std PP w0).bsl 92 0 [] K M := by
  refine bsl_e (cells := #[]) Try.underlying92 W.e120 (by decide) (by kernel_rfl) fun b hb hw => ?_
  have l1 : Mem.le M (M.set b (.row (#[] : Array Value).toList 120)) := Mem.le_set _ hb
  exact hK _ ⟨some ⟨b, 0, none⟩, 0, 0⟩ l1 (Holds.newSlk h l1 (SlK.new (n := 0) hb (Own.new hw) rfl))
theorem newB1 {P : Asn} (h : Holds w0 F M P) (a g q d x y : Int) (i : Bool) {K : VP} (hK : ∀ M' s', Mem.le M M' → Holds w0 F M' (star (SlKA 7 s' [.int .i64 a, .int .i64 g, .int .i64 q, .int .i64 d, .int .i64 x, .int .i64 y, .bool i]) P) → K s'.v M') :
    (std PP w0).bsl 92 1 [(0, .agg #[.int .i64 a, .int .i64 g, .int .i64 q, .int .i64 d, .int .i64 x, .int .i64 y, .bool i])] K M := by
  refine bsl_e (n := 1) (cells := #[.int .i64 a, .int .i64 g, .int .i64 q, .int .i64 d, .int .i64 x, .int .i64 y, .bool i]) Try.underlying92 W.e120 (by decide) (by kernel_rfl) fun b hb hw => ?_
  have l1 : Mem.le M (M.set b (.row (#[.int .i64 a, .int .i64 g, .int .i64 q, .int .i64 d, .int .i64 x, .int .i64 y, .bool i] : Array Value).toList 120)) := Mem.le_set _ hb
  exact hK _ ⟨some ⟨b, 0, none⟩, 1, 1⟩ l1 (Holds.newSlk h l1 (SlK.new (n := 1) hb (Own.new hw) rfl))
end
section
variable {w0 : World} {F M : Mem} {R : VP} {b : Nat} {jobs : Int} {st : St} {Q : Asn}
theorem BookA.set {s : SV} (h : Holds w0 F M (star (row1 b [.int .i64 jobs, .int .i64 st.now, SV.v s] tB) (star (SlKA 7 s (jbV st.l)) Q))) {t : TypeId} (ht : cell1 PP t = true) {i : Nat} {j j' : JobA} (hj : st.l[i]? = some j) {f : Nat} (hf : f < 7) {v : Value} (hv : onecell v = true) (hcv : v.cells = #[v]) (he : (jbC (j, i)).set f v = jbC (j', i))
    {blk : Nat} (ha : s.a = some ⟨blk, 0, none⟩) {K : Mem → Prop} (hK : ∀ M', Holds w0 F M' (star (row1 b [.int .i64 jobs, .int .i64 st.now, SV.v s] tB) (star (SlKA 7 s (jbV (st.l.set i j'))) Q)) → K M') : (std PP w0).st t ⟨blk, i * 7 + f, none⟩ v (fun M' => K M') M := by
  refine Holds.stR (P := PP) (c := jbC) (l := st.l.zipIdx) jbC_len (by decide) ht h.rot (zip_get hj) hf hv hcv he ha fun M' h' => hK M' ?_
  rw [← zip_set] at h'
  exact h'.rot
theorem stepA_sched {c : Cmd} {was r : Rep} (hb : ¬ badQ c) (k : c.kind = 1) (h1 : ¬ jobs ≤ ((allE st.l).length : Int)) (h2 : ¬ (was.gen < 1 ∨ (findA st.l was.at_ was.gen).isSome = true)) :
    stepA jobs st c was = some (⟨st.now, st.l ++ [⟨was.at_, was.gen, c.queue, c.data, c.time, true⟩]⟩, { at_ := was.at_, gen := was.gen, time := c.time, data := c.data }) := by
  rw [stepA_1 hb k, if_neg h1, if_neg h2]
theorem Bqueue_ok {c : Cmd} {was : Rep} (h : Holds w0 F M (star (BookA b jobs st) Q)) (hL : st.l.length ≤ 1000) (hq : c.queue = 0 ∨ c.queue = 1) (hk : c.kind = 1 ∨ c.kind = 5 ∨ c.kind = 6 ∨ c.kind = 7)
    (h0 : ∀ M' st', (∀ st'', stepA jobs st c was ≠ some (st'', was)) → Holds w0 F M' (star (BookA b jobs st') Q) → R (.bool false) M')
    (h1 : ∀ M' st', stepA jobs st c was = some (st', was) → Holds w0 F M' (star (BookA b jobs st') Q) → R (.bool true) M') :
    C PP w0 Id.bB_queue #[.pointer (some ⟨b, 0, none⟩), c.v, was.v] R M := by
  apply bB_queue.go
  intro pts H
  unfold bB_queue.T
  intro b1 hb0 hbw
  have g1 := Holds.new h hb0 hbw [.int .i64 c.kind, .int .i64 c.queue, .int .i64 c.at_, .int .i64 c.gen, .int .i64 c.time, .int .i64 c.data] tCmd
  generalize M.set b1 _ = M1 at g1 ⊢
  intro b3 hb3 hbw3
  have g2 := Holds.new g1 hb3 hbw3 [.int .i64 was.why, .int .i64 was.at_, .int .i64 was.gen, .int .i64 was.time, .int .i64 was.data, .int .i64 was.n] tRep
  generalize M1.set b3 _ = M2 at g2 ⊢
  have g3 : Holds w0 F M2 (star (BookA b jobs st) (star (row1 b3 [.int .i64 was.why, .int .i64 was.at_, .int .i64 was.gen, .int .i64 was.time, .int .i64 was.data, .int .i64 was.n] tRep) (star (row1 b1 [.int .i64 c.kind, .int .i64 c.queue, .int .i64 c.at_, .int .i64 c.gen, .int .i64 c.time, .int .i64 c.data] tCmd) Q))) := Holds.mdr3 g2
  have hbq : ¬ badQ c := by unfold badQ; omega
  have L : ∀ {M' : Mem}, Own w0 M' b3 [.int .i64 was.why, .int .i64 was.at_, .int .i64 was.gen, .int .i64 was.time, .int .i64 was.data, .int .i64 was.n] tRep → (std PP w0).ld tRep ⟨b3, 0, none⟩ M' = some (.agg #[.int .i64 was.why, .int .i64 was.at_, .int .i64 was.gen, .int .i64 was.time, .int .i64 was.data, .int .i64 was.n]) ∧ (std PP w0).ld 25 ⟨b3, 1, none⟩ M' = some (.agg #[.int .i64 was.at_, .int .i64 was.gen]) ∧ rd w0 M' ⟨b3, 2, none⟩ = some (.int .i64 was.gen) := fun o =>
    ⟨ld_agg (cs := was.cells) W.g32 (fun j v hj => by rw [add_eq, rd_own o, Nat.zero_add]; exact hj), ld_agg (cs := [.int .i64 was.at_, .int .i64 was.gen]) W.g25 (fun j v hj => by
      rw [add_eq, rd_own o]
      match j, hj with
      | 0, hj => exact hj
      | 1, hj => exact hj), rd_own (o := 2) o⟩
  have LC : ∀ {M' : Mem}, Own w0 M' b1 [.int .i64 c.kind, .int .i64 c.queue, .int .i64 c.at_, .int .i64 c.gen, .int .i64 c.time, .int .i64 c.data] tCmd → rd w0 M' ⟨b1, 0, none⟩ = some (.int .i64 c.kind) ∧ rd w0 M' ⟨b1, 1, none⟩ = some (.int .i64 c.queue) ∧ rd w0 M' ⟨b1, 4, none⟩ = some (.int .i64 c.time) ∧ rd w0 M' ⟨b1, 5, none⟩ = some (.int .i64 c.data) := fun o => ⟨rd_own (o := 0) o, rd_own (o := 1) o, rd_own (o := 4) o, rd_own (o := 5) o⟩
  have fin : ∀ (M4 : Mem) (st' : St) (r : Rep), stepA jobs st c was = some (st', r) → Holds w0 F M4 (star (BookA b jobs st') (star (row1 b3 [.int .i64 was.why, .int .i64 was.at_, .int .i64 was.gen, .int .i64 was.time, .int .i64 was.data, .int .i64 was.n] tRep) (star (row1 b1 [.int .i64 c.kind, .int .i64 c.queue, .int .i64 c.at_, .int .i64 c.gen, .int .i64 c.time, .int .i64 c.data] tCmd) Q))) → R (.bool (decide (was = r))) M4 := by
    intro M4 st' r hs g
    have gq : Holds w0 F M4 (star (BookA b jobs st') Q) := by
      obtain ⟨F', k1, _, k2⟩ := g.last
      exact k2 _ _ k1.right.right
    by_cases hr : was = r
    · rw [decide_eq_true hr]
      exact h1 M4 st' (by rw [hs, ← hr]) gq
    · rw [decide_eq_false hr]
      exact h0 M4 st' (fun st'' hh => by rw [hs] at hh; cases hh; exact hr rfl) gq
  have dead : ∀ (M4 : Mem) (st' : St), (∀ st'', stepA jobs st c was ≠ some (st'', was)) → Holds w0 F M4 (star (BookA b jobs st') (star (row1 b3 [.int .i64 was.why, .int .i64 was.at_, .int .i64 was.gen, .int .i64 was.time, .int .i64 was.data, .int .i64 was.n] tRep) (star (row1 b1 [.int .i64 c.kind, .int .i64 c.queue, .int .i64 c.at_, .int .i64 c.gen, .int .i64 c.time, .int .i64 c.data] tCmd) Q))) → R (.bool false) M4 := by
    intro M4 st' hs g
    refine h0 M4 st' hs ?_
    obtain ⟨F', k1, _, k2⟩ := g.last
    exact k2 _ _ k1.right.right
  have hq0 : ¬ c.queue < 0 := by omega
  simp only [ld_one W.c3, add_eq, Nat.zero_add, (LC g3.right.right.own1).2.1, ob_v, shI_v]
  refine Bleft_ok g3 hL fun M3 s9 h9 => ?_
  rw [leftB_pos (by omega)] at h9
  have o3 := h9.right.right.own1
  have o1 := h9.right.right.right.own1
  have n9 := h9.lenE
  rw [shS_sv]
  simp only [ld_one W.c3, (LC o1).1, ob_v, shI_v]
  rw [bs_beq]
  split
  · -- Schedule
    rename_i k
    obtain ⟨s, hs⟩ := BookA.open_ h9.right
    have ej : rd w0 M3 ⟨b, 0, none⟩ = some (.int .i64 jobs) := rd_own (o := 0) hs.own1
    simp only [nc_v, ld_one W.c3, ej, ob_v, shI_v]
    refine Bleft_ok h9.right hL fun M4 s17 h17 => ?_
    rw [leftB_neg (by decide)] at h17
    have n17 := h17.lenE
    obtain ⟨s', hs'⟩ := BookA.open_ h17.right
    have ej' : rd w0 M4 ⟨b, 0, none⟩ = some (.int .i64 jobs) := rd_own (o := 0) hs'.own1
    have p3 := h17.right.right.own1
    have p1 := h17.right.right.right.own1
    rw [shS_sv]
    refine ⟨ej', ?_⟩
    simp only [ld_one W.c3, ld_one W.c2, add_eq, Nat.zero_add, Nat.reduceAdd, (L p3).1, (L p3).2.1, ob_v, shA_v, shCons_v, shI_v, shB_v, shNil_v, bR0, eqRepU]
    rw [bs_decide, n17]
    split
    · rename_i hc
      have hst := stepA_1 (jobs := jobs) (st := st) (was := was) hbq k
      rw [if_pos hc] at hst
      exact fin M4 st { why := 13 } hst h17.right
    · rename_i hc
      have hc' : ¬ jobs ≤ ((allE st.l).length : Int) := hc
      have hfd : ∀ (M5 : Mem), Mem.le M4 M5 → (findA st.l was.at_ was.gen).isSome = true → R (.bool false) M5 := fun M5 l5 hf => by
        refine dead M5 st (fun st'' hh => ?_) (h17.right.le l5)
        rw [stepA_1 hbq k, if_neg hc', if_pos (.inr hf)] at hh
        cases hh
      refine Bfind_ok h17.right hL (fun hf M5 l5 => ?_) (fun i j hf hj hin M5 l5 => ?_) fun i j hf hj hin M5 l5 => ?_
      · simp only [shT_v, shCons_v, shI_v, shNil_v]
        rw [show ((22 : Int) != 22) = false from rfl, bs_false]
        have h5 := h17.right.le l5
        have q3 := h5.right.own1
        have q1 := h5.right.right.own1
        simp only [ld_one W.c3, add_eq, Nat.zero_add, Nat.reduceAdd, (L q3).2.2, ob_v, shI_v]
        rw [bs_decide]
        split
        · rename_i hg
          refine dead M5 st (fun st'' hh => ?_) h5
          rw [stepA_1 hbq k, if_neg hc', if_pos (.inl hg)] at hh
          cases hh
        · rename_i hg
          have hst := stepA_sched (was := was) (r := was) hbq k hc' (fun hh => by
            rcases hh with hh | hh
            · exact hg hh
            · rw [hf] at hh; cases hh)
          simp only [ld_one W.c3, ld_one W.c2, add_eq, Nat.zero_add, Nat.reduceAdd, (L q3).1, (L q3).2.1, (LC q1).2.2.1, (LC q1).2.2.2, ob_v, shA_v, shCons_v, shI_v, shB_v, shNil_v, bR123, neRepU]
          rw [bs_not, bs_decide]
          split
          · rename_i hr
            have hr' : was = { at_ := was.at_, gen := was.gen, time := c.time, data := c.data } := hr
            rw [H.J1]
            unfold bB_queue.J1.T
            obtain ⟨s5, hs5⟩ := BookA.open_ h5
            have ns5 := BookA.n hs5
            have eb : rd w0 M5 ⟨b, 2, none⟩ = some (SV.v s5) := rd_own (o := 2) hs5.own1
            simp only [nc_v, ld_one W.c3, ld_one W.c2, ld_one W.c92, add_eq, Nat.zero_add, Nat.reduceAdd, eb, shS_sv, (L q3).2.1, (LC q1).2.1, (LC q1).2.2.1, (LC q1).2.2.2, ob_v, shA_v, shCons_v, shI_v, shB_v, shNil_v, bE01, bJob]
            have ec5 := slkCells hs5.right
            have put : ∀ (M9 : Mem) (s' : SV) (X : Asn), Holds w0 F M9 (star (SlKA 7 s' ([] ++ jbV st.l ++ [.int .i64 was.at_, .int .i64 was.gen, .int .i64 c.queue, .int .i64 c.data, .int .i64 c.time, .int .i64 ((s5.n : Nat) : Int), .bool true])) (star X (star (row1 b [.int .i64 jobs, .int .i64 st.now, SV.v s5] tB) (star (SlKA 7 s5 (jbV st.l)) (star (row1 b3 [.int .i64 was.why, .int .i64 was.at_, .int .i64 was.gen, .int .i64 was.time, .int .i64 was.data, .int .i64 was.n] tRep) (star (row1 b1 [.int .i64 c.kind, .int .i64 c.queue, .int .i64 c.at_, .int .i64 c.gen, .int .i64 c.time, .int .i64 c.data] tCmd) Q)))))) →
                (std PP w0).st 92 ⟨b, 2, none⟩ (SV.v s') (fun M374 => R (.bool true) M374) M9 := by
              intro M9 s' X h9
              have h10 := h9.mdr3
              refine st_one W.c92 h10.own1 (by simp) rfl rfl ?_
              have h11 := h10.upd1 (cs' := [.int .i64 jobs, .int .i64 st.now, SV.v s']) (e' := tB)
              refine h1 _ ⟨st.now, st.l ++ [⟨was.at_, was.gen, c.queue, c.data, c.time, true⟩]⟩ (by rw [hst]; exact congrArg (fun r => some (_, r)) hr'.symm) ?_
              refine BookA.close (s := s') ?_
              show Holds w0 F _ (star _ (star (SlKA 7 s' (jbV (st.l ++ [⟨was.at_, was.gen, c.queue, c.data, c.time, true⟩]))) Q))
              rw [jbV_app]
              rw [List.nil_append, ns5] at h11
              obtain ⟨F1, k1, _, k2⟩ := h11.last
              refine k2 _ _ ?_
              obtain ⟨F2, k3, _, k4⟩ := k1.last
              exact k4 _ _ k3.right.right.right.right
            have one : ∀ n : Int, ∀ v ∈ [Value.int .i64 was.at_, .int .i64 was.gen, .int .i64 c.queue, .int .i64 c.data, .int .i64 c.time, .int .i64 n, .bool true], onecell v = true := fun n v hv => by
              simp only [List.mem_cons, List.not_mem_nil, or_false] at hv
              rcases hv with rfl | rfl | rfl | rfl | rfl | rfl | rfl <;> rfl
            have hs1000 : s5.n ≤ 1000 := by omega
            refine ⟨?_, ?_⟩
            · refine newB0 hs5 fun M6 s363 l6 h6 => ?_
              rw [shS_sv]
              have r3 := h6.right.right.right.own1
              have r1 := h6.right.right.right.right.own1
              refine ⟨rd_own (o := 2) h6.right.own1, (L r3).2.1, (LC r1).2.1, (LC r1).2.2.2, (LC r1).2.2.1, rd_own (o := 2) h6.right.own1, ?_, ?_⟩
              · have e6 := slkCells h6.right.right
                have n363 : s363.n = 0 := by have := (slkCells h6).2.1; simp at this; omega
                refine appK Try.underlying92 W.e120 h6 e6.2.1 e6.1 e6.2.2 (jbV_one _) (by decide) (by omega) fun M7 s366 h7 => ?_
                rw [shS_sv]
                have t3 := h7.right.right.right.own1
                have t1 := h7.right.right.right.right.own1
                refine ⟨(L t3).2.1, (LC t1).2.1, (LC t1).2.2.2, (LC t1).2.2.1, rd_own (o := 2) h7.right.own1, ?_⟩
                refine newB1 h7 _ _ _ _ _ _ _ fun M8 s369 l8 h8 => ?_
                rw [shS_sv]
                have e8 := slkCells h8
                have n366 : s366.n = s5.n := by
                  have := (slkCells h8.right).2.1
                  rw [List.nil_append, jbV_len] at this; omega
                refine appK Try.underlying92 W.e120 h8.rot e8.2.1 e8.1 e8.2.2 (one _) (by decide) (by have := e8.2.1; simp at this; omega) fun M9 s372 h9 => ?_
                rw [shS_sv]
                exact put M9 s372 _ h9
              · refine newB1 h6 _ _ _ _ _ _ _ fun M7 s377 l7 h7 => ?_
                rw [shS_sv]
                refine ⟨rd_own (o := 2) h7.right.right.own1, ?_⟩
                have e6 := slkCells h7.right.right.right
                have n363 : s363.n = 0 := by have := (slkCells h6).2.1; simp at this; omega
                refine appK Try.underlying92 W.e120 h7.rot e6.2.1 e6.1 e6.2.2 (jbV_one _) (by decide) (by omega) fun M8 s380 h8 => ?_
                rw [shS_sv]
                have e8 := slkCells h8.right
                have n380 : s380.n = s5.n := by
                  have := (slkCells h8).2.1
                  rw [List.nil_append, jbV_len] at this; omega
                refine appK Try.underlying92 W.e120 h8 e8.2.1 e8.1 e8.2.2 (one _) (by decide) (by have := e8.2.1; simp at this; omega) fun M9 s383 h9 => ?_
                rw [shS_sv]
                exact put M9 s383 _ h9
            · refine newB1 hs5 _ _ _ _ _ _ _ fun M6 s388 l6 h6 => ?_
              rw [shS_sv]
              refine ⟨rd_own (o := 2) h6.right.own1, ?_⟩
              refine newB0 h6 fun M7 s391 l7 h7 => ?_
              rw [shS_sv]
              refine ⟨rd_own (o := 2) h7.right.right.own1, ?_⟩
              have e6 := slkCells h7.right.right.right
              have n391 : s391.n = 0 := by have := (slkCells h7).2.1; simp at this; omega
              refine appK Try.underlying92 W.e120 h7 e6.2.1 e6.1 e6.2.2 (jbV_one _) (by decide) (by omega) fun M8 s394 h8 => ?_
              rw [shS_sv]
              have e8 := slkCells h8.right
              have n394 : s394.n = s5.n := by
                have := (slkCells h8).2.1
                rw [List.nil_append, jbV_len] at this; omega
              refine appK Try.underlying92 W.e120 h8 e8.2.1 e8.1 e8.2.2 (one _) (by decide) (by have := e8.2.1; simp at this; omega) fun M9 s397 h9 => ?_
              rw [shS_sv]
              exact put M9 s397 _ h9
          · rename_i hr
            refine dead M5 st (fun st'' hh => ?_) h5
            rw [hst] at hh
            simp only [Option.some.injEq, Prod.mk.injEq] at hh
            exact hr hh.2.symm
      · simp only [shT_v, shCons_v, shI_v, shNil_v]
        rw [show ((23 : Int) != 22) = true from rfl, bs_true]
        exact hfd M5 l5 (by rw [hf]; rfl)
      · simp only [shT_v, shCons_v, shI_v, shNil_v]
        rw [show ((0 : Int) != 22) = true from rfl, bs_true]
        exact hfd M5 l5 (by rw [hf]; rfl)
  · rename_i k1
    rw [bs_beq]
    split
    · -- Fire
      rename_i k
      have hst := stepA_5 (jobs := jobs) (st := st) (was := was) hbq k
      rw [bs_beq]
      simp only [ld_one W.c3, ld_one W.c2, add_eq, Nat.zero_add, Nat.reduceAdd, (L o3).1, ob_v, shA_v, shCons_v, shI_v, shB_v, shNil_v, bR0, eqRepU]
      split
      · rename_i hz
        have hnil : qE c.queue st.l = [] := List.eq_nil_of_length_eq_zero (by omega)
        rw [hnil] at hst
        exact fin M3 st { why := 28 } hst h9.right
      · rename_i hz
        cases hl : qE c.queue st.l with
        | nil => rw [hl] at n9; simp at n9; omega
        | cons e t =>
          have hhd : (qE c.queue st.l).head? = some e := by rw [hl]; rfl
          obtain ⟨i, j, hj, hin, hjq, he⟩ := qE_head hhd
          subst he
          rw [hhd] at hst
          simp only at hst
          have r9 := h9.rdE
          have he0 : (qE c.queue st.l)[0]? = some (j.key, (i : Int)) := by rw [hl]; rfl
          obtain ⟨a9, ha9, hr9⟩ := r9.ad he0
          have hra := hr9 M3 (Mem.le_refl _)
          rw [Nat.zero_mul, Nat.zero_add] at hra
          obtain ⟨s, hs⟩ := BookA.open_ h9.right
          have ns := BookA.n hs
          have en : rd w0 M3 ⟨b, 1, none⟩ = some (.int .i64 st.now) := rd_own (o := 1) hs.own1
          have eb : rd w0 M3 ⟨b, 2, none⟩ = some (SV.v s) := rd_own (o := 2) hs.own1
          have hbd : (0 : Int) ≤ 0 ∧ (0 : Int) < ((s9.n : Nat) : Int) := ⟨by omega, by omega⟩
          simp only [ha9, nc_v, Int.toNat_zero, Nat.zero_mul, ld_one W.c2, add_eq, Nat.zero_add, hra.1, en, ob_v, shI_v]
          refine ⟨hbd, ?_⟩
          rw [bs_decide]
          split
          · rename_i hd
            rw [if_pos hd] at hst
            exact fin M3 st { why := 28 } hst h9.right
          · rename_i hd
            rw [if_neg hd] at hst
            simp only [Int.toNat_natCast, hj] at hst
            rw [H.J2]
            unfold bB_queue.J2.T
            obtain ⟨blk, hsa, _, hin2, hrd⟩ := BookA.job hs hj
            have ead : Addr.add (a9.add 0) 1 = a9.add 1 := by rw [add_add]
            simp only [ha9, hsa, nc_v, Int.toNat_zero, Nat.zero_mul, ld_one W.c92, ld_one W.c2, add_eq, Nat.zero_add, ead, hra.2, eb, ob_v, shI_v, shS_sv, Int.toNat_natCast]
            refine ⟨hbd, ⟨by omega, by omega⟩, ?_⟩
            refine BookA.set hs W.c4 (j' := { j with inn := false }) hj (by decide) rfl rfl rfl hsa fun M4 h4 => ?_
            have h4' : Holds w0 F M4 (star (row1 b [.int .i64 jobs, .int .i64 st.now, SV.v s] tB) (star (SlKA 7 s (jbV (⟨st.now, st.l.set i { j with inn := false }⟩ : St).l)) (star (row1 b3 [.int .i64 was.why, .int .i64 was.at_, .int .i64 was.gen, .int .i64 was.time, .int .i64 was.data, .int .i64 was.n] tRep) (star (row1 b1 [.int .i64 c.kind, .int .i64 c.queue, .int .i64 c.at_, .int .i64 c.gen, .int .i64 c.time, .int .i64 c.data] tCmd) Q)))) := h4
            have u3 := h4'.right.right.own1
            obtain ⟨blk', hsa', _, _, hrd4⟩ := BookA.job (st := ⟨st.now, st.l.set i { j with inn := false }⟩) h4' (i := i) (j := { j with inn := false }) (List.getElem?_set_self (List.getElem?_eq_some_iff.1 hj).1)
            rw [hsa] at hsa'; cases hsa'
            have f3 : rd w0 M4 ⟨blk, i * 7 + 3, none⟩ = some (.int .i64 j.data) := hrd4 3 _ rfl
            have f4 : rd w0 M4 ⟨blk, i * 7 + 4, none⟩ = some (.int .i64 j.key) := hrd4 4 _ rfl
            have lda : (std PP w0).ld 25 ⟨blk, i * 7, none⟩ M4 = some (.agg #[.int .i64 j.at_, .int .i64 j.gen]) := ld_agg (cs := [.int .i64 j.at_, .int .i64 j.gen]) W.g25 (fun f v hf => by
              rw [add_eq]
              match f, hf with
              | 0, hf => exact hrd4 0 _ hf
              | 1, hf => exact hrd4 1 _ hf)
            simp only [ld_one W.c3, ld_one W.c2, (L u3).1, lda, f3, f4, ob_v, shA_v, shCons_v, shI_v, shB_v, shNil_v, bR123, eqRepU]
            exact fin M4 ⟨st.now, st.l.set i { j with inn := false }⟩ { at_ := j.at_, gen := j.gen, time := j.key, data := j.data } hst (BookA.close h4')
    · rename_i k5
      rw [bs_beq]
      split
      · -- Merge
        rename_i k
        have hst := stepA_6 (jobs := jobs) (st := st) (was := was) hbq k
        simp only [ld_one W.c3, add_eq, Nat.zero_add, Nat.reduceAdd, (L o3).1, (LC o1).2.1, ob_v, shA_v, shCons_v, shI_v, shB_v, shNil_v, bR0, eqRepU]
        rw [bs_beq]
        split
        · rename_i hz
          rw [if_pos hz] at hst
          exact fin M3 st { why := 25 } hst h9.right
        · rename_i hz
          rw [if_neg hz] at hst
          have hz1 : c.queue = 1 := by omega
          rw [hz1] at n9
          have key : ∀ (n i : Nat) (l' : List JobA) (M' : Mem), i ≤ st.l.length → st.l.length < i + n → l'.length = st.l.length → (∀ a, a < i → l'[a]? = (st.l[a]?).map fun j => { j with queue := 0 }) → (∀ a, i ≤ a → l'[a]? = st.l[a]?) →
              Holds w0 F M' (star (BookA b jobs ⟨st.now, l'⟩) (star (row1 b3 [.int .i64 was.why, .int .i64 was.at_, .int .i64 was.gen, .int .i64 was.time, .int .i64 was.data, .int .i64 was.n] tRep) (star (row1 b1 [.int .i64 c.kind, .int .i64 c.queue, .int .i64 c.at_, .int .i64 c.gen, .int .i64 c.time, .int .i64 c.data] tCmd) Q))) →
              bB_queue.L3 pts n (some ⟨b, 0, none⟩) ⟨b3, 0, none⟩ s9 (i : Int) M' := by
            intro n
            induction n with
            | zero => intro i l' M' e1 e2; omega
            | succ n ih =>
              intro i l' M' e1 e2 e3 e4 e5 g
              rw [H.L3]
              unfold bB_queue.L3.T
              obtain ⟨s, hs⟩ := BookA.open_ g
              have ns := BookA.n hs
              have eb : rd w0 M' ⟨b, 2, none⟩ = some (SV.v s) := rd_own (o := 2) hs.own1
              simp only [nc_v, ld_one W.c92, add_eq, Nat.zero_add, eb, ob_v, shS_sv]
              simp only at ns
              rw [bs_decide]
              split
              · have hlt : i < l'.length := by omega
                have hj := List.getElem?_eq_getElem hlt
                generalize l'[i] = j at hj
                obtain ⟨blk, hsa, _, hin2, hrd⟩ := BookA.job (st := ⟨st.now, l'⟩) hs hj
                simp only [hsa, nc_v, Int.toNat_natCast, add_eq, Nat.zero_add]
                refine ⟨⟨by omega, by omega⟩, ?_⟩
                refine BookA.set (st := ⟨st.now, l'⟩) hs W.c3 (j' := { j with queue := 0 }) hj (by decide) rfl rfl rfl hsa fun M4 h4 => ?_
                rw [i64_succ (by omega)]
                refine ih (i + 1) (l'.set i { j with queue := 0 }) M4 (by omega) (by omega) (by rw [List.length_set, e3]) (fun a ha => ?_) (fun a ha => ?_) (BookA.close (st := ⟨st.now, l'.set i { j with queue := 0 }⟩) h4)
                · by_cases hai : a = i
                  · subst hai
                    rw [List.getElem?_set_self hlt, ← e5 a (Nat.le_refl _), hj]; rfl
                  · rw [List.getElem?_set_ne (Ne.symm hai)]; exact e4 a (by omega)
                · rw [List.getElem?_set_ne (by omega)]; exact e5 a (by omega)
              · have hii : i = st.l.length := by omega
                have hl' : l' = st.l.map fun j => { j with queue := 0 } := List.ext_getElem? fun a => by
                  rw [List.getElem?_map]
                  by_cases ha : a < i
                  · exact e4 a ha
                  · rw [e5 a (by omega), List.getElem?_eq_none (by omega)]; rfl
                have u3 := g.right.own1
                simp only [(L u3).1, ob_v, shA_v, shCons_v, shI_v, shB_v, shNil_v, bR4, eqRepU]
                rw [hl'] at g
                rw [n9]
                exact fin M' _ { n := ((qE 1 st.l).length : Int) } hst g
          exact ⟨_, key (st.l.length + 1) 0 st.l M3 (by omega) (by omega) rfl (fun a ha => by omega) (fun a _ => rfl) h9.right⟩
      · -- Count
        rename_i k6
        have k : c.kind = 7 := by omega
        have hst := stepA_7 (jobs := jobs) (st := st) (was := was) hbq k
        simp only [(L o3).1, ob_v, shA_v, shCons_v, shI_v, shB_v, shNil_v, bR4, eqRepU]
        rw [n9]
        exact fin M3 st { n := ((qE c.queue st.l).length : Int) } hst h9.right
end
end Go.Proofs.Ytedofpnjmnkedaa.HL
namespace Go.Proofs.Ytedofpnjmnkedaa.HL
open Go.RowKit (Below)
open Go.Proofs
section
variable {w0 : World} {F M : Mem} {R : VP} {b : Nat} {jobs : Int} {st : St} {Q : Asn}
theorem Btake_ok {c : Cmd} {was : Rep} (h : Holds w0 F M (star (BookA b jobs st) Q)) (hL : st.l.length ≤ 1000) (hn : In64 st.now) (hct : In64 c.time)
    (h0 : ∀ M' st', (∀ st'', stepA jobs st c was ≠ some (st'', was)) → Holds w0 F M' (star (BookA b jobs st') Q) → R (.bool false) M')
    (h1 : ∀ M' st', stepA jobs st c was = some (st', was) → Holds w0 F M' (star (BookA b jobs st') Q) → R (.bool true) M') :
    C PP w0 Id.bB_take #[.pointer (some ⟨b, 0, none⟩), c.v, was.v] R M := by
  apply bB_take.go
  intro pts H
  unfold bB_take.T
  intro b1 hb0 hbw
  have g1 := Holds.new h hb0 hbw [.int .i64 c.kind, .int .i64 c.queue, .int .i64 c.at_, .int .i64 c.gen, .int .i64 c.time, .int .i64 c.data] tCmd
  generalize M.set b1 _ = M1 at g1 ⊢
  intro b3 hb3 hbw3
  have g2 := Holds.new g1 hb3 hbw3 [.int .i64 was.why, .int .i64 was.at_, .int .i64 was.gen, .int .i64 was.time, .int .i64 was.data, .int .i64 was.n] tRep
  generalize M1.set b3 _ = M2 at g2 ⊢
  have g3 : Holds w0 F M2 (star (BookA b jobs st) (star (row1 b3 [.int .i64 was.why, .int .i64 was.at_, .int .i64 was.gen, .int .i64 was.time, .int .i64 was.data, .int .i64 was.n] tRep) (star (row1 b1 [.int .i64 c.kind, .int .i64 c.queue, .int .i64 c.at_, .int .i64 c.gen, .int .i64 c.time, .int .i64 c.data] tCmd) Q))) := Holds.mdr3 g2
  have L : ∀ {M' : Mem}, Own w0 M' b3 [.int .i64 was.why, .int .i64 was.at_, .int .i64 was.gen, .int .i64 was.time, .int .i64 was.data, .int .i64 was.n] tRep → (std PP w0).ld tRep ⟨b3, 0, none⟩ M' = some (.agg #[.int .i64 was.why, .int .i64 was.at_, .int .i64 was.gen, .int .i64 was.time, .int .i64 was.data, .int .i64 was.n]) := fun o =>
    ld_agg (cs := was.cells) W.g32 (fun j v hj => by rw [add_eq, rd_own o, Nat.zero_add]; exact hj)
  have LC : ∀ {M' : Mem}, Own w0 M' b1 [.int .i64 c.kind, .int .i64 c.queue, .int .i64 c.at_, .int .i64 c.gen, .int .i64 c.time, .int .i64 c.data] tCmd → rd w0 M' ⟨b1, 0, none⟩ = some (.int .i64 c.kind) ∧ rd w0 M' ⟨b1, 1, none⟩ = some (.int .i64 c.queue) ∧ rd w0 M' ⟨b1, 4, none⟩ = some (.int .i64 c.time) ∧ (std PP w0).ld tCmd ⟨b1, 0, none⟩ M' = some (.agg #[.int .i64 c.kind, .int .i64 c.queue, .int .i64 c.at_, .int .i64 c.gen, .int .i64 c.time, .int .i64 c.data]) ∧ (std PP w0).ld 25 ⟨b1, 2, none⟩ M' = some (.agg #[.int .i64 c.at_, .int .i64 c.gen]) := fun o =>
    ⟨rd_own (o := 0) o, rd_own (o := 1) o, rd_own (o := 4) o, ld_agg (cs := c.cells) W.g27 (fun j v hj => by rw [add_eq, rd_own o, Nat.zero_add]; exact hj), ld_agg (cs := [.int .i64 c.at_, .int .i64 c.gen]) W.g25 (fun j v hj => by
      rw [add_eq, rd_own o]
      match j, hj with
      | 0, hj => exact hj
      | 1, hj => exact hj)⟩
  have strip : ∀ {M4 : Mem} {st' : St}, Holds w0 F M4 (star (BookA b jobs st') (star (row1 b3 [.int .i64 was.why, .int .i64 was.at_, .int .i64 was.gen, .int .i64 was.time, .int .i64 was.data, .int .i64 was.n] tRep) (star (row1 b1 [.int .i64 c.kind, .int .i64 c.queue, .int .i64 c.at_, .int .i64 c.gen, .int .i64 c.time, .int .i64 c.data] tCmd) Q))) → Holds w0 F M4 (star (BookA b jobs st') Q) := fun g => by
    obtain ⟨F', k1, _, k2⟩ := g.last
    exact k2 _ _ k1.right.right
  have fin : ∀ (M4 : Mem) (st' : St) (r : Rep), stepA jobs st c was = some (st', r) → Holds w0 F M4 (star (BookA b jobs st') (star (row1 b3 [.int .i64 was.why, .int .i64 was.at_, .int .i64 was.gen, .int .i64 was.time, .int .i64 was.data, .int .i64 was.n] tRep) (star (row1 b1 [.int .i64 c.kind, .int .i64 c.queue, .int .i64 c.at_, .int .i64 c.gen, .int .i64 c.time, .int .i64 c.data] tCmd) Q))) → R (.bool (decide (was = r))) M4 := by
    intro M4 st' r hs g
    by_cases hr : was = r
    · rw [decide_eq_true hr]
      exact h1 M4 st' (by rw [hs, ← hr]) (strip g)
    · rw [decide_eq_false hr]
      exact h0 M4 st' (fun st'' hh => by rw [hs] at hh; cases hh; exact hr rfl) (strip g)
  have o3 := g3.right.own1
  have o1 := g3.right.right.own1
  have keyJ2 : ¬ (c.kind = 1 ∨ c.kind = 5 ∨ c.kind = 6 ∨ c.kind = 7) → ∀ t : Bool, (t = true ↔ (c.kind = 2 ∨ c.kind = 3)) → bB_take.J2 pts (some ⟨b, 0, none⟩) ⟨b1, 0, none⟩ ⟨b3, 0, none⟩ c.kind t M2 := by
    intro hnq t ht
    rw [H.J2]
    unfold bB_take.J2.T
    cases t with
    | true =>
      have hk := ht.1 rfl
      have hst := stepA_23 (jobs := jobs) (st := st) (was := was) hk
      rw [bs_true]
      simp only [add_eq, Nat.zero_add, (LC o1).2.2.2.2, ob_v, shA_v, shCons_v, shI_v, shNil_v]
      refine Bfind_ok g3 hL (fun hf M5 l5 => ?_) (fun i j hf hj hin M5 l5 => ?_) fun i j hf hj hin M5 l5 => ?_
      · simp only [hf] at hst
        have h5 := g3.le l5
        simp only [shT_v, shCons_v, shI_v, shNil_v]
        rw [show ((22 : Int) != 0) = true from rfl, bs_true]
        simp only [(L h5.right.own1), ob_v, shA_v, shCons_v, shI_v, shB_v, shNil_v, bR0, eqRepU]
        exact fin M5 st { why := 22 } hst h5
      · simp only [hf, hj, if_pos hin] at hst
        have h5 := g3.le l5
        simp only [shT_v, shCons_v, shI_v, shNil_v]
        rw [show ((23 : Int) != 0) = true from rfl, bs_true]
        simp only [(L h5.right.own1), ob_v, shA_v, shCons_v, shI_v, shB_v, shNil_v, bR0, eqRepU]
        exact fin M5 st { why := 23 } hst h5
      · have h5 := g3.le l5
        have q3 := h5.right.own1
        have q1 := h5.right.right.own1
        obtain ⟨s, hs⟩ := BookA.open_ h5
        have eb : rd w0 M5 ⟨b, 2, none⟩ = some (SV.v s) := rd_own (o := 2) hs.own1
        obtain ⟨blk, hsa, hns, hin2, hrd⟩ := BookA.job hs hj
        have hbd : 0 ≤ (i : Int) ∧ (i : Int) < ((s.n : Nat) : Int) := ⟨by omega, by omega⟩
        simp only [hf, hj, if_neg (show ¬ j.inn = false by rw [hin]; decide)] at hst
        simp only [shT_v, shCons_v, shI_v, shNil_v]
        rw [show ((0 : Int) != 0) = false from rfl, bs_false]
        simp only [ld_one W.c3, (LC q1).1, ob_v, shI_v]
        rw [bs_beq]
        split
        · rename_i k
          rw [if_pos k] at hst
          simp only [nc_v, ld_one W.c92, add_eq, Nat.zero_add, eb, ob_v, shS_sv, hsa, Int.toNat_natCast]
          refine ⟨hbd, ?_⟩
          refine BookA.set hs W.c4 (j' := { j with inn := false }) hj (by decide) rfl rfl rfl hsa fun M6 h6 => ?_
          have h6' : Holds w0 F M6 (star (row1 b [.int .i64 jobs, .int .i64 st.now, SV.v s] tB) (star (SlKA 7 s (jbV (⟨st.now, st.l.set i { j with inn := false }⟩ : St).l)) (star (row1 b3 [.int .i64 was.why, .int .i64 was.at_, .int .i64 was.gen, .int .i64 was.time, .int .i64 was.data, .int .i64 was.n] tRep) (star (row1 b1 [.int .i64 c.kind, .int .i64 c.queue, .int .i64 c.at_, .int .i64 c.gen, .int .i64 c.time, .int .i64 c.data] tCmd) Q)))) := h6
          obtain ⟨blk', hsa', _, _, hrd6⟩ := BookA.job (st := ⟨st.now, st.l.set i { j with inn := false }⟩) h6' (i := i) (j := { j with inn := false }) (List.getElem?_set_self (List.getElem?_eq_some_iff.1 hj).1)
          rw [hsa] at hsa'; cases hsa'
          have f3 : rd w0 M6 ⟨blk, i * 7 + 3, none⟩ = some (.int .i64 j.data) := hrd6 3 _ rfl
          have f4 : rd w0 M6 ⟨blk, i * 7 + 4, none⟩ = some (.int .i64 j.key) := hrd6 4 _ rfl
          have eb6 : rd w0 M6 ⟨b, 2, none⟩ = some (SV.v s) := rd_own (o := 2) h6'.own1
          simp only [(L h6'.right.right.own1), nc_v, ld_one W.c92, ld_one W.c3, ld_one W.c2, add_eq, Nat.zero_add, eb6, hsa, Int.toNat_natCast, f3, f4, ob_v, shS_sv, shA_v, shCons_v, shI_v, shB_v, shNil_v, bR23, eqRepU]
          exact ⟨hbd, hbd, fin M6 ⟨st.now, st.l.set i { j with inn := false }⟩ { time := j.key, data := j.data } hst (BookA.close h6')⟩
        · rename_i k
          rw [if_neg k] at hst
          have f4 : rd w0 M5 ⟨blk, i * 7 + 4, none⟩ = some (.int .i64 j.key) := hrd 4 _ rfl
          simp only [nc_v, ld_one W.c92, ld_one W.c2, add_eq, Nat.zero_add, eb, (LC q1).2.2.1, ob_v, shS_sv, shI_v, hsa, Int.toNat_natCast, f4]
          refine ⟨hbd, ?_⟩
          rw [bs_decide]
          split
          · rename_i hk2
            rw [if_pos (show j.key < c.time from hk2)] at hst
            simp only [(L q3), ob_v, shA_v, shCons_v, shI_v, shB_v, shNil_v, bR0, eqRepU]
            exact fin M5 st { why := 26 } hst h5
          · rename_i hk2
            rw [if_neg (show ¬ j.key < c.time from hk2)] at hst
            refine ⟨hbd, ?_⟩
            refine BookA.set hs W.c2 (j' := { j with key := c.time }) hj (by decide) rfl rfl rfl hsa fun M6 h6 => ?_
            have h6' : Holds w0 F M6 (star (row1 b [.int .i64 jobs, .int .i64 st.now, SV.v s] tB) (star (SlKA 7 s (jbV (⟨st.now, st.l.set i { j with key := c.time }⟩ : St).l)) (star (row1 b3 [.int .i64 was.why, .int .i64 was.at_, .int .i64 was.gen, .int .i64 was.time, .int .i64 was.data, .int .i64 was.n] tRep) (star (row1 b1 [.int .i64 c.kind, .int .i64 c.queue, .int .i64 c.at_, .int .i64 c.gen, .int .i64 c.time, .int .i64 c.data] tCmd) Q)))) := h6
            obtain ⟨blk', hsa', _, _, hrd6⟩ := BookA.job (st := ⟨st.now, st.l.set i { j with key := c.time }⟩) h6' (i := i) (j := { j with key := c.time }) (List.getElem?_set_self (List.getElem?_eq_some_iff.1 hj).1)
            rw [hsa] at hsa'; cases hsa'
            have f3 : rd w0 M6 ⟨blk, i * 7 + 3, none⟩ = some (.int .i64 j.data) := hrd6 3 _ rfl
            have eb6 : rd w0 M6 ⟨b, 2, none⟩ = some (SV.v s) := rd_own (o := 2) h6'.own1
            simp only [(L h6'.right.right.own1), (LC h6'.right.right.right.own1).2.2.1, nc_v, ld_one W.c92, ld_one W.c3, ld_one W.c2, add_eq, Nat.zero_add, eb6, hsa, Int.toNat_natCast, f3, ob_v, shS_sv, shA_v, shCons_v, shI_v, shB_v, shNil_v, bR23, eqRepU]
            exact ⟨hbd, fin M6 ⟨st.now, st.l.set i { j with key := c.time }⟩ { time := c.time, data := j.data } hst (BookA.close h6')⟩
    | false =>
      have hk : ¬ (c.kind = 2 ∨ c.kind = 3) := fun hh => by have := ht.2 hh; cases this
      rw [bs_false, bs_beq]
      split
      · rename_i k
        have hst := stepA_4 (jobs := jobs) (st := st) (was := was) k
        simp only [ld_one W.c2, add_eq, Nat.zero_add, (LC o1).2.2.1, ob_v, shI_v]
        rw [bs_decide]
        split
        · rename_i ht
          rw [if_pos ht] at hst
          simp only [(L o3), ob_v, shA_v, shCons_v, shI_v, shB_v, shNil_v, bR0, eqRepU]
          exact fin M2 st { why := 1 } hst g3
        · rename_i ht
          rw [if_neg ht] at hst
          obtain ⟨s, hs⟩ := BookA.open_ g3
          have en : rd w0 M2 ⟨b, 1, none⟩ = some (.int .i64 st.now) := rd_own (o := 1) hs.own1
          simp only [nc_v, ld_one W.c2, add_eq, Nat.zero_add, en, ob_v, shI_v]
          refine rAdd_ok hn hct ?_
          simp only [shI_v]
          refine st_one W.c2 hs.own1 (by simp) rfl rfl ?_
          have h6 := hs.upd1 (cs' := [.int .i64 jobs, .int .i64 (addc st.now c.time), SV.v s]) (e' := tB)
          change Holds w0 F (M2.set b (.row [.int .i64 jobs, .int .i64 (addc st.now c.time), SV.v s] tB)) (star (row1 b [.int .i64 jobs, .int .i64 (⟨addc st.now c.time, st.l⟩ : St).now, SV.v s] tB) (star (SlKA 7 s (jbV (⟨addc st.now c.time, st.l⟩ : St).l)) _)) at h6
          rw [show ([.int .i64 jobs, .int .i64 st.now, SV.v s] : List Value).set 1 (.int .i64 (addc st.now c.time)) = [.int .i64 jobs, .int .i64 (addc st.now c.time), SV.v s] from rfl]
          generalize M2.set b _ = M6 at h6 ⊢
          have en6 : rd w0 M6 ⟨b, 1, none⟩ = some (.int .i64 (addc st.now c.time)) := rd_own (o := 1) h6.own1
          simp only [(L h6.right.right.own1), nc_v, ld_one W.c2, add_eq, Nat.zero_add, en6, ob_v, shA_v, shCons_v, shI_v, shB_v, shNil_v, bR2, eqRepU]
          exact fin M6 ⟨addc st.now c.time, st.l⟩ { time := addc st.now c.time } hst (BookA.close h6)
      · rename_i k
        have hst := stepA_8 (jobs := jobs) (st := st) (was := was) (c := c) (by omega)
        simp only [(L o3), ob_v, shA_v, shCons_v, shI_v, shB_v, shNil_v, bR0, eqRepU]
        exact fin M2 st { why := 12 } hst g3
  have keyJ1 : ∀ t : Bool, (t = true ↔ (c.kind = 1 ∨ c.kind = 5 ∨ c.kind = 6 ∨ c.kind = 7)) → bB_take.J1 pts (some ⟨b, 0, none⟩) ⟨b1, 0, none⟩ ⟨b3, 0, none⟩ c.kind t M2 := by
    intro t ht
    rw [H.J1]
    unfold bB_take.J1.T
    cases t with
    | true =>
      have hk := ht.1 rfl
      rw [bs_true]
      have hcall : (c.queue = 0 ∨ c.queue = 1) → C PP w0 Id.bB_queue #[.pointer (some ⟨b, 0, none⟩), c.v, was.v] (fun v M => shB v fun b => R (.bool b) M) M2 := fun hq =>
        Bqueue_ok g3 hL hq hk (fun M5 st' hh g => by rw [shB_v]; exact h0 M5 st' hh (strip g)) fun M5 st' hh g => by rw [shB_v]; exact h1 M5 st' hh (strip g)
      simp only [ld_one W.c3, add_eq, Nat.zero_add, (LC o1).2.1, (LC o1).2.2.2.1, (L o3), ob_v, shA_v, shCons_v, shI_v, shB_v, shNil_v, bR0, eqRepU]
      rw [bs_bne]
      split
      · rename_i hq
        exact hcall (.inl hq)
      · rename_i hq
        rw [bs_bne]
        split
        · rename_i hq1
          exact hcall (.inr hq1)
        · rename_i hq1
          exact fin M2 st { why := 1 } (stepA_bad ⟨hk, by omega⟩) g3
    | false =>
      have hk : ¬ (c.kind = 1 ∨ c.kind = 5 ∨ c.kind = 6 ∨ c.kind = 7) := fun hh => by have := ht.2 hh; cases this
      rw [bs_false, bs_beq]
      split
      · rename_i k
        exact keyJ2 hk _ (by rw [k]; simp)
      · rename_i k
        refine keyJ2 hk _ ?_
        simp only [beq_iff_eq]
        constructor
        · intro hh; exact .inr hh
        · intro hh; omega
  simp only [ld_one W.c3, (LC o1).1, ob_v, shI_v]
  rw [bs_beq]
  split
  · rename_i k; exact keyJ1 _ (by rw [k]; simp)
  · rename_i k1
    rw [bs_beq]
    split
    · rename_i k; exact keyJ1 _ (by rw [k]; simp)
    · rename_i k2
      rw [bs_beq]
      split
      · rename_i k; exact keyJ1 _ (by rw [k]; simp)
      · rename_i k3
        refine keyJ1 _ ?_
        simp only [beq_iff_eq]
        constructor
        · intro hh; exact .inr (.inr (.inr hh))
        · intro hh; omega
theorem rBudget_ok {k n : Int} (h0 : ¬ (worstK k ∧ 1 ≤ n ∧ n ≤ 4096) → R (.tuple #[.int .i64 0, .bool false]) M) (h1 : worstK k ∧ 1 ≤ n ∧ n ≤ 4096 → R (.tuple #[.int .i64 (2000 + 1600 * (bl (n.toNat + 1) : Int)), .bool true]) M) : C PP w0 Id.r9_Budget #[.int .i64 k, .int .i64 n] R M := by
  apply r9_Budget.go
  unfold r9_Budget.T
  have hw : ∀ {K : VP}, K (.bool (decide (worstK k))) M → C PP w0 Id.r9_worst #[.int .i64 k] K M := by
    intro K hK
    apply r9_worst.go
    unfold r9_worst.T
    rw [bs_beq]
    split
    · rename_i e; rw [show decide (worstK k) = true from decide_eq_true (by unfold worstK; omega)] at hK; exact hK
    · rename_i e1
      rw [bs_beq]
      split
      · rename_i e; rw [show decide (worstK k) = true from decide_eq_true (by unfold worstK; omega)] at hK; exact hK
      · rename_i e2
        rw [show (k == 3) = decide (worstK k) from by rw [Bool.eq_iff_iff]; simp only [beq_iff_eq, decide_eq_true_eq]; unfold worstK; omega]
        exact hK
  refine hw ?_
  rw [shB_v, bs_not, bs_decide]
  split
  · rename_i hk
    rw [bs_decide]
    split
    · exact h0 (by omega)
    · rename_i e1
      rw [bs_decide]
      split
      · exact h0 (by omega)
      · rename_i e2
        apply r9_log.go
        unfold r9_log.T
        rw [if_neg (by omega), w64_in (by omega)]
        refine rLimit_ok (by unfold In64; omega) (by unfold In64; omega) (by unfold In64; omega) ?_
        have hb : bl (n + 1).toNat ≤ 31 := bl_le (show (n + 1).toNat < 2 ^ 31 by omega)
        rw [shI_v, lim_small (by omega) (by omega) (by omega) (by omega) (by omega)]
        show shI .i64 (.int .i64 (500 + 400 * ((bl (n + 1).toNat : Nat) : Int))) _
        rw [shI_v, w64_in (by omega)]
        have := h1 ⟨hk, by omega, by omega⟩
        rw [show n.toNat + 1 = (n + 1).toNat from by omega] at this
        rw [show 4 * (500 + 400 * ((bl (n + 1).toNat : Nat) : Int)) = 2000 + 1600 * ((bl (n + 1).toNat : Nat) : Int) from by omega]
        exact this
  · rename_i hk
    exact h0 (fun hh => hk hh.1)
theorem BookA.nowj (h : Holds w0 F M (star (BookA b jobs st) Q)) : rd w0 M ⟨b, 1, none⟩ = some (.int .i64 st.now) := by
  obtain ⟨s, hs⟩ := BookA.open_ h
  exact rd_own (o := 1) hs.own1
theorem stepA_len {was r : Rep} {c : Cmd} {st' : St} (h : stepA jobs st c was = some (st', r)) : st'.l.length ≤ st.l.length + 1 := by
  by_cases hb : badQ c
  · rw [stepA_bad hb] at h; cases h; omega
  · by_cases k1 : c.kind = 1
    · rw [stepA_1 hb k1] at h
      split at h
      · cases h; omega
      · split at h
        · cases h
        · cases h; simp
    · by_cases k2 : c.kind = 2 ∨ c.kind = 3
      · rw [stepA_23 k2] at h
        split at h
        · cases h; omega
        · split at h
          · cases h
          · split at h
            · cases h; omega
            · split at h
              · cases h; simp
              · split at h
                · cases h; omega
                · cases h; simp
      · by_cases k4 : c.kind = 4
        · rw [stepA_4 k4] at h
          split at h
          · cases h; omega
          · cases h; simp
        · by_cases k5 : c.kind = 5
          · rw [stepA_5 hb k5] at h
            split at h
            · cases h; omega
            · split at h
              · cases h; omega
              · split at h
                · cases h
                · cases h; simp
          · by_cases k6 : c.kind = 6
            · rw [stepA_6 hb k6] at h
              split at h
              · cases h; omega
              · cases h; simp
            · by_cases k7 : c.kind = 7
              · rw [stepA_7 hb k7] at h; cases h; omega
              · rw [stepA_8 (by omega)] at h; cases h; omega
theorem BCheck_ok {k jobs : Int} {s : SV} {l : List Evt} (hs : RdF w0 M 14 s (evI l)) (hl : l.length ≤ 900) (hR : ∀ M' s', Mem.le M M' → RdE w0 M' s' (CkB k jobs l).2.2 → R (.tuple #[.int .i64 (CkB k jobs l).1, .int .i64 (CkB k jobs l).2.1, SV.v s']) M') :
    C PP w0 Id.rJ_Check #[.int .i64 k, .int .i64 jobs, SV.v s] R M := by
  apply rJ_Check.go
  intro pts H
  unfold rJ_Check.T
  refine rBudget_ok (fun hk => ?_) fun hk => ?_
  · simp only [shT_v, shCons_v, shI_v, shB_v, shNil_v, Bool.not_false, bs_true]
    rw [show CkB k jobs l = (0, 1, []) from if_neg hk] at hR
    exact hR M ⟨none, 0, 0⟩ (Mem.le_refl _) RdE.nil
  · simp only [shT_v, shCons_v, shI_v, shB_v, shNil_v, Bool.not_true, bs_false]
    have hC : CkB k jobs l = ((ckA jobs (2000 + 1600 * (bl (jobs.toNat + 1) : Int)) 0 ⟨0, []⟩ l).1, (ckA jobs (2000 + 1600 * (bl (jobs.toNat + 1) : Int)) 0 ⟨0, []⟩ l).2.1, allE (ckA jobs (2000 + 1600 * (bl (jobs.toNat + 1) : Int)) 0 ⟨0, []⟩ l).2.2.l) := if_pos hk
    rw [hC] at hR
    generalize (2000 + 1600 * (bl (jobs.toNat + 1) : Int)) = bud at hR ⊢
    have hbl : (std PP w0).bld tB [(0, .int .i64 jobs)] = some (.agg #[.int .i64 jobs, .int .i64 0, .slice none 0 0]) := by kernel_rfl
    rw [hbl]
    simp only [ob_v, shA_v, shCons_v, shI_v, shS_v, shNil_v]
    intro b hb0 hbw
    have g0 := Holds.new (Holds.emp0 (w0 := w0) (M := M)) hb0 hbw [.int .i64 jobs, .int .i64 0, SV.v ⟨none, 0, 0⟩] tB
    have g : Holds w0 M _ (star (BookA b jobs ⟨0, []⟩) emp) := BookA.close (s := ⟨none, 0, 0⟩) (Holds.nilSlk g0).rot
    change ∃ k23, rJ_Check.L1 pts k23 jobs s bud (some ⟨b, 0, none⟩) 0 (M.set b (.row [.int .i64 jobs, .int .i64 0, SV.v ⟨none, 0, 0⟩] tB))
    generalize M.set b _ = M1 at g ⊢
    have hsn := hs.evn
    have key : ∀ (n i : Nat) (st : St) (M' : Mem), i ≤ l.length → l.length < i + n → st.l.length ≤ i → In64 st.now → ckA jobs bud 0 ⟨0, []⟩ l = ckA jobs bud (i : Int) st (l.drop i) →
        Holds w0 M M' (star (BookA b jobs st) emp) → rJ_Check.L1 pts n jobs s bud (some ⟨b, 0, none⟩) (i : Int) M' := by
      intro n
      induction n with
      | zero => intro i st M' h1 h2; omega
      | succ n ih =>
        intro i st M' h1 h2 h3 hnow hck g
        rw [H.L1]
        unfold rJ_Check.L1.T
        rw [bs_decide]
        split
        · have hlt : i < l.length := by omega
          have ee := List.getElem?_eq_getElem hlt
          have hdr : l.drop i = l[i] :: l.drop (i + 1) := List.drop_eq_getElem_cons hlt
          rw [hdr] at hck
          generalize l[i] = e at ee hck
          have het := (hs.evt ee).1
          obtain ⟨sb, hb⟩ := BookA.open_ g
          have en := BookA.nowj g
          have eb : rd w0 M' ⟨b, 2, none⟩ = some (SV.v sb) := rd_own (o := 2) hb.own1
          simp only [nc_v, ld_one W.c2, ld_one W.c92, add_eq, Nat.zero_add, en, eb, ob_v, shI_v, shS_sv]
          refine newB0 hb fun M2 s2 l2 h2' => ?_
          rw [shS_sv]
          refine ⟨rd_own (o := 1) h2'.right.own1, rd_own (o := 2) h2'.right.own1, ?_⟩
          have ec := slkCells h2'.right.right
          have n2 : s2.n = 0 := by have := (slkCells h2').2.1; simp at this; omega
          have nsb : sb.n = st.l.length := BookA.n hb
          refine appK Try.underlying92 W.e120 h2' ec.2.1 ec.1 ec.2.2 (jbV_one _) (by decide) (by omega) fun M3 s3 h3' => ?_
          rw [shS_sv]
          have hbw : (std PP w0).bld tB [(0, .int .i64 jobs), (1, .int .i64 st.now), (2, SV.v s3)] = some (.agg #[.int .i64 jobs, .int .i64 st.now, SV.v s3]) := by
            unfold SV.v
            kernel_rfl
          rw [hbw]
          simp only [ob_v, shA_v, shCons_v, shI_v, shS_sv, shNil_v]
          refine ⟨rd_own (o := 1) h3'.right.own1, ?_⟩
          intro bw hw0 hww
          have h4 := Holds.new h3' hw0 hww [.int .i64 jobs, .int .i64 st.now, SV.v s3] tB
          generalize M3.set bw _ = M4 at h4 ⊢
          rw [List.nil_append] at h4
          have hcopy : Holds w0 M M4 (star (BookA bw jobs st) (star (BookA b jobs st) emp)) := by
            refine BookA.close (s := s3) ?_
            obtain ⟨F1, k1, _, k2⟩ := h4.last
            refine k2 _ _ ?_
            obtain ⟨F2, k3, _, k4⟩ := k1.last
            exact k4 _ _ (BookA.close k3)
          have hle4 : Mem.le M M4 := hcopy.fr
          have hev : ∀ {M5 : Mem}, Mem.le M M5 → ∃ a, s.a = some a ∧ (std PP w0).ld tCmd (a.add (i * 14)) M5 = some (.agg #[.int .i64 e.c.kind, .int .i64 e.c.queue, .int .i64 e.c.at_, .int .i64 e.c.gen, .int .i64 e.c.time, .int .i64 e.c.data]) ∧
              (std PP w0).ld tRep (Addr.add (a.add (i * 14)) 6) M5 = some (.agg #[.int .i64 e.r.why, .int .i64 e.r.at_, .int .i64 e.r.gen, .int .i64 e.r.time, .int .i64 e.r.data, .int .i64 e.r.n]) ∧ rd w0 M5 (Addr.add (a.add (i * 14)) 12) = some (.int .i64 e.now) ∧ rd w0 M5 (Addr.add (a.add (i * 14)) 13) = some (.int .i64 e.steps) := fun {M5} l5 => by
            obtain ⟨a, ha, _⟩ := hs.cell _ _ (evI_get ee 0 _ rfl)
            have rr : ∀ f x, e.ints[f]? = some x → rd w0 M5 (a.add (i * 14 + f)) = some (.int .i64 x) := fun f x hf => by
              obtain ⟨a', ha', hr⟩ := hs.cell _ _ (evI_get ee f x hf)
              rw [ha] at ha'; cases ha'
              exact hr M5 l5
            refine ⟨a, ha, ?_, ?_, ?_, ?_⟩
            · refine ld_agg (cs := e.c.cells) W.g27 (fun j v hj => ?_)
              rw [add_add]
              match j, hj with
              | 0, hj => cases hj; exact rr 0 _ rfl
              | 1, hj => cases hj; exact rr 1 _ rfl
              | 2, hj => cases hj; exact rr 2 _ rfl
              | 3, hj => cases hj; exact rr 3 _ rfl
              | 4, hj => cases hj; exact rr 4 _ rfl
              | 5, hj => cases hj; exact rr 5 _ rfl
            · refine ld_agg (cs := e.r.cells) W.g32 (fun j v hj => ?_)
              rw [add_add, add_add]
              match j, hj with
              | 0, hj => cases hj; exact rr 6 _ rfl
              | 1, hj => cases hj; exact rr 7 _ rfl
              | 2, hj => cases hj; exact rr 8 _ rfl
              | 3, hj => cases hj; exact rr 9 _ rfl
              | 4, hj => cases hj; exact rr 10 _ rfl
              | 5, hj => cases hj; exact rr 11 _ rfl
            · rw [add_add]; exact rr 12 _ rfl
            · rw [add_add]; exact rr 13 _ rfl
          obtain ⟨a, ha, hr1, hr2, _, _⟩ := hev hle4
          have hbd : 0 ≤ (i : Int) ∧ (i : Int) < ((s.n : Nat) : Int) := ⟨by omega, by omega⟩
          simp only [ha, nc_v, Int.toNat_natCast, hr1, hr2, ob_v, shA_v, shCons_v, shI_v, shNil_v]
          refine ⟨hbd, hbd, ?_⟩
          have bad : ∀ (M5 : Mem) (w : Int), Mem.le M M5 → Holds w0 M M5 (star (BookA bw jobs st) emp) → whyA jobs bud st e = (w, st) → w ≠ 0 → rJ_Check.J2 pts n jobs s bud (some ⟨b, 0, none⟩) (i : Int) (some ⟨bw, 0, none⟩) w M5 := by
            intro M5 w l5 g5 hw hw0
            rw [H.J2]
            unfold rJ_Check.J2.T
            rw [bs_bne, if_neg hw0]
            refine Bleft_ok g5 (by omega) fun M6 s6 h6 => ?_
            rw [leftB_neg (by decide)] at h6
            rw [shS_sv]
            rw [hck, ckA_cons1 (by rw [hw]; exact hw0), hw] at hR
            exact hR M6 s6 h6.fr h6.rdE
          refine Btake_ok (c := e.c) (was := e.r) hcopy.rot (by omega) hnow het (fun M5 st' hns g5 => ?_) fun M5 st' hst g5 => ?_
          · rw [shB_v, Bool.not_false, bs_true]
            refine bad M5 2 g5.fr g5.right ?_ (by decide)
            cases hs2 : stepA jobs st e.c e.r with
            | none => exact whyA_none hs2
            | some x =>
              obtain ⟨st2, r2⟩ := x
              rw [whyA_some hs2, if_pos (fun hh => by rw [hh] at hs2; exact hns _ hs2)]
          · have hw := whyA_some (bud := bud) hst
            rw [if_neg (by simp)] at hw
            rw [shB_v, Bool.not_true, bs_false]
            obtain ⟨a', ha', _, _, hr3, hr4⟩ := hev g5.fr
            rw [ha] at ha'; cases ha'
            have en5 := BookA.nowj g5
            simp only [ha, nc_v, Int.toNat_natCast, ld_one W.c2, hr3, hr4, add_eq, Nat.zero_add, en5, ob_v, shI_v]
            refine ⟨hbd, ?_⟩
            rw [bs_bne]
            split
            · rename_i hnn
              rw [if_neg (fun hh => hh hnn)] at hw
              refine ⟨hbd, ?_⟩
              rw [bs_decide]
              split
              · rename_i hs0
                rw [if_pos (.inl hs0)] at hw
                exact bad M5 4 g5.fr g5.right hw (by decide)
              · rename_i hs0
                refine ⟨hbd, ?_⟩
                rw [bs_decide]
                split
                · rename_i hs1
                  rw [if_pos (.inr hs1)] at hw
                  exact bad M5 4 g5.fr g5.right hw (by decide)
                · rename_i hs1
                  rw [if_neg (fun hh => by rcases hh with hh | hh; exact hs0 hh; exact hs1 hh)] at hw
                  rw [H.J2]
                  unfold rJ_Check.J2.T
                  rw [show ((0 : Int) != 0) = false from rfl, bs_false, i64_succ (by omega)]
                  have hsl := stepA_len hst
                  have hg6 : Holds w0 M M5 (star (BookA b jobs st') emp) := by
                    obtain ⟨F1, k1, _, k2⟩ := g5.last
                    exact k2 _ _ k1.right
                  refine ih (i + 1) st' M5 (by omega) (by omega) (by omega) (stepA_now hst hnow) ?_ hg6
                  rw [hck, ckA_cons0 (by rw [hw]), hw]; rfl
            · rename_i hnn
              rw [if_pos hnn] at hw
              exact bad M5 3 g5.fr g5.right hw (by decide)
        · have hii : i = l.length := by omega
          rw [hii, List.drop_length] at hck
          refine Bleft_ok g (by omega) fun M6 s6 h6 => ?_
          rw [leftB_neg (by decide)] at h6
          rw [shS_sv]
          rw [hck] at hR
          exact hR M6 s6 h6.fr h6.rdE
    exact ⟨_, key (l.length + 1) 0 ⟨0, []⟩ M1 (by omega) (by omega) (Nat.le_refl _) (by unfold In64; simp only; omega) rfl g⟩
end
end Go.Proofs.Ytedofpnjmnkedaa.HL
namespace Go.Proofs.Ytedofpnjmnkedaa.HL
open Go.RowKit (Below)
open Go.Proofs
abbrev tPl : TypeId := 100
def vI (l : List Int) : List Value := l.map (Value.int .i64)
def vB (l : List Bool) : List Value := l.map Value.bool
def vN (l : List Nat) : List Value := l.map fun (n : Nat) => Value.int .i64 (n : Int)
theorem vI_one (l : List Int) : ∀ v ∈ vI l, onecell v = true := fun v hv => by
  obtain ⟨x, _, rfl⟩ := List.mem_map.1 hv; rfl
theorem vB_one (l : List Bool) : ∀ v ∈ vB l, onecell v = true := fun v hv => by
  obtain ⟨x, _, rfl⟩ := List.mem_map.1 hv; rfl
theorem vN_one (l : List Nat) : ∀ v ∈ vN l, onecell v = true := fun v hv => by
  obtain ⟨x, _, rfl⟩ := List.mem_map.1 hv; rfl
section
variable {w0 : World} {F0 F M : Mem} {R : VP}
structure Fz (w0 : World) (F : Mem) (x : SV) (v : Value) : Prop where
  n : x.n = 1
  a : x.a ≠ none
  c : ∀ M2, Mem.le F M2 → Cells w0 M2 x.a [v]
theorem Fz.le {F' : Mem} {x : SV} {v : Value} (h : Fz w0 F x v) (hl : Mem.le F F') : Fz w0 F' x v := ⟨h.n, h.a, fun M2 h2 => h.c M2 (Mem.le_trans hl h2)⟩
theorem bslF {t e : TypeId} {z : Value} (ht : PP.underlying t = some (.slice e)) (he : ElemOk PP e z 1) {v : Value} (hv : onecell v = true) (hc : Instr.fill (fun k => some (k * 1, 1)) ((Array.range (1 * 1)).map (z.cells[· % z.cells.size]!)) [(0, v)] = some #[v])
    {P : Asn} (h : Holds w0 F M P) {K : VP} (hK : ∀ M' F' x, Mem.le F F' → Holds w0 F' M' P → Fz w0 F' x v → K (SV.v x) M') : (std PP w0).bsl t 1 [(0, v)] K M := by
  refine bsl_e (n := 1) (cells := #[v]) ht he (by decide) hc fun b hb hw => ?_
  have h1 := Holds.new h hb hw (#[v] : Array Value).toList e
  obtain ⟨F3, hle3, hown3, hW3⟩ := Holds.freeze1 h1
  exact hK _ F3 ⟨some ⟨b, 0, none⟩, 1, 1⟩ hle3 hW3 ⟨rfl, by simp, fun M2 h2 => Cells.own (hown3.le h2) fun j v hj => by rw [Nat.zero_add]; exact hj⟩
def PX (w0 : World) (F0 F M : Mem) (p : Nat) (mo : Int) (hG hI hV hB sG sI sV sB : SV) (g : List Int) (i : List Bool) (v : List Int) (b : List Nat) (Q : Asn) : Prop :=
  Mem.le F0 F ∧ Holds w0 F M (star (row1 p [.int .i64 mo, SV.v hG, SV.v hI, SV.v hV, SV.v hB] tPl) (star (SlKA 1 sG (vI g)) (star (SlKA 1 sI (vB i)) (star (SlKA 1 sV (vI v)) (star (SlKA 1 sB (vN b)) Q)))))
section
variable {p : Nat} {mo : Int} {hG hI hV hB sG sI sV sB : SV} {g : List Int} {i : List Bool} {v : List Int} {b : List Nat} {Q : Asn}
theorem PX.ldG (h : PX w0 F0 F M p mo hG hI hV hB sG sI sV sB g i v b Q) : (std PP w0).ld 70 ⟨p, 1, none⟩ M = some (SV.v hG) := by rw [ld_one W.c70]; exact rd_own (o := 1) h.2.own1
theorem PX.ldI (h : PX w0 F0 F M p mo hG hI hV hB sG sI sV sB g i v b Q) : (std PP w0).ld 98 ⟨p, 2, none⟩ M = some (SV.v hI) := by rw [ld_one W.c98]; exact rd_own (o := 2) h.2.own1
theorem vlen {k : Nat} {s : SV} {l : List Value} {Q : Asn} (h : Holds w0 F M (star (SlKA 1 s l) Q)) : s.n = l.length := by
  have := (slkCells h).2.1
  omega
theorem PX.nG (h : PX w0 F0 F M p mo hG hI hV hB sG sI sV sB g i v b Q) : sG.n = g.length := by have := vlen (k := 1) h.2.right; rw [this]; simp [vI]
theorem PX.nI (h : PX w0 F0 F M p mo hG hI hV hB sG sI sV sB g i v b Q) : sI.n = i.length := by have := vlen (k := 1) h.2.right.right; rw [this]; simp [vB]
theorem PX.nV (h : PX w0 F0 F M p mo hG hI hV hB sG sI sV sB g i v b Q) : sV.n = v.length := by have := vlen (k := 1) h.2.right.right.right; rw [this]; simp [vI]
theorem PX.nB (h : PX w0 F0 F M p mo hG hI hV hB sG sI sV sB g i v b Q) : sB.n = b.length := by have := vlen (k := 1) h.2.right.right.right.right; rw [this]; simp [vN]
theorem slG {s : SV} {l : List Value} {Q : Asn} (h : Holds w0 F M (star (SlKA 1 s l) Q)) {t : TypeId} (ht : cell1 PP t = true) {x : Int} (j : Nat) (e : x = (j : Int)) {v : Value} (hv : l[j]? = some v) {K : Value → Prop} (hK : K v) :
    nc s.a fun a => (0 ≤ x ∧ x < ((s.n : Nat) : Int)) ∧ ob ((std PP w0).ld t (a.add (x.toNat * 1)) M) fun v => K v := by
  simp only [ld_one ht]
  exact rdv (slkCells h).1 (vlen (k := 1) h) j e hv hK
theorem PX.bI (h : PX w0 F0 F M p mo hG hI hV hB sG sI sV sB g i v b Q) {x : Int} {K : VP} (hK : ∀ M' F' y, Mem.le F F' → PX w0 F0 F' M' p mo hG hI hV hB sG sI sV sB g i v b Q → Fz w0 F' y (.int .i64 x) → K (SV.v y) M') : (std PP w0).bsl 70 1 [(0, .int .i64 x)] K M :=
  bslF Try.underlying70 W.e3 rfl (by kernel_rfl) h.2 fun M' F' y l1 h1 f1 => hK M' F' y l1 ⟨Mem.le_trans h.1 l1, h1⟩ f1
theorem PX.bB (h : PX w0 F0 F M p mo hG hI hV hB sG sI sV sB g i v b Q) {x : Bool} {K : VP} (hK : ∀ M' F' y, Mem.le F F' → PX w0 F0 F' M' p mo hG hI hV hB sG sI sV sB g i v b Q → Fz w0 F' y (.bool x) → K (SV.v y) M') : (std PP w0).bsl 98 1 [(0, .bool x)] K M :=
  bslF Try.underlying98 W.e4 rfl (by kernel_rfl) h.2 fun M' F' y l1 h1 f1 => hK M' F' y l1 ⟨Mem.le_trans h.1 l1, h1⟩ f1
theorem PX.bJ (h : PX w0 F0 F M p mo hG hI hV hB sG sI sV sB g i v b Q) {x : Int} {K : VP} (hK : ∀ M' F' y, Mem.le F F' → PX w0 F0 F' M' p mo hG hI hV hB sG sI sV sB g i v b Q → Fz w0 F' y (.int .i64 x) → K (SV.v y) M') : (std PP w0).bsl 66 1 [(0, .int .i64 x)] K M :=
  bslF Try.underlying66 W.e2 rfl (by kernel_rfl) h.2 fun M' F' y l1 h1 f1 => hK M' F' y l1 ⟨Mem.le_trans h.1 l1, h1⟩ f1
theorem PX.aG {y : SV} {x : Int} {G : Mem} (hy : Fz w0 G y (.int .i64 x)) (hl : Mem.le G F) (h : PX w0 F0 F M p mo hG hI hV hB sG sI sV sB g i v b Q) (hb : g.length ≤ 100000) {K : VP} (hK : ∀ M' s', PX w0 F0 F M' p mo hG hI hV hB s' sI sV sB (g ++ [x]) i v b Q → K (SV.v s') M') :
    (std PP w0).app #[70, 70] 70 [SV.v sG, SV.v y] K M := by
  obtain ⟨F1, k1, l1, k2⟩ := h.2.last
  have hn := h.nG
  refine appK Try.underlying70 W.e3 k1 (news := [.int .i64 x]) (by rw [hy.n]; rfl) (hy.c M (Mem.le_trans hl h.2.fr)) (fun e => absurd e hy.a) (vI_one [x]) (by decide) (by rw [hy.n]; omega) fun M' s' h' => ?_
  refine hK M' s' ⟨h.1, ?_⟩
  have := k2 _ _ h'
  rw [show vI g ++ [Value.int .i64 x] = vI (g ++ [x]) from by simp [vI]] at this
  exact this
theorem PX.aI {y : SV} {x : Bool} {G : Mem} (hy : Fz w0 G y (.bool x)) (hl : Mem.le G F) (h : PX w0 F0 F M p mo hG hI hV hB sG sI sV sB g i v b Q) (hb : i.length ≤ 100000) {K : VP} (hK : ∀ M' s', PX w0 F0 F M' p mo hG hI hV hB sG s' sV sB g (i ++ [x]) v b Q → K (SV.v s') M') :
    (std PP w0).app #[98, 98] 98 [SV.v sI, SV.v y] K M := by
  obtain ⟨F1, k1, l1, k2⟩ := h.2.last
  obtain ⟨F2, k3, l2, k4⟩ := k1.last
  have hn := h.nI
  refine appK Try.underlying98 W.e4 k3 (news := [.bool x]) (by rw [hy.n]; rfl) (hy.c M (Mem.le_trans hl h.2.fr)) (fun e => absurd e hy.a) (vB_one [x]) (by decide) (by rw [hy.n]; omega) fun M' s' h' => ?_
  refine hK M' s' ⟨h.1, ?_⟩
  have := k2 _ _ (k4 _ _ h')
  rw [show vB i ++ [Value.bool x] = vB (i ++ [x]) from by simp [vB]] at this
  exact this
theorem PX.aV {y : SV} {x : Int} {G : Mem} (hy : Fz w0 G y (.int .i64 x)) (hl : Mem.le G F) (h : PX w0 F0 F M p mo hG hI hV hB sG sI sV sB g i v b Q) (hb : v.length ≤ 100000) {K : VP} (hK : ∀ M' s', PX w0 F0 F M' p mo hG hI hV hB sG sI s' sB g i (v ++ [x]) b Q → K (SV.v s') M') :
    (std PP w0).app #[66, 66] 66 [SV.v sV, SV.v y] K M := by
  obtain ⟨F1, k1, l1, k2⟩ := h.2.last
  obtain ⟨F2, k3, l2, k4⟩ := k1.last
  obtain ⟨F3, k5, l3, k6⟩ := k3.last
  have hn := h.nV
  refine appK Try.underlying66 W.e2 k5 (news := [.int .i64 x]) (by rw [hy.n]; rfl) (hy.c M (Mem.le_trans hl h.2.fr)) (fun e => absurd e hy.a) (vI_one [x]) (by decide) (by rw [hy.n]; omega) fun M' s' h' => ?_
  refine hK M' s' ⟨h.1, ?_⟩
  have := k2 _ _ (k4 _ _ (k6 _ _ h'))
  rw [show vI v ++ [Value.int .i64 x] = vI (v ++ [x]) from by simp [vI]] at this
  exact this
theorem PX.wG {s : SV} (h : PX w0 F0 F M p mo hG hI hV hB sG sI sV sB g i v b Q) {K : Mem → Prop} (hK : ∀ M', PX w0 F0 F M' p mo s hI hV hB sG sI sV sB g i v b Q → K M') : (std PP w0).st 70 ⟨p, 1, none⟩ (SV.v s) (fun M' => K M') M := by
  refine st_one W.c70 h.2.own1 (by simp) rfl rfl (hK _ ⟨h.1, ?_⟩)
  exact h.2.upd1
theorem PX.wI {s : SV} (h : PX w0 F0 F M p mo hG hI hV hB sG sI sV sB g i v b Q) {K : Mem → Prop} (hK : ∀ M', PX w0 F0 F M' p mo hG s hV hB sG sI sV sB g i v b Q → K M') : (std PP w0).st 98 ⟨p, 2, none⟩ (SV.v s) (fun M' => K M') M := by
  refine st_one W.c98 h.2.own1 (by simp) rfl rfl (hK _ ⟨h.1, ?_⟩)
  exact h.2.upd1
theorem PX.wV {s : SV} (h : PX w0 F0 F M p mo hG hI hV hB sG sI sV sB g i v b Q) {K : Mem → Prop} (hK : ∀ M', PX w0 F0 F M' p mo hG hI s hB sG sI sV sB g i v b Q → K M') : (std PP w0).st 66 ⟨p, 3, none⟩ (SV.v s) (fun M' => K M') M := by
  refine st_one W.c66 h.2.own1 (by simp) rfl rfl (hK _ ⟨h.1, ?_⟩)
  exact h.2.upd1
theorem PX.wB {s : SV} (h : PX w0 F0 F M p mo hG hI hV hB sG sI sV sB g i v b Q) {K : Mem → Prop} (hK : ∀ M', PX w0 F0 F M' p mo hG hI hV s sG sI sV sB g i v b Q → K M') : (std PP w0).st 70 ⟨p, 4, none⟩ (SV.v s) (fun M' => K M') M := by
  refine st_one W.c70 h.2.own1 (by simp) rfl rfl (hK _ ⟨h.1, ?_⟩)
  exact h.2.upd1
end
def PoolA (p : Nat) (l : Pl) : Asn := fun r => ∃ sG sI sV sB : SV, star (row1 p [.int .i64 l.most, SV.v sG, SV.v sI, SV.v sV, SV.v sB] tPl) (star (SlKA 1 sG (vI l.gens)) (star (SlKA 1 sI (vB l.ins)) (star (SlKA 1 sV (vI l.vs)) (SlKA 1 sB (vN l.back))))) r
section
variable {p : Nat} {l : Pl} {Q : Asn}
theorem PoolA.open_ (h : Holds w0 F M (star (PoolA p l) Q)) : ∃ sG sI sV sB : SV, PX w0 F F M p l.most sG sI sV sB sG sI sV sB l.gens l.ins l.vs l.back Q := by
  obtain ⟨r, ⟨r1, r2, rfl, ⟨sG, sI, sV, sB, r3, r4, rfl, a1, r5, r6, rfl, a2, r7, r8, rfl, a3, r9, r10, rfl, a4, a5⟩, a6⟩, a7⟩ := h
  exact ⟨sG, sI, sV, sB, Mem.le_refl _, _, ⟨r3, r5 ++ (r7 ++ (r9 ++ (r10 ++ r2))), by simp, a1, r5, _, rfl, a2, r7, _, rfl, a3, r9, _, rfl, a4, r10, _, rfl, a5, a6⟩, a7⟩
theorem PX.close {mo : Int} {sG sI sV sB : SV} {g : List Int} {i : List Bool} {v : List Int} {b : List Nat} (h : PX w0 F0 F M p mo sG sI sV sB sG sI sV sB g i v b Q) : Holds w0 F0 M (star (PoolA p ⟨mo, g, i, v, b⟩) Q) := by
  refine Holds.unfrm ?_ h.1
  obtain ⟨r, ⟨r3, r4, rfl, a1, r5, r6, rfl, a2, r7, r8, rfl, a3, r9, r10, rfl, a4, r11, r12, rfl, a5, a6⟩, a7⟩ := h.2
  exact ⟨_, ⟨r3 ++ (r5 ++ (r7 ++ (r9 ++ r11))), r12, by simp, ⟨sG, sI, sV, sB, r3, _, rfl, a1, r5, _, rfl, a2, r7, _, rfl, a3, r9, _, rfl, a4, a5⟩, a6⟩, a7⟩
theorem rPNew_ok {n : Int} (h : Holds w0 F M Q) (h0 : 0 ≤ n) (h1 : n ≤ 65536) (hR : ∀ M' p, Holds w0 F M' (star (PoolA p ⟨n, [], [], [], []⟩) Q) → R (.pointer (some ⟨p, 0, none⟩)) M') : C PP w0 Id.p2_New #[.int .i64 n] R M := by
  apply p2_New.go
  unfold p2_New.T
  have hx : (if 0 > (if 65536 < n then 65536 else n) then 0 else (if 65536 < n then 65536 else n)) = n := by
    rw [if_neg (show ¬ 65536 < n by omega), if_neg (by omega)]
  rw [hx]
  have hb : (std PP w0).bld tPl [(0, .int .i64 n)] = some (.agg #[.int .i64 n, .slice none 0 0, .slice none 0 0, .slice none 0 0, .slice none 0 0]) := by kernel_rfl
  rw [hb]
  simp only [ob_v, shA_v, shCons_v, shI_v, shS_v, shNil_v]
  intro p hp0 hpw
  have g := Holds.new h hp0 hpw [.int .i64 n, SV.v ⟨none, 0, 0⟩, SV.v ⟨none, 0, 0⟩, SV.v ⟨none, 0, 0⟩, SV.v ⟨none, 0, 0⟩] tPl
  refine hR _ p ?_
  obtain ⟨F1, k1, _, k2⟩ := g.last
  have k3 := k2 _ _ (Holds.nilSlk (k := 1) (Holds.nilSlk (k := 1) (Holds.nilSlk (k := 1) (Holds.nilSlk (k := 1) k1))))
  have : PX w0 F F _ p n ⟨none, 0, 0⟩ ⟨none, 0, 0⟩ ⟨none, 0, 0⟩ ⟨none, 0, 0⟩ ⟨none, 0, 0⟩ ⟨none, 0, 0⟩ ⟨none, 0, 0⟩ ⟨none, 0, 0⟩ [] [] [] [] Q := ⟨Mem.le_refl _, k3⟩
  exact this.close
theorem rLook_ok {a g : Int} (h : Holds w0 F M (star (PoolA p l) Q)) (hok : PlOk l) (hR : ∀ M', Mem.le M M' → R (.int .i64 (l.look a g)) M') : C PP w0 Id.pP_Look #[.pointer (some ⟨p, 0, none⟩), .agg #[.int .i64 a, .int .i64 g]] R M := by
  apply pP_Look.go
  intro pts H
  unfold pP_Look.T
  intro b1 hb0 hbw
  have l1 : Mem.le M (M.set b1 (.row [.int .i64 a, .int .i64 g] 25)) := Mem.le_set _ hb0
  have o1 : Own w0 (M.set b1 (.row [.int .i64 a, .int .i64 g] 25)) b1 [.int .i64 a, .int .i64 g] 25 := Own.new hbw
  generalize M.set b1 _ = M1 at l1 o1 ⊢
  obtain ⟨sG, sI, sV, sB, hX⟩ := PoolA.open_ (h.le l1)
  have e0 : rd w0 M1 ⟨b1, 0, none⟩ = some (.int .i64 a) := rd_own (o := 0) o1
  have e1 : rd w0 M1 ⟨b1, 1, none⟩ = some (.int .i64 g) := rd_own (o := 1) o1
  have hn := hX.nG
  have hi := hX.nI
  unfold Pl.look at hR
  simp only [nc_v, ld_one W.c3, add_eq, Nat.zero_add, e0, e1, hX.ldG, ob_v, shI_v, shS_sv]
  rw [bs_decide]
  split
  · rename_i c1; rw [if_pos (.inl c1)] at hR; exact hR M1 l1
  · rename_i c1
    rw [bs_decide]
    split
    · rename_i c2; rw [if_pos (.inr (.inl (by omega)))] at hR; exact hR M1 l1
    · rename_i c2
      rw [bs_decide]
      split
      · rename_i c3; rw [if_pos (.inr (.inr (.inl c3)))] at hR; exact hR M1 l1
      · rename_i c3
        have hlt : a.toNat < l.gens.length := by omega
        have hga : l.gens[a.toNat]? = some (l.gens.getD a.toNat 0) := by rw [List.getD_eq_getElem?_getD, List.getElem?_eq_getElem hlt]; rfl
        have hia : l.ins[a.toNat]? = some (l.ins.getD a.toNat false) := by rw [List.getD_eq_getElem?_getD, List.getElem?_eq_getElem (by rw [hok.li]; exact hlt)]; rfl
        have vga : (vI l.gens)[a.toNat]? = some (.int .i64 (l.gens.getD a.toNat 0)) := by unfold vI; rw [List.getElem?_map, hga]; rfl
        have via : (vB l.ins)[a.toNat]? = some (.bool (l.ins.getD a.toNat false)) := by unfold vB; rw [List.getElem?_map, hia]; rfl
        generalize l.gens.getD a.toNat 0 = x at hR vga
        generalize l.ins.getD a.toNat false = y at hR via
        have hre := rdv (slkCells hX.2.right).1 (vlen (k := 1) hX.2.right) a.toNat (i := a) (by omega) vga (K := fun v => shI .i64 v fun n21 => bs (decide (g > n21)) (R (.int .i64 22) M1) (pP_Look.J1 pts (some ⟨p, 0, none⟩) ⟨b1, 0, none⟩ M1))
        refine hre ?_
        rw [shI_v, bs_decide]
        split
        · rename_i c4; rw [if_pos (.inr (.inr (.inr c4)))] at hR; exact hR M1 l1
        · rename_i c4
          rw [if_neg (by omega)] at hR
          rw [H.J1]
          unfold pP_Look.J1.T
          simp only [nc_v, ld_one W.c3, add_eq, Nat.zero_add, e0, e1, hX.ldG, hX.ldI, ob_v, shI_v, shS_sv]
          refine rdv (slkCells hX.2.right).1 (vlen (k := 1) hX.2.right) a.toNat (i := a) (by omega) vga ?_
          rw [shI_v, bs_decide]
          split
          · rename_i c5; rw [if_pos (.inl c5)] at hR; exact hR M1 l1
          · rename_i c5
            refine slG hX.2.right.right W.c4 (x := a) a.toNat (by omega) via ?_
            rw [shB_v, bs_not]
            cases y with
            | false => rw [bs_false]; rw [if_pos (.inr rfl)] at hR; exact hR M1 l1
            | true =>
              rw [bs_true]
              rw [if_neg (fun hh => by rcases hh with hh | hh; exact c5 hh; cases hh)] at hR
              exact hR M1 l1
end
end
end Go.Proofs.Ytedofpnjmnkedaa.HL
namespace Go.Proofs.Ytedofpnjmnkedaa.HL
open Go.RowKit (Below)
open Go.Proofs
section
variable {w0 : World} {F0 F M : Mem} {R : VP}
section
variable {p : Nat} {mo : Int} {hG hI hV hB sG sI sV sB : SV} {g : List Int} {i : List Bool} {v : List Int} {b : List Nat} {Q : Asn}
theorem PX.rG (h : PX w0 F0 F M p mo hG hI hV hB sG sI sV sB g i v b Q) : rd w0 M ⟨p, 1, none⟩ = some (SV.v hG) := rd_own (o := 1) h.2.own1
theorem PX.rI (h : PX w0 F0 F M p mo hG hI hV hB sG sI sV sB g i v b Q) : rd w0 M ⟨p, 2, none⟩ = some (SV.v hI) := rd_own (o := 2) h.2.own1
theorem PX.rV (h : PX w0 F0 F M p mo hG hI hV hB sG sI sV sB g i v b Q) : rd w0 M ⟨p, 3, none⟩ = some (SV.v hV) := rd_own (o := 3) h.2.own1
theorem PX.rB (h : PX w0 F0 F M p mo hG hI hV hB sG sI sV sB g i v b Q) : rd w0 M ⟨p, 4, none⟩ = some (SV.v hB) := rd_own (o := 4) h.2.own1
theorem PX.eG (h : PX w0 F0 F M p mo hG hI hV hB sG sI sV sB g i v b Q) {t : TypeId} (ht : cell1 PP t = true) {x : Int} (a : Nat) (e : x = (a : Int)) (ha : a < g.length) {y : Int} {K : Mem → Prop} (hK : ∀ M', PX w0 F0 F M' p mo hG hI hV hB sG sI sV sB (g.set a y) i v b Q → K M') :
    nc sG.a fun ad => (0 ≤ x ∧ x < ((sG.n : Nat) : Int)) ∧ (std PP w0).st t (ad.add (x.toNat * 1)) (.int .i64 y) (fun M' => K M') M := by
  have hn := h.nG
  obtain ⟨F1, k1, l1, k2⟩ := h.2.last
  refine stK0 ht k1 a e (by omega) (by decide) rfl rfl fun M' h' => hK M' ⟨h.1, ?_⟩
  have := k2 _ _ h'
  rw [Nat.mul_one, show (vI g).set a (.int .i64 y) = vI (g.set a y) from by unfold vI; rw [List.map_set]] at this
  exact this
theorem PX.eI (h : PX w0 F0 F M p mo hG hI hV hB sG sI sV sB g i v b Q) {t : TypeId} (ht : cell1 PP t = true) {x : Int} (a : Nat) (e : x = (a : Int)) (ha : a < i.length) {y : Bool} {K : Mem → Prop} (hK : ∀ M', PX w0 F0 F M' p mo hG hI hV hB sG sI sV sB g (i.set a y) v b Q → K M') :
    nc sI.a fun ad => (0 ≤ x ∧ x < ((sI.n : Nat) : Int)) ∧ (std PP w0).st t (ad.add (x.toNat * 1)) (.bool y) (fun M' => K M') M := by
  have hn := h.nI
  obtain ⟨F1, k1, l1, k2⟩ := h.2.last
  obtain ⟨F2, k3, l2, k4⟩ := k1.last
  refine stK0 ht k3 a e (by omega) (by decide) rfl rfl fun M' h' => hK M' ⟨h.1, ?_⟩
  have := k2 _ _ (k4 _ _ h')
  rw [Nat.mul_one, show (vB i).set a (.bool y) = vB (i.set a y) from by unfold vB; rw [List.map_set]] at this
  exact this
theorem PX.eV (h : PX w0 F0 F M p mo hG hI hV hB sG sI sV sB g i v b Q) {t : TypeId} (ht : cell1 PP t = true) {x : Int} (a : Nat) (e : x = (a : Int)) (ha : a < v.length) {y : Int} {K : Mem → Prop} (hK : ∀ M', PX w0 F0 F M' p mo hG hI hV hB sG sI sV sB g i (v.set a y) b Q → K M') :
    nc sV.a fun ad => (0 ≤ x ∧ x < ((sV.n : Nat) : Int)) ∧ (std PP w0).st t (ad.add (x.toNat * 1)) (.int .i64 y) (fun M' => K M') M := by
  have hn := h.nV
  obtain ⟨F1, k1, l1, k2⟩ := h.2.last
  obtain ⟨F2, k3, l2, k4⟩ := k1.last
  obtain ⟨F3, k5, l3, k6⟩ := k3.last
  refine stK0 ht k5 a e (by omega) (by decide) rfl rfl fun M' h' => hK M' ⟨h.1, ?_⟩
  have := k2 _ _ (k4 _ _ (k6 _ _ h'))
  rw [Nat.mul_one, show (vI v).set a (.int .i64 y) = vI (v.set a y) from by unfold vI; rw [List.map_set]] at this
  exact this
theorem PX.q (h : PX w0 F0 F M p mo hG hI hV hB sG sI sV sB g i v b Q) : Holds w0 F M Q := h.2.right.right.right.right.right
theorem PX.mapQ {Q' : Asn} (h : PX w0 F0 F M p mo hG hI hV hB sG sI sV sB g i v b Q) {M' : Mem} (hh : ∀ F', Holds w0 F' M Q → Holds w0 F' M' Q') : PX w0 F0 F M' p mo hG hI hV hB sG sI sV sB g i v b Q' := by
  refine ⟨h.1, ?_⟩
  obtain ⟨F1, k1, _, k2⟩ := h.2.last
  obtain ⟨F2, k3, _, k4⟩ := k1.last
  obtain ⟨F3, k5, _, k6⟩ := k3.last
  obtain ⟨F4, k7, _, k8⟩ := k5.last
  obtain ⟨F5, k9, _, k10⟩ := k7.last
  exact k2 _ _ (k4 _ _ (k6 _ _ (k8 _ _ (k10 _ _ (hh F5 k9)))))
theorem PX.aG2 (h : PX w0 F0 F M p mo hG hI hV hB sG sI sV sB g i v b Q) {y : SV} {x : Int} {G : Mem} (hy : Fz w0 G y (.int .i64 x)) (hl : Mem.le G F) (hb : g.length ≤ 100000) {K : VP} (hK : ∀ M' s', PX w0 F0 F M' p mo hG hI hV hB s' sI sV sB (g ++ [x]) i v b Q → K (SV.v s') M') :
    (std PP w0).app #[70, 70] 70 [SV.v sG, SV.v y] K M := PX.aG hy hl h hb hK
theorem PX.aI2 (h : PX w0 F0 F M p mo hG hI hV hB sG sI sV sB g i v b Q) {y : SV} {x : Bool} {G : Mem} (hy : Fz w0 G y (.bool x)) (hl : Mem.le G F) (hb : i.length ≤ 100000) {K : VP} (hK : ∀ M' s', PX w0 F0 F M' p mo hG hI hV hB sG s' sV sB g (i ++ [x]) v b Q → K (SV.v s') M') :
    (std PP w0).app #[98, 98] 98 [SV.v sI, SV.v y] K M := PX.aI hy hl h hb hK
theorem PX.aV2 (h : PX w0 F0 F M p mo hG hI hV hB sG sI sV sB g i v b Q) {y : SV} {x : Int} {G : Mem} (hy : Fz w0 G y (.int .i64 x)) (hl : Mem.le G F) (hb : v.length ≤ 100000) {K : VP} (hK : ∀ M' s', PX w0 F0 F M' p mo hG hI hV hB sG sI s' sB g i (v ++ [x]) b Q → K (SV.v s') M') :
    (std PP w0).app #[66, 66] 66 [SV.v sV, SV.v y] K M := PX.aV hy hl h hb hK
theorem PX.pop {x : Nat} {bs : List Nat} (h : PX w0 F0 F M p mo hG hI hV hB sG sI sV sB g i v (bs ++ [x]) Q) : sB.a.isSome = true ∧ sB.c ≠ 0 ∧ sB.n = bs.length + 1 ∧ (∀ ad, sB.a = some ad → ad.add 0 = ad) ∧ sB.n ≤ sB.c ∧ PX w0 F0 F M p mo hG hI hV hB sG sI sV ⟨sB.a, sB.n - 1, sB.c⟩ g i v bs Q := by
  have hn := h.nB
  rw [List.length_append, List.length_singleton] at hn
  obtain ⟨F1, k1, _, k2⟩ := h.2.last
  obtain ⟨F2, k3, _, k4⟩ := k1.last
  obtain ⟨F3, k5, _, k6⟩ := k3.last
  obtain ⟨F4, k7, _, k8⟩ := k5.last
  obtain ⟨blk, rest, e, ha, h1, h2, h3⟩ := SlKA.row k7 (by omega)
  have hv : vN (bs ++ [x]) = vN bs ++ [.int .i64 (x : Int)] := by simp [vN]
  have hl : (vN bs).length = bs.length := by simp [vN]
  rw [hv, List.append_assoc] at h3
  rw [hv, List.length_append, List.length_singleton, hl] at h1 h2
  refine ⟨by rw [ha]; rfl, by omega, hn, fun ad had => ?_, by omega, h.1, ?_⟩
  · rw [ha] at had; cases had
    rw [add_eq]
  · refine k2 _ _ (k4 _ _ (k6 _ _ (k8 _ _ ?_)))
    rw [ha]
    exact SlKA.ofRow h3 (by rw [hl]; omega) (by rw [hl]; simp; omega)
end
section
variable {p : Nat} {l : Pl} {Q : Asn}
theorem resRef {b1 : Nat} {c0 c1 : Value} {x y : Int} {P : Asn} (hN : Holds w0 F M (star (row1 b1 [c0, c1] 25) P)) {K : VP} (hK : ∀ M', (∀ F' P', Holds w0 F' M (star (row1 b1 [c0, c1] 25) P') → Holds w0 F' M' P') → K (.agg #[.int .i64 x, .int .i64 y]) M') :
    (std PP w0).st 25 ⟨b1, 0, none⟩ (.agg #[.int .i64 x, .int .i64 y]) (fun M14 => ob ((std PP w0).rdv 25 (.pointer (some ⟨b1, 0, none⟩)) M14) fun v15 => K v15 M14) M := by
  refine st_agg (vs := [.int .i64 x, .int .i64 y]) W.g25 hN.own1 (by simp) (by intro v hv; simp only [List.mem_cons, List.not_mem_nil, or_false] at hv; rcases hv with rfl | rfl <;> rfl) ?_
  have hP2 := hN.upd1 (cs' := over [c0, c1] 0 [.int .i64 x, .int .i64 y]) (e' := 25)
  have o2 : Own w0 _ b1 [.int .i64 x, .int .i64 y] 25 := hP2.own1
  rw [rdv_ptr, ld_agg (cs := [.int .i64 x, .int .i64 y]) W.g25 (fun j v hj => by rw [add_eq, rd_own o2, Nat.zero_add]; exact hj), ob_v]
  exact hK _ fun F' P' h' => (h'.upd1 (cs' := over [c0, c1] 0 [.int .i64 x, .int .i64 y]) (e' := 25)).right
theorem rTake_ok {v : Int} (h : Holds w0 F M (star (PoolA p l) Q)) (hok : PlOk l) (hs : l.gens.length ≤ 10000) (hbl : l.back.length ≤ 10000) (hg : ∀ g ∈ l.gens, 0 ≤ g ∧ g ≤ 1000000)
    (h0 : l.at_ = none → ∀ M', Holds w0 F M' (star (PoolA p l) Q) → R (.tuple #[.agg #[.int .i64 0, .int .i64 0], .bool false]) M')
    (h1 : ∀ a, l.at_ = some a → ∀ M', Holds w0 F M' (star (PoolA p (l.take a v)) Q) → R (.tuple #[.agg #[.int .i64 (a : Int), .int .i64 (l.gen a)], .bool true]) M') :
    C PP w0 Id.pP_Take #[.pointer (some ⟨p, 0, none⟩), .int .i64 v] R M := by
  apply pP_Take.go
  intro pts H
  unfold pP_Take.T
  intro b1 hb0 hbw
  have g1 := (Holds.new h hb0 hbw [.int .i64 0, .int .i64 0] 25).rot
  change Holds w0 F (M.set b1 (.row [.int .i64 0, .int .i64 0] 25)) (star (PoolA p l) (star (row1 b1 [.int .i64 0, .int .i64 0] 25) Q)) at g1
  generalize M.set b1 _ = M1 at g1 ⊢
  obtain ⟨sG, sI, sV, sB, hX⟩ := PoolA.open_ g1
  have hnG := hX.nG
  have hnB := hX.nB
  have hli := hok.li
  have hlv := hok.lv
  have keyJ1 : ∀ (M' F' : Mem) (sG sI sV sB : SV) (mo : Int) (gs : List Int) (is_ : List Bool) (vs : List Int) (bs_ : List Nat) (a : Nat), PX w0 F F' M' p mo sG sI sV sB sG sI sV sB gs is_ vs bs_ (star (row1 b1 [.int .i64 0, .int .i64 0] 25) Q) →
      a < gs.length → is_.length = gs.length → vs.length = gs.length → (0 ≤ gs.getD a 0 ∧ gs.getD a 0 ≤ 1000000) →
      (∀ M'', Holds w0 F M'' (star (PoolA p ⟨mo, gs.set a (gs.getD a 0 + 1), is_.set a true, vs.set a v, bs_⟩) Q) → R (.tuple #[.agg #[.int .i64 (a : Int), .int .i64 (gs.getD a 0 + 1)], .bool true]) M'') →
      pP_Take.J1 pts (some ⟨p, 0, none⟩) v ⟨b1, 0, none⟩ (a : Int) M' := by
    intro M' F' sG sI sV sB mo gs is_ vs bs_ a hX ha h2 h3 hga hR
    rw [H.J1]
    unfold pP_Take.J1.T
    have vga : (vI gs)[a]? = some (.int .i64 (gs.getD a 0)) := by unfold vI; rw [List.getElem?_map, List.getD_eq_getElem?_getD, List.getElem?_eq_getElem ha]; rfl
    generalize gs.getD a 0 = x at hR vga hga
    have eG := hX.rG
    simp only [nc_v, ld_one W.c70, ld_one W.c98, ld_one W.c66, add_eq, Nat.zero_add, eG, ob_v, shS_sv]
    refine slG hX.2.right W.c3 (x := (a : Int)) a rfl vga ?_
    rw [shI_v, w64_in (by omega)]
    refine hX.eG W.c3 a rfl ha fun M2 hX2 => ?_
    simp only [hX2.rI, hX2.rV, ob_v, shS_sv]
    refine hX2.eI W.c4 a rfl (by omega) fun M3 hX3 => ?_
    refine hX3.eV W.c2 a rfl (by omega) fun M4 hX4 => ?_
    simp only [hX4.rG, ob_v, shS_sv]
    refine slG hX4.2.right W.c3 (x := (a : Int)) a rfl (v := .int .i64 (x + 1)) (by unfold vI; rw [List.getElem?_map, List.getElem?_set_self ha]; rfl) ?_
    rw [shI_v]
    have hbld : (std PP w0).bld 25 [(0, .int .i64 (a : Int)), (1, .int .i64 (x + 1))] = some (.agg #[.int .i64 (a : Int), .int .i64 (x + 1)]) := by kernel_rfl
    rw [hbld]
    simp only [ob_v, shA_v, shCons_v, shI_v, shNil_v]
    refine resRef hX4.q (K := fun v M => R (.tuple #[v, .bool true]) M) fun M5 hback => ?_
    exact hR M5 (hX4.mapQ fun F' h' => hback F' _ h').close
  have hG := hX.rG
  have hI := hX.rI
  have hV := hX.rV
  have hB := hX.rB
  have hmo : rd w0 M1 ⟨p, 0, none⟩ = some (.int .i64 l.most) := rd_own (o := 0) hX.2.own1
  simp only [nc_v, ld_one W.c3, ld_one W.c70, ld_one W.c98, ld_one W.c66, add_eq, Nat.zero_add, hG, hI, hV, hB, hmo, ob_v, shS_sv, shI_v]
  rw [bs_decide]
  split
  · -- one that was given back
    rename_i hpos
    obtain ⟨bs, x, hbs⟩ : ∃ bs x, l.back = bs ++ [x] := by
      rcases List.eq_nil_or_concat l.back with e | ⟨bs, x, e⟩
      · rw [e] at hnB; simp at hnB; omega
      · exact ⟨bs, x, by rw [e, List.concat_eq_append]⟩
    have hat : l.at_ = some x := by unfold Pl.at_; rw [hbs]; simp
    have hlast : l.back.getLast? = some x := by rw [hbs]; simp
    have hgr : l.grow = { l with back := bs } := by
      unfold Pl.grow
      rw [hlast]
      simp [hbs]
    obtain ⟨hx1, hx2⟩ := hok.bk x (by rw [hbs]; simp)
    rw [hbs] at hX
    obtain ⟨q1, q2, q3, q4, q5, hX2⟩ := hX.pop
    have hw : w64 (((sB.n : Nat) : Int) - 1) = ((bs.length : Nat) : Int) := by rw [w64_in (by have := hX.nB; omega)]; omega
    rw [hw]
    have hld := hX.2.right.right.right.right
    refine rdv (slkCells hld).1 (vlen (k := 1) hld) bs.length rfl (v := .int .i64 (x : Int)) (by unfold vN; rw [List.getElem?_map, List.getElem?_append_right (Nat.le_refl _)]; simp) ?_
    rw [shI_v]
    refine ⟨⟨by omega, by omega, by omega⟩, ?_⟩
    have hsl : (Value.slice (if sB.c = (0 : Int).toNat then sB.a else sB.a.map (·.add ((0 : Int).toNat * 1))) (((bs.length : Nat) : Int).toNat - (0 : Int).toNat) (sB.c - (0 : Int).toNat)) = SV.v ⟨sB.a, sB.n - 1, sB.c⟩ := by
      rw [Int.toNat_zero, if_neg q2, Int.toNat_natCast, Nat.sub_zero, Nat.sub_zero, Nat.zero_mul]
      unfold SV.v
      simp only
      congr 1
      · cases hsa : sB.a with
        | none => rfl
        | some ad => simp only [Option.map_some]; rw [q4 ad hsa]
      · omega
    rw [hsl]
    refine hX2.wB fun M2 hX3 => ?_
    refine keyJ1 M2 F sG sI sV ⟨sB.a, sB.n - 1, sB.c⟩ l.most l.gens l.ins l.vs bs x hX3 hx1 hli hlv ?_ fun M3 h3 => ?_
    · rw [List.getD_eq_getElem?_getD, List.getElem?_eq_getElem hx1]
      exact hg _ (List.getElem_mem hx1)
    · have := h1 x hat M3
      unfold Pl.take Pl.gen Pl.put at this
      rw [hgr] at this
      exact this h3
  · rename_i hpos
    have hbn : l.back = [] := List.eq_nil_of_length_eq_zero (by omega)
    have hlast : l.back.getLast? = none := by rw [hbn]; rfl
    rw [bs_decide]
    split
    · rename_i hm
      have hat : l.at_ = none := by unfold Pl.at_; rw [hlast]; simp only; rw [if_pos (by omega)]
      have hbld : (std PP w0).bld 25 [] = some (.agg #[.int .i64 0, .int .i64 0]) := by kernel_rfl
      rw [hbld]
      simp only [ob_v, shA_v, shCons_v, shI_v, shNil_v]
      refine resRef hX.q (K := fun v M => R (.tuple #[v, .bool false]) M) fun M5 hback => ?_
      exact h0 hat M5 (hX.mapQ fun F' h' => hback F' _ h').close
    · rename_i hm
      have hat : l.at_ = some l.gens.length := by unfold Pl.at_; rw [hlast]; simp only; rw [if_neg (by omega)]
      have hgr : l.grow = { l with gens := l.gens ++ [0], ins := l.ins ++ [false], vs := l.vs ++ [0] } := by unfold Pl.grow; rw [hlast]
      have fin : ∀ (M' F' : Mem) (s1 s2 s3 : SV), PX w0 F F' M' p l.most sG sI sV sB s1 s2 s3 sB (l.gens ++ [0]) (l.ins ++ [false]) (l.vs ++ [0]) l.back (star (row1 b1 [.int .i64 0, .int .i64 0] 25) Q) →
          (std PP w0).st 70 ⟨p, 1, none⟩ (SV.v s1) (fun M61 => (std PP w0).st 98 ⟨p, 2, none⟩ (SV.v s2) (fun M63 => (std PP w0).st 66 ⟨p, 3, none⟩ (SV.v s3) (fun M65 => pP_Take.J1 pts (some ⟨p, 0, none⟩) v ⟨b1, 0, none⟩ ((sG.n : Nat) : Int) M65) M63) M61) M' := by
        intro M' F' s1 s2 s3 hY
        refine hY.wG fun M2 hY2 => ?_
        refine hY2.wI fun M3 hY3 => ?_
        refine hY3.wV fun M4 hY4 => ?_
        rw [hnG]
        refine keyJ1 M4 F' s1 s2 s3 sB l.most _ _ _ l.back l.gens.length hY4 (by simp) (by simp [hli]) (by simp [hlv]) ?_ fun M5 h5 => ?_
        · rw [List.getD_eq_getElem?_getD, List.getElem?_append_right (Nat.le_refl _)]; simp
        · have := h1 _ hat M5
          unfold Pl.take Pl.gen Pl.put at this
          rw [hgr] at this
          exact this h5
      repeat' first
        | with_reducible exact PX.rG (by assumption)
        | with_reducible exact PX.rI (by assumption)
        | with_reducible exact PX.rV (by assumption)
        | with_reducible exact fin _ _ _ _ _ (by assumption)
        | (with_reducible refine PX.bI (by assumption) fun _ _ _ _ _ _ => ?_; rw [shS_sv])
        | (with_reducible refine PX.bB (by assumption) fun _ _ _ _ _ _ => ?_; rw [shS_sv])
        | (with_reducible refine PX.bJ (by assumption) fun _ _ _ _ _ _ => ?_; rw [shS_sv])
        | (with_reducible refine PX.aG2 (by assumption) (by assumption) (by first | exact Mem.le_refl _ | assumption | exact Mem.le_trans (by assumption) (by assumption)) (by omega) fun _ _ _ => ?_; rw [shS_sv])
        | (with_reducible refine PX.aI2 (by assumption) (by assumption) (by first | exact Mem.le_refl _ | assumption | exact Mem.le_trans (by assumption) (by assumption)) (by omega) fun _ _ _ => ?_; rw [shS_sv])
        | (with_reducible refine PX.aV2 (by assumption) (by assumption) (by first | exact Mem.le_refl _ | assumption | exact Mem.le_trans (by assumption) (by assumption)) (by omega) fun _ _ _ => ?_; rw [shS_sv])
        | refine ⟨?_, ?_⟩
end
end
end Go.Proofs.Ytedofpnjmnkedaa.HL
namespace Go.Proofs.Ytedofpnjmnkedaa.HL
open Go.RowKit (Below)
open Go.Proofs
section
variable {w0 : World} {F0 F M : Mem} {R : VP}
section
variable {p : Nat} {mo : Int} {hG hI hV hB sG sI sV sB : SV} {g : List Int} {i : List Bool} {v : List Int} {b : List Nat} {Q : Asn}
theorem PX.focus (h : PX w0 F0 F M p mo hG hI hV hB sG sI sV sB g i v b Q) : ∃ F5, Holds w0 F5 M Q ∧ ∀ M' Q', Holds w0 F5 M' Q' → PX w0 F0 F M' p mo hG hI hV hB sG sI sV sB g i v b Q' := by
  obtain ⟨F1, k1, _, k2⟩ := h.2.last
  obtain ⟨F2, k3, _, k4⟩ := k1.last
  obtain ⟨F3, k5, _, k6⟩ := k3.last
  obtain ⟨F4, k7, _, k8⟩ := k5.last
  obtain ⟨F5, k9, _, k10⟩ := k7.last
  exact ⟨F5, k9, fun M' Q' hh => ⟨h.1, k2 _ _ (k4 _ _ (k6 _ _ (k8 _ _ (k10 _ _ hh))))⟩⟩
theorem PX.nB0 (h : PX w0 F0 F M p mo hG hI hV hB sG sI sV sB g i v b Q) {K : VP} (hK : ∀ M' s, PX w0 F0 F M' p mo hG hI hV hB sG sI sV sB g i v b (star (SlKA 1 s []) Q) → K (SV.v s) M') : (std PP w0).bsl 70 0 [] K M := by
  obtain ⟨F5, k, back⟩ := h.focus
  refine bsl_e (cells := #[]) Try.underlying70 W.e3 (by decide) (by kernel_rfl) fun bb hb hw => ?_
  have l1 : Mem.le M (M.set bb (.row (#[] : Array Value).toList 3)) := Mem.le_set _ hb
  exact hK _ ⟨some ⟨bb, 0, none⟩, 0, 0⟩ (back _ _ (Holds.newSlk k l1 (SlK.new (n := 0) hb (Own.new hw) rfl)))
theorem PX.nA1 {s : SV} (h : PX w0 F0 F M p mo hG hI hV hB sG sI sV sB g i v b (star (SlKA 1 s []) Q)) (hb : b.length ≤ 100000) {K : VP} (hK : ∀ M' s', PX w0 F0 F M' p mo hG hI hV hB sG sI sV sB g i v b (star (SlKA 1 s' (vN b)) Q) → K (SV.v s') M') :
    (std PP w0).app #[70, 70] 70 [SV.v s, SV.v sB] K M := by
  obtain ⟨F5, k, back⟩ := h.focus
  have e6 := slkCells h.2.right.right.right.right
  have hn := h.nB
  have n0 : s.n = 0 := by have := (slkCells k).2.1; simp at this; omega
  refine appK Try.underlying70 W.e3 k e6.2.1 e6.1 e6.2.2 (vN_one _) (by decide) (by omega) fun M' s' h' => ?_
  exact hK M' s' (back _ _ h')
theorem PX.nA2 {s y : SV} {x : Nat} {G : Mem} (h : PX w0 F0 F M p mo hG hI hV hB sG sI sV sB g i v b (star (SlKA 1 s (vN b)) Q)) (hy : Fz w0 G y (.int .i64 (x : Int))) (hl : Mem.le G F) (hb : b.length ≤ 100000) {K : VP} (hK : ∀ M' s', PX w0 F0 F M' p mo hG hI hV hB sG sI sV sB g i v b (star (SlKA 1 s' (vN (b ++ [x]))) Q) → K (SV.v s') M') :
    (std PP w0).app #[70, 70] 70 [SV.v s, SV.v y] K M := by
  obtain ⟨F5, k, back⟩ := h.focus
  have n0 : s.n = b.length := by have := vlen (k := 1) k; rw [this]; simp [vN]
  refine appK Try.underlying70 W.e3 k (news := [.int .i64 (x : Int)]) (by rw [hy.n]; rfl) (hy.c M (Mem.le_trans hl h.2.fr)) (fun e => absurd e hy.a) (vN_one [x]) (by decide) (by rw [hy.n]; omega) fun M' s' h' => ?_
  refine hK M' s' (back _ _ ?_)
  rw [show vN b ++ [Value.int .i64 (x : Int)] = vN (b ++ [x]) from by simp [vN]] at h'
  exact h'
theorem PX.newBack {s : SV} {b' : List Nat} (h : PX w0 F0 F M p mo hG hI hV hB sG sI sV sB g i v b (star (SlKA 1 s (vN b')) Q)) : PX w0 F0 F M p mo hG hI hV hB sG sI sV s g i v b' Q := by
  refine ⟨h.1, ?_⟩
  obtain ⟨F1, k1, _, k2⟩ := h.2.last
  obtain ⟨F2, k3, _, k4⟩ := k1.last
  obtain ⟨F3, k5, _, k6⟩ := k3.last
  obtain ⟨F4, k7, _, k8⟩ := k5.last
  exact k2 _ _ (k4 _ _ (k6 _ _ (k8 _ _ k7.right)))
end
section
variable {p : Nat} {l : Pl} {Q : Asn}
theorem Pl.look_ok {a g : Int} (hok : PlOk l) (h : l.look a g = 0) : ∃ n : Nat, a = (n : Int) ∧ n < l.gens.length ∧ l.ins[n]? = some true ∧ l.gens[n]? = some g := by
  unfold Pl.look at h
  split at h
  · cases h
  · rename_i h1
    split at h
    · cases h
    · rename_i h2
      have hlt : a.toNat < l.gens.length := by omega
      refine ⟨a.toNat, by omega, hlt, ?_, ?_⟩
      · have : l.ins.getD a.toNat false = true := by
          cases hx : l.ins.getD a.toNat false with
          | true => rfl
          | false => exact absurd (.inr hx) h2
        rw [List.getD_eq_getElem?_getD, List.getElem?_eq_getElem (by rw [hok.li]; exact hlt)] at this
        rw [List.getElem?_eq_getElem (by rw [hok.li]; exact hlt)]
        simpa using this
      · have : l.gens.getD a.toNat 0 = g := by omega
        rw [List.getD_eq_getElem?_getD, List.getElem?_eq_getElem hlt] at this
        rw [List.getElem?_eq_getElem hlt]
        simpa using this
theorem rGive_ok {a g : Int} (h : Holds w0 F M (star (PoolA p l) Q)) (hok : PlOk l) (hbl : l.back.length ≤ 10000)
    (h0 : l.look a g ≠ 0 → ∀ M', Holds w0 F M' (star (PoolA p l) Q) → R (.tuple #[.int .i64 0, .int .i64 (l.look a g)]) M')
    (h1 : ∀ n : Nat, a = (n : Int) → l.look a g = 0 → ∀ M', Holds w0 F M' (star (PoolA p (l.give n)) Q) → R (.tuple #[.int .i64 (l.vs.getD n 0), .int .i64 0]) M') :
    C PP w0 Id.pP_Give #[.pointer (some ⟨p, 0, none⟩), .agg #[.int .i64 a, .int .i64 g]] R M := by
  apply pP_Give.go
  unfold pP_Give.T
  intro b1 hb0 hbw
  have g1 := (Holds.new h hb0 hbw [.int .i64 a, .int .i64 g] 25).rot
  change Holds w0 F (M.set b1 (.row [.int .i64 a, .int .i64 g] 25)) (star (PoolA p l) (star (row1 b1 [.int .i64 a, .int .i64 g] 25) Q)) at g1
  generalize M.set b1 _ = M1 at g1 ⊢
  have o1 := g1.right.own1
  rw [ld_agg (cs := [.int .i64 a, .int .i64 g]) W.g25 (fun j v hj => by rw [add_eq, rd_own o1, Nat.zero_add]; exact hj)]
  simp only [ob_v, shA_v, shCons_v, shI_v, shNil_v]
  refine rLook_ok g1 hok fun M2 l2 => ?_
  have g2 := g1.le l2
  have strip : ∀ {M4 : Mem} {l' : Pl}, Holds w0 F M4 (star (PoolA p l') (star (row1 b1 [.int .i64 a, .int .i64 g] 25) Q)) → Holds w0 F M4 (star (PoolA p l') Q) := fun g => by
    obtain ⟨F', k1, _, k2⟩ := g.last
    exact k2 _ _ k1.right
  rw [shI_v, bs_bne]
  split
  · rename_i hz
    obtain ⟨n, rfl, hlt, hin, hgn⟩ := Pl.look_ok hok hz
    obtain ⟨sG, sI, sV, sB, hX⟩ := PoolA.open_ g2
    have e0 : ∀ {M' : Mem} {F' : Mem} {mo : Int} {hG hI hV hB sG sI sV sB : SV} {gs : List Int} {is_ : List Bool} {vs : List Int} {bs_ : List Nat}, PX w0 F F' M' p mo hG hI hV hB sG sI sV sB gs is_ vs bs_ (star (row1 b1 [.int .i64 (n : Int), .int .i64 g] 25) Q) → rd w0 M' ⟨b1, 0, none⟩ = some (.int .i64 (n : Int)) := fun hY => rd_own (o := 0) hY.q.own1
    have e0' : ∀ {M' : Mem} {F' : Mem} {mo : Int} {hG hI hV hB sG sI sV sB : SV} {gs : List Int} {is_ : List Bool} {vs : List Int} {bs_ : List Nat} {X : Asn}, PX w0 F F' M' p mo hG hI hV hB sG sI sV sB gs is_ vs bs_ (star X (star (row1 b1 [.int .i64 (n : Int), .int .i64 g] 25) Q)) → rd w0 M' ⟨b1, 0, none⟩ = some (.int .i64 (n : Int)) := fun hY => rd_own (o := 0) hY.q.right.own1
    simp only [nc_v, ld_one W.c98, ld_one W.c3, add_eq, Nat.zero_add, hX.rI, e0 hX, ob_v, shS_sv, shI_v]
    refine hX.eI W.c4 n rfl (by rw [hok.li]; exact hlt) fun M3 hX3 => ?_
    simp only [nc_v, ld_one W.c70, ld_one W.c66, ld_one W.c3, ld_one W.c2, add_eq, Nat.zero_add, hX3.rB, e0 hX3, ob_v, shS_sv, shI_v]
    have fin : ∀ (M' F' : Mem) (s : SV), PX w0 F F' M' p l.most sG sI sV sB sG sI sV sB l.gens (l.ins.set n false) l.vs l.back (star (SlKA 1 s (vN (l.back ++ [n]))) (star (row1 b1 [.int .i64 (n : Int), .int .i64 g] 25) Q)) →
        (std PP w0).st 70 ⟨p, 4, none⟩ (SV.v s) (fun M39 => ob (rd w0 M39 ⟨p, 3, none⟩) fun v41 => shS v41 fun s42 => ob (rd w0 M39 ⟨b1, 0, none⟩) fun v43 => shI .i64 v43 fun n44 => nc s42.a fun a45 => (0 ≤ n44 ∧ n44 < ((s42.n : Nat) : Int)) ∧ ob (rd w0 M39 (a45.add (n44.toNat * 1))) fun v46 => shI .i64 v46 fun n47 => R (.tuple #[.int .i64 n47, .int .i64 0]) M39) M' := by
      intro M' F' s hY
      refine PX.wB hY fun M4 hY4 => ?_
      have hY5 := hY4.newBack
      simp only [hY5.rV, e0 hY5, ob_v, shS_sv, shI_v]
      have hlv : n < l.vs.length := by rw [hok.lv]; exact hlt
      refine rdv (slkCells hY5.2.right.right.right).1 (vlen (k := 1) hY5.2.right.right.right) n rfl (v := .int .i64 (l.vs.getD n 0)) (by unfold vI; rw [List.getElem?_map, List.getD_eq_getElem?_getD, List.getElem?_eq_getElem hlv]; rfl) ?_
      rw [shI_v]
      exact h1 n rfl hz M4 (strip hY5.close)
    repeat' first
      | with_reducible exact PX.rB (by assumption)
      | with_reducible exact e0 (by assumption)
      | with_reducible exact e0' (by assumption)
      | with_reducible exact fin _ _ _ (by assumption)
      | (with_reducible refine PX.nB0 (by assumption) fun _ _ _ => ?_; rw [shS_sv])
      | (with_reducible refine PX.bI (by assumption) fun _ _ _ _ _ _ => ?_; rw [shS_sv])
      | (with_reducible refine PX.nA1 (by assumption) (by omega) fun _ _ _ => ?_; rw [shS_sv])
      | (with_reducible refine PX.nA2 (by assumption) (by assumption) (by first | exact Mem.le_refl _ | assumption) (by omega) fun _ _ _ => ?_; rw [shS_sv])
      | refine ⟨?_, ?_⟩
  · rename_i hz
    exact h0 hz M2 (strip g2)
end
end
end Go.Proofs.Ytedofpnjmnkedaa.HL
namespace Go.Proofs.Ytedofpnjmnkedaa.HL
open Go.RowKit (Below)
open Go.Proofs
abbrev tD : TypeId := 53
abbrev tJb : TypeId := 74
def jdC (j : Jb) : List Value := [.int .i64 j.queue, .int .i64 j.data, .int .i64 j.key, .int .i64 j.ser, .int .i64 j.at_, .int .i64 j.gen]
theorem jdC_len (j : Jb) : (jdC j).length = 6 := rfl
theorem jdC_one (j : Jb) : ∀ v ∈ jdC j, onecell v = true := by
  intro v hv
  simp only [jdC, List.mem_cons, List.not_mem_nil, or_false] at hv
  rcases hv with rfl | rfl | rfl | rfl | rfl | rfl <;> rfl
abbrev jdV (l : List Jb) : List Value := l.flatMap jdC
theorem jdV_len (l : List Jb) : (jdV l).length = l.length * 6 := flat_len jdC_len l
theorem jdV_one (l : List Jb) : ∀ v ∈ jdV l, onecell v = true := flat_one jdC_one _
def Jb.v (j : Jb) : Value := .agg #[.int .i64 j.queue, .int .i64 j.data, .int .i64 j.key, .int .i64 j.ser, .int .i64 j.at_, .int .i64 j.gen]
theorem jdV_take (l : List Jb) (i : Nat) : jdV (l.take i) = (jdV l).take (i * 6) := by
  by_cases hi : i ≤ l.length
  · have h : jdV l = jdV (l.take i) ++ jdV (l.drop i) := by rw [← List.flatMap_append, List.take_append_drop]
    rw [h]; exact (List.take_left' (by rw [jdV_len, List.length_take]; omega)).symm
  · rw [List.take_of_length_le (by omega), List.take_of_length_le (by rw [jdV_len]; omega)]
theorem jdV_drop (l : List Jb) (i : Nat) : jdV (l.drop i) = (jdV l).drop (i * 6) := by
  by_cases hi : i ≤ l.length
  · have h : jdV l = jdV (l.take i) ++ jdV (l.drop i) := by rw [← List.flatMap_append, List.take_append_drop]
    rw [h]; exact (List.drop_left' (by rw [jdV_len, List.length_take]; omega)).symm
  · rw [List.drop_of_length_le (by omega), List.drop_of_length_le (by rw [jdV_len]; omega)]; rfl
section
variable {w0 : World} {F M : Mem} {R : VP}
theorem eqRefU {X Y : Operand} (a g b k : Int) : (std PP w0).bq .eql 25 X Y (.agg #[.int .i64 a, .int .i64 g]) (.agg #[.int .i64 b, .int .i64 k]) = some (.bool (a == b && g == k)) := by
  have := eql_struct (P := PP) (w0 := w0) (X := X) (Y := Y) (es := [a == b, g == k]) (xs := #[.int .i64 a, .int .i64 g]) (ys := #[.int .i64 b, .int .i64 k]) Try.underlying25 (by kernel_rfl) (by kernel_rfl)
    ⟨by decide, ⟨.int .i64 a, .int .i64 b, by kernel_rfl, by kernel_rfl, equal_int Try.underlying3 a b⟩, by decide, ⟨.int .i64 g, .int .i64 k, by kernel_rfl, by kernel_rfl, equal_int Try.underlying3 g k⟩, trivial⟩
  rw [show ([a == b, g == k] : List Bool).all id = (a == b && g == k) from by simp [List.all]] at this
  exact this
theorem cellsTail {s : SV} {cs : List Value} {k i : Nat} (hc : Cells w0 M s.a cs) (hl : cs.length = s.n * k) (hcap : s.n ≤ s.c) : Cells w0 M (if s.c = i then s.a else s.a.map (·.add (i * k))) (cs.drop (i * k)) := fun j v hj => by
  rw [List.getElem?_drop] at hj
  obtain ⟨ad, ha, hr⟩ := hc _ v hj
  have hlt := (List.getElem?_eq_some_iff.1 hj).1
  rw [if_neg (fun e => by
    have : s.n * k ≤ i * k := Nat.mul_le_mul_right k (by omega)
    omega)]
  refine ⟨ad.add (i * k), by rw [ha]; rfl, ?_⟩
  rw [add_add]; exact hr
theorem cellsHead {s : SV} {cs : List Value} {m : Nat} (hc : Cells w0 M s.a cs) : Cells w0 M (if s.c = 0 then s.a else s.a.map (·.add 0)) (cs.take m) := fun j v hj => by
  have hj2 : cs[j]? = some v := by
    rw [List.getElem?_take] at hj
    split at hj
    · exact hj
    · cases hj
  obtain ⟨ad, ha, hr⟩ := hc _ v hj2
  refine ⟨ad, ?_, hr⟩
  rw [ha]
  split
  · rfl
  · simp [Addr.add]
def DispA (d : Nat) (x : D22) : Asn := fun r => ∃ (p : Nat) (s : SV), star (row1 d [.int .i64 x.most, .int .i64 x.now, .int .i64 x.next, .pointer (some ⟨p, 0, none⟩), SV.v s] tD) (star (SlKA 6 s (jdV x.l)) (PoolA p x.pool)) r
section
variable {d : Nat} {x : D22} {Q : Asn}
abbrev DH (w0 : World) (F M : Mem) (d : Nat) (x : D22) (p : Nat) (s : SV) (Q : Asn) : Prop := Holds w0 F M (star (row1 d [.int .i64 x.most, .int .i64 x.now, .int .i64 x.next, .pointer (some ⟨p, 0, none⟩), SV.v s] tD) (star (SlKA 6 s (jdV x.l)) (star (PoolA p x.pool) Q)))
theorem DispA.open_ (h : Holds w0 F M (star (DispA d x) Q)) : ∃ p s, DH w0 F M d x p s Q := by
  obtain ⟨r, ⟨r1, r2, rfl, ⟨p, s, r3, r4, rfl, a1, r5, r6, rfl, a2, a3⟩, a4⟩, a5⟩ := h
  exact ⟨p, s, _, ⟨r3, r5 ++ (r6 ++ r2), by simp, a1, r5, _, rfl, a2, r6, _, rfl, a3, a4⟩, a5⟩
theorem DH.close {p : Nat} {s : SV} (h : DH w0 F M d x p s Q) : Holds w0 F M (star (DispA d x) Q) := by
  obtain ⟨r, ⟨r3, r4, rfl, a1, r5, r6, rfl, a2, r7, r8, rfl, a3, a4⟩, a5⟩ := h
  exact ⟨_, ⟨r3 ++ (r5 ++ r7), r8, by simp, ⟨p, s, r3, _, rfl, a1, r5, _, rfl, a2, a3⟩, a4⟩, a5⟩
theorem DH.n {p : Nat} {s : SV} (h : DH w0 F M d x p s Q) : s.n = x.l.length := Holds.nR jdC_len (by decide) h.right
theorem DH.job {p : Nat} {s : SV} (h : DH w0 F M d x p s Q) {i : Nat} {j : Jb} (hj : x.l[i]? = some j) : ∃ blk, s.a = some ⟨blk, 0, none⟩ ∧ s.n = x.l.length ∧ i < s.n ∧ ∀ f v, (jdC j)[f]? = some v → rd w0 M ⟨blk, i * 6 + f, none⟩ = some v := Holds.adR jdC_len (by decide) h.right hj
theorem DH.rl {p : Nat} {s : SV} (h : DH w0 F M d x p s Q) : rd w0 M ⟨d, 4, none⟩ = some (SV.v s) := rd_own (o := 4) h.own1
theorem DH.rp {p : Nat} {s : SV} (h : DH w0 F M d x p s Q) : rd w0 M ⟨d, 3, none⟩ = some (.pointer (some ⟨p, 0, none⟩)) := rd_own (o := 3) h.own1
theorem DH.rn {p : Nat} {s : SV} (h : DH w0 F M d x p s Q) : rd w0 M ⟨d, 1, none⟩ = some (.int .i64 x.now) := rd_own (o := 1) h.own1
theorem DH.rx {p : Nat} {s : SV} (h : DH w0 F M d x p s Q) : rd w0 M ⟨d, 2, none⟩ = some (.int .i64 x.next) := rd_own (o := 2) h.own1
theorem DH.pool {p : Nat} {s : SV} (h : DH w0 F M d x p s Q) : ∃ F1, Holds w0 F1 M (star (PoolA p x.pool) Q) ∧ ∀ M' pl' Q', Holds w0 F1 M' (star (PoolA p pl') Q') → DH w0 F M' d { x with pool := pl' } p s Q' := by
  obtain ⟨F1, k1, _, k2⟩ := h.last
  obtain ⟨F2, k3, _, k4⟩ := k1.last
  exact ⟨F2, k3, fun M' pl' Q' hh => k2 _ _ (k4 _ _ hh)⟩
theorem dAt_ok {a g : Int} (h : Holds w0 F M (star (DispA d x) Q)) (hL : x.l.length ≤ 10000) (hR : ∀ M', Mem.le M M' → R (.int .i64 (match atD x.l a g with | none => -1 | some k => (k : Int))) M') :
    C PP w0 Id.dD_at #[.pointer (some ⟨d, 0, none⟩), .agg #[.int .i64 a, .int .i64 g]] R M := by
  apply dD_at.go
  intro pts H
  unfold dD_at.T
  intro b1 hb0 hbw
  have l1 : Mem.le M (M.set b1 (.row [.int .i64 a, .int .i64 g] 25)) := Mem.le_set _ hb0
  have o1 : Own w0 (M.set b1 (.row [.int .i64 a, .int .i64 g] 25)) b1 [.int .i64 a, .int .i64 g] 25 := Own.new hbw
  generalize M.set b1 _ = M1 at l1 o1 ⊢
  obtain ⟨p, s, hs⟩ := DispA.open_ (h.le l1)
  have hn := hs.n
  have ldr : (std PP w0).ld 25 ⟨b1, 0, none⟩ M1 = some (.agg #[.int .i64 a, .int .i64 g]) := ld_agg (cs := [.int .i64 a, .int .i64 g]) W.g25 (fun j v hj => by rw [add_eq, rd_own o1, Nat.zero_add]; exact hj)
  have key : ∀ (n i : Nat), i ≤ x.l.length → x.l.length < i + n → (∀ k, k < i → ∀ j, x.l[k]? = some j → ¬ (j.at_ = a ∧ j.gen = g)) → dD_at.L1 pts n (some ⟨d, 0, none⟩) ⟨b1, 0, none⟩ (i : Int) M1 := by
    intro n
    induction n with
    | zero => intro i h1 h2; omega
    | succ n ih =>
      intro i hi1 hi2 hno
      rw [H.L1]
      unfold dD_at.L1.T
      simp only [nc_v, ld_one W.c51, add_eq, Nat.zero_add, hs.rl, ob_v, shS_sv]
      rw [bs_decide]
      split
      · have hlt : i < x.l.length := by omega
        have hj := List.getElem?_eq_getElem hlt
        have hjj : x.l[i] = x.l[i] := rfl
        generalize hg : x.l[i] = j at hj
        obtain ⟨blk, hsa, _, hin, hrd⟩ := hs.job hj
        have lda : (std PP w0).ld 25 ⟨blk, i * 6 + 4, none⟩ M1 = some (.agg #[.int .i64 j.at_, .int .i64 j.gen]) := ld_agg (cs := [.int .i64 j.at_, .int .i64 j.gen]) W.g25 (fun f v hf => by
          rw [add_eq]
          match f, hf with
          | 0, hf => exact hrd 4 _ hf
          | 1, hf => exact hrd 5 _ hf)
        simp only [hsa, nc_v, Int.toNat_natCast, add_eq, Nat.zero_add, lda, ldr, ob_v, shA_v, shCons_v, shI_v, shB_v, shNil_v, eqRefU]
        refine ⟨⟨by omega, by omega⟩, ?_⟩
        rw [bs_b]
        refine ⟨fun he => ?_, fun he => ?_⟩
        · simp only [Bool.and_eq_true, beq_iff_eq] at he
          have hf : atD x.l a g = some i := by
            unfold atD
            refine List.findIdx?_eq_some_iff_getElem.2 ⟨hlt, ?_, fun k hk => ?_⟩
            · rw [hg]; simp [he.1, he.2]
            · have hkl : k < x.l.length := by omega
              have := hno k hk _ (List.getElem?_eq_getElem hkl)
              simpa using this
          have := hR M1 l1
          rw [hf] at this
          exact this
        · rw [i64_succ (by omega)]
          refine ih (i + 1) (by omega) (by omega) fun k hk y hy => ?_
          by_cases hki : k = i
          · subst hki
            rw [hj] at hy; cases hy
            intro hh
            simp [hh.1, hh.2] at he
          · exact hno k (by omega) y hy
      · have hii : i = x.l.length := by omega
        have hf : atD x.l a g = none := by
          unfold atD
          refine List.findIdx?_eq_none_iff.2 fun j hj => ?_
          obtain ⟨k, hk⟩ := List.getElem?_of_mem hj
          have := hno k (by have := (List.getElem?_eq_some_iff.1 hk).1; omega) j hk
          simpa using this
        have := hR M1 l1
        rw [hf] at this
        exact this
  exact ⟨_, key (x.l.length + 1) 0 (by omega) (by omega) (fun k hk => by omega)⟩
theorem dCount_ok {q : Int} (h : Holds w0 F M (star (DispA d x) Q)) (hL : x.l.length ≤ 10000) (hR : R (.int .i64 (countD q x.l : Int)) M) :
    C PP w0 Id.dD_Count #[.pointer (some ⟨d, 0, none⟩), .int .i64 q] R M := by
  apply dD_Count.go
  intro pts H
  unfold dD_Count.T
  obtain ⟨p, s, hs⟩ := DispA.open_ h
  have hn := hs.n
  have key : ∀ (n i : Nat), i ≤ x.l.length → x.l.length < i + n → dD_Count.L1 pts n (some ⟨d, 0, none⟩) q ((countD q (x.l.take i) : Nat) : Int) (i : Int) M := by
    intro n
    induction n with
    | zero => intro i h1 h2; omega
    | succ n ih =>
      intro i hi1 hi2
      rw [H.L1]
      unfold dD_Count.L1.T
      simp only [nc_v, ld_one W.c51, ld_one W.c3, add_eq, Nat.zero_add, hs.rl, ob_v, shS_sv]
      rw [bs_decide]
      split
      · have hlt : i < x.l.length := by omega
        have hj := List.getElem?_eq_getElem hlt
        have htk : x.l.take (i + 1) = x.l.take i ++ [x.l[i]] := by rw [List.take_add_one, hj]; rfl
        generalize x.l[i] = j at hj htk
        obtain ⟨blk, hsa, _, hin, hrd⟩ := hs.job hj
        have eq : rd w0 M ⟨blk, i * 6, none⟩ = some (.int .i64 j.queue) := hrd 0 _ rfl
        simp only [hsa, nc_v, Int.toNat_natCast, add_eq, Nat.zero_add, eq, ob_v, shI_v]
        refine ⟨⟨by omega, by omega⟩, ?_⟩
        have hle : countD q (x.l.take i) ≤ x.l.length := Nat.le_trans List.countP_le_length (by rw [List.length_take]; omega)
        have hct : countD q (x.l.take (i + 1)) = countD q (x.l.take i) + (if j.queue = q then 1 else 0) := by
          rw [htk]; unfold countD
          rw [List.countP_append, List.countP_singleton]
          simp
        rw [bs_beq, i64_succ (i := i) (by omega), i64_succ (by omega)]
        split
        · rename_i hq
          rw [if_pos hq] at hct
          rw [← hct]
          exact ih (i + 1) (by omega) (by omega)
        · rename_i hq
          rw [if_neg hq] at hct
          rw [show countD q (x.l.take i) = countD q (x.l.take (i + 1)) from by omega]
          exact ih (i + 1) (by omega) (by omega)
      · have hii : i = x.l.length := by omega
        rw [hii, List.take_length]; exact hR
  exact ⟨_, key (x.l.length + 1) 0 (by omega) (by omega)⟩
def accI : Option (Nat × Ent) → Int
  | none => -1
  | some y => (y.1 : Int)
theorem dFirst_ok {q : Int} (h : Holds w0 F M (star (DispA d x) Q)) (hL : x.l.length ≤ 10000) (hR : ∀ M', Mem.le M M' → R (.int .i64 (accI (firstD x.l q))) M') :
    C PP w0 Id.dD_first #[.pointer (some ⟨d, 0, none⟩), .int .i64 q] R M := by
  apply dD_first.go
  intro pts H
  unfold dD_first.T
  have key : ∀ (n i : Nat) (acc : Option (Nat × Ent)) (M' : Mem), Mem.le M M' → i ≤ x.l.length → x.l.length < i + n → firstD x.l q = firstG q i (x.l.drop i) acc → (∀ y, acc = some y → ∃ j, x.l[y.1]? = some j ∧ y.2 = j.e) →
      dD_first.L1 pts n (some ⟨d, 0, none⟩) q (accI acc) (i : Int) M' := by
    intro n
    induction n with
    | zero => intro i acc M' _ h1 h2; omega
    | succ n ih =>
      intro i acc M' hle hi1 hi2 hfi hac
      rw [H.L1]
      unfold dD_first.L1.T
      obtain ⟨p, s, hs⟩ := DispA.open_ (h.le hle)
      have hn := hs.n
      simp only [nc_v, ld_one W.c51, ld_one W.c3, add_eq, Nat.zero_add, hs.rl, ob_v, shS_sv]
      rw [bs_decide]
      split
      · have hlt : i < x.l.length := by omega
        have hj := List.getElem?_eq_getElem hlt
        have hdr : x.l.drop i = x.l[i] :: x.l.drop (i + 1) := List.drop_eq_getElem_cons hlt
        rw [hdr] at hfi
        generalize x.l[i] = j at hj hfi
        rw [firstG] at hfi
        obtain ⟨blk, hsa, _, hin, hrd⟩ := hs.job hj
        have eq : rd w0 M' ⟨blk, i * 6, none⟩ = some (.int .i64 j.queue) := hrd 0 _ rfl
        have ldE : ∀ {i : Nat} {j : Jb}, x.l[i]? = some j → (std PP w0).ld 64 ⟨blk, i * 6 + 2, none⟩ M' = some (.agg #[.int .i64 j.key, .int .i64 j.ser]) := fun {i j} hj => by
          obtain ⟨blk', hsa', _, _, hrd⟩ := hs.job hj
          rw [hsa] at hsa'; cases hsa'
          exact ld_agg (cs := [.int .i64 j.key, .int .i64 j.ser]) W.g64 (fun f v hf => by
            rw [add_eq]
            match f, hf with
            | 0, hf => exact hrd 2 _ hf
            | 1, hf => exact hrd 3 _ hf)
        simp only [hsa, nc_v, Int.toNat_natCast, add_eq, Nat.zero_add, eq, ob_v, shI_v]
        have hbd : 0 ≤ (i : Int) ∧ (i : Int) < ((s.n : Nat) : Int) := ⟨by omega, by omega⟩
        refine ⟨hbd, ?_⟩
        rw [i64_succ (by omega), bs_beq]
        have take : (j.queue = q ∧ befD acc j.e = true) → ∀ M2, Mem.le M M2 → dD_first.L1 pts n (some ⟨d, 0, none⟩) q (i : Int) ((i + 1 : Nat) : Int) M2 := fun hc M2 l2 => by
          rw [if_pos hc] at hfi
          exact ih (i + 1) (some (i, j.e)) M2 l2 (by omega) (by omega) hfi (fun y hy => by cases hy; exact ⟨j, hj, rfl⟩)
        have skip : ¬ (j.queue = q ∧ befD acc j.e = true) → ∀ M2, Mem.le M M2 → dD_first.L1 pts n (some ⟨d, 0, none⟩) q (accI acc) ((i + 1 : Nat) : Int) M2 := fun hc M2 l2 => by
          rw [if_neg hc] at hfi
          exact ih (i + 1) acc M2 l2 (by omega) (by omega) hfi hac
        split
        · rename_i hq
          rw [bs_decide]
          cases acc with
          | none =>
            rw [if_pos (show accI none < 0 by decide)]
            exact take ⟨hq, rfl⟩ M' hle
          | some y =>
            obtain ⟨j2, hj2, hye⟩ := hac y rfl
            obtain ⟨y1, y2⟩ := y
            simp only at hj2 hye
            subst hye
            have hy1 := (List.getElem?_eq_some_iff.1 hj2).1
            have hacc : accI (some (y1, j2.e)) = (y1 : Int) := rfl
            rw [if_neg (by rw [hacc]; omega)]
            simp only [hacc, Int.toNat_natCast, ldE hj, ldE hj2, ob_v, shA_v, shCons_v, shI_v, shNil_v]
            refine ⟨hbd, ⟨by omega, by omega⟩, ?_⟩
            refine rBefore_ok (a := j.e) (b := j2.e) fun M2 l2 => ?_
            rw [shB_v, bs_decide]
            split
            · rename_i hlt2
              exact take ⟨hq, by simp only [befD, decide_eq_true_eq]; exact hlt2⟩ M2 (Mem.le_trans hle l2)
            · rename_i hlt2
              exact skip (fun hh => hlt2 (by have := hh.2; simp only [befD, decide_eq_true_eq] at this; exact this)) M2 (Mem.le_trans hle l2)
        · rename_i hq
          exact skip (fun hh => hq hh.1) M' hle
      · have hii : i = x.l.length := by omega
        rw [hii, List.drop_length] at hfi
        have := hR M' hle
        rw [hfi] at this
        exact this
  exact ⟨_, key (x.l.length + 1) 0 none M (Mem.le_refl _) (by omega) (by omega) rfl (fun y hy => by cases hy)⟩
end
end
end Go.Proofs.Ytedofpnjmnkedaa.HL
namespace Go.Proofs.Ytedofpnjmnkedaa.HL
open Go.RowKit (Below)
open Go.Proofs
section
variable {w0 : World} {F M : Mem} {R : VP}
theorem newD0 {P : Asn} (h : Holds w0 F M P) {K : VP} (hK : ∀ M' s', Mem.le M M' → Holds w0 F M' (star (SlKA 6 s' []) P) → K s'.v M') : (std PP w0).bsl 51 0 [] K M := by
  refine bsl_e (cells := #[]) Try.underlying51 W.e74 (by decide) (by kernel_rfl) fun b hb hw => ?_
  have l1 : Mem.le M (M.set b (.row (#[] : Array Value).toList 74)) := Mem.le_set _ hb
  exact hK _ ⟨some ⟨b, 0, none⟩, 0, 0⟩ l1 (Holds.newSlk h l1 (SlK.new (n := 0) hb (Own.new hw) rfl))
theorem newD1 {P : Asn} (h : Holds w0 F M P) (q d k s a g : Int) {K : VP} (hK : ∀ M' s', Mem.le M M' → Holds w0 F M' (star (SlKA 6 s' [.int .i64 q, .int .i64 d, .int .i64 k, .int .i64 s, .int .i64 a, .int .i64 g]) P) → K s'.v M') :
    (std PP w0).bsl 51 1 [(0, .agg #[.int .i64 q, .int .i64 d, .int .i64 k, .int .i64 s, .int .i64 a, .int .i64 g])] K M := by
  refine bsl_e (n := 1) (cells := #[.int .i64 q, .int .i64 d, .int .i64 k, .int .i64 s, .int .i64 a, .int .i64 g]) Try.underlying51 W.e74 (by decide) (by kernel_rfl) fun b hb hw => ?_
  have l1 : Mem.le M (M.set b (.row (#[.int .i64 q, .int .i64 d, .int .i64 k, .int .i64 s, .int .i64 a, .int .i64 g] : Array Value).toList 74)) := Mem.le_set _ hb
  exact hK _ ⟨some ⟨b, 0, none⟩, 1, 1⟩ l1 (Holds.newSlk h l1 (SlK.new (n := 1) hb (Own.new hw) rfl))
theorem boxJ {b : Nat} {j : Jb} {cs : List Value} {M : Mem} (o : Own w0 M b cs tJb) (hc : cs = jdC j) : (std PP w0).ld tJb ⟨b, 0, none⟩ M = some j.v ∧ (std PP w0).ld 25 ⟨b, 4, none⟩ M = some (.agg #[.int .i64 j.at_, .int .i64 j.gen]) ∧ rd w0 M ⟨b, 2, none⟩ = some (.int .i64 j.key) ∧ rd w0 M ⟨b, 1, none⟩ = some (.int .i64 j.data) := by
  subst hc
  refine ⟨ld_agg (cs := jdC j) W.g74 (fun f v hf => by rw [add_eq, rd_own o, Nat.zero_add]; exact hf), ld_agg (cs := [.int .i64 j.at_, .int .i64 j.gen]) W.g25 (fun f v hf => ?_), rd_own (o := 2) o, rd_own (o := 1) o⟩
  rw [add_eq, rd_own o]
  match f, hf with
  | 0, hf => exact hf
  | 1, hf => exact hf
section
variable {d : Nat} {x : D22} {Q : Asn}
theorem dOut_ok {k : Nat} {j : Jb} (h : Holds w0 F M (star (DispA d x) Q)) (hok : DOk x) (hj : x.l[k]? = some j) (hR : ∀ M', Holds w0 F M' (star (DispA d (x.out k)) Q) → R j.v M') :
    C PP w0 Id.dD_out #[.pointer (some ⟨d, 0, none⟩), .int .i64 (k : Int)] R M := by
  apply dD_out.go
  unfold dD_out.T
  have hL := hok.ll
  have hk := (List.getElem?_eq_some_iff.1 hj).1
  intro b1 hb0 hbw
  have g1 := (Holds.new h hb0 hbw [.int .i64 0, .int .i64 0, .int .i64 0, .int .i64 0, .int .i64 0, .int .i64 0] tJb).rot
  change Holds w0 F (M.set b1 (.row [.int .i64 0, .int .i64 0, .int .i64 0, .int .i64 0, .int .i64 0, .int .i64 0] tJb)) (star (DispA d x) (star (row1 b1 [.int .i64 0, .int .i64 0, .int .i64 0, .int .i64 0, .int .i64 0, .int .i64 0] tJb) Q)) at g1
  generalize M.set b1 _ = M1 at g1 ⊢
  obtain ⟨p, s, hs⟩ := DispA.open_ g1
  obtain ⟨blk, hsa, hns, hin, hrd⟩ := hs.job hj
  have ldj : (std PP w0).ld tJb ⟨blk, k * 6, none⟩ M1 = some j.v := ld_agg (cs := jdC j) W.g74 (fun f v hf => by rw [add_eq]; exact hrd f v hf)
  simp only [nc_v, ld_one W.c51, add_eq, Nat.zero_add, hs.rl, ob_v, shS_sv, hsa, Int.toNat_natCast, ldj]
  refine ⟨⟨by omega, by omega⟩, ?_⟩
  unfold Jb.v
  simp only [shA_v, shCons_v, shI_v, shNil_v]
  intro b2 hb2 hbw2
  have g2 := (Holds.new hs.close hb2 hbw2 [.int .i64 0, .int .i64 0, .int .i64 0, .int .i64 0, .int .i64 0, .int .i64 0] tJb)
  change Holds w0 F (M1.set b2 (.row [.int .i64 0, .int .i64 0, .int .i64 0, .int .i64 0, .int .i64 0, .int .i64 0] tJb)) (star (row1 b2 [.int .i64 0, .int .i64 0, .int .i64 0, .int .i64 0, .int .i64 0, .int .i64 0] tJb) _) at g2
  generalize M1.set b2 _ = M2 at g2 ⊢
  refine st_agg (vs := jdC j) W.g74 g2.own1 (by simp [jdC]) (jdC_one j) ?_
  have g3 := g2.upd1 (cs' := over [.int .i64 0, .int .i64 0, .int .i64 0, .int .i64 0, .int .i64 0, .int .i64 0] 0 (jdC j)) (e' := tJb)
  have hov : over [.int .i64 0, .int .i64 0, .int .i64 0, .int .i64 0, .int .i64 0, .int .i64 0] 0 (jdC j) = jdC j := rfl
  rw [hov] at g3 ⊢
  generalize M2.set b2 _ = M3 at g3 ⊢
  have g4 : Holds w0 F M3 (star (DispA d x) (star (row1 b2 (jdC j) tJb) (star (row1 b1 [.int .i64 0, .int .i64 0, .int .i64 0, .int .i64 0, .int .i64 0, .int .i64 0] tJb) Q))) := g3.rot
  obtain ⟨p, s, hs⟩ := DispA.open_ g4
  have hn := hs.n
  have hw : w64 ((k : Int) + 1) = ((k + 1 : Nat) : Int) := i64_succ (by omega)
  have hcap := Holds.capR jdC_len (by decide) hs.right
  simp only [nc_v, ld_one W.c51, add_eq, Nat.zero_add, hs.rl, ob_v, shS_sv, hw]
  refine ⟨⟨by omega, by omega, by omega⟩, ⟨by omega, by omega, by omega⟩, ?_⟩
  refine newD0 hs fun M4 s38 l4 h4 => ?_
  rw [shS_sv]
  refine ⟨rd_own (o := 4) h4.right.own1, rd_own (o := 4) h4.right.own1, ?_⟩
  have e4 := slkCells h4.right.right
  have n38 : s38.n = 0 := by have := (slkCells h4).2.1; simp at this; omega
  have hx1 : (Value.slice (if s.c = (0 : Int).toNat then s.a else s.a.map (·.add ((0 : Int).toNat * 6))) (k - (0 : Int).toNat) (s.c - (0 : Int).toNat)) = SV.v ⟨if s.c = 0 then s.a else s.a.map (·.add 0), k, s.c⟩ := by
    unfold SV.v
    simp only [Int.toNat_zero, Nat.zero_mul, Nat.sub_zero, Int.toNat_natCast]
  rw [hx1]
  refine appK (news := jdV (x.l.take k)) Try.underlying51 W.e74 h4 (by rw [jdV_len, List.length_take]; simp only; omega) (by rw [jdV_take]; exact cellsHead e4.1) (fun hh => ?_) (jdV_one _) (by decide) (by simp only; omega) fun M5 s41 h5 => ?_
  · simp only at hh ⊢
    obtain ⟨blk5, hsa5, _⟩ := hs.job hj
    rw [hsa5] at hh
    split at hh <;> cases hh
  rw [shS_sv]
  refine ⟨rd_own (o := 4) h5.right.own1, ?_⟩
  have e5 := slkCells h5.right.right
  have n41 : s41.n = k := by
    have := (slkCells h5).2.1
    rw [List.nil_append, jdV_len, List.length_take] at this; omega
  have hx2 : (Value.slice (if s.c = ((k + 1 : Nat) : Int).toNat then s.a else s.a.map (·.add (((k + 1 : Nat) : Int).toNat * 6))) (s.n - ((k + 1 : Nat) : Int).toNat) (s.c - ((k + 1 : Nat) : Int).toNat)) = SV.v ⟨if s.c = k + 1 then s.a else s.a.map (·.add ((k + 1) * 6)), s.n - (k + 1), s.c - (k + 1)⟩ := by
    unfold SV.v
    simp only [Int.toNat_natCast]
  rw [hx2]
  refine appK (news := jdV (x.l.drop (k + 1))) Try.underlying51 W.e74 h5 (by rw [jdV_len, List.length_drop]; simp only; omega) (by rw [jdV_drop]; exact cellsTail e5.1 e5.2.1 (by omega)) (fun hh => ?_) (jdV_one _) (by decide) (by simp only; omega) fun M6 s44 h6 => ?_
  · simp only at hh ⊢
    obtain ⟨blk5, hsa5, _⟩ := hs.job hj
    rw [hsa5] at hh
    split at hh <;> cases hh
  rw [shS_sv]
  have h7 := h6.rot
  refine st_one W.c51 h7.own1 (by simp) rfl rfl ?_
  have h8 := h7.upd1 (cs' := [.int .i64 x.most, .int .i64 x.now, .int .i64 x.next, .pointer (some ⟨p, 0, none⟩), SV.v s44]) (e' := tD)
  rw [show ([.int .i64 x.most, .int .i64 x.now, .int .i64 x.next, .pointer (some ⟨p, 0, none⟩), SV.v s] : List Value).set 4 (SV.v s44) = [.int .i64 x.most, .int .i64 x.now, .int .i64 x.next, .pointer (some ⟨p, 0, none⟩), SV.v s44] from rfl]
  generalize M6.set d _ = M7 at h8 ⊢
  have her : [] ++ jdV (x.l.take k) ++ jdV (x.l.drop (k + 1)) = jdV (x.l.eraseIdx k) := by
    rw [List.nil_append, List.eraseIdx_eq_take_drop_succ]
    simp [List.flatMap_append]
  rw [her] at h8
  have h9 : DH w0 F M7 d { x with l := x.l.eraseIdx k } p s44 (star (row1 b2 (jdC j) tJb) (star (row1 b1 [.int .i64 0, .int .i64 0, .int .i64 0, .int .i64 0, .int .i64 0, .int .i64 0] tJb) Q)) := by
    obtain ⟨F1, k1, _, k2⟩ := h8.last
    obtain ⟨F2, k3, _, k4⟩ := k1.last
    exact k2 _ _ (k4 _ _ k3.right)
  have ob2 := h9.right.right.right.own1
  simp only [nc_v, ld_one W.c50, add_eq, Nat.zero_add, h9.rp, (boxJ ob2 rfl).2.1, ob_v, shP_v, shA_v, shCons_v, shI_v, shNil_v]
  obtain ⟨F1, hp, back⟩ := h9.pool
  have hlk : x.pool.look j.at_ j.gen = 0 := hok.lk j (List.mem_of_getElem? hj)
  refine rGive_ok (l := x.pool) hp hok.pl hok.bl (fun hh => absurd hlk hh) fun n hn _ M8 h8 => ?_
  have h10 := back M8 _ _ h8
  simp only [shT_v, shCons_v, shI_v, shNil_v]
  have ob3 := h10.right.right.right.own1
  rw [(boxJ ob3 rfl).1]
  unfold Jb.v
  simp only [ob_v, shA_v, shCons_v, shI_v, shNil_v]
  have hout : x.out k = { x with l := x.l.eraseIdx k, pool := x.pool.give n } := by
    unfold D22.out
    rw [hj]
    simp only
    rw [show j.at_.toNat = n from by omega]
  have h11 : Holds w0 F M8 (star (row1 b1 [.int .i64 0, .int .i64 0, .int .i64 0, .int .i64 0, .int .i64 0, .int .i64 0] tJb) (star (DispA d (x.out k)) Q)) := by
    rw [hout]
    have := DH.close (x := { x with l := x.l.eraseIdx k, pool := x.pool.give n }) h10
    obtain ⟨F1, k1, _, k2⟩ := this.last
    exact (k2 _ _ k1.right).rot
  refine st_agg (vs := jdC j) W.g74 h11.own1 (by simp [jdC]) (jdC_one j) ?_
  have h12 := h11.upd1 (cs' := over [.int .i64 0, .int .i64 0, .int .i64 0, .int .i64 0, .int .i64 0, .int .i64 0] 0 (jdC j)) (e' := tJb)
  rw [hov] at h12 ⊢
  generalize M8.set b1 _ = M9 at h12 ⊢
  rw [rdv_ptr, (boxJ h12.own1 rfl).1, ob_v]
  exact hR M9 h12.right
end
end
end Go.Proofs.Ytedofpnjmnkedaa.HL
namespace Go.Proofs.Ytedofpnjmnkedaa.HL
open Go.RowKit (Below)
open Go.Proofs
section
variable {x : D22} {c : Cmd}
theorem do22_bad (h : badQ c) : do22 x c = (x, { why := 1 }) := by unfold badQ at h; unfold do22; rw [if_pos h]
theorem do22_1 (h : ¬ badQ c) (k : c.kind = 1) : do22 x c = match x.pool.at_ with
    | none => (x, { why := 13 })
    | some a => ({ x with pool := x.pool.take a 0, l := x.l ++ [⟨c.queue, c.data, c.time, x.next, (a : Int), x.pool.gen a⟩], next := x.next + 1 }, { at_ := (a : Int), gen := x.pool.gen a, time := c.time, data := c.data }) := by
  unfold badQ at h; unfold do22; rw [if_neg h, if_pos k] <;> rfl
theorem do22_23 (k : c.kind = 2 ∨ c.kind = 3) : do22 x c = if x.pool.look c.at_ c.gen ≠ 0 then (x, { why := x.pool.look c.at_ c.gen })
    else match atD x.l c.at_ c.gen with
      | none => (x, {})
      | some k => match x.l[k]? with
        | none => (x, {})
        | some j =>
          if c.kind = 3 then (x.out k, { time := j.key, data := j.data })
          else if j.key < c.time then (x, { why := 26 })
          else ({ x with l := x.l.set k { j with key := c.time } }, { time := c.time, data := j.data }) := by
  unfold do22; rw [if_neg (fun h => by omega), if_neg (by omega), if_pos k] <;> rfl
theorem do22_4 (k : c.kind = 4) : do22 x c = if c.time < 0 then (x, { why := 1 }) else ({ x with now := addc x.now c.time }, { time := addc x.now c.time }) := by
  unfold do22; rw [if_neg (fun h => by omega), if_neg (by omega), if_neg (by omega), if_pos k]
theorem do22_5 (h : ¬ badQ c) (k : c.kind = 5) : do22 x c = match firstD x.l c.queue with
    | none => (x, { why := 28 })
    | some y => if x.now < y.2.1 then (x, { why := 28 }) else
      match x.l[y.1]? with
      | none => (x, {})
      | some j => (x.out y.1, { at_ := j.at_, gen := j.gen, time := j.key, data := j.data }) := by
  unfold badQ at h; unfold do22; rw [if_neg h, if_neg (by omega), if_neg (by omega), if_neg (by omega), if_pos k] <;> rfl
theorem do22_6 (h : ¬ badQ c) (k : c.kind = 6) : do22 x c = if c.queue = 0 then (x, { why := 25 })
    else ({ x with l := x.l.map fun j => if j.queue = 1 then { j with queue := 0 } else j }, { n := (countD 1 x.l : Int) }) := by
  unfold badQ at h; unfold do22; rw [if_neg h, if_neg (by omega), if_neg (by omega), if_neg (by omega), if_neg (by omega), if_pos k]
theorem do22_7 (h : ¬ badQ c) (k : c.kind = 7) : do22 x c = (x, { n := (countD c.queue x.l : Int) }) := by
  unfold badQ at h; unfold do22; rw [if_neg h, if_neg (by omega), if_neg (by omega), if_neg (by omega), if_neg (by omega), if_neg (by omega), if_pos k]
theorem do22_8 (k : c.kind < 1 ∨ 7 < c.kind) : do22 x c = (x, { why := 12 }) := by
  unfold do22; rw [if_neg (fun h => by omega), if_neg (by omega), if_neg (by omega), if_neg (by omega), if_neg (by omega), if_neg (by omega), if_neg (by omega)]
end
section
variable {w0 : World} {F M : Mem} {R : VP}
theorem resRep {b : Nat} {cs : List Value} {P : Asn} {a0 a1 a2 a3 a4 a5 : Int} (h : Holds w0 F M (star (row1 b cs tRep) P)) (hcs : cs.length = 6) {K : VP} (hK : ∀ M', Holds w0 F M' P → K (.agg #[.int .i64 a0, .int .i64 a1, .int .i64 a2, .int .i64 a3, .int .i64 a4, .int .i64 a5]) M') :
    (std PP w0).st tRep ⟨b, 0, none⟩ (.agg #[.int .i64 a0, .int .i64 a1, .int .i64 a2, .int .i64 a3, .int .i64 a4, .int .i64 a5]) (fun M14 => ob ((std PP w0).rdv tRep (.pointer (some ⟨b, 0, none⟩)) M14) fun v15 => K v15 M14) M := by
  refine st_agg (vs := [.int .i64 a0, .int .i64 a1, .int .i64 a2, .int .i64 a3, .int .i64 a4, .int .i64 a5]) W.g32 h.own1 (by simp [hcs]) (by intro v hv; simp only [List.mem_cons, List.not_mem_nil, or_false] at hv; rcases hv with rfl | rfl | rfl | rfl | rfl | rfl <;> rfl) ?_
  have hP2 := h.upd1 (cs' := over cs 0 [.int .i64 a0, .int .i64 a1, .int .i64 a2, .int .i64 a3, .int .i64 a4, .int .i64 a5]) (e' := tRep)
  have o2 := hP2.own1
  have ho : over cs 0 [.int .i64 a0, .int .i64 a1, .int .i64 a2, .int .i64 a3, .int .i64 a4, .int .i64 a5] = [.int .i64 a0, .int .i64 a1, .int .i64 a2, .int .i64 a3, .int .i64 a4, .int .i64 a5] := by
    match cs, hcs with
    | [_, _, _, _, _, _], _ => rfl
  rw [ho] at o2
  rw [rdv_ptr, ld_agg (cs := [.int .i64 a0, .int .i64 a1, .int .i64 a2, .int .i64 a3, .int .i64 a4, .int .i64 a5]) W.g32 (fun j v hj => by rw [ho, add_eq, rd_own o2, Nat.zero_add]; exact hj), ob_v]
  exact hK _ hP2.right
section
variable {d : Nat} {x : D22} {Q : Asn}
theorem DH.set {p : Nat} {s : SV} (h : DH w0 F M d x p s Q) {t : TypeId} (ht : cell1 PP t = true) {i : Nat} {j j' : Jb} (hj : x.l[i]? = some j) {f : Nat} (hf : f < 6) {v : Value} (hv : onecell v = true) (hcv : v.cells = #[v]) (he : (jdC j).set f v = jdC j')
    {blk : Nat} (ha : s.a = some ⟨blk, 0, none⟩) {K : Mem → Prop} (hK : ∀ M', DH w0 F M' d { x with l := x.l.set i j' } p s Q → K M') : (std PP w0).st t ⟨blk, i * 6 + f, none⟩ v (fun M' => K M') M := by
  refine Holds.stR (P := PP) (c := jdC) (l := x.l) jdC_len (by decide) ht h.rot hj hf hv hcv he ha fun M' h' => hK M' h'.rot
abbrev zR : List Value := [.int .i64 0, .int .i64 0, .int .i64 0, .int .i64 0, .int .i64 0, .int .i64 0]
theorem dQueue_ok {c : Cmd} (h : Holds w0 F M (star (DispA d x) Q)) (hok : DOk x) (hq : c.queue = 0 ∨ c.queue = 1) (hk : c.kind = 1 ∨ c.kind = 5 ∨ c.kind = 6 ∨ c.kind = 7)
    (hR : ∀ M', Holds w0 F M' (star (DispA d (do22 x c).1) Q) → R (do22 x c).2.v M') :
    C PP w0 Id.dD_queue #[.pointer (some ⟨d, 0, none⟩), c.v] R M := by
  apply dD_queue.go
  intro pts H
  unfold dD_queue.T
  have hL := hok.ll
  have hbq : ¬ badQ c := by unfold badQ; omega
  intro b1 hb0 hbw
  have g1 := (Holds.new h hb0 hbw [.int .i64 c.kind, .int .i64 c.queue, .int .i64 c.at_, .int .i64 c.gen, .int .i64 c.time, .int .i64 c.data] tCmd).rot
  change Holds w0 F (M.set b1 (.row [.int .i64 c.kind, .int .i64 c.queue, .int .i64 c.at_, .int .i64 c.gen, .int .i64 c.time, .int .i64 c.data] tCmd)) (star (DispA d x) (star (row1 b1 [.int .i64 c.kind, .int .i64 c.queue, .int .i64 c.at_, .int .i64 c.gen, .int .i64 c.time, .int .i64 c.data] tCmd) Q)) at g1
  generalize M.set b1 _ = M1 at g1 ⊢
  intro b3 hb3 hbw3
  have g3 := (Holds.new g1 hb3 hbw3 [.int .i64 0, .int .i64 0, .int .i64 0, .int .i64 0, .int .i64 0, .int .i64 0] tRep).rot
  change Holds w0 F (M1.set b3 (.row [.int .i64 0, .int .i64 0, .int .i64 0, .int .i64 0, .int .i64 0, .int .i64 0] tRep)) (star (DispA d x) (star (row1 b3 zR tRep) (star (row1 b1 [.int .i64 c.kind, .int .i64 c.queue, .int .i64 c.at_, .int .i64 c.gen, .int .i64 c.time, .int .i64 c.data] tCmd) Q))) at g3
  generalize M1.set b3 _ = M2 at g3 ⊢
  have LC : ∀ {M' : Mem}, Own w0 M' b1 [.int .i64 c.kind, .int .i64 c.queue, .int .i64 c.at_, .int .i64 c.gen, .int .i64 c.time, .int .i64 c.data] tCmd → rd w0 M' ⟨b1, 0, none⟩ = some (.int .i64 c.kind) ∧ rd w0 M' ⟨b1, 1, none⟩ = some (.int .i64 c.queue) ∧ rd w0 M' ⟨b1, 4, none⟩ = some (.int .i64 c.time) ∧ rd w0 M' ⟨b1, 5, none⟩ = some (.int .i64 c.data) := fun o => ⟨rd_own (o := 0) o, rd_own (o := 1) o, rd_own (o := 4) o, rd_own (o := 5) o⟩
  have fin : ∀ (M4 : Mem) (x' : D22) (r : Rep), do22 x c = (x', r) → Holds w0 F M4 (star (DispA d x') (star (row1 b3 zR tRep) (star (row1 b1 [.int .i64 c.kind, .int .i64 c.queue, .int .i64 c.at_, .int .i64 c.gen, .int .i64 c.time, .int .i64 c.data] tCmd) Q))) →
      (std PP w0).st tRep ⟨b3, 0, none⟩ (.agg #[.int .i64 r.why, .int .i64 r.at_, .int .i64 r.gen, .int .i64 r.time, .int .i64 r.data, .int .i64 r.n]) (fun M14 => ob ((std PP w0).rdv tRep (.pointer (some ⟨b3, 0, none⟩)) M14) fun v15 => R v15 M14) M4 := by
    intro M4 x' r hd g
    refine resRep g.rot rfl fun M5 g5 => ?_
    rw [hd] at hR
    refine hR M5 ?_
    obtain ⟨F', k1, _, k2⟩ := g5.last
    exact k2 _ _ k1.right
  have o1 := g3.right.right.own1
  simp only [ld_one W.c3, (LC o1).1, ob_v, shI_v]
  rw [bs_beq]
  split
  · -- Schedule
    rename_i k
    have hd := do22_1 (x := x) hbq k
    obtain ⟨p, s, hs⟩ := DispA.open_ g3
    simp only [nc_v, ld_one W.c50, add_eq, Nat.zero_add, hs.rp, ob_v, shP_v]
    obtain ⟨F1, hp, back⟩ := hs.pool
    refine rTake_ok hp hok.pl hok.gl hok.bl hok.gv (fun hn M3 h3 => ?_) fun a ha M3 h3 => ?_
    · rw [hn] at hd
      have h4 := (back M3 _ _ h3).close
      simp only [shT_v, shCons_v, shA_v, shI_v, shB_v, shNil_v]
      intro b5 hb5 hbw5
      have g5 := Holds.new h4 hb5 hbw5 [.int .i64 0, .int .i64 0] 25
      generalize M3.set b5 _ = M4 at g5 ⊢
      refine st_agg (vs := [.int .i64 0, .int .i64 0]) W.g25 g5.own1 (by simp) (by intro v hv; simp only [List.mem_cons, List.not_mem_nil, or_false] at hv; rcases hv with rfl | rfl <;> rfl) ?_
      have g6 := g5.upd1 (cs' := over [.int .i64 0, .int .i64 0] 0 [.int .i64 0, .int .i64 0]) (e' := 25)
      rw [Bool.not_false, bs_true, bR0]
      simp only [ob_v, shA_v, shCons_v, shI_v, shNil_v]
      exact fin _ x { why := 13 } hd g6.right
    · rw [ha] at hd
      simp only at hd
      have h4 := back M3 _ _ h3
      simp only [shT_v, shCons_v, shA_v, shI_v, shB_v, shNil_v]
      intro b5 hb5 hbw5
      have g5 := Holds.new h4.close hb5 hbw5 [.int .i64 0, .int .i64 0] 25
      generalize M3.set b5 _ = M4 at g5 ⊢
      generalize hgg : x.pool.gen a = g at hd ⊢
      refine st_agg (vs := [.int .i64 (a : Int), .int .i64 g]) W.g25 g5.own1 (by simp) (by intro v hv; simp only [List.mem_cons, List.not_mem_nil, or_false] at hv; rcases hv with rfl | rfl <;> rfl) ?_
      have g6 := g5.upd1 (cs' := over [.int .i64 0, .int .i64 0] 0 [.int .i64 (a : Int), .int .i64 g]) (e' := 25)
      have hov : over [.int .i64 0, .int .i64 0] 0 [.int .i64 (a : Int), .int .i64 g] = [Value.int .i64 (a : Int), .int .i64 g] := rfl
      rw [hov] at g6 ⊢
      generalize M4.set b5 _ = M5 at g6 ⊢
      rw [Bool.not_true, bs_false]
      obtain ⟨p2, s2, hs2⟩ := DispA.open_ g6.rot
      have LR : ∀ {M' : Mem}, Own w0 M' b5 [.int .i64 (a : Int), .int .i64 g] 25 → (std PP w0).ld 25 ⟨b5, 0, none⟩ M' = some (.agg #[.int .i64 (a : Int), .int .i64 g]) := fun o => ld_agg (cs := [.int .i64 (a : Int), .int .i64 g]) W.g25 (fun j v hj => by rw [add_eq, rd_own o, Nat.zero_add]; exact hj)
      have hns := hs2.n
      simp only at hns
      have q5 := hs2.right.right.right.own1
      have q1 := hs2.right.right.right.right.right.own1
      have hbJ : (std PP w0).bld tJb [(0, .int .i64 c.queue), (1, .int .i64 c.data), (2, .agg #[.int .i64 c.time, .int .i64 x.next]), (3, .agg #[.int .i64 (a : Int), .int .i64 g])] = some (.agg #[.int .i64 c.queue, .int .i64 c.data, .int .i64 c.time, .int .i64 x.next, .int .i64 (a : Int), .int .i64 g]) := by kernel_rfl
      have rx2 : rd w0 M5 ⟨d, 2, none⟩ = some (.int .i64 x.next) := hs2.rx
      simp only [nc_v, ld_one W.c51, ld_one W.c3, ld_one W.c2, add_eq, Nat.zero_add, hs2.rl, rx2, (LC q1).2.1, (LC q1).2.2.1, (LC q1).2.2.2, LR q5, ob_v, shS_sv, shA_v, shCons_v, shI_v, shNil_v, bE01, hbJ]
      have one : ∀ v ∈ [Value.int .i64 c.queue, .int .i64 c.data, .int .i64 c.time, .int .i64 x.next, .int .i64 (a : Int), .int .i64 g], onecell v = true := fun v hv => by
        simp only [List.mem_cons, List.not_mem_nil, or_false] at hv
        rcases hv with rfl | rfl | rfl | rfl | rfl | rfl <;> rfl
      have put : ∀ (M9 : Mem) (s' : SV) (X : Asn), Holds w0 F M9 (star (SlKA 6 s' ([] ++ jdV x.l ++ [.int .i64 c.queue, .int .i64 c.data, .int .i64 c.time, .int .i64 x.next, .int .i64 (a : Int), .int .i64 g])) (star X (star (row1 d [.int .i64 x.most, .int .i64 x.now, .int .i64 x.next, .pointer (some ⟨p2, 0, none⟩), SV.v s2] tD) (star (SlKA 6 s2 (jdV x.l)) (star (PoolA p2 (x.pool.take a 0)) (star (row1 b5 [.int .i64 (a : Int), .int .i64 g] 25) (star (row1 b3 zR tRep) (star (row1 b1 [.int .i64 c.kind, .int .i64 c.queue, .int .i64 c.at_, .int .i64 c.gen, .int .i64 c.time, .int .i64 c.data] tCmd) Q)))))))) →
          (std PP w0).st 51 ⟨d, 4, none⟩ (SV.v s') (fun M111 => ob (rd w0 M111 ⟨d, 2, none⟩) fun v113 => shI .i64 v113 fun n114 => (std PP w0).st 2 ⟨d, 2, none⟩ (.int .i64 (w64 (n114 + 1))) (fun M116 => ob ((std PP w0).ld 25 ⟨b5, 0, none⟩ M116) fun v117 => shA v117 fun l118 => shCons l118 fun u119 r120 => shI .i64 u119 fun n121 => shCons r120 fun u122 r123 => shI .i64 u122 fun n124 => shNil r123
            (ob (rd w0 M116 ⟨b1, 4, none⟩) fun v125 => shI .i64 v125 fun n126 => ob (rd w0 M116 ⟨b1, 5, none⟩) fun v127 => shI .i64 v127 fun n128 => ob ((std PP w0).bld tRep [(1, .agg #[.int .i64 n121, .int .i64 n124]), (2, .int .i64 n126), (3, .int .i64 n128)]) fun v129 => shA v129 fun l130 => shCons l130 fun u131 r132 => shI .i64 u131 fun n133 => shCons r132 fun u134 r135 => shI .i64 u134 fun n136 => shCons r135 fun u137 r138 => shI .i64 u137 fun n139 => shCons r138 fun u140 r141 => shI .i64 u140 fun n142 => shCons r141 fun u143 r144 => shI .i64 u143 fun n145 => shCons r144 fun u146 r147 => shI .i64 u146 fun n148 => shNil r147
              ((std PP w0).st tRep ⟨b3, 0, none⟩ (.agg #[.int .i64 n133, .int .i64 n136, .int .i64 n139, .int .i64 n142, .int .i64 n145, .int .i64 n148]) (fun M149 => ob ((std PP w0).rdv tRep (.pointer (some ⟨b3, 0, none⟩)) M149) fun v150 => R v150 M149) M116))) M111) M9 := by
        intro M9 s' X h9
        have h10 := h9.mdr3
        refine st_one W.c51 h10.own1 (by simp) rfl rfl ?_
        have h11 := h10.upd1 (cs' := [.int .i64 x.most, .int .i64 x.now, .int .i64 x.next, .pointer (some ⟨p2, 0, none⟩), SV.v s']) (e' := tD)
        rw [show ([.int .i64 x.most, .int .i64 x.now, .int .i64 x.next, .pointer (some ⟨p2, 0, none⟩), SV.v s2] : List Value).set 4 (SV.v s') = [.int .i64 x.most, .int .i64 x.now, .int .i64 x.next, .pointer (some ⟨p2, 0, none⟩), SV.v s'] from rfl]
        generalize M9.set d _ = M10 at h11 ⊢
        have rxx : rd w0 M10 ⟨d, 2, none⟩ = some (.int .i64 x.next) := rd_own (o := 2) h11.own1
        rw [rxx]
        simp only [ob_v, shI_v]
        have hnx := hok.nx
        rw [w64_in (show -9223372036854775808 ≤ x.next + 1 ∧ x.next + 1 ≤ 9223372036854775807 by omega)]
        refine st_one W.c2 h11.own1 (by simp) rfl rfl ?_
        have h12 := h11.upd1 (cs' := [.int .i64 x.most, .int .i64 x.now, .int .i64 (x.next + 1), .pointer (some ⟨p2, 0, none⟩), SV.v s']) (e' := tD)
        rw [show ([.int .i64 x.most, .int .i64 x.now, .int .i64 x.next, .pointer (some ⟨p2, 0, none⟩), SV.v s'] : List Value).set 2 (.int .i64 (x.next + 1)) = [.int .i64 x.most, .int .i64 x.now, .int .i64 (x.next + 1), .pointer (some ⟨p2, 0, none⟩), SV.v s'] from rfl]
        generalize M10.set d _ = M11 at h12 ⊢
        have t5 := h12.right.right.right.right.right.own1
        have t1 := h12.right.right.right.right.right.right.right.own1
        simp only [LR t5, (LC t1).2.2.1, (LC t1).2.2.2, ob_v, shA_v, shCons_v, shI_v, shNil_v, bR123]
        refine fin M11 _ _ hd ?_
        refine DH.close (p := p2) (s := s') ?_
        show Holds w0 F _ (star _ (star (SlKA 6 s' (jdV (x.l ++ [⟨c.queue, c.data, c.time, x.next, (a : Int), g⟩]))) (star (PoolA p2 (x.pool.take a 0)) _)))
        rw [List.nil_append] at h12
        rw [show jdV (x.l ++ [⟨c.queue, c.data, c.time, x.next, (a : Int), g⟩]) = jdV x.l ++ [.int .i64 c.queue, .int .i64 c.data, .int .i64 c.time, .int .i64 x.next, .int .i64 (a : Int), .int .i64 g] from by simp [List.flatMap_append, jdC]]
        obtain ⟨F1, k1, _, k2⟩ := h12.last
        refine k2 _ _ ?_
        obtain ⟨F2, k3, _, k4⟩ := k1.last
        refine k4 _ _ ?_
        obtain ⟨F3, k5, _, k6⟩ := (k3.right.right).last
        exact k6 _ _ k5.right
      have hln : s2.n ≤ 10000 := by omega
      refine ⟨?_, ?_⟩
      · refine newD0 hs2 fun M6 s363 l6 h6 => ?_
        rw [shS_sv]
        have r5 := h6.right.right.right.right.own1
        have r1 := h6.right.right.right.right.right.right.own1
        refine ⟨rd_own (o := 4) h6.right.own1, (LC r1).2.1, (LC r1).2.2.2, (LC r1).2.2.1, rd_own (o := 2) h6.right.own1, LR r5, ?_, ?_⟩
        · have e6 := slkCells h6.right.right
          have n363 : s363.n = 0 := by have := (slkCells h6).2.1; simp at this; omega
          refine appK Try.underlying51 W.e74 h6 e6.2.1 e6.1 e6.2.2 (jdV_one _) (by decide) (by omega) fun M7 s366 h7 => ?_
          rw [shS_sv]
          have t5 := h7.right.right.right.right.own1
          have t1 := h7.right.right.right.right.right.right.own1
          refine ⟨(LC t1).2.1, (LC t1).2.2.2, (LC t1).2.2.1, rd_own (o := 2) h7.right.own1, LR t5, ?_⟩
          refine newD1 h7 _ _ _ _ _ _ fun M8 s369 l8 h8 => ?_
          rw [shS_sv]
          have e8 := slkCells h8
          have n366 : s366.n = s2.n := by
            have := (slkCells h8.right).2.1
            rw [List.nil_append, jdV_len] at this
            simp only at this; omega
          refine appK Try.underlying51 W.e74 h8.rot e8.2.1 e8.1 e8.2.2 one (by decide) (by have := e8.2.1; simp at this; omega) fun M9 s372 h9 => ?_
          rw [shS_sv]
          exact put M9 s372 _ h9
        · refine newD1 h6 _ _ _ _ _ _ fun M7 s377 l7 h7 => ?_
          rw [shS_sv]
          refine ⟨rd_own (o := 4) h7.right.right.own1, ?_⟩
          have e6 := slkCells h7.right.right.right
          have n363 : s363.n = 0 := by have := (slkCells h6).2.1; simp at this; omega
          refine appK Try.underlying51 W.e74 h7.rot e6.2.1 e6.1 e6.2.2 (jdV_one _) (by decide) (by omega) fun M8 s380 h8 => ?_
          rw [shS_sv]
          have e8 := slkCells h8.right
          have n380 : s380.n = s2.n := by
            have := (slkCells h8).2.1
            rw [List.nil_append, jdV_len] at this
            simp only at this; omega
          refine appK Try.underlying51 W.e74 h8 e8.2.1 e8.1 e8.2.2 one (by decide) (by have := e8.2.1; simp at this; omega) fun M9 s383 h9 => ?_
          rw [shS_sv]
          exact put M9 s383 _ h9
      · refine newD1 hs2 _ _ _ _ _ _ fun M6 s388 l6 h6 => ?_
        rw [shS_sv]
        refine ⟨rd_own (o := 4) h6.right.own1, ?_⟩
        refine newD0 h6 fun M7 s391 l7 h7 => ?_
        rw [shS_sv]
        refine ⟨rd_own (o := 4) h7.right.right.own1, ?_⟩
        have e6 := slkCells h7.right.right.right
        have n391 : s391.n = 0 := by have := (slkCells h7).2.1; simp at this; omega
        refine appK Try.underlying51 W.e74 h7 e6.2.1 e6.1 e6.2.2 (jdV_one _) (by decide) (by omega) fun M8 s394 h8 => ?_
        rw [shS_sv]
        have e8 := slkCells h8.right
        have n394 : s394.n = s2.n := by
          have := (slkCells h8).2.1
          rw [List.nil_append, jdV_len] at this
          simp only at this; omega
        refine appK Try.underlying51 W.e74 h8 e8.2.1 e8.1 e8.2.2 one (by decide) (by have := e8.2.1; simp at this; omega) fun M9 s397 h9 => ?_
        rw [shS_sv]
        exact put M9 s397 _ h9
  · rename_i k1
    rw [bs_beq]
    split
    · -- Fire
      rename_i k
      have hd := do22_5 (x := x) hbq k
      simp only [ld_one W.c3, add_eq, Nat.zero_add, (LC o1).2.1, ob_v, shI_v]
      refine dFirst_ok g3 hL fun M3 l3 => ?_
      have g4 := g3.le l3
      rw [shI_v, bs_decide]
      cases hf : firstD x.l c.queue with
      | none =>
        rw [hf] at hd
        rw [if_pos (show accI none < 0 by decide), bR0]
        simp only [ob_v, shA_v, shCons_v, shI_v, shNil_v]
        exact fin M3 x { why := 28 } hd g4
      | some y =>
        obtain ⟨j, hj, hjq, hye, _⟩ := firstD_some hf
        obtain ⟨y1, y2⟩ := y
        simp only at hj hye
        subst hye
        rw [hf] at hd
        simp only [hj] at hd
        have hacc : accI (some (y1, j.e)) = (y1 : Int) := rfl
        rw [hacc, if_neg (by omega)]
        obtain ⟨p, s, hs⟩ := DispA.open_ g4
        obtain ⟨blk, hsa, hns, hin, hrd⟩ := hs.job hj
        have ek : rd w0 M3 ⟨blk, y1 * 6 + 2, none⟩ = some (.int .i64 j.key) := hrd 2 _ rfl
        simp only [nc_v, ld_one W.c51, ld_one W.c2, add_eq, Nat.zero_add, hs.rl, hs.rn, ob_v, shS_sv, hsa, Int.toNat_natCast, ek, shI_v]
        refine ⟨⟨by omega, by omega⟩, ?_⟩
        rw [bs_decide]
        split
        · rename_i hdue
          rw [if_pos (show x.now < j.e.1 from hdue)] at hd
          rw [bR0]
          simp only [ob_v, shA_v, shCons_v, shI_v, shNil_v]
          exact fin M3 x { why := 28 } hd g4
        · rename_i hdue
          rw [if_neg (show ¬ x.now < j.e.1 from hdue)] at hd
          rw [H.J1]
          unfold dD_queue.J1.T
          refine dOut_ok g4 hok hj fun M4 h4 => ?_
          unfold Jb.v
          simp only [shA_v, shCons_v, shI_v, shNil_v]
          intro b5 hb5 hbw5
          have g5 := Holds.new h4 hb5 hbw5 [.int .i64 0, .int .i64 0, .int .i64 0, .int .i64 0, .int .i64 0, .int .i64 0] tJb
          generalize M4.set b5 _ = M5 at g5 ⊢
          refine st_agg (vs := jdC j) W.g74 g5.own1 (by simp [jdC]) (jdC_one j) ?_
          have g6 := g5.upd1 (cs' := over [.int .i64 0, .int .i64 0, .int .i64 0, .int .i64 0, .int .i64 0, .int .i64 0] 0 (jdC j)) (e' := tJb)
          have hov : over [.int .i64 0, .int .i64 0, .int .i64 0, .int .i64 0, .int .i64 0, .int .i64 0] 0 (jdC j) = jdC j := rfl
          rw [hov] at g6 ⊢
          generalize M5.set b5 _ = M6 at g6 ⊢
          have hb6 := boxJ g6.own1 rfl
          simp only [ld_one W.c3, ld_one W.c2, add_eq, Nat.zero_add, hb6.2.1, hb6.2.2.1, hb6.2.2.2, ob_v, shA_v, shCons_v, shI_v, shNil_v, bR123]
          exact fin M6 _ _ hd g6.right
    · rename_i k5
      rw [bs_beq]
      split
      · -- Merge
        rename_i k
        have hd := do22_6 (x := x) hbq k
        simp only [ld_one W.c3, add_eq, Nat.zero_add, (LC o1).2.1, ob_v, shI_v]
        rw [bs_beq]
        split
        · rename_i hz
          rw [if_pos hz] at hd
          rw [bR0]
          simp only [ob_v, shA_v, shCons_v, shI_v, shNil_v]
          exact fin M2 x { why := 25 } hd g3
        · rename_i hz
          rw [if_neg hz] at hd
          have key : ∀ (n i : Nat) (l' : List Jb) (M' : Mem), i ≤ x.l.length → x.l.length < i + n → l'.length = x.l.length → (∀ a, a < i → l'[a]? = (x.l[a]?).map fun j => if j.queue = 1 then { j with queue := 0 } else j) → (∀ a, i ≤ a → l'[a]? = x.l[a]?) →
              Holds w0 F M' (star (DispA d { x with l := l' }) (star (row1 b3 zR tRep) (star (row1 b1 [.int .i64 c.kind, .int .i64 c.queue, .int .i64 c.at_, .int .i64 c.gen, .int .i64 c.time, .int .i64 c.data] tCmd) Q))) →
              dD_queue.L2 pts n (some ⟨d, 0, none⟩) ⟨b3, 0, none⟩ ((countD 1 (x.l.take i) : Nat) : Int) (i : Int) M' := by
            intro n
            induction n with
            | zero => intro i l' M' e1 e2; omega
            | succ n ih =>
              intro i l' M' e1 e2 e3 e4 e5 g
              rw [H.L2]
              unfold dD_queue.L2.T
              obtain ⟨p, s, hs⟩ := DispA.open_ g
              have ns := hs.n
              simp only at ns
              simp only [nc_v, ld_one W.c51, ld_one W.c3, add_eq, Nat.zero_add, hs.rl, ob_v, shS_sv]
              rw [bs_decide]
              split
              · have hlt : i < x.l.length := by omega
                have hj := List.getElem?_eq_getElem hlt
                have htk : x.l.take (i + 1) = x.l.take i ++ [x.l[i]] := by rw [List.take_add_one, hj]; rfl
                generalize x.l[i] = j at hj htk
                have hj' : l'[i]? = some j := by rw [e5 i (Nat.le_refl _), hj]
                obtain ⟨blk, hsa, _, hin, hrd⟩ := hs.job (x := { x with l := l' }) hj'
                have eq : rd w0 M' ⟨blk, i * 6, none⟩ = some (.int .i64 j.queue) := hrd 0 _ rfl
                simp only [hsa, nc_v, Int.toNat_natCast, add_eq, Nat.zero_add, eq, ob_v, shI_v]
                have hbd : 0 ≤ (i : Int) ∧ (i : Int) < ((s.n : Nat) : Int) := ⟨by omega, by omega⟩
                refine ⟨hbd, ?_⟩
                have hle : countD 1 (x.l.take i) ≤ x.l.length := Nat.le_trans List.countP_le_length (by rw [List.length_take]; omega)
                have hct : countD 1 (x.l.take (i + 1)) = countD 1 (x.l.take i) + (if j.queue = 1 then 1 else 0) := by
                  rw [htk]; unfold countD
                  rw [List.countP_append, List.countP_singleton]
                  simp
                rw [bs_beq, i64_succ (i := i) (by omega), i64_succ (by omega)]
                split
                · rename_i hq1
                  rw [if_pos hq1] at hct
                  refine ⟨hbd, ?_⟩
                  have := DH.set (x := { x with l := l' }) hs W.c3 (i := i) (j' := { j with queue := 0 }) hj' (f := 0) (by decide) (v := .int .i64 0) rfl rfl rfl hsa (K := fun M435 => dD_queue.L2 pts n (some ⟨d, 0, none⟩) ⟨b3, 0, none⟩ ((countD 1 (x.l.take i) + 1 : Nat) : Int) ((i + 1 : Nat) : Int) M435) fun M4 h4 => by
                    rw [← hct]
                    refine ih (i + 1) (l'.set i { j with queue := 0 }) M4 (by omega) (by omega) (by rw [List.length_set, e3]) (fun a ha => ?_) (fun a ha => ?_) (DH.close h4)
                    · by_cases hai : a = i
                      · subst hai
                        rw [List.getElem?_set_self (by omega), hj]
                        simp only [Option.map_some, if_pos hq1]
                      · rw [List.getElem?_set_ne (Ne.symm hai)]; exact e4 a (by omega)
                    · rw [List.getElem?_set_ne (by omega)]; exact e5 a (by omega)
                  exact this
                · rename_i hq1
                  rw [if_neg hq1] at hct
                  rw [show countD 1 (x.l.take i) = countD 1 (x.l.take (i + 1)) from by omega]
                  refine ih (i + 1) l' M' (by omega) (by omega) e3 (fun a ha => ?_) (fun a ha => e5 a (by omega)) g
                  by_cases hai : a = i
                  · subst hai
                    rw [hj', hj]
                    simp only [Option.map_some, if_neg hq1]
                  · exact e4 a (by omega)
              · have hii : i = x.l.length := by omega
                have hl' : l' = x.l.map fun j => if j.queue = 1 then { j with queue := 0 } else j := List.ext_getElem? fun a => by
                  rw [List.getElem?_map]
                  by_cases ha : a < i
                  · exact e4 a ha
                  · rw [e5 a (by omega), List.getElem?_eq_none (by omega)]; rfl
                subst hii
                rw [List.take_length, bR4]
                simp only [ob_v, shA_v, shCons_v, shI_v, shNil_v]
                rw [hl'] at g
                exact fin M' _ _ hd g
          exact ⟨_, key (x.l.length + 1) 0 x.l M2 (by omega) (by omega) rfl (fun a ha => by omega) (fun a _ => rfl) g3⟩
      · -- Count
        rename_i k6
        have k : c.kind = 7 := by omega
        have hd := do22_7 (x := x) hbq k
        simp only [ld_one W.c3, add_eq, Nat.zero_add, (LC o1).2.1, ob_v, shI_v]
        refine dCount_ok g3 hL ?_
        simp only [shI_v]
        rw [bR4]
        simp only [ob_v, shA_v, shCons_v, shI_v, shNil_v]
        exact fin M2 _ _ hd g3
end
end
end Go.Proofs.Ytedofpnjmnkedaa.HL
namespace Go.Proofs.Ytedofpnjmnkedaa.HL
open Go.RowKit (Below)
open Go.Proofs
section
variable {w0 : World} {F M : Mem} {R : VP} {d : Nat} {x : D22} {Q : Asn}
def D22.new (n : Int) : D22 := ⟨n, 0, 0, ⟨n, [], [], [], []⟩, []⟩
theorem dNew_ok {n : Int} (h : Holds w0 F M Q) (h0 : 0 ≤ n) (h1 : n ≤ 65536) (hR : ∀ M' d, Holds w0 F M' (star (DispA d (D22.new n)) Q) → R (.pointer (some ⟨d, 0, none⟩)) M') : C PP w0 Id.d2_New #[.int .i64 n] R M := by
  apply d2_New.go
  unfold d2_New.T
  refine rPNew_ok h h0 h1 fun M1 p g1 => ?_
  rw [shP_v]
  have hb : (std PP w0).bld tD [(0, .int .i64 n), (3, .pointer (some ⟨p, 0, none⟩))] = some (.agg #[.int .i64 n, .int .i64 0, .int .i64 0, .pointer (some ⟨p, 0, none⟩), .slice none 0 0]) := by kernel_rfl
  rw [hb]
  simp only [ob_v, shA_v, shCons_v, shI_v, shP_v, shS_v, shNil_v]
  intro d hd0 hdw
  have g := Holds.new g1 hd0 hdw [.int .i64 n, .int .i64 0, .int .i64 0, .pointer (some ⟨p, 0, none⟩), SV.v ⟨none, 0, 0⟩] tD
  refine hR _ d ?_
  obtain ⟨F1, k1, _, k2⟩ := g.last
  have : DH w0 F _ d (D22.new n) p ⟨none, 0, 0⟩ Q := k2 _ _ (Holds.nilSlk (k := 6) k1)
  exact this.close
theorem dDo_ok {c : Cmd} (h : Holds w0 F M (star (DispA d x) Q)) (hok : DOk x) (hn : In64 x.now) (hct : In64 c.time)
    (hR : ∀ M', Holds w0 F M' (star (DispA d (do22 x c).1) Q) → R (do22 x c).2.v M') :
    C PP w0 Id.dD_Do #[.pointer (some ⟨d, 0, none⟩), c.v] R M := by
  apply dD_Do.go
  intro pts H
  unfold dD_Do.T
  have hL := hok.ll
  intro b1 hb0 hbw
  have g1 := (Holds.new h hb0 hbw [.int .i64 c.kind, .int .i64 c.queue, .int .i64 c.at_, .int .i64 c.gen, .int .i64 c.time, .int .i64 c.data] tCmd).rot
  change Holds w0 F (M.set b1 (.row [.int .i64 c.kind, .int .i64 c.queue, .int .i64 c.at_, .int .i64 c.gen, .int .i64 c.time, .int .i64 c.data] tCmd)) (star (DispA d x) (star (row1 b1 [.int .i64 c.kind, .int .i64 c.queue, .int .i64 c.at_, .int .i64 c.gen, .int .i64 c.time, .int .i64 c.data] tCmd) Q)) at g1
  generalize M.set b1 _ = M1 at g1 ⊢
  intro b3 hb3 hbw3
  have g3 := (Holds.new g1 hb3 hbw3 [.int .i64 0, .int .i64 0, .int .i64 0, .int .i64 0, .int .i64 0, .int .i64 0] tRep).rot
  change Holds w0 F (M1.set b3 (.row [.int .i64 0, .int .i64 0, .int .i64 0, .int .i64 0, .int .i64 0, .int .i64 0] tRep)) (star (DispA d x) (star (row1 b3 zR tRep) (star (row1 b1 [.int .i64 c.kind, .int .i64 c.queue, .int .i64 c.at_, .int .i64 c.gen, .int .i64 c.time, .int .i64 c.data] tCmd) Q))) at g3
  generalize M1.set b3 _ = M2 at g3 ⊢
  have LC : ∀ {M' : Mem}, Own w0 M' b1 [.int .i64 c.kind, .int .i64 c.queue, .int .i64 c.at_, .int .i64 c.gen, .int .i64 c.time, .int .i64 c.data] tCmd → rd w0 M' ⟨b1, 0, none⟩ = some (.int .i64 c.kind) ∧ rd w0 M' ⟨b1, 1, none⟩ = some (.int .i64 c.queue) ∧ rd w0 M' ⟨b1, 4, none⟩ = some (.int .i64 c.time) ∧ (std PP w0).ld tCmd ⟨b1, 0, none⟩ M' = some (.agg #[.int .i64 c.kind, .int .i64 c.queue, .int .i64 c.at_, .int .i64 c.gen, .int .i64 c.time, .int .i64 c.data]) ∧ (std PP w0).ld 25 ⟨b1, 2, none⟩ M' = some (.agg #[.int .i64 c.at_, .int .i64 c.gen]) := fun o =>
    ⟨rd_own (o := 0) o, rd_own (o := 1) o, rd_own (o := 4) o, ld_agg (cs := c.cells) W.g27 (fun j v hj => by rw [add_eq, rd_own o, Nat.zero_add]; exact hj), ld_agg (cs := [.int .i64 c.at_, .int .i64 c.gen]) W.g25 (fun j v hj => by
      rw [add_eq, rd_own o]
      match j, hj with
      | 0, hj => exact hj
      | 1, hj => exact hj)⟩
  have strip : ∀ {M5 : Mem} {x' : D22}, Holds w0 F M5 (star (DispA d x') (star (row1 b1 [.int .i64 c.kind, .int .i64 c.queue, .int .i64 c.at_, .int .i64 c.gen, .int .i64 c.time, .int .i64 c.data] tCmd) Q)) → Holds w0 F M5 (star (DispA d x') Q) := fun g5 => by
    obtain ⟨F', k1, _, k2⟩ := g5.last
    exact k2 _ _ k1.right
  have fin : ∀ (M4 : Mem) (x' : D22) (r : Rep), do22 x c = (x', r) → Holds w0 F M4 (star (DispA d x') (star (row1 b3 zR tRep) (star (row1 b1 [.int .i64 c.kind, .int .i64 c.queue, .int .i64 c.at_, .int .i64 c.gen, .int .i64 c.time, .int .i64 c.data] tCmd) Q))) →
      (std PP w0).st tRep ⟨b3, 0, none⟩ (.agg #[.int .i64 r.why, .int .i64 r.at_, .int .i64 r.gen, .int .i64 r.time, .int .i64 r.data, .int .i64 r.n]) (fun M14 => ob ((std PP w0).rdv tRep (.pointer (some ⟨b3, 0, none⟩)) M14) fun v15 => R v15 M14) M4 := by
    intro M4 x' r hd g
    refine resRep g.rot rfl fun M5 g5 => ?_
    rw [hd] at hR
    exact hR M5 (strip g5)
  have o1 := g3.right.right.own1
  have keyJ2 : ¬ (c.kind = 1 ∨ c.kind = 5 ∨ c.kind = 6 ∨ c.kind = 7) → ∀ t : Bool, (t = true ↔ (c.kind = 2 ∨ c.kind = 3)) → dD_Do.J2 pts (some ⟨d, 0, none⟩) ⟨b1, 0, none⟩ ⟨b3, 0, none⟩ c.kind t M2 := by
    intro hnq t ht
    rw [H.J2]
    unfold dD_Do.J2.T
    cases t with
    | true =>
      have hk := ht.1 rfl
      have hd := do22_23 (x := x) hk
      rw [bs_true]
      obtain ⟨p, s, hs⟩ := DispA.open_ g3
      simp only [nc_v, ld_one W.c50, add_eq, Nat.zero_add, hs.rp, (LC o1).2.2.2.2, ob_v, shP_v, shA_v, shCons_v, shI_v, shNil_v]
      obtain ⟨F1, hp, _⟩ := hs.pool
      refine rLook_ok hp hok.pl fun M3 l3 => ?_
      have g4 := g3.le l3
      have o4 := g4.right.right.own1
      rw [shI_v, bs_bne]
      split
      · rename_i hz
        rw [if_neg (fun hh => hh hz)] at hd
        obtain ⟨k, hat⟩ := hok.look _ _ hz
        simp only [(LC o4).2.2.2.2, ob_v, shA_v, shCons_v, shI_v, shNil_v]
        refine dAt_ok g4 hL fun M5 l5 => ?_
        rw [hat] at hd ⊢
        have hkl : k < x.l.length := (List.findIdx?_eq_some_iff_getElem.1 hat).1
        have hj := List.getElem?_eq_getElem hkl
        generalize x.l[k] = j at hj
        simp only [hj] at hd
        have g5 := g4.le l5
        have o5 := g5.right.right.own1
        simp only [ld_one W.c3, (LC o5).1, ob_v, shI_v]
        rw [bs_beq]
        split
        · rename_i k3
          rw [if_pos k3] at hd
          refine dOut_ok g5 hok hj fun M6 h6 => ?_
          unfold Jb.v
          simp only [shA_v, shCons_v, shI_v, shNil_v]
          intro b5 hb5 hbw5
          have g6 := Holds.new h6 hb5 hbw5 [.int .i64 0, .int .i64 0, .int .i64 0, .int .i64 0, .int .i64 0, .int .i64 0] tJb
          generalize M6.set b5 _ = M7 at g6 ⊢
          refine st_agg (vs := jdC j) W.g74 g6.own1 (by simp [jdC]) (jdC_one j) ?_
          have g7 := g6.upd1 (cs' := over [.int .i64 0, .int .i64 0, .int .i64 0, .int .i64 0, .int .i64 0, .int .i64 0] 0 (jdC j)) (e' := tJb)
          have hov : over [.int .i64 0, .int .i64 0, .int .i64 0, .int .i64 0, .int .i64 0, .int .i64 0] 0 (jdC j) = jdC j := rfl
          rw [hov] at g7 ⊢
          generalize M7.set b5 _ = M8 at g7 ⊢
          have hb7 := boxJ g7.own1 rfl
          simp only [ld_one W.c3, ld_one W.c2, add_eq, Nat.zero_add, hb7.2.2.1, hb7.2.2.2, ob_v, shA_v, shCons_v, shI_v, shNil_v, bR23]
          exact fin M8 _ _ hd g7.right
        · rename_i k3
          rw [if_neg k3] at hd
          obtain ⟨p, s, hs5⟩ := DispA.open_ g5
          obtain ⟨blk, hsa, hns, hin, hrd⟩ := hs5.job hj
          have hbd : 0 ≤ (k : Int) ∧ (k : Int) < ((s.n : Nat) : Int) := ⟨by omega, by omega⟩
          have ek : rd w0 M5 ⟨blk, k * 6 + 2, none⟩ = some (.int .i64 j.key) := hrd 2 _ rfl
          simp only [nc_v, ld_one W.c51, ld_one W.c2, add_eq, Nat.zero_add, hs5.rl, (LC o5).2.2.1, ob_v, shS_sv, hsa, Int.toNat_natCast, ek, shI_v]
          refine ⟨hbd, ?_⟩
          rw [bs_decide]
          split
          · rename_i hk2
            rw [if_pos (show j.key < c.time from hk2)] at hd
            rw [bR0]
            simp only [ob_v, shA_v, shCons_v, shI_v, shNil_v]
            exact fin M5 x { why := 26 } hd g5
          · rename_i hk2
            rw [if_neg (show ¬ j.key < c.time from hk2)] at hd
            refine ⟨hbd, ?_⟩
            refine DH.set hs5 W.c2 (j' := { j with key := c.time }) hj (by decide) rfl rfl rfl hsa fun M6 h6 => ?_
            have o6 := h6.right.right.right.right.own1
            obtain ⟨blk', hsa', _, _, hrd6⟩ := DH.job (x := { x with l := x.l.set k { j with key := c.time } }) h6 (i := k) (j := { j with key := c.time }) (List.getElem?_set_self hkl)
            rw [hsa] at hsa'; cases hsa'
            have ed : rd w0 M6 ⟨blk, k * 6 + 1, none⟩ = some (.int .i64 j.data) := hrd6 1 _ rfl
            have rl6 : rd w0 M6 ⟨d, 4, none⟩ = some (SV.v s) := h6.rl
            simp only [nc_v, ld_one W.c51, ld_one W.c3, ld_one W.c2, add_eq, Nat.zero_add, rl6, (LC o6).2.2.1, ob_v, shS_sv, hsa, Int.toNat_natCast, ed, shA_v, shCons_v, shI_v, shNil_v, bR23]
            refine ⟨hbd, ?_⟩
            exact fin M6 _ _ hd (DH.close (x := { x with l := x.l.set k { j with key := c.time } }) h6)
      · rename_i hz
        rw [if_pos hz] at hd
        rw [bR0]
        simp only [ob_v, shA_v, shCons_v, shI_v, shNil_v]
        exact fin M3 _ _ hd g4
    | false =>
      have hk : ¬ (c.kind = 2 ∨ c.kind = 3) := fun hh => by have := ht.2 hh; cases this
      rw [bs_false, bs_beq]
      split
      · rename_i k
        have hd := do22_4 (x := x) k
        simp only [ld_one W.c2, add_eq, Nat.zero_add, (LC o1).2.2.1, ob_v, shI_v]
        rw [bs_decide]
        split
        · rename_i ht
          rw [if_pos ht] at hd
          rw [bR0]
          simp only [ob_v, shA_v, shCons_v, shI_v, shNil_v]
          exact fin M2 _ _ hd g3
        · rename_i ht
          rw [if_neg ht] at hd
          obtain ⟨p, s, hs⟩ := DispA.open_ g3
          simp only [nc_v, ld_one W.c2, add_eq, Nat.zero_add, hs.rn, ob_v, shI_v]
          refine rAdd_ok hn hct ?_
          simp only [shI_v]
          refine st_one W.c2 hs.own1 (by simp) rfl rfl ?_
          have h6 := hs.upd1 (cs' := [.int .i64 x.most, .int .i64 (addc x.now c.time), .int .i64 x.next, .pointer (some ⟨p, 0, none⟩), SV.v s]) (e' := tD)
          rw [show ([.int .i64 x.most, .int .i64 x.now, .int .i64 x.next, .pointer (some ⟨p, 0, none⟩), SV.v s] : List Value).set 1 (.int .i64 (addc x.now c.time)) = [.int .i64 x.most, .int .i64 (addc x.now c.time), .int .i64 x.next, .pointer (some ⟨p, 0, none⟩), SV.v s] from rfl]
          generalize M2.set d _ = M6 at h6 ⊢
          have en6 : rd w0 M6 ⟨d, 1, none⟩ = some (.int .i64 (addc x.now c.time)) := rd_own (o := 1) h6.own1
          simp only [en6, ob_v, shA_v, shCons_v, shI_v, shNil_v, bR2]
          exact fin M6 _ _ hd (DH.close (x := { x with now := addc x.now c.time }) h6)
      · rename_i k
        have hd := do22_8 (x := x) (c := c) (by omega)
        rw [bR0]
        simp only [ob_v, shA_v, shCons_v, shI_v, shNil_v]
        exact fin M2 _ _ hd g3
  have keyJ1 : ∀ t : Bool, (t = true ↔ (c.kind = 1 ∨ c.kind = 5 ∨ c.kind = 6 ∨ c.kind = 7)) → dD_Do.J1 pts (some ⟨d, 0, none⟩) ⟨b1, 0, none⟩ ⟨b3, 0, none⟩ c.kind t M2 := by
    intro t ht
    rw [H.J1]
    unfold dD_Do.J1.T
    cases t with
    | true =>
      have hk := ht.1 rfl
      rw [bs_true]
      have hcall : (c.queue = 0 ∨ c.queue = 1) → C PP w0 Id.dD_queue #[.pointer (some ⟨d, 0, none⟩), c.v] (fun v53 M54 => shA v53 fun l55 => shCons l55 fun u56 r57 => shI .i64 u56 fun n58 => shCons r57 fun u59 r60 => shI .i64 u59 fun n61 => shCons r60 fun u62 r63 => shI .i64 u62 fun n64 => shCons r63 fun u65 r66 => shI .i64 u65 fun n67 => shCons r66 fun u68 r69 => shI .i64 u68 fun n70 => shCons r69 fun u71 r72 => shI .i64 u71 fun n73 => shNil r72 ((std PP w0).st tRep ⟨b3, 0, none⟩ (.agg #[.int .i64 n58, .int .i64 n61, .int .i64 n64, .int .i64 n67, .int .i64 n70, .int .i64 n73]) (fun M74 => ob ((std PP w0).rdv tRep (.pointer (some ⟨b3, 0, none⟩)) M74) fun v75 => R v75 M74) M54)) M2 := fun hq => by
        refine dQueue_ok g3 hok hq hk fun M5 h5 => ?_
        unfold Rep.v
        simp only [shA_v, shCons_v, shI_v, shNil_v]
        exact fin M5 _ _ rfl h5
      simp only [ld_one W.c3, add_eq, Nat.zero_add, (LC o1).2.1, (LC o1).2.2.2.1, ob_v, shA_v, shCons_v, shI_v, shNil_v]
      rw [bs_bne]
      split
      · rename_i hq
        exact hcall (.inl hq)
      · rename_i hq
        rw [bs_bne]
        split
        · rename_i hq1
          exact hcall (.inr hq1)
        · rename_i hq1
          rw [bR0]
          simp only [ob_v, shA_v, shCons_v, shI_v, shNil_v]
          exact fin M2 _ _ (do22_bad ⟨hk, by omega⟩) g3
    | false =>
      have hk : ¬ (c.kind = 1 ∨ c.kind = 5 ∨ c.kind = 6 ∨ c.kind = 7) := fun hh => by have := ht.2 hh; cases this
      rw [bs_false, bs_beq]
      split
      · rename_i k
        exact keyJ2 hk _ (by rw [k]; simp)
      · rename_i k
        refine keyJ2 hk _ ?_
        simp only [beq_iff_eq]
        constructor
        · intro hh; exact .inr hh
        · intro hh; omega
  simp only [ld_one W.c3, (LC o1).1, ob_v, shI_v]
  rw [bs_beq]
  split
  · rename_i k; exact keyJ1 _ (by rw [k]; simp)
  · rename_i k1
    rw [bs_beq]
    split
    · rename_i k; exact keyJ1 _ (by rw [k]; simp)
    · rename_i k2
      rw [bs_beq]
      split
      · rename_i k; exact keyJ1 _ (by rw [k]; simp)
      · rename_i k3
        refine keyJ1 _ ?_
        simp only [beq_iff_eq]
        constructor
        · intro hh; exact .inr (.inr (.inr hh))
        · intro hh; omega
end
end Go.Proofs.Ytedofpnjmnkedaa.HL
