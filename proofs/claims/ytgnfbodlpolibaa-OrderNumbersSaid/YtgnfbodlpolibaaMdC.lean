/-
  MdC: sets of entries: what the document's calls do.
-/
import Derived.Test.YtgnfbodlpolibaaMdB
set_option linter.unusedVariables false
set_option linter.unusedSimpArgs false
set_option maxRecDepth 100000
namespace Go.Proofs.Ytgnfbodlpolibaa.HL
open Go.RowKit (Below)
open Go.Proofs

/-- One is put behind those that are not behind it. -/
theorem srt_put {l : List Ent} {e : Ent} {k : Nat} (hk : k ≤ l.length) (hs : Srt l) (h1 : ∀ (j : Nat) x, k ≤ j → l[j]? = some x → Lt e x) (h2 : ∀ x, 0 < k → l[k - 1]? = some x → ¬ Lt e x) : Srt (l.take k ++ e :: l.drop k) := by
  have hs2 : Srt (l.take k ++ l.drop k) := by rw [List.take_append_drop]; exact hs
  obtain ⟨a1, a2, a3⟩ := List.pairwise_append.1 hs2
  refine List.pairwise_append.2 ⟨a1, List.pairwise_cons.2 ⟨fun x hx => ?_, a2⟩, fun x hx y hy => ?_⟩
  · obtain ⟨j, hj⟩ := List.getElem?_of_mem hx
    rw [List.getElem?_drop] at hj
    exact (h1 (k + j) x (by omega) hj).asym
  · rcases List.mem_cons.1 hy with rfl | hy
    · -- not behind it
      obtain ⟨j, hj⟩ := List.getElem?_of_mem hx
      have hjk : j < k := by
        have := (List.getElem?_eq_some_iff.1 hj).1
        rw [List.length_take] at this; omega
      rw [List.getElem?_take_of_lt hjk] at hj
      by_cases hj2 : j = k - 1
      · subst hj2
        exact h2 x (by omega) hj
      · have hlt : k - 1 < l.length := by omega
        have hk1 := List.getElem?_eq_getElem hlt
        have h3 := h2 _ (by omega) hk1
        have h4 : ¬ Lt l[k - 1] x := by
          have hjl := (List.getElem?_eq_some_iff.1 hj).1
          have := (List.pairwise_iff_getElem.1 hs) j (k - 1) hjl hlt (by omega)
          rw [(List.getElem?_eq_some_iff.1 hj).2] at this
          exact this
        exact nLt.tr h4 h3
    · exact a3 x hx y hy

section
variable {w0 : World} {M M0 F : Mem} {R : Value → Mem → Prop}

def emp : Asn := fun r => r = []
theorem Holds.self {P : Asn} (h : Holds w0 F M P) : Holds w0 M M emp := ⟨[], rfl, Fit.nil (Mem.le_refl _)⟩
theorem Holds.unself {P A : Asn} {M' : Mem} (h : Holds w0 F M P) (h2 : Holds w0 M M' (star A emp)) : Mem.le M M' ∧ Holds w0 F M' (star A P) := by
  refine ⟨h2.fr, h.beside ?_⟩
  obtain ⟨r, ⟨r1, r2, rfl, h3, h4⟩, h5⟩ := h2
  have : r2 = [] := h4
  subst this
  rw [List.append_nil] at h5
  exact ⟨r1, h3, h5⟩
theorem Holds.skip2 {A B Q : Asn} (h : Holds w0 F M (star A (star B Q))) : Holds w0 F M (star A Q) := by
  obtain ⟨r, ⟨r1, r2, rfl, q1, r3, r4, rfl, q2, q3⟩, q4⟩ := h
  exact ⟨r1 ++ r4, ⟨r1, r4, rfl, q1, q3⟩, (q4.perm (r' := (r1 ++ r4) ++ r3) (by rw [List.append_assoc]; exact (List.perm_append_comm).append_left r1)).drop⟩

theorem rSort_ok {Q : Asn} {s : SV} {l : List Ent} (hQ : Holds w0 F M Q) (hs : RdE w0 M s l) (hb : l.length ≤ 100000) (h : ∀ M' s' z, Mem.le M M' → Holds w0 F M' (star (Es s' z) Q) → Srt z → z.Perm l → R (SV.v s') M') : C PP w0 Id.thicketref1_Sort #[SV.v s] R M := by
  apply thicketref1_Sort.go
  intro pts H
  unfold thicketref1_Sort.T
  have hsn := hs.len
  have outer : ∀ (k i : Nat) (out : SV) (z : List Ent) (M' : Mem), i ≤ l.length → l.length < i + k → Holds w0 M M' (star (Es out z) emp) → Srt z → z.Perm (l.take i) → thicketref1_Sort.L1 pts k s out (i : Int) M' := by
    intro k
    induction k with
    | zero => intro i out z M' h1 h2; omega
    | succ k ih =>
      intro i out z M' hi hk hH hz hp
      rw [H.L1]
      unfold thicketref1_Sort.L1.T
      rw [bs_decide]
      split
      · have hlt : i < l.length := by omega
        have ex := List.getElem?_eq_getElem hlt
        generalize hxv : l[i] = x at ex
        have hzl : z.length = i := by rw [hp.length_eq, List.length_take]; omega
        -- a place is found
        have fin : ∀ (kk : Nat) (M2 : Mem), kk ≤ z.length → Holds w0 M M2 (star (Es out z) emp) → (∀ (j : Nat) y, kk ≤ j → z[j]? = some y → Lt x y) → (∀ y, 0 < kk → z[kk - 1]? = some y → ¬ Lt x y) → thicketref1_Sort.J2 pts k s out (i : Int) (kk : Int) M2 := by
          intro kk M2 hkk hH2 hj1 hj2
          have hz2 := srt_put hkk hz hj1 hj2
          have hp2 : (z.take kk ++ x :: z.drop kk).Perm (l.take (i + 1)) := by
            refine List.perm_middle.trans ?_
            rw [List.take_append_drop, List.take_add_one, ex]
            exact (List.Perm.cons x hp).trans (List.perm_append_singleton x _).symm
          rw [H.J2]
          unfold thicketref1_Sort.J2.T
          have hn2 := hH2.lenE
          have hc2 := hH2.rdE.cap
          have t0 : (0 : Int).toNat = 0 := rfl
          simp only [t0, Int.toNat_natCast]
          refine ⟨⟨by omega, by omega, by omega⟩, ?_⟩
          -- the last two
          have last : ∀ {X : Asn} (M5 : Mem) (s5 : SV), Holds w0 M M5 (star (Es s5 (z.take kk ++ [x])) (star (Es out z) X)) → (∀ r, X r → True) →
              (std PP w0).app #[36, 36] 36 [SV.v s5, .slice (if out.c = kk then out.a else out.a.map (·.add (kk * 2))) (out.n - kk) (out.c - kk)] (fun v24 M25 => shS v24 fun s26 => thicketref1_Sort.L1 pts k s s26 (w64 ((i : Int) + 1)) M25) M5 := by
            intro X M5 s5 hX _
            have hr := hX.right.rdE.cut (lo := kk) (hi := z.length) hkk (Nat.le_refl _)
            rw [List.take_length] at hr
            rw [hn2]
            refine appE (x := out.cut kk z.length) hX hr (by simp; omega) fun M6 s6 h6 => ?_
            rw [shS_sv, i64_succ (by omega)]
            refine ih (i + 1) s6 (z.take kk ++ x :: z.drop kk) M6 (by omega) (by omega) ?_ hz2 hp2
            obtain ⟨r, ⟨r1, r2, rfl, q1, q2⟩, q3⟩ := h6
            refine ⟨r1 ++ [], ⟨r1, [], rfl, by simpa using q1, rfl⟩, ?_⟩
            rw [List.append_nil]
            exact q3.drop
          have mid : ∀ {X : Asn} (M4 : Mem) (s4 s3 : SV), Holds w0 M M4 (star (Es s4 (z.take kk)) (star (Es s3 [(x.1, x.2)]) (star (Es out z) X))) →
              (std PP w0).app #[36, 36] 36 [SV.v s4, SV.v s3] (fun v M => shS v fun s5 => (std PP w0).app #[36, 36] 36 [SV.v s5, .slice (if out.c = kk then out.a else out.a.map (·.add (kk * 2))) (out.n - kk) (out.c - kk)] (fun v24 M25 => shS v24 fun s26 => thicketref1_Sort.L1 pts k s s26 (w64 ((i : Int) + 1)) M25) M) M4 := by
            intro X M4 s4 s3 hX
            refine appE hX hX.right.rdE (by simp; omega) fun M5 s5 h5 => ?_
            rw [shS_sv]
            exact last M5 s5 h5.skip2 (fun _ _ => trivial)
          have head : ∀ {X : Asn} (M3 : Mem) (s3 : SV) (K : Value → Mem → Prop), Holds w0 M M3 (star (Es s3 []) (star (Es out z) X)) → (∀ M4 s4, Holds w0 M M4 (star (Es s4 (z.take kk)) (star (Es out z) X)) → K (SV.v s4) M4) →
              (std PP w0).app #[36, 36] 36 [SV.v s3, .slice (if out.c = 0 then out.a else out.a.map (·.add (0 * 2))) (kk - 0) (out.c - 0)] K M3 := by
            intro X M3 s3 K hX hK
            have hr := hX.right.rdE.cut (lo := 0) (hi := kk) (by omega) hkk
            rw [List.drop_zero] at hr
            refine appE (x := out.cut 0 kk) hX hr (by simp; omega) fun M4 s4 h4 => ?_
            rw [List.nil_append] at h4
            exact hK M4 s4 h4
          refine rdEa hs hH2.fr i rfl ex fun ad had => ?_
          rw [Int.toNat_natCast] at had
          refine ⟨⟨by omega, by omega, by omega⟩, ⟨?_, ?_⟩⟩
          · refine newE0 hH2 fun M3 s3 l3 _ h3 => ?_
            rw [shS_sv]
            refine ⟨had M3 (Mem.le_trans hH2.fr l3), ?_, ?_⟩
            · refine head M3 s3 _ h3 fun M4 s4 h4 => ?_
              rw [shS_sv]
              refine ⟨had M4 h4.fr, ?_⟩
              refine newE h4 x.1 x.2 fun M5 s5 l5 h5 => ?_
              rw [shS_sv]
              exact mid M5 s4 s5 h5.rot
            · refine newE h3 x.1 x.2 fun M4 s4 l4 h4 => ?_
              rw [shS_sv]
              have h4' : Holds w0 M M4 (star (Es s3 []) (star (Es out z) (star (Es s4 [(x.1, x.2)]) emp))) := by
                obtain ⟨r, ⟨r1, r2, rfl, q1, r3, r4, rfl, q2, r5, r6, rfl, q3, q4⟩, q5⟩ := h4
                refine ⟨r3 ++ (r5 ++ (r1 ++ r6)), ⟨r3, _, rfl, q2, r5, _, rfl, q3, r1, r6, rfl, q1, q4⟩, q5.perm ?_⟩
                rw [← List.append_assoc r3, ← List.append_assoc r3, ← List.append_assoc (r3 ++ r5), ← List.append_assoc r1]
                exact List.perm_append_comm.append_right r6
              refine head M4 s3 _ h4' fun M5 s5 h5 => ?_
              rw [shS_sv]
              refine mid (X := emp) M5 s5 s4 ?_
              obtain ⟨r, ⟨r1, r2, rfl, q1, r3, r4, rfl, q2, r5, r6, rfl, q3, q4⟩, q5⟩ := h5
              refine ⟨r1 ++ (r5 ++ (r3 ++ r6)), ⟨r1, _, rfl, q1, r5, _, rfl, q3, r3, r6, rfl, q2, q4⟩, q5.perm (List.Perm.append_left r1 ?_)⟩
              rw [← List.append_assoc, ← List.append_assoc]
              exact List.perm_append_comm.append_right r6
          · refine newE hH2 x.1 x.2 fun M3 s3 l3 h3 => ?_
            rw [shS_sv]
            refine newE0 h3 fun M4 s4 l4 _ h4 => ?_
            rw [shS_sv]
            have h4' : Holds w0 M M4 (star (Es s4 []) (star (Es out z) (star (Es s3 [(x.1, x.2)]) emp))) := by
              obtain ⟨r, ⟨r1, r2, rfl, q1, r3, r4, rfl, q2, r5, r6, rfl, q3, q4⟩, q5⟩ := h4
              refine ⟨r1 ++ (r5 ++ (r3 ++ r6)), ⟨r1, _, rfl, q1, r5, _, rfl, q3, r3, r6, rfl, q2, q4⟩, q5.perm (List.Perm.append_left r1 ?_)⟩
              rw [← List.append_assoc, ← List.append_assoc]
              exact List.perm_append_comm.append_right r6
            refine head M4 s4 _ h4' fun M5 s5 h5 => ?_
            rw [shS_sv]
            refine mid (X := emp) M5 s5 s3 ?_
            obtain ⟨r, ⟨r1, r2, rfl, q1, r3, r4, rfl, q2, r5, r6, rfl, q3, q4⟩, q5⟩ := h5
            refine ⟨r1 ++ (r5 ++ (r3 ++ r6)), ⟨r1, _, rfl, q1, r5, _, rfl, q3, r3, r6, rfl, q2, q4⟩, q5.perm (List.Perm.append_left r1 ?_)⟩
            rw [← List.append_assoc, ← List.append_assoc]
            exact List.perm_append_comm.append_right r6
        have inner : ∀ (k' kk : Nat) (M2 : Mem), kk < k' → kk ≤ z.length → Holds w0 M M2 (star (Es out z) emp) → (∀ (j : Nat) y, kk ≤ j → z[j]? = some y → Lt x y) → thicketref1_Sort.L3 pts k k' s out (i : Int) (kk : Int) M2 := by
          intro k'
          induction k' with
          | zero => intro kk M2 h1; omega
          | succ k' ih2 =>
            intro kk M2 h1 hkk hH2 hj1
            rw [H.L3]
            unfold thicketref1_Sort.L3.T
            rw [bs_decide]
            split
            · have hlt2 : kk - 1 < z.length := by omega
              have ey := List.getElem?_eq_getElem hlt2
              generalize z[kk - 1] = y at ey
              refine rdE hs hH2.fr i rfl ex ?_
              refine rdE hH2.rdE (Mem.le_refl _) (kk - 1) (i64_pred (by omega) (by omega)) ey ?_
              refine rBefore_ok (a := x) (b := y) fun M3 l3 => ?_
              rw [shB_v, bs_decide]
              split
              · rename_i hb2
                rw [i64_pred (by omega) (by omega)]
                refine ih2 (kk - 1) M3 (by omega) (by omega) (hH2.le l3) fun j w hj hw => ?_
                by_cases hjk : j = kk - 1
                · subst hjk; rw [ey] at hw; cases hw; exact hb2
                · exact hj1 j w (by omega) hw
              · rename_i hb2
                exact fin kk M3 hkk (hH2.le l3) hj1 fun w _ hw => by rw [ey] at hw; cases hw; exact hb2
            · exact fin kk M2 hkk hH2 hj1 fun w h0 => by omega
        have hn := hH.lenE
        refine ⟨z.length + 1, ?_⟩
        rw [hn]
        exact inner (z.length + 1) z.length M' (by omega) (Nat.le_refl _) hH fun j y hj hy => by
          rw [List.getElem?_eq_none hj] at hy; cases hy
      · have hil : i = l.length := by omega
        rw [hil, List.take_length] at hp
        obtain ⟨g1, g2⟩ := hQ.unself hH
        exact h M' out z g1 g2 hz hp
  exact ⟨l.length + 1, outer (l.length + 1) 0 ⟨none, 0, 0⟩ [] M (by omega) (by omega) (Holds.nilSlk hQ.self) List.Pairwise.nil (by simp)⟩

abbrev tR : TypeId := 81

theorem rfind_ok {s : Nat} {sv : SV} {l : List Ent} {x : Int} (hp : rd w0 M ⟨s, 0, none⟩ = some (SV.v sv)) (hs : RdE w0 M sv l) (hb : l.length ≤ 100000) (h : R (.int .i64 (fndI l x)) M) :
    C PP w0 Id.thicketref16_Set_find #[.pointer (some ⟨s, 0, none⟩), .int .i64 x] R M := by
  apply thicketref16_Set_find.go
  intro pts H
  unfold thicketref16_Set_find.T
  have hn := hs.len
  have key : ∀ (k i : Nat), i ≤ l.length → l.length < i + k → (∀ j y, j < i → l[j]? = some y → y.2 ≠ x) → thicketref16_Set_find.L1 pts k (some ⟨s, 0, none⟩) x (i : Int) M := by
    intro k
    induction k with
    | zero => intro i h1 h2; omega
    | succ k ih =>
      intro i hi hk hno
      rw [H.L1]
      unfold thicketref16_Set_find.L1.T
      simp only [nc_v, ld_one W.c36, hp, ob_v, shS_sv]
      rw [bs_decide]
      split
      · have hlt : i < l.length := by omega
        have ey := List.getElem?_eq_getElem hlt
        generalize l[i] = y at ey
        refine rdE1 W.c2 hs (Mem.le_refl _) i rfl ey ?_
        rw [bs_beq]
        split
        · rename_i he
          have := fnd_of ey he (fun j hj z hz => hno j z hj hz)
          rw [fndI_some this] at h; exact h
        · rename_i he
          rw [i64_succ (by omega)]
          refine ih (i + 1) (by omega) (by omega) fun j w hj hw => ?_
          by_cases hji : j = i
          · subst hji; rw [ey] at hw; cases hw; exact he
          · exact hno j w (by omega) hw
      · have hf : fnd l x = none := fnd_no fun y hy => by
          obtain ⟨j, hj⟩ := List.getElem?_of_mem hy
          have := (List.getElem?_eq_some_iff.1 hj).1
          exact hno j y (by omega) hj
        rw [fndI_none hf] at h; exact h
  exact ⟨l.length + 1, key (l.length + 1) 0 (by omega) (by omega) fun j y hj => absurd hj (by omega)⟩
theorem rfindS_ok {s : Nat} {l : List Ent} {Q : Asn} {x : Int} (h : SetH w0 F M tR s l Q) (hb : l.length ≤ 100000) (hR : R (.int .i64 (fndI l x)) M) :
    C PP w0 Id.thicketref16_Set_find #[.pointer (some ⟨s, 0, none⟩), .int .i64 x] R M := by
  obtain ⟨sv, h1, h2, h3, h4, h5⟩ := h.see
  exact rfind_ok h3 h4 hb hR

theorem rInsert_ok {s : Nat} {l : List Ent} {e : Ent} {Q : Asn} (h : SetH w0 F M tR s l Q) (hsr : Srt l) (hb : l.length ≤ 10000) (h0 : ∀ i, fnd l e.2 = some i → ∀ M', SetH w0 F M' tR s l Q → R (.bool false) M') (h1 : fnd l e.2 = none → ∀ M', SetH w0 F M' tR s (ins l e) Q → R (.bool true) M') :
    C PP w0 Id.thicketref16_Set_Insert #[.pointer (some ⟨s, 0, none⟩), .agg #[.int .i64 e.1, .int .i64 e.2]] R M := by
  apply thicketref16_Set_Insert.go
  unfold thicketref16_Set_Insert.T
  obtain ⟨sv, hH⟩ := h
  refine boxE' hH e.1 e.2 fun b F1 M1 hle1 hH1 hbx => ?_
  have e1 := (hbx _ hH1.fr).2.1
  simp only [add_eq, Nat.zero_add, ld_one W.c2, e1, ob_v, shI_v]
  refine rfindS_ok ⟨sv, hH1⟩ (by omega) ?_
  rw [shI_v, bs_decide]
  cases hf : fnd l e.2 with
  | some i =>
    rw [fndI_some hf, if_pos (by omega)]
    exact h0 i hf M1 (SetH.unfrm ⟨sv, hH1⟩ hle1)
  | none =>
    rw [fndI_none hf, if_neg (by omega)]
    have hp : rd w0 M1 ⟨s, 0, none⟩ = some (SV.v sv) := rd_own (o := 0) hH1.own1
    simp only [nc_v, ld_one W.c36, hp, ob_v, shS_sv, (hbx _ hH1.fr).2.2, shA_v, shCons_v, shI_v, shNil_v]
    -- the end: all there is is sorted
    have fin : ∀ {X : Asn} (M5 : Mem) (s5 : SV), Holds w0 F1 M5 (star (Es s5 (l ++ [(e.1, e.2)])) (star (row1 s [SV.v sv] tR) (star (Es sv l) (star X Q)))) →
        (std PP w0).call Id.thicketref1_Sort #[SV.v s5] (fun v31 M32 => shS v31 fun s33 => (std PP w0).st 36 ⟨s, 0, none⟩ (SV.v s33) (fun M35 => R (.bool true) M35) M32) M5 := by
      intro X M5 s5 hX
      refine rSort_ok hX.right hX.rdE (by simp; omega) fun M6 s6 z l6 h6 hz hp6 => ?_
      rw [shS_sv]
      have hzi : z = ins l e := Srt.eq hz (ins_srt hsr) (hp6.trans ((List.perm_append_singleton _ _).trans (ins_perm l e).symm))
      subst hzi
      have h7 : Holds w0 F1 M6 (star (row1 s [SV.v sv] tR) (star (Es s6 (ins l e)) Q)) := by
        obtain ⟨r, ⟨r1, r2, rfl, q1, r3, r4, rfl, q2, r5, r6, rfl, q3, r7, r8, rfl, q4, q5⟩, q6⟩ := h6
        refine ⟨r3 ++ (r1 ++ r8), ⟨r3, _, rfl, q2, r1, r8, rfl, q1, q5⟩, (q6.perm (r' := (r3 ++ (r1 ++ r8)) ++ (r5 ++ r7)) ?_).drop⟩
        have e1 : r1 ++ (r3 ++ (r5 ++ (r7 ++ r8))) = (r1 ++ r3) ++ ((r5 ++ r7) ++ r8) := by simp
        have e2 : (r3 ++ (r1 ++ r8)) ++ (r5 ++ r7) = (r3 ++ r1) ++ (r8 ++ (r5 ++ r7)) := by simp
        rw [e1, e2]
        exact List.perm_append_comm.append List.perm_append_comm
      refine SetH.put (l := l) h7 fun M7 h8 => ?_
      exact h1 hf M7 (h8.unfrm hle1)
    have pS : ∀ {X : Asn} {M3 : Mem}, Holds w0 F1 M3 (star X (star (row1 s [SV.v sv] tR) (star (Es sv l) Q))) → rd w0 M3 ⟨s, 0, none⟩ = some (SV.v sv) := fun {X M3} hX => rd_own (o := 0) hX.rot.own1
    refine ⟨?_, ?_⟩
    · refine newE0 hH1 fun M3 s3 l3 _ h3 => ?_
      rw [shS_sv]
      refine ⟨pS h3, (hbx _ h3.fr).2.2, ?_, ?_⟩
      · have hr3 := h3.right.right.rdE
        refine appE h3 hr3 (by simp; omega) fun M4 s4 h4 => ?_
        rw [shS_sv, List.nil_append] at *
        refine ⟨(hbx _ h4.fr).2.2, ?_⟩
        refine newE h4 e.1 e.2 fun M5 s5 l5 h5 => ?_
        rw [shS_sv]
        have h5' := h5.rot
        refine appE h5' h5'.right.rdE (by simp; omega) fun M6 s6 h6 => ?_
        rw [shS_sv]
        refine fin (X := Es s5 [(e.1, e.2)]) M6 s6 ?_
        obtain ⟨r, ⟨r1, r2, rfl, q1, r3, r4, rfl, q2, r5, r6, rfl, q3, r7, r8, rfl, q4, q5⟩, q6⟩ := h6
        refine ⟨r1 ++ (r5 ++ (r7 ++ (r3 ++ r8))), ⟨r1, _, rfl, q1, r5, _, rfl, q3, r7, _, rfl, q4, r3, r8, rfl, q2, q5⟩, q6.perm (List.Perm.append_left r1 ?_)⟩
        rw [← List.append_assoc r5, ← List.append_assoc r5, ← List.append_assoc (r5 ++ r7), ← List.append_assoc r3]
        exact List.perm_append_comm.append_right r8
      · refine newE h3 e.1 e.2 fun M4 s4 l4 h4 => ?_
        rw [shS_sv]
        have h4' := h4.rot
        have hp4 : rd w0 M4 ⟨s, 0, none⟩ = some (SV.v sv) := rd_own (o := 0) h4'.right.right.own1
        refine ⟨hp4, ?_⟩
        refine appE h4' h4'.right.right.right.rdE (by simp; omega) fun M5 s5 h5 => ?_
        rw [shS_sv, List.nil_append] at *
        refine appE h5 h5.right.rdE (by simp; omega) fun M6 s6 h6 => ?_
        rw [shS_sv]
        refine fin (X := Es s4 [(e.1, e.2)]) M6 s6 ?_
        obtain ⟨r, ⟨r1, r2, rfl, q1, r3, r4, rfl, q2, r5, r6, rfl, q3, r7, r8, rfl, q4, q5⟩, q6⟩ := h6
        refine ⟨r1 ++ (r5 ++ (r7 ++ (r3 ++ r8))), ⟨r1, _, rfl, q1, r5, _, rfl, q3, r7, _, rfl, q4, r3, r8, rfl, q2, q5⟩, q6.perm (List.Perm.append_left r1 ?_)⟩
        rw [← List.append_assoc r5, ← List.append_assoc r5, ← List.append_assoc (r5 ++ r7), ← List.append_assoc r3]
        exact List.perm_append_comm.append_right r8
    · refine newE hH1 e.1 e.2 fun M3 s3 l3 h3 => ?_
      rw [shS_sv]
      refine ⟨pS h3, ?_⟩
      refine newE0 h3 fun M4 s4 l4 _ h4 => ?_
      rw [shS_sv]
      have hp4 : rd w0 M4 ⟨s, 0, none⟩ = some (SV.v sv) := rd_own (o := 0) h4.right.right.own1
      refine ⟨hp4, ?_⟩
      refine appE h4 h4.right.right.right.rdE (by simp; omega) fun M5 s5 h5 => ?_
      rw [shS_sv, List.nil_append] at *
      refine appE h5 h5.right.rdE (by simp; omega) fun M6 s6 h6 => ?_
      rw [shS_sv]
      refine fin (X := Es s3 [(e.1, e.2)]) M6 s6 ?_
      obtain ⟨r, ⟨r1, r2, rfl, q1, r3, r4, rfl, q2, r5, r6, rfl, q3, r7, r8, rfl, q4, q5⟩, q6⟩ := h6
      refine ⟨r1 ++ (r5 ++ (r7 ++ (r3 ++ r8))), ⟨r1, _, rfl, q1, r5, _, rfl, q3, r7, _, rfl, q4, r3, r8, rfl, q2, q5⟩, q6.perm (List.Perm.append_left r1 ?_)⟩
      rw [← List.append_assoc r5, ← List.append_assoc r5, ← List.append_assoc (r5 ++ r7), ← List.append_assoc r3]
      exact List.perm_append_comm.append_right r8

theorem rMin_ok {s : Nat} {l : List Ent} {Q : Asn} (h : SetH w0 F M tR s l Q) (hb : l.length ≤ 10000) (hR : ∀ M', SetH w0 F M' tR s l Q → R (.tuple #[.agg #[.int .i64 (l.headD (0, 0)).1, .int .i64 (l.headD (0, 0)).2], .bool (!l.isEmpty)]) M') :
    C PP w0 Id.thicketref16_Set_Min #[.pointer (some ⟨s, 0, none⟩)] R M := by
  apply thicketref16_Set_Min.go
  unfold thicketref16_Set_Min.T
  obtain ⟨sv, hH⟩ := h
  intro b hb0 hw0
  have hN := Holds.new hH hb0 hw0 [.int .i64 0, .int .i64 0] 40
  generalize M.set b _ = M1 at hN ⊢
  have hX := hN.right
  have hp : rd w0 M1 ⟨s, 0, none⟩ = some (SV.v sv) := rd_own (o := 0) hX.own1
  have hn := hX.right.lenE
  have hrd := hX.right.rdE
  simp only [nc_v, ld_one W.c36, hp, ob_v, shS_sv, bs_beq]
  cases l with
  | nil =>
    rw [if_pos (by rw [hn]; rfl)]
    have hbld : (std PP w0).bld 40 [] = some (.agg #[.int .i64 0, .int .i64 0]) := by kernel_rfl
    simp only [hbld, ob_v, shA_v, shCons_v, shI_v, shNil_v]
    exact resE (K := fun v M => R (.tuple #[v, .bool false]) M) hN fun M2 h2 => hR M2 ⟨sv, h2⟩
  | cons x l =>
    simp only [List.length_cons] at hn
    rw [if_neg (by omega)]
    refine rdE (i := 0) hrd (Mem.le_refl _) 0 rfl rfl ?_
    exact resE (K := fun v M => R (.tuple #[v, .bool true]) M) hN fun M2 h2 => hR M2 ⟨sv, h2⟩

theorem rFind_ok {s : Nat} {l : List Ent} {Q : Asn} {x : Int} (h : SetH w0 F M tR s l Q) (hb : l.length ≤ 10000) (hR : ∀ M', SetH w0 F M' tR s l Q → R (.tuple #[.agg #[.int .i64 (getE l x).1, .int .i64 (getE l x).2], .bool (fnd l x).isSome]) M') :
    C PP w0 Id.thicketref16_Set_Find #[.pointer (some ⟨s, 0, none⟩), .int .i64 x] R M := by
  apply thicketref16_Set_Find.go
  unfold thicketref16_Set_Find.T
  obtain ⟨sv, hH⟩ := h
  intro b hb0 hw0
  have hN := Holds.new hH hb0 hw0 [.int .i64 0, .int .i64 0] 40
  generalize M.set b _ = M1 at hN ⊢
  refine rfindS_ok (Q := Q) ⟨sv, hN.right⟩ (by omega) ?_
  have hX := hN.right
  have hp : rd w0 M1 ⟨s, 0, none⟩ = some (SV.v sv) := rd_own (o := 0) hX.own1
  have hrd := hX.right.rdE
  rw [shI_v, bs_decide]
  cases hf : fnd l x with
  | none =>
    rw [fndI_none hf, if_pos (by omega)]
    have hbld : (std PP w0).bld 40 [] = some (.agg #[.int .i64 0, .int .i64 0]) := by kernel_rfl
    simp only [hbld, ob_v, shA_v, shCons_v, shI_v, shNil_v]
    refine resE (K := fun v M => R (.tuple #[v, .bool false]) M) hN fun M3 h3 => ?_
    have := hR M3 ⟨sv, h3⟩
    unfold getE at this
    rw [hf] at this; exact this
  | some i =>
    obtain ⟨y, hy, _⟩ := fnd_some hf
    rw [fndI_some hf, if_neg (by omega)]
    simp only [nc_v, ld_one W.c36, hp, ob_v, shS_sv]
    refine rdE hrd (Mem.le_refl _) i rfl hy ?_
    refine resE (K := fun v M => R (.tuple #[v, .bool true]) M) hN fun M3 h3 => ?_
    have := hR M3 ⟨sv, h3⟩
    unfold getE at this
    rw [hf] at this
    simp only [List.getD_eq_getElem?_getD, hy, Option.getD_some] at this
    exact this

theorem rRemove_ok {s : Nat} {l : List Ent} {Q : Asn} {x : Int} (h : SetH w0 F M tR s l Q) (hb : l.length ≤ 10000) (hR : ∀ M', SetH w0 F M' tR s (rmv l x) Q → R (.tuple #[.agg #[.int .i64 (getE l x).1, .int .i64 (getE l x).2], .bool (fnd l x).isSome]) M') :
    C PP w0 Id.thicketref16_Set_Remove #[.pointer (some ⟨s, 0, none⟩), .int .i64 x] R M := by
  apply thicketref16_Set_Remove.go
  unfold thicketref16_Set_Remove.T
  obtain ⟨sv, hH⟩ := h
  intro b hb0 hw0
  have hN := Holds.new hH hb0 hw0 [.int .i64 0, .int .i64 0] 40
  generalize M.set b _ = M1 at hN ⊢
  refine rfindS_ok (Q := Q) ⟨sv, hN.right⟩ (by omega) ?_
  have hX := hN.right
  have hp : rd w0 M1 ⟨s, 0, none⟩ = some (SV.v sv) := rd_own (o := 0) hX.own1
  have hrd := hX.right.rdE
  rw [shI_v, bs_decide]
  cases hf : fnd l x with
  | none =>
    rw [fndI_none hf, if_pos (by omega)]
    have hbld : (std PP w0).bld 40 [] = some (.agg #[.int .i64 0, .int .i64 0]) := by kernel_rfl
    simp only [hbld, ob_v, shA_v, shCons_v, shI_v, shNil_v]
    refine resE (K := fun v M => R (.tuple #[v, .bool false]) M) hN fun M3 h3 => ?_
    have := hR M3 (by unfold rmv; rw [hf]; exact ⟨sv, h3⟩)
    unfold getE at this
    rw [hf] at this; exact this
  | some i =>
    obtain ⟨y, hy, _⟩ := fnd_some hf
    have hil := (List.getElem?_eq_some_iff.1 hy).1
    rw [fndI_some hf, if_neg (by omega)]
    simp only [nc_v, ld_one W.c36, hp, ob_v, shS_sv]
    refine rdE hrd (Mem.le_refl _) i rfl hy ?_
    refine boxE hN y.1 y.2 fun b3 F3 M3 hle3 hN3 hbx => ?_
    have hX3 := hN3.right
    have hp3 : rd w0 M3 ⟨s, 0, none⟩ = some (SV.v sv) := rd_own (o := 0) hX3.own1
    have hrd3 := hX3.right.rdE
    have hn3 := hX3.right.lenE
    have hc3 := hrd3.cap
    have t0 : (0 : Int).toNat = 0 := rfl
    simp only [nc_v, ld_one W.c36, hp3, ob_v, shS_sv]
    rw [i64_succ (by omega)]
    refine ⟨⟨by omega, by omega, by omega⟩, ⟨by omega, by omega, by omega⟩, ?_⟩
    simp only [t0, Int.toNat_natCast]
    refine newE0 hN3 fun M4 s4 l4 _ h4 => ?_
    rw [shS_sv]
    have hp4 : rd w0 M4 ⟨s, 0, none⟩ = some (SV.v sv) := rd_own (o := 0) h4.right.right.own1
    refine ⟨hp4, hp4, ?_⟩
    have hr4 := h4.right.right.right.rdE.cut (lo := 0) (hi := i) (by omega) (by omega)
    rw [List.drop_zero] at hr4
    refine appE (x := sv.cut 0 i) h4 hr4 (by simp; omega) fun M5 s5 h5 => ?_
    rw [shS_sv, List.nil_append] at *
    have hp5 : rd w0 M5 ⟨s, 0, none⟩ = some (SV.v sv) := rd_own (o := 0) h5.right.right.own1
    refine ⟨hp5, ?_⟩
    have hr5 := h5.right.right.right.rdE.cut (lo := i + 1) (hi := l.length) (by omega) (Nat.le_refl _)
    rw [List.take_length] at hr5
    rw [hn3]
    refine appE (x := sv.cut (i + 1) l.length) h5 hr5 (by simp; omega) fun M6 s6 h6 => ?_
    rw [shS_sv]
    have e6 : l.take i ++ l.drop (i + 1) = rmv l x := by
      unfold rmv; rw [hf]; show _ = l.eraseIdx i; rw [List.eraseIdx_eq_take_drop_succ]
    rw [e6] at h6
    have h7 : Holds w0 F3 M6 (star (row1 s [SV.v sv] tR) (star (Es s6 (rmv l x)) (star (row1 b [.int .i64 0, .int .i64 0] 40) Q))) := by
      obtain ⟨r, ⟨r1, r2, rfl, q1, r3, r4, rfl, q2, r5, r6, rfl, q3, r7, r8, rfl, q4, q5⟩, q6⟩ := h6
      refine ⟨r5 ++ (r1 ++ (r3 ++ r8)), ⟨r5, _, rfl, q3, r1, _, rfl, q1, r3, r8, rfl, q2, q5⟩, (q6.perm (r' := (r5 ++ (r1 ++ (r3 ++ r8))) ++ r7) ?_).drop⟩
      have e1 : r1 ++ (r3 ++ (r5 ++ (r7 ++ r8))) = ((r1 ++ r3) ++ r5) ++ (r7 ++ r8) := by simp
      have e2 : (r5 ++ (r1 ++ (r3 ++ r8))) ++ r7 = (r5 ++ (r1 ++ r3)) ++ (r8 ++ r7) := by simp
      rw [e1, e2]
      exact List.perm_append_comm.append List.perm_append_comm
    refine SetH.put (l := l) h7 fun M7 h8 => ?_
    simp only [(hbx _ h8.fr).2.2, ob_v, shA_v, shCons_v, shI_v, shNil_v]
    obtain ⟨sv8, h9⟩ := h8
    have h10 : Holds w0 F3 M7 (star (row1 b [.int .i64 0, .int .i64 0] 40) (star (row1 s [SV.v sv8] tR) (star (Es sv8 (rmv l x)) Q))) := by
      obtain ⟨r, ⟨r3, r2, rfl, q2, r5, r4, rfl, q3, r1, r6, rfl, q1, q4⟩, q5⟩ := h9
      refine ⟨r1 ++ (r3 ++ (r5 ++ r6)), ⟨r1, _, rfl, q1, r3, _, rfl, q2, r5, r6, rfl, q3, q4⟩, q5.perm ?_⟩
      rw [← List.append_assoc r3, ← List.append_assoc r3, ← List.append_assoc (r3 ++ r5), ← List.append_assoc r1]
      exact List.perm_append_comm.append_right r6
    refine resE (K := fun v M => R (.tuple #[v, .bool true]) M) h10 fun M8 h11 => ?_
    have := hR M8 (SetH.unfrm ⟨sv8, h11⟩ hle3)
    unfold getE at this
    rw [hf] at this
    simp only [List.getD_eq_getElem?_getD, hy, Option.getD_some] at this
    exact this

theorem fnd_head {e : Ent} {l : List Ent} : fnd (e :: l) e.2 = some 0 := fnd_of (e := e) rfl rfl fun j hj => by omega
theorem rPop_ok {s : Nat} {l : List Ent} {Q : Asn} (h : SetH w0 F M tR s l Q) (hb : l.length ≤ 10000) (hR : ∀ M', SetH w0 F M' tR s l.tail Q → R (.tuple #[.agg #[.int .i64 (l.headD (0, 0)).1, .int .i64 (l.headD (0, 0)).2], .bool (!l.isEmpty)]) M') :
    C PP w0 Id.thicketref16_Set_Pop #[.pointer (some ⟨s, 0, none⟩)] R M := by
  apply thicketref16_Set_Pop.go
  unfold thicketref16_Set_Pop.T
  obtain ⟨sv, hH⟩ := h
  intro b hb0 hw0
  have hN := Holds.new hH hb0 hw0 [.int .i64 0, .int .i64 0] 40
  generalize M.set b _ = M1 at hN ⊢
  have hN' : SetH w0 F M1 tR s l (star (row1 b [.int .i64 0, .int .i64 0] 40) Q) := ⟨sv, by
    obtain ⟨r, ⟨r1, r2, rfl, q1, r3, r4, rfl, q2, r5, r6, rfl, q3, q4⟩, q5⟩ := hN
    refine ⟨r3 ++ (r5 ++ (r1 ++ r6)), ⟨r3, _, rfl, q2, r5, _, rfl, q3, r1, r6, rfl, q1, q4⟩, q5.perm ?_⟩
    rw [← List.append_assoc r3, ← List.append_assoc r3, ← List.append_assoc (r3 ++ r5), ← List.append_assoc r1]
    exact List.perm_append_comm.append_right r6⟩
  refine rMin_ok hN' hb fun M2 hS2 => ?_
  simp only [shT_v, shCons_v, shA_v, shI_v, shNil_v, shB_v]
  obtain ⟨sv2, hH2⟩ := hS2
  refine boxE hH2 (l.headD (0, 0)).1 (l.headD (0, 0)).2 fun b3 F3 M3 hle3 hH3 hbx => ?_
  have fin : ∀ (M4 : Mem) (m : List Ent), SetH w0 F3 M4 tR s m (star (row1 b [.int .i64 0, .int .i64 0] 40) Q) → m = l.tail → ∀ bb, bb = (!l.isEmpty) →
      ob ((std PP w0).ld 40 ⟨b3, 0, none⟩ M4) fun v29 => shA v29 fun l30 => shCons l30 fun u31 r32 => shI .i64 u31 fun n33 => shCons r32 fun u34 r35 => shI .i64 u34 fun n36 => shNil r35 ((std PP w0).st 40 ⟨b, 0, none⟩ (.agg #[.int .i64 n33, .int .i64 n36]) (fun M37 => ob ((std PP w0).rdv 40 (.pointer (some ⟨b, 0, none⟩)) M37) fun v38 => R (.tuple #[v38, .bool bb]) M37) M4) := by
    intro M4 m hS4 hm bb hbb
    simp only [(hbx _ hS4.fr).2.2, ob_v, shA_v, shCons_v, shI_v, shNil_v]
    obtain ⟨sv4, hH4⟩ := hS4
    have hH5 : Holds w0 F3 M4 (star (row1 b [.int .i64 0, .int .i64 0] 40) (star (row1 s [SV.v sv4] tR) (star (Es sv4 m) Q))) := by
      obtain ⟨r, ⟨r3, r2, rfl, q2, r5, r4, rfl, q3, r1, r6, rfl, q1, q4⟩, q5⟩ := hH4
      refine ⟨r1 ++ (r3 ++ (r5 ++ r6)), ⟨r1, _, rfl, q1, r3, _, rfl, q2, r5, r6, rfl, q3, q4⟩, q5.perm ?_⟩
      rw [← List.append_assoc r3, ← List.append_assoc r3, ← List.append_assoc (r3 ++ r5), ← List.append_assoc r1]
      exact List.perm_append_comm.append_right r6
    refine resE (K := fun v M => R (.tuple #[v, .bool bb]) M) hH5 fun M5 h5 => ?_
    rw [hbb]
    refine hR M5 ?_
    rw [← hm]
    exact SetH.unfrm ⟨sv4, h5⟩ hle3
  cases l with
  | nil =>
    simp only [List.isEmpty_nil, Bool.not_true, bs_false]
    exact fin M3 [] ⟨sv2, hH3⟩ rfl false rfl
  | cons y l =>
    simp only [List.isEmpty_cons, Bool.not_false, bs_true]
    have e1 := (hbx _ hH3.fr).2.1
    simp only [add_eq, Nat.zero_add, ld_one W.c2, e1, ob_v, shI_v]
    refine rRemove_ok (x := y.2) ⟨sv2, hH3⟩ hb fun M4 hS4 => ?_
    simp only [shT_v, shCons_v, shA_v, shI_v, shNil_v, shB_v]
    exact fin M4 _ hS4 (by unfold rmv; rw [fnd_head]; rfl) true rfl

theorem rmv_none {l : List Ent} {x : Int} (hn : (l.map (·.2)).Nodup) : fnd (rmv l x) x = none := by
  unfold rmv
  split
  · rename_i i hf
    obtain ⟨y, hy, hyx, _⟩ := fnd_some hf
    refine fnd_no fun z hz hzx => ?_
    have hil := (List.getElem?_eq_some_iff.1 hy).1
    have hp : l.Perm (y :: l.eraseIdx i) := by
      obtain ⟨hk, rfl⟩ := List.getElem?_eq_some_iff.1 hy
      conv => lhs; rw [← List.take_append_drop i l, List.drop_eq_getElem_cons hk]
      rw [List.eraseIdx_eq_take_drop_succ]
      exact List.perm_middle
    have h1 := (hp.map (·.2)).nodup_iff.1 hn
    rw [List.map_cons, List.nodup_cons] at h1
    exact h1.1 (by rw [hyx, ← hzx]; exact List.mem_map_of_mem hz)
  · rename_i hf
    exact hf
theorem rmv_srt {l : List Ent} {x : Int} (h : Srt l) : Srt (rmv l x) := by
  unfold rmv
  split
  · exact h.sub (List.eraseIdx_sublist _ _)
  · exact h

theorem rLower_ok {s : Nat} {l : List Ent} {Q : Asn} {x k : Int} (h : SetH w0 F M tR s l Q) (hsr : Srt l) (hn : (l.map (·.2)).Nodup) (hb : l.length ≤ 10000) (hR : ∀ M', SetH w0 F M' tR s (lowE l x k) Q → R (.bool (lowB l x k)) M') :
    C PP w0 Id.thicketref16_Set_Lower #[.pointer (some ⟨s, 0, none⟩), .int .i64 x, .int .i64 k] R M := by
  apply thicketref16_Set_Lower.go
  intro pts H
  unfold thicketref16_Set_Lower.T
  obtain ⟨sv, hH⟩ := h
  refine rfindS_ok ⟨sv, hH⟩ (by omega) ?_
  have hp : rd w0 M ⟨s, 0, none⟩ = some (SV.v sv) := rd_own (o := 0) hH.own1
  have hrd := hH.right.rdE
  rw [shI_v, bs_decide]
  cases hf : fnd l x with
  | none =>
    rw [fndI_none hf, if_pos (by omega)]
    have := hR M (by unfold lowE; rw [hf, if_neg (by simp)]; exact ⟨sv, hH⟩)
    unfold lowB at this
    rw [hf] at this; exact this
  | some i =>
    obtain ⟨y, hy, hyx, _⟩ := fnd_some hf
    have hge : getE l x = y := by unfold getE; rw [hf]; simp only [List.getD_eq_getElem?_getD, hy, Option.getD_some]
    rw [fndI_some hf, if_neg (by omega)]
    simp only [nc_v, ld_one W.c36, hp, ob_v, shS_sv]
    refine rdE0 W.c2 hrd (Mem.le_refl _) i rfl hy ?_
    rw [bs_decide]
    split
    · rename_i hgt
      have := hR M (by unfold lowE; rw [if_neg (fun h9 => by have := h9.2; rw [hge] at this; omega)]; exact ⟨sv, hH⟩)
      unfold lowB at this
      rw [hf, hge, decide_eq_false (by omega)] at this; exact this
    · rename_i hgt
      rw [H.J1]
      unfold thicketref16_Set_Lower.J1.T
      simp only [nc_v, ld_one W.c36, hp, ob_v, shS_sv]
      refine rdE hrd (Mem.le_refl _) i rfl hy ?_
      -- a place for the entry, that is written once more
      intro b hb0 hw0
      have hN := Holds.new hH hb0 hw0 [.int .i64 0, .int .i64 0] 40
      refine st_agg (vs := [.int .i64 y.1, .int .i64 y.2]) W.g40 (Holds.own1 hN) (by simp) (by intro v hv; simp only [List.mem_cons, List.not_mem_nil, or_false] at hv; rcases hv with rfl | rfl <;> rfl) ?_
      have hN2 := Holds.upd1 hN (cs' := over [.int .i64 0, .int .i64 0] 0 [.int .i64 y.1, .int .i64 y.2]) (e' := 40)
      change Holds w0 F _ (star (row1 b [.int .i64 y.1, .int .i64 y.2] 40) _) at hN2
      generalize (M.set b _).set b _ = M2 at hN2 ⊢
      have hN3 : SetH w0 F M2 tR s l (star (row1 b [.int .i64 y.1, .int .i64 y.2] 40) Q) := ⟨sv, by
        obtain ⟨r, ⟨r1, r2, rfl, q1, r3, r4, rfl, q2, r5, r6, rfl, q3, q4⟩, q5⟩ := hN2
        refine ⟨r3 ++ (r5 ++ (r1 ++ r6)), ⟨r3, _, rfl, q2, r5, _, rfl, q3, r1, r6, rfl, q1, q4⟩, q5.perm ?_⟩
        rw [← List.append_assoc r3, ← List.append_assoc r3, ← List.append_assoc (r3 ++ r5), ← List.append_assoc r1]
        exact List.perm_append_comm.append_right r6⟩
      refine rRemove_ok hN3 hb fun M3 hS3 => ?_
      simp only [shT_v, shCons_v, shA_v, shI_v, shNil_v, shB_v]
      obtain ⟨sv3, hH3⟩ := hS3
      have hH4 : Holds w0 F M3 (star (row1 b [.int .i64 y.1, .int .i64 y.2] 40) (star (row1 s [SV.v sv3] tR) (star (Es sv3 (rmv l x)) Q))) := by
        obtain ⟨r, ⟨r3, r2, rfl, q2, r5, r4, rfl, q3, r1, r6, rfl, q1, q4⟩, q5⟩ := hH3
        refine ⟨r1 ++ (r3 ++ (r5 ++ r6)), ⟨r1, _, rfl, q1, r3, _, rfl, q2, r5, r6, rfl, q3, q4⟩, q5.perm ?_⟩
        rw [← List.append_assoc r3, ← List.append_assoc r3, ← List.append_assoc (r3 ++ r5), ← List.append_assoc r1]
        exact List.perm_append_comm.append_right r6
      refine st_one W.c2 hH4.own1 (by simp) rfl rfl ?_
      have hH5 := hH4.upd1 (cs' := ([.int .i64 y.1, .int .i64 y.2] : List Value).set 0 (.int .i64 k)) (e' := 40)
      have o5 : Own w0 _ b [.int .i64 k, .int .i64 y.2] 40 := hH5.own1
      generalize M3.set b _ = M5 at hH5 o5 ⊢
      have hld : (std PP w0).ld 40 ⟨b, 0, none⟩ M5 = some (.agg #[.int .i64 k, .int .i64 y.2]) := ld_agg (cs := [.int .i64 k, .int .i64 y.2]) W.g40 (fun j v hj => by rw [add_eq, rd_own o5, Nat.zero_add]; exact hj)
      simp only [hld, ob_v, shA_v, shCons_v, shI_v, shNil_v]
      rw [hyx]
      refine rInsert_ok (e := (k, x)) ⟨sv3, hH5.right⟩ (rmv_srt hsr) (Nat.le_trans (rmv_len l x) hb) (fun j hj => ?_) fun _ M6 hS6 => ?_
      · have hj' : fnd (rmv l x) x = some j := hj
        rw [rmv_none hn] at hj'; cases hj'
      · rw [shB_v]
        have := hR M6 (by unfold lowE; rw [if_pos ⟨by rw [hf]; rfl, by rw [hge]; omega⟩]; exact hS6)
        unfold lowB at this
        rw [hf, hge, decide_eq_true (by omega)] at this; exact this

/-- One of the document's sets takes all of another one. -/
theorem rJoin_ok {s t : Nat} {l m : List Ent} {Q : Asn} {sv tv : SV} (h : Holds w0 F M (star (row1 t [SV.v tv] tR) (star (Es tv m) (star (row1 s [SV.v sv] tR) (star (Es sv l) Q))))) (hsr : Srt l) (hb : l.length + m.length ≤ 10000)
    (h0 : (∃ e ∈ m, (fnd l e.2).isSome = true) → R (.bool false) M)
    (h1 : (∀ e ∈ m, fnd l e.2 = none) → ∀ M' sv' tv', Holds w0 F M' (star (row1 t [SV.v tv'] tR) (star (Es tv' []) (star (row1 s [SV.v sv'] tR) (star (Es sv' (insAll l m)) Q)))) → R (.bool true) M') :
    C PP w0 Id.thicketref16_Set_Join #[.pointer (some ⟨s, 0, none⟩), .pointer (some ⟨t, 0, none⟩)] R M := by
  apply thicketref16_Set_Join.go
  intro pts H
  unfold thicketref16_Set_Join.T
  have hpt : rd w0 M ⟨t, 0, none⟩ = some (SV.v tv) := rd_own (o := 0) h.own1
  have hps : rd w0 M ⟨s, 0, none⟩ = some (SV.v sv) := rd_own (o := 0) h.right.right.own1
  have hrt := h.right.rdE
  have hrs := h.right.right.right.rdE
  have hnt := hrt.len
  have key : ∀ (k i : Nat), i ≤ m.length → m.length < i + k → (∀ j e, j < i → m[j]? = some e → fnd l e.2 = none) → thicketref16_Set_Join.L1 pts k (some ⟨s, 0, none⟩) (some ⟨t, 0, none⟩) (i : Int) M := by
    intro k
    induction k with
    | zero => intro i h1 h2; omega
    | succ k ih =>
      intro i hi hk hno
      rw [H.L1]
      unfold thicketref16_Set_Join.L1.T
      simp only [nc_v, ld_one W.c36, hpt, hps, ob_v, shS_sv]
      rw [bs_decide]
      split
      · have hlt : i < m.length := by omega
        have ey := List.getElem?_eq_getElem hlt
        generalize m[i] = y at ey
        refine rdE1 W.c2 hrt (Mem.le_refl _) i rfl ey ?_
        refine rfind_ok hps hrs (by omega) ?_
        rw [shI_v, bs_decide]
        cases hf : fnd l y.2 with
        | some j =>
          rw [fndI_some hf, if_pos (by omega)]
          exact h0 ⟨y, List.mem_of_getElem? ey, by rw [hf]; rfl⟩
        | none =>
          rw [fndI_none hf, if_neg (by omega), i64_succ (by omega)]
          refine ih (i + 1) (by omega) (by omega) fun j w hj hw => ?_
          by_cases hji : j = i
          · subst hji; rw [ey] at hw; cases hw; exact hf
          · exact hno j w (by omega) hw
      · have hno2 : ∀ e ∈ m, fnd l e.2 = none := fun e he => by
          obtain ⟨j, hj⟩ := List.getElem?_of_mem he
          have := (List.getElem?_eq_some_iff.1 hj).1
          exact hno j e (by omega) hj
        refine newE0 h fun M3 s3 l3 _ h3 => ?_
        rw [shS_sv]
        have hpt3 : rd w0 M3 ⟨t, 0, none⟩ = some (SV.v tv) := rd_own (o := 0) h3.right.own1
        have hps3 : rd w0 M3 ⟨s, 0, none⟩ = some (SV.v sv) := rd_own (o := 0) h3.right.right.right.own1
        refine ⟨hps3, hpt3, ?_⟩
        refine appE h3 h3.right.right.right.right.rdE (by simp; omega) fun M4 s4 h4 => ?_
        rw [shS_sv, List.nil_append] at *
        have hpt4 : rd w0 M4 ⟨t, 0, none⟩ = some (SV.v tv) := rd_own (o := 0) h4.right.own1
        refine ⟨hpt4, ?_⟩
        refine appE h4 h4.right.right.rdE (by omega) fun M5 s5 h5 => ?_
        rw [shS_sv]
        refine rSort_ok h5.right h5.rdE (by simp; omega) fun M6 s6 z l6 h6 hz hp6 => ?_
        rw [shS_sv]
        have hzi : z = insAll l m := Srt.eq hz (insAll_srt m hsr) (hp6.trans (insAll_perm m l).symm)
        subst hzi
        have h7 : Holds w0 F M6 (star (row1 s [SV.v sv] tR) (star (Es s6 (insAll l m)) (star (row1 t [SV.v tv] tR) Q))) := by
          obtain ⟨r, ⟨r1, r2, rfl, q1, r3, r4, rfl, q2, r5, r6, rfl, q3, r7, r8, rfl, q4, r9, r10, rfl, q5, q6⟩, q7⟩ := h6
          refine ⟨r7 ++ (r1 ++ (r3 ++ r10)), ⟨r7, _, rfl, q4, r1, _, rfl, q1, r3, r10, rfl, q2, q6⟩, (q7.perm (r' := (r7 ++ (r1 ++ (r3 ++ r10))) ++ (r5 ++ r9)) ?_).drop⟩
          have e1 : r1 ++ (r3 ++ (r5 ++ (r7 ++ (r9 ++ r10)))) = ((r1 ++ r3) ++ (r5 ++ r7)) ++ (r9 ++ r10) := by simp
          have e2 : (r7 ++ (r1 ++ (r3 ++ r10))) ++ (r5 ++ r9) = (r7 ++ (r1 ++ r3)) ++ (r10 ++ (r5 ++ r9)) := by simp
          rw [e1, e2]
          have p1 : (((r1 ++ r3) ++ (r5 ++ r7)) ++ (r9 ++ r10)).Perm (((r1 ++ r3) ++ (r7 ++ r5)) ++ (r9 ++ r10)) := (List.perm_append_comm.append_left _).append_right _
          refine p1.trans ?_
          have e3 : ((r1 ++ r3) ++ (r7 ++ r5)) ++ (r9 ++ r10) = ((r1 ++ r3) ++ r7) ++ ((r5 ++ r9) ++ r10) := by simp
          rw [e3]
          exact List.perm_append_comm.append List.perm_append_comm
        refine SetH.put (l := l) h7 fun M7 h8 => ?_
        obtain ⟨sv8, h9⟩ := h8
        have h10 : Holds w0 F M7 (star (row1 t [SV.v tv] tR) (star (row1 s [SV.v sv8] tR) (star (Es sv8 (insAll l m)) Q))) := by
          obtain ⟨r, ⟨r3, r2, rfl, q2, r5, r4, rfl, q3, r1, r6, rfl, q1, q4⟩, q5⟩ := h9
          refine ⟨r1 ++ (r3 ++ (r5 ++ r6)), ⟨r1, _, rfl, q1, r3, _, rfl, q2, r5, r6, rfl, q3, q4⟩, q5.perm ?_⟩
          rw [← List.append_assoc r3, ← List.append_assoc r3, ← List.append_assoc (r3 ++ r5), ← List.append_assoc r1]
          exact List.perm_append_comm.append_right r6
        refine st_one W.c36 h10.own1 (by simp) rfl rfl ?_
        have h11 := h10.upd1 (cs' := [SV.v ⟨none, 0, 0⟩]) (e' := tR)
        refine h1 hno2 _ sv8 ⟨none, 0, 0⟩ ?_
        obtain ⟨r, ⟨r1, r2, rfl, q1, q2⟩, q3⟩ := h11
        exact ⟨r1 ++ ([] ++ r2), ⟨r1, _, rfl, q1, [], r2, rfl, .inl ⟨rfl, rfl, rfl⟩, q2⟩, by rw [List.nil_append]; exact q3⟩
  exact ⟨m.length + 1, key (m.length + 1) 0 (by omega) (by omega) fun j e hj => absurd hj (by omega)⟩

end
end Go.Proofs.Ytgnfbodlpolibaa.HL
