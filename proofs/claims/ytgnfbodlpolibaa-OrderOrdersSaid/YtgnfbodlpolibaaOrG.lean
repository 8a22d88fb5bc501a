/-
  OrG: numbers and entries: what is handed in, with room behind it.
-/
import Derived.Test.YtgnfbodlpolibaaOrF
set_option linter.unusedVariables false
set_option linter.unusedSimpArgs false
set_option maxRecDepth 100000
namespace Go.Proofs.Ytgnfbodlpolibaa.HL
open Go.RowKit (Below)
open Go.Proofs

theorem zeros_e (n : Nat) : zeros (.agg #[.int .i64 0, .int .i64 0]) n = List.replicate (n * 2) (.int .i64 0) := by
  have hl : (zeros (.agg #[.int .i64 0, .int .i64 0]) n).length = n * 2 := zeros_length _ _
  refine List.ext_getElem (by rw [hl, List.length_replicate]) fun i h1 h2 => ?_
  rw [List.getElem_replicate]
  simp only [zeros, Builtin.zeroCells, Value.cells]
  simp
  rcases (by omega : i % 2 = 0 ∨ i % 2 = 1) with q | q <;> rw [q] <;> rfl
theorem esV_zero : ∀ n, esV (List.replicate n (0, 0)) = List.replicate (n * 2) (.int .i64 0)
  | 0 => rfl
  | n + 1 => by
    rw [List.replicate_succ, esV_cons, esV_zero n, show (n + 1) * 2 = n * 2 + 1 + 1 from by omega, List.replicate_succ, List.replicate_succ]
theorem over_zero (A B vs : List Value) (hv : vs.length = A.length) : over (A ++ B) 0 vs = vs ++ B := by
  refine List.ext_getElem? fun i => ?_
  rw [over_get vs _ 0 i (by rw [List.length_append]; omega), if_neg (by omega)]
  split
  · rw [Nat.sub_zero, List.getElem?_append_left (by omega)]
  · rw [List.getElem?_append_right (by omega), List.getElem?_append_right (by omega), hv]
theorem set_mid (P S : List Ent) (x y : Ent) : (P ++ x :: S).set P.length y = P ++ y :: S := by
  rw [List.set_append_right _ _ (Nat.le_refl _), Nat.sub_self, List.set_cons_zero]

section
variable {w0 : World} {F M : Mem} {R : Value → Mem → Prop}

theorem Holds.orr3 {A B D E : Asn} (h : Holds w0 F M (star A (star B (star D E)))) : Holds w0 F M (star D (star A (star B E))) := by
  obtain ⟨F', h1, _, h3⟩ := h.last
  exact (h3 _ _ h1.rot).rot
theorem stEb {b : Nat} {c0 c1 : Value} {x y : Int} {Q : Asn} (h : Holds w0 F M (star (row1 b [c0, c1] 40) Q)) {K : Mem → Prop} (hK : ∀ M', Holds w0 F M' (star (row1 b [.int .i64 x, .int .i64 y] 40) Q) → K M') :
    (std PP w0).st 40 ⟨b, 0, none⟩ (.agg #[.int .i64 x, .int .i64 y]) (fun M' => K M') M := by
  refine st_agg (vs := [.int .i64 x, .int .i64 y]) W.g40 (Holds.own1 h) (by simp) (by intro v hv; simp only [List.mem_cons, List.not_mem_nil, or_false] at hv; rcases hv with rfl | rfl <;> rfl) ?_
  exact hK _ (Holds.upd1 h (cs' := over [c0, c1] 0 [.int .i64 x, .int .i64 y]) (e' := 40))
theorem stCb {t : TypeId} (ht : cell1 PP t = true) {b o : Nat} {cs cs' : List Value} {e : TypeId} {v : Value} {Q : Asn} (h : Holds w0 F M (star (row1 b cs e) Q)) (ho : o < cs.length) (hv : onecell v = true) (hc : v.cells = #[v]) (he : cs.set o v = cs') {K : Mem → Prop} (hK : ∀ M', Holds w0 F M' (star (row1 b cs' e) Q) → K M') :
    (std PP w0).st t ⟨b, o, none⟩ v (fun M' => K M') M := by
  subst he
  exact st_one ht h.own1 ho hv hc (hK _ h.upd1)

theorem entries_ok {s : SV} {l : List Ent} {most : Nat} {Q : Asn} (hs : RdE w0 M s l) (hm : most ≤ 1000) (hQ : Holds w0 F M Q) (h : ∀ M' s' z, Mem.le M M' → Holds w0 F M' (star (Es s' z) Q) → z.length ≤ most → R (SV.v s') M') :
    C PP w0 Id.thicketlaw1_entries #[SV.v s, .int .i64 (most : Int)] R M := by
  apply thicketlaw1_entries.go
  intro pts H
  unfold thicketlaw1_entries.T
  have hn := hs.len
  have fin : ∀ (z : List Ent) (out : SV) (M' : Mem), z.length ≤ most → Holds w0 M M' (star (Es out z) emp) → R (SV.v out) M' := fun z out M' hz h1 => by
    obtain ⟨g1, g2⟩ := hQ.unself h1
    exact h M' out z g1 g2 hz
  have key : ∀ (k i : Nat) (z : List Ent) (out : SV) (M' : Mem), i ≤ l.length → i ≤ most → most < i + k → z.length = i → Holds w0 M M' (star (Es out z) emp) → thicketlaw1_entries.L1 pts k s (most : Int) out (i : Int) M' := by
    intro k
    induction k with
    | zero => intro i z out M' h1 h2 h3; omega
    | succ k ih =>
      intro i z out M' hi him hk hz hH
      rw [H.L1]
      unfold thicketlaw1_entries.L1.T
      rw [bs_decide]
      split
      · rw [bs_decide]
        split
        · have hlt : i < l.length := by omega
          have ey := List.getElem?_eq_getElem hlt
          generalize l[i] = y at ey
          rw [H.J2]
          unfold thicketlaw1_entries.J2.T
          refine rdE hs hH.fr i rfl ey ?_
          intro b hb0 hbw
          have h1 := Holds.new hH hb0 hbw [.int .i64 0, .int .i64 0] 40
          generalize M'.set b _ = M1 at h1 ⊢
          refine stEb h1 fun M2 h2 => ?_
          have keyT : ∀ (M3 : Mem) (p q : Int), Holds w0 M M3 (star (row1 b [.int .i64 p, .int .i64 q] 40) (star (Es out z) emp)) →
              (std PP w0).bsl 36 1 [(0, .agg #[.int .i64 p, .int .i64 q])] (fun v28 M29 => shS v28 fun s30 => (std PP w0).app #[36, 36] 36 [SV.v out, SV.v s30] (fun v31 M32 => shS v31 fun s33 => thicketlaw1_entries.L1 pts k s (most : Int) s33 (w64 ((i : Int) + 1)) M32) M29) M3 := by
            intro M3 p q h3
            refine newE h3 p q fun M4 s4 l4 h4 => ?_
            rw [shS_sv]
            refine appE h4.orr3 h4.rdE (by simp; omega) fun M5 s5 h5 => ?_
            rw [shS_sv, i64_succ (by omega)]
            exact ih (i + 1) (z ++ [(p, q)]) s5 M5 (by omega) (by omega) (by omega) (by simp [hz]) h5.skip2.skip2
          have e0 : rd w0 M2 ⟨b, 0, none⟩ = some (.int .i64 y.1) := rd_own (o := 0) h2.own1
          have e1 : rd w0 M2 ⟨b, 1, none⟩ = some (.int .i64 y.2) := rd_own (o := 1) h2.own1
          refine ⟨rfl, by decide, ?_⟩
          rw [bs_bne]
          split
          · rw [ldEb h2.own1 (Mem.le_refl _)]
            simp only [go_sem]
            exact keyT M2 y.1 y.2 h2
          · simp only [ld_one W.c2, add_eq, Nat.zero_add, e0, e1, go_sem]
            refine ⟨trivial, by decide, trivial, by decide, ?_⟩
            refine stCb (o := 0) W.c2 h2 (by simp) rfl rfl (cs' := [.int .i64 (Int.tmod y.1 4), .int .i64 y.2]) rfl fun M3 h3 => ?_
            refine stCb (o := 1) W.c2 h3 (by simp) rfl rfl (cs' := [.int .i64 (Int.tmod y.1 4), .int .i64 (Int.tmod y.2 3)]) rfl fun M4 h4 => ?_
            rw [ldEb h4.own1 (Mem.le_refl _)]
            simp only [go_sem]
            exact keyT M4 _ _ h4
        · exact fin z out M' (by omega) hH
      · exact fin z out M' (by omega) hH
  exact ⟨most + 1, key (most + 1) 0 [] ⟨none, 0, 0⟩ M (by omega) (by omega) (by omega) rfl (Holds.nilSlk (k := 2) hQ.self)⟩

theorem Roomy_ok {s : SV} {z : List Ent} {x y : Int} {Q : Asn} (hs : RdE w0 M s z) (hb : z.length ≤ 1000) (hQ : Holds w0 F M Q) (h : ∀ M' s', Mem.le M M' → Holds w0 F M' (star (Es s' (z ++ List.replicate 80 (x, y))) Q) → R (SV.v s') M') :
    C PP w0 Id.thicketbook_Roomyapi_Entry #[SV.v s, .agg #[.int .i64 x, .int .i64 y]] R M := by
  apply thicketbook_Roomyapi_Entry.go
  intro pts H
  unfold thicketbook_Roomyapi_Entry.T
  have hn := hs.len
  refine boxE' hQ.self x y fun b1 F1 M1 l1 h1 hb1 => ?_
  rw [w64_in (by omega), show ((s.n : Nat) : Int) + 80 = ((s.n + 80 : Nat) : Int) from by omega]
  obtain ⟨i, hi, hz, q1, q2, q3, q4⟩ := W.e40
  refine mks_ok Try.underlying36 hi hz (by rw [q1]; exact q2) (Nat.le_refl _) ?_ (by omega) fun b hb0 hbw => ?_
  · exact Nat.le_trans (Nat.mul_le_mul q4 (show s.n + 80 ≤ 1080 by omega)) (by decide)
  have hN := Holds.new h1 hb0 hbw (zeros (.agg #[.int .i64 0, .int .i64 0]) (s.n + 80)) 40
  have lN : Mem.le M1 (M1.set b (.row (zeros (.agg #[.int .i64 0, .int .i64 0]) (s.n + 80)) 40)) := Mem.le_set _ hb0
  generalize M1.set b _ = M2 at hN lN ⊢
  simp only [go_sem]
  have hz2 : zeros (.agg #[.int .i64 0, .int .i64 0]) (s.n + 80) = List.replicate (s.n * 2) (.int .i64 0) ++ esV (List.replicate 80 (0, 0)) := by
    rw [zeros_e, esV_zero, List.replicate_append_replicate, show (s.n + 80) * 2 = s.n * 2 + 80 * 2 from by omega]
  rw [hz2] at hN
  have ezl := esV_len z
  have lM2 : Mem.le M M2 := Mem.le_trans l1 (Mem.le_trans h1.fr lN)
  have keyF : ∀ M3, Holds w0 F1 M3 (star (row1 b (esV z ++ esV (List.replicate 80 (0, 0))) 40) emp) → ∃ k9, thicketbook_Roomyapi_Entry.L1 pts k9 ⟨b1, 0, none⟩ ⟨some ⟨b, 0, none⟩, s.n + 80, s.n + 80⟩ ((s.n : Nat) : Int) M3 := by
    intro M3 h3
    have h4 : Holds w0 F1 M3 (star (Es ⟨some ⟨b, 0, none⟩, s.n + 80, s.n + 80⟩ (z ++ (List.replicate 0 (x, y) ++ List.replicate 80 (0, 0)))) emp) := by
      refine SlKA.ofRow (rest := []) (e := 40) ?_ ?_ ?_
      · rw [List.append_nil, List.replicate_zero, List.nil_append, esV_append]; exact h3
      · rw [esV_len]; simp; omega
      · rw [esV_len]; simp; omega
    have key : ∀ (k j : Nat) (M4 : Mem), j ≤ 80 → 80 < j + k → Holds w0 F1 M4 (star (Es ⟨some ⟨b, 0, none⟩, s.n + 80, s.n + 80⟩ (z ++ (List.replicate j (x, y) ++ List.replicate (80 - j) (0, 0)))) emp) →
        thicketbook_Roomyapi_Entry.L1 pts k ⟨b1, 0, none⟩ ⟨some ⟨b, 0, none⟩, s.n + 80, s.n + 80⟩ ((s.n + j : Nat) : Int) M4 := by
      intro k
      induction k with
      | zero => intro j M4 h1 h2; omega
      | succ k ih =>
        intro j M4 hj hk hH
        rw [H.L1]
        unfold thicketbook_Roomyapi_Entry.L1.T
        rw [bs_decide]
        split
        · rename_i hlt
          have hj80 : j < 80 := by
            have : ((s.n + j : Nat) : Int) < ((s.n + 80 : Nat) : Int) := hlt
            omega
          rw [(hb1 _ hH.fr).2.2]
          simp only [ob_v, shA_v, shCons_v, shI_v, shNil_v]
          have el : z ++ (List.replicate j (x, y) ++ List.replicate (80 - j) (0, 0)) = (z ++ List.replicate j (x, y)) ++ (0, 0) :: List.replicate (80 - (j + 1)) (0, 0) := by
            rw [show 80 - j = (80 - (j + 1)) + 1 from by omega, List.replicate_succ]; simp
          rw [el] at hH
          have hle : (z ++ List.replicate j (x, y)).length = s.n + j := by rw [List.length_append, List.length_replicate]; omega
          refine stE hH (s.n + j) rfl (by rw [List.length_append, List.length_cons]; omega) fun M5 h5 => ?_
          rw [i64_succ (by omega)]
          rw [← hle, set_mid] at h5
          refine ih (j + 1) M5 (by omega) (by omega) ?_
          rw [List.replicate_succ']
          rw [show z ++ ((List.replicate j (x, y) ++ [(x, y)]) ++ List.replicate (80 - (j + 1)) (0, 0)) = (z ++ List.replicate j (x, y)) ++ (x, y) :: List.replicate (80 - (j + 1)) (0, 0) from by simp]
          exact h5
        · rename_i hlt
          have hj80 : j = 80 := by
            have : ¬ ((s.n + j : Nat) : Int) < ((s.n + 80 : Nat) : Int) := hlt
            omega
          subst hj80
          rw [Nat.sub_self, List.replicate_zero, List.append_nil] at hH
          obtain ⟨g1, g2⟩ := hQ.unself (hH.unfrm l1)
          exact h M4 _ g1 g2
    exact ⟨81, key 81 0 M3 (by omega) (by omega) h4⟩
  refine cpy_ok Try.underlying36 hi (d := ⟨some ⟨b, 0, none⟩, s.n + 80, s.n + 80⟩) (news := esV z) s.n (by show s.n = min s.n (s.n + 80); omega) (by rw [q1, ezl]; omega) (hs.cells M2 lM2) hs.nul (fun e => by cases e) fun a ea => ?_
  cases ea
  refine ⟨b, 0, _, 40, rfl, hN.own1, by rw [List.length_append, List.length_replicate]; omega, esV_one z, ?_⟩
  simp only [go_sem]
  refine keyF _ ?_
  have := hN.upd1 (cs' := over (List.replicate (s.n * 2) (.int .i64 0) ++ esV (List.replicate 80 (0, 0))) 0 (esV z)) (e' := 40)
  rw [over_zero _ _ _ (by rw [ezl, List.length_replicate]; omega)] at this ⊢
  exact this

theorem Intact_ok {s t : SV} {z : List Ent} {x y : Int} (hs : RdE w0 M s (z ++ List.replicate 80 (x, y))) (ht : RdE w0 M t z) (hb : z.length ≤ 1000) (h : ∀ M', Mem.le M M' → R (.bool true) M') :
    C PP w0 Id.thicketbook_Intactapi_Entry #[SV.v s, SV.v t, .agg #[.int .i64 x, .int .i64 y]] R M := by
  apply thicketbook_Intactapi_Entry.go
  intro pts H
  unfold thicketbook_Intactapi_Entry.T
  have hn := hs.len
  have hn2 := ht.len
  have hc := hs.cap
  rw [List.length_append, List.length_replicate] at hn
  refine boxE' (Holds.self (P := emp) ⟨[], rfl, Fit.nil (Mem.le_refl M)⟩) x y fun b1 F1 M1 l1 h1 hb1 => ?_
  have lm := Mem.le_trans l1 h1.fr
  rw [w64_in (by omega), bs_bne, if_pos (by omega)]
  refine ⟨⟨by omega, by omega, by omega⟩, ?_⟩
  have hcut := (hs.le lm).cut (lo := 0) (hi := t.n) (by omega) (by rw [List.length_append]; omega)
  rw [List.drop_zero, hn2, List.take_left] at hcut
  rw [← hn2] at hcut
  refine SameE_ok (s := s.cut 0 t.n) hcut (ht.le lm) (by omega) ?_
  rw [shB_v, decide_eq_true rfl, Bool.not_true, bs_false, H.J1]
  unfold thicketbook_Intactapi_Entry.J1.T
  have key : ∀ (k j : Nat), j ≤ 80 → 80 < j + k → thicketbook_Intactapi_Entry.L2 pts k s ⟨b1, 0, none⟩ ((t.n + j : Nat) : Int) M1 := by
    intro k
    induction k with
    | zero => intro j h1 h2; omega
    | succ k ih =>
      intro j hj hk
      rw [H.L2]
      unfold thicketbook_Intactapi_Entry.L2.T
      rw [bs_decide]
      split
      · have hj80 : j < 80 := by omega
        refine rdE hs lm (t.n + j) rfl (x := (x, y)) (by
          rw [List.getElem?_append_right (by omega), show t.n + j - z.length = j from by omega]; exact List.getElem?_replicate_of_lt hj80) ?_
        rw [(hb1 _ h1.fr).2.2]
        simp only [go_sem, neE, beq_self_eq_true, Bool.and_self, Bool.not_true, bs_false]
        rw [i64_succ (by omega)]
        exact ih (j + 1) (by omega) (by omega)
      · exact h M1 lm
  exact ⟨81, key 81 0 (by omega) (by omega)⟩

theorem tmod_in {x k : Int} (hx : In64 x) : In64 (Int.tmod x k) := by
  unfold In64 at *
  have h1 : (Int.tmod x k).natAbs ≤ x.natAbs := by rw [Int.natAbs_tmod]; exact Nat.mod_le _ _
  rcases Int.le_total 0 x with h0 | h0
  · have := Int.tmod_nonneg k h0; omega
  · have : Int.tmod x k ≤ 0 := by
      have := Int.tmod_nonneg k (show 0 ≤ -x by omega)
      rw [Int.neg_tmod] at this; omega
    omega

theorem OrderTells_ok (hR : ∀ M', R (.bool true) M') {s : SV} {l : List Ent} (hs : RdE w0 M s l) {a0 a1 b0 b1 n x y : Int} (hn : In64 n) (hx : In64 x) (hy : In64 y) :
    C PP w0 Id.thicketlaw1_OrderTells #[SV.v s, .agg #[.int .i64 a0, .int .i64 a1], .agg #[.int .i64 b0, .int .i64 b1], .int .i64 n, .int .i64 x, .int .i64 y] R M := by
  apply thicketlaw1_OrderTells.go
  unfold thicketlaw1_OrderTells.T
  refine two_box fun x1 x2 M1 l1 e1 e2 r1 r2 r3 r4 o1 o2 => ?_
  refine entries_ok (most := 30) (hs.le l1) (by decide) (Holds.self (P := emp) ⟨[], rfl, Fit.nil (Mem.le_refl M1)⟩) fun M2 s2 z l2 h2 hz => ?_
  simp only [go_sem]
  refine Roomy_ok h2.rdE (by omega) h2 fun M3 s3 l3 h3 => ?_
  rw [shS_sv, ldEb o1 h3.fr, ldEb o2 h3.fr]
  simp only [ob_v, shA_v, shCons_v, shI_v, shNil_v]
  refine same_ok (a := (a0, a1)) (b := (b0, b1)) hn hx hy fun M4 l4 => ?_
  have h4 := h3.le l4
  have q1 : rd w0 M4 ⟨x1, 0, none⟩ = some (.int .i64 a0) := rd_own (o := 0) (o1.le h4.fr)
  have q2 : rd w0 M4 ⟨x2, 1, none⟩ = some (.int .i64 b1) := rd_own (o := 1) (o2.le h4.fr)
  rw [shB_v, bs_true, ldEb o1 h4.fr]
  simp only [ld_one W.c2, add_eq, Nat.zero_add, q1, q2, go_sem]
  refine ⟨trivial, by decide, trivial, by decide, ?_⟩
  refine Within_ok hn (by omega) (by omega) (by omega) (by omega) fun n' hn1 hn2 => ?_
  simp only [go_sem, q1, q2]
  refine ⟨ldEb o1 h4.fr, trivial, trivial, ?_⟩
  refine same_ok (a := (a0, a1)) (b := (a0, b1)) (by unfold In64; omega) (tmod_in hx) (tmod_in hy) fun M5 l5 => ?_
  have h5 := h4.le l5
  rw [shB_v, bs_true]
  have hr3 := h5.rdE
  have hr2 := h5.right.rdE
  have hc3 := hr3.cap
  have hl3 := hr3.len
  have hl2 := hr2.len
  rw [List.length_append, List.length_replicate] at hl3
  refine ⟨⟨by omega, by omega, by omega⟩, ?_⟩
  have hcut := hr3.cut (lo := 0) (hi := s2.n) (by omega) (by rw [List.length_append]; omega)
  rw [List.drop_zero, hl2, List.take_left, ← hl2] at hcut
  refine list_ok (s := s3.cut 0 s2.n) hcut (by omega) fun M6 l6 => ?_
  rw [shB_v, bs_true]
  refine Intact_ok (hr3.le l6) (hr2.le l6) (by omega) fun M7 l7 => ?_
  rw [shB_v, bs_true]
  refine known1_ok fun M8 l8 => ?_
  rw [shB_v]
  exact hR _

end
end Go.Proofs.Ytgnfbodlpolibaa.HL
