/-
  ArU: arenas against the document's: any calls, and chapter 5's runs.
-/
import Derived.Test.YtoeijcmpkfjbfaaArT
set_option linter.unusedVariables false
set_option linter.unusedSimpArgs false
set_option maxRecDepth 100000
namespace Go.Proofs.Ytoeijcmpkfjbfaa.HL
open Go.RowKit (Below)
open Go.Proofs

section
variable {w0 : World} {M F M0 : Mem} {R : Value → Mem → Prop}

/-- Where a thing's numbers lie. -/
theorem RdF.ads {k : Nat} {s : SV} {l : List Int} (h : RdF w0 M0 k s l) (hk : 0 < k) {i : Nat} (hi : i < s.n) : ∃ ad, s.a = some ad ∧ (∀ (t : TypeId) (f : Nat) (x : Int) (M : Mem), cell1 PP t = true → l[i * k + f]? = some x → Mem.le M0 M → (std PP w0).ld t (Addr.add (ad.add ((i : Int).toNat * k)) f) M = some (.int .i64 x)) ∧
    (∀ (t : TypeId) (x : Int) (M : Mem), cell1 PP t = true → l[i * k + 0]? = some x → Mem.le M0 M → (std PP w0).ld t (ad.add ((i : Int).toNat * k)) M = some (.int .i64 x)) := by
  obtain ⟨x0, ex0, _⟩ := h.get (f := 0) hi hk
  obtain ⟨ad, ead, _⟩ := h.cell _ _ ex0
  refine ⟨ad, ead, fun t f x M ht hx hl => ?_, fun t x M ht hx hl => ?_⟩
  · obtain ⟨a, ea, hr⟩ := h.cell _ _ hx
    rw [ead] at ea; cases ea
    rw [ld_one ht, Int.toNat_natCast, add_add]; exact hr M hl
  · obtain ⟨a, ea, hr⟩ := h.cell _ _ hx
    rw [ead] at ea; cases ea
    rw [ld_one ht, Int.toNat_natCast]; exact hr M hl

theorem tick_steps {α : AS} (h0 : 0 ≤ α.steps) (h : α.steps ≤ 1000000) : α.tick.steps = α.steps + 1 := by
  show addc α.steps 1 = _
  unfold addc
  rw [if_neg (by omega), if_neg (by omega)]
theorem setI_steps {α : AS} {c f v : Int} : (α.setI c f v).steps = α.steps := by
  unfold AS.setI; split <;> rfl
theorem giveI_steps {α : AS} {c : Int} : (α.giveI c).steps = α.steps := by
  unfold AS.giveI; split <;> rfl
theorem take_steps {α : AS} : α.take.steps = α.steps := by
  unfold AS.take; split
  · rfl
  · split <;> rfl

theorem setI_n {α : AS} {c f v : Int} : (α.setI c f v).n = α.n := by
  unfold AS.setI; split <;> rfl
theorem giveI_n {α : AS} {c : Int} : (α.giveI c).n = α.n := by
  unfold AS.giveI; split <;> rfl
theorem take_n {α : AS} : α.take.n = α.n := by
  unfold AS.take; split
  · rfl
  · split <;> rfl

theorem Asteps {P : Asn} {a : Nat} {α : AS} (h : Holds w0 F M (star P (arenaA a α))) : 0 ≤ α.steps := by
  obtain ⟨F', hB, _, _⟩ := h.last
  exact hB.inv.steps.1

set_option maxHeartbeats 1000000 in
theorem ar_play_ok {cells : Int} {s : SV} {l : List Int} (hs : RdF w0 M 4 s l) (hR : ∀ M', Mem.le M M' → R (.bool true) M') : C PP w0 Id.thicketlaw5_play #[.int .i64 cells, SV.v s] R M := by
  apply thicketlaw5_play.go
  intro pts H
  unfold thicketlaw5_play.T
  refine New_ok fun M1 a hA => ?_
  rw [shP_v]
  refine rNew_ok fun M2 m l2 hB => ?_
  rw [shP_v]
  have hH := hA.beside hB
  have hst : (AS.new (if (if 65536 < cells then 65536 else cells) > 0 then (if 65536 < cells then 65536 else cells) else 0).toNat).steps = 0 := rfl
  generalize AS.new (if (if 65536 < cells then 65536 else cells) > 0 then (if 65536 < cells then 65536 else cells) else 0).toNat = α at hH hst
  clear hA hB
  obtain ⟨F1, hA, _, _⟩ := hH.last
  have r0 := hH.left.ref.2
  obtain ⟨sF, sI, sB, bc, hr⟩ := r0
  have q0 := (ref_rd hr).1
  simp only [go_sem, Option.isNone_some, bs_false]
  refine MeterSteps_ok (K := fun _ _ _ => True) hA fun p hp _ => ?_
  have e1 : p.isNone = false := by cases p with
    | none => exact absurd rfl hp
    | some _ => rfl
  simp only [go_sem, e1, bs_false, q0]
  refine Cells_ok hA ?_
  simp only [go_sem, q0, true_and, bs_bne, if_true]
  rw [H.J1]
  unfold thicketlaw5_play.J1.T
  clear hr q0 hA
  -- the end: each field of each cell
  have six : ∀ (k c0 : Int) (n : Nat) (kk : Nat), (∀ (M' : Mem) (α : AS), Holds w0 M M' (star (refA m α) (arenaA a α)) → α.steps ≤ k + 12 → thicketlaw5_play.L4 pts kk (some ⟨a, 0, none⟩) (some ⟨m, 0, none⟩) (w64 (c0 + 1)) M') → k ≤ 1000 →
      ∀ (f : Int) (M' : Mem) (α : AS), 12 ≤ f + n + 0 → -1 ≤ f → f ≤ 11 → Holds w0 M M' (star (refA m α) (arenaA a α)) → α.steps ≤ k + (f + 1) → thicketlaw5_play.L6 pts kk n (some ⟨a, 0, none⟩) (some ⟨m, 0, none⟩) c0 f M' := by
    intro k c0 n kk hnext hk
    induction n with
    | zero => intro f M' α g1 g2 g3; omega
    | succ n ih =>
      intro f M' α g1 g2 g3 hH hst
      rw [H.L6]
      unfold thicketlaw5_play.L6.T
      rw [bs_decide]
      have h0 := Asteps hH
      split
      · obtain ⟨F1, hA, _, back⟩ := hH.last
        refine Get_ok hA fun M3 hA3 => ?_
        rw [shI_v]
        have hH3 := back M3 _ hA3
        obtain ⟨F2, hB, _, back2⟩ := hH3.aside
        refine rGet_ok hB (by omega) fun M4 hB4 => ?_
        rw [shI_v, bs_bne, if_pos rfl]
        have hH4 := back2 M4 _ hB4
        rw [w64_in (by omega)]
        exact ih (f + 1) M4 _ (by omega) (by omega) (by omega) hH4 (by rw [tick_steps h0 (by omega)]; omega)
      · exact hnext M' α hH (by omega)
  have four : ∀ (n : Nat) (c : Int) (M' : Mem) (α : AS), 12 < c + n → -1 ≤ c → c ≤ 12 → Holds w0 M M' (star (refA m α) (arenaA a α)) → α.steps ≤ 120 + 12 * (c + 1) → thicketlaw5_play.L4 pts n (some ⟨a, 0, none⟩) (some ⟨m, 0, none⟩) c M' := by
    intro n
    induction n with
    | zero => intro c M' α g1 g2 g3; omega
    | succ n ih =>
      intro c M' α g1 g2 g3 hH hst
      rw [H.L4]
      unfold thicketlaw5_play.L4.T
      rw [bs_decide]
      split
      · refine ⟨13, six (120 + 12 * (c + 1)) c 13 n (fun M' α h1 h2 => ?_) (by omega) (-1) M' α (by omega) (by omega) (by omega) hH (by omega)⟩
        rw [w64_in (by omega)]
        exact ih (c + 1) M' α (by omega) (by omega) (by omega) h1 (by omega)
      · exact hR M' hH.fr
  have two : ∀ (M' : Mem) (α : AS), Holds w0 M M' (star (refA m α) (arenaA a α)) → α.steps ≤ 120 → thicketlaw5_play.J2 pts (some ⟨a, 0, none⟩) (some ⟨m, 0, none⟩) M' := by
    intro M' α hH hst
    rw [H.J2]
    unfold thicketlaw5_play.J2.T
    exact ⟨14, four 14 (-1) M' α (by omega) (by omega) (by omega) hH (by omega)⟩
  -- the calls
  have key : ∀ (k i : Nat) (M' : Mem) (α : AS), 120 < i + k → i ≤ 120 → Holds w0 M M' (star (refA m α) (arenaA a α)) → α.steps ≤ i → thicketlaw5_play.L3 pts k s (some ⟨a, 0, none⟩) (some ⟨m, 0, none⟩) (i : Int) M' := by
    intro k
    induction k with
    | zero => intro i M' α g1 g2; omega
    | succ k ih =>
      intro i M' α g1 g2 hH hst
      rw [H.L3]
      unfold thicketlaw5_play.L3.T
      rw [bs_decide]
      split
      · rename_i hlt
        rw [bs_decide]
        split
        · have hi : i < s.n := by omega
          have eight : ∀ (c : Int) (M' : Mem) (α : AS), Holds w0 M M' (star (refA m α) (arenaA a α)) → α.steps ≤ i + 1 → thicketlaw5_play.J8 pts k s (some ⟨a, 0, none⟩) (some ⟨m, 0, none⟩) (i : Int) c true M' := by
            intro c M' α hH hst
            rw [H.J8]
            unfold thicketlaw5_play.J8.T
            simp only [Bool.not_true, bs_false]
            obtain ⟨F1, hA, _, _⟩ := hH.last
            have hB := hH.left
            refine Len_ok hA ?_
            rw [shI_v]
            refine rLen_ok hB ?_
            rw [shI_v, bs_bne, if_pos rfl]
            refine Live_ok hA ?_
            rw [shB_v]
            refine rLive_ok hB ?_
            obtain ⟨sF, sI, sB, bc, hr⟩ := hB.ref.2
            have q4 := (ref_rd hr).2.2.2.2
            have q4' : rd w0 M' ⟨m, 3 + 1, none⟩ = some (.int .i64 α.steps) := q4
            simp only [go_sem, add_eq, Nat.zero_add, q4, beq_self_eq_true, Bool.not_true, bs_false]
            refine MeterSteps_ok (K := fun _ _ _ => True) hA fun p _ hpp => ?_
            simp only [go_sem, q4', true_and]
            refine hpp.mono fun v M5 hv => ?_
            obtain ⟨rfl, rfl⟩ := hv
            simp only [go_sem, q4', true_and, bs_bne, if_true]
            rw [w64_in (by omega)]
            exact ih (i + 1) _ α (by omega) (by omega) hH (by omega)
          have seven : ∀ c f v : Int, thicketlaw5_play.J7 pts k s (some ⟨a, 0, none⟩) (some ⟨m, 0, none⟩) (i : Int) c f v M' := by
            intro c f v
            rw [H.J7]
            unfold thicketlaw5_play.J7.T
            have h0 := Asteps hH
            have hfr := hH.fr
            have ht := tick_steps (α := α) h0 (by omega)
            obtain ⟨x0, ex0, _⟩ := hs.get (f := 0) hi (by omega)
            refine rdf0L W.c3 hs hfr i rfl hi ex0 ?_
            obtain ⟨F1, hA, _, back⟩ := hH.last
            rw [bs_beq]
            split
            · refine Give_ok hA fun M3 hA3 => ?_
              rw [shB_v]
              have hH3 := back M3 _ hA3
              obtain ⟨F2, hB, _, back2⟩ := hH3.aside
              refine rGive_ok hB (by omega) fun M4 hB4 => ?_
              simp only [go_sem, beq_self_eq_true]
              exact eight c M4 _ (back2 M4 _ hB4) (by rw [tick_steps (by rw [giveI_steps]; exact h0) (by rw [giveI_steps]; omega), giveI_steps]; omega)
            · have nine : ∀ b, thicketlaw5_play.J9 pts k s (some ⟨a, 0, none⟩) (some ⟨m, 0, none⟩) (i : Int) c f v x0 b M' := by
                intro b
                rw [H.J9]
                unfold thicketlaw5_play.J9.T
                rw [bs_b]
                refine ⟨fun _ => ?_, fun _ => ?_⟩
                · refine Set_ok hA fun M3 hA3 => ?_
                  rw [shB_v]
                  have hH3 := back M3 _ hA3
                  obtain ⟨F2, hB, _, back2⟩ := hH3.aside
                  refine rSet_ok hB (by omega) fun M4 hB4 => ?_
                  simp only [go_sem, beq_self_eq_true]
                  exact eight c M4 _ (back2 M4 _ hB4) (by rw [tick_steps (by rw [setI_steps]; exact h0) (by rw [setI_steps]; omega), setI_steps]; omega)
                · have ten : ∀ b, thicketlaw5_play.J10 pts k s (some ⟨a, 0, none⟩) (some ⟨m, 0, none⟩) (i : Int) c f x0 b M' := by
                    intro b
                    rw [H.J10]
                    unfold thicketlaw5_play.J10.T
                    rw [bs_b]
                    refine ⟨fun _ => ?_, fun _ => ?_⟩
                    · refine Get_ok hA fun M3 hA3 => ?_
                      rw [shI_v]
                      have hH3 := back M3 _ hA3
                      obtain ⟨F2, hB, _, back2⟩ := hH3.aside
                      refine rGet_ok hB (by omega) fun M4 hB4 => ?_
                      simp only [go_sem, beq_self_eq_true]
                      exact eight c M4 _ (back2 M4 _ hB4) (by rw [ht]; omega)
                    · rw [bs_beq]
                      split
                      · refine Cell_ok hA fun M3 hA3 => ?_
                        rw [shI_v]
                        have hH3 := back M3 _ hA3
                        obtain ⟨F2, hB, _, back2⟩ := hH3.aside
                        refine rCell_ok hB (by omega) fun M4 hB4 => ?_
                        simp only [go_sem, beq_self_eq_true]
                        exact eight c M4 _ (back2 M4 _ hB4) (by rw [ht]; omega)
                      · refine Take_ok hA fun M3 hA3 => ?_
                        have hH3 := back M3 _ hA3
                        obtain ⟨F2, hB, _, back2⟩ := hH3.aside
                        simp only [go_sem]
                        refine rTake_ok hB (by omega) fun M4 hB4 => ?_
                        simp only [go_sem, beq_self_eq_true, bs_true]
                        exact eight c M4 _ (back2 M4 _ hB4) (by rw [tick_steps (by rw [take_steps]; exact h0) (by rw [take_steps]; omega), take_steps]; omega)
                  rw [bs_beq]
                  split <;> exact ten _
              rw [bs_beq]
              split <;> exact nine _
          rw [H.J5]
          unfold thicketlaw5_play.J5.T
          obtain ⟨x1, ex1, _⟩ := hs.get (f := 1) hi (by omega)
          obtain ⟨x2, ex2, _⟩ := hs.get (f := 2) hi (by omega)
          obtain ⟨x3, ex3, _⟩ := hs.get (f := 3) hi (by omega)
          obtain ⟨ad, ead, hl, _⟩ := hs.ads (by omega) hi
          have hfr := hH.fr
          rw [ead]
          simp only [nc_v]
          rw [hl 3 1 x1 M' W.c3 ex1 hfr, hl 3 2 x2 M' W.c3 ex2 hfr, hl 2 3 x3 M' W.c2 ex3 hfr]
          simp only [ob_v, shI_v]
          refine ⟨⟨by omega, by omega⟩, ⟨by omega, by omega⟩, ⟨by omega, by omega⟩, trivial, trivial, trivial, trivial, by omega, ?_⟩
          rw [bs_bne]
          split
          · exact seven x1 x2 _
          · exact ⟨trivial, by omega, seven x1 x2 _⟩
        · exact two M' α hH (by omega)
      · exact two M' α hH (by omega)
  exact ⟨121, key 121 0 M2 α (by omega) (by omega) hH (by omega)⟩
end
end Go.Proofs.Ytoeijcmpkfjbfaa.HL
