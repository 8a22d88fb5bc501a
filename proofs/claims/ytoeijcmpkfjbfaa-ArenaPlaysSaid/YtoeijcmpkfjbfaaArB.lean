/-
  ArB: the laws on arenas that need no second arena.
-/
import Derived.Test.YtoeijcmpkfjbfaaArA
import Derived.Test.YtoeijcmpkfjbfaaBkA
set_option linter.unusedVariables false
set_option linter.unusedSimpArgs false
set_option maxRecDepth 100000
namespace Go.Proofs.Ytoeijcmpkfjbfaa.HL
open Go.RowKit (Below)
open Go.Proofs

section
variable {w0 : World} {M M0 F : Mem}

theorem known5_ok {R : Value → Mem → Prop} (h : ∀ M', Mem.le M M' → R (.bool true) M') : C PP w0 Id.thicketlaw5_known #[] R M := by
  apply thicketlaw5_known.go
  intro pts H
  unfold thicketlaw5_known.T
  refine New_ok fun M1 a h1 => ?_
  simp only [go_sem, Option.isNone_some, bs_false]
  refine MeterSteps_ok (K := fun _ _ _ => True) h1 fun p hp _ => ?_
  have e1 : p.isNone = false := by cases p with
    | none => exact absurd rfl hp
    | some _ => rfl
  simp only [go_sem, e1, bs_false]
  rw [H.J1]
  unfold thicketlaw5_known.J1.T
  refine Take_ok h1 fun M2 h2 => ?_
  simp only [go_sem]
  refine Take_ok h2 fun M3 h3 => ?_
  simp only [go_sem]
  refine Take_ok h3 fun M4 h4 => ?_
  simp only [go_sem]
  refine Get_ok h4 fun M5 h5 => ?_
  simp only [go_sem, bs_beq]
  rw [if_pos (by decide), bs_t (by decide), if_pos (by decide), bs_t (by decide), if_pos (by decide), bs_t (by decide), if_pos (by decide)]
  refine Get_ok h5 fun M6 h6 => ?_
  simp only [go_sem, bs_beq]
  rw [if_pos (by decide)]
  refine Give_ok h6 fun M7 h7 => ?_
  simp only [go_sem]
  rw [bs_t (by decide)]
  refine MeterSteps_ok (K := fun _ _ _ => True) h7 fun p _ hp => ?_
  simp only [go_sem]
  refine hp.mono fun v M' hv => ?_
  obtain ⟨rfl, rfl⟩ := hv
  simp only [go_sem, bs_beq]
  rw [if_pos (by decide)]
  refine Len_ok h7 ?_
  simp only [go_sem]
  exact h _ h7.fr

theorem ar_tells {R : Value → Mem → Prop} (hR : ∀ M, R (.bool true) M) {cells : Int} (hc : In64 cells) {s : SV} {l : List Int} (hs : RdI w0 M .i64 s l) : C PP w0 Id.thicketlaw5_ArenaTells #[.int .i64 cells, SV.v s] R M := by
  apply thicketlaw5_ArenaTells.go
  intro pts H
  unfold thicketlaw5_ArenaTells.T
  refine Within_ok hc (by omega) (by omega) (by omega) (by omega) fun n hn1 hn2 => ?_
  obtain ⟨n, rfl⟩ : ∃ k : Nat, n = (k : Int) := ⟨n.toNat, by omega⟩
  simp only [go_sem]
  refine New_ok fun M1 a h1 => ?_
  rw [show (if (if (65536 : Int) < (n : Int) then 65536 else (n : Int)) > 0 then (if (65536 : Int) < (n : Int) then 65536 else (n : Int)) else 0).toNat = n from by
    rw [if_neg (show ¬ ((65536 : Int) < (n : Int)) by omega), if_pos (by omega)]; omega] at h1
  simp only [go_sem, Option.isNone_some, bs_false]
  refine MeterSteps_ok (K := fun _ _ _ => True) h1 fun p hp _ => ?_
  have e1 : p.isNone = false := by cases p with
    | none => exact absurd rfl hp
    | some _ => rfl
  simp only [go_sem, e1, bs_false]
  rw [H.J1]
  unfold thicketlaw5_ArenaTells.J1.T
  refine Take_ok h1 fun M2 h2 => ?_
  have hnx : (AS.new n).next = some 0 := by unfold AS.next AS.new; simp only [List.getLast?_nil]; rw [if_pos (by omega)]
  have hni : (AS.new n).nextI = 0 := by unfold AS.nextI; rw [hnx]; rfl
  rw [hni, hnx]
  simp only [go_sem, Option.isSome_some, Bool.not_true, bs_false]
  refine MeterSteps_ok (K := fun _ _ _ => True) h2 fun p _ hp => ?_
  simp only [go_sem]
  refine hp.mono fun v M' hv => ?_
  obtain ⟨rfl, rfl⟩ := hv
  simp only [go_sem]
  have hend : ∀ M, (std PP w0).call Id.thicketlaw5_known #[] (fun v38 M39 => shB v38 fun b40 => R (.bool b40) M39) M := fun M => by
    refine known5_ok fun M' _ => ?_
    simp only [go_sem]
    exact hR _
  have key : ∀ (k i : Nat) (α : AS) (st : Int) (M' : Mem), 30 < i + k → i ≤ 30 → Holds w0 M M' (arenaA a α) → α.n = n → α.liveI 0 = true → st = α.steps → α.steps ≤ 1 + 3 * i → thicketlaw5_ArenaTells.L2 pts k s (n : Int) (some ⟨a, 0, none⟩) 0 st (i : Int) M' := by
    intro k
    induction k with
    | zero => intro i α st M' g1 g2; omega
    | succ k ih =>
      intro i α st M' g1 g2 hA hαn hlv hst hsb
      rw [H.L2]
      unfold thicketlaw5_ArenaTells.L2.T
      simp only [bs_decide]
      have hsl := hs.len
      have hst0 := hA.inv.steps.1
      split
      · split
        · rw [H.J3]
          unfold thicketlaw5_ArenaTells.J3.T
          have hi : i < l.length := by omega
          have ex := List.getElem?_eq_getElem hi
          generalize l[i] = x at ex
          have hmod : ∃ f : Nat, Int.tmod (i : Int) 10 = (f : Int) ∧ f < 10 := ⟨i % 10, by rw [Int.tmod_eq_emod_of_nonneg (by omega)]; omega, Nat.mod_lt _ (by decide)⟩
          obtain ⟨f, hf, hf10⟩ := hmod
          rw [hf]
          refine ⟨rfl, by omega, ?_⟩
          have main : ∀ want : Int, want = (if x < 0 ∨ (n : Int) ≤ x then -1 else x) → thicketlaw5_ArenaTells.J4 pts k s (n : Int) (some ⟨a, 0, none⟩) 0 st (i : Int) (f : Int) want M' := by
            intro want hw
            rw [H.J4]
            unfold thicketlaw5_ArenaTells.J4.T
            simp only [go_sem, bs_not, bs_bne]
            have hfr := hA.fr
            refine rdy hs hfr i rfl ex ?_
            refine Set_ok hA fun M2 hA2 => ?_
            have hhas : α.hasI 0 (f : Int) = true := by
              unfold AS.hasI
              rw [hlv, decide_eq_true (by omega), decide_eq_true (by omega)]; rfl
            rw [hhas]
            simp only [go_sem, bs_true]
            have hset : α.setI 0 (f : Int) x = α.put 0 f x := by unfold AS.setI; rw [if_pos hhas]; rfl
            rw [hset] at hA2
            have hlv2 : (α.put 0 f x).tick.liveI 0 = true := hlv
            obtain ⟨ad, ead, hrd⟩ := hs.at hi
            have hx2 : l[i] = x := by rw [List.getElem?_eq_getElem hi] at ex; exact Option.some.inj ex
            rw [hx2] at hrd
            rw [ead]
            simp only [nc_v, Int.toNat_natCast, Nat.mul_one]
            have hr2 := hrd M2 hA2.fr
            simp only [hr2, ob_v, shI_v]
            refine ⟨by omega, ?_⟩
            refine Get_ok hA2 fun M3 hA3 => ?_
            have hget : (α.put 0 f x).tick.getI 0 (f : Int) = x := by
              unfold AS.getI
              have : (α.put 0 f x).tick.hasI 0 (f : Int) = true := hhas
              rw [if_pos this]
              show (if (0 : Int).toNat = 0 ∧ (f : Int).toNat = f then x else _) = x
              rw [if_pos ⟨rfl, Int.toNat_natCast f⟩]
            rw [hget]
            have hr3 := hrd M3 hA3.fr
            simp only [go_sem, hr3]
            rw [if_pos (by trivial)]
            refine ⟨trivial, ?_⟩
            refine Cell_ok hA3 fun M4 hA4 => ?_
            have hcell : (α.put 0 f x).tick.tick.cellI 0 (f : Int) = want := by
              unfold AS.cellI
              have : (α.put 0 f x).tick.tick.getI 0 (f : Int) = x := hget
              rw [this, hw, ← hαn]; rfl
            rw [hcell]
            simp only [go_sem]
            rw [if_pos (by trivial), H.J5]
            unfold thicketlaw5_ArenaTells.J5.T
            have hsteps : (α.put 0 f x).tick.tick.tick.steps = st + 3 := by
              show addc (addc (addc α.steps 1) 1) 1 = _
              unfold addc
              rw [if_neg (by omega), if_neg (by omega), if_neg (by omega), if_neg (by omega), if_neg (by omega), if_neg (by omega)]; omega
            have hw3 : w64 (st + 3) = st + 3 := w64_in (by omega)
            refine MeterSteps_ok (K := fun _ _ _ => True) hA4 fun p _ hp => ?_
            simp only [go_sem, hw3]
            refine hp.mono fun v M' hv => ?_
            obtain ⟨rfl, rfl⟩ := hv
            simp only [go_sem, hsteps, bs_bne]
            rw [if_pos (by trivial)]
            refine Live_ok hA4 ?_
            have hlv4 : (α.put 0 f x).tick.tick.tick.liveI 0 = true := hlv
            simp only [go_sem, hlv4, Bool.not_true, bs_false]
            refine MeterSteps_ok (K := fun _ _ _ => True) hA4 fun p _ hp => ?_
            simp only [go_sem]
            refine hp.mono fun v M' hv => ?_
            obtain ⟨rfl, rfl⟩ := hv
            simp only [go_sem, hsteps, bs_bne]
            rw [if_pos (by trivial), w64_in (by omega)]
            exact ih (i + 1) _ (st + 3) _ (by omega) (by omega) hA4 hαn hlv4 hsteps.symm (by rw [hsteps]; omega)
          simp only [go_sem, bs_decide]
          refine rdy hs hA.fr i rfl ex ?_
          split
          · refine rdy hs hA.fr i rfl ex ?_
            split
            · refine rdy hs hA.fr i rfl ex ?_
              exact main x (by rw [if_neg (by omega)])
            · exact main (-1) (by rw [if_pos (by omega)])
          · exact main (-1) (by rw [if_pos (by omega)])
        · exact hend _
      · exact hend _
  have hinv := h2.inv
  exact ⟨31, key 31 0 _ _ _ (by omega) (by omega) h2 (by
    have := (AS.next_some h1.inv hnx).2.2
    show ((AS.new n).take).n = n
    rw [this]; rfl) (by
    have := (AS.next_some h1.inv hnx).2.2
    show (decide ((0 : Int) ≤ 0) && ((AS.new n).take).live 0) = true
    rw [this]; rfl) rfl (by
    have := (AS.next_some h1.inv hnx).2.2
    show addc ((AS.new n).take).steps 1 ≤ _
    rw [this]; exact (by decide : addc 0 1 ≤ 1 + 3 * ((0 : Nat) : Int)))⟩

end
end Go.Proofs.Ytoeijcmpkfjbfaa.HL
