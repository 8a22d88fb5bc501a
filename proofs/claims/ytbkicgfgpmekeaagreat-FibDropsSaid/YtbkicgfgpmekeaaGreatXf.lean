import Derived.Test.YtbkicgfgpmekeaaGreatXe
/-
  WdK: the laws on what is dropped, and on given numbers.
-/
set_option linter.unusedVariables false
set_option linter.unusedSimpArgs false
set_option maxRecDepth 100000
namespace Go.Proofs.YtbkicgfgpmekeaaGreat.HL
open Go.RowKit (Below)
open Go.Proofs

section
variable {w0 : World} {M M0 F : Mem} {R : Value → Mem → Prop} {w a : Nat} {sv : Nat → SV} {ω : WS}

theorem hasN {T : Nat} {t : Nat → HT} (hW : Holds w0 F M (worldA w ω)) (hG : Good T ω t) (hT : T ≤ 100000) {h : Nat} (hh : h < 2) : ∃ s, rd w0 M ⟨w, 3 + h, none⟩ = some (SV.v s) ∧ ((s.n : Nat) : Int) = (((ω.has h).length : Nat) : Int) ∧ RdF w0 M 3 s (flatH (ω.has h)) := by
  obtain ⟨a, sv, hB⟩ := hW.wopen
  have hs := hG.small hB.winv hh
  have := hB.whas hh (hG.ok hB.winv (by omega) hh) (by omega)
  exact ⟨sv h, hB.wseen.s h hh, by rw [this.2], this.1⟩
theorem rootN (hW : Holds w0 F M (worldA w ω)) {h : Nat} (hh : h < 2) : rd w0 M ⟨w, 1 + h, none⟩ = some (.int .i64 (ω.r h)) := by
  obtain ⟨a, sv, hB⟩ := hW.wopen
  exact hB.wseen.r h hh
theorem newIs {P : Asn} (h : Holds w0 F M P) {t e : TypeId} {z : Value} {n : Nat} {parts : List (Nat × Value)} {l : List Int} (ht : PP.underlying t = some (.slice e)) (he : ElemOk PP e z 1) (h24 : n ≤ 1000000)
    (hc : Instr.fill (fun k => some (k * 1, 1)) ((Array.range (n * 1)).map (z.cells[· % z.cells.size]!)) parts = some (l.map (Value.int .i64)).toArray) (hn : l.length = n) (hl : ∀ x ∈ l, In64 x) {K : SV → Mem → Prop}
    (hK : ∀ M' s' F', Mem.le F F' → Mem.le M M' → Holds w0 F' M' P → RdI w0 F' .i64 s' l → K s' M') : (std PP w0).bsl t n parts (fun v M' => shS v fun s => K s M') M := by
  refine bsl_ints (Mem.le_refl M) ht he (by omega) hc hn fun M1 o l1 _ h1 => ?_
  rw [shS_sv]
  obtain ⟨F', hle, h2, h3⟩ := (h.newSl l1 h1).freeze (wf_all hl) (by omega)
  exact hK M1 o F' hle l1 h2 h3


end
end Go.Proofs.YtbkicgfgpmekeaaGreat.HL

/-
  WdR: calls of any kind, one behind the other; the first two laws.
-/
set_option linter.unusedVariables false
set_option linter.unusedSimpArgs false
set_option maxRecDepth 100000
namespace Go.Proofs.YtbkicgfgpmekeaaGreat.HL
open Go.RowKit (Below)
open Go.Proofs

section
variable {w0 : World} {M M0 F : Mem} {R : Value → Mem → Prop} {w a : Nat} {sv : Nat → SV} {ω : WS}

theorem wdo_ok {T : Nat} {t : Nat → HT} (hW : Holds w0 F M (worldA w ω)) (hG : Good T ω t) (hT : T ≤ 90000) {x0 x1 x2 x3 : Int} (h0 : In64 x0) (h1 : In64 x1) (h2 : In64 x2) (h3 : In64 x3)
    (hR : ∀ M' ω' t', Holds w0 F M' (worldA w ω') → Good (T + 1) ω' t' → ω'.α.n = ω.α.n → R (.bool true) M') :
    C PP w0 Id.thicketlaw12_world_do #[.pointer (some ⟨w, 0, none⟩), .agg #[.int .i64 x0, .int .i64 x1, .int .i64 x2, .int .i64 x3]] R M := by
  apply thicketlaw12_world_do.go
  intro pts H
  unfold thicketlaw12_world_do.T
  intro b hb hw
  have hN := hW.new hb hw [.int .i64 x0, .int .i64 x1, .int .i64 x2, .int .i64 x3] 44
  obtain ⟨F1, hle1, hown1, hW1⟩ := Holds.freeze1 hN
  generalize M.set b (.row [.int .i64 x0, .int .i64 x1, .int .i64 x2, .int .i64 x3] 44) = M1 at hW1 ⊢
  have y0 : ∀ M', Mem.le F1 M' → rd w0 M' ⟨b, 0, none⟩ = some (.int .i64 x0) := fun M' hl => by rw [rd_own (hown1.le hl)]; rfl
  have y1 : ∀ M', Mem.le F1 M' → rd w0 M' ⟨b, 1, none⟩ = some (.int .i64 x1) := fun M' hl => by rw [rd_own (hown1.le hl)]; rfl
  have y2 : ∀ M', Mem.le F1 M' → rd w0 M' ⟨b, 2, none⟩ = some (.int .i64 x2) := fun M' hl => by rw [rd_own (hown1.le hl)]; rfl
  have y3 : ∀ M', Mem.le F1 M' → rd w0 M' ⟨b, 3, none⟩ = some (.int .i64 x3) := fun M' hl => by rw [rd_own (hown1.le hl)]; rfl
  simp only [go_sem, add_eq, Nat.zero_add, y1 _ hW1.fr]
  refine WithinE_ok h1 (by omega) (by omega) (by omega) (by omega) ?_
  obtain ⟨g1, g2⟩ := withinI_in (n := x1) (lo := 0) (hi := 1) (by omega)
  obtain ⟨h, hh⟩ : ∃ h : Nat, withinI x1 0 1 = (h : Int) := ⟨(withinI x1 0 1).toNat, by omega⟩
  rw [hh] at g1 g2 ⊢
  have hh2 : h < 2 := by omega
  simp only [go_sem, add_eq, Nat.zero_add, y2 _ hW1.fr, y3 _ hW1.fr]
  have hR' : ∀ M' ω' t', Holds w0 F1 M' (worldA w ω') → Good (T + 1) ω' t' → ω'.α.n = ω.α.n → R (.bool true) M' := fun M' ω' t' g1 g2 g3 => hR M' ω' t' (g1.le_frame hle1) g2 g3
  have j3 : ∀ (key tk : Int) (tb : Bool), In64 key → thicketlaw12_world_do.J3 pts (some ⟨w, 0, none⟩) ⟨b, 0, none⟩ (h : Int) key tk tb M1 := by
    intro key tk tb hkey
    rw [H.J3]
    unfold thicketlaw12_world_do.J3.T
    simp only [go_sem, add_eq, Nat.zero_add, y2 _ hW1.fr]
    cases tb with
    | true =>
      rw [bs_true]
      refine wfall_ok hW1 hG (by omega) hh2 h2 hkey fun M2 ω' t' g1 g2 g3 _ _ => ?_
      simp only [go_sem]
      exact hR' M2 ω' t' g1 g2 g3
    | false =>
      rw [bs_false, bs_beq]
      split
      · refine wcut_ok hW1 hG (by omega) hh2 h2 fun M2 ω' t' g1 g2 g3 _ _ => ?_
        simp only [go_sem]
        exact hR' M2 ω' t' g1 g2 g3
      · rw [bs_beq]
        split
        · refine wmeld_ok hW1 hG (by omega) hh2 fun M2 ω' t' g1 g2 g3 _ _ _ => ?_
          simp only [go_sem]
          exact hR' M2 ω' t' g1 g2 g3
        · rw [bs_beq]
          split
          · refine ⟨trivial, by omega, ?_⟩
            rw [bs_bne]
            split
            · refine wdrop_ok hW1 hG (by omega) hh2 fun M2 ω' t' g1 g2 g3 _ _ => ?_
              simp only [go_sem]
              exact hR' M2 ω' t' g1 g2 g3
            · exact hR' M1 ω t hW1 (hG.more (by omega)) rfl
          · refine wpush_ok hW1 hG (by omega) hh2 hkey fun M2 ω' t' g1 g2 g3 _ => ?_
            simp only [go_sem]
            exact hR' M2 ω' t' g1 g2 g3
  have j2 : ∀ (key tk : Int) (tb : Bool), In64 key → thicketlaw12_world_do.J2 pts (some ⟨w, 0, none⟩) ⟨b, 0, none⟩ (h : Int) key tk tb M1 := by
    intro key tk tb hkey
    rw [H.J2]
    unfold thicketlaw12_world_do.J2.T
    cases tb with
    | true =>
      rw [bs_true]
      refine wpop_ok hW1 hG (by omega) hh2 fun M2 ω' t' g1 g2 g3 _ _ => ?_
      simp only [go_sem]
      exact hR' M2 ω' t' g1 g2 g3
    | false =>
      rw [bs_false, bs_beq]
      split
      · exact j3 key tk _ hkey
      · exact j3 key tk _ hkey
  have j1 : ∀ (key : Int), In64 key → thicketlaw12_world_do.J1 pts (some ⟨w, 0, none⟩) ⟨b, 0, none⟩ (h : Int) key M1 := by
    intro key hkey
    rw [H.J1]
    unfold thicketlaw12_world_do.J1.T
    simp only [go_sem, y0 _ hW1.fr]
    rw [bs_beq]
    split
    · exact j2 key _ _ hkey
    · exact j2 key _ _ hkey
  refine ⟨trivial, by omega, ?_⟩
  rw [bs_bne]
  split
  · exact j1 _ h3
  · refine ⟨trivial, by omega, ?_⟩
    exact j1 _ (tmod_in h3 (by omega) (by omega))

theorem play_ok {n : Nat} (hn : n ≤ 65536) {s : SV} {l : List Int} (hs : RdF w0 M 4 s l) {most : Int} (hm : 0 ≤ most ∧ most ≤ 1000) (hR : ∀ M', Mem.le M M' → R (.bool true) M') : C PP w0 Id.thicketlaw12_play #[.int .i64 (n : Int), SV.v s, .int .i64 most] R M := by
  apply thicketlaw12_play.go
  intro pts H
  unfold thicketlaw12_play.T
  refine fresh_w_ok hn fun M1 w hW1 => ?_
  simp only [go_sem, Option.isNone_some, bs_false]
  have key : ∀ (k i : Nat) (M' : Mem) (ω : WS) (t : Nat → HT), (i : Int) ≤ most → most < (i : Int) + k → Holds w0 M M' (worldA w ω) → Good (3 * i) ω t → thicketlaw12_play.L1 pts k s most (some ⟨w, 0, none⟩) (i : Int) M' := by
    intro k
    induction k with
    | zero => intro i M' ω t h1 h2; omega
    | succ k ih =>
      intro i M' ω t h1 h2 hW hG
      rw [H.L1]
      unfold thicketlaw12_play.L1.T
      rw [bs_decide]
      split
      · rename_i hi
        rw [bs_decide]
        split
        · rename_i hi2
          rw [H.J2]
          unfold thicketlaw12_play.J2.T
          have hin : i < s.n := by omega
          obtain ⟨x0, e0, i0⟩ := hs.get hin (f := 0) (by omega)
          obtain ⟨x1, e1, i1⟩ := hs.get hin (f := 1) (by omega)
          obtain ⟨x2, e2, i2⟩ := hs.get hin (f := 2) (by omega)
          obtain ⟨x3, e3, i3⟩ := hs.get hin (f := 3) (by omega)
          refine rdfA (cs := [x0, x1, x2, x3]) (K := fun v => shA v fun l9 => shCons l9 fun u10 r11 => shI .i64 u10 fun n12 => shCons r11 fun u13 r14 => shI .i64 u13 fun n15 => shCons r14 fun u16 r17 => shI .i64 u16 fun n18 => shCons r17 fun u19 r20 => shI .i64 u19 fun n21 => shNil r20 _) W.g44 hs hW.fr i rfl hin (by simp) (fun f x hx => ?_) ?_
          · match f, hx with
            | 0, hx => simp at hx; subst hx; exact e0
            | 1, hx => simp at hx; subst hx; exact e1
            | 2, hx => simp at hx; subst hx; exact e2
            | 3, hx => simp at hx; subst hx; exact e3
            | f + 4, hx => simp at hx
          simp only [List.map_cons, List.map_nil, shA_v, shCons_v, shI_v, shNil_v]
          refine wdo_ok hW hG (by omega) i0 i1 i2 i3 fun M2 ω2 t2 hW2 hG2 _ => ?_
          simp only [go_sem, Bool.not_true, bs_false]
          refine wright_ok hW2 hG2 (by omega) fun M3 ω3 hW3 hG3 _ _ _ _ => ?_
          simp only [go_sem, Bool.not_true, bs_false]
          rw [w64_in (by omega)]
          exact ih (i + 1) M3 ω3 t2 (by omega) (by omega) hW3 (hG3.more (by omega))
        · exact hR M' hW.fr
      · exact hR M' hW.fr
  exact ⟨most.toNat + 1, key (most.toNat + 1) 0 M1 _ _ (by omega) (by omega) hW1 (good_fresh hn)⟩

theorem lw_plays (hR : ∀ M, R (.bool true) M) {s : SV} {l : List Int} (hs : RdF w0 M 4 s l) : C PP w0 Id.thicketlaw12_FibPlays #[SV.v s] R M := by
  apply thicketlaw12_FibPlays.go
  unfold thicketlaw12_FibPlays.T
  refine play_ok (n := 200) (by omega) hs (by omega) fun M1 l1 => ?_
  simp only [go_sem, bs_true]
  refine known_ok fun M2 l2 => ?_
  simp only [go_sem]
  exact hR M2
theorem lw_full (hR : ∀ M, R (.bool true) M) {size : Int} (hsz : In64 size) {s : SV} {l : List Int} (hs : RdF w0 M 4 s l) : C PP w0 Id.thicketlaw12_FibFull #[.int .i64 size, SV.v s] R M := by
  apply thicketlaw12_FibFull.go
  unfold thicketlaw12_FibFull.T
  refine WithinE_ok hsz (by omega) (by omega) (by omega) (by omega) ?_
  obtain ⟨g1, g2⟩ := withinI_in (n := size) (lo := 0) (hi := 14) (by omega)
  obtain ⟨n, hn⟩ : ∃ n : Nat, withinI size 0 14 = (n : Int) := ⟨(withinI size 0 14).toNat, by omega⟩
  rw [hn] at g1 g2 ⊢
  simp only [go_sem]
  refine play_ok (by omega) hs (by omega) fun M1 l1 => ?_
  simp only [go_sem, bs_true]
  refine known_ok fun M2 l2 => ?_
  simp only [go_sem]
  exact hR M2

end
end Go.Proofs.YtbkicgfgpmekeaaGreat.HL

/-
  WdS: the laws on what is dropped, and on given numbers.
-/
set_option linter.unusedVariables false
set_option linter.unusedSimpArgs false
set_option maxRecDepth 100000
namespace Go.Proofs.YtbkicgfgpmekeaaGreat.HL
open Go.RowKit (Below)
open Go.Proofs

section
variable {w0 : World} {M M0 F : Mem} {R : Value → Mem → Prop} {w a : Nat} {sv : Nat → SV} {ω : WS}

theorem lw_drops (hR : ∀ M, R (.bool true) M) {s : SV} {l : List Int} (hs : RdF w0 M 4 s l) {x : Int} (hx : In64 x) : C PP w0 Id.thicketlaw12_FibDrops #[SV.v s, .int .i64 x] R M := by
  apply thicketlaw12_FibDrops.go
  intro pts H
  unfold thicketlaw12_FibDrops.T
  refine fresh_w_ok (n := 200) (by omega) fun M1 w hW1 => ?_
  simp only [go_sem, Option.isNone_some, bs_false]
  -- the end
  have fin : ∀ (M' : Mem) (ω : WS) (t : Nat → HT) (T : Nat), T ≤ 60 → Holds w0 M M' (worldA w ω) → Good T ω t → thicketlaw12_FibDrops.J1 pts x (some ⟨w, 0, none⟩) M' := by
    intro M' ω t T hT hW hG
    rw [H.J1]
    unfold thicketlaw12_FibDrops.J1.T
    refine WithinE_ok hx (by omega) (by omega) (by omega) (by omega) ?_
    obtain ⟨g1, g2⟩ := withinI_in (n := x) (lo := 0) (hi := 1) (by omega)
    obtain ⟨h, hh⟩ : ∃ h : Nat, withinI x 0 1 = (h : Int) := ⟨(withinI x 0 1).toNat, by omega⟩
    rw [hh] at g1 g2 ⊢
    have hh2 : h < 2 := by omega
    simp only [go_sem]
    refine wdrop_ok hW hG (by omega) hh2 fun M2 ω2 t2 hW2 hG2 n2 x2 s2 => ?_
    simp only [go_sem, bs_true]
    refine wright_ok hW2 hG2 (by omega) fun M3 ω3 hW3 hG3 n3 x3 s3 r3 => ?_
    obtain ⟨s, q3, e3, _⟩ := hasN hW3 hG3 (by omega) hh2
    have l3 : ω3.has h = [] := by rw [s3, s2, upd_same]
    have hh3 : (h : Int) < ((2 : Nat) : Int) := by omega
    simp only [go_sem, bs_true, add_eq, Nat.zero_add, Int.toNat_natCast, Nat.mul_one, g1, hh3, and_self, true_and, q3, e3, l3, bs_beq]
    rw [if_pos (by rfl), show w64 (1 - (h : Int)) = ((1 - h : Nat) : Int) from by rw [w64_in (by omega)]; omega]
    refine wdrop_ok hW3 hG3 (by omega) (by omega) fun M4 ω4 t4 hW4 hG4 n4 x4 s4 => ?_
    obtain ⟨a, sv, hB⟩ := hW4.wopen
    simp only [go_sem, bs_true, add_eq, Nat.zero_add, hB.wseen.p]
    obtain ⟨F', hA, _⟩ := hB.warena
    refine Len_ok hA ?_
    have l4 : ω4.α.len = 0 := by
      rw [hG4.len_h hh2, s4, upd_same, upd_ne _ _ (by omega), l3]; rfl
    simp only [go_sem, l4, bs_beq]
    rw [if_pos (by rfl)]
    refine known_ok fun M5 l5 => ?_
    simp only [go_sem]
    exact hR M5
  have key : ∀ (k i : Nat) (M' : Mem) (ω : WS) (t : Nat → HT), i ≤ 50 → 50 < i + k → Holds w0 M M' (worldA w ω) → Good i ω t → thicketlaw12_FibDrops.L2 pts k s x (some ⟨w, 0, none⟩) (i : Int) M' := by
    intro k
    induction k with
    | zero => intro i M' ω t h1 h2; omega
    | succ k ih =>
      intro i M' ω t h1 h2 hW hG
      rw [H.L2]
      unfold thicketlaw12_FibDrops.L2.T
      rw [bs_decide]
      split
      · rename_i hi
        rw [bs_decide]
        split
        · rename_i hi2
          rw [H.J3]
          unfold thicketlaw12_FibDrops.J3.T
          have hin : i < s.n := by omega
          obtain ⟨x0, e0, i0⟩ := hs.get hin (f := 0) (by omega)
          obtain ⟨x1, e1, i1⟩ := hs.get hin (f := 1) (by omega)
          obtain ⟨x2, e2, i2⟩ := hs.get hin (f := 2) (by omega)
          obtain ⟨x3, e3, i3⟩ := hs.get hin (f := 3) (by omega)
          refine rdfA (cs := [x0, x1, x2, x3]) (K := fun v => shA v fun l9 => shCons l9 fun u10 r11 => shI .i64 u10 fun n12 => shCons r11 fun u13 r14 => shI .i64 u13 fun n15 => shCons r14 fun u16 r17 => shI .i64 u16 fun n18 => shCons r17 fun u19 r20 => shI .i64 u19 fun n21 => shNil r20 _) W.g44 hs hW.fr i rfl hin (by simp) (fun f x hx => ?_) ?_
          · match f, hx with
            | 0, hx => simp at hx; subst hx; exact e0
            | 1, hx => simp at hx; subst hx; exact e1
            | 2, hx => simp at hx; subst hx; exact e2
            | 3, hx => simp at hx; subst hx; exact e3
            | f + 4, hx => simp at hx
          simp only [List.map_cons, List.map_nil, shA_v, shCons_v, shI_v, shNil_v]
          refine wdo_ok hW hG (by omega) i0 i1 i2 i3 fun M2 ω2 t2 hW2 hG2 _ => ?_
          simp only [go_sem, Bool.not_true, bs_false]
          rw [w64_in (by omega)]
          exact ih (i + 1) M2 ω2 t2 (by omega) (by omega) hW2 hG2
        · exact fin M' ω t i (by omega) hW hG
      · exact fin M' ω t i (by omega) hW hG
  exact ⟨51, key 51 0 M1 _ _ (by omega) (by omega) hW1 (good_fresh (by omega))⟩

theorem tmod2 (i : Nat) : Int.tmod (i : Int) 2 = ((i % 2 : Nat) : Int) := by rw [Int.tmod_eq_emod_of_nonneg (by omega)]; omega

theorem lw_numbers (hR : ∀ M, R (.bool true) M) : C PP w0 Id.thicketlaw12_FibNumbers #[] R M := by
  apply thicketlaw12_FibNumbers.go
  intro pts H
  unfold thicketlaw12_FibNumbers.T
  have key : ∀ (k how : Nat) (M : Mem), how ≤ 4 → 4 < how + k → thicketlaw12_FibNumbers.L1 pts k (how : Int) M := by
    intro k
    induction k with
    | zero => intro how M h1 h2; omega
    | succ k ih =>
      intro how M h1 h2
      rw [H.L1]
      unfold thicketlaw12_FibNumbers.L1.T
      rw [bs_decide]
      split
      · refine fresh_w_ok (n := 200) (by omega) fun M1 w hW1 => ?_
        simp only [go_sem, Option.isNone_some, bs_false]
        have hm : how % 2 < 2 := by omega
        have l4 : ∀ (k' i : Nat) (F M' : Mem) (ω : WS) (t : Nat → HT) (T : Nat), i ≤ 40 → 40 < i + k' → T ≤ 200 + 3 * i → Holds w0 F M' (worldA w ω) → Good T ω t → thicketlaw12_FibNumbers.L4 pts k k' (how : Int) (some ⟨w, 0, none⟩) (i : Int) M' := by
          intro k'
          induction k' with
          | zero => intro i F M' ω t T h1 h2; omega
          | succ k' ih' =>
            intro i F M' ω t T h1 h2 hT hW hG
            rw [H.L4]
            unfold thicketlaw12_FibNumbers.L4.T
            rw [bs_decide]
            split
            · simp only [go_sem, tmod2]
              refine ⟨trivial, by decide, ?_⟩
              refine wpop_ok hW hG (by omega) hm fun M2 ω2 t2 hW2 hG2 _ _ _ => ?_
              simp only [go_sem, Bool.not_true, bs_false]
              refine wright_ok hW2 hG2 (by omega) fun M3 ω3 hW3 hG3 _ _ _ _ => ?_
              simp only [go_sem, Bool.not_true, bs_false]
              rw [i64_succ (by omega)]
              exact ih' (i + 1) F M3 ω3 t2 _ (by omega) (by omega) (by omega) hW3 hG3
            · refine wdrop_ok (h := 0) hW hG (by omega) (by omega) fun M2 ω2 t2 hW2 hG2 _ _ s2 => ?_
              simp only [go_sem, Bool.not_true, bs_false]
              refine wdrop_ok (h := 1) hW2 hG2 (by omega) (by omega) fun M3 ω3 t3 hW3 hG3 _ _ s3 => ?_
              obtain ⟨a, sv, hB⟩ := hW3.wopen
              simp only [go_sem, Bool.not_true, bs_false, add_eq, Nat.zero_add, hB.wseen.p]
              obtain ⟨F', hA, _⟩ := hB.warena
              refine Len_ok hA ?_
              have l4 : ω3.α.len = 0 := by
                rw [hG3.len, s3, upd_same, upd_ne _ _ (by omega), s2, upd_same]; rfl
              simp only [go_sem, l4, bs_bne]
              rw [if_pos (by rfl), i64_succ (by omega)]
              exact ih (how + 1) M3 (by omega) (by omega)
        have l2 : ∀ (k' i : Nat) (F M' : Mem) (ω : WS) (t : Nat → HT), i ≤ 40 → 40 < i + k' → Holds w0 F M' (worldA w ω) → Good (3 * i) ω t → thicketlaw12_FibNumbers.L2 pts k k' (how : Int) (some ⟨w, 0, none⟩) (i : Int) M' := by
          intro k'
          induction k' with
          | zero => intro i F M' ω t h1 h2; omega
          | succ k' ih' =>
            intro i F M' ω t h1 h2 hW hG
            rw [H.L2]
            unfold thicketlaw12_FibNumbers.L2.T
            rw [bs_decide]
            split
            · simp only [go_sem, tmod2]
              refine ⟨trivial, by decide, trivial, by decide, ?_⟩
              have hb : In64 (Int.tmod (w64 ((i : Int) * 17)) 40) := tmod_in (w64_range _) (by omega) (by omega)
              refine newIs (n := 4) (l := [(i : Int), w64 (0 - (i : Int)), 5, Int.tmod (w64 ((i : Int) * 17)) 40]) hW Tryz.underlying25 W.e2 (by decide) (by kernel_rfl) rfl (fun x hx => ?_) fun M2 s2 F2 l2 l3 hW2 hs2 => ?_
              · simp only [List.mem_cons, List.not_mem_nil, or_false] at hx
                rcases hx with rfl | rfl | rfl | rfl
                · unfold In64; omega
                · exact w64_range _
                · unfold In64; omega
                · exact hb
              have hlen : s2.n = 4 := hs2.len
              have hget : how < 4 := by omega
              obtain ⟨y, hy⟩ : ∃ y, [(i : Int), w64 (0 - (i : Int)), 5, Int.tmod (w64 ((i : Int) * 17)) 40][how]? = some y := ⟨_, List.getElem?_eq_getElem (by simpa using hget)⟩
              have hyi : In64 y := int_wf (hs2.wf y (List.mem_of_getElem? hy))
              refine rdy hs2 hW2.fr how rfl hy ?_
              refine wpush_ok hW2 hG (by omega) (by omega) hyi fun M3 ω3 t3 hW3 hG3 _ _ => ?_
              simp only [go_sem, Bool.not_true, bs_false]
              refine wright_ok hW3 hG3 (by omega) fun M4 ω4 hW4 hG4 _ _ _ _ => ?_
              simp only [go_sem, Bool.not_true, bs_false]
              rw [i64_succ (by omega)]
              exact ih' (i + 1) F2 M4 ω4 t3 (by omega) (by omega) hW4 (hG4.more (by omega))
            · refine wfall_ok (h := 0) hW hG (by omega) (by omega) (by unfold In64; omega) (by unfold In64; omega) fun M2 ω2 t2 hW2 hG2 _ _ _ => ?_
              simp only [go_sem, Bool.not_true, bs_false]
              refine wright_ok hW2 hG2 (by omega) fun M3 ω3 hW3 hG3 _ _ _ _ => ?_
              simp only [go_sem, Bool.not_true, bs_false]
              refine wcut_ok (h := 1) hW3 hG3 (by omega) (by omega) (by unfold In64; omega) fun M4 ω4 t4 hW4 hG4 _ _ _ => ?_
              simp only [go_sem, Bool.not_true, bs_false]
              refine wright_ok hW4 hG4 (by omega) fun M5 ω5 hW5 hG5 _ _ _ _ => ?_
              simp only [go_sem, Bool.not_true, bs_false, tmod2]
              refine ⟨trivial, by decide, ?_⟩
              refine wmeld_ok hW5 hG5 (by omega) hm fun M6 ω6 t6 hW6 hG6 _ _ _ _ => ?_
              simp only [go_sem, Bool.not_true, bs_false, tmod2]
              refine wright_ok hW6 hG6 (by omega) fun M7 ω7 hW7 hG7 _ _ _ _ => ?_
              simp only [go_sem, Bool.not_true, bs_false, tmod2]
              refine ⟨trivial, by decide, ?_⟩
              refine wcut_ok hW7 hG7 (by omega) hm (by unfold In64; omega) fun M8 ω8 t8 hW8 hG8 _ _ _ => ?_
              simp only [go_sem, Bool.not_true, bs_false, tmod2]
              refine ⟨trivial, by decide, ?_⟩
              refine wfall_ok hW8 hG8 (by omega) hm (by unfold In64; omega) (by unfold In64; omega) fun M9 ω9 t9 hW9 hG9 _ _ _ => ?_
              simp only [go_sem, Bool.not_true, bs_false, tmod2]
              refine wright_ok hW9 hG9 (by omega) fun M10 ω10 hW10 hG10 _ _ _ _ => ?_
              simp only [go_sem, Bool.not_true, bs_false, tmod2]
              rw [H.J3]
              unfold thicketlaw12_FibNumbers.J3.T
              exact ⟨41, l4 41 0 F M10 ω10 _ _ (by omega) (by omega) (by omega) hW10 hG10⟩
        exact ⟨41, l2 41 0 _ M1 _ _ (by omega) (by omega) hW1 (good_fresh (by omega))⟩
      · refine known_ok fun M2 l2 => ?_
        simp only [go_sem]
        exact hR M2
  exact ⟨5, key 5 0 M (by omega) (by omega)⟩

end
end Go.Proofs.YtbkicgfgpmekeaaGreat.HL

