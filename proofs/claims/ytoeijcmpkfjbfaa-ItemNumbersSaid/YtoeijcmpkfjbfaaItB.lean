/-
  ItB: the laws on items that need no list beside them.
-/
import Derived.Test.YtoeijcmpkfjbfaaItA
import Derived.Test.YtoeijcmpkfjbfaaChB
set_option linter.unusedVariables false
set_option linter.unusedSimpArgs false
set_option maxRecDepth 100000
namespace Go.Proofs.Ytoeijcmpkfjbfaa.HL
open Go.RowKit (Below)
open Go.Proofs

section
variable {w0 : World} {M F : Mem} {R : Value → Mem → Prop}

/-- Items 0 to m-1, of these keys and serials. -/
structure Its (α : AS) (m : Nat) (key ser : Nat → Int) : Prop where
  free : α.free = []
  never : α.never = m
  live : ∀ j, j < m → α.live j = true
  key : ∀ j, j < m → α.get j 7 = key j
  ser : ∀ j, j < m → α.get j 8 = ser j
  node : ∀ j, j < m → α.get j 9 = -1
theorem Its.sm {k : Int} {α β : AS} {m : Nat} {key ser : Nat → Int} (h : Its α m key ser) (hs : AS.Sm k α β) : Its β m key ser :=
  ⟨hs.free.trans h.free, hs.never.trans h.never, fun j hj => by rw [hs.live]; exact h.live j hj, fun j hj => by rw [hs.get]; exact h.key j hj, fun j hj => by rw [hs.get]; exact h.ser j hj, fun j hj => by rw [hs.get]; exact h.node j hj⟩
theorem Its.new {α : AS} {m : Nat} {key ser : Nat → Int} (h : Its α m key ser) (hn : m < α.n) {k s : Int} : α.next = some m ∧ Its ((α.take.put m 7 k).put m 8 s) (m + 1) (fun j => if j = m then k else key j) (fun j => if j = m then s else ser j) ∧ ((α.take.put m 7 k).put m 8 s).n = α.n := by
  have hlt : α.never < α.n := by rw [h.never]; exact hn
  obtain ⟨h1, h2, h3⟩ := AS.take_fresh h.free hlt
  rw [h.never] at h1 h3
  have hg : ∀ j f, ((α.take.put m 7 k).put m 8 s).get j f = if j = m then (if f = 8 then s else if f = 7 then k else AS.fresh f) else α.get j f := by
    intro j f
    show (if j = m ∧ f = 8 then s else if j = m ∧ f = 7 then k else α.take.get j f) = _
    rw [h3]
    show (if j = m ∧ f = 8 then s else if j = m ∧ f = 7 then k else if j = m then AS.fresh f else α.get j f) = _
    by_cases e : j = m
    · simp [e]
    · simp [e]
  have hl : ∀ j, ((α.take.put m 7 k).put m 8 s).live j = if j = m then true else α.live j := by
    intro j
    show α.take.live j = _
    rw [h3]; rfl
  refine ⟨h1, ⟨?_, ?_, fun j hj => ?_, fun j hj => ?_, fun j hj => ?_, fun j hj => ?_⟩, ?_⟩
  · show α.take.free = []; rw [h3]; exact h.free
  · show α.take.never = _; rw [h3]
  · rw [hl]; split
    · rfl
    · exact h.live j (by omega)
  · rw [hg]
    by_cases e : j = m
    · simp [e]
    · simp only [if_neg e]; exact h.key j (by omega)
  · rw [hg]
    by_cases e : j = m
    · simp [e]
    · simp only [if_neg e]; exact h.ser j (by omega)
  · rw [hg]
    by_cases e : j = m
    · simp [e, AS.fresh]
    · simp only [if_neg e]; exact h.node j (by omega)
  · show α.take.n = α.n; rw [h3]; rfl
theorem Its.getK {α : AS} {m : Nat} {key ser : Nat → Int} (h : Its α m key ser) {j : Nat} (hj : j < m) : α.getI (j : Int) 7 = key j := (AS.getI_live (f := 7) (h.live j hj) (by omega)).trans (h.key j hj)
theorem Its.getS {α : AS} {m : Nat} {key ser : Nat → Int} (h : Its α m key ser) {j : Nat} (hj : j < m) : α.getI (j : Int) 8 = ser j := (AS.getI_live (f := 8) (h.live j hj) (by omega)).trans (h.ser j hj)
theorem Its.before {α : AS} {m : Nat} {key ser : Nat → Int} (h : Its α m key ser) {i j : Nat} (hi : i < m) (hj : j < m) : α.beforeI (i : Int) (j : Int) = (decide (cmpI (key i) (ser i) (key j) (ser j) < 0) || (cmpI (key i) (ser i) (key j) (ser j) == 0 && decide ((i : Int) < (j : Int)))) := by
  unfold AS.beforeI
  rw [h.getK hi, h.getS hi, h.getK hj, h.getS hj]
theorem Its.nil {n : Nat} : Its (AS.new n) 0 (fun _ => 0) (fun _ => 0) := ⟨rfl, rfl, fun j hj => by omega, fun j hj => by omega, fun j hj => by omega, fun j hj => by omega⟩

theorem known7_ok (h : ∀ M', Mem.le M M' → R (.bool true) M') : C PP w0 Id.thicketlaw7_known #[] R M := by
  apply thicketlaw7_known.go
  unfold thicketlaw7_known.T
  refine New_ok fun M1 a h1 => ?_
  simp only [go_sem, Option.isNone_some, bs_false]
  have i0 : Its (AS.new 2) 0 _ _ := Its.nil
  refine ItNew_ok h1 (fun e => ?_) fun c hc M2 β2 h2 s2 => ?_
  · rw [show (AS.new (if (if (65536 : Int) < 2 then (65536 : Int) else 2) > 0 then (if (65536 : Int) < 2 then (65536 : Int) else 2) else 0).toNat).next = some 0 from rfl] at e; cases e
  have hc0 : c = 0 := by
    rw [show (AS.new (if (if (65536 : Int) < 2 then (65536 : Int) else 2) > 0 then (if (65536 : Int) < 2 then (65536 : Int) else 2) else 0).toNat).next = some 0 from rfl] at hc; injection hc with hc; exact hc.symm
  subst hc0
  obtain ⟨n0, t1, m1⟩ := i0.new (k := 5) (s := 0) (by decide)
  have t1' := t1.sm s2
  have m1' : β2.n = 2 := s2.n.trans m1
  simp only [go_sem]
  obtain ⟨n1, t2, m2⟩ := t1'.new (k := 5) (s := 1) (by rw [m1']; decide)
  refine ItNew_ok h2 (fun e => by rw [n1] at e; cases e) fun c hc M3 β3 h3 s3 => ?_
  rw [n1] at hc
  injection hc with hc
  subst hc
  have t2' := t2.sm s3
  have m2' : β3.n = 2 := (s3.n.trans m2).trans m1'
  simp only [go_sem]
  have n2 : β3.next = none := by
    unfold AS.next
    rw [t2'.free, List.getLast?_nil]
    simp only
    rw [t2'.never, m2', if_neg (by decide)]
  refine ItNew_ok h3 (fun _ M4 h4 => ?_) (fun c hc => by rw [n2] at hc; cases hc)
  have t4 := t2'.sm AS.tick_sm
  simp only [go_sem, Bool.not_false, bs_true]
  refine Entry_ok h4 fun M5 h5 => ?_
  have g0 := t4.getK (j := 0) (by omega)
  have g1 := t4.getS (j := 0) (by omega)
  simp only [go_sem, eqE]
  rw [show β3.tick.getI ((0 : Nat) : Int) 7 = 5 from g0, show β3.tick.getI ((0 : Nat) : Int) 8 = 0 from g1]
  simp only [beq_self_eq_true, Bool.and_self, bs_true]
  have t5 := t4.sm (AS.tick_sm.trans AS.tick_sm)
  refine Before_ok h5 fun M6 h6 => ?_
  rw [(t5.before (i := 0) (j := 0 + 1) (by omega) (by omega)).trans (show _ = true from by decide)]
  simp only [go_sem, bs_true]
  have t6 := t5.sm (((AS.tick_sm.trans AS.tick_sm).trans AS.tick_sm).trans AS.tick_sm)
  refine Before_ok h6 fun M7 h7 => ?_
  rw [(t6.before (i := 0) (j := 0) (by omega) (by omega)).trans (show _ = false from by decide)]
  simp only [go_sem, Bool.not_false, bs_true]
  have t7 := t6.sm (((AS.tick_sm.trans AS.tick_sm).trans AS.tick_sm).trans AS.tick_sm)
  have g7 := t7.getK (j := 0) (by omega)
  have g7' : AS.getI _ ((0 : Nat) : Int) 7 = 5 := g7
  refine Lower_ok h7 (fun _ M8 h8 => ?_) (fun hle => by rw [g7'] at hle; omega)
  simp only [go_sem, Bool.not_false, bs_true]
  have t8 := t7.sm AS.tick_sm
  refine Node_ok h8 fun M9 h9 => ?_
  have hn8 := t8.node 1 (by omega)
  have e8 : AS.getI _ ((0 + 1 : Nat) : Int) ((9 : Nat) : Int) = -1 := (AS.getI_live (f := 9) (t8.live 1 (by omega)) (by omega)).trans hn8
  have hc8 : ∀ β : AS, β.getI ((0 + 1 : Nat) : Int) ((9 : Nat) : Int) = -1 → β.cellI ((0 + 1 : Nat) : Int) 9 = -1 := fun β e => by
    unfold AS.cellI
    have e' : β.getI ((0 + 1 : Nat) : Int) 9 = -1 := e
    rw [e', if_pos (.inl (by decide))]
  rw [hc8 _ e8]
  simp only [go_sem, beq_self_eq_true]
  exact h _ h9.fr

theorem cmpI_anti (a b c d : Int) : (cmpI a b c d < 0 ↔ 0 < cmpI c d a b) ∧ (cmpI a b c d = 0 ↔ a = c ∧ b = d) := by
  unfold cmpI
  by_cases h1 : a < c
  · have h1' : ¬ c < a := by omega
    rw [if_pos h1, if_neg h1', if_pos h1]; omega
  · by_cases h2 : c < a
    · simp only [if_neg h1, if_pos h2]; omega
    · simp only [if_neg h1, if_neg h2]
      by_cases h3 : b < d
      · have h3' : ¬ d < b := by omega
        simp only [if_pos h3, if_neg h3']; omega
      · by_cases h4 : d < b
        · simp only [if_neg h3, if_pos h4]; omega
        · have e1 : a = c := by omega
          have e2 : b = d := by omega
          subst e1; subst e2; simp

theorem it_orders (hR : ∀ M, R (.bool true) M) {s : SV} {l : List Int} (hs : RdF w0 M 2 s l) {at_ : Int} (hat : In64 at_) : C PP w0 Id.thicketlaw7_ItemOrders #[SV.v s, .int .i64 at_] R M := by
  apply thicketlaw7_ItemOrders.go
  intro pts H
  unfold thicketlaw7_ItemOrders.T
  refine New_ok fun M1 a h1 => ?_
  simp only [go_sem, Option.isNone_some, bs_false]
  have hend : ∀ M, (std PP w0).call Id.thicketlaw7_known #[] (fun v38 M39 => shB v38 fun b40 => R (.bool b40) M39) M := fun M => by
    refine known7_ok fun M' _ => ?_
    simp only [go_sem]
    exact hR _
  have wfr : ∀ m, m ≤ 20 → ∀ x ∈ intsN (List.range m), (Lit.int .i64 x).wf = true := fun m hm => intsN_wf (n := 20) (fun x hx => by have := List.mem_range.1 hx; omega) (by omega)
  -- all that are there, compared
  have three : ∀ (m k : Nat) (c6 : SV) (key : Nat → Int), m ≤ 20 → k < m → (∀ j, j < m → In64 (key j)) → key k = -9223372036854775808 → ∀ (f i : Nat) (M' : Mem) (α : AS), m < i + f → i ≤ m → Holds w0 M M' (star (SlA c6 ((intsN (List.range m)).map (Value.int .i64))) (arenaA a α)) → Its α m key (fun j => (j : Int)) →
      thicketlaw7_ItemOrders.L3 pts f (some ⟨a, 0, none⟩) c6 (k : Int) (i : Int) M' := by
    intro m k c6 key hm hk hkey hmin f
    induction f with
    | zero => intro i M' α g1 g2; omega
    | succ f ih =>
      intro i M' α g1 g2 hH hI
      rw [H.L3]
      unfold thicketlaw7_ItemOrders.L3.T
      have hr := hH.rdI (wfr m hm) (by simp [intsN]; omega)
      have hlen := hr.len
      simp only [intsN, List.length_map, List.length_range] at hlen
      have hget : ∀ j, j < m → (intsN (List.range m))[j]? = some (j : Int) := fun j hj => by simp [intsN, hj]
      rw [bs_decide]
      split
      · have hi : i < m := by omega
        refine ⟨m + 1, ?_⟩
        have five : ∀ (f' j : Nat) (M' : Mem) (α : AS), m < j + f' → j ≤ m → Holds w0 M M' (star (SlA c6 ((intsN (List.range m)).map (Value.int .i64))) (arenaA a α)) → Its α m key (fun j => (j : Int)) →
            thicketlaw7_ItemOrders.L5 pts f f' (some ⟨a, 0, none⟩) c6 (k : Int) (i : Int) (j : Int) M' := by
          intro f'
          induction f' with
          | zero => intro j M' α g1 g2; omega
          | succ f' ih' =>
            intro j M' α g3 g4 hH hI
            rw [H.L5]
            unfold thicketlaw7_ItemOrders.L5.T
            have hr := hH.rdI (wfr m hm) (by simp [intsN]; omega)
            simp only [go_sem, bs_decide]
            split
            · have hj : j < m := by omega
              refine rdy hr (Mem.le_refl _) i rfl (hget i hi) ?_
              refine rdy hr (Mem.le_refl _) j rfl (hget j hj) ?_
              obtain ⟨aj, eaj, hrj⟩ := hr.cell j _ (hget j hj)
              obtain ⟨ai, eai, hri⟩ := hr.cell i _ (hget i hi)
              have eaa : ai = aj := by rw [eaj] at eai; injection eai with e; exact e.symm
              subst eaa
              rw [eaj]
              simp only [nc_v, Int.toNat_natCast, Nat.mul_one, hri M' (Mem.le_refl _), hrj M' (Mem.le_refl _), ob_v, shI_v]
              refine ⟨⟨by omega, by omega⟩, ⟨by omega, by omega⟩, ?_⟩
              obtain ⟨F2, hB, _, back⟩ := hH.last
              refine Before_ok hB fun M2 hB2 => ?_
              have hH2 := back M2 _ hB2
              have hr2 := hH2.rdI (wfr m hm) (by simp [intsN]; omega)
              obtain ⟨a2, ea2, hr2j⟩ := hr2.cell j _ (hget j hj)
              obtain ⟨a3, ea3, hr2i⟩ := hr2.cell i _ (hget i hi)
              rw [eaj] at ea2 ea3
              injection ea2 with ea2
              injection ea3 with ea3
              subst ea2
              subst ea3
              simp only [go_sem, hr2j M2 (Mem.le_refl _), hr2i M2 (Mem.le_refl _)]
              refine ⟨trivial, trivial, ?_⟩
              have hI2 := hI.sm (((AS.tick_sm.trans AS.tick_sm).trans AS.tick_sm).trans AS.tick_sm)
              refine Before_ok hB2 fun M3 hB3 => ?_
              have hH3 := back M3 _ hB3
              have hI3 := hI2.sm (((AS.tick_sm.trans AS.tick_sm).trans AS.tick_sm).trans AS.tick_sm)
              rw [hI.before hi hj, hI2.before hj hi]
              have hx : ((((i : Int) != (j : Int)) == ((decide (cmpI (key i) (i : Int) (key j) (j : Int) < 0) || (cmpI (key i) (i : Int) (key j) (j : Int) == 0 && decide ((i : Int) < (j : Int)))) == (decide (cmpI (key j) (j : Int) (key i) (i : Int) < 0) || (cmpI (key j) (j : Int) (key i) (i : Int) == 0 && decide ((j : Int) < (i : Int))))))) = false := by
                obtain ⟨a1, a2⟩ := cmpI_anti (key i) i (key j) j
                obtain ⟨b1, b2⟩ := cmpI_anti (key j) j (key i) i
                by_cases e : i = j
                · subst e
                  simp
                · have hne : ((i : Int) != (j : Int)) = true := by simp; omega
                  have z1 : (cmpI (key i) (i : Int) (key j) (j : Int) == 0) = false := by
                    simp only [beq_eq_false_iff_ne, ne_eq]; rw [a2]; omega
                  have z2 : (cmpI (key j) (j : Int) (key i) (i : Int) == 0) = false := by
                    simp only [beq_eq_false_iff_ne, ne_eq]; rw [b2]; omega
                  have z1' : ¬ cmpI (key i) (i : Int) (key j) (j : Int) = 0 := by rw [a2]; omega
                  rw [hne, z1, z2]
                  by_cases h : cmpI (key i) (i : Int) (key j) (j : Int) < 0
                  · have : ¬ cmpI (key j) (j : Int) (key i) (i : Int) < 0 := by have := a1.1 h; omega
                    simp [h, this]
                  · have : cmpI (key j) (j : Int) (key i) (i : Int) < 0 := by
                      rw [b1]; omega
                    simp [h, this]
              simp only [go_sem]
              have hx2 : ∀ (p q r : Bool), (p == (q == r)) = false → (!(p == !(q == r))) = false := by intro p q r; cases p <;> cases q <;> cases r <;> simp
              rw [hx2 _ _ _ hx, bs_false]
              have hlm : m ≤ 20 := hm
              rw [w64_in (by omega)]
              exact ih' (j + 1) M3 _ (by omega) (by omega) hH3 hI3
            · simp only [bs_bne]
              have hnext : ∀ (M2 : Mem) (β : AS), Holds w0 M M2 (star (SlA c6 ((intsN (List.range m)).map (Value.int .i64))) (arenaA a β)) → Its β m key (fun j => (j : Int)) → thicketlaw7_ItemOrders.L3 pts f (some ⟨a, 0, none⟩) c6 (k : Int) (w64 ((i : Int) + 1)) M2 := by
                intro M2 β hH2 hI2
                rw [w64_in (by omega)]
                exact ih (i + 1) M2 β (by omega) (by omega) hH2 hI2
              split
              · exact hnext M' α hH hI
              · rename_i hik
                refine rdy hr (Mem.le_refl _) i rfl (hget i hi) ?_
                refine rdy hr (Mem.le_refl _) k rfl (hget k hk) ?_
                obtain ⟨F2, hB, _, back⟩ := hH.last
                refine Before_ok hB fun M2 hB2 => ?_
                have hH2 := back M2 _ hB2
                have hI2 := hI.sm (((AS.tick_sm.trans AS.tick_sm).trans AS.tick_sm).trans AS.tick_sm)
                rw [hI.before hi hk, shB_v, bs_b]
                refine ⟨fun hbf => ?_, fun _ => hnext M2 _ hH2 hI2⟩
                have hr2 := hH2.rdI (wfr m hm) (by simp [intsN]; omega)
                refine rdy hr2 (Mem.le_refl _) i rfl (hget i hi) ?_
                refine Entry_ok hB2 fun M3 hB3 => ?_
                have hI3 := hI2.sm (AS.tick_sm.trans AS.tick_sm)
                have hgk := hI2.getK hi
                have hkeyi := hkey i hi
                unfold In64 at hkeyi
                have hbf' : key i = -9223372036854775808 ∧ i < k := by
                  rw [hmin] at hbf
                  simp only [Bool.or_eq_true, decide_eq_true_eq, Bool.and_eq_true, beq_iff_eq] at hbf
                  rcases hbf with hbf | ⟨hbf, _⟩
                  · unfold cmpI at hbf
                    rw [if_neg (by omega)] at hbf
                    split at hbf
                    · omega
                    · split at hbf
                      · omega
                      · split at hbf <;> omega
                  · obtain ⟨_, a2⟩ := cmpI_anti (key i) i (-9223372036854775808) k
                    have := a2.1 hbf; omega
                rw [hgk]
                simp only [go_sem]
                rw [if_pos hbf'.1, if_neg (by omega)]
                exact hnext M3 _ (back M3 _ hB3) hI3
        exact five (m + 1) 0 M' α (by omega) (by omega) hH hI
      · exact hend _
  have one : ∀ (m : Nat) (c6 : SV) (key : Nat → Int) (M' : Mem) (α : AS), m ≤ 20 → α.n = 30 → (∀ j, j < m → In64 (key j)) → Holds w0 M M' (star (SlA c6 ((intsN (List.range m)).map (Value.int .i64))) (arenaA a α)) → Its α m key (fun j => (j : Int)) → thicketlaw7_ItemOrders.J1 pts at_ (some ⟨a, 0, none⟩) c6 M' := by
    intro m c6 key M' α hm hn hkey hH hI
    rw [H.J1]
    unfold thicketlaw7_ItemOrders.J1.T
    have hr := hH.rdI (wfr m hm) (by simp [intsN]; omega)
    have hlen := hr.len
    simp only [intsN, List.length_map, List.length_range] at hlen
    rw [bs_beq]
    split
    · exact hend _
    · rw [w64_in (n := ((c6.n : Nat) : Int) - 1) (by omega)]
      refine Within_ok hat (by omega) (by omega) (by omega) (by omega) fun k hk1 hk2 => ?_
      obtain ⟨k, rfl⟩ : ∃ k' : Nat, k = (k' : Int) := ⟨k.toNat, by omega⟩
      have hkm : k < m := by omega
      rw [shI_v]
      refine rdx W.c3 hr (Mem.le_refl _) k rfl (x := (k : Int)) (by simp [intsN, hkm]) ?_
      obtain ⟨F2, hB, _, back⟩ := hH.last
      have hgk := hI.getK hkm
      refine Lower_ok hB (fun hlt => ?_) (fun _ M2 hB2 => ?_)
      · rw [hgk] at hlt
        have := hkey k hkm
        unfold In64 at this
        omega
      · rw [show α.hasI (k : Int) 7 = true from AS.hasI_live (f := 7) (hI.live k hkm) (by omega)]
        rw [show α.tick.setI (k : Int) 7 (-9223372036854775808) = α.tick.put k 7 (-9223372036854775808) from AS.setI_live (α := α.tick) (f := 7) (hI.live k hkm) (by omega) _] at hB2
        simp only [go_sem, Bool.not_true, bs_false]
        refine ⟨m + 1, three m k c6 (fun j => if j = k then -9223372036854775808 else key j) hm hkm (fun j hj => ?_) (by rw [if_pos rfl]) (m + 1) 0 M2 _ (by omega) (by omega) (back M2 _ hB2) ?_⟩
        · show In64 (if j = k then _ else key j)
          split
          · unfold In64; omega
          · exact hkey j hj
        · refine ⟨hI.free, hI.never, hI.live, fun j hj => ?_, fun j hj => ?_, fun j hj => ?_⟩
          · show (if j = k ∧ 7 = 7 then (-9223372036854775808 : Int) else α.get j 7) = if j = k then -9223372036854775808 else key j
            by_cases e : j = k
            · simp [e]
            · simp only [if_neg e]; rw [if_neg (fun hh => e hh.1)]; exact hI.key j hj
          · show (if j = k ∧ 8 = 7 then (-9223372036854775808 : Int) else α.get j 8) = _
            rw [if_neg (fun hh => by cases hh.2)]; exact hI.ser j hj
          · show (if j = k ∧ 9 = 7 then (-9223372036854775808 : Int) else α.get j 9) = _
            rw [if_neg (fun hh => by cases hh.2)]; exact hI.node j hj
  have two : ∀ (k m : Nat) (c6 : SV) (key : Nat → Int) (M' : Mem) (α : AS), 20 < m + k → m ≤ 20 → α.n = 30 → (∀ j, j < m → In64 (key j)) → Holds w0 M M' (star (SlA c6 ((intsN (List.range m)).map (Value.int .i64))) (arenaA a α)) → Its α m key (fun j => (j : Int)) →
      thicketlaw7_ItemOrders.L2 pts k s at_ (some ⟨a, 0, none⟩) c6 (m : Int) M' := by
    intro k
    induction k with
    | zero => intro m c6 key M' α g1 g2; omega
    | succ k ih =>
      intro m c6 key M' α g1 g2 hn hkey hH hI
      rw [H.L2]
      unfold thicketlaw7_ItemOrders.L2.T
      simp only [bs_decide]
      split
      · split
        · rw [H.J4]
          unfold thicketlaw7_ItemOrders.J4.T
          have hms : m < s.n := by omega
          obtain ⟨x, ex, hx⟩ := hs.get (f := 0) hms (by omega)
          refine rdf0L W.c2 hs hH.fr m rfl hms ex ?_
          obtain ⟨F2, hB, _, back⟩ := hH.last
          obtain ⟨hnx, hI2, hn2⟩ := hI.new (k := x) (s := (m : Int)) (by omega)
          refine ItNew_ok hB (fun e => by rw [hnx] at e; cases e) fun c hc M2 β hB2 hs2 => ?_
          rw [hnx] at hc
          injection hc with hc
          subst hc
          simp only [shT_v, shCons_v, shI_v, shB_v, shNil_v, Bool.not_true, bs_false]
          refine push_ok (back M2 _ hB2) (by simp [intsN]; omega) fun M3 s3 hH3 => ?_
          rw [show intsN (List.range m) ++ [(m : Int)] = intsN (List.range (m + 1)) from by rw [List.range_succ]; simp [intsN]] at hH3
          rw [w64_in (by omega)]
          refine ih (m + 1) s3 (fun j => if j = m then x else key j) M3 β (by omega) (by omega) (by rw [hs2.n, hn2]; exact hn) (fun j hj => ?_) hH3 ?_
          · show In64 (if j = m then x else key j)
            split
            · exact hx
            · exact hkey j (by omega)
          · have := hI2.sm hs2
            refine ⟨this.free, this.never, this.live, this.key, fun j hj => ?_, this.node⟩
            rw [this.ser j hj]
            split
            · rename_i e; rw [e]
            · rfl
        · exact one m c6 key M' α g2 hn hkey hH hI
      · exact one m c6 key M' α g2 hn hkey hH hI
  exact ⟨21, two 21 0 ⟨none, 0, 0⟩ (fun _ => 0) M1 _ (by omega) (by omega) rfl (fun j hj => by omega) h1.nilSl ⟨rfl, rfl, fun j hj => by omega, fun j hj => by omega, fun j hj => by omega, fun j hj => by omega⟩⟩

end
end Go.Proofs.Ytoeijcmpkfjbfaa.HL
