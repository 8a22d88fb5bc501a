import Derived.Test.YtbkicgfgpmekeaaGreatXd
import Derived.Test.YtbkicgfgpmekeaaGreatXi
/-
  WdE: the law's calls: items are taken out.
-/
set_option linter.unusedVariables false
set_option linter.unusedSimpArgs false
set_option maxRecDepth 100000
namespace Go.Proofs.YtbkicgfgpmekeaaGreat.HL
open Go.RowKit (Below)
open Go.Proofs

section
variable {w0 : World} {M M0 F : Mem} {R : Value → Mem → Prop} {w a : Nat} {sv : Nat → SV} {ω : WS}

theorem rdH0R {s : SV} {l : List Held} (h : RdF w0 M0 3 s (flatH l)) (hl : Mem.le M0 M) (j : Nat) {x : Held} (hx : l[j]? = some x) {K : Int → Prop} (hK : K (x.1 : Int)) :
    nc s.a fun a => (0 ≤ (j : Int) ∧ (j : Int) < ((s.n : Nat) : Int)) ∧ ob (rd w0 M (a.add (j * 3))) fun v => shI .i64 v fun n => K n := by
  have := rdH0 h hl j rfl hx hK
  simpa only [ld_one W.c3, Int.toNat_natCast] using this

theorem Good.nil_iff {T : Nat} {ω : WS} {t : Nat → HT} (hG : Good T ω t) {h : Nat} (hh : h < 2) : ω.has h = [] ↔ (t h).its = [] := by
  have := (hG.hlen hh)
  constructor
  · intro e; rw [e] at this; exact List.eq_nil_of_length_eq_zero this
  · intro e; rw [e] at this; exact List.eq_nil_of_length_eq_zero this.symm

/-- What is left behind one that was taken out. -/
theorem Good.take {T T' : Nat} {ω : WS} {t : Nat → HT} (hG : Good T ω t) {h : Nat} (hh : h < 2) {k : Nat} {x : Held} (hx : (ω.has h)[k]? = some x) {β : AS} {t' : HT} {sp mo kk : Int} {n : Nat} (hp' : Hp β t'.root t') (hits : t'.its.Perm ((ω.has h).eraseIdx k)) (hsub : ∀ c ∈ t'.cells, c ∈ (t h).cells)
    (hn : n ∈ (t h).nds) (he : AS.Eff (fun c => c ∈ (t h).cells) (fun c => c = n ∨ c = x.1) (-2) kk ω.α β) (hT : T ≤ T') (hcost : sp + HT.pot t' + HT.pot (t (1 - h)) ≤ mo) (hmost : 0 ≤ sp ∧ mo ≤ 10000 * (T' : Int)) :
    Good T' ⟨β, upd ω.r h t'.root, upd ω.has h ((ω.has h).eraseIdx k), ω.next, sp, mo⟩ (upd t h t') := by
  have hlt := (List.getElem?_eq_some_iff.1 hx).1
  have hxm : x ∈ ω.has h := List.mem_of_getElem? hx
  have hxc : x.1 ∈ (t h).cells := HT.mem_its ((hG.its h hh).mem_iff.2 hxm)
  refine hG.put hh hp' (hG.other hh he (fun c hc => .inl hc) (fun c hc => ?_)) hits (fun c hc => hG.dj h hh c (hsub c hc)) ?_ (fun y hy => hG.keys h hh y (List.mem_of_mem_eraseIdx hy)) (Int.le_refl _) ?_ (by have := hG.next.2; omega) hcost hmost
  · rcases hc with rfl | rfl
    · exact .inl (HT.mem_nds hn)
    · exact .inl hxc
  · have h1 := he.len
    have h2 := hG.len_h hh
    rw [List.length_eraseIdx_of_lt hlt]
    omega
  · have h1 := hG.ser_h hh
    have h2 : ((ω.has h).eraseIdx k ++ ω.has (1 - h)).Sublist (ω.has h ++ ω.has (1 - h)) := (List.eraseIdx_sublist _ _).append (List.Sublist.refl _)
    exact h1.sublist (h2.map _)

theorem wpop_ok {T : Nat} {t : Nat → HT} (hW : Holds w0 F M (worldA w ω)) (hG : Good T ω t) (hT : T ≤ 100000) {h : Nat} (hh : h < 2)
    (hR : ∀ M' ω' t', Holds w0 F M' (worldA w ω') → Good (T + 1) ω' t' → ω'.α.n = ω.α.n → ω'.next = ω.next → ((ω.has h = [] ∧ ω'.has = ω.has) ∨ ∃ k x, (ω.has h)[k]? = some x ∧ (∀ y ∈ ω.has h, y ≠ x → Bf x y) ∧ ω'.has = upd ω.has h ((ω.has h).eraseIdx k)) → R (.bool true) M') :
    C PP w0 Id.thicketlaw12_world_pop #[.pointer (some ⟨w, 0, none⟩), .int .i64 (h : Int)] R M := by
  apply thicketlaw12_world_pop.go
  intro pts H
  unfold thicketlaw12_world_pop.T
  obtain ⟨a, sv, hW⟩ := hW.wopen
  have hh1 : (0 : Int) ≤ (h : Int) := by omega
  have hh2 : (h : Int) < ((2 : Nat) : Int) := by omega
  have ws := hW.wseen
  have hI := hW.winv
  have hIst := hI.steps
  have hsmall := hG.small hI hh
  have hok := hG.ok hI (by omega) hh
  have hcosts := hG.costs (by omega)
  have hpt := hG.pots hh
  have hpo := HT.pot_ge (t (1 - h))
  have hlen := hG.hlen hh
  have hlim := limH_bound (n := (ω.has h).length) (by omega)
  obtain ⟨F', hA, hle, back⟩ := hW.warena
  simp only [go_sem, ws.p]
  refine MeterSteps_ok (K := fun _ _ _ => True) hA fun p _ hq => ?_
  simp only [go_sem]
  refine hq.mono fun v M' hv => ?_
  obtain ⟨rfl, rfl⟩ := hv
  simp only [go_sem, add_eq, Nat.zero_add, Int.toNat_natCast, Nat.mul_one, hh1, hh2, and_self, true_and, ws.p, ws.r h hh]
  refine heap_pop_ok hA (hG.hp h hh) (fun hnil => ?_) (fun x L hx hL M2 γ t' n hn hA2 hp2 hi2 hsub hx2 he2 hg2 => ?_)
  · have hnl : ω.has h = [] := (hG.nil_iff hh).2 (by rw [hnil]; rfl)
    simp only [go_sem, add_eq, Nat.zero_add, Int.toNat_natCast, Nat.mul_one, hh1, hh2, and_self, true_and, ws.s h hh]
    have hhas := (hW.whas hh hok (by omega))
    rw [show ((sv h).n : Int) = (((ω.has h).length : Nat) : Int) from by rw [hhas.2]]
    refine cost_ok (lim := limH (ω.has h).length) hW (by omega) (by rw [if_pos rfl]) (by omega) hcosts.1 hcosts.2 (cost_of (t := t h) (t' := t h) (P := HT.pot (t (1 - h))) (by omega) hpt hpo) fun M3 hW3 => ?_
    simp only [go_sem, Bool.not_true, bs_false, bs_beq]
    rw [if_pos (by rw [hnl]; rfl)]
    simp only [if_true, beq_self_eq_true]
    refine hR M3 _ t hW3.wclose (hG.alpha (β := ω.α) (T' := T + 1) hG.hp rfl (by omega) ?_ ?_) rfl rfl (.inl ⟨hnl, rfl⟩)
    · have := hG.cost
      show ω.spent + (ω.α.steps - ω.α.steps) + _ + _ ≤ ω.most + _
      omega
    · have := hG.most
      show 0 ≤ ω.spent + (ω.α.steps - ω.α.steps) ∧ ω.most + _ ≤ _
      omega
  · have hst := he2.steps ⟨hIst.1, hIst.2.2⟩
    have hpot := HT.pot_ge t'
    rw [hlen] at hst
    have hne : (ω.has h).length ≠ 0 := by
      rw [← hlen, hx.length_eq]; simp
    have hW2 := back M2 _ hA2
    have ws2 := hW2.wseen
    simp only [go_sem, add_eq, Nat.zero_add, Int.toNat_natCast, Nat.mul_one, hh1, hh2, and_self, true_and, ws2.p, ws2.s h hh]
    have hhas := (hW2.whas hh hok (by show (ω.has h).length ≤ _; omega))
    rw [show ((sv h).n : Int) = (((ω.has h).length : Nat) : Int) from by rw [hhas.2]]
    refine cost_ok (lim := limH (ω.has h).length) hW2 (by omega) (by rw [if_pos rfl]) (by show 0 ≤ γ.steps - ω.α.steps ∧ γ.steps - ω.α.steps ≤ _; omega) hcosts.1 hcosts.2 (cost_of (t := t h) (t' := t') (P := HT.pot (t (1 - h))) (by show γ.steps - ω.α.steps + _ ≤ _; omega) hpt hpo) fun M3 hW3 => ?_
    simp only [go_sem, Bool.not_true, bs_false, bs_beq]
    rw [if_neg (by omega)]
    have ws3 := hW3.wseen
    have hs3 := ws3.s h hh
    simp only [go_sem, add_eq, Nat.zero_add, Int.toNat_natCast, Nat.mul_one, hh1, hh2, and_self, true_and, hs3]
    have hh3 := hW3.whas hh hok (by show (ω.has h).length ≤ _; omega)
    refine least_ok hh3.1 (by show (ω.has h).length ≤ _; omega) fun M4 k l4 hk hmin => ?_
    have hk' : k < (ω.has h).length := hk (fun e => hne (by show (ω.has h).length = 0; rw [show ω.has h = [] from e]; rfl))
    have ey := List.getElem?_eq_getElem hk'
    generalize (ω.has h)[k] = y at ey
    -- the least one is that which came out
    have hyx : y = x := by
      have hym : y ∈ x :: L := hx.mem_iff.1 ((hG.its h hh).mem_iff.2 (List.mem_of_getElem? ey))
      rcases List.mem_cons.1 hym with e | hy
      · exact e
      · exfalso
        have hxm : x ∈ ω.has h := (hG.its h hh).mem_iff.1 (hx.mem_iff.2 List.mem_cons_self)
        obtain ⟨j, hj⟩ := List.getElem?_of_mem hxm
        exact hmin j x y hj ey (hL y hy)
    subst hyx
    have hW4 := hW3.le l4
    simp only [go_sem, add_eq, Nat.zero_add, Int.toNat_natCast, Nat.mul_one, hh1, hh2, and_self, true_and]
    refine wst_r hW4 hh fun M5 hW5 => ?_
    have ws5 := hW5.wseen
    have hs5 := ws5.s h hh
    simp only [go_sem, hs5]
    have hh5 := hW5.whas hh hok (by show (ω.has h).length ≤ _; omega)
    refine rdH0R hh5.1 (Mem.le_refl _) k ey ?_
    rw [if_pos rfl]
    simp only [go_sem, ws5.p]
    obtain ⟨F5, hA5, hle5, back5⟩ := hW5.warena
    refine Node_ok hA5 fun M6 hA6 => ?_
    rw [show AS.cellI γ (y.1 : Int) 9 = -1 from AS.cellI_neg (f := 9) hg2.2.2.2 (by omega) hg2.1]
    simp only [go_sem, beq_self_eq_true]
    rw [H.J1]
    unfold thicketlaw12_world_pop.J1.T
    have hW6 := back5 M6 _ hA6
    have ws6 := hW6.wseen
    have hs6 := ws6.s h hh
    simp only [go_sem, add_eq, Nat.zero_add, Int.toNat_natCast, Nat.mul_one, hh1, hh2, and_self, true_and, hs6]
    have hh6 := hW6.whas hh hok (by show (ω.has h).length ≤ _; omega)
    refine without_ok hW6 hh6.1 (by show (ω.has h).length ≤ _; omega) hk' fun M7 s7 l7 h7 => ?_
    simp only [shS_sv, hh1, hh2, and_self, true_and]
    refine wst_s h7 hh fun M8 hW8 => ?_
    have ws8 := hW8.wseen
    simp only [go_sem, bs_true, ws8.p]
    obtain ⟨F8, hA8, hle8, back8⟩ := hW8.warena
    refine Give_ok hA8 fun M9 hA9 => ?_
    have hlv : γ.tick.live y.1 = true := hg2.2.2.2
    rw [show AS.giveI γ.tick (y.1 : Int) = γ.tick.unlive y.1 from AS.giveI_live hlv] at hA9
    rw [show AS.liveI γ.tick (y.1 : Int) = true from by rw [AS.liveI_nat]; exact hlv]
    simp only [go_sem]
    have hyc : y.1 ∈ (t h).cells := HT.mem_its (hx.mem_iff.2 List.mem_cons_self)
    have heT : AS.Eff (fun c => c ∈ (t h).cells) (fun c => c = n ∨ c = y.1) (-2) _ ω.α (γ.tick.unlive y.1).tick := ((((he2.mono (S' := fun c => c ∈ (t h).cells) (L' := fun c => c = n ∨ c = y.1) (fun _ e => e) (fun _ e => .inl e) (Int.le_refl _)).tick).trans (AS.unlive_eff (AS.tick_inv hA2.inv) hlv (.inr rfl))).tick).to (by omega)
    have hpT : Hp (γ.tick.unlive y.1).tick t'.root t' := hp2.eff (S := fun c => c = y.1) (L := fun c => c = y.1) ((((AS.tick_sm (α := γ)).eff (S := fun c => c = y.1) (L := fun c => c = y.1)).trans (AS.unlive_eff (S := fun c => c = y.1) (L := fun c => c = y.1) (AS.tick_inv hA2.inv) hlv rfl)).tick) (fun c hc e => hx2 (e ▸ hc)) (fun c hc e => hx2 (e ▸ hc))
    have hpL : L.Perm ((ω.has h).eraseIdx k) := List.Perm.cons_inv ((hx.symm.trans (hG.its h hh)).trans (erase_perm ey))
    refine hR M9 _ (upd t h t') (back8 M9 _ hA9).wclose (hG.take hh ey hpT (hi2.trans hpL) hsub hn heT (by omega) ?_ ?_) heT.n rfl (.inr ⟨k, y, ey, fun z hz hzy => ?_, rfl⟩)
    · show ω.spent + (γ.steps - ω.α.steps) + _ + _ ≤ ω.most + _
      omega
    · have := hG.most
      show 0 ≤ ω.spent + (γ.steps - ω.α.steps) ∧ ω.most + _ ≤ _
      omega
    · rcases List.mem_cons.1 (hx.mem_iff.1 ((hG.its h hh).mem_iff.2 hz)) with e | hz
      · exact absurd e hzy
      · exact hL z hz


/-- An item is taken out of its heap. -/
theorem wcut_ok {T : Nat} {t : Nat → HT} (hW : Holds w0 F M (worldA w ω)) (hG : Good T ω t) (hT : T ≤ 100000) {h : Nat} (hh : h < 2) {at_ : Int} (hat : In64 at_)
    (hR : ∀ M' ω' t', Holds w0 F M' (worldA w ω') → Good (T + 1) ω' t' → ω'.α.n = ω.α.n → ω'.next = ω.next → ((ω.has h = [] ∧ ω'.has = ω.has) ∨ ∃ k, k < (ω.has h).length ∧ (k : Int) = withinI at_ 0 ((ω.has h).length - 1) ∧ ω'.has = upd ω.has h ((ω.has h).eraseIdx k)) → R (.bool true) M') :
    C PP w0 Id.thicketlaw12_world_cut #[.pointer (some ⟨w, 0, none⟩), .int .i64 (h : Int), .int .i64 at_] R M := by
  apply thicketlaw12_world_cut.go
  unfold thicketlaw12_world_cut.T
  obtain ⟨a, sv, hW⟩ := hW.wopen
  have hh1 : (0 : Int) ≤ (h : Int) := by omega
  have hh2 : (h : Int) < ((2 : Nat) : Int) := by omega
  have ws := hW.wseen
  have hI := hW.winv
  have hIst := hI.steps
  have hsmall := hG.small hI hh
  have hok := hG.ok hI (by omega) hh
  have hcosts := hG.costs (by omega)
  have hpt := hG.pots hh
  have hpo := HT.pot_ge (t (1 - h))
  have hlen := hG.hlen hh
  have hlim := limH_bound (n := (ω.has h).length) (by omega)
  have hhas := (hW.whas hh hok (by omega))
  obtain ⟨F', hA, hle, back⟩ := hW.warena
  simp only [go_sem, add_eq, Nat.zero_add, Int.toNat_natCast, Nat.mul_one, hh1, hh2, and_self, true_and, ws.s h hh, bs_beq]
  rw [show ((sv h).n : Int) = (((ω.has h).length : Nat) : Int) from by rw [hhas.2]]
  split
  · rename_i h0
    have hnl : ω.has h = [] := List.eq_nil_of_length_eq_zero (by omega)
    exact hR M _ t hW.wclose (hG.more (by omega)) rfl rfl (.inl ⟨hnl, rfl⟩)
  · rename_i h0
    rw [w64_in (by omega)]
    refine WithinE_ok hat (by omega) (by omega) (by omega) (by omega) ?_
    obtain ⟨g1, g2⟩ := withinI_in (n := at_) (lo := 0) (hi := ((ω.has h).length : Int) - 1) (by omega)
    obtain ⟨k, hk⟩ : ∃ k : Nat, withinI at_ 0 (((ω.has h).length : Int) - 1) = (k : Int) := ⟨(withinI at_ 0 (((ω.has h).length : Int) - 1)).toNat, by omega⟩
    rw [hk] at g1 g2 ⊢
    have hk' : k < (ω.has h).length := by omega
    have ey := List.getElem?_eq_getElem hk'
    generalize (ω.has h)[k] = y at ey
    have hym : y ∈ ω.has h := List.mem_of_getElem? ey
    have hyt : y ∈ (t h).its := (hG.its h hh).mem_iff.2 hym
    simp only [go_sem, add_eq, Nat.zero_add, Int.toNat_natCast, Nat.mul_one, hh1, hh2, and_self, true_and, ws.s h hh]
    refine rdH0R hhas.1 (Mem.le_refl _) k ey ?_
    simp only [go_sem, ws.p]
    refine MeterSteps_ok (K := fun _ _ _ => True) hA fun p _ hq => ?_
    simp only [go_sem]
    refine hq.mono fun v M' hv => ?_
    obtain ⟨rfl, rfl⟩ := hv
    simp only [go_sem, add_eq, Nat.zero_add, Int.toNat_natCast, Nat.mul_one, hh1, hh2, and_self, true_and, ws.p, ws.r h hh]
    refine heap_cut_ok hA (hG.hp h hh) (i := y.1) (e := y.2) hyt fun L hx M2 γ t' n hn hA2 hp2 hi2 hsub hx2 he2 hg2 => ?_
    have hst := he2.steps ⟨hIst.1, hIst.2.2⟩
    have hpot := HT.pot_ge t'
    rw [hlen] at hst
    have hW2 := back M2 _ hA2
    have ws2 := hW2.wseen
    simp only [go_sem, add_eq, Nat.zero_add, Int.toNat_natCast, Nat.mul_one, hh1, hh2, and_self, true_and, ws2.p, ws2.s h hh]
    rw [show ((sv h).n : Int) = (((ω.has h).length : Nat) : Int) from by rw [hhas.2]]
    refine cost_ok (lim := limH (ω.has h).length) hW2 (by omega) (by rw [if_pos rfl]) (by show 0 ≤ γ.steps - ω.α.steps ∧ γ.steps - ω.α.steps ≤ _; omega) hcosts.1 hcosts.2 (cost_of (t := t h) (t' := t') (P := HT.pot (t (1 - h))) (by show γ.steps - ω.α.steps + _ ≤ _; omega) hpt hpo) fun M3 hW3 => ?_
    simp only [go_sem, Bool.not_true, bs_false, add_eq, Nat.zero_add, Int.toNat_natCast, Nat.mul_one, hh1, hh2, and_self, true_and]
    refine wst_r hW3 hh fun M5 hW5 => ?_
    have ws5 := hW5.wseen
    have hs5 := ws5.s h hh
    have hh5 := hW5.whas hh hok (by show (ω.has h).length ≤ _; omega)
    simp only [go_sem, hs5]
    refine without_ok hW5 hh5.1 (by show (ω.has h).length ≤ _; omega) hk' fun M7 s7 l7 h7 => ?_
    simp only [shS_sv, hh1, hh2, and_self, true_and]
    refine wst_s h7 hh fun M8 hW8 => ?_
    have ws8 := hW8.wseen
    simp only [go_sem, ws8.p]
    obtain ⟨F8, hA8, hle8, back8⟩ := hW8.warena
    refine Node_ok hA8 fun M9 hA9 => ?_
    rw [show AS.cellI γ (y.1 : Int) 9 = -1 from AS.cellI_neg (f := 9) hg2.2 (by omega) hg2.1]
    have hW9 := back8 M9 _ hA9
    have ws9 := hW9.wseen
    simp only [go_sem, bs_beq, if_true, ws9.p]
    refine Give_ok hA9 fun M10 hA10 => ?_
    have hlv : γ.tick.live y.1 = true := hg2.2
    rw [show AS.giveI γ.tick (y.1 : Int) = γ.tick.unlive y.1 from AS.giveI_live hlv] at hA10
    rw [show AS.liveI γ.tick (y.1 : Int) = true from by rw [AS.liveI_nat]; exact hlv]
    simp only [go_sem]
    have heT : AS.Eff (fun c => c ∈ (t h).cells) (fun c => c = n ∨ c = y.1) (-2) _ ω.α (γ.tick.unlive y.1).tick := ((((he2.mono (S' := fun c => c ∈ (t h).cells) (L' := fun c => c = n ∨ c = y.1) (fun _ e => e) (fun _ e => .inl e) (Int.le_refl _)).tick).trans (AS.unlive_eff (AS.tick_inv hA2.inv) hlv (.inr rfl))).tick).to (by omega)
    have hpT : Hp (γ.tick.unlive y.1).tick t'.root t' := hp2.eff (S := fun c => c = y.1) (L := fun c => c = y.1) ((((AS.tick_sm (α := γ)).eff (S := fun c => c = y.1) (L := fun c => c = y.1)).trans (AS.unlive_eff (S := fun c => c = y.1) (L := fun c => c = y.1) (AS.tick_inv hA2.inv) hlv rfl)).tick) (fun c hc e => hx2 (e ▸ hc)) (fun c hc e => hx2 (e ▸ hc))
    have hpL : L.Perm ((ω.has h).eraseIdx k) := List.Perm.cons_inv ((hx.symm.trans (hG.its h hh)).trans (erase_perm ey))
    refine hR M10 _ (upd t h t') (back8 M10 _ hA10).wclose (hG.take hh ey hpT (hi2.trans hpL) hsub hn heT (by omega) ?_ ?_) heT.n rfl (.inr ⟨k, hk', hk.symm, rfl⟩)
    · show ω.spent + (γ.steps - ω.α.steps) + _ + _ ≤ ω.most + _
      omega
    · have := hG.most
      show 0 ≤ ω.spent + (γ.steps - ω.α.steps) ∧ ω.most + _ ≤ _
      omega

end
end Go.Proofs.YtbkicgfgpmekeaaGreat.HL

/-
  WdF: the law's calls: keys fall, heaps are melded, heaps are given up.
-/
set_option linter.unusedVariables false
set_option linter.unusedSimpArgs false
set_option maxRecDepth 100000
namespace Go.Proofs.YtbkicgfgpmekeaaGreat.HL
open Go.RowKit (Below)
open Go.Proofs

section
variable {w0 : World} {M M0 F : Mem} {R : Value → Mem → Prop} {w a : Nat} {sv : Nat → SV} {ω : WS}

theorem Holds.freeze1 {P : Asn} {b : Nat} {cs : List Value} {e : TypeId} (h : Holds w0 F M (star (row1 b cs e) P)) : ∃ F', Mem.le F F' ∧ Own w0 F' b cs e ∧ Holds w0 F' M P := by
  obtain ⟨r, ⟨r1, r2, rfl, h1, h2⟩, h3⟩ := h
  have h1' : r1 = [(b, cs, e)] := h1
  subst h1'
  have h4 := (h3.perm List.perm_append_comm).aside.1
  have h5 := h3.at_ (b, cs, e) (by simp)
  refine ⟨ext F [(b, cs, e)], le_ext fun x hx => ?_, ⟨h5.1, ?_⟩, ⟨r2, h2, h4⟩⟩
  · simp only [List.mem_cons, List.not_mem_nil, or_false] at hx
    subst hx; exact h5.2.1
  · simp [ext]
theorem rdHR {s : SV} {l : List Held} (h : RdF w0 M0 3 s (flatH l)) (hl : Mem.le M0 M) (j : Nat) {x : Held} (hx : l[j]? = some x) {K : Int → Int → Int → Prop} (hK : K (x.1 : Int) x.2.1 x.2.2) :
    nc s.a fun a => (0 ≤ (j : Int) ∧ (j : Int) < ((s.n : Nat) : Int)) ∧ ob ((std PP w0).ld 57 (a.add (j * 3)) M) fun v => shA v fun l4 => shCons l4 fun u5 r6 => shI .i64 u5 fun n7 => shCons r6 fun u8 r9 => shI .i64 u8 fun n10 => shCons r9 fun u11 r12 => shI .i64 u11 fun n13 => shNil r12 (K n7 n10 n13) := by
  have := rdH h hl j rfl hx hK
  simpa only [Int.toNat_natCast] using this

/-- A key falls. -/
theorem wfall_ok {T : Nat} {t : Nat → HT} (hW : Holds w0 F M (worldA w ω)) (hG : Good T ω t) (hT : T ≤ 100000) {h : Nat} (hh : h < 2) {at_ by_ : Int} (hat : In64 at_) (hby : In64 by_)
    (hR : ∀ M' ω' t', Holds w0 F M' (worldA w ω') → Good (T + 1) ω' t' → ω'.α.n = ω.α.n → ω'.next = ω.next → ((ω.has h = [] ∧ ω'.has = ω.has) ∨ ∃ (k : Nat) (x : Held), (ω.has h)[k]? = some x ∧ (k : Int) = withinI at_ 0 ((ω.has h).length - 1) ∧ ω'.has = upd ω.has h ((ω.has h).eraseIdx k ++ [(x.1, (if by_ < x.2.1 then by_ else x.2.1, x.2.2))])) → R (.bool true) M') :
    C PP w0 Id.thicketlaw12_world_fall #[.pointer (some ⟨w, 0, none⟩), .int .i64 (h : Int), .int .i64 at_, .int .i64 by_] R M := by
  apply thicketlaw12_world_fall.go
  unfold thicketlaw12_world_fall.T
  obtain ⟨a, sv, hW⟩ := hW.wopen
  have hh1 : (0 : Int) ≤ (h : Int) := by omega
  have hh2 : (h : Int) < ((2 : Nat) : Int) := by omega
  have ws := hW.wseen
  have hI := hW.winv
  have hIst := hI.steps
  have hsmall := hG.small hI hh
  have hok := hG.ok hI (by omega) hh
  have hcosts := hG.costs (by omega)
  have hpt := hG.pots hh
  have hpo := HT.pot_ge (t (1 - h))
  have hlen := hG.hlen hh
  have hlim := limH_bound (n := (ω.has h).length) (by omega)
  have hhas := (hW.whas hh hok (by omega))
  simp only [go_sem, add_eq, Nat.zero_add, Int.toNat_natCast, Nat.mul_one, hh1, hh2, and_self, true_and, ws.s h hh, bs_beq]
  rw [show ((sv h).n : Int) = (((ω.has h).length : Nat) : Int) from by rw [hhas.2]]
  split
  · rename_i h0
    have hnl : ω.has h = [] := List.eq_nil_of_length_eq_zero (by omega)
    exact hR M _ t hW.wclose (hG.more (by omega)) rfl rfl (.inl ⟨hnl, rfl⟩)
  · rename_i h0
    rw [w64_in (by omega)]
    refine WithinE_ok hat (by omega) (by omega) (by omega) (by omega) ?_
    obtain ⟨g1, g2⟩ := withinI_in (n := at_) (lo := 0) (hi := ((ω.has h).length : Int) - 1) (by omega)
    obtain ⟨k, hk⟩ : ∃ k : Nat, withinI at_ 0 (((ω.has h).length : Int) - 1) = (k : Int) := ⟨(withinI at_ 0 (((ω.has h).length : Int) - 1)).toNat, by omega⟩
    rw [hk] at g1 g2 ⊢
    have hk' : k < (ω.has h).length := by omega
    have ey := List.getElem?_eq_getElem hk'
    generalize (ω.has h)[k] = y at ey
    have hym : y ∈ ω.has h := List.mem_of_getElem? ey
    have hyt : y ∈ (t h).its := (hG.its h hh).mem_iff.2 hym
    have hyl : ω.α.live y.1 = true := (hG.hp h hh).live y.1 (HT.mem_its hyt)
    have hyk := hG.keys h hh y hym
    simp only [go_sem, add_eq, Nat.zero_add, Int.toNat_natCast, Nat.mul_one, hh1, hh2, and_self, true_and, ws.s h hh]
    refine rdHR hhas.1 (Mem.le_refl _) k ey ?_
    -- the item in a place of its own
    intro b hb hw
    have hN := hW.new hb hw [.int .i64 0, .int .i64 0, .int .i64 0] 57
    refine st_agg (vs := [.int .i64 (y.1 : Int), .int .i64 y.2.1, .int .i64 y.2.2]) W.g57 (Holds.own1 hN) (by simp) (by intro v hv; simp only [List.mem_cons, List.not_mem_nil, or_false] at hv; rcases hv with rfl | rfl | rfl <;> rfl) ?_
    have hN2 := Holds.upd1 hN (cs' := over [.int .i64 0, .int .i64 0, .int .i64 0] 0 [.int .i64 (y.1 : Int), .int .i64 y.2.1, .int .i64 y.2.2]) (e' := 57)
    generalize (M.set b (.row [.int .i64 0, .int .i64 0, .int .i64 0] 57)).set b (.row (over [.int .i64 0, .int .i64 0, .int .i64 0] 0 [.int .i64 (y.1 : Int), .int .i64 y.2.1, .int .i64 y.2.2]) 57) = M2 at hN2 ⊢
    have o2 : Own w0 M2 b [.int .i64 (y.1 : Int), .int .i64 y.2.1, .int .i64 y.2.2] 57 := Holds.own1 hN2
    have r1 : rd w0 M2 ⟨b, 1, none⟩ = some (.int .i64 y.2.1) := by rw [rd_own o2]; rfl
    simp only [r1, ob_v, shI_v]
    obtain ⟨ky, hky⟩ : ∃ ky : Int, ky = (if by_ < y.2.1 then by_ else y.2.1) := ⟨_, rfl⟩
    rw [← hky]
    have hkyle : ky ≤ y.2.1 := by rw [hky]; split <;> omega
    have hkyin : In64 ky := by rw [hky]; unfold In64 at hby hyk ⊢; split <;> omega
    refine st_one W.c2 o2 (by simp) rfl rfl ?_
    have hN3 := Holds.upd1 hN2 (cs' := [Value.int .i64 (y.1 : Int), .int .i64 y.2.1, .int .i64 y.2.2].set 1 (.int .i64 ky)) (e' := 57)
    obtain ⟨F3, hle3, hown3, hW3⟩ := Holds.freeze1 hN3
    generalize M2.set b (.row ([Value.int .i64 (y.1 : Int), .int .i64 y.2.1, .int .i64 y.2.2].set 1 (.int .i64 ky)) 57) = M3 at hW3 ⊢
    have x0 : ∀ M', Mem.le F3 M' → rd w0 M' ⟨b, 0, none⟩ = some (.int .i64 (y.1 : Int)) := fun M' hl => by rw [rd_own (hown3.le hl)]; rfl
    have x1 : ∀ M', Mem.le F3 M' → rd w0 M' ⟨b, 1, none⟩ = some (.int .i64 ky) := fun M' hl => by rw [rd_own (hown3.le hl)]; rfl
    have xa : ∀ M', Mem.le F3 M' → (std PP w0).ld 57 ⟨b, 0, none⟩ M' = some (.agg #[.int .i64 (y.1 : Int), .int .i64 ky, .int .i64 y.2.2]) := fun M' hl => ld_agg (cs := [.int .i64 (y.1 : Int), .int .i64 ky, .int .i64 y.2.2]) W.g57 (fun j v hj => by rw [add_eq, rd_own (hown3.le hl), Nat.zero_add]; exact hj)
    have ws3 := hW3.wseen
    simp only [go_sem, ws3.p, x0 _ hW3.fr, x1 _ hW3.fr]
    obtain ⟨F4, hA4, hle4, back4⟩ := hW3.warena
    have hget : ω.α.getI (y.1 : Int) 7 = y.2.1 := by
      rw [show ω.α.getI (y.1 : Int) 7 = ω.α.get y.1 7 from AS.getI_live (f := 7) hyl (by omega)]
      exact HT.key_of (hG.hp h hh) hyt
    refine Lower_ok hA4 (fun h9 => absurd h9 (by omega)) fun _ M5 hA5 => ?_
    rw [show ω.α.tick.setI (y.1 : Int) 7 ky = ω.α.tick.put y.1 7 ky from AS.setI_live (α := ω.α.tick) (f := 7) hyl (by omega) _] at hA5
    rw [show ω.α.hasI (y.1 : Int) 7 = true from AS.hasI_live (f := 7) hyl (by omega)]
    have hW5 := back4 M5 _ hA5
    have ws5 := hW5.wseen
    simp only [go_sem, Bool.not_true, bs_false, ws5.p]
    have hs5 : AS.Sm 2 (ω.α.put y.1 7 ky) (ω.α.tick.put y.1 7 ky).tick := (((AS.tick_sm (α := ω.α)).put y.1 7 ky).trans AS.tick_sm).mono (by omega)
    have hyc : y.1 ∈ (t h).cells := HT.mem_its hyt
    have he5 : AS.Eff (fun c => c ∈ (t h).cells) (fun _ => False) 0 2 ω.α (ω.α.tick.put y.1 7 ky).tick := ((((AS.tick_sm (α := ω.α)).eff (S := fun c => c ∈ (t h).cells) (L := fun _ => False)).put (f := 7) (v := ky) hyc).tick).to (by omega)
    have hF5 : HpF (ω.α.tick.put y.1 7 ky).tick (ω.r h) (t h) y.1 y.2 (ky, y.2.2) := ((hG.hp h hh).lowerH (e' := (ky, y.2.2)) hyt hkyle rfl).eff (S := fun _ => False) (L := fun _ => False) hs5.eff (fun _ _ h => h) (fun _ _ h => h)
    generalize (ω.α.tick.put y.1 7 ky).tick = β at hA5 hW5 he5 hF5 ws5
    have hI5 := hA5.inv
    have hI5s := hI5.steps
    refine MeterSteps_ok (K := fun _ _ _ => True) hA5 fun p _ hq => ?_
    simp only [go_sem]
    refine hq.mono fun v M' hv => ?_
    obtain ⟨rfl, rfl⟩ := hv
    simp only [go_sem, add_eq, Nat.zero_add, Int.toNat_natCast, Nat.mul_one, hh1, hh2, and_self, true_and, ws5.p, ws5.r h hh, x0 _ (Mem.le_trans hle4 hA5.fr)]
    refine heap_fall_ok hA5 hF5 fun M6 γ t' hA6 hp6 hi6 hc6 he6 => ?_
    have hst := he6.steps ⟨hI5s.1, hI5s.2.2⟩
    have hpot := HT.pot_ge t'
    try rw [hlen] at hst
    have hW6 := back4 M6 _ hA6
    have ws6 := hW6.wseen
    simp only [go_sem, add_eq, Nat.zero_add, Int.toNat_natCast, Nat.mul_one, hh1, hh2, and_self, true_and, ws6.p, ws6.s h hh]
    rw [show ((sv h).n : Int) = (((ω.has h).length : Nat) : Int) from by rw [hhas.2]]
    refine cost_ok (lim := 500) hW6 (by omega) (by rw [if_neg (by omega)]) (by show 0 ≤ γ.steps - β.steps ∧ γ.steps - β.steps ≤ _; omega) hcosts.1 hcosts.2 (cost_of (t := t h) (t' := t') (P := HT.pot (t (1 - h))) (by show γ.steps - β.steps + _ ≤ _; omega) hpt hpo) fun M7 hW7 => ?_
    simp only [go_sem, Bool.not_true, bs_false, add_eq, Nat.zero_add, Int.toNat_natCast, Nat.mul_one, hh1, hh2, and_self, true_and]
    refine wst_r hW7 hh fun M8 hW8 => ?_
    have ws8 := hW8.wseen
    have hs8 := ws8.s h hh
    have hh8 := hW8.whas hh hok (by show (ω.has h).length ≤ _; omega)
    simp only [go_sem, hs8, xa _ hW8.fr]
    -- the end
    have hits : t'.its.Perm ((ω.has h).eraseIdx k ++ [(y.1, (ky, y.2.2))]) := by
      have h1 := (hG.its h hh).trans (erase_perm ey)
      exact (hi6 _ h1).trans (List.perm_append_singleton _ _).symm
    have hp' : ∀ x : Held, x.2.2 = y.2.2 → (((ω.has h).eraseIdx k ++ [x]).map fun z => z.2.2).Perm ((ω.has h).map fun z => z.2.2) := fun x hx => by
      refine (List.Perm.map _ (List.perm_append_singleton x _)).trans ?_
      refine List.Perm.trans ?_ ((erase_perm ey).symm.map _)
      simp only [List.map_cons, hx]
      exact List.Perm.refl _
    have hgood : Good (T + 1) ⟨γ, upd ω.r h t'.root, upd ω.has h ((ω.has h).eraseIdx k ++ [(y.1, (ky, y.2.2))]), ω.next, ω.spent + (γ.steps - β.steps), ω.most + 500⟩ (upd t h t') := by
      have heT : AS.Eff (fun c => c ∈ (t h).cells) (fun _ => False) 0 _ ω.α γ := (he5.trans he6).to (by omega)
      refine hG.put hh hp6 (hG.other hh heT (fun c hc => .inl hc) (fun c hc => hc.elim)) hits (fun c hc => hG.dj h hh c (hc6.mem_iff.1 hc)) ?_ (fun x hx => ?_) (Int.le_refl _) ?_ (by have := hG.next.2; omega) (by omega) ⟨by have := hG.most.1; omega, by have := hG.most.2; omega⟩
      · have h1 := heT.len
        have h2 := hG.len_h hh
        rw [List.length_append, List.length_singleton, List.length_eraseIdx_of_lt hk']
        omega
      · rcases List.mem_append.1 hx with hx | hx
        · exact hG.keys h hh x (List.mem_of_mem_eraseIdx hx)
        · simp only [List.mem_cons, List.not_mem_nil, or_false] at hx
          subst hx
          exact ⟨hkyin, hyk.2⟩
      · have h1 := hG.ser_h hh
        rw [List.map_append] at h1 ⊢
        exact ((hp' (y.1, (ky, y.2.2)) rfl).append_right _).nodup_iff.2 h1
    have fin : ∀ (M9 : Mem) (s' : SV), Holds w0 F3 M9 (star (SlKA 3 s' (hV ((ω.has h).eraseIdx k ++ [(y.1, (ky, y.2.2))]))) (worldB w a sv ⟨γ, upd ω.r h t'.root, ω.has, ω.next, ω.spent + (γ.steps - β.steps), ω.most + 500⟩)) →
        (std PP w0).st 32 ⟨w, 3 + h, none⟩ (SV.v s') (fun M121 => R (.bool true) M121) M9 := by
      intro M9 s' h9
      refine wst_s h9 hh fun M10 hW10 => ?_
      refine hR M10 _ _ (hW10.wclose.le_frame hle3) hgood (he6.n.trans he5.n) rfl (.inr ⟨k, y, ey, hk.symm, ?_⟩)
      rw [← hky]
    refine ⟨?_, ?_⟩
    · refine without_ok hW8 hh8.1 (by show (ω.has h).length ≤ _; omega) hk' fun M9 s9 l9 h9 => ?_
      simp only [shS_sv, xa _ h9.fr, true_and]
      refine newH h9 (y.1, (ky, y.2.2)) fun M10 s10 _ h10 => ?_
      simp only [shS_sv]
      refine app2 h10.rot (by rw [List.length_eraseIdx_of_lt hk']; simp; omega) fun M11 s11 h11 => ?_
      simp only [shS_sv, hh1, hh2, and_self, true_and]
      exact fin M11 s11 h11
    · refine newH hW8 (y.1, (ky, y.2.2)) fun M9 s9 l9 h9 => ?_
      have h9r := h9.right
      have d1 := h9r.wseen.s h hh
      simp only [shS_sv, d1, true_and]
      refine without_ok h9 (h9r.whas hh hok (by show (ω.has h).length ≤ _; omega)).1 (by show (ω.has h).length ≤ _; omega) hk' fun M10 s10 _ h10 => ?_
      simp only [shS_sv]
      refine app2 h10 (by rw [List.length_eraseIdx_of_lt hk']; simp; omega) fun M11 s11 h11 => ?_
      simp only [shS_sv, hh1, hh2, and_self, true_and]
      exact fin M11 s11 h11

end
end Go.Proofs.YtbkicgfgpmekeaaGreat.HL

/-
  WdG: the law's calls: heaps are melded, heaps are given up.
-/
set_option linter.unusedVariables false
set_option linter.unusedSimpArgs false
set_option maxRecDepth 100000
namespace Go.Proofs.YtbkicgfgpmekeaaGreat.HL
open Go.RowKit (Below)
open Go.Proofs

section
variable {w0 : World} {M M0 F : Mem} {R : Value → Mem → Prop} {w a : Nat} {sv : Nat → SV} {ω : WS}

/-- Both heaps are one. -/
theorem Good.join {T T' : Nat} {ω : WS} {t : Nat → HT} (hG : Good T ω t) {h : Nat} (hh : h < 2) {β : AS} {t' : HT} {sp mo : Int} (hp' : Hp β t'.root t') (hits : t'.its.Perm ((t h).its ++ (t (1 - h)).its)) (hlen : β.len = ω.α.len) (hT : T ≤ T')
    (hcost : sp + HT.pot t' ≤ mo) (hpn : HT.pot HT.nil = 0) (hmost : 0 ≤ sp ∧ mo ≤ 10000 * (T' : Int)) :
    Good T' ⟨β, upd (upd ω.r h t'.root) (1 - h) (-1), upd (upd ω.has h (ω.has h ++ ω.has (1 - h))) (1 - h) [], ω.next, sp, mo⟩ (upd (upd t h t') (1 - h) HT.nil) := by
  have hne : 1 - h ≠ h := by omega
  have u1 : ∀ {γ : Type} (f : Nat → γ) (x y : γ), upd (upd f h x) (1 - h) y h = x := fun f x y => by rw [upd_ne _ _ (Ne.symm hne), upd_same]
  have u2 : ∀ {γ : Type} (f : Nat → γ) (x y : γ), upd (upd f h x) (1 - h) y (1 - h) = y := fun f x y => by rw [upd_same]
  have two : ∀ k, k < 2 → k = h ∨ k = 1 - h := fun k hk => by omega
  refine ⟨fun k hk => ?_, fun k hk => ?_, fun k hk c hc => ?_, ?_, fun k hk => ?_, ?_, ⟨hG.next.1, show ω.next ≤ (T' : Int) by have := hG.next.2; omega⟩, ?_, hmost⟩
  · show Hp β (upd (upd ω.r h t'.root) (1 - h) (-1) k) (upd (upd t h t') (1 - h) HT.nil k)
    rcases two k hk with rfl | rfl
    · rw [u1, u1]; exact hp'
    · rw [u2, u2]; exact Hp.nilH β
  · show (upd (upd t h t') (1 - h) HT.nil k).its.Perm (upd (upd ω.has h (ω.has h ++ ω.has (1 - h))) (1 - h) [] k)
    rcases two k hk with rfl | rfl
    · rw [u1, u1]; exact hits.trans ((hG.its _ hh).append (hG.its _ (by omega)))
    · rw [u2, u2]; rw [HT.nil_its]
  · rcases two k hk with rfl | rfl
    · rw [u2, HT.nil_cells]; simp
    · rw [u2, HT.nil_cells] at hc; cases hc
  · show β.len = 2 * ((upd (upd ω.has h (ω.has h ++ ω.has (1 - h))) (1 - h) [] 0).length + (upd (upd ω.has h (ω.has h ++ ω.has (1 - h))) (1 - h) [] 1).length)
    have h1 := hG.len_h hh
    rcases (show h = 0 ∨ h = 1 by omega) with rfl | rfl
    · have e0 : upd (upd ω.has 0 (ω.has 0 ++ ω.has (1 - 0))) (1 - 0) [] 0 = ω.has 0 ++ ω.has (1 - 0) := u1 _ _ _
      have e1 : upd (upd ω.has 0 (ω.has 0 ++ ω.has (1 - 0))) (1 - 0) [] 1 = [] := u2 _ _ _
      rw [e0, e1, List.length_append, hlen, h1]; rfl
    · have e0 : upd (upd ω.has 1 (ω.has 1 ++ ω.has (1 - 1))) (1 - 1) [] 1 = ω.has 1 ++ ω.has (1 - 1) := u1 _ _ _
      have e1 : upd (upd ω.has 1 (ω.has 1 ++ ω.has (1 - 1))) (1 - 1) [] 0 = [] := u2 _ _ _
      rw [e0, e1, List.length_append, hlen, h1, List.length_nil, Nat.zero_add]
  · show ∀ x ∈ upd (upd ω.has h (ω.has h ++ ω.has (1 - h))) (1 - h) [] k, _
    rcases two k hk with rfl | rfl
    · rw [u1]
      intro x hx
      rcases List.mem_append.1 hx with hx | hx
      · exact hG.keys _ hh x hx
      · exact hG.keys _ (by omega) x hx
    · rw [u2]; intro x hx; cases hx
  · show ((upd (upd ω.has h (ω.has h ++ ω.has (1 - h))) (1 - h) [] 0 ++ upd (upd ω.has h (ω.has h ++ ω.has (1 - h))) (1 - h) [] 1).map _).Nodup
    have h1 := hG.ser_h hh
    rcases (show h = 0 ∨ h = 1 by omega) with rfl | rfl
    · have e0 : upd (upd ω.has 0 (ω.has 0 ++ ω.has (1 - 0))) (1 - 0) [] 0 = ω.has 0 ++ ω.has (1 - 0) := u1 _ _ _
      have e1 : upd (upd ω.has 0 (ω.has 0 ++ ω.has (1 - 0))) (1 - 0) [] 1 = [] := u2 _ _ _
      rw [e0, e1, List.append_nil]; exact h1
    · have e0 : upd (upd ω.has 1 (ω.has 1 ++ ω.has (1 - 1))) (1 - 1) [] 1 = ω.has 1 ++ ω.has (1 - 1) := u1 _ _ _
      have e1 : upd (upd ω.has 1 (ω.has 1 ++ ω.has (1 - 1))) (1 - 1) [] 0 = [] := u2 _ _ _
      rw [e0, e1, List.nil_append]; exact h1
  · show sp + HT.pot (upd (upd t h t') (1 - h) HT.nil 0) + HT.pot (upd (upd t h t') (1 - h) HT.nil 1) ≤ mo
    rcases (show h = 0 ∨ h = 1 by omega) with rfl | rfl
    · have e0 : upd (upd t 0 t') (1 - 0) HT.nil 0 = t' := u1 _ _ _
      have e1 : upd (upd t 0 t') (1 - 0) HT.nil 1 = HT.nil := u2 _ _ _
      rw [e0, e1, hpn]; omega
    · have e0 : upd (upd t 1 t') (1 - 1) HT.nil 1 = t' := u1 _ _ _
      have e1 : upd (upd t 1 t') (1 - 1) HT.nil 0 = HT.nil := u2 _ _ _
      rw [e0, e1, hpn]; omega

theorem wmeld_ok {T : Nat} {t : Nat → HT} (hW : Holds w0 F M (worldA w ω)) (hG : Good T ω t) (hT : T ≤ 100000) {h : Nat} (hh : h < 2)
    (hR : ∀ M' ω' t', Holds w0 F M' (worldA w ω') → Good (T + 1) ω' t' → ω'.α.n = ω.α.n → ω'.next = ω.next → ω'.has = upd (upd ω.has h (ω.has h ++ ω.has (1 - h))) (1 - h) [] → ω'.r (1 - h) = -1 → R (.bool true) M') :
    C PP w0 Id.thicketlaw12_world_meld #[.pointer (some ⟨w, 0, none⟩), .int .i64 (h : Int)] R M := by
  apply thicketlaw12_world_meld.go
  unfold thicketlaw12_world_meld.T
  obtain ⟨a, sv, hW⟩ := hW.wopen
  have hk : 1 - h < 2 := by omega
  have e1h : w64 (1 - (h : Int)) = ((1 - h : Nat) : Int) := by rw [w64_in (by omega)]; omega
  have hh1 : (0 : Int) ≤ (h : Int) := by omega
  have hh2 : (h : Int) < ((2 : Nat) : Int) := by omega
  have hk1 : (0 : Int) ≤ ((1 - h : Nat) : Int) := by omega
  have hk2 : ((1 - h : Nat) : Int) < ((2 : Nat) : Int) := by omega
  have ws := hW.wseen
  have hI := hW.winv
  have hIst := hI.steps
  have hsmall := hG.small hI hh
  have hok := hG.ok hI (by omega) hh
  have hokk := hG.ok hI (by omega) hk
  have hok0 := hG.ok hI (by omega) (h := 0) (by omega)
  have hok1 := hG.ok hI (by omega) (h := 1) (by omega)
  have hsm0 := hG.small hI (h := 0) (by omega)
  have hcosts := hG.costs (by omega)
  have hpt := hG.pots hh
  have hpo := HT.pot_ge (t (1 - h))
  have hlen := hG.hlen hh
  have hlen2 := hG.hlen hk
  simp only [Nat.sub_zero] at hsm0
  have hsum : (ω.has 0).length + (ω.has 1).length = (ω.has h).length + (ω.has (1 - h)).length := by
    rcases (show h = 0 ∨ h = 1 by omega) with e | e
    · rw [e]
    · rw [e]; show (ω.has 0).length + (ω.has 1).length = (ω.has 1).length + (ω.has 0).length; omega
  have hlim := limH_bound (n := (ω.has 0).length + (ω.has 1).length) (by omega)
  obtain ⟨F', hA, hle, back⟩ := hW.warena
  simp only [go_sem, ws.p]
  refine MeterSteps_ok (K := fun _ _ _ => True) hA fun p _ hq => ?_
  simp only [go_sem]
  refine hq.mono fun v M' hv => ?_
  obtain ⟨rfl, rfl⟩ := hv
  simp only [go_sem, e1h, add_eq, Nat.zero_add, Int.toNat_natCast, Nat.mul_one, hh1, hh2, hk1, hk2, and_self, true_and, ws.p, ws.r h hh, ws.r (1 - h) hk]
  have hdj : ((t h).cells ++ (t (1 - h)).cells).Nodup := by
    rw [List.nodup_append]
    exact ⟨(hG.hp h hh).nd, (hG.hp _ hk).nd, fun x hx y hy e => hG.dj h hh x hx (e ▸ hy)⟩
  refine heap_meld_ok hA (hG.hp h hh) (hG.hp (1 - h) hk) hdj fun M2 γ t' hA2 hp2 hi2 hc2 he2 => ?_
  have hst := he2.steps ⟨hIst.1, hIst.2.2⟩
  have hpot := HT.pot_ge t'
  try rw [hlen, hlen2, ← hsum] at hst
  have hW2 := back M2 _ hA2
  have ws2 := hW2.wseen
  have z0 : (0 : Int) ≤ 0 := by omega
  have z1 : (0 : Int) < ((2 : Nat) : Int) := by omega
  have z2 : (0 : Int) ≤ 1 := by omega
  have z3 : (1 : Int) < ((2 : Nat) : Int) := by omega
  have t0 : (0 : Int).toNat = 0 := rfl
  have t1 : (1 : Int).toNat = 1 := rfl
  have hs0 := ws2.s 0 (by omega)
  have hs1 := ws2.s 1 (by omega)
  have hn0 := (hW2.whas (h := 0) (by omega) hok0 (by show (ω.has 0).length ≤ _; omega)).2
  have hn1 := (hW2.whas (h := 1) (by omega) hok1 (by show (ω.has 1).length ≤ _; omega)).2
  simp only [go_sem, add_eq, Nat.zero_add, Nat.add_zero, t0, t1, Nat.mul_one, Nat.zero_mul, Nat.one_mul, z0, z1, z2, z3, and_self, true_and, hs0, hs1]
  rw [show w64 (((sv 0).n : Int) + ((sv 1).n : Int)) = (((ω.has 0).length + (ω.has 1).length : Nat) : Int) from by
    rw [hn0, hn1]
    show w64 (((ω.has 0).length : Int) + ((ω.has 1).length : Int)) = _
    rw [w64_in (by omega)]; omega]
  refine cost_ok (lim := 500) hW2 (by omega) (by rw [if_neg (by omega)]) (by show 0 ≤ γ.steps - ω.α.steps ∧ γ.steps - ω.α.steps ≤ _; omega) hcosts.1 hcosts.2 (cost_ofM (t := t h) (u := t (1 - h)) (t' := t') (by show γ.steps - ω.α.steps + _ ≤ _; omega) hpt) fun M3 hW3 => ?_
  simp only [go_sem, Bool.not_true, bs_false, e1h, add_eq, Nat.zero_add, Int.toNat_natCast, Nat.mul_one, hh1, hh2, hk1, hk2, and_self, true_and]
  refine wst_r hW3 hh fun M4 hW4 => ?_
  refine wst_r hW4 hk fun M5 hW5 => ?_
  have hh5 := fun (X : Asn) (M : Mem) (hX : Holds w0 F M (star X (worldB w a sv ⟨γ, upd (upd ω.r h t'.root) (1 - h) (-1), ω.has, ω.next, ω.spent + (γ.steps - ω.α.steps), ω.most + 500⟩))) => (⟨hX.right.wseen.s h hh, hX.right.wseen.s (1 - h) hk, hX.right.whas hh hok (by show (ω.has h).length ≤ _; omega), hX.right.whas hk hokk (by show (ω.has (1 - h)).length ≤ _; omega)⟩ : rd w0 M ⟨w, 3 + h, none⟩ = some (sv h).v ∧ rd w0 M ⟨w, 3 + (1 - h), none⟩ = some (sv (1 - h)).v ∧ (RdF w0 M 3 (sv h) (flatH (ω.has h)) ∧ (sv h).n = (ω.has h).length) ∧ (RdF w0 M 3 (sv (1 - h)) (flatH (ω.has (1 - h))) ∧ (sv (1 - h)).n = (ω.has (1 - h)).length))
  have ws5 := hW5.wseen
  have hs5 := ws5.s h hh
  have hs5' := ws5.s (1 - h) hk
  simp only [go_sem, hs5, hs5']
  refine newH0 hW5 fun M6 s6 _ h6 => ?_
  obtain ⟨c1, c2, c3, c4⟩ := hh5 _ _ h6
  simp only [shS_sv, c1, c2, true_and]
  refine appW (ω := ω) hh h6 c3 (by simp; omega) fun M7 s7 h7 => ?_
  rw [List.nil_append] at h7
  obtain ⟨d1, d2, d3, d4⟩ := hh5 _ _ h7
  simp only [shS_sv, d2, true_and]
  refine appW (ω := ω) hk h7 d4 (by omega) fun M8 s8 h8 => ?_
  simp only [shS_sv]
  refine wst_s h8 hh fun M9 hW9 => ?_
  refine wst_snil hW9 hk fun M10 hW10 => ?_
  refine hR M10 _ _ hW10.wclose (hG.join hh hp2 hi2 (show γ.len = ω.α.len from by have h9 := he2.len; omega) (by omega) ?_ HT.pot_nil ?_) he2.n rfl rfl (upd_same _ _ _)
  · show ω.spent + (γ.steps - ω.α.steps) + _ ≤ ω.most + _
    omega
  · have := hG.most
    show 0 ≤ ω.spent + (γ.steps - ω.α.steps) ∧ ω.most + _ ≤ _
    omega


end
end Go.Proofs.YtbkicgfgpmekeaaGreat.HL

/-
  WdQ: a heap of the law is given up.
-/
set_option linter.unusedVariables false
set_option linter.unusedSimpArgs false
set_option maxRecDepth 100000
namespace Go.Proofs.YtbkicgfgpmekeaaGreat.HL
open Go.RowKit (Below)
open Go.Proofs

section
variable {w0 : World} {M M0 F : Mem} {R : Value → Mem → Prop} {w a : Nat} {sv : Nat → SV} {ω : WS}

theorem nodup_ints {l : List Nat} (h : l.Nodup) : (intsN l).Nodup := by
  unfold intsN
  exact List.Pairwise.map _ (fun a b hab e => hab (by omega)) h

theorem rdzR {s : SV} {l : List Int} (h : RdI w0 M0 .i64 s l) (hl : Mem.le M0 M) (j : Nat) {x : Int} (hx : l[j]? = some x) {K : Int → Prop} (hK : K x) :
    nc s.a fun a => (0 ≤ (j : Int) ∧ (j : Int) < ((s.n : Nat) : Int)) ∧ ob (rd w0 M (a.add j)) fun v => shI .i64 v fun n => K n := by
  have := rdy h hl j rfl hx hK
  simpa only [Int.toNat_natCast, Nat.mul_one] using this

/-- A heap is given up. -/
theorem wdrop_ok {T : Nat} {t : Nat → HT} (hW : Holds w0 F M (worldA w ω)) (hG : Good T ω t) (hT : T ≤ 100000) {h : Nat} (hh : h < 2)
    (hR : ∀ M' ω' t', Holds w0 F M' (worldA w ω') → Good (T + 1) ω' t' → ω'.α.n = ω.α.n → ω'.next = ω.next → ω'.has = upd ω.has h [] → R (.bool true) M') :
    C PP w0 Id.thicketlaw12_world_drop #[.pointer (some ⟨w, 0, none⟩), .int .i64 (h : Int)] R M := by
  apply thicketlaw12_world_drop.go
  intro pts H
  unfold thicketlaw12_world_drop.T
  obtain ⟨a, sv, hW⟩ := hW.wopen
  have hh1 : (0 : Int) ≤ (h : Int) := by omega
  have hh2 : (h : Int) < ((2 : Nat) : Int) := by omega
  have ws := hW.wseen
  have hI := hW.winv
  have hsmall := hG.small hI hh
  have hok := hG.ok hI (by omega) hh
  have hpt := hG.pots hh
  have hpo := HT.pot_ge (t (1 - h))
  have hpo2 := HT.pot_ge (t h)
  have hlen := hG.hlen hh
  obtain ⟨F', hA, hle, backP⟩ := hW.last4
  simp only [go_sem, add_eq, Nat.zero_add, Int.toNat_natCast, Nat.mul_one, hh1, hh2, and_self, true_and, ws.p, ws.r h hh]
  refine heap_drop_ok hA (hG.hp h hh) fun M1 s z γ hH1 hz hzs ⟨k1, he1⟩ hg1 => ?_
  have hzl : z.length = (ω.has h).length := by rw [hz.length_eq]; simp [intsN, hlen]
  have hzm : ∀ x ∈ z, ∃ c : Nat, x = (c : Int) ∧ c < 65536 ∧ c ∈ (t h).its.map (·.1) := fun x hx => by
    obtain ⟨c, hc, rfl⟩ := List.mem_map.1 (hz.mem_iff.1 hx)
    obtain ⟨y, hy, rfl⟩ := List.mem_map.1 hc
    have := AS.live_lt hI ((hG.hp h hh).live y.1 (HT.mem_its hy))
    have := hI.n
    exact ⟨y.1, rfl, by omega, hc⟩
  -- the book, with what came out known
  obtain ⟨F1, hle1, hS1, hW1⟩ : ∃ F1, Mem.le F F1 ∧ RdI w0 F1 .i64 s z ∧ Holds w0 F1 M1 (worldB w a sv { ω with α := γ }) := by
    have hX : Holds w0 F M1 (star (SlA s (z.map (Value.int .i64))) (worldB w a sv { ω with α := γ })) := by
      have := backP M1 _ hH1
      exact this.impP fun r ⟨r1, _, e1, g1, r2, _, e2, g2, r3, _, e3, g3, r4, r5, e4, g4, g5⟩ => by
        subst e4; subst e3; subst e2; subst e1
        refine ⟨r4 ++ (r1 ++ (r2 ++ (r3 ++ r5))), ?_, r4, _, rfl, g4, r1, _, rfl, g1, r2, _, rfl, g2, r3, _, rfl, g3, g5⟩
        refine ((((List.perm_append_comm_assoc r3 r4 r5).append_left r2).append_left r1)).trans ?_
        refine ((List.perm_append_comm_assoc r2 r4 _).append_left r1).trans ?_
        exact List.perm_append_comm_assoc r1 r4 _
    obtain ⟨F1, h1, h2, h3⟩ := hX.freeze (wf_all fun x hx => by obtain ⟨c, rfl, hc, _⟩ := hzm x hx; unfold In64; omega) (by omega)
    exact ⟨F1, h1, h3, h2⟩
  have ws1 := hW1.wseen
  have hs1 := ws1.s h hh
  simp only [go_sem, add_eq, Nat.zero_add, Int.toNat_natCast, Nat.mul_one, hh1, hh2, and_self, true_and, hs1]
  have hhas := hW1.whas hh hok (by show (ω.has h).length ≤ _; omega)
  refine cells_ok hW1 hhas.1 (by show (ω.has h).length ≤ _; omega) (fun x hx => (hok x hx).1) fun M2 s2 z2 l2 h2 hz2 hzs2 => ?_
  simp only [shS_sv]
  have hzz : z = z2 := sorted_eq hzs hzs2 (hz.trans (List.Perm.trans (by unfold intsN; exact List.Perm.map _ ((hG.its h hh).map _)) hz2.symm))
  subst hzz
  have hS2 := hS1.le h2.fr
  refine Same_ok hS2 (h2.rdI (wf_all fun x hx => by obtain ⟨c, rfl, hc, _⟩ := hzm x hx; unfold In64; omega) (by omega)) ?_
  rw [decide_eq_true rfl]
  simp only [shB_v, Bool.not_true, bs_false]
  have hW2 := h2.right
  -- one by one
  have hzn : z.Nodup := by
    refine hz.nodup_iff.2 (nodup_ints ?_)
    have hnd := (hG.hp h hh).nd
    exact HT.its_nodup hnd
  have hsn : s.n = z.length := hS1.len
  have key : ∀ (n j : Nat) (M' : Mem) (β : AS), z.length < j + n → j ≤ z.length → Holds w0 F1 M' (worldB w a sv { ω with α := β }) → (∃ k, AS.Eff (fun c => c ∈ (t h).cells) (fun c => c ∈ (t h).cells) (-((t h).its.length : Int) - (j : Int)) k ω.α β) → (∀ x ∈ (t h).its, β.get x.1 9 = -1) → (∀ (i : Nat) (c : Nat), j ≤ i → z[i]? = some (c : Int) → β.live c = true) → thicketlaw12_world_drop.L1 pts n (some ⟨w, 0, none⟩) (h : Int) s (j : Int) M' := by
    intro n
    induction n with
    | zero => intro j M' β h1 h2; omega
    | succ n ih =>
      intro j M' β h1 h2 hWj ⟨kj, hej⟩ hgj hlj
      have wsj := hWj.wseen
      rw [H.L1]
      unfold thicketlaw12_world_drop.L1.T
      rw [bs_decide]
      split
      · have hj : j < z.length := by omega
        have ex := List.getElem?_eq_getElem hj
        obtain ⟨c, hc, hc65, hcm⟩ := hzm z[j] (List.getElem_mem hj)
        rw [hc] at ex
        obtain ⟨y, hy, hyc⟩ := List.mem_map.1 hcm
        have hcl := hlj j c (Nat.le_refl _) ex
        have hg9 : β.get c 9 = -1 := by rw [← hyc]; exact hgj y hy
        simp only [go_sem, wsj.p, Int.toNat_natCast, Nat.mul_one]
        refine rdzR hS1 hWj.fr j ex ?_
        obtain ⟨F2, hA2, hle2, back2⟩ := hWj.warena
        refine Node_ok hA2 fun M3 hA3 => ?_
        rw [show AS.cellI β (c : Int) 9 = -1 from AS.cellI_neg (f := 9) hcl (by omega) hg9]
        have hW3 := back2 M3 _ hA3
        have ws3 := hW3.wseen
        simp only [go_sem, bs_bne, if_true, ws3.p]
        refine rdzR hS1 hW3.fr j ex ?_
        refine Give_ok hA3 fun M4 hA4 => ?_
        have hlv : β.tick.live c = true := hcl
        rw [show AS.giveI β.tick (c : Int) = β.tick.unlive c from AS.giveI_live hlv] at hA4
        rw [show AS.liveI β.tick (c : Int) = true from by rw [AS.liveI_nat]; exact hlv]
        simp only [go_sem, Bool.not_true, bs_false]
        rw [w64_in (by omega)]
        have hcc : c ∈ (t h).cells := by rw [← hyc]; exact HT.mem_its hy
        refine ih (j + 1) M4 (β.tick.unlive c).tick (by omega) (by omega) (back2 M4 _ hA4) ⟨_, ((hej.tick.trans (AS.unlive_eff (AS.tick_inv hA2.inv) hlv hcc)).tick).to (by omega)⟩ (fun x hx => hgj x hx) (fun i d hi hd => ?_)
        have hdc : d ≠ c := fun e => by
          subst e
          have h5 := (List.getElem?_eq_some_iff.1 hd).1
          have h6 := (List.pairwise_iff_getElem.1 hzn) j i hj h5 (by omega)
          rw [List.getElem?_eq_getElem h5] at hd
          rw [List.getElem?_eq_getElem hj] at ex
          exact h6 (by rw [Option.some.inj ex, Option.some.inj hd])
        show (if d = c then false else β.live d) = true
        rw [if_neg hdc]
        exact hlj i d (by omega) hd
      · have hj : j = z.length := by omega
        subst hj
        simp only [go_sem, add_eq, Nat.zero_add, Int.toNat_natCast, Nat.mul_one, hh1, hh2, and_self, true_and]
        refine wst_r hWj hh fun M3 hW3 => ?_
        refine wst_snil hW3 hh fun M4 hW4 => ?_
        refine hR M4 _ (upd t h HT.nil) (hW4.wclose.le_frame hle1) (hG.put (T' := T + 1) hh (Hp.nilH β) (hG.other hh hej (fun c hc => .inl hc) (fun c hc => .inl hc)) (by rw [HT.nil_its]) (fun c hc => by rw [HT.nil_cells] at hc; cases hc) ?_ (fun x hx => by cases hx) (Int.le_refl _) ?_ (show ω.next ≤ ((T + 1 : Nat) : Int) from by have := hG.next.2; omega) ?_ ?_) hej.n rfl rfl
        · have h5 := hej.len
          have h6 := hG.len_h hh
          rw [List.length_nil, Nat.zero_add]
          have h7 : ((t h).its.length : Int) = ((ω.has h).length : Int) := by rw [hlen]
          have h8 : (z.length : Int) = ((ω.has h).length : Int) := by rw [hzl]
          rw [h7, h8] at h5
          have h9 : (β.len : Int) = (ω.α.len : Int) + (-((ω.has h).length : Int) - ((ω.has h).length : Int)) := h5
          show β.len = _
          omega
        · have h5 := hG.ser_h hh
          rw [List.nil_append]
          exact h5.sublist ((List.sublist_append_right _ _).map _)
        · show ω.spent + HT.pot HT.nil + HT.pot (t (1 - h)) ≤ ω.most
          rw [HT.pot_nil]; omega
        · have := hG.most
          show 0 ≤ ω.spent ∧ ω.most ≤ _
          omega
  refine ⟨z.length + 1, key (z.length + 1) 0 M2 γ (by omega) (by omega) hW2 ⟨k1, (he1.mono (fun _ h => h) (fun c hc => HT.mem_nds hc) (Int.le_refl _)).to (by omega)⟩ (fun x hx => (hg1 x hx).1) (fun i c _ hi => ?_)⟩
  obtain ⟨d, hd, _, hdm⟩ := hzm (c : Int) (List.mem_of_getElem? hi)
  obtain ⟨y, hy, hyd⟩ := List.mem_map.1 hdm
  have : c = y.1 := by omega
  rw [this]
  exact (hg1 y hy).2

end
end Go.Proofs.YtbkicgfgpmekeaaGreat.HL

/-
  WdH: the law's looks: a node, and the item that it has.
-/
set_option linter.unusedVariables false
set_option linter.unusedSimpArgs false
set_option maxRecDepth 100000
namespace Go.Proofs.YtbkicgfgpmekeaaGreat.HL
open Go.RowKit (Below)
open Go.Proofs

section
variable {w0 : World} {M M0 F : Mem} {R : Value → Mem → Prop} {w a : Nat} {sv : Nat → SV} {ω : WS}

theorem wnode_ok (hW : Holds w0 F M (worldB w a sv ω)) {h : Nat} (hh : h < 2) (hok : ∀ x ∈ ω.has h, okHd x) (hlen : (ω.has h).length ≤ 100000) (hinj : ∀ x ∈ ω.has h, ∀ y ∈ ω.has h, x.1 = y.1 → x = y) {n i : Nat} {e : Ent} (hn : ω.α.Nd n i e) (hm : (i, e) ∈ ω.has h)
    (hR : ∀ M' β, Holds w0 F M' (worldB w a sv { ω with α := β }) → AS.Sm 4 ω.α β → R (.tuple #[.agg #[.int .i64 (i : Int), .int .i64 e.1, .int .i64 e.2], .bool true]) M') :
    C PP w0 Id.thicketlaw12_world_node #[.pointer (some ⟨w, 0, none⟩), .int .i64 (h : Int), .int .i64 (n : Int)] R M := by
  apply thicketlaw12_world_node.go
  intro pts H
  unfold thicketlaw12_world_node.T
  have hh1 : (0 : Int) ≤ (h : Int) := by omega
  have hh2 : (h : Int) < ((2 : Nat) : Int) := by omega
  intro b1 hb1 hw1
  have hN1 := hW.new hb1 hw1 [.int .i64 0, .int .i64 0, .int .i64 0] 57
  generalize M.set b1 (.row [.int .i64 0, .int .i64 0, .int .i64 0] 57) = M1 at hN1 ⊢
  have hW1 : Holds w0 F M1 (worldB w a sv ω) := hN1.right
  have ws1 := hW1.wseen
  have hI := hW.winv
  simp only [go_sem, ws1.p]
  obtain ⟨F1, hX1, hle1, back1⟩ := Holds.last hN1
  obtain ⟨F2, hA2, hle2, back2⟩ := hX1.warena
  refine Cell_ok hA2 fun M2 hA3 => ?_
  rw [show ω.α.cellI (n : Int) 6 = (i : Int) from AS.cellI_live (f := 6) hn.ln (by omega) hn.it (AS.live_lt hI hn.li)]
  have hN2 := back1 M2 _ (back2 M2 _ hA3)
  simp only [go_sem]
  obtain ⟨k0, hk0⟩ := List.getElem?_of_mem hm
  have key : ∀ (fuel k : Nat) (M' : Mem), k ≤ k0 → k0 < k + fuel → Holds w0 F M' (star (row1 b1 [.int .i64 0, .int .i64 0, .int .i64 0] 57) (worldB w a sv { ω with α := ω.α.tick })) → thicketlaw12_world_node.L1 pts fuel (some ⟨w, 0, none⟩) (h : Int) (n : Int) ⟨b1, 0, none⟩ (i : Int) (k : Int) M' := by
    intro fuel
    induction fuel with
    | zero => intro k M' h1 h2; omega
    | succ fuel ih =>
      intro k M' h1 h2 hN
      rw [H.L1]
      unfold thicketlaw12_world_node.L1.T
      have hWc : Holds w0 F M' (worldB w a sv { ω with α := ω.α.tick }) := Holds.right hN
      have wsc := hWc.wseen
      have hsc := wsc.s h hh
      have hhc := hWc.whas hh hok hlen
      have hk0l := (List.getElem?_eq_some_iff.1 hk0).1
      have hkl : k < (ω.has h).length := by omega
      have ex := List.getElem?_eq_getElem hkl
      generalize (ω.has h)[k] = x at ex
      simp only [go_sem, add_eq, Nat.zero_add, Int.toNat_natCast, Nat.mul_one, hh1, hh2, and_self, true_and, hsc, bs_decide]
      rw [if_pos (by rw [hhc.2]; show (k : Int) < (((ω.has h).length : Nat) : Int); omega)]
      refine rdHR hhc.1 (Mem.le_refl _) k ex ?_
      intro b2 hb2 hw2
      have hP := Holds.new hN hb2 hw2 [.int .i64 0, .int .i64 0, .int .i64 0] 57
      refine st_agg (vs := [.int .i64 (x.1 : Int), .int .i64 x.2.1, .int .i64 x.2.2]) W.g57 (Holds.own1 hP) (by simp) (by intro v hv; simp only [List.mem_cons, List.not_mem_nil, or_false] at hv; rcases hv with rfl | rfl | rfl <;> rfl) ?_
      have hP2 := Holds.upd1 hP (cs' := over [.int .i64 0, .int .i64 0, .int .i64 0] 0 [.int .i64 (x.1 : Int), .int .i64 x.2.1, .int .i64 x.2.2]) (e' := 57)
      generalize (M'.set b2 (.row [.int .i64 0, .int .i64 0, .int .i64 0] 57)).set b2 (.row (over [.int .i64 0, .int .i64 0, .int .i64 0] 0 [.int .i64 (x.1 : Int), .int .i64 x.2.1, .int .i64 x.2.2]) 57) = M3 at hP2 ⊢
      obtain ⟨F3, hle3, hown3, hN3⟩ := Holds.freeze1 hP2
      change Own w0 F3 b2 [.int .i64 (x.1 : Int), .int .i64 x.2.1, .int .i64 x.2.2] 57 at hown3
      have x0 : ∀ M', Mem.le F3 M' → rd w0 M' ⟨b2, 0, none⟩ = some (.int .i64 (x.1 : Int)) := fun M' hl => by rw [rd_own (hown3.le hl)]; rfl
      have xa : ∀ M', Mem.le F3 M' → (std PP w0).ld 57 ⟨b2, 0, none⟩ M' = some (.agg #[.int .i64 (x.1 : Int), .int .i64 x.2.1, .int .i64 x.2.2]) := fun M' hl => ld_agg (cs := [.int .i64 (x.1 : Int), .int .i64 x.2.1, .int .i64 x.2.2]) W.g57 (fun j v hj => by rw [add_eq, rd_own (hown3.le hl), Nat.zero_add]; exact hj)
      have xe : ∀ M', Mem.le F3 M' → (std PP w0).ld 55 ⟨b2, 1, none⟩ M' = some (.agg #[.int .i64 x.2.1, .int .i64 x.2.2]) := fun M' hl => ld_agg (cs := [.int .i64 x.2.1, .int .i64 x.2.2]) W.g55 (fun j v hj => by rw [add_eq, rd_own (hown3.le hl), Nat.add_comm, List.getElem?_cons_succ]; exact hj)
      simp only [x0 _ hN3.fr, ob_v, shI_v, bs_beq]
      split
      · rename_i hxi
        have hxx : x = (i, e) := hinj x (List.mem_of_getElem? ex) (i, e) hm (by show x.1 = i; omega)
        subst hxx
        have hW3 : Holds w0 F3 M3 (worldB w a sv { ω with α := ω.α.tick }) := Holds.right hN3
        have ws3 := hW3.wseen
        simp only [xa _ hN3.fr, go_sem, ws3.p]
        obtain ⟨F4, hX4, hle4, back4⟩ := Holds.last hN3
        obtain ⟨F5, hA5, hle5, back5⟩ := hX4.warena
        refine Cell_ok hA5 fun M4 hA6 => ?_
        rw [show AS.cellI ω.α.tick (i : Int) 9 = (n : Int) from AS.cellI_live (α := ω.α.tick) (f := 9) hn.li (by omega) hn.nd (AS.live_lt hI hn.ln)]
        have hN4 := back4 M4 _ (back5 M4 _ hA6)
        have ws4 := (Holds.right hN4 : Holds w0 F3 M4 (worldB w a sv _)).wseen
        simp only [go_sem, if_true, ws4.p, add_eq, Nat.zero_add, xe _ hN4.fr, xa _ hN4.fr, true_and]
        refine Entry_ok hA6 fun M5 hA7 => ?_
        have e7 : AS.getI ω.α.tick.tick (i : Int) 7 = e.1 := (AS.getI_live (α := ω.α.tick.tick) (f := 7) hn.li (by omega)).trans hn.k
        have e8 : AS.getI ω.α.tick.tick (i : Int) 8 = e.2 := (AS.getI_live (α := ω.α.tick.tick) (f := 8) hn.li (by omega)).trans hn.s
        have hN5 := back4 M5 _ (back5 M5 _ hA7)
        simp only [e7, e8, go_sem]
        rw [eqE]
        simp only [beq_self_eq_true, Bool.and_self, go_sem, xa _ hN5.fr, xe _ hN5.fr, true_and]
        refine st_agg (vs := [.int .i64 (i : Int), .int .i64 e.1, .int .i64 e.2]) W.g57 (Holds.own1 hN5) (by simp) (by intro v hv; simp only [List.mem_cons, List.not_mem_nil, or_false] at hv; rcases hv with rfl | rfl | rfl <;> rfl) ?_
        have hN6 := Holds.upd1 hN5 (cs' := over [.int .i64 0, .int .i64 0, .int .i64 0] 0 [.int .i64 (i : Int), .int .i64 e.1, .int .i64 e.2]) (e' := 57)
        have o6 := Holds.own1 hN6
        rw [rdv_ptr, ld_agg (cs := [.int .i64 (i : Int), .int .i64 e.1, .int .i64 e.2]) W.g57 (fun j v hj => by rw [add_eq, rd_own o6, Nat.zero_add]; exact hj)]
        simp only [xe _ hN6.fr, true_and, ob_v]
        exact hR _ _ ((Holds.right hN6 : Holds w0 F3 _ (worldB w a sv _)).le_frame hle3) ((((AS.tick_sm.trans AS.tick_sm).trans AS.tick_sm).trans AS.tick_sm).mono (by omega))
      · rename_i hxi
        have hne : k ≠ k0 := fun e0 => hxi (by subst e0; rw [ex] at hk0; cases hk0; rfl)
        rw [w64_in (by omega)]
        exact ih (k + 1) M3 (by omega) (by omega) (hN3.le_frame hle3)
  exact ⟨k0 + 1, key (k0 + 1) 0 M2 (by omega) (by omega) hN2⟩

end
end Go.Proofs.YtbkicgfgpmekeaaGreat.HL

/-
  FbS: Fibonacci heaps: the law's look at the shape.
-/
set_option linter.unusedVariables false
set_option linter.unusedSimpArgs false
set_option maxRecDepth 100000
namespace Go.Proofs.YtbkicgfgpmekeaaGreat.HL
open Go.RowKit (Below)
open Go.Proofs

theorem LT.Rep.sq {α β : AS} {t : LT} {up : Int} (h : LT.Rep α up t) (hn : (LT.cells t).Nodup) (hq : AS.Sq α β) : LT.Rep β up t := h.same hn (fun c _ f => by rw [hq.get]) (fun c _ => by rw [hq.live])
theorem LT.RgL.sq {α β : AS} {l : List Nat} (h : LT.RgL α l) (hq : AS.Sq α β) : LT.RgL β l := h.congr (fun _ _ => by rw [hq.get]) (fun _ _ => by rw [hq.get]) (fun _ _ => by rw [hq.live])
theorem AS.Sq.nd {α β : AS} {n i : Nat} {e : Ent} (h : AS.Sq α β) (hn : α.Nd n i e) : β.Nd n i e := h.choose_spec.nd hn
theorem LT.fb_le : ∀ (k : Nat), LT.fb k ≤ 2 ^ k
  | 0 => by decide
  | 1 => by decide
  | k + 2 => by
    have h1 := LT.fb_le k
    have h2 := LT.fb_le (k + 1)
    show LT.fb k + LT.fb (k + 1) ≤ _
    rw [Nat.pow_succ] at h2 ⊢
    rw [Nat.pow_succ]
    omega

section
variable {w0 : World} {w a : Nat} {sv : Nat → SV} {ω : WS}
open Go.Proofs.YtbkicgfgpmekeaaGreat.HL.LT

theorem eqHeld {X Y : Operand} (x : Held) : (std PP w0).bq .neq 57 X Y (.agg #[.int .i64 (x.1 : Int), .int .i64 x.2.1, .int .i64 x.2.2]) (.agg #[.int .i64 (x.1 : Int), .int .i64 x.2.1, .int .i64 x.2.2]) = some (.bool false) := by
  have hE := equal_struct (P := PP) (d := 9998) (es := [x.2.1 == x.2.1, x.2.2 == x.2.2]) (xs := #[.int .i64 x.2.1, .int .i64 x.2.2]) (ys := #[.int .i64 x.2.1, .int .i64 x.2.2]) Tryz.underlying55 (by kernel_rfl)
    ⟨by decide, ⟨.int .i64 x.2.1, .int .i64 x.2.1, by kernel_rfl, by kernel_rfl, equal_int Tryz.underlying2 x.2.1 x.2.1⟩, by decide, ⟨.int .i64 x.2.2, .int .i64 x.2.2, by kernel_rfl, by kernel_rfl, equal_int Tryz.underlying2 x.2.2 x.2.2⟩, trivial⟩
  have := neq_struct (w0 := w0) (X := X) (Y := Y) (es := [(x.1 : Int) == (x.1 : Int), [x.2.1 == x.2.1, x.2.2 == x.2.2].all id]) (xs := #[.int .i64 (x.1 : Int), .int .i64 x.2.1, .int .i64 x.2.2]) (ys := #[.int .i64 (x.1 : Int), .int .i64 x.2.1, .int .i64 x.2.2]) Tryz.underlying57 (by kernel_rfl) (by kernel_rfl)
    ⟨by decide, ⟨.int .i64 (x.1 : Int), .int .i64 (x.1 : Int), by kernel_rfl, by kernel_rfl, equal_int Tryz.underlying3 (x.1 : Int) (x.1 : Int)⟩, by decide, ⟨.agg #[.int .i64 x.2.1, .int .i64 x.2.2], .agg #[.int .i64 x.2.1, .int .i64 x.2.2], by kernel_rfl, by kernel_rfl, hE⟩, trivial⟩
  simpa [List.all] using this

/-- A place of its own for an item. -/
theorem box3 {F M : Mem} {P : Asn} (hW : Holds w0 F M P) (x : Held) {K : Nat → Mem → Prop} (hK : ∀ b F1 M1, Mem.le F F1 → Holds w0 F1 M1 P → (∀ M', Mem.le F1 M' → (std PP w0).ld 57 ⟨b, 0, none⟩ M' = some (.agg #[.int .i64 (x.1 : Int), .int .i64 x.2.1, .int .i64 x.2.2])) → K b M1) :
    (std PP w0).nw [.int .i64 0, .int .i64 0, .int .i64 0] 57 (fun b M22 => (std PP w0).st 57 ⟨b, 0, none⟩ (.agg #[.int .i64 (x.1 : Int), .int .i64 x.2.1, .int .i64 x.2.2]) (fun M23 => K b M23) M22) M := by
  intro b2 hb2 hw2
  have hP := Holds.new hW hb2 hw2 [.int .i64 0, .int .i64 0, .int .i64 0] 57
  refine st_agg (vs := [.int .i64 (x.1 : Int), .int .i64 x.2.1, .int .i64 x.2.2]) W.g57 (Holds.own1 hP) (by simp) (by intro v hv; simp only [List.mem_cons, List.not_mem_nil, or_false] at hv; rcases hv with rfl | rfl | rfl <;> rfl) ?_
  have hP2 := Holds.upd1 hP (cs' := over [.int .i64 0, .int .i64 0, .int .i64 0] 0 [.int .i64 (x.1 : Int), .int .i64 x.2.1, .int .i64 x.2.2]) (e' := 57)
  obtain ⟨F3, hle3, hown3, hW3⟩ := Holds.freeze1 hP2
  change Own w0 F3 b2 [.int .i64 (x.1 : Int), .int .i64 x.2.1, .int .i64 x.2.2] 57 at hown3
  exact hK b2 F3 _ hle3 hW3 fun M' hl => ld_agg (cs := [.int .i64 (x.1 : Int), .int .i64 x.2.1, .int .i64 x.2.2]) W.g57 (fun j v hj => by rw [add_eq, rd_own (hown3.le hl), Nat.zero_add]; exact hj)
theorem box3' {F M : Mem} {P : Asn} (hW : Holds w0 F M P) (x : Held) {K : Nat → Mem → Prop} (hK : ∀ b F1 M1, Mem.le F F1 → Holds w0 F1 M1 P → (∀ M', Mem.le F1 M' → (std PP w0).ld 57 ⟨b, 0, none⟩ M' = some (.agg #[.int .i64 (x.1 : Int), .int .i64 x.2.1, .int .i64 x.2.2])) → K b M1) :
    (std PP w0).nw [.int .i64 (x.1 : Int), .int .i64 x.2.1, .int .i64 x.2.2] 57 (fun b M22 => K b M22) M := by
  intro b1 hb1 hw1
  have hN1 := hW.new hb1 hw1 [.int .i64 (x.1 : Int), .int .i64 x.2.1, .int .i64 x.2.2] 57
  obtain ⟨F1, hle1, hown1, hW1⟩ := Holds.freeze1 hN1
  exact hK b1 F1 _ hle1 hW1 fun M' hl => ld_agg (cs := [.int .i64 (x.1 : Int), .int .i64 x.2.1, .int .i64 x.2.2]) W.g57 (fun j v hj => by rw [add_eq, rd_own (hown1.le hl), Nat.zero_add]; exact hj)

/-- The law's look at a ring. -/
theorem wring_ok {F M : Mem} {R : Value → Mem → Prop} (hW : Holds w0 F M (worldB w a sv ω)) {h : Nat} (hh : h < 2) (hok : ∀ x ∈ ω.has h, okHd x) (hlen : (ω.has h).length ≤ 100000) {L : List Nat} (hr : RgL ω.α L) (hL : L.length ≤ (ω.has h).length)
    (hR : ∀ M' s F' β, Mem.le F F' → Holds w0 F' M' (worldB w a sv { ω with α := β }) → RdI w0 F' .i64 s (intsN L) → AS.Sq ω.α β → R (.tuple #[SV.v s, .bool true]) M') : C PP w0 Id.thicketlaw12_world_ring #[.pointer (some ⟨w, 0, none⟩), .int .i64 (h : Int), .int .i64 (hd1 L)] R M := by
  apply thicketlaw12_world_ring.go
  intro pts H
  unfold thicketlaw12_world_ring.T
  have hh1 : (0 : Int) ≤ (h : Int) := by omega
  have hh2 : (h : Int) < ((2 : Nat) : Int) := by omega
  have hI := hW.winv
  have h65 := hI.n
  cases L with
  | nil =>
    rw [show hd1 [] = -1 from rfl, bs_beq, if_pos rfl]
    obtain ⟨F', hle, hW', hs⟩ := (Holds.nilSl hW).freeze (l := []) (fun n hn => by cases hn) (by simp)
    exact hR M ⟨none, 0, 0⟩ F' ω.α hle hW' hs AS.Sq.refl
  | cons c r =>
    have hring : ω.α.Ring c r := hr
    have hlv : ∀ x ∈ c :: r, x < 65536 := fun x hx => by have := AS.live_lt hI (hring.live x hx); omega
    rw [show hd1 (c :: r) = (c : Int) from rfl, bs_beq, if_neg (by omega)]
    simp only [List.length_cons] at hL
    have key : ∀ (q p : List Nat) (k : Nat) (s : SV) (M' : Mem) (γ : AS), q.length < k → c :: r = c :: p ++ q → Holds w0 F M' (star (SlA s ((intsN (c :: p)).map (Value.int .i64))) (worldB w a sv { ω with α := γ })) → AS.Sq ω.α γ → thicketlaw12_world_ring.L1 pts k (some ⟨w, 0, none⟩) (h : Int) (c : Int) s ((q.headD c : Nat) : Int) M' := by
      intro q
      induction q with
      | nil =>
        intro p k s M' γ hk hq hH hs
        obtain ⟨k, rfl⟩ : ∃ k', k = k' + 1 := ⟨k - 1, by simp at hk; omega⟩
        rw [H.L1]
        unfold thicketlaw12_world_ring.L1.T
        rw [List.append_nil] at hq
        have hpr : p = r := by
          simp only [List.cons.injEq, true_and] at hq
          exact hq.symm
        subst hpr
        simp only [List.headD_nil, bs_bne, if_true]
        have rdl : ∀ {M2 : Mem} {Q : Asn}, Holds w0 F M2 (star (SlA s ((intsN (c :: p)).map (Value.int .i64))) Q) → ∃ ad, s.a = some ad ∧ rd w0 M2 (ad.add p.length) = some (.int .i64 ((p.getLastD c : Nat) : Int)) ∧ s.n = p.length + 1 := fun {M2 Q} hX => by
          obtain ⟨hc, hn⟩ := hX.cells
          obtain ⟨ad, ea, hr⟩ := hc p.length (.int .i64 ((p.getLastD c : Nat) : Int)) (by
            have : (c :: p)[p.length]? = some (p.getLastD c) := by
              rw [List.getLastD_eq_getLast?, ← List.getLast?_cons, List.getLast?_eq_getElem?]; simp
            simp only [intsN, List.map_map, List.getElem?_map, this]; rfl)
          exact ⟨ad, ea, hr, by rw [hn]; simp [intsN]⟩
        obtain ⟨ad, ea, hr1, hsn⟩ := rdl hH
        have hpl : p.length ≤ 100000 := by omega
        have hw1 : w64 ((s.n : Int) - 1) = (p.length : Int) := by rw [hsn, w64_in (by omega)]; omega
        have ws := hH.right.wseen
        have hp : rd w0 M' ⟨w, 0, none⟩ = some (.pointer (some ⟨a, 0, none⟩)) := ws.p
        simp only [nc_v, ob_v, shP_v, ld_one W.c30, hp, hw1, ea, Int.toNat_natCast, Nat.mul_one, ld_one W.c3, hr1, shI_v]
        refine ⟨⟨by omega, by omega⟩, ?_⟩
        obtain ⟨F1, hX1, hle1, back1⟩ := hH.last
        obtain ⟨F2, hA2, hle2, back2⟩ := hX1.warena
        have hcl : γ.live c = true := by rw [hs.live]; exact hring.live c List.mem_cons_self
        refine Cell_ok hA2 fun M2 hA3 => ?_
        have hleft := hring.left
        rw [show γ.cellI (c : Int) 2 = ((p.getLastD c : Nat) : Int) from AS.cellI_live (f := 2) hcl (by omega) (by rw [hs.get]; exact hleft) (AS.live_lt hA2.inv (by rw [hs.live]; exact hring.live _ (AS.last_mem c p)))]
        have hH2 := back1 M2 _ (back2 M2 _ hA3)
        obtain ⟨ad2, ea2, hr2, _⟩ := rdl hH2
        rw [ea] at ea2; cases ea2
        simp only [shI_v, hr2, true_and]
        have hb : ((((p.getLastD c : Nat) : Int) == ((p.getLastD c : Nat) : Int))) = true := by simp
        rw [hb]
        obtain ⟨F3, hle3, hW3, hs3⟩ := hH2.freeze (fun n hn => by
          obtain ⟨z, hz, rfl⟩ := List.mem_map.1 hn
          have := hlv z hz
          exact wf64 (by unfold In64; omega)) (by simp [intsN]; omega)
        exact hR M2 s F3 γ.tick hle3 hW3 hs3 (hs.trans AS.tick_sm.sq)
      | cons d q ih =>
        intro p k s M' γ hk hq hH hs
        obtain ⟨k, rfl⟩ : ∃ k', k = k' + 1 := ⟨k - 1, by simp at hk; omega⟩
        rw [H.L1]
        unfold thicketlaw12_world_ring.L1.T
        have hdm : d ∈ c :: r := by rw [hq]; simp
        have hdc : ¬ ((d : Int) = (c : Int)) := fun e => by
          have hnd := hring.nd
          rw [hq, List.cons_append, List.nodup_cons] at hnd
          exact hnd.1 (by rw [show c = d from by omega]; simp)
        have hlr : r.length = p.length + (q.length + 1) := by
          have := congrArg List.length hq
          simp only [List.length_cons, List.length_append] at this; omega
        simp only [List.headD_cons, bs_bne, if_neg hdc, bs_beq]
        rw [if_neg (show ¬ ((d : Int) = -1) from by omega)]
        have rdl : ∀ {M2 : Mem} {Q : Asn}, Holds w0 F M2 (star (SlA s ((intsN (c :: p)).map (Value.int .i64))) Q) → ∃ ad, s.a = some ad ∧ rd w0 M2 (ad.add p.length) = some (.int .i64 ((p.getLastD c : Nat) : Int)) ∧ s.n = p.length + 1 := fun {M2 Q} hX => by
          obtain ⟨hc, hn⟩ := hX.cells
          obtain ⟨ad, ea, hr⟩ := hc p.length (.int .i64 ((p.getLastD c : Nat) : Int)) (by
            have : (c :: p)[p.length]? = some (p.getLastD c) := by
              rw [List.getLastD_eq_getLast?, ← List.getLast?_cons, List.getLast?_eq_getElem?]; simp
            simp only [intsN, List.map_map, List.getElem?_map, this]; rfl)
          exact ⟨ad, ea, hr, by rw [hn]; simp [intsN]⟩
        obtain ⟨ad, ea, hr1, hsn⟩ := rdl hH
        have hw1 : w64 ((s.n : Int) - 1) = (p.length : Int) := by rw [hsn, w64_in (by omega)]; omega
        have ws := hH.right.wseen
        have hp : rd w0 M' ⟨w, 0, none⟩ = some (.pointer (some ⟨a, 0, none⟩)) := ws.p
        have hs3 : rd w0 M' ⟨w, 3 + h, none⟩ = some (sv h).v := ws.s h hh
        have hn := (hH.right.whas hh hok hlen).2
        have hn' : (sv h).n = (ω.has h).length := hn
        simp only [nc_v, ob_v, add_eq, Nat.zero_add, Int.toNat_natCast, Nat.mul_one, ld_one W.c32, hs3, shS_sv]
        refine ⟨⟨hh1, hh2⟩, ?_⟩
        rw [bs_decide, if_neg (by rw [hn', hsn]; omega)]
        simp only [shP_v, ld_one W.c30, hp, ob_v, hw1, ea, nc_v, Int.toNat_natCast, ld_one W.c3, hr1, shI_v]
        refine ⟨⟨by omega, by omega⟩, ?_⟩
        obtain ⟨F1, hX1, hle1, back1⟩ := hH.last
        obtain ⟨F2, hA2, hle2, back2⟩ := hX1.warena
        have hdl : γ.live d = true := by rw [hs.live]; exact hring.live d hdm
        have hringd : ω.α.Ring d (q ++ c :: p) := by
          have e1 : r = p ++ d :: q := by
            rw [List.cons_append] at hq; injection hq
          have h9 := hring
          rw [e1] at h9
          exact h9.turn
        have hleft := hringd.left
        rw [AS.last_append] at hleft
        have hlm : p.getLastD c ∈ c :: r := by
          have := AS.last_mem c p
          rw [hq]; exact List.mem_append_left _ this
        refine Cell_ok hA2 fun M2 hA3 => ?_
        rw [show γ.cellI (d : Int) 2 = ((p.getLastD c : Nat) : Int) from AS.cellI_live (f := 2) hdl (by omega) (by rw [hs.get]; exact hleft) (AS.live_lt hA2.inv (by rw [hs.live]; exact hring.live _ hlm))]
        have hH2 := back1 M2 _ (back2 M2 _ hA3)
        obtain ⟨ad2, ea2, hr2, _⟩ := rdl hH2
        rw [ea] at ea2; cases ea2
        simp only [shI_v, hr2, true_and, bs_bne, if_true]
        refine push_ok (K := fun s28 M27 => thicketlaw12_world_ring.J2 pts k (some ⟨w, 0, none⟩) (h : Int) (c : Int) s28 (d : Int) M27) hH2 (by simp [intsN]; omega) fun M3 s3 hH3 => ?_
        rw [show intsN (c :: p) ++ [(d : Int)] = intsN (c :: (p ++ [d])) from by simp [intsN]] at hH3
        rw [H.J2]
        unfold thicketlaw12_world_ring.J2.T
        have hp3 : rd w0 M3 ⟨w, 0, none⟩ = some (.pointer (some ⟨a, 0, none⟩)) := hH3.right.wseen.p
        simp only [nc_v, ob_v, shP_v, ld_one W.c30, hp3]
        obtain ⟨F4, hX4, hle4, back4⟩ := hH3.last
        obtain ⟨F5, hA5, hle5, back5⟩ := hX4.warena
        refine Cell_ok hA5 fun M4 hA6 => ?_
        have hqm : (q.headD c) ∈ c :: r := by
          rw [hq]; cases q <;> simp
        have hnx : γ.tick.get d 3 = ((q.headD c : Nat) : Int) := by
          show γ.get d 3 = _
          rw [hs.get, hringd.right]
          cases q <;> rfl
        rw [show AS.cellI γ.tick (d : Int) 3 = ((q.headD c : Nat) : Int) from AS.cellI_live (α := γ.tick) (f := 3) hdl (by omega) hnx (AS.live_lt hA5.inv (by show γ.live _ = true; rw [hs.live]; exact hring.live _ hqm))]
        simp only [shI_v]
        exact ih (p ++ [d]) k s3 M4 γ.tick.tick (by simp at hk; omega) (by rw [hq]; simp) (back4 M4 _ (back5 M4 _ hA6)) (hs.trans (AS.tick_sm.trans AS.tick_sm).sq)
    have hwfc : ∀ n ∈ [(c : Int)], (Lit.int .i64 n).wf = true := fun n hn => by
      simp only [List.mem_cons, List.not_mem_nil, or_false] at hn
      subst hn
      have := hlv c List.mem_cons_self
      exact wf64 (by unfold In64; omega)
    refine bsl_ints (k := .i64) (l := [(c : Int)]) (Mem.le_refl _) Tryz.underlying61 W.e3 (n := 1) (by decide) (by kernel_rfl) rfl fun M1 o l1 _ h1 => ?_
    have hH := hW.newSl l1 h1
    have hp : rd w0 M1 ⟨w, 0, none⟩ = some (.pointer (some ⟨a, 0, none⟩)) := hH.right.wseen.p
    simp only [shS_sv, nc_v, ob_v, shP_v, ld_one W.c30, hp]
    obtain ⟨F1, hX1, hle1, back1⟩ := hH.last
    obtain ⟨F2, hA2, hle2, back2⟩ := hX1.warena
    refine Cell_ok hA2 fun M2 hA3 => ?_
    have hhm : r.headD c ∈ c :: r := by cases r <;> simp
    rw [show ω.α.cellI (c : Int) 3 = ((r.headD c : Nat) : Int) from AS.cellI_live (f := 3) (hring.live c List.mem_cons_self) (by omega) hring.right (AS.live_lt hI (hring.live _ hhm))]
    simp only [shI_v]
    exact ⟨r.length + 1, key r [] (r.length + 1) o M2 ω.α.tick (by omega) (by simp) (back1 M2 _ (back2 M2 _ hA3)) AS.tick_sm.sq⟩

/-- Each node of a row has the shape, with all that is below it. -/
def TA (w0 : World) (w a : Nat) (sv : Nat → SV) (ω : WS) (h : Nat) : LT → Prop
  | .nil => True
  | .node n i e m l r => (∀ (F M : Mem) (α : AS) (R : Value → Mem → Prop) (up : Int) (ab : Held) (top : Bool), Holds w0 F M (worldB w a sv { ω with α := α }) → Rep α up (LT.node n i e m l LT.nil) → (cells (LT.node n i e m l LT.nil)).Nodup → (up = -1 ∨ ∃ y : Nat, up = (y : Int) ∧ α.live y = true) → Od (LT.node n i e m l LT.nil) → KO (LT.node n i e m l LT.nil) →
      (∀ x ∈ its (LT.node n i e m l LT.nil), x ∈ ω.has h) → (its l).length + 1 ≤ (ω.has h).length → (top = false → Bf ab (i, e)) → (∀ M' β, Holds w0 F M' (worldB w a sv { ω with α := β }) → AS.Sq α β → R (.int .i64 (((its l).length + 1 : Nat) : Int)) M') →
      C PP w0 Id.thicketlaw12_world_tree #[.pointer (some ⟨w, 0, none⟩), .int .i64 (h : Int), .int .i64 (n : Int), .int .i64 up, .agg #[.int .i64 (ab.1 : Int), .int .i64 ab.2.1, .int .i64 ab.2.2], .bool top] R M) ∧ TA w0 w a sv ω h r

theorem wtree_ok {h : Nat} (hh : h < 2) (hok : ∀ x ∈ ω.has h, okHd x) (hlen : (ω.has h).length ≤ 100000) (hinj : ∀ x ∈ ω.has h, ∀ y ∈ ω.has h, x.1 = y.1 → x = y) : ∀ (t : LT), TA w0 w a sv ω h t := by
  have hh1 : (0 : Int) ≤ (h : Int) := by omega
  have hh2 : (h : Int) < ((2 : Nat) : Int) := by omega
  intro t
  induction t with
  | nil => trivial
  | node n i e m l r ihl ihr =>
    refine ⟨?_, ihr⟩
    intro F M α R up ab top hW hrep hnd hup hod hko hi hsz hab hR
    obtain ⟨g1, g2, g3, g4, g5, g6, g7, _⟩ := hrep
    have hie : (i, e) ∈ ω.has h := hi _ (by simp [its])
    have hil : ∀ x ∈ its l, x ∈ ω.has h := fun x hx => hi x (by simp [its, hx])
    have hndl : (cells l).Nodup := by
      simp only [cells, List.append_nil, List.nodup_cons] at hnd
      exact hnd.2.2
    have hrk := rk_le l
    rw [sz_its] at hrk
    apply thicketlaw12_world_tree.go
    intro pts H
    unfold thicketlaw12_world_tree.T
    refine box3' hW ab fun b1 F1 M1 hle1 hW1 aba => ?_
    refine wnode_ok (ω := { ω with α := α }) hW1 hh hok hlen hinj g1 hie fun M2 β hW2 hs2 => ?_
    simp only [go_sem]
    refine box3 hW2 (i, e) fun b2 F3 M3 hle3 hW3 xa => ?_
    have hq2 : AS.Sq α β := hs2.sq
    have ws3 := hW3.wseen
    simp only [go_sem, Bool.not_true, bs_false, ws3.p]
    obtain ⟨F4, hA4, hle4, back4⟩ := hW3.warena
    have hnl : β.live n = true := by rw [hq2.live]; exact g1.ln
    refine Get_ok hA4 fun M4 hA5 => ?_
    rw [show AS.getI β (n : Int) 5 = (if m then 1 else 0) from (AS.getI_live (f := 5) hnl (by omega)).trans (by rw [hq2.get]; exact g5)]
    have hW5 := back4 M4 _ hA5
    have ws5 := hW5.wseen
    simp only [go_sem, ws5.p]
    obtain ⟨F6, hA6, hle6, back6⟩ := hW5.warena
    refine Cell_ok hA6 fun M5 hA7 => ?_
    rw [show AS.cellI β.tick (n : Int) 0 = up from AS.cellI_val (α := β.tick) hA6.inv (f := 0) hnl (by omega) (by show β.get n 0 = _; rw [hq2.get]; exact g2) (by show _ ∨ ∃ y : Nat, _ ∧ β.live y = true; rw [hq2.live]; exact hup)]
    have hW7 := back6 M5 _ hA7
    have hq5 : AS.Sq α β.tick.tick := hq2.trans (AS.tick_sm.trans AS.tick_sm).sq
    simp only [go_sem, bs_bne, if_true]
    -- what is below
    have fin : ∀ (M7 : Mem), Holds w0 F3 M7 (worldB w a sv { ω with α := β.tick.tick }) → thicketlaw12_world_tree.J1 pts (some ⟨w, 0, none⟩) (h : Int) (n : Int) ⟨b2, 0, none⟩ M7 := by
      intro M7 hW7
      rw [H.J1]
      unfold thicketlaw12_world_tree.J1.T
      have ws7 := hW7.wseen
      obtain ⟨F7, hA7, hle7, back7⟩ := hW7.warena
      simp only [go_sem, ws7.p]
      refine Cell_ok hA7 fun M8 hA8 => ?_
      rw [show AS.cellI β.tick.tick (n : Int) 1 = l.root from AS.cellI_val (α := β.tick.tick) hA7.inv (f := 1) hnl (by omega) (by rw [hq5.get]; exact g3) (by rw [hq5.live]; exact g7.rootv)]
      have hW8 := back7 M8 _ hA8
      simp only [shI_v]
      have hq8 : AS.Sq α β.tick.tick.tick := hq5.trans AS.tick_sm.sq
      rw [root_hd]
      refine wring_ok (ω := { ω with α := β.tick.tick.tick }) hW8 hh hok hlen (g6.sq hq8) (by show (rts l).length ≤ (ω.has h).length; have : (rts l).length = rk l := rfl; omega) fun M9 s9 F9 γ hle9 hW9 hrs hq9 => ?_
      have hqg : AS.Sq α γ := hq8.trans hq9
      have ws9 := hW9.wseen
      simp only [go_sem, Bool.not_true, bs_false, ws9.p]
      obtain ⟨F10, hA10, hle10, back10⟩ := hW9.warena
      refine Get_ok hA10 fun M10 hA11 => ?_
      have hnlg : γ.live n = true := by rw [hqg.live]; exact g1.ln
      rw [show AS.getI γ (n : Int) 4 = (rk l : Int) from (AS.getI_live (f := 4) hnlg (by omega)).trans (by rw [hqg.get]; exact g4)]
      have hW11 := back10 M10 _ hA11
      have hsn : s9.n = rk l := by rw [hrs.len]; simp [intsN, rk]
      rw [shI_v, hsn, bs_bne, if_pos rfl, H.J2]
      unfold thicketlaw12_world_tree.J2.T
      -- the numbers of Fibonacci
      have hfib : ∀ (k j : Nat) (M12 : Mem) (δ : AS), j ≤ rk l → j ≤ 30 → rk l < j + k → Holds w0 F9 M12 (worldB w a sv { ω with α := δ }) → AS.Sq α δ → thicketlaw12_world_tree.L5 pts k (some ⟨w, 0, none⟩) (h : Int) s9 (((its l).length + 1 : Nat) : Int) (fg j : Int) (fb j : Int) (j : Int) M12 := by
        intro k
        induction k with
        | zero => intro j M12 δ h1 h2 h3; omega
        | succ k ih =>
          intro j M12 δ h1 h2 h3 hW12 hq12
          rw [H.L5]
          unfold thicketlaw12_world_tree.L5.T
          have hend : thicketlaw12_world_tree.J4 pts (some ⟨w, 0, none⟩) (h : Int) (((its l).length + 1 : Nat) : Int) (fb j : Int) M12 := by
            rw [H.J4]
            unfold thicketlaw12_world_tree.J4.T
            have hfb : fb j ≤ (its l).length + 1 := by
              have h4 := (ko_sz hko.2.1 hko.1).1
              rw [sz_its] at h4
              exact Nat.le_trans (fb_mono h1) h4
            rw [bs_decide, if_neg (by omega)]
            have ws12 := hW12.wseen
            have hs12 := ws12.s h hh
            have hh12 := (hW12.whas hh hok hlen).2
            have hh12' : (sv h).n = (ω.has h).length := hh12
            simp only [go_sem, add_eq, Nat.zero_add, Int.toNat_natCast, Nat.mul_one, hh1, hh2, and_self, true_and, hs12]
            rw [bs_decide, if_neg (by rw [hh12']; omega)]
            exact hR M12 δ (hW12.le_frame (Mem.le_trans hle1 (Mem.le_trans hle3 hle9))) hq12
          rw [bs_decide]
          split
          · rename_i hlt
            rw [bs_decide]
            split
            · rename_i hlt2
              rw [H.J6]
              unfold thicketlaw12_world_tree.J6.T
              have b1 : fb j ≤ 2 ^ 30 := Nat.le_trans (fb_le j) (Nat.pow_le_pow_right (by omega) h2)
              have b2 : fb (j + 1) ≤ 2 ^ 31 := Nat.le_trans (fb_le (j + 1)) (Nat.pow_le_pow_right (by omega) (by omega))
              have b3 := fb_succ j
              have c1 : (2 : Nat) ^ 30 = 1073741824 := by decide
              have c2 : (2 : Nat) ^ 31 = 2147483648 := by decide
              rw [w64_in (by omega), i64_succ (by omega), show (fg j : Int) + (fb j : Int) = (fb (j + 1) : Int) from by omega]
              exact ih (j + 1) M12 δ (by omega) (by omega) (by omega) hW12 hq12
            · exact hend
          · exact hend
      -- one behind the other
      have key : ∀ (k : Nat) (c : LT) (done j : Nat) (M12 : Mem) (δ : AS), (rts c).length < k → TA w0 w a sv ω h c → Rep δ n c → (cells c).Nodup → Od c → KO c → (∀ x ∈ its c, Bf (i, e) x) → (∀ x ∈ its c, x ∈ ω.has h) → (rts l).drop j = rts c → j ≤ (rts l).length → done + (its c).length = (its l).length + 1 → Holds w0 F9 M12 (worldB w a sv { ω with α := δ }) → AS.Sq α δ →
          thicketlaw12_world_tree.L3 pts k (some ⟨w, 0, none⟩) (h : Int) (n : Int) ⟨b2, 0, none⟩ s9 (done : Int) s9 ((s9.n : Nat) : Int) (j : Int) M12 := by
        intro k
        induction k with
        | zero => intro c done j M12 δ h1; omega
        | succ k ih =>
          intro c done j M12 δ h1 hta hrc hnc hoc hkc hbc hic hdj hjl hd2 hW12 hq12
          rw [H.L3]
          unfold thicketlaw12_world_tree.L3.T
          rw [bs_decide]
          cases c with
          | nil =>
            have : (rts l).length ≤ j := List.drop_eq_nil_iff.1 hdj
            have hrl : (rts l).length = rk l := rfl
            rw [if_neg (by omega)]
            simp only [its, List.length_nil, Nat.add_zero] at hd2
            rw [hd2]
            exact ⟨rk l + 1, hfib (rk l + 1) 0 M12 δ (by omega) (by omega) (by omega) hW12 hq12⟩
          | node mn mi me mm mb mr =>
            have hrl : (rts l).length = rk l := rfl
            have hlt : j < (rts l).length := by
              apply Decidable.byContradiction
              intro hc
              rw [List.drop_of_length_le (by omega)] at hdj; cases hdj
            have hdx := List.drop_eq_getElem_cons hlt
            rw [hdj] at hdx
            simp only [rts, List.cons.injEq] at hdx
            have hj : (rts l)[j]? = some mn := by rw [List.getElem?_eq_getElem hlt, ← hdx.1]
            rw [if_pos (by omega)]
            refine rdx (x := (mn : Int)) W.c3 hrs hW12.fr j rfl (by simp [intsN, hj]) ?_
            simp only [xa _ (Mem.le_trans hle9 hW12.fr), ob_v, shA_v, shCons_v, shI_v, shNil_v]
            obtain ⟨c1, c2, c3, c4, c5, c6, c7, c8⟩ := hrc
            simp only [its, List.length_cons, List.length_append] at hd2
            simp only [rts, List.length_cons] at h1
            have hnc' := hnc
            simp only [cells, List.nodup_cons, List.mem_cons, List.mem_append, not_or] at hnc'
            obtain ⟨⟨x1, x2, x3⟩, ⟨x4, x5⟩, x6⟩ := hnc'
            obtain ⟨y1, y2, _⟩ := List.nodup_append.1 x6
            refine hta.1 F9 M12 δ _ (n : Int) (i, e) false hW12 ⟨c1, c2, c3, c4, c5, c6, c7, trivial⟩ (by simp only [cells, List.append_nil, List.nodup_cons, List.mem_cons, not_or]; exact ⟨⟨x1, x2⟩, x4, y1⟩) (.inr ⟨n, rfl, by rw [hq12.live]; exact g1.ln⟩) ⟨hoc.1, hoc.2.1, trivial⟩ ⟨hkc.1, hkc.2.1, trivial⟩ (fun x hx => hic x (by simp only [its, List.append_nil, List.mem_cons, List.mem_append] at hx ⊢; rcases hx with h | h; exact .inl h; exact .inr (.inl h))) (by omega) (fun _ => hbc _ (by simp [its])) fun M13 ε hW13 hq13 => ?_
            have hqe := hq12.trans hq13
            rw [shI_v, bs_beq, if_neg (by omega), w64_in (by omega), i64_succ (by omega), show (done : Int) + (((its mb).length + 1 : Nat) : Int) = ((done + ((its mb).length + 1) : Nat) : Int) from by omega]
            exact ih mr (done + ((its mb).length + 1)) (j + 1) M13 ε (by omega) hta.2 (c8.sq y2 hq13) y2 hoc.2.2 hkc.2.2 (fun x hx => hbc x (by simp [its, hx])) (fun x hx => hic x (by simp [its, hx])) hdx.2.symm (by omega) (by omega) hW13 hqe
      rw [show (1 : Int) = ((1 : Nat) : Int) from rfl, show (0 : Int) = ((0 : Nat) : Int) from rfl]
      have hqh := hqg.trans (AS.tick_sm (α := γ)).sq
      exact ⟨_, key ((rts l).length + 1) l 1 0 M10 γ.tick (by omega) ihl (g7.sq hndl hqh) hndl hod.2.1 hko.2.1 hod.1 hil rfl (by omega) (by omega) hW11 hqh⟩
    have hmark : ∀ {M7 : Mem} {A : Prop}, Holds w0 F3 M7 (worldB w a sv { ω with α := β.tick.tick }) → (if (if m = true then (1 : Int) else 0) = 0 then thicketlaw12_world_tree.J1 pts (some ⟨w, 0, none⟩) (h : Int) (n : Int) ⟨b2, 0, none⟩ M7 else if (if m = true then (1 : Int) else 0) = 1 then thicketlaw12_world_tree.J1 pts (some ⟨w, 0, none⟩) (h : Int) (n : Int) ⟨b2, 0, none⟩ M7 else A) := fun {M7 A} hX => by
      cases m with
      | true => rw [if_neg (by simp), if_pos (by simp)]; exact fin M7 hX
      | false => rw [if_pos (by simp)]; exact fin M7 hX
    cases top with
    | true =>
      simp only [Bool.not_true, bs_false]
      exact hmark hW7
    | false =>
      simp only [Bool.not_false, bs_true, xa _ hW7.fr, aba _ (Mem.le_trans hle3 hW7.fr), go_sem]
      refine hbefore_ok (x := (i, e)) (y := ab) fun M8 l8 => ?_
      rw [decide_eq_false (hab rfl).asym]
      simp only [shB_v, bs_false]
      exact hmark (hW7.le l8)

theorem wshape_ok {F M : Mem} {R : Value → Mem → Prop} {T : Nat} {t : Nat → HT} (hW : Holds w0 F M (worldB w a sv ω)) (hG : Good T ω t) (hT : T ≤ 100000) {h : Nat} (hh : h < 2) (hR : ∀ M' β, Holds w0 F M' (worldB w a sv { ω with α := β }) → AS.Sq ω.α β → R (.bool true) M') :
    C PP w0 Id.thicketlaw12_world_shape #[.pointer (some ⟨w, 0, none⟩), .int .i64 (h : Int)] R M := by
  apply thicketlaw12_world_shape.go
  intro pts H
  unfold thicketlaw12_world_shape.T
  have hh1 : (0 : Int) ≤ (h : Int) := by omega
  have hh2 : (h : Int) < ((2 : Nat) : Int) := by omega
  have ws := hW.wseen
  have hI := hW.winv
  have hsmall := hG.small hI hh
  have hok := hG.ok hI (by omega) hh
  have hp := hG.hp h hh
  have hl := hG.hlen hh
  have hits := hG.its h hh
  have hn := (hW.whas hh hok (by omega)).2
  simp only [go_sem, add_eq, Nat.zero_add, Int.toNat_natCast, Nat.mul_one, hh1, hh2, and_self, true_and, ws.r h hh]
  have hpr := hp.r
  generalize ht : t h = th at hp hl hits hpr
  have hinj : ∀ x ∈ ω.has h, ∀ y ∈ ω.has h, x.1 = y.1 → x = y := fun x hx y hy e => HT.its_nd hp.nd x (hits.mem_iff.2 hx) y (hits.mem_iff.2 hy) e
  have htree := wtree_ok (w0 := w0) (w := w) (a := a) (sv := sv) (ω := ω) hh hok (by omega) hinj th
  have hrk := rk_le th
  rw [sz_its] at hrk
  have hrl : (rts th).length = rk th := rfl
  have hl' : (its th).length = (ω.has h).length := hl
  have hrr : ω.r h = hd1 (rts th) := by rw [hpr, root_hd]
  rw [hrr]
  refine wring_ok hW hh hok (by omega) hp.rg (by omega) fun M1 s F1 β hle1 hW1 hrs hq1 => ?_
  have hsn : s.n = rk th := by rw [hrs.len]; simp [intsN, rk]
  simp only [go_sem, Bool.not_true, bs_false]
  -- the end
  have hend : ∀ (M2 : Mem) (γ : AS), Holds w0 F1 M2 (worldB w a sv { ω with α := γ }) → AS.Sq ω.α γ → thicketlaw12_world_shape.J2 pts (some ⟨w, 0, none⟩) (h : Int) ((its th).length : Int) M2 := by
    intro M2 γ hW2 hq2
    rw [H.J2]
    unfold thicketlaw12_world_shape.J2.T
    have hs2 := hW2.wseen.s h hh
    have hn2 : (sv h).n = (ω.has h).length := (hW2.whas hh hok (by show (ω.has h).length ≤ _; omega)).2
    simp only [go_sem, add_eq, Nat.zero_add, Int.toNat_natCast, Nat.mul_one, hh1, hh2, and_self, true_and, hs2]
    rw [hn2, show ((((its th).length : Nat) : Int) == (((ω.has h).length : Nat) : Int)) = true from by rw [beq_iff_eq]; omega]
    exact hR M2 γ (hW2.le_frame hle1) hq2
  have key : ∀ (k : Nat) (c : LT) (done j : Nat) (M2 : Mem) (γ : AS), (rts c).length < k → TA w0 w a sv ω h c → Rep γ (-1) c → (cells c).Nodup → Od c → KO c → (∀ x ∈ its c, x ∈ ω.has h) → (rts th).drop j = rts c → j ≤ (rts th).length → done + (its c).length = (its th).length → Holds w0 F1 M2 (worldB w a sv { ω with α := γ }) → AS.Sq ω.α γ →
      thicketlaw12_world_shape.L1 pts k (some ⟨w, 0, none⟩) (h : Int) s (done : Int) (j : Int) M2 := by
    intro k
    induction k with
    | zero => intro c done j M2 γ h1; omega
    | succ k ih =>
      intro c done j M2 γ h1 hta hrc hnc hoc hkc hic hdj hjl hd2 hW2 hq2
      rw [H.L1]
      unfold thicketlaw12_world_shape.L1.T
      rw [bs_decide]
      cases c with
      | nil =>
        have : (rts th).length ≤ j := List.drop_eq_nil_iff.1 hdj
        rw [if_neg (by omega)]
        simp only [its, List.length_nil, Nat.add_zero] at hd2
        rw [hd2, bs_decide]
        cases th with
        | nil =>
          rw [if_neg (by rw [hsn]; simp [rk, rts])]
          exact hend M2 γ hW2 hq2
        | node n i e m l r =>
          rw [if_pos (by rw [hsn]; simp [rk, rts])]
          have ws2 := hW2.wseen
          have hr2 : rd w0 M2 ⟨w, 1 + h, none⟩ = some (.int .i64 (n : Int)) := by
            have := ws2.r h hh
            rw [this]
            exact congrArg (fun z => some (Value.int .i64 z)) hrr
          simp only [go_sem, add_eq, Nat.zero_add, Int.toNat_natCast, Nat.mul_one, hh1, hh2, and_self, true_and, hr2]
          have hNd : γ.Nd n i e := hq2.nd hp.rep.1
          have hie : (i, e) ∈ ω.has h := hits.mem_iff.1 (by simp [its])
          refine wnode_ok (ω := { ω with α := γ }) hW2 hh hok (by show (ω.has h).length ≤ _; omega) hinj hNd hie fun M3 δ hW3 hs3 => ?_
          simp only [go_sem]
          refine box3 hW3 (i, e) fun b2 F4 M4 hle4 hW4 xa => ?_
          have ws4 := hW4.wseen
          have hs4 : rd w0 M4 ⟨w, 3 + h, none⟩ = some (sv h).v := ws4.s h hh
          obtain ⟨hf4, hn4⟩ := hW4.whas hh hok (by show (ω.has h).length ≤ _; omega)
          have hn4' : (sv h).n = (ω.has h).length := hn4
          simp only [xa _ hW4.fr, ob_v, shA_v, shCons_v, shI_v, shNil_v, nc_v, add_eq, Nat.zero_add, Int.toNat_natCast, Nat.mul_one, hh1, hh2, and_self, true_and, ld_one W.c32, hs4, shS_sv]
          refine least_ok hf4 (by show (ω.has h).length ≤ _; omega) fun M5 kk l5 hk1 hk2 => ?_
          have hne : ω.has h ≠ [] := fun e9 => by rw [e9] at hie; cases hie
          have hklt : kk < (ω.has h).length := hk1 hne
          have hky := List.getElem?_eq_getElem hklt
          generalize hyv : (ω.has h)[kk] = y at hky
          obtain ⟨jj, hjj⟩ := List.getElem?_of_mem hie
          have hnb := hk2 jj (i, e) y hjj hky
          have hyx : y = (i, e) := by
            rcases hp.least y (hits.mem_iff.2 (List.mem_of_getElem? hky)) with h9 | h9
            · exact h9
            · exact absurd h9 hnb
          rw [hyx] at hky
          have hW5 := hW4.le l5
          have hs5 : rd w0 M5 ⟨w, 3 + h, none⟩ = some (sv h).v := hW5.wseen.s h hh
          simp only [shI_v]
          refine rdfA (cs := [(i : Int), e.1, e.2]) W.g57 hf4 l5 kk rfl (by rw [hn4']; exact hklt) (by simp) (flatH_get hky) ?_
          simp only [List.map_cons, List.map_nil, shA_v, shCons_v, shI_v, shNil_v]
          rw [eqHeld (w0 := w0) (x := (i, e))]
          simp only [ob_v, shB_v, xa _ hW5.fr, hs5, true_and, bs_false, ld_one W.c32]
          exact hend M5 δ (hW5.le_frame hle4) (hq2.trans hs3.sq)
      | node mn mi me mm mb mr =>
        have hlt : j < (rts th).length := by
          apply Decidable.byContradiction
          intro hc
          rw [List.drop_of_length_le (by omega)] at hdj; cases hdj
        have hdx := List.drop_eq_getElem_cons hlt
        rw [hdj] at hdx
        simp only [rts, List.cons.injEq] at hdx
        have hj : (rts th)[j]? = some mn := by rw [List.getElem?_eq_getElem hlt, ← hdx.1]
        rw [if_pos (by omega)]
        refine rdx (x := (mn : Int)) W.c3 hrs hW2.fr j rfl (by simp [intsN, hj]) ?_
        have hbld : (std PP w0).bld 57 [] = some (.agg #[.int .i64 0, .int .i64 0, .int .i64 0]) := by kernel_rfl
        simp only [hbld, ob_v, shA_v, shCons_v, shI_v, shNil_v]
        obtain ⟨c1, c2, c3, c4, c5, c6, c7, c8⟩ := hrc
        simp only [its, List.length_cons, List.length_append] at hd2
        simp only [rts, List.length_cons] at h1
        have hnc' := hnc
        simp only [cells, List.nodup_cons, List.mem_cons, List.mem_append, not_or] at hnc'
        obtain ⟨⟨x1, x2, x3⟩, ⟨x4, x5⟩, x6⟩ := hnc'
        obtain ⟨y1, y2, _⟩ := List.nodup_append.1 x6
        refine hta.1 F1 M2 γ _ (-1) (0, 0, 0) true hW2 ⟨c1, c2, c3, c4, c5, c6, c7, trivial⟩ (by simp only [cells, List.append_nil, List.nodup_cons, List.mem_cons, not_or]; exact ⟨⟨x1, x2⟩, x4, y1⟩) (.inl rfl) ⟨hoc.1, hoc.2.1, trivial⟩ ⟨hkc.1, hkc.2.1, trivial⟩ (fun x hx => hic x (by simp only [its, List.append_nil, List.mem_cons, List.mem_append] at hx ⊢; rcases hx with h | h; exact .inl h; exact .inr (.inl h))) (by omega) (fun e => by cases e) fun M3 δ hW3 hq3 => ?_
        have hqe := hq2.trans hq3
        rw [shI_v, bs_beq, if_neg (by omega), w64_in (by omega), i64_succ (by omega), show (done : Int) + (((its mb).length + 1 : Nat) : Int) = ((done + ((its mb).length + 1) : Nat) : Int) from by omega]
        exact ih mr (done + ((its mb).length + 1)) (j + 1) M3 δ (by omega) hta.2 (c8.sq y2 hq3) y2 hoc.2.2 hkc.2.2 (fun x hx => hic x (by simp [its, hx])) hdx.2.symm (by omega) (by omega) hW3 hqe
  exact ⟨_, key ((rts th).length + 1) th 0 0 M1 β (by omega) htree (hp.rep.sq hp.nd hq1) hp.nd hp.od hp.ko (fun x hx => hits.mem_iff.1 hx) rfl (by omega) (by omega) hW1 hq1⟩

end
end Go.Proofs.YtbkicgfgpmekeaaGreat.HL

/-
  WdI: the law's look at both heaps; one call of any kind.
-/
set_option linter.unusedVariables false
set_option linter.unusedSimpArgs false
set_option maxRecDepth 100000
namespace Go.Proofs.YtbkicgfgpmekeaaGreat.HL
open Go.RowKit (Below)
open Go.Proofs

theorem Hp.sq {α β : AS} {r : Int} {t : HT} (h : Hp α r t) (hq : AS.Sq α β) : Hp β r t := by
  obtain ⟨k, hk⟩ := hq
  exact h.eff (S := fun _ => False) (L := fun _ => False) hk.eff (fun _ _ h => h) (fun _ _ h => h)
theorem Good.sq {T : Nat} {ω : WS} {t : Nat → HT} (hG : Good T ω t) {β : AS} (hq : AS.Sq ω.α β) : Good T { ω with α := β } t :=
  ⟨fun h hh => (hG.hp h hh).sq hq, hG.its, hG.dj, hq.len.trans hG.len, hG.keys, hG.ser, hG.next, hG.cost, hG.most⟩

section
variable {w0 : World} {M M0 F : Mem} {R : Value → Mem → Prop} {w a : Nat} {sv : Nat → SV} {ω : WS}

theorem rdH0' {s : SV} {l : List Held} (h : RdF w0 M0 3 s (flatH l)) (hl : Mem.le M0 M) (j : Nat) {x : Held} (hx : l[j]? = some x) {K : Int → Prop} (hK : K (x.1 : Int)) :
    nc s.a fun a => (0 ≤ (j : Int) ∧ (j : Int) < ((s.n : Nat) : Int)) ∧ ob (rd w0 M (a.add ((j : Int).toNat * 3))) fun v => shI .i64 v fun n => K n := by
  have := rdH0 h hl j rfl hx hK
  simpa only [ld_one W.c3] using this

theorem wright_ok {T : Nat} {t : Nat → HT} (hW : Holds w0 F M (worldA w ω)) (hG : Good T ω t) (hT : T ≤ 90000)
    (hR : ∀ M' ω', Holds w0 F M' (worldA w ω') → Good (T + 2) ω' t → ω'.α.n = ω.α.n → ω'.next = ω.next → ω'.has = ω.has → ω'.r = ω.r → R (.bool true) M') :
    C PP w0 Id.thicketlaw12_world_right #[.pointer (some ⟨w, 0, none⟩)] R M := by
  apply thicketlaw12_world_right.go
  intro pts H
  unfold thicketlaw12_world_right.T
  obtain ⟨a, sv, hW⟩ := hW.wopen
  have ws := hW.wseen
  have hI := hW.winv
  have hok0 := hG.ok hI (by omega) (h := 0) (by omega)
  have hok1 := hG.ok hI (by omega) (h := 1) (by omega)
  have hsm0 := hG.small hI (h := 0) (by omega)
  simp only [Nat.sub_zero] at hsm0
  have z0 : (0 : Int) ≤ 0 := by omega
  have z1 : (0 : Int) < ((2 : Nat) : Int) := by omega
  have z2 : (0 : Int) ≤ 1 := by omega
  have z3 : (1 : Int) < ((2 : Nat) : Int) := by omega
  have t0 : (0 : Int).toNat = 0 := rfl
  have t1 : (1 : Int).toNat = 1 := rfl
  have hs0 := ws.s 0 (by omega)
  have hs1 := ws.s 1 (by omega)
  have hn0 := (hW.whas (h := 0) (by omega) hok0 (by omega)).2
  have hn1 := (hW.whas (h := 1) (by omega) hok1 (by omega)).2
  simp only [go_sem, add_eq, Nat.zero_add, Nat.add_zero, t0, t1, Nat.mul_one, Nat.zero_mul, Nat.one_mul, z0, z1, z2, z3, and_self, true_and, ws.p, hs0, hs1]
  obtain ⟨F', hA, hle, back⟩ := hW.warena
  refine Len_ok hA ?_
  rw [hn0, hn1]
  simp only [go_sem, hs0, hs1, true_and]
  have hlen := hG.len
  rw [w64_in (n := ((ω.has 0).length : Int) + ((ω.has 1).length : Int)) (by omega), w64_in (by omega), bs_bne, if_pos (by omega)]
  -- one heap, and then the other one
  have key : ∀ (n h : Nat) (M' : Mem) (ω1 : WS), h ≤ 2 → 2 < h + n → Holds w0 F M' (worldB w a sv ω1) → Good (T + h) ω1 t → ω1.α.n = ω.α.n → ω1.next = ω.next → ω1.has = ω.has → ω1.r = ω.r → thicketlaw12_world_right.L1 pts n (some ⟨w, 0, none⟩) (h : Int) M' := by
    intro n
    induction n with
    | zero => intro h M' ω1 h1 h2; omega
    | succ n ih =>
      intro h M' ω1 h1 h2 hW1 hG1 e1 e2 e3 e4
      rw [H.L1]
      unfold thicketlaw12_world_right.L1.T
      rw [bs_decide]
      split
      · have hh : h < 2 := by omega
        have hh1 : (0 : Int) ≤ (h : Int) := by omega
        have hh2 : (h : Int) < ((2 : Nat) : Int) := by omega
        have ws1 := hW1.wseen
        have hs1' := ws1.s h hh
        have hI1 := hW1.winv
        have hI1s := hI1.steps
        have hok := hG1.ok hI1 (by omega) hh
        have hsmall := hG1.small hI1 hh
        have hsmall0 := hG1.small hI1 (h := 0) (by omega)
        simp only [Nat.sub_zero] at hsmall0
        have hcosts := hG1.costs (by omega)
        have hh3 := hW1.whas hh hok (by omega)
        have hpt := hG1.pots hh
        have hpo := HT.pot_ge (t (1 - h))
        have hlim := limH_bound (n := (ω1.has 0).length + (ω1.has 1).length) (by omega)
        simp only [go_sem, add_eq, Nat.zero_add, Int.toNat_natCast, Nat.mul_one, hh1, hh2, and_self, true_and, hs1', ws1.p]
        obtain ⟨F1, hA1, hle1, back1⟩ := hW1.warena
        refine MeterSteps_ok (K := fun _ _ _ => True) hA1 fun p _ hq => ?_
        simp only [go_sem]
        refine hq.mono fun v M'' hv => ?_
        obtain ⟨rfl, rfl⟩ := hv
        simp only [go_sem, add_eq, Nat.zero_add, Int.toNat_natCast, Nat.mul_one, hh1, hh2, and_self, true_and, ws1.p, ws1.r h hh]
        -- items and shape
        have tail : ∀ (M2 : Mem) (ω2 : WS), Holds w0 F M2 (worldB w a sv ω2) → Good (T + (h + 1)) ω2 t → ω2.α.n = ω1.α.n → ω2.next = ω1.next → ω2.has = ω1.has → ω2.r = ω1.r →
            (std PP w0).call Id.fib_All #[.pointer (some ⟨a, 0, none⟩), .int .i64 (ω1.r h)] (fun v M54 => shS v fun s55 => (std PP w0).call Id.thicketlaw12_cells #[SV.v (sv h)] (fun v M57 => shS v fun s58 => (std PP w0).call Id.thicketbook_Same_int #[SV.v s55, SV.v s58] (fun v M60 => shB v fun b61 => bs (!b61) (R (.bool false) M60) ((std PP w0).call Id.thicketlaw12_world_shape #[.pointer (some ⟨w, 0, none⟩), .int .i64 (h : Int)] (fun v M63 => shB v fun b64 => bs (!b64) (R (.bool false) M63) (thicketlaw12_world_right.L1 pts n (some ⟨w, 0, none⟩) (w64 ((h : Int) + 1)) M63)) M60)) M57) M54) M2 := by
          intro M2 ω2 hW2 hG2 f1 f2 f3 f4
          obtain ⟨F2, hA2, hle2, back2⟩ := hW2.last4
          have hI2 := hA2.inv
          have hp2 := hG2.hp h hh
          rw [f4] at hp2
          refine heap_all_ok hA2 hp2 fun M3 s3 z β hH3 hz hzs hq3 => ?_
          have hzm : ∀ x ∈ z, In64 x := fun x hx => by
            obtain ⟨c, hc, rfl⟩ := List.mem_map.1 (hz.mem_iff.1 hx)
            obtain ⟨y, hy, rfl⟩ := List.mem_map.1 hc
            have := AS.live_lt hI2 (hp2.live y.1 (HT.mem_its hy))
            have := hI2.n
            unfold In64; omega
          have hzl : z.length = (ω1.has h).length := by rw [hz.length_eq]; simp [intsN, hG1.hlen hh]
          have hX : Holds w0 F M3 (star (SlA s3 (z.map (Value.int .i64))) (worldB w a sv { ω2 with α := β })) := by
            have := back2 M3 _ hH3
            exact this.impP fun r ⟨r1, _, e1, g1, r2, _, e2, g2, r3, _, e3, g3, r4, r5, e4, g4, g5⟩ => by
              subst e4; subst e3; subst e2; subst e1
              refine ⟨r4 ++ (r1 ++ (r2 ++ (r3 ++ r5))), ?_, r4, _, rfl, g4, r1, _, rfl, g1, r2, _, rfl, g2, r3, _, rfl, g3, g5⟩
              refine ((((List.perm_append_comm_assoc r3 r4 r5).append_left r2).append_left r1)).trans ?_
              refine ((List.perm_append_comm_assoc r2 r4 _).append_left r1).trans ?_
              exact List.perm_append_comm_assoc r1 r4 _
          obtain ⟨F3, hle3, hW3, hS3⟩ := hX.freeze (wf_all hzm) (by omega)
          rw [shS_sv]
          have hh4 := (hW3.whas hh (by show ∀ x ∈ ω2.has h, _; rw [f3]; exact hok) (by show (ω2.has h).length ≤ _; rw [f3]; omega)).1
          have hh5 : RdF w0 M3 3 (sv h) (flatH (ω1.has h)) := by rw [← f3]; exact hh4
          refine cells_ok hW3 hh5 (by omega) (fun x hx => (hok x hx).1) fun M4 s4 z2 l4 h4 hz2 hzs2 => ?_
          have hzz : z = z2 := sorted_eq hzs hzs2 (hz.trans (List.Perm.trans (by unfold intsN; exact List.Perm.map _ ((hG1.its h hh).map _)) hz2.symm))
          subst hzz
          rw [shS_sv]
          refine Same_ok (hS3.le h4.fr) (h4.rdI (wf_all hzm) (by omega)) ?_
          rw [decide_eq_true rfl]
          simp only [shB_v, Bool.not_true, bs_false]
          refine wshape_ok h4.right (hG2.sq hq3) (by omega) hh fun M5 γ hW5 hq5 => ?_
          simp only [shB_v, Bool.not_true, bs_false]
          rw [w64_in (by omega)]
          exact ih (h + 1) M5 _ (by omega) (by omega) (hW5.le_frame hle3) ((hG2.sq hq3).sq hq5) ((hq5.n.trans hq3.n).trans (f1.trans e1)) (f2.trans e2) (f3.trans e3) (f4.trans e4)
        -- what the least one cost
        have cst : ∀ (M2 : Mem) (β : AS) (K : Value → Mem → Prop), Holds w0 F1 M2 (arenaA a β) → AS.Sm 1 ω1.α β → (∀ M3 ω2, Holds w0 F M3 (worldB w a sv ω2) → Good (T + (h + 1)) ω2 t → ω2.α.n = ω1.α.n → ω2.next = ω1.next → ω2.has = ω1.has → ω2.r = ω1.r → K (.bool true) M3) →
            (std PP w0).call Id.thicketlaw12_world_cost #[.pointer (some ⟨w, 0, none⟩), .int .i64 ω1.α.steps, .int .i64 0, .int .i64 (((sv h).n : Nat) : Int)] K M2 := by
          intro M2 β K hA2 hs2 hK
          have hst := hs2.steps ⟨hI1s.1, hI1s.2.2⟩
          have hW2 := back1 M2 _ hA2
          rw [show (((sv h).n : Nat) : Int) = (((ω1.has h).length : Nat) : Int) from by rw [hh3.2]]
          refine cost_ok (lim := 500) hW2 (by omega) (by rw [if_neg (by omega)]) (by show 0 ≤ β.steps - ω1.α.steps ∧ β.steps - ω1.α.steps ≤ _; omega) hcosts.1 hcosts.2 (cost_of (t := t h) (t' := t h) (P := HT.pot (t (1 - h))) (by show β.steps - ω1.α.steps + _ ≤ _; omega) hpt hpo) fun M3 hW3 => ?_
          refine hK M3 _ hW3 (hG1.alpha (β := β) (T' := T + (h + 1)) (fun k hk => (hG1.hp k hk).sq hs2.sq) hs2.sq.len (by omega) ?_ ?_) hs2.n rfl rfl rfl
          · show ω1.spent + (β.steps - ω1.α.steps) + _ + _ ≤ ω1.most + _
            have := hG1.cost; omega
          · show 0 ≤ ω1.spent + (β.steps - ω1.α.steps) ∧ ω1.most + _ ≤ _
            have := hG1.most; omega
        refine heap_min_ok hA1 (hG1.hp h hh) (fun hnil M2 β hA2 hs2 => ?_) fun x L hx hL M2 β hA2 hs2 => ?_
        · -- an empty heap
          have hnl : ω1.has h = [] := (hG1.nil_iff hh).2 (by rw [hnil]; rfl)
          have hsn : (sv h).n = 0 := by rw [hh3.2, hnl]; rfl
          have hroot : ω1.r h = -1 := (hG1.hp h hh).root_nil.2 (by rw [hnil]; rfl)
          simp only [go_sem]
          refine cst M2 β _ hA2 hs2 fun M3 ω2 hW3 hG3 f1 f2 f3 f4 => ?_
          have ws3 := hW3.wseen
          have hr3 := ws3.r h hh
          rw [f4, hroot] at hr3
          simp only [go_sem, Bool.not_true, bs_false, hsn, bs_beq, bs_bne, bs_decide, if_true, add_eq, Nat.zero_add, Int.toNat_natCast, Nat.mul_one, hh1, hh2, and_self, true_and, hr3, ws3.p]
          rw [if_pos (show ((0 : Nat) : Int) = 0 from rfl), if_neg (by omega)]
          have := tail M3 ω2 hW3 hG3 f1 f2 f3 f4
          rw [hroot] at this
          exact this
        · have hne : (ω1.has h).length ≠ 0 := by rw [← hG1.hlen hh, hx.length_eq]; simp
          simp only [go_sem]
          refine cst M2 β _ hA2 hs2 fun M3 ω2 hW3 hG3 f1 f2 f3 f4 => ?_
          have ws3 := hW3.wseen
          have hr3 := ws3.r h hh
          rw [f4] at hr3
          simp only [go_sem, Bool.not_true, bs_false, bs_beq, bs_bne, bs_decide]
          have hsn : (((sv h).n : Nat) : Int) = (((ω1.has h).length : Nat) : Int) := by rw [hh3.2]
          rw [if_neg (by omega), if_pos (by omega)]
          have hh4 : RdF w0 M3 3 (sv h) (flatH (ω1.has h)) := by
            rw [← f3]
            exact (hW3.whas hh (by rw [f3]; exact hok) (by rw [f3]; omega)).1
          refine least_ok hh4 (by omega) fun M4 k l4 hk hmin => ?_
          have hk' : k < (ω1.has h).length := hk (fun e => hne (by rw [e]; rfl))
          have ey := List.getElem?_eq_getElem hk'
          generalize (ω1.has h)[k] = y at ey
          have hyx : y = x := by
            have hym : y ∈ x :: L := hx.mem_iff.1 ((hG1.its h hh).mem_iff.2 (List.mem_of_getElem? ey))
            rcases List.mem_cons.1 hym with e | hy
            · exact e
            · exfalso
              have hxm : x ∈ ω1.has h := (hG1.its h hh).mem_iff.1 (hx.mem_iff.2 List.mem_cons_self)
              obtain ⟨j, hj⟩ := List.getElem?_of_mem hxm
              exact hmin j x y hj ey (hL y hy)
          subst hyx
          have hW4 := hW3.le l4
          have ws4 := hW4.wseen
          have hr4 := ws4.r h hh
          rw [f4] at hr4
          simp only [shI_v]
          refine rdH0' hh4 l4 k ey ?_
          rw [if_pos rfl]
          simp only [go_sem, add_eq, Nat.zero_add, Int.toNat_natCast, Nat.mul_one, hh1, hh2, and_self, true_and, hr4, ws4.p]
          exact tail M4 ω2 hW4 hG3 f1 f2 f3 f4
      · have : h = 2 := by omega
        subst this
        exact hR M' ω1 hW1.wclose hG1 e1 e2 e3 e4
  exact ⟨3, key 3 0 M ω (by omega) (by omega) hW hG rfl rfl rfl rfl⟩

end
end Go.Proofs.YtbkicgfgpmekeaaGreat.HL

/-
  WdJ: calls of any kind, one behind the other; the first two laws.
-/
set_option linter.unusedVariables false
set_option linter.unusedSimpArgs false
set_option maxRecDepth 100000
namespace Go.Proofs.YtbkicgfgpmekeaaGreat.HL
open Go.RowKit (Below)
open Go.Proofs

section
variable {w0 : World} {M M0 F : Mem} {R : Value → Mem → Prop} {w a : Nat} {sv : Nat → SV} {ω : WS}

theorem tmod_in {n k : Int} (hn : In64 n) (hk : 0 < k) (hk2 : k ≤ 1000000) : In64 (Int.tmod n k) := by
  have a1 : Int.tmod n k < k := Int.tmod_lt_of_pos n hk
  have a2 : -k < Int.tmod n k := by
    have := Int.tmod_lt_of_pos (-n) hk
    rw [Int.neg_tmod] at this; omega
  unfold In64; omega

theorem good_fresh {n : Nat} (hn : n ≤ 65536) : Good 0 ⟨AS.new n, fun _ => -1, fun _ => [], 0, 0, 0⟩ (fun _ => HT.nil) := by
  refine ⟨fun h _ => Hp.nilH _, fun h _ => (by rw [HT.nil_its]), fun h _ c hc => (by rw [HT.nil_cells] at hc; cases hc), ?_, fun h _ x hx => (by cases hx), List.nodup_nil, ⟨Int.le_refl _, Int.le_refl _⟩, ?_, ⟨Int.le_refl _, Int.le_refl _⟩⟩
  · show (AS.new n).len = 2 * (0 + 0)
    rfl
  · show (0 : Int) + HT.pot HT.nil + HT.pot HT.nil ≤ 0
    rw [HT.pot_nil]; omega

/-- What is least is told by its entries. -/
theorem Bf.lt {c d : Nat} {k1 s1 k2 s2 : Int} (h : Bf (c, (k1, s1)) (d, (k2, s2))) : k1 ≤ k2 := by
  rcases h with h | ⟨h, _⟩
  · unfold Lt at h; simp only at h; omega
  · simp only [Prod.mk.injEq] at h; omega

theorem known_ok (hR : ∀ M', Mem.le M M' → R (.bool true) M') : C PP w0 Id.thicketlaw12_known #[] R M := by
  apply thicketlaw12_known.go
  intro pts H
  unfold thicketlaw12_known.T
  refine fresh_w_ok (n := 8) (by omega) fun M1 w hW1 => ?_
  simp only [go_sem, Option.isNone_some, bs_false]
  have z0 : (0 : Int) ≤ 0 := by omega
  have z1 : (0 : Int) < ((2 : Nat) : Int) := by omega
  have t0 : (0 : Int).toNat = 0 := rfl
  refine wpush_ok (h := 0) hW1 (good_fresh (by omega)) (by omega) (by omega) (by unfold In64; omega) fun M2 ω2 t2 hW2 hG2 n2 o2 => ?_
  obtain ⟨c1, hs2, nx2⟩ := o2.resolve_right (fun h9 => absurd h9.1 (by show ¬ (8 < (AS.new 8).len + 2); decide))
  simp only [go_sem, Bool.not_true, bs_false]
  have hn2 : ω2.α.n = 8 := n2
  have l2 := hG2.len
  have a20 : ω2.has 0 = [(c1, (3, 0))] := by rw [hs2]; rfl
  have a21 : ω2.has 1 = [] := by rw [hs2]; rfl
  have nx2' : ω2.next = 1 := nx2
  rw [a20, a21] at l2
  refine wpush_ok (h := 0) hW2 hG2 (by omega) (by omega) (by unfold In64; omega) fun M3 ω3 t3 hW3 hG3 n3 o3 => ?_
  obtain ⟨c2, hs3, nx3⟩ := o3.resolve_right (fun h9 => by have h8 := h9.1; simp only [List.length_cons, List.length_nil] at l2; omega)
  simp only [go_sem, Bool.not_true, bs_false]
  have a30 : ω3.has 0 = [(c1, (3, 0)), (c2, (1, 1))] := by rw [hs3, upd_same, a20, nx2']; rfl
  have a31 : ω3.has 1 = [] := by rw [hs3, upd_ne _ _ (by omega)]; exact a21
  have nx3' : ω3.next = 2 := by omega
  have l3 := hG3.len
  rw [a30, a31] at l3
  refine wpush_ok (h := 0) hW3 hG3 (by omega) (by omega) (by unfold In64; omega) fun M4 ω4 t4 hW4 hG4 n4 o4 => ?_
  obtain ⟨c3, hs4, nx4⟩ := o4.resolve_right (fun h9 => by have h8 := h9.1; simp only [List.length_cons, List.length_nil] at l3; omega)
  simp only [go_sem, Bool.not_true, bs_false]
  have a40 : ω4.has 0 = [(c1, (3, 0)), (c2, (1, 1)), (c3, (2, 2))] := by rw [hs4, upd_same, a30, nx3']; rfl
  refine wright_ok hW4 hG4 (by omega) fun M5 ω5 hW5 hG5 n5 nx5 hs5 r5 => ?_
  simp only [go_sem, Bool.not_true, bs_false]
  have a50 : ω5.has 0 = [(c1, (3, 0)), (c2, (1, 1)), (c3, (2, 2))] := by rw [hs5]; exact a40
  rw [H.J1]
  unfold thicketlaw12_known.J1.T
  -- how many there are
  have cnt : ∀ {M6 : Mem} {ω6 : WS} {T6 : Nat} {t6 : Nat → HT} {m : Nat}, Holds w0 M M6 (worldA w ω6) → Good T6 ω6 t6 → T6 ≤ 1000 → (ω6.has 0).length = m → m ≤ 10 → ∃ s, rd w0 M6 ⟨w, 3, none⟩ = some (SV.v s) ∧ (s.n : Int) = (m : Int) ∧ RdF w0 M6 3 s (flatH (ω6.has 0)) := by
    intro M6 ω6 T6 t6 m hW6 hG6 hT6 hm hm2
    obtain ⟨a, sv, hB⟩ := hW6.wopen
    have := hB.whas (h := 0) (by omega) (hG6.ok hB.winv (by omega) (by omega)) (by omega)
    exact ⟨sv 0, hB.wseen.s 0 (by omega), by rw [this.2, hm], this.1⟩
  obtain ⟨s5, q5, e5, _⟩ := cnt hW5 hG5 (by omega) (m := 3) (by rw [a50]; rfl) (by omega)
  simp only [go_sem, add_eq, Nat.zero_add, Nat.add_zero, t0, Nat.mul_one, Nat.zero_mul, z0, z1, and_self, true_and, q5, e5, bs_beq]
  rw [if_pos (by rfl)]
  refine wpop_ok (h := 0) hW5 hG5 (by omega) (by omega) fun M6 ω6 t6 hW6 hG6 n6 nx6 o6 => ?_
  have a60 : ω6.has 0 = [(c1, (3, 0)), (c3, (2, 2))] := by
    rcases o6 with ⟨h9, _⟩ | ⟨k, x, hk, hmin, hs6⟩
    · rw [a50] at h9; cases h9
    · rw [a50] at hk hmin hs6
      rw [hs6, upd_same]
      match k, hk with
      | 0, hk =>
        simp at hk; subst hk
        have := (hmin (c2, (1, 1)) (by simp) (by simp)).lt
        omega
      | 1, hk => rfl
      | 2, hk =>
        simp at hk; subst hk
        have := (hmin (c2, (1, 1)) (by simp) (by simp)).lt
        omega
      | k + 3, hk => simp at hk
  simp only [go_sem, bs_true]
  refine wpop_ok (h := 0) hW6 hG6 (by omega) (by omega) fun M7 ω7 t7 hW7 hG7 n7 nx7 o7 => ?_
  have a70 : ω7.has 0 = [(c1, (3, 0))] := by
    rcases o7 with ⟨h9, _⟩ | ⟨k, x, hk, hmin, hs7⟩
    · rw [a60] at h9; cases h9
    · rw [a60] at hk hmin hs7
      rw [hs7, upd_same]
      match k, hk with
      | 0, hk =>
        simp at hk; subst hk
        have := (hmin (c3, (2, 2)) (by simp) (by simp)).lt
        omega
      | 1, hk => rfl
      | k + 2, hk => simp at hk
  obtain ⟨s7, q7, e7, f7⟩ := cnt hW7 hG7 (by omega) (m := 1) (by rw [a70]; rfl) (by omega)
  rw [a70] at f7
  obtain ⟨ad, ea, hr⟩ := f7.cell 1 3 rfl
  simp only [go_sem, bs_true, add_eq, Nat.zero_add, Nat.add_zero, t0, Nat.mul_one, Nat.zero_mul, z0, z1, and_self, true_and, q7, e7, bs_beq]
  rw [if_pos (by rfl), ea]
  have e9 : rd w0 M7 ⟨ad.block, ad.off + 1, none⟩ = some (.int .i64 3) := by
    have := hr M7 (Mem.le_refl _)
    simpa [Addr.add] using this
  simp only [nc_v, Addr.add, Nat.add_zero, e9, ob_v, shI_v, if_true]
  refine ⟨by omega, ?_⟩
  refine wpop_ok (h := 0) hW7 hG7 (by omega) (by omega) fun M8 ω8 t8 hW8 hG8 n8 nx8 o8 => ?_
  simp only [go_sem, bs_true]
  refine wpop_ok (h := 0) hW8 hG8 (by omega) (by omega) fun M9 ω9 t9 hW9 hG9 n9 nx9 o9 => ?_
  simp only [go_sem]
  exact hR M9 hW9.fr


end
end Go.Proofs.YtbkicgfgpmekeaaGreat.HL

