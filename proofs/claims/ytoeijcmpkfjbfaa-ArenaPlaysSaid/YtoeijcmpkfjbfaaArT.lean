/-
  ArT: the document's arena: a cell is taken, a cell is given back.
-/
import Derived.Test.YtoeijcmpkfjbfaaArS
set_option linter.unusedVariables false
set_option linter.unusedSimpArgs false
set_option maxRecDepth 100000
namespace Go.Proofs.Ytoeijcmpkfjbfaa.HL
open Go.RowKit (Below)
open Go.Proofs

section
variable {w0 : World} {M F : Mem} {R : Value → Mem → Prop}

theorem star5 {P Q S T U : Asn} : star P (star Q (star S (star T U))) = star (star P (star Q (star S T))) U := by simp only [star_assoc]
theorem sl_head {s : SV} {k : Nat} : (Value.slice (if s.c = (0 : Int).toNat then s.a else s.a.map (·.add ((0 : Int).toNat * 1))) (((k : Nat) : Int).toNat - (0 : Int).toNat) (s.c - (0 : Int).toNat)) = SV.v ⟨s.a, k, s.c⟩ := by
  have : (if s.c = (0 : Int).toNat then s.a else s.a.map (·.add ((0 : Int).toNat * 1))) = s.a := by
    split
    · rfl
    · cases s.a with
      | none => rfl
      | some a => cases a; rfl
  rw [this, Int.toNat_natCast]; rfl

theorem refR_set1 (n : Nat) (sF sI sB s : SV) (k : Int) : (refR n sF sI sB k).set 1 s.v = refR n s sI sB k := rfl
theorem refR_set2 (n : Nat) (sF sI sB s : SV) (k : Int) : (refR n sF sI sB k).set 2 s.v = refR n sF s sB k := rfl
theorem refR_set3 (n : Nat) (sF sI sB s : SV) (k : Int) : (refR n sF sI sB k).set 3 s.v = refR n sF sI s k := rfl

theorem row_rd {m : Nat} {n : Nat} {sF sI sB : SV} {k : Int} {Q : Asn} (h : Holds w0 F M (star (row1 m (refR n sF sI sB k) 85) Q)) : rd w0 M ⟨m, 0, none⟩ = some (.int .i64 (n : Int)) ∧ rd w0 M ⟨m, 1, none⟩ = some sF.v ∧ rd w0 M ⟨m, 2, none⟩ = some sI.v ∧ rd w0 M ⟨m, 3, none⟩ = some sB.v := by
  have o := Holds.own1 h
  exact ⟨by rw [rd_own o]; rfl, by rw [rd_own o]; rfl, by rw [rd_own o]; rfl, by rw [rd_own o]; rfl⟩

theorem rTake_ok {m : Nat} {α : AS} (hA : Holds w0 F M (refA m α)) (hs : α.steps ≤ 1000000) (hR : ∀ M', Holds w0 F M' (refA m α.take.tick) → R (.tuple #[.int .i64 α.nextI, .bool α.next.isSome]) M') : C PP w0 Id.thicketref5_Arena_Take #[.pointer (some ⟨m, 0, none⟩)] R M := by
  have hInv := hA.ref.1
  obtain ⟨sF, sI, sB, bc, r4, ew, o, et, h⟩ := ref_tick hA hs
  have hi := AS.tick_inv hInv
  apply thicketref5_Arena_Take.go
  intro pts H
  unfold thicketref5_Arena_Take.T
  have hrow : (refR α.n sF sI sB α.steps).set 4 (.int .i64 (α.steps + 1)) = refR α.n sF sI sB (α.steps + 1) := rfl
  simp only [go_sem, add_eq, Nat.zero_add, r4, ew]
  refine st_one W.c2 o (by simp) rfl rfl ?_
  rw [hrow]
  generalize M.set m (.row (refR α.n sF sI sB (α.steps + 1)) 85) = M1 at h ⊢
  unfold refS at h
  rw [et] at h
  change Holds w0 F M1 (star (row1 m (refR α.n sF sI sB (α.steps + 1)) 85) (star (SlA sF (fV α.never bc)) (star (SlA sI (iV α.never α.live)) (star (SlA sB (natsV α.free)) (cellsA α.never bc α.get))))) at h
  -- what is laid into the cell
  have lay : ∀ (c nv : Nat) (lF lI : List Value) (sF sI sB : SV) (M2 : Mem), α.next = some c → c < nv → α.take.never = nv → lF.length = nv → lI.length = nv →
      (∀ b, lF.set c (SV.v ⟨some ⟨b, 0, none⟩, 10, 10⟩) = fV nv (fun x => if x = c then b else bc x)) → lI.set c (.bool true) = iV nv α.take.live →
      (∀ (b : Nat) (Mx : Mem) (Q : Asn), Holds w0 F Mx (star (row1 b (tenV AS.fresh) 2) (star Q (cellsA α.never bc α.get))) → Holds w0 F Mx (star Q (cellsA nv (fun x => if x = c then b else bc x) α.take.get))) →
      Holds w0 F M2 (star (row1 m (refR α.n sF sI sB (α.steps + 1)) 85) (star (SlA sF lF) (star (SlA sI lI) (star (SlA sB (natsV α.take.free)) (cellsA α.never bc α.get))))) →
      thicketref5_Arena_Take.J1 pts (some ⟨m, 0, none⟩) (c : Int) M2 := by
    intro c nv lF lI sF sI sB M2 hnx hcn hnv hlF hlI hsetF hsetI hcell h2
    rw [H.J1]
    unfold thicketref5_Arena_Take.J1.T
    obtain ⟨_, q1, q2, _⟩ := row_rd h2
    simp only [go_sem, add_eq, Nat.zero_add, q1, q2]
    refine rFresh_ok fun M3 b l3 h3 => ?_
    have hb := h2.beside h3
    obtain ⟨_, p1, p2, _⟩ := row_rd hb.rot
    have nF := (hb.rot3).sln.1
    have nI := (hb.rot4).sln.1
    simp only [go_sem, add_eq, Nat.zero_add, p1, p2, true_and]
    refine st1 W.c38 hb.rot3 c rfl (by omega) rfl rfl fun M4 h4 => ?_
    refine st1 W.c4 h4.rot4 c rfl (by omega) rfl rfl fun M5 h5 => ?_
    have h6 := h5.rot3
    rw [show star (SlA sI (lI.set c (.bool true))) (star (SlA sF (lF.set c (SV.v ⟨some ⟨b, 0, none⟩, 10, 10⟩))) (star (row1 m (refR α.n sF sI sB (α.steps + 1)) 85) (star (SlA sB (natsV α.take.free)) (cellsA α.never bc α.get)))) = _ from star5] at h6
    have h7 := hcell b M5 _ h6
    rw [← star5] at h7
    have h8 := h7.rot.rot3
    rw [hsetF, hsetI] at h8
    have hni : α.nextI = (c : Int) := by unfold AS.nextI; rw [hnx]
    have hh := hR M5
    rw [hni, hnx] at hh
    have h9 := (AS.next_some hInv hnx).2.2
    have en : α.take.tick.n = α.n := by show α.take.n = α.n; rw [h9]; rfl
    have es : α.take.tick.steps = α.steps + 1 := by
      have : α.take.steps = α.steps := by rw [h9]; rfl
      show addc α.take.steps 1 = _
      rw [this]; exact et
    refine hh (Holds.toRef (sF := sF) (sI := sI) (sB := sB) (bc := fun x => if x = c then b else bc x) (AS.tick_inv (AS.take_inv hInv)) ?_)
    unfold refS
    rw [en, es]
    change Holds w0 F M5 (star (row1 m (refR α.n sF sI sB (α.steps + 1)) 85) (star (SlA sF (fV α.take.never _)) (star (SlA sI (iV α.take.never α.take.live)) (star (SlA sB (natsV α.take.free)) (cellsA α.take.never _ α.take.get)))))
    rw [hnv]
    exact h8
  obtain ⟨q0, q1, q2, q3⟩ := row_rd h
  have nF := h.rot.sln.1
  have nI := h.rot3.sln.1
  have nB := h.rot4.sln.1
  have cB := h.rot4.sln.2
  simp only [fV, iV, natsV, List.length_map, List.length_range] at nF nI nB
  have g1 := hInv.len
  have g2 := hInv.never
  have g3 := hInv.n
  simp only [go_sem, add_eq, Nat.zero_add, q0, q1, q2, q3, bs_decide]
  split
  · rename_i hgt
    have hlast : ∃ c, α.free.getLast? = some c := by
      cases hx : α.free.getLast? with
      | some c => exact ⟨c, rfl⟩
      | none => have := List.getLast?_eq_none_iff.1 hx; rw [this] at nB; simp at nB; omega
    obtain ⟨c, hlast⟩ := hlast
    have hidx : α.free[α.free.length - 1]? = some c := by rw [← List.getLast?_eq_getElem?]; exact hlast
    have hsplit : α.free = α.free.dropLast ++ [c] := by
      obtain ⟨l, e⟩ := List.getLast?_eq_some_iff.1 hlast
      rw [e]; simp
    have hnx : α.next = some c := by unfold AS.next; rw [hlast]
    have htake : α.take = { α.lay c with free := α.free.dropLast } := by unfold AS.take; rw [hlast]
    have hcl := hInv.free c (List.mem_of_getLast? hlast)
    have ew2 : w64 (((sB.n : Nat) : Int) - 1) = ((sB.n - 1 : Nat) : Int) := by rw [w64_in (by omega)]; omega
    rw [ew2]
    obtain ⟨hcB, _⟩ := sl_cells h.rot4
    refine rdv hcB (by rw [nB]; simp [natsV]) (sB.n - 1) rfl (natsV_get (by rw [nB]; exact hidx)) ?_
    rw [shI_v]
    refine ⟨⟨by omega, by omega, by omega⟩, ?_⟩
    rw [sl_head]
    refine st_one W.c44 (Holds.own1 h) (by simp) rfl rfl ?_
    rw [refR_set3]
    have h5 := Holds.upd1 (cs' := refR α.n sF sI ⟨sB.a, sB.n - 1, sB.c⟩ (α.steps + 1)) (e' := 85) h
    have h6 := h5.rot4
    rw [hsplit, show natsV (α.free.dropLast ++ [c]) = natsV α.free.dropLast ++ [Value.int .i64 (c : Int)] from by simp [natsV]] at h6
    have h7 := h6.pop.rot4i
    refine lay c α.never (fV α.never bc) (iV α.never α.live) sF sI ⟨sB.a, sB.n - 1, sB.c⟩ _ hnx hcl.1 (by rw [htake]; rfl) (by simp [fV]) (by simp [iV]) (fun b => ?_) ?_ (fun b Mx Q hx => ?_) (by rw [htake]; exact h7)
    · apply List.ext_getElem?
      intro j
      rw [List.getElem?_set]
      simp only [fV, List.length_map, List.length_range, List.getElem?_map]
      by_cases hj : j < α.never
      · rw [List.getElem?_range hj]
        by_cases e : c = j
        · subst e; simp [hj]; rfl
        · rw [if_neg e]; simp [Ne.symm e]
      · rw [if_neg (by omega), List.getElem?_eq_none (by simp; omega)]; rfl
    · rw [htake]
      apply List.ext_getElem?
      intro j
      rw [List.getElem?_set]
      simp only [iV, List.length_map, List.length_range, List.getElem?_map]
      by_cases hj : j < α.never
      · rw [List.getElem?_range hj]
        by_cases e : c = j
        · subst e; simp [hj, AS.lay]
        · rw [if_neg e]; simp [AS.lay, Ne.symm e]
      · rw [if_neg (by omega), List.getElem?_eq_none (by simp; omega)]; rfl
    · refine cells_re hcl.1 (fun x hx2 => ?_) ?_ hx
      · rw [htake]; simp [AS.lay, hx2]
      · rw [htake]; simp [AS.lay]
  · rename_i hgt
    have hf0 : α.free = [] := List.eq_nil_of_length_eq_zero (by omega)
    have hlast : α.free.getLast? = none := by rw [hf0]; rfl
    split
    · rename_i hge
      have hnx : α.next = none := by unfold AS.next; rw [hlast]; simp only; rw [if_neg (by omega)]
      have htake := (AS.next_none hnx).1
      rw [htake] at hR
      have hni : α.nextI = -1 := by unfold AS.nextI; rw [hnx]
      have hh := hR M1
      rw [hni, hnx] at hh
      refine hh (Holds.toRef (sF := sF) (sI := sI) (sB := sB) (bc := bc) hi ?_)
      unfold refS
      rw [et]
      exact h
    · rename_i hge
      have hlt : α.never < α.n := by omega
      have hnx : α.next = some α.never := by unfold AS.next; rw [hlast]; simp only; rw [if_pos hlt]
      have htake : α.take = { α.lay α.never with never := α.never + 1 } := by unfold AS.take; rw [hlast]; simp only; rw [if_pos hlt]
      have hone1 : ∀ v ∈ ([Value.slice none 0 0] : List Value), onecell v = true := by intro v hv; simp at hv; subst hv; rfl
      have hone2 : ∀ v ∈ ([Value.bool false] : List Value), onecell v = true := by intro v hv; simp at hv; subst hv; rfl
      -- both are longer by one
      have last : ∀ (M2 : Mem) (s43 o2 s o1 : SV), Holds w0 F M2 (star (SlA s43 (iV α.never α.live ++ [.bool false])) (star (SlA o2 [.bool false]) (star (SlA s (fV α.never bc ++ [.slice none 0 0])) (star (SlA o1 [.slice none 0 0]) (star (row1 m (refR α.n sF sI sB (α.steps + 1)) 85) (star (SlA sB (natsV α.free)) (cellsA α.never bc α.get))))))) →
          (std PP w0).st 82 ⟨m, 1, none⟩ (SV.v s) (fun M3 => (std PP w0).st 83 ⟨m, 2, none⟩ (SV.v s43) (fun M4 => thicketref5_Arena_Take.J1 pts (some ⟨m, 0, none⟩) ((sF.n : Nat) : Int) M4) M3) M2 := by
        intro M2 s43 o2 s o1 g
        have g5 := g.rot5t
        refine st_one W.c82 (Holds.own1 g5) (by simp) rfl rfl ?_
        rw [refR_set1]
        have g6 := Holds.upd1 (cs' := refR α.n s sI sB (α.steps + 1)) (e' := 85) g5
        refine st_one W.c83 (Holds.own1 g6) (by simp) rfl rfl ?_
        rw [refR_set2]
        have g7 := Holds.upd1 (cs' := refR α.n s s43 sB (α.steps + 1)) (e' := 85) g6
        have g8 := (g7.rot3.right).rot4.right
        have g9 := g8.rot3.rot
        rw [nF]
        refine lay α.never (α.never + 1) (fV α.never bc ++ [.slice none 0 0]) (iV α.never α.live ++ [.bool false]) s s43 sB _ hnx (by omega) (by rw [htake]) (by simp [fV]) (by simp [iV]) (fun b => ?_) ?_ (fun b Mx Q hx => ?_) (by rw [htake]; exact g9)
        · rw [List.set_append_right _ _ (by simp [fV])]
          simp only [fV, List.length_map, List.length_range, Nat.sub_self, List.set_cons_zero]
          rw [List.range_succ, List.map_append]
          congr 1
          · refine List.map_congr_left fun x hx => ?_
            have : x ≠ α.never := by have := List.mem_range.1 hx; omega
            simp [this]
          · simp; rfl
        · rw [htake, List.set_append_right _ _ (by simp [iV])]
          simp only [iV, List.length_map, List.length_range, Nat.sub_self, List.set_cons_zero]
          rw [List.range_succ, List.map_append]
          congr 1
          · refine List.map_congr_left fun x hx => ?_
            have : x ≠ α.never := by have := List.mem_range.1 hx; omega
            simp [AS.lay, this]
          · simp [AS.lay]
        · refine cells_new (fun x hx2 => ?_) ?_ hx
          · rw [htake]; simp [AS.lay, hx2]
          · rw [htake]; simp [AS.lay]
      have hbF : ∀ {P : Asn} {M2 : Mem} {K : Value → Mem → Prop}, Holds w0 F M2 P → (∀ M' s', Mem.le M2 M' → Holds w0 F M' (star (SlA s' [.slice none 0 0]) P) → K s'.v M') → (std PP w0).bsl 82 1 [(0, .slice none 0 0)] K M2 :=
        fun g hK => bsl_holds (cells := #[.slice none 0 0]) g Try.underlying82 W.e38 (by decide) (by kernel_rfl) rfl hK
      have hbI : ∀ {P : Asn} {M2 : Mem} {K : Value → Mem → Prop}, Holds w0 F M2 P → (∀ M' s', Mem.le M2 M' → Holds w0 F M' (star (SlA s' [.bool false]) P) → K s'.v M') → (std PP w0).bsl 83 1 [(0, .bool false)] K M2 :=
        fun g hK => bsl_holds (cells := #[.bool false]) g Try.underlying83 W.e4 (by decide) (by kernel_rfl) rfl hK
      have haF : ∀ {x : SV} {Q : Asn} {M2 : Mem} {K : Value → Mem → Prop}, Holds w0 F M2 (star (SlA sF (fV α.never bc)) (star (SlA x [.slice none 0 0]) Q)) → (∀ M' s', Holds w0 F M' (star (SlA s' (fV α.never bc ++ [.slice none 0 0])) (star (SlA x [.slice none 0 0]) Q)) → K s'.v M') → (std PP w0).app #[82, 82] 82 [sF.v, x.v] K M2 :=
        fun g hK => app_holds Try.underlying82 W.e38 g hone1 (by simp [fV]; omega) hK
      have haI : ∀ {x : SV} {Q : Asn} {M2 : Mem} {K : Value → Mem → Prop}, Holds w0 F M2 (star (SlA sI (iV α.never α.live)) (star (SlA x [.bool false]) Q)) → (∀ M' s', Holds w0 F M' (star (SlA s' (iV α.never α.live ++ [.bool false])) (star (SlA x [.bool false]) Q)) → K s'.v M') → (std PP w0).app #[83, 83] 83 [sI.v, x.v] K M2 :=
        fun g hK => app_holds Try.underlying83 W.e4 g hone2 (by simp [iV]; omega) hK
      -- when both new rows lie there, and F is longer
      have two : ∀ (M2 : Mem) (s o1 o2 : SV), Holds w0 F M2 (star (SlA s (fV α.never bc ++ [.slice none 0 0])) (star (SlA o1 [.slice none 0 0]) (star (SlA o2 [.bool false]) (star (row1 m (refR α.n sF sI sB (α.steps + 1)) 85) (star (SlA sI (iV α.never α.live)) (star (SlA sB (natsV α.free)) (cellsA α.never bc α.get))))))) →
          Holds w0 F M2 (star (SlA sI (iV α.never α.live)) (star (SlA o2 [.bool false]) (star (SlA s (fV α.never bc ++ [.slice none 0 0])) (star (SlA o1 [.slice none 0 0]) (star (row1 m (refR α.n sF sI sB (α.steps + 1)) 85) (star (SlA sB (natsV α.free)) (cellsA α.never bc α.get))))))) :=
        fun M2 s o1 o2 g => g.rot5t.rot4.rot
      refine ⟨hbF h fun M2 o1 l2 g2 => ?_, hbI h fun M2 o2 l2 g2 => ?_⟩
      · rw [shS_sv]
        obtain ⟨_, p1, p2, _⟩ := row_rd g2.rot
        refine ⟨p1, p2, haF g2.rot3 fun M3 s37 g3 => ?_, hbI g2 fun M3 o2 l3 g3 => ?_⟩
        · rw [shS_sv]
          refine ⟨(row_rd g3.rot3).2.2.1, hbI g3 fun M4 o2 l4 g4 => ?_⟩
          rw [shS_sv]
          refine ⟨(row_rd g4.rot4).2.2.1, haI g4.rot5t fun M5 s43 g5 => ?_⟩
          rw [shS_sv]
          exact last M5 s43 o2 s37 o1 g5
        · rw [shS_sv]
          obtain ⟨_, p1, p2, _⟩ := row_rd g3.rot3
          refine ⟨p1, p2, haF g3.rot4.rot3.rot fun M4 s g4 => ?_⟩
          rw [shS_sv]
          refine ⟨(row_rd g4.rot4).2.2.1, haI (two M4 s o1 o2 g4) fun M5 s43 g5 => ?_⟩
          rw [shS_sv]
          exact last M5 s43 o2 s o1 g5
      · rw [shS_sv]
        obtain ⟨_, p1, p2, _⟩ := row_rd g2.rot
        refine ⟨p1, p2, hbF g2 fun M3 o1 l3 g3 => ?_⟩
        rw [shS_sv]
        obtain ⟨_, p1, p2, _⟩ := row_rd g3.rot3
        refine ⟨p1, p2, haF g3.rot4 fun M4 s g4 => ?_⟩
        rw [shS_sv]
        refine ⟨(row_rd g4.rot4).2.2.1, haI (two M4 s o1 o2 g4) fun M5 s43 g5 => ?_⟩
        rw [shS_sv]
        exact last M5 s43 o2 s o1 g5

theorem rGive_ok {m : Nat} {α : AS} (hA : Holds w0 F M (refA m α)) (hs : α.steps ≤ 1000000) {c : Int} (hR : ∀ M', Holds w0 F M' (refA m (α.giveI c).tick) → R (.bool (α.liveI c)) M') : C PP w0 Id.thicketref5_Arena_Give #[.pointer (some ⟨m, 0, none⟩), .int .i64 c] R M := by
  have hInv := hA.ref.1
  obtain ⟨sF, sI, sB, bc, r4, ew, o, et, h⟩ := ref_tick hA hs
  have hi := AS.tick_inv hInv
  apply thicketref5_Arena_Give.go
  unfold thicketref5_Arena_Give.T
  have hrow : (refR α.n sF sI sB α.steps).set 4 (.int .i64 (α.steps + 1)) = refR α.n sF sI sB (α.steps + 1) := rfl
  simp only [go_sem, add_eq, Nat.zero_add, r4, ew]
  refine st_one W.c2 o (by simp) rfl rfl ?_
  rw [hrow]
  generalize M.set m (.row (refR α.n sF sI sB (α.steps + 1)) 85) = M1 at h ⊢
  refine rLiveS_ok hi h ?_
  rw [shB_v, bs_not, bs_b]
  refine ⟨fun hl => ?_, fun hl => ?_⟩
  · change α.liveI c = true at hl
    obtain ⟨h5, h6, h7⟩ := AS.liveI_lt hInv hl
    unfold AS.giveI at hR
    rw [if_pos hl, hl] at hR
    obtain ⟨c, rfl⟩ : ∃ k : Nat, c = (k : Int) := ⟨c.toNat, by omega⟩
    simp only [Int.toNat_natCast] at h6 h7 hR
    unfold refS at h
    rw [et] at h
    change Holds w0 F M1 (star (row1 m (refR α.n sF sI sB (α.steps + 1)) 85) (star (SlA sF (fV α.never bc)) (star (SlA sI (iV α.never α.live)) (star (SlA sB (natsV α.free)) (cellsA α.never bc α.get))))) at h
    obtain ⟨_, q1, q2, q3⟩ := row_rd h
    simp only [q2, ob_v, shS_sv]
    refine st1 W.c4 h.rot3 c rfl (by simp [iV]; exact h6) rfl rfl fun M2 h2 => ?_
    refine bsl_holds (cells := #[]) h2 Try.underlying44 W.e3 (by decide) (by kernel_rfl) rfl fun M3 s16 l3 h3 => ?_
    obtain ⟨_, _, _, p3⟩ := row_rd h3.rot3
    simp only [shS_sv, p3, ob_v]
    have h4 := h3.rot5t.rot
    have g1 := hInv.len
    have g2 := hInv.never
    have g3 := hInv.n
    refine app_holds Try.underlying44 W.e3 h4 (by rw [natsV_map]; exact ints_one _ _) (by simp [natsV]; omega) fun M4 s22 h5 => ?_
    rw [shS_sv]
    refine bsl_holds (n := 1) (cells := #[.int .i64 (c : Int)]) h5 Try.underlying44 W.e3 (by decide) (by kernel_rfl) rfl fun M5 s25 l5 h6 => ?_
    rw [shS_sv]
    refine app_holds Try.underlying44 W.e3 h6.rot (fun v hv => by simp at hv; subst hv; rfl) (by simp [natsV]; omega) fun M6 s28 h7' => ?_
    rw [shS_sv]
    have h8 := h7'.rot5t
    refine st_one W.c44 (Holds.own1 h8) (by simp) rfl rfl ?_
    rw [refR_set3]
    have h9 := Holds.upd1 (cs' := refR α.n sF sI s28 (α.steps + 1)) (e' := 85) h8
    have h10 := h9.rot3.right.rot3.right.rot3.rot4.rot3
    refine hR _ (Holds.toRef (sF := sF) (sI := sI) (sB := s28) (bc := bc) (AS.tick_inv (AS.unlive_inv hInv h7)) ?_)
    unfold refS
    have es : (α.unlive c).tick.steps = α.steps + 1 := et
    rw [es]
    change Holds w0 F _ (star (row1 m (refR α.n sF sI s28 (α.steps + 1)) 85) (star (SlA sF (fV α.never bc)) (star (SlA sI (iV α.never (α.unlive c).live)) (star (SlA s28 (natsV (α.free ++ [c]))) (cellsA α.never bc α.get)))))
    have e1 : (iV α.never α.live).set c (.bool false) = iV α.never (α.unlive c).live := by
      apply List.ext_getElem?
      intro j
      rw [List.getElem?_set]
      simp only [iV, List.length_map, List.length_range, List.getElem?_map]
      by_cases hj : j < α.never
      · rw [List.getElem?_range hj]
        by_cases e : c = j
        · subst e; simp [hj, AS.unlive]
        · rw [if_neg e]; simp [AS.unlive, Ne.symm e]
      · rw [if_neg (by omega), List.getElem?_eq_none (by simp; omega)]; rfl
    rw [e1, show (#[] : Array Value).toList ++ natsV α.free ++ (#[Value.int .i64 (c : Int)] : Array Value).toList = natsV (α.free ++ [c]) from by simp [natsV]] at h10
    exact h10
  · change α.liveI c = false at hl
    unfold AS.giveI at hR
    rw [hl] at hR
    exact hR M1 (Holds.toRef hi h)

end
end Go.Proofs.Ytoeijcmpkfjbfaa.HL
