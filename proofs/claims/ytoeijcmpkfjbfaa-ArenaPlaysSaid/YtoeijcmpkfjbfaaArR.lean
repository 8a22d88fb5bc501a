/-
  ArR: the document's arena: what each of its calls does.
-/
import Derived.Test.YtoeijcmpkfjbfaaArB
import Derived.Test.YtoeijcmpkfjbfaaChA
import Derived.Test.YtoeijcmpkfjbfaaHlK
set_option linter.unusedVariables false
set_option linter.unusedSimpArgs false
set_option maxRecDepth 100000
namespace Go.Proofs.Ytoeijcmpkfjbfaa.HL
open Go.RowKit (Below)
open Go.Proofs

section
variable {w0 : World} {M F : Mem} {R : Value → Mem → Prop}

theorem star_assoc {P Q S : Asn} : star (star P Q) S = star P (star Q S) := by
  funext r
  apply propext
  constructor
  · rintro ⟨r1, r2, rfl, ⟨r3, r4, rfl, h1, h2⟩, h3⟩
    exact ⟨r3, r4 ++ r2, by simp, h1, r4, r2, rfl, h2, h3⟩
  · rintro ⟨r1, r2, rfl, h1, r3, r4, rfl, h2, h3⟩
    exact ⟨r1 ++ r3, r4, by simp, ⟨r1, r3, rfl, h1, h2⟩, h3⟩
theorem Holds.rot3 {P Q S T : Asn} (h : Holds w0 F M (star P (star Q (star S T)))) : Holds w0 F M (star S (star P (star Q T))) := by
  have := (Holds.assoc.2 h).rot
  rwa [star_assoc] at this
theorem Holds.rot3i {P Q S T : Asn} (h : Holds w0 F M (star S (star P (star Q T)))) : Holds w0 F M (star P (star Q (star S T))) := by
  rw [← star_assoc (P := P)] at h
  have := h.rot
  rwa [star_assoc] at this
theorem Holds.rot4 {P Q S T U : Asn} (h : Holds w0 F M (star P (star Q (star S (star T U))))) : Holds w0 F M (star T (star P (star Q (star S U)))) := by
  have := (Holds.assoc.2 h).rot3
  rwa [star_assoc] at this
theorem Holds.rot4i {P Q S T U : Asn} (h : Holds w0 F M (star T (star P (star Q (star S U))))) : Holds w0 F M (star P (star Q (star S (star T U)))) := by
  rw [← star_assoc (P := P)] at h
  have := h.rot3i
  rwa [star_assoc] at this
theorem Holds.rot5 {P Q S T U : Asn} (h : Holds w0 F M (star P (star Q (star S (star T U))))) : Holds w0 F M (star U (star P (star Q (star S T)))) := by
  rw [← star_assoc (P := S), ← star_assoc (P := Q), ← star_assoc (P := P)] at h
  exact h.comm
theorem Holds.rot5i {P Q S T U : Asn} (h : Holds w0 F M (star U (star P (star Q (star S T))))) : Holds w0 F M (star P (star Q (star S (star T U)))) := by
  have := h.comm
  rwa [star_assoc, star_assoc, star_assoc] at this

theorem Fit.updAt {r : Rws} {i b : Nat} {cs cs' : List Value} {e e' : TypeId} (hi : r[i]? = some (b, cs, e)) (h : Fit w0 F M r) : Fit w0 F (M.set b (.row cs' e')) (r.set i (b, cs', e')) := by
  have hl := (List.getElem?_eq_some_iff.1 hi).1
  have e1 : r = r.take i ++ (b, cs, e) :: r.drop (i + 1) := by
    have e := List.drop_eq_getElem_cons hl
    rw [List.getElem?_eq_getElem hl] at hi
    rw [Option.some.inj hi] at e
    rw [← e, List.take_append_drop]
  have e2 : r.set i (b, cs', e') = r.take i ++ (b, cs', e') :: r.drop (i + 1) := by
    rw [List.set_eq_take_append_cons_drop, if_pos hl]
  rw [e2]
  rw [e1] at h
  exact ((h.perm List.perm_middle).upd).perm List.perm_middle.symm
theorem Fit.swapAt {r : Rws} {i : Nat} {x : Rw} (hi : i < r.length) (h : Fit w0 F M (x :: r)) : Fit w0 F M (r.set i x) := by
  have e2 : r.set i x = r.take i ++ x :: r.drop (i + 1) := by
    rw [List.set_eq_take_append_cons_drop, if_pos hi]
  rw [e2]
  have e1 : r = r.take i ++ r[i] :: r.drop (i + 1) := by
    rw [← List.drop_eq_getElem_cons hi, List.take_append_drop]
  have h1 : Fit w0 F M ((x :: (r.take i ++ r.drop (i + 1))) ++ [r[i]]) := by
    refine h.perm ?_
    refine List.Perm.cons _ ?_
    conv => lhs; rw [e1]
    exact List.perm_middle.trans (List.perm_append_comm (l₁ := [r[i]]))
  exact h1.drop.perm List.perm_middle.symm

abbrev refR (n : Nat) (sF sI sB : SV) (steps : Int) : List Value := [.int .i64 (n : Int), sF.v, sI.v, sB.v, .int .i64 steps]
def tenV (g : Nat → Int) : List Value := (List.range 10).map fun f => Value.int .i64 (g f)
theorem tenV_get {g : Nat → Int} {f : Nat} (h : f < 10) : (tenV g)[f]? = some (.int .i64 (g f)) := by simp [tenV, h]
def fV (never : Nat) (bc : Nat → Nat) : List Value := (List.range never).map fun c => Value.slice (some ⟨bc c, 0, none⟩) 10 10
def iV (never : Nat) (live : Nat → Bool) : List Value := (List.range never).map fun c => Value.bool (live c)
def cellsA (never : Nat) (bc : Nat → Nat) (get : Nat → Nat → Int) : Asn := fun r => r = (List.range never).map fun c => (bc c, tenV (get c), 2)
def refS (m : Nat) (α : AS) (sF sI sB : SV) (bc : Nat → Nat) : Asn := star (row1 m (refR α.n sF sI sB α.steps) 85) (star (SlA sF (fV α.never bc)) (star (SlA sI (iV α.never α.live)) (star (SlA sB (natsV α.free)) (cellsA α.never bc α.get))))
/-- The document's arena at m. -/
def refA (m : Nat) (α : AS) : Asn := fun r => α.Inv ∧ ∃ sF sI sB bc, refS m α sF sI sB bc r
theorem Holds.ref {m : Nat} {α : AS} (h : Holds w0 F M (refA m α)) : α.Inv ∧ ∃ sF sI sB bc, Holds w0 F M (refS m α sF sI sB bc) := by
  obtain ⟨r, ⟨hi, sF, sI, sB, bc, hr⟩, hf⟩ := h
  exact ⟨hi, sF, sI, sB, bc, r, hr, hf⟩
theorem Holds.toRef {m : Nat} {α : AS} {sF sI sB : SV} {bc : Nat → Nat} (hi : α.Inv) (h : Holds w0 F M (refS m α sF sI sB bc)) : Holds w0 F M (refA m α) := by
  obtain ⟨r, hr, hf⟩ := h
  exact ⟨r, ⟨hi, sF, sI, sB, bc, hr⟩, hf⟩

section
variable {m : Nat} {α : AS} {sF sI sB : SV} {bc : Nat → Nat}

theorem ref_rd (h : Holds w0 F M (refS m α sF sI sB bc)) : rd w0 M ⟨m, 0, none⟩ = some (.int .i64 (α.n : Int)) ∧ rd w0 M ⟨m, 1, none⟩ = some sF.v ∧ rd w0 M ⟨m, 2, none⟩ = some sI.v ∧ rd w0 M ⟨m, 3, none⟩ = some sB.v ∧ rd w0 M ⟨m, 4, none⟩ = some (.int .i64 α.steps) := by
  have o := Holds.own1 h
  exact ⟨by rw [rd_own o]; rfl, by rw [rd_own o]; rfl, by rw [rd_own o]; rfl, by rw [rd_own o]; rfl, by rw [rd_own o]; rfl⟩
theorem sl_cells {s : SV} {l : List Value} {Q : Asn} (h : Holds w0 F M (star (SlA s l) Q)) : Cells w0 M s.a l ∧ s.n = l.length := by
  obtain ⟨F', h1, _⟩ := h.sl
  exact ⟨h1.cells, h1.len⟩
theorem iV_get {never : Nat} {live : Nat → Bool} {c : Nat} (h : c < never) : (iV never live)[c]? = some (.bool (live c)) := by simp [iV, h]
theorem fV_get {never : Nat} {bc : Nat → Nat} {c : Nat} (h : c < never) : (fV never bc)[c]? = some (.slice (some ⟨bc c, 0, none⟩) 10 10) := by simp [fV, h]

theorem rLiveS_ok (hi : α.Inv) (h : Holds w0 F M (refS m α sF sI sB bc)) {c : Int} (hR : R (.bool (α.liveI c)) M) : C PP w0 Id.thicketref5_Arena_Live #[.pointer (some ⟨m, 0, none⟩), .int .i64 c] R M := by
  apply thicketref5_Arena_Live.go
  unfold thicketref5_Arena_Live.T
  obtain ⟨r0, r1, r2, r3, r4⟩ := ref_rd h
  obtain ⟨hc, hn⟩ := sl_cells (Holds.rot3 h)
  simp only [iV, List.length_map, List.length_range] at hn
  rw [bs_decide]
  split
  · rename_i h0
    obtain ⟨c, rfl⟩ : ∃ k : Nat, c = (k : Int) := ⟨c.toNat, by omega⟩
    rw [AS.liveI_nat] at hR
    simp only [go_sem, add_eq, Nat.zero_add, r2, bs_decide]
    split
    · rename_i hlt
      exact rdv hc (by rw [hn]; simp [iV]) c rfl (iV_get (live := α.live) (by omega)) (by rw [shB_v]; exact hR)
    · rename_i hlt
      rw [hi.live c (by omega)] at hR; exact hR
  · rename_i h0
    have e : α.liveI c = false := by
      unfold AS.liveI
      rw [decide_eq_false (by omega)]; rfl
    rw [e] at hR; exact hR
end

theorem rLive_ok {m : Nat} {α : AS} (hA : Holds w0 F M (refA m α)) {c : Int} (hR : R (.bool (α.liveI c)) M) : C PP w0 Id.thicketref5_Arena_Live #[.pointer (some ⟨m, 0, none⟩), .int .i64 c] R M := by
  obtain ⟨hi, sF, sI, sB, bc, h⟩ := hA.ref
  exact rLiveS_ok hi h hR

/-- A step is counted. -/
theorem ref_tick {m : Nat} {α : AS} (hA : Holds w0 F M (refA m α)) (hs : α.steps ≤ 1000000) : ∃ sF sI sB bc, rd w0 M ⟨m, 4, none⟩ = some (.int .i64 α.steps) ∧ w64 (α.steps + 1) = α.steps + 1 ∧
    Own w0 M m (refR α.n sF sI sB α.steps) 85 ∧ α.tick.steps = α.steps + 1 ∧ Holds w0 F (M.set m (.row (refR α.n sF sI sB (α.steps + 1)) 85)) (refS m α.tick sF sI sB bc) := by
  obtain ⟨hi, sF, sI, sB, bc, h⟩ := hA.ref
  have h0 := hi.steps.1
  have e : α.tick.steps = α.steps + 1 := by
    show addc α.steps 1 = _
    unfold addc
    rw [if_neg (by omega), if_neg (by omega)]
  refine ⟨sF, sI, sB, bc, (ref_rd h).2.2.2.2, w64_in (by omega), Holds.own1 h, e, ?_⟩
  unfold refS
  rw [e]
  exact Holds.upd1 h

theorem rGet_ok {m : Nat} {α : AS} (hA : Holds w0 F M (refA m α)) (hs : α.steps ≤ 1000000) {c f : Int} (hR : ∀ M', Holds w0 F M' (refA m α.tick) → R (.int .i64 (α.getI c f)) M') : C PP w0 Id.thicketref5_Arena_Get #[.pointer (some ⟨m, 0, none⟩), .int .i64 c, .int .i64 f] R M := by
  obtain ⟨sF, sI, sB, bc, r4, ew, o, et, h⟩ := ref_tick hA hs
  have hi := AS.tick_inv hA.ref.1
  apply thicketref5_Arena_Get.go
  intro pts H
  unfold thicketref5_Arena_Get.T
  simp only [go_sem, add_eq, Nat.zero_add, r4, ew]
  refine st_one W.c2 o (by simp) rfl rfl ?_
  have hrow : (refR α.n sF sI sB α.steps).set 4 (.int .i64 (α.steps + 1)) = refR α.n sF sI sB (α.steps + 1) := rfl
  rw [hrow]
  generalize M.set m (.row (refR α.n sF sI sB (α.steps + 1)) 85) = M1 at h ⊢
  have hh := hR M1 (Holds.toRef hi h)
  unfold AS.getI AS.hasI at hh
  refine rLiveS_ok hi h ?_
  rw [shB_v, bs_not, bs_b]
  refine ⟨fun hl => ?_, fun hl => ?_⟩
  · change α.liveI c = true at hl
    rw [hl] at hh
    simp only [Bool.true_and] at hh
    rw [bs_decide]
    split
    · rename_i hf
      rw [decide_eq_false (by omega)] at hh; exact hh
    · rw [bs_decide]
      split
      · rename_i hf
        rw [decide_eq_true (by omega), decide_eq_false (by omega)] at hh; exact hh
      · rw [decide_eq_true (by omega), decide_eq_true (by omega)] at hh
        simp only [Bool.true_and, if_true] at hh
        obtain ⟨h5, h6, h7⟩ := AS.liveI_lt hA.ref.1 hl
        obtain ⟨c, rfl⟩ : ∃ k : Nat, c = (k : Int) := ⟨c.toNat, by omega⟩
        obtain ⟨f, rfl⟩ : ∃ k : Nat, f = (k : Int) := ⟨f.toNat, by omega⟩
        simp only [Int.toNat_natCast] at h6 hh
        rw [H.J1]
        unfold thicketref5_Arena_Get.J1.T
        have r1 := (ref_rd h).2.1
        obtain ⟨hcF, hnF⟩ := sl_cells (Holds.rot h)
        simp only [go_sem, add_eq, Nat.zero_add, r1]
        refine rdv hcF hnF c rfl (fV_get (bc := bc) (by show c < α.never; exact h6)) ?_
        rw [shS_v, nc_v]
        refine ⟨⟨by omega, by show (f : Int) < ((10 : Nat) : Int); omega⟩, ?_⟩
        obtain ⟨r, ⟨q1, q2, rfl, hq, _⟩, hf⟩ := Holds.rot5 h
        have hown : Own w0 M1 (bc c) (tenV (α.get c)) 2 := hf.own (by
          rw [hq]
          refine List.mem_append_left _ ?_
          exact List.mem_map.2 ⟨c, List.mem_range.2 h6, rfl⟩)
        rw [Int.toNat_natCast, add_eq, Nat.zero_add, Nat.mul_one, rd_own hown, tenV_get (by omega), ob_v, shI_v]
        exact hh
  · change α.liveI c = false at hl
    rw [hl] at hh
    exact hh

theorem rCell_ok {m : Nat} {α : AS} (hA : Holds w0 F M (refA m α)) (hs : α.steps ≤ 1000000) {c f : Int} (hR : ∀ M', Holds w0 F M' (refA m α.tick) → R (.int .i64 (α.cellI c f)) M') : C PP w0 Id.thicketref5_Arena_Cell #[.pointer (some ⟨m, 0, none⟩), .int .i64 c, .int .i64 f] R M := by
  apply thicketref5_Arena_Cell.go
  unfold thicketref5_Arena_Cell.T
  refine rGet_ok hA hs fun M1 hA1 => ?_
  obtain ⟨_, sF, sI, sB, bc, h⟩ := hA1.ref
  have r0 := (ref_rd h).1
  have hh := hR M1 hA1
  unfold AS.cellI at hh
  have e : α.tick.n = α.n := rfl
  simp only [go_sem, r0, bs_decide, e]
  split
  · rw [if_pos (by omega)] at hh; exact hh
  · split
    · rw [if_pos (by omega)] at hh; exact hh
    · rw [if_neg (by omega)] at hh; exact hh

theorem cells_set {never c : Nat} {bc : Nat → Nat} {get get' : Nat → Nat → Int} {cs : List Value} (hc : c < never) (h1 : ∀ x, x ≠ c → tenV (get x) = tenV (get' x)) (h2 : cs = tenV (get' c)) :
    (((List.range never).map fun c => (bc c, tenV (get c), 2)) : Rws).set c (bc c, cs, 2) = (List.range never).map fun c => (bc c, tenV (get' c), 2) := by
  apply List.ext_getElem?
  intro j
  rw [List.getElem?_set]
  simp only [List.length_map, List.length_range, List.getElem?_map]
  by_cases hj : j < never
  · rw [List.getElem?_range hj]
    by_cases e : c = j
    · subst e; simp [hj, h2]
    · rw [if_neg e]; simp [h1 j (Ne.symm e)]
  · rw [if_neg (by omega), List.getElem?_eq_none (by simp; omega)]; rfl

theorem rSet_ok {m : Nat} {α : AS} (hA : Holds w0 F M (refA m α)) (hs : α.steps ≤ 1000000) {c f v : Int} (hR : ∀ M', Holds w0 F M' (refA m (α.setI c f v).tick) → R (.bool (α.hasI c f)) M') : C PP w0 Id.thicketref5_Arena_Set #[.pointer (some ⟨m, 0, none⟩), .int .i64 c, .int .i64 f, .int .i64 v] R M := by
  obtain ⟨sF, sI, sB, bc, r4, ew, o, et, h⟩ := ref_tick hA hs
  have hi := AS.tick_inv hA.ref.1
  apply thicketref5_Arena_Set.go
  intro pts H
  unfold thicketref5_Arena_Set.T
  simp only [go_sem, add_eq, Nat.zero_add, r4, ew]
  refine st_one W.c2 o (by simp) rfl rfl ?_
  have hrow : (refR α.n sF sI sB α.steps).set 4 (.int .i64 (α.steps + 1)) = refR α.n sF sI sB (α.steps + 1) := rfl
  rw [hrow]
  generalize M.set m (.row (refR α.n sF sI sB (α.steps + 1)) 85) = M1 at h ⊢
  have hno : α.hasI c f = false → R (.bool false) M1 := fun e => by
    have hh := hR M1
    unfold AS.setI at hh
    rw [e] at hh
    exact hh (Holds.toRef hi h)
  refine rLiveS_ok hi h ?_
  rw [shB_v, bs_not, bs_b]
  refine ⟨fun hl => ?_, fun hl => ?_⟩
  · change α.liveI c = true at hl
    rw [bs_decide]
    split
    · rename_i hf
      exact hno (by unfold AS.hasI; rw [decide_eq_false (show ¬ (0 ≤ f) by omega)]; simp)
    · rw [bs_decide]
      split
      · rename_i hf
        exact hno (by unfold AS.hasI; rw [decide_eq_false (show ¬ (f < 10) by omega)]; simp)
      · rename_i hf1 hf2
        have hhas : α.hasI c f = true := by
          unfold AS.hasI
          rw [hl, decide_eq_true (show 0 ≤ f by omega), decide_eq_true (show f < 10 by omega)]; rfl
        obtain ⟨h5, h6, h7⟩ := AS.liveI_lt hA.ref.1 hl
        obtain ⟨c, rfl⟩ : ∃ k : Nat, c = (k : Int) := ⟨c.toNat, by omega⟩
        obtain ⟨f, rfl⟩ : ∃ k : Nat, f = (k : Int) := ⟨f.toNat, by omega⟩
        simp only [Int.toNat_natCast] at h6 h7
        have hset : α.setI (c : Int) (f : Int) v = α.put c f v := by unfold AS.setI; rw [if_pos hhas]; simp
        rw [hset, hhas] at hR
        rw [H.J1]
        unfold thicketref5_Arena_Set.J1.T
        have r1 := (ref_rd h).2.1
        obtain ⟨hcF, hnF⟩ := sl_cells (Holds.rot h)
        simp only [go_sem, add_eq, Nat.zero_add, r1]
        refine rdv hcF hnF c rfl (fV_get (bc := bc) (by show c < α.never; exact h6)) ?_
        rw [shS_v, nc_v]
        refine ⟨⟨by omega, by show (f : Int) < ((10 : Nat) : Int); omega⟩, ?_⟩
        obtain ⟨r, ⟨q1, q2, rfl, hq, hq2⟩, hf⟩ := Holds.rot5 h
        have hget : q1[c]? = some (bc c, tenV (α.get c), 2) := by
          rw [hq]
          have : c < α.tick.never := h6
          simp [this]; rfl
        have hget' : (q1 ++ q2)[c]? = some (bc c, tenV (α.get c), 2) := by
          rw [List.getElem?_append_left (List.getElem?_eq_some_iff.1 hget).1]; exact hget
        have hown : Own w0 M1 (bc c) (tenV (α.get c)) 2 := hf.own (List.mem_of_getElem? hget')
        rw [Int.toNat_natCast, add_eq, Nat.zero_add, Nat.mul_one]
        refine st_one W.c2 hown (by simp [tenV]; omega) rfl rfl ?_
        have hf2 := Fit.updAt (cs' := (tenV (α.get c)).set f (.int .i64 v)) (e' := 2) hget' hf
        rw [List.set_append_left _ _ (List.getElem?_eq_some_iff.1 hget).1, hq] at hf2
        have hcs : (tenV (α.get c)).set f (.int .i64 v) = tenV ((α.put c f v).get c) := by
          apply List.ext_getElem?
          intro j
          rw [List.getElem?_set]
          simp only [tenV, List.length_map, List.length_range, List.getElem?_map]
          by_cases hj : j < 10
          · rw [List.getElem?_range hj]
            by_cases e : f = j
            · subst e; simp [hj, AS.put]
            · rw [if_neg e]; simp [AS.put, Ne.symm e]
          · rw [if_neg (by omega), List.getElem?_eq_none (by simp; omega)]; rfl
        have hno2 : ∀ x, x ≠ c → tenV (α.tick.get x) = tenV ((α.put c f v).get x) := fun x hx => by
          unfold tenV
          refine List.map_congr_left fun j _ => ?_
          show _ = Value.int .i64 (if x = c ∧ j = f then v else α.get x j)
          rw [if_neg (fun e => hx e.1)]; rfl
        rw [cells_set (never := α.tick.never) (get := α.tick.get) (get' := (α.put c f v).get) h6 hno2 hcs] at hf2
        exact hR _ (Holds.toRef (AS.tick_inv (AS.put_inv hA.ref.1 c f v)) (Holds.rot5i ⟨_, ⟨_, q2, rfl, rfl, hq2⟩, hf2⟩))
  · change α.liveI c = false at hl
    exact hno (by unfold AS.hasI; rw [hl]; rfl)

end
end Go.Proofs.Ytoeijcmpkfjbfaa.HL
