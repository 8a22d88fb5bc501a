/-
  ArA: the arena: what each of its calls does, and what it leaves as it was.
-/
import Derived.Test.YtoeijcmpkfjbfaaGenAll
import Derived.Test.YtoeijcmpkfjbfaaArM
import Derived.Test.YtoeijcmpkfjbfaaOrA
set_option linter.unusedVariables false
set_option linter.unusedSimpArgs false
set_option maxRecDepth 100000
namespace Go.Proofs.Ytoeijcmpkfjbfaa.HL
open Go.RowKit (Below)
open Go.Proofs

section
variable {w0 : World} {M F : Mem} {R : Value → Mem → Prop}

abbrev meterR (s g m : Int) : List Value := [.int .i64 s, .int .i64 g, .int .i64 m]
theorem Tick_ok {b : Nat} {s g m n : Int} (ho : Own w0 M b (meterR s g m) 79) (hs : In64 s) (hn : In64 n) (h0 : 0 ≤ n) (h : R (.tuple #[]) (M.set b (.row (meterR (addc s n) g m) 79))) : C PP w0 Id.meter_Meter_Tick #[.pointer (some ⟨b, 0, none⟩), .int .i64 n] R M := by
  apply meter_Meter_Tick.go
  unfold meter_Meter_Tick.T
  have e1 : rd w0 M ⟨b, 0, none⟩ = some (.int .i64 s) := by rw [rd_own ho]; rfl
  have e2 : (if n > 0 then n else 0) = n := by split <;> omega
  simp only [go_sem, e1, e2]
  refine order_Add_ok hs hn ?_
  simp only [go_sem]
  exact st_one W.c2 ho (by simp) rfl rfl h
theorem Steps_ok {b : Nat} {s g m : Int} (ho : Own w0 M b (meterR s g m) 79) (h : R (.int .i64 s) M) : C PP w0 Id.meter_Meter_Steps #[.pointer (some ⟨b, 0, none⟩)] R M := by
  apply meter_Meter_Steps.go
  unfold meter_Meter_Steps.T
  have e1 : rd w0 M ⟨b, 0, none⟩ = some (.int .i64 s) := by rw [rd_own ho]; rfl
  simp only [go_sem, e1]
  exact h

/-- The arena's own row. -/
abbrev arR (bL n : Nat) (never : Nat) (sf : SV) (bM : Nat) : List Value := [.slice (some ⟨bL, 0, none⟩) n n, .int .i64 (never : Int), sf.v, .pointer (some ⟨bM, 0, none⟩)]
def natsV (l : List Nat) : List Value := l.map fun (c : Nat) => Value.int .i64 (c : Int)
/-- An arena at a. -/
def arenaA (a : Nat) (α : AS) : Asn := fun r => α.Inv ∧ ∃ bL bM sf cs rf, r = (a, arR bL α.n α.never sf bM, 71) :: (bL, cs, 75) :: (bM, meterR α.steps α.begun α.most, 79) :: rf ∧ CellsOk cs α ∧ SlA sf (natsV α.free) rf
/-- What is seen of it. -/
structure Seen (w0 : World) (M : Mem) (a bL bM : Nat) (sf : SV) (cs : List Value) (α : AS) : Prop where
  a : Own w0 M a (arR bL α.n α.never sf bM) 71
  l : Own w0 M bL cs 75
  m : Own w0 M bM (meterR α.steps α.begun α.most) 79
  cs : CellsOk cs α
  inv : α.Inv

theorem Holds.seen {a : Nat} {α : AS} (h : Holds w0 F M (arenaA a α)) : ∃ bL bM sf cs, Seen w0 M a bL bM sf cs α ∧ sf.n = α.free.length := by
  obtain ⟨r, ⟨hi, bL, bM, sf, cs, rf, rfl, hc, hs⟩, hf⟩ := h
  exact ⟨bL, bM, sf, cs, ⟨hf.own (by simp), hf.own (by simp), hf.own (by simp), hc, hi⟩, by rw [hs.len]; simp [natsV]⟩
theorem Holds.inv {a : Nat} {α : AS} (h : Holds w0 F M (arenaA a α)) : α.Inv := by
  obtain ⟨r, ⟨hi, _⟩, _⟩ := h; exact hi

section
variable {a bL bM : Nat} {sf : SV} {cs : List Value} {α : AS}

theorem Seen.r0 (h : Seen w0 M a bL bM sf cs α) : rd w0 M ⟨a, 0, none⟩ = some (.slice (some ⟨bL, 0, none⟩) α.n α.n) := by rw [rd_own h.a]; rfl
theorem Seen.r1 (h : Seen w0 M a bL bM sf cs α) : rd w0 M ⟨a, 1, none⟩ = some (.int .i64 (α.never : Int)) := by rw [rd_own h.a]; rfl
theorem Seen.r2 (h : Seen w0 M a bL bM sf cs α) : rd w0 M ⟨a, 2, none⟩ = some sf.v := by rw [rd_own h.a]; rfl
theorem Seen.r3 (h : Seen w0 M a bL bM sf cs α) : rd w0 M ⟨a, 3, none⟩ = some (.pointer (some ⟨bM, 0, none⟩)) := by rw [rd_own h.a]; rfl
theorem Seen.live (h : Seen w0 M a bL bM sf cs α) {c : Nat} (hc : c < α.n) : rd w0 M ⟨bL, c * 11 + 10, none⟩ = some (.bool (α.live c)) := by
  rw [rd_own h.l, Nat.mul_comm]; exact h.cs.t c hc
theorem Seen.f (h : Seen w0 M a bL bM sf cs α) {c f : Nat} (hc : c < α.n) (hf : f < 10) : rd w0 M ⟨bL, c * 11 + f, none⟩ = some (.int .i64 (α.get c f)) := by
  rw [rd_own h.l, Nat.mul_comm]; exact h.cs.f c f hc hf

theorem LiveS_ok (hs : Seen w0 M a bL bM sf cs α) {c : Int} (h : R (.bool (α.liveI c)) M) : C PP w0 Id.arena_Arena_Live #[.pointer (some ⟨a, 0, none⟩), .int .i64 c] R M := by
  apply arena_Arena_Live.go
  unfold arena_Arena_Live.T
  simp only [go_sem, hs.r0, bs_decide]
  split
  · rename_i h0
    obtain ⟨c, rfl⟩ : ∃ k : Nat, c = (k : Int) := ⟨c.toNat, by omega⟩
    have e : α.liveI (c : Int) = α.live c := by simp [AS.liveI]
    rw [e] at h
    split
    · rename_i hc
      have hc' : c < α.n := by omega
      refine ⟨by omega, ?_⟩
      simp only [add_eq, Int.toNat_natCast, Nat.zero_add, hs.live hc', ob_v, shB_v]
      exact h
    · rename_i hc
      have := hs.inv.live c (by have := hs.inv.never; omega)
      rw [this] at h; exact h
  · rename_i h0
    have e : α.liveI c = false := by
      unfold AS.liveI
      rw [decide_eq_false (by omega)]; rfl
    rw [e] at h; exact h
theorem hasS_ok (hs : Seen w0 M a bL bM sf cs α) {c f : Int} (h : R (.bool (α.hasI c f)) M) : C PP w0 Id.arena_Arena_has #[.pointer (some ⟨a, 0, none⟩), .int .i64 c, .int .i64 f] R M := by
  apply arena_Arena_has.go
  unfold arena_Arena_has.T
  refine LiveS_ok hs ?_
  simp only [go_sem]
  unfold AS.hasI at h
  rw [bs_b]
  refine ⟨fun h1 => ?_, fun h1 => by rw [h1] at h; exact h⟩
  rw [h1] at h
  rw [bs_decide]
  split
  · rename_i h2
    rw [decide_eq_true h2] at h; exact h
  · rename_i h2
    rw [decide_eq_false h2] at h; exact h
end

theorem Live_ok {a : Nat} {α : AS} (hA : Holds w0 F M (arenaA a α)) {c : Int} (h : R (.bool (α.liveI c)) M) : C PP w0 Id.arena_Arena_Live #[.pointer (some ⟨a, 0, none⟩), .int .i64 c] R M := by
  obtain ⟨bL, bM, sf, cs, hs, _⟩ := hA.seen
  exact LiveS_ok hs h
theorem Cells_ok {a : Nat} {α : AS} (hA : Holds w0 F M (arenaA a α)) (h : R (.int .i64 (α.n : Int)) M) : C PP w0 Id.arena_Arena_Cells #[.pointer (some ⟨a, 0, none⟩)] R M := by
  obtain ⟨bL, bM, sf, cs, hs, _⟩ := hA.seen
  apply arena_Arena_Cells.go
  unfold arena_Arena_Cells.T
  simp only [go_sem, hs.r0]
  exact h
theorem Len_ok {a : Nat} {α : AS} (hA : Holds w0 F M (arenaA a α)) (h : R (.int .i64 (α.len : Int)) M) : C PP w0 Id.arena_Arena_Len #[.pointer (some ⟨a, 0, none⟩)] R M := by
  obtain ⟨bL, bM, sf, cs, hs, hn⟩ := hA.seen
  apply arena_Arena_Len.go
  unfold arena_Arena_Len.T
  simp only [go_sem, add_eq, Nat.zero_add, hs.r1, hs.r2, hn]
  have h1 := hs.inv.len
  have h2 := hs.inv.never
  have h3 := hs.inv.n
  rw [w64_in (by omega), show (α.never : Int) - (α.free.length : Int) = (α.len : Int) from by omega]
  exact h
/-- The meter, and its steps. -/
theorem MeterSteps_ok {a : Nat} {α : AS} (hA : Holds w0 F M (arenaA a α)) {K : Option Addr → Value → Mem → Prop} (h : ∀ p, p ≠ none → C PP w0 Id.meter_Meter_Steps #[.pointer p] (fun v M' => M' = M ∧ v = .int .i64 α.steps) M → R (.pointer p) M) : C PP w0 Id.arena_Arena_Meter #[.pointer (some ⟨a, 0, none⟩)] R M := by
  obtain ⟨bL, bM, sf, cs, hs, hn⟩ := hA.seen
  apply arena_Arena_Meter.go
  unfold arena_Arena_Meter.T
  simp only [go_sem, add_eq, Nat.zero_add, hs.r3]
  exact h _ (by simp) (Steps_ok hs.m ⟨rfl, rfl⟩)

/-- A step is counted. -/
theorem Holds.ticked {a : Nat} {α : AS} (hA : Holds w0 F M (arenaA a α)) : ∃ bL bM sf cs, Seen w0 M a bL bM sf cs α ∧ Seen w0 (M.set bM (.row (meterR (addc α.steps 1) α.begun α.most) 79)) a bL bM sf cs α.tick ∧ Holds w0 F (M.set bM (.row (meterR (addc α.steps 1) α.begun α.most) 79)) (arenaA a α.tick) := by
  obtain ⟨r, ⟨hi, bL, bM, sf, cs, rf, rfl, hc, hs⟩, hf⟩ := hA
  have hf' : Fit w0 F (M.set bM (.row (meterR (addc α.steps 1) α.begun α.most) 79)) ((a, arR bL α.n α.never sf bM, 71) :: (bL, cs, 75) :: (bM, meterR (addc α.steps 1) α.begun α.most, 79) :: rf) := by
    have h1 := hf.perm (r' := (bM, meterR α.steps α.begun α.most, 79) :: (a, arR bL α.n α.never sf bM, 71) :: (bL, cs, 75) :: rf) (List.perm_middle (l₁ := [_, _]))
    exact h1.upd.perm (List.perm_middle (l₁ := [_, _])).symm
  refine ⟨bL, bM, sf, cs, ⟨hf.own (by simp), hf.own (by simp), hf.own (by simp), hc, hi⟩, ⟨hf'.own (by simp [AS.tick]), hf'.own (by simp), hf'.own (by simp [AS.tick]), hc.tick, AS.tick_inv hi⟩, _, ⟨AS.tick_inv hi, bL, bM, sf, cs, rf, rfl, hc.tick, hs⟩, hf'⟩
theorem one_in : In64 1 := by unfold In64; omega

theorem Get_ok {a : Nat} {α : AS} (hA : Holds w0 F M (arenaA a α)) {c f : Int} (h : ∀ M', Holds w0 F M' (arenaA a α.tick) → R (.int .i64 (α.getI c f)) M') : C PP w0 Id.arena_Arena_Get #[.pointer (some ⟨a, 0, none⟩), .int .i64 c, .int .i64 f] R M := by
  obtain ⟨bL, bM, sf, cs, hs, hs1, hA1⟩ := hA.ticked
  apply arena_Arena_Get.go
  unfold arena_Arena_Get.T
  simp only [go_sem, add_eq, Nat.zero_add, hs.r3]
  refine Tick_ok hs.m hs.inv.steps.2 one_in (by omega) ?_
  refine hasS_ok hs1 ?_
  have hh := h _ hA1
  unfold AS.getI at hh
  simp only [go_sem, bs_not]
  rw [bs_b]
  refine ⟨fun h1 => ?_, fun h1 => ?_⟩
  · change α.hasI c f = true at h1
    rw [if_pos h1] at hh
    simp only [AS.hasI, Bool.and_eq_true, decide_eq_true_eq] at h1
    obtain ⟨⟨h2, h3⟩, h4⟩ := h1
    obtain ⟨h5, h6, h7⟩ := AS.liveI_lt hs.inv h2
    have hn := hs.inv.never
    obtain ⟨c, rfl⟩ : ∃ k : Nat, c = (k : Int) := ⟨c.toNat, by omega⟩
    obtain ⟨f, rfl⟩ : ∃ k : Nat, f = (k : Int) := ⟨f.toNat, by omega⟩
    simp only [Int.toNat_natCast] at h6 hh
    have e0 := hs1.r0
    have e1 := hs1.f (c := c) (f := f) (by show c < α.n; omega) (by omega)
    simp only [e0, ob_v, shS_v, nc_v, add_eq, Nat.zero_add, Int.toNat_natCast, Nat.mul_one, e1, shI_v]
    exact ⟨⟨by omega, by show (c : Int) < (α.n : Int); omega⟩, ⟨by omega, by omega⟩, hh⟩
  · change α.hasI c f = false at h1
    rw [h1] at hh; exact hh

theorem Cell_ok {a : Nat} {α : AS} (hA : Holds w0 F M (arenaA a α)) {c f : Int} (h : ∀ M', Holds w0 F M' (arenaA a α.tick) → R (.int .i64 (α.cellI c f)) M') : C PP w0 Id.arena_Arena_Cell #[.pointer (some ⟨a, 0, none⟩), .int .i64 c, .int .i64 f] R M := by
  apply arena_Arena_Cell.go
  unfold arena_Arena_Cell.T
  refine Get_ok hA fun M' hA' => ?_
  obtain ⟨bL, bM, sf, cs, hs, _⟩ := hA'.seen
  have hh := h M' hA'
  unfold AS.cellI at hh
  have e : α.tick.n = α.n := rfl
  simp only [go_sem, hs.r0, bs_decide, e]
  split
  · rw [if_pos (by omega)] at hh; exact hh
  · split
    · rw [if_pos (by omega)] at hh; exact hh
    · rw [if_neg (by omega)] at hh; exact hh

theorem Set_ok {a : Nat} {α : AS} (hA : Holds w0 F M (arenaA a α)) {c f v : Int} (h : ∀ M', Holds w0 F M' (arenaA a (α.setI c f v).tick) → R (.bool (α.hasI c f)) M') : C PP w0 Id.arena_Arena_Set #[.pointer (some ⟨a, 0, none⟩), .int .i64 c, .int .i64 f, .int .i64 v] R M := by
  obtain ⟨bL, bM, sf, cs, hs, hs1, hA1⟩ := hA.ticked
  apply arena_Arena_Set.go
  unfold arena_Arena_Set.T
  simp only [go_sem, add_eq, Nat.zero_add, hs.r3]
  refine Tick_ok hs.m hs.inv.steps.2 one_in (by omega) ?_
  generalize hM1 : M.set bM (.row (meterR (addc α.steps 1) α.begun α.most) 79) = M1 at hs1 hA1 ⊢
  refine hasS_ok hs1 ?_
  simp only [go_sem, bs_not]
  rw [bs_b]
  refine ⟨fun h1 => ?_, fun h1 => ?_⟩
  · change α.hasI c f = true at h1
    unfold AS.setI at h
    rw [if_pos h1, h1] at h
    simp only [AS.hasI, Bool.and_eq_true, decide_eq_true_eq] at h1
    obtain ⟨⟨h2, h3⟩, h4⟩ := h1
    obtain ⟨h5, h6, h7⟩ := AS.liveI_lt hs.inv h2
    have hn := hs.inv.never
    obtain ⟨c, rfl⟩ : ∃ k : Nat, c = (k : Int) := ⟨c.toNat, by omega⟩
    obtain ⟨f, rfl⟩ : ∃ k : Nat, f = (k : Int) := ⟨f.toNat, by omega⟩
    simp only [Int.toNat_natCast] at h6 h
    have hcn : c < α.n := by omega
    have hfn : f < 10 := by omega
    obtain ⟨r, ⟨hi, bL', bM', sf', cs', rf, rfl, hc, hsl⟩, hf⟩ := hA1
    have e0 : rd w0 M1 ⟨a, 0, none⟩ = some (.slice (some ⟨bL', 0, none⟩) α.n α.n) := by rw [rd_own (hf.own (b := a) (cs := arR bL' α.n α.never sf' bM') (e := 71) List.mem_cons_self)]; rfl
    simp only [e0, ob_v, shS_v, nc_v, add_eq, Nat.zero_add, Int.toNat_natCast, Nat.mul_one]
    refine ⟨⟨by omega, by omega⟩, ⟨by omega, by omega⟩, ?_⟩
    refine st_one W.c2 (hf.own (b := bL') (cs := cs') (e := 75) (by simp)) (by rw [hc.len]; show c * 11 + f < 11 * α.n; omega) rfl rfl ?_
    refine h _ ⟨_, ⟨AS.tick_inv (AS.put_inv hs.inv c f v), bL', bM', sf', cs'.set (11 * c + f) (.int .i64 v), rf, rfl, (CellsOk.put (α := α) ⟨hc.len, hc.f, hc.t⟩ hcn hfn v).tick, hsl⟩, ?_⟩
    rw [Nat.mul_comm c 11]
    have h1 := hf.perm (List.perm_middle (l₁ := [_]))
    exact h1.upd.perm (List.perm_middle (l₁ := [_])).symm
  · change α.hasI c f = false at h1
    unfold AS.setI at h
    rw [h1] at h
    exact h _ hA1

/-- A new cell's values. -/
theorem fresh_ok (h : ∀ M', Mem.le M M' → R (.agg freshV.toArray) M') : C PP w0 Id.arena_fresh #[] R M := by
  apply arena_fresh.go
  intro pts H
  unfold arena_fresh.T
  intro b1 hb1 hw1
  simp only [go_sem]
  intro b2 hb2 hw2
  have f1 := (Fit.nil (w0 := w0) (Mem.le_refl M)).new hb1 hw1 (cs := [.int .i64 0, .int .i64 0, .int .i64 0, .int .i64 0, .int .i64 0, .int .i64 0, .int .i64 0, .int .i64 0, .int .i64 0, .int .i64 0, .bool false]) (e := 75)
  have f2 := f1.new hb2 hw2 (cs := [.int .i64 0, .int .i64 0, .int .i64 0, .int .i64 0, .int .i64 0, .int .i64 0, .int .i64 0, .int .i64 0, .int .i64 0, .int .i64 0, .bool false]) (e := 75)
  refine st_agg (vs := [.int .i64 0, .int .i64 0, .int .i64 0, .int .i64 0, .int .i64 0, .int .i64 0, .int .i64 0, .int .i64 0, .int .i64 0, .int .i64 0, .bool true]) W.g75 (f2.own List.mem_cons_self) (by decide) (by decide) ?_
  have f3 := f2.upd (cs' := over [.int .i64 0, .int .i64 0, .int .i64 0, .int .i64 0, .int .i64 0, .int .i64 0, .int .i64 0, .int .i64 0, .int .i64 0, .int .i64 0, .bool false] 0 [.int .i64 0, .int .i64 0, .int .i64 0, .int .i64 0, .int .i64 0, .int .i64 0, .int .i64 0, .int .i64 0, .int .i64 0, .int .i64 0, .bool true]) (e' := 75)
  refine bsl_e (cells := (([0, 1, 2, 3, 6, 9] : List Int).map fun n => Value.int .i64 n).toArray) Try.underlying44 W.e3 (by decide) (by kernel_rfl) fun b3 hb3 hw3 => ?_
  have f4 := f3.new hb3 hw3 (cs := (([0, 1, 2, 3, 6, 9] : List Int).map fun n => Value.int .i64 n)) (e := 3)
  simp only [go_sem]
  have step : ∀ (k i : Nat) (f : Nat) (cs : List Value) (M' : Mem), ([0, 1, 2, 3, 6, 9] : List Int)[i]? = some (f : Int) → f < 10 → cs.length = 11 → i < 6 →
      Fit w0 M M' [(b3, (([0, 1, 2, 3, 6, 9] : List Int).map fun n => Value.int .i64 n), 3), (b2, cs, 75), (b1, [.int .i64 0, .int .i64 0, .int .i64 0, .int .i64 0, .int .i64 0, .int .i64 0, .int .i64 0, .int .i64 0, .int .i64 0, .int .i64 0, .bool false], 75)] →
      (∀ M'', Fit w0 M M'' [(b3, (([0, 1, 2, 3, 6, 9] : List Int).map fun n => Value.int .i64 n), 3), (b2, cs.set f (.int .i64 (-1)), 75), (b1, [.int .i64 0, .int .i64 0, .int .i64 0, .int .i64 0, .int .i64 0, .int .i64 0, .int .i64 0, .int .i64 0, .int .i64 0, .int .i64 0, .bool false], 75)] →
        arena_fresh.L1 pts k ⟨b1, 0, none⟩ ⟨b2, 0, none⟩ ⟨some ⟨b3, 0, none⟩, 6, 6⟩ 6 ((i + 1 : Nat) : Int) M'') →
      arena_fresh.L1 pts (k + 1) ⟨b1, 0, none⟩ ⟨b2, 0, none⟩ ⟨some ⟨b3, 0, none⟩, 6, 6⟩ 6 (i : Int) M' := by
    intro k i f cs M' hi hf hl h6 hfit hK
    rw [H.L1]
    unfold arena_fresh.L1.T
    rw [bs_decide, if_pos (by omega)]
    have hr : RdI w0 M' .i64 ⟨some ⟨b3, 0, none⟩, 6, 6⟩ [0, 1, 2, 3, 6, 9] := RdI.own (hfit.own List.mem_cons_self) rfl (Nat.le_refl _) (ints_get _) (by decide) (by decide)
    refine rdx W.c3 hr (Mem.le_refl _) i rfl hi ?_
    refine ⟨⟨by omega, by omega⟩, ?_⟩
    rw [add_eq, Nat.zero_add, Nat.mul_one, Int.toNat_natCast]
    refine st_one W.c2 (hfit.own (b := b2) (cs := cs) (e := 75) (by simp)) (by omega) rfl rfl ?_
    rw [w64_in (by omega)]
    refine hK _ ?_
    have h1 := hfit.perm (List.perm_middle (l₁ := [_]))
    exact h1.upd.perm (List.perm_middle (l₁ := [_])).symm
  refine ⟨7, step 6 0 0 _ _ rfl (by omega) rfl (by omega) f4 fun M5 f5 => step 5 1 1 _ _ rfl (by omega) (by rw [List.length_set]; rfl) (by omega) f5 fun M6 f6 => step 4 2 2 _ _ rfl (by omega) (by simp only [List.length_set]; rfl) (by omega) f6 fun M7 f7 =>
    step 3 3 3 _ _ rfl (by omega) (by simp only [List.length_set]; rfl) (by omega) f7 fun M8 f8 => step 2 4 6 _ _ rfl (by omega) (by simp only [List.length_set]; rfl) (by omega) f8 fun M9 f9 => step 1 5 9 _ _ rfl (by omega) (by simp only [List.length_set]; rfl) (by omega) f9 fun M10 f10 => ?_⟩
  rw [H.L1]
  unfold arena_fresh.L1.T
  rw [bs_decide, if_neg (by omega)]
  have o2 : Own w0 M10 b2 freshV 75 := f10.own (List.mem_cons_of_mem _ List.mem_cons_self)
  have o1 := f10.own (List.mem_cons_of_mem _ (List.mem_cons_of_mem _ List.mem_cons_self))
  rw [ld_agg (cs := freshV) W.g75 (fun j v hj => by rw [add_eq, rd_own o2, Nat.zero_add]; exact hj)]
  simp only [freshV, go_sem]
  refine st_agg (vs := freshV) W.g75 o1 (by decide) (by decide) ?_
  have f11 := (f10.perm (List.perm_middle (l₁ := [_, _]))).upd (cs' := freshV) (e' := 75)
  have o3 := f11.own List.mem_cons_self
  have hov : over [.int .i64 0, .int .i64 0, .int .i64 0, .int .i64 0, .int .i64 0, .int .i64 0, .int .i64 0, .int .i64 0, .int .i64 0, .int .i64 0, .bool false] 0 freshV = freshV := rfl
  rw [hov, rdv_ptr, ld_agg (cs := freshV) W.g75 (fun j v hj => by rw [add_eq, rd_own o3, Nat.zero_add]; exact hj)]
  exact h _ f11.fr

theorem new_zeros {n c j : Nat} (hc : c < n) (hj : j < 11) : (zeros (.agg #[.int .i64 0, .int .i64 0, .int .i64 0, .int .i64 0, .int .i64 0, .int .i64 0, .int .i64 0, .int .i64 0, .int .i64 0, .int .i64 0, .bool false]) n)[11 * c + j]? = [Value.int .i64 0, .int .i64 0, .int .i64 0, .int .i64 0, .int .i64 0, .int .i64 0, .int .i64 0, .int .i64 0, .int .i64 0, .int .i64 0, .bool false][j]? := by
  have hlt : 11 * c + j < n * 11 := by omega
  have hm : (11 * c + j) % 11 = j := by omega
  simp only [zeros, Builtin.zeroCells, Value.cells]
  rw [Array.getElem?_toList, Array.getElem?_map]
  rw [Array.getElem?_eq_getElem (by simpa using hlt)]
  simp only [Array.getElem_range, Option.map_some]
  rw [show (#[Value.int .i64 0, .int .i64 0, .int .i64 0, .int .i64 0, .int .i64 0, .int .i64 0, .int .i64 0, .int .i64 0, .int .i64 0, .int .i64 0, .bool false] : Array Value).size = 11 from rfl, hm]
  match j, hj with
  | 0, _ | 1, _ | 2, _ | 3, _ | 4, _ | 5, _ | 6, _ | 7, _ | 8, _ | 9, _ | 10, _ => rfl

theorem meterNew_ok (h : ∀ b, M b = none → w0.heap.size ≤ b → R (.pointer (some ⟨b, 0, none⟩)) (M.set b (.row (meterR 0 0 0) 79))) : C PP w0 Id.meter_New #[] R M := by
  apply meter_New.go
  unfold meter_New.T
  simp only [go_sem]
  exact h

theorem New_ok {cells : Int} (h : ∀ M' a, Holds w0 M M' (arenaA a (AS.new (if (if 65536 < cells then 65536 else cells) > 0 then (if 65536 < cells then 65536 else cells) else 0).toNat)) → R (.pointer (some ⟨a, 0, none⟩)) M') : C PP w0 Id.arena_New #[.int .i64 cells] R M := by
  apply arena_New.go
  unfold arena_New.T
  obtain ⟨n, hn, hle⟩ : ∃ n : Nat, (if (if 65536 < cells then 65536 else cells) > 0 then (if 65536 < cells then 65536 else cells) else 0) = (n : Int) ∧ n ≤ 65536 := by
    refine ⟨(if (if 65536 < cells then 65536 else cells) > 0 then (if 65536 < cells then 65536 else cells) else 0).toNat, ?_, ?_⟩
    · split
      · omega
      · omega
    · split
      · split <;> omega
      · omega
  rw [hn] at h ⊢
  simp only [Int.toNat_natCast] at h
  obtain ⟨i, hi, hz, h1, h2, h3, h4⟩ := W.e75
  have hcells : CellsOk (zeros (.agg #[.int .i64 0, .int .i64 0, .int .i64 0, .int .i64 0, .int .i64 0, .int .i64 0, .int .i64 0, .int .i64 0, .int .i64 0, .int .i64 0, .bool false]) n) (AS.new n) := by
    refine ⟨by rw [zeros_length]; show n * 11 = 11 * n; omega, fun c f hc hf => ?_, fun c hc => ?_⟩
    · rw [new_zeros (n := n) (j := f) hc (by omega)]
      match f, hf with
      | 0, _ | 1, _ | 2, _ | 3, _ | 4, _ | 5, _ | 6, _ | 7, _ | 8, _ | 9, _ => rfl
    · rw [new_zeros (n := n) (j := 10) hc (by omega)]; rfl
  have fin : ∀ (bL bM : Nat) (M1 : Mem), Fit w0 M M1 [(bL, zeros (.agg #[.int .i64 0, .int .i64 0, .int .i64 0, .int .i64 0, .int .i64 0, .int .i64 0, .int .i64 0, .int .i64 0, .int .i64 0, .int .i64 0, .bool false]) n, 75), (bM, meterR 0 0 0, 79)] →
      ∀ b, M1 b = none → w0.heap.size ≤ b → R (.pointer (some ⟨b, 0, none⟩)) (M1.set b (.row (arR bL n 0 ⟨none, 0, 0⟩ bM) 71)) := by
    intro bL bM M1 hf b hb hw
    refine h _ b ⟨_, ⟨AS.new_inv hle, bL, bM, ⟨none, 0, 0⟩, _, [], rfl, hcells, SlA.nil⟩, ?_⟩
    exact hf.new hb hw
  have hmks : ∀ (M1 : Mem) (K : Value → Mem → Prop), (∀ b, M1 b = none → w0.heap.size ≤ b → K (.slice (some ⟨b, 0, none⟩) n n) (M1.set b (.row (zeros (.agg #[.int .i64 0, .int .i64 0, .int .i64 0, .int .i64 0, .int .i64 0, .int .i64 0, .int .i64 0, .int .i64 0, .int .i64 0, .int .i64 0, .bool false]) n) 75))) →
      (std PP w0).mks 69 (.int .i64 (n : Int)) (.int .i64 (n : Int)) K M1 := by
    intro M1 K hK
    refine mks_ok Try.underlying69 hi hz (by rw [h1]; exact h2) (Nat.le_refl _) ?_ (by omega) hK
    exact Nat.le_trans (Nat.mul_le_mul h4 hle) (by decide)
  constructor
  · refine hmks M _ fun b hb hw => ?_
    simp only [go_sem]
    refine meterNew_ok fun b2 hb2 hw2 => ?_
    simp only [go_sem]
    have f1 := ((Fit.nil (w0 := w0) (Mem.le_refl M)).new hb hw (cs := zeros (.agg #[.int .i64 0, .int .i64 0, .int .i64 0, .int .i64 0, .int .i64 0, .int .i64 0, .int .i64 0, .int .i64 0, .int .i64 0, .int .i64 0, .bool false]) n) (e := 75)).new hb2 hw2 (cs := meterR 0 0 0) (e := 79)
    exact fin b b2 _ (f1.perm (List.Perm.swap _ _ _))
  · refine meterNew_ok fun b2 hb2 hw2 => ?_
    simp only [go_sem]
    refine hmks _ _ fun b hb hw => ?_
    simp only [go_sem]
    have f1 := ((Fit.nil (w0 := w0) (Mem.le_refl M)).new hb2 hw2 (cs := meterR 0 0 0) (e := 79)).new hb hw (cs := zeros (.agg #[.int .i64 0, .int .i64 0, .int .i64 0, .int .i64 0, .int .i64 0, .int .i64 0, .int .i64 0, .int .i64 0, .int .i64 0, .int .i64 0, .bool false]) n) (e := 75)
    exact fin b b2 _ f1

theorem natsV_len (l : List Nat) : (natsV l).length = l.length := by simp [natsV]
theorem natsV_map (l : List Nat) : natsV l = (l.map fun (c : Nat) => (c : Int)).map (Value.int .i64) := by simp [natsV]
theorem natsV_get {l : List Nat} {j c : Nat} (h : l[j]? = some c) : (natsV l)[j]? = some (.int .i64 (c : Int)) := by simp [natsV, h]

theorem Take_ok {a : Nat} {α : AS} (hA : Holds w0 F M (arenaA a α)) (h : ∀ M', Holds w0 F M' (arenaA a α.take.tick) → R (.tuple #[.int .i64 α.nextI, .bool α.next.isSome]) M') : C PP w0 Id.arena_Arena_Take #[.pointer (some ⟨a, 0, none⟩)] R M := by
  have hInv := hA.inv
  obtain ⟨bL', bM', sf', cs', hs, hs1, hA1⟩ := hA.ticked
  apply arena_Arena_Take.go
  intro pts H
  unfold arena_Arena_Take.T
  simp only [go_sem, add_eq, Nat.zero_add, hs.r3]
  refine Tick_ok hs.m hs.inv.steps.2 one_in (by omega) ?_
  obtain ⟨r, ⟨hi, bL, bM, sf, cs, rf, rfl, hc, hsl⟩, hf⟩ := hA1
  clear hs1 hs
  generalize M.set bM' (.row (meterR (addc α.steps 1) α.begun α.most) 79) = M1 at hf ⊢
  change Fit w0 F M1 ((a, arR bL α.n α.never sf bM, 71) :: (bL, cs, 75) :: (bM, meterR (addc α.steps 1) α.begun α.most, 79) :: rf) at hf
  change SlA sf (natsV α.free) rf at hsl
  -- what is laid into the cell
  have lay : ∀ (c : Nat) (M2 : Mem) (never : Nat) (sf : SV) (free : List Nat) (rf : Rws), c < α.n → α.next = some c → α.take.tick.never = never → α.take.tick.free = free →
      Fit w0 F M2 ((a, arR bL α.n never sf bM, 71) :: (bL, cs, 75) :: (bM, meterR (addc α.steps 1) α.begun α.most, 79) :: rf) → SlA sf (natsV free) rf → arena_Arena_Take.J1 pts (some ⟨a, 0, none⟩) (c : Int) M2 := by
    intro c M2 never sf free rf hcn hnx hnv hfr hf2 hsl2
    rw [H.J1]
    unfold arena_Arena_Take.J1.T
    have e0 : rd w0 M2 ⟨a, 0, none⟩ = some (.slice (some ⟨bL, 0, none⟩) α.n α.n) := by rw [rd_own (hf2.own List.mem_cons_self)]; rfl
    simp only [go_sem, e0]
    refine fresh_ok fun M3 l3 => ?_
    have hf3 := hf2.le l3
    have e3 : rd w0 M3 ⟨a, 0, none⟩ = some (.slice (some ⟨bL, 0, none⟩) α.n α.n) := by rw [rd_own (hf3.own List.mem_cons_self)]; rfl
    simp only [freshV, go_sem, e3, add_eq, Nat.zero_add, Int.toNat_natCast]
    refine ⟨⟨by omega, by omega⟩, rfl, ?_⟩
    refine st_agg (vs := freshV) W.g75 (hf3.own (List.mem_cons_of_mem _ List.mem_cons_self)) (by rw [hc.len]; show c * 11 + 11 ≤ 11 * α.n; omega) (by decide) ?_
    have hni : α.nextI = (c : Int) := by unfold AS.nextI; rw [hnx]
    have hh := h (M3.set bL (.row (over cs (c * 11) freshV) 75))
    rw [hni, hnx] at hh
    refine hh ⟨_, ⟨AS.tick_inv (AS.take_inv hInv), bL, bM, sf, over cs (11 * c) freshV, rf, rfl, ?_, by rw [hfr]; exact hsl2⟩, ?_⟩
    · have h5 := (AS.next_some hInv hnx).2.2
      refine (CellsOk.lay (α := α) ⟨hc.len, hc.f, hc.t⟩ hcn (α' := α.take) ?_ ?_ ?_).tick
      · rw [h5]; rfl
      · rw [h5]
      · rw [h5]
    · have h5 := (AS.next_some hInv hnx).2.2
      have en : α.take.tick.n = α.n := by show α.take.n = α.n; rw [h5]; rfl
      have es : α.take.tick.steps = addc α.steps 1 := by show addc α.take.steps 1 = _; rw [h5]; rfl
      have eb : α.take.tick.begun = α.begun := by show α.take.begun = _; rw [h5]; rfl
      have em : α.take.tick.most = α.most := by show α.take.most = _; rw [h5]; rfl
      rw [en, es, eb, em, hnv, Nat.mul_comm c 11]
      exact ((hf3.perm (List.perm_middle (l₁ := [_]))).upd).perm (List.perm_middle (l₁ := [_])).symm
  have e1 : rd w0 M1 ⟨a, 1, none⟩ = some (.int .i64 (α.never : Int)) := by rw [rd_own (hf.own List.mem_cons_self)]; rfl
  have e2 : rd w0 M1 ⟨a, 2, none⟩ = some sf.v := by rw [rd_own (hf.own List.mem_cons_self)]; rfl
  have e0 : rd w0 M1 ⟨a, 0, none⟩ = some (.slice (some ⟨bL, 0, none⟩) α.n α.n) := by rw [rd_own (hf.own List.mem_cons_self)]; rfl
  have hlen : sf.n = α.free.length := by rw [hsl.len]; exact natsV_len _
  have hInvl := hInv.len
  have hInvn := hInv.never
  have hInvm := hInv.n
  simp only [go_sem, add_eq, Nat.zero_add, e1, e2, e0, bs_decide]
  split
  · rename_i hge
    rw [w64_in (by omega)] at hge
    have hlast : ∃ c, α.free.getLast? = some c := by
      cases hx : α.free.getLast? with
      | some c => exact ⟨c, rfl⟩
      | none => have := List.getLast?_eq_none_iff.1 hx; rw [this] at hlen; simp at hlen; omega
    obtain ⟨c, hlast⟩ := hlast
    have hidx : α.free[α.free.length - 1]? = some c := by rw [← List.getLast?_eq_getElem?]; exact hlast
    have hsplit : α.free = α.free.dropLast ++ [c] := by
      obtain ⟨l, e⟩ := List.getLast?_eq_some_iff.1 hlast
      rw [e]; simp
    have hnx : α.next = some c := by unfold AS.next; rw [hlast]
    have htake : α.take = { α.lay c with free := α.free.dropLast } := by unfold AS.take; rw [hlast]
    have hcn := (AS.next_some hInv hnx).1
    have hpos : 0 < α.free.length := by omega
    clear hge
    rcases hsl with ⟨rfl, h0, _⟩ | ⟨bF, rest, e, rfl, rfl⟩
    · simp only at hlen; omega
    · have hoF := hf.own (b := bF) (cs := natsV α.free ++ rest) (e := e) (by simp)
      have eF : rd w0 M1 ⟨bF, α.free.length - 1, none⟩ = some (.int .i64 (c : Int)) := by
        rw [rd_own hoF, List.getElem?_append_left (by rw [natsV_len]; omega)]
        exact natsV_get hidx
      simp only [natsV_len] at hlen ⊢
      have ew : w64 ((α.free.length : Int) - 1) = ((α.free.length - 1 : Nat) : Int) := by rw [w64_in (by omega)]; omega
      simp only [nc_v, ew, Int.toNat_natCast, Nat.mul_one, add_eq, Nat.zero_add, eF, ob_v, shI_v]
      refine ⟨⟨by omega, by omega⟩, ⟨by omega, by omega, by omega⟩, ?_⟩
      refine st_one W.c44 (hf.own List.mem_cons_self) (by simp) rfl rfl ?_
      rw [if_neg (by show ¬ (α.free.length + rest.length = 0); omega)]
      have hsub : natsV α.free ++ rest = natsV α.free.dropLast ++ (.int .i64 (c : Int) :: rest) := by
        conv => lhs; rw [hsplit]
        simp [natsV]
      have hdl : α.free.length = α.free.dropLast.length + 1 := by
        conv => lhs; rw [hsplit]
        simp
      refine lay c _ α.never ⟨some ⟨bF, 0, none⟩, α.free.dropLast.length, α.free.dropLast.length + (.int .i64 (c : Int) :: rest).length⟩ α.free.dropLast [(bF, natsV α.free ++ rest, e)] hcn hnx ?_ ?_ ?_ ?_
      · show α.take.never = _; rw [htake]; rfl
      · show α.take.free = _; rw [htake]
      · have hrow : (arR bL α.n α.never ⟨some ⟨bF, 0, none⟩, (natsV α.free).length, (natsV α.free).length + rest.length⟩ bM).set 2 (.slice (Option.map (fun (x : Addr) => x.add ((0 : Int).toNat * 1)) (some ⟨bF, 0, none⟩)) (α.free.length - 1 - (0 : Int).toNat) (α.free.length + rest.length - (0 : Int).toNat)) =
            arR bL α.n α.never ⟨some ⟨bF, 0, none⟩, α.free.dropLast.length, α.free.dropLast.length + (Value.int .i64 (c : Int) :: rest).length⟩ bM := by
          have g1 : α.free.length - 1 - (0 : Int).toNat = α.free.dropLast.length := by simp
          have g2 : α.free.length + rest.length - (0 : Int).toNat = α.free.dropLast.length + (Value.int .i64 (c : Int) :: rest).length := by
            rw [List.length_cons, hdl]; simp; omega
          rw [g1, g2]; rfl
        have := hf.upd (cs' := (arR bL α.n α.never ⟨some ⟨bF, 0, none⟩, (natsV α.free).length, (natsV α.free).length + rest.length⟩ bM).set 2 (.slice (Option.map (fun (x : Addr) => x.add ((0 : Int).toNat * 1)) (some ⟨bF, 0, none⟩)) (α.free.length - 1 - (0 : Int).toNat) (α.free.length + rest.length - (0 : Int).toNat))) (e' := 71)
        rw [← hrow]
        exact this
      · refine .inr ⟨bF, .int .i64 (c : Int) :: rest, e, by simp [natsV], by rw [hsub]⟩
  · rename_i hge
    rw [w64_in (by omega)] at hge
    have hfree : α.free = [] := List.eq_nil_of_length_eq_zero (by omega)
    have hlast : α.free.getLast? = none := by rw [hfree]; rfl
    split
    · rename_i hfull
      change (α.never : Int) ≥ (α.n : Int) at hfull
      have hnx : α.next = none := by unfold AS.next; rw [hlast]; simp only; rw [if_neg (by omega)]
      have htake := (AS.next_none hnx).1
      have hh := h M1
      unfold AS.nextI at hh
      rw [hnx, htake] at hh
      exact hh ⟨_, ⟨hi, bL, bM, sf, cs, rf, rfl, hc, hsl⟩, hf⟩
    · rename_i hfull
      change ¬ (α.never : Int) ≥ (α.n : Int) at hfull
      have hlt : α.never < α.n := by omega
      have hnx : α.next = some α.never := by unfold AS.next; rw [hlast]; simp only; rw [if_pos hlt]
      have htake : α.take = { α.lay α.never with never := α.never + 1 } := by unfold AS.take; rw [hlast]; simp only; rw [if_pos hlt]
      refine st_one W.c3 (hf.own List.mem_cons_self) (by simp) rfl rfl ?_
      rw [w64_in (by omega)]
      refine lay α.never _ (α.never + 1) sf α.free rf hlt hnx ?_ ?_ hf.upd hsl
      · show α.take.never = _; rw [htake]
      · show α.take.free = _; rw [htake]; rfl

theorem Give_ok {a : Nat} {α : AS} (hA : Holds w0 F M (arenaA a α)) {c : Int} (h : ∀ M', Holds w0 F M' (arenaA a (α.giveI c).tick) → R (.bool (α.liveI c)) M') : C PP w0 Id.arena_Arena_Give #[.pointer (some ⟨a, 0, none⟩), .int .i64 c] R M := by
  have hInv := hA.inv
  obtain ⟨bL', bM', sf', cs', hs, hs1, hA1⟩ := hA.ticked
  apply arena_Arena_Give.go
  unfold arena_Arena_Give.T
  simp only [go_sem, add_eq, Nat.zero_add, hs.r3]
  refine Tick_ok hs.m hs.inv.steps.2 one_in (by omega) ?_
  clear hs
  generalize M.set bM' (.row (meterR (addc α.steps 1) α.begun α.most) 79) = M1 at hA1 hs1 ⊢
  refine LiveS_ok hs1 ?_
  simp only [go_sem, bs_not]
  rw [bs_b]
  refine ⟨fun h1 => ?_, fun h1 => ?_⟩
  · change α.liveI c = true at h1
    unfold AS.giveI at h
    rw [if_pos h1, h1] at h
    obtain ⟨h5, h6, h7⟩ := AS.liveI_lt hInv h1
    obtain ⟨c, rfl⟩ : ∃ k : Nat, c = (k : Int) := ⟨c.toNat, by omega⟩
    simp only [Int.toNat_natCast] at h6 h7 h
    have hn := hInv.never
    have hnn := hInv.n
    have hInvl := hInv.len
    have hcn : c < α.n := by omega
    obtain ⟨r, ⟨hi, bL, bM, sf, cs, rf, rfl, hc, hsl⟩, hf⟩ := hA1
    change Fit w0 F M1 ((a, arR bL α.n α.never sf bM, 71) :: (bL, cs, 75) :: (bM, meterR (addc α.steps 1) α.begun α.most, 79) :: rf) at hf
    change SlA sf (natsV α.free) rf at hsl
    have e0 : rd w0 M1 ⟨a, 0, none⟩ = some (.slice (some ⟨bL, 0, none⟩) α.n α.n) := by rw [rd_own (hf.own List.mem_cons_self)]; rfl
    simp only [e0, ob_v, shS_v, nc_v, add_eq, Nat.zero_add, Int.toNat_natCast]
    refine ⟨⟨by omega, by omega⟩, ?_⟩
    refine st_one W.c4 (hf.own (List.mem_cons_of_mem _ List.mem_cons_self)) (by rw [hc.len]; show c * 11 + 10 < 11 * α.n; omega) rfl rfl ?_
    have hf2 := ((hf.perm (List.perm_middle (l₁ := [_]))).upd (cs' := cs.set (c * 11 + 10) (.bool false)) (e' := 75)).perm (List.perm_middle (l₁ := [_])).symm
    generalize M1.set bL (.row (cs.set (c * 11 + 10) (.bool false)) 75) = M2 at hf2 ⊢
    have e2 : rd w0 M2 ⟨a, 2, none⟩ = some sf.v := by rw [rd_own (hf2.own List.mem_cons_self)]; rfl
    simp only [e2, ob_v, shS_sv]
    have hf3 : Fit w0 F M2 (rf ++ [(a, arR bL α.n α.never sf bM, 71), (bL, cs.set (c * 11 + 10) (.bool false), 75), (bM, meterR (addc α.steps 1) α.begun α.most, 79)]) := hf2.perm (List.perm_append_comm (l₁ := [_, _, _]))
    have hsl3 := hsl.sl hf3
    have hq := hf3.perm List.perm_append_comm |>.drop
    have hle := hf3.aside.1.fr
    rw [natsV_map] at hsl3
    refine bsl_sl (cells := #[.int .i64 (c : Int)]) hle Try.underlying44 W.e3 (n := 1) (by decide) (by kernel_rfl) rfl fun M3 o h3 h4 h9 => ?_
    simp only [go_sem]
    refine app_new (m := [(c : Int)]) Try.underlying44 W.e3 h3 (hsl3.le h4) h9 (by simp; omega) fun M4 o2 h10 h11 => ?_
    simp only [go_sem]
    rw [show (α.free.map fun (c : Nat) => (c : Int)) ++ [(c : Int)] = ((α.free ++ [c]).map fun (c : Nat) => (c : Int)) from by simp, ← natsV_map] at h11
    obtain ⟨rf', hsl', hf'⟩ := Sl.fit h11 hq h10
    have hf5 := hf'.perm (List.perm_append_comm (l₂ := [_, _, _]))
    refine st_one W.c44 (hf5.own List.mem_cons_self) (by simp) rfl rfl ?_
    refine h _ ⟨_, ⟨AS.tick_inv (AS.unlive_inv hInv h7), bL, bM, o2, cs.set (11 * c + 10) (.bool false), rf', rfl, (CellsOk.mark (α := α) ⟨hc.len, hc.f, hc.t⟩ hcn).tick, hsl'⟩, ?_⟩
    rw [Nat.mul_comm 11 c]
    exact hf5.upd
  · change α.liveI c = false at h1
    unfold AS.giveI at h
    rw [h1] at h
    exact h _ hA1

end
end Go.Proofs.Ytoeijcmpkfjbfaa.HL
