/-
  ChA: rings of cells: what each of chain's calls does.
-/
import Derived.Test.YtoeijcmpkfjbfaaArB
import Derived.Test.YtoeijcmpkfjbfaaChM
set_option linter.unusedVariables false
set_option linter.unusedSimpArgs false
set_option maxRecDepth 100000
namespace Go.Proofs.Ytoeijcmpkfjbfaa.HL
open Go.RowKit (Below)
open Go.Proofs

namespace AS
/-- The same but for steps. -/
structure Sm (k : Int) (α β : AS) : Prop where
  n : β.n = α.n
  get : β.get = α.get
  live : β.live = α.live
  never : β.never = α.never
  free : β.free = α.free
  steps : 0 ≤ α.steps → 0 ≤ β.steps ∧ β.steps ≤ α.steps + k
theorem Sm.refl {α : AS} : Sm 0 α α := ⟨rfl, rfl, rfl, rfl, rfl, fun h => ⟨h, by omega⟩⟩
theorem Sm.trans {j k : Int} {α β γ : AS} (h : Sm j α β) (h2 : Sm k β γ) : Sm (j + k) α γ :=
  ⟨h2.n.trans h.n, h2.get.trans h.get, h2.live.trans h.live, h2.never.trans h.never, h2.free.trans h.free, fun h0 => by have h1 := h.steps h0; have h3 := h2.steps h1.1; omega⟩
theorem Sm.mono {j k : Int} {α β : AS} (h : Sm j α β) (hk : j ≤ k) : Sm k α β := ⟨h.n, h.get, h.live, h.never, h.free, fun h0 => by have := h.steps h0; omega⟩
theorem tick_sm {α : AS} : Sm 1 α α.tick := ⟨rfl, rfl, rfl, rfl, rfl, fun h0 => by
  show 0 ≤ addc α.steps 1 ∧ addc α.steps 1 ≤ _
  unfold addc; split
  · omega
  · split <;> omega⟩
theorem Sm.ring {k : Int} {α β : AS} (h : Sm k α β) {c : Nat} {r : List Nat} (hr : α.Ring c r) : β.Ring c r :=
  hr.congr (fun x _ => by rw [h.get]) (fun x _ => by rw [h.get]) (fun x _ => by rw [h.live])
theorem Sm.put {k : Int} {α β : AS} (h : Sm k α β) (c f : Nat) (v : Int) : Sm k (α.put c f v) (β.put c f v) :=
  ⟨h.n, by show (fun c' f' => if c' = c ∧ f' = f then v else β.get c' f') = _; rw [h.get]; rfl, h.live, h.never, h.free, h.steps⟩
theorem Sm.link {k : Int} {α β : AS} (h : Sm k α β) (c d : Nat) : Sm k (α.link c d) (β.link c d) := (h.put c 3 _).put d 2 _

theorem hasI_live {α : AS} {c f : Nat} (h : α.live c = true) (hf : f < 10) : α.hasI (c : Int) (f : Int) = true := by
  unfold hasI liveI
  rw [Int.toNat_natCast, h, decide_eq_true (by omega), decide_eq_true (by omega), decide_eq_true (by omega)]; rfl
theorem setI_live {α : AS} {c f : Nat} (h : α.live c = true) (hf : f < 10) (v : Int) : α.setI (c : Int) (f : Int) v = α.put c f v := by
  unfold setI
  rw [if_pos (hasI_live h hf), Int.toNat_natCast, Int.toNat_natCast]
theorem getI_live {α : AS} {c f : Nat} (h : α.live c = true) (hf : f < 10) : α.getI (c : Int) (f : Int) = α.get c f := by
  unfold getI
  rw [if_pos (hasI_live h hf), Int.toNat_natCast, Int.toNat_natCast]
theorem cellI_live {α : AS} {c f y : Nat} (h : α.live c = true) (hf : f < 10) (hv : α.get c f = (y : Int)) (hy : y < α.n) : α.cellI (c : Int) (f : Int) = (y : Int) := by
  unfold cellI
  rw [getI_live h hf, hv, if_neg (by omega)]
theorem liveI_nat {α : AS} {c : Nat} : α.liveI (c : Int) = α.live c := by
  unfold liveI
  rw [Int.toNat_natCast, decide_eq_true (by omega)]; rfl
theorem live_lt {α : AS} (h : α.Inv) {c : Nat} (hc : α.live c = true) : c < α.n := by
  have := lt_never h hc
  have := h.never; omega
end AS

section
variable {w0 : World} {M F : Mem} {R : Value → Mem → Prop}

theorem Holds.sl {s : SV} {l : List Value} {Q : Asn} (h : Holds w0 F M (star (SlA s l) Q)) : ∃ F', Sl w0 F' M s l ∧ Mem.le F' M ∧ ∀ M' s' l', Sl w0 F' M' s' l' → Mem.le F' M' → Holds w0 F M' (star (SlA s' l') Q) := by
  obtain ⟨r, ⟨r1, r2, rfl, h1, h2⟩, h3⟩ := h
  refine ⟨ext F r2, h1.sl h3, h3.aside.1.fr, fun M' s' l' hs hl => ?_⟩
  obtain ⟨r', h4, h5⟩ := Sl.fit hs ((h3.perm List.perm_append_comm).drop) hl
  exact ⟨_, ⟨r', r2, rfl, h4, h2⟩, h5⟩
theorem Holds.newSl {P : Asn} {M' : Mem} {s : SV} {l : List Value} (h : Holds w0 F M P) (hl : Mem.le M M') (hs : Sl w0 M M' s l) : Holds w0 F M' (star (SlA s l) P) := by
  refine h.beside ?_
  rcases hs with ⟨rfl, rfl⟩ | ⟨b, rest, e, rfl, h1, h2⟩
  · exact ⟨[], .inl ⟨rfl, rfl, rfl⟩, Fit.nil hl⟩
  · refine ⟨[(b, l ++ rest, e)], .inr ⟨b, rest, e, rfl, rfl⟩, ⟨by simp, fun x hx => ?_, hl⟩⟩
    simp at hx; subst hx
    exact ⟨h2.1, h1, h2.2⟩
theorem Holds.rdI {Q : Asn} {s : SV} {l : List Int} (h : Holds w0 F M (star (SlA s (l.map (Value.int .i64))) Q)) (hw : ∀ n ∈ l, (Lit.int .i64 n).wf = true) (hm : l.length ≤ 1000000) : RdI w0 M .i64 s l := by
  obtain ⟨F', h1, _⟩ := h.sl
  exact h1.rdI hw (by omega)
theorem Holds.nilSl {P : Asn} (h : Holds w0 F M P) : Holds w0 F M (star (SlA ⟨none, 0, 0⟩ []) P) := by
  obtain ⟨r, h1, h2⟩ := h
  exact ⟨r, ⟨[], r, rfl, SlA.nil, h1⟩, h2⟩

/-- A number is put behind the others. -/
theorem push_ok {Q : Asn} {K : SV → Mem → Prop} {s : SV} {l : List Int} {x : Int} (hH : Holds w0 F M (star (SlA s (l.map (Value.int .i64))) Q)) (hb : l.length ≤ 1000000) (h : ∀ M' s', Holds w0 F M' (star (SlA s' ((l ++ [x]).map (Value.int .i64))) Q) → K s' M') :
    (std PP w0).bsl 44 1 [(0, .int .i64 x)] (fun v M1 => shS v fun s1 => (std PP w0).app #[44, 44] 44 [SV.v s, SV.v s1] (fun v2 M2 => shS v2 fun s2 => K s2 M2) M1) M := by
  obtain ⟨F', h1, h2, h3⟩ := hH.sl
  refine bsl_ints (k := .i64) (l := [x]) h2 Try.underlying44 W.e3 (n := 1) (by decide) (by kernel_rfl) rfl fun M1 o l1 l2 h4 => ?_
  simp only [go_sem]
  refine app_new Try.underlying44 W.e3 l1 (h1.le l2) h4 (by simp; omega) fun M2 o2 l3 h5 => ?_
  simp only [go_sem]
  exact h M2 o2 (h3 M2 o2 _ h5 l3)

variable {a : Nat} {α : AS}

theorem link_ok (hA : Holds w0 F M (arenaA a α)) {c d : Nat} (hc : α.live c = true) (hd : α.live d = true) (h : ∀ M' β, Holds w0 F M' (arenaA a β) → AS.Sm 2 (α.link c d) β → R (.tuple #[]) M') : C PP w0 Id.chain_link #[.pointer (some ⟨a, 0, none⟩), .int .i64 (c : Int), .int .i64 (d : Int)] R M := by
  apply chain_link.go
  unfold chain_link.T
  refine Set_ok hA fun M1 hA1 => ?_
  simp only [go_sem]
  refine Set_ok hA1 fun M2 hA2 => ?_
  simp only [go_sem]
  rw [show α.setI (c : Int) 3 (d : Int) = α.put c 3 (d : Int) from AS.setI_live (f := 3) hc (by omega) _] at hA2
  rw [show (α.put c 3 (d : Int)).tick.setI (d : Int) 2 (c : Int) = (α.put c 3 (d : Int)).tick.put d 2 (c : Int) from AS.setI_live (α := (α.put c 3 (d : Int)).tick) (f := 2) hd (by omega) _] at hA2
  exact h M2 _ hA2 ((AS.tick_sm.put d 2 _).trans AS.tick_sm)

theorem One_ok (hA : Holds w0 F M (arenaA a α)) {c : Nat} (hc : α.live c = true) (h : ∀ M' β, Holds w0 F M' (arenaA a β) → AS.Sm 2 (α.link c c) β → R (.tuple #[]) M') : C PP w0 Id.chain_One #[.pointer (some ⟨a, 0, none⟩), .int .i64 (c : Int)] R M := by
  apply chain_One.go
  unfold chain_One.T
  simp only [go_sem, Option.isNone_some, Bool.not_false, bs_true]
  exact link_ok hA hc hc h

theorem Put_ok (hA : Holds w0 F M (arenaA a α)) {c d : Nat} {r : List Nat} (hr : α.Ring c r) (hd : α.live d = true) (h : ∀ M' β, Holds w0 F M' (arenaA a β) → AS.Sm 5 ((α.link c d).link d (r.headD c)) β → R (.tuple #[]) M') :
    C PP w0 Id.chain_Put #[.pointer (some ⟨a, 0, none⟩), .int .i64 (c : Int), .int .i64 (d : Int)] R M := by
  apply chain_Put.go
  unfold chain_Put.T
  have hc := hr.live c List.mem_cons_self
  have hh : α.live (r.headD c) = true := hr.live _ (by cases r <;> simp)
  simp only [go_sem, Option.isNone_some, bs_false]
  refine Cell_ok hA fun M1 hA1 => ?_
  rw [show α.cellI (c : Int) 3 = ((r.headD c : Nat) : Int) from AS.cellI_live (f := 3) hc (by omega) hr.right (AS.live_lt hA.inv hh)]
  simp only [go_sem]
  refine link_ok hA1 hc hd fun M2 β2 hA2 hs2 => ?_
  refine link_ok hA2 (by rw [hs2.live]; exact hd) (by rw [hs2.live]; exact hh) fun M3 β3 hA3 hs3 => ?_
  exact h M3 β3 hA3 ((((AS.tick_sm.link c d).trans hs2).link d (r.headD c)).trans hs3)

theorem Join_ok (hA : Holds w0 F M (arenaA a α)) {c d : Nat} {r s : List Nat} (hr : α.Ring c r) (hs : α.Ring d s) (h : ∀ M' β, Holds w0 F M' (arenaA a β) → AS.Sm 6 ((α.link c d).link (s.getLastD d) (r.headD c)) β → R (.tuple #[]) M') :
    C PP w0 Id.chain_Join #[.pointer (some ⟨a, 0, none⟩), .int .i64 (c : Int), .int .i64 (d : Int)] R M := by
  apply chain_Join.go
  unfold chain_Join.T
  have hc := hr.live c List.mem_cons_self
  have hd := hs.live d List.mem_cons_self
  have hh : α.live (r.headD c) = true := hr.live _ (by cases r <;> simp)
  have hl : α.live (s.getLastD d) = true := hs.live _ (AS.last_mem d s)
  simp only [go_sem, Option.isNone_some, bs_false]
  refine Cell_ok hA fun M1 hA1 => ?_
  rw [show α.cellI (c : Int) 3 = ((r.headD c : Nat) : Int) from AS.cellI_live (f := 3) hc (by omega) hr.right (AS.live_lt hA.inv hh)]
  simp only [go_sem]
  refine Cell_ok hA1 fun M2 hA2 => ?_
  rw [show α.tick.cellI (d : Int) 2 = ((s.getLastD d : Nat) : Int) from AS.cellI_live (α := α.tick) (f := 2) hd (by omega) hs.left (AS.live_lt hA.inv hl)]
  simp only [go_sem]
  refine link_ok hA2 hc hd fun M3 β3 hA3 hs3 => ?_
  refine link_ok hA3 (by rw [hs3.live]; exact hl) (by rw [hs3.live]; exact hh) fun M4 β4 hA4 hs4 => ?_
  exact h M4 β4 hA4 (((((AS.tick_sm.trans AS.tick_sm).link c d).trans hs3).link _ _).trans hs4)

theorem Out_ok (hA : Holds w0 F M (arenaA a α)) {c : Nat} {r : List Nat} (hr : α.Ring c r) (h0 : r = [] → ∀ M' β, Holds w0 F M' (arenaA a β) → AS.Sm 6 α β → R (.int .i64 (-1)) M')
    (h1 : ∀ y q, r = y :: q → ∀ M' β, Holds w0 F M' (arenaA a β) → AS.Sm 6 ((α.link (q.getLastD y) y).link c c) β → R (.int .i64 (y : Int)) M') : C PP w0 Id.chain_Out #[.pointer (some ⟨a, 0, none⟩), .int .i64 (c : Int)] R M := by
  apply chain_Out.go
  unfold chain_Out.T
  have hc := hr.live c List.mem_cons_self
  have hh : α.live (r.headD c) = true := hr.live _ (by cases r <;> simp)
  have hl : α.live (r.getLastD c) = true := hr.live _ (AS.last_mem c r)
  simp only [go_sem, Option.isNone_some, bs_false]
  refine Cell_ok hA fun M1 hA1 => ?_
  rw [show α.cellI (c : Int) 3 = ((r.headD c : Nat) : Int) from AS.cellI_live (f := 3) hc (by omega) hr.right (AS.live_lt hA.inv hh)]
  simp only [go_sem]
  refine Cell_ok hA1 fun M2 hA2 => ?_
  rw [show α.tick.cellI (c : Int) 2 = ((r.getLastD c : Nat) : Int) from AS.cellI_live (α := α.tick) (f := 2) hc (by omega) hr.left (AS.live_lt hA.inv hl)]
  simp only [go_sem, bs_beq]
  cases r with
  | nil =>
    rw [List.headD_nil, if_pos rfl]
    exact h0 rfl M2 _ hA2 ((AS.tick_sm.trans AS.tick_sm).mono (by omega))
  | cons y q =>
    have hne : ¬ ((y : Int) = (c : Int)) := fun e => (List.nodup_cons.1 hr.nd).1 (by rw [show c = y from by omega]; simp)
    rw [List.headD_cons, if_neg hne]
    rw [List.getLastD_cons] at hl ⊢
    refine link_ok hA2 hl hh fun M3 β3 hA3 hs3 => ?_
    refine link_ok hA3 (by rw [hs3.live]; exact hc) (by rw [hs3.live]; exact hc) fun M4 β4 hA4 hs4 => ?_
    exact h1 y q rfl M4 β4 hA4 (((((AS.tick_sm.trans AS.tick_sm).link _ _).trans hs3).link c c).trans hs4)

theorem Alone_ok (hA : Holds w0 F M (arenaA a α)) {c : Nat} {r : List Nat} (hr : α.Ring c r) (h : ∀ M' β, Holds w0 F M' (arenaA a β) → AS.Sm 1 α β → R (.bool (decide (r = []))) M') : C PP w0 Id.chain_Alone #[.pointer (some ⟨a, 0, none⟩), .int .i64 (c : Int)] R M := by
  apply chain_Alone.go
  unfold chain_Alone.T
  have hc := hr.live c List.mem_cons_self
  have hh : α.live (r.headD c) = true := hr.live _ (by cases r <;> simp)
  simp only [go_sem, Option.isNone_some, Bool.not_false, bs_true, bs_bne]
  rw [if_neg (by omega)]
  refine Cell_ok hA fun M1 hA1 => ?_
  rw [show α.cellI (c : Int) 3 = ((r.headD c : Nat) : Int) from AS.cellI_live (f := 3) hc (by omega) hr.right (AS.live_lt hA.inv hh)]
  simp only [go_sem]
  have e : (((r.headD c : Nat) : Int) == (c : Int)) = decide (r = []) := by
    cases r with
    | nil => simp
    | cons y q =>
      have hne : ¬ ((y : Int) = (c : Int)) := fun e => (List.nodup_cons.1 hr.nd).1 (by rw [show c = y from by omega]; simp)
      simp [hne]
  rw [e]
  exact h M1 _ hA1 AS.tick_sm

def intsN (l : List Nat) : List Int := l.map fun (c : Nat) => (c : Int)
theorem All_ok (hA : Holds w0 F M (arenaA a α)) {c : Nat} {r : List Nat} (hr : α.Ring c r) (h : ∀ M' s' β, Holds w0 F M' (star (SlA s' ((intsN (c :: r)).map (Value.int .i64))) (arenaA a β)) → AS.Sm 1000000 α β → R s'.v M') : C PP w0 Id.chain_All #[.pointer (some ⟨a, 0, none⟩), .int .i64 (c : Int)] R M := by
  apply chain_All.go
  intro pts H
  unfold chain_All.T
  have hInv := hA.inv
  have hc := hr.live c List.mem_cons_self
  have hlt : ∀ x ∈ c :: r, x < α.n := fun x hx => AS.live_lt hInv (hr.live x hx)
  have hlen := nodup_len α.n (c :: r) hr.nd hlt
  have hn := hInv.n
  simp only [go_sem, Option.isNone_some, bs_false]
  refine Live_ok hA ?_
  rw [AS.liveI_nat, hc]
  simp only [go_sem, Bool.not_true, bs_false]
  rw [H.J1]
  unfold chain_All.J1.T
  refine bsl_ints (k := .i64) (l := [(c : Int)]) (Mem.le_refl _) Try.underlying44 W.e3 (n := 1) (by decide) (by kernel_rfl) rfl fun M1 o l1 _ h1 => ?_
  simp only [go_sem]
  have hH := hA.newSl l1 h1
  -- what has been seen, what is to come
  have key : ∀ (q p : List Nat) (k : Nat) (s : SV) (M' : Mem) (β : AS) (dd : Int), q.length < k → c :: r = c :: p ++ q → dd = ((q.headD c : Nat) : Int) → Holds w0 F M' (star (SlA s ((intsN (c :: p)).map (Value.int .i64))) (arenaA a β)) → AS.Sm (p.length + 1) α β → chain_All.L2 pts k (some ⟨a, 0, none⟩) (c : Int) s dd M' := by
    intro q
    induction q with
    | nil =>
      intro p k s M' β dd hk hq hdd hH hs
      obtain ⟨k, rfl⟩ : ∃ k', k = k' + 1 := ⟨k - 1, by simp at hk; omega⟩
      rw [H.L2]
      unfold chain_All.L2.T
      rw [hdd]
      simp only [List.headD_nil, bs_bne, if_true]
      rw [List.append_nil] at hq
      rw [← hq] at hH
      refine h M' s β hH (hs.mono ?_)
      have : p.length + 1 ≤ 65536 := by rw [← List.length_cons (a := c), ← hq]; omega
      omega
    | cons d q ih =>
      intro p k s M' β dd hk hq hdd hH hs
      obtain ⟨k, rfl⟩ : ∃ k', k = k' + 1 := ⟨k - 1, by simp at hk; omega⟩
      rw [H.L2]
      unfold chain_All.L2.T
      rw [hdd]
      have hdm : d ∈ c :: r := by rw [hq]; simp
      have hdc : ¬ ((d : Int) = (c : Int)) := fun e => by
        have hnd := hr.nd
        rw [hq, List.cons_append, List.nodup_cons] at hnd
        exact hnd.1 (by rw [show c = d from by omega]; simp)
      have hdl : β.live d = true := by rw [hs.live]; exact hr.live d hdm
      simp only [List.headD_cons, bs_bne, if_neg hdc]
      obtain ⟨F', hB, hFF, back⟩ := hH.last
      refine Live_ok hB ?_
      rw [AS.liveI_nat, hdl]
      simp only [go_sem, bs_true]
      refine Cells_ok hB ?_
      have hlp : (c :: r).length = p.length + 1 + (q.length + 1) := by rw [hq]; simp; omega
      have hsn : s.n = p.length + 1 := by
        obtain ⟨r1, ⟨r2, r3, _, h2, _⟩, _⟩ := hH
        rw [h2.len]; simp [intsN]
      simp only [go_sem, bs_decide]
      rw [if_pos (by rw [hs.n, hsn]; omega), H.J3]
      unfold chain_All.J3.T
      refine push_ok hH (by simp [intsN]; omega) fun M2 s2 hH2 => ?_
      rw [show intsN (c :: p) ++ [(d : Int)] = intsN (c :: (p ++ [d])) from by simp [intsN]] at hH2
      obtain ⟨F2, hB2, _, back2⟩ := hH2.last
      refine Cell_ok hB2 fun M3 hB3 => ?_
      -- what is right of d
      have hring : α.Ring d (q ++ c :: p) := by
        have e1 : r = p ++ d :: q := by
          rw [List.cons_append] at hq; injection hq
        rw [e1] at hr
        exact hr.turn
      have hright := hring.right
      have hnx : β.get d 3 = ((q.headD c : Nat) : Int) := by
        rw [hs.get, hright]
        cases q <;> rfl
      have hqm : (q.headD c) ∈ c :: r := by
        rw [hq]; cases q <;> simp
      rw [show β.cellI (d : Int) 3 = ((q.headD c : Nat) : Int) from AS.cellI_live (f := 3) hdl (by omega) hnx (by rw [hs.n]; exact hlt _ hqm)]
      simp only [go_sem]
      exact ih (p ++ [d]) k s2 M3 β.tick _ (by simp at hk; omega) (by rw [hq]; simp) rfl (back2 M3 _ hB3) ((hs.trans AS.tick_sm).mono (by simp))
  obtain ⟨F', hB, hFF, back⟩ := hH.last
  refine Cell_ok hB fun M2 hB2 => ?_
  rw [show α.cellI (c : Int) 3 = ((r.headD c : Nat) : Int) from AS.cellI_live (f := 3) hc (by omega) hr.right (hlt _ (by cases r <;> simp))]
  simp only [go_sem]
  exact ⟨r.length + 1, key r [] (r.length + 1) o M2 α.tick _ (by omega) (by simp) rfl (back M2 _ hB2) (AS.tick_sm.mono (by simp))⟩

end
end Go.Proofs.Ytoeijcmpkfjbfaa.HL
