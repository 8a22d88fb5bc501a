import Derived.Test.YtodobkbnmjgkdaaGreatPa13
set_option linter.unusedVariables false
set_option linter.unusedSimpArgs false
set_option maxRecDepth 100000
namespace Go.Proofs.YtodobkbnmjgkdaaGreat.HL
open Go.RowKit (Below)
open Go.Proofs
section
variable {w0 : World} {M F : Mem} {R : VP}
theorem isNaN_ok {x : Int} (h : R (.bool false) M) : C PP w0 Id.cmp_isNaN_int64 #[.int .i64 x] R M := by
 apply cmp_isNaN_int64.go
 unfold cmp_isNaN_int64.T nfz
 rw [bne_self_eq_false]; exact h
theorem cmp64_ok {x y : Int} (h : R (.int .i64 (if x < y then -1 else if y < x then 1 else 0)) M) : C PP w0 Id.cmp_Compare_int64 #[.int .i64 x, .int .i64 y] R M := by
 apply cmp_Compare_int64.go
 unfold cmp_Compare_int64.T nfz
 refine isNaN_ok ?_
 simp only [go_sem]
 refine isNaN_ok ?_
 simp only [go_sem, bF_, bD_]
 split
 ·rename_i h1; rw [if_pos h1] at h; exact h
 ·rename_i h1
  rw [if_neg h1] at h
  split
  ·rename_i h2; rw [if_pos (by omega)] at h; exact h
  ·rename_i h2; rw [if_neg (by omega)] at h; exact h
theorem or2_ok {s : SV} {x y : Int} (hs : RdI w0 M .i64 s [x, y]) (h : R (.int .i64 (if x = 0 then y else x)) M) : C PP w0 Id.cmp_Or_int #[SV.v s] R M := by
 apply cmp_Or_int.go
 intro pts H
 unfold cmp_Or_int.T nfz
 have hl := hs.len
 simp only [List.length_cons, List.length_nil] at hl
 refine ⟨3, ?_⟩
 refine Eq.mpr (H.L1 ..) ?_
 unfold cmp_Or_int.L1.T nfz
 rw [bD_, if_pos (by omega)]
 refine rdx W.c3 hs (Mem.le_refl _) 0 (by rfl) rfl ?_
 rw [bs_bne]
 split
 ·rename_i h0
  rw [if_pos h0] at h
  (rw [show w64 ((0 : Int) + 1) = 1 from rfl]; refine Eq.mpr (H.L1 ..) ?_)
  unfold cmp_Or_int.L1.T nfz
  rw [bD_, if_pos (by omega)]
  refine rdx W.c3 hs (Mem.le_refl _) 1 (by rfl) rfl ?_
  rw [bs_bne]
  split
  ·rename_i h1
   (rw [show w64 ((1 : Int) + 1) = 2 from rfl]; refine Eq.mpr (H.L1 ..) ?_)
   unfold cmp_Or_int.L1.T nfz
   rw [bD_, if_neg (by omega)]
   rw [h1] at h; exact h
  ·exact h
 ·rename_i h0
  rw [if_neg h0] at h; exact h
theorem Compare_ok {a0 a1 b0 b1 : Int} (h : ∀ M', Mem.le M M' → R (.int .i64 (cmpI a0 a1 b0 b1)) M') : C PP w0 Id.order_Compare #[.agg #[.int .i64 a0, .int .i64 a1], .agg #[.int .i64 b0, .int .i64 b1]] R M := by
 apply order_Compare.go
 unfold order_Compare.T nfz
 intro x1 hx1 hw1
 intro x2 hx2 hw2
 have f1 := ((Fit.nil (w0 := w0) (Mem.le_refl M)).new hx1 hw1 (cs := [.int .i64 a0, .int .i64 a1]) (e := 44)).new hx2 hw2 (cs := [.int .i64 b0, .int .i64 b1]) (e := 44)
 have o2 := f1.own List.mem_cons_self
 have o1 := f1.own (List.mem_cons_of_mem _ List.mem_cons_self)
 have e1 := rd_own (o := 0) o1
 have e2 := rd_own (o := 0) o2
 have e3 := rd_own (o := 1) o1
 have e4 := rd_own (o := 1) o2
 have hle := f1.fr
 generalize (M.set x1 (.row [.int .i64 a0, .int .i64 a1] 44)).set x2 (.row [.int .i64 b0, .int .i64 b1] 44) = M1 at e1 e2 e3 e4 hle ⊢
 have e1' : rd w0 M1 ⟨x1, 0, none⟩ = some (.int .i64 a0) := e1
 have e2' : rd w0 M1 ⟨x2, 0, none⟩ = some (.int .i64 b0) := e2
 have e3' : rd w0 M1 ⟨x1, 1, none⟩ = some (.int .i64 a1) := e3
 have e4' : rd w0 M1 ⟨x2, 1, none⟩ = some (.int .i64 b1) := e4
 simp only [go_sem, add_eq, Nat.zero_add, e1', e2', e3', e4']
 refine cmp64_ok ?_
 simp only [go_sem, e3', e4']
 refine ⟨trivial, trivial, ?_⟩
 refine cmp64_ok ?_
 simp only [go_sem]
 have i1 : In64 (if a0 < b0 then (-1 : Int) else if b0 < a0 then 1 else 0) := by unfold In64; split <;> (try split) <;> omega
 have i2 : In64 (if a1 < b1 then (-1 : Int) else if b1 < a1 then 1 else 0) := by unfold In64; split <;> (try split) <;> omega
 refine lit_ok [_, _] (n := 2) (by decide) (by kernel_rfl) rfl (wf_all (fun x hx => by
  simp only [List.mem_cons, List.not_mem_nil, or_false] at hx
  rcases hx with rfl | rfl
  ·exact i1
  ·exact i2)) fun M2 s l2 r2 => ?_
 refine or2_ok r2 ?_
 simp only [go_sem]
 have hh := h M2 (Mem.le_trans hle l2)
 have : cmpI a0 a1 b0 b1 = (if (if a0 < b0 then (-1 : Int) else if b0 < a0 then 1 else 0) = 0 then (if a1 < b1 then (-1 : Int) else if b1 < a1 then 1 else 0) else (if a0 < b0 then (-1 : Int) else if b0 < a0 then 1 else 0)) := by
  unfold cmpI
  by_cases h1 : a0 < b0
  ·simp only [if_pos h1]; rw [if_neg (by decide)]
  ·by_cases h2 : b0 < a0
   ·simp only [if_neg h1, if_pos h2]; rw [if_neg (by decide)]
   ·simp only [if_neg h1, if_neg h2]; rw [if_pos trivial]
 rw [← this]; exact hh
end
end Go.Proofs.YtodobkbnmjgkdaaGreat.HL
namespace Go.Proofs.YtodobkbnmjgkdaaGreat.HL
open Go.RowKit (Below)
open Go.Proofs
section
variable {w0 : World} {M F : Mem} {R : VP}
variable {a : Nat} {α : AS}
theorem Entry_ok (hA : Holds w0 F M (arenaA a α)) {i : Int} (h : ∀ M', Holds w0 F M' (arenaA a α.tick.tick) → R (.agg #[.int .i64 (α.getI i 7), .int .i64 (α.getI i 8)]) M') : C PP w0 Id.item_Entry #[.pointer (some ⟨a, 0, none⟩), .int .i64 i] R M := by
 apply item_Entry.go
 unfold item_Entry.T nfz
 intro b hb hw
 have H1 : Holds w0 F _ (star (row1 b _ 44) (arenaA a α)) := hA.new hb hw [.int .i64 0, .int .i64 0] 44
 simp only [go_sem, Option.isNone_some, bF_]
 obtain ⟨F', hB, _, back⟩ := H1.last
 refine Get_ok hB fun M2 hB2 => ?_
 simp only [go_sem]
 refine Get_ok hB2 fun M3 hB3 => ?_
 simp only [go_sem]
 have H3 := back M3 _ hB3
 refine st_agg (vs := [.int .i64 (α.getI i 7), .int .i64 (α.tick.getI i 8)]) W.g44 H3.own1 (by simp) (by intro v hv; simp only [List.mem_cons, List.not_mem_nil, or_false] at hv; rcases hv with rfl | rfl <;> rfl) ?_
 have H4 := H3.upd1 (cs' := over [.int .i64 0, .int .i64 0] 0 [.int .i64 (α.getI i 7), .int .i64 (α.tick.getI i 8)]) (e' := 44)
 have o4 := H4.own1
 rw [rdv_ptr, ld_agg (cs := [.int .i64 (α.getI i 7), .int .i64 (α.tick.getI i 8)]) W.g44 (fun j v hj => by rw [add_eq, rd_own o4, Nat.zero_add]; exact hj)]
 exact h _ H4.right
def AS.beforeI (α : AS) (i j : Int) : Bool :=
 decide (cmpI (α.getI i 7) (α.getI i 8) (α.getI j 7) (α.getI j 8) < 0) || (cmpI (α.getI i 7) (α.getI i 8) (α.getI j 7) (α.getI j 8) == 0 && decide (i < j))
theorem Before_ok (hA : Holds w0 F M (arenaA a α)) {i j : Int} (h : ∀ M', Holds w0 F M' (arenaA a α.tick.tick.tick.tick) → R (.bool (α.beforeI i j)) M') : C PP w0 Id.item_Before #[.pointer (some ⟨a, 0, none⟩), .int .i64 i, .int .i64 j] R M := by
 apply item_Before.go
 unfold item_Before.T nfz
 refine Entry_ok hA fun M1 hA1 => ?_
 simp only [go_sem]
 refine Entry_ok hA1 fun M2 hA2 => ?_
 simp only [go_sem]
 refine Compare_ok fun M3 l3 => ?_
 have hh := h M3 (hA2.le l3)
 unfold AS.beforeI at hh
 have e : ∀ (i f : Int), α.tick.tick.getI i f = α.getI i f := fun _ _ => rfl
 simp only [go_sem, bD_, bQ_, e]
 split
 ·rename_i h1
  rw [decide_eq_true h1] at hh; exact hh
 ·rename_i h1
  rw [decide_eq_false h1] at hh
  split
  ·rename_i h2
   rw [h2] at hh
   simpa using hh
  ·rename_i h2
   have : (cmpI (α.getI i 7) (α.getI i 8) (α.getI j 7) (α.getI j 8) == 0) = false := by simpa using h2
   rw [this] at hh; exact hh
theorem Lower_ok (hA : Holds w0 F M (arenaA a α)) {i key : Int} (h0 : α.getI i 7 < key → ∀ M', Holds w0 F M' (arenaA a α.tick) → R (.bool false) M')
  (h1 : key ≤ α.getI i 7 → ∀ M', Holds w0 F M' (arenaA a (α.tick.setI i 7 key).tick) → R (.bool (α.hasI i 7)) M') : C PP w0 Id.item_Lower #[.pointer (some ⟨a, 0, none⟩), .int .i64 i, .int .i64 key] R M := by
 apply item_Lower.go
 unfold item_Lower.T nfz
 simp only [go_sem, Option.isNone_some, bF_]
 refine Get_ok hA fun M1 hA1 => ?_
 simp only [go_sem, bD_]
 split
 ·exact h0 (by omega) M1 hA1
 ·refine Set_ok hA1 fun M2 hA2 => ?_
  simp only [go_sem]
  exact h1 (by omega) M2 hA2
theorem Node_ok (hA : Holds w0 F M (arenaA a α)) {i : Int} (h : ∀ M', Holds w0 F M' (arenaA a α.tick) → R (.int .i64 (α.cellI i 9)) M') : C PP w0 Id.item_Node #[.pointer (some ⟨a, 0, none⟩), .int .i64 i] R M := by
 apply item_Node.go
 unfold item_Node.T nfz
 simp only [go_sem, Option.isNone_some, bF_]
 refine Cell_ok hA fun M1 hA1 => ?_
 simp only [go_sem]
 exact h M1 hA1
theorem ItPut_ok (hA : Holds w0 F M (arenaA a α)) {n i : Nat} (hn : α.live n = true) (hi : α.live i = true) (h : ∀ M' β, Holds w0 F M' (arenaA a β) → AS.Sm 2 ((α.put n 6 i).put i 9 n) β → R (.tuple #[]) M') : C PP w0 Id.item_Put #[.pointer (some ⟨a, 0, none⟩), .int .i64 (n : Int), .int .i64 (i : Int)] R M := by
 apply item_Put.go
 unfold item_Put.T nfz
 simp only [go_sem, Option.isNone_some, Bool.not_false, bs_true]
 refine Set_ok hA fun M1 hA1 => ?_
 simp only [go_sem]
 refine Set_ok hA1 fun M2 hA2 => ?_
 simp only [go_sem]
 rw [show α.setI (n : Int) 6 (i : Int) = α.put n 6 (i : Int) from AS.setI_live (f := 6) hn (by omega) _] at hA2
 rw [show (α.put n 6 (i : Int)).tick.setI (i : Int) 9 (n : Int) = (α.put n 6 (i : Int)).tick.put i 9 (n : Int) from AS.setI_live (α := (α.put n 6 (i : Int)).tick) (f := 9) hi (by omega) _] at hA2
 exact h M2 _ hA2 ((AS.tick_sm.put i 9 _).trans AS.tick_sm)
theorem ItNew_ok (hA : Holds w0 F M (arenaA a α)) {key serial : Int} (h0 : α.next = none → ∀ M', Holds w0 F M' (arenaA a α.tick) → R (.tuple #[.int .i64 (-1), .bool false]) M')
  (h1 : ∀ c, α.next = some c → ∀ M' β, Holds w0 F M' (arenaA a β) → AS.Sm 3 ((α.take.put c 7 key).put c 8 serial) β → R (.tuple #[.int .i64 (c : Int), .bool true]) M') : C PP w0 Id.item_New #[.pointer (some ⟨a, 0, none⟩), .int .i64 key, .int .i64 serial] R M := by
 apply item_New.go
 unfold item_New.T nfz
 simp only [go_sem, Option.isNone_some, bF_]
 refine Take_ok hA fun M1 hA1 => ?_
 cases hnx : α.next with
 | none =>
  rw [show α.nextI = -1 from by unfold AS.nextI; rw [hnx]]
  rw [(AS.next_none hnx).1] at hA1
  simp only [go_sem, Option.isSome_none, bF_]
  exact h0 hnx M1 hA1
 | some c =>
  obtain ⟨hcn, hcl, hct⟩ := AS.next_some hA.inv hnx
  rw [show α.nextI = (c : Int) from by unfold AS.nextI; rw [hnx]]
  simp only [go_sem, Option.isSome_some, bs_true]
  have hlv : α.take.tick.live c = true := by
   show α.take.live c = true
   rw [hct]
   show (if c = c then true else α.live c) = true
   rw [if_pos rfl]
  refine Set_ok hA1 fun M2 hA2 => ?_
  simp only [go_sem]
  refine Set_ok hA2 fun M3 hA3 => ?_
  simp only [go_sem]
  rw [show α.take.tick.setI (c : Int) 7 key = α.take.tick.put c 7 key from AS.setI_live (α := α.take.tick) (f := 7) hlv (by omega) _] at hA3
  rw [show (α.take.tick.put c 7 key).tick.setI (c : Int) 8 serial = (α.take.tick.put c 7 key).tick.put c 8 serial from AS.setI_live (α := (α.take.tick.put c 7 key).tick) (f := 8) hlv (by omega) _] at hA3
  exact h1 c hnx M3 _ hA3 ((((AS.tick_sm.put c 7 key).trans AS.tick_sm).put c 8 serial).trans AS.tick_sm)
end
end Go.Proofs.YtodobkbnmjgkdaaGreat.HL
namespace Go.Proofs.YtodobkbnmjgkdaaGreat.HL
abbrev Ent := Int × Int
def Lt (a b : Ent) : Prop := a.1 < b.1 ∨ a.1 = b.1 ∧ a.2 < b.2
instance (a b : Ent) : Decidable (Lt a b) := by unfold Lt; infer_instance
theorem Lt.irr {a : Ent} : ¬ Lt a a := by unfold Lt; omega
theorem Lt.tr {a b c : Ent} (h : Lt a b) (h2 : Lt b c) : Lt a c := by unfold Lt at *; omega
theorem Lt.tot {a b : Ent} (h : ¬ Lt a b) (h2 : ¬ Lt b a) : a = b := by
 unfold Lt at *
 exact Prod.ext (by omega) (by omega)
theorem nLt.tr {a b c : Ent} (h : ¬ Lt b a) (h2 : ¬ Lt c b) : ¬ Lt c a := by unfold Lt at *; omega
theorem cmpI_lt (a b : Ent) : (cmpI a.1 a.2 b.1 b.2 < 0) = Lt a b := by
 unfold cmpI Lt
 apply propext
 split
 ·omega
 ·split
  ·omega
  ·split
   ·omega
   ·split <;> omega
def ins (l : List Ent) (e : Ent) : List Ent := l.takeWhile (fun x => decide (Lt x e)) ++ e :: l.dropWhile (fun x => decide (Lt x e))
end Go.Proofs.YtodobkbnmjgkdaaGreat.HL
namespace Go.Proofs.YtodobkbnmjgkdaaGreat.HL
abbrev Held := Nat × Ent
def Bf (x y : Held) : Prop := Lt x.2 y.2 ∨ x.2 = y.2 ∧ x.1 < y.1
instance (x y : Held) : Decidable (Bf x y) := by unfold Bf; infer_instance
theorem Bf.tr {x y z : Held} (h : Bf x y) (h2 : Bf y z) : Bf x z := by
 rcases h with h | ⟨h, h'⟩
 ·rcases h2 with h2 | ⟨h2, h2'⟩
  ·exact .inl (h.tr h2)
  ·exact .inl (h2 ▸ h)
 ·rcases h2 with h2 | ⟨h2, h2'⟩
  ·exact .inl (h ▸ h2)
  ·exact .inr ⟨h.trans h2, by omega⟩
theorem Bf.tot {x y : Held} (h : ¬ Bf x y) (h2 : x.1 ≠ y.1) : Bf y x := by
 by_cases h3 : Lt y.2 x.2
 ·exact .inl h3
 ·have h4 : ¬ Lt x.2 y.2 := fun h5 => h (.inl h5)
  have h5 : x.2 = y.2 := Lt.tot h4 h3
  exact .inr ⟨h5.symm, by
   have : ¬ (x.1 < y.1) := fun h6 => h (.inr ⟨h5, h6⟩)
   omega⟩
namespace AS
structure Nd (α : AS) (n i : Nat) (e : Ent) : Prop where
 ln : α.live n = true
 li : α.live i = true
 it : α.get n 6 = (i : Int)
 nd : α.get i 9 = (n : Int)
 k : α.get i 7 = e.1
 s : α.get i 8 = e.2
theorem Nd.congr {α β : AS} {n i : Nat} {e : Ent} (h : α.Nd n i e) (h1 : ∀ f, β.get n f = α.get n f) (h2 : ∀ f, β.get i f = α.get i f) (h3 : β.live n = α.live n) (h4 : β.live i = α.live i) : β.Nd n i e :=
 ⟨h3.trans h.ln, h4.trans h.li, (h1 6).trans h.it, (h2 9).trans h.nd, (h2 7).trans h.k, (h2 8).trans h.s⟩
structure Chg (S : Nat → Prop) (k : Int) (α β : AS) : Prop where
 n : β.n = α.n
 get : ∀ c, ¬ S c → ∀ f, β.get c f = α.get c f
 live : β.live = α.live
 never : β.never = α.never
 free : β.free = α.free
 steps : 0 ≤ α.steps ∧ α.steps ≤ 9223372036854775807 → β.steps ≤ 9223372036854775807 ∧ α.steps ≤ β.steps ∧ β.steps ≤ α.steps + k
theorem Chg.refl {S : Nat → Prop} {α : AS} : Chg S 0 α α := ⟨rfl, fun _ _ _ => rfl, rfl, rfl, rfl, fun h => ⟨h.2, by omega, by omega⟩⟩
theorem Chg.trans {S : Nat → Prop} {j k : Int} {α β γ : AS} (h : Chg S j α β) (h2 : Chg S k β γ) : Chg S (j + k) α γ :=
 ⟨h2.n.trans h.n, fun c hc f => (h2.get c hc f).trans (h.get c hc f), h2.live.trans h.live, h2.never.trans h.never, h2.free.trans h.free, fun h0 => by have h1 := h.steps h0; have h3 := h2.steps ⟨by omega, h1.1⟩; omega⟩
theorem Chg.mono {S T : Nat → Prop} {j k : Int} {α β : AS} (h : Chg S j α β) (hS : ∀ c, S c → T c) (hk : j ≤ k) : Chg T k α β :=
 ⟨h.n, fun c hc f => h.get c (fun hs => hc (hS c hs)) f, h.live, h.never, h.free, fun h0 => by have := h.steps h0; omega⟩
theorem Sm.chg {S : Nat → Prop} {k : Int} {α β : AS} (h : Sm k α β) : Chg S k α β := ⟨h.n, fun c _ f => by rw [h.get], h.live, h.never, h.free, h.steps⟩
theorem put_get (α : AS) (c f : Nat) (v : Int) (c' f' : Nat) : (α.put c f v).get c' f' = if c' = c ∧ f' = f then v else α.get c' f' := rfl
theorem put_chg {S : Nat → Prop} {α : AS} {c f : Nat} {v : Int} (h : S c) : Chg S 0 α (α.put c f v) :=
 ⟨rfl, fun c' hc f' => by rw [put_get, if_neg (fun e : c' = c ∧ f' = f => hc (by rw [e.1]; exact h))], rfl, rfl, rfl, fun h => ⟨h.2, Int.le_refl _, by show α.steps ≤ _; omega⟩⟩
theorem Chg.tick {S : Nat → Prop} {k : Int} {α β : AS} (h : Chg S k α β) : Chg S (k + 1) α β.tick := h.trans tick_sm.chg
theorem Chg.put {S : Nat → Prop} {k : Int} {α β : AS} (h : Chg S k α β) {c f : Nat} {v : Int} (hc : S c) : Chg S k α (β.put c f v) := by
 have := h.trans (put_chg (f := f) (v := v) hc)
 exact this.mono (fun _ h => h) (by omega)
theorem cellI_none {α : AS} {f : Int} {c : Int} (h : α.liveI c = false) : α.cellI c f = -1 := by
 unfold cellI getI hasI
 rw [h]; simp
theorem cellI_neg {α : AS} {c f : Nat} (h : α.live c = true) (hf : f < 10) (hv : α.get c f = -1) : α.cellI (c : Int) (f : Int) = -1 := by
 unfold cellI
 rw [getI_live h hf, hv, if_pos (by omega)]
theorem setI_none {α : AS} {c f v : Int} (h : α.liveI c = false) : α.setI c f v = α := by
 unfold setI hasI
 rw [h]; simp
theorem liveI_neg {α : AS} : α.liveI (-1) = false := by unfold liveI; simp
theorem cellI_val {α : AS} (hi : α.Inv) {c f : Nat} {v : Int} (h : α.live c = true) (hf : f < 10) (hv : α.get c f = v) (hl : v = -1 ∨ ∃ y : Nat, v = (y : Int) ∧ α.live y = true) : α.cellI (c : Int) (f : Int) = v := by
 rcases hl with rfl | ⟨y, rfl, hy⟩
 ·exact cellI_neg h hf hv
 ·exact cellI_live h hf hv (live_lt hi hy)
theorem before_nd {α : AS} {i j : Nat} {e g : Ent} (h1 : α.live i = true) (h2 : α.live j = true) (e7 : α.get i 7 = e.1) (e8 : α.get i 8 = e.2) (g7 : α.get j 7 = g.1) (g8 : α.get j 8 = g.2) : α.beforeI (i : Int) (j : Int) = decide (Bf (i, e) (j, g)) := by
 have a7 : α.getI (i : Int) 7 = e.1 := (getI_live (f := 7) h1 (by omega)).trans e7
 have a8 : α.getI (i : Int) 8 = e.2 := (getI_live (f := 8) h1 (by omega)).trans e8
 have b7 : α.getI (j : Int) 7 = g.1 := (getI_live (f := 7) h2 (by omega)).trans g7
 have b8 : α.getI (j : Int) 8 = g.2 := (getI_live (f := 8) h2 (by omega)).trans g8
 unfold beforeI
 rw [a7, a8, b7, b8]
 have hlt := cmpI_lt e g
 have heq : (cmpI e.1 e.2 g.1 g.2 = 0) = (e = g) := by
  unfold cmpI
  apply propext
  constructor
  ·intro h
   refine Prod.ext ?_ ?_ <;> (revert h; split <;> (try split) <;> (try split) <;> (try split) <;> intro h <;> omega)
  ·rintro rfl; simp
 rw [Bool.eq_iff_iff]
 simp only [Bool.or_eq_true, Bool.and_eq_true, decide_eq_true_eq, beq_iff_eq, hlt, heq]
 unfold Bf
 simp only
 constructor
 ·rintro (h | ⟨h, h'⟩)
  ·exact .inl h
  ·exact .inr ⟨h, by omega⟩
 ·rintro (h | ⟨h, h'⟩)
  ·exact .inl h
  ·exact .inr ⟨h, by omega⟩
theorem take_some {α : AS} (hi : α.Inv) {c : Nat} (h : α.next = some c) : α.take.len = α.len + 1 ∧ α.len < α.n := by
 have h1 := hi.len
 have h2 := (take_inv hi).len
 have h3 := hi.never
 have key : (α.take.free.length + 1 = α.free.length ∧ α.take.never = α.never) ∨ (α.free.length = 0 ∧ α.take.free.length = 0 ∧ α.take.never = α.never + 1 ∧ α.never < α.n) := by
  unfold next at h
  unfold take
  cases hl : α.free.getLast? with
  | some x =>
   have hne : α.free ≠ [] := by intro e; rw [e] at hl; cases hl
   have h4 : α.free.length ≠ 0 := fun e => hne (List.eq_nil_of_length_eq_zero e)
   have h5 : α.free.dropLast.length = α.free.length - 1 := List.length_dropLast
   refine .inl ⟨?_, rfl⟩
   show α.free.dropLast.length + 1 = _
   omega
  | none =>
   rw [hl] at h
   simp only at h ⊢
   have h8 : α.free = [] := List.getLast?_eq_none_iff.1 hl
   split at h
   ·rename_i hlt
    rw [if_pos hlt]
    have h9 : α.free.length = 0 := by rw [h8]; rfl
    exact .inr ⟨h9, h9, rfl, hlt⟩
   ·cases h
 omega
theorem next_full {α : AS} (hi : α.Inv) (h : α.next = none) : α.len = α.n := by
 obtain ⟨_, h1, h2⟩ := next_none h
 have h3 := hi.len
 have h4 := hi.never
 have h5 : α.free.length = 0 := by rw [h1]; rfl
 omega
theorem unlive_len {α : AS} (hi : α.Inv) {c : Nat} (h : α.live c = true) : (α.unlive c).len + 1 = α.len := by
 have h1 := hi.len
 have h2 := (unlive_inv hi h).len
 have h3 : (α.unlive c).free.length = α.free.length + 1 := by simp [unlive]
 have h4 : (α.unlive c).never = α.never := rfl
 rw [h3, h4] at h2
 omega
theorem giveI_live {α : AS} {c : Nat} (h : α.live c = true) : α.giveI (c : Int) = α.unlive c := by
 unfold giveI
 rw [liveI_nat, h, if_pos rfl, Int.toNat_natCast]
theorem len_congr {α β : AS} (h1 : β.never = α.never) (h2 : β.live = α.live) : β.len = α.len := by unfold len; rw [h1, h2]
end AS
end Go.Proofs.YtodobkbnmjgkdaaGreat.HL
