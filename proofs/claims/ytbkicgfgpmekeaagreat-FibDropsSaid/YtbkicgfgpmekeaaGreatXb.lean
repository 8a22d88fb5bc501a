import Derived.Test.YtbkicgfgpmekeaaGreatXa
import Derived.Test.YtbkicgfgpmekeaaGreatHlK
import Derived.Test.YtbkicgfgpmekeaaGreatSrt
/-
  NdM: nodes that have items, in plain Lean: what a cell holds, and what a call leaves as it was.
-/
set_option linter.unusedVariables false
set_option linter.unusedSimpArgs false
namespace Go.Proofs.YtbkicgfgpmekeaaGreat.HL

/-- An item: its cell, its entry. -/
abbrev Held := Nat × Ent
/-- One item is ahead of another. -/
def Bf (x y : Held) : Prop := Lt x.2 y.2 ∨ x.2 = y.2 ∧ x.1 < y.1
instance (x y : Held) : Decidable (Bf x y) := by unfold Bf; infer_instance
theorem Bf.irr {x : Held} : ¬ Bf x x := by
  rintro (h | h)
  · exact Lt.irr h
  · omega
theorem Bf.tr {x y z : Held} (h : Bf x y) (h2 : Bf y z) : Bf x z := by
  rcases h with h | ⟨h, h'⟩
  · rcases h2 with h2 | ⟨h2, h2'⟩
    · exact .inl (h.tr h2)
    · exact .inl (h2 ▸ h)
  · rcases h2 with h2 | ⟨h2, h2'⟩
    · exact .inl (h ▸ h2)
    · exact .inr ⟨h.trans h2, by omega⟩
theorem Bf.asym {x y : Held} (h : Bf x y) : ¬ Bf y x := fun h2 => Bf.irr (h.tr h2)
theorem Bf.tot {x y : Held} (h : ¬ Bf x y) (h2 : x.1 ≠ y.1) : Bf y x := by
  by_cases h3 : Lt y.2 x.2
  · exact .inl h3
  · have h4 : ¬ Lt x.2 y.2 := fun h5 => h (.inl h5)
    have h5 : x.2 = y.2 := Lt.tot h4 h3
    exact .inr ⟨h5.symm, by
      have : ¬ (x.1 < y.1) := fun h6 => h (.inr ⟨h5, h6⟩)
      omega⟩

namespace AS
/-- A node and its item. -/
structure Nd (α : AS) (n i : Nat) (e : Ent) : Prop where
  ln : α.live n = true
  li : α.live i = true
  it : α.get n 6 = (i : Int)
  nd : α.get i 9 = (n : Int)
  k : α.get i 7 = e.1
  s : α.get i 8 = e.2
theorem Nd.congr {α β : AS} {n i : Nat} {e : Ent} (h : α.Nd n i e) (h1 : ∀ f, β.get n f = α.get n f) (h2 : ∀ f, β.get i f = α.get i f) (h3 : β.live n = α.live n) (h4 : β.live i = α.live i) : β.Nd n i e :=
  ⟨h3.trans h.ln, h4.trans h.li, (h1 6).trans h.it, (h2 9).trans h.nd, (h2 7).trans h.k, (h2 8).trans h.s⟩

/-- What is not in S is as it was; so many steps more. -/
structure Chg (S : Nat → Prop) (k : Int) (α β : AS) : Prop where
  n : β.n = α.n
  get : ∀ c, ¬ S c → ∀ f, β.get c f = α.get c f
  live : β.live = α.live
  never : β.never = α.never
  free : β.free = α.free
  steps : 0 ≤ α.steps ∧ α.steps ≤ 9223372036854775807 → β.steps ≤ 9223372036854775807 ∧ α.steps ≤ β.steps ∧ β.steps ≤ α.steps + k
theorem Chg.refl {S : Nat → Prop} {α : AS} : Chg S 0 α α := ⟨rfl, fun _ _ _ => rfl, rfl, rfl, rfl, fun h => ⟨h.2, by omega, by omega⟩⟩
theorem Chg.trans {S : Nat → Prop} {j k : Int} {α β γ : AS} (h : Chg S j α β) (h2 : Chg S k β γ) : Chg S (j + k) α γ :=
  ⟨h2.n.trans h.n, fun c hc f => (h2.get c hc f).trans (h.get c hc f), h2.live.trans h.live, h2.never.trans h.never, h2.free.trans h.free, fun h0 => by have h1 := h.steps h0; have h3 := h2.steps ⟨by omega, h1.1⟩; omega⟩
theorem Chg.mono {S T : Nat → Prop} {j k : Int} {α β : AS} (h : Chg S j α β) (hS : ∀ c, S c → T c) (hk : j ≤ k) : Chg T k α β :=
  ⟨h.n, fun c hc f => h.get c (fun hs => hc (hS c hs)) f, h.live, h.never, h.free, fun h0 => by have := h.steps h0; omega⟩
theorem Sm.chg {S : Nat → Prop} {k : Int} {α β : AS} (h : Sm k α β) : Chg S k α β := ⟨h.n, fun c _ f => by rw [h.get], h.live, h.never, h.free, h.steps⟩
theorem put_get (α : AS) (c f : Nat) (v : Int) (c' f' : Nat) : (α.put c f v).get c' f' = if c' = c ∧ f' = f then v else α.get c' f' := rfl
theorem put_chg {S : Nat → Prop} {α : AS} {c f : Nat} {v : Int} (h : S c) : Chg S 0 α (α.put c f v) :=
  ⟨rfl, fun c' hc f' => by rw [put_get, if_neg (fun e : c' = c ∧ f' = f => hc (by rw [e.1]; exact h))], rfl, rfl, rfl, fun h => ⟨h.2, Int.le_refl _, by show α.steps ≤ _; omega⟩⟩
theorem Chg.tick {S : Nat → Prop} {k : Int} {α β : AS} (h : Chg S k α β) : Chg S (k + 1) α β.tick := h.trans tick_sm.chg
theorem Chg.put {S : Nat → Prop} {k : Int} {α β : AS} (h : Chg S k α β) {c f : Nat} {v : Int} (hc : S c) : Chg S k α (β.put c f v) := by
  have := h.trans (put_chg (f := f) (v := v) hc)
  exact this.mono (fun _ h => h) (by omega)

theorem put_live (α : AS) (c f : Nat) (v : Int) : (α.put c f v).live = α.live := rfl
theorem tick_get (α : AS) : α.tick.get = α.get := rfl
theorem tick_live (α : AS) : α.tick.live = α.live := rfl
theorem tick_n (α : AS) : α.tick.n = α.n := rfl
theorem getI_tick (α : AS) (c f : Int) : α.tick.getI c f = α.getI c f := rfl
theorem cellI_tick (α : AS) (c f : Int) : α.tick.cellI c f = α.cellI c f := rfl
theorem cellI_none {α : AS} {f : Int} {c : Int} (h : α.liveI c = false) : α.cellI c f = -1 := by
  unfold cellI getI hasI
  rw [h]; simp
theorem cellI_neg {α : AS} {c f : Nat} (h : α.live c = true) (hf : f < 10) (hv : α.get c f = -1) : α.cellI (c : Int) (f : Int) = -1 := by
  unfold cellI
  rw [getI_live h hf, hv, if_pos (by omega)]
theorem setI_none {α : AS} {c f v : Int} (h : α.liveI c = false) : α.setI c f v = α := by
  unfold setI hasI
  rw [h]; simp
theorem liveI_neg {α : AS} : α.liveI (-1) = false := by unfold liveI; simp
/-- What a cell points at: a live one, or none. -/
theorem cellI_val {α : AS} (hi : α.Inv) {c f : Nat} {v : Int} (h : α.live c = true) (hf : f < 10) (hv : α.get c f = v) (hl : v = -1 ∨ ∃ y : Nat, v = (y : Int) ∧ α.live y = true) : α.cellI (c : Int) (f : Int) = v := by
  rcases hl with rfl | ⟨y, rfl, hy⟩
  · exact cellI_neg h hf hv
  · exact cellI_live h hf hv (live_lt hi hy)

/-- Items before one another. -/
theorem before_nd {α : AS} {i j : Nat} {e g : Ent} (h1 : α.live i = true) (h2 : α.live j = true) (e7 : α.get i 7 = e.1) (e8 : α.get i 8 = e.2) (g7 : α.get j 7 = g.1) (g8 : α.get j 8 = g.2) : α.beforeI (i : Int) (j : Int) = decide (Bf (i, e) (j, g)) := by
  have a7 : α.getI (i : Int) 7 = e.1 := (getI_live (f := 7) h1 (by omega)).trans e7
  have a8 : α.getI (i : Int) 8 = e.2 := (getI_live (f := 8) h1 (by omega)).trans e8
  have b7 : α.getI (j : Int) 7 = g.1 := (getI_live (f := 7) h2 (by omega)).trans g7
  have b8 : α.getI (j : Int) 8 = g.2 := (getI_live (f := 8) h2 (by omega)).trans g8
  unfold beforeI
  rw [a7, a8, b7, b8]
  have hlt := cmpI_lt e g
  have heq : (cmpI e.1 e.2 g.1 g.2 = 0) = (e = g) := by
    unfold cmpI
    apply propext
    constructor
    · intro h
      refine Prod.ext ?_ ?_ <;> (revert h; split <;> (try split) <;> (try split) <;> (try split) <;> intro h <;> omega)
    · rintro rfl; simp
  rw [Bool.eq_iff_iff]
  simp only [Bool.or_eq_true, Bool.and_eq_true, decide_eq_true_eq, beq_iff_eq, hlt, heq]
  unfold Bf
  simp only
  constructor
  · rintro (h | ⟨h, h'⟩)
    · exact .inl h
    · exact .inr ⟨h, by omega⟩
  · rintro (h | ⟨h, h'⟩)
    · exact .inl h
    · exact .inr ⟨h, by omega⟩

/-- How many are taken. -/
theorem take_some {α : AS} (hi : α.Inv) {c : Nat} (h : α.next = some c) : α.take.len = α.len + 1 ∧ α.len < α.n := by
  have h1 := hi.len
  have h2 := (take_inv hi).len
  have h3 := hi.never
  have key : (α.take.free.length + 1 = α.free.length ∧ α.take.never = α.never) ∨ (α.free.length = 0 ∧ α.take.free.length = 0 ∧ α.take.never = α.never + 1 ∧ α.never < α.n) := by
    unfold next at h
    unfold take
    cases hl : α.free.getLast? with
    | some x =>
      have hne : α.free ≠ [] := by intro e; rw [e] at hl; cases hl
      have h4 : α.free.length ≠ 0 := fun e => hne (List.eq_nil_of_length_eq_zero e)
      have h5 : α.free.dropLast.length = α.free.length - 1 := List.length_dropLast
      refine .inl ⟨?_, rfl⟩
      show α.free.dropLast.length + 1 = _
      omega
    | none =>
      rw [hl] at h
      simp only at h ⊢
      have h8 : α.free = [] := List.getLast?_eq_none_iff.1 hl
      split at h
      · rename_i hlt
        rw [if_pos hlt]
        have h9 : α.free.length = 0 := by rw [h8]; rfl
        exact .inr ⟨h9, h9, rfl, hlt⟩
      · cases h
  omega
theorem next_full {α : AS} (hi : α.Inv) (h : α.next = none) : α.len = α.n := by
  obtain ⟨_, h1, h2⟩ := next_none h
  have h3 := hi.len
  have h4 := hi.never
  have h5 : α.free.length = 0 := by rw [h1]; rfl
  omega
theorem unlive_len {α : AS} (hi : α.Inv) {c : Nat} (h : α.live c = true) : (α.unlive c).len + 1 = α.len := by
  have h1 := hi.len
  have h2 := (unlive_inv hi h).len
  have h3 : (α.unlive c).free.length = α.free.length + 1 := by simp [unlive]
  have h4 : (α.unlive c).never = α.never := rfl
  rw [h3, h4] at h2
  omega
theorem giveI_live {α : AS} {c : Nat} (h : α.live c = true) : α.giveI (c : Int) = α.unlive c := by
  unfold giveI
  rw [liveI_nat, h, if_pos rfl, Int.toNat_natCast]
theorem len_congr {α β : AS} (h1 : β.never = α.never) (h2 : β.live = α.live) : β.len = α.len := by unfold len; rw [h1, h2]
end AS

end Go.Proofs.YtbkicgfgpmekeaaGreat.HL

/-
  NdA: nodes that have items: what each of the calls on them does.
-/
set_option linter.unusedVariables false
set_option linter.unusedSimpArgs false
set_option maxRecDepth 100000
namespace Go.Proofs.YtbkicgfgpmekeaaGreat.HL
open Go.RowKit (Below)
open Go.Proofs

namespace AS
theorem Sm.unlive {k : Int} {α β : AS} (h : Sm k α β) (c : Nat) : Sm k (α.unlive c) (β.unlive c) :=
  ⟨h.n, h.get, by show (fun c' => if c' = c then false else β.live c') = _; rw [h.live]; rfl, h.never, by show β.free ++ [c] = α.free ++ [c]; rw [h.free], h.steps⟩
theorem Sm.nd {k : Int} {α β : AS} (h : Sm k α β) {n i : Nat} {e : Ent} (hn : α.Nd n i e) : β.Nd n i e :=
  hn.congr (fun f => by rw [h.get]) (fun f => by rw [h.get]) (by rw [h.live]) (by rw [h.live])
/-- The same but for steps, however many. -/
def Sq (α β : AS) : Prop := ∃ k, Sm k α β
theorem Sq.refl {α : AS} : Sq α α := ⟨0, Sm.refl⟩
theorem Sm.sq {k : Int} {α β : AS} (h : Sm k α β) : Sq α β := ⟨k, h⟩
theorem Sq.trans {α β γ : AS} (h : Sq α β) (h2 : Sq β γ) : Sq α γ := by
  obtain ⟨k, h⟩ := h
  obtain ⟨j, h2⟩ := h2
  exact ⟨_, h.trans h2⟩
theorem Sq.n {α β : AS} (h : Sq α β) : β.n = α.n := h.choose_spec.n
theorem Sq.get {α β : AS} (h : Sq α β) : β.get = α.get := h.choose_spec.get
theorem Sq.live {α β : AS} (h : Sq α β) : β.live = α.live := h.choose_spec.live
theorem Sq.never {α β : AS} (h : Sq α β) : β.never = α.never := h.choose_spec.never
theorem Sq.free {α β : AS} (h : Sq α β) : β.free = α.free := h.choose_spec.free
theorem Sq.len {α β : AS} (h : Sq α β) : β.len = α.len := len_congr h.never h.live
end AS

section
variable {w0 : World} {M F : Mem} {R : Value → Mem → Prop} {a : Nat} {α : AS}

theorem Holds.impP {P Q : Asn} (h : Holds w0 F M P) (hi : ∀ r, P r → ∃ r', r.Perm r' ∧ Q r') : Holds w0 F M Q := by
  obtain ⟨r, h1, h2⟩ := h
  obtain ⟨r', hp, hq⟩ := hi r h1
  exact ⟨r', hq, h2.perm hp⟩
theorem Holds.rot3 {A B D E : Asn} (h : Holds w0 F M (star A (star B (star D E)))) : Holds w0 F M (star D (star A (star B E))) :=
  h.impP fun r ⟨r1, _, e1, hA, r2, _, e2, hB, r3, r4, e3, hD, hE⟩ => ⟨r3 ++ (r1 ++ (r2 ++ r4)), by
    subst e3; subst e2; subst e1
    exact ((List.perm_append_comm_assoc r2 r3 r4).append_left r1).trans (List.perm_append_comm_assoc r1 r3 _), r3, _, rfl, hD, r1, _, rfl, hA, r2, r4, rfl, hB, hE⟩
theorem Holds.unrot3 {A B D E : Asn} (h : Holds w0 F M (star D (star A (star B E)))) : Holds w0 F M (star A (star B (star D E))) := h.rot3.rot3
theorem Holds.last4 {A B D E : Asn} (h : Holds w0 F M (star A (star B (star D E)))) : ∃ F', Holds w0 F' M E ∧ Mem.le F F' ∧ ∀ M' E', Holds w0 F' M' E' → Holds w0 F M' (star A (star B (star D E'))) := by
  obtain ⟨F', h1, h2, h3⟩ := h.last3
  obtain ⟨F'', h4, h5, h6⟩ := h1.last
  exact ⟨F'', h4, Mem.le_trans h2 h5, fun M' E' h' => h3 M' _ (h6 M' _ h')⟩

/-- Numbers are put behind one's own. -/
theorem appI {Q : Asn} {s x : SV} {l m : List Int} (h : Holds w0 F M (star (SlA s (l.map (Value.int .i64))) Q)) (hx : RdI w0 M .i64 x m) (hb : l.length + m.length ≤ 137438953472) {K : Value → Mem → Prop}
    (hK : ∀ M' s', Holds w0 F M' (star (SlA s' ((l ++ m).map (Value.int .i64))) Q) → K s'.v M') : (std PP w0).app #[61, 61] 61 [SV.v s, SV.v x] K M := by
  obtain ⟨F', h1, h2, h3⟩ := h.sl
  exact app_rd Tryz.underlying61 W.e3 h2 h1 hx (Mem.le_refl _) hb fun M' s' l1 l2 => hK M' s' (h3 M' s' _ l2 l1)
theorem Holds.cells {Q : Asn} {s : SV} {l : List Value} (h : Holds w0 F M (star (SlA s l) Q)) : Cells w0 M s.a l ∧ s.n = l.length := by
  obtain ⟨F', h1, h2, h3⟩ := h.sl
  exact ⟨h1.cells, h1.len⟩
/-- Of one's own numbers, read by whoever keeps them. -/
theorem Holds.rdI' {Q : Asn} {s : SV} {l : List Nat} (h : Holds w0 F M (star (SlA s ((intsN l).map (Value.int .i64))) Q)) (hl : ∀ x ∈ l, x < 1000000) (hm : l.length ≤ 1000000) : RdI w0 M .i64 s (intsN l) := by
  refine h.rdI (fun n hn => ?_) (by simpa [intsN] using hm)
  obtain ⟨x, hx, rfl⟩ := List.mem_map.1 hn
  exact wf64 (by have := hl x hx; unfold In64; omega)
theorem rdB {t : TypeId} (ht : cell1 PP t = true) {s : SV} {l : List Value} (hc : Cells w0 M s.a l) (hn : s.n = l.length) {i : Int} (j : Nat) (e : i = (j : Int)) {b : Bool} (hv : l[j]? = some (.bool b)) {K : Bool → Prop} (hK : K b) :
    nc s.a fun a => (0 ≤ i ∧ i < ((s.n : Nat) : Int)) ∧ ob ((std PP w0).ld t (a.add (i.toNat * 1)) M) fun v => shB v fun b => K b := by
  subst e
  obtain ⟨ad, ea, hr⟩ := hc j _ hv
  have hj := (List.getElem?_eq_some_iff.1 hv).1
  rw [ea, nc_v, Int.toNat_natCast, Nat.mul_one, ld_one ht, hr, ob_v, shB_v]
  exact ⟨⟨by omega, by rw [hn]; omega⟩, hK⟩
/-- The last one is taken off. -/
theorem SlA.pop {s : SV} {w : List Value} {x : Value} {r : Rws} (h : SlA s (w ++ [x]) r) (hb : w.length ≤ 137438953472) :
    SlA ⟨(if s.c = (0 : Int).toNat then s.a else s.a.map (·.add ((0 : Int).toNat * 1))), ((w64 (((s.n : Nat) : Int) - 1)).toNat - (0 : Int).toNat), (s.c - (0 : Int).toNat)⟩ w r := by
  rcases h with ⟨rfl, h, _⟩ | ⟨b, rest, e, rfl, rfl⟩
  · simp at h
  · refine .inr ⟨b, x :: rest, e, ?_, by simp⟩
    simp only [List.length_append, List.length_cons, List.length_nil]
    rw [if_neg (by simp), w64_in (by omega)]
    simp only [Option.map_some, SV.mk.injEq]
    refine ⟨rfl, ?_, ?_⟩
    · simp
    · simp; omega

theorem nBefore_ok (hA : Holds w0 F M (arenaA a α)) {n m i j : Nat} {e g : Ent} (h1 : α.Nd n i e) (h2 : α.Nd m j g) (h : ∀ M' β, Holds w0 F M' (arenaA a β) → AS.Sm 6 α β → R (.bool (decide (Bf (i, e) (j, g)))) M') : C PP w0 Id.node_Before #[.pointer (some ⟨a, 0, none⟩), .int .i64 (n : Int), .int .i64 (m : Int)] R M := by
  apply node_Before.go
  unfold node_Before.T
  refine Cell_ok hA fun M1 hA1 => ?_
  rw [show α.cellI (n : Int) 6 = (i : Int) from AS.cellI_live (f := 6) h1.ln (by omega) h1.it (AS.live_lt hA.inv h1.li)]
  simp only [go_sem]
  refine Cell_ok hA1 fun M2 hA2 => ?_
  rw [show α.tick.cellI (m : Int) 6 = (j : Int) from AS.cellI_live (α := α.tick) (f := 6) h2.ln (by omega) h2.it (AS.live_lt hA.inv h2.li)]
  simp only [go_sem]
  refine Before_ok hA2 fun M3 hA3 => ?_
  rw [show α.tick.tick.beforeI (i : Int) (j : Int) = decide (Bf (i, e) (j, g)) from AS.before_nd (α := α.tick.tick) h1.li h2.li h1.k h1.s h2.k h2.s]
  simp only [go_sem]
  exact h M3 _ hA3 ((((((AS.tick_sm.trans AS.tick_sm).trans AS.tick_sm).trans AS.tick_sm).trans AS.tick_sm).trans AS.tick_sm).mono (by omega))

/-- A new node; where there is no cell nothing changes. -/
theorem ndNew_ok (hA : Holds w0 F M (arenaA a α)) {i : Nat} (hi : α.live i = true) (h0 : α.next = none → ∀ M' β, Holds w0 F M' (arenaA a β) → AS.Sm 1 α β → R (.tuple #[.int .i64 (-1), .bool false]) M')
    (h1 : ∀ n, α.next = some n → ∀ M' β, Holds w0 F M' (arenaA a β) → AS.Sm 3 ((α.take.put n 6 i).put i 9 n) β → R (.tuple #[.int .i64 (n : Int), .bool true]) M') : C PP w0 Id.node_New #[.pointer (some ⟨a, 0, none⟩), .int .i64 (i : Int)] R M := by
  apply node_New.go
  unfold node_New.T
  refine Take_ok hA fun M1 hA1 => ?_
  cases hnx : α.next with
  | none =>
    rw [show α.nextI = -1 from by unfold AS.nextI; rw [hnx]]
    rw [(AS.next_none hnx).1] at hA1
    simp only [go_sem, Option.isSome_none, bs_false]
    exact h0 hnx M1 _ hA1 AS.tick_sm
  | some n =>
    obtain ⟨hcn, hcl, hct⟩ := AS.next_some hA.inv hnx
    rw [show α.nextI = (n : Int) from by unfold AS.nextI; rw [hnx]]
    simp only [go_sem, Option.isSome_some, bs_true]
    have hlv : ∀ x, α.take.live x = if x = n then true else α.live x := by
      intro x; rw [hct]; rfl
    refine ItPut_ok hA1 (by show α.take.live n = true; rw [hlv, if_pos rfl]) (by show α.take.live i = true; rw [hlv]; split; rfl; exact hi) fun M2 β hA2 hs => ?_
    exact h1 n hnx M2 β hA2 (((((AS.tick_sm (α := α.take)).put n 6 (i : Int)).put i 9 (n : Int)).trans hs).mono (by omega))

theorem End_ok (hA : Holds w0 F M (arenaA a α)) {n i : Nat} {e : Ent} (h1 : α.Nd n i e) (h : ∀ M' β, Holds w0 F M' (arenaA a β) → AS.Sm 3 ((α.put i 9 (-1)).unlive n) β → R (.int .i64 (i : Int)) M') : C PP w0 Id.node_End #[.pointer (some ⟨a, 0, none⟩), .int .i64 (n : Int)] R M := by
  apply node_End.go
  unfold node_End.T
  refine Cell_ok hA fun M1 hA1 => ?_
  rw [show α.cellI (n : Int) 6 = (i : Int) from AS.cellI_live (f := 6) h1.ln (by omega) h1.it (AS.live_lt hA.inv h1.li)]
  simp only [go_sem]
  refine Set_ok hA1 fun M2 hA2 => ?_
  simp only [go_sem]
  rw [show α.tick.setI (i : Int) 9 (-1) = α.tick.put i 9 (-1) from AS.setI_live (α := α.tick) (f := 9) h1.li (by omega) _] at hA2
  refine Give_ok hA2 fun M3 hA3 => ?_
  rw [show (α.tick.put i 9 (-1)).tick.giveI (n : Int) = (α.tick.put i 9 (-1)).tick.unlive n from AS.giveI_live h1.ln] at hA3
  simp only [go_sem]
  exact h M3 _ hA3 ((((((AS.tick_sm (α := α)).put i 9 (-1)).trans AS.tick_sm).unlive n).trans AS.tick_sm).mono (by omega))

theorem CloneI_ok {s : SV} {l : List Int} {Q : Asn} (hQ : Holds w0 F M Q) (hs : RdI w0 M .i64 s l) (hb : l.length ≤ 1000000) (h : ∀ M' s', Mem.le M M' → Holds w0 F M' (star (SlA s' (l.map (Value.int .i64))) Q) → R s'.v M') : C PP w0 Id.slices_Clone_int_int #[SV.v s] R M := by
  apply slices_Clone_int_int.go
  unfold slices_Clone_int_int.T
  rw [W.eqs61, ob_v, shB_v, bs_b]
  refine ⟨fun hn => ?_, fun hn => ?_⟩
  · have hn0 : s.a = none := by cases ha : s.a with
      | none => rfl
      | some a => rw [ha] at hn; cases hn
    have : l = [] := List.eq_nil_of_length_eq_zero (by have := hs.none hn0; have := hs.len; omega)
    subst this
    exact h M ⟨none, 0, 0⟩ (Mem.le_refl _) (Holds.nilSl hQ)
  · refine bsl_ints (k := .i64) (l := []) (Mem.le_refl M) Tryz.underlying61 W.e3 (n := 0) (by decide) (by kernel_rfl) rfl fun M1 o l1 _ h1 => ?_
    rw [shS_sv]
    refine app_rd Tryz.underlying61 W.e3 l1 h1 (hs.le l1) (Mem.le_refl _) (by simp; omega) fun M2 o2 l3 h5 => ?_
    rw [shS_sv]
    exact h M2 o2 l3 (hQ.newSl l3 h5)

/-- What a walk off a pile of nodes comes to. -/
inductive Tr (K : Nat → List Int → Prop) : List Int → List Nat → Prop
  | nil : Tr K [] []
  | skip {w : List Int} {N : List Nat} (h : Tr K w N) : Tr K (w ++ [-1]) N
  | node {w ks : List Int} {n : Nat} {N : List Nat} (hk : K n ks) (h : Tr K (w ++ ks) N) : Tr K (w ++ [(n : Int)]) (n :: N)

theorem Below_ok {K : Nat → List Int → Prop} {kf : FuncId × Array Value} {first : SV} {fl : List Int} {N : List Nat} (hA : Holds w0 F M (arenaA a α)) (hf : RdI w0 M .i64 first fl) (hfl : fl.length ≤ 70000) (hT : Tr K fl N) (hnd : N.Nodup) (hlive : ∀ n ∈ N, α.live n = true)
    (hkl : ∀ n ks, K n ks → ks.length ≤ 70000) (hwf : ∀ n ks, K n ks → ∀ x ∈ ks, In64 x)
    (hk : ∀ n ks, n ∈ N → K n ks → ∀ (F' M' : Mem) (β : AS) (R' : Value → Mem → Prop), Mem.le F F' → Holds w0 F' M' (arenaA a β) → AS.Sq α β → (∀ M'' s β', Holds w0 F' M'' (arenaA a β') → AS.Sq β β' → RdI w0 M'' .i64 s ks → R' s.v M'') → C PP w0 kf.1 ((([.int .i64 (n : Int)] : List Value) ++ kf.2.toList).toArray) R' M')
    (h : ∀ M' s β, Holds w0 F M' (star (SlA s ((intsN N).map (Value.int .i64))) (arenaA a β)) → AS.Sq α β → R s.v M') : C PP w0 Id.node_Below #[.pointer (some ⟨a, 0, none⟩), SV.v first, .func (.func kf.1) #[] kf.2] R M := by
  apply node_Below.go
  intro pts H
  unfold node_Below.T
  have hInv := hA.inv
  have hn := hInv.n
  have hNlen : N.length ≤ 65536 := Nat.le_trans (nodup_len α.n N hnd fun x hx => AS.live_lt hInv (hlive x hx)) hn
  refine Cells_ok hA ?_
  simp only [go_sem]
  obtain ⟨inf, hi, hz, h1, h2, h3, h4⟩ := W.e4
  refine mks_ok Tryz.underlying106 hi hz (by rw [h1]; exact h2) (Nat.le_refl _) (Nat.le_trans (Nat.mul_le_mul h4 hn) (by decide)) (by omega) fun b hb hw => ?_
  rw [zeros_one rfl]
  simp only [go_sem]
  have l1 : Mem.le M (M.set b (.row (List.replicate α.n (Value.bool false)) 4)) := Mem.le_set _ hb
  have hH1 : Holds w0 F _ (star (SlA ⟨some ⟨b, 0, none⟩, α.n, α.n⟩ (List.replicate α.n (Value.bool false))) (arenaA a α)) := hA.newSl l1 (.inr ⟨b, [], 4, by simp, hb, by rw [List.append_nil]; exact Own.new hw⟩)
  refine CloneI_ok hH1 (hf.le l1) (by omega) fun M2 sW _ hW => ?_
  simp only [go_sem]
  have key : ∀ (w : List Int) (N' : List Nat), Tr K w N' → (∀ x ∈ w, In64 x) → ∃ k, ∀ (out : List Nat) (seen : List Value) (sS sO sW : SV) (M' : Mem) (β : AS), N = out ++ N' →
      Holds w0 F M' (star (SlA sO ((intsN out).map (Value.int .i64))) (star (SlA sW (w.map (Value.int .i64))) (star (SlA sS seen) (arenaA a β)))) → AS.Sq α β → seen.length = α.n → (∀ n ∈ N', seen[n]? = some (.bool false)) → w.length ≤ 70000 * (out.length + 1) →
      node_Below.L1 pts k (some ⟨a, 0, none⟩) kf sS sO sW M' := by
    intro w N' ht
    induction ht with
    | nil =>
      intro _
      refine ⟨1, fun out seen sS sO sW M' β hN hH hs hl hse hwl => ?_⟩
      rw [H.L1]
      unfold node_Below.L1.T
      have e0 := hH.right.cells.2
      simp only [List.map_nil, List.length_nil] at e0
      rw [bs_decide, if_neg (by omega)]
      rw [List.append_nil] at hN
      subst hN
      exact h M' sO β hH.rot.right.rot.right hs
    | @skip w N' ht ih =>
      intro hw
      obtain ⟨k, hk'⟩ := ih fun x hx => hw x (List.mem_append_left _ hx)
      refine ⟨k + 1, fun out seen sS sO sW M' β hN hH hs hl hse hwl => ?_⟩
      rw [H.L1]
      unfold node_Below.L1.T
      have hW1 := hH.right
      have hr : RdI w0 M' .i64 sW (w ++ [-1]) := by
        obtain ⟨F1, g1, g2, g3⟩ := hW1.sl
        exact g1.rdI (wf_all hw) (by have := hNlen; rw [hN] at this; simp only [List.length_append] at this; omega)
      have e0 := hr.len
      have hol : out.length ≤ 65536 := by have := hNlen; rw [hN, List.length_append] at this; omega
      simp only [List.length_append, List.length_cons, List.length_nil] at e0 hwl
      rw [bs_decide, if_pos (by omega)]
      refine rdx (x := -1) W.c3 hr (Mem.le_refl _) w.length (by rw [w64_in (by omega)]; omega) (by simp) ?_
      refine ⟨⟨by omega, by rw [w64_in (by omega)]; omega, by rw [w64_in (by omega)]; have := hr.cap; omega⟩, ?_⟩
      have hA2 := hH.right.right.right
      refine Live_ok hA2 ?_
      rw [AS.liveI_neg]
      simp only [shB_v, Bool.not_false, bs_true]
      refine hk' out seen sS sO _ M' β hN ?_ hs hl hse (by omega)
      refine hH.imp fun r ⟨r1, r2, e1, g1, r3, r4, e2, g2, g3⟩ => ⟨r1, r2, e1, g1, r3, r4, e2, ?_, g3⟩
      rw [List.map_append, List.map_cons, List.map_nil] at g2
      exact g2.pop (by rw [List.length_map]; omega)
    | @node w ks n N' hkn ht ih =>
      intro hw
      have hw0 : ∀ x ∈ w, In64 x := fun x hx => hw x (List.mem_append_left _ hx)
      obtain ⟨k, hk'⟩ := ih fun x hx => by
        rcases List.mem_append.1 hx with hx | hx
        · exact hw0 x hx
        · exact hwf n ks hkn x hx
      refine ⟨k + 1, fun out seen sS sO sW M' β hN hH hs hl hse hwl => ?_⟩
      rw [H.L1]
      unfold node_Below.L1.T
      have hW1 := hH.right
      have hol : out.length ≤ 65536 := by have := hNlen; rw [hN, List.length_append] at this; omega
      have hnN : n ∈ N := by rw [hN]; simp
      have hln := hlive n hnN
      have hnn := AS.live_lt hInv hln
      have hr : RdI w0 M' .i64 sW (w ++ [(n : Int)]) := by
        obtain ⟨F1, g1, g2, g3⟩ := hW1.sl
        exact g1.rdI (wf_all hw) (by omega)
      have e0 := hr.len
      simp only [List.length_append, List.length_cons, List.length_nil] at e0 hwl
      rw [bs_decide, if_pos (by omega)]
      refine rdx (x := (n : Int)) W.c3 hr (Mem.le_refl _) w.length (by rw [w64_in (by omega)]; omega) (by simp) ?_
      refine ⟨⟨by omega, by rw [w64_in (by omega)]; omega, by rw [w64_in (by omega)]; have := hr.cap; omega⟩, ?_⟩
      have hA2 := hH.right.right.right
      refine Live_ok hA2 ?_
      rw [AS.liveI_nat, hs.live, hln]
      simp only [shB_v, Bool.not_true, bs_false]
      obtain ⟨hcS, hnS⟩ := hH.right.right.cells
      refine rdB W.c4 hcS hnS n rfl (hse n List.mem_cons_self) ?_
      rw [bs_false, H.J2]
      unfold node_Below.J2.T
      -- it has been seen
      refine st1 W.c4 hH.rot3 n rfl (by rw [hl]; exact hnn) rfl rfl fun M3 hH3 => ?_
      have hH4 := hH3.unrot3
      refine push_ok (K := fun s27 M26 => (std PP w0).call _ _ _ M26) hH4 (by simp [intsN]; omega) fun M4 sO' hH5 => ?_
      obtain ⟨F', hB, hle, back⟩ := hH5.last4
      refine hk n ks hnN hkn F' M4 β _ hle hB hs fun M5 s5 β5 hB5 hs5 hr5 => ?_
      have hH6 := back M5 _ hB5
      rw [shS_sv]
      have hH7 : Holds w0 F M5 (star (SlA sO' ((intsN out ++ [(n : Int)]).map (Value.int .i64))) (star (SlA _ (w.map (Value.int .i64))) (star (SlA sS (seen.set n (.bool true))) (arenaA a β5)))) :=
        hH6.imp fun r ⟨r1, r2, e1, g1, r3, r4, e2, g2, g3⟩ => ⟨r1, r2, e1, g1, r3, r4, e2, by
          rw [List.map_append, List.map_cons, List.map_nil] at g2
          exact g2.pop (by rw [List.length_map]; omega), g3⟩
      refine appI hH7.rot hr5 (by have := hkl n ks hkn; omega) fun M6 s6 hH8 => ?_
      rw [shS_sv]
      refine hk' (out ++ [n]) (seen.set n (.bool true)) sS sO' s6 M6 β5 (by rw [hN]; simp) ?_ (hs.trans hs5) (by rw [List.length_set]; exact hl) (fun x hx => ?_) (by have := hkl n ks hkn; simp only [List.length_append, List.length_cons, List.length_nil]; omega)
      · have := hH8.rot
        rwa [show intsN out ++ [(n : Int)] = intsN (out ++ [n]) from by simp [intsN]] at this
      · have hne : x ≠ n := fun e => by
          rw [hN] at hnd
          have := (List.nodup_append.1 hnd).2.1
          exact (List.nodup_cons.1 this).1 (e ▸ hx)
        rw [List.getElem?_set, if_neg (fun e => hne e.symm)]
        exact hse x (List.mem_cons_of_mem _ hx)
  have hflw : ∀ x ∈ fl, In64 x := fun x hx => int_wf (hf.wf x hx)
  obtain ⟨k, hk'⟩ := key fl N hT hflw
  refine ⟨k, hk' [] (List.replicate α.n (Value.bool false)) _ _ sW M2 α rfl (Holds.nilSl hW) AS.Sq.refl (by simp) (fun n hn' => ?_) (by simpa using hfl)⟩
  have := AS.live_lt hInv (hlive n hn')
  rw [List.getElem?_replicate, if_pos this]

end
end Go.Proofs.YtbkicgfgpmekeaaGreat.HL

/-
  NdB: numbers that are sorted; the items of nodes, and nodes that are given back.
-/
set_option linter.unusedVariables false
set_option linter.unusedSimpArgs false
set_option maxRecDepth 100000
namespace Go.Proofs.YtbkicgfgpmekeaaGreat.HL
open Go.RowKit (Below)
open Go.Proofs

section
variable {w0 : World} {M F : Mem} {R : Value → Mem → Prop} {a : Nat} {α : AS}

theorem Rel.grow {w : World} (h : Rel w0 M w) (os : Array Obj) : Rel w0 M (Go.Sort.grow w os) := by
  obtain ⟨G, h1, h2, h3, h4⟩ := h
  have hold : ∀ x, x < w.heap.size → (w.heap ++ os)[x]? = w.heap[x]? := fun x hx => by rw [Array.getElem?_append_left hx]
  refine ⟨G, h1, fun b x hx => ?_, fun b o ho => ?_, ⟨h4.os, h4.tape, h4.output, ?_, fun k hk => ?_⟩⟩
  · have := h2 b x hx
    refine ⟨this.1, ?_⟩
    show x < (w.heap ++ os).size
    rw [Array.size_append]; omega
  · obtain ⟨g1, g2⟩ := h3 b o ho
    exact ⟨g1, Ob.frame (w := w) (w' := Go.Sort.grow w os) g1 (fun x hx => hold x (h2 b x hx).2) g2⟩
  · show w0.heap.size ≤ (w.heap ++ os).size
    have := h4.size
    rw [Array.size_append]; omega
  · show (w.heap ++ os)[k]? = _
    have := h4.size
    rw [hold k (by omega)]
    exact h4.block k hk

theorem put_cells {l z rest : List Value} (d : Array Int) (hd : d.size = l.length) (hz : z = d.toList.map (Value.int .i64)) : (Go.Sort.putCells (Value.int .i64) 0 d (l ++ rest).toArray).toList = z ++ rest := by
  subst hz
  apply List.ext_getElem?
  intro k
  unfold Go.Sort.putCells
  simp only [Array.getElem?_toList, Array.getElem?_mapIdx, List.getElem?_toArray, Nat.zero_le, true_and, Nat.zero_add, Nat.sub_zero]
  rw [List.getElem?_append, List.getElem?_append]
  simp only [List.length_map, Array.length_toList]
  by_cases hk : k < d.size
  · rw [if_pos (by omega), if_pos hk]
    rw [List.getElem?_eq_getElem (show k < l.length by omega)]
    simp only [Option.map_some, if_pos hk, List.getElem?_map, Array.getElem?_toList]
    rw [Array.getElem?_eq_getElem hk]
    simp [getElem!_pos d k hk]
  · rw [if_neg (by omega), if_neg hk, hd]
    cases rest[k - l.length]? with
    | none => rfl
    | some v => simp only [Option.map_some]; rw [if_neg (by omega)]

theorem Sort_ok {s : SV} {l : List Int} {Q : Asn} (hH : Holds w0 F M (star (SlA s (l.map (Value.int .i64))) Q)) (hb : l.length ≤ 1000000) (h : ∀ M' (z : List Int), Holds w0 F M' (star (SlA s (z.map (Value.int .i64))) Q) → z.Perm l → z.Pairwise (· ≤ ·) → R (.tuple #[]) M') : C PP w0 Id.slices_Sort_int_int #[SV.v s] R M := by
  obtain ⟨r, ⟨r1, r2, rfl, h1, h2⟩, h3⟩ := hH
  rcases h1 with ⟨rfl, hl, rfl⟩ | ⟨b, rest, e, rfl, rfl⟩
  · have : l = [] := by simpa using hl
    subst this
    refine .inl ⟨slices_Sort_int_int.can, fun w hw => (Tryz.slices_Sort_int_none none 0 w).mono fun e w' ⟨he, hw'⟩ => ?_⟩
    refine ⟨_, M, he, h M [] ⟨_, ⟨[], r2, rfl, SlA.nil, h2⟩, h3⟩ (List.Perm.refl _) List.Pairwise.nil, ?_⟩
    rw [hw']
    exact hw
  · have hown := h3.own List.mem_cons_self
    refine .inl ⟨slices_Sort_int_int.can, fun w hw => ?_⟩
    have hrow := hw.row hown.2
    have hlt : b < w.heap.size := by
      rcases Nat.lt_or_ge b w.heap.size with h' | h'
      · exact h'
      · rw [Array.getElem?_eq_none h'] at hrow; cases hrow
    have hcells : Go.Sort.Holds (Value.int .i64) w b 0 l.toArray := by
      intro j hj
      simp only [List.size_toArray] at hj
      refine ⟨?_, ?_⟩
      · simp only [World.cell?, hrow]
        simp [List.getElem?_append, hj]
      · simp only [World.frozen?, hrow]; simp
    have hc := Tryz.slices_Sort_int b 0 (l.length + rest.length) l w hcells hlt (by omega)
    simp only [List.length_map]
    refine hc.mono fun ex w' ⟨he, n, os, hw'⟩ => ?_
    have hz := List.mergeSort_perm l (fun x y => decide (x ≤ y))
    have hp := List.pairwise_mergeSort (le := fun (x y : Int) => decide (x ≤ y)) (fun a b c h1 h2 => by simp only [decide_eq_true_eq] at *; omega) (fun a b => by simp only [Bool.or_eq_true, decide_eq_true_eq]; omega) l
    generalize l.mergeSort (fun x y => decide (x ≤ y)) = z at hw' hz hp
    have hzl : z.length = l.length := hz.length_eq
    have hlen : (l.map (Value.int .i64)).length = (z.map (Value.int .i64)).length := by rw [List.length_map, List.length_map, hzl]
    refine ⟨_, M.set b (.row (z.map (Value.int .i64) ++ rest) e), he, h _ z ⟨_, ⟨_, r2, rfl, .inr ⟨b, rest, e, by simp [hzl], rfl⟩, h2⟩, ?_⟩ hz (hp.imp fun h => by simpa using h), ?_⟩
    · exact h3.upd
    · rw [hw']
      refine Rel.grow ?_ os
      have hd := hw.drew (w.drawn + n)
      have hrow2 := hd.row hown.2
      refine hd.put hown.2 ?_ rfl rfl rfl (fun x hx => ?_) (fun _ _ => ?_)
      · show (Array.modify _ _ _).size = _
        simp
      · show (Array.modify _ _ _)[x]? = _
        rw [Array.getElem?_modify, if_neg (fun e => hx e.symm)]; rfl
      · show (Array.modify _ _ _)[b]? = _
        rw [Array.getElem?_modify, if_pos rfl]
        rw [show (Go.Sort.ahead w n).heap[b]? = _ from hrow]
        simp only [Option.map_some, Go.Sort.onCells]
        rw [← put_cells (l := l.map (Value.int .i64)) (z := z.map (Value.int .i64)) z.toArray (by simp [hzl]) (by simp)]

end
end Go.Proofs.YtbkicgfgpmekeaaGreat.HL

/-
  NdC: the items of nodes, in order; nodes that are given back.
-/
set_option linter.unusedVariables false
set_option linter.unusedSimpArgs false
set_option maxRecDepth 100000
namespace Go.Proofs.YtbkicgfgpmekeaaGreat.HL
open Go.RowKit (Below)
open Go.Proofs

namespace AS
/-- All these nodes are given back. -/
def endAll : AS → List (Nat × Held) → AS
  | α, [] => α
  | α, (n, x) :: r => endAll ((α.put x.1 9 (-1)).unlive n) r
theorem Sm.endAll {k : Int} : ∀ (P : List (Nat × Held)) {α β : AS}, Sm k α β → Sm k (α.endAll P) (β.endAll P)
  | [], _, _, h => h
  | (n, x) :: r, _, _, h => Sm.endAll r ((h.put x.1 9 (-1)).unlive n)
theorem Sq.endAll {α β : AS} (h : Sq α β) (P : List (Nat × Held)) : Sq (α.endAll P) (β.endAll P) := by
  obtain ⟨k, h⟩ := h
  exact ⟨k, h.endAll P⟩
theorem endAll_n : ∀ (P : List (Nat × Held)) (α : AS), (α.endAll P).n = α.n
  | [], _ => rfl
  | (n, x) :: r, α => endAll_n r _
theorem endAll_get : ∀ (P : List (Nat × Held)) (α : AS) (c f : Nat), (α.endAll P).get c f = if f = 9 ∧ c ∈ P.map (fun p => p.2.1) then -1 else α.get c f
  | [], α, c, f => by simp [endAll]
  | (n, x) :: r, α, c, f => by
    show (endAll _ r).get c f = _
    rw [endAll_get r]
    show (if f = 9 ∧ c ∈ r.map (fun p => p.2.1) then (-1 : Int) else if c = x.1 ∧ f = 9 then -1 else α.get c f) = _
    simp only [List.map_cons, List.mem_cons]
    by_cases h1 : f = 9 ∧ c ∈ r.map (fun p => p.2.1)
    · rw [if_pos h1, if_pos ⟨h1.1, .inr h1.2⟩]
    · rw [if_neg h1]
      by_cases h2 : c = x.1 ∧ f = 9
      · rw [if_pos h2, if_pos ⟨h2.2, .inl h2.1⟩]
      · rw [if_neg h2, if_neg]
        rintro ⟨h3, h4 | h4⟩
        · exact h2 ⟨h4, h3⟩
        · exact h1 ⟨h3, h4⟩
theorem endAll_live : ∀ (P : List (Nat × Held)) (α : AS) (c : Nat), (α.endAll P).live c = if c ∈ P.map (·.1) then false else α.live c
  | [], α, c => by simp [endAll]
  | (n, x) :: r, α, c => by
    show (endAll _ r).live c = _
    rw [endAll_live r]
    show (if c ∈ r.map (·.1) then false else if c = n then false else α.live c) = _
    simp only [List.map_cons, List.mem_cons]
    by_cases h1 : c ∈ r.map (·.1)
    · rw [if_pos h1, if_pos (.inr h1)]
    · rw [if_neg h1]
      by_cases h2 : c = n
      · rw [if_pos h2, if_pos (.inl h2)]
      · rw [if_neg h2, if_neg]
        rintro (h | h)
        · exact h2 h
        · exact h1 h
theorem endAll_len : ∀ (P : List (Nat × Held)) {α : AS}, α.Inv → (∀ p ∈ P, α.live p.1 = true) → (P.map (·.1)).Nodup → (α.endAll P).len + P.length = α.len
  | [], _, _, _, _ => rfl
  | (n, x) :: r, α, hi, hl, hn => by
    show (endAll _ r).len + (r.length + 1) = _
    have hln := hl (n, x) List.mem_cons_self
    simp only [List.map_cons, List.nodup_cons] at hn
    have h1 := put_inv hi x.1 9 (-1)
    have h2 : (α.put x.1 9 (-1)).live n = true := hln
    have := endAll_len r (unlive_inv h1 h2) (fun p hp => by
      show (if p.1 = n then false else α.live p.1) = true
      rw [if_neg (fun e => hn.1 (by rw [← e]; exact List.mem_map_of_mem (f := (·.1)) hp))]
      exact hl p (List.mem_cons_of_mem _ hp)) hn.2
    have h3 := unlive_len h1 h2
    have h4 : (α.put x.1 9 (-1)).len = α.len := rfl
    omega
end AS

section
variable {w0 : World} {M F : Mem} {R : Value → Mem → Prop} {a : Nat} {α : AS}

theorem Items_ok (hA : Holds w0 F M (arenaA a α)) {s : SV} {N I : List Nat} (hs : RdI w0 F .i64 s (intsN N)) (hl : I.length = N.length) (hb : N.length ≤ 65536) (hI : ∀ (j n : Nat), N[j]? = some n → ∃ i : Nat, I[j]? = some i ∧ α.live n = true ∧ α.get n 6 = (i : Int) ∧ i < α.n)
    (h : ∀ M' s' (z : List Int) β, Holds w0 F M' (star (SlA s' (z.map (Value.int .i64))) (arenaA a β)) → z.Perm (intsN I) → z.Pairwise (· ≤ ·) → AS.Sq α β → R s'.v M') : C PP w0 Id.node_Items #[.pointer (some ⟨a, 0, none⟩), SV.v s] R M := by
  apply node_Items.go
  intro pts H
  unfold node_Items.T
  have hsl : s.n = N.length := by rw [hs.len]; simp [intsN]
  have key : ∀ (k j : Nat) (sO : SV) (M' : Mem) (β : AS), j ≤ N.length → N.length < j + k → Holds w0 F M' (star (SlA sO ((intsN (I.take j)).map (Value.int .i64))) (arenaA a β)) → AS.Sq α β → node_Items.L1 pts k (some ⟨a, 0, none⟩) sO s ((s.n : Nat) : Int) (j : Int) M' := by
    intro k
    induction k with
    | zero => intro j sO M' β h1 h2; omega
    | succ k ih =>
      intro j sO M' β h1 h2 hH hq
      rw [H.L1]
      unfold node_Items.L1.T
      rw [bs_decide]
      split
      · have hj : j < N.length := by omega
        have e1 := List.getElem?_eq_getElem hj
        generalize N[j] = n at e1
        obtain ⟨i, hIi, hln, hit, hin⟩ := hI j n e1
        refine rdx (x := (n : Int)) W.c3 hs hH.fr j rfl (by simp [intsN, e1]) ?_
        obtain ⟨F', hB, hle, back⟩ := hH.last
        refine Cell_ok hB fun M2 hB2 => ?_
        rw [show β.cellI (n : Int) 6 = (i : Int) from AS.cellI_live (f := 6) (by rw [hq.live]; exact hln) (by omega) (by rw [hq.get]; exact hit) (by rw [hq.n]; exact hin)]
        rw [shI_v, bs_bne, if_neg (by omega)]
        have hH2 := back M2 _ hB2
        refine push_ok (K := fun s13 M12 => node_Items.L1 pts k (some ⟨a, 0, none⟩) s13 s ((s.n : Nat) : Int) (w64 ((j : Int) + 1)) M12) hH2 (by simp [intsN]; omega) fun M3 sO' hH3 => ?_
        rw [w64_in (by omega)]
        have e2 : intsN (I.take j) ++ [(i : Int)] = intsN (I.take (j + 1)) := by
          rw [List.take_add_one, hIi]
          simp [intsN]
        rw [e2] at hH3
        exact ih (j + 1) sO' M3 β.tick (by omega) (by omega) hH3 (hq.trans AS.tick_sm.sq)
      · have : j = N.length := by omega
        subst this
        rw [← hl, List.take_length] at hH
        refine Sort_ok hH (by simp [intsN]; omega) fun M2 z hH2 hz hp => ?_
        exact h M2 sO z β hH2 hz hp hq
  exact ⟨N.length + 1, key (N.length + 1) 0 ⟨none, 0, 0⟩ M α (by omega) (by omega) (Holds.nilSl hA) AS.Sq.refl⟩

end
end Go.Proofs.YtbkicgfgpmekeaaGreat.HL

/-
  EfM: what a call on a heap leaves as it was, cells taken and given back; in plain Lean.
-/
set_option linter.unusedVariables false
set_option linter.unusedSimpArgs false
namespace Go.Proofs.YtbkicgfgpmekeaaGreat.HL
namespace AS
/-- What is not in S is as it was; what is not in L is taken as it was; d cells more are taken; so many steps more. -/
structure Eff (S L : Nat → Prop) (d k : Int) (α β : AS) : Prop where
  n : β.n = α.n
  get : ∀ c, ¬ S c → ∀ f, β.get c f = α.get c f
  live : ∀ c, ¬ L c → β.live c = α.live c
  len : (β.len : Int) = (α.len : Int) + d
  steps : 0 ≤ α.steps ∧ α.steps ≤ 9223372036854775807 → β.steps ≤ 9223372036854775807 ∧ α.steps ≤ β.steps ∧ β.steps ≤ α.steps + k
theorem Chg.eff {S L : Nat → Prop} {k : Int} {α β : AS} (h : Chg S k α β) : Eff S L 0 k α β :=
  ⟨h.n, h.get, fun c _ => by rw [h.live], by rw [len_congr h.never h.live]; omega, h.steps⟩
theorem Sm.eff {S L : Nat → Prop} {k : Int} {α β : AS} (h : Sm k α β) : Eff S L 0 k α β := Chg.eff h.chg
theorem Eff.trans {S L : Nat → Prop} {d k d' k' : Int} {α β γ : AS} (h : Eff S L d k α β) (h2 : Eff S L d' k' β γ) : Eff S L (d + d') (k + k') α γ :=
  ⟨h2.n.trans h.n, fun c hc f => (h2.get c hc f).trans (h.get c hc f), fun c hc => (h2.live c hc).trans (h.live c hc), by have := h.len; have := h2.len; omega, fun h0 => by have h1 := h.steps h0; have h3 := h2.steps ⟨by omega, h1.1⟩; omega⟩
theorem Eff.mono {S L S' L' : Nat → Prop} {d k k' : Int} {α β : AS} (h : Eff S L d k α β) (hS : ∀ c, S c → S' c) (hL : ∀ c, L c → L' c) (hk : k ≤ k') : Eff S' L' d k' α β :=
  ⟨h.n, fun c hc f => h.get c (fun hs => hc (hS c hs)) f, fun c hc => h.live c (fun hs => hc (hL c hs)), h.len, fun h0 => by have := h.steps h0; omega⟩
theorem Eff.to {S L : Nat → Prop} {d d' k : Int} {α β : AS} (h : Eff S L d k α β) (e : d = d') : Eff S L d' k α β := e ▸ h
theorem take_eff {S L : Nat → Prop} {α : AS} (hi : α.Inv) {n : Nat} (h : α.next = some n) (hS : S n) (hL : L n) : Eff S L 1 0 α α.take := by
  have h1 := (next_some hi h).2.2
  have h2 := (take_some hi h).1
  refine ⟨by rw [h1]; rfl, fun c hc f => ?_, fun c hc => ?_, by omega, fun h0 => ?_⟩
  · rw [h1]
    show (if c = n then fresh f else α.get c f) = _
    rw [if_neg (fun e : c = n => hc (by rw [e]; exact hS))]
  · rw [h1]
    show (if c = n then true else α.live c) = _
    rw [if_neg (fun e : c = n => hc (by rw [e]; exact hL))]
  · rw [h1]
    exact ⟨h0.2, Int.le_refl _, by show α.steps ≤ _; omega⟩
theorem take_fresh {α : AS} (hi : α.Inv) {n : Nat} (h : α.next = some n) : (∀ f, α.take.get n f = fresh f) ∧ α.take.live n = true := by
  have h1 := (next_some hi h).2.2
  refine ⟨fun f => ?_, ?_⟩
  · rw [h1]
    show (if n = n then fresh f else α.get n f) = _
    rw [if_pos rfl]
  · rw [h1]
    show (if n = n then true else α.live n) = _
    rw [if_pos rfl]
theorem unlive_eff {S L : Nat → Prop} {α : AS} (hi : α.Inv) {n : Nat} (h : α.live n = true) (hL : L n) : Eff S L (-1) 0 α (α.unlive n) :=
  ⟨rfl, fun _ _ _ => rfl, fun c hc => by
    show (if c = n then false else α.live c) = _
    rw [if_neg (fun e : c = n => hc (by rw [e]; exact hL))], by have := unlive_len hi h; omega, fun h0 => ⟨h0.2, Int.le_refl _, by show α.steps ≤ _; omega⟩⟩
theorem put_eff {S L : Nat → Prop} {α : AS} {c f : Nat} {v : Int} (h : S c) : Eff S L 0 0 α (α.put c f v) := (put_chg h).eff
theorem Eff.put {S L : Nat → Prop} {d k : Int} {α β : AS} (h : Eff S L d k α β) {c f : Nat} {v : Int} (hc : S c) : Eff S L d k α (β.put c f v) :=
  ((h.trans (put_eff (L := L) (f := f) (v := v) hc)).mono (fun _ h => h) (fun _ h => h) (by omega)).to (by omega)
theorem Eff.tick {S L : Nat → Prop} {d k : Int} {α β : AS} (h : Eff S L d k α β) : Eff S L d (k + 1) α β.tick := (h.trans tick_sm.eff).to (by omega)
end AS
end Go.Proofs.YtbkicgfgpmekeaaGreat.HL

/-
  NdD: what is laid into a box; a pile of nodes.
-/
set_option linter.unusedVariables false
set_option linter.unusedSimpArgs false
set_option maxRecDepth 100000
namespace Go.Proofs.YtbkicgfgpmekeaaGreat.HL
open Go.RowKit (Below)
open Go.Proofs

section
variable {w0 : World} {M F : Mem} {R : Value → Mem → Prop} {a : Nat} {α : AS}

/-- What is new, and written no more, is known from then on. -/
theorem Holds.box {P : Asn} (h : Holds w0 F M P) {b : Nat} (hb : M b = none) (hw : w0.heap.size ≤ b) (cs : List Value) (e : TypeId) : ∃ F', Mem.le F F' ∧ Own w0 F' b cs e ∧ Holds w0 F' (M.set b (.row cs e)) P ∧ (∀ M' P', Holds w0 F' M' P' → Holds w0 F M' P') := by
  obtain ⟨r, h1, h2⟩ := h
  have hF : F b = none := le_none h2.fr hb
  refine ⟨F.set b (.row cs e), Mem.le_set _ hF, Own.new hw, ⟨r, h1, ⟨h2.nd, fun x hx => ?_, Mem.set_le_set h2.fr b _⟩⟩, fun M' P' ⟨r', h3, h4⟩ => ⟨r', h3, ⟨h4.nd, fun x hx => ?_, Mem.le_trans (Mem.le_set _ hF) h4.fr⟩⟩⟩
  · obtain ⟨g1, g2, g3⟩ := h2.at_ x hx
    have hne : x.1 ≠ b := fun e => by rw [e, hb] at g3; cases g3
    exact ⟨g1, by rw [Mem.set_ne _ _ hne]; exact g2, by rw [Mem.set_ne _ _ hne]; exact g3⟩
  · obtain ⟨g1, g2, g3⟩ := h4.at_ x hx
    refine ⟨g1, ?_, g3⟩
    by_cases hne : x.1 = b
    · rw [hne]; exact hF
    · rwa [Mem.set_ne _ _ hne] at g2

theorem perm_lift {β γ : Type} (f : β → γ) {l1 l2 : List γ} (h : l1.Perm l2) : ∀ l : List β, l.map f = l1 → ∃ P : List β, P.Perm l ∧ P.map f = l2 := by
  induction h with
  | nil => intro l hl; exact ⟨l, List.Perm.refl _, hl⟩
  | cons x h ih =>
    intro l hl
    cases l with
    | nil => cases hl
    | cons b l =>
      simp only [List.map_cons, List.cons.injEq] at hl
      obtain ⟨P, h1, h2⟩ := ih l hl.2
      exact ⟨b :: P, h1.cons b, by simp [h2, hl.1]⟩
  | swap x y h =>
    intro l hl
    match l, hl with
    | b :: c :: l, hl =>
      simp only [List.map_cons, List.cons.injEq] at hl
      exact ⟨c :: b :: l, List.Perm.swap _ _ _, by simp [hl]⟩
  | trans h1 h2 ih1 ih2 =>
    intro l hl
    obtain ⟨P, g1, g2⟩ := ih1 l hl
    obtain ⟨Q, g3, g4⟩ := ih2 P g2
    exact ⟨Q, g3.trans g1, g4⟩

theorem eff_endAll {S L : Nat → Prop} {P : List (Nat × Held)} (hi : α.Inv) (hl : ∀ p ∈ P, α.live p.1 = true) (hn : (P.map (·.1)).Nodup) (hS : ∀ p ∈ P, S p.2.1) (hL : ∀ p ∈ P, L p.1) {β : AS} (hq : AS.Sq (α.endAll P) β) (h0 : 0 ≤ α.steps ∧ α.steps ≤ 9223372036854775807) :
    ∃ k, AS.Eff S L (-(P.length : Int)) k α β := by
  obtain ⟨k, hk⟩ := hq
  have hlen := AS.endAll_len P hi hl hn
  have hst : ∀ (P : List (Nat × Held)) (α : AS), (α.endAll P).steps = α.steps := by
    intro P
    induction P with
    | nil => intro α; rfl
    | cons p P ih => intro α; obtain ⟨n, x⟩ := p; exact ih _
  refine ⟨k, ⟨hk.n.trans (AS.endAll_n P α), fun c hc f => ?_, fun c hc => ?_, ?_, fun _ => ?_⟩⟩
  · rw [hk.get, AS.endAll_get, if_neg]
    rintro ⟨_, hm⟩
    obtain ⟨p, hp, rfl⟩ := List.mem_map.1 hm
    exact hc (hS p hp)
  · rw [hk.live, AS.endAll_live, if_neg]
    intro hm
    obtain ⟨p, hp, rfl⟩ := List.mem_map.1 hm
    exact hc (hL p hp)
  · rw [AS.len_congr hk.never hk.live]; omega
  · have := hk.steps (by rw [hst]; exact h0)
    rwa [hst] at this

end
end Go.Proofs.YtbkicgfgpmekeaaGreat.HL

/-
  BlM: binary digits and limits, in plain Lean.
-/
set_option linter.unusedVariables false
set_option linter.unusedSimpArgs false
namespace Go.Proofs.YtbkicgfgpmekeaaGreat.HL

/-- How many binary digits. -/
def bl (n : Nat) : Nat := if n = 0 then 0 else Nat.log2 n + 1
theorem bl_pos {n : Nat} (h : 0 < n) : 2 ^ (bl n - 1) ≤ n ∧ n < 2 ^ bl n := by
  unfold bl
  rw [if_neg (by omega), Nat.add_sub_cancel]
  exact ⟨Nat.log2_self_le (by omega), Nat.lt_log2_self⟩
theorem bl_eq {n k : Nat} (h1 : 2 ^ k ≤ n) (h2 : n < 2 ^ (k + 1)) : bl n = k + 1 := by
  have hp : 0 < 2 ^ k := Nat.pow_pos (by decide)
  have hn : 0 < n := by omega
  obtain ⟨h3, h4⟩ := bl_pos hn
  have hb : 0 < bl n := by unfold bl; rw [if_neg (by omega)]; omega
  have h5 : bl n - 1 < k + 1 := (Nat.pow_lt_pow_iff_right (by decide)).1 (Nat.lt_of_le_of_lt h3 h2)
  have h6 : k < bl n := (Nat.pow_lt_pow_iff_right (a := 2) (by decide)).1 (Nat.lt_of_le_of_lt h1 h4)
  omega
theorem bl_div {x k : Nat} (h : 2 ^ k ≤ x) : bl x = bl (x / 2 ^ k) + k := by
  have hp : 0 < 2 ^ k := Nat.pow_pos (by decide)
  have hy : 0 < x / 2 ^ k := Nat.div_pos h hp
  obtain ⟨h1, h2⟩ := bl_pos hy
  have hb : 0 < bl (x / 2 ^ k) := by unfold bl; rw [if_neg (by omega)]; omega
  generalize hj : bl (x / 2 ^ k) = j at h1 h2 hb
  obtain ⟨j, rfl⟩ : ∃ i, j = i + 1 := ⟨j - 1, by omega⟩
  rw [Nat.add_sub_cancel] at h1
  have e : j + 1 + k = j + k + 1 := by omega
  rw [e]
  refine bl_eq ?_ ?_
  · rw [Nat.pow_add]; exact (Nat.le_div_iff_mul_le hp).1 h1
  · rw [← e, Nat.pow_add]; exact (Nat.div_lt_iff_lt_mul hp).1 h2
theorem bl_mono {m n : Nat} (h : m ≤ n) : bl m ≤ bl n := by
  by_cases h0 : m = 0
  · subst h0; simp [bl]
  · obtain ⟨h1, h2⟩ := bl_pos (show 0 < m by omega)
    obtain ⟨h3, h4⟩ := bl_pos (show 0 < n by omega)
    have := (Nat.pow_lt_pow_iff_right (a := 2) (by decide)).1 (Nat.lt_of_le_of_lt h1 (Nat.lt_of_le_of_lt h h4))
    omega
theorem bl_le {n k : Nat} (h : n < 2 ^ k) : bl n ≤ k := by
  by_cases h0 : n = 0
  · subst h0; simp [bl]
  · obtain ⟨h1, h2⟩ := bl_pos (show 0 < n by omega)
    have := (Nat.pow_lt_pow_iff_right (a := 2) (by decide)).1 (Nat.lt_of_le_of_lt h1 h)
    omega

/-- A sum of one and so many others. -/
def limI (a b : Int) : Nat → Int
  | 0 => a
  | k + 1 => limI (addc a b) b k
theorem limI_in {a b : Int} (ha : In64 a) : ∀ k, In64 (limI a b k)
  | 0 => ha
  | k + 1 => limI_in addc_in k
theorem limI_small {b : Int} (hb : 0 ≤ b) : ∀ (k : Nat) (a : Int), 0 ≤ a → a + b * k ≤ 9223372036854775807 → limI a b k = a + b * k
  | 0, a, _, _ => by simp [limI]
  | k + 1, a, ha, h => by
    have h1 : b * ((k + 1 : Nat) : Int) = b * k + b := by rw [Int.natCast_add, Int.mul_add]; simp
    have h2 : 0 ≤ b * (k : Int) := Int.mul_nonneg hb (by omega)
    have e : addc a b = a + b := by unfold addc; rw [if_neg (by omega), if_neg (by omega)]
    rw [limI, e, limI_small hb k (a + b) (by omega) (by omega)]
    omega


theorem bl_half {n : Nat} (h : 0 < n) : bl n = bl (n / 2) + 1 := by
  by_cases h1 : n = 1
  · subst h1; rfl
  · have := bl_div (x := n) (k := 1) (by omega)
    simpa using this
theorem bl_pow {k n : Nat} (h : 2 ^ k ≤ n) : k + 1 ≤ bl n := by
  obtain ⟨h1, h2⟩ := bl_pos (show 0 < n from Nat.lt_of_lt_of_le (Nat.pow_pos (by decide)) h)
  have := (Nat.pow_lt_pow_iff_right (a := 2) (by decide)).1 (Nat.lt_of_le_of_lt h h2)
  omega
/-- What a call may take. -/
def limH (n : Nat) : Int := 500 + 400 * (bl n : Int)
theorem limH_mono {m n : Nat} (h : m ≤ n) : limH m ≤ limH n := by
  have := bl_mono h
  unfold limH; omega
theorem limH_bound {n : Nat} (h : n ≤ 1000000) : 500 ≤ limH n ∧ limH n ≤ 8500 := by
  have : bl n ≤ 20 := bl_le (by omega)
  unfold limH; omega

end Go.Proofs.YtbkicgfgpmekeaaGreat.HL

/-
  LmA: the document's sums, digits, limits; entries before one another.
-/
set_option linter.unusedVariables false
set_option linter.unusedSimpArgs false
set_option maxRecDepth 100000
namespace Go.Proofs.YtbkicgfgpmekeaaGreat.HL
open Go.RowKit (Below)
open Go.Proofs

section
variable {w0 : World} {M F : Mem} {R : Value → Mem → Prop}

theorem rAdd_ok {a b : Int} (ha : In64 a) (hb : In64 b) (h : R (.int .i64 (addc a b)) M) : C PP w0 Id.thicketref1_Add #[.int .i64 a, .int .i64 b] R M := by
  apply thicketref1_Add.go
  intro pts H
  unfold thicketref1_Add.T
  unfold In64 at ha hb
  unfold addc at h
  have hj : (a < 0 ∨ ¬ (9223372036854775807 < a + b)) → thicketref1_Add.J1 pts a b M := by
    intro hc
    rw [H.J1]
    unfold thicketref1_Add.J1.T
    rw [bs_decide]
    split
    · rw [w64_in (n := (-9223372036854775808) - a) (by omega), bs_decide]
      split
      · rw [if_neg (by omega), if_pos (by omega)] at h; exact h
      · rw [if_neg (by omega), if_neg (by omega)] at h
        rw [w64_in (by omega)]; exact h
    · rw [if_neg (by omega), if_neg (by omega)] at h
      rw [w64_in (by omega)]; exact h
  rw [bs_decide]
  split
  · rw [w64_in (by omega), bs_decide]
    split
    · rw [if_pos (by omega)] at h; exact h
    · exact hj (.inr (by omega))
  · by_cases h0 : a < 0
    · exact hj (.inl h0)
    · exact hj (.inr (by omega))
theorem rBits_ok {n : Int} (hn : In64 n) (h : R (.int .i64 (bl n.toNat : Int)) M) : C PP w0 Id.thicketref1_Bits #[.int .i64 n] R M := by
  apply thicketref1_Bits.go
  intro pts H
  unfold thicketref1_Bits.T
  have key : ∀ (k : Nat) (m j : Nat), bl m < k → (m : Int) ≤ 9223372036854775807 → bl m + j = bl n.toNat → thicketref1_Bits.L1 pts k (m : Int) (j : Int) M := by
    intro k
    induction k with
    | zero => intro m j h1; omega
    | succ k ih =>
      intro m j h1 h2 h3
      rw [H.L1]
      unfold thicketref1_Bits.L1.T
      have h64 : bl n.toNat ≤ 64 := bl_le (by unfold In64 at hn; omega)
      rw [bs_decide]
      split
      · rename_i hp
        have hb := bl_half (n := m) (by omega)
        refine ⟨rfl, by omega, ?_⟩
        rw [show Int.tdiv (m : Int) 2 = ((m / 2 : Nat) : Int) from rfl, w64_in (n := ((m / 2 : Nat) : Int)) (by omega), w64_in (by omega)]
        exact ih (m / 2) (j + 1) (by omega) (by omega) (by omega)
      · have : m = 0 := by omega
        subst this
        rw [show bl 0 = 0 from rfl] at h3
        rw [show j = bl n.toNat from by omega]; exact h
  by_cases h0 : 0 ≤ n
  · refine ⟨bl n.toNat + 1, ?_⟩
    have := key (bl n.toNat + 1) n.toNat 0 (by omega) (by unfold In64 at hn; omega) (by omega)
    rwa [show ((n.toNat : Nat) : Int) = n from by omega] at this
  · refine ⟨1, ?_⟩
    rw [H.L1]
    unfold thicketref1_Bits.L1.T
    rw [bs_decide, if_neg (by omega)]
    rw [show n.toNat = 0 from by omega] at h
    exact h
theorem rLimit_ok {a b n : Int} (ha : In64 a) (hb : In64 b) (hn : In64 n) (h : R (.int .i64 (limI a b (bl n.toNat))) M) : C PP w0 Id.thicketref1_Limit #[.int .i64 a, .int .i64 b, .int .i64 n] R M := by
  apply thicketref1_Limit.go
  intro pts H
  unfold thicketref1_Limit.T
  refine rBits_ok hn ?_
  rw [shI_v]
  have h64 : bl n.toNat ≤ 64 := bl_le (by unfold In64 at hn; omega)
  generalize bl n.toNat = m at h h64
  have key : ∀ (k : Nat) (x : Int), In64 x → k ≤ 64 → (R (.int .i64 (limI x b k)) M) → thicketref1_Limit.L1 pts (k + 1) b x (k : Int) M := by
    intro k
    induction k with
    | zero =>
      intro x hx _ hR
      rw [H.L1]
      unfold thicketref1_Limit.L1.T
      rw [bs_decide, if_neg (by omega)]; exact hR
    | succ k ih =>
      intro x hx hk hR
      rw [H.L1]
      unfold thicketref1_Limit.L1.T
      rw [bs_decide, if_pos (by omega)]
      refine rAdd_ok hx hb ?_
      rw [shI_v, w64_in (by omega), show ((k + 1 : Nat) : Int) - 1 = (k : Int) from by omega]
      exact ih (addc x b) addc_in (by omega) hR
  exact ⟨m + 1, key m a ha h64 h⟩
theorem rLim_ok {n : Nat} (hn : n ≤ 1000000) (h : R (.int .i64 (limH n)) M) : C PP w0 Id.thicketref1_Limit #[.int .i64 500, .int .i64 400, .int .i64 (n : Int)] R M := by
  refine rLimit_ok (by unfold In64; omega) (by unfold In64; omega) (by unfold In64; omega) ?_
  have : bl n ≤ 20 := bl_le (by omega)
  rw [Int.toNat_natCast, limI_small (by omega) _ _ (by omega) (by omega)]; exact h

theorem two_box {a0 a1 b0 b1 : Int} {K : Nat → Nat → Mem → Prop} (h : ∀ x1 x2 M', Mem.le M M' → (std PP w0).ld 55 ⟨x1, 0, none⟩ M' = some (.agg #[.int .i64 a0, .int .i64 a1]) → (std PP w0).ld 55 ⟨x2, 0, none⟩ M' = some (.agg #[.int .i64 b0, .int .i64 b1]) →
    rd w0 M' ⟨x1, 0, none⟩ = some (.int .i64 a0) → rd w0 M' ⟨x1, 1, none⟩ = some (.int .i64 a1) → rd w0 M' ⟨x2, 0, none⟩ = some (.int .i64 b0) → rd w0 M' ⟨x2, 1, none⟩ = some (.int .i64 b1) → Own w0 M' x1 [.int .i64 a0, .int .i64 a1] 55 → Own w0 M' x2 [.int .i64 b0, .int .i64 b1] 55 → K x1 x2 M') :
    (std PP w0).nw [.int .i64 a0, .int .i64 a1] 55 (fun b1' M2 => (std PP w0).nw [.int .i64 b0, .int .i64 b1] 55 (fun b3 M4 => K b1' b3 M4) M2) M := by
  intro x1 hx1 hw1
  intro x2 hx2 hw2
  have f1 := ((Fit.nil (w0 := w0) (Mem.le_refl M)).new hx1 hw1 (cs := [.int .i64 a0, .int .i64 a1]) (e := 55)).new hx2 hw2 (cs := [.int .i64 b0, .int .i64 b1]) (e := 55)
  have o2 := f1.own List.mem_cons_self
  have o1 := f1.own (List.mem_cons_of_mem _ List.mem_cons_self)
  refine h x1 x2 _ f1.fr ?_ ?_ (rd_own (o := 0) o1) (rd_own (o := 1) o1) (rd_own (o := 0) o2) (rd_own (o := 1) o2) o1 o2
  · exact ld_agg (cs := [.int .i64 a0, .int .i64 a1]) W.g55 (fun j v hj => by rw [add_eq, rd_own o1, Nat.zero_add]; exact hj)
  · exact ld_agg (cs := [.int .i64 b0, .int .i64 b1]) W.g55 (fun j v hj => by rw [add_eq, rd_own o2, Nat.zero_add]; exact hj)
theorem rBefore_ok {a b : Ent} (h : ∀ M', Mem.le M M' → R (.bool (decide (Lt a b))) M') : C PP w0 Id.thicketref1_Before #[.agg #[.int .i64 a.1, .int .i64 a.2], .agg #[.int .i64 b.1, .int .i64 b.2]] R M := by
  apply thicketref1_Before.go
  unfold thicketref1_Before.T
  refine two_box fun x1 x2 M1 l1 e1 e2 r1 r2 r3 r4 o1 o2 => ?_
  have hh := h M1 l1
  have g : ∀ b1 : Bool, b1 = decide (Lt a b) → R (.bool b1) M1 := fun b1 e => by rw [e]; exact hh
  simp only [go_sem, add_eq, Nat.zero_add, r1, r2, r3, r4, bs_decide]
  split
  · rename_i h1
    exact g true (decide_eq_true (Or.inl h1)).symm
  · rename_i h1
    rw [bs_beq]
    split
    · rename_i h2
      refine g _ ?_
      by_cases h3 : a.2 < b.2
      · rw [decide_eq_true h3]; exact (decide_eq_true (show Lt a b from Or.inr ⟨h2, h3⟩)).symm
      · rw [decide_eq_false h3]; exact (decide_eq_false (show ¬ Lt a b from fun h4 => by unfold Lt at h4; omega)).symm
    · rename_i h2
      exact g false (decide_eq_false (by unfold Lt; omega)).symm
theorem eq_ent (a b : Ent) : (a.1 == b.1 && a.2 == b.2) = decide (a = b) := by
  by_cases h : a = b
  · subst h; simp
  · rw [decide_eq_false h]
    by_cases h1 : a.1 = b.1
    · have : a.2 ≠ b.2 := fun h2 => h (Prod.ext h1 h2)
      simp [h1, this]
    · simp [h1]
end
end Go.Proofs.YtbkicgfgpmekeaaGreat.HL

/-
  NdG: nodes that are given up: their items come out.
-/
set_option linter.unusedVariables false
set_option linter.unusedSimpArgs false
set_option maxRecDepth 100000
namespace Go.Proofs.YtbkicgfgpmekeaaGreat.HL
open Go.RowKit (Below)
open Go.Proofs

section
variable {w0 : World} {M F : Mem} {R : Value → Mem → Prop} {a : Nat} {α : AS}

theorem Drop_ok (hA : Holds w0 F M (arenaA a α)) {s : SV} {P : List (Nat × Held)} (hs : RdI w0 F .i64 s (intsN (P.map (·.1)))) (hb : P.length ≤ 65536) (hP : ∀ p ∈ P, α.Nd p.1 p.2.1 p.2.2) (hnd : (P.map (·.1) ++ P.map (fun p => p.2.1)).Nodup)
    (h : ∀ M' s' (z : List Int) β, Holds w0 F M' (star (SlA s' (z.map (Value.int .i64))) (arenaA a β)) → z.Perm (intsN (P.map fun p => p.2.1)) → z.Pairwise (· ≤ ·) → AS.Sq (α.endAll P) β → R s'.v M') : C PP w0 Id.node_Drop #[.pointer (some ⟨a, 0, none⟩), SV.v s] R M := by
  apply node_Drop.go
  intro pts H
  unfold node_Drop.T
  have hsl : s.n = P.length := by rw [hs.len]; simp [intsN]
  refine Items_ok hA hs (I := P.map fun p => p.2.1) (by simp) (by simpa using hb) (fun j n hn => ?_) fun M1 sO z β hH hz hp hq => ?_
  · rw [List.getElem?_map] at hn
    cases hx : P[j]? with
    | none => rw [hx] at hn; cases hn
    | some p =>
      rw [hx] at hn; cases hn
      have := hP p (List.mem_of_getElem? hx)
      exact ⟨p.2.1, by rw [List.getElem?_map, hx]; rfl, this.ln, this.it, AS.live_lt hA.inv this.li⟩
  rw [shS_sv]
  have key : ∀ (rest : List (Nat × Held)) (j : Nat) (M' : Mem) (β : AS), P.drop j = rest → j ≤ P.length → Holds w0 F M' (star (SlA sO (z.map (Value.int .i64))) (arenaA a β)) → (∀ p ∈ rest, β.Nd p.1 p.2.1 p.2.2) → (rest.map (·.1) ++ rest.map (fun p => p.2.1)).Nodup →
      (∀ M'' γ, Holds w0 F M'' (star (SlA sO (z.map (Value.int .i64))) (arenaA a γ)) → AS.Sq (β.endAll rest) γ → R sO.v M'') → node_Drop.L1 pts (rest.length + 1) (some ⟨a, 0, none⟩) sO s ((s.n : Nat) : Int) (j : Int) M' := by
    intro rest
    induction rest with
    | nil =>
      intro j M' β hd hj hH _ _ hR
      rw [H.L1]
      unfold node_Drop.L1.T
      have : P.length ≤ j := List.drop_eq_nil_iff.1 hd
      rw [bs_decide, if_neg (by omega)]
      exact hR M' β hH AS.Sq.refl
    | cons p rest ih =>
      intro j M' β hd hj hH hN hn hR
      rw [H.L1]
      unfold node_Drop.L1.T
      have hlt : j < P.length := by
        apply Decidable.byContradiction
        intro hc
        rw [List.drop_of_length_le (by omega)] at hd; cases hd
      have hpj : P[j]? = some p := by
        have := List.drop_eq_getElem_cons hlt
        rw [hd] at this
        injection this with h1 h2
        rw [List.getElem?_eq_getElem hlt, h1]
      have hd2 : P.drop (j + 1) = rest := by
        have := List.drop_eq_getElem_cons hlt
        rw [hd] at this
        injection this with h1 h2
        exact h2.symm
      rw [bs_decide, if_pos (by omega)]
      refine rdx (x := (p.1 : Int)) W.c3 hs hH.fr j rfl (by simp [intsN, hpj]) ?_
      obtain ⟨F', hB, hle, back⟩ := hH.last
      refine End_ok hB (hN p List.mem_cons_self) fun M2 β2 hB2 hs2 => ?_
      rw [shI_v, w64_in (by omega)]
      have hn0 := hn
      simp only [List.map_cons, List.cons_append, List.nodup_cons, List.mem_append, List.mem_cons, not_or] at hn0
      obtain ⟨⟨hn1, hn2, hn3⟩, hn4⟩ := hn0
      replace hn4 := List.perm_middle.nodup_iff.1 hn4
      simp only [List.nodup_cons, List.mem_append, not_or] at hn4
      obtain ⟨⟨hn5, hn6⟩, hn7⟩ := hn4
      refine ih (j + 1) M2 β2 hd2 (by omega) (back M2 _ hB2) (fun q hq => ?_) hn7 fun M3 γ hH3 hq3 => hR M3 γ hH3 ?_
      · have hm1 : q.1 ∈ rest.map (·.1) := List.mem_map_of_mem (f := (·.1)) hq
        have hm2 : q.2.1 ∈ rest.map (fun p => p.2.1) := List.mem_map_of_mem (f := fun p : Nat × Held => p.2.1) hq
        have e1 : q.1 ≠ p.1 := fun e => hn1 (e ▸ hm1)
        have e2 : q.2.1 ≠ p.1 := fun e => hn3 (e ▸ hm2)
        have e3 : q.1 ≠ p.2.1 := fun e => hn5 (e ▸ hm1)
        have e4 : q.2.1 ≠ p.2.1 := fun e => hn6 (e ▸ hm2)
        refine (hN q (List.mem_cons_of_mem _ hq)).congr (fun f => ?_) (fun f => ?_) ?_ ?_
        · rw [hs2.get]; show (if q.1 = p.2.1 ∧ f = 9 then (-1 : Int) else β.get q.1 f) = _; rw [if_neg (fun e => e3 e.1)]
        · rw [hs2.get]; show (if q.2.1 = p.2.1 ∧ f = 9 then (-1 : Int) else β.get q.2.1 f) = _; rw [if_neg (fun e => e4 e.1)]
        · rw [hs2.live]; show (if q.1 = p.1 then false else β.live q.1) = _; rw [if_neg e1]
        · rw [hs2.live]; show (if q.2.1 = p.1 then false else β.live q.2.1) = _; rw [if_neg e2]
      · obtain ⟨n, x⟩ := p
        exact (hs2.sq.endAll rest).trans hq3
  refine ⟨P.length + 1, key P 0 M1 β rfl (by omega) hH (fun p hp => ?_) hnd fun M2 γ hH2 hq2 => h M2 sO z γ hH2 hz hp (((hq.endAll P)).trans hq2)⟩
  obtain ⟨k, hk⟩ := hq
  exact hk.nd (hP p hp)

end
end Go.Proofs.YtbkicgfgpmekeaaGreat.HL

