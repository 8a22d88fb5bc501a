/-
  ItA: items: what each call does.
-/
import Derived.Test.YtoeijcmpkfjbfaaChA
import Derived.Test.YtoeijcmpkfjbfaaCmA
set_option linter.unusedVariables false
set_option linter.unusedSimpArgs false
set_option maxRecDepth 100000
namespace Go.Proofs.Ytoeijcmpkfjbfaa.HL
open Go.RowKit (Below)
open Go.Proofs

section
variable {w0 : World} {M F : Mem} {R : Value → Mem → Prop}

variable {a : Nat} {α : AS}

theorem Entry_ok (hA : Holds w0 F M (arenaA a α)) {i : Int} (h : ∀ M', Holds w0 F M' (arenaA a α.tick.tick) → R (.agg #[.int .i64 (α.getI i 7), .int .i64 (α.getI i 8)]) M') : C PP w0 Id.item_Entry #[.pointer (some ⟨a, 0, none⟩), .int .i64 i] R M := by
  apply item_Entry.go
  unfold item_Entry.T
  intro b hb hw
  have H1 : Holds w0 F _ (star (row1 b _ 62) (arenaA a α)) := hA.new hb hw [.int .i64 0, .int .i64 0] 62
  simp only [go_sem, Option.isNone_some, bs_false]
  obtain ⟨F', hB, _, back⟩ := H1.last
  refine Get_ok hB fun M2 hB2 => ?_
  simp only [go_sem]
  refine Get_ok hB2 fun M3 hB3 => ?_
  simp only [go_sem]
  have H3 := back M3 _ hB3
  refine st_agg (vs := [.int .i64 (α.getI i 7), .int .i64 (α.tick.getI i 8)]) W.g62 H3.own1 (by simp) (by intro v hv; simp only [List.mem_cons, List.not_mem_nil, or_false] at hv; rcases hv with rfl | rfl <;> rfl) ?_
  have H4 := H3.upd1 (cs' := over [.int .i64 0, .int .i64 0] 0 [.int .i64 (α.getI i 7), .int .i64 (α.tick.getI i 8)]) (e' := 62)
  have o4 := H4.own1
  rw [rdv_ptr, ld_agg (cs := [.int .i64 (α.getI i 7), .int .i64 (α.tick.getI i 8)]) W.g62 (fun j v hj => by rw [add_eq, rd_own o4, Nat.zero_add]; exact hj)]
  exact h _ H4.right

def AS.beforeI (α : AS) (i j : Int) : Bool :=
  decide (cmpI (α.getI i 7) (α.getI i 8) (α.getI j 7) (α.getI j 8) < 0) || (cmpI (α.getI i 7) (α.getI i 8) (α.getI j 7) (α.getI j 8) == 0 && decide (i < j))
theorem Before_ok (hA : Holds w0 F M (arenaA a α)) {i j : Int} (h : ∀ M', Holds w0 F M' (arenaA a α.tick.tick.tick.tick) → R (.bool (α.beforeI i j)) M') : C PP w0 Id.item_Before #[.pointer (some ⟨a, 0, none⟩), .int .i64 i, .int .i64 j] R M := by
  apply item_Before.go
  unfold item_Before.T
  refine Entry_ok hA fun M1 hA1 => ?_
  simp only [go_sem]
  refine Entry_ok hA1 fun M2 hA2 => ?_
  simp only [go_sem]
  refine Compare_ok fun M3 l3 => ?_
  have hh := h M3 (hA2.le l3)
  unfold AS.beforeI at hh
  have e : ∀ (i f : Int), α.tick.tick.getI i f = α.getI i f := fun _ _ => rfl
  simp only [go_sem, bs_decide, bs_beq, e]
  split
  · rename_i h1
    rw [decide_eq_true h1] at hh; exact hh
  · rename_i h1
    rw [decide_eq_false h1] at hh
    split
    · rename_i h2
      rw [h2] at hh
      simpa using hh
    · rename_i h2
      have : (cmpI (α.getI i 7) (α.getI i 8) (α.getI j 7) (α.getI j 8) == 0) = false := by simpa using h2
      rw [this] at hh; exact hh

theorem Lower_ok (hA : Holds w0 F M (arenaA a α)) {i key : Int} (h0 : α.getI i 7 < key → ∀ M', Holds w0 F M' (arenaA a α.tick) → R (.bool false) M')
    (h1 : key ≤ α.getI i 7 → ∀ M', Holds w0 F M' (arenaA a (α.tick.setI i 7 key).tick) → R (.bool (α.hasI i 7)) M') : C PP w0 Id.item_Lower #[.pointer (some ⟨a, 0, none⟩), .int .i64 i, .int .i64 key] R M := by
  apply item_Lower.go
  unfold item_Lower.T
  simp only [go_sem, Option.isNone_some, bs_false]
  refine Get_ok hA fun M1 hA1 => ?_
  simp only [go_sem, bs_decide]
  split
  · exact h0 (by omega) M1 hA1
  · refine Set_ok hA1 fun M2 hA2 => ?_
    simp only [go_sem]
    exact h1 (by omega) M2 hA2

theorem Node_ok (hA : Holds w0 F M (arenaA a α)) {i : Int} (h : ∀ M', Holds w0 F M' (arenaA a α.tick) → R (.int .i64 (α.cellI i 9)) M') : C PP w0 Id.item_Node #[.pointer (some ⟨a, 0, none⟩), .int .i64 i] R M := by
  apply item_Node.go
  unfold item_Node.T
  simp only [go_sem, Option.isNone_some, bs_false]
  refine Cell_ok hA fun M1 hA1 => ?_
  simp only [go_sem]
  exact h M1 hA1

theorem ItPut_ok (hA : Holds w0 F M (arenaA a α)) {n i : Nat} (hn : α.live n = true) (hi : α.live i = true) (h : ∀ M' β, Holds w0 F M' (arenaA a β) → AS.Sm 2 ((α.put n 6 i).put i 9 n) β → R (.tuple #[]) M') : C PP w0 Id.item_Put #[.pointer (some ⟨a, 0, none⟩), .int .i64 (n : Int), .int .i64 (i : Int)] R M := by
  apply item_Put.go
  unfold item_Put.T
  simp only [go_sem, Option.isNone_some, Bool.not_false, bs_true]
  refine Set_ok hA fun M1 hA1 => ?_
  simp only [go_sem]
  refine Set_ok hA1 fun M2 hA2 => ?_
  simp only [go_sem]
  rw [show α.setI (n : Int) 6 (i : Int) = α.put n 6 (i : Int) from AS.setI_live (f := 6) hn (by omega) _] at hA2
  rw [show (α.put n 6 (i : Int)).tick.setI (i : Int) 9 (n : Int) = (α.put n 6 (i : Int)).tick.put i 9 (n : Int) from AS.setI_live (α := (α.put n 6 (i : Int)).tick) (f := 9) hi (by omega) _] at hA2
  exact h M2 _ hA2 ((AS.tick_sm.put i 9 _).trans AS.tick_sm)

theorem Swap_ok (hA : Holds w0 F M (arenaA a α)) {n m i j : Nat} (hn : α.live n = true) (hm : α.live m = true) (hi : α.live i = true) (hj : α.live j = true) (gi : α.get n 6 = (i : Int)) (gj : α.get m 6 = (j : Int))
    (h : ∀ M' β, Holds w0 F M' (arenaA a β) → AS.Sm 6 ((((α.put n 6 j).put j 9 n).put m 6 i).put i 9 m) β → R (.tuple #[]) M') : C PP w0 Id.item_Swap #[.pointer (some ⟨a, 0, none⟩), .int .i64 (n : Int), .int .i64 (m : Int)] R M := by
  apply item_Swap.go
  unfold item_Swap.T
  simp only [go_sem, Option.isNone_some, bs_false]
  refine Cell_ok hA fun M1 hA1 => ?_
  rw [show α.cellI (n : Int) 6 = (i : Int) from AS.cellI_live (f := 6) hn (by omega) gi (AS.live_lt hA.inv hi)]
  simp only [go_sem]
  refine Cell_ok hA1 fun M2 hA2 => ?_
  rw [show α.tick.cellI (m : Int) 6 = (j : Int) from AS.cellI_live (α := α.tick) (f := 6) hm (by omega) gj (AS.live_lt hA.inv hj)]
  simp only [go_sem]
  refine ItPut_ok hA2 hn hj fun M3 β3 hA3 hs3 => ?_
  refine ItPut_ok hA3 (by rw [hs3.live]; exact hm) (by rw [hs3.live]; exact hi) fun M4 β4 hA4 hs4 => ?_
  exact h M4 β4 hA4 ((((((((AS.tick_sm.trans AS.tick_sm).put n 6 _).put j 9 _).trans hs3).put m 6 _).put i 9 _).trans hs4).mono (by omega))

/-- A new item; where there is no cell nothing changes. -/
theorem ItNew_ok (hA : Holds w0 F M (arenaA a α)) {key serial : Int} (h0 : α.next = none → ∀ M', Holds w0 F M' (arenaA a α.tick) → R (.tuple #[.int .i64 (-1), .bool false]) M')
    (h1 : ∀ c, α.next = some c → ∀ M' β, Holds w0 F M' (arenaA a β) → AS.Sm 3 ((α.take.put c 7 key).put c 8 serial) β → R (.tuple #[.int .i64 (c : Int), .bool true]) M') : C PP w0 Id.item_New #[.pointer (some ⟨a, 0, none⟩), .int .i64 key, .int .i64 serial] R M := by
  apply item_New.go
  unfold item_New.T
  simp only [go_sem, Option.isNone_some, bs_false]
  refine Take_ok hA fun M1 hA1 => ?_
  cases hnx : α.next with
  | none =>
    rw [show α.nextI = -1 from by unfold AS.nextI; rw [hnx]]
    rw [(AS.next_none hnx).1] at hA1
    simp only [go_sem, Option.isSome_none, bs_false]
    exact h0 hnx M1 hA1
  | some c =>
    obtain ⟨hcn, hcl, hct⟩ := AS.next_some hA.inv hnx
    rw [show α.nextI = (c : Int) from by unfold AS.nextI; rw [hnx]]
    simp only [go_sem, Option.isSome_some, bs_true]
    have hlv : α.take.tick.live c = true := by
      show α.take.live c = true
      rw [hct]
      show (if c = c then true else α.live c) = true
      rw [if_pos rfl]
    refine Set_ok hA1 fun M2 hA2 => ?_
    simp only [go_sem]
    refine Set_ok hA2 fun M3 hA3 => ?_
    simp only [go_sem]
    rw [show α.take.tick.setI (c : Int) 7 key = α.take.tick.put c 7 key from AS.setI_live (α := α.take.tick) (f := 7) hlv (by omega) _] at hA3
    rw [show (α.take.tick.put c 7 key).tick.setI (c : Int) 8 serial = (α.take.tick.put c 7 key).tick.put c 8 serial from AS.setI_live (α := (α.take.tick.put c 7 key).tick) (f := 8) hlv (by omega) _] at hA3
    exact h1 c hnx M3 _ hA3 ((((AS.tick_sm.put c 7 key).trans AS.tick_sm).put c 8 serial).trans AS.tick_sm)


end
end Go.Proofs.Ytoeijcmpkfjbfaa.HL
