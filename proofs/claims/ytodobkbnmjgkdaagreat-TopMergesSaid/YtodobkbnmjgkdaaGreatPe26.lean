import Derived.Test.YtodobkbnmjgkdaaGreatPe25
set_option linter.unusedVariables false
set_option linter.unusedSimpArgs false
set_option maxRecDepth 100000
namespace Go.Proofs.YtodobkbnmjgkdaaGreat.HL
open Go.RowKit Go.ChangeShapes Go.WideShapes Go.ChangeAt
open Go.Proofs
section
variable {H : Type} {enc : TypeId × Value → H} {P : Program}
structure aHY (w0 : World) (s : SV) (l : List Value) : Prop where
  len : s.n = l.length
  cell : ∀ j v, l[j]? = some v → ∃ a, s.a = some a ∧ a.block < w0.heap.size ∧ w0.cell? (a.add j) = some v
theorem aHY.rdV {w0 : World} {s : SV} {l : List Value} (h : aHY w0 s l) (M0 : Mem) : RdV w0 M0 s l :=
  ⟨h.len, fun j x hx => by
    obtain ⟨a, ha, hb, hc⟩ := h.cell j x hx
    exact ⟨a, ha, fun M _ => by rw [aJj (by rw [block_add]; exact hb)]; exact hc⟩⟩
theorem aLy {W : World} {base : Nat} {t e : TypeId} {Q : Value → Prop} {v : Value} {d : DataW H} {ps : List MemPlace} (ht : P.underlying t = some (.slice e)) (hc : P.cellsOf e = 1)
    (hq : ∀ n x y, DataW.trod enc P W 0 (fun _ => true) true n e [x] = some y → Q x)
    (hval : Value.okWide P W .any base t v) (h : DataW.Trod enc P W 0 (fun _ => true) true t v d ps) : ∃ s l, v = SV.v s ∧ aHY W s l ∧ ∀ x ∈ l, Q x := by
  obtain ⟨a0, len0, cap0, rfl⟩ := okWide_slice ht hval
  obtain ⟨fuel, hf⟩ := h
  rcases Go.Deep.open_slice1 ht hc hf with ⟨hcs, _⟩ | ⟨a, len, cap, m, n', V, D, Pl, hcs, _, hl, hm, hmm, _, hx⟩
  · simp [Value.cells] at hcs
    obtain ⟨rfl, rfl, rfl⟩ := hcs
    exact ⟨⟨none, 0, 0⟩, [], rfl, ⟨rfl, fun j x h => by simp at h⟩, fun n h => by simp at h⟩
  · simp [Value.cells] at hcs
    obtain ⟨rfl, rfl, rfl⟩ := hcs
    simp at hmm
    subst hmm
    refine ⟨⟨some a, len0, m⟩, (List.range len0).map V, rfl, ⟨by simp, fun j x hj => ?_⟩, fun x hx' => ?_⟩
    · rw [List.getElem?_map] at hj
      have hlt : j < len0 := by
        apply Decidable.byContradiction
        intro hn
        rw [List.getElem?_eq_none (by simp; omega)] at hj; cases hj
      rw [List.getElem?_range hlt] at hj
      cases hj
      have hc' := (hx j (by omega)).1
      have hb := aFL hc'
      rw [block_add] at hb
      exact ⟨a, rfl, hb, hc'⟩
    · obtain ⟨i, hi, rfl⟩ := List.mem_map.1 hx'
      have hi' := List.mem_range.1 hi
      exact hq _ _ _ (hx i (by omega)).2
theorem aLv {W : World} {base : Nat} {t e e2 : TypeId} {v : Value} {d : DataW H} {ps : List MemPlace} (ht : P.underlying t = some (.slice e)) (he : P.underlying e = some (.slice e2)) (he2 : P.underlying e2 = some (.int .i64)) (hc : P.cellsOf e = 1) (hc2 : P.cellsOf e2 = 1)
    (hval : Value.okWide P W .any base t v) (h : DataW.Trod enc P W 0 (fun _ => true) true t v d ps) : ∃ s l, v = SV.v s ∧ aHY W s l ∧ ∀ x ∈ l, ∃ s' l', x = SV.v s' ∧ aJI W .i64 s' l' :=
  aLy ht hc (fun n x y h => by
    rcases open_ints he he2 hc2 h with ⟨hcs, _⟩ | ⟨a, len, cap, zs, hcs, _, hl, hm, hz, _, hcell, hwz⟩
    · cases hcs
      exact ⟨⟨none, 0, 0⟩, [], rfl, rfl, Nat.le_refl _, Nat.zero_le _, fun j x h => by simp at h, fun n h => by simp at h⟩
    · cases hcs
      simp at hz
      refine ⟨⟨some a, len, cap⟩, zs.take len, rfl, by simp; omega, hl, hm, fun j x hx => ?_, fun n hn => hwz n (List.mem_of_mem_take hn)⟩
      have hj : j < len := by
        have := (List.getElem?_eq_some_iff.1 hx).1
        simp at this; omega
      rw [List.getElem?_take_of_lt hj] at hx
      have hc' := hcell j (by omega)
      rw [List.getD_eq_getElem?_getD, hx] at hc'
      have hlt := aFL hc'
      rw [block_add] at hlt
      exact ⟨a, rfl, hlt, hc'⟩) hval h
theorem aJY {W : World} {l : List Value} (h : ∀ x ∈ l, ∃ s' l', x = SV.v s' ∧ aJI W .i64 s' l') (M0 : Mem) : ∀ x ∈ l, ∃ s' l', x = SV.v s' ∧ qO W M0 .i64 s' l' := fun x hx => by
  obtain ⟨s, l, e, o⟩ := h x hx
  exact ⟨s, l, e, o.rdI M0⟩
end
end Go.Proofs.YtodobkbnmjgkdaaGreat.HL
