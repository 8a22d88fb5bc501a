/-
  EnO: a law's arguments: entries, and rows of entries.
-/
import Derived.Test.YtgnfbodlpolibaaEnA
import Derived.Test.YtgnfbodlpolibaaHlR
set_option linter.unusedVariables false
set_option linter.unusedSimpArgs false
set_option maxRecDepth 100000
namespace Go.Proofs.Ytgnfbodlpolibaa.HL
open Go.RowKit (Below)
open Go.ChangeShapes Go.WideShapes Go.ChangeAt
open Go.Proofs

theorem esV_at {l : List Ent} {j : Nat} {v : Value} (h : (esV l)[j]? = some v) : ∃ e, l[j / 2]? = some e ∧ (j = j / 2 * 2 ∧ v = .int .i64 e.1 ∨ j = j / 2 * 2 + 1 ∧ v = .int .i64 e.2) := by
  have hlt := (List.getElem?_eq_some_iff.1 h).1
  rw [esV_len] at hlt
  have hi : j / 2 < l.length := by omega
  have ee := List.getElem?_eq_getElem hi
  generalize l[j / 2] = e at ee
  obtain ⟨q1, q2⟩ := esV_get ee
  refine ⟨e, ee, ?_⟩
  rcases (by omega : j = j / 2 * 2 ∨ j = j / 2 * 2 + 1) with q | q
  · refine .inl ⟨q, ?_⟩
    rw [← q] at q1
    rw [q1] at h; cases h; rfl
  · refine .inr ⟨q, ?_⟩
    rw [← q] at q2
    rw [q2] at h; cases h; rfl

/-- A row of entries that was there before. -/
structure OldE (w0 : World) (s : SV) (l : List Ent) : Prop where
  len : s.n = l.length
  cap : s.n ≤ s.c
  nul : s.a = none → s.n = 0
  cell : ∀ i e, l[i]? = some e → ∃ a, s.a = some a ∧ a.block < w0.heap.size ∧ w0.cell? (a.add (i * 2)) = some (.int .i64 e.1) ∧ w0.cell? (a.add (i * 2 + 1)) = some (.int .i64 e.2)
theorem OldE.rdE {w0 : World} {s : SV} {l : List Ent} (h : OldE w0 s l) (M0 : Mem) : RdE w0 M0 s l := by
  refine ⟨h.len, h.cap, h.nul, fun M _ j v hv => ?_⟩
  obtain ⟨e, he, q⟩ := esV_at hv
  obtain ⟨a, ea, hb, q1, q2⟩ := h.cell _ e he
  refine ⟨a, ea, ?_⟩
  rw [rd_old (by rw [block_add]; exact hb)]
  rcases q with ⟨q, rfl⟩ | ⟨q, rfl⟩
  · rw [← q] at q1; exact q1
  · rw [← q] at q2; exact q2
section
variable {H : Type} {enc : TypeId × Value → H}

theorem open_E {W : World} {fuel : Nat} {cs : List Value} {x : DataW H × List MemPlace} (h : DataW.trod enc PP W 0 (fun _ => true) true fuel 36 cs = some x) : ∃ s l, cs = [SV.v s] ∧ OldE W s l := by
  have c40 : PP.cellsOf 40 = 2 := by kernel_rfl
  rcases Go.Deep.open_slice Try.underlying36 h with ⟨hcs, _⟩ | ⟨a, len, cap, m, n', D, Pl, hcs, _, hl, hm, hmm, _, hx⟩
  · exact ⟨⟨none, 0, 0⟩, [], hcs, rfl, Nat.le_refl _, fun _ => rfl, fun i e h => by simp at h⟩
  · simp at hmm
    subst hmm
    have each : ∀ i, i < m → ∃ e : Ent, W.cell? (a.add (i * 2)) = some (.int .i64 e.1) ∧ W.cell? (a.add (i * 2 + 1)) = some (.int .i64 e.2) := by
      intro i hi
      obtain ⟨cs', h1, h2⟩ := hx i hi
      obtain ⟨ns, e1, e2, _⟩ := flat_ints 5 40 (by kernel_rfl) n' cs' _ h2
      obtain ⟨_, h3, h4⟩ := World.cells?_some h1
      rw [c40] at e2 h4
      match ns, e2 with
      | [p, q], _ =>
        subst e1
        have q0 := h4 0 (by decide)
        have q1 := h4 1 (by decide)
        rw [Go.Deep.add_add] at q0 q1
        exact ⟨(p, q), q0, q1⟩
    obtain ⟨g, hg⟩ := Go.Deep.choose_lt each
    refine ⟨⟨some a, len, m⟩, (List.range len).map g, hcs, by simp, hl, fun e => (by cases e), fun i e he => ?_⟩
    rw [List.getElem?_map] at he
    have hlt : i < len := by
      apply Decidable.byContradiction
      intro hn
      rw [List.getElem?_eq_none (by simp; omega)] at he; cases he
    rw [List.getElem?_range hlt] at he
    cases he
    obtain ⟨q0, q1⟩ := hg i (by omega)
    have hlt := cell_lt q0
    rw [block_add] at hlt
    exact ⟨a, rfl, hlt, q0, q1⟩

theorem open_E1 {W : World} {base : Nat} {v : Value} {d : DataW H} {ps : List MemPlace} (hval : Value.okWide PP W .any base 36 v) (h : DataW.Trod enc PP W 0 (fun _ => true) true 36 v d ps) : ∃ s l, v = SV.v s ∧ OldE W s l := by
  obtain ⟨a0, len0, cap0, rfl⟩ := okWide_slice Try.underlying36 hval
  obtain ⟨fuel, hf⟩ := h
  obtain ⟨s, l, hcs, ho⟩ := open_E hf
  simp [Value.cells] at hcs
  exact ⟨s, l, hcs, ho⟩
theorem open_S {W : World} {base : Nat} {v : Value} {d : DataW H} {ps : List MemPlace} (hval : Value.okWide PP W .any base 40 v) (h : DataW.Trod enc PP W 0 (fun _ => true) true 40 v d ps) : ∃ a b : Int, v = .agg #[.int .i64 a, .int .i64 b] := by
  obtain ⟨cs, rfl, _⟩ := okWide_struct Try.underlying40 hval
  obtain ⟨fuel, hf⟩ := h
  obtain ⟨ns, e1, e2, _⟩ := flat_ints 5 40 (by kernel_rfl) fuel _ _ hf
  rw [show PP.cellsOf 40 = 2 from by kernel_rfl] at e2
  match ns, e2 with
  | [p, q], _ =>
    refine ⟨p, q, ?_⟩
    have e3 : cs.toList = [.int .i64 p, .int .i64 q] := e1
    rw [← Array.toArray_toList (xs := cs), e3]

end
end Go.Proofs.Ytgnfbodlpolibaa.HL
