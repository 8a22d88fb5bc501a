/-
  MdF: sets of entries: the laws on calls.
-/
import Derived.Test.YtgnfbodlpolibaaMdE
import Derived.Test.YtgnfbodlpolibaaHlR
set_option linter.unusedVariables false
set_option linter.unusedSimpArgs false
set_option maxRecDepth 100000
namespace Go.Proofs.Ytgnfbodlpolibaa.HL
open Go.RowKit (Below)
open Go.ChangeShapes Go.WideShapes Go.ChangeAt
open Go.Proofs

theorem esV_at {l : List Ent} {j : Nat} {v : Value} (h : (esV l)[j]? = some v) : ∃ e, l[j / 2]? = some e ∧ (j = j / 2 * 2 ∧ v = .int .i64 e.1 ∨ j = j / 2 * 2 + 1 ∧ v = .int .i64 e.2) := by
  have hlt := (List.getElem?_eq_some_iff.1 h).1
  rw [esV_len] at hlt
  have hi : j / 2 < l.length := by omega
  have ee := List.getElem?_eq_getElem hi
  generalize l[j / 2] = e at ee
  obtain ⟨q1, q2⟩ := esV_get ee
  refine ⟨e, ee, ?_⟩
  rcases (by omega : j = j / 2 * 2 ∨ j = j / 2 * 2 + 1) with q | q
  · refine .inl ⟨q, ?_⟩
    rw [← q] at q1
    rw [q1] at h; cases h; rfl
  · refine .inr ⟨q, ?_⟩
    rw [← q] at q2
    rw [q2] at h; cases h; rfl

/-- A row of entries that was there before. -/
structure OldE (w0 : World) (s : SV) (l : List Ent) : Prop where
  len : s.n = l.length
  cap : s.n ≤ s.c
  nul : s.a = none → s.n = 0
  cell : ∀ i e, l[i]? = some e → ∃ a, s.a = some a ∧ a.block < w0.heap.size ∧ w0.cell? (a.add (i * 2)) = some (.int .i64 e.1) ∧ w0.cell? (a.add (i * 2 + 1)) = some (.int .i64 e.2)
theorem OldE.rdE {w0 : World} {s : SV} {l : List Ent} (h : OldE w0 s l) (M0 : Mem) : RdE w0 M0 s l := by
  refine ⟨h.len, h.cap, h.nul, fun M _ j v hv => ?_⟩
  obtain ⟨e, he, q⟩ := esV_at hv
  obtain ⟨a, ea, hb, q1, q2⟩ := h.cell _ e he
  refine ⟨a, ea, ?_⟩
  rw [rd_old (by rw [block_add]; exact hb)]
  rcases q with ⟨q, rfl⟩ | ⟨q, rfl⟩
  · rw [← q] at q1; exact q1
  · rw [← q] at q2; exact q2
/-- Calls that were there before. -/
structure OldA (w0 : World) (s : SV) (l : List AskV) : Prop where
  len : s.n = l.length
  cell : ∀ (j : Nat) (a : AskV), l[j]? = some a → ∃ ad, s.a = some ad ∧ ad.block < w0.heap.size ∧ ∀ (f : Nat) v, a.cells[f]? = some v → w0.cell? ((ad.add (j * 5)).add f) = some v
  oth : ∀ a ∈ l, OldE w0 a.so a.oth
theorem OldA.rdA {w0 : World} {s : SV} {l : List AskV} (h : OldA w0 s l) (M0 : Mem) : RdA w0 M0 s l :=
  ⟨h.len, fun j a hj => by
    obtain ⟨ad, ea, hb, hc⟩ := h.cell j a hj
    exact ⟨ad, ea, fun M _ f v hv => by rw [rd_old (by rw [block_add, block_add]; exact hb)]; exact hc f v hv⟩, fun a ha => (h.oth a ha).rdE M0⟩

section
variable {H : Type} {enc : TypeId × Value → H}

theorem open_E {W : World} {fuel : Nat} {cs : List Value} {x : DataW H × List MemPlace} (h : DataW.trod enc PP W 0 (fun _ => true) true fuel 36 cs = some x) : ∃ s l, cs = [SV.v s] ∧ OldE W s l := by
  have c40 : PP.cellsOf 40 = 2 := by kernel_rfl
  rcases Go.Deep.open_slice Try.underlying36 h with ⟨hcs, _⟩ | ⟨a, len, cap, m, n', D, Pl, hcs, _, hl, hm, hmm, _, hx⟩
  · exact ⟨⟨none, 0, 0⟩, [], hcs, rfl, Nat.le_refl _, fun _ => rfl, fun i e h => by simp at h⟩
  · simp at hmm
    subst hmm
    have each : ∀ i, i < m → ∃ e : Ent, W.cell? (a.add (i * 2)) = some (.int .i64 e.1) ∧ W.cell? (a.add (i * 2 + 1)) = some (.int .i64 e.2) := by
      intro i hi
      obtain ⟨cs', h1, h2⟩ := hx i hi
      obtain ⟨ns, e1, e2, _⟩ := flat_ints 5 40 (by kernel_rfl) n' cs' _ h2
      obtain ⟨_, h3, h4⟩ := World.cells?_some h1
      rw [c40] at e2 h4
      match ns, e2 with
      | [p, q], _ =>
        subst e1
        have q0 := h4 0 (by decide)
        have q1 := h4 1 (by decide)
        rw [Go.Deep.add_add] at q0 q1
        exact ⟨(p, q), q0, q1⟩
    obtain ⟨g, hg⟩ := Go.Deep.choose_lt each
    refine ⟨⟨some a, len, m⟩, (List.range len).map g, hcs, by simp, hl, fun e => (by cases e), fun i e he => ?_⟩
    rw [List.getElem?_map] at he
    have hlt : i < len := by
      apply Decidable.byContradiction
      intro hn
      rw [List.getElem?_eq_none (by simp; omega)] at he; cases he
    rw [List.getElem?_range hlt] at he
    cases he
    obtain ⟨q0, q1⟩ := hg i (by omega)
    have hlt := cell_lt q0
    rw [block_add] at hlt
    exact ⟨a, rfl, hlt, q0, q1⟩

theorem open_A {W : World} {base : Nat} {v : Value} {d : DataW H} {ps : List MemPlace} (hval : Value.okWide PP W .any base 52 v) (h : DataW.Trod enc PP W 0 (fun _ => true) true 52 v d ps) : ∃ s l, v = SV.v s ∧ OldA W s l := by
  obtain ⟨a0, len0, cap0, rfl⟩ := okWide_slice Try.underlying52 hval
  obtain ⟨fuel, hf⟩ := h
  have c2 : PP.cellsOf 2 = 1 := by kernel_rfl
  have c3 : PP.cellsOf 3 = 1 := by kernel_rfl
  have c40 : PP.cellsOf 40 = 2 := by kernel_rfl
  have c36 : PP.cellsOf 36 = 1 := by kernel_rfl
  have c55 : PP.cellsOf 55 = 5 := by kernel_rfl
  rcases Go.Deep.open_slice Try.underlying52 hf with ⟨hcs, _⟩ | ⟨a, len, cap, m, n', D, Pl, hcs, _, hl, hm, hmm, _, hx⟩
  · simp [Value.cells] at hcs
    obtain ⟨rfl, rfl, rfl⟩ := hcs
    exact ⟨⟨none, 0, 0⟩, [], rfl, rfl, fun j a h => by simp at h, fun a h => by cases h⟩
  · simp [Value.cells] at hcs
    obtain ⟨rfl, rfl, rfl⟩ := hcs
    simp at hmm
    subst hmm
    have each : ∀ i, i < m → ∃ x : AskV, (∀ (f : Nat) v, x.cells[f]? = some v → W.cell? ((a.add (i * 5)).add f) = some v) ∧ OldE W x.so x.oth := by
      intro i hi
      obtain ⟨cs', h1, h2⟩ := hx i hi
      obtain ⟨_, h3, h4⟩ := World.cells?_some h1
      obtain ⟨xs, n2, _, _, hl2, hlen, hfs⟩ := DataW.trod_struct Try.underlying55 h2
      have hx4 : xs.length = 4 := hlen
      rw [c55] at h3 h4 hl2
      match cs', hl2 with
      | [v0, v1, v2, v3, v4], _ =>
        match xs, hx4 with
        | [y0, y1, y2, y3], _ =>
          have f0 : DataW.trod enc PP W 0 (fun _ => true) true n2 3 (([v0, v1, v2, v3, v4].drop 0).take (PP.cellsOf 3)) = some y0 := hfs 0 _ rfl
          have f1 : DataW.trod enc PP W 0 (fun _ => true) true n2 40 (([v0, v1, v2, v3, v4].drop 1).take (PP.cellsOf 40)) = some y1 := hfs 1 _ rfl
          have f2 : DataW.trod enc PP W 0 (fun _ => true) true n2 2 (([v0, v1, v2, v3, v4].drop 3).take (PP.cellsOf 2)) = some y2 := hfs 2 _ rfl
          have f3 : DataW.trod enc PP W 0 (fun _ => true) true n2 36 (([v0, v1, v2, v3, v4].drop 4).take (PP.cellsOf 36)) = some y3 := hfs 3 _ rfl
          rw [c3] at f0
          rw [c40] at f1
          rw [c2] at f2
          rw [c36] at f3
          obtain ⟨k, e0, _, _⟩ := DataW.trod_int (k := .i64) Try.underlying3 f0
          obtain ⟨ns, e1, e1l, _⟩ := flat_ints 5 40 (by kernel_rfl) n2 _ _ f1
          obtain ⟨g, e2, _, _⟩ := DataW.trod_int (k := .i64) Try.underlying2 f2
          obtain ⟨so, oth, e3, ho⟩ := open_E f3
          rw [c40] at e1l
          match ns, e1l with
          | [p, q], _ =>
            simp at e0 e1 e2 e3
            obtain ⟨rfl, rfl⟩ := e1
            subst e0 e2 e3
            refine ⟨⟨k, p, q, g, so, oth⟩, fun f v hv => ?_, ho⟩
            have hlt := (List.getElem?_eq_some_iff.1 hv).1
            have := h4 f hlt
            have hv' : ([.int .i64 k, .int .i64 p, .int .i64 q, .int .i64 g, SV.v so] : List Value)[f]? = some v := hv
            rw [hv'] at this; exact this
    obtain ⟨g, hg⟩ := Go.Deep.choose_lt each
    refine ⟨⟨some a, len0, m⟩, (List.range len0).map g, rfl, by simp, fun j x hj => ?_, fun x hx' => ?_⟩
    · rw [List.getElem?_map] at hj
      have hlt : j < len0 := by
        apply Decidable.byContradiction
        intro hn
        rw [List.getElem?_eq_none (by simp; omega)] at hj; cases hj
      rw [List.getElem?_range hlt] at hj
      cases hj
      obtain ⟨q0, _⟩ := hg j (by omega)
      have hlt := cell_lt (q0 0 _ rfl)
      rw [block_add, block_add] at hlt
      exact ⟨a, rfl, hlt, q0⟩
    · obtain ⟨i, hi, rfl⟩ := List.mem_map.1 hx'
      have hi' := List.mem_range.1 hi
      exact (hg i (by omega)).2
end

section
variable {w0 : World} {F M : Mem} {R : Value → Mem → Prop}

theorem ModelPlays_ok (hR : ∀ M', R (.bool true) M') {s : SV} {l : List AskV} (h : RdA w0 M s l) : C PP w0 Id.thicketlaw16_ModelPlays #[SV.v s] R M := by
  apply thicketlaw16_ModelPlays.go
  unfold thicketlaw16_ModelPlays.T
  refine play_ok h fun M1 => ?_
  rw [shB_v, bs_true]
  refine Mknown_ok fun M2 => ?_
  rw [shB_v]; exact hR _

def aCells (l : List AskV) : List Value := l.flatMap AskV.cells
theorem aCells_get : ∀ {l : List AskV} {j : Nat} {a : AskV} {f : Nat} {v : Value}, l[j]? = some a → a.cells[f]? = some v → (aCells l)[j * 5 + f]? = some v := by
  intro l
  induction l with
  | nil => intro j a f v h; simp at h
  | cons x l ih =>
    intro j a f v h hv
    have hf : f < 5 := (List.getElem?_eq_some_iff.1 hv).1
    show (x.cells ++ aCells l)[_]? = _
    have hx : x.cells.length = 5 := rfl
    cases j with
    | zero =>
      simp at h; subst h
      rw [List.getElem?_append_left (by omega), Nat.zero_mul, Nat.zero_add]; exact hv
    | succ j =>
      rw [List.getElem?_append_right (by omega), show (j + 1) * 5 + f - x.cells.length = j * 5 + f from by omega]
      exact ih (by simpa using h) hv
theorem aCells_len (l : List AskV) : (aCells l).length = l.length * 5 := by
  unfold aCells
  induction l with
  | nil => rfl
  | cons x l ih =>
    rw [List.flatMap_cons, List.length_append, ih, show x.cells.length = 5 from rfl, List.length_cons]; omega

theorem newE2 {P : Asn} (h : Holds w0 F M P) (x y z w : Int) {K : Value → Mem → Prop} (hK : ∀ M' s', Mem.le M M' → Holds w0 F M' (star (Es s' [(x, y), (z, w)]) P) → K s'.v M') : (std PP w0).bsl 36 2 [(0, .agg #[.int .i64 x, .int .i64 y]), (1, .agg #[.int .i64 z, .int .i64 w])] K M := by
  refine bsl_e (n := 2) (cells := #[.int .i64 x, .int .i64 y, .int .i64 z, .int .i64 w]) Try.underlying36 W.e40 (by decide) (by kernel_rfl) fun b hb hw => ?_
  have l1 : Mem.le M (M.set b (.row (#[Value.int .i64 x, .int .i64 y, .int .i64 z, .int .i64 w] : Array Value).toList 40)) := Mem.le_set _ hb
  exact hK _ ⟨some ⟨b, 0, none⟩, 2, 2⟩ l1 (Holds.newSlk h l1 (SlK.new (n := 2) hb (Own.new hw) rfl))
theorem newA {P : Asn} (h : Holds w0 F M P) (a : AskV) {K : Value → Mem → Prop} (hK : ∀ M' s', Mem.le M M' → s'.n = 1 → Holds w0 F M' (star (SlKA 5 s' a.cells) P) → K s'.v M') : (std PP w0).bsl 52 1 [(0, .agg #[.int .i64 a.kind, .int .i64 a.key, .int .i64 a.ser, .int .i64 a.arg, SV.v a.so])] K M := by
  refine bsl_e (n := 1) (cells := #[.int .i64 a.kind, .int .i64 a.key, .int .i64 a.ser, .int .i64 a.arg, SV.v a.so]) Try.underlying52 W.e55 (by decide) (by kernel_rfl) fun b hb hw => ?_
  have l1 : Mem.le M (M.set b (.row (#[Value.int .i64 a.kind, .int .i64 a.key, .int .i64 a.ser, .int .i64 a.arg, SV.v a.so] : Array Value).toList 55)) := Mem.le_set _ hb
  exact hK _ ⟨some ⟨b, 0, none⟩, 1, 1⟩ l1 rfl (Holds.newSlk h l1 (SlK.new (n := 1) hb (Own.new hw) rfl))

theorem ModelNumbers_ok (hR : ∀ M', R (.bool true) M') : C PP w0 Id.thicketlaw16_ModelNumbers #[] R M := by
  apply thicketlaw16_ModelNumbers.go
  intro pts H
  unfold thicketlaw16_ModelNumbers.T
  have bE : ∀ x y : Int, (std PP w0).bld 40 [(0, .int .i64 x), (1, .int .i64 y)] = some (.agg #[.int .i64 x, .int .i64 y]) := fun x y => by kernel_rfl
  have bE1 : ∀ y : Int, (std PP w0).bld 40 [(1, .int .i64 y)] = some (.agg #[.int .i64 0, .int .i64 y]) := fun y => by kernel_rfl
  have bA : ∀ (k x y g : Int) (s : SV), (std PP w0).bld 55 [(0, .int .i64 k), (1, .agg #[.int .i64 x, .int .i64 y]), (2, .int .i64 g), (3, SV.v s)] = some (.agg #[.int .i64 k, .int .i64 x, .int .i64 y, .int .i64 g, SV.v s]) := fun k x y g s => by kernel_rfl
  have key : ∀ (k i : Nat) (l : List AskV) (s : SV) (F M' : Mem), i ≤ 55 → 55 < i + k → l.length = i → (∀ a ∈ l, RdE w0 F a.so a.oth) → Holds w0 F M' (star (SlKA 5 s (aCells l)) emp) → thicketlaw16_ModelNumbers.L1 pts k s (i : Int) M' := by
    intro k
    induction k with
    | zero => intro i l s F M' h1 h2; omega
    | succ k ih =>
      intro i l s F M' hi hk hlen hoth hH
      rw [H.L1]
      unfold thicketlaw16_ModelNumbers.L1.T
      rw [bs_decide]
      split
      · refine lit_ok (R := fun s4 M3 => _) [0, 0, 4, 1, 7, 3, 5, 2, 6, 0] (by decide) (by kernel_rfl) rfl (by decide) fun M3 s4 l3 h4 => ?_
        refine ⟨rfl, by decide, ?_⟩
        have et : Int.tmod (i : Int) 10 = ((i % 10 : Nat) : Int) := by rw [Int.tmod_eq_emod_of_nonneg (by omega)]; omega
        have hj : i % 10 < ([0, 0, 4, 1, 7, 3, 5, 2, 6, 0] : List Int).length := Nat.mod_lt _ (by decide)
        have ey := List.getElem?_eq_getElem hj
        generalize ([0, 0, 4, 1, 7, 3, 5, 2, 6, 0] : List Int)[i % 10] = kd at ey
        refine rdx W.c3 h4 (Mem.le_refl _) (i % 10) et ey ?_
        refine ⟨rfl, by decide, rfl, by decide, ?_⟩
        simp only [bE, bE1, bA, go_sem]
        refine ⟨trivial, by decide, trivial, by decide, trivial, by decide, ?_⟩
        refine newE2 (hH.le l3) _ _ _ _ fun M5 s5 l5 h5 => ?_
        simp only [bA, go_sem]
        obtain ⟨F2, l2, h6, h7⟩ := h5.frE
        generalize hx : Int.tmod (w64 ((i : Int) * 7)) 9 = p
        generalize hy : Int.tmod (i : Int) 23 = q
        generalize hz : Int.tmod (w64 ((i : Int) * 3)) 23 = g
        refine newA h6 ⟨kd, p, q, g, s5, [(4, w64 (40 + Int.tmod (i : Int) 9)), (0, Int.tmod (i : Int) 30)]⟩ fun M6 s6 l6 hn6 h8 => ?_
        rw [shS_sv]
        obtain ⟨Fx, x1, _, _⟩ := Holds.slk h8
        obtain ⟨F', y1, y2, y3⟩ := Holds.slk h8.rot
        have hlen5 := y1.len
        rw [aCells_len] at hlen5
        refine app_slk (k := 5) Try.underlying52 W.e55 y2 y1 (news := (⟨kd, p, q, g, s5, [(4, w64 (40 + Int.tmod (i : Int) 9)), (0, Int.tmod (i : Int) 30)]⟩ : AskV).cells) (by rw [hn6]; rfl) x1.cells (fun e => (x1.none e).1) (by intro v hv; simp only [AskV.cells, List.mem_cons, List.not_mem_nil, or_false] at hv; rcases hv with rfl | rfl | rfl | rfl | rfl <;> rfl) (by decide) (by omega) fun M7 s7 l7 h9 _ => ?_
        rw [shS_sv, i64_succ (by omega)]
        have h10 := (y3 M7 s7 _ h9 l7).skip2
        refine ih (i + 1) (l ++ [⟨kd, p, q, g, s5, [(4, w64 (40 + Int.tmod (i : Int) 9)), (0, Int.tmod (i : Int) 30)]⟩]) s7 F2 M7 (by omega) (by omega) (by simp [hlen]) (fun a ha => ?_) ?_
        · rcases List.mem_append.1 ha with ha | ha
          · exact (hoth a ha).le l2
          · rw [List.mem_singleton.1 ha]; exact h7
        · unfold aCells at h10 ⊢
          rw [List.flatMap_append, List.flatMap_singleton]
          exact h10
      · obtain ⟨F2, l2, h6, h7⟩ := hH.frSl
        have hl5 := h7.len
        rw [aCells_len] at hl5
        refine play_ok (l := l) (sl := s) ⟨by omega, fun j a hj => ?_, fun a ha => (hoth a ha).le (Mem.le_trans l2 h6.fr)⟩ fun M5 => ?_
        · obtain ⟨ad, ea, _⟩ := h7.cells _ _ (aCells_get (f := 0) hj rfl)
          refine ⟨ad, ea, fun M8 l8 f v hv => ?_⟩
          obtain ⟨ad2, ea2, h8⟩ := (h7.le (Mem.le_trans h6.fr l8)).cells _ _ (aCells_get hj hv)
          rw [ea] at ea2; cases ea2
          rw [add_add]; exact h8
        · rw [shB_v, bs_true]
          refine Mknown_ok fun M6 => ?_
          rw [shB_v]; exact hR _
  exact ⟨56, key 56 0 [] ⟨none, 0, 0⟩ M M (by omega) (by omega) rfl (fun a ha => by cases ha) (Holds.nilSlk (k := 5) (Holds.emp0 (w0 := w0) (M := M)))⟩

end
end Go.Proofs.Ytgnfbodlpolibaa.HL
