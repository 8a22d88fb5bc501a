import Derived.Test.YtodobkbnmjgkdaaGreatPe24
set_option linter.unusedVariables false
set_option linter.unusedSimpArgs false
set_option maxRecDepth 100000
namespace Go.Proofs.YtodobkbnmjgkdaaGreat.HL
open Go.RowKit Go.ChangeShapes Go.WideShapes Go.ChangeAt
open Go.Proofs
theorem own : ownKnob Tryz.prog.godebug = none := by kernel_rfl
theorem laidOut : laidOutB Tryz.prog = true := by kernel_rfl
def aL6 : Mem := fun _ => none
theorem Rel.zero (w : World) : Rel w aL6 w := ⟨fun _ _ => False, fun _ _ _ h => h.elim, fun _ _ h => h.elim, fun _ _ h => (by cases h), Below.refl _ _⟩
theorem aEC {f : FuncId} {args : Array Value} (hc : oO PP f = true) {w w' : World} {v : Value} : (callFunc f args).run PP w ≠ .ok (.value v) w' := by
  unfold oO at hc
  split at hc
  · rename_i fn hf
    simp only [Bool.and_eq_true, Bool.not_eq_true'] at hc
    have h1 : ¬ fn.name = "runtime.NumGoroutine" := by simpa using hc.1
    have h2 : ¬ fn.body = none := by
      intro hb
      rw [hb] at hc
      simp at hc
    simp [callFunc, program, Sem.run, hf, h1, h2]
  · cases hc
theorem aGC {w0 : World} {f : FuncId} {args : Array Value} {R : VP} (hc : oO PP f = true) (h : C PP w0 f args R aL6) : Calls PP f args w0 fun e w' => ∃ v, e = .returned v ∧ (∃ M', R v M') ∧ Below w0.heap.size w0 w' := by
  rcases h with h | h
  · exact (h.2 w0 (Rel.zero w0)).mono fun e w' ⟨v, M', he, hR, hr⟩ => ⟨v, he, ⟨M', hR⟩, hr.below⟩
  · obtain ⟨v, w', M', h1, _⟩ := h w0 (Rel.zero w0)
    exact absurd h1 (aEC hc)
section
variable {H : Type} {enc : TypeId × Value → H} {P : Program}
def readable (P : Program) (ts : List TypeId) : Bool := ts.all fun t => P.readableRec t && decide (t < P.types.size)
theorem aBZ (hl : laidOutB P = true) {W W' : World} (hb : Below W.heap.size W W') : ∀ {ts : List TypeId} {vs : List Value} {ds : List (DataW H)} {ps : List MemPlace}, readable P ts = true →
    DataW.TrodAll enc P W 0 (fun _ => true) true ts vs ds ps → (∀ p ∈ ps, p.block < W.heap.size) → DataW.TrodAll enc P W' 0 (fun b => decide (b < W.heap.size)) true ts vs ds ps := by
  intro ts
  induction ts with
  | nil =>
    intro vs ds ps _ h _
    obtain ⟨rfl, rfl, rfl⟩ := trodAll_nil h
    rfl
  | cons t ts ih =>
    intro vs ds ps hr h hlt
    simp only [readable, List.all_cons, Bool.and_eq_true, decide_eq_true_eq] at hr
    obtain ⟨v, vs1, d, ds1, p, q, rfl, rfl, rfl, h1, h2⟩ := trodAll_cons h
    exact ⟨p, q, Below.trod hl hr.1.1 hr.1.2 h1 hb (fun x hx => hlt x (List.mem_append_left _ hx)), ih (by simpa [readable] using hr.2) h2 (fun x hx => hlt x (List.mem_append_right _ hx)), rfl⟩
theorem aHg {f : Func} {s : ChangeSpec} {tb : TypeId} {W W' : World} {args : Array Value} {ds gs : List (DataW H)} {before : List MemPlace} (hl : laidOutB P = true) (hW : DataW.Whole enc P f.params.toList s.vars false W args.toList ds gs before)
    (hv : s.vars = []) (hr : readable P f.params.toList = true) (ht : f.resultTypes = #[tb]) (hb : P.underlying tb = some .bool) (hfn : s.fn H ds = { results := [.lit (.bool true)], args := ds }) (hB : Below W.heap.size W W') :
    s.post enc P f false true false false W args (.bool true) W' := by
  have hlt := hW.lt
  have hW' := hW
  obtain ⟨p, q, hA, hV, rfl, hz, hn⟩ := hW
  rw [hv] at hV
  obtain ⟨rfl, rfl⟩ := trodVars_none hV
  have e : s.fn H (ds ++ []) = { results := [.lit (.bool true)], args := ds } := by rw [List.append_nil]; exact hfn
  refine ⟨ds, [], _, [], p, [], hW', ?_, ?_, ?_, hB.frame _, fun h => by cases h⟩
  · rw [e, ht]
    exact trodAll_mk1 (shut_bool hb true)
  · rw [e]
    exact aBZ hl hB hr hA (fun x hx => hlt x (List.mem_append_left _ hx))
  · rw [e, hv]; rfl
structure aJI (w0 : World) (k : IntKind) (s : SV) (l : List Int) : Prop where
  len : s.n = l.length
  cap : s.n ≤ s.c
  max : s.c ≤ maxLen
  cell : ∀ j x, l[j]? = some x → ∃ a, s.a = some a ∧ a.block < w0.heap.size ∧ w0.cell? (a.add j) = some (.int k x)
  wf : ∀ n ∈ l, (Lit.int k n).wf = true
theorem aJI.rdI {w0 : World} {k : IntKind} {s : SV} {l : List Int} (h : aJI w0 k s l) (M0 : Mem) : qO w0 M0 k s l :=
  ⟨h.len, h.cap, by have := h.len; have := h.cap; have := h.max; unfold maxLen at this; omega, fun j x hx => by
    obtain ⟨a, ha, hb, hc⟩ := h.cell j x hx
    exact ⟨a, ha, fun M _ => by rw [aJj (by rw [block_add]; exact hb)]; exact hc⟩, h.wf⟩
theorem aFL {w : World} {a : Addr} {v : Value} (h : w.cell? a = some v) : a.block < w.heap.size := by
  unfold World.cell? at h
  cases hb : w.heap[a.block]? with
  | none => rw [hb] at h; simp at h
  | some o => exact (Array.getElem?_eq_some_iff.1 hb).1
structure aNa (w0 : World) (k : Nat) (s : SV) (l : List Int) : Prop where
  len : l.length = s.n * k
  cap : s.n ≤ s.c
  max : s.c ≤ maxLen
  cell : ∀ j x, l[j]? = some x → ∃ a, s.a = some a ∧ a.block < w0.heap.size ∧ w0.cell? (a.add j) = some (.int .i64 x)
  wf : ∀ n ∈ l, (Lit.int .i64 n).wf = true
end
end Go.Proofs.YtodobkbnmjgkdaaGreat.HL
