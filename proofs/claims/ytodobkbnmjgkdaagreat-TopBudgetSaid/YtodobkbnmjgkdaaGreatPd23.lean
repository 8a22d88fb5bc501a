import Derived.Test.YtodobkbnmjgkdaaGreatPd22
set_option linter.unusedVariables false
set_option linter.unusedSimpArgs false
set_option maxRecDepth 100000
namespace Go.Proofs.YtodobkbnmjgkdaaGreat.HL
open Go.RowKit Go.ChangeShapes Go.WideShapes Go.ChangeAt
open Go.Proofs
theorem own : ownKnob Tryz.prog.godebug = none := by kernel_rfl
theorem laidOut : laidOutB Tryz.prog = true := by kernel_rfl
def aLv : Mem := fun _ => none
theorem Rel.zero (w : World) : Rel w aLv w := ⟨fun _ _ => False, fun _ _ _ h => h.elim, fun _ _ h => h.elim, fun _ _ h => (by cases h), Below.refl _ _⟩
theorem aDY {f : FuncId} {args : Array Value} (hc : oI PP f = true) {w w' : World} {v : Value} : (callFunc f args).run PP w ≠ .ok (.value v) w' := by
  unfold oI at hc
  split at hc
  · rename_i fn hf
    simp only [Bool.and_eq_true, Bool.not_eq_true'] at hc
    have h1 : ¬ fn.name = "runtime.NumGoroutine" := by simpa using hc.1
    have h2 : ¬ fn.body = none := by
      intro hb
      rw [hb] at hc
      simp at hc
    simp [callFunc, program, Sem.run, hf, h1, h2]
  · cases hc
theorem aGI {w0 : World} {f : FuncId} {args : Array Value} {R : VP} (hc : oI PP f = true) (h : C PP w0 f args R aLv) : Calls PP f args w0 fun e w' => ∃ v, e = .returned v ∧ (∃ M', R v M') ∧ Below w0.heap.size w0 w' := by
  rcases h with h | h
  · exact (h.2 w0 (Rel.zero w0)).mono fun e w' ⟨v, M', he, hR, hr⟩ => ⟨v, he, ⟨M', hR⟩, hr.below⟩
  · obtain ⟨v, w', M', h1, _⟩ := h w0 (Rel.zero w0)
    exact absurd h1 (aDY hc)
section
variable {H : Type} {enc : TypeId × Value → H} {P : Program}
def readable (P : Program) (ts : List TypeId) : Bool := ts.all fun t => P.readableRec t && decide (t < P.types.size)
theorem aBC (hl : laidOutB P = true) {W W' : World} (hb : Below W.heap.size W W') : ∀ {ts : List TypeId} {vs : List Value} {ds : List (DataW H)} {ps : List MemPlace}, readable P ts = true →
    DataW.TrodAll enc P W 0 (fun _ => true) true ts vs ds ps → (∀ p ∈ ps, p.block < W.heap.size) → DataW.TrodAll enc P W' 0 (fun b => decide (b < W.heap.size)) true ts vs ds ps := by
  intro ts
  induction ts with
  | nil =>
    intro vs ds ps _ h _
    obtain ⟨rfl, rfl, rfl⟩ := trodAll_nil h
    rfl
  | cons t ts ih =>
    intro vs ds ps hr h hlt
    simp only [readable, List.all_cons, Bool.and_eq_true, decide_eq_true_eq] at hr
    obtain ⟨v, vs1, d, ds1, p, q, rfl, rfl, rfl, h1, h2⟩ := trodAll_cons h
    exact ⟨p, q, Below.trod hl hr.1.1 hr.1.2 h1 hb (fun x hx => hlt x (List.mem_append_left _ hx)), ih (by simpa [readable] using hr.2) h2 (fun x hx => hlt x (List.mem_append_right _ hx)), rfl⟩
theorem aGx {f : Func} {s : ChangeSpec} {tb : TypeId} {W W' : World} {args : Array Value} {ds gs : List (DataW H)} {before : List MemPlace} (hl : laidOutB P = true) (hW : DataW.Whole enc P f.params.toList s.vars false W args.toList ds gs before)
    (hv : s.vars = []) (hr : readable P f.params.toList = true) (ht : f.resultTypes = #[tb]) (hb : P.underlying tb = some .bool) (hfn : s.fn H ds = { results := [.lit (.bool true)], args := ds }) (hB : Below W.heap.size W W') :
    s.post enc P f false true false false W args (.bool true) W' := by
  have hlt := hW.lt
  have hW' := hW
  obtain ⟨p, q, hA, hV, rfl, hz, hn⟩ := hW
  rw [hv] at hV
  obtain ⟨rfl, rfl⟩ := trodVars_none hV
  have e : s.fn H (ds ++ []) = { results := [.lit (.bool true)], args := ds } := by rw [List.append_nil]; exact hfn
  refine ⟨ds, [], _, [], p, [], hW', ?_, ?_, ?_, hB.frame _, fun h => by cases h⟩
  · rw [e, ht]
    exact trodAll_mk1 (shut_bool hb true)
  · rw [e]
    exact aBC hl hB hr hA (fun x hx => hlt x (List.mem_append_left _ hx))
  · rw [e, hv]; rfl
structure aMk (w0 : World) (k : IntKind) (s : SV) (l : List Int) : Prop where
  len : s.n = l.length
  cap : s.n ≤ s.c
  max : s.c ≤ maxLen
  cell : ∀ j x, l[j]? = some x → ∃ a, s.a = some a ∧ a.block < w0.heap.size ∧ w0.cell? (a.add j) = some (.int k x)
  wf : ∀ n ∈ l, (Lit.int k n).wf = true
theorem aJP {w : World} {a : Addr} {v : Value} (h : w.cell? a = some v) : a.block < w.heap.size := by
  unfold World.cell? at h
  cases hb : w.heap[a.block]? with
  | none => rw [hb] at h; simp at h
  | some o => exact (Array.getElem?_eq_some_iff.1 hb).1
def allI (P : Program) : Nat → TypeId → Bool
  | 0, _ => false
  | n + 1, t => match P.underlying t with
    | some (.int .i64) => Nat.beq (P.cellsOf t) 1
    | some (.struct fs) => go (P.cellsOf t) (allI P n) 0 fs.toList
    | _ => false
where go (c : Nat) (p : TypeId → Bool) : Nat → List Field → Bool
  | off, [] => Nat.beq off c
  | off, f :: r => Nat.beq f.offset off && p f.type && go c p (off + P.cellsOf f.type) r
theorem aGt {w : World} {base : Nat} {spare : Nat → Bool} {held : Bool} : ∀ (n : Nat) (t : TypeId), allI P n t = true → ∀ (fuel : Nat) (cs : List Value) (x : DataW H × List MemPlace), DataW.trod enc P w base spare held fuel t cs = some x →
    ∃ ns : List Int, cs = ns.map (Value.int .i64) ∧ ns.length = P.cellsOf t ∧ ∀ m ∈ ns, (Lit.int .i64 m).wf = true := by
  intro n
  induction n with
  | zero => intro t h; cases h
  | succ n ih =>
    intro t h fuel cs x hx
    rw [allI] at h
    split at h
    · rename_i ht
      obtain ⟨m, rfl, _, hw⟩ := DataW.trod_int ht hx
      exact ⟨[m], rfl, (Nat.eq_of_beq_eq_true h).symm, by simpa using hw⟩
    · rename_i fs ht
      obtain ⟨xs, n', _, _, hl, hlen, hf⟩ := DataW.trod_struct ht hx
      have key : ∀ (r : List Field) (i off : Nat), fs.toList.drop i = r → allI.go P (P.cellsOf t) (allI P n) off r = true → ∃ ns : List Int, cs.drop off = ns.map (Value.int .i64) ∧ ∀ m ∈ ns, (Lit.int .i64 m).wf = true := by
        intro r
        induction r with
        | nil =>
          intro i off _ hg
          rw [allI.go] at hg
          have := Nat.eq_of_beq_eq_true hg
          exact ⟨[], by rw [List.drop_eq_nil_of_le (by omega)]; rfl, fun m hm => by cases hm⟩
        | cons f r ihr =>
          intro i off hd hg
          rw [allI.go, Bool.and_eq_true, Bool.and_eq_true] at hg
          obtain ⟨⟨h1, h2⟩, h3⟩ := hg
          have h1' := Nat.eq_of_beq_eq_true h1
          have hi : i < fs.toList.length := by
            apply Decidable.byContradiction
            intro hn
            rw [List.drop_eq_nil_of_le (by omega)] at hd; cases hd
          have hfi : fs.toList[i]? = some f := by
            rw [List.drop_eq_getElem_cons hi] at hd
            rw [List.getElem?_eq_getElem hi]
            injection hd with hd _; rw [hd]
          have hdr : fs.toList.drop (i + 1) = r := by
            rw [List.drop_eq_getElem_cons hi] at hd
            injection hd with _ hd
          have hfi' : fs[i]? = some f := by rw [← Array.getElem?_toList]; exact hfi
          have hxi := hf i f hfi'
          have hix : i < xs.length := by rw [hlen]; simpa using hi
          rw [List.getElem?_eq_getElem hix, h1'] at hxi
          obtain ⟨ns1, e1, e2, e3⟩ := ih f.type h2 n' _ _ hxi
          obtain ⟨ns2, e4, e5⟩ := ihr (i + 1) (off + P.cellsOf f.type) hdr h3
          refine ⟨ns1 ++ ns2, ?_, fun m hm => ?_⟩
          · rw [List.map_append, ← e1, ← e4, ← List.drop_drop, List.take_append_drop]
          · rcases List.mem_append.1 hm with hm | hm
            · exact e3 m hm
            · exact e5 m hm
      obtain ⟨ns, e1, e2⟩ := key fs.toList 0 0 rfl h
      rw [List.drop_zero] at e1
      exact ⟨ns, e1, by rw [← hl, e1]; simp, e2⟩
    · cases h
structure aHy (w0 : World) (k : Nat) (s : SV) (l : List Int) : Prop where
  len : l.length = s.n * k
  cap : s.n ≤ s.c
  max : s.c ≤ maxLen
  cell : ∀ j x, l[j]? = some x → ∃ a, s.a = some a ∧ a.block < w0.heap.size ∧ w0.cell? (a.add j) = some (.int .i64 x)
  wf : ∀ n ∈ l, (Lit.int .i64 n).wf = true
theorem aHy.rdF {w0 : World} {k : Nat} {s : SV} {l : List Int} (h : aHy w0 k s l) (M0 : Mem) : RdF w0 M0 k s l :=
  ⟨h.len, h.cap, by have := h.cap; have := h.max; unfold maxLen at this; omega, fun j x hx => by
    obtain ⟨a, ha, hb, hc⟩ := h.cell j x hx
    exact ⟨a, ha, fun M _ => by rw [aK8 (by rw [block_add]; exact hb)]; exact hc⟩, h.wf⟩
theorem aH8 {k : Nat} (hk : 0 < k) : ∀ (m : Nat) (g : Nat → List Int), (∀ i, i < m → (g i).length = k) → ∀ j, j < m * k → ((List.range m).flatMap g)[j]? = (g (j / k))[j % k]? := by
  intro m
  induction m with
  | zero => intro g _ j hj; omega
  | succ m ih =>
    intro g hg j hj
    have hlen : ((List.range m).flatMap g).length = m * k := by
      clear ih hj
      have hg' : ∀ i, i < m → (g i).length = k := fun i hi => hg i (by omega)
      clear hg
      induction m with
      | zero => simp
      | succ m ih2 =>
        rw [List.range_succ, List.flatMap_append, List.length_append, ih2 (fun i hi => hg' i (by omega))]
        simp [hg' m (by omega), Nat.succ_mul]
    rw [List.range_succ, List.flatMap_append, List.getElem?_append, hlen]
    split
    · rename_i h
      exact ih g (fun i hi => hg i (by omega)) j h
    · rename_i h
      have h1 : j / k = m := by
        rw [Nat.succ_mul] at hj
        exact Nat.div_eq_of_lt_le (by omega) (by rw [Nat.succ_mul]; omega)
      have h2 : j % k = j - m * k := by
        have := Nat.div_add_mod j k
        rw [h1, Nat.mul_comm] at this; omega
      rw [h1, h2]; simp
theorem aGV {W : World} {base : Nat} {t e : TypeId} {n k : Nat} {v : Value} {d : DataW H} {ps : List MemPlace} (ht : P.underlying t = some (.slice e)) (he : allI P n e = true) (hc : P.cellsOf e = k) (hk : 0 < k)
    (hval : Value.okWide P W .any base t v) (h : DataW.Trod enc P W 0 (fun _ => true) true t v d ps) : ∃ s l, v = SV.v s ∧ aHy W k s l := by
  obtain ⟨a0, len0, cap0, rfl⟩ := okWide_slice ht hval
  obtain ⟨fuel, hf⟩ := h
  rcases Go.Deep.open_slice ht hf with ⟨hcs, _⟩ | ⟨a, len, cap, m, n', D, Pl, hcs, _, hl, hm, hmm, _, hx⟩
  · simp [Value.cells] at hcs
    obtain ⟨rfl, rfl, rfl⟩ := hcs
    exact ⟨⟨none, 0, 0⟩, [], rfl, by simp, Nat.le_refl _, Nat.zero_le _, fun j x h => by simp at h, fun n h => by simp at h⟩
  · simp [Value.cells] at hcs
    obtain ⟨rfl, rfl, rfl⟩ := hcs
    simp at hmm
    subst hmm
    have each : ∀ i, i < m → ∃ ns : List Int, ns.length = k ∧ (∀ x ∈ ns, (Lit.int .i64 x).wf = true) ∧ ∀ j x, ns[j]? = some x → W.cell? (a.add (i * k + j)) = some (.int .i64 x) := by
      intro i hi
      obtain ⟨cs', h1, h2⟩ := hx i hi
      obtain ⟨ns, e1, e2, e3⟩ := aGt n e he n' cs' _ h2
      obtain ⟨_, h3, h4⟩ := World.cells?_some h1
      refine ⟨ns, by rw [e2, hc], e3, fun j x hj => ?_⟩
      have hjl := (List.getElem?_eq_some_iff.1 hj).1
      have := h4 j (by rw [← h3, e1]; simpa using hjl)
      rw [Go.Deep.add_add, hc] at this
      rw [this, e1, List.getElem?_map, hj]; rfl
    obtain ⟨g, hg⟩ := Go.Deep.choose_lt each
    have hgl : ∀ i, i < len0 → (g i).length = k := fun i hi => (hg i (by omega)).1
    refine ⟨⟨some a, len0, m⟩, (List.range len0).flatMap g, rfl, ?_, hl, hm, fun j x hj => ?_, fun x hx => ?_⟩
    · have := @List.length_flatMap Nat Int (List.range len0) g
      rw [this]
      have e : (List.range len0).map (fun i => (g i).length) = List.replicate len0 k := by
        apply List.ext_getElem
        · simp
        · intro i h1 h2
          simp at h1
          simp [hgl i h1]
      rw [e]; simp
    · have hlen : ((List.range len0).flatMap g).length = len0 * k := by
        rw [List.length_flatMap]
        have e : (List.range len0).map (fun i => (g i).length) = List.replicate len0 k := by
          apply List.ext_getElem
          · simp
          · intro i h1 h2
            simp at h1
            simp [hgl i h1]
        rw [e]; simp
      have hjl := (List.getElem?_eq_some_iff.1 hj).1
      rw [hlen] at hjl
      rw [aH8 hk len0 g hgl j hjl] at hj
      have hq : j / k < len0 := (Nat.div_lt_iff_lt_mul hk).2 hjl
      have hc' := (hg (j / k) (by omega)).2.2 (j % k) x hj
      rw [show j / k * k + j % k = j from by rw [Nat.mul_comm]; exact Nat.div_add_mod j k] at hc'
      have hlt := aJP hc'
      rw [block_add] at hlt
      exact ⟨a, rfl, hlt, hc'⟩
    · obtain ⟨i, hi, hx⟩ := List.mem_flatMap.1 hx
      exact (hg i (by have := List.mem_range.1 hi; omega)).2.1 x hx
end
end Go.Proofs.YtodobkbnmjgkdaaGreat.HL
