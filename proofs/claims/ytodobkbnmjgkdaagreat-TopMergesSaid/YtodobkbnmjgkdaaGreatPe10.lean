import Derived.Test.YtodobkbnmjgkdaaGreatPe9
set_option linter.unusedVariables false
set_option linter.unusedSimpArgs false
namespace Go.Proofs.YtodobkbnmjgkdaaGreat.HL
open Go.RowKit (Below)
def gC (n : Int) : Prop := -9223372036854775808 ≤ n ∧ n ≤ 9223372036854775807
theorem aIa {n : Int} (h : (Lit.int .i64 n).wf = true) : gC n := by
  simp only [Lit.wf, Bool.and_eq_true, decide_eq_true_eq] at h
  unfold gC
  simpa [IntKind.min, IntKind.max, IntKind.signed, IntKind.bits] using h
theorem bX {i : Nat} (h : i < 4611686018427387904) : lN ((i : Int) + 1) = ((i + 1 : Nat) : Int) := by
  rw [aQ (by omega)]; omega
theorem aEa {i : Nat} (h0 : 1 ≤ i) (h : i ≤ 9223372036854775807) : lN ((i : Int) - 1) = ((i - 1 : Nat) : Int) := by
  rw [aQ (by omega)]; omega
theorem tN (b : Bool) (A B : Prop) : bs (!b) A B = bs b B A := by cases b <;> rfl
theorem fJ (a b : Int) (A B : Prop) : bs (a == b) A B = if a = b then A else B := by
  have e : (a == b) = decide (a = b) := by rw [Bool.eq_iff_iff]; simp
  rw [e, cR]
theorem cB (a b : Int) (A B : Prop) : bs (a != b) A B = if a = b then B else A := by
  rw [bne, tN, fJ]
theorem aHT {n : Int} (h : gC n) : (Lit.int .i64 n).wf = true := by
  simp only [Lit.wf, Bool.and_eq_true, decide_eq_true_eq]
  unfold gC at h
  simpa [IntKind.min, IntKind.max, IntKind.signed, IntKind.bits] using h
section
variable {P : Program} {w0 : World} {M M0 : Mem}
theorem rN {t e : TypeId} {z : Value} {sz n : Nat} {parts : List (Nat × Value)} {cells : Array Value} (ht : P.underlying t = some (.slice e)) (he : jU P e z sz)
    (h24 : n * sz ≤ 16777216) (hc : Instr.fill (fun k => some (k * sz, sz)) ((Array.range (n * sz)).map (z.cells[· % z.cells.size]!)) parts = some cells) {K : VP}
    (h : ∀ b, M b = none → w0.heap.size ≤ b → K (.slice (some ⟨b, 0, none⟩) n n) (M.set b (.row cells.toList e))) : (aJ P w0).bsl t n parts K M := by
  obtain ⟨i, hi, hz, rfl, _⟩ := he
  exact aIR ht hi hz h24 hc h
theorem aJq (l : List Int) (j : Nat) (x : Int) (h : l[j]? = some x) : (l.map fun n => Value.int .i64 n)[0 + j]? = some (.int .i64 x) := by
  rw [Nat.zero_add, List.getElem?_map, h]; rfl
theorem rdx {t : TypeId} (ht : iF P t = true) {k : IntKind} {s : SV} {l : List Int} (h : qO w0 M0 k s l) (hl : Mem.le M0 M) {i : Int} (j : Nat) (e : i = (j : Int)) {x : Int} (hx : l[j]? = some x) {K : Int → Prop} (hK : K x) :
    nc s.a fun a => (0 ≤ i ∧ i < ((s.n : Nat) : Int)) ∧ ob ((aJ P w0).ld t (a.add (i.toNat * 1)) M) fun v => mZ k v fun n => K n := by
  subst e
  obtain ⟨a, ea, hr⟩ := h.cell j x hx
  have hj := (List.getElem?_eq_some_iff.1 hx).1
  rw [ea, aT, aR ht, Int.toNat_natCast, Nat.mul_one, hr M hl, aC, aL]
  exact ⟨⟨by omega, by rw [h.len]; omega⟩, hK⟩
theorem rdy {k : IntKind} {s : SV} {l : List Int} (h : qO w0 M0 k s l) (hl : Mem.le M0 M) {i : Int} (j : Nat) (e : i = (j : Int)) {x : Int} (hx : l[j]? = some x) {K : Int → Prop} (hK : K x) :
    nc s.a fun a => (0 ≤ i ∧ i < ((s.n : Nat) : Int)) ∧ ob (rd w0 M (a.add (i.toNat * 1))) fun v => mZ k v fun n => K n := by
  subst e
  obtain ⟨a, ea, hr⟩ := h.cell j x hx
  have hj := (List.getElem?_eq_some_iff.1 hx).1
  rw [ea, aT, Int.toNat_natCast, Nat.mul_one, hr M hl, aC, aL]
  exact ⟨⟨by omega, by rw [h.len]; omega⟩, hK⟩
theorem qO.drop {k : IntKind} {s : SV} {l : List Int} (h : qO w0 M0 k s l) {i : Nat} (hi : i ≤ s.n) : qO w0 M0 k ⟨if s.c = i then s.a else s.a.map (·.add (i * 1)), s.n - i, s.c - i⟩ (l.drop i) := by
  have hlen := h.len
  have hcap := h.cap
  refine ⟨by simp [hlen], by simp only; omega, by have := h.max; simp; omega, fun j x hx => ?_, fun n hn => h.wf n (List.mem_of_mem_drop hn)⟩
  rw [List.getElem?_drop] at hx
  have hj := (List.getElem?_eq_some_iff.1 hx).1
  obtain ⟨a, ea, hr⟩ := h.cell (i + j) x hx
  refine ⟨a.add i, by simp only; rw [if_neg (by omega), ea, Nat.mul_one]; rfl, fun M hM => ?_⟩
  rw [← hr M hM]
  congr 1
  rcases Nat.eq_zero_or_pos i with h0 | h0
  · subst h0; rw [Nat.zero_add]; unfold Addr.add; simp
  · rcases Nat.eq_zero_or_pos j with h1 | h1
    · subst h1; unfold Addr.add; simp
    · unfold Addr.add
      rw [if_neg (by omega), if_neg (by omega), if_neg (by omega)]
      simp [Nat.add_assoc]
theorem qO.sub {k : IntKind} {s : SV} {l : List Int} (h : qO w0 M0 k s l) {i : Int} (j : Nat) (e : i.toNat = j) (hi : j ≤ s.n) :
    qO w0 M0 k ⟨if s.c = i.toNat then s.a else s.a.map (·.add (i.toNat * 1)), ((s.n : Nat) : Int).toNat - i.toNat, s.c - i.toNat⟩ (l.drop j) := by
  subst e
  rw [Int.toNat_natCast]
  exact h.drop hi
theorem qO.take {k : IntKind} {s : SV} {l : List Int} (h : qO w0 M0 k s l) {i : Nat} (hi : i ≤ s.n) {a : Option Addr} {c : Nat} (ha : 0 < i → a = s.a) (hc : i ≤ c) : qO w0 M0 k ⟨a, i, c⟩ (l.take i) := by
  have hlen := h.len
  have hcap := h.cap
  refine ⟨by simp; omega, hc, by have := h.max; simp; omega, fun j x hx => ?_, fun n hn => h.wf n (List.mem_of_mem_take hn)⟩
  have hj := (List.getElem?_eq_some_iff.1 hx).1
  simp only [List.length_take] at hj
  rw [List.getElem?_take_of_lt (by omega)] at hx
  obtain ⟨a', ea, hr⟩ := h.cell j x hx
  exact ⟨a', by rw [ha (by omega), ea], hr⟩
theorem qO.cells {k : IntKind} {s : SV} {l : List Int} (h : qO w0 M0 k s l) (hl : Mem.le M0 M) : gW w0 M s.a (l.map (Value.int k)) := by
  intro j v hv
  rw [List.getElem?_map] at hv
  cases hx : l[j]? with
  | none => rw [hx] at hv; cases hv
  | some x =>
    rw [hx] at hv; cases hv
    obtain ⟨a, ea, hr⟩ := h.cell j x hx
    exact ⟨a, ea, hr M hl⟩
theorem qO.nil {k : IntKind} : qO w0 M0 k ⟨none, 0, 0⟩ [] := ⟨rfl, Nat.le_refl _, by simp, fun j x hx => by simp at hx, fun n hn => by cases hn⟩
theorem qO.none {k : IntKind} {s : SV} {l : List Int} (h : qO w0 M0 k s l) (hn : s.a = none) : s.n = 0 := by
  cases l with
  | nil => exact h.len
  | cons x l => obtain ⟨a, ea, _⟩ := h.cell 0 x rfl; rw [hn] at ea; cases ea
theorem aEh (k : IntKind) (l : List Int) : ∀ v ∈ l.map (Value.int k), bS v = true := by
  intro v hv
  obtain ⟨x, _, rfl⟩ := List.mem_map.1 hv
  rfl
theorem aLC {t ty e : TypeId} {z : Value} {Mb : Mem} (ht : P.underlying t = some (.slice e)) (he : jU P e z 1) {k : IntKind} {s x : SV} {l m : List Int} {K : VP} (hle : Mem.le Mb M) (hs : Sl w0 Mb M s (l.map (Value.int k)))
    (hx : qO w0 M0 k x m) (hl : Mem.le M0 M) (hb : l.length + m.length ≤ 137438953472)
    (h : ∀ M' s', Mem.le Mb M' → Sl w0 Mb M' s' ((l ++ m).map (Value.int k)) → K s'.v M') : (aJ P w0).app #[t, t] ty [s.v, x.v] K M := by
  refine aI5 ht he hle hs (news := m.map (Value.int k)) (by rw [hx.len]; simp) (hx.cells hl) hx.none (aEh k m) (by simpa using hb) fun M' s' h1 h2 => ?_
  rw [← List.map_append] at h2
  exact h M' s' h1 h2
theorem aF2 {t ty e : TypeId} {z : Value} {Mb M1 : Mem} (ht : P.underlying t = some (.slice e)) (he : jU P e z 1) {k : IntKind} {s x : SV} {l m : List Int} {K : VP} (hle : Mem.le Mb M) (hs : Sl w0 Mb M s (l.map (Value.int k)))
    (hx : Sl w0 M1 M x (m.map (Value.int k))) (hb : l.length + m.length ≤ 137438953472)
    (h : ∀ M' s', Mem.le Mb M' → Sl w0 Mb M' s' ((l ++ m).map (Value.int k)) → K s'.v M') : (aJ P w0).app #[t, t] ty [s.v, x.v] K M := by
  refine aI5 ht he hle hs (news := m.map (Value.int k)) hx.len hx.cells (fun hn => (hx.none hn).1) (aEh k m) (by simpa using hb) fun M' s' h1 h2 => ?_
  rw [← List.map_append] at h2
  exact h M' s' h1 h2
theorem stx {t : TypeId} (ht : iF P t = true) {s : SV} {l : List Value} (hs : Sl w0 M0 M s l) (hl : Mem.le M0 M) {i : Int} (j : Nat) (e : i = (j : Int)) (hj : j < l.length) {v : Value} (hv : bS v = true) (hc : v.cells = #[v]) {K : Mem → Prop}
    (hK : ∀ M', Mem.le M0 M' → Sl w0 M0 M' s (l.set j v) → K M') : nc s.a fun a => (0 ≤ i ∧ i < ((s.n : Nat) : Int)) ∧ (aJ P w0).st t (a.add (i.toNat * 1)) v (fun M' => K M') M := by
  subst e
  rcases hs with ⟨rfl, rfl⟩ | ⟨b, rest, e, rfl, h0, ho⟩
  · simp at hj
  · simp only [aT]
    refine ⟨⟨by omega, by omega⟩, ?_⟩
    rw [Int.toNat_natCast, Nat.mul_one, add_eq, Nat.zero_add]
    refine gO ht ho (by rw [List.length_append]; omega) hv hc ?_
    refine hK _ (xE hl h0) (.inr ⟨b, rest, e, by simp, h0, ?_⟩)
    rw [← List.set_append_left _ _ hj]
    exact ho.upd
theorem rdv {s : SV} {l : List Value} (hc : gW w0 M s.a l) (hn : s.n = l.length) {i : Int} (j : Nat) (e : i = (j : Int)) {v : Value} (hv : l[j]? = some v) {K : Value → Prop} (hK : K v) :
    nc s.a fun a => (0 ≤ i ∧ i < ((s.n : Nat) : Int)) ∧ ob (rd w0 M (a.add (i.toNat * 1))) fun v => K v := by
  subst e
  obtain ⟨a, ea, hr⟩ := hc j v hv
  have hj := (List.getElem?_eq_some_iff.1 hv).1
  rw [ea, aT, Int.toNat_natCast, Nat.mul_one, hr, aC]
  exact ⟨⟨by omega, by rw [hn]; omega⟩, hK⟩
theorem add_add (a : Addr) (i j : Nat) : (a.add i).add j = a.add (i + j) := by
  unfold Addr.add
  by_cases hi : i = 0 <;> by_cases hj : j = 0 <;> simp [hi, hj, Nat.add_assoc]
structure RdF (w0 : World) (M0 : Mem) (k : Nat) (s : SV) (l : List Int) : Prop where
  len : l.length = s.n * k
  cap : s.n ≤ s.c
  max : s.n ≤ 9223372036854775807
  cell : ∀ j x, l[j]? = some x → ∃ a, s.a = some a ∧ ∀ M, Mem.le M0 M → rd w0 M (a.add j) = some (.int .i64 x)
  wf : ∀ n ∈ l, (Lit.int .i64 n).wf = true
theorem RdF.le {M0 M1 : Mem} {k : Nat} {s : SV} {l : List Int} (h : RdF w0 M0 k s l) (hl : Mem.le M0 M1) : RdF w0 M1 k s l :=
  ⟨h.len, h.cap, h.max, fun j x hx => by
    obtain ⟨a, ha, hr⟩ := h.cell j x hx
    exact ⟨a, ha, fun M hM => hr M (Mem.le_trans hl hM)⟩, h.wf⟩
theorem RdF.get {k : Nat} {s : SV} {l : List Int} (h : RdF w0 M0 k s l) {i f : Nat} (hi : i < s.n) (hf : f < k) : ∃ x, l[i * k + f]? = some x ∧ gC x := by
  have hlt : i * k + f < l.length := by
    rw [h.len]
    have : (i + 1) * k ≤ s.n * k := Nat.mul_le_mul_right k hi
    rw [Nat.succ_mul] at this; omega
  exact ⟨l[i * k + f], List.getElem?_eq_getElem hlt, aIa (h.wf _ (List.getElem_mem hlt))⟩
end
end Go.Proofs.YtodobkbnmjgkdaaGreat.HL
