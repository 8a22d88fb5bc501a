import Derived.Test.YtodobkbnmjgkdaaGreatPe7
set_option linter.unusedVariables false
set_option linter.unusedSimpArgs false
namespace Go.Proofs.YtodobkbnmjgkdaaGreat.HL
open Go.RowKit (Below)
section
variable {P : Program} {w0 : World} {M M' : Mem}
def gW (w0 : World) (M : Mem) (a : Option Addr) (cs : List Value) : Prop := ∀ j v, cs[j]? = some v → ∃ ad, a = some ad ∧ rd w0 M (ad.add j) = some v
theorem gW.own {b o : Nat} {cs l : List Value} {e : TypeId} (h : cS w0 M b cs e) (hl : ∀ j v, l[j]? = some v → cs[o + j]? = some v) : gW w0 M (some ⟨b, o, none⟩) l := fun j v hj =>
  ⟨_, rfl, by rw [add_eq, aN h]; exact hl j v hj⟩
theorem vL {size n len cap : Nat} {a : Option Addr} {cs : List Value} (hl : cs.length = n * size) (h : gW w0 M a cs) (hn : a = none → n = 0) : fD P w0 M (Builtin.firstCells size n (.slice a len cap)) = some cs.toArray := by
  cases a with
  | none =>
    have : cs = [] := by
      have := hn rfl; subst this; simpa using hl
    subst this; rfl
  | some b =>
    simp only [Builtin.firstCells]
    rw [← hl]
    exact aBI b cs fun j v hj => by
      obtain ⟨ad, e, hr⟩ := h j v hj
      cases e; exact hr
theorem tJ {α : Type} {c : Prop} [Decidable c] {a b : Sem α} {Q : α → Mem → Prop} : act P w0 (if c then a else b) Q M = if c then act P w0 a Q M else act P w0 b Q M := by
  split <;> rfl
def iN (z : Value) (n : Nat) : List Value := (Builtin.zeroCells z.cells n).toList
theorem pM (z : Value) (n : Nat) : (iN z n).length = n * z.cells.size := by simp [iN, Builtin.zeroCells]
theorem aEP {t ty e : TypeId} {i : TypeInfo} {z : Value} (ht : P.underlying t = some (.slice e)) (hi : P.info? e = some i) (hz : i.zero = some z) {s x : SV} {olds news : List Value} {K : VP}
    (ho : olds.length = s.n * i.size) (hco : gW w0 M s.a olds) (hno : s.a = none → s.n = 0 ∧ s.c = 0) (hn : news.length = x.n * i.size) (hcn : gW w0 M x.a news) (hnn : x.a = none → x.n = 0)
    (hb : 0 < i.bytes) (h47 : (s.n + x.n) * i.bytes ≤ 140737488355328)
    (hnil : s.a = none → x.n = 0 → K (.slice none 0 0) M)
    (hput : ∀ a, s.a = some a → s.n + x.n ≤ s.c → ∃ b o cs e', a = ⟨b, o, none⟩ ∧ cS w0 M b cs e' ∧ o + (s.n + x.n) * i.size ≤ cs.length ∧ (∀ v ∈ news, bS v = true) ∧
      K (.slice (some ⟨b, o, none⟩) (s.n + x.n) s.c) (M.set b (.row (eO cs (o + s.n * i.size) news) e')))
    (hgrow : s.c < s.n + x.n → ∀ b c, M b = none → w0.heap.size ≤ b → s.n + x.n ≤ c → K (.slice (some ⟨b, 0, none⟩) (s.n + x.n) c) (M.set b (.row (olds ++ news ++ iN z (c - (s.n + x.n))) e))) :
    (aJ P w0).app #[t, t] ty [s.v, x.v] K M := by
  obtain ⟨sa, sn, sc⟩ := s
  obtain ⟨xa, xn, xc⟩ := x
  simp only at *
  have hfn : fD P w0 M (Builtin.firstCells i.size xn (.slice xa xn xc)) = some news.toArray := vL hn hcn hnn
  have hfo : fD P w0 M (Builtin.firstCells i.size sn (.slice sa sn sc)) = some olds.toArray := vL ho hco (fun h => (hno h).1)
  show act P w0 (Builtin.append_ #[t, t] ty #[.slice sa sn sc, .slice xa xn xc]) K M
  unfold Builtin.append_
  simp only [List.getElem?_toArray, List.getElem?_cons_zero, List.getElem?_cons_succ, cA (eP ht), cA (oE hi), eJ, iP, nT (eP ht), Builtin.lenOf, Bool.false_eq_true, if_false, Bool.not_false, if_true, ite_true]
  by_cases h : sn + xn ≤ sc
  · rw [if_pos h, cA hfn]
    cases sa with
    | none =>
      obtain ⟨e1, e2⟩ := hno rfl
      have e3 : xn = 0 := by omega
      subst e1; subst e2; subst e3
      exact hnil rfl rfl
    | some a =>
      obtain ⟨b, o, cs, e', rfl, hown, hl, hv, hK⟩ := hput a rfl h
      simp only [add_eq]
      refine uA (f := fun _ => pure (Value.slice (some ⟨b, o, none⟩) (sn + xn) sc)) b news cs (o + sn * i.size) 0 e' M hown.1 hown.2 ?_ hv ?_
      · rw [hn, Nat.add_zero, Nat.add_assoc, ← Nat.add_mul]; exact hl
      · simpa only [iP, Nat.add_zero] using hK
  · have hg : sc < sn + xn := by omega
    have hlen : sn + xn ≤ 140737488355328 := Nat.le_trans (Nat.le_mul_of_pos_right _ hb) h47
    have h63 : ¬ (((sn + xn : Nat) : Int) > IntKind.i64.max ∧ (False ∨ i.bytes = 0)) := by
      rintro ⟨_, h0 | h0⟩
      · exact h0
      · omega
    have h48 : ¬ (Builtin.nextslicecap (sn + xn) sc * i.bytes > 2 ^ 48) := by
      have := growslice_fits (bytes := i.bytes) hg h47
      omega
    rw [if_neg h, cA (lV hi), if_neg h63, cA (lV hi)]
    rw [if_neg h48, eJ]
    show act P w0 (choose _) _ M
    unfold choose
    simp only [act]
    rw [if_neg (by simp [Question.forced])]
    intro tp
    simp only [Question.cut]
    generalize hc : sn + xn + tp % (2 ^ 63 - (sn + xn)) = c
    have hnc : sn + xn ≤ c := by omega
    have key : act P w0 (do
        let old ← Builtin.firstCells i.size sn (Value.slice sa sn sc)
        let new ← Builtin.firstCells i.size xn (Value.slice xa xn xc)
        let zs ← zeroValue e
        let r ← newRow e (old ++ new ++ Builtin.zeroCells zs.cells (c - (sn + xn)))
        pure (Value.slice (some r) (sn + xn) c)) K M := by
      rw [cA hfo, cA hfn, cA (rF hi hz)]
      simp only [newRow, newObj]
      refine ⟨rfl, fun b hb0 hb1 => ?_⟩
      have := hgrow hg b c hb0 hb1 hnc
      show K (.slice (some ⟨b, 0, none⟩) (sn + xn) c) (M.set b (.row ((olds.toArray ++ news.toArray ++ Builtin.zeroCells z.cells (c - (sn + xn))).toList) e))
      simpa [iN, List.append_assoc] using this
    rw [cA (lV hi)]
    unfold askRoom
    rw [eJ, tJ]
    split
    · exact key
    · exact key
theorem aAK {c : Array Value} {e : TypeId} {β : Type} {f : Nat → Sem β} {Q : β → Mem → Prop} (h : ∀ b, M b = none → w0.heap.size ≤ b → act P w0 (f b) Q (M.set b (.row c.toList e))) : act P w0 (newObj (.cells c e) >>= f) Q M := ⟨rfl, h⟩
theorem aLt {t e : TypeId} {i : TypeInfo} {z : Value} (ht : P.underlying t = some (.slice e)) (hi : P.info? e = some i) (hz : i.zero = some z) {k k' : IntKind} {n c : Nat} {K : VP}
    (hzs : z.cells.size = i.size) (hnc : n ≤ c) (h48 : i.bytes * c ≤ 281474976710656) (hc : c ≤ 281474976710656)
    (h : ∀ b, M b = none → w0.heap.size ≤ b → K (.slice (some ⟨b, 0, none⟩) n c) (M.set b (.row (iN z c) e))) :
    (aJ P w0).mks t (.int k n) (.int k' c) K M := by
  show act P w0 (Instr.makeSlice t (.int k n) (.int k' c)) K M
  unfold Instr.makeSlice
  rw [cA (eP ht)]
  have wn : IntKind.i64.wrap (n : Int) = n := aQ (by omega)
  have wc : IntKind.i64.wrap (c : Int) = c := aQ (by omega)
  simp only [asInt]
  show act P w0 (typeInfo e >>= _) K M
  rw [cA (lV hi)]
  simp only [wn, wc]
  have t1 : (decide ((c : Int) < 0) || decide ((i.bytes : Int) * c > 2 ^ 48)) = false := by
    have : ¬ ((c : Int) < 0) := by omega
    have h2 : ¬ ((i.bytes : Int) * c > 2 ^ 48) := by
      rw [show (2 : Int) ^ 48 = 281474976710656 from rfl, ← Int.natCast_mul]
      exact Int.not_lt.2 (Int.ofNat_le.2 h48)
    simp only [this, h2, decide_false, Bool.or_false]
  have t2 : ¬ ((n : Int) < 0) := by omega
  have t3 : ¬ ((n : Int) > c) := by omega
  rw [if_neg (by simp only [t1, t2, t3, decide_false, Bool.or_false]; exact Bool.false_ne_true)]
  simp only [Int.toNat_natCast]
  have hm : ∀ (v : Array Value) (n : Nat), ((Array.range n).map fun x => v[x % v.size]!).toList = (List.range n).map fun x => v[x % v.size]! := by intro v n; simp
  have key : act P w0 (do
      let sz ← sizeOf e
      if c * sz = 0 then do
        let zero ← pure #[]
        let a ← newRow e ((Array.range (c * sz)).map (zero[· % zero.size]!))
        pure (Value.slice (some a) n c)
      else do
        let z ← zeroValue e
        let zero ← pure z.cells
        let a ← newRow e ((Array.range (c * sz)).map (zero[· % zero.size]!))
        pure (Value.slice (some a) n c)) K M := by
    rw [cA (oE hi)]
    have hzc : iN z c = (List.range (c * i.size)).map fun x => z.cells[x % z.cells.size]! := by
      simp [iN, Builtin.zeroCells, hzs]
    by_cases h0 : c * i.size = 0
    · rw [if_pos h0]
      refine aAK (f := fun b => pure (Value.slice (some ⟨b, 0, none⟩) n c)) fun b h1 h2 => ?_
      have := h b h1 h2
      rw [hzc] at this
      rw [hm, iP]
      rw [h0] at this ⊢
      exact this
    · rw [if_neg h0]
      rw [cA (rF hi hz)]
      refine aAK (f := fun b => pure (Value.slice (some ⟨b, 0, none⟩) n c)) fun b h1 h2 => ?_
      have := h b h1 h2
      rw [hzc] at this
      rw [hm, iP]
      exact this
  unfold askRoom
  rw [eJ, tJ]
  split
  · exact key
  · exact key
theorem aIR {t e : TypeId} {i : TypeInfo} {z : Value} {n : Nat} {parts : List (Nat × Value)} {cells : Array Value} (ht : P.underlying t = some (.slice e)) (hi : P.info? e = some i) (hz : i.zero = some z)
    (h24 : n * i.size ≤ 16777216) (hc : Instr.fill (fun k => some (k * i.size, i.size)) ((Array.range (n * i.size)).map (z.cells[· % z.cells.size]!)) parts = some cells) {K : VP}
    (h : ∀ b, M b = none → w0.heap.size ≤ b → K (.slice (some ⟨b, 0, none⟩) n n) (M.set b (.row cells.toList e))) : (aJ P w0).bsl t n parts K M := by
  show act P w0 (Instr.buildSlice t n parts.toArray) K M
  unfold Instr.buildSlice
  rw [cA (eP ht)]
  simp only
  rw [cA (oE hi)]
  have h24' : ¬ (n * i.size > 2 ^ 24) := by omega
  simp only [if_neg h24']
  by_cases h0 : n * i.size = 0
  · rw [if_pos h0]
    simp only [h0] at hc ⊢
    rw [eJ, iP]
    have e1 : (Array.range 0).map (fun x => (#[] : Array Value)[x % (#[] : Array Value).size]!) = (Array.range 0).map (fun x => z.cells[x % z.cells.size]!) := by simp
    simp only [e1, hc]
    exact aAK (f := fun b => pure (Value.slice (some ⟨b, 0, none⟩) n n)) h
  · rw [if_neg h0, cA (rF hi hz), eJ, iP]
    simp only [hc]
    exact aAK (f := fun b => pure (Value.slice (some ⟨b, 0, none⟩) n n)) h
structure qO (w0 : World) (M0 : Mem) (k : IntKind) (s : SV) (l : List Int) : Prop where
  len : s.n = l.length
  cap : s.n ≤ s.c
  max : l.length ≤ 9223372036854775807
  cell : ∀ j x, l[j]? = some x → ∃ a, s.a = some a ∧ ∀ M, Mem.le M0 M → rd w0 M (a.add j) = some (.int k x)
  wf : ∀ n ∈ l, (Lit.int k n).wf = true
theorem qO.at {M0 : Mem} {k : IntKind} {s : SV} {l : List Int} (h : qO w0 M0 k s l) {i : Nat} (hi : i < l.length) : ∃ a, s.a = some a ∧ ∀ M, Mem.le M0 M → rd w0 M (a.add i) = some (.int k l[i]) :=
  h.cell i l[i] (List.getElem?_eq_getElem hi)
theorem qO.le {M0 M1 : Mem} {k : IntKind} {s : SV} {l : List Int} (h : qO w0 M0 k s l) (hl : Mem.le M0 M1) : qO w0 M1 k s l :=
  ⟨h.len, h.cap, h.max, fun j x hx => by
    obtain ⟨a, ha, hr⟩ := h.cell j x hx
    exact ⟨a, ha, fun M hM => hr M (Mem.le_trans hl hM)⟩, h.wf⟩
theorem qO.own {M0 : Mem} {k : IntKind} {b o n c : Nat} {l : List Int} {cs : List Value} {e : TypeId} (h : cS w0 M0 b cs e) (hn : n = l.length) (hc : n ≤ c) (hcs : ∀ j x, l[j]? = some x → cs[o + j]? = some (.int k x)) (hw : ∀ n ∈ l, (Lit.int k n).wf = true) (hm : l.length ≤ 9223372036854775807) :
    qO w0 M0 k ⟨some ⟨b, o, none⟩, n, c⟩ l :=
  ⟨hn, hc, hm, fun j x hx => ⟨_, rfl, fun M hM => by rw [add_eq, aN (h.le hM)]; exact hcs j x hx⟩, hw⟩
def jU (P : Program) (e : TypeId) (z : Value) (n : Nat) : Prop := ∃ i, P.info? e = some i ∧ i.zero = some z ∧ i.size = n ∧ z.cells.size = n ∧ 0 < i.bytes ∧ i.bytes ≤ 1024
def aKK (i : TypeInfo) : Option Value × Nat × Bool := (i.zero, i.size, Nat.blt 0 i.bytes && Nat.ble i.bytes 1024 && (match i.zero with
  | some z => Nat.beq z.cells.size i.size
  | none => false))
theorem nW {e : TypeId} {z : Value} {n : Nat} (h : (P.info? e).map aKK = some (some z, n, true)) (h2 : True = True) : jU P e z n := by
  cases hi : P.info? e with
  | none => rw [hi] at h; cases h
  | some i =>
    rw [hi] at h
    simp only [Option.map_some, aKK, Option.some.injEq, Prod.mk.injEq, Bool.and_eq_true] at h
    obtain ⟨h1, h2, ⟨h3, h4⟩, h5⟩ := h
    rw [h1] at h5
    exact ⟨i, hi, h1, h2, by rw [← h2]; exact Nat.eq_of_beq_eq_true h5, Nat.le_of_ble_eq_true h3, Nat.le_of_ble_eq_true h4⟩
theorem pure_bind {α β : Type} {s : Sem α} {f : α → Sem β} : dT P (s >>= f) = (dT P s).bind fun a => dT P (f a) := by
  show dT P (s.bind f) = _
  induction s with
  | pure x => rfl
  | program k ih => exact ih P
  | _ => rfl
theorem uS {t : TypeId} {d : TypeDesc} (h : P.underlying t = some d) : dT P (underlying t) = some d := by
  show dT P (match P.underlying t with | some d => pure d | none => stuck "no such type") = _
  rw [h]; rfl
theorem aA9 {t : TypeId} {X Y : Operand} {x y : Value} {b : Bool} (hg : ∀ op, dT P (eqGuard op t X Y x y) = some ()) (he : binOp .eql t x y = do pure (.bool (← Op.equal t x y))) (h : dT P (Op.equal t x y) = some b) :
    (aJ P w0).bq .eql t X Y x y = some (.bool b) := by
  show dT P (eqGuard .eql t X Y x y >>= fun _ => binOp .eql t x y) = _
  rw [pure_bind, hg, he]
  show dT P (Op.equal t x y >>= fun b => pure (Value.bool b)) = _
  rw [pure_bind, h]; rfl
theorem aBR {t : TypeId} {X Y : Operand} {x y : Value} {b : Bool} (hg : ∀ op, dT P (eqGuard op t X Y x y) = some ()) (he : binOp .neq t x y = do pure (.bool (!(← Op.equal t x y)))) (h : dT P (Op.equal t x y) = some b) :
    (aJ P w0).bq .neq t X Y x y = some (.bool (!b)) := by
  show dT P (eqGuard .neq t X Y x y >>= fun _ => binOp .neq t x y) = _
  rw [pure_bind, hg, he]
  show dT P (Op.equal t x y >>= fun b => pure (Value.bool (!b))) = _
  rw [pure_bind, h]; rfl
theorem aCy {t e : TypeId} (h : P.underlying t = some (.pointer e)) (a : Option Addr) : dT P (Op.equal t (.pointer a) (.pointer none)) = some a.isNone := by
  unfold Op.equal
  rw [show Op.maxDepth = 9999 + 1 from rfl]
  unfold Op.equalIn
  rw [pure_bind, uS h]; cases a <;> rfl
theorem aD7 {t e : TypeId} (h : P.underlying t = some (.slice e)) (a : Option Addr) (n c : Nat) : dT P (Op.equal t (.slice a n c) (.slice none 0 0)) = some a.isNone := by
  unfold Op.equal
  rw [show Op.maxDepth = 9999 + 1 from rfl]
  unfold Op.equalIn
  rw [pure_bind, uS h]; cases a <;> rfl
theorem aAJ {t e : TypeId} (h : P.underlying t = some (.pointer e)) {X Y : Operand} (a : Option Addr) : (aJ P w0).bq .eql t X Y (.pointer a) (.pointer none) = some (.bool a.isNone) := aA9 (fun op => by cases op <;> rfl) rfl (aCy h a)
theorem aJH {t e : TypeId} (h : P.underlying t = some (.pointer e)) {X Y : Operand} (a : Option Addr) : (aJ P w0).bq .neq t X Y (.pointer a) (.pointer none) = some (.bool (!a.isNone)) := aBR (fun op => by cases op <;> rfl) rfl (aCy h a)
theorem aIs {t e : TypeId} (h : P.underlying t = some (.slice e)) {X Y : Operand} (s : SV) : (aJ P w0).bq .eql t X Y (SV.v s) (.slice none 0 0) = some (.bool s.a.isNone) := aA9 (fun op => by cases op <;> rfl) rfl (aD7 h _ _ _)
def Sl (w0 : World) (M0 M : Mem) (s : SV) (l : List Value) : Prop :=
  (s = ⟨none, 0, 0⟩ ∧ l = []) ∨ ∃ b rest e, s = ⟨some ⟨b, 0, none⟩, l.length, l.length + rest.length⟩ ∧ M0 b = none ∧ cS w0 M b (l ++ rest) e
theorem Sl.nil {M0 : Mem} : Sl w0 M0 M ⟨none, 0, 0⟩ [] := .inl ⟨rfl, rfl⟩
theorem Sl.len {M0 : Mem} {s : SV} {l : List Value} (h : Sl w0 M0 M s l) : s.n = l.length := by
  rcases h with ⟨rfl, rfl⟩ | ⟨b, rest, e, rfl, _⟩ <;> rfl
theorem Sl.none {M0 : Mem} {s : SV} {l : List Value} (h : Sl w0 M0 M s l) (hn : s.a = none) : s.n = 0 ∧ s.c = 0 := by
  rcases h with ⟨rfl, rfl⟩ | ⟨b, rest, e, rfl, _⟩
  · exact ⟨rfl, rfl⟩
  · cases hn
theorem Sl.cells {M0 : Mem} {s : SV} {l : List Value} (h : Sl w0 M0 M s l) : gW w0 M s.a l := by
  rcases h with ⟨rfl, rfl⟩ | ⟨b, rest, e, rfl, _, ho⟩
  · intro j v hj; simp at hj
  · exact gW.own ho fun j v hj => by rw [Nat.zero_add, List.getElem?_append_left (List.getElem?_eq_some_iff.1 hj).1]; exact hj
theorem Sl.rdI {M0 : Mem} {k : IntKind} {s : SV} {l : List Int} (h : Sl w0 M0 M s (l.map (Value.int k))) (hw : ∀ n ∈ l, (Lit.int k n).wf = true) (hm : l.length ≤ 9223372036854775807) : qO w0 M k s l := by
  rcases h with ⟨rfl, hl⟩ | ⟨b, rest, e, rfl, _, ho⟩
  · have : l = [] := by simpa using hl
    subst this
    exact ⟨rfl, Nat.le_refl _, by simp, fun j x hx => by simp at hx, hw⟩
  · refine qO.own ho (by simp) (by simp) (fun j x hx => ?_) hw hm
    have hj := (List.getElem?_eq_some_iff.1 hx).1
    rw [Nat.zero_add, List.getElem?_append_left (by simpa using hj), List.getElem?_map, hx]; rfl
theorem Sl.le {M0 M1 : Mem} {s : SV} {l : List Value} (h : Sl w0 M0 M s l) (hl : Mem.le M M1) : Sl w0 M0 M1 s l := by
  rcases h with h | ⟨b, rest, e, h1, h2, ho⟩
  · exact .inl h
  · exact .inr ⟨b, rest, e, h1, h2, ho.le hl⟩
theorem le_none {M0 : Mem} (hl : Mem.le M0 M) {b : Nat} (h : M b = none) : M0 b = none := by
  cases h0 : M0 b with
  | none => rfl
  | some o => rw [hl b o h0] at h; cases h
theorem xE {M0 : Mem} (hl : Mem.le M0 M) {b : Nat} {o : Ob} (h : M0 b = none) : Mem.le M0 (M.set b o) := fun x o' hx => by
  rw [Mem.nD _ _ (fun e => by subst e; rw [h] at hx; cases hx)]; exact hl x o' hx
theorem aI5 {t ty e : TypeId} {z : Value} {M0 : Mem} (ht : P.underlying t = some (.slice e)) (he : jU P e z 1) {s x : SV} {l news : List Value} {K : VP} (hle : Mem.le M0 M) (hs : Sl w0 M0 M s l)
    (hn : x.n = news.length) (hcn : gW w0 M x.a news) (hnn : x.a = none → x.n = 0) (hone : ∀ v ∈ news, bS v = true) (hb : l.length + news.length ≤ 137438953472)
    (h : ∀ M' s', Mem.le M0 M' → Sl w0 M0 M' s' (l ++ news) → K s'.v M') : (aJ P w0).app #[t, t] ty [s.v, x.v] K M := by
  obtain ⟨i, hi, hz, hsz, hzs, hb1, hb2⟩ := he
  refine aEP ht hi hz (olds := l) (news := news) (by rw [hs.len, hsz]; omega) hs.cells hs.none (by rw [hn, hsz]; omega) hcn hnn hb1 ?_ ?_ ?_ ?_
  · rw [hs.len, hn]
    exact Nat.le_trans (Nat.mul_le_mul hb hb2) (by decide)
  · intro ha hx0
    have hl : l = [] := List.eq_nil_of_length_eq_zero (by rw [← hs.len]; exact (hs.none ha).1)
    have hw : news = [] := List.eq_nil_of_length_eq_zero (by rw [← hn]; exact hx0)
    subst hl; subst hw
    exact h M ⟨_, 0, 0⟩ hle Sl.nil
  · intro a ha hfit
    rcases hs with ⟨rfl, _⟩ | ⟨b, rest, e', rfl, h0, ho⟩
    · cases ha
    · cases ha
      simp only at hfit
      refine ⟨b, 0, l ++ rest, e', rfl, ho, by rw [hsz, List.length_append]; show 0 + (l.length + x.n) * 1 ≤ _; omega, hone, ?_⟩
      have hr : l.length + news.length ≤ (l ++ rest).length := by rw [List.length_append, ← hn]; exact hfit
      have e1 : eO (l ++ rest) (0 + l.length * i.size) news = (l ++ news) ++ rest.drop news.length := by
        apply List.ext_getElem?
        intro j
        rw [hsz, Nat.mul_one, Nat.zero_add, xH _ _ _ _ hr, List.getElem?_append, List.getElem?_append, List.length_append, List.getElem?_append]
        by_cases h1 : j < l.length
        · rw [if_pos h1, if_pos h1, if_pos (by omega), if_pos h1]
        · rw [if_neg h1]
          by_cases h2 : j < l.length + news.length
          · rw [if_pos h2, if_pos h2, if_neg h1]
          · rw [if_neg h2, if_neg h1, if_neg h2, List.getElem?_drop]; congr 1; omega
      simp only
      rw [e1]
      refine h _ ⟨some ⟨b, 0, none⟩, _, _⟩ (xE hle h0) (.inr ⟨b, rest.drop news.length, e', ?_, h0, ho.upd⟩)
      rw [List.length_append] at hr
      simp only [List.length_append, List.length_drop, hn, SV.mk.injEq, true_and]
      omega
  · intro hg b c hb0 hw0 hc
    refine h _ ⟨some ⟨b, 0, none⟩, _, _⟩ (xE hle (le_none hle hb0)) (.inr ⟨b, iN z (c - (s.n + x.n)), e, ?_, le_none hle hb0, cS.new hw0⟩)
    rw [pM, hzs, Nat.mul_one, List.length_append, hs.len, hn]
    rw [hs.len, hn] at hc
    simp only [SV.mk.injEq, true_and]
    omega
theorem aIv {t e : TypeId} {z : Value} {M0 : Mem} {n : Nat} {parts : List (Nat × Value)} {cells : Array Value} (hle : Mem.le M0 M) (ht : P.underlying t = some (.slice e)) (he : jU P e z 1)
    (h24 : n ≤ 16777216) (hc : Instr.fill (fun k => some (k * 1, 1)) ((Array.range (n * 1)).map (z.cells[· % z.cells.size]!)) parts = some cells) (hn : cells.size = n) {K : VP}
    (h : ∀ M' s', Mem.le M0 M' → Mem.le M M' → Sl w0 M0 M' s' cells.toList → K s'.v M') : (aJ P w0).bsl t n parts K M := by
  obtain ⟨i, hi, hz, h1, _⟩ := he
  refine aIR ht hi hz (by rw [h1]; omega) (by rw [h1]; exact hc) fun b hb0 hw0 => ?_
  refine h _ ⟨some ⟨b, 0, none⟩, n, n⟩ (xE hle (le_none hle hb0)) (Mem.fC _ hb0) (.inr ⟨b, [], e, ?_, le_none hle hb0, ?_⟩)
  · simp [hn]
  · rw [List.append_nil]; exact cS.new hw0
end
end Go.Proofs.YtodobkbnmjgkdaaGreat.HL
