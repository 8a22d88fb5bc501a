import Derived.Test.YtodobkbnmjgkdaaGreatPe4
set_option linter.unusedVariables false
set_option linter.unusedSimpArgs false
namespace Go.Proofs.YtodobkbnmjgkdaaGreat.HL
open Go.RowKit (Below)
def lN (n : Int) : Int := IntKind.wrap .i64 n
def u64 (n : Int) : Int := IntKind.wrap .u64 n
theorem aQ {n : Int} (h : -9223372036854775808 ≤ n ∧ n ≤ 9223372036854775807) : lN n = n := by
  unfold lN IntKind.wrap
  simp [IntKind.bits, IntKind.signed]
  omega
@[go_sem] theorem aL (k : IntKind) (n : Int) (K : Int → Prop) : mZ k (.int k n) K = K n := by simp [mZ]
@[go_sem] theorem bU (b : Bool) (K : Bool → Prop) : shB (.bool b) K = K b := propext Iff.rfl
@[go_sem] theorem bN (a : Option Addr) (K : Option Addr → Prop) : shP (.pointer a) K = K a := propext Iff.rfl
@[go_sem] theorem sJ (a : Option Addr) (n c : Nat) (K : SV → Prop) : shS (.slice a n c) K = K ⟨a, n, c⟩ := propext Iff.rfl
@[go_sem] theorem aM (s : SV) (K : SV → Prop) : shS (SV.v s) K = K s := propext Iff.rfl
@[go_sem] theorem aZ (cs : Array Value) (K : List Value → Prop) : shA (.agg cs) K = K cs.toList := propext Iff.rfl
@[go_sem] theorem cD (cs : Array Value) (K : List Value → Prop) : shT (.tuple cs) K = K cs.toList := propext Iff.rfl
@[go_sem] theorem aW (v : Value) (r : List Value) (K : Value → List Value → Prop) : cM (v :: r) K = K v r := propext Iff.rfl
@[go_sem] theorem aU (K : Prop) : oY [] K = K := propext Iff.rfl
@[go_sem] theorem aT (a : Addr) (K : Addr → Prop) : nc (some a) K = K a := propext Iff.rfl
@[go_sem] theorem aC {α : Type} (x : α) (K : α → Prop) : ob (some x) K = K x := propext Iff.rfl
theorem aHn (b : Bool) (A B : Prop) : bs b A B = ((b = true → A) ∧ (b = false → B)) := by
  cases b <;> simp [bs]
def cS (w0 : World) (M : Mem) (b : Nat) (cs : List Value) (e : TypeId) : Prop := w0.heap.size ≤ b ∧ M b = some (.row cs e)
section
variable {P : Program} {w0 : World} {M M' : Mem}
theorem cS.new {b : Nat} {cs : List Value} {e : TypeId} (h : w0.heap.size ≤ b) : cS w0 (M.set b (.row cs e)) b cs e := ⟨h, Mem.mF _ _ _⟩
theorem cS.le {b : Nat} {cs : List Value} {e : TypeId} (h : cS w0 M b cs e) (hl : Mem.le M M') : cS w0 M' b cs e := ⟨h.1, hl _ _ h.2⟩
theorem cS.upd {b : Nat} {cs cs' : List Value} {e e' : TypeId} (h : cS w0 M b cs e) : cS w0 (M.set b (.row cs' e')) b cs' e' := ⟨h.1, Mem.mF _ _ _⟩
theorem aN {b o : Nat} {cs : List Value} {e : TypeId} (h : cS w0 M b cs e) : rd w0 M ⟨b, o, none⟩ = cs[o]? := by
  unfold rd
  rw [if_neg (show ¬ b < w0.heap.size from by have := h.1; omega)]
  simp [h.2]
theorem aJj {a : Addr} (h : a.block < w0.heap.size) : rd w0 M a = w0.cell? a := by
  unfold rd; rw [if_pos h]
theorem add_eq (b o i : Nat) : (Addr.add ⟨b, o, none⟩ i) = ⟨b, o + i, none⟩ := by
  unfold Addr.add; split
  · rename_i h; subst h; rfl
  · rfl
def iF (P : Program) (t : TypeId) : Bool := match P.underlying t with
  | some (.struct _) => false
  | some (.array _ _) => false
  | some _ => match P.info? t with
    | some i => Nat.beq i.size 1
    | none => false
  | none => false
def gV (P : Program) (t : TypeId) (n : Nat) : Bool := match P.underlying t with
  | some (.struct _) => match P.info? t with
    | some i => Nat.beq i.size n
    | none => false
  | some (.array _ _) => match P.info? t with
    | some i => Nat.beq i.size n
    | none => false
  | _ => false
theorem aCl {t : TypeId} (h : iF P t = true) : ∃ d i, P.underlying t = some d ∧ P.info? t = some i ∧ i.size = 1 ∧ (∀ fs, d ≠ .struct fs) ∧ (∀ n e, d ≠ .array n e) := by
  unfold iF at h
  split at h
  · cases h
  · cases h
  · rename_i d h1 h2 hd
    split at h
    · rename_i i hi
      exact ⟨d, i, hd, hi, Nat.eq_of_beq_eq_true h, fun fs e => h1 fs e, fun n e e' => h2 n e e'⟩
    · cases h
  · cases h
theorem aCN {t : TypeId} {n : Nat} (h : gV P t n = true) : ∃ d i, P.underlying t = some d ∧ P.info? t = some i ∧ i.size = n ∧ ((∃ fs, d = .struct fs) ∨ (∃ m e, d = .array m e)) := by
  unfold gV at h
  split at h
  · rename_i fs hd
    split at h
    · rename_i i hi; exact ⟨_, i, hd, hi, Nat.eq_of_beq_eq_true h, .inl ⟨_, rfl⟩⟩
    · cases h
  · rename_i m e hd
    split at h
    · rename_i i hi; exact ⟨_, i, hd, hi, Nat.eq_of_beq_eq_true h, .inr ⟨_, _, rfl⟩⟩
    · cases h
  · cases h
theorem iP {α : Type} (a : α) (Q : α → Mem → Prop) : act P w0 (pure a) Q M = Q a M := rfl
theorem nT {α : Type} {s : Sem α} {a : α} (h : fD P w0 M s = some a) {G : α → Mem → Prop} : act P w0 s G M = G a M := by
  induction s with
  | pure x => simp only [fD] at h; cases h; rfl
  | load m ad k ih =>
    simp only [fD] at h
    split at h
    · rename_i v hv; simp only [act, hv]; exact ih v h
    · cases h
  | shape r k ih =>
    simp only [fD] at h
    split at h
    · rename_i v hv; simp only [act, hv]; exact ih v h
    · cases h
  | frozen ad k ih =>
    simp only [fD] at h
    split at h
    · rename_i v hv; simp only [act, hv]; exact ih v h
    · cases h
  | getObj r k ih =>
    simp only [fD] at h
    split at h
    · rename_i v hv; simp only [act, hv]; exact ih v h
    · cases h
  | program k ih => simp only [fD] at h; simp only [act]; exact ih P h
  | _ => simp [fD] at h
theorem cA {α β : Type} {s : Sem α} {a : α} (h : fD P w0 M s = some a) {f : α → Sem β} {Q : β → Mem → Prop} : act P w0 (s >>= f) Q M = act P w0 (f a) Q M := by
  rw [eJ]; exact nT h
theorem eY {α β : Type} {s : Sem α} {a : α} (h : fD P w0 M s = some a) {f : α → Sem β} : fD P w0 M (s >>= f) = fD P w0 M (f a) := by
  rw [aG6, h]; rfl
theorem eP {t : TypeId} {d : TypeDesc} (h : P.underlying t = some d) : fD P w0 M (underlying t) = some d := by
  show fD P w0 M (match P.underlying t with | some d => pure d | none => stuck "no such type") = _
  rw [h]; rfl
theorem lV {t : TypeId} {i : TypeInfo} (h : P.info? t = some i) : fD P w0 M (typeInfo t) = some i := by
  show fD P w0 M (match P.info? t with | some d => pure d | none => stuck "no such type") = _
  rw [h]; rfl
theorem oE {t : TypeId} {i : TypeInfo} (h : P.info? t = some i) : fD P w0 M (sizeOf t) = some i.size := by
  unfold sizeOf; rw [eY (lV h)]; rfl
theorem rF {t : TypeId} {i : TypeInfo} {z : Value} (h : P.info? t = some i) (hz : i.zero = some z) : fD P w0 M (zeroValue t) = some z := by
  unfold zeroValue; rw [eY (lV h), hz]; rfl
theorem aEd {t : TypeId} (h : iF P t = true) : fD P w0 M (isAgg t) = some false := by
  obtain ⟨d, i, h1, h2, h3, h4, h5⟩ := aCl h
  unfold isAgg
  rw [eY (eP h1)]
  cases d <;> first | exact absurd rfl (h4 _) | exact absurd rfl (h5 _ _) | rfl
theorem aE1 {t : TypeId} {n : Nat} (h : gV P t n = true) : fD P w0 M (isAgg t) = some true := by
  obtain ⟨d, i, h1, h2, h3, ⟨fs, rfl⟩ | ⟨m, e, rfl⟩⟩ := aCN h <;> (unfold isAgg; rw [eY (eP h1)]; rfl)
theorem aG0 (a : Addr) : ∀ (cs : List Value) (i : Nat) (acc : Array Value), (∀ j v, cs[j]? = some v → rd w0 M (a.add (i + j)) = some v) →
    fD P w0 M (loadCellsFrom a i cs.length acc) = some (acc ++ cs.toArray) := by
  intro cs
  induction cs with
  | nil => intro i acc h; simp [loadCellsFrom, fD]; rfl
  | cons v r ih =>
    intro i acc h
    have h0 := h 0 v rfl
    simp only [Nat.add_zero] at h0
    show fD P w0 M (load (a.add i) >>= fun v => loadCellsFrom a (i + 1) r.length (acc.push v)) = _
    have hl : fD P w0 M (load (a.add i)) = some v := by
      simp only [load, fD, h0]
    rw [eY hl, ih (i + 1) (acc.push v) (fun j u hj => by
      have := h (j + 1) u (by simpa using hj)
      rwa [show i + (j + 1) = i + 1 + j from by omega] at this)]
    simp
theorem aBI (a : Addr) (cs : List Value) (h : ∀ j v, cs[j]? = some v → rd w0 M (a.add j) = some v) : fD P w0 M (loadCells a cs.length) = some cs.toArray := by
  unfold loadCells
  rw [aG0 a cs 0 #[] (by simpa using h)]; simp
theorem aR {t : TypeId} (h : iF P t = true) (a : Addr) : (aJ P w0).ld t a M = rd w0 M a := by
  show fD P w0 M (loadVar t a) = _
  unfold loadVar
  rw [eY (aEd h)]
  simp only [Bool.false_eq_true, if_false, load, fD]
  cases rd w0 M a <;> rfl
theorem dG {t : TypeId} {cs : List Value} (h : gV P t cs.length = true) {a : Addr} (hc : ∀ j v, cs[j]? = some v → rd w0 M (a.add j) = some v) : (aJ P w0).ld t a M = some (.agg cs.toArray) := by
  show fD P w0 M (loadVar t a) = _
  unfold loadVar
  rw [eY (aE1 h)]
  obtain ⟨d, i, h1, h2, h3, _⟩ := aCN h
  rw [if_pos rfl, eY (oE h2), h3, eY (aBI a cs hc)]; rfl
def eO (cs : List Value) (o : Nat) : List Value → List Value
  | [] => cs
  | v :: r => eO (cs.set o v) (o + 1) r
theorem aDA (vs : List Value) : ∀ (cs : List Value) (o : Nat), (eO cs o vs).length = cs.length := by
  induction vs with
  | nil => intro cs o; rfl
  | cons v r ih => intro cs o; simp only [eO]; rw [ih]; simp
theorem xH (vs : List Value) : ∀ (cs : List Value) (o i : Nat), o + vs.length ≤ cs.length → (eO cs o vs)[i]? = if i < o then cs[i]? else if i < o + vs.length then vs[i - o]? else cs[i]? := by
  induction vs with
  | nil => intro cs o i h; simp [eO]; omega
  | cons v r ih =>
    intro cs o i h
    simp only [List.length_cons] at h ⊢
    simp only [eO]
    rw [ih _ _ _ (by simp; omega), List.getElem?_set]
    by_cases h1 : i < o
    · rw [if_pos (by omega), if_neg (by omega), if_pos h1]
    · by_cases h2 : i = o
      · subst h2
        rw [if_pos (by omega), if_pos rfl, if_pos (by omega), if_neg (by omega), if_pos (by omega)]
        simp
      · rw [if_neg (by omega), if_neg h1]
        by_cases h3 : i < o + (r.length + 1)
        · rw [if_pos (by omega), if_pos h3, show i - o = (i - (o + 1)) + 1 from by omega]; simp
        · rw [if_neg (by omega), if_neg h3, if_neg (by omega)]
theorem uA {β : Type} {f : Unit → Sem β} {Q : β → Mem → Prop} (b : Nat) : ∀ (vs cs : List Value) (o i : Nat) (e : TypeId) (M : Mem), w0.heap.size ≤ b → M b = some (.row cs e) → o + i + vs.length ≤ cs.length → (∀ v ∈ vs, bS v = true) →
    act P w0 (f ()) Q (M.set b (.row (eO cs (o + i) vs) e)) → act P w0 (storeCells ⟨b, o, none⟩ vs i >>= f) Q M := by
  intro vs
  induction vs with
  | nil =>
    intro cs o i e M _ hb hl hv h
    rw [eJ]
    simp only [eO, Mem.aLp M hb] at h
    exact h
  | cons v r ih =>
    intro cs o i e M hs hb hl hv h
    rw [eJ]
    show act P w0 (store (Addr.add ⟨b, o, none⟩ i) v >>= fun _ => storeCells ⟨b, o, none⟩ r (i + 1)) _ M
    rw [eJ, add_eq]
    simp only [List.length_cons] at hl
    show (match M b with | some (.row cs e) => _ | _ => False)
    rw [hb]
    refine ⟨rfl, by simp; omega, hv v List.mem_cons_self, ?_⟩
    have := ih (cs.set (o + i) v) o (i + 1) e (M.set b (.row (cs.set (o + i) v) e)) hs (Mem.mF _ _ _) (by simp; omega) (fun u hu => hv u (List.mem_cons_of_mem _ hu))
      (by rw [Mem.set_set]; simpa [eO, Nat.add_assoc] using h)
    rw [eJ] at this
    exact this
theorem gO {t : TypeId} (ht : iF P t = true) {b o : Nat} {v : Value} {cs : List Value} {e : TypeId} {K : Mem → Prop} (h : cS w0 M b cs e) (ho : o < cs.length) (hv : bS v = true) (hc : v.cells = #[v]) (hK : K (M.set b (.row (cs.set o v) e))) :
    (aJ P w0).st t ⟨b, o, none⟩ v K M := by
  obtain ⟨d, i, h1, h2, h3, h4, h5⟩ := aCl ht
  show act P w0 (storeVar t ⟨b, o, none⟩ v) _ M
  unfold storeVar
  rw [cA (oE h2)]
  rw [h3, hc]
  simp only [List.size_toArray, List.length_cons, List.length_nil, ne_eq, not_true_eq_false, if_false]
  have := uA (P := P) (w0 := w0) (f := fun _ => (pure () : Sem Unit)) (Q := fun _ M' => K M') b [v] cs o 0 e M h.1 h.2 (by simp; omega) (by simpa using hv) (by rw [iP]; simpa [eO] using hK)
  simpa using this
theorem hJ {t : TypeId} {vs : List Value} (ht : gV P t vs.length = true) {b o : Nat} {cs : List Value} {e : TypeId} {K : Mem → Prop} (h : cS w0 M b cs e) (ho : o + vs.length ≤ cs.length) (hv : ∀ v ∈ vs, bS v = true) (hK : K (M.set b (.row (eO cs o vs) e))) :
    (aJ P w0).st t ⟨b, o, none⟩ (.agg vs.toArray) K M := by
  obtain ⟨d, i, h1, h2, h3, _⟩ := aCN ht
  show act P w0 (storeVar t ⟨b, o, none⟩ (.agg vs.toArray)) _ M
  unfold storeVar
  rw [cA (oE h2)]
  rw [h3]
  simp only [Value.cells, List.size_toArray, ne_eq, not_true_eq_false, if_false]
  have := uA (P := P) (w0 := w0) (f := fun _ => (pure () : Sem Unit)) (Q := fun _ M' => K M') b vs cs o 0 e M h.1 h.2 (by simpa using ho) hv (by rw [iP]; simpa using hK)
  simpa using this
end
end Go.Proofs.YtodobkbnmjgkdaaGreat.HL
