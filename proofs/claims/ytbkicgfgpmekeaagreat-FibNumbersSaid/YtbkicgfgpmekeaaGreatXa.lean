import Derived.Test.YtbkicgfgpmekeaaGreatHlS
import Derived.Test.YtbkicgfgpmekeaaGreatGenAll
import Derived.Test.YtbkicgfgpmekeaaGreatHlQ
/-
  OrM: small numbers and their order, in plain Lean.
-/
set_option linter.unusedVariables false
set_option linter.unusedSimpArgs false
namespace Go.Proofs.YtbkicgfgpmekeaaGreat.HL

/-- A sum that stops at the bounds. -/
def addc (a b : Int) : Int := if 9223372036854775807 < a + b then 9223372036854775807 else if a + b < -9223372036854775808 then -9223372036854775808 else a + b
theorem addc_in {a b : Int} : In64 (addc a b) := by
  unfold In64 addc; split
  · omega
  · split <;> omega

/-- How entries stand to one another. -/
def cmpI (a0 a1 b0 b1 : Int) : Int := if a0 < b0 then -1 else if b0 < a0 then 1 else if a1 < b1 then -1 else if b1 < a1 then 1 else 0

end Go.Proofs.YtbkicgfgpmekeaaGreat.HL

/-
  ArM: cells of numbers, in plain Lean, with no program in sight.
-/
set_option linter.unusedVariables false
set_option linter.unusedSimpArgs false
namespace Go.Proofs.YtbkicgfgpmekeaaGreat.HL
open Go.RowKit (Below)

structure AS where
  n : Nat
  get : Nat → Nat → Int
  live : Nat → Bool
  never : Nat
  free : List Nat
  steps : Int
  begun : Int
  most : Int

namespace AS
def tick (α : AS) : AS := { α with steps := addc α.steps 1 }
def liveI (α : AS) (c : Int) : Bool := decide (0 ≤ c) && α.live c.toNat
def hasI (α : AS) (c f : Int) : Bool := α.liveI c && decide (0 ≤ f) && decide (f < 10)
def getI (α : AS) (c f : Int) : Int := if α.hasI c f = true then α.get c.toNat f.toNat else -1
def cellI (α : AS) (c f : Int) : Int := if α.getI c f < 0 ∨ (α.n : Int) ≤ α.getI c f then -1 else α.getI c f
def put (α : AS) (c f : Nat) (v : Int) : AS := { α with get := fun c' f' => if c' = c ∧ f' = f then v else α.get c' f' }
def setI (α : AS) (c f : Int) (v : Int) : AS := if α.hasI c f = true then α.put c.toNat f.toNat v else α
def fresh (f : Nat) : Int := if f = 4 ∨ f = 5 ∨ f = 7 ∨ f = 8 then 0 else -1
def lay (α : AS) (c : Nat) : AS := { α with get := fun c' f' => if c' = c then fresh f' else α.get c' f', live := fun c' => if c' = c then true else α.live c' }
/-- The cell that is taken next. -/
def next (α : AS) : Option Nat := match α.free.getLast? with
  | some c => some c
  | none => if α.never < α.n then some α.never else none
def take (α : AS) : AS := match α.free.getLast? with
  | some c => { α.lay c with free := α.free.dropLast }
  | none => if α.never < α.n then { α.lay α.never with never := α.never + 1 } else α
def nextI (α : AS) : Int := match α.next with
  | some c => (c : Int)
  | none => -1
def unlive (α : AS) (c : Nat) : AS := { α with live := fun c' => if c' = c then false else α.live c', free := α.free ++ [c] }
def giveI (α : AS) (c : Int) : AS := if α.liveI c = true then α.unlive c.toNat else α
def len (α : AS) : Nat := (List.range α.never).countP α.live
def new (n : Nat) : AS := ⟨n, fun _ _ => 0, fun _ => false, 0, [], 0, 0, 0⟩

structure Inv (α : AS) : Prop where
  n : α.n ≤ 65536
  never : α.never ≤ α.n
  free : ∀ c ∈ α.free, c < α.never ∧ α.live c = false
  live : ∀ c, α.never ≤ c → α.live c = false
  nd : α.free.Nodup
  len : α.free.length + α.len = α.never
  steps : 0 ≤ α.steps ∧ In64 α.steps

theorem countP_upd (p q : Nat → Bool) (c : Nat) (hpq : ∀ x, x ≠ c → q x = p x) (hp : p c = false) (hq : q c = true) : ∀ k, (List.range k).countP q = (List.range k).countP p + if c < k then 1 else 0 := by
  intro k
  induction k with
  | zero => rfl
  | succ k ih =>
    rw [List.range_succ, List.countP_append, List.countP_append, ih]
    simp only [List.countP_cons, List.countP_nil, Nat.zero_add]
    by_cases h : k = c
    · subst h
      rw [hp, hq, if_neg (Nat.lt_irrefl _), if_pos (Nat.lt_succ_self _)]; simp
    · rw [hpq k h]
      by_cases h2 : c < k
      · have h3 : c < k + 1 := by omega
        simp only [if_pos h2, if_pos h3]; omega
      · have h3 : ¬ c < k + 1 := by omega
        simp only [if_neg h2, if_neg h3]; omega
theorem countP_out (p : Nat → Bool) : ∀ (d k : Nat), (∀ x, k ≤ x → p x = false) → (List.range (k + d)).countP p = (List.range k).countP p := by
  intro d
  induction d with
  | zero => intro k _; rfl
  | succ d ih =>
    intro k h
    rw [← Nat.add_assoc, List.range_succ, List.countP_append, ih k h]
    simp [h (k + d) (by omega)]

theorem tick_inv {α : AS} (h : Inv α) : Inv α.tick :=
  ⟨h.n, h.never, h.free, h.live, h.nd, h.len, by
    have := h.steps
    refine ⟨?_, addc_in⟩
    show 0 ≤ addc α.steps 1
    unfold addc; split
    · omega
    · split <;> omega⟩
theorem put_inv {α : AS} (h : Inv α) (c f : Nat) (v : Int) : Inv (α.put c f v) := ⟨h.n, h.never, h.free, h.live, h.nd, h.len, h.steps⟩
theorem setI_inv {α : AS} (h : Inv α) (c f v : Int) : Inv (α.setI c f v) := by
  unfold setI; split
  · exact put_inv h _ _ _
  · exact h
theorem lt_never {α : AS} (h : Inv α) {c : Nat} (hc : α.live c = true) : c < α.never := by
  apply Decidable.byContradiction
  intro hn
  have := h.live c (by omega)
  rw [hc] at this; cases this
theorem liveI_lt {α : AS} (h : Inv α) {c : Int} (hc : α.liveI c = true) : 0 ≤ c ∧ c.toNat < α.never ∧ α.live c.toNat = true := by
  simp only [liveI, Bool.and_eq_true, decide_eq_true_eq] at hc
  exact ⟨hc.1, lt_never h hc.2, hc.2⟩
theorem unlive_inv {α : AS} (h : Inv α) {c : Nat} (hc : α.live c = true) : Inv (α.unlive c) := by
  have hlt := lt_never h hc
  have hcount := countP_upd (fun c' => if c' = c then false else α.live c') α.live c (fun x hx => by simp [hx]) (by simp) hc α.never
  rw [if_pos hlt] at hcount
  have hlen := h.len
  unfold len at hlen
  refine ⟨h.n, h.never, fun x hx => ?_, fun x hx => ?_, ?_, ?_, h.steps⟩
  · rcases List.mem_append.1 hx with hx | hx
    · obtain ⟨h1, h2⟩ := h.free x hx
      refine ⟨h1, ?_⟩
      show (if x = c then false else α.live x) = false
      split
      · rfl
      · exact h2
    · simp at hx
      subst hx
      exact ⟨hlt, by simp [unlive]⟩
  · show (if x = c then false else α.live x) = false
    split
    · rfl
    · exact h.live x hx
  · show (α.free ++ [c]).Nodup
    rw [List.nodup_append]
    refine ⟨h.nd, by simp, fun a ha b hb e => ?_⟩
    simp at hb
    subst hb
    subst e
    have := (h.free a ha).2
    rw [hc] at this; cases this
  · show (α.free ++ [c]).length + (List.range α.never).countP (fun c' => if c' = c then false else α.live c') = α.never
    rw [List.length_append, List.length_singleton]; omega
theorem giveI_inv {α : AS} (h : Inv α) (c : Int) : Inv (α.giveI c) := by
  unfold giveI; split
  · rename_i hc
    exact unlive_inv h (liveI_lt h hc).2.2
  · exact h
theorem take_inv {α : AS} (h : Inv α) : Inv α.take := by
  have hlen := h.len
  unfold len at hlen
  unfold take
  cases hl : α.free.getLast? with
  | some c =>
    have hmem : c ∈ α.free := List.mem_of_getLast? hl
    obtain ⟨h1, h2⟩ := h.free c hmem
    have hsplit : α.free = α.free.dropLast ++ [c] := by
      obtain ⟨l, e⟩ := List.getLast?_eq_some_iff.1 hl
      rw [e]; simp
    have hcount := countP_upd α.live (fun c' => if c' = c then true else α.live c') c (fun x hx => by simp [hx]) h2 (by simp) α.never
    rw [if_pos h1] at hcount
    have hnd := h.nd
    rw [hsplit, List.nodup_append] at hnd
    refine ⟨h.n, h.never, fun x hx => ?_, fun x hx => ?_, hnd.1, ?_, h.steps⟩
    · have hx' : x ∈ α.free.dropLast := hx
      have hxf : x ∈ α.free := by rw [hsplit]; exact List.mem_append_left _ hx'
      obtain ⟨g1, g2⟩ := h.free x hxf
      refine ⟨g1, ?_⟩
      show (if x = c then true else α.live x) = false
      rw [if_neg (hnd.2.2 x hx' c (by simp))]; exact g2
    · show (if x = c then true else α.live x) = false
      have hx' : α.never ≤ x := hx
      rw [if_neg (by omega)]; exact h.live x hx
    · show α.free.dropLast.length + (List.range α.never).countP (fun c' => if c' = c then true else α.live c') = α.never
      have : α.free.length = α.free.dropLast.length + 1 := by
        conv => lhs; rw [hsplit]
        simp
      omega
  | none =>
    simp only
    split
    · rename_i hlt
      have hf : α.free = [] := List.getLast?_eq_none_iff.1 hl
      have h2 := h.live α.never (Nat.le_refl _)
      have hcount := countP_upd α.live (fun c' => if c' = α.never then true else α.live c') α.never (fun x hx => by simp [hx]) h2 (by simp) (α.never + 1)
      rw [if_pos (Nat.lt_succ_self _)] at hcount
      have hout := countP_out α.live 1 α.never h.live
      refine ⟨h.n, hlt, fun x hx => ?_, fun x hx => ?_, h.nd, ?_, h.steps⟩
      · have hx' : x ∈ α.free := hx
        rw [hf] at hx'; cases hx'
      · show (if x = α.never then true else α.live x) = false
        have hx' : α.never + 1 ≤ x := hx
        rw [if_neg (by omega)]; exact h.live x (by omega)
      · show α.free.length + (List.range (α.never + 1)).countP (fun c' => if c' = α.never then true else α.live c') = α.never + 1
        omega
    · exact h
theorem new_inv {n : Nat} (h : n ≤ 65536) : Inv (new n) :=
  ⟨h, Nat.zero_le _, fun c hc => (by cases hc), fun _ _ => rfl, List.nodup_nil, rfl, by unfold In64 new; simp⟩

theorem next_some {α : AS} (h : Inv α) {c : Nat} (hn : α.next = some c) : c < α.n ∧ α.live c = false ∧ α.take = { α.lay c with free := α.take.free, never := α.take.never } := by
  unfold next at hn
  unfold take
  cases hl : α.free.getLast? with
  | some x =>
    rw [hl] at hn; cases hn
    obtain ⟨h1, h2⟩ := h.free c (List.mem_of_getLast? hl)
    have := h.never
    exact ⟨by omega, h2, rfl⟩
  | none =>
    rw [hl] at hn
    simp only at hn ⊢
    split at hn
    · rename_i hlt
      cases hn
      rw [if_pos hlt]
      exact ⟨hlt, h.live _ (Nat.le_refl _), rfl⟩
    · cases hn
theorem next_none {α : AS} (hn : α.next = none) : α.take = α ∧ α.free = [] ∧ α.n ≤ α.never := by
  unfold next at hn
  unfold take
  cases hl : α.free.getLast? with
  | some x => rw [hl] at hn; cases hn
  | none =>
    rw [hl] at hn
    simp only at hn ⊢
    split at hn
    · cases hn
    · rename_i h
      rw [if_neg h]
      exact ⟨rfl, List.getLast?_eq_none_iff.1 hl, by omega⟩
end AS

/-- The cells' values, one behind the other. -/
structure CellsOk (cs : List Value) (α : AS) : Prop where
  len : cs.length = 11 * α.n
  f : ∀ c f, c < α.n → f < 10 → cs[11 * c + f]? = some (.int .i64 (α.get c f))
  t : ∀ c, c < α.n → cs[11 * c + 10]? = some (.bool (α.live c))
theorem CellsOk.tick {cs : List Value} {α : AS} (h : CellsOk cs α) : CellsOk cs α.tick := ⟨h.len, h.f, h.t⟩
theorem CellsOk.put {cs : List Value} {α : AS} (h : CellsOk cs α) {c f : Nat} (hc : c < α.n) (hf : f < 10) (v : Int) : CellsOk (cs.set (11 * c + f) (.int .i64 v)) (α.put c f v) := by
  refine ⟨by rw [List.length_set]; exact h.len, fun c' f' hc' hf' => ?_, fun c' hc' => ?_⟩
  · have hlen := h.len
    have hc'' : c' < α.n := hc'
    rw [List.getElem?_set]
    show _ = some (Value.int .i64 (if c' = c ∧ f' = f then v else α.get c' f'))
    by_cases e : c' = c ∧ f' = f
    · obtain ⟨rfl, rfl⟩ := e
      rw [if_pos rfl, if_pos (by omega), if_pos ⟨rfl, rfl⟩]
    · rw [if_neg (by omega), if_neg e]
      exact h.f c' f' hc' hf'
  · rw [List.getElem?_set, if_neg (by omega)]
    exact h.t c' hc'
theorem CellsOk.mark {cs : List Value} {α : AS} (h : CellsOk cs α) {c : Nat} (hc : c < α.n) : CellsOk (cs.set (11 * c + 10) (.bool false)) (α.unlive c) := by
  refine ⟨by rw [List.length_set]; exact h.len, fun c' f' hc' hf' => ?_, fun c' hc' => ?_⟩
  · rw [List.getElem?_set, if_neg (by omega)]
    exact h.f c' f' hc' hf'
  · have hlen := h.len
    have hc'' : c' < α.n := hc'
    rw [List.getElem?_set]
    show _ = some (Value.bool (if c' = c then false else α.live c'))
    by_cases e : c' = c
    · subst e
      rw [if_pos rfl, if_pos (by omega), if_pos rfl]
    · rw [if_neg (by omega), if_neg e]
      exact h.t c' hc'
def freshV : List Value := [.int .i64 (-1), .int .i64 (-1), .int .i64 (-1), .int .i64 (-1), .int .i64 0, .int .i64 0, .int .i64 (-1), .int .i64 0, .int .i64 0, .int .i64 (-1), .bool true]
theorem CellsOk.lay {cs : List Value} {α : AS} (h : CellsOk cs α) {c : Nat} (hc : c < α.n) {α' : AS} (e1 : α'.n = α.n) (e2 : α'.get = (α.lay c).get) (e3 : α'.live = (α.lay c).live) : CellsOk (over cs (11 * c) freshV) α' := by
  have hlen := h.len
  have hr : 11 * c + freshV.length ≤ cs.length := by rw [hlen]; show 11 * c + 11 ≤ _; omega
  refine ⟨by rw [over_length, e1]; exact hlen, fun c' f' hc' hf' => ?_, fun c' hc' => ?_⟩
  · rw [over_get _ _ _ _ hr, show freshV.length = 11 from rfl, e2]
    show _ = some (Value.int .i64 (if c' = c then AS.fresh f' else α.get c' f'))
    by_cases e : c' = c
    · subst e
      rw [if_neg (by omega), if_pos (by omega), if_pos rfl, show 11 * c' + f' - 11 * c' = f' from by omega]
      match f', hf' with
      | 0, _ | 1, _ | 2, _ | 3, _ | 4, _ | 5, _ | 6, _ | 7, _ | 8, _ | 9, _ => rfl
    · rw [if_neg e, ← h.f c' f' (by omega) hf']
      by_cases h1 : 11 * c' + f' < 11 * c
      · rw [if_pos h1]
      · rw [if_neg h1, if_neg (by omega)]
  · rw [over_get _ _ _ _ hr, show freshV.length = 11 from rfl, e3]
    show _ = some (Value.bool (if c' = c then true else α.live c'))
    by_cases e : c' = c
    · subst e
      rw [if_neg (by omega), if_pos (by omega), if_pos rfl, show 11 * c' + 10 - 11 * c' = 10 from by omega]; rfl
    · rw [if_neg e, ← h.t c' (by omega)]
      by_cases h1 : 11 * c' + 10 < 11 * c
      · rw [if_pos h1]
      · rw [if_neg h1, if_neg (by omega)]

end Go.Proofs.YtbkicgfgpmekeaaGreat.HL

/-
  BkA: a number that is brought within bounds; rows of numbers that are written down, or compared.
-/
set_option linter.unusedVariables false
set_option linter.unusedSimpArgs false
set_option maxRecDepth 100000
namespace Go.Proofs.YtbkicgfgpmekeaaGreat.HL
open Go.RowKit (Below)
open Go.Proofs

section
variable {w0 : World} {M M0 : Mem}

theorem Within_ok {R : Value → Mem → Prop} {n lo hi : Int} (hn : In64 n) (h1 : -4611686018427387904 ≤ lo) (h2 : lo ≤ hi) (h3 : hi ≤ 1152921504606846976) (h4 : hi - lo ≤ 1152921504606846976) (h : ∀ x, lo ≤ x → x ≤ hi → R (.int .i64 x) M) : C PP w0 Id.thicketbook_Within #[.int .i64 n, .int .i64 lo, .int .i64 hi] R M := by
  apply thicketbook_Within.go
  intro pts H
  unfold thicketbook_Within.T
  have hj : thicketbook_Within.J1 pts n lo hi M := by
    rw [H.J1]
    unfold thicketbook_Within.J1.T
    rw [w64_in (n := hi - lo) (by omega), w64_in (n := hi - lo + 1) (by omega)]
    refine ⟨rfl, by omega, ?_⟩
    have a1 : Int.tmod n (hi - lo + 1) < hi - lo + 1 := Int.tmod_lt_of_pos n (by omega)
    have a2 : -(hi - lo + 1) < Int.tmod n (hi - lo + 1) := by
      have := Int.tmod_lt_of_pos (-n) (show 0 < hi - lo + 1 by omega)
      rw [Int.neg_tmod] at this; omega
    generalize Int.tmod n (hi - lo + 1) = r at a1 a2
    rw [bs_decide]
    split
    · rw [w64_in (n := r + hi) (by omega), w64_in (n := r + hi - lo) (by omega), w64_in (n := r + hi - lo + 1) (by omega), w64_in (by omega)]
      exact h _ (by omega) (by omega)
    · rw [w64_in (by omega)]
      exact h _ (by omega) (by omega)
  simp only [bs_decide]
  split
  · split
    · exact h n (by omega) (by omega)
    · exact hj
  · exact hj


theorem bsl_ints {Mb : Mem} {k : IntKind} {t e : TypeId} {z : Value} {n : Nat} {parts : List (Nat × Value)} {l : List Int} (hle : Mem.le Mb M) (ht : PP.underlying t = some (.slice e)) (he : ElemOk PP e z 1)
    (h24 : n ≤ 16777216) (hc : Instr.fill (fun k => some (k * 1, 1)) ((Array.range (n * 1)).map (z.cells[· % z.cells.size]!)) parts = some (l.map (Value.int k)).toArray) (hn : l.length = n) {K : Value → Mem → Prop}
    (h : ∀ M' s', Mem.le Mb M' → Mem.le M M' → Sl w0 Mb M' s' (l.map (Value.int k)) → K s'.v M') : (std PP w0).bsl t n parts K M :=
  bsl_sl hle ht he h24 hc (by simp [hn]) h


theorem wf_all {l : List Int} (h : ∀ x ∈ l, In64 x) : ∀ n ∈ l, (Lit.int .i64 n).wf = true := fun n hn => wf64 (h n hn)


theorem lit_ok {R : SV → Mem → Prop} {n : Nat} {parts : List (Nat × Value)} (l : List Int) (h24 : n ≤ 16777216) (hc : Instr.fill (fun k => some (k * 1, 1)) ((Array.range (n * 1)).map ((Value.int .i64 0).cells[· % (Value.int .i64 0).cells.size]!)) parts = some (l.map (Value.int .i64)).toArray) (hn : l.length = n) (hw : ∀ n ∈ l, (Lit.int .i64 n).wf = true)
    (h : ∀ M' s', Mem.le M M' → RdI w0 M' .i64 s' l → R s' M') : (std PP w0).bsl 61 n parts (fun v M' => shS v fun s' => R s' M') M := by
  refine bsl_ints (Mem.le_refl _) Tryz.underlying61 W.e3 h24 hc hn fun M' s' h1 h2 h3 => ?_
  simp only [go_sem]
  exact h M' s' h1 (h3.rdI hw (by omega))

end
end Go.Proofs.YtbkicgfgpmekeaaGreat.HL

/-
  OrA: sums that stop at the ends.
-/
set_option linter.unusedVariables false
set_option linter.unusedSimpArgs false
set_option maxRecDepth 100000
namespace Go.Proofs.YtbkicgfgpmekeaaGreat.HL
open Go.RowKit (Below)
open Go.Proofs

section
variable {w0 : World} {M F : Mem} {R : Value → Mem → Prop}

theorem rdv_ptr {t : TypeId} {ad : Addr} : (std PP w0).rdv t (.pointer (some ad)) M = (std PP w0).ld t ad M := rfl

theorem order_Add_ok {a b : Int} (ha : In64 a) (hb : In64 b) (h : R (.int .i64 (addc a b)) M) : C PP w0 Id.order_Add #[.int .i64 a, .int .i64 b] R M := by
  apply order_Add.go
  unfold order_Add.T
  unfold In64 at ha hb
  unfold addc at h
  by_cases h1 : b > 0
  · have e : w64 (9223372036854775807 - b) = 9223372036854775807 - b := w64_in (by omega)
    rw [e, bs_decide, if_pos h1, bs_decide]
    split
    · rw [if_pos (by omega)] at h; exact h
    · rw [if_neg (by omega), if_neg (by omega)] at h
      rw [bs_decide, if_neg (by omega), w64_in (by omega)]; exact h
  · rw [bs_decide, if_neg h1]
    by_cases h2 : b < 0
    · have e : w64 ((-9223372036854775808) - b) = (-9223372036854775808) - b := w64_in (by omega)
      rw [e, bs_decide, if_pos h2, bs_decide]
      split
      · rw [if_neg (by omega), if_pos (by omega)] at h; exact h
      · rw [if_neg (by omega), if_neg (by omega)] at h
        rw [w64_in (by omega)]; exact h
    · rw [bs_decide, if_neg h2]
      rw [if_neg (by omega), if_neg (by omega)] at h
      rw [w64_in (by omega)]; exact h

end
end Go.Proofs.YtbkicgfgpmekeaaGreat.HL

/-
  ArA: the arena: what each of its calls does, and what it leaves as it was.
-/
set_option linter.unusedVariables false
set_option linter.unusedSimpArgs false
set_option maxRecDepth 100000
namespace Go.Proofs.YtbkicgfgpmekeaaGreat.HL
open Go.RowKit (Below)
open Go.Proofs

section
variable {w0 : World} {M F : Mem} {R : Value → Mem → Prop}

abbrev meterR (s g m : Int) : List Value := [.int .i64 s, .int .i64 g, .int .i64 m]
theorem Tick_ok {b : Nat} {s g m n : Int} (ho : Own w0 M b (meterR s g m) 74) (hs : In64 s) (hn : In64 n) (h0 : 0 ≤ n) (h : R (.tuple #[]) (M.set b (.row (meterR (addc s n) g m) 74))) : C PP w0 Id.meter_Meter_Tick #[.pointer (some ⟨b, 0, none⟩), .int .i64 n] R M := by
  apply meter_Meter_Tick.go
  unfold meter_Meter_Tick.T
  have e1 : rd w0 M ⟨b, 0, none⟩ = some (.int .i64 s) := by rw [rd_own ho]; rfl
  have e2 : (if n > 0 then n else 0) = n := by split <;> omega
  simp only [go_sem, e1, e2]
  refine order_Add_ok hs hn ?_
  simp only [go_sem]
  exact st_one W.c2 ho (by simp) rfl rfl h
theorem Steps_ok {b : Nat} {s g m : Int} (ho : Own w0 M b (meterR s g m) 74) (h : R (.int .i64 s) M) : C PP w0 Id.meter_Meter_Steps #[.pointer (some ⟨b, 0, none⟩)] R M := by
  apply meter_Meter_Steps.go
  unfold meter_Meter_Steps.T
  have e1 : rd w0 M ⟨b, 0, none⟩ = some (.int .i64 s) := by rw [rd_own ho]; rfl
  simp only [go_sem, e1]
  exact h

/-- The arena's own row. -/
abbrev arR (bL n : Nat) (never : Nat) (sf : SV) (bM : Nat) : List Value := [.slice (some ⟨bL, 0, none⟩) n n, .int .i64 (never : Int), sf.v, .pointer (some ⟨bM, 0, none⟩)]
def natsV (l : List Nat) : List Value := l.map fun (c : Nat) => Value.int .i64 (c : Int)
/-- An arena at a. -/
def arenaA (a : Nat) (α : AS) : Asn := fun r => α.Inv ∧ ∃ bL bM sf cs rf, r = (a, arR bL α.n α.never sf bM, 71) :: (bL, cs, 82) :: (bM, meterR α.steps α.begun α.most, 74) :: rf ∧ CellsOk cs α ∧ SlA sf (natsV α.free) rf
/-- What is seen of it. -/
structure Seen (w0 : World) (M : Mem) (a bL bM : Nat) (sf : SV) (cs : List Value) (α : AS) : Prop where
  a : Own w0 M a (arR bL α.n α.never sf bM) 71
  l : Own w0 M bL cs 82
  m : Own w0 M bM (meterR α.steps α.begun α.most) 74
  cs : CellsOk cs α
  inv : α.Inv

theorem Holds.seen {a : Nat} {α : AS} (h : Holds w0 F M (arenaA a α)) : ∃ bL bM sf cs, Seen w0 M a bL bM sf cs α ∧ sf.n = α.free.length := by
  obtain ⟨r, ⟨hi, bL, bM, sf, cs, rf, rfl, hc, hs⟩, hf⟩ := h
  exact ⟨bL, bM, sf, cs, ⟨hf.own (by simp), hf.own (by simp), hf.own (by simp), hc, hi⟩, by rw [hs.len]; simp [natsV]⟩
theorem Holds.inv {a : Nat} {α : AS} (h : Holds w0 F M (arenaA a α)) : α.Inv := by
  obtain ⟨r, ⟨hi, _⟩, _⟩ := h; exact hi

section
variable {a bL bM : Nat} {sf : SV} {cs : List Value} {α : AS}

theorem Seen.r0 (h : Seen w0 M a bL bM sf cs α) : rd w0 M ⟨a, 0, none⟩ = some (.slice (some ⟨bL, 0, none⟩) α.n α.n) := by rw [rd_own h.a]; rfl
theorem Seen.r1 (h : Seen w0 M a bL bM sf cs α) : rd w0 M ⟨a, 1, none⟩ = some (.int .i64 (α.never : Int)) := by rw [rd_own h.a]; rfl
theorem Seen.r2 (h : Seen w0 M a bL bM sf cs α) : rd w0 M ⟨a, 2, none⟩ = some sf.v := by rw [rd_own h.a]; rfl
theorem Seen.r3 (h : Seen w0 M a bL bM sf cs α) : rd w0 M ⟨a, 3, none⟩ = some (.pointer (some ⟨bM, 0, none⟩)) := by rw [rd_own h.a]; rfl
theorem Seen.live (h : Seen w0 M a bL bM sf cs α) {c : Nat} (hc : c < α.n) : rd w0 M ⟨bL, c * 11 + 10, none⟩ = some (.bool (α.live c)) := by
  rw [rd_own h.l, Nat.mul_comm]; exact h.cs.t c hc
theorem Seen.f (h : Seen w0 M a bL bM sf cs α) {c f : Nat} (hc : c < α.n) (hf : f < 10) : rd w0 M ⟨bL, c * 11 + f, none⟩ = some (.int .i64 (α.get c f)) := by
  rw [rd_own h.l, Nat.mul_comm]; exact h.cs.f c f hc hf

theorem LiveS_ok (hs : Seen w0 M a bL bM sf cs α) {c : Int} (h : R (.bool (α.liveI c)) M) : C PP w0 Id.arena_Arena_Live #[.pointer (some ⟨a, 0, none⟩), .int .i64 c] R M := by
  apply arena_Arena_Live.go
  unfold arena_Arena_Live.T
  simp only [go_sem, hs.r0, bs_decide]
  split
  · rename_i h0
    obtain ⟨c, rfl⟩ : ∃ k : Nat, c = (k : Int) := ⟨c.toNat, by omega⟩
    have e : α.liveI (c : Int) = α.live c := by simp [AS.liveI]
    rw [e] at h
    split
    · rename_i hc
      have hc' : c < α.n := by omega
      refine ⟨by omega, ?_⟩
      simp only [add_eq, Int.toNat_natCast, Nat.zero_add, hs.live hc', ob_v, shB_v]
      exact h
    · rename_i hc
      have := hs.inv.live c (by have := hs.inv.never; omega)
      rw [this] at h; exact h
  · rename_i h0
    have e : α.liveI c = false := by
      unfold AS.liveI
      rw [decide_eq_false (by omega)]; rfl
    rw [e] at h; exact h
theorem hasS_ok (hs : Seen w0 M a bL bM sf cs α) {c f : Int} (h : R (.bool (α.hasI c f)) M) : C PP w0 Id.arena_Arena_has #[.pointer (some ⟨a, 0, none⟩), .int .i64 c, .int .i64 f] R M := by
  apply arena_Arena_has.go
  unfold arena_Arena_has.T
  refine LiveS_ok hs ?_
  simp only [go_sem]
  unfold AS.hasI at h
  rw [bs_b]
  refine ⟨fun h1 => ?_, fun h1 => by rw [h1] at h; exact h⟩
  rw [h1] at h
  rw [bs_decide]
  split
  · rename_i h2
    rw [decide_eq_true h2] at h; exact h
  · rename_i h2
    rw [decide_eq_false h2] at h; exact h
end

theorem Live_ok {a : Nat} {α : AS} (hA : Holds w0 F M (arenaA a α)) {c : Int} (h : R (.bool (α.liveI c)) M) : C PP w0 Id.arena_Arena_Live #[.pointer (some ⟨a, 0, none⟩), .int .i64 c] R M := by
  obtain ⟨bL, bM, sf, cs, hs, _⟩ := hA.seen
  exact LiveS_ok hs h
theorem Cells_ok {a : Nat} {α : AS} (hA : Holds w0 F M (arenaA a α)) (h : R (.int .i64 (α.n : Int)) M) : C PP w0 Id.arena_Arena_Cells #[.pointer (some ⟨a, 0, none⟩)] R M := by
  obtain ⟨bL, bM, sf, cs, hs, _⟩ := hA.seen
  apply arena_Arena_Cells.go
  unfold arena_Arena_Cells.T
  simp only [go_sem, hs.r0]
  exact h
theorem Len_ok {a : Nat} {α : AS} (hA : Holds w0 F M (arenaA a α)) (h : R (.int .i64 (α.len : Int)) M) : C PP w0 Id.arena_Arena_Len #[.pointer (some ⟨a, 0, none⟩)] R M := by
  obtain ⟨bL, bM, sf, cs, hs, hn⟩ := hA.seen
  apply arena_Arena_Len.go
  unfold arena_Arena_Len.T
  simp only [go_sem, add_eq, Nat.zero_add, hs.r1, hs.r2, hn]
  have h1 := hs.inv.len
  have h2 := hs.inv.never
  have h3 := hs.inv.n
  rw [w64_in (by omega), show (α.never : Int) - (α.free.length : Int) = (α.len : Int) from by omega]
  exact h
/-- The meter, and its steps. -/
theorem MeterSteps_ok {a : Nat} {α : AS} (hA : Holds w0 F M (arenaA a α)) {K : Option Addr → Value → Mem → Prop} (h : ∀ p, p ≠ none → C PP w0 Id.meter_Meter_Steps #[.pointer p] (fun v M' => M' = M ∧ v = .int .i64 α.steps) M → R (.pointer p) M) : C PP w0 Id.arena_Arena_Meter #[.pointer (some ⟨a, 0, none⟩)] R M := by
  obtain ⟨bL, bM, sf, cs, hs, hn⟩ := hA.seen
  apply arena_Arena_Meter.go
  unfold arena_Arena_Meter.T
  simp only [go_sem, add_eq, Nat.zero_add, hs.r3]
  exact h _ (by simp) (Steps_ok hs.m ⟨rfl, rfl⟩)

/-- A step is counted. -/
theorem Holds.ticked {a : Nat} {α : AS} (hA : Holds w0 F M (arenaA a α)) : ∃ bL bM sf cs, Seen w0 M a bL bM sf cs α ∧ Seen w0 (M.set bM (.row (meterR (addc α.steps 1) α.begun α.most) 74)) a bL bM sf cs α.tick ∧ Holds w0 F (M.set bM (.row (meterR (addc α.steps 1) α.begun α.most) 74)) (arenaA a α.tick) := by
  obtain ⟨r, ⟨hi, bL, bM, sf, cs, rf, rfl, hc, hs⟩, hf⟩ := hA
  have hf' : Fit w0 F (M.set bM (.row (meterR (addc α.steps 1) α.begun α.most) 74)) ((a, arR bL α.n α.never sf bM, 71) :: (bL, cs, 82) :: (bM, meterR (addc α.steps 1) α.begun α.most, 74) :: rf) := by
    have h1 := hf.perm (r' := (bM, meterR α.steps α.begun α.most, 74) :: (a, arR bL α.n α.never sf bM, 71) :: (bL, cs, 82) :: rf) (List.perm_middle (l₁ := [_, _]))
    exact h1.upd.perm (List.perm_middle (l₁ := [_, _])).symm
  refine ⟨bL, bM, sf, cs, ⟨hf.own (by simp), hf.own (by simp), hf.own (by simp), hc, hi⟩, ⟨hf'.own (by simp [AS.tick]), hf'.own (by simp), hf'.own (by simp [AS.tick]), hc.tick, AS.tick_inv hi⟩, _, ⟨AS.tick_inv hi, bL, bM, sf, cs, rf, rfl, hc.tick, hs⟩, hf'⟩
theorem one_in : In64 1 := by unfold In64; omega

theorem Get_ok {a : Nat} {α : AS} (hA : Holds w0 F M (arenaA a α)) {c f : Int} (h : ∀ M', Holds w0 F M' (arenaA a α.tick) → R (.int .i64 (α.getI c f)) M') : C PP w0 Id.arena_Arena_Get #[.pointer (some ⟨a, 0, none⟩), .int .i64 c, .int .i64 f] R M := by
  obtain ⟨bL, bM, sf, cs, hs, hs1, hA1⟩ := hA.ticked
  apply arena_Arena_Get.go
  unfold arena_Arena_Get.T
  simp only [go_sem, add_eq, Nat.zero_add, hs.r3]
  refine Tick_ok hs.m hs.inv.steps.2 one_in (by omega) ?_
  refine hasS_ok hs1 ?_
  have hh := h _ hA1
  unfold AS.getI at hh
  simp only [go_sem, bs_not]
  rw [bs_b]
  refine ⟨fun h1 => ?_, fun h1 => ?_⟩
  · change α.hasI c f = true at h1
    rw [if_pos h1] at hh
    simp only [AS.hasI, Bool.and_eq_true, decide_eq_true_eq] at h1
    obtain ⟨⟨h2, h3⟩, h4⟩ := h1
    obtain ⟨h5, h6, h7⟩ := AS.liveI_lt hs.inv h2
    have hn := hs.inv.never
    obtain ⟨c, rfl⟩ : ∃ k : Nat, c = (k : Int) := ⟨c.toNat, by omega⟩
    obtain ⟨f, rfl⟩ : ∃ k : Nat, f = (k : Int) := ⟨f.toNat, by omega⟩
    simp only [Int.toNat_natCast] at h6 hh
    have e0 := hs1.r0
    have e1 := hs1.f (c := c) (f := f) (by show c < α.n; omega) (by omega)
    simp only [e0, ob_v, shS_v, nc_v, add_eq, Nat.zero_add, Int.toNat_natCast, Nat.mul_one, e1, shI_v]
    exact ⟨⟨by omega, by show (c : Int) < (α.n : Int); omega⟩, ⟨by omega, by omega⟩, hh⟩
  · change α.hasI c f = false at h1
    rw [h1] at hh; exact hh

theorem Cell_ok {a : Nat} {α : AS} (hA : Holds w0 F M (arenaA a α)) {c f : Int} (h : ∀ M', Holds w0 F M' (arenaA a α.tick) → R (.int .i64 (α.cellI c f)) M') : C PP w0 Id.arena_Arena_Cell #[.pointer (some ⟨a, 0, none⟩), .int .i64 c, .int .i64 f] R M := by
  apply arena_Arena_Cell.go
  unfold arena_Arena_Cell.T
  refine Get_ok hA fun M' hA' => ?_
  obtain ⟨bL, bM, sf, cs, hs, _⟩ := hA'.seen
  have hh := h M' hA'
  unfold AS.cellI at hh
  have e : α.tick.n = α.n := rfl
  simp only [go_sem, hs.r0, bs_decide, e]
  split
  · rw [if_pos (by omega)] at hh; exact hh
  · split
    · rw [if_pos (by omega)] at hh; exact hh
    · rw [if_neg (by omega)] at hh; exact hh

theorem Set_ok {a : Nat} {α : AS} (hA : Holds w0 F M (arenaA a α)) {c f v : Int} (h : ∀ M', Holds w0 F M' (arenaA a (α.setI c f v).tick) → R (.bool (α.hasI c f)) M') : C PP w0 Id.arena_Arena_Set #[.pointer (some ⟨a, 0, none⟩), .int .i64 c, .int .i64 f, .int .i64 v] R M := by
  obtain ⟨bL, bM, sf, cs, hs, hs1, hA1⟩ := hA.ticked
  apply arena_Arena_Set.go
  unfold arena_Arena_Set.T
  simp only [go_sem, add_eq, Nat.zero_add, hs.r3]
  refine Tick_ok hs.m hs.inv.steps.2 one_in (by omega) ?_
  generalize hM1 : M.set bM (.row (meterR (addc α.steps 1) α.begun α.most) 74) = M1 at hs1 hA1 ⊢
  refine hasS_ok hs1 ?_
  simp only [go_sem, bs_not]
  rw [bs_b]
  refine ⟨fun h1 => ?_, fun h1 => ?_⟩
  · change α.hasI c f = true at h1
    unfold AS.setI at h
    rw [if_pos h1, h1] at h
    simp only [AS.hasI, Bool.and_eq_true, decide_eq_true_eq] at h1
    obtain ⟨⟨h2, h3⟩, h4⟩ := h1
    obtain ⟨h5, h6, h7⟩ := AS.liveI_lt hs.inv h2
    have hn := hs.inv.never
    obtain ⟨c, rfl⟩ : ∃ k : Nat, c = (k : Int) := ⟨c.toNat, by omega⟩
    obtain ⟨f, rfl⟩ : ∃ k : Nat, f = (k : Int) := ⟨f.toNat, by omega⟩
    simp only [Int.toNat_natCast] at h6 h
    have hcn : c < α.n := by omega
    have hfn : f < 10 := by omega
    obtain ⟨r, ⟨hi, bL', bM', sf', cs', rf, rfl, hc, hsl⟩, hf⟩ := hA1
    have e0 : rd w0 M1 ⟨a, 0, none⟩ = some (.slice (some ⟨bL', 0, none⟩) α.n α.n) := by rw [rd_own (hf.own (b := a) (cs := arR bL' α.n α.never sf' bM') (e := 71) List.mem_cons_self)]; rfl
    simp only [e0, ob_v, shS_v, nc_v, add_eq, Nat.zero_add, Int.toNat_natCast, Nat.mul_one]
    refine ⟨⟨by omega, by omega⟩, ⟨by omega, by omega⟩, ?_⟩
    refine st_one W.c2 (hf.own (b := bL') (cs := cs') (e := 82) (by simp)) (by rw [hc.len]; show c * 11 + f < 11 * α.n; omega) rfl rfl ?_
    refine h _ ⟨_, ⟨AS.tick_inv (AS.put_inv hs.inv c f v), bL', bM', sf', cs'.set (11 * c + f) (.int .i64 v), rf, rfl, (CellsOk.put (α := α) ⟨hc.len, hc.f, hc.t⟩ hcn hfn v).tick, hsl⟩, ?_⟩
    rw [Nat.mul_comm c 11]
    have h1 := hf.perm (List.perm_middle (l₁ := [_]))
    exact h1.upd.perm (List.perm_middle (l₁ := [_])).symm
  · change α.hasI c f = false at h1
    unfold AS.setI at h
    rw [h1] at h
    exact h _ hA1

/-- A new cell's values. -/
theorem fresh_ok (h : ∀ M', Mem.le M M' → R (.agg freshV.toArray) M') : C PP w0 Id.arena_fresh #[] R M := by
  apply arena_fresh.go
  intro pts H
  unfold arena_fresh.T
  intro b1 hb1 hw1
  simp only [go_sem]
  intro b2 hb2 hw2
  have f1 := (Fit.nil (w0 := w0) (Mem.le_refl M)).new hb1 hw1 (cs := [.int .i64 0, .int .i64 0, .int .i64 0, .int .i64 0, .int .i64 0, .int .i64 0, .int .i64 0, .int .i64 0, .int .i64 0, .int .i64 0, .bool false]) (e := 82)
  have f2 := f1.new hb2 hw2 (cs := [.int .i64 0, .int .i64 0, .int .i64 0, .int .i64 0, .int .i64 0, .int .i64 0, .int .i64 0, .int .i64 0, .int .i64 0, .int .i64 0, .bool false]) (e := 82)
  refine st_agg (vs := [.int .i64 0, .int .i64 0, .int .i64 0, .int .i64 0, .int .i64 0, .int .i64 0, .int .i64 0, .int .i64 0, .int .i64 0, .int .i64 0, .bool true]) W.g82 (f2.own List.mem_cons_self) (by decide) (by decide) ?_
  have f3 := f2.upd (cs' := over [.int .i64 0, .int .i64 0, .int .i64 0, .int .i64 0, .int .i64 0, .int .i64 0, .int .i64 0, .int .i64 0, .int .i64 0, .int .i64 0, .bool false] 0 [.int .i64 0, .int .i64 0, .int .i64 0, .int .i64 0, .int .i64 0, .int .i64 0, .int .i64 0, .int .i64 0, .int .i64 0, .int .i64 0, .bool true]) (e' := 82)
  refine bsl_e (cells := (([0, 1, 2, 3, 6, 9] : List Int).map fun n => Value.int .i64 n).toArray) Tryz.underlying61 W.e3 (by decide) (by kernel_rfl) fun b3 hb3 hw3 => ?_
  have f4 := f3.new hb3 hw3 (cs := (([0, 1, 2, 3, 6, 9] : List Int).map fun n => Value.int .i64 n)) (e := 3)
  simp only [go_sem]
  have step : ∀ (k i : Nat) (f : Nat) (cs : List Value) (M' : Mem), ([0, 1, 2, 3, 6, 9] : List Int)[i]? = some (f : Int) → f < 10 → cs.length = 11 → i < 6 →
      Fit w0 M M' [(b3, (([0, 1, 2, 3, 6, 9] : List Int).map fun n => Value.int .i64 n), 3), (b2, cs, 82), (b1, [.int .i64 0, .int .i64 0, .int .i64 0, .int .i64 0, .int .i64 0, .int .i64 0, .int .i64 0, .int .i64 0, .int .i64 0, .int .i64 0, .bool false], 82)] →
      (∀ M'', Fit w0 M M'' [(b3, (([0, 1, 2, 3, 6, 9] : List Int).map fun n => Value.int .i64 n), 3), (b2, cs.set f (.int .i64 (-1)), 82), (b1, [.int .i64 0, .int .i64 0, .int .i64 0, .int .i64 0, .int .i64 0, .int .i64 0, .int .i64 0, .int .i64 0, .int .i64 0, .int .i64 0, .bool false], 82)] →
        arena_fresh.L1 pts k ⟨b1, 0, none⟩ ⟨b2, 0, none⟩ ⟨some ⟨b3, 0, none⟩, 6, 6⟩ 6 ((i + 1 : Nat) : Int) M'') →
      arena_fresh.L1 pts (k + 1) ⟨b1, 0, none⟩ ⟨b2, 0, none⟩ ⟨some ⟨b3, 0, none⟩, 6, 6⟩ 6 (i : Int) M' := by
    intro k i f cs M' hi hf hl h6 hfit hK
    rw [H.L1]
    unfold arena_fresh.L1.T
    rw [bs_decide, if_pos (by omega)]
    have hr : RdI w0 M' .i64 ⟨some ⟨b3, 0, none⟩, 6, 6⟩ [0, 1, 2, 3, 6, 9] := RdI.own (hfit.own List.mem_cons_self) rfl (Nat.le_refl _) (ints_get _) (by decide) (by decide)
    refine rdx W.c3 hr (Mem.le_refl _) i rfl hi ?_
    refine ⟨⟨by omega, by omega⟩, ?_⟩
    rw [add_eq, Nat.zero_add, Nat.mul_one, Int.toNat_natCast]
    refine st_one W.c2 (hfit.own (b := b2) (cs := cs) (e := 82) (by simp)) (by omega) rfl rfl ?_
    rw [w64_in (by omega)]
    refine hK _ ?_
    have h1 := hfit.perm (List.perm_middle (l₁ := [_]))
    exact h1.upd.perm (List.perm_middle (l₁ := [_])).symm
  refine ⟨7, step 6 0 0 _ _ rfl (by omega) rfl (by omega) f4 fun M5 f5 => step 5 1 1 _ _ rfl (by omega) (by rw [List.length_set]; rfl) (by omega) f5 fun M6 f6 => step 4 2 2 _ _ rfl (by omega) (by simp only [List.length_set]; rfl) (by omega) f6 fun M7 f7 =>
    step 3 3 3 _ _ rfl (by omega) (by simp only [List.length_set]; rfl) (by omega) f7 fun M8 f8 => step 2 4 6 _ _ rfl (by omega) (by simp only [List.length_set]; rfl) (by omega) f8 fun M9 f9 => step 1 5 9 _ _ rfl (by omega) (by simp only [List.length_set]; rfl) (by omega) f9 fun M10 f10 => ?_⟩
  rw [H.L1]
  unfold arena_fresh.L1.T
  rw [bs_decide, if_neg (by omega)]
  have o2 : Own w0 M10 b2 freshV 82 := f10.own (List.mem_cons_of_mem _ List.mem_cons_self)
  have o1 := f10.own (List.mem_cons_of_mem _ (List.mem_cons_of_mem _ List.mem_cons_self))
  rw [ld_agg (cs := freshV) W.g82 (fun j v hj => by rw [add_eq, rd_own o2, Nat.zero_add]; exact hj)]
  simp only [freshV, go_sem]
  refine st_agg (vs := freshV) W.g82 o1 (by decide) (by decide) ?_
  have f11 := (f10.perm (List.perm_middle (l₁ := [_, _]))).upd (cs' := freshV) (e' := 82)
  have o3 := f11.own List.mem_cons_self
  have hov : over [.int .i64 0, .int .i64 0, .int .i64 0, .int .i64 0, .int .i64 0, .int .i64 0, .int .i64 0, .int .i64 0, .int .i64 0, .int .i64 0, .bool false] 0 freshV = freshV := rfl
  rw [hov, rdv_ptr, ld_agg (cs := freshV) W.g82 (fun j v hj => by rw [add_eq, rd_own o3, Nat.zero_add]; exact hj)]
  exact h _ f11.fr

theorem new_zeros {n c j : Nat} (hc : c < n) (hj : j < 11) : (zeros (.agg #[.int .i64 0, .int .i64 0, .int .i64 0, .int .i64 0, .int .i64 0, .int .i64 0, .int .i64 0, .int .i64 0, .int .i64 0, .int .i64 0, .bool false]) n)[11 * c + j]? = [Value.int .i64 0, .int .i64 0, .int .i64 0, .int .i64 0, .int .i64 0, .int .i64 0, .int .i64 0, .int .i64 0, .int .i64 0, .int .i64 0, .bool false][j]? := by
  have hlt : 11 * c + j < n * 11 := by omega
  have hm : (11 * c + j) % 11 = j := by omega
  simp only [zeros, Builtin.zeroCells, Value.cells]
  rw [Array.getElem?_toList, Array.getElem?_map]
  rw [Array.getElem?_eq_getElem (by simpa using hlt)]
  simp only [Array.getElem_range, Option.map_some]
  rw [show (#[Value.int .i64 0, .int .i64 0, .int .i64 0, .int .i64 0, .int .i64 0, .int .i64 0, .int .i64 0, .int .i64 0, .int .i64 0, .int .i64 0, .bool false] : Array Value).size = 11 from rfl, hm]
  match j, hj with
  | 0, _ | 1, _ | 2, _ | 3, _ | 4, _ | 5, _ | 6, _ | 7, _ | 8, _ | 9, _ | 10, _ => rfl

theorem meterNew_ok (h : ∀ b, M b = none → w0.heap.size ≤ b → R (.pointer (some ⟨b, 0, none⟩)) (M.set b (.row (meterR 0 0 0) 74))) : C PP w0 Id.meter_New #[] R M := by
  apply meter_New.go
  unfold meter_New.T
  simp only [go_sem]
  exact h

theorem New_ok {cells : Int} (h : ∀ M' a, Holds w0 M M' (arenaA a (AS.new (if (if 65536 < cells then 65536 else cells) > 0 then (if 65536 < cells then 65536 else cells) else 0).toNat)) → R (.pointer (some ⟨a, 0, none⟩)) M') : C PP w0 Id.arena_New #[.int .i64 cells] R M := by
  apply arena_New.go
  unfold arena_New.T
  obtain ⟨n, hn, hle⟩ : ∃ n : Nat, (if (if 65536 < cells then 65536 else cells) > 0 then (if 65536 < cells then 65536 else cells) else 0) = (n : Int) ∧ n ≤ 65536 := by
    refine ⟨(if (if 65536 < cells then 65536 else cells) > 0 then (if 65536 < cells then 65536 else cells) else 0).toNat, ?_, ?_⟩
    · split
      · omega
      · omega
    · split
      · split <;> omega
      · omega
  rw [hn] at h ⊢
  simp only [Int.toNat_natCast] at h
  obtain ⟨i, hi, hz, h1, h2, h3, h4⟩ := W.e82
  have hcells : CellsOk (zeros (.agg #[.int .i64 0, .int .i64 0, .int .i64 0, .int .i64 0, .int .i64 0, .int .i64 0, .int .i64 0, .int .i64 0, .int .i64 0, .int .i64 0, .bool false]) n) (AS.new n) := by
    refine ⟨by rw [zeros_length]; show n * 11 = 11 * n; omega, fun c f hc hf => ?_, fun c hc => ?_⟩
    · rw [new_zeros (n := n) (j := f) hc (by omega)]
      match f, hf with
      | 0, _ | 1, _ | 2, _ | 3, _ | 4, _ | 5, _ | 6, _ | 7, _ | 8, _ | 9, _ => rfl
    · rw [new_zeros (n := n) (j := 10) hc (by omega)]; rfl
  have fin : ∀ (bL bM : Nat) (M1 : Mem), Fit w0 M M1 [(bL, zeros (.agg #[.int .i64 0, .int .i64 0, .int .i64 0, .int .i64 0, .int .i64 0, .int .i64 0, .int .i64 0, .int .i64 0, .int .i64 0, .int .i64 0, .bool false]) n, 82), (bM, meterR 0 0 0, 74)] →
      ∀ b, M1 b = none → w0.heap.size ≤ b → R (.pointer (some ⟨b, 0, none⟩)) (M1.set b (.row (arR bL n 0 ⟨none, 0, 0⟩ bM) 71)) := by
    intro bL bM M1 hf b hb hw
    refine h _ b ⟨_, ⟨AS.new_inv hle, bL, bM, ⟨none, 0, 0⟩, _, [], rfl, hcells, SlA.nil⟩, ?_⟩
    exact hf.new hb hw
  have hmks : ∀ (M1 : Mem) (K : Value → Mem → Prop), (∀ b, M1 b = none → w0.heap.size ≤ b → K (.slice (some ⟨b, 0, none⟩) n n) (M1.set b (.row (zeros (.agg #[.int .i64 0, .int .i64 0, .int .i64 0, .int .i64 0, .int .i64 0, .int .i64 0, .int .i64 0, .int .i64 0, .int .i64 0, .int .i64 0, .bool false]) n) 82))) →
      (std PP w0).mks 69 (.int .i64 (n : Int)) (.int .i64 (n : Int)) K M1 := by
    intro M1 K hK
    refine mks_ok Tryz.underlying69 hi hz (by rw [h1]; exact h2) (Nat.le_refl _) ?_ (by omega) hK
    exact Nat.le_trans (Nat.mul_le_mul h4 hle) (by decide)
  constructor
  · refine hmks M _ fun b hb hw => ?_
    simp only [go_sem]
    refine meterNew_ok fun b2 hb2 hw2 => ?_
    simp only [go_sem]
    have f1 := ((Fit.nil (w0 := w0) (Mem.le_refl M)).new hb hw (cs := zeros (.agg #[.int .i64 0, .int .i64 0, .int .i64 0, .int .i64 0, .int .i64 0, .int .i64 0, .int .i64 0, .int .i64 0, .int .i64 0, .int .i64 0, .bool false]) n) (e := 82)).new hb2 hw2 (cs := meterR 0 0 0) (e := 74)
    exact fin b b2 _ (f1.perm (List.Perm.swap _ _ _))
  · refine meterNew_ok fun b2 hb2 hw2 => ?_
    simp only [go_sem]
    refine hmks _ _ fun b hb hw => ?_
    simp only [go_sem]
    have f1 := ((Fit.nil (w0 := w0) (Mem.le_refl M)).new hb2 hw2 (cs := meterR 0 0 0) (e := 74)).new hb hw (cs := zeros (.agg #[.int .i64 0, .int .i64 0, .int .i64 0, .int .i64 0, .int .i64 0, .int .i64 0, .int .i64 0, .int .i64 0, .int .i64 0, .int .i64 0, .bool false]) n) (e := 82)
    exact fin b b2 _ f1

theorem natsV_len (l : List Nat) : (natsV l).length = l.length := by simp [natsV]
theorem natsV_map (l : List Nat) : natsV l = (l.map fun (c : Nat) => (c : Int)).map (Value.int .i64) := by simp [natsV]
theorem natsV_get {l : List Nat} {j c : Nat} (h : l[j]? = some c) : (natsV l)[j]? = some (.int .i64 (c : Int)) := by simp [natsV, h]

theorem Take_ok {a : Nat} {α : AS} (hA : Holds w0 F M (arenaA a α)) (h : ∀ M', Holds w0 F M' (arenaA a α.take.tick) → R (.tuple #[.int .i64 α.nextI, .bool α.next.isSome]) M') : C PP w0 Id.arena_Arena_Take #[.pointer (some ⟨a, 0, none⟩)] R M := by
  have hInv := hA.inv
  obtain ⟨bL', bM', sf', cs', hs, hs1, hA1⟩ := hA.ticked
  apply arena_Arena_Take.go
  intro pts H
  unfold arena_Arena_Take.T
  simp only [go_sem, add_eq, Nat.zero_add, hs.r3]
  refine Tick_ok hs.m hs.inv.steps.2 one_in (by omega) ?_
  obtain ⟨r, ⟨hi, bL, bM, sf, cs, rf, rfl, hc, hsl⟩, hf⟩ := hA1
  clear hs1 hs
  generalize M.set bM' (.row (meterR (addc α.steps 1) α.begun α.most) 74) = M1 at hf ⊢
  change Fit w0 F M1 ((a, arR bL α.n α.never sf bM, 71) :: (bL, cs, 82) :: (bM, meterR (addc α.steps 1) α.begun α.most, 74) :: rf) at hf
  change SlA sf (natsV α.free) rf at hsl
  -- what is laid into the cell
  have lay : ∀ (c : Nat) (M2 : Mem) (never : Nat) (sf : SV) (free : List Nat) (rf : Rws), c < α.n → α.next = some c → α.take.tick.never = never → α.take.tick.free = free →
      Fit w0 F M2 ((a, arR bL α.n never sf bM, 71) :: (bL, cs, 82) :: (bM, meterR (addc α.steps 1) α.begun α.most, 74) :: rf) → SlA sf (natsV free) rf → arena_Arena_Take.J1 pts (some ⟨a, 0, none⟩) (c : Int) M2 := by
    intro c M2 never sf free rf hcn hnx hnv hfr hf2 hsl2
    rw [H.J1]
    unfold arena_Arena_Take.J1.T
    have e0 : rd w0 M2 ⟨a, 0, none⟩ = some (.slice (some ⟨bL, 0, none⟩) α.n α.n) := by rw [rd_own (hf2.own List.mem_cons_self)]; rfl
    simp only [go_sem, e0]
    refine fresh_ok fun M3 l3 => ?_
    have hf3 := hf2.le l3
    have e3 : rd w0 M3 ⟨a, 0, none⟩ = some (.slice (some ⟨bL, 0, none⟩) α.n α.n) := by rw [rd_own (hf3.own List.mem_cons_self)]; rfl
    simp only [freshV, go_sem, e3, add_eq, Nat.zero_add, Int.toNat_natCast]
    refine ⟨⟨by omega, by omega⟩, rfl, ?_⟩
    refine st_agg (vs := freshV) W.g82 (hf3.own (List.mem_cons_of_mem _ List.mem_cons_self)) (by rw [hc.len]; show c * 11 + 11 ≤ 11 * α.n; omega) (by decide) ?_
    have hni : α.nextI = (c : Int) := by unfold AS.nextI; rw [hnx]
    have hh := h (M3.set bL (.row (over cs (c * 11) freshV) 82))
    rw [hni, hnx] at hh
    refine hh ⟨_, ⟨AS.tick_inv (AS.take_inv hInv), bL, bM, sf, over cs (11 * c) freshV, rf, rfl, ?_, by rw [hfr]; exact hsl2⟩, ?_⟩
    · have h5 := (AS.next_some hInv hnx).2.2
      refine (CellsOk.lay (α := α) ⟨hc.len, hc.f, hc.t⟩ hcn (α' := α.take) ?_ ?_ ?_).tick
      · rw [h5]; rfl
      · rw [h5]
      · rw [h5]
    · have h5 := (AS.next_some hInv hnx).2.2
      have en : α.take.tick.n = α.n := by show α.take.n = α.n; rw [h5]; rfl
      have es : α.take.tick.steps = addc α.steps 1 := by show addc α.take.steps 1 = _; rw [h5]; rfl
      have eb : α.take.tick.begun = α.begun := by show α.take.begun = _; rw [h5]; rfl
      have em : α.take.tick.most = α.most := by show α.take.most = _; rw [h5]; rfl
      rw [en, es, eb, em, hnv, Nat.mul_comm c 11]
      exact ((hf3.perm (List.perm_middle (l₁ := [_]))).upd).perm (List.perm_middle (l₁ := [_])).symm
  have e1 : rd w0 M1 ⟨a, 1, none⟩ = some (.int .i64 (α.never : Int)) := by rw [rd_own (hf.own List.mem_cons_self)]; rfl
  have e2 : rd w0 M1 ⟨a, 2, none⟩ = some sf.v := by rw [rd_own (hf.own List.mem_cons_self)]; rfl
  have e0 : rd w0 M1 ⟨a, 0, none⟩ = some (.slice (some ⟨bL, 0, none⟩) α.n α.n) := by rw [rd_own (hf.own List.mem_cons_self)]; rfl
  have hlen : sf.n = α.free.length := by rw [hsl.len]; exact natsV_len _
  have hInvl := hInv.len
  have hInvn := hInv.never
  have hInvm := hInv.n
  simp only [go_sem, add_eq, Nat.zero_add, e1, e2, e0, bs_decide]
  split
  · rename_i hge
    rw [w64_in (by omega)] at hge
    have hlast : ∃ c, α.free.getLast? = some c := by
      cases hx : α.free.getLast? with
      | some c => exact ⟨c, rfl⟩
      | none => have := List.getLast?_eq_none_iff.1 hx; rw [this] at hlen; simp at hlen; omega
    obtain ⟨c, hlast⟩ := hlast
    have hidx : α.free[α.free.length - 1]? = some c := by rw [← List.getLast?_eq_getElem?]; exact hlast
    have hsplit : α.free = α.free.dropLast ++ [c] := by
      obtain ⟨l, e⟩ := List.getLast?_eq_some_iff.1 hlast
      rw [e]; simp
    have hnx : α.next = some c := by unfold AS.next; rw [hlast]
    have htake : α.take = { α.lay c with free := α.free.dropLast } := by unfold AS.take; rw [hlast]
    have hcn := (AS.next_some hInv hnx).1
    have hpos : 0 < α.free.length := by omega
    clear hge
    rcases hsl with ⟨rfl, h0, _⟩ | ⟨bF, rest, e, rfl, rfl⟩
    · simp only at hlen; omega
    · have hoF := hf.own (b := bF) (cs := natsV α.free ++ rest) (e := e) (by simp)
      have eF : rd w0 M1 ⟨bF, α.free.length - 1, none⟩ = some (.int .i64 (c : Int)) := by
        rw [rd_own hoF, List.getElem?_append_left (by rw [natsV_len]; omega)]
        exact natsV_get hidx
      simp only [natsV_len] at hlen ⊢
      have ew : w64 ((α.free.length : Int) - 1) = ((α.free.length - 1 : Nat) : Int) := by rw [w64_in (by omega)]; omega
      simp only [nc_v, ew, Int.toNat_natCast, Nat.mul_one, add_eq, Nat.zero_add, eF, ob_v, shI_v]
      refine ⟨⟨by omega, by omega⟩, ⟨by omega, by omega, by omega⟩, ?_⟩
      refine st_one W.c61 (hf.own List.mem_cons_self) (by simp) rfl rfl ?_
      rw [if_neg (by show ¬ (α.free.length + rest.length = 0); omega)]
      have hsub : natsV α.free ++ rest = natsV α.free.dropLast ++ (.int .i64 (c : Int) :: rest) := by
        conv => lhs; rw [hsplit]
        simp [natsV]
      have hdl : α.free.length = α.free.dropLast.length + 1 := by
        conv => lhs; rw [hsplit]
        simp
      refine lay c _ α.never ⟨some ⟨bF, 0, none⟩, α.free.dropLast.length, α.free.dropLast.length + (.int .i64 (c : Int) :: rest).length⟩ α.free.dropLast [(bF, natsV α.free ++ rest, e)] hcn hnx ?_ ?_ ?_ ?_
      · show α.take.never = _; rw [htake]; rfl
      · show α.take.free = _; rw [htake]
      · have hrow : (arR bL α.n α.never ⟨some ⟨bF, 0, none⟩, (natsV α.free).length, (natsV α.free).length + rest.length⟩ bM).set 2 (.slice (Option.map (fun (x : Addr) => x.add ((0 : Int).toNat * 1)) (some ⟨bF, 0, none⟩)) (α.free.length - 1 - (0 : Int).toNat) (α.free.length + rest.length - (0 : Int).toNat)) =
            arR bL α.n α.never ⟨some ⟨bF, 0, none⟩, α.free.dropLast.length, α.free.dropLast.length + (Value.int .i64 (c : Int) :: rest).length⟩ bM := by
          have g1 : α.free.length - 1 - (0 : Int).toNat = α.free.dropLast.length := by simp
          have g2 : α.free.length + rest.length - (0 : Int).toNat = α.free.dropLast.length + (Value.int .i64 (c : Int) :: rest).length := by
            rw [List.length_cons, hdl]; simp; omega
          rw [g1, g2]; rfl
        have := hf.upd (cs' := (arR bL α.n α.never ⟨some ⟨bF, 0, none⟩, (natsV α.free).length, (natsV α.free).length + rest.length⟩ bM).set 2 (.slice (Option.map (fun (x : Addr) => x.add ((0 : Int).toNat * 1)) (some ⟨bF, 0, none⟩)) (α.free.length - 1 - (0 : Int).toNat) (α.free.length + rest.length - (0 : Int).toNat))) (e' := 71)
        rw [← hrow]
        exact this
      · refine .inr ⟨bF, .int .i64 (c : Int) :: rest, e, by simp [natsV], by rw [hsub]⟩
  · rename_i hge
    rw [w64_in (by omega)] at hge
    have hfree : α.free = [] := List.eq_nil_of_length_eq_zero (by omega)
    have hlast : α.free.getLast? = none := by rw [hfree]; rfl
    split
    · rename_i hfull
      change (α.never : Int) ≥ (α.n : Int) at hfull
      have hnx : α.next = none := by unfold AS.next; rw [hlast]; simp only; rw [if_neg (by omega)]
      have htake := (AS.next_none hnx).1
      have hh := h M1
      unfold AS.nextI at hh
      rw [hnx, htake] at hh
      exact hh ⟨_, ⟨hi, bL, bM, sf, cs, rf, rfl, hc, hsl⟩, hf⟩
    · rename_i hfull
      change ¬ (α.never : Int) ≥ (α.n : Int) at hfull
      have hlt : α.never < α.n := by omega
      have hnx : α.next = some α.never := by unfold AS.next; rw [hlast]; simp only; rw [if_pos hlt]
      have htake : α.take = { α.lay α.never with never := α.never + 1 } := by unfold AS.take; rw [hlast]; simp only; rw [if_pos hlt]
      refine st_one W.c3 (hf.own List.mem_cons_self) (by simp) rfl rfl ?_
      rw [w64_in (by omega)]
      refine lay α.never _ (α.never + 1) sf α.free rf hlt hnx ?_ ?_ hf.upd hsl
      · show α.take.never = _; rw [htake]
      · show α.take.free = _; rw [htake]; rfl

theorem Give_ok {a : Nat} {α : AS} (hA : Holds w0 F M (arenaA a α)) {c : Int} (h : ∀ M', Holds w0 F M' (arenaA a (α.giveI c).tick) → R (.bool (α.liveI c)) M') : C PP w0 Id.arena_Arena_Give #[.pointer (some ⟨a, 0, none⟩), .int .i64 c] R M := by
  have hInv := hA.inv
  obtain ⟨bL', bM', sf', cs', hs, hs1, hA1⟩ := hA.ticked
  apply arena_Arena_Give.go
  unfold arena_Arena_Give.T
  simp only [go_sem, add_eq, Nat.zero_add, hs.r3]
  refine Tick_ok hs.m hs.inv.steps.2 one_in (by omega) ?_
  clear hs
  generalize M.set bM' (.row (meterR (addc α.steps 1) α.begun α.most) 74) = M1 at hA1 hs1 ⊢
  refine LiveS_ok hs1 ?_
  simp only [go_sem, bs_not]
  rw [bs_b]
  refine ⟨fun h1 => ?_, fun h1 => ?_⟩
  · change α.liveI c = true at h1
    unfold AS.giveI at h
    rw [if_pos h1, h1] at h
    obtain ⟨h5, h6, h7⟩ := AS.liveI_lt hInv h1
    obtain ⟨c, rfl⟩ : ∃ k : Nat, c = (k : Int) := ⟨c.toNat, by omega⟩
    simp only [Int.toNat_natCast] at h6 h7 h
    have hn := hInv.never
    have hnn := hInv.n
    have hInvl := hInv.len
    have hcn : c < α.n := by omega
    obtain ⟨r, ⟨hi, bL, bM, sf, cs, rf, rfl, hc, hsl⟩, hf⟩ := hA1
    change Fit w0 F M1 ((a, arR bL α.n α.never sf bM, 71) :: (bL, cs, 82) :: (bM, meterR (addc α.steps 1) α.begun α.most, 74) :: rf) at hf
    change SlA sf (natsV α.free) rf at hsl
    have e0 : rd w0 M1 ⟨a, 0, none⟩ = some (.slice (some ⟨bL, 0, none⟩) α.n α.n) := by rw [rd_own (hf.own List.mem_cons_self)]; rfl
    simp only [e0, ob_v, shS_v, nc_v, add_eq, Nat.zero_add, Int.toNat_natCast]
    refine ⟨⟨by omega, by omega⟩, ?_⟩
    refine st_one W.c4 (hf.own (List.mem_cons_of_mem _ List.mem_cons_self)) (by rw [hc.len]; show c * 11 + 10 < 11 * α.n; omega) rfl rfl ?_
    have hf2 := ((hf.perm (List.perm_middle (l₁ := [_]))).upd (cs' := cs.set (c * 11 + 10) (.bool false)) (e' := 82)).perm (List.perm_middle (l₁ := [_])).symm
    generalize M1.set bL (.row (cs.set (c * 11 + 10) (.bool false)) 82) = M2 at hf2 ⊢
    have e2 : rd w0 M2 ⟨a, 2, none⟩ = some sf.v := by rw [rd_own (hf2.own List.mem_cons_self)]; rfl
    simp only [e2, ob_v, shS_sv]
    have hf3 : Fit w0 F M2 (rf ++ [(a, arR bL α.n α.never sf bM, 71), (bL, cs.set (c * 11 + 10) (.bool false), 82), (bM, meterR (addc α.steps 1) α.begun α.most, 74)]) := hf2.perm (List.perm_append_comm (l₁ := [_, _, _]))
    have hsl3 := hsl.sl hf3
    have hq := hf3.perm List.perm_append_comm |>.drop
    have hle := hf3.aside.1.fr
    rw [natsV_map] at hsl3
    refine bsl_sl (cells := #[.int .i64 (c : Int)]) hle Tryz.underlying61 W.e3 (n := 1) (by decide) (by kernel_rfl) rfl fun M3 o h3 h4 h9 => ?_
    simp only [go_sem]
    refine app_new (m := [(c : Int)]) Tryz.underlying61 W.e3 h3 (hsl3.le h4) h9 (by simp; omega) fun M4 o2 h10 h11 => ?_
    simp only [go_sem]
    rw [show (α.free.map fun (c : Nat) => (c : Int)) ++ [(c : Int)] = ((α.free ++ [c]).map fun (c : Nat) => (c : Int)) from by simp, ← natsV_map] at h11
    obtain ⟨rf', hsl', hf'⟩ := Sl.fit h11 hq h10
    have hf5 := hf'.perm (List.perm_append_comm (l₂ := [_, _, _]))
    refine st_one W.c61 (hf5.own List.mem_cons_self) (by simp) rfl rfl ?_
    refine h _ ⟨_, ⟨AS.tick_inv (AS.unlive_inv hInv h7), bL, bM, o2, cs.set (11 * c + 10) (.bool false), rf', rfl, (CellsOk.mark (α := α) ⟨hc.len, hc.f, hc.t⟩ hcn).tick, hsl'⟩, ?_⟩
    rw [Nat.mul_comm 11 c]
    exact hf5.upd
  · change α.liveI c = false at h1
    unfold AS.giveI at h
    rw [h1] at h
    exact h _ hA1

end
end Go.Proofs.YtbkicgfgpmekeaaGreat.HL

/-
  ChM: rings of cells, in plain Lean, with no program in sight.
-/
set_option linter.unusedVariables false
set_option linter.unusedSimpArgs false
namespace Go.Proofs.YtbkicgfgpmekeaaGreat.HL

theorem nodup_len : ∀ (n : Nat) (l : List Nat), l.Nodup → (∀ x ∈ l, x < n) → l.length ≤ n := by
  intro n
  induction n with
  | zero =>
    intro l _ h
    cases l with
    | nil => exact Nat.le_refl _
    | cons x r => have := h x List.mem_cons_self; omega
  | succ n ih =>
    intro l hn h
    by_cases hm : n ∈ l
    · have h1 := ih (l.erase n) (hn.erase n) (fun x hx => by
        have h2 := (hn.mem_erase_iff).1 hx
        have := h x h2.2; omega)
      rw [List.length_erase_of_mem hm] at h1; omega
    · have := ih l hn (fun x hx => by
        have h1 := h x hx
        have h2 : x ≠ n := fun e => hm (e ▸ hx)
        omega)
      omega

namespace AS
/-- One is next behind the other. -/
def Nx (α : AS) (x y : Nat) : Prop := α.get x 3 = (y : Int) ∧ α.get y 2 = (x : Int)
def seg (α : AS) : List Nat → Prop
  | [] => True
  | [_] => True
  | x :: y :: r => α.Nx x y ∧ seg α (y :: r)
/-- A ring, from its first cell on. -/
structure Ring (α : AS) (c : Nat) (r : List Nat) : Prop where
  nd : (c :: r).Nodup
  live : ∀ x ∈ c :: r, α.live x = true
  seg : α.seg (c :: r)
  back : α.Nx (r.getLastD c) c

theorem seg_congr {α β : AS} : ∀ (l : List Nat), (∀ x ∈ l, β.get x 3 = α.get x 3) → (∀ x ∈ l, β.get x 2 = α.get x 2) → α.seg l → β.seg l
  | [], _, _, _ => trivial
  | [_], _, _, _ => trivial
  | x :: y :: r, h1, h2, h => by
    refine ⟨⟨?_, ?_⟩, seg_congr (y :: r) (fun z hz => h1 z (List.mem_cons_of_mem _ hz)) (fun z hz => h2 z (List.mem_cons_of_mem _ hz)) h.2⟩
    · rw [h1 x (by simp)]; exact h.1.1
    · rw [h2 y (by simp)]; exact h.1.2
theorem last_mem (c : Nat) : ∀ (r : List Nat), r.getLastD c ∈ c :: r := by
  intro r
  induction r generalizing c with
  | nil => simp
  | cons x r ih => rw [List.getLastD_cons]; exact List.mem_cons_of_mem _ (ih x)
/-- Beginning and end may change outwards. -/
theorem seg_inner {α β : AS} : ∀ (c : Nat) (r : List Nat), (∀ x ∈ c :: r, x ≠ r.getLastD c → β.get x 3 = α.get x 3) → (∀ x ∈ r, β.get x 2 = α.get x 2) → (c :: r).Nodup → α.seg (c :: r) → β.seg (c :: r)
  | _, [], _, _, _, _ => trivial
  | x, y :: r, h1, h2, hn, h => by
    simp only [List.nodup_cons] at hn
    have hlast : x ≠ (y :: r).getLastD x := by
      intro e
      have : (y :: r).getLastD x ∈ y :: r := by
        rw [List.getLastD_cons]; exact last_mem y r
      rw [← e] at this
      exact hn.1 this
    refine ⟨⟨?_, ?_⟩, seg_inner y r (fun z hz hne => h1 z (List.mem_cons_of_mem _ hz) (by rwa [List.getLastD_cons])) (fun z hz => h2 z (List.mem_cons_of_mem _ hz)) (by simpa only [List.nodup_cons] using hn.2) h.2⟩
    · rw [h1 x (by simp) hlast]; exact h.1.1
    · rw [h2 y (by simp)]; exact h.1.2
theorem seg_append {α : AS} : ∀ (c : Nat) (r : List Nat) (d : Nat) (s : List Nat), α.seg (c :: r ++ d :: s) ↔ α.seg (c :: r) ∧ α.Nx (r.getLastD c) d ∧ α.seg (d :: s)
  | c, [], d, s => by simp [seg]
  | c, x :: r, d, s => by
    have := seg_append (α := α) x r d s
    rw [List.getLastD_cons]
    show α.Nx c x ∧ α.seg (x :: r ++ d :: s) ↔ (α.Nx c x ∧ α.seg (x :: r)) ∧ _
    rw [this, and_assoc]
theorem last_append (c d : Nat) (r s : List Nat) : (r ++ d :: s).getLastD c = s.getLastD d := by
  induction r generalizing c with
  | nil => rw [List.nil_append, List.getLastD_cons]
  | cons x r ih => rw [List.cons_append, List.getLastD_cons]; exact ih x

theorem Ring.turn {α : AS} {c d : Nat} {r s : List Nat} (h : α.Ring c (r ++ d :: s)) : α.Ring d (s ++ c :: r) := by
  have hs := (seg_append c r d s).1 h.seg
  have hb := h.back
  rw [last_append] at hb
  have hp : (c :: (r ++ d :: s)).Perm (d :: (s ++ c :: r)) := List.perm_append_comm (l₁ := c :: r) (l₂ := d :: s)
  refine ⟨hp.nodup_iff.1 h.nd, fun x hx => h.live x (hp.mem_iff.2 hx), (seg_append d s c r).2 ⟨hs.2.2, hb, hs.1⟩, ?_⟩
  rw [last_append]; exact hs.2.1
theorem Ring.congr {α β : AS} {c : Nat} {r : List Nat} (h : α.Ring c r) (h3 : ∀ x ∈ c :: r, β.get x 3 = α.get x 3) (h2 : ∀ x ∈ c :: r, β.get x 2 = α.get x 2) (hl : ∀ x ∈ c :: r, β.live x = α.live x) : β.Ring c r :=
  ⟨h.nd, fun x hx => by rw [hl x hx]; exact h.live x hx, seg_congr _ h3 h2 h.seg, by
    refine ⟨?_, ?_⟩
    · rw [h3 _ (last_mem c r)]; exact h.back.1
    · rw [h2 c List.mem_cons_self]; exact h.back.2⟩

/-- c's right is d, d's left is c. -/
def link (α : AS) (c d : Nat) : AS := (α.put c 3 d).put d 2 c
theorem link3 (α : AS) (c d x : Nat) : (α.link c d).get x 3 = if x = c then (d : Int) else α.get x 3 := by
  show (if x = d ∧ 3 = 2 then (c : Int) else if x = c ∧ 3 = 3 then (d : Int) else α.get x 3) = _
  rw [if_neg (by simp)]
  by_cases h : x = c
  · rw [if_pos ⟨h, rfl⟩, if_pos h]
  · rw [if_neg (fun e => h e.1), if_neg h]
theorem link2 (α : AS) (c d x : Nat) : (α.link c d).get x 2 = if x = d then (c : Int) else α.get x 2 := by
  show (if x = d ∧ 2 = 2 then (c : Int) else if x = c ∧ 2 = 3 then (d : Int) else α.get x 2) = _
  by_cases h : x = d
  · rw [if_pos ⟨h, rfl⟩, if_pos h]
  · rw [if_neg (fun e => h e.1), if_neg h, if_neg (by simp)]
theorem link_n (α : AS) (c d : Nat) : (α.link c d).n = α.n := rfl
theorem link_live (α : AS) (c d : Nat) : (α.link c d).live = α.live := rfl

theorem ring_one {α : AS} {c : Nat} (h : α.live c = true) : (α.link c c).Ring c [] :=
  ⟨by simp, fun x hx => by simp at hx; subst hx; exact h, trivial, by
    refine ⟨?_, ?_⟩
    · show (α.link c c).get c 3 = _
      rw [link3, if_pos rfl]
    · rw [link2, if_pos rfl]; rfl⟩

/-- d is put next behind c; what was next is next behind d. -/
theorem ring_put {α : AS} {c d : Nat} {r : List Nat} (h : α.Ring c r) (hd : d ∉ c :: r) (hl : α.live d = true) : ((α.link c d).link d (r.headD c)).Ring c (d :: r) := by
  have hnd : (c :: d :: r).Nodup := by
    have := h.nd
    simp only [List.nodup_cons, List.mem_cons, not_or] at this hd ⊢
    exact ⟨⟨fun e => hd.1 e.symm, this.1⟩, hd.2, this.2⟩
  have hcd : c ≠ d := fun e => hd (by simp [e])
  have hlv : ∀ x ∈ c :: d :: r, ((α.link c d).link d (r.headD c)).live x = true := by
    intro x hx
    rw [link_live, link_live]
    rcases List.mem_cons.1 hx with rfl | hx
    · exact h.live x List.mem_cons_self
    · rcases List.mem_cons.1 hx with rfl | hx
      · exact hl
      · exact h.live x (List.mem_cons_of_mem _ hx)
  have hR : ((α.link c d).link d (r.headD c)).Nx c d := by
    refine ⟨?_, ?_⟩
    · rw [link3, if_neg hcd, link3, if_pos rfl]
    · rw [link2, link2, if_pos rfl]
      split
      · rename_i e
        exfalso
        cases r with
        | nil => exact hcd e.symm
        | cons y q => exact hd (by simp only [List.headD_cons] at e; simp [e])
      · rfl
  match r, h, hd, hnd, hlv, hR with
  | [], h, hd, hnd, hlv, hR =>
    refine ⟨hnd, hlv, ⟨hR, trivial⟩, ?_⟩
    show Nx _ d c
    refine ⟨?_, ?_⟩
    · rw [link3, if_pos rfl]; rfl
    · rw [link2, List.headD_nil, if_pos rfl]
  | y :: q, h, hd, hnd, hlv, hR =>
    have hseg : α.seg (y :: q) := h.seg.2
    have hndq := hnd
    simp only [List.nodup_cons, List.mem_cons, not_or] at hndq
    refine ⟨hnd, hlv, ⟨hR, ⟨?_, ?_⟩, ?_⟩, ?_⟩
    · rw [link3, if_pos rfl]; rfl
    · rw [link2, List.headD_cons, if_pos rfl]
    · refine seg_inner (α := α) y q (fun x hx _ => ?_) (fun x hx => ?_) h.nd.tail hseg
      · have h1 : x ≠ d := fun e => hd (by rw [← e]; exact List.mem_cons_of_mem _ hx)
        have h2 : x ≠ c := fun e => (List.nodup_cons.1 h.nd).1 (by rw [← e]; exact hx)
        rw [link3, if_neg h1, link3, if_neg h2]
      · have h1 : x ≠ d := fun e => hd (by rw [← e]; simp [hx])
        have h2 : x ≠ y := fun e => (List.nodup_cons.1 h.nd.tail).1 (by rw [← e]; exact hx)
        rw [link2, List.headD_cons, if_neg h2, link2, if_neg h1]
    · rw [List.getLastD_cons, List.getLastD_cons]
      have hb := h.back
      rw [List.getLastD_cons] at hb
      have hm := last_mem y q
      have h1 : q.getLastD y ≠ d := fun e => hd (by rw [← e]; exact List.mem_cons_of_mem _ hm)
      have h2 : q.getLastD y ≠ c := fun e => (List.nodup_cons.1 h.nd).1 (by rw [← e]; exact hm)
      refine ⟨?_, ?_⟩
      · rw [link3, if_neg h1, link3, if_neg h2]; exact hb.1
      · rw [link2, List.headD_cons, if_neg (fun e => (List.nodup_cons.1 h.nd).1 (by rw [e]; simp)), link2, if_neg hcd]; exact hb.2

/-- Two rings become one. -/
theorem ring_join {α : AS} {c d : Nat} {r s : List Nat} (h : α.Ring c r) (k : α.Ring d s) (hd : ∀ x ∈ d :: s, x ∉ c :: r) : ((α.link c d).link (s.getLastD d) (r.headD c)).Ring c (d :: s ++ r) := by
  have hp : (c :: (d :: s ++ r)).Perm ((c :: r) ++ (d :: s)) := List.Perm.cons _ List.perm_append_comm
  have hnd : (c :: (d :: s ++ r)).Nodup := hp.nodup_iff.2 (by
    rw [List.nodup_append]
    exact ⟨h.nd, k.nd, fun a ha b hb e => hd b hb (by rw [← e]; exact ha)⟩)
  have hcd : c ≠ d := fun e => hd d List.mem_cons_self (by simp [e])
  have hlast := last_mem d s
  have hlc : s.getLastD d ∉ c :: r := hd _ hlast
  have hlc' : s.getLastD d ≠ c := fun e => hlc (by rw [e]; simp)
  have hheadm : r.headD c ∈ c :: r := by cases r <;> simp
  have hheadd : ∀ x ∈ d :: s, x ≠ r.headD c := fun x hx e => hd x hx (by rw [e]; exact hheadm)
  have hlv : ∀ x ∈ c :: (d :: s ++ r), ((α.link c d).link (s.getLastD d) (r.headD c)).live x = true := by
    intro x hx
    rw [link_live, link_live]
    rcases List.mem_append.1 (hp.mem_iff.1 hx) with hx | hx
    · exact h.live x hx
    · exact k.live x hx
  have hR : ((α.link c d).link (s.getLastD d) (r.headD c)).Nx c d := by
    refine ⟨?_, ?_⟩
    · rw [link3, if_neg (Ne.symm hlc'), link3, if_pos rfl]
    · rw [link2, if_neg (hheadd d List.mem_cons_self), link2, if_pos rfl]
  have hR2 : ((α.link c d).link (s.getLastD d) (r.headD c)).Nx (s.getLastD d) (r.headD c) := ⟨by rw [link3, if_pos rfl], by rw [link2, if_pos rfl]⟩
  have hsd : ((α.link c d).link (s.getLastD d) (r.headD c)).seg (d :: s) := by
    refine seg_inner (α := α) d s (fun x hx hne => ?_) (fun x hx => ?_) k.nd k.seg
    · rw [link3, if_neg hne, link3, if_neg (fun e => hd x hx (by rw [e]; simp))]
    · rw [link2, if_neg (hheadd x (List.mem_cons_of_mem _ hx)), link2, if_neg (fun e => (List.nodup_cons.1 k.nd).1 (by rw [← e]; exact hx))]
  match r, h, hd, hnd, hlc, hheadm, hheadd, hlv, hR, hR2, hsd with
  | [], h, hd, hnd, hlc, hheadm, hheadd, hlv, hR, hR2, hsd =>
    refine ⟨hnd, hlv, ?_, ?_⟩
    · rw [List.append_nil]
      exact ⟨hR, hsd⟩
    · rw [List.append_nil, List.getLastD_cons]; exact hR2
  | y :: q, h, hd, hnd, hlc, hheadm, hheadd, hlv, hR, hR2, hsd =>
    have hndc := List.nodup_cons.1 h.nd
    refine ⟨hnd, hlv, ⟨hR, (seg_append d s y q).2 ⟨hsd, hR2, ?_⟩⟩, ?_⟩
    · refine seg_inner (α := α) y q (fun x hx _ => ?_) (fun x hx => ?_) hndc.2 h.seg.2
      · rw [link3, if_neg (fun e => hlc (by rw [← e]; exact List.mem_cons_of_mem _ hx)), link3, if_neg (fun e => hndc.1 (by rw [← e]; exact hx))]
      · rw [link2, List.headD_cons, if_neg (fun e => (List.nodup_cons.1 hndc.2).1 (by rw [← e]; exact hx)), link2, if_neg (fun e => hd x (by rw [e]; simp) (by simp [hx]))]
    · rw [show (d :: s ++ y :: q).getLastD c = q.getLastD y from last_append c y (d :: s) q]
      have hb := h.back
      rw [List.getLastD_cons] at hb
      have hm := last_mem y q
      refine ⟨?_, ?_⟩
      · rw [link3, if_neg (fun e => hlc (by rw [← e]; exact List.mem_cons_of_mem _ hm)), link3, if_neg (fun e => hndc.1 (by rw [← e]; exact hm))]; exact hb.1
      · rw [link2, List.headD_cons, if_neg (fun e => hndc.1 (by rw [e]; simp)), link2, if_neg hcd]; exact hb.2

/-- A cell is taken out. -/
theorem ring_out {α : AS} {c y : Nat} {r : List Nat} (h : α.Ring c (y :: r)) : ((α.link (r.getLastD y) y).link c c).Ring y r ∧ ((α.link (r.getLastD y) y).link c c).Ring c [] := by
  have hnd := List.nodup_cons.1 h.nd
  have hc : ∀ x ∈ y :: r, x ≠ c := fun x hx e => hnd.1 (by rw [← e]; exact hx)
  refine ⟨⟨hnd.2, fun x hx => by rw [link_live, link_live]; exact h.live x (List.mem_cons_of_mem _ hx), ?_, ?_⟩, ring_one (by rw [link_live]; exact h.live c List.mem_cons_self)⟩
  · refine seg_inner (α := α) y r (fun x hx hne => ?_) (fun x hx => ?_) hnd.2 h.seg.2
    · rw [link3, if_neg (hc x hx), link3, if_neg hne]
    · rw [link2, if_neg (hc x (List.mem_cons_of_mem _ hx)), link2, if_neg (fun e => (List.nodup_cons.1 hnd.2).1 (by rw [← e]; exact hx))]
  · refine ⟨?_, ?_⟩
    · rw [link3, if_neg (hc _ (last_mem y r)), link3, if_pos rfl]
    · rw [link2, if_neg (hc y List.mem_cons_self), link2, if_pos rfl]

theorem Ring.right {α : AS} {c : Nat} {r : List Nat} (h : α.Ring c r) : α.get c 3 = ((r.headD c : Nat) : Int) := by
  cases r with
  | nil => exact h.back.1
  | cons y q => exact h.seg.1.1
theorem Ring.left {α : AS} {c : Nat} {r : List Nat} (h : α.Ring c r) : α.get c 2 = ((r.getLastD c : Nat) : Int) := h.back.2
end AS

end Go.Proofs.YtbkicgfgpmekeaaGreat.HL

/-
  SmA: what is the same but for steps; slices of one's own among rows.
-/
set_option linter.unusedVariables false
set_option linter.unusedSimpArgs false
set_option maxRecDepth 100000
namespace Go.Proofs.YtbkicgfgpmekeaaGreat.HL
open Go.RowKit (Below)
open Go.Proofs

namespace AS
/-- The same but for steps. -/
structure Sm (k : Int) (α β : AS) : Prop where
  n : β.n = α.n
  get : β.get = α.get
  live : β.live = α.live
  never : β.never = α.never
  free : β.free = α.free
  steps : 0 ≤ α.steps ∧ α.steps ≤ 9223372036854775807 → β.steps ≤ 9223372036854775807 ∧ α.steps ≤ β.steps ∧ β.steps ≤ α.steps + k
theorem Sm.refl {α : AS} : Sm 0 α α := ⟨rfl, rfl, rfl, rfl, rfl, fun h => ⟨h.2, by omega, by omega⟩⟩
theorem Sm.trans {j k : Int} {α β γ : AS} (h : Sm j α β) (h2 : Sm k β γ) : Sm (j + k) α γ :=
  ⟨h2.n.trans h.n, h2.get.trans h.get, h2.live.trans h.live, h2.never.trans h.never, h2.free.trans h.free, fun h0 => by have h1 := h.steps h0; have h3 := h2.steps ⟨by omega, h1.1⟩; omega⟩
theorem Sm.mono {j k : Int} {α β : AS} (h : Sm j α β) (hk : j ≤ k) : Sm k α β := ⟨h.n, h.get, h.live, h.never, h.free, fun h0 => by have := h.steps h0; omega⟩
theorem tick_sm {α : AS} : Sm 1 α α.tick := ⟨rfl, rfl, rfl, rfl, rfl, fun h0 => by
  show addc α.steps 1 ≤ 9223372036854775807 ∧ α.steps ≤ addc α.steps 1 ∧ addc α.steps 1 ≤ _
  unfold addc; split
  · omega
  · split <;> omega⟩
theorem Sm.ring {k : Int} {α β : AS} (h : Sm k α β) {c : Nat} {r : List Nat} (hr : α.Ring c r) : β.Ring c r :=
  hr.congr (fun x _ => by rw [h.get]) (fun x _ => by rw [h.get]) (fun x _ => by rw [h.live])
theorem Sm.put {k : Int} {α β : AS} (h : Sm k α β) (c f : Nat) (v : Int) : Sm k (α.put c f v) (β.put c f v) :=
  ⟨h.n, by show (fun c' f' => if c' = c ∧ f' = f then v else β.get c' f') = _; rw [h.get]; rfl, h.live, h.never, h.free, h.steps⟩
theorem Sm.link {k : Int} {α β : AS} (h : Sm k α β) (c d : Nat) : Sm k (α.link c d) (β.link c d) := (h.put c 3 _).put d 2 _

theorem hasI_live {α : AS} {c f : Nat} (h : α.live c = true) (hf : f < 10) : α.hasI (c : Int) (f : Int) = true := by
  unfold hasI liveI
  rw [Int.toNat_natCast, h, decide_eq_true (by omega), decide_eq_true (by omega), decide_eq_true (by omega)]; rfl
theorem setI_live {α : AS} {c f : Nat} (h : α.live c = true) (hf : f < 10) (v : Int) : α.setI (c : Int) (f : Int) v = α.put c f v := by
  unfold setI
  rw [if_pos (hasI_live h hf), Int.toNat_natCast, Int.toNat_natCast]
theorem getI_live {α : AS} {c f : Nat} (h : α.live c = true) (hf : f < 10) : α.getI (c : Int) (f : Int) = α.get c f := by
  unfold getI
  rw [if_pos (hasI_live h hf), Int.toNat_natCast, Int.toNat_natCast]
theorem cellI_live {α : AS} {c f y : Nat} (h : α.live c = true) (hf : f < 10) (hv : α.get c f = (y : Int)) (hy : y < α.n) : α.cellI (c : Int) (f : Int) = (y : Int) := by
  unfold cellI
  rw [getI_live h hf, hv, if_neg (by omega)]
theorem liveI_nat {α : AS} {c : Nat} : α.liveI (c : Int) = α.live c := by
  unfold liveI
  rw [Int.toNat_natCast, decide_eq_true (by omega)]; rfl
theorem live_lt {α : AS} (h : α.Inv) {c : Nat} (hc : α.live c = true) : c < α.n := by
  have := lt_never h hc
  have := h.never; omega
end AS

section
variable {w0 : World} {M F : Mem} {R : Value → Mem → Prop}

theorem Holds.sl {s : SV} {l : List Value} {Q : Asn} (h : Holds w0 F M (star (SlA s l) Q)) : ∃ F', Sl w0 F' M s l ∧ Mem.le F' M ∧ ∀ M' s' l', Sl w0 F' M' s' l' → Mem.le F' M' → Holds w0 F M' (star (SlA s' l') Q) := by
  obtain ⟨r, ⟨r1, r2, rfl, h1, h2⟩, h3⟩ := h
  refine ⟨ext F r2, h1.sl h3, h3.aside.1.fr, fun M' s' l' hs hl => ?_⟩
  obtain ⟨r', h4, h5⟩ := Sl.fit hs ((h3.perm List.perm_append_comm).drop) hl
  exact ⟨_, ⟨r', r2, rfl, h4, h2⟩, h5⟩
theorem Holds.newSl {P : Asn} {M' : Mem} {s : SV} {l : List Value} (h : Holds w0 F M P) (hl : Mem.le M M') (hs : Sl w0 M M' s l) : Holds w0 F M' (star (SlA s l) P) := by
  refine h.beside ?_
  rcases hs with ⟨rfl, rfl⟩ | ⟨b, rest, e, rfl, h1, h2⟩
  · exact ⟨[], .inl ⟨rfl, rfl, rfl⟩, Fit.nil hl⟩
  · refine ⟨[(b, l ++ rest, e)], .inr ⟨b, rest, e, rfl, rfl⟩, ⟨by simp, fun x hx => ?_, hl⟩⟩
    simp at hx; subst hx
    exact ⟨h2.1, h1, h2.2⟩
theorem Holds.rdI {Q : Asn} {s : SV} {l : List Int} (h : Holds w0 F M (star (SlA s (l.map (Value.int .i64))) Q)) (hw : ∀ n ∈ l, (Lit.int .i64 n).wf = true) (hm : l.length ≤ 1000000) : RdI w0 M .i64 s l := by
  obtain ⟨F', h1, _⟩ := h.sl
  exact h1.rdI hw (by omega)
theorem Holds.nilSl {P : Asn} (h : Holds w0 F M P) : Holds w0 F M (star (SlA ⟨none, 0, 0⟩ []) P) := by
  obtain ⟨r, h1, h2⟩ := h
  exact ⟨r, ⟨[], r, rfl, SlA.nil, h1⟩, h2⟩

/-- A number is put behind the others. -/
theorem push_ok {Q : Asn} {K : SV → Mem → Prop} {s : SV} {l : List Int} {x : Int} (hH : Holds w0 F M (star (SlA s (l.map (Value.int .i64))) Q)) (hb : l.length ≤ 1000000) (h : ∀ M' s', Holds w0 F M' (star (SlA s' ((l ++ [x]).map (Value.int .i64))) Q) → K s' M') :
    (std PP w0).bsl 61 1 [(0, .int .i64 x)] (fun v M1 => shS v fun s1 => (std PP w0).app #[61, 61] 61 [SV.v s, SV.v s1] (fun v2 M2 => shS v2 fun s2 => K s2 M2) M1) M := by
  obtain ⟨F', h1, h2, h3⟩ := hH.sl
  refine bsl_ints (k := .i64) (l := [x]) h2 Tryz.underlying61 W.e3 (n := 1) (by decide) (by kernel_rfl) rfl fun M1 o l1 l2 h4 => ?_
  simp only [go_sem]
  refine app_new Tryz.underlying61 W.e3 l1 (h1.le l2) h4 (by simp; omega) fun M2 o2 l3 h5 => ?_
  simp only [go_sem]
  exact h M2 o2 (h3 M2 o2 _ h5 l3)


def intsN (l : List Nat) : List Int := l.map fun (c : Nat) => (c : Int)
end
end Go.Proofs.YtbkicgfgpmekeaaGreat.HL

/-
  CmA: entries that are compared.
-/
set_option linter.unusedVariables false
set_option linter.unusedSimpArgs false
set_option maxRecDepth 100000
namespace Go.Proofs.YtbkicgfgpmekeaaGreat.HL
open Go.RowKit (Below)
open Go.Proofs

section
variable {w0 : World} {M F : Mem} {R : Value → Mem → Prop}

theorem isNaN_ok {x : Int} (h : R (.bool false) M) : C PP w0 Id.cmp_isNaN_int64 #[.int .i64 x] R M := by
  apply cmp_isNaN_int64.go
  unfold cmp_isNaN_int64.T
  rw [bne_self_eq_false]; exact h
theorem cmp64_ok {x y : Int} (h : R (.int .i64 (if x < y then -1 else if y < x then 1 else 0)) M) : C PP w0 Id.cmp_Compare_int64 #[.int .i64 x, .int .i64 y] R M := by
  apply cmp_Compare_int64.go
  unfold cmp_Compare_int64.T
  refine isNaN_ok ?_
  simp only [go_sem]
  refine isNaN_ok ?_
  simp only [go_sem, bs_false, bs_decide]
  split
  · rename_i h1; rw [if_pos h1] at h; exact h
  · rename_i h1
    rw [if_neg h1] at h
    split
    · rename_i h2; rw [if_pos (by omega)] at h; exact h
    · rename_i h2; rw [if_neg (by omega)] at h; exact h
theorem or2_ok {s : SV} {x y : Int} (hs : RdI w0 M .i64 s [x, y]) (h : R (.int .i64 (if x = 0 then y else x)) M) : C PP w0 Id.cmp_Or_int #[SV.v s] R M := by
  apply cmp_Or_int.go
  intro pts H
  unfold cmp_Or_int.T
  have hl := hs.len
  simp only [List.length_cons, List.length_nil] at hl
  refine ⟨3, ?_⟩
  rw [H.L1]
  unfold cmp_Or_int.L1.T
  rw [bs_decide, if_pos (by omega)]
  refine rdx W.c3 hs (Mem.le_refl _) 0 (by rfl) rfl ?_
  rw [bs_bne]
  split
  · rename_i h0
    rw [if_pos h0] at h
    rw [show w64 ((0 : Int) + 1) = 1 from rfl, H.L1]
    unfold cmp_Or_int.L1.T
    rw [bs_decide, if_pos (by omega)]
    refine rdx W.c3 hs (Mem.le_refl _) 1 (by rfl) rfl ?_
    rw [bs_bne]
    split
    · rename_i h1
      rw [show w64 ((1 : Int) + 1) = 2 from rfl, H.L1]
      unfold cmp_Or_int.L1.T
      rw [bs_decide, if_neg (by omega)]
      rw [h1] at h; exact h
    · exact h
  · rename_i h0
    rw [if_neg h0] at h; exact h

theorem Compare_ok {a0 a1 b0 b1 : Int} (h : ∀ M', Mem.le M M' → R (.int .i64 (cmpI a0 a1 b0 b1)) M') : C PP w0 Id.order_Compare #[.agg #[.int .i64 a0, .int .i64 a1], .agg #[.int .i64 b0, .int .i64 b1]] R M := by
  apply order_Compare.go
  unfold order_Compare.T
  intro x1 hx1 hw1
  intro x2 hx2 hw2
  have f1 := ((Fit.nil (w0 := w0) (Mem.le_refl M)).new hx1 hw1 (cs := [.int .i64 a0, .int .i64 a1]) (e := 55)).new hx2 hw2 (cs := [.int .i64 b0, .int .i64 b1]) (e := 55)
  have o2 := f1.own List.mem_cons_self
  have o1 := f1.own (List.mem_cons_of_mem _ List.mem_cons_self)
  have e1 := rd_own (o := 0) o1
  have e2 := rd_own (o := 0) o2
  have e3 := rd_own (o := 1) o1
  have e4 := rd_own (o := 1) o2
  have hle := f1.fr
  generalize (M.set x1 (.row [.int .i64 a0, .int .i64 a1] 55)).set x2 (.row [.int .i64 b0, .int .i64 b1] 55) = M1 at e1 e2 e3 e4 hle ⊢
  have e1' : rd w0 M1 ⟨x1, 0, none⟩ = some (.int .i64 a0) := e1
  have e2' : rd w0 M1 ⟨x2, 0, none⟩ = some (.int .i64 b0) := e2
  have e3' : rd w0 M1 ⟨x1, 1, none⟩ = some (.int .i64 a1) := e3
  have e4' : rd w0 M1 ⟨x2, 1, none⟩ = some (.int .i64 b1) := e4
  simp only [go_sem, add_eq, Nat.zero_add, e1', e2', e3', e4']
  refine cmp64_ok ?_
  simp only [go_sem, e3', e4']
  refine ⟨trivial, trivial, ?_⟩
  refine cmp64_ok ?_
  simp only [go_sem]
  have i1 : In64 (if a0 < b0 then (-1 : Int) else if b0 < a0 then 1 else 0) := by unfold In64; split <;> (try split) <;> omega
  have i2 : In64 (if a1 < b1 then (-1 : Int) else if b1 < a1 then 1 else 0) := by unfold In64; split <;> (try split) <;> omega
  refine lit_ok [_, _] (n := 2) (by decide) (by kernel_rfl) rfl (wf_all (fun x hx => by
    simp only [List.mem_cons, List.not_mem_nil, or_false] at hx
    rcases hx with rfl | rfl
    · exact i1
    · exact i2)) fun M2 s l2 r2 => ?_
  refine or2_ok r2 ?_
  simp only [go_sem]
  have hh := h M2 (Mem.le_trans hle l2)
  have : cmpI a0 a1 b0 b1 = (if (if a0 < b0 then (-1 : Int) else if b0 < a0 then 1 else 0) = 0 then (if a1 < b1 then (-1 : Int) else if b1 < a1 then 1 else 0) else (if a0 < b0 then (-1 : Int) else if b0 < a0 then 1 else 0)) := by
    unfold cmpI
    by_cases h1 : a0 < b0
    · simp only [if_pos h1]; rw [if_neg (by decide)]
    · by_cases h2 : b0 < a0
      · simp only [if_neg h1, if_pos h2]; rw [if_neg (by decide)]
      · simp only [if_neg h1, if_neg h2]; rw [if_pos trivial]
  rw [← this]; exact hh

theorem eqE {X Y : Operand} (a b c d : Int) : (std PP w0).bq .eql 55 X Y (.agg #[.int .i64 a, .int .i64 b]) (.agg #[.int .i64 c, .int .i64 d]) = some (.bool (a == c && b == d)) := by
  have := eql_struct (w0 := w0) (X := X) (Y := Y) (es := [a == c, b == d]) (xs := #[.int .i64 a, .int .i64 b]) (ys := #[.int .i64 c, .int .i64 d]) Tryz.underlying55 (by kernel_rfl) (by kernel_rfl)
    ⟨by decide, ⟨.int .i64 a, .int .i64 c, by kernel_rfl, by kernel_rfl, equal_int Tryz.underlying2 a c⟩, by decide, ⟨.int .i64 b, .int .i64 d, by kernel_rfl, by kernel_rfl, equal_int Tryz.underlying2 b d⟩, trivial⟩
  simpa [List.all] using this
theorem neE {X Y : Operand} (a b c d : Int) : (std PP w0).bq .neq 55 X Y (.agg #[.int .i64 a, .int .i64 b]) (.agg #[.int .i64 c, .int .i64 d]) = some (.bool (!(a == c && b == d))) := by
  have := neq_struct (w0 := w0) (X := X) (Y := Y) (es := [a == c, b == d]) (xs := #[.int .i64 a, .int .i64 b]) (ys := #[.int .i64 c, .int .i64 d]) Tryz.underlying55 (by kernel_rfl) (by kernel_rfl)
    ⟨by decide, ⟨.int .i64 a, .int .i64 c, by kernel_rfl, by kernel_rfl, equal_int Tryz.underlying2 a c⟩, by decide, ⟨.int .i64 b, .int .i64 d, by kernel_rfl, by kernel_rfl, equal_int Tryz.underlying2 b d⟩, trivial⟩
  simpa [List.all] using this

end
end Go.Proofs.YtbkicgfgpmekeaaGreat.HL

/-
  ItA: items: what each call does.
-/
set_option linter.unusedVariables false
set_option linter.unusedSimpArgs false
set_option maxRecDepth 100000
namespace Go.Proofs.YtbkicgfgpmekeaaGreat.HL
open Go.RowKit (Below)
open Go.Proofs

section
variable {w0 : World} {M F : Mem} {R : Value → Mem → Prop}

variable {a : Nat} {α : AS}

theorem Entry_ok (hA : Holds w0 F M (arenaA a α)) {i : Int} (h : ∀ M', Holds w0 F M' (arenaA a α.tick.tick) → R (.agg #[.int .i64 (α.getI i 7), .int .i64 (α.getI i 8)]) M') : C PP w0 Id.item_Entry #[.pointer (some ⟨a, 0, none⟩), .int .i64 i] R M := by
  apply item_Entry.go
  unfold item_Entry.T
  intro b hb hw
  have H1 : Holds w0 F _ (star (row1 b _ 55) (arenaA a α)) := hA.new hb hw [.int .i64 0, .int .i64 0] 55
  simp only [go_sem, Option.isNone_some, bs_false]
  obtain ⟨F', hB, _, back⟩ := H1.last
  refine Get_ok hB fun M2 hB2 => ?_
  simp only [go_sem]
  refine Get_ok hB2 fun M3 hB3 => ?_
  simp only [go_sem]
  have H3 := back M3 _ hB3
  refine st_agg (vs := [.int .i64 (α.getI i 7), .int .i64 (α.tick.getI i 8)]) W.g55 H3.own1 (by simp) (by intro v hv; simp only [List.mem_cons, List.not_mem_nil, or_false] at hv; rcases hv with rfl | rfl <;> rfl) ?_
  have H4 := H3.upd1 (cs' := over [.int .i64 0, .int .i64 0] 0 [.int .i64 (α.getI i 7), .int .i64 (α.tick.getI i 8)]) (e' := 55)
  have o4 := H4.own1
  rw [rdv_ptr, ld_agg (cs := [.int .i64 (α.getI i 7), .int .i64 (α.tick.getI i 8)]) W.g55 (fun j v hj => by rw [add_eq, rd_own o4, Nat.zero_add]; exact hj)]
  exact h _ H4.right

def AS.beforeI (α : AS) (i j : Int) : Bool :=
  decide (cmpI (α.getI i 7) (α.getI i 8) (α.getI j 7) (α.getI j 8) < 0) || (cmpI (α.getI i 7) (α.getI i 8) (α.getI j 7) (α.getI j 8) == 0 && decide (i < j))
theorem Before_ok (hA : Holds w0 F M (arenaA a α)) {i j : Int} (h : ∀ M', Holds w0 F M' (arenaA a α.tick.tick.tick.tick) → R (.bool (α.beforeI i j)) M') : C PP w0 Id.item_Before #[.pointer (some ⟨a, 0, none⟩), .int .i64 i, .int .i64 j] R M := by
  apply item_Before.go
  unfold item_Before.T
  refine Entry_ok hA fun M1 hA1 => ?_
  simp only [go_sem]
  refine Entry_ok hA1 fun M2 hA2 => ?_
  simp only [go_sem]
  refine Compare_ok fun M3 l3 => ?_
  have hh := h M3 (hA2.le l3)
  unfold AS.beforeI at hh
  have e : ∀ (i f : Int), α.tick.tick.getI i f = α.getI i f := fun _ _ => rfl
  simp only [go_sem, bs_decide, bs_beq, e]
  split
  · rename_i h1
    rw [decide_eq_true h1] at hh; exact hh
  · rename_i h1
    rw [decide_eq_false h1] at hh
    split
    · rename_i h2
      rw [h2] at hh
      simpa using hh
    · rename_i h2
      have : (cmpI (α.getI i 7) (α.getI i 8) (α.getI j 7) (α.getI j 8) == 0) = false := by simpa using h2
      rw [this] at hh; exact hh

theorem Lower_ok (hA : Holds w0 F M (arenaA a α)) {i key : Int} (h0 : α.getI i 7 < key → ∀ M', Holds w0 F M' (arenaA a α.tick) → R (.bool false) M')
    (h1 : key ≤ α.getI i 7 → ∀ M', Holds w0 F M' (arenaA a (α.tick.setI i 7 key).tick) → R (.bool (α.hasI i 7)) M') : C PP w0 Id.item_Lower #[.pointer (some ⟨a, 0, none⟩), .int .i64 i, .int .i64 key] R M := by
  apply item_Lower.go
  unfold item_Lower.T
  simp only [go_sem, Option.isNone_some, bs_false]
  refine Get_ok hA fun M1 hA1 => ?_
  simp only [go_sem, bs_decide]
  split
  · exact h0 (by omega) M1 hA1
  · refine Set_ok hA1 fun M2 hA2 => ?_
    simp only [go_sem]
    exact h1 (by omega) M2 hA2

theorem Node_ok (hA : Holds w0 F M (arenaA a α)) {i : Int} (h : ∀ M', Holds w0 F M' (arenaA a α.tick) → R (.int .i64 (α.cellI i 9)) M') : C PP w0 Id.item_Node #[.pointer (some ⟨a, 0, none⟩), .int .i64 i] R M := by
  apply item_Node.go
  unfold item_Node.T
  simp only [go_sem, Option.isNone_some, bs_false]
  refine Cell_ok hA fun M1 hA1 => ?_
  simp only [go_sem]
  exact h M1 hA1

theorem ItPut_ok (hA : Holds w0 F M (arenaA a α)) {n i : Nat} (hn : α.live n = true) (hi : α.live i = true) (h : ∀ M' β, Holds w0 F M' (arenaA a β) → AS.Sm 2 ((α.put n 6 i).put i 9 n) β → R (.tuple #[]) M') : C PP w0 Id.item_Put #[.pointer (some ⟨a, 0, none⟩), .int .i64 (n : Int), .int .i64 (i : Int)] R M := by
  apply item_Put.go
  unfold item_Put.T
  simp only [go_sem, Option.isNone_some, Bool.not_false, bs_true]
  refine Set_ok hA fun M1 hA1 => ?_
  simp only [go_sem]
  refine Set_ok hA1 fun M2 hA2 => ?_
  simp only [go_sem]
  rw [show α.setI (n : Int) 6 (i : Int) = α.put n 6 (i : Int) from AS.setI_live (f := 6) hn (by omega) _] at hA2
  rw [show (α.put n 6 (i : Int)).tick.setI (i : Int) 9 (n : Int) = (α.put n 6 (i : Int)).tick.put i 9 (n : Int) from AS.setI_live (α := (α.put n 6 (i : Int)).tick) (f := 9) hi (by omega) _] at hA2
  exact h M2 _ hA2 ((AS.tick_sm.put i 9 _).trans AS.tick_sm)

/-- A new item; where there is no cell nothing changes. -/
theorem ItNew_ok (hA : Holds w0 F M (arenaA a α)) {key serial : Int} (h0 : α.next = none → ∀ M', Holds w0 F M' (arenaA a α.tick) → R (.tuple #[.int .i64 (-1), .bool false]) M')
    (h1 : ∀ c, α.next = some c → ∀ M' β, Holds w0 F M' (arenaA a β) → AS.Sm 3 ((α.take.put c 7 key).put c 8 serial) β → R (.tuple #[.int .i64 (c : Int), .bool true]) M') : C PP w0 Id.item_New #[.pointer (some ⟨a, 0, none⟩), .int .i64 key, .int .i64 serial] R M := by
  apply item_New.go
  unfold item_New.T
  simp only [go_sem, Option.isNone_some, bs_false]
  refine Take_ok hA fun M1 hA1 => ?_
  cases hnx : α.next with
  | none =>
    rw [show α.nextI = -1 from by unfold AS.nextI; rw [hnx]]
    rw [(AS.next_none hnx).1] at hA1
    simp only [go_sem, Option.isSome_none, bs_false]
    exact h0 hnx M1 hA1
  | some c =>
    obtain ⟨hcn, hcl, hct⟩ := AS.next_some hA.inv hnx
    rw [show α.nextI = (c : Int) from by unfold AS.nextI; rw [hnx]]
    simp only [go_sem, Option.isSome_some, bs_true]
    have hlv : α.take.tick.live c = true := by
      show α.take.live c = true
      rw [hct]
      show (if c = c then true else α.live c) = true
      rw [if_pos rfl]
    refine Set_ok hA1 fun M2 hA2 => ?_
    simp only [go_sem]
    refine Set_ok hA2 fun M3 hA3 => ?_
    simp only [go_sem]
    rw [show α.take.tick.setI (c : Int) 7 key = α.take.tick.put c 7 key from AS.setI_live (α := α.take.tick) (f := 7) hlv (by omega) _] at hA3
    rw [show (α.take.tick.put c 7 key).tick.setI (c : Int) 8 serial = (α.take.tick.put c 7 key).tick.put c 8 serial from AS.setI_live (α := (α.take.tick.put c 7 key).tick) (f := 8) hlv (by omega) _] at hA3
    exact h1 c hnx M3 _ hA3 ((((AS.tick_sm.put c 7 key).trans AS.tick_sm).put c 8 serial).trans AS.tick_sm)


end
end Go.Proofs.YtbkicgfgpmekeaaGreat.HL

/-
  EnM: entries in order, in plain Lean, with no program in sight.
-/
set_option linter.unusedVariables false
set_option linter.unusedSimpArgs false
namespace Go.Proofs.YtbkicgfgpmekeaaGreat.HL

abbrev Ent := Int × Int
/-- One is ahead of another. -/
def Lt (a b : Ent) : Prop := a.1 < b.1 ∨ a.1 = b.1 ∧ a.2 < b.2
instance (a b : Ent) : Decidable (Lt a b) := by unfold Lt; infer_instance
theorem Lt.irr {a : Ent} : ¬ Lt a a := by unfold Lt; omega
theorem Lt.tr {a b c : Ent} (h : Lt a b) (h2 : Lt b c) : Lt a c := by unfold Lt at *; omega
theorem Lt.asym {a b : Ent} (h : Lt a b) : ¬ Lt b a := by unfold Lt at *; omega
theorem Lt.tot {a b : Ent} (h : ¬ Lt a b) (h2 : ¬ Lt b a) : a = b := by
  unfold Lt at *
  exact Prod.ext (by omega) (by omega)
theorem nLt.tr {a b c : Ent} (h : ¬ Lt b a) (h2 : ¬ Lt c b) : ¬ Lt c a := by unfold Lt at *; omega
theorem nLt.lt {a b c : Ent} (h : ¬ Lt b a) (h2 : Lt b c) : Lt a c := by unfold Lt at *; omega
theorem cmpI_lt (a b : Ent) : (cmpI a.1 a.2 b.1 b.2 < 0) = Lt a b := by
  unfold cmpI Lt
  apply propext
  split
  · omega
  · split
    · omega
    · split
      · omega
      · split <;> omega

def Srt (l : List Ent) : Prop := l.Pairwise fun a b => ¬ Lt b a
theorem Srt.eq : ∀ {l m : List Ent}, Srt l → Srt m → l.Perm m → l = m := by
  intro l
  induction l with
  | nil => intro m _ _ h; exact (List.Perm.nil_eq h)
  | cons a l ih =>
    intro m hl hm hp
    cases m with
    | nil => exact absurd hp.length_eq (by simp)
    | cons b m =>
      have hab : a = b := by
        rcases List.mem_cons.1 (hp.mem_iff.1 List.mem_cons_self) with h | h
        · exact h
        · rcases List.mem_cons.1 (hp.mem_iff.2 List.mem_cons_self) with h2 | h2
          · exact h2.symm
          · exact Lt.tot ((List.pairwise_cons.1 hm).1 _ h) ((List.pairwise_cons.1 hl).1 _ h2)
      subst hab
      rw [ih (List.pairwise_cons.1 hl).2 (List.pairwise_cons.1 hm).2 (List.Perm.cons_inv hp)]

/-- Where one is put. -/
def ins (l : List Ent) (e : Ent) : List Ent := l.takeWhile (fun x => decide (Lt x e)) ++ e :: l.dropWhile (fun x => decide (Lt x e))
theorem ins_perm (l : List Ent) (e : Ent) : (ins l e).Perm (e :: l) := by
  unfold ins
  refine List.perm_middle.trans ?_
  rw [List.takeWhile_append_dropWhile]
theorem ins_mem {l : List Ent} {e x : Ent} : x ∈ ins l e ↔ x = e ∨ x ∈ l := by
  rw [(ins_perm l e).mem_iff, List.mem_cons]
theorem ins_len (l : List Ent) (e : Ent) : (ins l e).length = l.length + 1 := by rw [(ins_perm l e).length_eq, List.length_cons]
theorem ins_cons (x : Ent) (l : List Ent) (e : Ent) : ins (x :: l) e = if Lt x e then x :: ins l e else e :: x :: l := by
  unfold ins
  by_cases h : Lt x e
  · simp [h]
  · simp [h]
theorem ins_srt {l : List Ent} {e : Ent} (h : Srt l) : Srt (ins l e) := by
  induction l with
  | nil => unfold ins Srt; simp
  | cons x l ih =>
    obtain ⟨h1, h2⟩ := List.pairwise_cons.1 h
    rw [ins_cons]
    split
    · rename_i hx
      refine List.pairwise_cons.2 ⟨fun y hy => ?_, ih h2⟩
      rcases ins_mem.1 hy with rfl | hy
      · exact hx.asym
      · exact h1 y hy
    · rename_i hx
      refine List.pairwise_cons.2 ⟨fun y hy => ?_, h⟩
      rcases List.mem_cons.1 hy with rfl | hy
      · exact hx
      · exact nLt.tr hx (h1 y hy)
def insAll (l m : List Ent) : List Ent := m.foldl ins l
theorem insAll_perm (m : List Ent) : ∀ l, (insAll l m).Perm (l ++ m) := by
  induction m with
  | nil => intro l; unfold insAll; simp
  | cons e m ih =>
    intro l
    show (insAll (ins l e) m).Perm _
    refine (ih _).trans ?_
    refine ((ins_perm l e).append_right m).trans ?_
    exact List.perm_middle.symm
theorem insAll_srt (m : List Ent) : ∀ {l}, Srt l → Srt (insAll l m) := by
  induction m with
  | nil => intro l h; exact h
  | cons e m ih => intro l h; exact ih (ins_srt h)
theorem Srt.sub {l m : List Ent} (h : Srt l) (hs : m.Sublist l) : Srt m := List.Pairwise.sublist hs h
theorem Srt.nil : Srt [] := List.Pairwise.nil

/-- Where the one of a serial stands. -/
def fnd (l : List Ent) (s : Int) : Option Nat := l.findIdx? fun e => decide (e.2 = s)
def fndI (l : List Ent) (s : Int) : Int := match fnd l s with
  | some i => (i : Int)
  | none => -1
theorem fnd_some {l : List Ent} {s : Int} {i : Nat} (h : fnd l s = some i) : ∃ e, l[i]? = some e ∧ e.2 = s ∧ ∀ j, j < i → ∀ x, l[j]? = some x → x.2 ≠ s := by
  unfold fnd at h
  obtain ⟨hi, h1, h2⟩ := List.findIdx?_eq_some_iff_getElem.1 h
  refine ⟨l[i], List.getElem?_eq_getElem hi, by simpa using h1, fun j hj x hx => ?_⟩
  obtain ⟨hj2, rfl⟩ := List.getElem?_eq_some_iff.1 hx
  simpa using h2 j hj
theorem fnd_none {l : List Ent} {s : Int} (h : fnd l s = none) : ∀ x ∈ l, x.2 ≠ s := by
  unfold fnd at h
  intro x hx
  simpa using List.findIdx?_eq_none_iff.1 h x hx
theorem fnd_of {l : List Ent} {s : Int} {i : Nat} {e : Ent} (h : l[i]? = some e) (hs : e.2 = s) (hb : ∀ j, j < i → ∀ x, l[j]? = some x → x.2 ≠ s) : fnd l s = some i := by
  unfold fnd
  refine List.findIdx?_eq_some_iff_getElem.2 ?_
  obtain ⟨hi, rfl⟩ := List.getElem?_eq_some_iff.1 h
  exact ⟨hi, by simpa using hs, fun j hj => by simpa using hb j hj _ (List.getElem?_eq_getElem (by omega))⟩
theorem fnd_no {l : List Ent} {s : Int} (h : ∀ x ∈ l, x.2 ≠ s) : fnd l s = none := by
  unfold fnd
  exact List.findIdx?_eq_none_iff.2 fun x hx => by simpa using h x hx

end Go.Proofs.YtbkicgfgpmekeaaGreat.HL

