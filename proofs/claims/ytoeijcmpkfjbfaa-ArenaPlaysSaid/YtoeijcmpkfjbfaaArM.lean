/-
  ArM: cells of numbers, in plain Lean, with no program in sight.
-/
import Derived.Test.YtoeijcmpkfjbfaaOrM
set_option linter.unusedVariables false
set_option linter.unusedSimpArgs false
namespace Go.Proofs.Ytoeijcmpkfjbfaa.HL
open Go.RowKit (Below)

structure AS where
  n : Nat
  get : Nat → Nat → Int
  live : Nat → Bool
  never : Nat
  free : List Nat
  steps : Int
  begun : Int
  most : Int

namespace AS
def tick (α : AS) : AS := { α with steps := addc α.steps 1 }
def liveI (α : AS) (c : Int) : Bool := decide (0 ≤ c) && α.live c.toNat
def hasI (α : AS) (c f : Int) : Bool := α.liveI c && decide (0 ≤ f) && decide (f < 10)
def getI (α : AS) (c f : Int) : Int := if α.hasI c f = true then α.get c.toNat f.toNat else -1
def cellI (α : AS) (c f : Int) : Int := if α.getI c f < 0 ∨ (α.n : Int) ≤ α.getI c f then -1 else α.getI c f
def put (α : AS) (c f : Nat) (v : Int) : AS := { α with get := fun c' f' => if c' = c ∧ f' = f then v else α.get c' f' }
def setI (α : AS) (c f : Int) (v : Int) : AS := if α.hasI c f = true then α.put c.toNat f.toNat v else α
def fresh (f : Nat) : Int := if f = 4 ∨ f = 5 ∨ f = 7 ∨ f = 8 then 0 else -1
def lay (α : AS) (c : Nat) : AS := { α with get := fun c' f' => if c' = c then fresh f' else α.get c' f', live := fun c' => if c' = c then true else α.live c' }
/-- The cell that is taken next. -/
def next (α : AS) : Option Nat := match α.free.getLast? with
  | some c => some c
  | none => if α.never < α.n then some α.never else none
def take (α : AS) : AS := match α.free.getLast? with
  | some c => { α.lay c with free := α.free.dropLast }
  | none => if α.never < α.n then { α.lay α.never with never := α.never + 1 } else α
def nextI (α : AS) : Int := match α.next with
  | some c => (c : Int)
  | none => -1
def unlive (α : AS) (c : Nat) : AS := { α with live := fun c' => if c' = c then false else α.live c', free := α.free ++ [c] }
def giveI (α : AS) (c : Int) : AS := if α.liveI c = true then α.unlive c.toNat else α
def len (α : AS) : Nat := (List.range α.never).countP α.live
def new (n : Nat) : AS := ⟨n, fun _ _ => 0, fun _ => false, 0, [], 0, 0, 0⟩

structure Inv (α : AS) : Prop where
  n : α.n ≤ 65536
  never : α.never ≤ α.n
  free : ∀ c ∈ α.free, c < α.never ∧ α.live c = false
  live : ∀ c, α.never ≤ c → α.live c = false
  nd : α.free.Nodup
  len : α.free.length + α.len = α.never
  steps : 0 ≤ α.steps ∧ In64 α.steps

theorem countP_upd (p q : Nat → Bool) (c : Nat) (hpq : ∀ x, x ≠ c → q x = p x) (hp : p c = false) (hq : q c = true) : ∀ k, (List.range k).countP q = (List.range k).countP p + if c < k then 1 else 0 := by
  intro k
  induction k with
  | zero => rfl
  | succ k ih =>
    rw [List.range_succ, List.countP_append, List.countP_append, ih]
    simp only [List.countP_cons, List.countP_nil, Nat.zero_add]
    by_cases h : k = c
    · subst h
      rw [hp, hq, if_neg (Nat.lt_irrefl _), if_pos (Nat.lt_succ_self _)]; simp
    · rw [hpq k h]
      by_cases h2 : c < k
      · have h3 : c < k + 1 := by omega
        simp only [if_pos h2, if_pos h3]; omega
      · have h3 : ¬ c < k + 1 := by omega
        simp only [if_neg h2, if_neg h3]; omega
theorem countP_out (p : Nat → Bool) : ∀ (d k : Nat), (∀ x, k ≤ x → p x = false) → (List.range (k + d)).countP p = (List.range k).countP p := by
  intro d
  induction d with
  | zero => intro k _; rfl
  | succ d ih =>
    intro k h
    rw [← Nat.add_assoc, List.range_succ, List.countP_append, ih k h]
    simp [h (k + d) (by omega)]

theorem tick_inv {α : AS} (h : Inv α) : Inv α.tick :=
  ⟨h.n, h.never, h.free, h.live, h.nd, h.len, by
    have := h.steps
    refine ⟨?_, addc_in⟩
    show 0 ≤ addc α.steps 1
    unfold addc; split
    · omega
    · split <;> omega⟩
theorem put_inv {α : AS} (h : Inv α) (c f : Nat) (v : Int) : Inv (α.put c f v) := ⟨h.n, h.never, h.free, h.live, h.nd, h.len, h.steps⟩
theorem setI_inv {α : AS} (h : Inv α) (c f v : Int) : Inv (α.setI c f v) := by
  unfold setI; split
  · exact put_inv h _ _ _
  · exact h
theorem lt_never {α : AS} (h : Inv α) {c : Nat} (hc : α.live c = true) : c < α.never := by
  apply Decidable.byContradiction
  intro hn
  have := h.live c (by omega)
  rw [hc] at this; cases this
theorem liveI_lt {α : AS} (h : Inv α) {c : Int} (hc : α.liveI c = true) : 0 ≤ c ∧ c.toNat < α.never ∧ α.live c.toNat = true := by
  simp only [liveI, Bool.and_eq_true, decide_eq_true_eq] at hc
  exact ⟨hc.1, lt_never h hc.2, hc.2⟩
theorem unlive_inv {α : AS} (h : Inv α) {c : Nat} (hc : α.live c = true) : Inv (α.unlive c) := by
  have hlt := lt_never h hc
  have hcount := countP_upd (fun c' => if c' = c then false else α.live c') α.live c (fun x hx => by simp [hx]) (by simp) hc α.never
  rw [if_pos hlt] at hcount
  have hlen := h.len
  unfold len at hlen
  refine ⟨h.n, h.never, fun x hx => ?_, fun x hx => ?_, ?_, ?_, h.steps⟩
  · rcases List.mem_append.1 hx with hx | hx
    · obtain ⟨h1, h2⟩ := h.free x hx
      refine ⟨h1, ?_⟩
      show (if x = c then false else α.live x) = false
      split
      · rfl
      · exact h2
    · simp at hx
      subst hx
      exact ⟨hlt, by simp [unlive]⟩
  · show (if x = c then false else α.live x) = false
    split
    · rfl
    · exact h.live x hx
  · show (α.free ++ [c]).Nodup
    rw [List.nodup_append]
    refine ⟨h.nd, by simp, fun a ha b hb e => ?_⟩
    simp at hb
    subst hb
    subst e
    have := (h.free a ha).2
    rw [hc] at this; cases this
  · show (α.free ++ [c]).length + (List.range α.never).countP (fun c' => if c' = c then false else α.live c') = α.never
    rw [List.length_append, List.length_singleton]; omega
theorem giveI_inv {α : AS} (h : Inv α) (c : Int) : Inv (α.giveI c) := by
  unfold giveI; split
  · rename_i hc
    exact unlive_inv h (liveI_lt h hc).2.2
  · exact h
theorem take_inv {α : AS} (h : Inv α) : Inv α.take := by
  have hlen := h.len
  unfold len at hlen
  unfold take
  cases hl : α.free.getLast? with
  | some c =>
    have hmem : c ∈ α.free := List.mem_of_getLast? hl
    obtain ⟨h1, h2⟩ := h.free c hmem
    have hsplit : α.free = α.free.dropLast ++ [c] := by
      obtain ⟨l, e⟩ := List.getLast?_eq_some_iff.1 hl
      rw [e]; simp
    have hcount := countP_upd α.live (fun c' => if c' = c then true else α.live c') c (fun x hx => by simp [hx]) h2 (by simp) α.never
    rw [if_pos h1] at hcount
    have hnd := h.nd
    rw [hsplit, List.nodup_append] at hnd
    refine ⟨h.n, h.never, fun x hx => ?_, fun x hx => ?_, hnd.1, ?_, h.steps⟩
    · have hx' : x ∈ α.free.dropLast := hx
      have hxf : x ∈ α.free := by rw [hsplit]; exact List.mem_append_left _ hx'
      obtain ⟨g1, g2⟩ := h.free x hxf
      refine ⟨g1, ?_⟩
      show (if x = c then true else α.live x) = false
      rw [if_neg (hnd.2.2 x hx' c (by simp))]; exact g2
    · show (if x = c then true else α.live x) = false
      have hx' : α.never ≤ x := hx
      rw [if_neg (by omega)]; exact h.live x hx
    · show α.free.dropLast.length + (List.range α.never).countP (fun c' => if c' = c then true else α.live c') = α.never
      have : α.free.length = α.free.dropLast.length + 1 := by
        conv => lhs; rw [hsplit]
        simp
      omega
  | none =>
    simp only
    split
    · rename_i hlt
      have hf : α.free = [] := List.getLast?_eq_none_iff.1 hl
      have h2 := h.live α.never (Nat.le_refl _)
      have hcount := countP_upd α.live (fun c' => if c' = α.never then true else α.live c') α.never (fun x hx => by simp [hx]) h2 (by simp) (α.never + 1)
      rw [if_pos (Nat.lt_succ_self _)] at hcount
      have hout := countP_out α.live 1 α.never h.live
      refine ⟨h.n, hlt, fun x hx => ?_, fun x hx => ?_, h.nd, ?_, h.steps⟩
      · have hx' : x ∈ α.free := hx
        rw [hf] at hx'; cases hx'
      · show (if x = α.never then true else α.live x) = false
        have hx' : α.never + 1 ≤ x := hx
        rw [if_neg (by omega)]; exact h.live x (by omega)
      · show α.free.length + (List.range (α.never + 1)).countP (fun c' => if c' = α.never then true else α.live c') = α.never + 1
        omega
    · exact h
theorem new_inv {n : Nat} (h : n ≤ 65536) : Inv (new n) :=
  ⟨h, Nat.zero_le _, fun c hc => (by cases hc), fun _ _ => rfl, List.nodup_nil, rfl, by unfold In64 new; simp⟩

theorem next_some {α : AS} (h : Inv α) {c : Nat} (hn : α.next = some c) : c < α.n ∧ α.live c = false ∧ α.take = { α.lay c with free := α.take.free, never := α.take.never } := by
  unfold next at hn
  unfold take
  cases hl : α.free.getLast? with
  | some x =>
    rw [hl] at hn; cases hn
    obtain ⟨h1, h2⟩ := h.free c (List.mem_of_getLast? hl)
    have := h.never
    exact ⟨by omega, h2, rfl⟩
  | none =>
    rw [hl] at hn
    simp only at hn ⊢
    split at hn
    · rename_i hlt
      cases hn
      rw [if_pos hlt]
      exact ⟨hlt, h.live _ (Nat.le_refl _), rfl⟩
    · cases hn
theorem next_none {α : AS} (hn : α.next = none) : α.take = α ∧ α.free = [] ∧ α.n ≤ α.never := by
  unfold next at hn
  unfold take
  cases hl : α.free.getLast? with
  | some x => rw [hl] at hn; cases hn
  | none =>
    rw [hl] at hn
    simp only at hn ⊢
    split at hn
    · cases hn
    · rename_i h
      rw [if_neg h]
      exact ⟨rfl, List.getLast?_eq_none_iff.1 hl, by omega⟩
end AS

/-- The cells' values, one behind the other. -/
structure CellsOk (cs : List Value) (α : AS) : Prop where
  len : cs.length = 11 * α.n
  f : ∀ c f, c < α.n → f < 10 → cs[11 * c + f]? = some (.int .i64 (α.get c f))
  t : ∀ c, c < α.n → cs[11 * c + 10]? = some (.bool (α.live c))
theorem CellsOk.tick {cs : List Value} {α : AS} (h : CellsOk cs α) : CellsOk cs α.tick := ⟨h.len, h.f, h.t⟩
theorem CellsOk.put {cs : List Value} {α : AS} (h : CellsOk cs α) {c f : Nat} (hc : c < α.n) (hf : f < 10) (v : Int) : CellsOk (cs.set (11 * c + f) (.int .i64 v)) (α.put c f v) := by
  refine ⟨by rw [List.length_set]; exact h.len, fun c' f' hc' hf' => ?_, fun c' hc' => ?_⟩
  · have hlen := h.len
    have hc'' : c' < α.n := hc'
    rw [List.getElem?_set]
    show _ = some (Value.int .i64 (if c' = c ∧ f' = f then v else α.get c' f'))
    by_cases e : c' = c ∧ f' = f
    · obtain ⟨rfl, rfl⟩ := e
      rw [if_pos rfl, if_pos (by omega), if_pos ⟨rfl, rfl⟩]
    · rw [if_neg (by omega), if_neg e]
      exact h.f c' f' hc' hf'
  · rw [List.getElem?_set, if_neg (by omega)]
    exact h.t c' hc'
theorem CellsOk.mark {cs : List Value} {α : AS} (h : CellsOk cs α) {c : Nat} (hc : c < α.n) : CellsOk (cs.set (11 * c + 10) (.bool false)) (α.unlive c) := by
  refine ⟨by rw [List.length_set]; exact h.len, fun c' f' hc' hf' => ?_, fun c' hc' => ?_⟩
  · rw [List.getElem?_set, if_neg (by omega)]
    exact h.f c' f' hc' hf'
  · have hlen := h.len
    have hc'' : c' < α.n := hc'
    rw [List.getElem?_set]
    show _ = some (Value.bool (if c' = c then false else α.live c'))
    by_cases e : c' = c
    · subst e
      rw [if_pos rfl, if_pos (by omega), if_pos rfl]
    · rw [if_neg (by omega), if_neg e]
      exact h.t c' hc'
def freshV : List Value := [.int .i64 (-1), .int .i64 (-1), .int .i64 (-1), .int .i64 (-1), .int .i64 0, .int .i64 0, .int .i64 (-1), .int .i64 0, .int .i64 0, .int .i64 (-1), .bool true]
theorem CellsOk.lay {cs : List Value} {α : AS} (h : CellsOk cs α) {c : Nat} (hc : c < α.n) {α' : AS} (e1 : α'.n = α.n) (e2 : α'.get = (α.lay c).get) (e3 : α'.live = (α.lay c).live) : CellsOk (over cs (11 * c) freshV) α' := by
  have hlen := h.len
  have hr : 11 * c + freshV.length ≤ cs.length := by rw [hlen]; show 11 * c + 11 ≤ _; omega
  refine ⟨by rw [over_length, e1]; exact hlen, fun c' f' hc' hf' => ?_, fun c' hc' => ?_⟩
  · rw [over_get _ _ _ _ hr, show freshV.length = 11 from rfl, e2]
    show _ = some (Value.int .i64 (if c' = c then AS.fresh f' else α.get c' f'))
    by_cases e : c' = c
    · subst e
      rw [if_neg (by omega), if_pos (by omega), if_pos rfl, show 11 * c' + f' - 11 * c' = f' from by omega]
      match f', hf' with
      | 0, _ | 1, _ | 2, _ | 3, _ | 4, _ | 5, _ | 6, _ | 7, _ | 8, _ | 9, _ => rfl
    · rw [if_neg e, ← h.f c' f' (by omega) hf']
      by_cases h1 : 11 * c' + f' < 11 * c
      · rw [if_pos h1]
      · rw [if_neg h1, if_neg (by omega)]
  · rw [over_get _ _ _ _ hr, show freshV.length = 11 from rfl, e3]
    show _ = some (Value.bool (if c' = c then true else α.live c'))
    by_cases e : c' = c
    · subst e
      rw [if_neg (by omega), if_pos (by omega), if_pos rfl, show 11 * c' + 10 - 11 * c' = 10 from by omega]; rfl
    · rw [if_neg e, ← h.t c' (by omega)]
      by_cases h1 : 11 * c' + 10 < 11 * c
      · rw [if_pos h1]
      · rw [if_neg h1, if_neg (by omega)]

end Go.Proofs.Ytoeijcmpkfjbfaa.HL
