import Derived.Test.YtodobkbnmjgkdaaGreatPa11
set_option linter.unusedVariables false
set_option linter.unusedSimpArgs false
namespace Go.Proofs.YtodobkbnmjgkdaaGreat.HL
def addc (a b : Int) : Int := if 9223372036854775807 < a + b then 9223372036854775807 else if a + b < -9223372036854775808 then -9223372036854775808 else a + b
theorem addc_in {a b : Int} : In64 (addc a b) := by
 unfold In64 addc; split
 ·omega
 ·split <;> omega
def cmpI (a0 a1 b0 b1 : Int) : Int := if a0 < b0 then -1 else if b0 < a0 then 1 else if a1 < b1 then -1 else if b1 < a1 then 1 else 0
end Go.Proofs.YtodobkbnmjgkdaaGreat.HL
namespace Go.Proofs.YtodobkbnmjgkdaaGreat.HL
open Go.RowKit (Below)
structure AS where
 n : Nat
 get : Nat → Nat → Int
 live : Nat → Bool
 never : Nat
 free : List Nat
 steps : Int
 begun : Int
 most : Int
namespace AS
def tick (α : AS) : AS := { α with steps := addc α.steps 1 }
def liveI (α : AS) (c : Int) : Bool := decide (0 ≤ c) && α.live c.toNat
def hasI (α : AS) (c f : Int) : Bool := α.liveI c && decide (0 ≤ f) && decide (f < 10)
def getI (α : AS) (c f : Int) : Int := if α.hasI c f = true then α.get c.toNat f.toNat else -1
def cellI (α : AS) (c f : Int) : Int := if α.getI c f < 0 ∨ (α.n : Int) ≤ α.getI c f then -1 else α.getI c f
def put (α : AS) (c f : Nat) (v : Int) : AS := { α with get := fun c' f' => if c' = c ∧ f' = f then v else α.get c' f' }
def setI (α : AS) (c f : Int) (v : Int) : AS := if α.hasI c f = true then α.put c.toNat f.toNat v else α
def fresh (f : Nat) : Int := if f = 4 ∨ f = 5 ∨ f = 7 ∨ f = 8 then 0 else -1
def lay (α : AS) (c : Nat) : AS := { α with get := fun c' f' => if c' = c then fresh f' else α.get c' f', live := fun c' => if c' = c then true else α.live c' }
def next (α : AS) : Option Nat := match α.free.getLast? with
 | some c => some c
 | none => if α.never < α.n then some α.never else none
def take (α : AS) : AS := match α.free.getLast? with
 | some c => { α.lay c with free := α.free.dropLast }
 | none => if α.never < α.n then { α.lay α.never with never := α.never + 1 } else α
def nextI (α : AS) : Int := match α.next with
 | some c => (c : Int)
 | none => -1
def unlive (α : AS) (c : Nat) : AS := { α with live := fun c' => if c' = c then false else α.live c', free := α.free ++ [c] }
def giveI (α : AS) (c : Int) : AS := if α.liveI c = true then α.unlive c.toNat else α
def len (α : AS) : Nat := (List.range α.never).countP α.live
def new (n : Nat) : AS := ⟨n, fun _ _ => 0, fun _ => false, 0, [], 0, 0, 0⟩
structure Inv (α : AS) : Prop where
 n : α.n ≤ 65536
 never : α.never ≤ α.n
 free : ∀ c ∈ α.free, c < α.never ∧ α.live c = false
 live : ∀ c, α.never ≤ c → α.live c = false
 nd : α.free.Nodup
 len : α.free.length + α.len = α.never
 steps : 0 ≤ α.steps ∧ In64 α.steps
theorem countP_upd (p q : Nat → Bool) (c : Nat) (hpq : ∀ x, x ≠ c → q x = p x) (hp : p c = false) (hq : q c = true) : ∀ k, (List.range k).countP q = (List.range k).countP p + if c < k then 1 else 0 := by
 intro k
 induction k with
 | zero => rfl
 | succ k ih =>
  rw [List.range_succ, List.countP_append, List.countP_append, ih]
  simp only [List.countP_cons, List.countP_nil, Nat.zero_add]
  by_cases h : k = c
  ·subst h
   rw [hp, hq, if_neg (Nat.lt_irrefl _), if_pos (Nat.lt_succ_self _)]; simp
  ·rw [hpq k h]
   by_cases h2 : c < k
   ·have h3 : c < k + 1 := by omega
    simp only [if_pos h2, if_pos h3]; omega
   ·have h3 : ¬ c < k + 1 := by omega
    simp only [if_neg h2, if_neg h3]; omega
theorem countP_out (p : Nat → Bool) : ∀ (d k : Nat), (∀ x, k ≤ x → p x = false) → (List.range (k + d)).countP p = (List.range k).countP p := by
 intro d
 induction d with
 | zero => intro k _; rfl
 | succ d ih =>
  intro k h
  rw [← Nat.add_assoc, List.range_succ, List.countP_append, ih k h]
  simp [h (k + d) (by omega)]
theorem tick_inv {α : AS} (h : Inv α) : Inv α.tick :=
 ⟨h.n, h.never, h.free, h.live, h.nd, h.len, by
  have := h.steps
  refine ⟨?_, addc_in⟩
  show 0 ≤ addc α.steps 1
  unfold addc; split
  ·omega
  ·split <;> omega⟩
theorem put_inv {α : AS} (h : Inv α) (c f : Nat) (v : Int) : Inv (α.put c f v) := ⟨h.n, h.never, h.free, h.live, h.nd, h.len, h.steps⟩
theorem lt_never {α : AS} (h : Inv α) {c : Nat} (hc : α.live c = true) : c < α.never := by
 apply Decidable.byContradiction
 intro hn
 have := h.live c (by omega)
 rw [hc] at this; cases this
theorem liveI_lt {α : AS} (h : Inv α) {c : Int} (hc : α.liveI c = true) : 0 ≤ c ∧ c.toNat < α.never ∧ α.live c.toNat = true := by
 simp only [liveI, Bool.and_eq_true, decide_eq_true_eq] at hc
 exact ⟨hc.1, lt_never h hc.2, hc.2⟩
theorem unlive_inv {α : AS} (h : Inv α) {c : Nat} (hc : α.live c = true) : Inv (α.unlive c) := by
 have hlt := lt_never h hc
 have hcount := countP_upd (fun c' => if c' = c then false else α.live c') α.live c (fun x hx => by simp [hx]) (by simp) hc α.never
 rw [if_pos hlt] at hcount
 have hlen := h.len
 unfold len at hlen
 refine ⟨h.n, h.never, fun x hx => ?_, fun x hx => ?_, ?_, ?_, h.steps⟩
 ·rcases List.mem_append.1 hx with hx | hx
  ·obtain ⟨h1, h2⟩ := h.free x hx
   refine ⟨h1, ?_⟩
   show (if x = c then false else α.live x) = false
   split
   ·rfl
   ·exact h2
  ·simp at hx
   subst hx
   exact ⟨hlt, by simp [unlive]⟩
 ·show (if x = c then false else α.live x) = false
  split
  ·rfl
  ·exact h.live x hx
 ·show (α.free ++ [c]).Nodup
  rw [List.nodup_append]
  refine ⟨h.nd, by simp, fun a ha b hb e => ?_⟩
  simp at hb
  subst hb
  subst e
  have := (h.free a ha).2
  rw [hc] at this; cases this
 ·show (α.free ++ [c]).length + (List.range α.never).countP (fun c' => if c' = c then false else α.live c') = α.never
  rw [List.length_append, List.length_singleton]; omega
theorem take_inv {α : AS} (h : Inv α) : Inv α.take := by
 have hlen := h.len
 unfold len at hlen
 unfold take
 cases hl : α.free.getLast? with
 | some c =>
  have hmem : c ∈ α.free := List.mem_of_getLast? hl
  obtain ⟨h1, h2⟩ := h.free c hmem
  have hsplit : α.free = α.free.dropLast ++ [c] := by
   obtain ⟨l, e⟩ := List.getLast?_eq_some_iff.1 hl
   rw [e]; simp
  have hcount := countP_upd α.live (fun c' => if c' = c then true else α.live c') c (fun x hx => by simp [hx]) h2 (by simp) α.never
  rw [if_pos h1] at hcount
  have hnd := h.nd
  rw [hsplit, List.nodup_append] at hnd
  refine ⟨h.n, h.never, fun x hx => ?_, fun x hx => ?_, hnd.1, ?_, h.steps⟩
  ·have hx' : x ∈ α.free.dropLast := hx
   have hxf : x ∈ α.free := by rw [hsplit]; exact List.mem_append_left _ hx'
   obtain ⟨g1, g2⟩ := h.free x hxf
   refine ⟨g1, ?_⟩
   show (if x = c then true else α.live x) = false
   rw [if_neg (hnd.2.2 x hx' c (by simp))]; exact g2
  ·show (if x = c then true else α.live x) = false
   have hx' : α.never ≤ x := hx
   rw [if_neg (by omega)]; exact h.live x hx
  ·show α.free.dropLast.length + (List.range α.never).countP (fun c' => if c' = c then true else α.live c') = α.never
   have : α.free.length = α.free.dropLast.length + 1 := by
    conv => lhs; rw [hsplit]
    simp
   omega
 | none =>
  simp only
  split
  ·rename_i hlt
   have hf : α.free = [] := List.getLast?_eq_none_iff.1 hl
   have h2 := h.live α.never (Nat.le_refl _)
   have hcount := countP_upd α.live (fun c' => if c' = α.never then true else α.live c') α.never (fun x hx => by simp [hx]) h2 (by simp) (α.never + 1)
   rw [if_pos (Nat.lt_succ_self _)] at hcount
   have hout := countP_out α.live 1 α.never h.live
   refine ⟨h.n, hlt, fun x hx => ?_, fun x hx => ?_, h.nd, ?_, h.steps⟩
   ·have hx' : x ∈ α.free := hx
    rw [hf] at hx'; cases hx'
   ·show (if x = α.never then true else α.live x) = false
    have hx' : α.never + 1 ≤ x := hx
    rw [if_neg (by omega)]; exact h.live x (by omega)
   ·show α.free.length + (List.range (α.never + 1)).countP (fun c' => if c' = α.never then true else α.live c') = α.never + 1
    omega
  ·exact h
theorem new_inv {n : Nat} (h : n ≤ 65536) : Inv (new n) :=
 ⟨h, Nat.zero_le _, fun c hc => (by cases hc), fun _ _ => rfl, List.nodup_nil, rfl, by unfold In64 new; simp⟩
theorem next_some {α : AS} (h : Inv α) {c : Nat} (hn : α.next = some c) : c < α.n ∧ α.live c = false ∧ α.take = { α.lay c with free := α.take.free, never := α.take.never } := by
 unfold next at hn
 unfold take
 cases hl : α.free.getLast? with
 | some x =>
  rw [hl] at hn; cases hn
  obtain ⟨h1, h2⟩ := h.free c (List.mem_of_getLast? hl)
  have := h.never
  exact ⟨by omega, h2, rfl⟩
 | none =>
  rw [hl] at hn
  simp only at hn ⊢
  split at hn
  ·rename_i hlt
   cases hn
   rw [if_pos hlt]
   exact ⟨hlt, h.live _ (Nat.le_refl _), rfl⟩
  ·cases hn
theorem next_none {α : AS} (hn : α.next = none) : α.take = α ∧ α.free = [] ∧ α.n ≤ α.never := by
 unfold next at hn
 unfold take
 cases hl : α.free.getLast? with
 | some x => rw [hl] at hn; cases hn
 | none =>
  rw [hl] at hn
  simp only at hn ⊢
  split at hn
  ·cases hn
  ·rename_i h
   rw [if_neg h]
   exact ⟨rfl, List.getLast?_eq_none_iff.1 hl, by omega⟩
end AS
structure CellsOk (cs : List Value) (α : AS) : Prop where
 len : cs.length = 11 * α.n
 f : ∀ c f, c < α.n → f < 10 → cs[11 * c + f]? = some (.int .i64 (α.get c f))
 t : ∀ c, c < α.n → cs[11 * c + 10]? = some (.bool (α.live c))
theorem CellsOk.tick {cs : List Value} {α : AS} (h : CellsOk cs α) : CellsOk cs α.tick := ⟨h.len, h.f, h.t⟩
theorem CellsOk.put {cs : List Value} {α : AS} (h : CellsOk cs α) {c f : Nat} (hc : c < α.n) (hf : f < 10) (v : Int) : CellsOk (cs.set (11 * c + f) (.int .i64 v)) (α.put c f v) := by
 refine ⟨by rw [List.length_set]; exact h.len, fun c' f' hc' hf' => ?_, fun c' hc' => ?_⟩
 ·have hlen := h.len
  have hc'' : c' < α.n := hc'
  rw [List.getElem?_set]
  show _ = some (Value.int .i64 (if c' = c ∧ f' = f then v else α.get c' f'))
  by_cases e : c' = c ∧ f' = f
  ·obtain ⟨rfl, rfl⟩ := e
   rw [if_pos rfl, if_pos (by omega), if_pos ⟨rfl, rfl⟩]
  ·rw [if_neg (by omega), if_neg e]
   exact h.f c' f' hc' hf'
 ·rw [List.getElem?_set, if_neg (by omega)]
  exact h.t c' hc'
theorem CellsOk.mark {cs : List Value} {α : AS} (h : CellsOk cs α) {c : Nat} (hc : c < α.n) : CellsOk (cs.set (11 * c + 10) (.bool false)) (α.unlive c) := by
 refine ⟨by rw [List.length_set]; exact h.len, fun c' f' hc' hf' => ?_, fun c' hc' => ?_⟩
 ·rw [List.getElem?_set, if_neg (by omega)]
  exact h.f c' f' hc' hf'
 ·have hlen := h.len
  have hc'' : c' < α.n := hc'
  rw [List.getElem?_set]
  show _ = some (Value.bool (if c' = c then false else α.live c'))
  by_cases e : c' = c
  ·subst e
   rw [if_pos rfl, if_pos (by omega), if_pos rfl]
  ·rw [if_neg (by omega), if_neg e]
   exact h.t c' hc'
def freshV : List Value := [.int .i64 (-1), .int .i64 (-1), .int .i64 (-1), .int .i64 (-1), .int .i64 0, .int .i64 0, .int .i64 (-1), .int .i64 0, .int .i64 0, .int .i64 (-1), .bool true]
theorem CellsOk.lay {cs : List Value} {α : AS} (h : CellsOk cs α) {c : Nat} (hc : c < α.n) {α' : AS} (e1 : α'.n = α.n) (e2 : α'.get = (α.lay c).get) (e3 : α'.live = (α.lay c).live) : CellsOk (over cs (11 * c) freshV) α' := by
 have hlen := h.len
 have hr : 11 * c + freshV.length ≤ cs.length := by rw [hlen]; show 11 * c + 11 ≤ _; omega
 refine ⟨by rw [over_length, e1]; exact hlen, fun c' f' hc' hf' => ?_, fun c' hc' => ?_⟩
 ·rw [over_get _ _ _ _ hr, show freshV.length = 11 from rfl, e2]
  show _ = some (Value.int .i64 (if c' = c then AS.fresh f' else α.get c' f'))
  by_cases e : c' = c
  ·subst e
   rw [if_neg (by omega), if_pos (by omega), if_pos rfl, show 11 * c' + f' - 11 * c' = f' from by omega]
   match f', hf' with
   | 0, _ | 1, _ | 2, _ | 3, _ | 4, _ | 5, _ | 6, _ | 7, _ | 8, _ | 9, _ => rfl
  ·rw [if_neg e, ← h.f c' f' (by omega) hf']
   by_cases h1 : 11 * c' + f' < 11 * c
   ·rw [if_pos h1]
   ·rw [if_neg h1, if_neg (by omega)]
 ·rw [over_get _ _ _ _ hr, show freshV.length = 11 from rfl, e3]
  show _ = some (Value.bool (if c' = c then true else α.live c'))
  by_cases e : c' = c
  ·subst e
   rw [if_neg (by omega), if_pos (by omega), if_pos rfl, show 11 * c' + 10 - 11 * c' = 10 from by omega]; rfl
  ·rw [if_neg e, ← h.t c' (by omega)]
   by_cases h1 : 11 * c' + 10 < 11 * c
   ·rw [if_pos h1]
   ·rw [if_neg h1, if_neg (by omega)]
end Go.Proofs.YtodobkbnmjgkdaaGreat.HL
set_option maxRecDepth 100000
namespace Go.Proofs.YtodobkbnmjgkdaaGreat.HL
open Go.RowKit (Below)
open Go.Proofs
section
variable {w0 : World} {M M0 : Mem}
theorem Within_ok {R : VP} {n lo hi : Int} (hn : In64 n) (h1 : -4611686018427387904 ≤ lo) (h2 : lo ≤ hi) (h3 : hi ≤ 1152921504606846976) (h4 : hi - lo ≤ 1152921504606846976) (h : ∀ x, lo ≤ x → x ≤ hi → R (.int .i64 x) M) : C PP w0 Id.tb_Within #[.int .i64 n, .int .i64 lo, .int .i64 hi] R M := by
 apply tb_Within.go
 intro pts H
 unfold tb_Within.T nfz
 have hj : tb_Within.J1 pts n lo hi M := by
  refine Eq.mpr (H.J1 ..) ?_
  unfold tb_Within.J1.T nfz
  rw [w64_in (n := hi - lo) (by omega), w64_in (n := hi - lo + 1) (by omega)]
  refine ⟨rfl, by omega, ?_⟩
  have a1 : Int.tmod n (hi - lo + 1) < hi - lo + 1 := Int.tmod_lt_of_pos n (by omega)
  have a2 : -(hi - lo + 1) < Int.tmod n (hi - lo + 1) := by
   have := Int.tmod_lt_of_pos (-n) (show 0 < hi - lo + 1 by omega)
   rw [Int.neg_tmod] at this; omega
  generalize Int.tmod n (hi - lo + 1) = r at a1 a2
  rw [bD_]
  split
  ·rw [w64_in (n := r + hi) (by omega), w64_in (n := r + hi - lo) (by omega), w64_in (n := r + hi - lo + 1) (by omega), w64_in (by omega)]
   exact h _ (by omega) (by omega)
  ·rw [w64_in (by omega)]
   exact h _ (by omega) (by omega)
 simp only [bD_]
 split
 ·split
  ·exact h n (by omega) (by omega)
  ·exact hj
 ·exact hj
theorem bsl_ints {Mb : Mem} {k : IntKind} {t e : TypeId} {z : Value} {n : Nat} {parts : List (Nat × Value)} {l : List Int} (hle : Mem.le Mb M) (ht : PP.underlying t = some (.slice e)) (he : ElemOk PP e z 1)
  (h24 : n ≤ 16777216) (hc : Instr.fill (fun k => some (k * 1, 1)) ((Array.range (n * 1)).map (z.cells[· % z.cells.size]!)) parts = some (l.map (Value.int k)).toArray) (hn : l.length = n) {K : VP}
  (h : ∀ M' s', Mem.le Mb M' → Mem.le M M' → Sl w0 Mb M' s' (l.map (Value.int k)) → K s'.v M') : (std PP w0).bsl t n parts K M :=
 bsl_sl hle ht he h24 hc (by simp [hn]) h
theorem wf_all {l : List Int} (h : ∀ x ∈ l, In64 x) : ∀ n ∈ l, (Lit.int .i64 n).wf = true := fun n hn => wf64 (h n hn)
theorem lit_ok {R : SV → Mem → Prop} {n : Nat} {parts : List (Nat × Value)} (l : List Int) (h24 : n ≤ 16777216) (hc : Instr.fill (fun k => some (k * 1, 1)) ((Array.range (n * 1)).map ((Value.int .i64 0).cells[· % (Value.int .i64 0).cells.size]!)) parts = some (l.map (Value.int .i64)).toArray) (hn : l.length = n) (hw : ∀ n ∈ l, (Lit.int .i64 n).wf = true)
  (h : ∀ M' s', Mem.le M M' → RdI w0 M' .i64 s' l → R s' M') : (std PP w0).bsl 53 n parts (fun v M' => shS v fun s' => R s' M') M := by
 refine bsl_ints (Mem.le_refl _) Tryz.underlying53 W.e3 h24 hc hn fun M' s' h1 h2 h3 => ?_
 simp only [go_sem]
 exact h M' s' h1 (h3.rdI hw (by omega))
end
end Go.Proofs.YtodobkbnmjgkdaaGreat.HL
namespace Go.Proofs.YtodobkbnmjgkdaaGreat.HL
open Go.RowKit (Below)
open Go.Proofs
section
variable {w0 : World} {M F : Mem} {R : VP}
theorem rdv_ptr {t : TypeId} {ad : Addr} : (std PP w0).rdv t (.pointer (some ad)) M = (std PP w0).ld t ad M := rfl
theorem order_Add_ok {a b : Int} (ha : In64 a) (hb : In64 b) (h : R (.int .i64 (addc a b)) M) : C PP w0 Id.order_Add #[.int .i64 a, .int .i64 b] R M := by
 apply order_Add.go
 unfold order_Add.T nfz
 unfold In64 at ha hb
 unfold addc at h
 by_cases h1 : b > 0
 ·have e : w64 (9223372036854775807 - b) = 9223372036854775807 - b := w64_in (by omega)
  rw [e, bD_, if_pos h1, bD_]
  split
  ·rw [if_pos (by omega)] at h; exact h
  ·rw [if_neg (by omega), if_neg (by omega)] at h
   rw [bD_, if_neg (by omega), w64_in (by omega)]; exact h
 ·rw [bD_, if_neg h1]
  by_cases h2 : b < 0
  ·have e : w64 ((-9223372036854775808) - b) = (-9223372036854775808) - b := w64_in (by omega)
   rw [e, bD_, if_pos h2, bD_]
   split
   ·rw [if_neg (by omega), if_pos (by omega)] at h; exact h
   ·rw [if_neg (by omega), if_neg (by omega)] at h
    rw [w64_in (by omega)]; exact h
  ·rw [bD_, if_neg h2]
   rw [if_neg (by omega), if_neg (by omega)] at h
   rw [w64_in (by omega)]; exact h
end
end Go.Proofs.YtodobkbnmjgkdaaGreat.HL
namespace Go.Proofs.YtodobkbnmjgkdaaGreat.HL
open Go.RowKit (Below)
open Go.Proofs
section
variable {w0 : World} {M F : Mem} {R : VP}
abbrev meterR (s g m : Int) : List Value := [.int .i64 s, .int .i64 g, .int .i64 m]
theorem Tick_ok {b : Nat} {s g m n : Int} (ho : Own w0 M b (meterR s g m) 163) (hs : In64 s) (hn : In64 n) (h0 : 0 ≤ n) (h : R (.tuple #[]) (M.set b (.row (meterR (addc s n) g m) 163))) : C PP w0 Id.mM_Tick #[.pointer (some ⟨b, 0, none⟩), .int .i64 n] R M := by
 apply mM_Tick.go
 unfold mM_Tick.T nfz
 have e1 : rd w0 M ⟨b, 0, none⟩ = some (.int .i64 s) := by rw [rd_own ho]; rfl
 have e2 : (if n > 0 then n else 0) = n := by split <;> omega
 simp only [go_sem, e1, e2]
 refine order_Add_ok hs hn ?_
 simp only [go_sem]
 exact st_one W.c2 ho (by simp) rfl rfl h
theorem Steps_ok {b : Nat} {s g m : Int} (ho : Own w0 M b (meterR s g m) 163) (h : R (.int .i64 s) M) : C PP w0 Id.mM_Steps #[.pointer (some ⟨b, 0, none⟩)] R M := by
 apply mM_Steps.go
 unfold mM_Steps.T nfz
 have e1 : rd w0 M ⟨b, 0, none⟩ = some (.int .i64 s) := by rw [rd_own ho]; rfl
 simp only [go_sem, e1]
 exact h
abbrev arR (bL n : Nat) (never : Nat) (sf : SV) (bM : Nat) : List Value := [.slice (some ⟨bL, 0, none⟩) n n, .int .i64 (never : Int), sf.v, .pointer (some ⟨bM, 0, none⟩)]
def natsV (l : List Nat) : List Value := l.map fun (c : Nat) => Value.int .i64 (c : Int)
def arenaA (a : Nat) (α : AS) : Asn := fun r => α.Inv ∧ ∃ bL bM sf cs rf, r = (a, arR bL α.n α.never sf bM, 145) :: (bL, cs, 251) :: (bM, meterR α.steps α.begun α.most, 163) :: rf ∧ CellsOk cs α ∧ SlA sf (natsV α.free) rf
structure Seen (w0 : World) (M : Mem) (a bL bM : Nat) (sf : SV) (cs : List Value) (α : AS) : Prop where
 a : Own w0 M a (arR bL α.n α.never sf bM) 145
 l : Own w0 M bL cs 251
 m : Own w0 M bM (meterR α.steps α.begun α.most) 163
 cs : CellsOk cs α
 inv : α.Inv
theorem Holds.seen {a : Nat} {α : AS} (h : Holds w0 F M (arenaA a α)) : ∃ bL bM sf cs, Seen w0 M a bL bM sf cs α ∧ sf.n = α.free.length := by
 obtain ⟨r, ⟨hi, bL, bM, sf, cs, rf, rfl, hc, hs⟩, hf⟩ := h
 exact ⟨bL, bM, sf, cs, ⟨hf.own (by simp), hf.own (by simp), hf.own (by simp), hc, hi⟩, by rw [hs.len]; simp [natsV]⟩
theorem Holds.inv {a : Nat} {α : AS} (h : Holds w0 F M (arenaA a α)) : α.Inv := by
 obtain ⟨r, ⟨hi, _⟩, _⟩ := h; exact hi
section
variable {a bL bM : Nat} {sf : SV} {cs : List Value} {α : AS}
theorem Seen.r0 (h : Seen w0 M a bL bM sf cs α) : rd w0 M ⟨a, 0, none⟩ = some (.slice (some ⟨bL, 0, none⟩) α.n α.n) := by rw [rd_own h.a]; rfl
theorem Seen.r3 (h : Seen w0 M a bL bM sf cs α) : rd w0 M ⟨a, 3, none⟩ = some (.pointer (some ⟨bM, 0, none⟩)) := by rw [rd_own h.a]; rfl
theorem Seen.live (h : Seen w0 M a bL bM sf cs α) {c : Nat} (hc : c < α.n) : rd w0 M ⟨bL, c * 11 + 10, none⟩ = some (.bool (α.live c)) := by
 rw [rd_own h.l, Nat.mul_comm]; exact h.cs.t c hc
theorem Seen.f (h : Seen w0 M a bL bM sf cs α) {c f : Nat} (hc : c < α.n) (hf : f < 10) : rd w0 M ⟨bL, c * 11 + f, none⟩ = some (.int .i64 (α.get c f)) := by
 rw [rd_own h.l, Nat.mul_comm]; exact h.cs.f c f hc hf
theorem LiveS_ok (hs : Seen w0 M a bL bM sf cs α) {c : Int} (h : R (.bool (α.liveI c)) M) : C PP w0 Id.aA_Live #[.pointer (some ⟨a, 0, none⟩), .int .i64 c] R M := by
 apply aA_Live.go
 unfold aA_Live.T nfz
 simp only [go_sem, hs.r0, bD_]
 split
 ·rename_i h0
  obtain ⟨c, rfl⟩ : ∃ k : Nat, c = (k : Int) := ⟨c.toNat, by omega⟩
  have e : α.liveI (c : Int) = α.live c := by simp [AS.liveI]
  rw [e] at h
  split
  ·rename_i hc
   have hc' : c < α.n := by omega
   refine ⟨by omega, ?_⟩
   simp only [add_eq, Int.toNat_natCast, Nat.zero_add, hs.live hc', ob_v, shB_v]
   exact h
  ·rename_i hc
   have := hs.inv.live c (by have := hs.inv.never; omega)
   rw [this] at h; exact h
 ·rename_i h0
  have e : α.liveI c = false := by
   unfold AS.liveI
   rw [decide_eq_false (by omega)]; rfl
  rw [e] at h; exact h
theorem hasS_ok (hs : Seen w0 M a bL bM sf cs α) {c f : Int} (h : R (.bool (α.hasI c f)) M) : C PP w0 Id.aA_has #[.pointer (some ⟨a, 0, none⟩), .int .i64 c, .int .i64 f] R M := by
 apply aA_has.go
 unfold aA_has.T nfz
 refine LiveS_ok hs ?_
 simp only [go_sem]
 unfold AS.hasI at h
 rw [bs_b]
 refine ⟨fun h1 => ?_, fun h1 => by rw [h1] at h; exact h⟩
 rw [h1] at h
 rw [bD_]
 split
 ·rename_i h2
  rw [decide_eq_true h2] at h; exact h
 ·rename_i h2
  rw [decide_eq_false h2] at h; exact h
end
theorem Live_ok {a : Nat} {α : AS} (hA : Holds w0 F M (arenaA a α)) {c : Int} (h : R (.bool (α.liveI c)) M) : C PP w0 Id.aA_Live #[.pointer (some ⟨a, 0, none⟩), .int .i64 c] R M := by
 obtain ⟨bL, bM, sf, cs, hs, _⟩ := hA.seen
 exact LiveS_ok hs h
theorem Cells_ok {a : Nat} {α : AS} (hA : Holds w0 F M (arenaA a α)) (h : R (.int .i64 (α.n : Int)) M) : C PP w0 Id.aA_Cells #[.pointer (some ⟨a, 0, none⟩)] R M := by
 obtain ⟨bL, bM, sf, cs, hs, _⟩ := hA.seen
 apply aA_Cells.go
 unfold aA_Cells.T nfz
 simp only [go_sem, hs.r0]
 exact h
theorem Holds.ticked {a : Nat} {α : AS} (hA : Holds w0 F M (arenaA a α)) : ∃ bL bM sf cs, Seen w0 M a bL bM sf cs α ∧ Seen w0 (M.set bM (.row (meterR (addc α.steps 1) α.begun α.most) 163)) a bL bM sf cs α.tick ∧ Holds w0 F (M.set bM (.row (meterR (addc α.steps 1) α.begun α.most) 163)) (arenaA a α.tick) := by
 obtain ⟨r, ⟨hi, bL, bM, sf, cs, rf, rfl, hc, hs⟩, hf⟩ := hA
 have hf' : Fit w0 F (M.set bM (.row (meterR (addc α.steps 1) α.begun α.most) 163)) ((a, arR bL α.n α.never sf bM, 145) :: (bL, cs, 251) :: (bM, meterR (addc α.steps 1) α.begun α.most, 163) :: rf) := by
  have h1 := hf.perm (r' := (bM, meterR α.steps α.begun α.most, 163) :: (a, arR bL α.n α.never sf bM, 145) :: (bL, cs, 251) :: rf) (List.perm_middle (l₁ := [_, _]))
  exact h1.upd.perm (List.perm_middle (l₁ := [_, _])).symm
 refine ⟨bL, bM, sf, cs, ⟨hf.own (by simp), hf.own (by simp), hf.own (by simp), hc, hi⟩, ⟨hf'.own (by simp [AS.tick]), hf'.own (by simp), hf'.own (by simp [AS.tick]), hc.tick, AS.tick_inv hi⟩, _, ⟨AS.tick_inv hi, bL, bM, sf, cs, rf, rfl, hc.tick, hs⟩, hf'⟩
theorem one_in : In64 1 := by unfold In64; omega
theorem Get_ok {a : Nat} {α : AS} (hA : Holds w0 F M (arenaA a α)) {c f : Int} (h : ∀ M', Holds w0 F M' (arenaA a α.tick) → R (.int .i64 (α.getI c f)) M') : C PP w0 Id.aA_Get #[.pointer (some ⟨a, 0, none⟩), .int .i64 c, .int .i64 f] R M := by
 obtain ⟨bL, bM, sf, cs, hs, hs1, hA1⟩ := hA.ticked
 apply aA_Get.go
 unfold aA_Get.T nfz
 simp only [go_sem, add_eq, Nat.zero_add, hs.r3]
 refine Tick_ok hs.m hs.inv.steps.2 one_in (by omega) ?_
 refine hasS_ok hs1 ?_
 have hh := h _ hA1
 unfold AS.getI at hh
 simp only [go_sem, bs_not]
 rw [bs_b]
 refine ⟨fun h1 => ?_, fun h1 => ?_⟩
 ·change α.hasI c f = true at h1
  rw [if_pos h1] at hh
  simp only [AS.hasI, Bool.and_eq_true, decide_eq_true_eq] at h1
  obtain ⟨⟨h2, h3⟩, h4⟩ := h1
  obtain ⟨h5, h6, h7⟩ := AS.liveI_lt hs.inv h2
  have hn := hs.inv.never
  obtain ⟨c, rfl⟩ : ∃ k : Nat, c = (k : Int) := ⟨c.toNat, by omega⟩
  obtain ⟨f, rfl⟩ : ∃ k : Nat, f = (k : Int) := ⟨f.toNat, by omega⟩
  simp only [Int.toNat_natCast] at h6 hh
  have e0 := hs1.r0
  have e1 := hs1.f (c := c) (f := f) (by show c < α.n; omega) (by omega)
  simp only [e0, ob_v, shS_v, nc_v, add_eq, Nat.zero_add, Int.toNat_natCast, Nat.mul_one, e1, zI_]
  exact ⟨⟨by omega, by show (c : Int) < (α.n : Int); omega⟩, ⟨by omega, by omega⟩, hh⟩
 ·change α.hasI c f = false at h1
  rw [h1] at hh; exact hh
theorem Cell_ok {a : Nat} {α : AS} (hA : Holds w0 F M (arenaA a α)) {c f : Int} (h : ∀ M', Holds w0 F M' (arenaA a α.tick) → R (.int .i64 (α.cellI c f)) M') : C PP w0 Id.aA_Cell #[.pointer (some ⟨a, 0, none⟩), .int .i64 c, .int .i64 f] R M := by
 apply aA_Cell.go
 unfold aA_Cell.T nfz
 refine Get_ok hA fun M' hA' => ?_
 obtain ⟨bL, bM, sf, cs, hs, _⟩ := hA'.seen
 have hh := h M' hA'
 unfold AS.cellI at hh
 have e : α.tick.n = α.n := rfl
 simp only [go_sem, hs.r0, bD_, e]
 split
 ·rw [if_pos (by omega)] at hh; exact hh
 ·split
  ·rw [if_pos (by omega)] at hh; exact hh
  ·rw [if_neg (by omega)] at hh; exact hh
theorem Set_ok {a : Nat} {α : AS} (hA : Holds w0 F M (arenaA a α)) {c f v : Int} (h : ∀ M', Holds w0 F M' (arenaA a (α.setI c f v).tick) → R (.bool (α.hasI c f)) M') : C PP w0 Id.aA_Set #[.pointer (some ⟨a, 0, none⟩), .int .i64 c, .int .i64 f, .int .i64 v] R M := by
 obtain ⟨bL, bM, sf, cs, hs, hs1, hA1⟩ := hA.ticked
 apply aA_Set.go
 unfold aA_Set.T nfz
 simp only [go_sem, add_eq, Nat.zero_add, hs.r3]
 refine Tick_ok hs.m hs.inv.steps.2 one_in (by omega) ?_
 generalize hM1 : M.set bM (.row (meterR (addc α.steps 1) α.begun α.most) 163) = M1 at hs1 hA1 ⊢
 refine hasS_ok hs1 ?_
 simp only [go_sem, bs_not]
 rw [bs_b]
 refine ⟨fun h1 => ?_, fun h1 => ?_⟩
 ·change α.hasI c f = true at h1
  unfold AS.setI at h
  rw [if_pos h1, h1] at h
  simp only [AS.hasI, Bool.and_eq_true, decide_eq_true_eq] at h1
  obtain ⟨⟨h2, h3⟩, h4⟩ := h1
  obtain ⟨h5, h6, h7⟩ := AS.liveI_lt hs.inv h2
  have hn := hs.inv.never
  obtain ⟨c, rfl⟩ : ∃ k : Nat, c = (k : Int) := ⟨c.toNat, by omega⟩
  obtain ⟨f, rfl⟩ : ∃ k : Nat, f = (k : Int) := ⟨f.toNat, by omega⟩
  simp only [Int.toNat_natCast] at h6 h
  have hcn : c < α.n := by omega
  have hfn : f < 10 := by omega
  obtain ⟨r, ⟨hi, bL', bM', sf', cs', rf, rfl, hc, hsl⟩, hf⟩ := hA1
  have e0 : rd w0 M1 ⟨a, 0, none⟩ = some (.slice (some ⟨bL', 0, none⟩) α.n α.n) := by rw [rd_own (hf.own (b := a) (cs := arR bL' α.n α.never sf' bM') (e := 145) List.mem_cons_self)]; rfl
  simp only [e0, ob_v, shS_v, nc_v, add_eq, Nat.zero_add, Int.toNat_natCast, Nat.mul_one]
  refine ⟨⟨by omega, by omega⟩, ⟨by omega, by omega⟩, ?_⟩
  refine st_one W.c2 (hf.own (b := bL') (cs := cs') (e := 251) (by simp)) (by rw [hc.len]; show c * 11 + f < 11 * α.n; omega) rfl rfl ?_
  refine h _ ⟨_, ⟨AS.tick_inv (AS.put_inv hs.inv c f v), bL', bM', sf', cs'.set (11 * c + f) (.int .i64 v), rf, rfl, (CellsOk.put (α := α) ⟨hc.len, hc.f, hc.t⟩ hcn hfn v).tick, hsl⟩, ?_⟩
  rw [Nat.mul_comm c 11]
  have h1 := hf.perm (List.perm_middle (l₁ := [_]))
  exact h1.upd.perm (List.perm_middle (l₁ := [_])).symm
 ·change α.hasI c f = false at h1
  unfold AS.setI at h
  rw [h1] at h
  exact h _ hA1
theorem fresh_ok (h : ∀ M', Mem.le M M' → R (.agg freshV.toArray) M') : C PP w0 Id.arena_fresh #[] R M := by
 apply arena_fresh.go
 intro pts H
 unfold arena_fresh.T nfz
 intro b1 hb1 hw1
 simp only [go_sem]
 intro b2 hb2 hw2
 have f1 := (Fit.nil (w0 := w0) (Mem.le_refl M)).new hb1 hw1 (cs := [.int .i64 0, .int .i64 0, .int .i64 0, .int .i64 0, .int .i64 0, .int .i64 0, .int .i64 0, .int .i64 0, .int .i64 0, .int .i64 0, .bool false]) (e := 251)
 have f2 := f1.new hb2 hw2 (cs := [.int .i64 0, .int .i64 0, .int .i64 0, .int .i64 0, .int .i64 0, .int .i64 0, .int .i64 0, .int .i64 0, .int .i64 0, .int .i64 0, .bool false]) (e := 251)
 refine st_agg (vs := [.int .i64 0, .int .i64 0, .int .i64 0, .int .i64 0, .int .i64 0, .int .i64 0, .int .i64 0, .int .i64 0, .int .i64 0, .int .i64 0, .bool true]) W.g251 (f2.own List.mem_cons_self) (by decide) (by decide) ?_
 have f3 := f2.upd (cs' := over [.int .i64 0, .int .i64 0, .int .i64 0, .int .i64 0, .int .i64 0, .int .i64 0, .int .i64 0, .int .i64 0, .int .i64 0, .int .i64 0, .bool false] 0 [.int .i64 0, .int .i64 0, .int .i64 0, .int .i64 0, .int .i64 0, .int .i64 0, .int .i64 0, .int .i64 0, .int .i64 0, .int .i64 0, .bool true]) (e' := 251)
 refine bsl_e (cells := (([0, 1, 2, 3, 6, 9] : List Int).map fun n => Value.int .i64 n).toArray) Tryz.underlying53 W.e3 (by decide) (by kernel_rfl) fun b3 hb3 hw3 => ?_
 have f4 := f3.new hb3 hw3 (cs := (([0, 1, 2, 3, 6, 9] : List Int).map fun n => Value.int .i64 n)) (e := 3)
 simp only [go_sem]
 have step : ∀ (k i : Nat) (f : Nat) (cs : List Value) (M' : Mem), ([0, 1, 2, 3, 6, 9] : List Int)[i]? = some (f : Int) → f < 10 → cs.length = 11 → i < 6 →
   Fit w0 M M' [(b3, (([0, 1, 2, 3, 6, 9] : List Int).map fun n => Value.int .i64 n), 3), (b2, cs, 251), (b1, [.int .i64 0, .int .i64 0, .int .i64 0, .int .i64 0, .int .i64 0, .int .i64 0, .int .i64 0, .int .i64 0, .int .i64 0, .int .i64 0, .bool false], 251)] →
   (∀ M'', Fit w0 M M'' [(b3, (([0, 1, 2, 3, 6, 9] : List Int).map fun n => Value.int .i64 n), 3), (b2, cs.set f (.int .i64 (-1)), 251), (b1, [.int .i64 0, .int .i64 0, .int .i64 0, .int .i64 0, .int .i64 0, .int .i64 0, .int .i64 0, .int .i64 0, .int .i64 0, .int .i64 0, .bool false], 251)] →
    arena_fresh.L1 pts k ⟨b1, 0, none⟩ ⟨b2, 0, none⟩ ⟨some ⟨b3, 0, none⟩, 6, 6⟩ 6 ((i + 1 : Nat) : Int) M'') →
   arena_fresh.L1 pts (k + 1) ⟨b1, 0, none⟩ ⟨b2, 0, none⟩ ⟨some ⟨b3, 0, none⟩, 6, 6⟩ 6 (i : Int) M' := by
  intro k i f cs M' hi hf hl h6 hfit hK
  refine Eq.mpr (H.L1 ..) ?_
  unfold arena_fresh.L1.T nfz
  rw [bD_, if_pos (by omega)]
  have hr : RdI w0 M' .i64 ⟨some ⟨b3, 0, none⟩, 6, 6⟩ [0, 1, 2, 3, 6, 9] := RdI.own (hfit.own List.mem_cons_self) rfl (Nat.le_refl _) (ints_get _) (by decide) (by decide)
  refine rdx W.c3 hr (Mem.le_refl _) i rfl hi ?_
  refine ⟨⟨by omega, by omega⟩, ?_⟩
  rw [add_eq, Nat.zero_add, Nat.mul_one, Int.toNat_natCast]
  refine st_one W.c2 (hfit.own (b := b2) (cs := cs) (e := 251) (by simp)) (by omega) rfl rfl ?_
  rw [w64_in (by omega)]
  refine hK _ ?_
  have h1 := hfit.perm (List.perm_middle (l₁ := [_]))
  exact h1.upd.perm (List.perm_middle (l₁ := [_])).symm
 refine ⟨7, step 6 0 0 _ _ rfl (by omega) rfl (by omega) f4 fun M5 f5 => step 5 1 1 _ _ rfl (by omega) (by rw [List.length_set]; rfl) (by omega) f5 fun M6 f6 => step 4 2 2 _ _ rfl (by omega) (by simp only [List.length_set]; rfl) (by omega) f6 fun M7 f7 =>
  step 3 3 3 _ _ rfl (by omega) (by simp only [List.length_set]; rfl) (by omega) f7 fun M8 f8 => step 2 4 6 _ _ rfl (by omega) (by simp only [List.length_set]; rfl) (by omega) f8 fun M9 f9 => step 1 5 9 _ _ rfl (by omega) (by simp only [List.length_set]; rfl) (by omega) f9 fun M10 f10 => ?_⟩
 refine Eq.mpr (H.L1 ..) ?_
 unfold arena_fresh.L1.T nfz
 rw [bD_, if_neg (by omega)]
 have o2 : Own w0 M10 b2 freshV 251 := f10.own (List.mem_cons_of_mem _ List.mem_cons_self)
 have o1 := f10.own (List.mem_cons_of_mem _ (List.mem_cons_of_mem _ List.mem_cons_self))
 rw [ld_agg (cs := freshV) W.g251 (fun j v hj => by rw [add_eq, rd_own o2, Nat.zero_add]; exact hj)]
 simp only [freshV, go_sem]
 refine st_agg (vs := freshV) W.g251 o1 (by decide) (by decide) ?_
 have f11 := (f10.perm (List.perm_middle (l₁ := [_, _]))).upd (cs' := freshV) (e' := 251)
 have o3 := f11.own List.mem_cons_self
 have hov : over [.int .i64 0, .int .i64 0, .int .i64 0, .int .i64 0, .int .i64 0, .int .i64 0, .int .i64 0, .int .i64 0, .int .i64 0, .int .i64 0, .bool false] 0 freshV = freshV := rfl
 rw [hov, rdv_ptr, ld_agg (cs := freshV) W.g251 (fun j v hj => by rw [add_eq, rd_own o3, Nat.zero_add]; exact hj)]
 exact h _ f11.fr
theorem new_zeros {n c j : Nat} (hc : c < n) (hj : j < 11) : (zeros (.agg #[.int .i64 0, .int .i64 0, .int .i64 0, .int .i64 0, .int .i64 0, .int .i64 0, .int .i64 0, .int .i64 0, .int .i64 0, .int .i64 0, .bool false]) n)[11 * c + j]? = [Value.int .i64 0, .int .i64 0, .int .i64 0, .int .i64 0, .int .i64 0, .int .i64 0, .int .i64 0, .int .i64 0, .int .i64 0, .int .i64 0, .bool false][j]? := by
 have hlt : 11 * c + j < n * 11 := by omega
 have hm : (11 * c + j) % 11 = j := by omega
 simp only [zeros, Builtin.zeroCells, Value.cells]
 rw [Array.getElem?_toList, Array.getElem?_map]
 rw [Array.getElem?_eq_getElem (by simpa using hlt)]
 simp only [Array.getElem_range, Option.map_some]
 rw [show (#[Value.int .i64 0, .int .i64 0, .int .i64 0, .int .i64 0, .int .i64 0, .int .i64 0, .int .i64 0, .int .i64 0, .int .i64 0, .int .i64 0, .bool false] : Array Value).size = 11 from rfl, hm]
 match j, hj with
 | 0, _ | 1, _ | 2, _ | 3, _ | 4, _ | 5, _ | 6, _ | 7, _ | 8, _ | 9, _ | 10, _ => rfl
theorem meterNew_ok (h : ∀ b, M b = none → w0.heap.size ≤ b → R (.pointer (some ⟨b, 0, none⟩)) (M.set b (.row (meterR 0 0 0) 163))) : C PP w0 Id.meter_New #[] R M := by
 apply meter_New.go
 unfold meter_New.T nfz
 simp only [go_sem]
 exact h
theorem New_ok {cells : Int} (h : ∀ M' a, Holds w0 M M' (arenaA a (AS.new (if (if 65536 < cells then 65536 else cells) > 0 then (if 65536 < cells then 65536 else cells) else 0).toNat)) → R (.pointer (some ⟨a, 0, none⟩)) M') : C PP w0 Id.arena_New #[.int .i64 cells] R M := by
 apply arena_New.go
 unfold arena_New.T nfz
 obtain ⟨n, hn, hle⟩ : ∃ n : Nat, (if (if 65536 < cells then 65536 else cells) > 0 then (if 65536 < cells then 65536 else cells) else 0) = (n : Int) ∧ n ≤ 65536 := by
  refine ⟨(if (if 65536 < cells then 65536 else cells) > 0 then (if 65536 < cells then 65536 else cells) else 0).toNat, ?_, ?_⟩
  ·split
   ·omega
   ·omega
  ·split
   ·split <;> omega
   ·omega
 rw [hn] at h ⊢
 simp only [Int.toNat_natCast] at h
 obtain ⟨i, hi, hz, h1, h2, h3, h4⟩ := W.e251
 have hcells : CellsOk (zeros (.agg #[.int .i64 0, .int .i64 0, .int .i64 0, .int .i64 0, .int .i64 0, .int .i64 0, .int .i64 0, .int .i64 0, .int .i64 0, .int .i64 0, .bool false]) n) (AS.new n) := by
  refine ⟨by rw [zeros_length]; show n * 11 = 11 * n; omega, fun c f hc hf => ?_, fun c hc => ?_⟩
  ·rw [new_zeros (n := n) (j := f) hc (by omega)]
   match f, hf with
   | 0, _ | 1, _ | 2, _ | 3, _ | 4, _ | 5, _ | 6, _ | 7, _ | 8, _ | 9, _ => rfl
  ·rw [new_zeros (n := n) (j := 10) hc (by omega)]; rfl
 have fin : ∀ (bL bM : Nat) (M1 : Mem), Fit w0 M M1 [(bL, zeros (.agg #[.int .i64 0, .int .i64 0, .int .i64 0, .int .i64 0, .int .i64 0, .int .i64 0, .int .i64 0, .int .i64 0, .int .i64 0, .int .i64 0, .bool false]) n, 251), (bM, meterR 0 0 0, 163)] →
   ∀ b, M1 b = none → w0.heap.size ≤ b → R (.pointer (some ⟨b, 0, none⟩)) (M1.set b (.row (arR bL n 0 ⟨none, 0, 0⟩ bM) 145)) := by
  intro bL bM M1 hf b hb hw
  refine h _ b ⟨_, ⟨AS.new_inv hle, bL, bM, ⟨none, 0, 0⟩, _, [], rfl, hcells, SlA.nil⟩, ?_⟩
  exact hf.new hb hw
 have hmks : ∀ (M1 : Mem) (K : VP), (∀ b, M1 b = none → w0.heap.size ≤ b → K (.slice (some ⟨b, 0, none⟩) n n) (M1.set b (.row (zeros (.agg #[.int .i64 0, .int .i64 0, .int .i64 0, .int .i64 0, .int .i64 0, .int .i64 0, .int .i64 0, .int .i64 0, .int .i64 0, .int .i64 0, .bool false]) n) 251))) →
   (std PP w0).mks 143 (.int .i64 (n : Int)) (.int .i64 (n : Int)) K M1 := by
  intro M1 K hK
  refine mks_ok Tryz.underlying143 hi hz (by rw [h1]; exact h2) (Nat.le_refl _) ?_ (by omega) hK
  exact Nat.le_trans (Nat.mul_le_mul h4 hle) (by decide)
 constructor
 ·refine hmks M _ fun b hb hw => ?_
  simp only [go_sem]
  refine meterNew_ok fun b2 hb2 hw2 => ?_
  simp only [go_sem]
  have f1 := ((Fit.nil (w0 := w0) (Mem.le_refl M)).new hb hw (cs := zeros (.agg #[.int .i64 0, .int .i64 0, .int .i64 0, .int .i64 0, .int .i64 0, .int .i64 0, .int .i64 0, .int .i64 0, .int .i64 0, .int .i64 0, .bool false]) n) (e := 251)).new hb2 hw2 (cs := meterR 0 0 0) (e := 163)
  exact fin b b2 _ (f1.perm (List.Perm.swap _ _ _))
 ·refine meterNew_ok fun b2 hb2 hw2 => ?_
  simp only [go_sem]
  refine hmks _ _ fun b hb hw => ?_
  simp only [go_sem]
  have f1 := ((Fit.nil (w0 := w0) (Mem.le_refl M)).new hb2 hw2 (cs := meterR 0 0 0) (e := 163)).new hb hw (cs := zeros (.agg #[.int .i64 0, .int .i64 0, .int .i64 0, .int .i64 0, .int .i64 0, .int .i64 0, .int .i64 0, .int .i64 0, .int .i64 0, .int .i64 0, .bool false]) n) (e := 251)
  exact fin b b2 _ f1
theorem natsV_len (l : List Nat) : (natsV l).length = l.length := by simp [natsV]
theorem natsV_map (l : List Nat) : natsV l = (l.map fun (c : Nat) => (c : Int)).map (Value.int .i64) := by simp [natsV]
theorem natsV_get {l : List Nat} {j c : Nat} (h : l[j]? = some c) : (natsV l)[j]? = some (.int .i64 (c : Int)) := by simp [natsV, h]
theorem Take_ok {a : Nat} {α : AS} (hA : Holds w0 F M (arenaA a α)) (h : ∀ M', Holds w0 F M' (arenaA a α.take.tick) → R (.tuple #[.int .i64 α.nextI, .bool α.next.isSome]) M') : C PP w0 Id.aA_Take #[.pointer (some ⟨a, 0, none⟩)] R M := by
 have hInv := hA.inv
 obtain ⟨bL', bM', sf', cs', hs, hs1, hA1⟩ := hA.ticked
 apply aA_Take.go
 intro pts H
 unfold aA_Take.T nfz
 simp only [go_sem, add_eq, Nat.zero_add, hs.r3]
 refine Tick_ok hs.m hs.inv.steps.2 one_in (by omega) ?_
 obtain ⟨r, ⟨hi, bL, bM, sf, cs, rf, rfl, hc, hsl⟩, hf⟩ := hA1
 clear hs1 hs
 generalize M.set bM' (.row (meterR (addc α.steps 1) α.begun α.most) 163) = M1 at hf ⊢
 change Fit w0 F M1 ((a, arR bL α.n α.never sf bM, 145) :: (bL, cs, 251) :: (bM, meterR (addc α.steps 1) α.begun α.most, 163) :: rf) at hf
 change SlA sf (natsV α.free) rf at hsl
 have lay : ∀ (c : Nat) (M2 : Mem) (never : Nat) (sf : SV) (free : List Nat) (rf : Rws), c < α.n → α.next = some c → α.take.tick.never = never → α.take.tick.free = free →
   Fit w0 F M2 ((a, arR bL α.n never sf bM, 145) :: (bL, cs, 251) :: (bM, meterR (addc α.steps 1) α.begun α.most, 163) :: rf) → SlA sf (natsV free) rf → aA_Take.J1 pts (some ⟨a, 0, none⟩) (c : Int) M2 := by
  intro c M2 never sf free rf hcn hnx hnv hfr hf2 hsl2
  refine Eq.mpr (H.J1 ..) ?_
  unfold aA_Take.J1.T nfz
  have e0 : rd w0 M2 ⟨a, 0, none⟩ = some (.slice (some ⟨bL, 0, none⟩) α.n α.n) := by rw [rd_own (hf2.own List.mem_cons_self)]; rfl
  simp only [go_sem, e0]
  refine fresh_ok fun M3 l3 => ?_
  have hf3 := hf2.le l3
  have e3 : rd w0 M3 ⟨a, 0, none⟩ = some (.slice (some ⟨bL, 0, none⟩) α.n α.n) := by rw [rd_own (hf3.own List.mem_cons_self)]; rfl
  simp only [freshV, go_sem, e3, add_eq, Nat.zero_add, Int.toNat_natCast]
  refine ⟨⟨by omega, by omega⟩, rfl, ?_⟩
  refine st_agg (vs := freshV) W.g251 (hf3.own (List.mem_cons_of_mem _ List.mem_cons_self)) (by rw [hc.len]; show c * 11 + 11 ≤ 11 * α.n; omega) (by decide) ?_
  have hni : α.nextI = (c : Int) := by unfold AS.nextI; rw [hnx]
  have hh := h (M3.set bL (.row (over cs (c * 11) freshV) 251))
  rw [hni, hnx] at hh
  refine hh ⟨_, ⟨AS.tick_inv (AS.take_inv hInv), bL, bM, sf, over cs (11 * c) freshV, rf, rfl, ?_, by rw [hfr]; exact hsl2⟩, ?_⟩
  ·have h5 := (AS.next_some hInv hnx).2.2
   refine (CellsOk.lay (α := α) ⟨hc.len, hc.f, hc.t⟩ hcn (α' := α.take) ?_ ?_ ?_).tick
   ·rw [h5]; rfl
   ·rw [h5]
   ·rw [h5]
  ·have h5 := (AS.next_some hInv hnx).2.2
   have en : α.take.tick.n = α.n := by show α.take.n = α.n; rw [h5]; rfl
   have es : α.take.tick.steps = addc α.steps 1 := by show addc α.take.steps 1 = _; rw [h5]; rfl
   have eb : α.take.tick.begun = α.begun := by show α.take.begun = _; rw [h5]; rfl
   have em : α.take.tick.most = α.most := by show α.take.most = _; rw [h5]; rfl
   rw [en, es, eb, em, hnv, Nat.mul_comm c 11]
   exact ((hf3.perm (List.perm_middle (l₁ := [_]))).upd).perm (List.perm_middle (l₁ := [_])).symm
 have e1 : rd w0 M1 ⟨a, 1, none⟩ = some (.int .i64 (α.never : Int)) := by rw [rd_own (hf.own List.mem_cons_self)]; rfl
 have e2 : rd w0 M1 ⟨a, 2, none⟩ = some sf.v := by rw [rd_own (hf.own List.mem_cons_self)]; rfl
 have e0 : rd w0 M1 ⟨a, 0, none⟩ = some (.slice (some ⟨bL, 0, none⟩) α.n α.n) := by rw [rd_own (hf.own List.mem_cons_self)]; rfl
 have hlen : sf.n = α.free.length := by rw [hsl.len]; exact natsV_len _
 have hInvl := hInv.len
 have hInvn := hInv.never
 have hInvm := hInv.n
 simp only [go_sem, add_eq, Nat.zero_add, e1, e2, e0, bD_]
 split
 ·rename_i hge
  rw [w64_in (by omega)] at hge
  have hlast : ∃ c, α.free.getLast? = some c := by
   cases hx : α.free.getLast? with
   | some c => exact ⟨c, rfl⟩
   | none => have := List.getLast?_eq_none_iff.1 hx; rw [this] at hlen; simp at hlen; omega
  obtain ⟨c, hlast⟩ := hlast
  have hidx : α.free[α.free.length - 1]? = some c := by rw [← List.getLast?_eq_getElem?]; exact hlast
  have hsplit : α.free = α.free.dropLast ++ [c] := by
   obtain ⟨l, e⟩ := List.getLast?_eq_some_iff.1 hlast
   rw [e]; simp
  have hnx : α.next = some c := by unfold AS.next; rw [hlast]
  have htake : α.take = { α.lay c with free := α.free.dropLast } := by unfold AS.take; rw [hlast]
  have hcn := (AS.next_some hInv hnx).1
  have hpos : 0 < α.free.length := by omega
  clear hge
  rcases hsl with ⟨rfl, h0, _⟩ | ⟨bF, rest, e, rfl, rfl⟩
  ·simp only at hlen; omega
  ·have hoF := hf.own (b := bF) (cs := natsV α.free ++ rest) (e := e) (by simp)
   have eF : rd w0 M1 ⟨bF, α.free.length - 1, none⟩ = some (.int .i64 (c : Int)) := by
    rw [rd_own hoF, List.getElem?_append_left (by rw [natsV_len]; omega)]
    exact natsV_get hidx
   simp only [natsV_len] at hlen ⊢
   have ew : w64 ((α.free.length : Int) - 1) = ((α.free.length - 1 : Nat) : Int) := by rw [w64_in (by omega)]; omega
   simp only [nc_v, ew, Int.toNat_natCast, Nat.mul_one, add_eq, Nat.zero_add, eF, ob_v, zI_]
   refine ⟨⟨by omega, by omega⟩, ⟨by omega, by omega, by omega⟩, ?_⟩
   refine st_one W.c53 (hf.own List.mem_cons_self) (by simp) rfl rfl ?_
   rw [if_neg (by show ¬ (α.free.length + rest.length = 0); omega)]
   have hsub : natsV α.free ++ rest = natsV α.free.dropLast ++ (.int .i64 (c : Int) :: rest) := by
    conv => lhs; rw [hsplit]
    simp [natsV]
   have hdl : α.free.length = α.free.dropLast.length + 1 := by
    conv => lhs; rw [hsplit]
    simp
   refine lay c _ α.never ⟨some ⟨bF, 0, none⟩, α.free.dropLast.length, α.free.dropLast.length + (.int .i64 (c : Int) :: rest).length⟩ α.free.dropLast [(bF, natsV α.free ++ rest, e)] hcn hnx ?_ ?_ ?_ ?_
   ·show α.take.never = _; rw [htake]; rfl
   ·show α.take.free = _; rw [htake]
   ·have hrow : (arR bL α.n α.never ⟨some ⟨bF, 0, none⟩, (natsV α.free).length, (natsV α.free).length + rest.length⟩ bM).set 2 (.slice (Option.map (fun (x : Addr) => x.add ((0 : Int).toNat * 1)) (some ⟨bF, 0, none⟩)) (α.free.length - 1 - (0 : Int).toNat) (α.free.length + rest.length - (0 : Int).toNat)) =
      arR bL α.n α.never ⟨some ⟨bF, 0, none⟩, α.free.dropLast.length, α.free.dropLast.length + (Value.int .i64 (c : Int) :: rest).length⟩ bM := by
     have g1 : α.free.length - 1 - (0 : Int).toNat = α.free.dropLast.length := by simp
     have g2 : α.free.length + rest.length - (0 : Int).toNat = α.free.dropLast.length + (Value.int .i64 (c : Int) :: rest).length := by
      rw [List.length_cons, hdl]; simp; omega
     rw [g1, g2]; rfl
    have := hf.upd (cs' := (arR bL α.n α.never ⟨some ⟨bF, 0, none⟩, (natsV α.free).length, (natsV α.free).length + rest.length⟩ bM).set 2 (.slice (Option.map (fun (x : Addr) => x.add ((0 : Int).toNat * 1)) (some ⟨bF, 0, none⟩)) (α.free.length - 1 - (0 : Int).toNat) (α.free.length + rest.length - (0 : Int).toNat))) (e' := 145)
    rw [← hrow]
    exact this
   ·refine .inr ⟨bF, .int .i64 (c : Int) :: rest, e, by simp [natsV], by rw [hsub]⟩
 ·rename_i hge
  rw [w64_in (by omega)] at hge
  have hfree : α.free = [] := List.eq_nil_of_length_eq_zero (by omega)
  have hlast : α.free.getLast? = none := by rw [hfree]; rfl
  split
  ·rename_i hfull
   change (α.never : Int) ≥ (α.n : Int) at hfull
   have hnx : α.next = none := by unfold AS.next; rw [hlast]; simp only; rw [if_neg (by omega)]
   have htake := (AS.next_none hnx).1
   have hh := h M1
   unfold AS.nextI at hh
   rw [hnx, htake] at hh
   exact hh ⟨_, ⟨hi, bL, bM, sf, cs, rf, rfl, hc, hsl⟩, hf⟩
  ·rename_i hfull
   change ¬ (α.never : Int) ≥ (α.n : Int) at hfull
   have hlt : α.never < α.n := by omega
   have hnx : α.next = some α.never := by unfold AS.next; rw [hlast]; simp only; rw [if_pos hlt]
   have htake : α.take = { α.lay α.never with never := α.never + 1 } := by unfold AS.take; rw [hlast]; simp only; rw [if_pos hlt]
   refine st_one W.c3 (hf.own List.mem_cons_self) (by simp) rfl rfl ?_
   rw [w64_in (by omega)]
   refine lay α.never _ (α.never + 1) sf α.free rf hlt hnx ?_ ?_ hf.upd hsl
   ·show α.take.never = _; rw [htake]
   ·show α.take.free = _; rw [htake]; rfl
theorem Give_ok {a : Nat} {α : AS} (hA : Holds w0 F M (arenaA a α)) {c : Int} (h : ∀ M', Holds w0 F M' (arenaA a (α.giveI c).tick) → R (.bool (α.liveI c)) M') : C PP w0 Id.aA_Give #[.pointer (some ⟨a, 0, none⟩), .int .i64 c] R M := by
 have hInv := hA.inv
 obtain ⟨bL', bM', sf', cs', hs, hs1, hA1⟩ := hA.ticked
 apply aA_Give.go
 unfold aA_Give.T nfz
 simp only [go_sem, add_eq, Nat.zero_add, hs.r3]
 refine Tick_ok hs.m hs.inv.steps.2 one_in (by omega) ?_
 clear hs
 generalize M.set bM' (.row (meterR (addc α.steps 1) α.begun α.most) 163) = M1 at hA1 hs1 ⊢
 refine LiveS_ok hs1 ?_
 simp only [go_sem, bs_not]
 rw [bs_b]
 refine ⟨fun h1 => ?_, fun h1 => ?_⟩
 ·change α.liveI c = true at h1
  unfold AS.giveI at h
  rw [if_pos h1, h1] at h
  obtain ⟨h5, h6, h7⟩ := AS.liveI_lt hInv h1
  obtain ⟨c, rfl⟩ : ∃ k : Nat, c = (k : Int) := ⟨c.toNat, by omega⟩
  simp only [Int.toNat_natCast] at h6 h7 h
  have hn := hInv.never
  have hnn := hInv.n
  have hInvl := hInv.len
  have hcn : c < α.n := by omega
  obtain ⟨r, ⟨hi, bL, bM, sf, cs, rf, rfl, hc, hsl⟩, hf⟩ := hA1
  change Fit w0 F M1 ((a, arR bL α.n α.never sf bM, 145) :: (bL, cs, 251) :: (bM, meterR (addc α.steps 1) α.begun α.most, 163) :: rf) at hf
  change SlA sf (natsV α.free) rf at hsl
  have e0 : rd w0 M1 ⟨a, 0, none⟩ = some (.slice (some ⟨bL, 0, none⟩) α.n α.n) := by rw [rd_own (hf.own List.mem_cons_self)]; rfl
  simp only [e0, ob_v, shS_v, nc_v, add_eq, Nat.zero_add, Int.toNat_natCast]
  refine ⟨⟨by omega, by omega⟩, ?_⟩
  refine st_one W.c4 (hf.own (List.mem_cons_of_mem _ List.mem_cons_self)) (by rw [hc.len]; show c * 11 + 10 < 11 * α.n; omega) rfl rfl ?_
  have hf2 := ((hf.perm (List.perm_middle (l₁ := [_]))).upd (cs' := cs.set (c * 11 + 10) (.bool false)) (e' := 251)).perm (List.perm_middle (l₁ := [_])).symm
  generalize M1.set bL (.row (cs.set (c * 11 + 10) (.bool false)) 251) = M2 at hf2 ⊢
  have e2 : rd w0 M2 ⟨a, 2, none⟩ = some sf.v := by rw [rd_own (hf2.own List.mem_cons_self)]; rfl
  simp only [e2, ob_v, shS_sv]
  have hf3 : Fit w0 F M2 (rf ++ [(a, arR bL α.n α.never sf bM, 145), (bL, cs.set (c * 11 + 10) (.bool false), 251), (bM, meterR (addc α.steps 1) α.begun α.most, 163)]) := hf2.perm (List.perm_append_comm (l₁ := [_, _, _]))
  have hsl3 := hsl.sl hf3
  have hq := hf3.perm List.perm_append_comm |>.drop
  have hle := hf3.aside.1.fr
  rw [natsV_map] at hsl3
  refine bsl_sl (cells := #[.int .i64 (c : Int)]) hle Tryz.underlying53 W.e3 (n := 1) (by decide) (by kernel_rfl) rfl fun M3 o h3 h4 h9 => ?_
  simp only [go_sem]
  refine app_new (m := [(c : Int)]) Tryz.underlying53 W.e3 h3 (hsl3.le h4) h9 (by simp; omega) fun M4 o2 h10 h11 => ?_
  simp only [go_sem]
  rw [show (α.free.map fun (c : Nat) => (c : Int)) ++ [(c : Int)] = ((α.free ++ [c]).map fun (c : Nat) => (c : Int)) from by simp, ← natsV_map] at h11
  obtain ⟨rf', hsl', hf'⟩ := Sl.fit h11 hq h10
  have hf5 := hf'.perm (List.perm_append_comm (l₂ := [_, _, _]))
  refine st_one W.c53 (hf5.own List.mem_cons_self) (by simp) rfl rfl ?_
  refine h _ ⟨_, ⟨AS.tick_inv (AS.unlive_inv hInv h7), bL, bM, o2, cs.set (11 * c + 10) (.bool false), rf', rfl, (CellsOk.mark (α := α) ⟨hc.len, hc.f, hc.t⟩ hcn).tick, hsl'⟩, ?_⟩
  rw [Nat.mul_comm 11 c]
  exact hf5.upd
 ·change α.liveI c = false at h1
  unfold AS.giveI at h
  rw [h1] at h
  exact h _ hA1
end
end Go.Proofs.YtodobkbnmjgkdaaGreat.HL
namespace Go.Proofs.YtodobkbnmjgkdaaGreat.HL
theorem nodup_len : ∀ (n : Nat) (l : List Nat), l.Nodup → (∀ x ∈ l, x < n) → l.length ≤ n := by
 intro n
 induction n with
 | zero =>
  intro l _ h
  cases l with
  | nil => exact Nat.le_refl _
  | cons x r => have := h x List.mem_cons_self; omega
 | succ n ih =>
  intro l hn h
  by_cases hm : n ∈ l
  ·have h1 := ih (l.erase n) (hn.erase n) (fun x hx => by
    have h2 := (hn.mem_erase_iff).1 hx
    have := h x h2.2; omega)
   rw [List.length_erase_of_mem hm] at h1; omega
  ·have := ih l hn (fun x hx => by
    have h1 := h x hx
    have h2 : x ≠ n := fun e => hm (e ▸ hx)
    omega)
   omega
namespace AS
def Nx (α : AS) (x y : Nat) : Prop := α.get x 3 = (y : Int) ∧ α.get y 2 = (x : Int)
def seg (α : AS) : List Nat → Prop
 | [] => True
 | [_] => True
 | x :: y :: r => α.Nx x y ∧ seg α (y :: r)
structure Ring (α : AS) (c : Nat) (r : List Nat) : Prop where
 nd : (c :: r).Nodup
 live : ∀ x ∈ c :: r, α.live x = true
 seg : α.seg (c :: r)
 back : α.Nx (r.getLastD c) c
theorem seg_congr {α β : AS} : ∀ (l : List Nat), (∀ x ∈ l, β.get x 3 = α.get x 3) → (∀ x ∈ l, β.get x 2 = α.get x 2) → α.seg l → β.seg l
 | [], _, _, _ => trivial
 | [_], _, _, _ => trivial
 | x :: y :: r, h1, h2, h => by
  refine ⟨⟨?_, ?_⟩, seg_congr (y :: r) (fun z hz => h1 z (List.mem_cons_of_mem _ hz)) (fun z hz => h2 z (List.mem_cons_of_mem _ hz)) h.2⟩
  ·rw [h1 x (by simp)]; exact h.1.1
  ·rw [h2 y (by simp)]; exact h.1.2
theorem last_mem (c : Nat) : ∀ (r : List Nat), r.getLastD c ∈ c :: r := by
 intro r
 induction r generalizing c with
 | nil => simp
 | cons x r ih => rw [List.getLastD_cons]; exact List.mem_cons_of_mem _ (ih x)
theorem Ring.congr {α β : AS} {c : Nat} {r : List Nat} (h : α.Ring c r) (h3 : ∀ x ∈ c :: r, β.get x 3 = α.get x 3) (h2 : ∀ x ∈ c :: r, β.get x 2 = α.get x 2) (hl : ∀ x ∈ c :: r, β.live x = α.live x) : β.Ring c r :=
 ⟨h.nd, fun x hx => by rw [hl x hx]; exact h.live x hx, seg_congr _ h3 h2 h.seg, by
  refine ⟨?_, ?_⟩
  ·rw [h3 _ (last_mem c r)]; exact h.back.1
  ·rw [h2 c List.mem_cons_self]; exact h.back.2⟩
def link (α : AS) (c d : Nat) : AS := (α.put c 3 d).put d 2 c
end AS
end Go.Proofs.YtodobkbnmjgkdaaGreat.HL
namespace Go.Proofs.YtodobkbnmjgkdaaGreat.HL
open Go.RowKit (Below)
open Go.Proofs
namespace AS
structure Sm (k : Int) (α β : AS) : Prop where
 n : β.n = α.n
 get : β.get = α.get
 live : β.live = α.live
 never : β.never = α.never
 free : β.free = α.free
 steps : 0 ≤ α.steps ∧ α.steps ≤ 9223372036854775807 → β.steps ≤ 9223372036854775807 ∧ α.steps ≤ β.steps ∧ β.steps ≤ α.steps + k
theorem Sm.refl {α : AS} : Sm 0 α α := ⟨rfl, rfl, rfl, rfl, rfl, fun h => ⟨h.2, by omega, by omega⟩⟩
theorem Sm.trans {j k : Int} {α β γ : AS} (h : Sm j α β) (h2 : Sm k β γ) : Sm (j + k) α γ :=
 ⟨h2.n.trans h.n, h2.get.trans h.get, h2.live.trans h.live, h2.never.trans h.never, h2.free.trans h.free, fun h0 => by have h1 := h.steps h0; have h3 := h2.steps ⟨by omega, h1.1⟩; omega⟩
theorem Sm.mono {j k : Int} {α β : AS} (h : Sm j α β) (hk : j ≤ k) : Sm k α β := ⟨h.n, h.get, h.live, h.never, h.free, fun h0 => by have := h.steps h0; omega⟩
theorem tick_sm {α : AS} : Sm 1 α α.tick := ⟨rfl, rfl, rfl, rfl, rfl, fun h0 => by
 show addc α.steps 1 ≤ 9223372036854775807 ∧ α.steps ≤ addc α.steps 1 ∧ addc α.steps 1 ≤ _
 unfold addc; split
 ·omega
 ·split <;> omega⟩
theorem Sm.put {k : Int} {α β : AS} (h : Sm k α β) (c f : Nat) (v : Int) : Sm k (α.put c f v) (β.put c f v) :=
 ⟨h.n, by show (fun c' f' => if c' = c ∧ f' = f then v else β.get c' f') = _; rw [h.get]; rfl, h.live, h.never, h.free, h.steps⟩
theorem hasI_live {α : AS} {c f : Nat} (h : α.live c = true) (hf : f < 10) : α.hasI (c : Int) (f : Int) = true := by
 unfold hasI liveI
 rw [Int.toNat_natCast, h, decide_eq_true (by omega), decide_eq_true (by omega), decide_eq_true (by omega)]; rfl
theorem setI_live {α : AS} {c f : Nat} (h : α.live c = true) (hf : f < 10) (v : Int) : α.setI (c : Int) (f : Int) v = α.put c f v := by
 unfold setI
 rw [if_pos (hasI_live h hf), Int.toNat_natCast, Int.toNat_natCast]
theorem getI_live {α : AS} {c f : Nat} (h : α.live c = true) (hf : f < 10) : α.getI (c : Int) (f : Int) = α.get c f := by
 unfold getI
 rw [if_pos (hasI_live h hf), Int.toNat_natCast, Int.toNat_natCast]
theorem cellI_live {α : AS} {c f y : Nat} (h : α.live c = true) (hf : f < 10) (hv : α.get c f = (y : Int)) (hy : y < α.n) : α.cellI (c : Int) (f : Int) = (y : Int) := by
 unfold cellI
 rw [getI_live h hf, hv, if_neg (by omega)]
theorem liveI_nat {α : AS} {c : Nat} : α.liveI (c : Int) = α.live c := by
 unfold liveI
 rw [Int.toNat_natCast, decide_eq_true (by omega)]; rfl
theorem live_lt {α : AS} (h : α.Inv) {c : Nat} (hc : α.live c = true) : c < α.n := by
 have := lt_never h hc
 have := h.never; omega
end AS
section
variable {w0 : World} {M F : Mem} {R : VP}
theorem Holds.sl {s : SV} {l : List Value} {Q : Asn} (h : Holds w0 F M (star (SlA s l) Q)) : ∃ F', Sl w0 F' M s l ∧ Mem.le F' M ∧ ∀ M' s' l', Sl w0 F' M' s' l' → Mem.le F' M' → Holds w0 F M' (star (SlA s' l') Q) := by
 obtain ⟨r, ⟨r1, r2, rfl, h1, h2⟩, h3⟩ := h
 refine ⟨ext F r2, h1.sl h3, h3.aside.1.fr, fun M' s' l' hs hl => ?_⟩
 obtain ⟨r', h4, h5⟩ := Sl.fit hs ((h3.perm List.perm_append_comm).drop) hl
 exact ⟨_, ⟨r', r2, rfl, h4, h2⟩, h5⟩
theorem Holds.newSl {P : Asn} {M' : Mem} {s : SV} {l : List Value} (h : Holds w0 F M P) (hl : Mem.le M M') (hs : Sl w0 M M' s l) : Holds w0 F M' (star (SlA s l) P) := by
 refine h.beside ?_
 rcases hs with ⟨rfl, rfl⟩ | ⟨b, rest, e, rfl, h1, h2⟩
 ·exact ⟨[], .inl ⟨rfl, rfl, rfl⟩, Fit.nil hl⟩
 ·refine ⟨[(b, l ++ rest, e)], .inr ⟨b, rest, e, rfl, rfl⟩, ⟨by simp, fun x hx => ?_, hl⟩⟩
  simp at hx; subst hx
  exact ⟨h2.1, h1, h2.2⟩
theorem Holds.rdI {Q : Asn} {s : SV} {l : List Int} (h : Holds w0 F M (star (SlA s (l.map (Value.int .i64))) Q)) (hw : ∀ n ∈ l, (Lit.int .i64 n).wf = true) (hm : l.length ≤ 1000000) : RdI w0 M .i64 s l := by
 obtain ⟨F', h1, _⟩ := h.sl
 exact h1.rdI hw (by omega)
theorem Holds.nilSl {P : Asn} (h : Holds w0 F M P) : Holds w0 F M (star (SlA ⟨none, 0, 0⟩ []) P) := by
 obtain ⟨r, h1, h2⟩ := h
 exact ⟨r, ⟨[], r, rfl, SlA.nil, h1⟩, h2⟩
theorem push_ok {Q : Asn} {K : SV → Mem → Prop} {s : SV} {l : List Int} {x : Int} (hH : Holds w0 F M (star (SlA s (l.map (Value.int .i64))) Q)) (hb : l.length ≤ 1000000) (h : ∀ M' s', Holds w0 F M' (star (SlA s' ((l ++ [x]).map (Value.int .i64))) Q) → K s' M') :
  (std PP w0).bsl 53 1 [(0, .int .i64 x)] (fun v M1 => shS v fun s1 => (std PP w0).app #[53, 53] 53 [SV.v s, SV.v s1] (fun v2 M2 => shS v2 fun s2 => K s2 M2) M1) M := by
 obtain ⟨F', h1, h2, h3⟩ := hH.sl
 refine bsl_ints (k := .i64) (l := [x]) h2 Tryz.underlying53 W.e3 (n := 1) (by decide) (by kernel_rfl) rfl fun M1 o l1 l2 h4 => ?_
 simp only [go_sem]
 refine app_new Tryz.underlying53 W.e3 l1 (h1.le l2) h4 (by simp; omega) fun M2 o2 l3 h5 => ?_
 simp only [go_sem]
 exact h M2 o2 (h3 M2 o2 _ h5 l3)
def intsN (l : List Nat) : List Int := l.map fun (c : Nat) => (c : Int)
end
end Go.Proofs.YtodobkbnmjgkdaaGreat.HL
