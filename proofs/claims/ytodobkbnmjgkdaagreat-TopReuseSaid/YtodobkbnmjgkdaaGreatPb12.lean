import Derived.Test.YtodobkbnmjgkdaaGreatPb11
namespace Go.Proofs.YtodobkbnmjgkdaaGreat
open Go.RowKit (Below)
set_option linter.unusedVariables false
set_option linter.unusedSimpArgs false
namespace HL
def jW (a b : Int) : Int := if 9223372036854775807 < a + b then 9223372036854775807 else if a + b < -9223372036854775808 then -9223372036854775808 else a + b
theorem aCF {a b : Int} : fR (jW a b) := by
 unfold fR jW; split
 ·omega
 ·split <;> omega
def aBd (a0 a1 b0 b1 : Int) : Int := if a0 < b0 then -1 else if b0 < a0 then 1 else if a1 < b1 then -1 else if b1 < a1 then 1 else 0
end HL
namespace HL
structure AS where
 n : Nat
 get : Nat → Nat → Int
 live : Nat → Bool
 never : Nat
 free : List Nat
 steps : Int
 begun : Int
 most : Int
namespace AS
def tick (α : AS) : AS := { α with steps := jW α.steps 1 }
def nJ (α : AS) (c : Int) : Bool := decide (0 ≤ c) && α.live c.toNat
def wR (α : AS) (c f : Int) : Bool := α.nJ c && decide (0 ≤ f) && decide (f < 10)
def jK (α : AS) (c f : Int) : Int := if α.wR c f = true then α.get c.toNat f.toNat else -1
def fH (α : AS) (c f : Int) : Int := if α.jK c f < 0 ∨ (α.n : Int) ≤ α.jK c f then -1 else α.jK c f
def put (α : AS) (c f : Nat) (v : Int) : AS := { α with get := fun c' f' => if c' = c ∧ f' = f then v else α.get c' f' }
def lP (α : AS) (c f v : Int) : AS := if α.wR c f = true then α.put c.toNat f.toNat v else α
def fresh (f : Nat) : Int := if f = 4 ∨ f = 5 ∨ f = 7 ∨ f = 8 then 0 else -1
def lay (α : AS) (c : Nat) : AS := { α with get := fun c' f' => if c' = c then fresh f' else α.get c' f', live := fun c' => if c' = c then true else α.live c' }
def next (α : AS) : Option Nat := match α.free.getLast? with
 | some c => some c
 | none => if α.never < α.n then some α.never else none
def take (α : AS) : AS := match α.free.getLast? with
 | some c => { α.lay c with free := α.free.dropLast }
 | none => if α.never < α.n then { α.lay α.never with never := α.never + 1 } else α
def uP (α : AS) : Int := match α.next with
 | some c => (c : Int)
 | none => -1
def kC (α : AS) (c : Nat) : AS := { α with live := fun c' => if c' = c then false else α.live c', free := α.free ++ [c] }
def vD (α : AS) (c : Int) : AS := if α.nJ c = true then α.kC c.toNat else α
def len (α : AS) : Nat := (List.range α.never).countP α.live
def new (n : Nat) : AS := ⟨n, fun _ _ => 0, fun _ => false, 0, [], 0, 0, 0⟩
structure Inv (α : AS) : Prop where
 n : α.n ≤ 65536
 never : α.never ≤ α.n
 free : ∀ c ∈ α.free, c < α.never ∧ α.live c = false
 live : ∀ c, α.never ≤ c → α.live c = false
 nd : α.free.Nodup
 len : α.free.length + α.len = α.never
 steps : 0 ≤ α.steps ∧ fR α.steps
theorem xM (p q : Nat → Bool) (c : Nat) (hpq : ∀ x, x ≠ c → q x = p x) (hp : p c = false) (hq : q c = true) : ∀ k, (List.range k).countP q = (List.range k).countP p + if c < k then 1 else 0 := by
 intro k
 induction k with
 | zero => rfl
 | succ k ih =>
  rw [List.range_succ, List.countP_append, List.countP_append, ih]
  simp only [List.countP_cons, List.countP_nil, Nat.zero_add]
  by_cases h : k = c
  ·subst h
   rw [hp, hq, if_neg (Nat.lt_irrefl _), if_pos (Nat.lt_succ_self _)]; simp
  ·rw [hpq k h]
   by_cases h2 : c < k
   ·have h3 : c < k + 1 := by omega
    simp only [if_pos h2, if_pos h3]; omega
   ·have h3 : ¬ c < k + 1 := by omega
    simp only [if_neg h2, if_neg h3]; omega
theorem aD2 (p : Nat → Bool) : ∀ (d k : Nat), (∀ x, k ≤ x → p x = false) → (List.range (k + d)).countP p = (List.range k).countP p := by
 intro d
 induction d with
 | zero => intro k _; rfl
 | succ d ih =>
  intro k h
  rw [← Nat.add_assoc, List.range_succ, List.countP_append, ih k h]
  simp [h (k + d) (by omega)]
theorem pV {α : AS} (h : Inv α) : Inv α.tick :=
 ⟨h.n, h.never, h.free, h.live, h.nd, h.len, by
  have := h.steps
  refine ⟨?_, aCF⟩
  show 0 ≤ jW α.steps 1
  unfold jW; split
  ·omega
  ·split <;> omega⟩
theorem aB2 {α : AS} (h : Inv α) (c f : Nat) (v : Int) : Inv (α.put c f v) := ⟨h.n, h.never, h.free, h.live, h.nd, h.len, h.steps⟩
theorem aAF {α : AS} (h : Inv α) {c : Nat} (hc : α.live c = true) : c < α.never := by
 apply Decidable.byContradiction
 intro hn
 have := h.live c (by omega)
 rw [hc] at this; cases this
theorem aA7 {α : AS} (h : Inv α) {c : Int} (hc : α.nJ c = true) : 0 ≤ c ∧ c.toNat < α.never ∧ α.live c.toNat = true := by
 simp only [nJ, Bool.and_eq_true, decide_eq_true_eq] at hc
 exact ⟨hc.1, aAF h hc.2, hc.2⟩
theorem aAJ {α : AS} (h : Inv α) {c : Nat} (hc : α.live c = true) : Inv (α.kC c) := by
 have hlt := aAF h hc
 have hcount := xM (fun c' => if c' = c then false else α.live c') α.live c (fun x hx => by simp [hx]) (by simp) hc α.never
 rw [if_pos hlt] at hcount
 have hlen := h.len
 unfold len at hlen
 refine ⟨h.n, h.never, fun x hx => ?_, fun x hx => ?_, ?_, ?_, h.steps⟩
 ·rcases List.mem_append.1 hx with hx | hx
  ·obtain ⟨h1, h2⟩ := h.free x hx
   refine ⟨h1, ?_⟩
   show (if x = c then false else α.live x) = false
   split
   ·rfl
   ·exact h2
  ·simp at hx
   subst hx
   exact ⟨hlt, by simp [kC]⟩
 ·show (if x = c then false else α.live x) = false
  split
  ·rfl
  ·exact h.live x hx
 ·show (α.free ++ [c]).Nodup
  rw [List.nodup_append]
  refine ⟨h.nd, by simp, fun a ha b hb e => ?_⟩
  simp at hb
  subst hb
  subst e
  have := (h.free a ha).2
  rw [hc] at this; cases this
 ·show (α.free ++ [c]).length + (List.range α.never).countP (fun c' => if c' = c then false else α.live c') = α.never
  rw [List.length_append, List.length_singleton]; omega
theorem aDg {α : AS} (h : Inv α) : Inv α.take := by
 have hlen := h.len
 unfold len at hlen
 unfold take
 cases hl : α.free.getLast? with
 | some c =>
  have hmem : c ∈ α.free := List.mem_of_getLast? hl
  obtain ⟨h1, h2⟩ := h.free c hmem
  have hsplit : α.free = α.free.dropLast ++ [c] := by
   obtain ⟨l, e⟩ := List.getLast?_eq_some_iff.1 hl
   rw [e]; simp
  have hcount := xM α.live (fun c' => if c' = c then true else α.live c') c (fun x hx => by simp [hx]) h2 (by simp) α.never
  rw [if_pos h1] at hcount
  have fO := h.nd
  rw [hsplit, List.nodup_append] at fO
  refine ⟨h.n, h.never, fun x hx => ?_, fun x hx => ?_, fO.1, ?_, h.steps⟩
  ·have hx' : x ∈ α.free.dropLast := hx
   have hxf : x ∈ α.free := by rw [hsplit]; exact List.mem_append_left _ hx'
   obtain ⟨g1, g2⟩ := h.free x hxf
   refine ⟨g1, ?_⟩
   show (if x = c then true else α.live x) = false
   rw [if_neg (fO.2.2 x hx' c (by simp))]; exact g2
  ·show (if x = c then true else α.live x) = false
   have hx' : α.never ≤ x := hx
   rw [if_neg (by omega)]; exact h.live x hx
  ·show α.free.dropLast.length + (List.range α.never).countP (fun c' => if c' = c then true else α.live c') = α.never
   have : α.free.length = α.free.dropLast.length + 1 := by
    conv => lhs; rw [hsplit]
    simp
   omega
 | none =>
  simp only
  split
  ·rename_i hlt
   have hf : α.free = [] := List.getLast?_eq_none_iff.1 hl
   have h2 := h.live α.never (Nat.le_refl _)
   have hcount := xM α.live (fun c' => if c' = α.never then true else α.live c') α.never (fun x hx => by simp [hx]) h2 (by simp) (α.never + 1)
   rw [if_pos (Nat.lt_succ_self _)] at hcount
   have hout := aD2 α.live 1 α.never h.live
   refine ⟨h.n, hlt, fun x hx => ?_, fun x hx => ?_, h.nd, ?_, h.steps⟩
   ·have hx' : x ∈ α.free := hx
    rw [hf] at hx'; cases hx'
   ·show (if x = α.never then true else α.live x) = false
    have hx' : α.never + 1 ≤ x := hx
    rw [if_neg (by omega)]; exact h.live x (by omega)
   ·show α.free.length + (List.range (α.never + 1)).countP (fun c' => if c' = α.never then true else α.live c') = α.never + 1
    omega
  ·exact h
theorem aEH {n : Nat} (h : n ≤ 65536) : Inv (new n) :=
 ⟨h, Nat.zero_le _, fun c hc => (by cases hc), fun _ _ => rfl, List.nodup_nil, rfl, by unfold fR new; simp⟩
theorem kS {α : AS} (h : Inv α) {c : Nat} (hn : α.next = some c) : c < α.n ∧ α.live c = false ∧ α.take = { α.lay c with free := α.take.free, never := α.take.never } := by
 unfold next at hn
 unfold take
 cases hl : α.free.getLast? with
 | some x =>
  rw [hl] at hn; cases hn
  obtain ⟨h1, h2⟩ := h.free c (List.mem_of_getLast? hl)
  have := h.never
  exact ⟨by omega, h2, rfl⟩
 | none =>
  rw [hl] at hn
  simp only at hn ⊢
  split at hn
  ·rename_i hlt
   cases hn
   rw [if_pos hlt]
   exact ⟨hlt, h.live _ (Nat.le_refl _), rfl⟩
  ·cases hn
theorem v9 {α : AS} (hn : α.next = none) : α.take = α ∧ α.free = [] ∧ α.n ≤ α.never := by
 unfold next at hn
 unfold take
 cases hl : α.free.getLast? with
 | some x => rw [hl] at hn; cases hn
 | none =>
  rw [hl] at hn
  simp only at hn ⊢
  split at hn
  ·cases hn
  ·rename_i h
   rw [if_neg h]
   exact ⟨rfl, List.getLast?_eq_none_iff.1 hl, by omega⟩
end AS
structure jH (cs : List Value) (α : AS) : Prop where
 len : cs.length = 11 * α.n
 f : ∀ c f, c < α.n → f < 10 → cs[11 * c + f]? = some (.int .i64 (α.get c f))
 t : ∀ c, c < α.n → cs[11 * c + 10]? = some (.bool (α.live c))
theorem jH.tick {cs : List Value} {α : AS} (h : jH cs α) : jH cs α.tick := ⟨h.len, h.f, h.t⟩
theorem jH.put {cs : List Value} {α : AS} (h : jH cs α) {c f : Nat} (hc : c < α.n) (hf : f < 10) (v : Int) : jH (cs.set (11 * c + f) (.int .i64 v)) (α.put c f v) := by
 refine ⟨by rw [List.length_set]; exact h.len, fun c' f' hc' hf' => ?_, fun c' hc' => ?_⟩
 ·have hlen := h.len
  have hc'' : c' < α.n := hc'
  rw [List.getElem?_set]
  show _ = some (Value.int .i64 (if c' = c ∧ f' = f then v else α.get c' f'))
  by_cases e : c' = c ∧ f' = f
  ·obtain ⟨rfl, rfl⟩ := e
   rw [if_pos rfl, if_pos (by omega), if_pos ⟨rfl, rfl⟩]
  ·rw [if_neg (by omega), if_neg e]
   exact h.f c' f' hc' hf'
 ·rw [List.getElem?_set, if_neg (by omega)]
  exact h.t c' hc'
theorem jH.mark {cs : List Value} {α : AS} (h : jH cs α) {c : Nat} (hc : c < α.n) : jH (cs.set (11 * c + 10) (.bool false)) (α.kC c) := by
 refine ⟨by rw [List.length_set]; exact h.len, fun c' f' hc' hf' => ?_, fun c' hc' => ?_⟩
 ·rw [List.getElem?_set, if_neg (by omega)]
  exact h.f c' f' hc' hf'
 ·have hlen := h.len
  have hc'' : c' < α.n := hc'
  rw [List.getElem?_set]
  show _ = some (Value.bool (if c' = c then false else α.live c'))
  by_cases e : c' = c
  ·subst e
   rw [if_pos rfl, if_pos (by omega), if_pos rfl]
  ·rw [if_neg (by omega), if_neg e]
   exact h.t c' hc'
def mE : List Value := [.int .i64 (-1), .int .i64 (-1), .int .i64 (-1), .int .i64 (-1), .int .i64 0, .int .i64 0, .int .i64 (-1), .int .i64 0, .int .i64 0, .int .i64 (-1), .bool true]
theorem jH.lay {cs : List Value} {α : AS} (h : jH cs α) {c : Nat} (hc : c < α.n) {α' : AS} (e1 : α'.n = α.n) (e2 : α'.get = (α.lay c).get) (e3 : α'.live = (α.lay c).live) : jH (eH cs (11 * c) mE) α' := by
 have hlen := h.len
 have hr : 11 * c + mE.length ≤ cs.length := by rw [hlen]; show 11 * c + 11 ≤ _; omega
 refine ⟨by rw [aDh, e1]; exact hlen, fun c' f' hc' hf' => ?_, fun c' hc' => ?_⟩
 ·rw [vL _ _ _ _ hr, show mE.length = 11 from rfl, e2]
  show _ = some (Value.int .i64 (if c' = c then AS.fresh f' else α.get c' f'))
  by_cases e : c' = c
  ·subst e
   rw [if_neg (by omega), if_pos (by omega), if_pos rfl, show 11 * c' + f' - 11 * c' = f' from by omega]
   match f', hf' with
   | 0, _ | 1, _ | 2, _ | 3, _ | 4, _ | 5, _ | 6, _ | 7, _ | 8, _ | 9, _ => rfl
  ·rw [if_neg e, ← h.f c' f' (by omega) hf']
   by_cases h1 : 11 * c' + f' < 11 * c
   ·rw [if_pos h1]
   ·rw [if_neg h1, if_neg (by omega)]
 ·rw [vL _ _ _ _ hr, show mE.length = 11 from rfl, e3]
  show _ = some (Value.bool (if c' = c then true else α.live c'))
  by_cases e : c' = c
  ·subst e
   rw [if_neg (by omega), if_pos (by omega), if_pos rfl, show 11 * c' + 10 - 11 * c' = 10 from by omega]; rfl
  ·rw [if_neg e, ← h.t c' (by omega)]
   by_cases h1 : 11 * c' + 10 < 11 * c
   ·rw [if_pos h1]
   ·rw [if_neg h1, if_neg (by omega)]
end HL
set_option maxRecDepth 100000
namespace HL
section
variable {w0 : World} {M M0 : Mem}
theorem vW {R : VP} {n lo hi : Int} (hn : fR n) (h1 : -4611686018427387904 ≤ lo) (h2 : lo ≤ hi) (h3 : hi ≤ 1152921504606846976) (h4 : hi - lo ≤ 1152921504606846976) (h : ∀ x, lo ≤ x → x ≤ hi → R (.int .i64 x) M) : C PP w0 Id.cK #[.int .i64 n, .int .i64 lo, .int .i64 hi] R M := by
 apply cK.go
 intro aB H
 unfold cK.T aJ
 have hj : cK.J1 aB n lo hi M := by
  refine Eq.mpr (H.J1 ..) ?_
  unfold cK.J1.T aJ
  rw [bC (n := hi - lo) (by omega), bC (n := hi - lo + 1) (by omega)]
  refine ⟨rfl, by omega, ?_⟩
  have a1 : Int.tmod n (hi - lo + 1) < hi - lo + 1 := Int.tmod_lt_of_pos n (by omega)
  have a2 : -(hi - lo + 1) < Int.tmod n (hi - lo + 1) := by
   have := Int.tmod_lt_of_pos (-n) (show 0 < hi - lo + 1 by omega)
   rw [Int.neg_tmod] at this; omega
  generalize Int.tmod n (hi - lo + 1) = r at a1 a2
  rw [eO]
  split
  ·rw [bC (n := r + hi) (by omega), bC (n := r + hi - lo) (by omega), bC (n := r + hi - lo + 1) (by omega), bC (by omega)]
   exact h _ (by omega) (by omega)
  ·rw [bC (by omega)]
   exact h _ (by omega) (by omega)
 simp only [eO]
 split
 ·split
  ·exact h n (by omega) (by omega)
  ·exact hj
 ·exact hj
theorem aAE {Mb : Mem} {k : IntKind} {t e : TypeId} {z : Value} {n : Nat} {parts : List (Nat × Value)} {l : List Int} (hle : Mem.le Mb M) (ht : PP.underlying t = some (.slice e)) (he : jV PP e z 1)
  (h24 : n ≤ 16777216) (hc : Instr.fill (fun k => some (k * 1, 1)) ((Array.range (n * 1)).map (z.cells[· % z.cells.size]!)) parts = some (l.map (Value.int k)).toArray) (hn : l.length = n) {K : VP}
  (h : ∀ M' s', Mem.le Mb M' → Mem.le M M' → Sl w0 Mb M' s' (l.map (Value.int k)) → K s'.v M') : (aH PP w0).bsl t n parts K M :=
 aG3 hle ht he h24 hc (by simp [hn]) h
theorem aJ3 {l : List Int} (h : ∀ x ∈ l, fR x) : ∀ n ∈ l, (Lit.int .i64 n).wf = true := fun n hn => aHv (h n hn)
theorem aKs {R : SV → Mem → Prop} {n : Nat} {parts : List (Nat × Value)} (l : List Int) (h24 : n ≤ 16777216) (hc : Instr.fill (fun k => some (k * 1, 1)) ((Array.range (n * 1)).map ((Value.int .i64 0).cells[· % (Value.int .i64 0).cells.size]!)) parts = some (l.map (Value.int .i64)).toArray) (hn : l.length = n) (hw : ∀ n ∈ l, (Lit.int .i64 n).wf = true)
  (h : ∀ M' s', Mem.le M M' → pW w0 M' .i64 s' l → R s' M') : (aH PP w0).bsl 53 n parts (fun v M' => shS v fun s' => R s' M') M := by
 refine aAE (Mem.le_refl _) Tryz.underlying53 W.e3 h24 hc hn fun M' s' h1 h2 h3 => ?_
 simp only [go_sem]
 exact h M' s' h1 (h3.rdI hw (by omega))
end
end HL
namespace HL
section
variable {w0 : World} {M F : Mem} {R : VP}
theorem qF {t : TypeId} {ad : Addr} : (aH PP w0).rdv t (.pointer (some ad)) M = (aH PP w0).ld t ad M := rfl
theorem tO {a b : Int} (ha : fR a) (hb : fR b) (h : R (.int .i64 (jW a b)) M) : C PP w0 Id.kW #[.int .i64 a, .int .i64 b] R M := by
 apply kW.go
 unfold kW.T aJ
 unfold fR at ha hb
 unfold jW at h
 by_cases h1 : b > 0
 ·have e : p4 (9223372036854775807 - b) = 9223372036854775807 - b := bC (by omega)
  rw [e, eO, if_pos h1, eO]
  split
  ·rw [if_pos (by omega)] at h; exact h
  ·rw [if_neg (by omega), if_neg (by omega)] at h
   rw [eO, if_neg (by omega), bC (by omega)]; exact h
 ·rw [eO, if_neg h1]
  by_cases h2 : b < 0
  ·have e : p4 ((-9223372036854775808) - b) = (-9223372036854775808) - b := bC (by omega)
   rw [e, eO, if_pos h2, eO]
   split
   ·rw [if_neg (by omega), if_pos (by omega)] at h; exact h
   ·rw [if_neg (by omega), if_neg (by omega)] at h
    rw [bC (by omega)]; exact h
  ·rw [eO, if_neg h2]
   rw [if_neg (by omega), if_neg (by omega)] at h
   rw [bC (by omega)]; exact h
end
end HL
namespace HL
section
variable {w0 : World} {M F : Mem} {R : VP}
abbrev gU (s g m : Int) : List Value := [.int .i64 s, .int .i64 g, .int .i64 m]
theorem aAb {b : Nat} {s g m n : Int} (ho : cM w0 M b (gU s g m) 163) (hs : fR s) (hn : fR n) (h0 : 0 ≤ n) (h : R (.tuple #[]) (M.set b (.row (gU (jW s n) g m) 163))) : C PP w0 Id.n9 #[.pointer (some ⟨b, 0, none⟩), .int .i64 n] R M := by
 apply n9.go
 unfold n9.T aJ
 have e1 : rd w0 M ⟨b, 0, none⟩ = some (.int .i64 s) := by rw [aM ho]; rfl
 have e2 : (if n > 0 then n else 0) = n := by split <;> omega
 simp only [go_sem, e1, e2]
 refine tO hs hn ?_
 simp only [go_sem]
 exact gF W.c2 ho (by simp) rfl rfl h
theorem aGA {b : Nat} {s g m : Int} (ho : cM w0 M b (gU s g m) 163) (h : R (.int .i64 s) M) : C PP w0 Id.lG #[.pointer (some ⟨b, 0, none⟩)] R M := by
 apply lG.go
 unfold lG.T aJ
 have e1 : rd w0 M ⟨b, 0, none⟩ = some (.int .i64 s) := by rw [aM ho]; rfl
 simp only [go_sem, e1]
 exact h
abbrev arR (bL n never : Nat) (sf : SV) (bM : Nat) : List Value := [.slice (some ⟨bL, 0, none⟩) n n, .int .i64 (never : Int), sf.v, .pointer (some ⟨bM, 0, none⟩)]
def mZ (l : List Nat) : List Value := l.map fun (c : Nat) => Value.int .i64 (c : Int)
def aE (a : Nat) (α : AS) : cY := fun r => α.Inv ∧ ∃ bL bM sf cs rf, r = (a, arR bL α.n α.never sf bM, 145) :: (bL, cs, 251) :: (bM, gU α.steps α.begun α.most, 163) :: rf ∧ jH cs α ∧ oZ sf (mZ α.free) rf
structure Seen (w0 : World) (M : Mem) (a bL bM : Nat) (sf : SV) (cs : List Value) (α : AS) : Prop where
 a : cM w0 M a (arR bL α.n α.never sf bM) 145
 l : cM w0 M bL cs 251
 m : cM w0 M bM (gU α.steps α.begun α.most) 163
 cs : jH cs α
 inv : α.Inv
theorem aA.seen {a : Nat} {α : AS} (h : aA w0 F M (aE a α)) : ∃ bL bM sf cs, Seen w0 M a bL bM sf cs α ∧ sf.n = α.free.length := by
 obtain ⟨r, ⟨hi, bL, bM, sf, cs, rf, rfl, hc, hs⟩, hf⟩ := h
 exact ⟨bL, bM, sf, cs, ⟨hf.own (by simp), hf.own (by simp), hf.own (by simp), hc, hi⟩, by rw [hs.len]; simp [mZ]⟩
theorem aA.inv {a : Nat} {α : AS} (h : aA w0 F M (aE a α)) : α.Inv := by
 obtain ⟨r, ⟨hi, _⟩, _⟩ := h; exact hi
section
variable {a bL bM : Nat} {sf : SV} {cs : List Value} {α : AS}
theorem Seen.r0 (h : Seen w0 M a bL bM sf cs α) : rd w0 M ⟨a, 0, none⟩ = some (.slice (some ⟨bL, 0, none⟩) α.n α.n) := by rw [aM h.a]; rfl
theorem Seen.r3 (h : Seen w0 M a bL bM sf cs α) : rd w0 M ⟨a, 3, none⟩ = some (.pointer (some ⟨bM, 0, none⟩)) := by rw [aM h.a]; rfl
theorem Seen.live (h : Seen w0 M a bL bM sf cs α) {c : Nat} (hc : c < α.n) : rd w0 M ⟨bL, c * 11 + 10, none⟩ = some (.bool (α.live c)) := by
 rw [aM h.l, Nat.mul_comm]; exact h.cs.t c hc
theorem Seen.f (h : Seen w0 M a bL bM sf cs α) {c f : Nat} (hc : c < α.n) (hf : f < 10) : rd w0 M ⟨bL, c * 11 + f, none⟩ = some (.int .i64 (α.get c f)) := by
 rw [aM h.l, Nat.mul_comm]; exact h.cs.f c f hc hf
theorem aAw (hs : Seen w0 M a bL bM sf cs α) {c : Int} (h : R (.bool (α.nJ c)) M) : C PP w0 Id.nC #[.pointer (some ⟨a, 0, none⟩), .int .i64 c] R M := by
 apply nC.go
 unfold nC.T aJ
 simp only [go_sem, hs.r0, eO]
 split
 ·rename_i h0
  obtain ⟨c, rfl⟩ : ∃ k : Nat, c = (k : Int) := ⟨c.toNat, by omega⟩
  have e : α.nJ (c : Int) = α.live c := by simp [AS.nJ]
  rw [e] at h
  split
  ·rename_i hc
   have hc' : c < α.n := by omega
   refine ⟨by omega, ?_⟩
   simp only [add_eq, Int.toNat_natCast, Nat.zero_add, hs.live hc', aC, bU]
   exact h
  ·rename_i hc
   have := hs.inv.live c (by have := hs.inv.never; omega)
   rw [this] at h; exact h
 ·rename_i h0
  have e : α.nJ c = false := by
   unfold AS.nJ
   rw [decide_eq_false (by omega)]; rfl
  rw [e] at h; exact h
theorem aFs (hs : Seen w0 M a bL bM sf cs α) {c f : Int} (h : R (.bool (α.wR c f)) M) : C PP w0 Id.qT #[.pointer (some ⟨a, 0, none⟩), .int .i64 c, .int .i64 f] R M := by
 apply qT.go
 unfold qT.T aJ
 refine aAw hs ?_
 simp only [go_sem]
 unfold AS.wR at h
 rw [aHi]
 refine ⟨fun h1 => ?_, fun h1 => by rw [h1] at h; exact h⟩
 rw [h1] at h
 rw [eO]
 split
 ·rename_i h2
  rw [decide_eq_true h2] at h; exact h
 ·rename_i h2
  rw [decide_eq_false h2] at h; exact h
end
theorem wE {a : Nat} {α : AS} (hA : aA w0 F M (aE a α)) {c : Int} (h : R (.bool (α.nJ c)) M) : C PP w0 Id.nC #[.pointer (some ⟨a, 0, none⟩), .int .i64 c] R M := by
 obtain ⟨bL, bM, sf, cs, hs, _⟩ := hA.seen
 exact aAw hs h
theorem vQ {a : Nat} {α : AS} (hA : aA w0 F M (aE a α)) (h : R (.int .i64 (α.n : Int)) M) : C PP w0 Id.mF #[.pointer (some ⟨a, 0, none⟩)] R M := by
 obtain ⟨bL, bM, sf, cs, hs, _⟩ := hA.seen
 apply mF.go
 unfold mF.T aJ
 simp only [go_sem, hs.r0]
 exact h
theorem aA.aCG {a : Nat} {α : AS} (hA : aA w0 F M (aE a α)) : ∃ bL bM sf cs, Seen w0 M a bL bM sf cs α ∧ Seen w0 (M.set bM (.row (gU (jW α.steps 1) α.begun α.most) 163)) a bL bM sf cs α.tick ∧ aA w0 F (M.set bM (.row (gU (jW α.steps 1) α.begun α.most) 163)) (aE a α.tick) := by
 obtain ⟨r, ⟨hi, bL, bM, sf, cs, rf, rfl, hc, hs⟩, hf⟩ := hA
 have hf' : Fit w0 F (M.set bM (.row (gU (jW α.steps 1) α.begun α.most) 163)) ((a, arR bL α.n α.never sf bM, 145) :: (bL, cs, 251) :: (bM, gU (jW α.steps 1) α.begun α.most, 163) :: rf) := by
  have h1 := hf.perm (r' := (bM, gU α.steps α.begun α.most, 163) :: (a, arR bL α.n α.never sf bM, 145) :: (bL, cs, 251) :: rf) (List.perm_middle (l₁ := [_, _]))
  exact h1.upd.perm (List.perm_middle (l₁ := [_, _])).symm
 refine ⟨bL, bM, sf, cs, ⟨hf.own (by simp), hf.own (by simp), hf.own (by simp), hc, hi⟩, ⟨hf'.own (by simp [AS.tick]), hf'.own (by simp), hf'.own (by simp [AS.tick]), hc.tick, AS.pV hi⟩, _, ⟨AS.pV hi, bL, bM, sf, cs, rf, rfl, hc.tick, hs⟩, hf'⟩
theorem aB0 : fR 1 := by unfold fR; omega
theorem p3 {a : Nat} {α : AS} (hA : aA w0 F M (aE a α)) {c f : Int} (h : ∀ M', aA w0 F M' (aE a α.tick) → R (.int .i64 (α.jK c f)) M') : C PP w0 Id.rK #[.pointer (some ⟨a, 0, none⟩), .int .i64 c, .int .i64 f] R M := by
 obtain ⟨bL, bM, sf, cs, hs, hs1, hA1⟩ := hA.aCG
 apply rK.go
 unfold rK.T aJ
 simp only [go_sem, add_eq, Nat.zero_add, hs.r3]
 refine aAb hs.m hs.inv.steps.2 aB0 (by omega) ?_
 refine aFs hs1 ?_
 have hh := h _ hA1
 unfold AS.jK at hh
 simp only [go_sem, vH]
 rw [aHi]
 refine ⟨fun h1 => ?_, fun h1 => ?_⟩
 ·change α.wR c f = true at h1
  rw [if_pos h1] at hh
  simp only [AS.wR, Bool.and_eq_true, decide_eq_true_eq] at h1
  obtain ⟨⟨h2, h3⟩, h4⟩ := h1
  obtain ⟨h5, h6, h7⟩ := AS.aA7 hs.inv h2
  have hn := hs.inv.never
  obtain ⟨c, rfl⟩ : ∃ k : Nat, c = (k : Int) := ⟨c.toNat, by omega⟩
  obtain ⟨f, rfl⟩ : ∃ k : Nat, f = (k : Int) := ⟨f.toNat, by omega⟩
  simp only [Int.toNat_natCast] at h6 hh
  have e0 := hs1.r0
  have e1 := hs1.f (c := c) (f := f) (by show c < α.n; omega) (by omega)
  simp only [e0, aC, rF, aX, add_eq, Nat.zero_add, Int.toNat_natCast, Nat.mul_one, e1, aL]
  exact ⟨⟨by omega, by show (c : Int) < (α.n : Int); omega⟩, ⟨by omega, by omega⟩, hh⟩
 ·change α.wR c f = false at h1
  rw [h1] at hh; exact hh
theorem eQ {a : Nat} {α : AS} (hA : aA w0 F M (aE a α)) {c f : Int} (h : ∀ M', aA w0 F M' (aE a α.tick) → R (.int .i64 (α.fH c f)) M') : C PP w0 Id.oI #[.pointer (some ⟨a, 0, none⟩), .int .i64 c, .int .i64 f] R M := by
 apply oI.go
 unfold oI.T aJ
 refine p3 hA fun M' hA' => ?_
 obtain ⟨bL, bM, sf, cs, hs, _⟩ := hA'.seen
 have hh := h M' hA'
 unfold AS.fH at hh
 have e : α.tick.n = α.n := rfl
 simp only [go_sem, hs.r0, eO, e]
 split
 ·rw [if_pos (by omega)] at hh; exact hh
 ·split
  ·rw [if_pos (by omega)] at hh; exact hh
  ·rw [if_neg (by omega)] at hh; exact hh
theorem gS {a : Nat} {α : AS} (hA : aA w0 F M (aE a α)) {c f v : Int} (h : ∀ M', aA w0 F M' (aE a (α.lP c f v).tick) → R (.bool (α.wR c f)) M') : C PP w0 Id.pN #[.pointer (some ⟨a, 0, none⟩), .int .i64 c, .int .i64 f, .int .i64 v] R M := by
 obtain ⟨bL, bM, sf, cs, hs, hs1, hA1⟩ := hA.aCG
 apply pN.go
 unfold pN.T aJ
 simp only [go_sem, add_eq, Nat.zero_add, hs.r3]
 refine aAb hs.m hs.inv.steps.2 aB0 (by omega) ?_
 generalize hM1 : M.set bM (.row (gU (jW α.steps 1) α.begun α.most) 163) = M1 at hs1 hA1 ⊢
 refine aFs hs1 ?_
 simp only [go_sem, vH]
 rw [aHi]
 refine ⟨fun h1 => ?_, fun h1 => ?_⟩
 ·change α.wR c f = true at h1
  unfold AS.lP at h
  rw [if_pos h1, h1] at h
  simp only [AS.wR, Bool.and_eq_true, decide_eq_true_eq] at h1
  obtain ⟨⟨h2, h3⟩, h4⟩ := h1
  obtain ⟨h5, h6, h7⟩ := AS.aA7 hs.inv h2
  have hn := hs.inv.never
  obtain ⟨c, rfl⟩ : ∃ k : Nat, c = (k : Int) := ⟨c.toNat, by omega⟩
  obtain ⟨f, rfl⟩ : ∃ k : Nat, f = (k : Int) := ⟨f.toNat, by omega⟩
  simp only [Int.toNat_natCast] at h6 h
  have hcn : c < α.n := by omega
  have hfn : f < 10 := by omega
  obtain ⟨r, ⟨hi, bL', bM', sf', cs', rf, rfl, hc, hsl⟩, hf⟩ := hA1
  have e0 : rd w0 M1 ⟨a, 0, none⟩ = some (.slice (some ⟨bL', 0, none⟩) α.n α.n) := by rw [aM (hf.own (b := a) (cs := arR bL' α.n α.never sf' bM') (e := 145) List.mem_cons_self)]; rfl
  simp only [e0, aC, rF, aX, add_eq, Nat.zero_add, Int.toNat_natCast, Nat.mul_one]
  refine ⟨⟨by omega, by omega⟩, ⟨by omega, by omega⟩, ?_⟩
  refine gF W.c2 (hf.own (b := bL') (cs := cs') (e := 251) (by simp)) (by rw [hc.len]; show c * 11 + f < 11 * α.n; omega) rfl rfl ?_
  refine h _ ⟨_, ⟨AS.pV (AS.aB2 hs.inv c f v), bL', bM', sf', cs'.set (11 * c + f) (.int .i64 v), rf, rfl, (jH.put (α := α) ⟨hc.len, hc.f, hc.t⟩ hcn hfn v).tick, hsl⟩, ?_⟩
  rw [Nat.mul_comm c 11]
  have h1 := hf.perm (List.perm_middle (l₁ := [_]))
  exact h1.upd.perm (List.perm_middle (l₁ := [_])).symm
 ·change α.wR c f = false at h1
  unfold AS.lP at h
  rw [h1] at h
  exact h _ hA1
theorem aGK (h : ∀ M', Mem.le M M' → R (.agg mE.toArray) M') : C PP w0 Id.bS #[] R M := by
 apply bS.go
 intro aB H
 unfold bS.T aJ
 intro b1 hb1 hw1
 simp only [go_sem]
 intro b2 hb2 hw2
 have f1 := (Fit.nil (w0 := w0) (Mem.le_refl M)).new hb1 hw1 (cs := [.int .i64 0, .int .i64 0, .int .i64 0, .int .i64 0, .int .i64 0, .int .i64 0, .int .i64 0, .int .i64 0, .int .i64 0, .int .i64 0, .bool false]) (e := 251)
 have f2 := f1.new hb2 hw2 (cs := [.int .i64 0, .int .i64 0, .int .i64 0, .int .i64 0, .int .i64 0, .int .i64 0, .int .i64 0, .int .i64 0, .int .i64 0, .int .i64 0, .bool false]) (e := 251)
 refine gZ (vs := [.int .i64 0, .int .i64 0, .int .i64 0, .int .i64 0, .int .i64 0, .int .i64 0, .int .i64 0, .int .i64 0, .int .i64 0, .int .i64 0, .bool true]) W.aGx (f2.own List.mem_cons_self) (by decide) (by decide) ?_
 have f3 := f2.upd (cs' := eH [.int .i64 0, .int .i64 0, .int .i64 0, .int .i64 0, .int .i64 0, .int .i64 0, .int .i64 0, .int .i64 0, .int .i64 0, .int .i64 0, .bool false] 0 [.int .i64 0, .int .i64 0, .int .i64 0, .int .i64 0, .int .i64 0, .int .i64 0, .int .i64 0, .int .i64 0, .int .i64 0, .int .i64 0, .bool true]) (e' := 251)
 refine sU (cells := (([0, 1, 2, 3, 6, 9] : List Int).map fun n => Value.int .i64 n).toArray) Tryz.underlying53 W.e3 (by decide) (by kernel_rfl) fun b3 hb3 hw3 => ?_
 have f4 := f3.new hb3 hw3 (cs := (([0, 1, 2, 3, 6, 9] : List Int).map fun n => Value.int .i64 n)) (e := 3)
 simp only [go_sem]
 have step : ∀ (k i : Nat) (f : Nat) (cs : List Value) (M' : Mem), ([0, 1, 2, 3, 6, 9] : List Int)[i]? = some (f : Int) → f < 10 → cs.length = 11 → i < 6 →
   Fit w0 M M' [(b3, (([0, 1, 2, 3, 6, 9] : List Int).map fun n => Value.int .i64 n), 3), (b2, cs, 251), (b1, [.int .i64 0, .int .i64 0, .int .i64 0, .int .i64 0, .int .i64 0, .int .i64 0, .int .i64 0, .int .i64 0, .int .i64 0, .int .i64 0, .bool false], 251)] →
   (∀ M'', Fit w0 M M'' [(b3, (([0, 1, 2, 3, 6, 9] : List Int).map fun n => Value.int .i64 n), 3), (b2, cs.set f (.int .i64 (-1)), 251), (b1, [.int .i64 0, .int .i64 0, .int .i64 0, .int .i64 0, .int .i64 0, .int .i64 0, .int .i64 0, .int .i64 0, .int .i64 0, .int .i64 0, .bool false], 251)] →
    bS.L1 aB k ⟨b1, 0, none⟩ ⟨b2, 0, none⟩ ⟨some ⟨b3, 0, none⟩, 6, 6⟩ 6 ((i + 1 : Nat) : Int) M'') →
   bS.L1 aB (k + 1) ⟨b1, 0, none⟩ ⟨b2, 0, none⟩ ⟨some ⟨b3, 0, none⟩, 6, 6⟩ 6 (i : Int) M' := by
  intro k i f cs M' hi hf hl h6 hfit hK
  refine Eq.mpr (H.L1 ..) ?_
  unfold bS.L1.T aJ
  rw [eO, if_pos (by omega)]
  have hr : pW w0 M' .i64 ⟨some ⟨b3, 0, none⟩, 6, 6⟩ [0, 1, 2, 3, 6, 9] := pW.own (hfit.own List.mem_cons_self) rfl (Nat.le_refl _) (aHy _) (by decide) (by decide)
  refine rdx W.c3 hr (Mem.le_refl _) i rfl hi ?_
  refine ⟨⟨by omega, by omega⟩, ?_⟩
  rw [add_eq, Nat.zero_add, Nat.mul_one, Int.toNat_natCast]
  refine gF W.c2 (hfit.own (b := b2) (cs := cs) (e := 251) (by simp)) (by omega) rfl rfl ?_
  rw [bC (by omega)]
  refine hK _ ?_
  have h1 := hfit.perm (List.perm_middle (l₁ := [_]))
  exact h1.upd.perm (List.perm_middle (l₁ := [_])).symm
 refine ⟨7, step 6 0 0 _ _ rfl (by omega) rfl (by omega) f4 fun M5 f5 => step 5 1 1 _ _ rfl (by omega) (by rw [List.length_set]; rfl) (by omega) f5 fun M6 f6 => step 4 2 2 _ _ rfl (by omega) (by simp only [List.length_set]; rfl) (by omega) f6 fun M7 f7 =>
  step 3 3 3 _ _ rfl (by omega) (by simp only [List.length_set]; rfl) (by omega) f7 fun M8 f8 => step 2 4 6 _ _ rfl (by omega) (by simp only [List.length_set]; rfl) (by omega) f8 fun M9 f9 => step 1 5 9 _ _ rfl (by omega) (by simp only [List.length_set]; rfl) (by omega) f9 fun M10 f10 => ?_⟩
 refine Eq.mpr (H.L1 ..) ?_
 unfold bS.L1.T aJ
 rw [eO, if_neg (by omega)]
 have o2 : cM w0 M10 b2 mE 251 := f10.own (List.mem_cons_of_mem _ List.mem_cons_self)
 have o1 := f10.own (List.mem_cons_of_mem _ (List.mem_cons_of_mem _ List.mem_cons_self))
 rw [c9 (cs := mE) W.aGx (fun j v hj => by rw [add_eq, aM o2, Nat.zero_add]; exact hj)]
 simp only [mE, go_sem]
 refine gZ (vs := mE) W.aGx o1 (by decide) (by decide) ?_
 have f11 := (f10.perm (List.perm_middle (l₁ := [_, _]))).upd (cs' := mE) (e' := 251)
 have o3 := f11.own List.mem_cons_self
 have hov : eH [.int .i64 0, .int .i64 0, .int .i64 0, .int .i64 0, .int .i64 0, .int .i64 0, .int .i64 0, .int .i64 0, .int .i64 0, .int .i64 0, .bool false] 0 mE = mE := rfl
 rw [hov, qF, c9 (cs := mE) W.aGx (fun j v hj => by rw [add_eq, aM o3, Nat.zero_add]; exact hj)]
 exact h _ f11.fr
theorem aBU {n c j : Nat} (hc : c < n) (hj : j < 11) : (iF (.agg #[.int .i64 0, .int .i64 0, .int .i64 0, .int .i64 0, .int .i64 0, .int .i64 0, .int .i64 0, .int .i64 0, .int .i64 0, .int .i64 0, .bool false]) n)[11 * c + j]? = [Value.int .i64 0, .int .i64 0, .int .i64 0, .int .i64 0, .int .i64 0, .int .i64 0, .int .i64 0, .int .i64 0, .int .i64 0, .int .i64 0, .bool false][j]? := by
 have hlt : 11 * c + j < n * 11 := by omega
 have hm : (11 * c + j) % 11 = j := by omega
 simp only [iF, Builtin.zeroCells, Value.cells]
 rw [Array.getElem?_toList, Array.getElem?_map]
 rw [Array.getElem?_eq_getElem (by simpa using hlt)]
 simp only [Array.getElem_range, Option.map_some]
 rw [show (#[Value.int .i64 0, .int .i64 0, .int .i64 0, .int .i64 0, .int .i64 0, .int .i64 0, .int .i64 0, .int .i64 0, .int .i64 0, .int .i64 0, .bool false] : Array Value).size = 11 from rfl, hm]
 match j, hj with
 | 0, _ | 1, _ | 2, _ | 3, _ | 4, _ | 5, _ | 6, _ | 7, _ | 8, _ | 9, _ | 10, _ => rfl
theorem zS (h : ∀ b, M b = none → w0.heap.size ≤ b → R (.pointer (some ⟨b, 0, none⟩)) (M.set b (.row (gU 0 0 0) 163))) : C PP w0 Id.kV #[] R M := by
 apply kV.go
 unfold kV.T aJ
 simp only [go_sem]
 exact h
theorem aJX {cells : Int} (h : ∀ M' a, aA w0 M M' (aE a (AS.new (if (if 65536 < cells then 65536 else cells) > 0 then (if 65536 < cells then 65536 else cells) else 0).toNat)) → R (.pointer (some ⟨a, 0, none⟩)) M') : C PP w0 Id.j7 #[.int .i64 cells] R M := by
 apply j7.go
 unfold j7.T aJ
 obtain ⟨n, hn, hle⟩ : ∃ n : Nat, (if (if 65536 < cells then 65536 else cells) > 0 then (if 65536 < cells then 65536 else cells) else 0) = (n : Int) ∧ n ≤ 65536 := by
  refine ⟨(if (if 65536 < cells then 65536 else cells) > 0 then (if 65536 < cells then 65536 else cells) else 0).toNat, ?_, ?_⟩
  ·split
   ·omega
   ·omega
  ·split
   ·split <;> omega
   ·omega
 rw [hn] at h ⊢
 simp only [Int.toNat_natCast] at h
 obtain ⟨i, hi, hz, h1, h2, h3, h4⟩ := W.aLS
 have hcells : jH (iF (.agg #[.int .i64 0, .int .i64 0, .int .i64 0, .int .i64 0, .int .i64 0, .int .i64 0, .int .i64 0, .int .i64 0, .int .i64 0, .int .i64 0, .bool false]) n) (AS.new n) := by
  refine ⟨by rw [oD]; show n * 11 = 11 * n; omega, fun c f hc hf => ?_, fun c hc => ?_⟩
  ·rw [aBU (n := n) (j := f) hc (by omega)]
   match f, hf with
   | 0, _ | 1, _ | 2, _ | 3, _ | 4, _ | 5, _ | 6, _ | 7, _ | 8, _ | 9, _ => rfl
  ·rw [aBU (n := n) (j := 10) hc (by omega)]; rfl
 have fin : ∀ (bL bM : Nat) (M1 : Mem), Fit w0 M M1 [(bL, iF (.agg #[.int .i64 0, .int .i64 0, .int .i64 0, .int .i64 0, .int .i64 0, .int .i64 0, .int .i64 0, .int .i64 0, .int .i64 0, .int .i64 0, .bool false]) n, 251), (bM, gU 0 0 0, 163)] →
   ∀ b, M1 b = none → w0.heap.size ≤ b → R (.pointer (some ⟨b, 0, none⟩)) (M1.set b (.row (arR bL n 0 ⟨none, 0, 0⟩ bM) 145)) := by
  intro bL bM M1 hf b hb hw
  refine h _ b ⟨_, ⟨AS.aEH hle, bL, bM, ⟨none, 0, 0⟩, _, [], rfl, hcells, oZ.nil⟩, ?_⟩
  exact hf.new hb hw
 have hmks : ∀ (M1 : Mem) (K : VP), (∀ b, M1 b = none → w0.heap.size ≤ b → K (.slice (some ⟨b, 0, none⟩) n n) (M1.set b (.row (iF (.agg #[.int .i64 0, .int .i64 0, .int .i64 0, .int .i64 0, .int .i64 0, .int .i64 0, .int .i64 0, .int .i64 0, .int .i64 0, .int .i64 0, .bool false]) n) 251))) →
   (aH PP w0).mks 143 (.int .i64 (n : Int)) (.int .i64 (n : Int)) K M1 := by
  intro M1 K hK
  refine aKD Tryz.underlying143 hi hz (by rw [h1]; exact h2) (Nat.le_refl _) ?_ (by omega) hK
  exact Nat.le_trans (Nat.mul_le_mul h4 hle) (by decide)
 constructor
 ·refine hmks M _ fun b hb hw => ?_
  simp only [go_sem]
  refine zS fun b2 hb2 hw2 => ?_
  simp only [go_sem]
  have f1 := ((Fit.nil (w0 := w0) (Mem.le_refl M)).new hb hw (cs := iF (.agg #[.int .i64 0, .int .i64 0, .int .i64 0, .int .i64 0, .int .i64 0, .int .i64 0, .int .i64 0, .int .i64 0, .int .i64 0, .int .i64 0, .bool false]) n) (e := 251)).new hb2 hw2 (cs := gU 0 0 0) (e := 163)
  exact fin b b2 _ (f1.perm (List.Perm.swap _ _ _))
 ·refine zS fun b2 hb2 hw2 => ?_
  simp only [go_sem]
  refine hmks _ _ fun b hb hw => ?_
  simp only [go_sem]
  have f1 := ((Fit.nil (w0 := w0) (Mem.le_refl M)).new hb2 hw2 (cs := gU 0 0 0) (e := 163)).new hb hw (cs := iF (.agg #[.int .i64 0, .int .i64 0, .int .i64 0, .int .i64 0, .int .i64 0, .int .i64 0, .int .i64 0, .int .i64 0, .int .i64 0, .int .i64 0, .bool false]) n) (e := 251)
  exact fin b b2 _ f1
theorem y3 (l : List Nat) : (mZ l).length = l.length := by simp [mZ]
theorem aBu (l : List Nat) : mZ l = (l.map fun (c : Nat) => (c : Int)).map (Value.int .i64) := by simp [mZ]
theorem aGp {l : List Nat} {j c : Nat} (h : l[j]? = some c) : (mZ l)[j]? = some (.int .i64 (c : Int)) := by simp [mZ, h]
theorem aEM {a : Nat} {α : AS} (hA : aA w0 F M (aE a α)) (h : ∀ M', aA w0 F M' (aE a α.take.tick) → R (.tuple #[.int .i64 α.uP, .bool α.next.isSome]) M') : C PP w0 Id.gC #[.pointer (some ⟨a, 0, none⟩)] R M := by
 have hInv := hA.inv
 obtain ⟨bL', bM', sf', cs', hs, hs1, hA1⟩ := hA.aCG
 apply gC.go
 intro aB H
 unfold gC.T aJ
 simp only [go_sem, add_eq, Nat.zero_add, hs.r3]
 refine aAb hs.m hs.inv.steps.2 aB0 (by omega) ?_
 obtain ⟨r, ⟨hi, bL, bM, sf, cs, rf, rfl, hc, hsl⟩, hf⟩ := hA1
 clear hs1 hs
 generalize M.set bM' (.row (gU (jW α.steps 1) α.begun α.most) 163) = M1 at hf ⊢
 change Fit w0 F M1 ((a, arR bL α.n α.never sf bM, 145) :: (bL, cs, 251) :: (bM, gU (jW α.steps 1) α.begun α.most, 163) :: rf) at hf
 change oZ sf (mZ α.free) rf at hsl
 have lay : ∀ (c : Nat) (M2 : Mem) (never : Nat) (sf : SV) (free : List Nat) (rf : Rws), c < α.n → α.next = some c → α.take.tick.never = never → α.take.tick.free = free →
   Fit w0 F M2 ((a, arR bL α.n never sf bM, 145) :: (bL, cs, 251) :: (bM, gU (jW α.steps 1) α.begun α.most, 163) :: rf) → oZ sf (mZ free) rf → gC.J1 aB (some ⟨a, 0, none⟩) (c : Int) M2 := by
  intro c M2 never sf free rf hcn hnx hnv hfr hf2 hsl2
  refine Eq.mpr (H.J1 ..) ?_
  unfold gC.J1.T aJ
  have e0 : rd w0 M2 ⟨a, 0, none⟩ = some (.slice (some ⟨bL, 0, none⟩) α.n α.n) := by rw [aM (hf2.own List.mem_cons_self)]; rfl
  simp only [go_sem, e0]
  refine aGK fun M3 l3 => ?_
  have hf3 := hf2.le l3
  have e3 : rd w0 M3 ⟨a, 0, none⟩ = some (.slice (some ⟨bL, 0, none⟩) α.n α.n) := by rw [aM (hf3.own List.mem_cons_self)]; rfl
  simp only [mE, go_sem, e3, add_eq, Nat.zero_add, Int.toNat_natCast]
  refine ⟨⟨by omega, by omega⟩, rfl, ?_⟩
  refine gZ (vs := mE) W.aGx (hf3.own (List.mem_cons_of_mem _ List.mem_cons_self)) (by rw [hc.len]; show c * 11 + 11 ≤ 11 * α.n; omega) (by decide) ?_
  have hni : α.uP = (c : Int) := by unfold AS.uP; rw [hnx]
  have hh := h (M3.set bL (.row (eH cs (c * 11) mE) 251))
  rw [hni, hnx] at hh
  refine hh ⟨_, ⟨AS.pV (AS.aDg hInv), bL, bM, sf, eH cs (11 * c) mE, rf, rfl, ?_, by rw [hfr]; exact hsl2⟩, ?_⟩
  ·have h5 := (AS.kS hInv hnx).2.2
   refine (jH.lay (α := α) ⟨hc.len, hc.f, hc.t⟩ hcn (α' := α.take) ?_ ?_ ?_).tick
   ·rw [h5]; rfl
   ·rw [h5]
   ·rw [h5]
  ·have h5 := (AS.kS hInv hnx).2.2
   have en : α.take.tick.n = α.n := by show α.take.n = α.n; rw [h5]; rfl
   have es : α.take.tick.steps = jW α.steps 1 := by show jW α.take.steps 1 = _; rw [h5]; rfl
   have eb : α.take.tick.begun = α.begun := by show α.take.begun = _; rw [h5]; rfl
   have em : α.take.tick.most = α.most := by show α.take.most = _; rw [h5]; rfl
   rw [en, es, eb, em, hnv, Nat.mul_comm c 11]
   exact ((hf3.perm (List.perm_middle (l₁ := [_]))).upd).perm (List.perm_middle (l₁ := [_])).symm
 have e1 : rd w0 M1 ⟨a, 1, none⟩ = some (.int .i64 (α.never : Int)) := by rw [aM (hf.own List.mem_cons_self)]; rfl
 have e2 : rd w0 M1 ⟨a, 2, none⟩ = some sf.v := by rw [aM (hf.own List.mem_cons_self)]; rfl
 have e0 : rd w0 M1 ⟨a, 0, none⟩ = some (.slice (some ⟨bL, 0, none⟩) α.n α.n) := by rw [aM (hf.own List.mem_cons_self)]; rfl
 have hlen : sf.n = α.free.length := by rw [hsl.len]; exact y3 _
 have hInvl := hInv.len
 have hInvn := hInv.never
 have hInvm := hInv.n
 simp only [go_sem, add_eq, Nat.zero_add, e1, e2, e0, eO]
 split
 ·rename_i hge
  rw [bC (by omega)] at hge
  have hlast : ∃ c, α.free.getLast? = some c := by
   cases hx : α.free.getLast? with
   | some c => exact ⟨c, rfl⟩
   | none => have := List.getLast?_eq_none_iff.1 hx; rw [this] at hlen; simp at hlen; omega
  obtain ⟨c, hlast⟩ := hlast
  have hidx : α.free[α.free.length - 1]? = some c := by rw [← List.getLast?_eq_getElem?]; exact hlast
  have hsplit : α.free = α.free.dropLast ++ [c] := by
   obtain ⟨l, e⟩ := List.getLast?_eq_some_iff.1 hlast
   rw [e]; simp
  have hnx : α.next = some c := by unfold AS.next; rw [hlast]
  have htake : α.take = { α.lay c with free := α.free.dropLast } := by unfold AS.take; rw [hlast]
  have hcn := (AS.kS hInv hnx).1
  have hpos : 0 < α.free.length := by omega
  clear hge
  rcases hsl with ⟨rfl, h0, _⟩ | ⟨bF, rest, e, rfl, rfl⟩
  ·simp only at hlen; omega
  ·have hoF := hf.own (b := bF) (cs := mZ α.free ++ rest) (e := e) (by simp)
   have eF : rd w0 M1 ⟨bF, α.free.length - 1, none⟩ = some (.int .i64 (c : Int)) := by
    rw [aM hoF, List.getElem?_append_left (by rw [y3]; omega)]
    exact aGp hidx
   simp only [y3] at hlen ⊢
   have ew : p4 ((α.free.length : Int) - 1) = ((α.free.length - 1 : Nat) : Int) := by rw [bC (by omega)]; omega
   simp only [aX, ew, Int.toNat_natCast, Nat.mul_one, add_eq, Nat.zero_add, eF, aC, aL]
   refine ⟨⟨by omega, by omega⟩, ⟨by omega, by omega, by omega⟩, ?_⟩
   refine gF W.c53 (hf.own List.mem_cons_self) (by simp) rfl rfl ?_
   rw [if_neg (by show ¬ (α.free.length + rest.length = 0); omega)]
   have hsub : mZ α.free ++ rest = mZ α.free.dropLast ++ (.int .i64 (c : Int) :: rest) := by
    conv => lhs; rw [hsplit]
    simp [mZ]
   have hdl : α.free.length = α.free.dropLast.length + 1 := by
    conv => lhs; rw [hsplit]
    simp
   refine lay c _ α.never ⟨some ⟨bF, 0, none⟩, α.free.dropLast.length, α.free.dropLast.length + (.int .i64 (c : Int) :: rest).length⟩ α.free.dropLast [(bF, mZ α.free ++ rest, e)] hcn hnx ?_ ?_ ?_ ?_
   ·show α.take.never = _; rw [htake]; rfl
   ·show α.take.free = _; rw [htake]
   ·have hrow : (arR bL α.n α.never ⟨some ⟨bF, 0, none⟩, (mZ α.free).length, (mZ α.free).length + rest.length⟩ bM).set 2 (.slice (Option.map (fun (x : Addr) => x.add ((0 : Int).toNat * 1)) (some ⟨bF, 0, none⟩)) (α.free.length - 1 - (0 : Int).toNat) (α.free.length + rest.length - (0 : Int).toNat)) =
      arR bL α.n α.never ⟨some ⟨bF, 0, none⟩, α.free.dropLast.length, α.free.dropLast.length + (Value.int .i64 (c : Int) :: rest).length⟩ bM := by
     have g1 : α.free.length - 1 - (0 : Int).toNat = α.free.dropLast.length := by simp
     have g2 : α.free.length + rest.length - (0 : Int).toNat = α.free.dropLast.length + (Value.int .i64 (c : Int) :: rest).length := by
      rw [List.length_cons, hdl]; simp; omega
     rw [g1, g2]; rfl
    have := hf.upd (cs' := (arR bL α.n α.never ⟨some ⟨bF, 0, none⟩, (mZ α.free).length, (mZ α.free).length + rest.length⟩ bM).set 2 (.slice (Option.map (fun (x : Addr) => x.add ((0 : Int).toNat * 1)) (some ⟨bF, 0, none⟩)) (α.free.length - 1 - (0 : Int).toNat) (α.free.length + rest.length - (0 : Int).toNat))) (e' := 145)
    rw [← hrow]
    exact this
   ·refine .inr ⟨bF, .int .i64 (c : Int) :: rest, e, by simp [mZ], by rw [hsub]⟩
 ·rename_i hge
  rw [bC (by omega)] at hge
  have hfree : α.free = [] := List.eq_nil_of_length_eq_zero (by omega)
  have hlast : α.free.getLast? = none := by rw [hfree]; rfl
  split
  ·rename_i hfull
   change (α.never : Int) ≥ (α.n : Int) at hfull
   have hnx : α.next = none := by unfold AS.next; rw [hlast]; simp only; rw [if_neg (by omega)]
   have htake := (AS.v9 hnx).1
   have hh := h M1
   unfold AS.uP at hh
   rw [hnx, htake] at hh
   exact hh ⟨_, ⟨hi, bL, bM, sf, cs, rf, rfl, hc, hsl⟩, hf⟩
  ·rename_i hfull
   change ¬ (α.never : Int) ≥ (α.n : Int) at hfull
   have hlt : α.never < α.n := by omega
   have hnx : α.next = some α.never := by unfold AS.next; rw [hlast]; simp only; rw [if_pos hlt]
   have htake : α.take = { α.lay α.never with never := α.never + 1 } := by unfold AS.take; rw [hlast]; simp only; rw [if_pos hlt]
   refine gF W.c3 (hf.own List.mem_cons_self) (by simp) rfl rfl ?_
   rw [bC (by omega)]
   refine lay α.never _ (α.never + 1) sf α.free rf hlt hnx ?_ ?_ hf.upd hsl
   ·show α.take.never = _; rw [htake]
   ·show α.take.free = _; rw [htake]; rfl
theorem aEV {a : Nat} {α : AS} (hA : aA w0 F M (aE a α)) {c : Int} (h : ∀ M', aA w0 F M' (aE a (α.vD c).tick) → R (.bool (α.nJ c)) M') : C PP w0 Id.oP #[.pointer (some ⟨a, 0, none⟩), .int .i64 c] R M := by
 have hInv := hA.inv
 obtain ⟨bL', bM', sf', cs', hs, hs1, hA1⟩ := hA.aCG
 apply oP.go
 unfold oP.T aJ
 simp only [go_sem, add_eq, Nat.zero_add, hs.r3]
 refine aAb hs.m hs.inv.steps.2 aB0 (by omega) ?_
 clear hs
 generalize M.set bM' (.row (gU (jW α.steps 1) α.begun α.most) 163) = M1 at hA1 hs1 ⊢
 refine aAw hs1 ?_
 simp only [go_sem, vH]
 rw [aHi]
 refine ⟨fun h1 => ?_, fun h1 => ?_⟩
 ·change α.nJ c = true at h1
  unfold AS.vD at h
  rw [if_pos h1, h1] at h
  obtain ⟨h5, h6, h7⟩ := AS.aA7 hInv h1
  obtain ⟨c, rfl⟩ : ∃ k : Nat, c = (k : Int) := ⟨c.toNat, by omega⟩
  simp only [Int.toNat_natCast] at h6 h7 h
  have hn := hInv.never
  have hnn := hInv.n
  have hInvl := hInv.len
  have hcn : c < α.n := by omega
  obtain ⟨r, ⟨hi, bL, bM, sf, cs, rf, rfl, hc, hsl⟩, hf⟩ := hA1
  change Fit w0 F M1 ((a, arR bL α.n α.never sf bM, 145) :: (bL, cs, 251) :: (bM, gU (jW α.steps 1) α.begun α.most, 163) :: rf) at hf
  change oZ sf (mZ α.free) rf at hsl
  have e0 : rd w0 M1 ⟨a, 0, none⟩ = some (.slice (some ⟨bL, 0, none⟩) α.n α.n) := by rw [aM (hf.own List.mem_cons_self)]; rfl
  simp only [e0, aC, rF, aX, add_eq, Nat.zero_add, Int.toNat_natCast]
  refine ⟨⟨by omega, by omega⟩, ?_⟩
  refine gF W.c4 (hf.own (List.mem_cons_of_mem _ List.mem_cons_self)) (by rw [hc.len]; show c * 11 + 10 < 11 * α.n; omega) rfl rfl ?_
  have hf2 := ((hf.perm (List.perm_middle (l₁ := [_]))).upd (cs' := cs.set (c * 11 + 10) (.bool false)) (e' := 251)).perm (List.perm_middle (l₁ := [_])).symm
  generalize M1.set bL (.row (cs.set (c * 11 + 10) (.bool false)) 251) = M2 at hf2 ⊢
  have e2 : rd w0 M2 ⟨a, 2, none⟩ = some sf.v := by rw [aM (hf2.own List.mem_cons_self)]; rfl
  simp only [e2, aC, aR]
  have hf3 : Fit w0 F M2 (rf ++ [(a, arR bL α.n α.never sf bM, 145), (bL, cs.set (c * 11 + 10) (.bool false), 251), (bM, gU (jW α.steps 1) α.begun α.most, 163)]) := hf2.perm (List.perm_append_comm (l₁ := [_, _, _]))
  have hsl3 := hsl.sl hf3
  have hq := hf3.perm List.perm_append_comm |>.drop
  have hle := hf3.aside.1.fr
  rw [aBu] at hsl3
  refine aG3 (cells := #[.int .i64 (c : Int)]) hle Tryz.underlying53 W.e3 (n := 1) (by decide) (by kernel_rfl) rfl fun M3 o h3 h4 h9 => ?_
  simp only [go_sem]
  refine aEO (m := [(c : Int)]) Tryz.underlying53 W.e3 h3 (hsl3.le h4) h9 (by simp; omega) fun M4 o2 h10 h11 => ?_
  simp only [go_sem]
  rw [show (α.free.map fun (c : Nat) => (c : Int)) ++ [(c : Int)] = ((α.free ++ [c]).map fun (c : Nat) => (c : Int)) from by simp, ← aBu] at h11
  obtain ⟨rf', hsl', hf'⟩ := Sl.fit h11 hq h10
  have hf5 := hf'.perm (List.perm_append_comm (l₂ := [_, _, _]))
  refine gF W.c53 (hf5.own List.mem_cons_self) (by simp) rfl rfl ?_
  refine h _ ⟨_, ⟨AS.pV (AS.aAJ hInv h7), bL, bM, o2, cs.set (11 * c + 10) (.bool false), rf', rfl, (jH.mark (α := α) ⟨hc.len, hc.f, hc.t⟩ hcn).tick, hsl'⟩, ?_⟩
  rw [Nat.mul_comm 11 c]
  exact hf5.upd
 ·change α.nJ c = false at h1
  unfold AS.vD at h
  rw [h1] at h
  exact h _ hA1
end
end HL
namespace HL
theorem mR : ∀ (n : Nat) (l : List Nat), l.Nodup → (∀ x ∈ l, x < n) → l.length ≤ n := by
 intro n
 induction n with
 | zero =>
  intro l _ h
  cases l with
  | nil => exact Nat.le_refl _
  | cons x r => have := h x List.mem_cons_self; omega
 | succ n ih =>
  intro l hn h
  by_cases hm : n ∈ l
  ·have h1 := ih (l.erase n) (hn.erase n) (fun x hx => by
    have h2 := (hn.mem_erase_iff).1 hx
    have := h x h2.2; omega)
   rw [List.length_erase_of_mem hm] at h1; omega
  ·have := ih l hn (fun x hx => by
    have h1 := h x hx
    have h2 : x ≠ n := fun e => hm (e ▸ hx)
    omega)
   omega
namespace AS
def Nx (α : AS) (x y : Nat) : Prop := α.get x 3 = (y : Int) ∧ α.get y 2 = (x : Int)
def seg (α : AS) : List Nat → Prop
 | [] => True
 | [_] => True
 | x :: y :: r => α.Nx x y ∧ seg α (y :: r)
structure Ring (α : AS) (c : Nat) (r : List Nat) : Prop where
 nd : (c :: r).Nodup
 live : ∀ x ∈ c :: r, α.live x = true
 seg : α.seg (c :: r)
 back : α.Nx (r.getLastD c) c
theorem aBw {α β : AS} : ∀ (l : List Nat), (∀ x ∈ l, β.get x 3 = α.get x 3) → (∀ x ∈ l, β.get x 2 = α.get x 2) → α.seg l → β.seg l
 | [], _, _, _ => trivial
 | [_], _, _, _ => trivial
 | x :: y :: r, h1, h2, h => by
  refine ⟨⟨?_, ?_⟩, aBw (y :: r) (fun z hz => h1 z (List.mem_cons_of_mem _ hz)) (fun z hz => h2 z (List.mem_cons_of_mem _ hz)) h.2⟩
  ·rw [h1 x (by simp)]; exact h.1.1
  ·rw [h2 y (by simp)]; exact h.1.2
theorem tF (c : Nat) : ∀ (r : List Nat), r.getLastD c ∈ c :: r := by
 intro r
 induction r generalizing c with
 | nil => simp
 | cons x r ih => rw [List.getLastD_cons]; exact List.mem_cons_of_mem _ (ih x)
theorem Ring.congr {α β : AS} {c : Nat} {r : List Nat} (h : α.Ring c r) (h3 : ∀ x ∈ c :: r, β.get x 3 = α.get x 3) (h2 : ∀ x ∈ c :: r, β.get x 2 = α.get x 2) (hl : ∀ x ∈ c :: r, β.live x = α.live x) : β.Ring c r :=
 ⟨h.nd, fun x hx => by rw [hl x hx]; exact h.live x hx, aBw _ h3 h2 h.seg, by
  refine ⟨?_, ?_⟩
  ·rw [h3 _ (tF c r)]; exact h.back.1
  ·rw [h2 c List.mem_cons_self]; exact h.back.2⟩
def link (α : AS) (c d : Nat) : AS := (α.put c 3 d).put d 2 c
end AS
end HL
namespace HL
namespace AS
structure Sm (k : Int) (α β : AS) : Prop where
 n : β.n = α.n
 get : β.get = α.get
 live : β.live = α.live
 never : β.never = α.never
 free : β.free = α.free
 steps : 0 ≤ α.steps ∧ α.steps ≤ 9223372036854775807 → β.steps ≤ 9223372036854775807 ∧ α.steps ≤ β.steps ∧ β.steps ≤ α.steps + k
theorem Sm.refl {α : AS} : Sm 0 α α := ⟨rfl, rfl, rfl, rfl, rfl, fun h => ⟨h.2, by omega, by omega⟩⟩
theorem Sm.trans {j k : Int} {α β γ : AS} (h : Sm j α β) (h2 : Sm k β γ) : Sm (j + k) α γ :=
 ⟨h2.n.trans h.n, h2.get.trans h.get, h2.live.trans h.live, h2.never.trans h.never, h2.free.trans h.free, fun h0 => by have h1 := h.steps h0; have h3 := h2.steps ⟨by omega, h1.1⟩; omega⟩
theorem Sm.mono {j k : Int} {α β : AS} (h : Sm j α β) (hk : j ≤ k) : Sm k α β := ⟨h.n, h.get, h.live, h.never, h.free, fun h0 => by have := h.steps h0; omega⟩
theorem aN {α : AS} : Sm 1 α α.tick := ⟨rfl, rfl, rfl, rfl, rfl, fun h0 => by
 show jW α.steps 1 ≤ 9223372036854775807 ∧ α.steps ≤ jW α.steps 1 ∧ jW α.steps 1 ≤ _
 unfold jW; split
 ·omega
 ·split <;> omega⟩
theorem Sm.put {k : Int} {α β : AS} (h : Sm k α β) (c f : Nat) (v : Int) : Sm k (α.put c f v) (β.put c f v) :=
 ⟨h.n, by show (fun c' f' => if c' = c ∧ f' = f then v else β.get c' f') = _; rw [h.get]; rfl, h.live, h.never, h.free, h.steps⟩
theorem aBF {α : AS} {c f : Nat} (h : α.live c = true) (hf : f < 10) : α.wR (c : Int) (f : Int) = true := by
 unfold wR nJ
 rw [Int.toNat_natCast, h, decide_eq_true (by omega), decide_eq_true (by omega), decide_eq_true (by omega)]; rfl
theorem cL {α : AS} {c f : Nat} (h : α.live c = true) (hf : f < 10) (v : Int) : α.lP (c : Int) (f : Int) v = α.put c f v := by
 unfold lP
 rw [if_pos (aBF h hf), Int.toNat_natCast, Int.toNat_natCast]
theorem iM {α : AS} {c f : Nat} (h : α.live c = true) (hf : f < 10) : α.jK (c : Int) (f : Int) = α.get c f := by
 unfold jK
 rw [if_pos (aBF h hf), Int.toNat_natCast, Int.toNat_natCast]
theorem dB {α : AS} {c f y : Nat} (h : α.live c = true) (hf : f < 10) (hv : α.get c f = (y : Int)) (hy : y < α.n) : α.fH (c : Int) (f : Int) = (y : Int) := by
 unfold fH
 rw [iM h hf, hv, if_neg (by omega)]
theorem sS {α : AS} {c : Nat} : α.nJ (c : Int) = α.live c := by
 unfold nJ
 rw [Int.toNat_natCast, decide_eq_true (by omega)]; rfl
theorem cE {α : AS} (h : α.Inv) {c : Nat} (hc : α.live c = true) : c < α.n := by
 have := aAF h hc
 have := h.never; omega
end AS
section
variable {w0 : World} {M F : Mem} {R : VP}
theorem aA.sl {s : SV} {l : List Value} {Q : cY} (h : aA w0 F M (star (oZ s l) Q)) : ∃ F', Sl w0 F' M s l ∧ Mem.le F' M ∧ ∀ M' s' l', Sl w0 F' M' s' l' → Mem.le F' M' → aA w0 F M' (star (oZ s' l') Q) := by
 obtain ⟨r, ⟨r1, r2, rfl, h1, h2⟩, h3⟩ := h
 refine ⟨ext F r2, h1.sl h3, h3.aside.1.fr, fun M' s' l' hs hl => ?_⟩
 obtain ⟨r', h4, h5⟩ := Sl.fit hs ((h3.perm List.perm_append_comm).drop) hl
 exact ⟨_, ⟨r', r2, rfl, h4, h2⟩, h5⟩
theorem aA.aLp {P : cY} {M' : Mem} {s : SV} {l : List Value} (h : aA w0 F M P) (hl : Mem.le M M') (hs : Sl w0 M M' s l) : aA w0 F M' (star (oZ s l) P) := by
 refine h.beside ?_
 rcases hs with ⟨rfl, rfl⟩ | ⟨b, rest, e, rfl, h1, h2⟩
 ·exact ⟨[], .inl ⟨rfl, rfl, rfl⟩, Fit.nil hl⟩
 ·refine ⟨[(b, l ++ rest, e)], .inr ⟨b, rest, e, rfl, rfl⟩, ⟨by simp, fun x hx => ?_, hl⟩⟩
  simp at hx; subst hx
  exact ⟨h2.1, h1, h2.2⟩
theorem aA.rdI {Q : cY} {s : SV} {l : List Int} (h : aA w0 F M (star (oZ s (l.map (Value.int .i64))) Q)) (hw : ∀ n ∈ l, (Lit.int .i64 n).wf = true) (hm : l.length ≤ 1000000) : pW w0 M .i64 s l := by
 obtain ⟨F', h1, _⟩ := h.sl
 exact h1.rdI hw (by omega)
theorem aA.aEI {P : cY} (h : aA w0 F M P) : aA w0 F M (star (oZ ⟨none, 0, 0⟩ []) P) := by
 obtain ⟨r, h1, h2⟩ := h
 exact ⟨r, ⟨[], r, rfl, oZ.nil, h1⟩, h2⟩
theorem yL {Q : cY} {K : SV → Mem → Prop} {s : SV} {l : List Int} {x : Int} (hH : aA w0 F M (star (oZ s (l.map (Value.int .i64))) Q)) (hb : l.length ≤ 1000000) (h : ∀ M' s', aA w0 F M' (star (oZ s' ((l ++ [x]).map (Value.int .i64))) Q) → K s' M') :
  (aH PP w0).bsl 53 1 [(0, .int .i64 x)] (fun v M1 => shS v fun s1 => (aH PP w0).app #[53, 53] 53 [SV.v s, SV.v s1] (fun v2 M2 => shS v2 fun s2 => K s2 M2) M1) M := by
 obtain ⟨F', h1, h2, h3⟩ := hH.sl
 refine aAE (k := .i64) (l := [x]) h2 Tryz.underlying53 W.e3 (n := 1) (by decide) (by kernel_rfl) rfl fun M1 o l1 l2 h4 => ?_
 simp only [go_sem]
 refine aEO Tryz.underlying53 W.e3 l1 (h1.le l2) h4 (by simp; omega) fun M2 o2 l3 h5 => ?_
 simp only [go_sem]
 exact h M2 o2 (h3 M2 o2 _ h5 l3)
def aS (l : List Nat) : List Int := l.map fun (c : Nat) => (c : Int)
end
end HL
end Go.Proofs.YtodobkbnmjgkdaaGreat
