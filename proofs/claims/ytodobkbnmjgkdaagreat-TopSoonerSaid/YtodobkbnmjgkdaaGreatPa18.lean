import Derived.Test.YtodobkbnmjgkdaaGreatPa17
set_option linter.unusedVariables false
set_option linter.unusedSimpArgs false
namespace Go.Proofs.YtodobkbnmjgkdaaGreat.HL
structure Pl where
 most : Int
 gens : List Int
 ins : List Bool
 vs : List Int
 back : List Nat
def Pl.at_ (p : Pl) : Option Nat := match p.back.getLast? with
 | some a => some a
 | none => if p.most ≤ (p.gens.length : Int) then none else some p.gens.length
def Pl.grow (p : Pl) : Pl := match p.back.getLast? with
 | some _ => { p with back := p.back.dropLast }
 | none => { p with gens := p.gens ++ [0], ins := p.ins ++ [false], vs := p.vs ++ [0] }
def Pl.put (p : Pl) (a : Nat) (v : Int) : Pl := { p with gens := p.gens.set a (p.gens.getD a 0 + 1), ins := p.ins.set a true, vs := p.vs.set a v }
def Pl.take (p : Pl) (a : Nat) (v : Int) : Pl := p.grow.put a v
def Pl.gen (p : Pl) (a : Nat) : Int := p.grow.gens.getD a 0 + 1
def Pl.look (p : Pl) (a g : Int) : Int :=
 if a < 0 ∨ (p.gens.length : Int) ≤ a ∨ g < 1 ∨ p.gens.getD a.toNat 0 < g then 22
 else if g < p.gens.getD a.toNat 0 ∨ p.ins.getD a.toNat false = false then 23 else 0
def Pl.give (p : Pl) (a : Nat) : Pl := { p with ins := p.ins.set a false, back := p.back ++ [a] }
structure PlOk (p : Pl) : Prop where
 li : p.ins.length = p.gens.length
 lv : p.vs.length = p.gens.length
 bk : ∀ a ∈ p.back, a < p.gens.length ∧ p.ins[a]? = some false
 nd : p.back.Nodup
theorem last_mem {l : List Nat} {a : Nat} (h : l.getLast? = some a) : a ∈ l := List.mem_of_getLast? h
theorem last_split {l : List Nat} {a : Nat} (h : l.getLast? = some a) : l = l.dropLast ++ [a] := by
 obtain ⟨ys, rfl⟩ := List.getLast?_eq_some_iff.1 h
 simp
end Go.Proofs.YtodobkbnmjgkdaaGreat.HL
namespace Go.Proofs.YtodobkbnmjgkdaaGreat.HL
structure Plc (κ : Type) where
 g : Int
 t : Bool
 v : κ
structure PS (κ : Type) where
 most : Int
 l : List (Plc κ)
 free : List Nat
namespace PS
variable {κ : Type}
def pl (p : PS κ) : Pl := ⟨p.most, p.l.map (·.g), p.l.map (·.t), p.l.map (fun _ => 0), p.free⟩
def at_ (p : PS κ) : Option Nat := match p.free.getLast? with
 | some a => some a
 | none => if p.most ≤ (p.l.length : Int) then none else some p.l.length
def grow (p : PS κ) (z : κ) : PS κ := match p.free.getLast? with
 | some _ => { p with free := p.free.dropLast }
 | none => { p with l := p.l ++ [⟨0, false, z⟩] }
def gen (p : PS κ) (a : Nat) : Int := match p.l[a]? with
 | some x => x.g + 1
 | none => 1
def take (p : PS κ) (z : κ) (a : Nat) (v : κ) : PS κ := { p.grow z with l := (p.grow z).l.set a ⟨p.gen a, true, v⟩ }
def find (p : PS κ) (a g : Int) : Option κ := match (if a < 0 then none else p.l[a.toNat]?) with
 | some x => if g = x.g ∧ x.t = true ∧ 1 ≤ g then some x.v else none
 | none => none
def put (p : PS κ) (a : Nat) (v : κ) : PS κ := match p.l[a]? with
 | some x => { p with l := p.l.set a { x with v := v } }
 | none => p
def give (p : PS κ) (z : κ) (a : Nat) : PS κ := match p.l[a]? with
 | some x => { p with l := p.l.set a { x with t := false, v := z }, free := p.free ++ [a] }
 | none => p
theorem pl_at (p : PS κ) : p.pl.at_ = p.at_ := by
 unfold Pl.at_ at_ pl
 simp only [List.length_map]
 all_goals (cases p.free.getLast? <;> rfl)
theorem pl_gen (p : PS κ) {a : Nat} (h : p.at_ = some a) (hf : ∀ a ∈ p.free, a < p.l.length) : p.pl.gen a = p.gen a ∧ a < (p.pl.grow).gens.length := by
 unfold Pl.gen gen Pl.grow pl
 unfold at_ at h
 simp only
 cases hl : p.free.getLast? with
 | some x =>
  rw [hl] at h
  simp only [Option.some.injEq] at h
  subst h
  have hx := hf _ (last_mem hl)
  simp only [List.getD_eq_getElem?_getD, List.getElem?_map, List.getElem?_eq_getElem hx]
  exact ⟨rfl, by simpa using hx⟩
 | none =>
  rw [hl] at h
  simp only at h
  split at h
  ·cases h
  ·cases h
   simp only [List.getD_eq_getElem?_getD]
   rw [List.getElem?_append_right (by simp), List.getElem?_eq_none (Nat.le_refl _)]
   simp
theorem pl_take (p : PS κ) {a : Nat} (z v : κ) (h : p.at_ = some a) (hf : ∀ a ∈ p.free, a < p.l.length) : (p.take z a v).pl = p.pl.take a 0 := by
 obtain ⟨h1, h2⟩ := p.pl_gen h hf
 unfold Pl.gen at h1
 unfold Pl.take Pl.put
 rw [h1]
 unfold take pl Pl.grow grow
 cases hl : p.free.getLast? with
 | some x => simp only [Pl.mk.injEq, List.map_set, true_and, and_true]
 | none => simp only [Pl.mk.injEq, List.map_set, List.map_append, List.map_cons, List.map_nil, true_and, and_true]
theorem pl_put (p : PS κ) (a : Nat) (v : κ) : (p.put a v).pl = p.pl := by
 unfold put
 cases h : p.l[a]? with
 | none => rfl
 | some x =>
  obtain ⟨hl, hx⟩ := List.getElem?_eq_some_iff.1 h
  unfold pl
  simp only [Pl.mk.injEq, List.map_set, true_and, and_true]
  refine ⟨?_, ?_, ?_⟩
  ·rw [← hx]; exact List.ext_getElem (by simp) fun i h1 h2 => by rw [List.getElem_set]; split <;> simp_all
  ·rw [← hx]; exact List.ext_getElem (by simp) fun i h1 h2 => by rw [List.getElem_set]; split <;> simp_all
  ·exact List.ext_getElem (by simp) fun i h1 h2 => by rw [List.getElem_set]; split <;> simp
theorem pl_give (p : PS κ) (z : κ) {a : Nat} (ha : a < p.l.length) : (p.give z a).pl = p.pl.give a := by
 unfold give Pl.give
 rw [List.getElem?_eq_getElem ha]
 unfold pl
 simp only [Pl.mk.injEq, List.map_set, true_and, and_true]
 refine ⟨?_, ?_⟩
 ·exact List.ext_getElem (by simp) fun i h1 h2 => by rw [List.getElem_set]; split <;> simp_all
 ·exact List.ext_getElem (by simp) fun i h1 h2 => by rw [List.getElem_set]; split <;> simp
theorem find_some {p : PS κ} {a g : Int} {v : κ} (h : p.find a g = some v) : ∃ k : Nat, a = (k : Int) ∧ p.l[k]? = some ⟨g, true, v⟩ ∧ 1 ≤ g := by
 unfold find at h
 split at h
 ·rename_i x hx
  split at h
  ·rename_i hc
   cases h
   by_cases ha : a < 0
   ·rw [if_pos ha] at hx; cases hx
   ·rw [if_neg ha] at hx
    refine ⟨a.toNat, by omega, ?_, hc.2.2⟩
    rw [hx]
    obtain ⟨g', t', v'⟩ := x
    obtain ⟨rfl, ht, _⟩ := hc
    simp only at ht
    subst ht; rfl
  ·cases h
 ·cases h
theorem find_of {p : PS κ} {g : Int} {v : κ} {k : Nat} (h : p.l[k]? = some ⟨g, true, v⟩) (hg : 1 ≤ g) : p.find (k : Int) g = some v := by
 unfold find
 rw [if_neg (by omega), Int.toNat_natCast, h]
 simp [hg]
theorem find_look {p : PS κ} {a g : Int} : (p.find a g).isSome = true ↔ p.pl.look a g = 0 := by
 unfold Pl.look pl find
 simp only [List.length_map, List.getD_eq_getElem?_getD, List.getElem?_map]
 by_cases ha : a < 0
 ·rw [if_pos ha, if_pos (.inl ha)]; simp
 ·rw [if_neg ha]
  cases h : p.l[a.toNat]? with
  | none =>
   have := List.getElem?_eq_none_iff.1 h
   rw [if_pos (.inr (.inl (by omega)))]; simp
  | some x =>
   have hl := (List.getElem?_eq_some_iff.1 h).1
   simp only [Option.map_some, Option.getD_some]
   by_cases h1 : g = x.g ∧ x.t = true ∧ 1 ≤ g
   ·obtain ⟨h2, h3, h4⟩ := h1
    rw [if_pos ⟨h2, h3, h4⟩, if_neg (by omega), if_neg (by rintro (h | h); omega; rw [h3] at h; cases h)]
    simp
   ·rw [if_neg h1]
    by_cases h2 : a < 0 ∨ (p.l.length : Int) ≤ a ∨ g < 1 ∨ x.g < g
    ·rw [if_pos h2]; simp
    ·rw [if_neg h2]
     have h3 : g < x.g ∨ x.t = false := by
      cases hx : x.t with
      | false => exact .inr rfl
      | true => exact .inl (by
        have : ¬ g = x.g := fun e => h1 ⟨e, hx, by omega⟩
        omega)
     rw [if_pos h3]; simp
structure Ok (p : PS κ) : Prop where
 nd : p.free.Nodup
 fr : ∀ a ∈ p.free, ∃ x, p.l[a]? = some x ∧ x.t = false
theorem Ok.lt {p : PS κ} (h : p.Ok) : ∀ a ∈ p.free, a < p.l.length := fun a ha => by
 obtain ⟨x, hx, _⟩ := h.fr a ha
 exact (List.getElem?_eq_some_iff.1 hx).1
theorem Ok.nil (m : Int) : Ok (⟨m, [], []⟩ : PS κ) := ⟨List.nodup_nil, fun a ha => (by cases ha)⟩
theorem Ok.at_no {p : PS κ} (h : p.Ok) {a : Nat} (ha : p.at_ = some a) (g : Int) : p.find (a : Int) g = none := by
 unfold at_ at ha
 unfold find
 rw [if_neg (by omega), Int.toNat_natCast]
 cases hl : p.free.getLast? with
 | some x =>
  rw [hl] at ha
  simp only [Option.some.injEq] at ha
  subst ha
  obtain ⟨y, hy, ht⟩ := h.fr _ (last_mem hl)
  rw [hy]
  simp [ht]
 | none =>
  rw [hl] at ha
  simp only at ha
  split at ha
  ·cases ha
  ·cases ha
   rw [List.getElem?_eq_none (Nat.le_refl _)]
theorem take_l {p : PS κ} (h : p.Ok) {a : Nat} (ha : p.at_ = some a) (z v : κ) : (p.take z a v).l[a]? = some ⟨p.gen a, true, v⟩ ∧ (∀ b, b ≠ a → (p.take z a v).l[b]? = p.l[b]?) ∧
  ((p.take z a v).l.length + p.free.length = p.l.length + (p.take z a v).free.length + 1) ∧ (p.take z a v).most = p.most ∧ (p.take z a v).l.length ≤ p.l.length + 1 ∧ (p.l.length ≤ (p.take z a v).l.length) ∧ ((p.l.length : Int) < p.most ∨ (p.take z a v).l.length = p.l.length) := by
 unfold take grow
 unfold at_ at ha
 cases hl : p.free.getLast? with
 | some x =>
  rw [hl] at ha
  simp only [Option.some.injEq] at ha
  subst ha
  have hlt := h.lt _ (last_mem hl)
  have hne : p.free ≠ [] := fun e => by rw [e] at hl; cases hl
  have : 0 < p.free.length := List.length_pos_iff.2 hne
  simp only [List.length_set, List.length_dropLast]
  refine ⟨List.getElem?_set_self hlt, fun b hb => List.getElem?_set_ne (fun e => hb e.symm), by omega, by trivial, by omega, by omega, .inr (by trivial)⟩
 | none =>
  rw [hl] at ha
  have hf : p.free = [] := List.getLast?_eq_none_iff.1 hl
  simp only at ha
  split at ha
  ·cases ha
  ·rename_i hm
   cases ha
   simp only [List.length_set, List.length_append, List.length_singleton]
   refine ⟨List.getElem?_set_self (by simp), fun b hb => ?_, by omega, trivial, by omega, by omega, .inl (by omega)⟩
   rw [List.getElem?_set_ne (fun e => hb e.symm)]
   by_cases hb2 : b < p.l.length
   ·rw [List.getElem?_append_left hb2]
   ·rw [List.getElem?_eq_none (by simp; omega), List.getElem?_eq_none (by omega)]
theorem Ok.take {p : PS κ} (h : p.Ok) {a : Nat} (ha : p.at_ = some a) (z v : κ) : (p.take z a v).Ok := by
 obtain ⟨h1, h2, _⟩ := take_l h ha z v
 have hfree : (p.take z a v).free = p.free.dropLast ∧ a ∉ p.free.dropLast := by
  unfold PS.take grow
  unfold at_ at ha
  cases hl : p.free.getLast? with
  | some x =>
   rw [hl] at ha
   simp only [Option.some.injEq] at ha
   subst ha
   refine ⟨rfl, fun hm => ?_⟩
   have hs := last_split hl
   have hn := h.nd
   rw [hs] at hn
   exact (List.nodup_append.1 hn).2.2 _ hm x (by simp) rfl
  | none =>
   have hf : p.free = [] := List.getLast?_eq_none_iff.1 hl
   simp only [hf]
   exact ⟨rfl, by simp⟩
 refine ⟨by rw [hfree.1]; exact h.nd.sublist (List.dropLast_sublist _), fun b hb => ?_⟩
 rw [hfree.1] at hb
 have hne : b ≠ a := fun e => hfree.2 (e ▸ hb)
 rw [h2 b hne]
 exact h.fr b ((List.dropLast_sublist _).subset hb)
theorem find_take {p : PS κ} (h : p.Ok) {a : Nat} (ha : p.at_ = some a) (z v : κ) (hg : 1 ≤ p.gen a) : (p.take z a v).find (a : Int) (p.gen a) = some v ∧ ∀ b g w, p.find b g = some w → (p.take z a v).find b g = some w := by
 obtain ⟨h1, h2, _⟩ := take_l h ha z v
 refine ⟨find_of h1 hg, fun b g w hw => ?_⟩
 obtain ⟨k, rfl, hk, hg'⟩ := find_some hw
 have hne : k ≠ a := fun e => by
  subst e
  rw [h.at_no ha g] at hw; cases hw
 exact find_of (by rw [h2 k hne]; exact hk) hg'
theorem give_l {p : PS κ} (z : κ) {a : Nat} {x : Plc κ} (hx : p.l[a]? = some x) : (p.give z a).l = p.l.set a { x with t := false, v := z } ∧ (p.give z a).free = p.free ++ [a] ∧ (p.give z a).most = p.most := by
 unfold give
 rw [hx]; exact ⟨rfl, rfl, rfl⟩
theorem Ok.give {p : PS κ} (h : p.Ok) (z : κ) {a : Nat} {x : Plc κ} (hx : p.l[a]? = some x) (ht : x.t = true) : (p.give z a).Ok := by
 obtain ⟨h1, h2, _⟩ := give_l z hx
 have ha : a ∉ p.free := fun hm => by
  obtain ⟨y, hy, hy2⟩ := h.fr a hm
  rw [hx] at hy; cases hy
  rw [ht] at hy2; cases hy2
 have hl := (List.getElem?_eq_some_iff.1 hx).1
 refine ⟨?_, fun b hb => ?_⟩
 ·rw [h2, List.nodup_append]
  exact ⟨h.nd, by simp, fun b hb c hc e => ha (by rw [← List.mem_singleton.1 hc, ← e]; exact hb)⟩
 ·rw [h2] at hb
  rw [h1]
  rcases List.mem_append.1 hb with hb | hb
  ·have hne : a ≠ b := fun e => ha (e ▸ hb)
   rw [List.getElem?_set_ne hne]; exact h.fr b hb
  ·rw [List.mem_singleton.1 hb, List.getElem?_set_self hl]
   exact ⟨_, rfl, rfl⟩
theorem find_give {p : PS κ} (z : κ) {a : Nat} {x : Plc κ} (hx : p.l[a]? = some x) : ∀ b g w, b ≠ (a : Int) → p.find b g = some w → (p.give z a).find b g = some w := by
 intro b g w hb hw
 obtain ⟨h1, h2, _⟩ := give_l z hx
 obtain ⟨k, rfl, hk, hg⟩ := find_some hw
 refine find_of ?_ hg
 rw [h1, List.getElem?_set_ne (by omega)]; exact hk
theorem put_l {p : PS κ} {a : Nat} {x : Plc κ} (v : κ) (hx : p.l[a]? = some x) : (p.put a v).l = p.l.set a { x with v := v } ∧ (p.put a v).free = p.free ∧ (p.put a v).most = p.most := by
 unfold put
 rw [hx]; exact ⟨rfl, rfl, rfl⟩
theorem Ok.put {p : PS κ} (h : p.Ok) (a : Nat) (v : κ) : (p.put a v).Ok := by
 cases hx : p.l[a]? with
 | none =>
  have : p.put a v = p := by unfold PS.put; rw [hx]
  rw [this]; exact h
 | some x =>
  obtain ⟨h1, h2, _⟩ := put_l v hx
  have hl := (List.getElem?_eq_some_iff.1 hx).1
  refine ⟨by rw [h2]; exact h.nd, fun b hb => ?_⟩
  rw [h2] at hb
  rw [h1]
  obtain ⟨y, hy, ht⟩ := h.fr b hb
  by_cases e : a = b
  ·subst e
   rw [hx] at hy; cases hy
   rw [List.getElem?_set_self hl]; exact ⟨_, rfl, ht⟩
  ·rw [List.getElem?_set_ne e]; exact ⟨y, hy, ht⟩
theorem find_put {p : PS κ} {a g : Int} {w : κ} (v : κ) (hw : p.find a g = some w) : (p.put a.toNat v).find a g = some v ∧ ∀ b g' w', b ≠ a → p.find b g' = some w' → (p.put a.toNat v).find b g' = some w' := by
 obtain ⟨k, rfl, hk, hg⟩ := find_some hw
 rw [Int.toNat_natCast]
 obtain ⟨h1, h2, _⟩ := put_l v hk
 have hl := (List.getElem?_eq_some_iff.1 hk).1
 refine ⟨find_of (by rw [h1, List.getElem?_set_self hl]) hg, fun b g' w' hb hw' => ?_⟩
 obtain ⟨k', rfl, hk', hg'⟩ := find_some hw'
 exact find_of (by rw [h1, List.getElem?_set_ne (by omega)]; exact hk') hg'
theorem mem_put {p : PS κ} {a : Nat} {v : κ} {x : Plc κ} (h : x ∈ (p.put a v).l) : ∃ y ∈ p.l, x.g = y.g := by
 cases hx : p.l[a]? with
 | none =>
  have : p.put a v = p := by unfold PS.put; rw [hx]
  rw [this] at h; exact ⟨x, h, rfl⟩
 | some y =>
  rw [(put_l v hx).1] at h
  rcases List.mem_or_eq_of_mem_set h with h | h
  ·exact ⟨x, h, rfl⟩
  ·exact ⟨y, List.mem_of_getElem? hx, by rw [h]⟩
theorem mem_give {p : PS κ} {z : κ} {a : Nat} {x : Plc κ} (h : x ∈ (p.give z a).l) : ∃ y ∈ p.l, x.g = y.g := by
 cases hx : p.l[a]? with
 | none =>
  have : p.give z a = p := by unfold PS.give; rw [hx]
  rw [this] at h; exact ⟨x, h, rfl⟩
 | some y =>
  rw [(give_l z hx).1] at h
  rcases List.mem_or_eq_of_mem_set h with h | h
  ·exact ⟨x, h, rfl⟩
  ·exact ⟨y, List.mem_of_getElem? hx, by rw [h]⟩
theorem gen_le {p : PS κ} {tm : Int} (h : ∀ x ∈ p.l, 0 ≤ x.g ∧ x.g ≤ tm) (h0 : 0 ≤ tm) (a : Nat) : 1 ≤ p.gen a ∧ p.gen a ≤ tm + 1 := by
 unfold gen
 cases hx : p.l[a]? with
 | none => simp only; omega
 | some y =>
  have := h y (List.mem_of_getElem? hx)
  simp only; omega
theorem mem_take {p : PS κ} {z v : κ} {a : Nat} {x : Plc κ} (h : x ∈ (p.take z a v).l) : x ∈ p.l ∨ x.g = p.gen a ∨ x.g = 0 := by
 unfold take at h
 rcases List.mem_or_eq_of_mem_set h with h | h
 ·unfold grow at h
  split at h
  ·exact .inl h
  ·rcases List.mem_append.1 h with h | h
   ·exact .inl h
   ·rw [List.mem_singleton.1 h]; exact .inr (.inr rfl)
 ·rw [h]; exact .inr (.inl rfl)
end PS
end Go.Proofs.YtodobkbnmjgkdaaGreat.HL
set_option maxRecDepth 100000
namespace Go.Proofs.YtodobkbnmjgkdaaGreat.HL
open Go.RowKit (Below)
section
variable {α : Type} {c : α → List Value} {k : Nat}
theorem flat_len (hc : ∀ x, (c x).length = k) : ∀ l : List α, (l.flatMap c).length = l.length * k
 | [] => by simp
 | x :: l => by rw [List.flatMap_cons, List.length_append, hc, flat_len hc l, List.length_cons, Nat.succ_mul]; omega
theorem flat_at (hc : ∀ x, (c x).length = k) : ∀ {l : List α} {i : Nat} {x : α} {f : Nat} {v : Value}, l[i]? = some x → (c x)[f]? = some v → (l.flatMap c)[i * k + f]? = some v
 | [], i, x, f, v, h, _ => by simp at h
 | y :: l, 0, x, f, v, h, hf => by
  simp at h; subst h
  have hlt := (List.getElem?_eq_some_iff.1 hf).1
  rw [List.flatMap_cons, Nat.zero_mul, Nat.zero_add, List.getElem?_append_left hlt]; exact hf
 | y :: l, i + 1, x, f, v, h, hf => by
  rw [List.flatMap_cons, List.getElem?_append_right (by rw [hc, Nat.succ_mul]; omega), hc, show (i + 1) * k + f - k = i * k + f from by rw [Nat.succ_mul]; omega]
  exact flat_at hc (by simpa using h) hf
theorem flat_set (hc : ∀ x, (c x).length = k) : ∀ {l : List α} {i : Nat} {x x' : α} {f : Nat} {v : Value}, l[i]? = some x → f < k → (c x).set f v = c x' → (l.flatMap c).set (i * k + f) v = (l.set i x').flatMap c
 | [], i, x, x', f, v, h, _, _ => by simp at h
 | y :: l, 0, x, x', f, v, h, hk, hf => by
  simp at h; subst h
  rw [List.flatMap_cons, Nat.zero_mul, Nat.zero_add, List.set_append_left _ _ (by rw [hc]; exact hk), hf, List.set_cons_zero, List.flatMap_cons]
 | y :: l, i + 1, x, x', f, v, h, hk, hf => by
  rw [List.flatMap_cons, List.set_append_right _ _ (by rw [hc, Nat.succ_mul]; omega), hc, show (i + 1) * k + f - k = i * k + f from by rw [Nat.succ_mul]; omega, List.set_cons_succ, List.flatMap_cons]
  rw [flat_set hc (by simpa using h) hk hf]
end
section
variable {w0 : World} {F M : Mem} {α : Type} {c : α → List Value} {k : Nat}
theorem Holds.nR (hc : ∀ x, (c x).length = k) (hk : 0 < k) {s : SV} {l : List α} {Q : Asn} (h : Holds w0 F M (star (SlKA k s (l.flatMap c)) Q)) : s.n = l.length := by
 obtain ⟨F', h1, _⟩ := h.slk
 have := h1.len
 rw [flat_len hc] at this
 exact Nat.eq_of_mul_eq_mul_right hk this.symm
theorem Holds.capR (hc : ∀ x, (c x).length = k) (hk : 0 < k) {s : SV} {l : List α} {Q : Asn} (h : Holds w0 F M (star (SlKA k s (l.flatMap c)) Q)) : l.length ≤ s.c := by
 obtain ⟨F', h1, _⟩ := h.slk
 rw [← h.nR hc hk]; exact h1.cap hk
theorem Holds.adR (hc : ∀ x, (c x).length = k) (hk : 0 < k) {s : SV} {l : List α} {Q : Asn} (h : Holds w0 F M (star (SlKA k s (l.flatMap c)) Q)) {i : Nat} {x : α} (hx : l[i]? = some x) :
  ∃ blk, s.a = some ⟨blk, 0, none⟩ ∧ s.n = l.length ∧ i < s.n ∧ ∀ f v, (c x)[f]? = some v → rd w0 M ⟨blk, i * k + f, none⟩ = some v := by
 have hn := h.nR hc hk
 have hi := (List.getElem?_eq_some_iff.1 hx).1
 obtain ⟨b, rest, e, ha, h1, h2, h3⟩ := SlKA.row h (by omega)
 refine ⟨b, ha, hn, by omega, fun f v hf => ?_⟩
 have h4 := flat_at hc hx hf
 rw [rd_own h3.own1, List.getElem?_append_left (List.getElem?_eq_some_iff.1 h4).1]
 exact h4
theorem Holds.stR {P : Program} (hc : ∀ x, (c x).length = k) (hk : 0 < k) {t : TypeId} (ht : cell1 P t = true) {s : SV} {l : List α} {Q : Asn} (h : Holds w0 F M (star (SlKA k s (l.flatMap c)) Q)) {i : Nat} {x x' : α} (hx : l[i]? = some x) {f : Nat} (hf : f < k) {v : Value} (hv : onecell v = true) (hcv : v.cells = #[v]) (he : (c x).set f v = c x')
  {blk : Nat} (ha : s.a = some ⟨blk, 0, none⟩) {K : Mem → Prop} (hK : ∀ M', Holds w0 F M' (star (SlKA k s ((l.set i x').flatMap c)) Q) → K M') : (std P w0).st t ⟨blk, i * k + f, none⟩ v (fun M' => K M') M := by
 have hn := h.nR hc hk
 have hi := (List.getElem?_eq_some_iff.1 hx).1
 have := stK (P := P) ht h (i := (i : Int)) i rfl (by omega) hf hv hcv (K := K) fun M' h' => hK M' (by rw [flat_set hc hx hf he] at h'; exact h')
 rw [ha] at this
 simp only [nc_v, Int.toNat_natCast, add_eq, Nat.zero_add] at this
 exact this.2
end
end Go.Proofs.YtodobkbnmjgkdaaGreat.HL
namespace Go.Proofs.YtodobkbnmjgkdaaGreat.HL
open Go.RowKit (Below)
open Go.Proofs
section
variable {P : Program} {w0 : World} {M F : Mem} {α : Type}
theorem pure_peek {β : Type} {s : Sem β} {a : β} (h : pure? P s = some a) : peek P w0 M s = some a := by
 induction s with
 | pure x => exact h
 | program k ih => exact ih P h
 | _ => simp [pure?] at h
theorem peek_obj {r : Nat} {o : Obj} (hr : w0.heap.size ≤ r) (hm : M r = some (.obj o)) (hp : Obj.plain o = true) : peek P w0 M (getObj r) = some o := by
 have : obj? w0 M r = some o := by
  unfold obj?
  rw [if_neg (by omega), hm]
  simp only [hp, if_true]
 unfold getObj
 simp only [peek, this]
theorem Holds.obj_in {A : Asn} {r : Nat} {o : Obj} (h : Holds w0 F M A) (hm : M r = some (.obj o)) (hf : F r = none) : Holds w0 (F.set r (.obj o)) M A ∧ Mem.le F (F.set r (.obj o)) := by
 obtain ⟨q, h1, h2⟩ := h
 refine ⟨⟨q, h1, h2.nd, fun x hx => ?_, fun y o' hy => ?_⟩, Mem.le_set _ hf⟩
 ·obtain ⟨g1, g2, g3⟩ := h2.at_ x hx
  have hne : x.1 ≠ r := fun e => by rw [e, hm] at g3; cases g3
  exact ⟨g1, by rw [Mem.set_ne _ _ hne]; exact g2, g3⟩
 ·by_cases hy' : y = r
  ·subst hy'
   rw [Mem.set_same] at hy; cases hy; exact hm
  ·rw [Mem.set_ne _ _ hy'] at hy
   exact h2.fr y o' hy
theorem Holds.obj_set {A : Asn} {r : Nat} {o o' : Obj} (h : Holds w0 F M A) (hm : M r = some (.obj o)) (hf : F r = none) : Holds w0 F (M.set r (.obj o')) A := by
 obtain ⟨q, h1, h2⟩ := h
 refine ⟨q, h1, h2.nd, fun x hx => ?_, fun y o2 hy => ?_⟩
 ·obtain ⟨g1, g2, g3⟩ := h2.at_ x hx
  have hne : x.1 ≠ r := fun e => by rw [e, hm] at g3; cases g3
  exact ⟨g1, g2, by rw [Mem.set_ne _ _ hne]; exact g3⟩
 ·have hne : y ≠ r := fun e => by rw [e, hf] at hy; cases hy
  rw [Mem.set_ne _ _ hne]
  exact h2.fr y o2 hy
theorem Holds.obj_new {A : Asn} {r : Nat} {o : Obj} (h : Holds w0 F M A) (hm : M r = none) : Holds w0 F (M.set r (.obj o)) A := h.le (Mem.le_set _ hm)
end
end Go.Proofs.YtodobkbnmjgkdaaGreat.HL
namespace Go.Proofs.YtodobkbnmjgkdaaGreat.HL
open Go.RowKit (Below)
open Go.Proofs
section
variable {w0 : World} {F M : Mem} {R : VP}
theorem Holds.freeze1 {P : Asn} {b : Nat} {cs : List Value} {e : TypeId} (h : Holds w0 F M (star (row1 b cs e) P)) : ∃ F', Mem.le F F' ∧ Own w0 F' b cs e ∧ Holds w0 F' M P := by
 obtain ⟨r, ⟨r1, r2, rfl, h1, h2⟩, h3⟩ := h
 have h4 := h3.perm List.perm_append_comm
 have h5 := h4.aside.1
 have hF : ∀ x ∈ r1, F x.1 = Option.none := fun x hx => (h3.at_ x (List.mem_append_left _ hx)).2.1
 have h1' : r1 = [(b, cs, e)] := h1
 subst h1'
 refine ⟨ext F [(b, cs, e)], le_ext hF, ⟨(h3.at_ (b, cs, e) (by simp)).1, ?_⟩, ⟨r2, h2, h5⟩⟩
 unfold ext
 simp
theorem Holds.uF_ {P : Asn} {F' : Mem} (h : Holds w0 F' M P) (hl : Mem.le F F') : Holds w0 F M P := by
 obtain ⟨r, h1, h2⟩ := h
 exact ⟨r, h1, ⟨h2.nd, fun x hx => by obtain ⟨a1, a2, a3⟩ := h2.at_ x hx; exact ⟨a1, le_none hl a2, a3⟩, Mem.le_trans hl h2.fr⟩⟩
theorem appK {P : Program} {t ty e : TypeId} {z : Value} {k : Nat} (ht : P.underlying t = some (.slice e)) (he : ElemOk P e z k) {s x : SV} {l news : List Value} {Q : Asn} (h : Holds w0 F M (star (SlKA k s l) Q)) (hn : news.length = x.n * k) (hcn : Cells w0 M x.a news) (hnn : x.a = none → x.n = 0) (hone : ∀ v ∈ news, onecell v = true) (hk : 0 < k) (hb : s.n + x.n ≤ 137438953472)
  {K : VP} (hK : ∀ M' s', Holds w0 F M' (star (SlKA k s' (l ++ news)) Q) → K s'.v M') : (std P w0).app #[t, t] ty [SV.v s, SV.v x] K M := by
 obtain ⟨F', h1, h2, h3⟩ := Holds.slk h
 exact app_slk ht he h2 h1 hn hcn hnn hone hk hb fun M' s' l1 l2 _ => hK M' s' (h3 M' s' _ l2 l1)
theorem slkCells {k : Nat} {s : SV} {l : List Value} {Q : Asn} (h : Holds w0 F M (star (SlKA k s l) Q)) : Cells w0 M s.a l ∧ l.length = s.n * k ∧ (s.a = none → s.n = 0) := by
 obtain ⟨F', h1, _⟩ := Holds.slk h
 exact ⟨h1.cells, h1.len, fun hh => (h1.none hh).1⟩
end
end Go.Proofs.YtodobkbnmjgkdaaGreat.HL
namespace Go.Proofs.YtodobkbnmjgkdaaGreat.HL
open Go.RowKit (Below)
open Go.Proofs
section
variable {w0 : World} {M M0 F : Mem} {R : VP}
noncomputable def lenTab (n : Nat) : Bool := match (std PP default).idx 9 (Value.string ⟨(([0, 1, 2, 2, 3, 3, 3, 3, 4, 4, 4, 4, 4, 4, 4, 4, 5, 5, 5, 5, 5, 5, 5, 5, 5, 5, 5, 5, 5, 5, 5, 5, 6, 6, 6, 6, 6, 6, 6, 6, 6, 6, 6, 6, 6, 6, 6, 6, 6, 6, 6, 6, 6, 6, 6, 6, 6, 6, 6, 6, 6, 6, 6, 6, 7, 7, 7, 7, 7, 7, 7, 7, 7, 7, 7, 7, 7, 7, 7, 7, 7, 7, 7, 7, 7, 7, 7, 7, 7, 7, 7, 7, 7, 7, 7, 7, 7, 7, 7, 7, 7, 7, 7, 7, 7, 7, 7, 7, 7, 7, 7, 7, 7, 7, 7, 7, 7, 7, 7, 7, 7, 7, 7, 7, 7, 7, 7, 7, 8, 8, 8, 8, 8, 8, 8, 8, 8, 8, 8, 8, 8, 8, 8, 8, 8, 8, 8, 8, 8, 8, 8, 8, 8, 8, 8, 8, 8, 8, 8, 8, 8, 8, 8, 8, 8, 8, 8, 8, 8, 8, 8, 8, 8, 8, 8, 8, 8, 8, 8, 8, 8, 8, 8, 8, 8, 8, 8, 8, 8, 8, 8, 8, 8, 8, 8, 8, 8, 8, 8, 8, 8, 8, 8, 8, 8, 8, 8, 8, 8, 8, 8, 8, 8, 8, 8, 8, 8, 8, 8, 8, 8, 8, 8, 8, 8, 8, 8, 8, 8, 8, 8, 8, 8, 8, 8, 8, 8, 8, 8, 8, 8, 8, 8, 8, 8, 8, 8, 8, 8, 8, 8, 8, 8, 8, 8, 8] : List UInt8)).toArray⟩) (.int .u8 (n : Int)) with
 | some (.int .u8 v) => v == ((bl n : Nat) : Int)
 | _ => false
theorem lenTab_all : (List.range 256).all lenTab = true := by kernel_rfl
theorem Len64_ok {x : Nat} (hx : x < 2 ^ 64) (h : R (.int .i64 (bl x : Int)) M) : C PP w0 Id.bits_Len64 #[.int .u64 (x : Int)] R M := by
 apply bits_Len64.go
 intro pts H
 unfold bits_Len64.T
 have three : ∀ (y n : Nat), y < 256 → n ≤ 56 → bl x = bl y + n → bits_Len64.J3 pts (y : Int) (n : Int) M := by
  intro y n hy hn hb
  refine Eq.mpr (H.J3 ..) ?_
  unfold bits_Len64.J3.T
  have hw : IntKind.wrap .u8 (y : Int) = (y : Int) := by unfold IntKind.wrap; simp [IntKind.bits, IntKind.signed]; omega
  rw [hw]
  have ht := List.all_eq_true.1 lenTab_all y (List.mem_range.2 hy)
  unfold lenTab at ht
  split at ht
  ·rename_i v hv
   have hv' : (std PP w0).idx 9 (Value.string ⟨(([0, 1, 2, 2, 3, 3, 3, 3, 4, 4, 4, 4, 4, 4, 4, 4, 5, 5, 5, 5, 5, 5, 5, 5, 5, 5, 5, 5, 5, 5, 5, 5, 6, 6, 6, 6, 6, 6, 6, 6, 6, 6, 6, 6, 6, 6, 6, 6, 6, 6, 6, 6, 6, 6, 6, 6, 6, 6, 6, 6, 6, 6, 6, 6, 7, 7, 7, 7, 7, 7, 7, 7, 7, 7, 7, 7, 7, 7, 7, 7, 7, 7, 7, 7, 7, 7, 7, 7, 7, 7, 7, 7, 7, 7, 7, 7, 7, 7, 7, 7, 7, 7, 7, 7, 7, 7, 7, 7, 7, 7, 7, 7, 7, 7, 7, 7, 7, 7, 7, 7, 7, 7, 7, 7, 7, 7, 7, 7, 8, 8, 8, 8, 8, 8, 8, 8, 8, 8, 8, 8, 8, 8, 8, 8, 8, 8, 8, 8, 8, 8, 8, 8, 8, 8, 8, 8, 8, 8, 8, 8, 8, 8, 8, 8, 8, 8, 8, 8, 8, 8, 8, 8, 8, 8, 8, 8, 8, 8, 8, 8, 8, 8, 8, 8, 8, 8, 8, 8, 8, 8, 8, 8, 8, 8, 8, 8, 8, 8, 8, 8, 8, 8, 8, 8, 8, 8, 8, 8, 8, 8, 8, 8, 8, 8, 8, 8, 8, 8, 8, 8, 8, 8, 8, 8, 8, 8, 8, 8, 8, 8, 8, 8, 8, 8, 8, 8, 8, 8, 8, 8, 8, 8, 8, 8, 8, 8, 8, 8, 8, 8, 8, 8, 8, 8, 8, 8] : List UInt8)).toArray⟩) (.int .u8 (y : Int)) = some (.int .u8 v) := hv
   rw [hv', ob_v]
   have hv2 : v = ((bl y : Nat) : Int) := by simpa using ht
   have hbl : bl y ≤ 8 := bl_le (k := 8) (by omega)
   rw [zI_, hv2, w64_in (n := ((bl y : Nat) : Int)) (by omega), w64_in (by omega), show (n : Int) + (bl y : Int) = (bl x : Int) from by omega]
   exact h
  ·cases ht
 have two : ∀ (y n : Nat), y < 65536 → n ≤ 48 → bl x = bl y + n → bits_Len64.J2 pts (y : Int) (n : Int) M := by
  intro y n hy hn hb
  refine Eq.mpr (H.J2 ..) ?_
  unfold bits_Len64.J2.T
  rw [bD_]
  split
  ·rename_i hge
   refine ⟨by omega, ?_⟩
   have e : Int.fdiv (y : Int) (2 ^ (min (8 : Int).toNat (IntKind.bits .u64))) = ((y / 2 ^ 8 : Nat) : Int) := by
    rw [Int.fdiv_eq_ediv_of_nonneg _ (by decide)]; rfl
   rw [e, w64_in (by omega)]
   exact three (y / 2 ^ 8) (n + 8) (by omega) (by omega) (by rw [hb, bl_div (x := y) (k := 8) (by omega)]; omega)
  ·exact three y n (by omega) (by omega) hb
 have one : ∀ (y n : Nat), y < 4294967296 → n ≤ 32 → bl x = bl y + n → bits_Len64.J1 pts (y : Int) (n : Int) M := by
  intro y n hy hn hb
  refine Eq.mpr (H.J1 ..) ?_
  unfold bits_Len64.J1.T
  rw [bD_]
  split
  ·rename_i hge
   refine ⟨by omega, ?_⟩
   have e : Int.fdiv (y : Int) (2 ^ (min (16 : Int).toNat (IntKind.bits .u64))) = ((y / 2 ^ 16 : Nat) : Int) := by
    rw [Int.fdiv_eq_ediv_of_nonneg _ (by decide)]; rfl
   rw [e, w64_in (by omega)]
   exact two (y / 2 ^ 16) (n + 16) (by omega) (by omega) (by rw [hb, bl_div (x := y) (k := 16) (by omega)]; omega)
  ·exact two y n (by omega) (by omega) hb
 rw [bD_]
 split
 ·rename_i hge
  refine ⟨by omega, ?_⟩
  have e : Int.fdiv (x : Int) (2 ^ (min (32 : Int).toNat (IntKind.bits .u64))) = ((x / 2 ^ 32 : Nat) : Int) := by
   rw [Int.fdiv_eq_ediv_of_nonneg _ (by decide)]; rfl
  rw [e]
  exact one (x / 2 ^ 32) 32 (by omega) (by omega) (bl_div (x := x) (k := 32) (by omega))
 ·exact one x 0 (by omega) (by omega) rfl
theorem Bits_ok {n : Int} (hn : In64 n) (h : R (.int .i64 (bl n.toNat : Int)) M) : C PP w0 Id.order_Bits #[.int .i64 n] R M := by
 apply order_Bits.go
 unfold order_Bits.T nfz
 have e1 : (if n > 0 then n else 0) = ((n.toNat : Nat) : Int) := by split <;> omega
 unfold In64 at hn
 have e2 : u64 ((n.toNat : Nat) : Int) = ((n.toNat : Nat) : Int) := by unfold u64 IntKind.wrap; simp [IntKind.bits, IntKind.signed]; omega
 rw [e1, e2]
 show C PP w0 Id.bits_Len _ _ M
 apply bits_Len.go
 unfold bits_Len.T nfz
 refine Len64_ok (by omega) ?_
 simp only [go_sem]
 exact h
theorem Limit_ok {a b n : Int} (ha : In64 a) (hb : In64 b) (hn : In64 n) (h : R (.int .i64 (limI a b (bl n.toNat))) M) : C PP w0 Id.order_Limit #[.int .i64 a, .int .i64 b, .int .i64 n] R M := by
 apply order_Limit.go
 intro pts H
 unfold order_Limit.T nfz
 refine Bits_ok hn ?_
 have hbl : bl n.toNat ≤ 64 := bl_le (by unfold In64 at hn; omega)
 simp only [go_sem]
 have key : ∀ (k i : Nat) (a : Int), bl n.toNat < i + k → i ≤ bl n.toNat → In64 a → R (.int .i64 (limI a b (bl n.toNat - i))) M → order_Limit.L1 pts k a b ((bl n.toNat : Nat) : Int) (i : Int) M := by
  intro k
  induction k with
  | zero => intro i a h1 h2; omega
  | succ k ih =>
   intro i a h1 h2 ha hR
   refine Eq.mpr (H.L1 ..) ?_
   unfold order_Limit.L1.T nfz
   rw [bD_]
   split
   ·refine order_Add_ok ha hb ?_
    rw [zI_, w64_in (by omega)]
    refine ih (i + 1) (addc a b) (by omega) (by omega) addc_in ?_
    rw [show bl n.toNat - i = (bl n.toNat - (i + 1)) + 1 from by omega] at hR
    exact hR
   ·rw [show bl n.toNat - i = 0 from by omega] at hR
    exact hR
 exact ⟨bl n.toNat + 1, key _ 0 a (by omega) (by omega) ha h⟩
end
end Go.Proofs.YtodobkbnmjgkdaaGreat.HL
namespace Go.Proofs.YtodobkbnmjgkdaaGreat.HL
open Go.RowKit (Below)
open Go.Proofs
def worstK (k : Int) : Prop := 1 ≤ k ∧ k ≤ 3
instance (k : Int) : Decidable (worstK k) := by unfold worstK; infer_instance
section
variable {w0 : World} {M M0 F : Mem} {R : VP}
theorem Worst_ok {k : Int} (h : R (.bool (decide (worstK k))) M) : C PP w0 Id.kind_Worst #[.int .i64 k] R M := by
 apply kind_Worst.go
 unfold kind_Worst.T nfz
 rw [bD_]
 split
 ·rw [show decide (worstK k) = decide (k ≤ 3) from by rw [decide_eq_decide]; unfold worstK; omega] at h; exact h
 ·rw [decide_eq_false (by unfold worstK; omega)] at h; exact h
theorem lim_small {a b : Int} {n : Nat} (ha : 0 ≤ a) (hb : 0 ≤ b) (ha1 : a ≤ 1000000) (hb1 : b ≤ 1000000) (hn : n ≤ 100) : limI a b n = a + b * n := by
 refine limI_small hb n a ha ?_
 have : b * (n : Int) ≤ 1000000 * 100 := Int.mul_le_mul hb1 (by omega) (by omega) (by omega)
 omega
theorem Budget_ok {k n : Int} (hk : worstK k) (h1 : 1 ≤ n) (h2 : n ≤ 4096) (h : R (.tuple #[.int .i64 (2000 + 1600 * (bl (n.toNat + 1) : Int)), .bool true]) M) : C PP w0 Id.bound_Budget #[.int .i64 k, .int .i64 n] R M := by
 apply bound_Budget.go
 unfold bound_Budget.T nfz
 refine Worst_ok ?_
 rw [shB_v, bs_not, bD_, if_pos hk, bD_, if_neg (by omega), bD_, if_neg (by omega), w64_in (by omega)]
 refine Limit_ok (by unfold In64; omega) (by unfold In64; omega) (by unfold In64; omega) ?_
 rw [zI_, lim_small (by omega) (by omega) (by omega) (by omega) (bl_le (Nat.lt_of_lt_of_le (show (n + 1).toNat < 2 ^ 31 by omega) (Nat.pow_le_pow_right (by decide) (by decide)))), show (n + 1).toNat = n.toNat + 1 from by omega]
 exact h
end
end Go.Proofs.YtodobkbnmjgkdaaGreat.HL
namespace Go.Proofs.YtodobkbnmjgkdaaGreat.HL
open Go.RowKit (Below)
open Go.Proofs
abbrev tPl : TypeId := 159
def vI (l : List Int) : List Value := l.map (Value.int .i64)
def vB (l : List Bool) : List Value := l.map Value.bool
def vN (l : List Nat) : List Value := l.map fun (n : Nat) => Value.int .i64 (n : Int)
section
variable {w0 : World} {F0 F M : Mem} {R : VP}
structure Fz (w0 : World) (F : Mem) (x : SV) (v : Value) : Prop where
 n : x.n = 1
 a : x.a ≠ none
 c : ∀ M2, Mem.le F M2 → Cells w0 M2 x.a [v]
theorem Fz.le {F' : Mem} {x : SV} {v : Value} (h : Fz w0 F x v) (hl : Mem.le F F') : Fz w0 F' x v := ⟨h.n, h.a, fun M2 h2 => h.c M2 (Mem.le_trans hl h2)⟩
def PX (w0 : World) (F0 F M : Mem) (p : Nat) (mo : Int) (hG hI hV hB sG sI sV sB : SV) (g : List Int) (i : List Bool) (v : List Int) (b : List Nat) (Q : Asn) : Prop :=
 Mem.le F0 F ∧ Holds w0 F M (star (row1 p [.int .i64 mo, SV.v hG, SV.v hI, SV.v hV, SV.v hB] tPl) (star (SlKA 1 sG (vI g)) (star (SlKA 1 sI (vB i)) (star (SlKA 1 sV (vI v)) (star (SlKA 1 sB (vN b)) Q)))))
section
variable {p : Nat} {mo : Int} {hG hI hV hB sG sI sV sB : SV} {g : List Int} {i : List Bool} {v : List Int} {b : List Nat} {Q : Asn}
theorem vlen {k : Nat} {s : SV} {l : List Value} {Q : Asn} (h : Holds w0 F M (star (SlKA 1 s l) Q)) : s.n = l.length := by
 have := (slkCells h).2.1
 omega
end
def PoolA (p : Nat) (l : Pl) : Asn := fun r => ∃ sG sI sV sB : SV, star (row1 p [.int .i64 l.most, SV.v sG, SV.v sI, SV.v sV, SV.v sB] tPl) (star (SlKA 1 sG (vI l.gens)) (star (SlKA 1 sI (vB l.ins)) (star (SlKA 1 sV (vI l.vs)) (SlKA 1 sB (vN l.back))))) r
section
variable {p : Nat} {l : Pl} {Q : Asn}
theorem PX.close {mo : Int} {sG sI sV sB : SV} {g : List Int} {i : List Bool} {v : List Int} {b : List Nat} (h : PX w0 F0 F M p mo sG sI sV sB sG sI sV sB g i v b Q) : Holds w0 F0 M (star (PoolA p ⟨mo, g, i, v, b⟩) Q) := by
 refine Holds.uF_ ?_ h.1
 obtain ⟨r, ⟨r3, r4, rfl, a1, r5, r6, rfl, a2, r7, r8, rfl, a3, r9, r10, rfl, a4, r11, r12, rfl, a5, a6⟩, a7⟩ := h.2
 exact ⟨_, ⟨r3 ++ (r5 ++ (r7 ++ (r9 ++ r11))), r12, by simp, ⟨sG, sI, sV, sB, r3, _, rfl, a1, r5, _, rfl, a2, r7, _, rfl, a3, r9, _, rfl, a4, a5⟩, a6⟩, a7⟩
theorem rPNew_ok {n : Int} (h : Holds w0 F M Q) (h0 : 0 ≤ n) (h1 : n ≤ 65536) (hR : ∀ M' p, Holds w0 F M' (star (PoolA p ⟨n, [], [], [], []⟩) Q) → R (.pointer (some ⟨p, 0, none⟩)) M') : C PP w0 Id.p2_New #[.int .i64 n] R M := by
 apply p2_New.go
 unfold p2_New.T nfz
 have hx : (if 0 > (if 65536 < n then 65536 else n) then 0 else (if 65536 < n then 65536 else n)) = n := by
  rw [if_neg (show ¬ 65536 < n by omega), if_neg (by omega)]
 rw [hx]
 have hb : (std PP w0).bld tPl [(0, .int .i64 n)] = some (.agg #[.int .i64 n, .slice none 0 0, .slice none 0 0, .slice none 0 0, .slice none 0 0]) := by kernel_rfl
 rw [hb]
 simp only [ob_v, sA_, sC_, zI_, shS_v, zN_]
 intro p hp0 hpw
 have g := Holds.new h hp0 hpw [.int .i64 n, SV.v ⟨none, 0, 0⟩, SV.v ⟨none, 0, 0⟩, SV.v ⟨none, 0, 0⟩, SV.v ⟨none, 0, 0⟩] tPl
 refine hR _ p ?_
 obtain ⟨F1, k1, _, k2⟩ := g.last
 have k3 := k2 _ _ (Holds.nilSlk (k := 1) (Holds.nilSlk (k := 1) (Holds.nilSlk (k := 1) (Holds.nilSlk (k := 1) k1))))
 have : PX w0 F F _ p n ⟨none, 0, 0⟩ ⟨none, 0, 0⟩ ⟨none, 0, 0⟩ ⟨none, 0, 0⟩ ⟨none, 0, 0⟩ ⟨none, 0, 0⟩ ⟨none, 0, 0⟩ ⟨none, 0, 0⟩ [] [] [] [] Q := ⟨Mem.le_refl _, k3⟩
 exact this.close
end
end
end Go.Proofs.YtodobkbnmjgkdaaGreat.HL
namespace Go.Proofs.YtodobkbnmjgkdaaGreat.HL
open Go.RowKit (Below)
open Go.Proofs
section
variable {w0 : World} {F0 F M : Mem} {R : VP}
section
variable {p : Nat} {mo : Int} {hG hI hV hB sG sI sV sB : SV} {g : List Int} {i : List Bool} {v : List Int} {b : List Nat} {Q : Asn}
end
section
variable {p : Nat} {l : Pl} {Q : Asn}
theorem resRef {b1 : Nat} {c0 c1 : Value} {x y : Int} {P : Asn} (hN : Holds w0 F M (star (row1 b1 [c0, c1] 33) P)) {K : VP} (hK : ∀ M', (∀ F' P', Holds w0 F' M (star (row1 b1 [c0, c1] 33) P') → Holds w0 F' M' P') → K (.agg #[.int .i64 x, .int .i64 y]) M') :
  (std PP w0).st 33 ⟨b1, 0, none⟩ (.agg #[.int .i64 x, .int .i64 y]) (fun M14 => ob ((std PP w0).rdv 33 (.pointer (some ⟨b1, 0, none⟩)) M14) fun v15 => K v15 M14) M := by
 refine st_agg (vs := [.int .i64 x, .int .i64 y]) W.g33 hN.own1 (by simp) (by intro v hv; simp only [List.mem_cons, List.not_mem_nil, or_false] at hv; rcases hv with rfl | rfl <;> rfl) ?_
 have hP2 := hN.upd1 (cs' := over [c0, c1] 0 [.int .i64 x, .int .i64 y]) (e' := 33)
 have o2 : Own w0 _ b1 [.int .i64 x, .int .i64 y] 33 := hP2.own1
 rw [rdv_ptr, ld_agg (cs := [.int .i64 x, .int .i64 y]) W.g33 (fun j v hj => by rw [add_eq, rd_own o2, Nat.zero_add]; exact hj), ob_v]
 exact hK _ fun F' P' h' => (h'.upd1 (cs' := over [c0, c1] 0 [.int .i64 x, .int .i64 y]) (e' := 33)).right
end
end
end Go.Proofs.YtodobkbnmjgkdaaGreat.HL
