/-
  Put together of many texts: HlA HlB HlC HlD HlE HlF HlH HlI HlS HlK HlX PoM OrM EnM HlL HlG GenId GenW Gen0 Gen1 Gen2 Gen3 Gen4 Gen5 Gen6 Gen7 Gen8 Gen9 Gen10 Gen11 Gen12 BkA OrA HlQ CmA EnA EnB MdA MdB EnC JuM MdS MpA JuA JuB JuC JuD JuE JuF JuG JuH DrM JuI BlM BiA BuA OrD OrE OrF JuJ FlA LmB JuK JuL JuN PoA PoB PoC DrA DrB DrC DrD DrL JuP JuQ JuR JuS JuT JuU HlR.
-/
import Derived.Test.YtedofpnjmnkedaaP10
set_option linter.unusedVariables false
set_option linter.unusedSimpArgs false
namespace Go.Proofs.Ytedofpnjmnkedaa.HL
structure Pl where
  most : Int
  gens : List Int
  ins : List Bool
  vs : List Int
  back : List Nat
def Pl.at_ (p : Pl) : Option Nat := match p.back.getLast? with
  | some a => some a
  | none => if p.most ≤ (p.gens.length : Int) then none else some p.gens.length
def Pl.grow (p : Pl) : Pl := match p.back.getLast? with
  | some _ => { p with back := p.back.dropLast }
  | none => { p with gens := p.gens ++ [0], ins := p.ins ++ [false], vs := p.vs ++ [0] }
def Pl.put (p : Pl) (a : Nat) (v : Int) : Pl := { p with gens := p.gens.set a (p.gens.getD a 0 + 1), ins := p.ins.set a true, vs := p.vs.set a v }
def Pl.take (p : Pl) (a : Nat) (v : Int) : Pl := p.grow.put a v
def Pl.gen (p : Pl) (a : Nat) : Int := p.grow.gens.getD a 0 + 1
def Pl.look (p : Pl) (a g : Int) : Int :=
  if a < 0 ∨ (p.gens.length : Int) ≤ a ∨ g < 1 ∨ p.gens.getD a.toNat 0 < g then 22
  else if g < p.gens.getD a.toNat 0 ∨ p.ins.getD a.toNat false = false then 23 else 0
def Pl.give (p : Pl) (a : Nat) : Pl := { p with ins := p.ins.set a false, back := p.back ++ [a] }
structure PlOk (p : Pl) : Prop where
  li : p.ins.length = p.gens.length
  lv : p.vs.length = p.gens.length
  bk : ∀ a ∈ p.back, a < p.gens.length ∧ p.ins[a]? = some false
  nd : p.back.Nodup
theorem PlOk.nil (m : Int) : PlOk ⟨m, [], [], [], []⟩ := ⟨rfl, rfl, fun a h => (by cases h), List.nodup_nil⟩
theorem last_mem {l : List Nat} {a : Nat} (h : l.getLast? = some a) : a ∈ l := List.mem_of_getLast? h
theorem last_split {l : List Nat} {a : Nat} (h : l.getLast? = some a) : l = l.dropLast ++ [a] := by
  obtain ⟨ys, rfl⟩ := List.getLast?_eq_some_iff.1 h
  simp
theorem PlOk.take_lt {p : Pl} (h : PlOk p) {a : Nat} (ha : p.at_ = some a) : a < p.grow.gens.length ∧ p.grow.ins.length = p.grow.gens.length ∧ p.grow.vs.length = p.grow.gens.length ∧ p.grow.ins[a]? = some false := by
  unfold Pl.at_ at ha
  unfold Pl.grow
  cases hb : p.back.getLast? with
  | some x =>
    rw [hb] at ha
    simp only [Option.some.injEq] at ha
    subst ha
    exact ⟨(h.bk x (last_mem hb)).1, h.li, h.lv, (h.bk x (last_mem hb)).2⟩
  | none =>
    rw [hb] at ha
    simp only at ha
    split at ha
    · cases ha
    · simp only [Option.some.injEq] at ha
      subst ha
      refine ⟨by simp, by simp [h.li], by simp [h.lv], ?_⟩
      simp only
      rw [← h.li, List.getElem?_append_right (Nat.le_refl _)]; simp
theorem PlOk.take {p : Pl} (h : PlOk p) {a : Nat} {v : Int} (ha : p.at_ = some a) : PlOk (p.take a v) := by
  obtain ⟨h1, h2, h3, h4⟩ := h.take_lt ha
  unfold Pl.take Pl.put
  unfold Pl.at_ at ha
  unfold Pl.grow at h1 h2 h3 h4 ⊢
  cases hb : p.back.getLast? with
  | some x =>
    rw [hb] at ha h1 h2 h3 h4
    simp only [Option.some.injEq] at ha h1 h2 h3 h4
    subst ha
    have hs := last_split hb
    have hn := h.nd
    rw [hs] at hn
    have hnd := List.nodup_append.1 hn
    refine ⟨by simp [h.li], by simp [h.lv], fun y hy => ?_, hnd.1⟩
    have hyb : y ∈ p.back := (List.dropLast_sublist _).subset hy
    have hne : y ≠ x := hnd.2.2 y hy x (by simp)
    refine ⟨by simp only [List.length_set]; exact (h.bk y hyb).1, ?_⟩
    rw [List.getElem?_set_ne (Ne.symm hne)]; exact (h.bk y hyb).2
  | none =>
    rw [hb] at ha h1 h2 h3 h4
    have hbn : p.back = [] := List.getLast?_eq_none_iff.1 hb
    exact ⟨by simp [h.li], by simp [h.lv], fun y hy => (by rw [hbn] at hy; cases hy), h.nd⟩
theorem PlOk.give {p : Pl} (h : PlOk p) {a : Nat} (ha : p.ins[a]? = some true) : PlOk (p.give a) := by
  have hlt := (List.getElem?_eq_some_iff.1 ha).1
  unfold Pl.give
  refine ⟨by simp [h.li], h.lv, fun y hy => ?_, ?_⟩
  · rcases List.mem_append.1 hy with hy | hy
    · obtain ⟨h1, h2⟩ := h.bk y hy
      refine ⟨h1, ?_⟩
      have hne : a ≠ y := fun e => by rw [e, h2] at ha; cases ha
      rw [List.getElem?_set_ne hne]; exact h2
    · simp at hy; subst hy
      refine ⟨by rw [← h.li]; exact hlt, ?_⟩
      rw [List.getElem?_set_self hlt]
  · refine List.nodup_append.2 ⟨h.nd, by simp, fun y hy z hz hyz => ?_⟩
    simp at hz; subst hz; subst hyz
    rw [(h.bk y hy).2] at ha; cases ha
end Go.Proofs.Ytedofpnjmnkedaa.HL
namespace Go.Proofs.Ytedofpnjmnkedaa.HL
def addc (a b : Int) : Int := if 9223372036854775807 < a + b then 9223372036854775807 else if a + b < -9223372036854775808 then -9223372036854775808 else a + b
theorem addc_in {a b : Int} : In64 (addc a b) := by
  unfold In64 addc; split
  · omega
  · split <;> omega
def cmpI (a0 a1 b0 b1 : Int) : Int := if a0 < b0 then -1 else if b0 < a0 then 1 else if a1 < b1 then -1 else if b1 < a1 then 1 else 0
end Go.Proofs.Ytedofpnjmnkedaa.HL
namespace Go.Proofs.Ytedofpnjmnkedaa.HL
abbrev Ent := Int × Int
def Lt (a b : Ent) : Prop := a.1 < b.1 ∨ a.1 = b.1 ∧ a.2 < b.2
instance (a b : Ent) : Decidable (Lt a b) := by unfold Lt; infer_instance
theorem Lt.irr {a : Ent} : ¬ Lt a a := by unfold Lt; omega
theorem Lt.tr {a b c : Ent} (h : Lt a b) (h2 : Lt b c) : Lt a c := by unfold Lt at *; omega
theorem Lt.asym {a b : Ent} (h : Lt a b) : ¬ Lt b a := by unfold Lt at *; omega
theorem Lt.tot {a b : Ent} (h : ¬ Lt a b) (h2 : ¬ Lt b a) : a = b := by
  unfold Lt at *
  exact Prod.ext (by omega) (by omega)
theorem nLt.tr {a b c : Ent} (h : ¬ Lt b a) (h2 : ¬ Lt c b) : ¬ Lt c a := by unfold Lt at *; omega
theorem nLt.lt {a b c : Ent} (h : ¬ Lt b a) (h2 : Lt b c) : Lt a c := by unfold Lt at *; omega
theorem cmpI_lt (a b : Ent) : (cmpI a.1 a.2 b.1 b.2 < 0) = Lt a b := by
  unfold cmpI Lt
  apply propext
  split
  · omega
  · split
    · omega
    · split
      · omega
      · split <;> omega
def Srt (l : List Ent) : Prop := l.Pairwise fun a b => ¬ Lt b a
theorem Srt.eq : ∀ {l m : List Ent}, Srt l → Srt m → l.Perm m → l = m := by
  intro l
  induction l with
  | nil => intro m _ _ h; exact (List.Perm.nil_eq h)
  | cons a l ih =>
    intro m hl hm hp
    cases m with
    | nil => exact absurd hp.length_eq (by simp)
    | cons b m =>
      have hab : a = b := by
        rcases List.mem_cons.1 (hp.mem_iff.1 List.mem_cons_self) with h | h
        · exact h
        · rcases List.mem_cons.1 (hp.mem_iff.2 List.mem_cons_self) with h2 | h2
          · exact h2.symm
          · exact Lt.tot ((List.pairwise_cons.1 hm).1 _ h) ((List.pairwise_cons.1 hl).1 _ h2)
      subst hab
      rw [ih (List.pairwise_cons.1 hl).2 (List.pairwise_cons.1 hm).2 (List.Perm.cons_inv hp)]
def ins (l : List Ent) (e : Ent) : List Ent := l.takeWhile (fun x => decide (Lt x e)) ++ e :: l.dropWhile (fun x => decide (Lt x e))
theorem ins_perm (l : List Ent) (e : Ent) : (ins l e).Perm (e :: l) := by
  unfold ins
  refine List.perm_middle.trans ?_
  rw [List.takeWhile_append_dropWhile]
theorem ins_mem {l : List Ent} {e x : Ent} : x ∈ ins l e ↔ x = e ∨ x ∈ l := by
  rw [(ins_perm l e).mem_iff, List.mem_cons]
theorem ins_len (l : List Ent) (e : Ent) : (ins l e).length = l.length + 1 := by rw [(ins_perm l e).length_eq, List.length_cons]
theorem ins_cons (x : Ent) (l : List Ent) (e : Ent) : ins (x :: l) e = if Lt x e then x :: ins l e else e :: x :: l := by
  unfold ins
  by_cases h : Lt x e
  · simp [h]
  · simp [h]
theorem ins_srt {l : List Ent} {e : Ent} (h : Srt l) : Srt (ins l e) := by
  induction l with
  | nil => unfold ins Srt; simp
  | cons x l ih =>
    obtain ⟨h1, h2⟩ := List.pairwise_cons.1 h
    rw [ins_cons]
    split
    · rename_i hx
      refine List.pairwise_cons.2 ⟨fun y hy => ?_, ih h2⟩
      rcases ins_mem.1 hy with rfl | hy
      · exact hx.asym
      · exact h1 y hy
    · rename_i hx
      refine List.pairwise_cons.2 ⟨fun y hy => ?_, h⟩
      rcases List.mem_cons.1 hy with rfl | hy
      · exact hx
      · exact nLt.tr hx (h1 y hy)
def insAll (l m : List Ent) : List Ent := m.foldl ins l
theorem insAll_perm (m : List Ent) : ∀ l, (insAll l m).Perm (l ++ m) := by
  induction m with
  | nil => intro l; unfold insAll; simp
  | cons e m ih =>
    intro l
    show (insAll (ins l e) m).Perm _
    refine (ih _).trans ?_
    refine ((ins_perm l e).append_right m).trans ?_
    exact List.perm_middle.symm
theorem insAll_srt (m : List Ent) : ∀ {l}, Srt l → Srt (insAll l m) := by
  induction m with
  | nil => intro l h; exact h
  | cons e m ih => intro l h; exact ih (ins_srt h)
theorem Srt.sub {l m : List Ent} (h : Srt l) (hs : m.Sublist l) : Srt m := List.Pairwise.sublist hs h
theorem Srt.nil : Srt [] := List.Pairwise.nil
def fnd (l : List Ent) (s : Int) : Option Nat := l.findIdx? fun e => decide (e.2 = s)
def fndI (l : List Ent) (s : Int) : Int := match fnd l s with
  | some i => (i : Int)
  | none => -1
theorem fnd_some {l : List Ent} {s : Int} {i : Nat} (h : fnd l s = some i) : ∃ e, l[i]? = some e ∧ e.2 = s ∧ ∀ j, j < i → ∀ x, l[j]? = some x → x.2 ≠ s := by
  unfold fnd at h
  obtain ⟨hi, h1, h2⟩ := List.findIdx?_eq_some_iff_getElem.1 h
  refine ⟨l[i], List.getElem?_eq_getElem hi, by simpa using h1, fun j hj x hx => ?_⟩
  obtain ⟨hj2, rfl⟩ := List.getElem?_eq_some_iff.1 hx
  simpa using h2 j hj
theorem fnd_none {l : List Ent} {s : Int} (h : fnd l s = none) : ∀ x ∈ l, x.2 ≠ s := by
  unfold fnd at h
  intro x hx
  simpa using List.findIdx?_eq_none_iff.1 h x hx
theorem fnd_of {l : List Ent} {s : Int} {i : Nat} {e : Ent} (h : l[i]? = some e) (hs : e.2 = s) (hb : ∀ j, j < i → ∀ x, l[j]? = some x → x.2 ≠ s) : fnd l s = some i := by
  unfold fnd
  refine List.findIdx?_eq_some_iff_getElem.2 ?_
  obtain ⟨hi, rfl⟩ := List.getElem?_eq_some_iff.1 h
  exact ⟨hi, by simpa using hs, fun j hj => by simpa using hb j hj _ (List.getElem?_eq_getElem (by omega))⟩
theorem fnd_no {l : List Ent} {s : Int} (h : ∀ x ∈ l, x.2 ≠ s) : fnd l s = none := by
  unfold fnd
  exact List.findIdx?_eq_none_iff.2 fun x hx => by simpa using h x hx
end Go.Proofs.Ytedofpnjmnkedaa.HL
